import Derived.Test.YtbcdmljanolkeaaGreatDoorMe
set_option linter.unusedVariables false
set_option linter.unusedSimpArgs false
set_option linter.unusedSectionVars false
set_option linter.constructorNameAsVariable false
set_option linter.defProp false
set_option maxRecDepth 20000
namespace Go.Proofs.Ybk.K
open Go Go.Am
open V (aq aU aj aN aB)
theorem wI {steps:Nat} {v:aj} {l:List aV} {pins:List (Int×Int)} {old:List Int} {fuel:Int} (h:(gj steps v l pins old fuel).2=0):iR v l (gj steps v l pins old fuel).1.aY pins=true:=by
 unfold gj at h ⊢;by_cases q:iR v l old pins=true
 ·rw[q]at h ⊢;simp only[Bool.not_true,ff,if_false]at h ⊢;cases hb:mB steps v l pins fuel with
  |none=>rw[hb]at h;simp at h
  |some r=>
   simp only;split
   ·exact q
   ·exact UE hb
 ·rw[if_pos (by simpa using q)]at h;simp at h
def kA (o:aH) (f:Int):aH:={o with first:=f}
theorem Nt:∀(l:List aH) (p:List Int),p.length=(l.filter bS).length→(eC l p).filter bS=List.zipWith kA (l.filter bS) p:=by
 intro l;induction l with
 |nil=>intro p _;rfl
 |cons o r ih=>
  intro p h;rw[eC];by_cases q:bS o=true
  ·have e0:(o::r).filter bS=o::r.filter bS:=(by rw[gP,if_pos q]);rw[if_pos q];rw[e0]at h ⊢;cases p with
   |nil=>simp at h
   |cons f t=>
    have e:bS {o with first:=(f::t).headD 0}=true:=q;rw[gP,if_pos e,List.tail_cons,ih t (by simpa using h),List.zipWith_cons_cons];rfl
  ·have e0:(o::r).filter bS=r.filter bS:=(by rw[gP,if_neg q]);rw[e0]at h ⊢;rw[if_neg q,gP,if_neg q];exact ih p h
theorem ahe:∀(l:List aH) (k:Nat),(∀q∈fr k l,(k:Int)≤q.1)∧(fr k l).Pairwise (fun x y=>x.1<y.1):=by
 intro l;induction l with
 |nil=>intro k;exact⟨fun q hq=>(by cases hq),List.Pairwise.nil⟩
 |cons o r ih=>
  intro k;obtain⟨i1,i2⟩:=ih (k+1);rw[fr];split
  ·refine⟨fun q hq=>?_,?_⟩
   ·rcases cE.1 hq with rfl|hq
    ·exact kj _
    ·have:=i1 q hq;omega
   ·rw[jg];refine⟨fun q hq=>?_,i2⟩;have:=i1 q hq;simp only;omega
  ·exact⟨fun q hq=>(by have:=i1 q hq;omega),i2⟩
end Go.Proofs.Ybk.K
namespace Go.Proofs.Ybk.K
open Go Go.Am
set_option maxHeartbeats 4000000
open V (aq aU aj au bg ab bD aN aB cF cJ bq bR)
def nE (m:Nat) (pins:List (Int×Int)) (i:Nat):List Int:=(pins.take i).foldl (fun p q=>p.set q.1.toNat q.2) (List.replicate m (-1))
theorem Nj (m:Nat) (pins:List (Int×Int)) (i:Nat) {t:Int×Int} (ht:pins[i]? =some t):nE m pins (i+1)=(nE m pins i).set t.1.toNat t.2:=by
 unfold nE;rw[fI,ht,Option.toList_some,List.foldl_append];rfl
theorem Ni (m:Nat) (pins:List (Int×Int)) (i:Nat):(nE m pins i).length=m:=by
 induction i with
 |zero=>simp[nE]
 |succ i ih=>
  cases q:pins[i]? with
  |none=>
   unfold nE at ih ⊢;rw[fI,q];simpa using ih
  |some t=>rw[Nj m pins i q,lj,ih]
def mG (m i:Nat):List Int:=List.replicate i (-1)++List.replicate (m-i) 0
theorem Jf (m i:Nat) (h:i≤m):(mG m i).length=m:=by simp[mG];omega
theorem XY (m i:Nat) (h:i<m):(mG m i).set i (-1)=mG m (i+1):=by
 unfold mG;rw[List.set_append_right _ _ (by simp),List.length_replicate,n9,show m-i=(m-(i+1))+1 by omega,List.replicate_succ,List.set_cons_zero,List.replicate_succ' (n:=i),eD];rfl
theorem XX (m:Nat):mG m m=List.replicate m (-1):=by simp[mG]
def RN (h:aa) (b:Nat) (pv:Value) (m n:Nat) (σ:St):Prop:=∃i:Nat,n=m-i∧i≤m∧Ext h σ.m.h∧σ.m.h.f b= .row true 3 ((mG m i).map (Value.int .i64))∧b<σ.m.h.n∧
 σ.t.get 2=some pv∧σ.t.get 7=some (.slice (some ⟨b,0,none⟩) m m)∧σ.t.get 20=some (.int .i64 (m:Nat))∧σ.t.get 21=some (.int .i64 (i:Nat))
def RO (h:aa) (b:Nat) (pv:Value) (pins:List (Int×Int)) (m k n:Nat) (σ:St):Prop:=∃i:Nat,n=k-i∧i≤k∧Ext h σ.m.h∧σ.m.h.f b= .row true 3 ((nE m pins i).map (Value.int .i64))∧b<σ.m.h.n∧
 σ.t.get 7=some (.slice (some ⟨b,0,none⟩) m m)∧σ.t.get 28=some pv∧σ.t.get 29=some (.int .i64 (k:Nat))∧σ.t.get 30=some (.int .i64 (i:Nat))
theorem ZC (v:aj) (l:List aV) (pins:List (Int×Int)) (cs:List Value) (lv pv:Value) (h:aa) (H:kU h v l pins cs lv pv):
  ao PP 207 [.agg ⟨cs⟩,lv,pv] h (fun r h'=>Ext h h'∧aK 3 ab h' r (if(fL v l pins).isSome then dK l pins else[])):=by
 refine ao.jT (post:=fun v' h'=>Ext h h'∧cL 3 ab h h' v' (if(fL v l pins).isSome then dK l pins else[])) ?_ (fun v h' ⟨E,W⟩=>by
  obtain⟨h'',w,E',S⟩:=W.dB E;exact⟨h'',w,E',S⟩)
 refine aC mix (aD Tryz.func207) rfl rfl rfl aej ?_;simp only[ai,Tryz.f207];have hin:=ahJ v l pins cs lv pv h H;have hcl:=H.dF.len;have hct:cs.take 5=cs:=bZ (by omega);have hll:=H.ll;have hpl:=H.pl;have hps:=H.ps;obtain⟨ad2,c2,rfl⟩:=H.ls.shape;obtain⟨ad3,c3,rfl⟩:=H.ps.shape;simp -implicitDefEqProofs[hcl,hct];refine hin.mono ?_;rintro r G ⟨E,rfl⟩;cases q:fL v l pins with
 |none=>
  simp -implicitDefEqProofs[af];intro _;exact⟨E,cL.nil⟩
 |some s=>
  obtain⟨_,P,_,hal⟩:=pH q;obtain⟨m,hm⟩:∃m,m=l.length:=⟨_,rfl⟩;have hz:=yM (.int .i64 0) m;have hmx:m*8≤140737488355328:=by omega
  have h00:¬(m:Int)<0:=by omega
  have hu0:List.replicate m (Value.int .i64 0)=(mG m 0).map (Value.int .i64):=by simp[mG]
  rw[←hm];simp -implicitDefEqProofs[af,oQ,dC,hz,hmx,h00];intro _;rw[hu0];have hbn:=E.n;refine bL (RN h G.n (.slice ad3 pins.length c3) m) _ ⟨0,rfl,by omega,E.bN _,by simp⟩ ?_;obtain⟨b,hb⟩:∃b,b=G.n:=⟨_,rfl⟩;rw[←hb]at hbn ⊢;rintro n ⟨T,⟨x,G⟩⟩ ⟨i,rfl,hi,E,hrow,hn,g2,g7,g20,g21⟩;simp at E hrow hn g2 g7 g20 g21;simp -implicitDefEqProofs[g2,g7,g20,g21];refine bY (fun hc=>?_) (fun hc=>?_)
  ·have him:i<m:=(by omega);have w1:=bU (i:=i) (by omega);obtain⟨cells,hcells⟩:∃cells,cells=(mG m i).map (Value.int .i64):=⟨_,rfl⟩;rw[←hcells]at hrow;have hcl2:cells.length=m:=(by rw[hcells,cN,Jf m i hi]);have hil:i+1≤cells.length:=(by omega);have hts:=nT (Value.int .i64) (mG m i) i (-1) (by rw[Jf m i hi];exact him);rw[XY m i him,←hcells]at hts;simp -implicitDefEqProofs[g2,g7,g20,g21,him,hrow,hil,w1];refine⟨m-(i+1),by omega,i+1,rfl,by omega,E.dh hbn _,?_,hn,by simp⟩;rw[←hts];simp
  ·have e:i=m:=(by omega);subst e;simp -implicitDefEqProofs[g2,g7,g20,g21];rw[XX]at hrow;refine bL (RO h b (.slice ad3 pins.length c3) pins i pins.length) _ ⟨0,rfl,by omega,E,hrow,hn,by simp⟩ ?_;clear E hrow hn g2 g7 g20 g21;rintro n ⟨T,⟨x,G⟩⟩ ⟨k,rfl,hk,E,hrow,hn,g7,g28,g29,g30⟩;simp at E hrow hn g7 g28 g29 g30;simp -implicitDefEqProofs[g7,g28,g29,g30];refine bY (fun hc=>?_) (fun hc=>?_)
   ·have hkm:k<pins.length:=(by omega);have w1:=bU (i:=k) (by omega);have hti:pins[k]? =some pins[k]:=av (by omega);obtain⟨_,b',o1,w0,cells',r,rfl,hb',hd',hlc,_⟩:=(hps.ext E).sl.at 2 vK hti;have he:=P.each pins[k] (fy _);obtain⟨⟨a,f⟩,ht⟩:∃t,t=pins[k]:=⟨_,rfl⟩;rw[←ht]at hd' hti he;obtain⟨ha0,ha1,_⟩:=he;simp only at ha0 ha1;rw[←hm]at ha1;obtain⟨j,rfl⟩:∃j:Nat,a=j:=⟨a.toNat,by omega⟩;have hji:j<i:=(by omega);have hsu:=Nj i pins k hti;have hll2:=Ni i pins k;obtain⟨cells,hcells⟩:∃cells,cells=(nE i pins k).map (Value.int .i64):=⟨_,rfl⟩;rw[←hcells]at hrow;have hcl2:cells.length=i:=(by rw[hcells,cN,hll2]);have hil:j+1≤cells.length:=(by omega);have hts:=nT (Value.int .i64) (nE i pins k) j f (by rw[hll2];exact hji);simp only[jN]at hsu;rw[←hsu,←hcells]at hts;simp -implicitDefEqProofs[g7,g28,g29,g30,hkm,hb',hd',hlc,kQ,hji,hrow,hil,w1];refine⟨pins.length-(k+1),by omega,k+1,rfl,by omega,E.dh hbn _,?_,hn,by simp⟩;rw[←hts];simp
   ·have e:k=pins.length:=(by omega);subst e;have hlast:nE i pins pins.length=dK l pins:=by
     unfold nE dK;rw[kH,hm]
    rw[hlast,aaq]at hrow;have hlen:(dK l pins).length=i:=(by rw[←hlast,Ni]);simp -implicitDefEqProofs[g7,g28,g29,g30];exact⟨E,_,by rw[hlen],.inr ⟨_,rfl,hrow,hbn,hn⟩⟩
theorem jM.parts {h:aa} {s:bO} {cs:List Value} (H:jM h s cs):∃lv mb,cs.length=8∧cs.all Go.Am.one=true∧iU h s.v s.us (cs.take 6)∧cs.drop 6=[lv,.map (some mb)]∧cs.drop 7=[.map (some mb)]∧aK 29 al h lv s.l∧h.f mb= .obj (.map (eZ s.pins 0).toArray s.pins.length)∧mb<h.n:=by
 have S:=H.shape;obtain⟨hc,lv,mb,rfl,⟨vc,uv,rfl,⟨sv,k,p,rfl,h1,h2,h3⟩,h4⟩,h5,h6,h7⟩:=H;exact⟨lv,mb,S.len,S.one,⟨[sv,.int .i64 s.v.aW,.int .i64 s.v.bC,k,p],uv,rfl,⟨sv,k,p,rfl,h1,h2,h3⟩,h4⟩,rfl,rfl,h5,h6,h7⟩
theorem Un (s:bO) (l:List Int) (k j:Nat) (a:Int) (i:Nat) {t:Int} (ht:l[i]? =some t):
  fp s (l.take (i+1)) k j a=if dS s.v (s.l.getD k default) t (s.l.getD j default) a=true then fp s (l.take i) k j a++[t]else fp s (l.take i) k j a:=by
 unfold fp;rw[fI,ht,Option.toList_some,nr];obtain⟨g,hg⟩:∃g:Int→Bool,g=fun f=>dS s.v (s.l.getD k default) f (s.l.getD j default) a:=⟨_,rfl⟩;have e:dS s.v (s.l.getD k default) t (s.l.getD j default) a=g t:=by rw[hg]
 rw[←hg,e];by_cases q:g t=true
 ·simp[q]
 ·simp[q]
theorem Cs (s:bO) (l:List Int) (k j:Nat) (a:Int):(fp s l k j a).length≤l.length:=List.length_filter_le _ _
def RY (h:aa) (cs:List Value) (s:bO) (l:List Int) (k j:Nat) (a:Int) (lv:Value) (m n:Nat) (σ:St):Prop:=∃(i:Nat) (o:Option Nat) (w:Value),n=m-i∧i≤m∧Ext h σ.m.h∧Ow 3 ab h σ.m.h o (fp s (l.take i) k j a) w∧
 σ.t.get 2=some (.int .i64 (k:Nat))∧σ.t.get 3=some (.int .i64 (j:Nat))∧σ.t.get 4=some (.int .i64 a)∧σ.t.get 5=some (.pointer (some ⟨5,0,some 0⟩))∧σ.t.get 11=some w∧σ.t.get 14=some lv∧σ.t.get 15=some (.int .i64 (m:Nat))∧σ.t.get 16=some (.int .i64 (i:Nat))∧σ.m.x.look 5=some (242,cs)
theorem Ct (s:bO) (M:uR s) (cs:List Value) (lv:Value) (l:List Int) (hll:l.length≤1073741824) (k j:Nat) (a:Int) (hk:k<s.l.length) (hj:j<s.l.length) (hsk:0≤(s.l.getD k default).size) (hsj:0≤(s.l.getD j default).size)
  (hin:∀f∈l,0≤f∧f+(s.l.getD k default).size≤s.v.ag.length) (ha:0≤a∧a+(s.l.getD j default).size≤s.v.ag.length) (h:aa) (H:jM h s cs) (hl:aK 3 ab h lv l):
  ao PP 248 [.agg ⟨cs⟩,lv,.int .i64 (k:Nat),.int .i64 (j:Nat),.int .i64 a] h (fun r h'=>Ext h h'∧aK 3 ab h' r (fp s l k j a)):=by
 refine ao.jT (post:=fun v' h'=>Ext h h'∧cL 3 ab h h' v' (fp s l k j a)) ?_ (fun v h' ⟨E,W⟩=>by
  obtain⟨h'',w,E',S⟩:=W.dB E;exact⟨h'',w,E',S⟩)
 refine aC mix (aD Tryz.func248) rfl rfl rfl aeH ?_;simp only[ai,Tryz.f248];obtain⟨pv,mb,hCl,hCo,hH,hdr,hdr7,hP,hmb,hmbn⟩:=H.parts;have hCt:cs.take 8=cs:=bZ (by omega);obtain⟨hc,hhc⟩:∃x,x=cs.take 6:=⟨_,rfl⟩;rw[←hhc]at hH;have hhc':=hhc.symm;have hap:=fun f (hf:0≤f∧f+(s.l.getD k default).size≤s.v.ag.length) (G:aa) (E:Ext h G)=>zj s.v s.us M.aQ hc (s.l.getD k default) f (s.l.getD j default) a hf ha hsk hsj G (hH.ext E);have hkt:s.l[k]? =some s.l[k]:=av hk;have hjt:s.l[j]? =some s.l[j]:=av hj;obtain⟨X,hX⟩:∃X,X=s.l[k]:=⟨_,rfl⟩;obtain⟨Y,hY⟩:∃Y,Y=s.l[j]:=⟨_,rfl⟩;rw[←hX]at hkt;rw[←hY]at hjt;have hgX:s.l.getD k default=X:=by rw[bB,hkt];rfl
 have hgY:s.l.getD j default=Y:=by rw[bB,hjt];rfl
 simp only[fh,al]at hap;have hr1:List.range 1=[0]:=rfl;obtain⟨adp,cp,rfl⟩:=hP.shape;obtain⟨ad,c,rfl⟩:=hl.shape;obtain⟨m,hm⟩:∃m,m=l.length:=⟨_,rfl⟩;rw[←hm];have hts:=fun i t (ht:l[i]? =some t)=>Un s l k j a i ht;rw[hgX,hgY]at hap hts;rw[hgX]at hin;simp -implicitDefEqProofs[hCl,hCt];refine bL (RY h cs s l k j a (.slice ad m c) m) _ ⟨0,none,_,rfl,by omega,Ext.bJ h,Ow.nil,by simp⟩ ?_;rintro n ⟨T,⟨x,G⟩⟩ ⟨i,o,w,rfl,hi,E,W,g2,g3,g4,g5,g11,g14,g15,g16,x5⟩;simp at E W g2 g3 g4 g5 g11 g14 g15 g16 x5;have hwn:cu w=true:=by rw[W.1];rfl
 simp only[cu,iY,Option.isNone_iff_eq_none]at hwn;simp -implicitDefEqProofs[g2,g3,g4,g5,g11,g14,g15,g16,x5,hwn];refine bY (fun hc=>?_) (fun hc=>?_)
 ·have him:i<m:=by omega
  have w1:=bU (i:=i) (by omega);have hti:l[i]? =some l[i]:=av (by omega);obtain⟨_,b,o1,cells,r,ead,hb,hd,hlc,_⟩:=(aK.ext hl E).at 1 V.dV hti;rw[Nat.mul_one]at hd;have hl1:o1+i+1≤cells.length:=by omega
  obtain⟨_,bk,ok,ck,rk,eap,hbk,hdk,hlk,_⟩:=(aK.ext hP E).at 2 me hkt;obtain⟨_,bj,oj,cj,rj,eap2,hbj,hdj,hlj,_⟩:=(aK.ext hP E).at 2 me hjt;rw[eap]at eap2;simp only[aw,Addr.mk.injEq,and_true]at eap2;obtain⟨rfl,rfl⟩:=eap2;rw[hbk]at hbj;simp only[aZ.row.injEq,true_and]at hbj;subst hbj;subst ead;subst eap;obtain⟨t,ht⟩:∃t,t=l[i]:=⟨_,rfl⟩;rw[←ht]at hd hti;have hkX:(ck.drop (ok+k*2)).take 2=[.int .i64 X.size,.int .i64 X.du]:=by rw[hdk];rfl
  have hjY:(ck.drop (ok+j*2)).take 2=[.int .i64 Y.size,.int .i64 Y.du]:=by rw[hdj];rfl
  simp -implicitDefEqProofs[g2,g3,g4,g5,g11,g14,g15,g16,x5,hwn,him,hb,hd,hl1,ab,hCl,hhc',hdr,hk,hj,hbk,hkX,hjY,hlk,hlj];refine(hap t (hin t (dY hti)) G E).mono ?_;rintro r G2 ⟨E2,rfl⟩;have hsu:=hts i t hti;have hle:=Cs s (l.take i) k j a;have hle2:(l.take i).length≤i:=by rw[cQ];omega
  obtain⟨acc,hacc⟩:∃acc,acc=fp s (l.take i) k j a:=⟨_,rfl⟩;rw[←hacc]at W hsu hle;have W2:=W.ext E2;have hA:=jB rT W2 t (by omega);simp only[ab]at hA;obtain⟨rfl,_⟩:=id W;by_cases z:dS s.v X t Y a=true
  ·rw[if_pos z]at hsu;simp -implicitDefEqProofs[af,g2,g3,g4,g5,g11,g14,g15,g16,x5,z,w1,aP,hr1,hA];intro _;refine⟨m-(i+1),by omega,i+1,some (G2.n+1),.slice (some ⟨G2.n+1,0,none⟩) (acc.length+1) (acc.length+1),rfl,by omega,jD (E.trans E2) W2 _ _,?_,by simp[x5]⟩;rw[hsu];exact Ow.one W2 (E.trans E2).n _ t rfl
  ·rw[if_neg z]at hsu;simp -implicitDefEqProofs[af,g2,g3,g4,g5,g11,g14,g15,g16,x5,z,w1];intro _;exact⟨m-(i+1),by omega,i+1,o,_,rfl,by omega,E.trans E2,by rw[hsu];exact W2,by simp[x5]⟩
 ·have e:i=m:=by omega
  subst e;have hfin:=W.own;rw[hm,kH]at hfin;simp -implicitDefEqProofs[g11,hwn];exact⟨E,hfin⟩
abbrev cO:=Option Addr×Nat×Nat
def bW (x:cO):Value:=.slice x.1 x.2.1 x.2.2
def fF (x:cO):List Value:=[.slice x.1 x.2.1 x.2.2]
theorem vX (x:cO):(fF x).length=1:=rfl
theorem zH:lh 332 329 1 24 fF:=⟨IW,Qf,⟨_,Q2,rfl⟩,CE,GN,by decide,by decide,vX,fun _=>rfl⟩
def lP (h:aa) (w:cO) (D:List (List Int)):Prop:=∃vs:List cO,aK 22 fF h (bW w) vs∧vs.length=D.length∧∀(i:Nat) x d,vs[i]? =some x→D[i]? =some d→aK 3 ab h (bW x) d
def te (h:aa) (ws:List cO) (L:List (List (List Int))):Prop:=ws.length=L.length∧∀(i:Nat) w D,ws[i]? =some w→L[i]? =some D→lP h w D
theorem lP.kp {h h':aa} {w:cO} {D:List (List Int)} (H:lP h w D) (K:Kp h h'):lP h' w D:=by
 obtain⟨vs,h1,h2,h3⟩:=H;exact⟨vs,h1.kp K,h2,fun i x d a b=>(h3 i x d a b).kp K⟩
theorem te.kp {h h':aa} {ws:List cO} {L:List (List (List Int))} (H:te h ws L) (K:Kp h h'):te h' ws L:=⟨H.1,fun i w D a b=>(H.2 i w D a b).kp K⟩
theorem te.last {h:aa} {ws:List cO} {L:List (List (List Int))} (H:te h ws L) {k:Nat} (hk:L.length=k+1):∃w,ws[k]? =some w∧lP h w (L.getLastD []):=by
 have h1:=H.1;have hw:k<ws.length:=by omega
 refine⟨ws[k],av hw,H.2 k _ _ (av hw) ?_⟩;rw[List.getLastD_eq_getLast?,List.getLast?_eq_getElem?,hk,rH,av (show k<L.length by omega)];rfl
structure gD (h:aa) (b b1 b2:Nat) (p:cn) (cs:List Value) (c1 c2:Nat) (ws:List cO) (r1 r2:List Value):Prop where
 hb:h.f b= .row true 334 (cs++[.slice (some ⟨b1,0,none⟩) p.levels.length c1,.slice (some ⟨b2,0,none⟩) p.p.length c2])
 set:jM h p.s cs
 bI:h.f b1= .row true 329 (ws.flatMap fF++r1)
 bQ:h.f b2= .row true 3 (p.p.flatMap ab++r2)
 xA:p.levels.length≤c1
 xC:p.p.length≤c2
 n0:b<h.n
 n1:b1<h.n
 n2:b2<h.n
 pL:te h ws p.levels
structure iV (p:cn):Prop where
 ok:mv p
 sm:uR p.s
 lens:∀D∈p.levels,D.length=p.s.l.length∧∀d∈D,d.length≤1048577
 dep:p.p.length≤p.s.l.length
 ll:p.s.l.length≤512
 may:∀q∈p.s.l,ez q=true
section
variable {h h':aa} {b b1 b2:Nat} {p:cn} {cs:List Value} {c1 c2:Nat} {ws:List cO} {r1 r2:List Value}
theorem gD.ext (H:gD h b b1 b2 p cs c1 c2 ws r1 r2) (E:Ext h h'):gD h' b b1 b2 p cs c1 c2 ws r1 r2:=
 ⟨by rw[E.f _ H.n0];exact H.hb,H.set.ext E,by rw[E.f _ H.n1];exact H.bI,by rw[E.f _ H.n2];exact H.bQ,H.xA,H.xC,de H.n0 E.n,de H.n1 E.n,de H.n2 E.n,H.pL.kp E.kp⟩
theorem gD.eY (H:gD h b b1 b2 p cs c1 c2 ws r1 r2) {S:List Nat} (C:cP S h h') (hs:ic S h) (m0:b∉S) (m1:b1∉S) (m2:b2∉S):gD h' b b1 b2 p cs c1 c2 ws r1 r2:=
 ⟨by rw[C.f _ H.n0 m0];exact H.hb,H.set.eY C hs,by rw[C.f _ H.n1 m1];exact H.bI,by rw[C.f _ H.n2 m2];exact H.bQ,H.xA,H.xC,de H.n0 C.n,de H.n1 C.n,de H.n2 C.n,H.pL.kp (C.kp hs)⟩
end
theorem gD.cells {h:aa} {b b1 b2:Nat} {p:cn} {cs:List Value} {c1 c2:Nat} {ws:List cO} {r1 r2:List Value} (H:gD h b b1 b2 p cs c1 c2 ws r1 r2):
  ∃C lv mb,h.f b= .row true 334 C∧C.length=10∧C.all Go.Am.one=true∧C.take 8=cs∧C.drop 8=[.slice (some ⟨b1,0,none⟩) p.levels.length c1,.slice (some ⟨b2,0,none⟩) p.p.length c2]∧C.drop 9=[.slice (some ⟨b2,0,none⟩) p.p.length c2]∧
   (C.drop 6).take 1=[lv]∧(C.drop 7).take 1=[.map (some mb)]∧aK 29 al h lv p.s.l∧h.f mb= .obj (.map (eZ p.s.pins 0).toArray p.s.pins.length):=by
 obtain⟨lv,mb,h1,h2,_,h3,h4,h5,h6,_⟩:=H.set.parts;refine⟨_,lv,mb,H.hb,by simp[h1],?_,?_,?_,?_,?_,?_,h5,h6⟩
 ·rw[List.all_append,h2];rfl
 ·rw[List.take_append_of_le_length (by omega),bZ (by omega)]
 ·rw[List.drop_append_of_le_length (by omega),List.drop_of_length_le (by omega)];rfl
 ·rw[List.drop_append,List.drop_of_length_le (by omega),h1];rfl
 ·rw[List.drop_append_of_le_length (by omega),h3];rfl
 ·rw[List.drop_append_of_le_length (by omega),h4];rfl
theorem aiw {ws:List cO} {r:List Value} {k:Nat} {w:cO} (h:ws[k]? =some w):∃z,(ws.flatMap fF++r).drop k=bW w::z∧k+1≤(ws.flatMap fF++r).length:=by
 obtain⟨hk,e⟩:=cY.1 h;have h1:=qH 1 vX ws k;have h2:=fg 1 vX ws;rw[Nat.mul_one]at h1 h2;refine⟨(ws.drop (k+1)).flatMap fF++r,?_,?_⟩
 ·rw[List.drop_append_of_le_length (by omega),h1,ie hk,gF,e];rfl
 ·rw[bF,h2];omega
theorem wY (p:cn) (h:aa) {b b1 b2:Nat} {cs:List Value} {c1 c2:Nat} {ws:List cO} {r1 r2:List Value} (H:gD h b b1 b2 p cs c1 c2 ws r1 r2):
  ao PP 287 [.pointer (some ⟨b,0,none⟩)] h (fun r h'=>h'=h∧r= .int .i64 (p.p.length:Nat)):=by
 refine aC mix (aD Tryz.func287) rfl rfl rfl aeX ?_;simp only[ai,Tryz.f287];obtain⟨C,lv,mb,hb,hl,_,ht,h8,h9,h6,h7,_⟩:=H.cells;simp -implicitDefEqProofs[hb,hl,h9]
theorem AG (p:cn) (I:iV p) (h:aa) {b b1 b2:Nat} {cs:List Value} {c1 c2:Nat} {ws:List cO} {r1 r2:List Value} (H:gD h b b1 b2 p cs c1 c2 ws r1 r2):
  ao PP 293 [.pointer (some ⟨b,0,none⟩)] h (fun r h'=>h'=h∧∃w,r=bW w∧lP h w (cG p)):=by
 refine aC mix (aD Tryz.func293) rfl rfl rfl afd ?_;simp only[ai,Tryz.f293];obtain⟨C,lv,mb,hb,hl,_,ht,h8,h9,h6,h7,_⟩:=H.cells;have bI:=H.bI;have hlen:=I.ok.len;obtain⟨k,hk⟩:∃k,p.levels.length=k+1:=⟨_,hlen⟩;have hd:=I.dep;have hll:=I.ll;obtain⟨w,hw,hL⟩:=H.pL.last hk;rw[hk]at h8;obtain⟨R1,hR1⟩:∃R1,R1=ws.flatMap fF++r1:=⟨_,rfl⟩;rw[←hR1]at bI;obtain⟨r,hdr,hlc⟩:=aiw (r:=r1) hw;rw[←hR1]at hdr hlc;have w1:IntKind.wrap .i64 ((k:Int))=(k:Nat):=by rw[bK (by omega)]
 have hlt:(k:Int)<k+1:=by omega
 simp -implicitDefEqProofs[hb,hl,h8,bI,w1,hdr,hlc,hlt,bW];exact⟨_,_,_,⟨rfl,rfl,rfl⟩,hL⟩
theorem z7 (p:cn) (k:Int) (h:aa) {b b1 b2:Nat} {cs:List Value} {c1 c2:Nat} {ws:List cO} {r1 r2:List Value} (H:gD h b b1 b2 p cs c1 c2 ws r1 r2):
  ao PP 291 [.pointer (some ⟨b,0,none⟩),.int .i64 k] h (fun r h'=>h'=h∧r= .bool (decide (0≤k)&&decide (k<p.s.l.length))):=by
 refine aC mix (aD Tryz.func291) rfl rfl rfl afb ?_;simp only[ai,Tryz.f291];obtain⟨C,lv,mb,hb,hl,_,ht,h8,h9,h6,h7,hP,_⟩:=H.cells;obtain⟨ad,c,rfl⟩:=hP.shape;by_cases q:k<0
 ·have q2:¬0≤k:=by omega
  simp -implicitDefEqProofs[hb,hl,h6,q,q2]
 ·have q2:0≤k:=by omega
  simp -implicitDefEqProofs[hb,hl,h6,q,q2]
theorem OT (p:cn) (k:Nat) (h:aa) {b b1 b2:Nat} {cs:List Value} {c1 c2:Nat} {ws:List cO} {r1 r2:List Value} (H:gD h b b1 b2 p cs c1 c2 ws r1 r2):
  ao PP 292 [.pointer (some ⟨b,0,none⟩),.int .i64 (k:Nat)] h (fun r h'=>h'=h∧r= .bool (ku p k)):=by
 refine aC mix (aD Tryz.func292) rfl rfl rfl afc ?_;simp only[ai,Tryz.f292];have hh:=z7 p (k:Int) h H;obtain⟨C,lv,mb,hb,hl,_,ht,h8,h9,h6,h7,hP,hmb⟩:=H.cells;have hlook:(pC 3 3 (.int .i64 (k:Int)) (eZ p.s.pins 0).toArray true).aR PP=some (.tuple #[.int .i64 ((eI p.s k).getD 0),.bool (eI p.s k).isSome]):=by
  rw[zM,AU,Option.isSome_map]
 unfold ku;simp -implicitDefEqProofs;refine hh.mono ?_;rintro r h' ⟨e,rfl⟩;replace e:=e.symm;subst e;have q0:(0:Int)≤k:=by omega
 by_cases q:k<p.s.l.length
 ·have q2:(k:Int)<p.s.l.length:=by omega
  simp -implicitDefEqProofs[af,q,q2,q0,hb,hl,h7,hmb,hlook]
 ·have q2:¬(k:Int)<p.s.l.length:=by omega
  simp -implicitDefEqProofs[af,q,q2]
theorem ahG (p:cn) (hp:p.p.length≤1073741824) (h:aa) {b b1 b2:Nat} {cs:List Value} {c1 c2:Nat} {ws:List cO} {r1 r2:List Value} (H:gD h b b1 b2 p cs c1 c2 ws r1 r2):
  ao PP 289 [.pointer (some ⟨b,0,none⟩)] h (fun r h'=>Ext h h'∧aK 3 ab h' r p.p):=by
 refine ao.jT (post:=fun v' h'=>Ext h h'∧cL 3 ab h h' v' p.p) ?_ (fun v h' ⟨E,W⟩=>by
  obtain⟨h'',w,E',S⟩:=W.dB E;exact⟨h'',w,E',S⟩)
 refine aC mix (aD Tryz.func289) rfl rfl rfl aeZ ?_;simp only[ai,Tryz.f289];obtain⟨C,lv,mb,hb,hl,_,ht,h8,h9,h6,h7,hP,hmb⟩:=H.cells;have hS:cU 3 ab h (.slice (some ⟨b2,0,none⟩) p.p.length c2) p.p:=⟨_,_,rfl,fun z=>(by cases z),.inr ⟨b2,0,true,_,r2,rfl,H.bQ,rfl,by simp,H.n2⟩⟩;have hc:=zx _ p.p hp h hS;simp -implicitDefEqProofs[hb,hl,h9];refine hc.mono ?_;rintro r G ⟨E,W⟩;have hw:=W;obtain⟨ad,rfl,_⟩:=id W;simp -implicitDefEqProofs[aJ];intro _;exact⟨E,hw⟩
theorem V6 (s:Value) (xs:List cO) (hl:xs.length≤1073741824) (h:aa) (hs:cU 22 fF h s xs):ao PP 294 [s] h (fun v h'=>Ext h h'∧cL 22 fF h h' v xs):=by
 refine aC mix (aD Tryz.func294) rfl rfl rfl afe ?_;simp only[ai,Tryz.f294];obtain⟨ad,c,rfl,hn,hz⟩:=hs;cases ad with
 |none=>
  have:xs=[]:=by
   rcases hz with z|⟨b,off,w,cells,rest,z,_⟩
   ·exact z
   ·simp at z
  subst this;have:=hn rfl;subst this;simp -implicitDefEqProofs;exact⟨Ext.bJ h,cL.nil⟩
 |some ad=>
  by_cases h0:xs=[]
  ·subst h0;simp -implicitDefEqProofs[aP,dq,dM,dC];exact⟨(Ext.new h _).dh (a8 _) _ |>.bN _,_,rfl,.inr ⟨_,rfl,by simp⟩⟩
  ·obtain⟨b,off,w,cells,rest,e,z2,z3,z4,z5⟩:∃b off w cells rest,some ad=some (⟨b,off,none⟩:Addr)∧h.f b= .row w 22 cells∧cells.drop off=xs.flatMap fF++rest∧off≤cells.length∧b<h.n:=by
    rcases hz with z|z
    ·exact absurd z h0
    ·exact z
   obtain rfl:=bP e
   obtain⟨m,hm⟩:∃m,m=xs.length:=⟨_,rfl⟩
   have hm0:¬m=0:=by rw[hm];simpa using h0
   obtain⟨F,hF⟩:∃F,F=xs.flatMap fF:=⟨_,rfl⟩
   have hFl:F.length=m:=by rw[hF,fg 1 vX,hm,Nat.mul_one]
   have hone:F.all Go.Am.one=true:=by rw[hF];exact vn (fun _=>rfl) xs
   rw[←hF]at z3
   have hlen:off+m≤cells.length:=by
    have:=congrArg List.length z3;rw[eN,bF,hFl]at this;omega
   have htk:(cells.drop off).take (m)=F:=by rw[z3,List.take_append_of_le_length (by omega),bZ (by omega)]
   have hbn:¬b=h.n:=by omega
   have hmx:m*24≤140737488355328:=by omega
   rw[←hm]
   simp -implicitDefEqProofs[aP,dq,dM,dC,hm0,hbn,z2,hlen,htk,hone,hmx]
   exact⟨(Ext.new h _).dh (a8 _) _ |>.bN _,_,by rw[hm],.inr ⟨_,rfl,by simp[hF]⟩⟩
theorem iV.now {p:cn} (I:iV p):(cG p).length=p.s.l.length∧∀d∈cG p,d.length≤1048577:=by
 have hl:=I.ok.len;have:cG p∈p.levels:=by
  rw[xT hl,bB,av (show p.p.length<p.levels.length by omega)];exact fy _
 exact I.lens _ this
theorem lP.at {h:aa} {w:cO} {D:List (List Int)} (H:lP h w D) {k:Nat} {d:List Int} (hk:D[k]? =some d):
  ∃(b off:Nat) (c:Nat) (cells rest:List Value) (x:cO),w=(some ⟨b,off,none⟩,D.length,c)∧h.f b= .row false 22 cells∧cells.drop (off+k)=bW x::rest∧off+k+1≤cells.length∧aK 3 ab h (bW x) d:=by
 obtain⟨vs,h1,h2,h3⟩:=H;obtain⟨ad,n,c⟩:=w;obtain⟨hlt,_⟩:=cY.1 hk;have hv:vs[k]? =some vs[k]:=av (by omega);obtain⟨e,b,off,cells,rest,rfl,hb,hd,hlc,_⟩:=aK.at 1 vX h1 hv;rw[Nat.mul_one]at hd hlc;exact⟨b,off,c,cells,rest,vs[k],by rw[show n=vs.length from e,h2],hb,hd,hlc,h3 k _ _ hv hk⟩
theorem lP.shape {h:aa} {w:cO} {D:List (List Int)} (H:lP h w D):∃ad c,w=(ad,D.length,c):=by
 obtain⟨vs,h1,h2,_⟩:=H;obtain⟨ad,n,c⟩:=w;obtain⟨ad',c',e⟩:=h1.shape;simp only[bW,Value.slice.injEq]at e;exact⟨ad,c,by rw[e.2.1,h2]⟩
theorem WU (p:cn) (I:iV p) (k:Nat) (h:aa) {b b1 b2:Nat} {cs:List Value} {c1 c2:Nat} {ws:List cO} {r1 r2:List Value} (H:gD h b b1 b2 p cs c1 c2 ws r1 r2):
  ao PP 312 [.pointer (some ⟨b,0,none⟩),.int .i64 (k:Nat)] h (fun r h'=>Ext h h'∧cL 3 ab h h' r (iN p k)):=by
 refine aC mix (aD Tryz.func312) rfl rfl rfl afk ?_;simp only[ai,Tryz.f312];have hh:=z7 p (k:Int) h H;have hn:=AG p I h H;have hnl:=I.now;have q0:(0:Int)≤k:=by omega
 simp -implicitDefEqProofs;refine hh.mono ?_;rintro r h' ⟨e,rfl⟩;replace e:=e.symm;subst e;unfold iN;by_cases q:k<p.s.l.length
 ·have q2:(k:Int)<p.s.l.length:=by omega
  have hkD:(cG p)[k]? =some (cG p)[k]:=av (by omega);obtain⟨d,hd⟩:∃d,d=(cG p)[k]:=⟨_,rfl⟩;rw[←hd]at hkD;have hgd:(cG p).getD k []=d:=by rw[bB,hkD];rfl
  have hdl:=hnl.2 d (dY hkD);rw[if_pos q,hgd];simp -implicitDefEqProofs[af,q,q2,q0];intro _;refine hn.mono ?_;rintro r h' ⟨e,w,rfl,hL⟩;replace e:=e.symm;subst e;obtain⟨bw,ow,cw,cells,rest,x,rfl,hb,hdr,hlc,hS⟩:=hL.at hkD;have hkn:k<(cG p).length:=by omega
  have hcl:=V5 (bW x) d (by omega) h hS.sl;simp only[bW]at hcl hdr;simp -implicitDefEqProofs[aJ,bW,hnl.1,hkn,q,hb,hdr,hlc];intro _;refine hcl.mono ?_;rintro r G ⟨E,W⟩;have hw:=W;obtain⟨ad,rfl,_⟩:=id W;simp -implicitDefEqProofs[aJ];intro _;exact⟨E,hw⟩
 ·have q2:¬(k:Int)<p.s.l.length:=by omega
  rw[if_neg q];simp -implicitDefEqProofs[af,q,q2];intro _;exact⟨Ext.bJ h,cL.nil⟩
def si (p:cn) (k:Nat):Int:=if((cG p).getD k []).length>0 then(p.s.l.getD k default).size else 0
def nG (p:cn) (k:Nat):Int:=((List.range k).map (si p)).foldl (· + ·) 0
theorem NM (p:cn) (k:Nat):nG p (k+1)=nG p k+si p k:=by
 unfold nG;rw[nY,lk,List.foldl_append];rfl
theorem aaw {q:aV} (h:ez q=true):1≤q.size∧q.size≤8:=by
 unfold ez at h;simp at h;omega
theorem iV.size {p:cn} (I:iV p) {k:Nat} (hk:k<p.s.l.length):1≤(p.s.l.getD k default).size∧(p.s.l.getD k default).size≤8:=by
 rw[bB,av hk];exact aaw (I.may _ (fy _))
theorem NL {p:cn} (I:iV p):∀k,k≤p.s.l.length→0≤nG p k∧nG p k≤8*k:=by
 intro k;induction k with
 |zero=>intro _;simp[nG]
 |succ k ih=>
  intro hk;have h1:=ih (by omega);have h2:=I.size (show k<p.s.l.length by omega);rw[NM];unfold si;split<;>omega
theorem aaK (p:cn):jQ p=nG p (cG p).length:=rfl
def Sd (h:aa) (b:Nat) (wv:Value) (p:cn) (m n:Nat) (σ:St):Prop:=∃k:Nat,n=m-k∧k≤m∧σ.m.h=h∧σ.t.get 0=some (.pointer (some ⟨b,0,none⟩))∧σ.t.get 3=some (.int .i64 (nG p k))∧σ.t.get 9=some wv∧σ.t.get 10=some (.int .i64 (m:Nat))∧σ.t.get 11=some (.int .i64 (k:Nat))
theorem aaN (p:cn) (I:iV p) (h:aa) {b b1 b2:Nat} {cs:List Value} {c1 c2:Nat} {ws:List cO} {r1 r2:List Value} (H:gD h b b1 b2 p cs c1 c2 ws r1 r2):
  ao PP 288 [.pointer (some ⟨b,0,none⟩)] h (fun r h'=>h'=h∧r= .int .i64 (jQ p)):=by
 refine aC mix (aD Tryz.func288) rfl rfl rfl aeY ?_;simp only[ai,Tryz.f288];have hn:=AG p I h H;have hnl:=I.now;have hll:=I.ll;obtain⟨C,lv,mb,hb,hl,_,ht,h8,h9,h6,h7,hP,hmb⟩:=H.cells;rw[aaK];obtain⟨m,hm⟩:∃m,m=(cG p).length:=⟨_,rfl⟩;rw[←hm]at hnl ⊢;simp -implicitDefEqProofs;refine hn.mono ?_;rintro r h' ⟨e,w,rfl,hL⟩;replace e:=e.symm;subst e;obtain⟨ad,c,rfl⟩:=hL.shape;rw[←hm]at hL;simp -implicitDefEqProofs[af,bW,←hm];intro _;refine bL (Sd h b (.slice ad m c) p m) _ ⟨0,rfl,by omega,rfl,by simp[nG]⟩ ?_;rintro n ⟨T,⟨x,G⟩⟩ ⟨k,rfl,hk,e,g0,g3,g9,g10,g11⟩;simp at e g0 g3 g9 g10 g11;subst e;simp -implicitDefEqProofs[g0,g3,g9,g10,g11];refine bY (fun hc2=>?_) (fun hc2=>?_)
 ·have hkm:k<m:=by omega
  have w1:=bU (i:=k) (by omega);have hkD:(cG p)[k]? =some (cG p)[k]:=av (by omega);obtain⟨d,hd⟩:∃d,d=(cG p)[k]:=⟨_,rfl⟩;rw[←hd]at hkD;have hgd:(cG p).getD k []=d:=by rw[bB,hkD];rfl
  obtain⟨bw,ow,cw,cells,rest,x',ew,hbw,hdr,hlc,hS⟩:=hL.at hkD;simp only[bH]at ew;obtain⟨rfl,_,rfl⟩:=ew;obtain⟨ax,cx,ex⟩:=hS.shape;rw[ex]at hdr;have hsu:=NM p k;have hle:=NL I (k+1) (by omega);have hle0:=NL I k (by omega);by_cases q:0<d.length
  ·have hti:p.s.l[k]? =some p.s.l[k]:=av (by omega);obtain⟨X,hX⟩:∃X,X=p.s.l[k]:=⟨_,rfl⟩;rw[←hX]at hti;have hgX:p.s.l.getD k default=X:=(by rw[bB,hti];rfl);obtain⟨adl,cl0,rfl⟩:=hP.shape;obtain⟨_,bl,ol,cl,rl,rfl,hbl,hdl,hlcl,hbln⟩:=hP.at 2 me hti;have hdl':cl.drop (ol+k*2)= .int .i64 X.size:: .int .i64 X.du::rl:=hdl;have hlcl':ol+k*2+1≤cl.length:=(by omega);have hma:si p k=X.size:=(by unfold si;rw[hgd,if_pos q,hgX]);rw[hma]at hsu;have w2:IntKind.wrap .i64 (nG p k+X.size)=nG p (k+1):=(by rw[hsu];exact bK (by omega));have hkl:k<p.s.l.length:=(by omega);simp -implicitDefEqProofs[g0,g3,g9,g10,g11,hkm,hbw,hdr,hlc,q,w1,w2,hb,hl,h6,hkl,hbl,hdl',hlcl'];exact⟨m-(k+1),by omega,k+1,rfl,by omega,rfl,by simp⟩
  ·have hma:si p k=0:=(by unfold si;rw[hgd,if_neg q]);rw[hma,Int.add_zero]at hsu;simp -implicitDefEqProofs[g0,g3,g9,g10,g11,hkm,hbw,hdr,hlc,q,w1];exact⟨m-(k+1),by omega,k+1,rfl,by omega,rfl,by simp[hsu]⟩
 ·have e:k=m:=by omega
  subst e;simp -implicitDefEqProofs[g3]
theorem aiv (p:cn) (I:iV p) (h:aa) {b b1 b2:Nat} {cs:List Value} {c1 c2:Nat} {ws:List cO} {r1 r2:List Value} (H:gD h b b1 b2 p cs c1 c2 ws r1 r2):
  ao PP 290 [.pointer (some ⟨b,0,none⟩)] h (fun r h'=>Ext h h'∧aK 3 ab h' r (iH p)):=by
 refine ao.jT (post:=fun v' h'=>Ext h h'∧cL 3 ab h h' v' (iH p)) ?_ (fun v h' ⟨E,W⟩=>by
  obtain⟨h'',w,E',S⟩:=W.dB E;exact⟨h'',w,E',S⟩)
 refine aC mix (aD Tryz.func290) rfl rfl rfl afa ?_;simp only[ai,Tryz.f290];have hd:=wY p h H;have hdo:=WU p I p.p.length h H;have hpi:=fun G (E:Ext h G)=>OT p p.p.length G (H.ext E);have hnl:=I.now;have hr1:List.range 1=[0]:=rfl;simp -implicitDefEqProofs;refine hd.mono ?_;rintro r h' ⟨e,rfl⟩;replace e:=e.symm;subst e;simp -implicitDefEqProofs[af];intro _;refine hdo.mono ?_;rintro r G ⟨E,W⟩;obtain⟨o,W⟩:=Ow.iE W;obtain⟨rfl,_⟩:=id W;have hdl:(iN p p.p.length).length≤1048577:=by
  unfold iN;split
  ·rename_i q;rw[bB,av (show p.p.length<(cG p).length by omega)];exact hnl.2 _ (fy _)
  ·simp
 simp -implicitDefEqProofs[af];intro _;refine(hpi G E).mono ?_;rintro r h' ⟨e,rfl⟩;replace e:=e.symm;subst e;have hA:=jB rT W (-1) (by omega);simp only[ab]at hA;unfold iH;by_cases q:ku p p.p.length=true
 ·have hw:=W.own;simp only[q,if_true];simp -implicitDefEqProofs[af,q];intro _;exact⟨E,hw⟩
 ·have hw:=(Ow.one W E.n (.row true 3 [.int .i64 (-1)]) (-1) (cells:=(iN p p.p.length).flatMap ab++[.int .i64 (-1)]) rfl).own;have q':ku p p.p.length=false:=by simpa using q
  simp only[q',ff,if_false];simp -implicitDefEqProofs[af,q',aP,hr1,hA];intro _;exact⟨jD E W _ _,hw⟩
theorem iV.pop {p:cn} (I:iV p):iV (fC p):=by
 refine⟨qV I.ok,?_,?_,?_,?_,?_⟩<;>(unfold fC;split)
 ·exact I.sm
 ·exact I.sm
 ·exact I.lens
 ·exact fun D hD=>I.lens D (List.dropLast_subset _ hD)
 ·exact I.dep
 ·have:=I.dep;simp only[List.length_dropLast];omega
 ·exact I.ll
 ·exact I.ll
 ·exact I.may
 ·exact I.may
theorem mN (h:aa) (b:Nat) (x y:aZ):(h.set b x).set b y=h.set b y:=by
 unfold aa.set;congr 1;funext i;by_cases q:i=b<;>simp[q]
theorem lB (h:aa) {b x:Nat} (v:aZ) (hx:¬x=b):(h.set b v).f x=h.f x:=by simp[hx]
theorem IH {α:Type} {enc:α→List Value} {ws:List α} {k:Nat} (h:ws.length=k+1) (r:List Value):∃r',ws.flatMap enc++r=ws.dropLast.flatMap enc++r':=by
 rcases List.eq_nil_or_concat ws with e|⟨u,x,e⟩
 ·subst e;simp at h
 ·subst e;rw[List.concat_eq_append];exact⟨enc x++r,by simp⟩
def tq (h:aa) (b b1 b2:Nat) (p':cn) (cs:List Value) (h':aa):Prop:=cP [b,b1,b2] h h'∧∃b1' b2' c1' c2' ws' r1' r2',gD h' b b1' b2' p' cs c1' c2' ws' r1' r2'∧(b1'=b1∨h.n≤b1')∧(b2'=b2∨h.n≤b2')
theorem yf (p:cn) (I:iV p) (h:aa) {b b1 b2:Nat} {cs:List Value} {c1 c2:Nat} {ws:List cO} {r1 r2:List Value} (H:gD h b b1 b2 p cs c1 c2 ws r1 r2):
  ao PP 251 [.pointer (some ⟨b,0,none⟩)] h (fun r h'=>r= .bool (decide (p.p.length≠0))∧tq h b b1 b2 (fC p) cs h'):=by
 refine aC mix (aD Tryz.func251) rfl rfl rfl aeK ?_;simp only[ai,Tryz.f251];have hd:=wY p h H;have hlen:=I.ok.len;have hdep:=I.dep;have hll:=I.ll;simp -implicitDefEqProofs;refine hd.mono ?_;rintro r h' ⟨e,rfl⟩;replace e:=e.symm;subst e;by_cases q:p.p.length=0
 ·have q2:(p.p.length:Int)=0:=by omega
  have e:fC p=p:=by unfold fC;rw[if_pos q]
  rw[e];simp -implicitDefEqProofs[af,q];intro _;exact⟨nu.1 q,cP.bJ _ h,b1,b2,c1,c2,ws,r1,r2,H,Or.inl rfl,Or.inl rfl⟩
 ·obtain⟨k,hk⟩:∃k,p.p.length=k+1:=⟨p.p.length-1,by omega⟩;have hk2:p.levels.length=k+1+1:=by omega
  have e:fC p=⟨p.s,p.levels.dropLast,p.p.dropLast⟩:=by unfold fC;rw[if_neg q]
  have H0:=H;obtain⟨hb,hset,bI,bQ,xA,xC,n0,n1,n2,pL⟩:=H;have hSC:=hset.shape;obtain⟨x1,x2,x3,x4,x5,x6,x7,x8,x9,x10,x11,x12,x13,x14,x15,x16,x17,x18,hcs⟩:=hSC;rw[hk,hk2]at hb;rw[hcs]at hb;have w1:IntKind.wrap .i64 ((k:Int))=(k:Nat):=by rw[bK (by omega)]
  have w2:=bU (i:=k) (by omega);have i6:(0:Int)≤(k:Int)+1:=by omega
  have i7:k+1≤k+1+1:=by omega
  have i8:k≤k+1:=by omega
  have i5:¬((k:Int)+1=0):=by omega
  obtain⟨R1,hR1⟩:∃R1,R1=ws.flatMap fF++r1:=⟨_,rfl⟩;obtain⟨R2,hR2⟩:∃R2,R2=p.p.flatMap ab++r2:=⟨_,rfl⟩;rw[←hR1]at bI;rw[←hR2]at bQ;simp only[dp,dA]at hb;have hne2:¬b2=b:=fun e=>by rw[e,hb]at bQ;cases bQ
  have hne1:¬b1=b:=fun e=>by rw[e,hb]at bI;cases bI
  simp -implicitDefEqProofs[af,hk,hb,bI,bQ,w1,w2,i5,i6,i7,i8,hne1,hne2];intro _;rw[e];rw[mN];obtain⟨v,hv⟩:∃v,v=aZ.row true 334 (cs++[.slice (some ⟨b1,0,none⟩) (k+1) (k+1),.slice (some ⟨b2,0,none⟩) k k]):=⟨_,rfl⟩;have hv2:=hv;rw[hcs]at hv2;simp only[dp,dA]at hv2;rw[←hv2];obtain⟨r1',e1⟩:=IH (enc:=fF) (k:=k+1) (by rw[pL.1,hk2]) r1;obtain⟨r2',e2⟩:=IH (enc:=ab) hk r2;have C:cP [b,b1,b2] h (h.set b v):=⟨rfl,a8 _,fun x hx hs=>by
   have:¬x=b:=fun e=>hs (by simp[e]);simp[this]⟩
  have RS:ic [b,b1,b2] h:=by
   intro x hx;simp only[cE,List.not_mem_nil,or_false]at hx;rcases hx with rfl|rfl|rfl
   ·exact⟨_,_,hb⟩
   ·exact⟨_,_,bI⟩
   ·exact⟨_,_,bQ⟩
  refine⟨fun e=>by rw[e]at hk;simp at hk,C,b1,b2,k+1,k,ws.dropLast,r1',r2',⟨?_,hset.eY C RS,?_,?_,by simp[hk2],by simp[hk],n0,n1,n2,?_⟩,Or.inl rfl,Or.inl rfl⟩
  ·simp[hv,hk,hk2]
  ·simp only[lB _ _ hne1,bI,hR1,e1]
  ·simp only[lB _ _ hne2,bQ,hR2,e2]
  ·have L:=pL.kp (C.kp RS);have h1:=L.1;refine⟨by simp[h1],fun i w D a c=>L.2 i w D ?_ ?_⟩
   ·rw[List.getElem?_dropLast]at a;split at a
    ·exact a
    ·cases a
   ·simp only at c;rw[List.getElem?_dropLast]at c;split at c
    ·exact c
    ·cases c
section
variable {α:Type} {t e sz by_:Nat} {enc:α→List Value} {G:aa} {xs:List α}
theorem rK (E:lh t e sz by_ enc) {b1 c:Nat} {r:List Value} (bI:G.f b1= .row true e (xs.flatMap enc++r)) (a:α) {b:Nat} {w:Bool} (hb:G.f b= .row w e (enc a)) (hl:(xs.length+1)*by_≤140737488355328) (T:Fr) (x:bV) (s y:Nat)
  (hs:Fr.get T s=some (.slice (some ⟨b1,0,none⟩) xs.length c)) (hy:Fr.get T y=some (.slice (some ⟨b,0,none⟩) 1 1)):
  dq PP ⟨T,⟨x,G⟩⟩ t t (.tmp s) (.tmp y)=some (.slice (some ⟨G.n,0,none⟩) (xs.length+1) (xs.length+1),⟨T,⟨x,(G.set b1 .dead).new (.row true e (xs.flatMap enc++enc a))⟩⟩):=by
 obtain⟨zl,hz,hzl⟩:=E.ze;have hlen:=E.len a;have htk:(enc a).take sz=enc a:=bZ (by omega);have hfl:=fg sz E.len xs;have htk2:(xs.flatMap enc++r).take (xs.length*sz)=xs.flatMap enc:=by rw[List.take_append_of_le_length (by omega),bZ (by omega)]
 have hone:=E.one a;have hlr:xs.length*sz≤(xs.flatMap enc++r).length:=by rw[bF];omega
 have hs0:=E.pos;have hb0:=E.b0;obtain⟨R,hR⟩:∃R,R=xs.flatMap enc++r:=⟨_,rfl⟩;rw[←hR]at bI htk2 hlr;simp[dq,dM,E.el,hz,E.zu,E.un,hs,hy,hlen,htk,hb,bI,E.co,hone,hs0,hb0,hzl,htk2,hlr,hl,dC]
end
def nM (p:cn) (f:Int):Bool:=decide (p.p.length<p.s.l.length)&&(!(decide (f= -1)&&ku p p.p.length)&& !(decide (f≠-1)&& !decide (f∈iN p p.p.length)))
def gr (p:cn) (f:Int) (k j:Nat):List (List Int):=(List.range (cG p).length).map fun i=>if i=k then(if f= -1 then[]else[f])else if(f≠-1∧k<i)∧i<j then fp p.s ((cG p).getD i []) i k f else(cG p).getD i []
theorem A0 (p:cn) (f:Int):fM p f=if nM p f=true then⟨p.s,p.levels++[gr p f p.p.length (cG p).length],p.p++[f]⟩else p:=by
 unfold fM nM;simp only;have e:(!decide (p.p.length<p.s.l.length) || (decide (f= -1)&&ku p p.p.length) || (decide (f≠-1)&& !(iN p p.p.length).contains f))= !(decide (p.p.length<p.s.l.length)&&(!(decide (f= -1)&&ku p p.p.length)&& !(decide (f≠-1)&& !decide (f∈iN p p.p.length)))):=by
  rw[List.contains_eq_mem];cases decide (p.p.length<p.s.l.length)<;>cases (decide (f= -1)&&ku p p.p.length)<;>cases (decide (f≠-1)&& !decide (f∈iN p p.p.length))<;>rfl
 rw[e];cases (decide (p.p.length<p.s.l.length)&&(!(decide (f= -1)&&ku p p.p.length)&& !(decide (f≠-1)&& !decide (f∈iN p p.p.length))))with
 |false=>simp
 |true=>
  simp only[Bool.not_true,ff,if_false,if_true];congr 3;unfold gr;refine List.map_congr_left fun i hi=>?_;rw[dv]at hi;simp[hi]
theorem xU (p:cn) (f:Int) (k j i:Nat) {d:List Int} (h:(gr p f k j)[i]? =some d) (hk:i≠k):d=if(f≠-1∧k<i)∧i<j then fp p.s ((cG p).getD i []) i k f else(cG p).getD i []:=by
 unfold gr at h;rw[ix]at h;cases q:(List.range (cG p).length)[i]? with
 |none=>rw[q]at h;cases h
 |some x=>
  obtain⟨_,e⟩:=cY.1 q;rw[List.getElem_range]at e;subst e;rw[q]at h;simp only[fJ,aw]at h;rw[←h,if_neg hk]
theorem mV (p:cn) (f:Int) (k j:Nat):(gr p f k j).length=(cG p).length:=by simp[gr]
theorem Aw (l:List cO):l.map bW=l.flatMap fF:=by
 induction l with
 |nil=>rfl
 |cons a r ih=>rw[eT,gF,ih];rfl
def Rs (h G:aa) (f:Int) (x:cO):Prop:=(f= -1∧x=(none,0,0))∨(f≠-1∧∃bf,x=(some ⟨bf,0,none⟩,1,1)∧G.f bf= .row true 3 [.int .i64 f]∧h.n≤bf∧bf<G.n)
structure rz (h G:aa) (bn:Nat) (us:List cO) (D:List (List Int)) (k:Nat) (f:Int):Prop where
 row:G.f bn= .row true 22 (us.map bW)
 n0:h.n≤bn
 n1:bn<G.n
 len:us.length=D.length
 gk:∀(i:Nat) x d,i≠k→us[i]? =some x→D[i]? =some d→aK 3 ab G (bW x) d
 xb:∃x,us[k]? =some x∧Rs h G f x
theorem nP {G:aa} {b:Nat} {e:TypeId} {cs:List Value} (h:G.f b= .row true e cs):ic [b] G:=ic.cons h (ic.nil G)
theorem YQ {G:aa} {b:Nat} {x y:aZ} (hb:¬b=G.n):(G.set b x).new y=(G.new y).set b x:=by
 unfold aa.set aa.new;congr 1;funext i;by_cases q:i=b
 ·subst q;simp[hb]
 ·simp[q]
theorem jl (G:aa) (b:Nat) (v:aZ):cP [b] G (G.set b v):=⟨rfl,a8 _,fun x _ hs=>by
 have:¬x=b:=fun e=>hs (by simp[e]);simp[this]⟩
theorem rz.step {h G G2:aa} {bn:Nat} {us:List cO} {p:cn} {k j:Nat} {f:Int} (L:rz h G bn us (gr p f k j) k f) (hf:f≠-1) (hkj:k<j) (hj:j<(cG p).length) (E:Ext G G2) {x':cO} (S:aK 3 ab G2 (bW x') (fp p.s ((cG p).getD j []) j k f)):
  rz h (G2.set bn (.row true 22 ((us.set j x').map bW))) bn (us.set j x') (gr p f k (j+1)) k f:=by
 have hr2:G2.f bn= .row true 22 (us.map bW):=by rw[E.f _ L.n1];exact L.row
 have C:=jl G2 bn (.row true 22 ((us.set j x').map bW));have RS:=nP hr2;have hul:=L.len;rw[mV]at hul;refine⟨by simp,L.n0,de L.n1 E.n,by simp[mV,hul],fun i x d hi hx hd=>?_,?_⟩
 ·have hd':=xU p f k (j+1) i hd hi;by_cases q:i=j
  ·subst q;rw[List.getElem?_set_self (by omega)]at hx;simp only[aw]at hx;subst hx;rw[if_pos ⟨⟨hf,hkj⟩,by omega⟩]at hd';rw[hd'];exact S.eY C RS
  ·rw[List.getElem?_set_ne (fun e=>q e.symm)]at hx;have hil:i<(cG p).length:=by
    have:=(cY.1 hd).1;rwa[mV]at this
   have hji:i<(gr p f k j).length:=(by rw[mV];exact hil);have hd2:(gr p f k j)[i]? =some (gr p f k j)[i]:=av hji;have e2:=xU p f k j i hd2 hi;have e3:(gr p f k j)[i]=d:=by
    rw[e2,hd'];by_cases q2:i<j
    ·have:i<j+1:=(by omega);simp only[q2,this]
    ·have:¬i<j+1:=(by omega);simp only[q2,this]
   rw[e3]at hd2;exact((L.gk i x d hi hx hd2).ext E).eY C RS
 ·obtain⟨x,hx,he⟩:=L.xb;refine⟨x,by rw[List.getElem?_set_ne (by omega)];exact hx,?_⟩;rcases he with he|⟨h1,bf,h2,h3,h4,h5⟩
  ·exact .inl he
  ·refine .inr ⟨h1,bf,h2,?_,h4,de h5 E.n⟩;have h6:G2.f bf= .row true 3 [.int .i64 f]:=(by rw[E.f _ h5];exact h3);have hne:¬bf=bn:=fun e=>(by rw[e,hr2]at h6;cases h6);rw[lB _ _ hne];exact h6
def R7 (h:aa) (b bn:Nat) (p:cn) (k:Nat) (f:Int) (m n:Nat) (σ:St):Prop:=∃(j:Nat) (us:List cO),n=m-j∧j≤m∧k<j∧Ext h σ.m.h∧rz h σ.m.h bn us (gr p f k j) k f∧
 σ.t.get 0=some (.pointer (some ⟨b,0,none⟩))∧σ.t.get 1=some (.int .i64 f)∧σ.t.get 5=some (.int .i64 (k:Nat))∧σ.t.get 6=some (.slice (some ⟨bn,0,none⟩) m m)∧σ.t.get 7=some (.int .i64 (j:Nat))
def SV (h:aa) (b:Nat) (p:cn) (k:Nat) (f:Int) (m:Nat) (σ:St):Prop:=∃(bn:Nat) (us:List cO),Ext h σ.m.h∧rz h σ.m.h bn us (gr p f k m) k f∧
 σ.t.get 0=some (.pointer (some ⟨b,0,none⟩))∧σ.t.get 1=some (.int .i64 f)∧σ.t.get 6=some (.slice (some ⟨bn,0,none⟩) m m)
theorem N9 (p:cn) (f:Int) (k i:Nat) {d:List Int} (h:(gr p f k (k+1))[i]? =some d) (hk:i≠k):(cG p)[i]? =some d:=by
 have e:=xU p f k (k+1) i h hk;have hl:=(cY.1 h).1;rw[mV]at hl;rw[if_neg (by omega)]at e;rw[e,bB,av hl];rfl
theorem abv (p:cn) (k j j':Nat):gr p (-1) k j=gr p (-1) k j':=by
 unfold gr;refine List.map_congr_left fun i _=>?_;simp
def wG (h:aa) (b b1 b2:Nat) (p:cn) (f:Int) (cs:List Value) (ws:List cO) (k m:Nat) (h':aa):Prop:=tq h b b1 b2 (fM p f) cs h'∨
 (nM p f=true∧cP [b,b1,b2] h h'∧∃bn us b1' b2',rz h h' bn us (gr p f k m) k f∧h'.f b= .row true 334 (cs++[.slice (some ⟨b1',0,none⟩) (p.levels.length+1) (p.levels.length+1),.slice (some ⟨b2',0,none⟩) (k+1) (k+1)])∧
  h'.f b1'= .row true 329 (ws.flatMap fF++fF (some ⟨bn,0,none⟩,m,m))∧h'.f b2'= .row true 3 (p.p.flatMap ab++ab f)∧h.n≤b1'∧b1'<h'.n∧h.n≤b2'∧b2'<h'.n∧∀x ad,us[k]? =some x→x.1=some ad→ad.block<b2')
theorem lA (h:aa) {b x:Nat} (hx:¬x=b):(h.dB b).f x=h.f x:=by unfold aa.dB;simp[hx]
theorem xi {h:aa} {b:Nat} {e:TypeId} {w:Bool} {cs:List Value} (hb:h.f b= .row w e cs):(h.dB b).f b= .row false e cs:=by unfold aa.dB;simp[hb,aZ.dB]
theorem ahU {h h':aa} {b b1 b2:Nat} {p:cn} {f:Int} {cs:List Value} {c1 c2:Nat} {ws:List cO} {r1 r2:List Value} (H:gD h b b1 b2 p cs c1 c2 ws r1 r2) {k m:Nat} (hk:k=p.p.length) (hm:m=(cG p).length) (Q:wG h b b1 b2 p f cs ws k m h'):
  ∃h'',Wk h' h''∧tq h b b1 b2 (fM p f) cs h'':=by
 rcases Q with Q|⟨ok,C,bn,us,b1',b2',L,g0,g1,g2,n1,m1,n2,m2,hbf2⟩
 ·exact⟨h',Wk.refl _,Q⟩
 ·have RS:ic [b,b1,b2] h:=by
   intro x hx;simp only[cE,List.not_mem_nil,or_false]at hx;rcases hx with rfl|rfl|rfl
   ·exact⟨_,_,H.hb⟩
   ·exact⟨_,_,H.bI⟩
   ·exact⟨_,_,H.bQ⟩
  have hul:=L.len
  rw[mV]at hul
  have key:∃h'',Wk h' h''∧(∀x,x<h.n→h''.f x=h'.f x)∧lP h'' (some ⟨bn,0,none⟩,m,m) (gr p f k m)∧h''.f b=h'.f b∧h''.f b1'=h'.f b1'∧h''.f b2'=h'.f b2':=by
   have h0:¬b=bn:=(by have:=H.n0;have:=L.n0;omega);have h1:¬b1'=bn:=fun e=>(by have:=L.row;rw[←e,g1]at this;cases this);have h2:¬b2'=bn:=fun e=>(by have:=L.row;rw[←e,g2]at this;cases this);obtain⟨x,hx,he⟩:=L.xb;have hkm:k<(cG p).length:=by
    have:=(cY.1 hx).1;omega
   have hnk:(gr p f k m)[k]? =some (if f= -1 then[]else[f]):=by
    unfold gr;rw[ix,List.getElem?_range hkm];simp
   have mk:∀(F:aa),Wk h' F→F.f bn= .row false 22 (us.map bW)→aK 3 ab F (bW x) (if f= -1 then[]else[f])→lP F (some ⟨bn,0,none⟩,m,m) (gr p f k m):=fun F W hF hS=>by
    refine⟨us,⟨some ⟨bn,0,none⟩,m,?_,fun z=>(by cases z),.inr ⟨bn,0,_,[],rfl,hF,by rw[Aw];simp,by simp,by rw[W.n];exact L.n1⟩⟩,by rw[hul,mV],fun i y d hy hd=>?_⟩
    ·simp only[bW];rw[hul,hm]
    ·by_cases q:i=k
     ·subst q;rw[hx]at hy;rw[hnk]at hd;cases hy;cases hd;exact hS
     ·exact(L.gk i y d q hy hd).wk W
   rcases he with⟨hf,ex⟩|⟨hf,bf,ex,hbf,f1,f2⟩
   ·subst ex;refine⟨h'.dB bn,h'.pE bn,fun y hy=>lA _ (by have:=L.n0;omega),mk _ (h'.pE bn) (xi L.row) ?_,lA _ h0,lA _ h1,lA _ h2⟩;rw[if_pos hf];exact aK.nil
   ·subst ex;have hfn:¬bf=bn:=fun e=>(by rw[e,L.row]at hbf;cases hbf);have hbn:(h'.dB bf).f bn= .row true 22 (us.map bW):=(by rw[lA _ (fun e=>hfn e.symm)];exact L.row);have W:=(h'.pE bf).trans ((h'.dB bf).pE bn);have hf1:¬b1'=bf:=fun e=>(by rw[←e,g1]at hbf;cases hbf);have hf2:¬b2'=bf:=fun e=>(by have:=hbf2 _ _ hx rfl;simp only at this;omega);have hfb:¬b=bf:=(by have:=H.n0;omega);refine⟨(h'.dB bf).dB bn,W,fun y hy=>?_,mk _ W (xi hbn) ?_,?_,?_,?_⟩
    ·rw[lA _ (by have:=L.n0;omega),lA _ (by omega)]
    ·rw[if_neg hf];refine⟨some ⟨bf,0,none⟩,1,rfl,fun z=>(by cases z),.inr ⟨bf,0,[.int .i64 f],[],rfl,?_,by simp[ab],by simp,by rw[W.n];exact f2⟩⟩;rw[lA _ hfn,xi hbf]
    ·rw[lA _ h0,lA _ hfb]
    ·rw[lA _ h1,lA _ hf1]
    ·rw[lA _ h2,lA _ hf2]
  obtain⟨h'',W,hlt,hL,e0,e1,e2⟩:=key
  have C2:cP [b,b1,b2] h h'':=C.wk W (fun y hy _=>hlt y hy)
  refine⟨h'',W,C2,b1',b2',p.levels.length+1,k+1,ws++[(some ⟨bn,0,none⟩,m,m)],[],[],?_,.inr n1,.inr n2⟩
  rw[A0,if_pos ok,←hk,←hm]
  refine⟨?_,H.set.eY C2 RS,?_,?_,by simp,by simp[hk],de H.n0 C2.n,by rw[W.n];exact m1,by rw[W.n];exact m2,?_⟩
  ·rw[e0,g0];simp[hk]
  ·rw[e1,g1];simp
  ·rw[e2,g2];simp
  ·have Lo:=H.pL.kp (C2.kp RS)
   have hwl:=Lo.1
   refine⟨by simp[hwl],fun i w D hw hD=>?_⟩
   simp only at hD
   rcases Nat.lt_trichotomy i ws.length with z|z|z
   ·rw[jz z]at hw
    rw[jz (by omega)]at hD
    exact Lo.2 i w D hw hD
   ·rw[z,iW (a8 _),n9]at hw
    rw[z,hwl,iW (a8 _),n9]at hD
    simp only[List.getElem?_cons_zero,aw]at hw hD
    subst hw;subst hD
    exact hL
   ·rw[iW (by omega)]at hw
    have:=(cY.1 hw).1
    simp at this
    omega
theorem A4 {h G F:aa} {b b1 b2 bn b1' b2':Nat} {us:List cO} {p:cn} {f:Int} {cs:List Value} {c1 c2:Nat} {ws:List cO} {r1 r2:List Value} {k m:Nat} (H:gD h b b1 b2 p cs c1 c2 ws r1 r2) (ok:nM p f=true) (E:Ext h G) (L:rz h G bn us (gr p f k m) k f)
  (hg:F.g=G.g) (hn:F.n=G.n+1+1+1+1) (ho:∀x,x<G.n→¬x=b→¬x=b1→¬x=b2→F.f x=G.f x)
  (g0:F.f b= .row true 334 (cs++[.slice (some ⟨b1',0,none⟩) (p.levels.length+1) (p.levels.length+1),.slice (some ⟨b2',0,none⟩) (k+1) (k+1)]))
  (g1:F.f b1'= .row true 329 (ws.flatMap fF++fF (some ⟨bn,0,none⟩,m,m))) (g2:F.f b2'= .row true 3 (p.p.flatMap ab++ab f)) (n1:G.n≤b1') (n1':b1'<G.n+1+1+1+1) (n2:G.n≤b2') (n2':b2'<G.n+1+1+1+1):
  wG h b b1 b2 p f cs ws k m F:=by
 have en:=E.n;have HG:=H.ext E;have C:cP [b,b1,b2] G F:=⟨hg,by omega,fun x hx hs=>by
  simp only[cE,List.not_mem_nil,or_false,not_or]at hs;exact ho x hx hs.1 hs.2.1 hs.2.2⟩
 have RS:ic [b,b1,b2] G:=by
  intro x hx;simp only[cE,List.not_mem_nil,or_false]at hx;rcases hx with rfl|rfl|rfl
  ·exact⟨_,_,HG.hb⟩
  ·exact⟨_,_,HG.bI⟩
  ·exact⟨_,_,HG.bQ⟩
 have q0:=H.n0;have q1:=H.n1;have q2:=H.n2;have l0:=L.n0;have l1:=L.n1;refine .inr ⟨ok,(cP.fD (S:=[b,b1,b2]) E).trans C (fun i hi _=>hi),bn,us,b1',b2',⟨?_,l0,by omega,L.len,fun i x d hi hx hd=>(L.gk i x d hi hx hd).eY C RS,?_⟩,g0,g1,g2,by omega,by omega,by omega,by omega,?_⟩
 ·rw[ho bn l1 (by omega) (by omega) (by omega)];exact L.row
 ·obtain⟨x,hx,he⟩:=L.xb;refine⟨x,hx,?_⟩;rcases he with he|⟨a1,bf,a2,a3,a4,a5⟩
  ·exact .inl he
  ·exact .inr ⟨a1,bf,a2,by rw[ho bf a5 (by omega) (by omega) (by omega)];exact a3,a4,by omega⟩
 ·intro y ad hy ha;obtain⟨x,hx,he⟩:=L.xb;rw[hx]at hy;cases hy;rcases he with⟨_,e⟩|⟨_,bf,e,_,_,a5⟩
  ·rw[e]at ha;cases ha
  ·rw[e]at ha;simp only[aw]at ha;subst ha;simp only;omega
def BZ (h:aa) (b:Nat) (p:cn) (f:Int) (σ:St):Prop:=σ.m.h=h∧nM p f=true∧σ.t.get 0=some (.pointer (some ⟨b,0,none⟩))∧σ.t.get 1=some (.int .i64 f)∧σ.t.get 5=some (.int .i64 (p.p.length:Nat))
theorem ahS (p:cn) (I:iV p) (f:Int) (h:aa) {b b1 b2:Nat} {cs:List Value} {c1 c2:Nat} {ws:List cO} {r1 r2:List Value} (H:gD h b b1 b2 p cs c1 c2 ws r1 r2):
  ao PP 252 [.pointer (some ⟨b,0,none⟩),.int .i64 f] h (fun r h'=>(∃v,r= .bool v)∧tq h b b1 b2 (fM p f) cs h'):=by
 refine ao.jT (post:=fun r h'=>(∃v,r= .bool v)∧wG h b b1 b2 p f cs ws p.p.length (cG p).length h') ?_ (fun v h' ⟨a,Q⟩=>by
  obtain⟨h'',W,Z⟩:=ahU H rfl rfl Q;exact⟨h'',W,a,Z⟩)
 refine aC mix (aD Tryz.func252) rfl rfl rfl aeL ?_;simp only[ai,Tryz.f252];have hd:=wY p h H;have hha:=z7 p (p.p.length:Int) h H;have hpi:=OT p p.p.length h H;have hno:=AG p I h H;have hnl:=I.now;have hdep:=I.dep;have hll:=I.ll;obtain⟨k,hk⟩:∃k,k=p.p.length:=⟨_,rfl⟩;rw[←hk]at hd hha hpi hdep ⊢;have q0:(0:Int)≤k:=by omega
 refine wi 3 (BZ h b p f) ?_ ?_
 ·simp only[sa,rZ];simp -implicitDefEqProofs;refine hd.mono ?_;rintro r h' ⟨e,rfl⟩;replace e:=e.symm;subst e;simp -implicitDefEqProofs[af];intro _;refine hha.mono ?_;rintro r h' ⟨e,rfl⟩;replace e:=e.symm;subst e;have hno':nM p f=false→(∃v,Value.bool false= .bool v)∧tq h b b1 b2 (fM p f) cs h:=fun z=>by
   rw[A0,z];exact⟨⟨_,rfl⟩,cP.bJ _ h,b1,b2,c1,c2,ws,r1,r2,H,.inl rfl,.inl rfl⟩
  unfold nM at hno';unfold BZ nM;rw[←hk]at hno' ⊢;by_cases q:k<p.s.l.length
  ·have q2:(k:Int)<p.s.l.length:=(by omega);by_cases qf:f= -1
   ·subst qf;simp -implicitDefEqProofs[af,aJ,q,q2,q0];intro _;refine hpi.mono ?_;rintro r h' ⟨e,rfl⟩;replace e:=e.symm;subst e;by_cases qp:ku p k=true
    ·have:=hno' (by simp[q,qp]);simp -implicitDefEqProofs[af,aJ,qp];intro _;exact Or.inl this.2
    ·simp -implicitDefEqProofs[af,aJ,q,qp]
   ·have hkD:(cG p)[k]? =some (cG p)[k]:=av (by omega);obtain⟨d,hd⟩:∃d,d=(cG p)[k]:=⟨_,rfl⟩;rw[←hd]at hkD;have hgd:iN p k=d:=(by unfold iN;rw[if_pos q,bB,hkD];rfl);have hdl:=hnl.2 d (dY hkD);rw[hgd]at hno' ⊢;simp -implicitDefEqProofs[af,aJ,q,q2,q0,qf];intro _;refine hno.mono ?_;rintro r h' ⟨e,w,rfl,hL⟩;replace e:=e.symm;subst e;obtain⟨bw,ow,cw,cells,rest,x,rfl,hb,hdr,hlc,hS⟩:=hL.at hkD;have hco:=GX (bW x) d f (by omega) h hS.sl;simp only[bW]at hco hdr;simp -implicitDefEqProofs[aJ,af,bW,hnl.1,q,hb,hdr,hlc];intro _;refine hco.mono ?_;rintro r h' ⟨e,rfl⟩;replace e:=e.symm;subst e;by_cases qm:f∈d
    ·simp -implicitDefEqProofs[aJ,af,q,qf,qm]
    ·have:=hno' (by simp[q,qf,qm]);simp -implicitDefEqProofs[aJ,af,qm];intro _;exact Or.inl this.2
  ·have q2:¬(k:Int)<p.s.l.length:=(by omega);have:=hno' (by simp[q]);simp -implicitDefEqProofs[af,aJ,q,q2];intro _;exact Or.inl this.2
 ·rintro⟨T,⟨x,G⟩⟩ ⟨e,ok,g0,g1,g5⟩;replace e:h=G:=e.symm;subst e;simp at g0 g1 g5;rw[←hk]at g5;have hkl:k<p.s.l.length:=by unfold nM at ok;rw[←hk]at ok;simp at ok;exact ok.1
  have hmem:f≠-1→f∈(cG p).getD k []:=fun hf=>by
   unfold nM iN at ok;rw[←hk]at ok;simp only[hkl,if_true]at ok;simp[hf]at ok;simpa using ok
  obtain⟨m,hm⟩:∃m,m=(cG p).length:=⟨_,rfl⟩;have hml:m=p.s.l.length:=hm.trans hnl.1;simp only[sZ,qg];refine wi 2 (SV h b p k f m) ?_ ?_
  ·simp only[sa,rZ];simp -implicitDefEqProofs[g0,g1,g5];refine hno.mono ?_;rintro r h' ⟨e,w,rfl,vs,hvs,hvl,hve⟩;replace e:=e.symm;subst e;have hcl:=V6 (bW w) vs (by omega) h hvs.sl;simp only[bW]at hcl;simp -implicitDefEqProofs[aJ,bW];intro _;refine hcl.mono ?_;rintro r G ⟨E,W⟩;obtain⟨o,W⟩:=Ow.iE W;obtain⟨rfl,W2⟩:=id W;cases o with
   |none=>
    simp only at W2;subst W2;simp at hvl;omega
   |some bn=>
    obtain⟨hrow,hn0,hn1⟩:=W2;have hvm:vs.length=m:=hvl.trans hm.symm;rw[←Aw]at hrow;obtain⟨V,hV⟩:∃V,V=vs.map bW:=⟨_,rfl⟩;rw[←hV]at hrow;have hVl:k+1≤V.length:=(by rw[hV,cN];omega);have hkm:k<m:=(by omega);have hts:=nT bW vs k (none,0,0) (by omega);rw[←hV]at hts;simp only[bW]at hts;simp -implicitDefEqProofs[aJ,g0,g1,g5,hvm,hkm,hrow,hVl];intro _;refine iM (fun hc=>?_) (fun hc=>?_)
    ·have hf:f≠-1:=(by simpa using hc);clear hc;obtain⟨V2,hV2⟩:∃V2,V2=(vs.set k (none,0,0)).map bW:=⟨_,rfl⟩;rw[←hV2]at hts;have hts':List.take k V++Value.slice none 0 0::List.drop (k+1) V=V2:=hts;have hV2l:k+1≤V2.length:=(by rw[hV2,cN,lj];omega);have hts2:=nT bW (vs.set k (none,0,0)) k (some ⟨G.n,0,none⟩,1,1) (by rw[lj];omega);rw[←hV2]at hts2;simp only[bW]at hts2;have hbG:¬bn=G.n:=(by omega);have hr1:List.range 1=[0]:=rfl;have w1:=bU (i:=k) (by omega);have C0:=jl G bn (.row true 22 V2);have R0:=nP hrow;simp -implicitDefEqProofs[g0,g1,g5,hvm,hkm,hts',hV2l,aP,hr1,hbG,w1];rw[YQ hbG,mN];have hnx:=mV p f k (k+1);refine bL (R7 h b bn p k f m) _ ⟨k+1,(vs.set k (none,0,0)).set k (some ⟨G.n,0,none⟩,1,1),rfl,by omega,by omega,(E.bN _).dh hn0 _,⟨?_,hn0,by show bn<G.n+1;omega,by simp[hnx,hvm,hm],fun i x d hi hx hd=>?_,?_⟩,by simp⟩ ?_
     ·simp only;rw[←hts2];simp
     ·rw[List.getElem?_set_ne (by omega),List.getElem?_set_ne (by omega)]at hx;have hS:=hve i x d hx (N9 p f k i hd hi);have C1:=jl (G.new (.row true 3 [.int .i64 f])) bn (.row true 22 (List.take k V2++Value.slice (some {block:=G.n,off:=0}) 1 1::List.drop (k+1) V2));have R1:ic [bn] (G.new (.row true 3 [.int .i64 f])):=nP (by rw[(Ext.new G _).f _ hn1];exact hrow);exact(hS.ext (E.bN _)).eY C1 R1
     ·refine⟨_,List.getElem?_set_self (by rw[lj];omega),.inr ⟨hf,G.n,rfl,?_,E.n,by simp⟩⟩;rw[lB _ _ (fun e=>hbG e.symm)];simp
     ·rintro n ⟨T,⟨x,G3⟩⟩ ⟨j,us,rfl,hj,hkj,E3,L,g0,g1,g5,g6,g7⟩;simp at E3 L g0 g1 g5 g6 g7;simp -implicitDefEqProofs[g0,g1,g5,g6,g7];refine bY (fun hc2=>?_) (fun hc2=>?_)
      ·have hjm:j<m:=(by omega);have H3:=H.ext E3;obtain⟨C,lv,mb,hb,hl,ho,ht,h8,h9,h6,h7,hP,_⟩:=H3.cells;have hln:=L.len;rw[mV]at hln;have hrow3:=L.row;have hux:us[j]? =some us[j]:=av (by omega);obtain⟨X,hX⟩:∃X,X=us[j]:=⟨_,rfl⟩;rw[←hX]at hux;have hjn:j<(gr p f k j).length:=(by rw[mV];omega);have hdx:(gr p f k j)[j]? =some (gr p f k j)[j]:=av hjn;have hS:=L.gk j X _ (by omega) hux hdx;have hdj:=xU p f k j j hdx (by omega);rw[if_neg (by omega)]at hdj;rw[hdj]at hS;have hjD:(cG p)[j]? =some (cG p)[j]:=av (by omega);have hDj:(cG p).getD j []=(cG p)[j]:=(by rw[bB,hjD];rfl);have hdl:=hnl.2 _ (dY hjD);rw[←hDj]at hdl;obtain⟨D,hD⟩:∃D,D=(cG p).getD j []:=⟨_,rfl⟩;have hnow:=xT I.ok.len;rw[←hk]at hnow;have hsj:=I.size (show j<p.s.l.length by omega);have hsk:=I.size hkl;have hin:∀z∈(cG p).getD j [],0≤z∧z+(p.s.l.getD j default).size≤p.s.v.ag.length:=fun z hz=>by
        rw[hnow]at hz;have:=q8 (I.ok.dQ k (by omega) j (by omega) z hz).ag;exact⟨this.2.2.2.1,this.2.2.2.2⟩
       have hfa:0≤f∧f+(p.s.l.getD k default).size≤p.s.v.ag.length:=by
        have hz:=hmem hf;rw[hnow]at hz;have:=q8 (I.ok.dQ k (by omega) k (a8 _) f hz).ag;exact⟨this.2.2.2.1,this.2.2.2.2⟩
       have hap:=Ct p.s I.sm cs (bW X) _ (by omega) j k f (by omega) hkl (by omega) (by omega) hin hfa G3 H3.set hS;obtain⟨A,hA⟩:∃A,A=fp p.s ((cG p).getD j []) j k f:=⟨_,rfl⟩;rw[←hA]at hap;have hUd:(us.map bW).drop j=bW X::(us.drop (j+1)).map bW:=by
        rw[←List.map_drop,ie (show j<us.length by omega),eT,←hX]
       obtain⟨U,hU⟩:∃U,U=us.map bW:=⟨_,rfl⟩;have hUl:j+1≤U.length:=(by rw[hU,cN];omega);rw[←hU]at hrow3 hUd;simp only[bW]at hap hUd;have hCt:C.take 8=cs:=ht;have w2:=bU (i:=j) (by omega);simp -implicitDefEqProofs[g0,g1,g5,g6,g7,hjm,hb,hl,hCt,hrow3,hUl,hUd];refine hap.mono ?_;rintro r G4 ⟨E4,hr⟩;obtain⟨ax,cx,rfl⟩:=hr.shape;have hrow4:G4.f bn= .row true 22 U:=(by rw[E4.f _ L.n1];exact hrow3);have hts3:=nT bW us j (ax,A.length,cx) (by omega);rw[←hU]at hts3;simp only[bW]at hts3;simp -implicitDefEqProofs[aJ,g0,g1,g5,g6,g7,hjm,hrow4,hUl,w2];intro _;rw[hts3];exact⟨m-(j+1),by omega,j+1,_,rfl,by omega,by omega,(E3.trans E4).dh hn0 _,L.step hf hkj (by omega) E4 (x':=(ax,A.length,cx)) (by rw[←hA];exact hr),by simp⟩
      ·have e:j=m:=(by omega);subst e;simp -implicitDefEqProofs[g0,g1,g6];exact⟨bn,us,E3,L,by simp⟩
    ·have hf:f= -1:=(by simpa using hc);subst hf;simp -implicitDefEqProofs[g0,g1,g5];have hnx:=mV p (-1) k m;refine⟨bn,vs.set k (none,0,0),E.dh hn0 _,⟨?_,hn0,hn1,by rw[hnx,lj];omega,fun i x d hi hx hd=>?_,?_⟩,by simp⟩
     ·simp only;rw[←hts];simp
     ·rw[List.getElem?_set_ne (by omega)]at hx;rw[abv p k m (k+1)]at hd;exact((hve i x d hx (N9 p (-1) k i hd hi)).ext E).eY (jl G bn _) (nP hrow)
     ·exact⟨_,List.getElem?_set_self (by omega),.inl ⟨rfl,rfl⟩⟩
  ·rintro⟨T,⟨x,G⟩⟩ ⟨bn,us,E,L,g0,g1,g6⟩;simp at E L g0 g1 g6;have HG:=H.ext E;obtain⟨hb,hset,bI,bQ,xA,xC,n0,n1,n2,pL⟩:=HG;have hne1:¬b1=b:=fun e=>(by rw[e,hb]at bI;cases bI);have hne2:¬b2=b:=fun e=>(by rw[e,hb]at bQ;cases bQ);have hne3:¬b2=b1:=fun e=>(by rw[e,bI]at bQ;cases bQ);have hne1':¬b=b1:=fun e=>hne1 e.symm;have hne2':¬b=b2:=fun e=>hne2 e.symm;have hne3':¬b1=b2:=fun e=>hne3 e.symm;have hbn1:¬bn=b1:=fun e=>(by have:=L.row;rw[e,bI]at this;cases this);have hbn2:¬bn=b2:=fun e=>(by have:=L.row;rw[e,bQ]at this;cases this);have hbn0:¬bn=b:=fun e=>(by have:=L.row;rw[e,hb]at this;cases this);have en:=E.n;rw[←hk]at hb;obtain⟨y1,y2,y3,y4,y5,y6,y7,y8,y9,y10,y11,y12,y13,y14,y15,y16,y17,y18,hcs⟩:=hset.shape;rw[hcs]at hb;simp only[dp,dA]at hb;obtain⟨a,ha⟩:∃a:cO,a=(some ⟨bn,0,none⟩,m,m):=⟨_,rfl⟩;have hlen:=I.ok.len;have hwl:=pL.1;have hr1:List.range 1=[0]:=rfl;have i0:¬b=G.n:=(by omega);have i1:¬b1=G.n:=(by omega);have i2:¬b2=G.n:=(by omega);have j0:¬b=G.n+1:=(by omega);have j1:¬b1=G.n+1:=(by omega);have j2:¬b2=G.n+1:=(by omega);have k0:¬b=G.n+1+1:=(by omega);have k1:¬b1=G.n+1+1:=(by omega);have k2:¬b2=G.n+1+1:=(by omega);have l0:¬b=G.n+1+1+1:=(by omega);have m1:¬G.n=b1:=(by omega);have m2:¬G.n+1=b1:=(by omega);have m3:¬G.n+1+1=b2:=(by omega);have m4:¬G.n+1=b2:=(by omega);have m5:¬G.n=b2:=(by omega);have m6:¬G.n=G.n+1+1:=(by omega);have m7:¬G.n+1=G.n+1+1+1:=(by omega);have m8:¬G.n+1=b:=(by omega);have m9:¬G.n+1+1=b:=(by omega);have m10:¬G.n+1+1+1=b:=(by omega);obtain⟨W1,hW1⟩:∃W1,W1=ws.flatMap fF++fF a:=⟨_,rfl⟩;obtain⟨W2,hW2⟩:∃W2,W2=p.p.flatMap ab++ab f:=⟨_,rfl⟩;simp only[sZ,qg];simp -implicitDefEqProofs[g0,g1,g6];refine wL (fun σ=>wG h b b1 b2 p f cs ws k m σ.m.h) ?_ ?_
   ·rw[jA,jA,jA,uS];refine⟨?_,?_,?_,trivial⟩
    ·have hA:=rK (G:=G.new (.row true 329 (fF a))) zH (xs:=ws) (b1:=b1) (c:=c1) (r:=r1) (by simp[i1,j1,bI]) a (b:=G.n) (w:=true) (by simp) (by omega);rw[←hW1]at hA;have hB:=rK (G:=(((G.new (.row true 329 (fF a))).set b1 .dead).new (.row true 329 W1)).new (.row true 3 (ab f))) kK (xs:=p.p) (b1:=b2) (c:=c2) (r:=r2) (by simp[i2,j2,k2,hne3,bQ]) f (b:=G.n+1+1) (w:=true) (by simp[m1,m2,m6]) (by omega);rw[←hW2]at hB;simp only[fF,ab,ha,hwl,←hk]at hA hB;simp -implicitDefEqProofs[g0,g1,g6,hb,aP,hr1,hA,hB,i0,i1,i2,j0,j1,j2,k0,k1,k2,l0,hne1,hne2,hne3,hne1',hne2',hne3'];rw[mN];refine A4 H ok E L (b1':=G.n+1) (b2':=G.n+1+1+1) rfl rfl (fun x hx a0 a1 a2=>?_) ?_ ?_ ?_ (by omega) (by omega) (by omega) (by omega)
     ·have z0:¬x=G.n:=(by omega);have z1:¬x=G.n+1:=(by omega);have z2:¬x=G.n+1+1:=(by omega);have z3:¬x=G.n+1+1+1:=(by omega);simp[a0,a1,a2,z0,z1,z2,z3]
     ·simp[hcs]
     ·rw[←ha,←hW1];simp[m1,m2,m3,m4,m5,m6,m7,m8,m9,m10]
     ·rw[←hW2];simp[m1,m2,m3,m4,m5,m6,m7,m8,m9,m10]
    ·have hA:=rK (G:=(G.new (.row true 329 (fF a))).new (.row true 3 (ab f))) zH (xs:=ws) (b1:=b1) (c:=c1) (r:=r1) (by simp[i1,j1,bI]) a (b:=G.n) (w:=true) (by simp) (by omega);rw[←hW1]at hA;have hB:=rK (G:=(((G.new (.row true 329 (fF a))).new (.row true 3 (ab f))).set b1 .dead).new (.row true 329 W1)) kK (xs:=p.p) (b1:=b2) (c:=c2) (r:=r2) (by simp[i2,j2,k2,hne3,bQ]) f (b:=G.n+1) (w:=true) (by simp[m1,m2,m6]) (by omega);rw[←hW2]at hB;simp only[fF,ab,ha,hwl,←hk]at hA hB;simp -implicitDefEqProofs[g0,g1,g6,hb,aP,hr1,hA,hB,i0,i1,i2,j0,j1,j2,k0,k1,k2,l0,hne1,hne2,hne3,hne1',hne2',hne3'];rw[mN];refine A4 H ok E L (b1':=G.n+1+1) (b2':=G.n+1+1+1) rfl rfl (fun x hx a0 a1 a2=>?_) ?_ ?_ ?_ (by omega) (by omega) (by omega) (by omega)
     ·have z0:¬x=G.n:=(by omega);have z1:¬x=G.n+1:=(by omega);have z2:¬x=G.n+1+1:=(by omega);have z3:¬x=G.n+1+1+1:=(by omega);simp[a0,a1,a2,z0,z1,z2,z3]
     ·simp[hcs]
     ·rw[←ha,←hW1];simp[m1,m2,m3,m4,m5,m6,m7,m8,m9,m10]
     ·rw[←hW2];simp[m1,m2,m3,m4,m5,m6,m7,m8,m9,m10]
    ·have hA:=rK (G:=(G.new (.row true 3 (ab f))).new (.row true 329 (fF a))) zH (xs:=ws) (b1:=b1) (c:=c1) (r:=r1) (by simp[i1,j1,bI]) a (b:=G.n+1) (w:=true) (by simp) (by omega);rw[←hW1]at hA;have hB:=rK (G:=(((G.new (.row true 3 (ab f))).new (.row true 329 (fF a))).set b1 .dead).new (.row true 329 W1)) kK (xs:=p.p) (b1:=b2) (c:=c2) (r:=r2) (by simp[i2,j2,k2,hne3,bQ]) f (b:=G.n) (w:=true) (by simp[m1,m2,m6]) (by omega);rw[←hW2]at hB;simp only[fF,ab,ha,hwl,←hk]at hA hB;simp -implicitDefEqProofs[g0,g1,g6,hb,aP,hr1,hA,hB,i0,i1,i2,j0,j1,j2,k0,k1,k2,l0,hne1,hne2,hne3,hne1',hne2',hne3'];rw[mN];refine A4 H ok E L (b1':=G.n+1+1) (b2':=G.n+1+1+1) rfl rfl (fun x hx a0 a1 a2=>?_) ?_ ?_ ?_ (by omega) (by omega) (by omega) (by omega)
     ·have z0:¬x=G.n:=(by omega);have z1:¬x=G.n+1:=(by omega);have z2:¬x=G.n+1+1:=(by omega);have z3:¬x=G.n+1+1+1:=(by omega);simp[a0,a1,a2,z0,z1,z2,z3]
     ·simp[hcs]
     ·rw[←ha,←hW1];simp[m1,m2,m3,m4,m5,m6,m7,m8,m9,m10]
     ·rw[←hW2];simp[m1,m2,m3,m4,m5,m6,m7,m8,m9,m10]
   ·rintro⟨T,⟨x,G⟩⟩ Q;simp at Q;simp -implicitDefEqProofs;rw[←hm];exact Q
theorem Ja (l:List (Int×Int)) (i:Nat):∀e∈eZ l i,∃j q,l[j]? =some q∧e=⟨.int .i64 q.1,.int .i64 q.2,i+j⟩:=by
 induction l generalizing i with
 |nil=>intro e h;cases h
 |cons a r ih=>
  intro e h;simp only[eZ,cE]at h;rcases h with rfl|h
  ·exact⟨0,a,rfl,rfl⟩
  ·obtain⟨j,q,h1,h2⟩:=ih (i+1) e h;exact⟨j+1,q,by simpa using h1,by rw[h2];congr 1;omega⟩
theorem XG (l:List (Int×Int)) (i j:Nat) {q:Int×Int} (h:l[j]? =some q):(⟨.int .i64 q.1,.int .i64 q.2,i+j⟩:MapEntry)∈eZ l i:=by
 induction l generalizing i j with
 |nil=>simp at h
 |cons a r ih=>
  cases j with
  |zero=>
   simp only[List.getElem?_cons_zero,aw]at h;subst h;simp[eZ]
  |succ j=>
   have:=ih (i+1) j (by simpa using h);rw[show i+1+j=i+(j+1) by omega]at this;simp[eZ,this]
def tH (s:bO) (k i:Nat) (f:Int):Bool:=match s.pins[i]? with
 |some q=>dS s.v (s.l.getD k default) f (s.l.getD q.1.toNat default) q.2
 |none=>true
def lx (s:bO) (k:Nat) (seen:Array Nat):List Int:=(ij s.v s.us (s.l.getD k default)).filter fun f=>(List.range s.pins.length).all fun i=> !seen.contains i || tH s k i f
theorem WS (s:bO) (k:Nat):lx s k #[]=ij s.v s.us (s.l.getD k default):=by
 unfold lx;rw[List.filter_eq_self];intro f _;rw[cq];intro i _;simp
theorem WT (s:bO) (k:Nat) (seen:Array Nat) {i:Nat} {q:Int×Int} (hq:s.pins[i]? =some q):lx s k (seen.push i)=fp s (lx s k seen) k q.1.toNat q.2:=by
 unfold lx fp;rw[List.filter_filter];refine List.filter_congr fun f _=>?_;have hi:i<s.pins.length:=(cY.1 hq).1;rw[Bool.eq_iff_iff,bX,cq,cq];have hc:tH s k i f=dS s.v (s.l.getD k default) f (s.l.getD q.1.toNat default) q.2:=by unfold tH;rw[hq]
 constructor
 ·intro h;refine⟨?_,fun j hj=>?_⟩
  ·have:=h i (dv.2 hi);rw[hc]at this;simpa using this
  ·have:=h j hj;simp only[kG,Bool.not_eq_true',Array.contains_push]at this ⊢;rcases this with z|z
   ·simp only[Bool.or_eq_false_iff]at z;exact .inl z.1
   ·exact .inr z
 ·rintro⟨h1,h2⟩ j hj;have:=h2 j hj;simp only[kG,Bool.not_eq_true',Array.contains_push]at this ⊢;by_cases e:j=i
  ·subst e;right;rw[hc];exact h1
  ·rcases this with z|z
   ·left;simp[e];simpa using z
   ·exact .inr z
theorem Js (s:bO) (k:Nat):∀(r:List (Int×Int)) (A:List Int),r.foldl (fun d q=>fp s d k q.1.toNat q.2) A=A.filter fun f=>r.all fun q=>dS s.v (s.l.getD k default) f (s.l.getD q.1.toNat default) q.2:=by
 intro r;induction r with
 |nil=>intro A;exact(List.filter_eq_self.2 (fun _ _=>rfl)).symm
 |cons q r ih=>
  intro A;rw[List.foldl_cons,ih];unfold fp;rw[List.filter_filter];refine List.filter_congr fun f _=>?_;rw[List.all_cons,Bool.and_comm]
theorem WR (s:bO) (k:Nat) (seen:Array Nat) (h:∀i,i<s.pins.length→seen.contains i=true):lx s k seen=s.pins.foldl (fun d q=>fp s d k q.1.toNat q.2) (ij s.v s.us (s.l.getD k default)):=by
 rw[Js];unfold lx;refine List.filter_congr fun f _=>?_;rw[Bool.eq_iff_iff,cq,cq];constructor
 ·intro z q hq;obtain⟨i,hi,e⟩:=List.getElem_of_mem hq;have:=z i (dv.2 hi);rw[h i hi]at this;unfold tH at this;rw[av hi,e]at this;simpa using this
 ·intro z i hi;have hi:=dv.1 hi;have:=z _ (fy hi);unfold tH;rw[av hi];simp only[this,Bool.or_true]
def xD (n:Nat) (seen:Array Nat):Nat:=((List.range n).filter fun i=> !seen.contains i).length
theorem ZG (n:Nat) (seen:Array Nat) {i:Nat} (hi:i<n) (hs:seen.contains i=false):xD n (seen.push i)<xD n seen:=by
 unfold xD;have e:((List.range n).filter fun j=> !(seen.push i).contains j)=((List.range n).filter fun j=> !seen.contains j).filter fun j=>decide (j≠i):=by
  rw[List.filter_filter];refine List.filter_congr fun j _=>?_;rw[Array.contains_push];by_cases q:j=i
  ·subst q;simp
  ·simp[q]
 rw[e,List.length_filter_lt_length_iff_exists];exact⟨i,ig.2 ⟨dv.2 hi,by rw[hs];rfl⟩,by simp⟩
def xh (e:TypeId):aZ→aZ
 | .row w e' cs=>if e'=e then .row false e' cs else .row w e' cs
 |c=>c
def aa.iB (h:aa) (lo hi:Nat) (e:TypeId):aa:={h with f:=fun x=>if lo≤x∧x<hi then xh e (h.f x)else h.f x}
theorem rX (h:aa) {lo hi:Nat} {e:TypeId} {x:Nat} (hx:x<lo∨hi≤x):(aa.iB h lo hi e).f x=h.f x:=by
 unfold aa.iB;simp only;rw[if_neg (by omega)]
theorem tK (h:aa) {lo hi:Nat} {e:TypeId} {x:Nat} (h1:lo≤x) (h2:x<hi) {w:Bool} {cs:List Value} (hx:h.f x= .row w e cs):(aa.iB h lo hi e).f x= .row false e cs:=by
 unfold aa.iB;simp only;rw[if_pos ⟨h1,h2⟩,hx];simp[xh]
theorem pD (h:aa) {lo hi:Nat} {e:TypeId} {x:Nat} (hx:∀w cs,h.f x≠.row w e cs):(aa.iB h lo hi e).f x=h.f x:=by
 unfold aa.iB;simp only;split
 ·cases q:h.f x with
  |row w e' cs=>
   have:¬e'=e:=fun z=>hx w cs (by rw[←z];exact q);simp[xh,this]
  |_=>simp[xh]
 ·rfl
theorem qJ (h:aa) (lo hi:Nat) (e:TypeId):Wk h (aa.iB h lo hi e):=by
 refine⟨rfl,rfl,fun x=>?_⟩;cases q:h.f x with
 |row w e' cs=>
  by_cases r:lo≤x∧x<hi
  ·by_cases z:e'=e
   ·subst z;rw[tK h r.1 r.2 q];cases w with
    |false=>exact .inl rfl
    |true=>exact .inr ⟨_,_,rfl,rfl⟩
   ·rw[pD h (fun w' cs' a=>by rw[q]at a;cases a;exact z rfl),q];exact .inl rfl
  ·rw[rX h (by omega),q];exact .inl rfl
 |_=>rw[pD h (fun w' cs' a=>by rw[q]at a;cases a),q];exact .inl rfl
def jx (h G:aa) (v:Value) (d:List Int):Prop:=aK 3 ab G v d∨cL 3 ab h G v d
theorem jx.ext {h G G':aa} {v:Value} {d:List Int} (H:jx h G v d) (E:Ext G G'):jx h G' v d:=by
 rcases H with H|H
 ·exact .inl (H.ext E)
 ·exact .inr (H.ext E)
theorem jx.set {h G:aa} {v:Value} {d:List Int} (H:jx h G v d) {b:Nat} (hb:∀w cs,G.f b≠.row w 3 cs) (x:aZ):jx h (G.set b x) v d:=by
 rcases H with H|⟨ad,rfl,H⟩
 ·obtain⟨ad,c,h1,h2,h3⟩:=H;refine .inl ⟨ad,c,h1,h2,?_⟩;rcases h3 with h3|⟨b',off,cells,rest,z1,z2,z3⟩
  ·exact .inl h3
  ·refine .inr ⟨b',off,cells,rest,z1,?_,z3⟩;rw[lB _ _ (fun e=>hb _ _ (by rw[←e];exact z2))];exact z2
 ·refine .inr ⟨ad,rfl,?_⟩;rcases H with H|⟨b',z1,z2,z3⟩
  ·exact .inl H
  ·refine .inr ⟨b',z1,?_,z3⟩;rw[lB _ _ (fun e=>hb _ _ (by rw[←e];exact z2))];exact z2
theorem jx.iB {h G F:aa} {v:Value} {d:List Int} (H:jx h G v d) (E:Ext G F):aK 3 ab (aa.iB F h.n G.n 3) v d:=by
 rcases H with H|⟨ad,rfl,H⟩
 ·exact(H.ext E).wk (qJ F _ _ _)
 ·rcases H with⟨rfl,rfl⟩|⟨b',rfl,z2,z3,z4⟩
  ·exact⟨none,0,rfl,fun _=>rfl,.inl rfl⟩
  ·have hF:F.f b'= .row true 3 (d.flatMap ab):=(by rw[E.f _ z4];exact z2);exact⟨_,d.length,rfl,fun z=>(by cases z),.inr ⟨b',0,_,[],rfl,tK F z3 z4 hF,by simp,by simp,de z4 E.n⟩⟩
theorem jx.nil {h G:aa}:jx h G (.slice none 0 0) []:=.inl aK.nil
theorem iV.push {p:cn} (I:iV p) (f:Int):iV (fM p f):=by
 have hk:=yj I.ok f;rw[A0]at hk ⊢;split
 ·rename_i q;rw[if_pos q]at hk;have hkl:p.p.length<p.s.l.length:=by unfold nM at q;simp at q;exact q.1
  have hn:=I.now;refine⟨hk,I.sm,fun D hD=>?_,by simp;omega,I.ll,I.may⟩;simp only[ei,eo]at hD;rcases hD with hD|rfl
  ·exact I.lens D hD
  ·refine⟨by rw[mV];exact hn.1,fun d hd=>?_⟩;have hget:∀i,((cG p).getD i []).length≤1048577:=fun i=>by
    rw[bB];cases q:(cG p)[i]? with
    |none=>simp
    |some d=>exact hn.2 d (dY q)
   unfold gr at hd;obtain⟨i,_,e⟩:=dI.1 hd;rw[←e];split
   ·split<;>simp
   ·split
    ·exact eW (Cs _ _ _ _ _) (hget i)
    ·exact hget i
 ·exact I
theorem iV.new {v:aj} {l:List aV} {pins:List (Int×Int)} {s:bO} (h:fL v l pins=some s):iV (fb s):=by
 have M:=Ac h;obtain⟨e,P,hm,ha⟩:=pH h;unfold fV at ha;rw[bX]at ha;have hsl:s.l=l:=by rw[e]
 have hsv:s.v=v:=by rw[e]
 refine⟨by rw[e];exact sj P,M,fun D hD=>?_,by simp[fb],?_,?_⟩
 ·simp only[fb,eo]at hD;subst hD;refine⟨by simp[fb],fun d hd=>?_⟩;obtain⟨i,_,ed⟩:=dI.1 hd;rw[←ed];have hal:(ij s.v s.us (s.l.getD i default)).length≤1048577:=by
   unfold ij;rw[cN];have h1:=List.length_filter_le (fun k:Nat=>(cS s.v s.us (s.l.getD i default) k).isSome) (List.range s.v.ag.length);rw[qy]at h1;have h2:=M.aQ.may.len;omega
  split
  ·simp
  ·rw[Js];exact eW (List.length_filter_le _ _) hal
 ·show s.l.length≤512;rw[hsl];exact of_decide_eq_true ha.1
 ·show∀q∈s.l,ez q=true;rw[hsl];intro q hq;exact cq.1 ha.2 q hq
def ou (s:bO) (k:Nat):List Int:=match eI s k with
 |some a=>[a]
 |none=>s.pins.foldl (fun d q=>fp s d k q.1.toNat q.2) (ij s.v s.us (s.l.getD k default))
theorem NQ (s:bO):fb s=⟨s,[(List.range s.l.length).map (ou s)],[]⟩:=rfl
structure np (h G:aa) (bl:Nat) (us:List cO) (s:bO) (m k:Nat):Prop where
 row:G.f bl= .row true 22 (us.map bW)
 n0:h.n≤bl
 n1:bl<G.n
 len:us.length=m
 gk:∀(i:Nat) x,us[i]? =some x→i≠k→jx h G (bW x) (if i<k then ou s i else[])
theorem np.put {h G G2:aa} {bl:Nat} {us:List cO} {s:bO} {m k:Nat} (L:np h G bl us s m k) (E:Ext G G2) (x':cO):
  np h (G2.set bl (.row true 22 ((us.set k x').map bW))) bl (us.set k x') s m k:=by
 have hr2:G2.f bl= .row true 22 (us.map bW):=by rw[E.f _ L.n1];exact L.row
 refine⟨by simp,L.n0,de L.n1 E.n,by simp[L.len],fun i x hx hi=>?_⟩;rw[List.getElem?_set_ne (fun e=>hi e.symm)]at hx;exact((L.gk i x hx hi).ext E).set (fun w cs e=>by rw[hr2]at e;cases e) _
theorem np.next {h G:aa} {bl:Nat} {us:List cO} {s:bO} {m k:Nat} (L:np h G bl us s m k) {x':cO} (hx:us[k]? =some x') (hd:jx h G (bW x') (ou s k)) (hz:∀x,us[k+1]? =some x→x=(none,0,0)):np h G bl us s m (k+1)∧True:=by
 refine⟨⟨L.row,L.n0,L.n1,L.len,fun i x hxi hi=>?_⟩,trivial⟩;by_cases q:i=k
 ·subst q;rw[hx]at hxi;cases hxi;rw[if_pos (by omega)];exact hd
 ·have:=L.gk i x hxi q;by_cases z:i<k
  ·rw[if_pos z]at this;rw[if_pos (by omega)];exact this
  ·rw[if_neg z]at this;rw[if_neg (by omega)];exact this
def RJ (h:aa) (cs:List Value) (s:bO) (bl:Nat) (lv:Value) (m n:Nat) (σ:St):Prop:=∃(k:Nat) (us:List cO),n=m-k∧k≤m∧Ext h σ.m.h∧np h σ.m.h bl us s m k∧(∀x,us[k]? =some x→x=(none,0,0))∧(∀i x,k<i→us[i]? =some x→x=(none,0,0))∧
 σ.t.get 1=some lv∧σ.t.get 8=some (.pointer (some ⟨8,0,some 0⟩))∧σ.t.get 10=some (.slice (some ⟨bl,0,none⟩) m m)∧σ.t.get 29=some (.int .i64 (m:Nat))∧σ.t.get 30=some (.int .i64 (k:Nat))∧σ.m.x.look 8=some (242,cs)
theorem XF (l:List (Int×Int)) (i j:Nat) {q:Int×Int} (h:l[j]? =some q):(eZ l i).find? (fun e=>e.born==i+j)=some ⟨.int .i64 q.1,.int .i64 q.2,i+j⟩:=by
 induction l generalizing i j with
 |nil=>simp at h
 |cons a r ih=>
  cases j with
  |zero=>
   simp only[List.getElem?_cons_zero,aw]at h;subst h;simp[eZ]
  |succ j=>
   have:=ih (i+1) j (by simpa using h);rw[show i+1+j=i+(j+1) by omega]at this;rw[eZ,List.find?_cons];simp only[show(i==i+(j+1))=false from by simp];exact this
def RK (h:aa) (cs:List Value) (s:bO) (bl it mb:Nat) (lv:Value) (m k n:Nat) (σ:St):Prop:=∃(seen:Array Nat) (us:List cO) (x':cO),n=xD s.pins.length seen∧Ext h σ.m.h∧np h σ.m.h bl us s m k∧(∀i x,k<i→us[i]? =some x→x=(none,0,0))∧us[k]? =some x'∧aK 3 ab σ.m.h (bW x') (lx s k seen)∧
 h.n≤it∧it<σ.m.h.n∧σ.m.h.f it= .obj (.mapIter (some mb) s.pins.length seen s.pins.length)∧
 σ.t.get 1=some lv∧σ.t.get 8=some (.pointer (some ⟨8,0,some 0⟩))∧σ.t.get 10=some (.slice (some ⟨bl,0,none⟩) m m)∧σ.t.get 11=some (.int .i64 (k:Nat))∧σ.t.get 29=some (.int .i64 (m:Nat))∧σ.t.get 30=some (.int .i64 (k:Nat))∧σ.t.get 58=some (.pointer (some ⟨it,0,none⟩))∧σ.m.x.look 8=some (242,cs)
theorem U9 {C:List Value} (hC:rD C) (x y n1 n2:Value):List.take 9 (C++x::List.drop 9 (C++[n1,n2]))++y::List.drop 10 (C++x::List.drop 9 (C++[n1,n2]))=C++[x,y]:=by
 obtain⟨a1,m1,c1,g,r,a2,m2,c2,a3,m3,c3,a4,m4,c4,a5,m5,c5,mb,rfl⟩:=hC;rfl
def th (h:aa) (r:Option bO) (v:Value) (h':aa):Prop:=Ext h h'∧match r with
 |none=>v= .tuple #[.pointer none,.int .i64 1]
 |some s=>∃b b1 b2 cs c1 c2 ws r1 r2,v= .tuple #[.pointer (some ⟨b,0,none⟩),.int .i64 0]∧gD h' b b1 b2 (fb s) cs c1 c2 ws r1 r2∧h.n≤b∧h.n≤b1∧h.n≤b2
def Ca (h:aa) (s:bO) (v:Value) (h':aa):Prop:=∃(G0:aa) (us:List cO) (bl:Nat) (cs:List Value),Ext h G0∧np h G0 bl us s s.l.length s.l.length∧jM G0 s cs∧v= .tuple #[.pointer (some ⟨G0.n+1+1,0,none⟩),.int .i64 0]∧
 h'=(((G0.new (.row true 329 (fF (some ⟨bl,0,none⟩,s.l.length,s.l.length)))).new (.row true 3 [])).new (.row true 334 (cs++[.slice (some ⟨G0.n,0,none⟩) 1 1,.slice (some ⟨G0.n+1,0,none⟩) 0 0])))
theorem jM.wk {h h':aa} {s:bO} {cs:List Value} (H:jM h s cs) (W:Wk h h'):jM h' s cs:=by
 obtain⟨hc,lv,mb,rfl,h1,h2,h3,h4⟩:=H;refine⟨hc,lv,mb,rfl,h1.wk W,h2.wk W,?_,by rw[W.n];exact h4⟩;rcases W.f mb with e|⟨e,c,q,_⟩
 ·rw[e];exact h3
 ·rw[h3]at q;cases q
theorem aaW {h h':aa} {s:bO} {v:Value} (Q:Ca h s v h'):∃h'',Wk h' h''∧th h (some s) v h'':=by
 obtain⟨G0,us,bl,cs,E,L,S,hv,hh⟩:=Q;obtain⟨m,hm⟩:∃m,m=s.l.length:=⟨_,rfl⟩;rw[←hm]at L hh;have E2:Ext G0 h':=by rw[hh];exact(((Ext.new G0 _).bN _).bN _)
 have en:=E.n;have hn':h'.n=G0.n+1+1+1:=by rw[hh];rfl
 obtain⟨F,hF⟩:∃F,F=aa.iB (aa.iB h' h.n G0.n 3) h.n G0.n 22:=⟨_,rfl⟩;have W:Wk h' F:=by rw[hF];exact(qJ h' _ _ _).trans (qJ _ _ _ _)
 have hout:∀x,(x<h.n∨G0.n≤x)→F.f x=h'.f x:=fun x hx=>by
  rw[hF,rX _ (by omega),rX _ (by omega)]
 have l0:=L.n0;have l1:=L.n1;have hbl:F.f bl= .row false 22 (us.map bW):=by
  rw[hF];have:h'.f bl= .row true 22 (us.map bW):=by rw[E2.f _ l1];exact L.row
  refine tK _ l0 l1 (w:=true) ?_;rw[pD h' (fun w cs' e=>by rw[this]at e;cases e)];exact this
 have hE:Ext h F:=⟨W.g.trans (E2.g.trans E.g),by rw[W.n,hn'];omega,fun x hx=>by rw[hout x (.inl hx),E2.f _ (by omega),E.f _ hx]⟩;have hlv:lP F (some ⟨bl,0,none⟩,m,m) ((List.range m).map (ou s)):=by
  refine⟨us,⟨some ⟨bl,0,none⟩,m,?_,fun z=>(by cases z),.inr ⟨bl,0,_,[],rfl,hbl,by rw[Aw];simp,by simp,by rw[W.n,hn'];omega⟩⟩,by simp[L.len],fun i x d hx hd=>?_⟩
  ·simp only[bW];rw[L.len]
  ·have hil:i<m:=by
    have:=(cY.1 hx).1;rw[L.len]at this;exact this
   rw[ix,List.getElem?_range hil]at hd
   simp only[fJ,aw]at hd
   have:=L.gk i x hx (by omega)
   rw[if_pos hil,hd]at this
   rw[hF]
   exact(this.iB E2).wk (qJ _ _ _ _)
 have g1:h'.f G0.n= .row true 329 (fF (some ⟨bl,0,none⟩,m,m)):=by rw[hh];simp[show¬G0.n=G0.n+1+1 by omega]
 have g2:h'.f (G0.n+1)= .row true 3 []:=by rw[hh];simp
 have g0:h'.f (G0.n+1+1)= .row true 334 (cs++[.slice (some ⟨G0.n,0,none⟩) 1 1,.slice (some ⟨G0.n+1,0,none⟩) 0 0]):=by rw[hh];simp
 refine⟨F,W,hE,G0.n+1+1,G0.n,G0.n+1,cs,1,0,[(some ⟨bl,0,none⟩,m,m)],[],[],hv,⟨?_,?_,?_,?_,a8 _,a8 _,by rw[W.n,hn'];omega,by rw[W.n,hn'];omega,by rw[W.n,hn'];omega,rfl,fun i w D hw hD=>?_⟩,by omega,by omega,by omega⟩
 ·rw[hout _ (by omega),g0];rfl
 ·exact(S.ext E2).wk W
 ·rw[hout _ (by omega),g1];rfl
 ·rw[hout _ (by omega),g2];rfl
 ·rw[NQ]at hD;simp only at hD;cases i with
  |zero=>
   simp only[List.getElem?_cons_zero,aw]at hw hD;subst hw;subst hD;rw[←hm];exact hlv
  |succ i=>simp at hw
theorem aaV (v:aj) (l:List aV) (pins:List (Int×Int)) (cs:List Value) (lv pv:Value) (h:aa) (H:kU h v l pins cs lv pv):
  ao PP 206 [.agg ⟨cs⟩,lv,pv] h (th h (fL v l pins)):=by
 refine ao.jT (post:=fun r h'=>match fL v l pins with
  |none=>th h none r h'
  |some s=>Ca h s r h') ?_ (fun r h' Q=>by
  cases q:fL v l pins with
  |none=>rw[q]at Q;exact⟨h',Wk.refl _,Q⟩
  |some s=>rw[q]at Q;exact aaW Q)
 refine aC mix (aD Tryz.func206) rfl rfl rfl aei ?_;simp only[ai,Tryz.f206];have hin:=H.Ad;have hcl:=H.dF.len;have hct:cs.take 5=cs:=bZ (by omega);have hls:=H.ls;have hll:=H.ll;obtain⟨ad2,c2,rfl⟩:=H.ls.shape;obtain⟨ad3,c3,rfl⟩:=H.ps.shape;simp -implicitDefEqProofs[hcl,hct];refine hin.mono ?_;rintro r G ⟨E,C,hC,rfl,hS⟩;have hCl:=hC.len;have hCo:=hC.one;have hCt:C.take 8=C:=bZ (by omega);cases q:fL v l pins with
 |none=>
  simp -implicitDefEqProofs[af,hCl,hCo];intro _;exact⟨E,rfl⟩
 |some s=>
  have hset:=hS s q;obtain⟨es,P,hmv,hal⟩:=pH q;have hsl:s.l=l:=by rw[es]
  have M:=Ac q;have I:=iV.new q;obtain⟨m,hm⟩:∃m,m=l.length:=⟨_,rfl⟩;have hz:=yM (.slice none 0 0) m;have hmx:m*24≤140737488355328:=by have:=I.ll;simp only[fb]at this;rw[hsl]at this;omega
  have h00:¬(m:Int)<0:=by omega
  have hu0:List.replicate m (Value.slice none 0 0)=(List.replicate m ((none,0,0):cO)).map bW:=by simp[bW]
  rw[←hm];simp -implicitDefEqProofs[af,hCl,hCo,hCt,oQ,dC,hz,hmx,h00];intro _;rw[hu0];have hbn:=E.n;obtain⟨bl,hbl⟩:∃bl,bl=G.n:=⟨_,rfl⟩;have hsn:s.l.length=m:=by rw[hsl,hm]
  obtain⟨lvp,mb,_,_,hH,hdr6,hdr7,hP,hmb,hmbn⟩:=hset.parts;have hdr7':C.drop 7=[.map (some mb)]:=hdr7;obtain⟨hc,hhc⟩:∃x,x=C.take 6:=⟨_,rfl⟩;rw[←hhc]at hH;have hhc':=hhc.symm;rw[←hbl];refine bL (RJ G C s bl (.slice ad2 m c2) m) _ ⟨0,List.replicate m (none,0,0),rfl,by omega,Ext.new G _,⟨by simp[hbl],by omega,by simp[hbl],by simp,fun i x hx hi=>?_⟩,fun x hx=>?_,fun i x _ hx=>?_,by simp⟩ ?_
  ·rw[List.getElem?_replicate]at hx;split at hx
   ·cases hx;exact jx.nil
   ·cases hx
  ·rw[List.getElem?_replicate]at hx;split at hx
   ·cases hx;rfl
   ·cases hx
  ·rw[List.getElem?_replicate]at hx;split at hx
   ·cases hx;rfl
   ·cases hx
  rintro n ⟨T,⟨x,G1⟩⟩ ⟨k,us,rfl,hk,E1,L,hz0,hz1,g1,g8,g10,g29,g30,x8⟩;simp at E1 L g1 g8 g10 g29 g30 x8;simp -implicitDefEqProofs[g1,g8,g10,g29,g30,x8];refine bY (fun hc2=>?_) (fun hc2=>?_)
  ·have hkm:k<m:=(by omega);have hlook:(pC 3 3 (.int .i64 (k:Int)) (eZ s.pins 0).toArray true).aR PP=some (.tuple #[.int .i64 ((eI s k).getD 0),.bool (eI s k).isSome]):=by
    rw[zM,AU,Option.isSome_map]
   have hmb1:G1.f mb= .obj (.map (eZ s.pins 0).toArray s.pins.length):=(by rw[E1.f _ hmbn];exact hmb);have w1:=bU (i:=k) (by omega);have hr1:List.range 1=[0]:=rfl;obtain⟨U,hU⟩:∃U,U=us.map bW:=⟨_,rfl⟩;have hrow:=L.row;rw[←hU]at hrow;have hul:=L.len;have hUl:k+1≤U.length:=(by rw[hU,cN];omega);have hblG:¬bl=G1.n:=(by have:=L.n1;omega);cases hpin:eI s k with
   |some a=>
    rw[hpin]at hlook;simp only[iJ,Option.isSome_some]at hlook;have hts:=nT bW us k (some ⟨G1.n,0,none⟩,1,1) (by omega);rw[←hU]at hts;simp only[bW]at hts;have hdn:ou s k=[a]:=(by unfold ou;rw[hpin]);simp -implicitDefEqProofs[g1,g8,g10,g29,g30,x8,hCl,hdr7',hmb1,hlook,aP,hr1,hkm,hblG,hrow,hUl,w1];rw[hts];have L2:=L.put (Ext.new G1 (.row true 3 [.int .i64 a])) (some ⟨G1.n,0,none⟩,1,1);have hx':(us.set k ((some ⟨G1.n,0,none⟩,1,1):cO))[k]? =some (some ⟨G1.n,0,none⟩,1,1):=List.getElem?_set_self (by omega);have hz2:∀i x,k<i→(us.set k ((some ⟨G1.n,0,none⟩,1,1):cO))[i]? =some x→x=(none,0,0):=fun i x hi hx=>hz1 i x hi (by rw[List.getElem?_set_ne (by omega)]at hx;exact hx);have hen:jx G ((G1.new (.row true 3 [.int .i64 a])).set bl (.row true 22 ((us.set k (some ⟨G1.n,0,none⟩,1,1)).map bW))) (bW (some ⟨G1.n,0,none⟩,1,1)) (ou s k):=by
     rw[hdn];refine .inr ⟨_,rfl,.inr ⟨G1.n,rfl,?_,E1.n,by simp⟩⟩;rw[lB _ _ (fun e=>hblG e.symm)];simp[ab]
    exact⟨m-(k+1),by omega,k+1,us.set k (some ⟨G1.n,0,none⟩,1,1),rfl,by omega,(E1.bN _).dh L.n0 _,(L2.next hx' hen (fun x hx=>hz2 _ x (by omega) hx)).1,fun x hx=>hz2 _ x (by omega) hx,fun i x hi hx=>hz2 i x (by omega) hx,by simp⟩
   |none=>
    rw[hpin]at hlook;simp only[Option.getD_none,Option.isSome_none]at hlook;have hdn:ou s k=s.pins.foldl (fun d q=>fp s d k q.1.toNat q.2) (ij s.v s.us (s.l.getD k default)):=(by unfold ou;rw[hpin]);have hti:l[k]? =some l[k]:=av (by omega);obtain⟨X,hX⟩:∃X,X=l[k]:=⟨_,rfl⟩;rw[←hX]at hti;have hgX:s.l.getD k default=X:=(by rw[hsl,bB,hti];rfl);rw[←hm]at hls;obtain⟨_,bp,op,cp,rp,rfl,hbp,hdp,hlp,hbpn⟩:=hls.at 2 me hti;have hbp1:G1.f bp= .row false 29 cp:=(by rw[E1.f _ (de hbpn E.n),E.f _ hbpn];exact hbp);have hkX:(cp.drop (op+k*2)).take 2=[.int .i64 X.size,.int .i64 X.du]:=(by rw[hdp];rfl);have aQ:=YH s.v s.us M.aQ hc X G1 (hH.ext E1);simp only[fh,al]at aQ;simp -implicitDefEqProofs[g1,g8,g10,g29,g30,x8,hCl,hdr7',hmb1,hlook,hkm,hhc',hbp1,hkX,hlp];refine aQ.mono ?_;rintro r G2 ⟨E2,hr⟩;obtain⟨ax,cx,rfl⟩:=hr.shape;obtain⟨A,hA⟩:∃A,A=ij s.v s.us X:=⟨_,rfl⟩;rw[←hA]at hr ⊢;have hrow2:G2.f bl= .row true 22 U:=(by rw[E2.f _ L.n1];exact hrow);have hts:=nT bW us k (ax,A.length,cx) (by omega);rw[←hU]at hts;simp only[bW]at hts;have hmb2:G2.f mb= .obj (.map (eZ s.pins 0).toArray s.pins.length):=(by rw[E2.f _ (de hmbn E1.n)];exact hmb1);have hmbl:¬mb=bl:=fun e=>(by rw[e,hrow2]at hmb2;cases hmb2);simp -implicitDefEqProofs[aJ,g1,g8,g10,g29,g30,x8,hCl,hdr7',hmb2,hmbl,hkm,hrow2,hUl,mZ,sK];intro _;have hts2:List.take k U++Value.slice ax A.length cx::List.drop (k+1) U=(us.set k (ax,A.length,cx)).map bW:=hts;rw[hts2];have L2:=L.put E2 (ax,A.length,cx);have E3:Ext G (G2.set bl (.row true 22 ((us.set k (ax,A.length,cx)).map bW))):=(E1.trans E2).dh L.n0 _;have C3:=jl G2 bl (.row true 22 ((us.set k (ax,A.length,cx)).map bW));have hz2:∀i x,k<i→(us.set k ((ax,A.length,cx):cO))[i]? =some x→x=(none,0,0):=fun i x hi hx=>hz1 i x hi (by rw[List.getElem?_set_ne (by omega)]at hx;exact hx);have hx':(us.set k ((ax,A.length,cx):cO))[k]? =some (ax,A.length,cx):=List.getElem?_set_self (by omega);have hS2:aK 3 ab (G2.set bl (.row true 22 ((us.set k (ax,A.length,cx)).map bW))) (bW (ax,A.length,cx)) (lx s k #[]):=by
     rw[WS,hgX,←hA];exact hr.eY C3 (nP hrow2)
    obtain⟨G3,hG3⟩:∃G3,G3=G2.set bl (.row true 22 ((us.set k (ax,A.length,cx)).map bW)):=⟨_,rfl⟩;have hn3:G3.n=G2.n:=(by rw[hG3];rfl);rw[←hG3]at L2 E3 hS2 ⊢;rw[←hn3];obtain⟨us2,hus2⟩:∃us2,us2=us.set k ((ax,A.length,cx):cO):=⟨_,rfl⟩;rw[←hus2]at L2 hz2 hx';have LN:∀{G4:aa},Ext G3 G4→np G G4 bl us2 s m k:=fun{G4} E4=>⟨by rw[E4.f _ L2.n1];exact L2.row,L2.n0,de L2.n1 E4.n,L2.len,fun i x hx hi=>(L2.gk i x hx hi).ext E4⟩;obtain⟨it,hit⟩:∃it,it=G3.n:=⟨_,rfl⟩;have hit0:G.n≤it:=(by rw[hit];exact E3.n);have hbit:¬bl=it:=(by have:=L2.n1;omega);have hmit:¬mb=it:=(by have:=hmbn;omega);rw[←hit];refine bL (RK G C s bl it mb (.slice (some ⟨bp,op,none⟩) m c2) m k) _ ⟨#[],us2,(ax,A.length,cx),rfl,E3.bN _,LN (Ext.new G3 _),hz2,hx',hS2.ext (Ext.new G3 _),hit0,by rw[hit];exact Nat.lt_succ_self _,by simp[hit]⟩ ?_;rintro n ⟨T,⟨x,G5⟩⟩ ⟨seen,us5,x5,rfl,E5,L5,hz5,hx5,hS5,_,it1,hitf,g1,g8,g10,g11,g29,g30,g58,x8⟩;simp at E5 L5 hS5 it1 hitf g1 g8 g10 g11 g29 g30 g58 x8;have hmb5:G5.f mb= .obj (.map (eZ s.pins 0).toArray s.pins.length):=(by rw[E5.f _ hmbn];exact hmb);simp -implicitDefEqProofs[g1,g8,g10,g11,g29,g30,g58,x8,hitf,hmb5,NV,oJ,xR];refine⟨fun e he=>?_,fun hall2=>?_,fun e he hne=>?_⟩
    ·obtain⟨j,q,hj,rfl⟩:=Ja _ _ e he;have:=(cY.1 hj).1;simpa using this
    ·have hd:lx s k seen=ou s k:=by
      rw[hdn];refine WR s k seen fun i hi=>?_;have:=hall2 _ (XG s.pins 0 i (av hi));simpa using this
     rw[hd]at hS5
     rw[w1]
     exact⟨m-(k+1),by omega,k+1,us5,rfl,by omega,E5,(L5.next hx5 (.inl hS5) (fun x hx=>hz5 _ x (by omega) hx)).1,fun x hx=>hz5 _ x (by omega) hx,fun i x hi hx=>hz5 i x (by omega) hx,by simp⟩
    ·obtain⟨j,q,hj,rfl⟩:=Ja _ _ e he;rw[jh]at hne ⊢;simp only at hne;have hfind:=XF s.pins 0 j hj;rw[jh]at hfind;have hjl:=(cY.1 hj).1;have hpl:s.pins=pins:=(by rw[es]);have hqm:q∈pins:=(by rw[←hpl];exact dY hj);obtain⟨qa,qf⟩:=q;obtain⟨e1,e2,e3⟩:=P.each _ hqm;simp only at e1 e2 e3;obtain⟨jn,rfl⟩:∃jn:Nat,qa=jn:=⟨qa.toNat,by omega⟩;have hsv:s.v=v:=(by rw[es]);have hsu:s.us=cd v:=(by rw[es]);simp only[jN]at e3;have hsit:=q8 e3;have hk1:k<s.l.length:=(by omega);have hj1:jn<s.l.length:=(by omega);have sz1:=I.size (k:=k) hk1;have uG:=I.size (k:=jn) hj1;simp only[NQ]at sz1 uG;have KS:Kp G5 (G5.set it (.obj (.mapIter (some mb) s.pins.length (seen.push j) s.pins.length))):=(Kp.refl G5).set (fun e cs z=>by rw[hitf]at z;cases z) _;have E6:Ext G (G5.set it (.obj (.mapIter (some mb) s.pins.length (seen.push j) s.pins.length))):=E5.dh hit0 _;have L6:np G (G5.set it (.obj (.mapIter (some mb) s.pins.length (seen.push j) s.pins.length))) bl us5 s m k:=
      ⟨by rw[lB _ _ hbit];exact L5.row,L5.n0,L5.n1,L5.len,fun i x hx hi=>(L5.gk i x hx hi).set (fun w cs z=>by rw[hitf]at z;cases z) _⟩
     have hap:=Ct s M C (bW x5) (lx s k seen) (by
      have h1:=List.length_filter_le (fun f=>(List.range s.pins.length).all fun i=> !seen.contains i || tH s k i f) (ij s.v s.us (s.l.getD k default));have h2:=List.length_filter_le (fun k':Nat=>(cS s.v s.us (s.l.getD k default) k').isSome) (List.range s.v.ag.length);have h3:=M.aQ.may.len;unfold lx;unfold ij at h1;rw[cN]at h1;rw[qy]at h2;unfold ij;omega) k jn qf hk1 hj1 (by omega) (by omega) (fun f hf=>by
       unfold lx at hf;have hf:=(ig.1 hf).1;unfold ij at hf;obtain⟨k',hk',rfl⟩:=dI.1 hf;have:=q8 (ig.1 hk').2;exact⟨this.2.2.2.1,this.2.2.2.2⟩) (by rw[hsl,hsv];exact⟨hsit.2.2.2.1,hsit.2.2.2.2⟩) _ (hset.ext E6) (hS5.kp KS)
     have hrow6:(G5.set it (.obj (.mapIter (some mb) s.pins.length (seen.push j) s.pins.length))).f bl= .row true 22 (us5.map bW):=L6.row;have hmb6:(G5.set it (.obj (.mapIter (some mb) s.pins.length (seen.push j) s.pins.length))).f mb= .obj (.map (eZ s.pins 0).toArray s.pins.length):=(by rw[lB _ _ hmit];exact hmb5);obtain⟨G6,hG6⟩:∃G6,G6=G5.set it (.obj (.mapIter (some mb) s.pins.length (seen.push j) s.pins.length)):=⟨_,rfl⟩;have hit6:G6.f it= .obj (.mapIter (some mb) s.pins.length (seen.push j) s.pins.length):=(by rw[hG6];simp);have hit61:it<G6.n:=(by rw[hG6];exact it1);rw[←hG6]at E6 L6 hap hrow6 hmb6 ⊢;have hul5:=L5.len;have hUd:(us5.map bW).drop k=bW x5::(us5.drop (k+1)).map bW:=by
      obtain⟨hlt,ex⟩:=cY.1 hx5;rw[←List.map_drop,ie hlt,eT,ex]
     obtain⟨U5,hU5⟩:∃U5,U5=us5.map bW:=⟨_,rfl⟩;have hU5l:k+1≤U5.length:=(by rw[hU5,cN];omega);rw[←hU5]at hrow6 hUd;simp only[bW]at hap hUd;simp -implicitDefEqProofs[sA,hit6,hmb6,hfind,g1,g8,g10,g11,g29,g30,g58,x8,hCl,hCt,hkm,hrow6,hU5l,hUd];refine hap.mono ?_;rintro r G7 ⟨E7,hr7⟩;obtain⟨ay,cy,rfl⟩:=hr7.shape;have hd7:=WT s k seen hj;simp only[jN]at hd7;rw[←hd7]at hr7 ⊢;obtain⟨B,hB⟩:∃B,B=lx s k (seen.push j):=⟨_,rfl⟩;rw[←hB]at hr7 ⊢;have hrow7:G7.f bl= .row true 22 U5:=(by rw[E7.f _ L6.n1];exact hrow6);have hts7:=nT bW us5 k (ay,B.length,cy) (by omega);rw[←hU5]at hts7;simp only[bW]at hts7;simp -implicitDefEqProofs[aJ,g1,g8,g10,g11,g29,g30,g58,x8,hkm,hrow7,hU5l];intro _;have hts8:List.take k U5++Value.slice ay B.length cy::List.drop (k+1) U5=(us5.set k (ay,B.length,cy)).map bW:=hts7;rw[hts8];have hnc:seen.contains j=false:=(by simpa using hne);refine⟨_,ZG s.pins.length seen hjl hnc,seen.push j,us5.set k (ay,B.length,cy),(ay,B.length,cy),rfl,(E6.trans E7).dh L5.n0 _,L6.put E7 _,fun i x hi hx=>hz5 i x hi (by rw[List.getElem?_set_ne (by omega)]at hx;exact hx),List.getElem?_set_self (by omega),?_,hit0,de hit61 E7.n,?_,by simp⟩
     ·rw[←hB];exact hr7.eY (jl G7 bl _) (nP hrow7)
     ·simp only;rw[lB _ _ (fun e=>hbit e.symm),E7.f _ hit61];exact hit6
  ·have e:k=m:=(by omega);subst e;have hr1:List.range 1=[0]:=rfl;simp -implicitDefEqProofs[g1,g8,g10,g29,g30,x8,hCl,hCt,hCo,aP,hr1];rw[U9 hC];refine⟨G1,us,bl,C,E.trans E1,?_,hset.ext E1,rfl,by rw[hsn];rfl⟩;rw[hsn];exact⟨L.row,by have:=L.n0;omega,L.n1,L.len,fun i x hx hi=>by
    rcases L.gk i x hx hi with z|⟨ad,z1,z2⟩
    ·exact .inl z
    ·refine .inr ⟨ad,z1,?_⟩;rcases z2 with z2|⟨b',y1,y2,y3,y4⟩
     ·exact .inl z2
     ·exact .inr ⟨b',y1,y2,by omega,y4⟩⟩
abbrev mw:=cO×Nat
def gA (x:mw):List Value:=[.slice x.1.1 x.1.2.1 x.1.2.2,.int .i64 (x.2:Nat)]
theorem Pf (x:mw):(gA x).length=2:=rfl
theorem Xr:lh 288 337 2 32 gA:=⟨IU,P9,⟨_,BM,rfl⟩,CF,GO,by decide,by decide,Pf,fun _=>rfl⟩
def eM {α:Type} (e:TypeId) (enc:α→List Value) (h0 h:aa) (o:Option Nat) (xs:List α) (v:Value):Prop:=match o with
 |none=>v= .slice none 0 0∧xs=[]
 |some b=>(∃c r,v= .slice (some ⟨b,0,none⟩) xs.length c∧h.f b= .row true e (xs.flatMap enc++r))∧h0.n≤b∧b<h.n
section
variable {α:Type} {t e sz by_:Nat} {enc:α→List Value} {h0 h h':aa} {o:Option Nat} {xs:List α} {v:Value}
theorem eM.lt (H:eM e enc h0 h o xs v):∀b,o=some b→h0.n≤b∧b<h.n:=by
 rintro b rfl;exact H.2
theorem eM.row (H:eM e enc h0 h o xs v):∀b,o=some b→∃cs,h.f b= .row true e cs:=by
 rintro b rfl;obtain⟨⟨c,r,_,q⟩,_⟩:=H;exact⟨_,q⟩
theorem eM.keep (H:eM e enc h0 h o xs v) (hs:∀b,o=some b→h'.f b=h.f b) (hn:h.n≤h'.n):eM e enc h0 h' o xs v:=by
 cases o with
 |none=>exact H
 |some b=>
  obtain⟨⟨c,r,z,q⟩,n0,n1⟩:=H;exact⟨⟨c,r,z,by rw[hs b rfl];exact q⟩,n0,de n1 hn⟩
theorem eM.ext (H:eM e enc h0 h o xs v) (E:Ext h h'):eM e enc h0 h' o xs v:=H.keep (fun b hb=>E.f b (H.lt b hb).2) E.n
theorem eM.shape (H:eM e enc h0 h o xs v):∃ad c,v= .slice ad xs.length c:=by
 cases o with
 |none=>obtain⟨rfl,rfl⟩:=H;exact⟨_,_,rfl⟩
 |some b=>obtain⟨⟨c,r,rfl,_⟩,_⟩:=H;exact⟨_,_,rfl⟩
theorem uU (E:lh t e sz by_ enc) (W:eM e enc h0 h o xs v) (a:α) (hl:(xs.length+1)*by_≤140737488355328) (T:Fr) (x:bV) (s y:Nat) (hs:Fr.get T s=some v) (hy:Fr.get T y=some (.slice (some ⟨h.n,0,none⟩) 1 1)):
  dq PP ⟨T,⟨x,h.new (.row true e (enc a))⟩⟩ t t (.tmp s) (.tmp y)=some (.slice (some ⟨h.n+1,0,none⟩) (xs.length+1) (xs.length+1),⟨T,⟨x,cg (h.new (.row true e (enc a))) o (.row true e (xs.flatMap enc++enc a))⟩⟩):=by
 cases o with
 |none=>
  obtain⟨rfl,rfl⟩:=W;exact jB E (Ow.nil (h0:=h) (h:=h)) a hl T x s y hs hy
 |some b=>
  obtain⟨⟨c,r,rfl,q⟩,n0,n1⟩:=W;have hne:¬b=h.n:=by omega
  have:=rK (G:=h.new (.row true e (enc a))) E (xs:=xs) (b1:=b) (c:=c) (r:=r) (by simp[hne,q]) a (b:=h.n) (w:=true) (by simp) hl T x s y hs hy;rw[this];rfl
theorem eM.one (W:eM e enc h0 h o xs v) (hn:h0.n≤h.n) (c:aZ) (a:α) {cells:List Value} (hc:cells=xs.flatMap enc++enc a):eM e enc h0 (cg (h.new c) o (.row true e cells)) (some (h.n+1)) (xs++[a]) (.slice (some ⟨h.n+1,0,none⟩) (xs.length+1) (xs.length+1)):=by
 refine⟨⟨xs.length+1,[],by simp,?_⟩,by omega,by rw[df,ef];omega⟩;rw[hc];have:=lT (h.new c) o (.row true e (xs.flatMap enc++enc a));rw[ef]at this;rw[this];simp
end
def rF (h:aa) (xs:List mw) (st:List (List Int×Nat)):Prop:=xs.length=st.length∧∀(i:Nat) x y,xs[i]? =some x→st[i]? =some y→x.2=y.2∧aK 3 ab h (bW x.1) y.1
theorem rF.kp {h h':aa} {xs:List mw} {st:List (List Int×Nat)} (H:rF h xs st) (K:Kp h h'):rF h' xs st:=⟨H.1,fun i x y a b=>⟨(H.2 i x y a b).1,(H.2 i x y a b).2.kp K⟩⟩
def iP (b:Nat) (lv pv tv sv:Value) (H:dn):List Value:=[.pointer (some ⟨b,0,none⟩),lv,.int .i64 0,pv,.int .i64 H.nodes,tv,.int .i64 H.cD,.int .i64 H.fuel,sv]
structure iw (h0 h:aa) (a:Nat) (H:dn) (b b1 b2:Nat) (cs:List Value) (c1 c2:Nat) (ws:List cO) (r1 r2:List Value) (lv pv tv sv:Value) (ot os:Option Nat) (xs:List mw):Prop where
 row:h.f a= .row true 290 (iP b lv pv tv sv H)
 a0:h0.n≤a
 a1:a<h.n
 g0:h0.n≤b
 g1:h0.n≤b1
 g2:h0.n≤b2
 ext:Ext h0 h
 prop:gD h b b1 b2 H.p cs c1 c2 ws r1 r2
 l:aK 29 al h lv H.l
 aY:aK 3 ab h pv H.aY
 tree:eM 4 eX h0 h ot H.tree tv
 iu:eM 337 gA h0 h os xs.reverse sv
 gk:rF h xs H.stack
structure tc (h0 h:aa) (a:Nat) (H:dn) (b b1 b2:Nat) (cs:List Value) (c1 c2:Nat) (ws:List cO) (r1 r2:List Value) (lv pv tv sv:Value) (ot os:Option Nat) (xs:List mw):Prop where
 row:∃C0,h.f a= .row true 290 C0
 a0:h0.n≤a
 a1:a<h.n
 g0:h0.n≤b
 g1:h0.n≤b1
 g2:h0.n≤b2
 ext:Ext h0 h
 prop:gD h b b1 b2 H.p cs c1 c2 ws r1 r2
 l:aK 29 al h lv H.l
 aY:aK 3 ab h pv H.aY
 tree:eM 4 eX h0 h ot H.tree tv
 iu:eM 337 gA h0 h os xs.reverse sv
 gk:rF h xs H.stack
def td (h0 h:aa) (a:Nat) (H:dn):Prop:=∃b b1 b2 cs c1 c2 ws r1 r2 lv pv tv sv ot os xs,iw h0 h a H b b1 b2 cs c1 c2 ws r1 r2 lv pv tv sv ot os xs
structure fT (H:dn):Prop where
 prop:iV H.p
 ll:H.l.length=H.p.s.l.length
 nI:0≤H.nodes∧H.nodes≤H.fuel
 fuel:H.fuel≤1073741824
 tree:(H.tree.length:Int)≤H.nodes
 stack:(H.stack.length:Int)≤H.nodes
 rows:∀y∈H.stack,y.2≤y.1.length∧y.1.length≤1048578
 pl:H.aY.length≤512
section
variable {h0 h h':aa} {a:Nat} {H:dn} {b b1 b2:Nat} {cs:List Value} {c1 c2:Nat} {ws:List cO} {r1 r2:List Value} {lv pv tv sv:Value} {ot os:Option Nat} {xs:List mw}
theorem iw.exts (X:iw h0 h a H b b1 b2 cs c1 c2 ws r1 r2 lv pv tv sv ot os xs) (E:Ext h h'):iw h0 h' a H b b1 b2 cs c1 c2 ws r1 r2 lv pv tv sv ot os xs:=
 ⟨by rw[E.f _ X.a1];exact X.row,X.a0,de X.a1 E.n,X.g0,X.g1,X.g2,X.ext.trans E,X.prop.ext E,X.l.ext E,X.aY.ext E,X.tree.ext E,X.iu.ext E,X.gk.kp E.kp⟩
theorem gD.rows (P:gD h b b1 b2 H.p cs c1 c2 ws r1 r2):ic [b,b1,b2] h:=by
 intro x hx;simp only[cE,List.not_mem_nil,or_false]at hx;rcases hx with rfl|rfl|rfl
 ·exact⟨_,_,P.hb⟩
 ·exact⟨_,_,P.bI⟩
 ·exact⟨_,_,P.bQ⟩
theorem Je {h0 h h':aa} {S:List Nat} (E:Ext h0 h) (C:cP S h h') (hs:∀b∈S,h0.n≤b):Ext h0 h':=
 ⟨C.g.trans E.g,eW E.n C.n,fun x hx=>by
  have en:=E.n;rw[C.f x (by omega) (fun z=>by have:=hs x z;omega),E.f x hx]⟩
theorem iw.vM (X:iw h0 h a H b b1 b2 cs c1 c2 ws r1 r2 lv pv tv sv ot os xs) {p':cn} (Q:tq h b b1 b2 p' cs h'):∃b1' b2' c1' c2' ws' r1' r2',iw h0 h' a {H with p:=p'} b b1' b2' cs c1' c2' ws' r1' r2' lv pv tv sv ot os xs:=by
 obtain⟨C,b1',b2',c1',c2',ws',r1',r2',P,n1,n2⟩:=Q;have RS:=X.prop.rows;have hrow:=X.row;have ha:a∉[b,b1,b2]:=fun z=>by
  simp only[cE,List.not_mem_nil,or_false]at z;rcases z with rfl|rfl|rfl
  ·have:=X.prop.hb;rw[hrow]at this;cases this
  ·have:=X.prop.bI;rw[hrow]at this;cases this
  ·have:=X.prop.bQ;rw[hrow]at this;cases this
 have ht:∀x,ot=some x→x∉[b,b1,b2]:=fun x hx z=>by
  obtain⟨c,q⟩:=X.tree.row x hx;simp only[cE,List.not_mem_nil,or_false]at z;rcases z with rfl|rfl|rfl
  ·have:=X.prop.hb;rw[q]at this;cases this
  ·have:=X.prop.bI;rw[q]at this;cases this
  ·have:=X.prop.bQ;rw[q]at this;cases this
 have hs:∀x,os=some x→x∉[b,b1,b2]:=fun x hx z=>by
  obtain⟨c,q⟩:=X.iu.row x hx;simp only[cE,List.not_mem_nil,or_false]at z;rcases z with rfl|rfl|rfl
  ·have:=X.prop.hb;rw[q]at this;cases this
  ·have:=X.prop.bI;rw[q]at this;cases this
  ·have:=X.prop.bQ;rw[q]at this;cases this
 have hn:=X.ext.n;have E':Ext h0 h':=Je X.ext C (fun x z=>by
  simp only[cE,List.not_mem_nil,or_false]at z;rcases z with rfl|rfl|rfl
  ·exact X.g0
  ·exact X.g1
  ·exact X.g2)
 refine⟨b1',b2',c1',c2',ws',r1',r2',⟨by rw[C.f _ X.a1 ha];exact hrow,X.a0,de X.a1 C.n,X.g0,?_,?_,E',P,X.l.kp (C.kp RS),X.aY.kp (C.kp RS),X.tree.keep (fun x hx=>C.f x (X.tree.lt x hx).2 (ht x hx)) C.n,X.iu.keep (fun x hx=>C.f x (X.iu.lt x hx).2 (hs x hx)) C.n,X.gk.kp (C.kp RS)⟩⟩
 ·rcases n1 with rfl|n1
  ·exact X.g1
  ·omega
 ·rcases n2 with rfl|n2
  ·exact X.g2
  ·omega
theorem iw.bd (X:iw h0 h a H b b1 b2 cs c1 c2 ws r1 r2 lv pv tv sv ot os xs):tc h0 h a H b b1 b2 cs c1 c2 ws r1 r2 lv pv tv sv ot os xs:=
 ⟨⟨_,X.row⟩,X.a0,X.a1,X.g0,X.g1,X.g2,X.ext,X.prop,X.l,X.aY,X.tree,X.iu,X.gk⟩
theorem tc.put (X:tc h0 h a H b b1 b2 cs c1 c2 ws r1 r2 lv pv tv sv ot os xs) {H':dn} {pv':Value} (hp:H'.p=H.p) (hl:H'.l=H.l) (ht:H'.tree=H.tree) (hs:H'.stack=H.stack) (hpl:aK 3 ab h pv' H'.aY):
  iw h0 (h.set a (.row true 290 (iP b lv pv' tv sv H'))) a H' b b1 b2 cs c1 c2 ws r1 r2 lv pv' tv sv ot os xs:=by
 have C:=jl h a (.row true 290 (iP b lv pv' tv sv H'));obtain⟨C0,hrow⟩:=X.row;have RS:=nP hrow;have nb:b∉[a]:=fun z=>by
  simp only[cE,List.not_mem_nil,or_false]at z;subst z;have:=X.prop.hb;rw[hrow]at this;cases this
 have nb1:b1∉[a]:=fun z=>by
  simp only[cE,List.not_mem_nil,or_false]at z;subst z;have:=X.prop.bI;rw[hrow]at this;cases this
 have nb2:b2∉[a]:=fun z=>by
  simp only[cE,List.not_mem_nil,or_false]at z;subst z;have:=X.prop.bQ;rw[hrow]at this;cases this
 refine⟨by simp,X.a0,X.a1,X.g0,X.g1,X.g2,X.ext.dh X.a0 _,by rw[hp];exact X.prop.eY C RS nb nb1 nb2,by rw[hl];exact X.l.eY C RS,hpl.eY C RS,ht ▸ X.tree.keep (fun x hx=>lB _ _ fun e=>?_) (a8 _),X.iu.keep (fun x hx=>lB _ _ fun e=>?_) (a8 _),by rw[hs];exact X.gk.kp (C.kp RS)⟩
 ·obtain⟨c,q⟩:=X.tree.row x hx;rw[e,hrow]at q;cases q
 ·obtain⟨c,q⟩:=X.iu.row x hx;rw[e,hrow]at q;cases q
end
theorem uT {α:Type} {e:TypeId} {enc:α→List Value} {h0 G:aa} {o:Option Nat} {xs:List α} {v:Value} (W:eM e enc h0 G o xs v) (c c':aZ):cP o.toList G (cg (G.new c) o c')∧ic o.toList G:=by
 refine⟨⟨by rw[zk];rfl,by rw[df,ef];omega,fun x hx hs=>?_⟩,fun x hx=>?_⟩
 ·rw[qz _ _ _ (by rw[ef];omega) (fun z=>hs (by simp[z])),qF,if_neg (by omega)]
 ·have:o=some x:=by simpa using hx
  obtain⟨cs,q⟩:=W.row x this;exact⟨_,_,q⟩
section
variable {h0 h:aa} {a:Nat} {H:dn} {b b1 b2:Nat} {cs:List Value} {c1 c2:Nat} {ws:List cO} {r1 r2:List Value} {lv pv tv sv:Value} {ot os:Option Nat} {xs:List mw}
theorem iw.tF (X:iw h0 h a H b b1 b2 cs c1 c2 ws r1 r2 lv pv tv sv ot os xs) {o:Option Nat} {h':aa} (C:cP o.toList h h') (RS:ic o.toList h) {e:TypeId} (ho:∀x,o=some x→(∃cs,h.f x= .row true e cs)∧h0.n≤x) (he:e=4∨e=337):
  h'.f a= .row true 290 (iP b lv pv tv sv H)∧a<h'.n∧Ext h0 h'∧gD h' b b1 b2 H.p cs c1 c2 ws r1 r2∧aK 29 al h' lv H.l∧aK 3 ab h' pv H.aY∧rF h' xs H.stack∧Kp h h'∧
   (e=337→eM 4 eX h0 h' ot H.tree tv)∧(e=4→eM 337 gA h0 h' os xs.reverse sv):=by
 have key:∀{y:Nat} {e':TypeId} {c:List Value},h.f y= .row true e' c→e'≠4→e'≠337→y∉o.toList:=fun{y e' c} hy n4 n337 z=>by
  have:o=some y:=by simpa using z
  obtain⟨⟨cs',q⟩,_⟩:=ho y this;rw[hy]at q;simp only[aZ.row.injEq,true_and]at q;rcases he with rfl|rfl
  ·exact n4 q.1
  ·exact n337 q.1
 have na:=key X.row (by decide) (by decide);refine⟨by rw[C.f _ X.a1 na];exact X.row,de X.a1 C.n,Je X.ext C (fun x z=>(ho x (by simpa using z)).2),X.prop.eY C RS (key X.prop.hb (by decide) (by decide)) (key X.prop.bI (by decide) (by decide)) (key X.prop.bQ (by decide) (by decide)),X.l.eY C RS,X.aY.eY C RS,X.gk.kp (C.kp RS),C.kp RS,fun z=>?_,fun z=>?_⟩
 ·subst z;refine X.tree.keep (fun x hx=>C.f x (X.tree.lt x hx).2 fun w=>?_) C.n;have:o=some x:=by simpa using w
  obtain⟨⟨cs',q⟩,_⟩:=ho x this;obtain⟨cs2,q2⟩:=X.tree.row x hx;rw[q]at q2;cases q2
 ·subst z;refine X.iu.keep (fun x hx=>C.f x (X.iu.lt x hx).2 fun w=>?_) C.n;have:o=some x:=by simpa using w
  obtain⟨⟨cs',q⟩,_⟩:=ho x this;obtain⟨cs2,q2⟩:=X.iu.row x hx;rw[q]at q2;cases q2
theorem iw.grow (X:iw h0 h a H b b1 b2 cs c1 c2 ws r1 r2 lv pv tv sv ot os xs) (z:Bool):
  iw h0 ((cg (h.new (.row true 4 (eX z))) ot (.row true 4 (H.tree.flatMap eX++eX z))).set a (.row true 290 (iP b lv pv (.slice (some ⟨h.n+1,0,none⟩) (H.tree.length+1) (H.tree.length+1)) sv {H with tree:=H.tree++[z]}))) a {H with tree:=H.tree++[z]} b b1 b2 cs c1 c2 ws r1 r2 lv pv (.slice (some ⟨h.n+1,0,none⟩) (H.tree.length+1) (H.tree.length+1)) sv (some (h.n+1)) os xs:=by
 obtain⟨C,RS⟩:=uT X.tree (.row true 4 (eX z)) (.row true 4 (H.tree.flatMap eX++eX z));obtain⟨y1,y2,y3,y4,y5,y6,y7,_,_,y8⟩:=X.tF C RS (e:=4) (fun x hx=>⟨X.tree.row x hx,(X.tree.lt x hx).1⟩) (.inl rfl);have y8:=y8 rfl;have T:=eM.one X.tree X.ext.n (.row true 4 (eX z)) z (cells:=H.tree.flatMap eX++eX z) rfl;obtain⟨F,hF⟩:∃F,F=cg (h.new (.row true 4 (eX z))) ot (.row true 4 (H.tree.flatMap eX++eX z)):=⟨_,rfl⟩;rw[←hF]at y1 y2 y3 y4 y5 y6 y7 y8 T ⊢;have B:tc h0 F a {H with tree:=H.tree++[z]} b b1 b2 cs c1 c2 ws r1 r2 lv pv (.slice (some ⟨h.n+1,0,none⟩) (H.tree.length+1) (H.tree.length+1)) sv (some (h.n+1)) os xs:=
  ⟨⟨_,y1⟩,X.a0,y2,X.g0,X.g1,X.g2,y3,y4,y5,y6,T,y8,y7⟩
 exact B.put rfl rfl rfl rfl y6
theorem iw.push (X:iw h0 h a H b b1 b2 cs c1 c2 ws r1 r2 lv pv tv sv ot os xs) (w:cO) (l:List Int) (hw:aK 3 ab h (bW w) l):
  iw h0 ((cg (h.new (.row true 337 (gA (w,0)))) os (.row true 337 (xs.reverse.flatMap gA++gA (w,0)))).set a (.row true 290 (iP b lv pv tv (.slice (some ⟨h.n+1,0,none⟩) (xs.length+1) (xs.length+1)) {H with stack:=(l,0)::H.stack}))) a {H with stack:=(l,0)::H.stack} b b1 b2 cs c1 c2 ws r1 r2 lv pv tv (.slice (some ⟨h.n+1,0,none⟩) (xs.length+1) (xs.length+1)) ot (some (h.n+1)) ((w,0)::xs):=by
 obtain⟨C,RS⟩:=uT X.iu (.row true 337 (gA (w,0))) (.row true 337 (xs.reverse.flatMap gA++gA (w,0)));obtain⟨y1,y2,y3,y4,y5,y6,y7,kp,y8,_⟩:=X.tF C RS (e:=337) (fun x hx=>⟨X.iu.row x hx,(X.iu.lt x hx).1⟩) (.inr rfl);have y8:=y8 rfl;have T:=eM.one X.iu X.ext.n (.row true 337 (gA (w,0))) (w,0) (cells:=xs.reverse.flatMap gA++gA (w,0)) rfl;rw[List.length_reverse]at T;obtain⟨F,hF⟩:∃F,F=cg (h.new (.row true 337 (gA (w,0)))) os (.row true 337 (xs.reverse.flatMap gA++gA (w,0))):=⟨_,rfl⟩;rw[←hF]at y1 y2 y3 y4 y5 y6 y7 y8 T kp ⊢;have gk:rF F ((w,0)::xs) ((l,0)::H.stack):=by
  refine⟨by simp[y7.1],fun i x y hx hy=>?_⟩;cases i with
  |zero=>
   simp only[List.getElem?_cons_zero,aw]at hx hy;subst hx;subst hy;exact⟨rfl,hw.kp kp⟩
  |succ i=>
   simp only[List.getElem?_cons_succ]at hx hy;exact y7.2 i x y hx hy
 have B:tc h0 F a {H with stack:=(l,0)::H.stack} b b1 b2 cs c1 c2 ws r1 r2 lv pv tv (.slice (some ⟨h.n+1,0,none⟩) (xs.length+1) (xs.length+1)) ot (some (h.n+1)) ((w,0)::xs):=
  ⟨⟨_,y1⟩,X.a0,y2,X.g0,X.g1,X.g2,y3,y4,y5,y6,y8,by rw[List.reverse_cons];exact T,gk⟩
 exact B.put rfl rfl rfl rfl y6
end
theorem xJ (h:dn):cB h=if h.fuel≤h.nodes then(h,false)else
  if h.p.p.length=h.l.length then
   if h.cD<jQ h.p then({h with nodes:=h.nodes+1,aY:=h.p.p,cD:=jQ h.p,p:=fC h.p},true)else({h with nodes:=h.nodes+1,p:=fC h.p},true)
  else if h.cD<jQ h.p then({h with nodes:=h.nodes+1,stack:=(iH h.p,0)::h.stack,tree:=h.tree++[true]},true)
  else({h with nodes:=h.nodes+1,tree:=h.tree++[false],p:=fC h.p},true):=rfl
theorem fT.aix {H:dn} (I:fT H):(iH H.p).length≤1048578:=by
 have hn:=I.prop.now;have hd:(iN H.p H.p.p.length).length≤1048577:=by
  unfold iN;split
  ·rename_i q;rw[bB,av (show H.p.p.length<(cG H.p).length by omega)];exact hn.2 _ (fy _)
  ·simp
 unfold iH;simp only;split
 ·omega
 ·rw[bF];simp;omega
theorem fT.pop {H:dn} (I:fT H):fT {H with p:=fC H.p}:=⟨I.prop.pop,by simp only[pR];exact I.ll,I.nI,I.fuel,I.tree,I.stack,I.rows,I.pl⟩
theorem fT.look {H:dn} (I:fT H):fT (cB H).1:=by
 have n1:=I.nI;have n2:=I.tree;have n3:=I.stack;rw[xJ];split
 ·exact I
 ·have J:fT {H with nodes:=H.nodes+1}:=⟨I.prop,I.ll,⟨by simp only;omega,by simp only;omega⟩,I.fuel,by simp only;omega,by simp only;omega,I.rows,I.pl⟩;split
  ·split
   ·exact(fT.pop (H:={H with nodes:=H.nodes+1,aY:=H.p.p,cD:=jQ H.p}) ⟨J.prop,J.ll,J.nI,J.fuel,J.tree,J.stack,J.rows,by have:=I.prop.dep;have:=I.prop.ll;simp only;omega⟩)
   ·exact J.pop
  ·split
   ·refine⟨J.prop,J.ll,J.nI,J.fuel,?_,?_,?_,I.pl⟩
    ·simp only[bF,ji];omega
    ·simp only[eE];omega
    ·intro y hy;simp only[cE]at hy;rcases hy with rfl|hy
     ·exact⟨Nat.zero_le _,I.aix⟩
     ·exact I.rows y hy
   ·refine fT.pop (H:={H with nodes:=H.nodes+1,tree:=H.tree++[false]}) ⟨J.prop,J.ll,J.nI,J.fuel,?_,J.stack,J.rows,I.pl⟩;simp only[bF,ji];omega
theorem Nv (H:dn) (I:fT H) (h0 h:aa) (a:Nat) (X:td h0 h a H):
  ao PP 250 [.pointer (some ⟨a,0,none⟩)] h (fun r h'=>r= .bool (cB H).2∧td h0 h' a (cB H).1):=by
 obtain⟨b,b1,b2,cs,c1,c2,ws,r1,r2,lv,pv,tv,sv,ot,os,xs,X⟩:=X;refine aC mix (aD Tryz.func250) rfl rfl rfl aeJ ?_;simp only[ai,Tryz.f250];rw[xJ];have hnod:=I.nI;have hfu:=I.fuel;have htr:=I.tree;have hst:=I.stack;have hr1:List.range 1=[0]:=rfl;have hr2:List.range 2=[0,1]:=rfl;obtain⟨adl,cl,elv⟩:=X.l.shape;obtain⟨adp,cp,epv⟩:=X.aY.shape;obtain⟨adt,ct,etv⟩:=X.tree.shape;obtain⟨ads,cst,esv⟩:=X.iu.shape;have hrow:=X.row;rw[List.length_reverse]at esv;subst elv;subst epv;subst etv;subst esv;simp only[iP]at hrow;by_cases q0:H.fuel≤H.nodes
 ·rw[if_pos q0];simp -implicitDefEqProofs[hrow,q0];exact⟨b,b1,b2,cs,c1,c2,ws,r1,r2,_,_,_,_,ot,os,xs,X⟩
 ·rw[if_neg q0];have w1:IntKind.wrap .i64 (H.nodes+1)=H.nodes+1:=bK (by omega);have X1:=X.bd.put (H':={H with nodes:=H.nodes+1}) rfl rfl rfl rfl X.aY;have J:fT {H with nodes:=H.nodes+1}:=⟨I.prop,I.ll,⟨by simp only;omega,by simp only;omega⟩,I.fuel,by simp only;omega,by simp only;omega,I.rows,I.pl⟩;simp only[iP]at X1;simp -implicitDefEqProofs[hrow,q0,w1];obtain⟨h1,hh1⟩:∃h1,h1=h.set a (.row true 290 [.pointer (some ⟨b,0,none⟩),.slice adl H.l.length cl,.int .i64 0,.slice adp H.aY.length cp,.int .i64 (H.nodes+1),.slice adt H.tree.length ct,.int .i64 H.cD,.int .i64 H.fuel,.slice ads xs.length cst]):=⟨_,rfl⟩;rw[←hh1]at X1 ⊢;have hrow1:=X1.row;simp only[iP]at hrow1;have hde:=wY H.p h1 X1.prop;have hmo:=aaN H.p I.prop h1 X1.prop;have hpo:=yf H.p I.prop h1 X1.prop;have hdep:=I.prop.dep;have hll:=I.prop.ll;refine hde.mono ?_;rintro r h' ⟨e,rfl⟩;replace e:=e.symm;subst e;by_cases q1:H.p.p.length=H.l.length
  ·have q1':(H.p.p.length:Int)=(H.l.length:Int):=(by omega);rw[if_pos q1];simp -implicitDefEqProofs[aJ,hrow1,q1,q1'];intro _;refine hmo.mono ?_;rintro r h' ⟨e,rfl⟩;replace e:=e.symm;subst e;by_cases q2:H.cD<jQ H.p
   ·rw[if_pos q2];have hpl:=ahG H.p (by omega) h1 X1.prop;simp -implicitDefEqProofs[aJ,af,hrow1,q2];intro _;refine hpl.mono ?_;rintro r h2 ⟨E2,hr⟩;obtain⟨ad2,cp2,rfl⟩:=hr.shape;have X2:=X1.exts E2;have hrow2:=X2.row;simp only[iP]at hrow2;have X3:=X2.bd.put (H':={H with nodes:=H.nodes+1,aY:=H.p.p,cD:=jQ H.p}) rfl rfl rfl rfl hr;simp only[iP]at X3;simp -implicitDefEqProofs[aJ,af,hrow2];intro _;rw[mN];refine(yf H.p I.prop _ X3.prop).mono ?_;rintro r h3 ⟨rfl,Q⟩;obtain⟨b1',b2',c1',c2',ws',r1',r2',X4⟩:=X3.vM Q;simp -implicitDefEqProofs[aJ,af];intro _;exact⟨b,b1',b2',cs,c1',c2',ws',r1',r2',_,_,_,_,ot,os,xs,X4⟩
   ·rw[if_neg q2];simp -implicitDefEqProofs[aJ,af,hrow1,q2];intro _;refine hpo.mono ?_;rintro r h2 ⟨rfl,Q⟩;obtain⟨b1',b2',c1',c2',ws',r1',r2',X2⟩:=X1.vM Q;simp -implicitDefEqProofs[aJ,af];intro _;exact⟨b,b1',b2',cs,c1',c2',ws',r1',r2',_,_,_,_,ot,os,xs,X2⟩
  ·have q1':¬(H.p.p.length:Int)=(H.l.length:Int):=(by omega);rw[if_neg q1];simp -implicitDefEqProofs[aJ,hrow1,q1,q1'];intro _;refine hmo.mono ?_;rintro r h' ⟨e,rfl⟩;replace e:=e.symm;subst e;by_cases q2:H.cD<jQ H.p
   ·rw[if_pos q2];have hro:=aiv H.p I.prop h1 X1.prop;simp -implicitDefEqProofs[aJ,af,hrow1,q2];intro _;refine hro.mono ?_;rintro r h2 ⟨E2,hr⟩;obtain⟨ad2,cp2,rfl⟩:=hr.shape;have X2:=X1.exts E2;have hrow2:=X2.row;simp only[iP]at hrow2;have hxl:=X2.gk.1;simp only at hxl;have hA:=uU Xr X2.iu ((ad2,(iH H.p).length,cp2),0) (by rw[List.length_reverse];omega);rw[List.length_reverse]at hA;have X3:=X2.push (ad2,(iH H.p).length,cp2) (iH H.p) hr;obtain⟨W,hW⟩:∃W,W=xs.reverse.flatMap gA++gA ((ad2,(iH H.p).length,cp2),0):=⟨_,rfl⟩;rw[←hW]at hA X3;simp only[gA,iP,Int.natCast_zero]at hA X3;have hrA:=(uT X2.iu (.row true 337 (gA ((ad2,(iH H.p).length,cp2),0))) (.row true 337 W)).1.f a X2.a1 (fun z=>by
     have:os=some a:=(by simpa using z);obtain⟨cs',q⟩:=X2.iu.row a this;rw[X2.row]at q;cases q)
    rw[X2.row]at hrA;simp only[gA,iP,Int.natCast_zero]at hrA;have hane:¬a=h2.n:=(by have:=X2.a1;omega);have hA2:=uU I0 X3.tree true (by simp only;omega);have X4:=X3.grow true;simp only at hA2 X4;obtain⟨W2,hW2⟩:∃W2,W2=H.tree.flatMap eX++eX true:=⟨_,rfl⟩;rw[←hW2]at hA2 X4;simp only[eX,iP]at hA2 X4;have hrA2:=(uT X3.tree (.row true 4 (eX true)) (.row true 4 W2)).1.f a X3.a1 (fun z=>by
     have:ot=some a:=(by simpa using z);obtain⟨cs',q⟩:=X3.tree.row a this;rw[X3.row]at q;cases q)
    rw[X3.row]at hrA2;simp only[eX,iP]at hrA2;simp -implicitDefEqProofs[aJ,af,hrow2,aP,hr1,hr2,hA,hrA,hane,hA2,hrA2];intro _;exact⟨b,b1,b2,cs,c1,c2,ws,r1,r2,_,_,_,_,_,_,_,X4⟩
   ·rw[if_neg q2];have hA:=uU I0 X1.tree false (by simp only;omega);have X3:=X1.grow false;simp only at hA X3;obtain⟨W,hW⟩:∃W,W=H.tree.flatMap eX++eX false:=⟨_,rfl⟩;rw[←hW]at hA X3;simp only[eX,iP]at hA X3;have hrA:=(uT X1.tree (.row true 4 (eX false)) (.row true 4 W)).1.f a X1.a1 (fun z=>by
     have:ot=some a:=(by simpa using z);obtain⟨cs',q⟩:=X1.tree.row a this;rw[X1.row]at q;cases q)
    rw[X1.row]at hrA;simp only[eX,iP]at hrA;simp -implicitDefEqProofs[aJ,af,hrow1,q2,aP,hr1,hA,hrA];intro _;refine(yf H.p I.prop _ X3.prop).mono ?_;rintro r h3 ⟨rfl,Q⟩;obtain⟨b1',b2',c1',c2',ws',r1',r2',X4⟩:=X3.vM Q;simp -implicitDefEqProofs[aJ,af];intro _;exact⟨b,b1',b2',cs,c1',c2',ws',r1',r2',_,_,_,_,_,os,xs,X4⟩
theorem aiE (n:Nat) (h:dn):dN n h false=(h,false):=by cases n<;>rfl
theorem aiG (n:Nat) (h:dn) (g:Bool) (hs:h.stack=[]):dN n h g=(h,g):=by
 cases n with
 |zero=>rfl
 |succ n=>
  rw[dN,hs];cases g<;>rfl
theorem aiD {n:Nat} {h:dn} {l:List Int} {at_:Nat} {st:List (List Int×Nat)} (hs:h.stack=(l,at_)::st) (he:at_=l.length):dN (n+1) h true=dN n {h with stack:=st,p:=fC h.p} true:=by
 rw[dN,hs];simp[he]
theorem aiF {n:Nat} {h:dn} {l:List Int} {at_:Nat} {st:List (List Int×Nat)} (hs:h.stack=(l,at_)::st) (he:¬at_=l.length):dN (n+1) h true=dN n (cB {h with stack:=(l,at_+1)::st,p:=fM h.p (l.getD at_ 0)}).1 (cB {h with stack:=(l,at_+1)::st,p:=fM h.p (l.getD at_ 0)}).2:=by
 rw[dN,hs];simp[he]
def pM (h:dn):Nat:=2*(h.fuel-h.nodes).toNat+h.stack.length
theorem NB {h:dn} (I:fT h) (g:(cB h).2=true):pM (cB h).1+1≤pM h:=by
 have n1:=I.nI;rw[xJ]at g ⊢;unfold pM;split
 ·rename_i q;rw[if_pos q]at g;cases g
 ·split
  ·split<;>(simp only;omega)
  ·split
   ·simp only[eE];omega
   ·simp only;omega
section
variable {h0 h:aa} {a:Nat} {H:dn} {b b1 b2:Nat} {cs:List Value} {c1 c2:Nat} {ws:List cO} {r1 r2:List Value} {lv pv tv sv:Value} {ot os:Option Nat} {x:mw} {xs:List mw}
theorem iw.drop (X:iw h0 h a H b b1 b2 cs c1 c2 ws r1 r2 lv pv tv sv ot os (x::xs)) {y:List Int×Nat} {st:List (List Int×Nat)} (hs:H.stack=y::st) {b5:Nat} (ho:os=some b5) (c:Nat):
  iw h0 (h.set a (.row true 290 (iP b lv pv tv (.slice (some ⟨b5,0,none⟩) xs.length c) {H with stack:=st}))) a {H with stack:=st} b b1 b2 cs c1 c2 ws r1 r2 lv pv tv (.slice (some ⟨b5,0,none⟩) xs.length c) ot os xs:=by
 subst ho;obtain⟨⟨c',r,_,q⟩,n0,n1⟩:=X.iu;have gk:=X.gk;rw[hs]at gk;have B:tc h0 h a {H with stack:=st} b b1 b2 cs c1 c2 ws r1 r2 lv pv tv (.slice (some ⟨b5,0,none⟩) xs.length c) ot (some b5) xs:=
  ⟨⟨_,X.row⟩,X.a0,X.a1,X.g0,X.g1,X.g2,X.ext,X.prop,X.l,X.aY,X.tree,⟨⟨c,gA x++r,by simp,by rw[q];simp⟩,n0,n1⟩,⟨by simpa using gk.1,fun i u v hu hv=>gk.2 (i+1) u v (by simpa using hu) (by simpa using hv)⟩⟩
 exact B.put rfl rfl rfl rfl X.aY
theorem iw.step (X:iw h0 h a H b b1 b2 cs c1 c2 ws r1 r2 lv pv tv sv ot os (x::xs)) {l:List Int} {k:Nat} {st:List (List Int×Nat)} (hs:H.stack=(l,k)::st) {b5:Nat} (ho:os=some b5) {r:List Value} (hx:x.2=k):
  iw h0 (h.set b5 (.row true 337 (((x.1,k+1)::xs).reverse.flatMap gA++r))) a {H with stack:=(l,k+1)::st} b b1 b2 cs c1 c2 ws r1 r2 lv pv tv sv ot os ((x.1,k+1)::xs):=by
 subst ho;obtain⟨⟨c',r',hv,q⟩,n0,n1⟩:=X.iu;have C:=jl h b5 (.row true 337 (((x.1,k+1)::xs).reverse.flatMap gA++r));have RS:=nP q;obtain⟨y1,y2,y3,y4,y5,y6,y7,kp,y8,_⟩:=X.tF (o:=some b5) C RS (e:=337) (fun z hz=>by cases hz;exact⟨⟨_,q⟩,n0⟩) (.inr rfl);refine⟨y1,X.a0,y2,X.g0,X.g1,X.g2,y3,y4,y5,y6,y8 rfl,⟨⟨c',r,by rw[hv];simp,by simp⟩,n0,n1⟩,⟨?_,fun i u v hu hvv=>?_⟩⟩
 ·have:=y7.1;rw[hs]at this;simpa using this
 ·have e:=y7.2;rw[hs]at e;cases i with
  |zero=>
   simp only[List.getElem?_cons_zero,aw]at hu hvv;subst hu;subst hvv;exact⟨rfl,(e 0 x (l,k) rfl rfl).2⟩
  |succ i=>exact e (i+1) u v (by simpa using hu) (by simpa using hvv)
end
theorem fT.drop {H:dn} (I:fT H) {y:List Int×Nat} {st:List (List Int×Nat)} (hs:H.stack=y::st):fT {H with stack:=st}:=by
 have n3:=I.stack;rw[hs]at n3;simp only[eE]at n3;exact⟨I.prop,I.ll,I.nI,I.fuel,I.tree,by simp only;omega,fun z hz=>I.rows z (by rw[hs];exact ep _ hz),I.pl⟩
theorem fT.step {H:dn} (I:fT H) {l:List Int} {k:Nat} {st:List (List Int×Nat)} (hs:H.stack=(l,k)::st) (hk:¬k=l.length):fT {H with stack:=(l,k+1)::st}:=by
 have n3:=I.stack;rw[hs]at n3;have hr:=I.rows (l,k) (by rw[hs];exact dH);simp only at hr;refine⟨I.prop,I.ll,I.nI,I.fuel,I.tree,by simpa using n3,fun z hz=>?_,I.pl⟩;simp only[cE]at hz;rcases hz with rfl|hz
 ·exact⟨by simp only;omega,hr.2⟩
 ·exact I.rows z (by rw[hs];exact ep _ hz)
theorem fT.push {H:dn} (I:fT H) (f:Int):fT {H with p:=fM H.p f}:=⟨I.prop.push f,by simp only[yk];exact I.ll,I.nI,I.fuel,I.tree,I.stack,I.rows,I.pl⟩
def RP (h0:aa) (a:Nat) (R:dn×Bool) (n:Nat) (σ:St):Prop:=∃(H:dn) (g:Bool),td h0 σ.m.h a H∧fT H∧dN n H g=R∧(g=true→pM H≤n)∧σ.t.get 0=some (.pointer (some ⟨a,0,none⟩))∧σ.t.get 3=some (.bool g)
theorem aiH (steps:Nat) (H:dn) (I:fT H) (hn:pM H≤steps) (h0 h:aa) (a:Nat) (X:td h0 h a H):
  ao PP 208 [.pointer (some ⟨a,0,none⟩)] h (fun r h'=>r= .bool (dN steps (cB H).1 (cB H).2).2∧td h0 h' a (dN steps (cB H).1 (cB H).2).1∧fT (dN steps (cB H).1 (cB H).2).1):=by
 refine aC mix (aD Tryz.func208) rfl rfl rfl aek ?_;simp only[ai,Tryz.f208];have hlo:=Nv H I h0 h a X;have Il:=I.look;have hmu:=fun g=>NB I g;obtain⟨R,hR⟩:∃R,R=dN steps (cB H).1 (cB H).2:=⟨_,rfl⟩;rw[←hR];simp -implicitDefEqProofs;refine hlo.mono ?_;rintro r h1 ⟨rfl,X1⟩;simp -implicitDefEqProofs[af];intro _;refine bL (RP h0 a R) steps ⟨(cB H).1,(cB H).2,X1,Il,hR.symm,fun g=>by have:=hmu g;omega,by simp⟩ ?_;rintro n ⟨T,⟨x,G⟩⟩ ⟨H,g,⟨b,b1,b2,cs,c1,c2,ws,r1,r2,lv,pv,tv,sv,ot,os,xs,X⟩,I,hR,hmu,g0,g3⟩;simp at X g0 g3;cases g with
 |false=>
  rw[aiE]at hR;subst hR;simp -implicitDefEqProofs[g0,g3];exact⟨⟨b,b1,b2,cs,c1,c2,ws,r1,r2,_,_,_,_,_,_,_,X⟩,I⟩
 |true=>
  have hrow:=X.row;obtain⟨ads,cst,esv⟩:=X.iu.shape;rw[List.length_reverse]at esv;have hel:=X.gk.1;cases hst:H.stack with
  |nil=>
   rw[aiG n H true hst]at hR;subst hR;rw[hst]at hel;have hx0:xs.length=0:=hel;rw[hx0]at esv;subst esv;simp only[iP]at hrow;simp -implicitDefEqProofs[g0,g3,hrow];exact⟨⟨b,b1,b2,cs,c1,c2,ws,r1,r2,_,_,_,_,_,_,_,X⟩,I⟩
  |cons y st=>
   obtain⟨l,k⟩:=y;rw[hst]at hel;cases xs with
   |nil=>simp at hel
   |cons x0 xs=>
    obtain⟨n',rfl⟩:∃n',n=n'+1:=⟨n-1,by have:=hmu rfl;unfold pM at this;rw[hst,eE]at this;omega⟩;have hmu:=hmu rfl;have hmx:2*(H.fuel-H.nodes).toNat+st.length≤n':=(by unfold pM at hmu;rw[hst,eE]at hmu;omega);have hnod:=I.nI;have hfu:=I.fuel;have hstk:=I.stack;rw[hst,eE]at hstk;have hrl:=I.rows (l,k) (by rw[hst];exact dH);simp only at hrl;have hxe:=X.gk.2;rw[hst]at hxe;obtain⟨ek,hSl⟩:=hxe 0 x0 (l,k) rfl rfl;simp only at ek hSl;obtain⟨⟨adx,nx,cx⟩,kx⟩:=x0;simp only at ek hSl;subst ek;obtain⟨adx',cx',exl⟩:=hSl.shape;simp only[bW,Value.slice.injEq]at exl;obtain⟨_,rfl,_⟩:=exl;obtain⟨K,hK⟩:∃K,K=xs.length:=⟨_,rfl⟩;have hKl:(((adx,l.length,cx),kx)::xs).length=K+1:=(by rw[hK];rfl);rw[hKl]at esv;cases hos:os with
    |none=>
     have hx:=X.iu;rw[hos]at hx;exact absurd hx.2 (by simp)
    |some b5=>
     have hstk5:=X.iu;rw[hos]at hstk5;obtain⟨⟨c5,r5,hv5,hrow5⟩,_,hb5n⟩:=hstk5;rw[esv]at hv5;simp only[Value.slice.injEq]at hv5;obtain⟨rfl,_,rfl⟩:=hv5;subst esv;have hba:¬b5=a:=fun e=>(by rw[e,hrow]at hrow5;cases hrow5);have hab:¬a=b5:=fun e=>hba e.symm;obtain⟨P,hP⟩:∃P,P=xs.reverse.flatMap gA:=⟨_,rfl⟩;have hPl:P.length=K*2:=(by rw[hP,fg 2 Pf,List.length_reverse,hK]);have hcells:((((adx,l.length,cx),kx)::xs:List mw).reverse.flatMap gA++r5)=P++(.slice adx l.length cx:: .int .i64 (kx:Nat)::r5):=by
      rw[List.reverse_cons,List.flatMap_append,←hP,eD];rfl
     rw[hcells]at hrow5;obtain⟨R5,hR5⟩:∃R5,R5=P++(.slice adx l.length cx:: .int .i64 (kx:Nat)::r5):=⟨_,rfl⟩;rw[←hR5]at hrow5;have hd0:R5.drop (K*2)= .slice adx l.length cx:: .int .i64 (kx:Nat)::r5:=(by rw[hR5,←hPl,List.drop_left]);have hd1:R5.drop (K*2+1)= .int .i64 (kx:Nat)::r5:=(by rw[←fx,hd0];rfl);have hRl:K*2+2≤R5.length:=(by rw[hR5,bF,hPl];simp);have hRl1:K*2+1≤R5.length:=(by omega);have hRl2:K*2+1+1≤R5.length:=(by omega);have hKs:K=st.length:=(by rw[hK];simpa using hel);have wK:IntKind.wrap .i64 ((K:Int))=(K:Nat):=(by rw[bK (by omega)]);have hKlt:(K:Int)<K+1:=(by omega);have hK0:(0:Int)<(K:Int)+1:=(by omega);simp only[iP]at hrow;by_cases q:kx=l.length
     ·have q':(kx:Int)=(l.length:Int):=(by omega);rw[aiD hst q]at hR;have X2:=X.drop hst hos K;rw[←hK]at X2;have I2:=I.drop hst;have hpo:=yf H.p I.prop _ X2.prop;simp -implicitDefEqProofs[g0,g3,hrow,hrow5,wK,hKlt,hK0,hd0,hd1,hRl,hRl1,hRl2,q,q'];refine hpo.mono ?_;rintro r h2 ⟨rfl,Q⟩;obtain⟨b1',b2',c1',c2',ws',r1',r2',X4⟩:=X2.vM Q;simp -implicitDefEqProofs[af,g0,g3];intro _;exact⟨n',by omega,{H with stack:=st,p:=fC H.p},true,⟨b,b1',b2',cs,c1',c2',ws',r1',r2',_,_,_,_,_,_,_,X4⟩,I2.pop,hR,fun _=>hmx,by simp⟩
     ·have q':¬(kx:Int)=(l.length:Int):=(by omega);rw[aiF hst q]at hR;have wk:=bU (i:=kx) (by omega);have wk2:IntKind.wrap .i64 ((kx:Int))=(kx:Nat):=(by rw[bK (by omega)]);have hkl:kx<l.length:=(by omega);have hkl':(kx:Int)<(l.length:Int):=(by omega);have hlt:l[kx]? =some l[kx]:=av hkl;obtain⟨f,hf⟩:∃f,f=l[kx]:=⟨_,rfl⟩;rw[←hf]at hlt;have hgf:l.getD kx 0=f:=(by rw[bB,hlt];rfl);rw[hgf]at hR;simp only[bW]at hSl;obtain⟨_,bl,ol,cl,rl,rfl,hbl,hdl,hlcl,_⟩:=hSl.at 1 V.dV hlt;rw[Nat.mul_one]at hdl hlcl;have hbl5:¬bl=b5:=fun e=>(by rw[e,hrow5]at hbl;cases hbl);obtain⟨R6,hR6⟩:∃R6,R6=P++(.slice (some ⟨bl,ol,none⟩) l.length cx:: .int .i64 ((kx+1:Nat):Int)::r5):=⟨_,rfl⟩;have hcells2:((((some ⟨bl,ol,none⟩,l.length,cx),kx+1)::xs:List mw).reverse.flatMap gA++r5)=R6:=by
       rw[hR6,List.reverse_cons,List.flatMap_append,←hP,eD];rfl
      have hst6:List.take (K*2+1) R5++Value.int .i64 ((kx:Int)+1)::List.drop (K*2+1+1) R5=R6:=by
       have e1:R5=(P++[.slice (some ⟨bl,ol,none⟩) l.length cx])++(.int .i64 (kx:Nat)::r5):=(by rw[hR5];simp);have e2:R5=(P++[.slice (some ⟨bl,ol,none⟩) l.length cx,.int .i64 (kx:Nat)])++r5:=(by rw[hR5];simp);have t1:List.take (K*2+1) R5=P++[.slice (some ⟨bl,ol,none⟩) l.length cx]:=(by rw[e1,List.take_left' (by simp[hPl])]);have t2:List.drop (K*2+1+1) R5=r5:=(by rw[e2,List.drop_left' (by simp[hPl])]);rw[t1,t2,hR6];simp
      have hd6:R6.drop (K*2)= .slice (some ⟨bl,ol,none⟩) l.length cx:: .int .i64 ((kx+1:Nat):Int)::r5:=(by rw[hR6,←hPl,List.drop_left]);have hd61:R6.drop (K*2+1)= .int .i64 ((kx+1:Nat):Int)::r5:=(by rw[←fx,hd6];rfl);have hR6l:R6.length=R5.length:=(by rw[hR6,hR5];simp);have X2:=X.step hst hos (r:=r5) rfl;rw[hcells2]at X2;have I2:=I.step hst q;have hpu:=ahS H.p I.prop f _ X2.prop;simp only[Int.natCast_add,Int.cast_ofNat_Int]at hd6 hd61;simp -implicitDefEqProofs[g0,g3,hrow,hrow5,wK,hKlt,hK0,hd0,hd1,hRl,hRl1,hRl2,q,q',wk,wk2,hab,hba,hst6,hd6,hd61,hR6l,hbl,hdl,hlcl,hkl,hkl',hbl5,ab];refine hpu.mono ?_;rintro r h2 ⟨⟨v,rfl⟩,Q⟩;obtain⟨b1',b2',c1',c2',ws',r1',r2',X3⟩:=X2.vM Q;have I3:=I2.push f;have hlo:=Nv _ I3 h0 h2 a ⟨b,b1',b2',cs,c1',c2',ws',r1',r2',_,_,_,_,_,_,_,X3⟩;have I4:=I3.look;have hm4:=fun g=>NB I3 g;obtain⟨L,hL⟩:∃L,L=cB {H with stack:=(l,kx+1)::st,p:=fM H.p f}:=⟨_,rfl⟩;rw[←hL]at hR;simp only[←hL]at hlo I4 hm4;simp -implicitDefEqProofs[aJ,af,g0,g3];intro _;refine hlo.mono ?_;rintro r h3 ⟨rfl,X4⟩;simp -implicitDefEqProofs[aJ,af,g0,g3];intro _;refine⟨n',by omega,L.1,L.2,X4,I4,hR,fun g=>?_,by simp⟩;have:=hm4 g;have hmu3:pM {H with stack:=(l,kx+1)::st,p:=fM H.p f}=2*(H.fuel-H.nodes).toNat+(st.length+1):=rfl;omega
def jG (s:bO) (l:List aV) (least:List Int) (fuel:Int):dn:=⟨fb s,l,least,0,[],eV l least,fuel,[]⟩
theorem UB (steps:Nat) (v:aj) (l:List aV) (pins:List (Int×Int)) (fuel:Int):mB steps v l pins fuel=match fL v l pins with
 |none=>none
 |some s=>if fuel<0∨1073741824<fuel then none else
  some ⟨if !(dN steps (cB (jG s l (dK l pins) fuel)).1 (cB (jG s l (dK l pins) fuel)).2).2 then 3 else if jE l (dN steps (cB (jG s l (dK l pins) fuel)).1 (cB (jG s l (dK l pins) fuel)).2).1.aY then 1 else 2,(dN steps (cB (jG s l (dK l pins) fuel)).1 (cB (jG s l (dK l pins) fuel)).2).1.aY,(dN steps (cB (jG s l (dK l pins) fuel)).1 (cB (jG s l (dK l pins) fuel)).2).1.nodes,(dN steps (cB (jG s l (dK l pins) fuel)).1 (cB (jG s l (dK l pins) fuel)).2).1.tree⟩:=rfl
def pW (r:qw) (pv tv:Value):List Value:=[.int .i64 r.answer,pv,.int .i64 r.nodes,tv]
def Rp (h:aa) (o:Option qw) (v:Value) (h':aa):Prop:=Ext h h'∧match o with
 |none=>v= .tuple #[.agg ⟨[.int .i64 0,.slice none 0 0,.int .i64 0,.slice none 0 0]⟩,.int .i64 1]
 |some r=>∃pv at_ nt ct,v= .tuple #[.agg ⟨pW r pv (.slice at_ nt ct)⟩,.int .i64 0]∧aK 3 ab h' pv r.aY
theorem fT.start {v:aj} {l:List aV} {pins:List (Int×Int)} {s:bO} (h:fL v l pins=some s) {fuel:Int} (h0:0≤fuel) (h1:fuel≤1073741824):fT (jG s l (dK l pins) fuel):=by
 have I:=iV.new h;obtain⟨e,_⟩:=pH h;have hsl:s.l=l:=by rw[e]
 have hll:=I.ll;refine⟨I,?_,⟨kj 0,h0⟩,h1,kj 0,kj 0,fun y hy=>(by cases hy),?_⟩
 ·show l.length=s.l.length;rw[hsl]
 ·show(dK l pins).length≤512;rw[An,←hsl];exact hll
theorem Nx (h:dn):(cB h).1.l=h.l:=by
 rw[xJ];split
 ·rfl
 ·split
  ·split<;>rfl
  ·split<;>rfl
theorem aiK:∀(n:Nat) (h:dn) (g:Bool),(dN n h g).1.l=h.l:=by
 intro n;induction n with
 |zero=>intro h g;rfl
 |succ n ih=>
  intro h g;rw[dN];split
  ·split
   ·rfl
   ·split
    ·rw[ih]
    ·rw[ih,Nx]
  ·rfl
theorem UC (steps:Nat) (v:aj) (l:List aV) (pins:List (Int×Int)) (fuel:Int) (hst:2*fuel.toNat≤steps) (cs:List Value) (lv pv:Value) (h:aa) (H:kU h v l pins cs lv pv):
  ao PP 152 [.agg ⟨cs⟩,lv,pv,.int .i64 fuel] h (Rp h (mB steps v l pins fuel)):=by
 refine aC mix (aD Tryz.func152) rfl rfl rfl adm ?_;simp only[ai,Tryz.f152];rw[UB];have hnew:=aaV v l pins cs lv pv h H;have hcl:=H.dF.len;have hct:cs.take 5=cs:=bZ (by omega);have hle:=fun G (E:Ext h G)=>ZC v l pins cs lv pv G (H.ext E);have hls:=H.ls;have hll:=H.ll;have hr1:List.range 1=[0]:=rfl;obtain⟨ad2,c2,rfl⟩:=H.ls.shape;obtain⟨ad3,c3,rfl⟩:=H.ps.shape;simp -implicitDefEqProofs[hcl,hct];refine hnew.mono ?_;rintro r h1 ⟨E1,hN⟩;cases q:fL v l pins with
 |none=>
  rw[q]at hN;subst hN;simp -implicitDefEqProofs[af];intro _;exact⟨E1,rfl⟩
 |some s=>
  rw[q]at hN;obtain⟨b,b1,b2,C,d1,d2,ws,r1,r2,rfl,hP,n0,n1,n2⟩:=hN;simp only;by_cases qf:fuel<0
  ·rw[if_pos (.inl qf)];simp -implicitDefEqProofs[af,qf];intro _;exact⟨E1,rfl⟩
  ·by_cases qf2:1073741824<fuel
   ·rw[if_pos (.inr qf2)];simp -implicitDefEqProofs[af,qf,qf2];intro _;exact⟨E1,rfl⟩
   ·rw[if_neg (by omega)];simp -implicitDefEqProofs[af,qf,qf2,hcl,hct];intro _;refine(hle h1 E1).mono ?_;rintro r h2 ⟨E2,hr⟩;rw[q]at hr;simp only[Option.isSome_some,if_true]at hr;obtain⟨adp,cp,rfl⟩:=hr.shape;obtain⟨least,hleast⟩:∃least,least=dK l pins:=⟨_,rfl⟩;have I:=fT.start q (fuel:=fuel) (by omega) (by omega);rw[←hleast]at hr I ⊢;have hll2:least.length≤1073741824:=(by have:=I.pl;simp only[jG]at this;omega);have hse:=Bj l least (.slice ad2 l.length c2) (.slice adp least.length cp) hll2 hll h2 ((hls.ext E1).ext E2).sl hr.sl;simp -implicitDefEqProofs[af];intro _;refine hse.mono ?_;rintro r h' ⟨e,rfl⟩;replace e:=e.symm;subst e;simp -implicitDefEqProofs[af];intro _;have n2E:=E2.n;have n1E:=E1.n;have X:td h (h2.new (.row true 290 [.pointer (some ⟨b,0,none⟩),.slice ad2 l.length c2,.int .i64 0,.slice adp least.length cp,.int .i64 0,.slice none 0 0,.int .i64 (eV l least),.int .i64 fuel,.slice none 0 0])) h2.n (jG s l least fuel):=
     ⟨b,b1,b2,C,d1,d2,ws,r1,r2,.slice ad2 l.length c2,.slice adp least.length cp,.slice none 0 0,.slice none 0 0,none,none,[],
      ⟨by simp[iP,jG],by omega,by simp,n0,n1,n2,(E1.trans E2).bN _,(hP.ext E2).ext (Ext.new _ _),((hls.ext E1).ext E2).ext (Ext.new _ _),hr.ext (Ext.new _ _),⟨rfl,rfl⟩,⟨rfl,rfl⟩,⟨rfl,fun i x y hx _=>by simp at hx⟩⟩⟩
    have hrun:=aiH steps (jG s l least fuel) I (by simp[pM,jG];omega) h _ h2.n X;have hlr:(dN steps (cB (jG s l least fuel)).1 (cB (jG s l least fuel)).2).1.l=l:=by
     rw[aiK,Nx];rfl
    obtain⟨R,hR⟩:∃R,R=dN steps (cB (jG s l least fuel)).1 (cB (jG s l least fuel)).2:=⟨_,rfl⟩;rw[←hR]at hrun hlr ⊢;refine hrun.mono ?_;rintro r h4 ⟨rfl,⟨b',b1',b2',cs',c1',c2',ws',r1',r2',lv',pv',tv',sv',ot,os,xs,X4⟩,I4⟩;obtain⟨ad5,c5,rfl⟩:=X4.aY.shape;obtain⟨adt,ct,rfl⟩:=X4.tree.shape;obtain⟨ads,cst,rfl⟩:=X4.iu.shape;obtain⟨adl,cl4,rfl⟩:=X4.l.shape;have hrow4:=X4.row;simp only[iP]at hrow4;have fin:∀(v:Value),Ext h (h4.set h2.n (.row true 290 [.pointer (some ⟨b',0,none⟩),.slice adl R.1.l.length cl4,v,.slice ad5 R.1.aY.length c5,.int .i64 R.1.nodes,.slice adt R.1.tree.length ct,.int .i64 R.1.cD,.int .i64 R.1.fuel,.slice ads xs.reverse.length cst]))∧aK 3 ab (h4.set h2.n (.row true 290 [.pointer (some ⟨b',0,none⟩),.slice adl R.1.l.length cl4,v,.slice ad5 R.1.aY.length c5,.int .i64 R.1.nodes,.slice adt R.1.tree.length ct,.int .i64 R.1.cD,.int .i64 R.1.fuel,.slice ads xs.reverse.length cst])) (.slice ad5 R.1.aY.length c5) R.1.aY:=fun v=>
     ⟨X4.ext.dh X4.a0 _,X4.aY.eY (jl h4 h2.n _) (nP X4.row)⟩
    rw[List.length_reverse]at fin hrow4;cases hg:R.2 with
    |false=>
     simp -implicitDefEqProofs[af,hg,hrow4];intro _;exact⟨(fin _).1,_,_,_,_,rfl,(fin _).2⟩
    |true=>
     have hpl:=I4.pl;have hfu:=zU l R.1.aY (.slice ad2 l.length c2) (.slice ad5 R.1.aY.length c5) (by omega) hll h4 (hls.ext X4.ext).sl X4.aY.sl;simp -implicitDefEqProofs[af,hg,hrow4];intro _;refine hfu.mono ?_;rintro r h' ⟨e,rfl⟩;replace e:=e.symm;subst e;by_cases qq:jE l R.1.aY=true
     ·simp -implicitDefEqProofs[aJ,af,qq,hrow4];intro _;exact⟨(fin _).1,_,_,_,_,rfl,(fin _).2⟩
     ·simp -implicitDefEqProofs[aJ,af,qq,hrow4];intro _;exact⟨(fin _).1,_,_,_,_,rfl,(fin _).2⟩
def Rj (h:aa) (o:qw×Int) (v:Value) (h':aa):Prop:=Ext h h'∧∃pv at_ nt ct,v= .tuple #[.agg ⟨pW o.1 pv (.slice at_ nt ct)⟩,.int .i64 o.2]∧aK 3 ab h' pv o.1.aY
theorem jx.Yl {h h':aa} {v:Value} {d:List Int} (E:Ext h h') (H:jx h h' v d):∃h'',Wk h' h''∧Ext h h''∧aK 3 ab h'' v d:=by
 refine⟨aa.iB h' h.n h'.n 3,qJ _ _ _ _,⟨E.g,E.n,fun x hx=>by rw[rX _ (.inl hx),E.f _ hx]⟩,jx.iB H (Ext.bJ h')⟩
theorem Cl (steps:Nat) (v:aj) (l:List aV) (pins:List (Int×Int)) (old:List Int) (fuel:Int) (hst:2*fuel.toNat≤steps) (cs:List Value) (lv pv ov:Value) (hpf:∀x∈old,-4611686018427387904≤x∧x≤4611686018427387904) (hol:old.length≤1073741824) (h:aa) (H:kU h v l pins cs lv pv) (ho:bq h ov old):
  ao PP 113 [.agg ⟨cs⟩,lv,pv,ov,.int .i64 fuel] h (Rj h (gj steps v l pins old fuel)):=by
 refine ao.jT (post:=fun r h'=>Ext h h'∧∃qv at_ nt ct,r= .tuple #[.agg ⟨pW (gj steps v l pins old fuel).1 qv (.slice at_ nt ct)⟩,.int .i64 (gj steps v l pins old fuel).2]∧jx h h' qv (gj steps v l pins old fuel).1.aY) ?_ (fun r h' ⟨E,qv,a1,a2,a3,e,z⟩=>by
  obtain⟨h'',W,E',S⟩:=z.Yl E;exact⟨h'',W,E',qv,a1,a2,a3,e,S⟩)
 refine aC mix (aD Tryz.func113) rfl rfl rfl acW ?_;simp only[ai,Tryz.f113];have hmay:=OW v l pins old cs lv pv ov hpf h H ho;have hcl:=H.dF.len;have hct:cs.take 5=cs:=bZ (by omega);have hbe:=fun G (E:Ext h G)=>UC steps v l pins fuel hst cs lv pv G (H.ext E);have hls:=H.ls;have hll:=H.ll;obtain⟨ad2,c2,rfl⟩:=H.ls.shape;obtain⟨ad3,c3,rfl⟩:=H.ps.shape;obtain⟨ad4,c4,rfl⟩:=ho.shape;unfold gj;simp -implicitDefEqProofs[hcl,hct];refine hmay.mono ?_;rintro r h1 ⟨E1,rfl⟩;by_cases qm:iR v l old pins=true
 ·simp -implicitDefEqProofs[af,qm,hcl,hct];intro _;refine(hbe h1 E1).mono ?_;rintro r h2 ⟨E2,hB⟩;cases qb:mB steps v l pins fuel with
  |none=>
   rw[qb]at hB;subst hB;simp -implicitDefEqProofs[af,aJ,qm];intro _;exact⟨E1.trans E2,.slice none 0 0,⟨none,0,0,rfl⟩,jx.nil⟩
  |some R=>
   rw[qb]at hB;obtain⟨qv,at_,nt,ct,rfl,hS⟩:=hB;obtain⟨ad5,c5,rfl⟩:=hS.shape;have hRl:=wN qb;have hse1:=Bj l R.aY (.slice ad2 l.length c2) (.slice ad5 R.aY.length c5) (by omega) hll h2 ((hls.ext E1).ext E2).sl hS.sl;have hse2:=Bj l old (.slice ad2 l.length c2) (.slice ad4 old.length c4) hol hll h2 ((hls.ext E1).ext E2).sl (cU.ext (cU.ext ho E1) E2);have hcl2:=zx (.slice ad4 old.length c4) old hol h2 (cU.ext (cU.ext ho E1) E2);simp only[pW];by_cases q3:R.answer=3
   ·simp -implicitDefEqProofs[af,aJ,qm,q3];intro _;refine hse1.mono ?_;rintro r h' ⟨e,rfl⟩;replace e:=e.symm;subst e;simp -implicitDefEqProofs[af,aJ];intro _;refine hse2.mono ?_;rintro r h' ⟨e,rfl⟩;replace e:=e.symm;subst e;by_cases q4:eV l R.aY≤eV l old
    ·simp -implicitDefEqProofs[af,aJ,q4];intro _;refine hcl2.mono ?_;rintro r h3 ⟨E3,W⟩;obtain⟨ad6,rfl,hw6⟩:=id W;simp -implicitDefEqProofs[af,aJ];intro _;refine⟨(E1.trans E2).trans E3,.inr ?_⟩;have en:=(E1.trans E2).n;refine⟨ad6,rfl,?_⟩;rcases hw6 with z|⟨b',z1,z2,z3,z4⟩
     ·exact .inl z
     ·exact .inr ⟨b',z1,z2,by omega,z4⟩
    ·simp -implicitDefEqProofs[af,aJ,q4];intro _;exact⟨E1.trans E2,_,⟨q3.symm,rfl⟩,.inl hS⟩
   ·simp -implicitDefEqProofs[af,aJ,qm,q3];intro _;exact⟨E1.trans E2,.inl hS⟩
 ·have qm':iR v l old pins=false:=by simpa using qm
  simp -implicitDefEqProofs[af,qm'];intro _;exact⟨E1,.slice none 0 0,⟨none,0,0,rfl⟩,jx.nil⟩
def jr (o:aH):Value:=.agg ⟨aM o⟩
abbrev Td:=cU 43 aM
theorem I5:lh 33 43 6 48 aM:=⟨IV,Qe,⟨_,BN,rfl⟩,CI,GQ,by decide,by decide,ir,fun _=>rfl⟩
theorem Nu (o:aH) (h:aa):ao PP 40 [jr o] h (fun v h'=>h'=h∧v= .bool (bS o)):=by
 refine aC mix (aD Tryz.func40) rfl rfl rfl afu ?_;simp only[ai,Tryz.f40];unfold bS;by_cases h1:o.state=1
 ·simp -implicitDefEqProofs[jr,aM,h1]
 ·by_cases h2:o.state=2
  ·simp -implicitDefEqProofs[jr,aM,h1,h2]
  ·simp -implicitDefEqProofs[jr,aM,h1,h2]
theorem Ns (o:aH) (h:aa):ao PP 39 [jr o] h (fun v h'=>h'=h∧v= .bool (!bS o)):=by
 refine aC mix (aD Tryz.func39) rfl rfl rfl afr ?_;simp only[ai,Tryz.f39];simp -implicitDefEqProofs[jr,aM];refine(Nu o h).mono ?_;rintro v h' ⟨rfl,rfl⟩;simp -implicitDefEqProofs[af]
def SC (s:Value) (l:List aH) (m:Nat) (h:aa) (n:Nat) (σ:St):Prop:=∃i:Nat,n=m-i∧i≤m∧σ.m.h=h∧σ.t.get 0=some s∧σ.t.get 1=some (.func (.func 39) #[] #[])∧σ.t.get 7=some (.int .i64 (m:Nat))∧σ.t.get 8=some (.int .i64 (i:Nat))∧∀j t,j<i→l[j]? =some t→(!bS t)=false
theorem Y3 (s:Value) (l:List aH) (hl:l.length≤1073741824) (h:aa) (hs:Td h s l):
  ao PP 74 [s,.func (.func 39) #[] #[]] h (fun v h'=>h'=h∧v= .int .i64 (V.ey (fun p=> !bS p) l)):=by
 refine aC mix (aD Tryz.func74) rfl rfl rfl afP ?_;simp only[ai,Tryz.f74];obtain⟨ad,c,rfl⟩:=hs.shape;obtain⟨m,hm⟩:∃m,m=l.length:=⟨_,rfl⟩;rw[←hm]at hs ⊢;simp -implicitDefEqProofs;refine bL (SC (.slice ad m c) l m h) _ ⟨0,rfl,by omega,rfl,by simp,by simp,by simp,by simp,by omega⟩ ?_;rintro n ⟨T,⟨x,H⟩⟩ ⟨i,rfl,hi,hH,g0,g1,g7,g8,aQ⟩;simp at hH g0 g1 g7 g8;subst hH;simp -implicitDefEqProofs[g0,g1,g7,g8];refine bY (fun hc=>?_) (fun hc=>?_)
 ·have hil:i<m:=by omega
  have hti:l[i]? =some l[i]:=av (by omega);obtain⟨_,b',o,wb,cs,r,rfl,hb',hd,hlc,_⟩:=hs.at 6 ir hti;obtain⟨u,hu⟩:∃u,u=l[i]:=⟨_,rfl⟩;rw[←hu]at hd hti;have w1:=bU (i:=i) (by omega);have hk6:(cs.drop (o+i*6)).take 6=aM u:=by rw[hd];rfl
  simp only[aM]at hk6;simp -implicitDefEqProofs[g0,g1,g7,g8,hil,hb',hk6,hlc];refine(Ns u H).mono ?_;rintro v h' ⟨rfl,rfl⟩;simp -implicitDefEqProofs[af];intro _;by_cases h1:bS u=true
  ·simp -implicitDefEqProofs[h1,g0,g1,g7,g8,w1];refine⟨m-(i+1),by omega,i+1,rfl,by omega,rfl,by simp[g0],by simp[g1],by simp[g7],by simp,fun j z hj hz=>?_⟩;rcases Nat.lt_or_ge j i with q|q
   ·exact aQ j z q hz
   ·have:j=i:=(by omega);subst this;rw[hti]at hz;obtain rfl:=bP hz;simp[h1]
  ·simp -implicitDefEqProofs[h1,g0,g1,g7,g8];exact(V.xg hti (by simp[h1]) aQ).symm
 ·simp -implicitDefEqProofs[g0,g1,g7,g8];exact(V.zN (fun j z hj hz=>aQ j z (by omega) hz)).symm
theorem Jr {α:Type} {enc:α→List Value} {k:Nat} (hk:∀x,(enc x).length=k) (xs:List α) (i:Nat):(xs.flatMap enc).take (i*k)=(xs.take i).flatMap enc:=by
 induction xs generalizing i with
 |nil=>simp
 |cons a r ih=>
  cases i with
  |zero=>simp
  |succ i=>
   rw[gF,List.take_succ_cons,gF,←ih i,List.take_append,hk a,bZ (by rw[hk,Nat.succ_mul];omega),Nat.succ_mul,rH]
theorem Ya {α:Type} {enc:α→List Value} {k:Nat} (hk:∀x,(enc x).length=k) (xs:List α) (i:Nat) (a:α) (hi:i<xs.length):(xs.flatMap enc).take (i*k)++enc a++(xs.flatMap enc).drop (i*k+k)=(xs.set i a).flatMap enc:=by
 have:=qH k hk xs (i+1);rw[Nat.succ_mul]at this;rw[Jr hk,this,List.set_eq_take_append_cons_drop,if_pos hi,List.flatMap_append,gF,eD]
theorem xf {α:Type} (p:α→Bool) (l:List α) (j:Nat) {t:α} (h:l[j]? =some t):(l.take (j+1)).filter p=(l.take j).filter p++(if p t=true then[t]else[]):=by
 rw[fI,h,Option.toList_some,nr];by_cases q:p t=true
 ·simp[q]
 ·simp[q]
theorem YP (G:aa) (b:Nat) (v:aZ):(G.set b v).f b=v:=by simp
def yX (h0:aa) (b c:Nat) (xs:List aH) (m n:Nat) (σ:St):Prop:=∃(i j:Nat) (L:List aH),n=m-j∧j≤m∧i<j∧Ext h0 σ.m.h∧b<σ.m.h.n∧σ.m.h.f b= .row true 43 (L.flatMap aM)∧L.length=m∧L.take i=(xs.take j).filter bS∧L.drop j=xs.drop j∧
 σ.t.get 0=some (.slice (some ⟨b,0,none⟩) m c)∧σ.t.get 1=some (.func (.func 39) #[] #[])∧σ.t.get 5=some (.int .i64 (i:Nat))∧σ.t.get 6=some (.int .i64 (j:Nat))
theorem WH (h0 h:aa) (E0:Ext h0 h) (o:Option Nat) (xs:List aH) (v:Value) (hl:xs.length≤1073741824) (W:Ow 43 aM h0 h o xs v):
  ao PP 38 [v,.func (.func 39) #[] #[]] h (fun r h'=>Ext h0 h'∧eM 43 aM h0 h' o (xs.filter bS) r):=by
 refine aC mix (aD Tryz.func38) rfl rfl rfl afq ?_;simp only[ai,Tryz.f38];have hin:=Y3 v xs hl h W.sl;cases o with
 |none=>
  obtain⟨rfl,hx⟩:=W;simp only at hx;subst hx;have hf:V.ey (fun p=> !bS p) ([]:List aH)= -1:=rfl;rw[hf]at hin;simp -implicitDefEqProofs;refine hin.mono ?_;rintro r h' ⟨e,rfl⟩;replace e:=e.symm;subst e;simp -implicitDefEqProofs[af];intro _;exact⟨E0,rfl,rfl⟩
 |some b=>
  obtain⟨rfl,hrow,hb0,bI⟩:=W;simp -implicitDefEqProofs;refine hin.mono ?_;rintro r h' ⟨e,rfl⟩;replace e:=e.symm;subst e;by_cases q:∃t∈xs,bS t=false
  ·have hany:xs.any (fun p=> !bS p)=true:=by
    obtain⟨t,ht,hz⟩:=q;exact kV.2 ⟨t,ht,by simp[hz]⟩
   have hfi:V.ey (fun p=> !bS p) xs=(xs.findIdx (fun p=> !bS p):Int):=by unfold V.ey;rw[if_pos hany]
   obtain⟨i0,hi0⟩:∃i0,i0=xs.findIdx (fun p=> !bS p):=⟨_,rfl⟩
   have hil:i0<xs.length:=by
    rw[hi0,List.findIdx_lt_length];obtain⟨t,ht,hz⟩:=q;exact⟨t,ht,by simp[hz]⟩
   have hbef:∀j,j<i0→∀t,xs[j]? =some t→bS t=true:=fun j hj t ht=>by
    have hjx:j<xs.findIdx (fun p=> !bS p):=(by rw[←hi0];exact hj);have:=List.not_of_lt_findIdx hjx;obtain⟨hjl,e⟩:=cY.1 ht;rw[e]at this;simpa using this
   have hat:∀t,xs[i0]? =some t→bS t=false:=fun t ht=>by
    obtain⟨hjl,e⟩:=cY.1 ht;have:=List.findIdx_getElem (xs:=xs) (p:=fun p=> !bS p) (w:=by rw[←hi0];exact hil);simp only[←hi0]at this;rw[e]at this;simpa using this
   rw[hfi,←hi0]
   have hne:¬(i0:Int)= -1:=by omega
   have w1:=bU (i:=i0) (by omega)
   obtain⟨m,hm⟩:∃m,m=xs.length:=⟨_,rfl⟩
   rw[←hm]
   simp -implicitDefEqProofs[af,hne,w1]
   intro _
   have hft:(xs.take (i0+1)).filter bS=xs.take i0:=by
    have ht:xs[i0]? =some xs[i0]:=av hil;rw[xf bS xs i0 ht,hat _ ht];simp only[ff,if_false,pj];rw[List.filter_eq_self];intro t ht;obtain⟨j,hj,e⟩:=List.getElem_of_mem ht;rw[cQ]at hj;refine hbef j (by omega) t ?_;rw[←e,List.getElem_take];exact av (by omega)
   refine bL (yX h0 b m xs m) _ ⟨i0,i0+1,xs,rfl,by omega,by omega,E0,bI,hrow,hm.symm,hft.symm,rfl,by simp⟩ ?_
   clear hft
   rintro n ⟨T,⟨x,G⟩⟩ ⟨i,j,L,rfl,hj,hij,E,hbn,hr,hLl,hLt,hLd,g0,g1,g5,g6⟩
   simp at E hbn hr g0 g1 g5 g6
   simp -implicitDefEqProofs[g0,g1,g5,g6]
   refine bY (fun hc=>?_) (fun hc=>?_)
   ·have hjm:j<m:=by omega
    have w2:=bU (i:=j) (by omega)
    have w3:=bU (i:=i) (by omega)
    have hxj:xs[j]? =some xs[j]:=av (by omega)
    obtain⟨u,hu⟩:∃u,u=xs[j]:=⟨_,rfl⟩
    rw[←hu]at hxj
    have hLj:L[j]? =some u:=by
     have h1:(L.drop j)[0]? =(xs.drop j)[0]? :=(by rw[hLd]);rw[List.getElem?_drop,List.getElem?_drop,gQ]at h1;rw[h1];exact hxj
    obtain⟨cells,hcells⟩:∃cells,cells=L.flatMap aM:=⟨_,rfl⟩
    rw[←hcells]at hr
    have hcl:cells.length=m*6:=by rw[hcells,fg 6 ir,hLl]
    have hd6:(cells.drop (j*6)).take 6=aM u:=by
     obtain⟨hlt,e⟩:=cY.1 hLj;rw[hcells,qH 6 ir,ie hlt,gF,e];rfl
    have hd6':=hd6
    simp only[aM]at hd6
    have hjl:j*6+6≤cells.length:=by omega
    have hil2:i*6+6≤cells.length:=by omega
    have him:i<m:=by omega
    simp -implicitDefEqProofs[g0,g1,g5,g6,hjm,hr,hd6,hjl]
    refine(Ns u G).mono ?_
    rintro r h' ⟨e,rfl⟩
    replace e:=e.symm
    subst e
    have hfs:=xf bS xs j hxj
    have hdd:L.drop (j+1)=xs.drop (j+1):=by
     have:=congrArg (List.drop 1) hLd;rwa[fx,fx]at this
    by_cases z:bS u=true
    ·rw[if_pos z]at hfs
     have hset:=Ya ir L i u (by omega)
     rw[←hcells]at hset
     simp only[aM,eD,dp,dA]at hset
     simp -implicitDefEqProofs[af,z,g0,g1,g5,g6,w2,w3,him,hr,hil2]
     intro _
     rw[hset]
     refine⟨m-(j+1),by omega,i+1,j+1,L.set i u,rfl,by omega,by omega,E.dh hb0 _,hbn,by simp,by simp[hLl],?_,?_,by simp⟩
     ·rw[hfs,←hLt,fI,List.getElem?_set_self (by omega)]
      congr 1
      exact List.take_set_of_le (a8 _)
     ·rw[List.drop_set_of_lt (by omega),hdd]
    ·rw[if_neg z,pj]at hfs
     simp -implicitDefEqProofs[af,z,g0,g1,g5,g6,w2]
     intro _
     exact⟨m-(j+1),by omega,i,j+1,L,rfl,by omega,by omega,E,hbn,by rw[hr,hcells],hLl,by rw[hfs];exact hLt,hdd,by simp⟩
   ·have e:j=m:=by omega
    subst e
    have hcl:(L.flatMap aM).length=j*6:=by rw[fg 6 ir,hLl]
    have hlt:=Jr ir L i
    rw[hLt,bZ (show xs.length≤j by omega)]at hlt
    have hfl:(xs.filter bS).length=i:=by
     have:=congrArg List.length hLt;rw[cQ,bZ (show xs.length≤j by omega)]at this;omega
    obtain⟨cells,hcells⟩:∃cells,cells=L.flatMap aM:=⟨_,rfl⟩
    rw[←hcells]at hr hcl hlt
    have c1:i≤j:=by omega
    have c2:¬j-i=0:=by omega
    have c3:i*6+(j-i)*6≤cells.length:=by omega
    simp -implicitDefEqProofs[g0,g1,g5,g6,hr,c1,c2,c3,oN]
    rw[hlt]
    exact⟨E.dh hb0 _,⟨i,_,by rw[hfl],YP _ _ _⟩,hb0,hbn⟩
  ·have aQ:∀t∈xs,bS t=true:=fun t ht=>by
    cases z:bS t with
    |true=>rfl
    |false=>exact absurd ⟨t,ht,z⟩ q
   have hfi:V.ey (fun p=> !bS p) xs= -1:=by
    unfold V.ey;rw[if_neg];intro z;obtain⟨t,ht,hz⟩:=kV.1 z;rw[aQ t ht]at hz;cases hz
   have hfl:xs.filter bS=xs:=List.filter_eq_self.2 aQ
   rw[hfi,hfl]
   simp -implicitDefEqProofs[af]
   intro _
   exact⟨E0,⟨_,[],rfl,by simpa using hrow⟩,hb0,bI⟩
def iy (b:aG) (vc:List Value) (ov:Value):List Value:=.int .i64 b.fuel:: .bool b.has::(vc++[ov,.int .i64 b.now])
structure bz (h0 h:aa) (a:Nat) (b:aG) (vc:List Value) (ov:Value) (o:Option Nat):Prop where
 row:h.f a= .row true 77 (iy b vc ov)
 a0:h0.n≤a
 a1:a<h.n
 ext:Ext h0 h
 dF:fw h b.v vc
 dL:eM 43 aM h0 h o b.l ov
section
variable {α:Type} {e:TypeId} {enc:α→List Value} {h0 h:aa} {o:Option Nat} {xs:List α} {v:Value}
theorem eM.sl (W:eM e enc h0 h o xs v):cU e enc h v xs:=by
 cases o with
 |none=>obtain⟨rfl,rfl⟩:=W;exact cU.nil
 |some b=>
  obtain⟨⟨c,r,rfl,q⟩,n0,n1⟩:=W;exact⟨_,_,rfl,fun z=>(by cases z),.inr ⟨b,0,true,_,r,rfl,q,rfl,by simp,n1⟩⟩
theorem eM.dB (W:eM e enc h0 h o xs v) (E:Ext h0 h):∃h',Wk h h'∧Ext h0 h'∧aK e enc h' v xs:=by
 cases o with
 |none=>obtain⟨rfl,rfl⟩:=W;exact⟨h,Wk.refl h,E,aK.nil⟩
 |some b=>
  obtain⟨⟨c,r,rfl,q⟩,n0,n1⟩:=W;exact⟨h.dB b,h.pE b,E.dB n0,⟨_,_,rfl,fun z=>(by cases z),.inr ⟨b,0,_,r,rfl,xi q,rfl,by simp,n1⟩⟩⟩
end
section
variable {h0 h h':aa} {a:Nat} {b:aG} {vc:List Value} {ov:Value} {o:Option Nat}
theorem bz.exts (B:bz h0 h a b vc ov o) (E:Ext h h'):bz h0 h' a b vc ov o:=
 ⟨by rw[E.f _ B.a1];exact B.row,B.a0,de B.a1 E.n,B.ext.trans E,B.dF.ext E,B.dL.ext E⟩
theorem bz.cells (B:bz h0 h a b vc ov o):∃a1 n1 c1 g r a2 n2 c2 a3 n3 c3 a4 n4 c4,vc=[.slice a1 n1 c1,.int .i64 g,.int .i64 r,.slice a2 n2 c2,.slice a3 n3 c3]∧ov= .slice a4 n4 c4∧n4=b.l.length∧
  h.f a= .row true 77 [.int .i64 b.fuel,.bool b.has,.slice a1 n1 c1,.int .i64 g,.int .i64 r,.slice a2 n2 c2,.slice a3 n3 c3,.slice a4 n4 c4,.int .i64 b.now]:=by
 obtain⟨a1,n1,c1,g,r,a2,n2,c2,a3,n3,c3,rfl⟩:=B.dF.shape;obtain⟨a4,c4,rfl⟩:=B.dL.shape;exact⟨_,_,_,_,_,_,_,_,_,_,_,_,_,_,rfl,rfl,rfl,B.row⟩
theorem xX (hl:b.l.length≤1073741824) (B:bz h0 h a b vc ov o):ao PP 14 [.pointer (some ⟨a,0,none⟩)] h (fun r h'=>Ext h h'∧cL 43 aM h h' r b.l):=by
 refine aC mix (aD Tryz.func14) rfl rfl rfl adf ?_;simp only[ai,Tryz.f14];have hc:=GK ov b.l hl h B.dL.sl;obtain⟨a1,n1,c1,g,r,a2,n2,c2,a3,n3,c3,a4,n4,c4,rfl,rfl,rfl,hrow⟩:=B.cells;simp -implicitDefEqProofs[hrow];refine hc.mono ?_;rintro r G ⟨E,W⟩;have hw:=W;obtain⟨ad,rfl,_⟩:=id W;simp -implicitDefEqProofs[aJ];intro _;exact⟨E,hw⟩
theorem pK (hl:b.l.length≤1073741824) (B:bz h0 h a b vc ov o):ao PP 16 [.pointer (some ⟨a,0,none⟩)] h (fun r h'=>Ext h h'∧aK 43 aM h' r (b8 b)):=by
 refine ao.jT (post:=fun r h'=>Ext h h'∧∃o',eM 43 aM h h' o' (b8 b) r) ?_ (fun v h' ⟨E,o',W⟩=>by
  obtain⟨h'',w,E',S⟩:=W.dB E;exact⟨h'',w,E',S⟩)
 refine aC mix (aD Tryz.func16) rfl rfl rfl adD ?_;simp only[ai,Tryz.f16];have ho:=xX hl B;simp -implicitDefEqProofs;refine ho.mono ?_;rintro r G ⟨E,W⟩;obtain⟨o1,W⟩:=Ow.iE W;obtain⟨rfl,_⟩:=id W;have hd:=WH h G E o1 b.l _ hl W;simp -implicitDefEqProofs[aJ];intro _;refine hd.mono ?_;rintro r G2 ⟨E2,W2⟩;obtain⟨ad,c,e⟩:=W2.shape;subst e;simp -implicitDefEqProofs[aJ];intro _;exact⟨E2,o1,W2⟩
theorem N0 (B:bz h0 h a b vc ov o):ao PP 22 [.pointer (some ⟨a,0,none⟩)] h (fun r h'=>h'=h∧r= .int .i64 b.now):=by
 refine aC mix (aD Tryz.func22) rfl rfl rfl aew ?_;simp only[ai,Tryz.f22];obtain⟨a1,n1,c1,g,r,a2,n2,c2,a3,n3,c3,a4,n4,c4,rfl,rfl,rfl,hrow⟩:=B.cells;simp -implicitDefEqProofs[hrow]
end
theorem oH (fuel:Int) (h0:0≤fuel) (h1:fuel≤1073741824) (h:aa):ao PP 12 [.int .i64 fuel] h (fun r h'=>∃a vc ov,r= .pointer (some ⟨a,0,none⟩)∧bz h h' a (dX fuel) vc ov none):=by
 refine aC mix (aD Tryz.func12) rfl rfl rfl Ob ?_;simp only[ai,Tryz.f12];have q1:¬fuel<0:=by omega
 have q2:¬1073741824<fuel:=by omega
 simp -implicitDefEqProofs[q1,q2];exact⟨[.slice none 0 0,.int .i64 0,.int .i64 0,.slice none 0 0,.slice none 0 0],.slice none 0 0,⟨by simp[iy,dX],a8 _,by simp,Ext.new _ _,⟨_,_,_,rfl,aK.nil,aK.nil,aK.nil⟩,⟨rfl,rfl⟩⟩⟩
theorem Ow.ne {α β:Type} {e e':TypeId} {enc:α→List Value} {enc':β→List Value} {h0 h0' h:aa} {o o':Option Nat} {xs:List α} {ys:List β} {v u:Value} (W:Ow e enc h0 h o xs v) (W':Ow e' enc' h0' h o' ys u) (he:e≠e'):∀b,o=some b→o'≠some b:=by
 rintro b rfl z;subst z;have h1:=W.row;rw[W'.row]at h1;simp only[aZ.row.injEq,true_and]at h1;exact he h1.1.symm
theorem ahc (k:Nat) (a b:List aH):fr k (a++b)=fr k a++fr (k+a.length) b:=by
 induction a generalizing k with
 |nil=>simp[fr]
 |cons o r ih=>
  rw[dp,fr,fr];split
  ·rw[ih,dp,eE,show k+1+r.length=k+(r.length+1) by omega]
  ·rw[ih,eE,show k+1+r.length=k+(r.length+1) by omega]
theorem ahd (l:List aH) (i:Nat) {t:aH} (h:l[i]? =some t):fr 0 (l.take (i+1))=fr 0 (l.take i)++(if t.state=2 then[((i:Int),t.first)]else[]):=by
 obtain⟨hl,_⟩:=cY.1 h;rw[fI,h,Option.toList_some,ahc,cQ,Nat.min_eq_left (by omega),jh];congr 1
theorem yd (k:Nat) (l:List aH):(fr k l).length≤l.length:=by
 induction l generalizing k with
 |nil=>simp[fr]
 |cons o r ih=>
  rw[fr];split
  ·simp only[eE];have:=ih (k+1);omega
  ·simp only[eE];have:=ih (k+1);omega
def oT (l:List aH) (i:Nat):List aV:=(l.take i).map (·.aO)
def oC (l:List aH) (i:Nat):List Int:=(l.take i).map (·.first)
theorem AS (l:List aH) (i:Nat) {t:aH} (h:l[i]? =some t):oT l (i+1)=oT l i++[t.aO]:=by unfold oT;rw[fI,h,Option.toList_some,lk];rfl
theorem zP (l:List aH) (i:Nat) {t:aH} (h:l[i]? =some t):oC l (i+1)=oC l i++[t.first]:=by unfold oC;rw[fI,h,Option.toList_some,lk];rfl
theorem agX (l:List aH) (i:Nat) (h:i≤l.length):(oT l i).length=i:=by simp[oT];omega
theorem X9 (l:List aH) (i:Nat) (h:i≤l.length):(oC l i).length=i:=by simp[oC];omega
def SD (h:aa) (l:List aH) (lv:Value) (m n:Nat) (σ:St):Prop:=∃(i:Nat) (o1 o2 o3:Option Nat) (v1 v2 v3:Value),n=m-i∧i≤m∧Ext h σ.m.h∧aK 43 aM σ.m.h lv l∧Ow 29 al h σ.m.h o1 (oT l i) v1∧Ow 3 ab h σ.m.h o2 (oC l i) v2∧Ow 69 kQ h σ.m.h o3 (fr 0 (l.take i)) v3∧
 σ.t.get 5=some v1∧σ.t.get 6=some v2∧σ.t.get 7=some v3∧σ.t.get 11=some lv∧σ.t.get 12=some (.int .i64 (m:Nat))∧σ.t.get 13=some (.int .i64 (i:Nat))
def Ta (h:aa) (l:List aH) (lv:Value) (t:aH) (m i:Nat) (σ:St):Prop:=∃(o1 o2 o3:Option Nat) (v1 v2 v3:Value),Ext h σ.m.h∧aK 43 aM σ.m.h lv l∧Ow 29 al h σ.m.h o1 (oT l (i+1)) v1∧Ow 3 ab h σ.m.h o2 (oC l (i+1)) v2∧Ow 69 kQ h σ.m.h o3 (fr 0 (l.take i)) v3∧
 σ.t.get 5=some v1∧σ.t.get 6=some v2∧σ.t.get 7=some v3∧σ.t.get 8=some (.int .i64 (i:Nat))∧σ.t.get 9=some (.pointer (some ⟨9,0,some 0⟩))∧σ.t.get 11=some lv∧σ.t.get 12=some (.int .i64 (m:Nat))∧σ.t.get 13=some (.int .i64 (i:Nat))∧σ.m.x.look 9=some (43,aM t)
theorem AO {α:Type} {e:TypeId} {enc:α→List Value} {h h' F:aa} {o:Option Nat} {xs:List α} {v:Value} (W:Ow e enc h h' o xs v) (hn:F.n=h'.n) (hF:∀b cs,h.n≤b→b<h'.n→h'.f b= .row true e cs→F.f b= .row false e cs):aK e enc F v xs:=by
 obtain⟨rfl,z⟩:=W;cases o with
 |none=>
  simp only at z;subst z;exact aK.nil
 |some b=>
  obtain⟨z1,z2,z3⟩:=z;exact⟨_,xs.length,rfl,fun q=>(by cases q),.inr ⟨b,0,_,[],rfl,hF b _ z2 z3 z1,by simp,by simp,by rw[hn];exact z3⟩⟩
theorem Ym {h h':aa} (E:Ext h h') {o1 o2 o3:Option Nat} {l1:List aV} {l2:List Int} {l3:List (Int×Int)} {v1 v2 v3:Value} (W1:Ow 29 al h h' o1 l1 v1) (W2:Ow 3 ab h h' o2 l2 v2) (W3:Ow 69 kQ h h' o3 l3 v3):
  ∃F,Wk h' F∧Ext h F∧aK 29 al F v1 l1∧aK 3 ab F v2 l2∧aK 69 kQ F v3 l3:=by
 obtain⟨F,hF⟩:∃F,F=aa.iB (aa.iB (aa.iB h' h.n h'.n 29) h.n h'.n 3) h.n h'.n 69:=⟨_,rfl⟩;have W:Wk h' F:=by rw[hF];exact((qJ h' _ _ _).trans (qJ _ _ _ _)).trans (qJ _ _ _ _)
 refine⟨F,W,⟨W.g.trans E.g,by rw[W.n];exact E.n,fun x hx=>?_⟩,AO W1 W.n fun b cs n0 n1 hb=>?_,AO W2 W.n fun b cs n0 n1 hb=>?_,AO W3 W.n fun b cs n0 n1 hb=>?_⟩
 ·rw[hF,rX _ (.inl hx),rX _ (.inl hx),rX _ (.inl hx),E.f _ hx]
 ·have q1:=tK h' n0 n1 hb;have q2:(aa.iB (aa.iB h' h.n h'.n 29) h.n h'.n 3).f b= .row false 29 cs:=by rw[pD _ (fun w c z=>by rw[q1]at z;cases z)];exact q1
  rw[hF,pD _ (fun w c z=>by rw[q2]at z;cases z)];exact q2
 ·have q1:(aa.iB h' h.n h'.n 29).f b= .row true 3 cs:=by rw[pD _ (fun w c z=>by rw[hb]at z;cases z)];exact hb
  have q2:=tK (aa.iB h' h.n h'.n 29) n0 n1 q1;rw[hF,pD _ (fun w c z=>by rw[q2]at z;cases z)];exact q2
 ·have q1:(aa.iB h' h.n h'.n 29).f b= .row true 69 cs:=by rw[pD _ (fun w c z=>by rw[hb]at z;cases z)];exact hb
  have q2:(aa.iB (aa.iB h' h.n h'.n 29) h.n h'.n 3).f b= .row true 69 cs:=by rw[pD _ (fun w c z=>by rw[q1]at z;cases z)];exact q1
  rw[hF];exact tK _ n0 n1 q2
section
variable {h0 h h':aa} {a:Nat} {b:aG} {vc:List Value} {ov:Value} {o:Option Nat}
theorem AW (hl:b.l.length≤1048576) (B:bz h0 h a b vc ov o):ao PP 78 [.pointer (some ⟨a,0,none⟩)] h (fun r h'=>Ext h h'∧∃v1 v2 v3,r= .tuple #[v1,v2,v3]∧aK 29 al h' v1 (aT b).1∧aK 3 ab h' v2 (aT b).2.1∧aK 69 kQ h' v3 (aT b).2.2):=by
 refine ao.jT (post:=fun r h'=>Ext h h'∧∃o1 o2 o3 v1 v2 v3,r= .tuple #[v1,v2,v3]∧Ow 29 al h h' o1 (aT b).1 v1∧Ow 3 ab h h' o2 (aT b).2.1 v2∧Ow 69 kQ h h' o3 (aT b).2.2 v3) ?_ (fun r h' ⟨E,o1,o2,o3,v1,v2,v3,e,W1,W2,W3⟩=>by
  obtain⟨F,W,EF,S1,S2,S3⟩:=Ym E W1 W2 W3;exact⟨F,W,EF,v1,v2,v3,e,S1,S2,S3⟩)
 refine aC mix (aD Tryz.func78) rfl rfl rfl afT ?_;simp only[ai,Tryz.f78];have hlive:=pK (by omega) B;have hr1:List.range 1=[0]:=rfl;have hr2:List.range 2=[0,1]:=rfl;have hll:(b8 b).length≤1048576:=eW (List.length_filter_le _ _) hl;have hpl:aT b=((b8 b).map (·.aO),(b8 b).map (·.first),fr 0 (b8 b)):=rfl;rw[hpl];obtain⟨l,hlB⟩:∃l,l=b8 b:=⟨_,rfl⟩;rw[←hlB]at hlive hll ⊢;obtain⟨m,hm⟩:∃m,m=l.length:=⟨_,rfl⟩;simp -implicitDefEqProofs;refine hlive.mono ?_;rintro r G ⟨E,S⟩;obtain⟨ad,c,rfl⟩:=S.shape;rw[←hm]at S ⊢;simp -implicitDefEqProofs[aJ,af];intro _;refine bL (SD h l (.slice ad m c) m) _ ⟨0,none,none,none,_,_,_,rfl,by omega,E,S,Ow.nil,Ow.nil,Ow.nil,by simp⟩ ?_;rintro n ⟨T,⟨x,G⟩⟩ ⟨i,o1,o2,o3,v1,v2,v3,rfl,hi,E,S,W1,W2,W3,g5,g6,g7,g11,g12,g13⟩;simp at E S W1 W2 W3 g5 g6 g7 g11 g12 g13;obtain⟨rfl,_⟩:=id W1;obtain⟨rfl,_⟩:=id W2;obtain⟨rfl,_⟩:=id W3;have l1:=agX l i (by omega);have l2:=X9 l i (by omega);simp -implicitDefEqProofs[g5,g6,g7,g11,g12,g13];refine bY (fun hc=>?_) (fun hc=>?_)
 ·have him:i<m:=by omega
  have w1:=bU (i:=i) (by omega);have hti:l[i]? =some l[i]:=av (by omega);obtain⟨t,ht⟩:∃t,t=l[i]:=⟨_,rfl⟩;rw[←ht]at hti;obtain⟨_,bo,oo,co,ro,rfl,hbo,hdo,hlo,_⟩:=S.at 6 ir hti;have hk6:(co.drop (oo+i*6)).take 6=aM t:=by rw[hdo];rfl
  simp only[aM]at hk6;obtain⟨A1,hA1⟩:∃A1,A1=(oT l i).flatMap al++al t.aO:=⟨_,rfl⟩;obtain⟨A2,hA2⟩:∃A2,A2=(oC l i).flatMap ab++ab t.first:=⟨_,rfl⟩;simp -implicitDefEqProofs[g5,g6,g7,g11,g12,g13,him,hbo,hk6,hlo];refine wL (Ta h l (.slice (some ⟨bo,oo,none⟩) m c) t m i) ?_ ?_
  ·rw[jA,jA,jA,uS];refine⟨?_,?_,?_,trivial⟩
   ·have W1k1:=W1.ext (Ext.new G (.row true 29 (al t.aO)));have W2k1:=W2.ext (Ext.new G (.row true 29 (al t.aO)));have W3k1:=W3.ext (Ext.new G (.row true 29 (al t.aO)));have Sk1:=S.ext (Ext.new G (.row true 29 (al t.aO)));have La:=gU G (.row true 29 (al t.aO));have E1:=Ext.bN E (.row true 29 (al t.aO));have hA:=gR lZ W1k1 t.aO _ La.1 (by rw[l1];omega);rw[←hA1]at hA;have N2:=Ow.ne W2k1 W1k1 (by decide);have N32:=Ow.ne W3k1 W1k1 (by decide);have W1n:=Ow.app W1k1 (E1).n [t.aO] (cells:=A1) (by rw[hA1];simp) rfl;have W2k2:=Ow.other (β:=Int) (e':=3) (enc':=ab) (ys:=[]) (u:=.bool true) W2k1 N2 (.row true 29 A1);have W3k2:=Ow.other (β:=Int) (e':=3) (enc':=ab) (ys:=[]) (u:=.bool true) W3k1 N32 (.row true 29 A1);have Sk2:=Sk1.kp ((Kp.refl _).app (fun b hb=>Ow.nf W1k1 b hb) (.row true 29 A1));have E2:=Ext.app E1 (o:=o1) (fun b hb=>⟨(W1k1.lt b hb).1,(W1k1.lt b hb).2⟩) (.row true 29 A1);have W1k3:=W1n.ext (Ext.new (cg (G.new (.row true 29 (al t.aO))) o1 (.row true 29 A1)) (.row true 3 (ab t.first)));have W2k3:=W2k2.ext (Ext.new (cg (G.new (.row true 29 (al t.aO))) o1 (.row true 29 A1)) (.row true 3 (ab t.first)));have W3k3:=W3k2.ext (Ext.new (cg (G.new (.row true 29 (al t.aO))) o1 (.row true 29 A1)) (.row true 3 (ab t.first)));have Sk3:=Sk2.ext (Ext.new (cg (G.new (.row true 29 (al t.aO))) o1 (.row true 29 A1)) (.row true 3 (ab t.first)));have Lb:=gU (cg (G.new (.row true 29 (al t.aO))) o1 (.row true 29 A1)) (.row true 3 (ab t.first));have E3:=Ext.bN E2 (.row true 3 (ab t.first));have hB:=gR kK W2k3 t.first _ Lb.1 (by rw[l2];omega);rw[←hA2]at hB;have N4:=Ow.ne W1k3 W2k3 (by decide);have N34:=Ow.ne W3k3 W2k3 (by decide);have W2n:=Ow.app W2k3 (E3).n [t.first] (cells:=A2) (by rw[hA2];simp) rfl;have W1k4:=Ow.other (β:=Int) (e':=3) (enc':=ab) (ys:=[]) (u:=.bool true) W1k3 N4 (.row true 3 A2);have W3k4:=Ow.other (β:=Int) (e':=3) (enc':=ab) (ys:=[]) (u:=.bool true) W3k3 N34 (.row true 3 A2);have Sk4:=Sk3.kp ((Kp.refl _).app (fun b hb=>Ow.nf W2k3 b hb) (.row true 3 A2));have E4:=Ext.app E3 (o:=o2) (fun b hb=>⟨(W2k3.lt b hb).1,(W2k3.lt b hb).2⟩) (.row true 3 A2);simp only[al,V.ab]at hA hB;simp -implicitDefEqProofs[aJ,g5,g6,g7,g11,g12,g13,aP,hr1,hr2,hA,hB];have P1:=W1k4;rw[←AS l i hti]at P1;have P2:=W2n;rw[←zP l i hti]at P2;exact⟨_,_,o3,_,_,_,E4,Sk4,P1,P2,W3k4,by simp[df,aM]⟩
   ·have W1k1:=W1.ext (Ext.new G (.row true 29 (al t.aO)));have W2k1:=W2.ext (Ext.new G (.row true 29 (al t.aO)));have W3k1:=W3.ext (Ext.new G (.row true 29 (al t.aO)));have Sk1:=S.ext (Ext.new G (.row true 29 (al t.aO)));have La:=gU G (.row true 29 (al t.aO));have E1:=Ext.bN E (.row true 29 (al t.aO));have W1k2:=W1k1.ext (Ext.new (G.new (.row true 29 (al t.aO))) (.row true 3 (ab t.first)));have W2k2:=W2k1.ext (Ext.new (G.new (.row true 29 (al t.aO))) (.row true 3 (ab t.first)));have W3k2:=W3k1.ext (Ext.new (G.new (.row true 29 (al t.aO))) (.row true 3 (ab t.first)));have Sk2:=Sk1.ext (Ext.new (G.new (.row true 29 (al t.aO))) (.row true 3 (ab t.first)));have Lak2:=iA La (Ext.new (G.new (.row true 29 (al t.aO))) (.row true 3 (ab t.first)));have Lb:=gU (G.new (.row true 29 (al t.aO))) (.row true 3 (ab t.first));have E2:=Ext.bN E1 (.row true 3 (ab t.first));have hA:=gR lZ W1k2 t.aO _ Lak2.1 (by rw[l1];omega);rw[←hA1]at hA;have N3:=Ow.ne W2k2 W1k2 (by decide);have N33:=Ow.ne W3k2 W1k2 (by decide);have W1n:=Ow.app W1k2 (E2).n [t.aO] (cells:=A1) (by rw[hA1];simp) rfl;have W2k3:=Ow.other (β:=Int) (e':=3) (enc':=ab) (ys:=[]) (u:=.bool true) W2k2 N3 (.row true 29 A1);have W3k3:=Ow.other (β:=Int) (e':=3) (enc':=ab) (ys:=[]) (u:=.bool true) W3k2 N33 (.row true 29 A1);have Sk3:=Sk2.kp ((Kp.refl _).app (fun b hb=>Ow.nf W1k2 b hb) (.row true 29 A1));have Lbk3:=qG (o:=o1) (c:=(.row true 29 A1)) Lb (fun z=>by have q:=(W1.lt _ z).2;simp[df]at q<;>omega);have E3:=Ext.app E2 (o:=o1) (fun b hb=>⟨(W1k2.lt b hb).1,(W1k2.lt b hb).2⟩) (.row true 29 A1);have hB:=gR kK W2k3 t.first _ Lbk3.1 (by rw[l2];omega);rw[←hA2]at hB;have N4:=Ow.ne W1n W2k3 (by decide);have N34:=Ow.ne W3k3 W2k3 (by decide);have W2n:=Ow.app W2k3 (E3).n [t.first] (cells:=A2) (by rw[hA2];simp) rfl;have W1k4:=Ow.other (β:=Int) (e':=3) (enc':=ab) (ys:=[]) (u:=.bool true) W1n N4 (.row true 3 A2);have W3k4:=Ow.other (β:=Int) (e':=3) (enc':=ab) (ys:=[]) (u:=.bool true) W3k3 N34 (.row true 3 A2);have Sk4:=Sk3.kp ((Kp.refl _).app (fun b hb=>Ow.nf W2k3 b hb) (.row true 3 A2));have E4:=Ext.app E3 (o:=o2) (fun b hb=>⟨(W2k3.lt b hb).1,(W2k3.lt b hb).2⟩) (.row true 3 A2);simp only[al,V.ab]at hA hB;simp -implicitDefEqProofs[aJ,g5,g6,g7,g11,g12,g13,aP,hr1,hr2,hA,hB];have P1:=W1k4;rw[←AS l i hti]at P1;have P2:=W2n;rw[←zP l i hti]at P2;exact⟨_,_,o3,_,_,_,E4,Sk4,P1,P2,W3k4,by simp[df,aM]⟩
   ·have W1k1:=W1.ext (Ext.new G (.row true 3 (ab t.first)));have W2k1:=W2.ext (Ext.new G (.row true 3 (ab t.first)));have W3k1:=W3.ext (Ext.new G (.row true 3 (ab t.first)));have Sk1:=S.ext (Ext.new G (.row true 3 (ab t.first)));have Lb:=gU G (.row true 3 (ab t.first));have E1:=Ext.bN E (.row true 3 (ab t.first));have W1k2:=W1k1.ext (Ext.new (G.new (.row true 3 (ab t.first))) (.row true 29 (al t.aO)));have W2k2:=W2k1.ext (Ext.new (G.new (.row true 3 (ab t.first))) (.row true 29 (al t.aO)));have W3k2:=W3k1.ext (Ext.new (G.new (.row true 3 (ab t.first))) (.row true 29 (al t.aO)));have Sk2:=Sk1.ext (Ext.new (G.new (.row true 3 (ab t.first))) (.row true 29 (al t.aO)));have Lbk2:=iA Lb (Ext.new (G.new (.row true 3 (ab t.first))) (.row true 29 (al t.aO)));have La:=gU (G.new (.row true 3 (ab t.first))) (.row true 29 (al t.aO));have E2:=Ext.bN E1 (.row true 29 (al t.aO));have hA:=gR lZ W1k2 t.aO _ La.1 (by rw[l1];omega);rw[←hA1]at hA;have N3:=Ow.ne W2k2 W1k2 (by decide);have N33:=Ow.ne W3k2 W1k2 (by decide);have W1n:=Ow.app W1k2 (E2).n [t.aO] (cells:=A1) (by rw[hA1];simp) rfl;have W2k3:=Ow.other (β:=Int) (e':=3) (enc':=ab) (ys:=[]) (u:=.bool true) W2k2 N3 (.row true 29 A1);have W3k3:=Ow.other (β:=Int) (e':=3) (enc':=ab) (ys:=[]) (u:=.bool true) W3k2 N33 (.row true 29 A1);have Sk3:=Sk2.kp ((Kp.refl _).app (fun b hb=>Ow.nf W1k2 b hb) (.row true 29 A1));have Lbk3:=qG (o:=o1) (c:=(.row true 29 A1)) Lbk2 (fun z=>by have q:=(W1.lt _ z).2;simp[df]at q<;>omega);have E3:=Ext.app E2 (o:=o1) (fun b hb=>⟨(W1k2.lt b hb).1,(W1k2.lt b hb).2⟩) (.row true 29 A1);have hB:=gR kK W2k3 t.first _ Lbk3.1 (by rw[l2];omega);rw[←hA2]at hB;have N4:=Ow.ne W1n W2k3 (by decide);have N34:=Ow.ne W3k3 W2k3 (by decide);have W2n:=Ow.app W2k3 (E3).n [t.first] (cells:=A2) (by rw[hA2];simp) rfl;have W1k4:=Ow.other (β:=Int) (e':=3) (enc':=ab) (ys:=[]) (u:=.bool true) W1n N4 (.row true 3 A2);have W3k4:=Ow.other (β:=Int) (e':=3) (enc':=ab) (ys:=[]) (u:=.bool true) W3k3 N34 (.row true 3 A2);have Sk4:=Sk3.kp ((Kp.refl _).app (fun b hb=>Ow.nf W2k3 b hb) (.row true 3 A2));have E4:=Ext.app E3 (o:=o2) (fun b hb=>⟨(W2k3.lt b hb).1,(W2k3.lt b hb).2⟩) (.row true 3 A2);simp only[al,V.ab]at hA hB;simp -implicitDefEqProofs[aJ,g5,g6,g7,g11,g12,g13,aP,hr1,hr2,hA,hB];have P1:=W1k4;rw[←AS l i hti]at P1;have P2:=W2n;rw[←zP l i hti]at P2;exact⟨_,_,o3,_,_,_,E4,Sk4,P1,P2,W3k4,by simp[df,aM]⟩
  ·rintro⟨T,⟨x,G⟩⟩ ⟨o1,o2,o3,v1,v2,v3,E,S,W1,W2,W3,g5,g6,g7,g8,g9,g11,g12,g13,x9⟩;simp at E S W1 W2 W3 g5 g6 g7 g8 g9 g11 g12 g13 x9;obtain⟨rfl,_⟩:=id W1;obtain⟨rfl,_⟩:=id W2;obtain⟨rfl,_⟩:=id W3;have hps:=ahd l i hti;have hpl3:=yd 0 (l.take i);rw[cQ]at hpl3;by_cases q:t.state=2
   ·rw[if_pos q]at hps;have hA:=jB Xq W3 ((i:Int),t.first) (by omega);obtain⟨A3,hA3⟩:∃A3,A3=(fr 0 (l.take i)).flatMap kQ++kQ ((i:Int),t.first):=⟨_,rfl⟩;rw[←hA3]at hA;simp only[kQ]at hA;simp only[aM]at x9;simp -implicitDefEqProofs[g5,g6,g7,g8,g9,g11,g12,g13,x9,q,w1,aP,hr1,hr2,hA];have N1:=Ow.ne W1 W3 (by decide);have N2:=Ow.ne W2 W3 (by decide);have P3:=Ow.one W3 E.n (.row true 69 (kQ ((i:Int),t.first))) ((i:Int),t.first) (cells:=A3) hA3;rw[←hps]at P3;have K:=ZB W3 (.row true 69 (kQ ((i:Int),t.first))) (.row true 69 A3);exact⟨m-(i+1),by omega,i+1,o1,o2,_,_,_,_,rfl,by omega,jD E W3 _ _,S.kp K,
     Ow.other (β:=Int) (e':=3) (enc':=ab) (ys:=[]) (u:=.bool true) (W1.ext (Ext.new _ _)) N1 _,Ow.other (β:=Int) (e':=3) (enc':=ab) (ys:=[]) (u:=.bool true) (W2.ext (Ext.new _ _)) N2 _,P3,by simp⟩
   ·rw[if_neg q,pj]at hps;simp only[aM]at x9;simp -implicitDefEqProofs[g5,g6,g7,g8,g9,g11,g12,g13,x9,q,w1];exact⟨m-(i+1),by omega,i+1,o1,o2,o3,_,_,_,rfl,by omega,E,S,W1,W2,by rw[hps];exact W3,by simp⟩
 ·have e:i=m:=by omega
  subst e;have e1:oT l i=l.map (·.aO):=by unfold oT;rw[hm,kH]
  have e2:oC l i=l.map (·.first):=by unfold oC;rw[hm,kH]
  have e3:l.take i=l:=by rw[hm,kH]
  simp -implicitDefEqProofs[g5,g6,g7];exact⟨E,o1,o2,o3,_,_,_,⟨rfl,rfl,rfl⟩,by rw[←e1];exact W1,by rw[←e2];exact W2,by rw[e3]at W3 ⊢;exact W3⟩
end
section
variable {h0 h h':aa} {a:Nat} {b:aG} {vc:List Value} {ov:Value} {o:Option Nat}
theorem wQ (B:bz h0 h a b vc ov o) (M:aN b.v=true) (x:aH) (hx: -4611686018427387904≤x.first∧x.first≤4611686018427387904):
  ao PP 111 [.pointer (some ⟨a,0,none⟩),jr x] h (fun r h'=>Ext h h'∧aK 3 ab h' r (gX b x)):=by
 refine aC mix (aD Tryz.func111) rfl rfl rfl acU ?_;simp only[ai,Tryz.f111];have hp:=ahQ b.v M vc x.aO x.first hx h B.dF;have hsb:gX b x=(cS b.v (cd b.v) x.aO x.first).getD []:=by unfold gX;rw[if_pos M]
 rw[hsb];obtain⟨a1,n1,c1,g,r,a2,n2,c2,a3,n3,c3,a4,n4,c4,rfl,rfl,rfl,hrow⟩:=B.cells;simp only[fh,al]at hp;simp -implicitDefEqProofs[jr,aM,hrow];refine hp.mono ?_;unfold rG;obtain⟨R,hR⟩:∃R,R=cS b.v (cd b.v) x.aO x.first:=⟨_,rfl⟩;rw[←hR];cases R with
 |none=>
  rintro r G2 ⟨E2,rfl⟩;simp -implicitDefEqProofs[aJ];intro _;exact⟨E2,aK.nil⟩
 |some L=>
  rintro r G2 ⟨E2,sv,hsv,rfl⟩;obtain⟨ad,c,rfl⟩:=hsv.shape;simp -implicitDefEqProofs[aJ];intro _;exact⟨E2,hsv⟩
theorem CC (B:bz h0 h a b vc ov o) (hl:b.l.length≤1073741824) (id:Int):
  ao PP 112 [.pointer (some ⟨a,0,none⟩),.int .i64 id] h (fun r h'=>h'=h∧if id<1∨(b.l.length:Int)<id then r= .tuple #[.pointer none,.int .i64 4]else∃bo,o=some bo∧r= .tuple #[.pointer (some ⟨bo,(id.toNat-1)*6,none⟩),.int .i64 0]):=by
 refine aC mix (aD Tryz.func112) rfl rfl rfl acV ?_;simp only[ai,Tryz.f112];have hW:=B.dL;obtain⟨a1,n1,c1,g,r,a2,n2,c2,a3,n3,c3,a4,n4,c4,rfl,rfl,rfl,hrow⟩:=B.cells;by_cases q1:id<1
 ·simp -implicitDefEqProofs[hrow,q1]
 ·by_cases q2:(b.l.length:Int)<id
  ·simp -implicitDefEqProofs[hrow,q1,q2]
  ·obtain⟨k,rfl⟩:∃k:Nat,id=(k:Int)+1:=⟨id.toNat-1,by omega⟩;have hk:k<b.l.length:=(by omega);have wk:IntKind.wrap .i64 ((k:Int))=(k:Nat):=(by rw[bK (by omega)]);cases o with
   |none=>
    have:=hW.2;rw[this]at hk;simp at hk
   |some bo=>
    obtain⟨⟨c',r',e,q⟩,_⟩:=hW;simp only[Value.slice.injEq]at e;obtain⟨rfl,_,_⟩:=e;have q3:¬((k:Int)+1<1):=(by omega);have hk2:¬((k:Int)<0):=(by omega);simp -implicitDefEqProofs[hrow,q1,q2,wk,hk,q,hk2,q3];try omega
end
theorem sM {L:List aH} {k:Nat} {t:aH} (ht:L[k]? =some t) (r:List Value):∃P Q:List Value,P.length=k*6∧L.flatMap aM++r=P++(aM t++Q)∧∀t',(L.set k t').flatMap aM++r=P++(aM t'++Q):=by
 obtain⟨hk,e⟩:=cY.1 ht;refine⟨(L.take k).flatMap aM,(L.drop (k+1)).flatMap aM++r,?_,?_,fun t'=>?_⟩
 ·rw[fg 6 ir,cQ,Nat.min_eq_left (by omega)]
 ·have:L=L.take k++t::L.drop (k+1):=by rw[←e,←ie hk,rI]
  conv=>lhs;rw[this]
  simp
 ·rw[List.set_eq_take_append_cons_drop,if_pos hk];simp
theorem s5 {P X:List Value} {n i:Nat} (h:P.length=n):(P++X).take (n+i)=P++X.take i:=by
 rw[List.take_append,h,bZ (by omega),Nat.add_sub_cancel_left]
theorem mD {P X:List Value} {n i:Nat} (h:P.length=n):(P++X).drop (n+i)=X.drop i:=by
 rw[List.drop_append,h,List.drop_of_length_le (by omega),Nat.add_sub_cancel_left,dA]
theorem I7 (h:aa) (bo k:Nat) {L:List aH} {t:aH} (ht:L[k]? =some t) (r:List Value) (hb:h.f bo= .row true 43 (L.flatMap aM++r)):
  ao PP 107 [.pointer (some ⟨bo,k*6,none⟩)] h (fun _ h'=>h'=h.set bo (.row true 43 ((L.set k (kX t)).flatMap aM++r))):=by
 refine aC mix (aD Tryz.func107) rfl rfl rfl acP ?_;simp only[ai,Tryz.f107];obtain⟨P,Q,hP,e1,e2⟩:=sM ht r;rw[e2 (kX t)];rw[e1]at hb;have hl:∀X:List Value,(P++X).length=k*6+X.length:=fun X=>by rw[bF,hP]
 have t1:∀X:List Value,(P++X).take (k*6+1)=P++X.take 1:=fun X=>s5 hP;have t4:∀X:List Value,(P++X).take (k*6+4)=P++X.take 4:=fun X=>s5 hP;have t5:∀X:List Value,(P++X).take (k*6+5)=P++X.take 5:=fun X=>s5 hP;have d2:∀X:List Value,(P++X).drop (k*6+1+1)=X.drop 2:=fun X=>mD (i:=2) hP;have d5:∀X:List Value,(P++X).drop (k*6+4+1)=X.drop 5:=fun X=>mD (i:=5) hP;have d6:∀X:List Value,(P++X).drop (k*6+5+1)=X.drop 6:=fun X=>mD (i:=6) hP;simp only[aM,kX,dp,dA]at hb ⊢;have z1:k*6+1+1≤k*6+(Q.length+1+1+1+1+1+1):=by omega
 have z2:k*6+4+1≤k*6+(Q.length+1+1+1+1+1+1):=by omega
 have z3:k*6+5+1≤k*6+(Q.length+1+1+1+1+1+1):=by omega
 simp -implicitDefEqProofs[hb,hP,z1,z2,z3,t1,t4,t5,d2,d5,d6];rw[mN,mN]
end Go.Proofs.Ybk.K
namespace Go.Proofs.Ybk.K
open Go Go.Am
open V (aq aU aj au bg ab bD aN aB cF cJ bq bR)
theorem aje (a b:List aH) (p:List Int):eC (a++b) p=eC a p++eC b (p.drop (a.filter bS).length):=by
 induction a generalizing p with
 |nil=>rfl
 |cons o r ih=>
  rw[dp,eC,eC];by_cases q:bS o=true
  ·rw[if_pos q,if_pos q,ih,List.filter_cons_of_pos q,eE,dp,←List.drop_one,fx,Nat.add_comm 1]
  ·rw[if_neg q,if_neg q,ih,List.filter_cons_of_neg q,dp]
theorem vW (a:List aH) (p:List Int):(eC a p).length=a.length:=by
 induction a generalizing p with
 |nil=>rfl
 |cons o r ih=>
  rw[eC];split<;>simp[ih]
def kS (l:List aH) (p:List Int) (i:Nat):List aH:=eC (l.take i) p++l.drop i
theorem ajg (l:List aH) (p:List Int) (i:Nat):(kS l p i)[i]? =l[i]? :=by
 unfold kS;by_cases h:i≤l.length
 ·rw[iW (by rw[vW,cQ];omega),vW,cQ,Nat.min_eq_left h,n9,List.getElem?_drop,gQ]
 ·rw[iK (by rw[bF,vW,cQ,eN];omega),iK (by omega)]
theorem ajh (l:List aH) (p:List Int) (i:Nat) {t:aH} (ht:l[i]? =some t):kS l p (i+1)=if bS t=true then(kS l p i).set i {t with first:=(p.drop ((l.take i).filter bS).length).headD 0}else kS l p i:=by
 obtain⟨hi,e⟩:=cY.1 ht;unfold kS;have hd:l.drop i=t::l.drop (i+1):=by rw[←e];exact ie hi
 have hl:(eC (l.take i) p).length=i:=by rw[vW,cQ];omega
 rw[fI,ht,Option.toList_some,aje,hd,eC];split
 ·rw[List.set_append_right _ _ (by omega),hl,n9,List.set_cons_zero,eC,eD];rfl
 ·rw[eC,eD];rfl
theorem ajf (l:List aH) (p:List Int):kS l p l.length=eC l p:=by unfold kS;simp
theorem Bp (l:List aH) (p:List Int) (i:Nat):(kS l p i).length=l.length:=by
 unfold kS;rw[bF,vW,cQ,eN];omega
theorem bz.uD {h0 h:aa} {a:Nat} {b:aG} {vc:List Value} {ov:Value} {bo:Nat} (B:bz h0 h a b vc ov (some bo)) {L:List aH} (hl:L.length=b.l.length) (r:List Value):
  bz h0 (h.set bo (.row true 43 (L.flatMap aM++r))) a {b with l:=L} vc ov (some bo)∧Kp h (h.set bo (.row true 43 (L.flatMap aM++r))):=by
 obtain⟨⟨c,r',e,q⟩,n0,n1⟩:=B.dL;have C:=jl h bo (.row true 43 (L.flatMap aM++r));have RS:=nP q;have hne:¬a=bo:=fun z=>by have:=B.row;rw[z,q]at this;cases this
 refine⟨⟨by rw[lB _ _ hne];exact B.row,B.a0,B.a1,B.ext.dh n0 _,B.dF.eY C RS,⟨⟨c,r,by rw[e,←hl],by simp⟩,n0,n1⟩⟩,C.kp RS⟩
end Go.Proofs.Ybk.K
namespace Go.Proofs.Ybk.K
open Go Go.Am
set_option maxHeartbeats 4000000
open V (aq aU aj au bg ab bD aN aB cF cJ bq bR)
def oh (l:List aH) (i:Nat):Nat:=((l.take i).filter bS).length
theorem Wh (l:List aH) (i:Nat) {t:aH} (ht:l[i]? =some t):oh l (i+1)=if bS t=true then oh l i+1 else oh l i:=by
 unfold oh;rw[xf bS l i ht,bF];split<;>simp
theorem Wg (l:List aH) (i:Nat):oh l i≤(l.filter bS).length:=by
 unfold oh;have:((l.take i).filter bS).Sublist (l.filter bS):=(List.take_sublist i l).filter _;exact this.length_le
def Rv (h0 h1:aa) (a:Nat) (b:aG) (p:List Int) (vc:List Value) (ov pv:Value) (o:Option Nat) (m n:Nat) (σ:St):Prop:=∃i:Nat,n=m-i∧i≤m∧bz h0 σ.m.h a {b with l:=kS b.l p i} vc ov o∧cP (a::o.toList) h1 σ.m.h∧aK 3 ab σ.m.h pv p∧
 σ.t.get 0=some (.pointer (some ⟨a,0,none⟩))∧σ.t.get 1=some pv∧σ.t.get 4=some (.int .i64 (oh b.l i:Nat))∧σ.t.get 10=some ov∧σ.t.get 11=some (.int .i64 (m:Nat))∧σ.t.get 12=some (.int .i64 (i:Nat))
theorem Px {h0 h:aa} {a:Nat} {b:aG} {vc:List Value} {ov:Value} {o:Option Nat} (B:bz h0 h a b vc ov o) (hl:b.l.length≤1048576) (p:List Int) (pv:Value) (hp:aK 3 ab h pv p) (hpl:(b8 b).length≤p.length):
  ao PP 110 [.pointer (some ⟨a,0,none⟩),pv] h (fun _ h'=>bz h0 h' a (sX b p) vc ov o∧cP (a::o.toList) h h'):=by
 refine aC mix (aD Tryz.func110) rfl rfl rfl acT ?_;simp only[ai,Tryz.f110];have hr1:List.range 1=[0]:=rfl;obtain⟨adp,cp,rfl⟩:=hp.shape;obtain⟨a1,n1,c1,g,r,a2,n2,c2,a3,n3,c3,a4,n4,c4,rfl,rfl,rfl,hrow⟩:=B.cells;simp -implicitDefEqProofs[hrow];obtain⟨m,hm⟩:∃m,m=b.l.length:=⟨_,rfl⟩;rw[←hm]at B ⊢;have e0:kS b.l p 0=b.l:=by simp[kS,eC]
 refine bL (Rv h0 h a b p [.slice a1 n1 c1,.int .i64 g,.int .i64 r,.slice a2 n2 c2,.slice a3 n3 c3] (.slice a4 m c4) (.slice adp p.length cp) o m) _ ⟨0,rfl,by omega,by rw[e0];exact B,cP.bJ _ _,hp,by simp[oh]⟩ ?_;rintro n ⟨T,⟨x,G⟩⟩ ⟨i,rfl,hi,BG,CG,hpG,g0,g1,g4,g10,g11,g12⟩;simp at BG CG hpG g0 g1 g4 g10 g11 g12;simp -implicitDefEqProofs[g0,g1,g4,g10,g11,g12];refine bY (fun hc=>?_) (fun hc=>?_)
 ·have him:i<m:=by omega
  have w1:=bU (i:=i) (by omega);have hti:b.l[i]? =some b.l[i]:=av (by omega);obtain⟨t,ht⟩:∃t,t=b.l[i]:=⟨_,rfl⟩;rw[←ht]at hti;have hsi:=ajg b.l p i;rw[hti]at hsi;have hss:=ajh b.l p i hti;have hcs:=Wh b.l i hti;have hrowG:=BG.row;simp only[iy,dp,dA]at hrowG;cases o with
  |none=>
   have:=BG.dL.2;simp only at this;have hz:=Bp b.l p i;rw[this]at hz;simp at hz;omega
  |some bo=>
   have hO:=BG.dL;obtain⟨⟨c',r',e,q⟩,nn0,nn1⟩:=hO;simp only[Value.slice.injEq]at e q;obtain⟨rfl,_,_⟩:=e;obtain⟨P,Q,hP,e1,e2⟩:=sM hsi r';rw[e1]at q;have hd6:(P++(aM t++Q)).drop (i*6)=aM t++Q:=mD (i:=0) hP;have hl6:i*6+6≤(P++(aM t++Q)).length:=(by rw[bF,hP,bF,ir];omega);have hl5:i*6+5+1≤(P++(aM t++Q)).length:=hl6;have t5:(P++(aM t++Q)).take (i*6+5)=P++(aM t++Q).take 5:=s5 hP;have d6:(P++(aM t++Q)).drop (i*6+5+1)=Q:=mD (i:=6) hP;have hst:∀v:Int,(P++(aM t++Q)).take (i*6+5)++Value.int .i64 v::(P++(aM t++Q)).drop (i*6+5+1)=P++(aM {t with first:=v}++Q):=fun v=>(by rw[t5,d6];simp[aM]);obtain⟨R,hR⟩:∃R,R=P++(aM t++Q):=⟨_,rfl⟩;rw[←hR]at q hd6 hl6 hl5 hst;simp only[aM,dp,dA]at hd6;simp -implicitDefEqProofs[g0,g1,g4,g10,g11,g12,him,q,hd6,hl6];refine(Nu t G).mono ?_;rintro rr h' ⟨e,rfl⟩;replace e:=e.symm;subst e;by_cases z:bS t=true
   ·rw[if_pos z]at hss hcs;have hjl:=Wg b.l (i+1);have hlv:(b8 b).length=(b.l.filter bS).length:=rfl;obtain⟨j,hj⟩:∃j,j=oh b.l i:=⟨_,rfl⟩;have hjd:((b.l.take i).filter bS).length=j:=hj.symm;rw[hjd]at hss;have hji:j≤i:=(by rw[hj];unfold oh;exact eW (List.length_filter_le _ _) (by rw[cQ];omega));rw[←hj]at hcs g4 ⊢;have hjp:j<p.length:=(by omega);have hpj:p[j]? =some p[j]:=av hjp;obtain⟨f,hf⟩:∃f,f=p[j]:=⟨_,rfl⟩;rw[←hf]at hpj;have hhd:(p.drop j).headD 0=f:=(by rw[ie hjp,←hf];rfl);rw[hhd]at hss;obtain⟨_,bp,op,cpl,rp,rfl,hbp,hdp,hlp,_⟩:=hpG.at 1 V.dV hpj;rw[Nat.mul_one]at hdp hlp;have wj:=bU (i:=j) (by omega);have hst':=hst f;obtain⟨BS,KS⟩:=BG.uD (L:=kS b.l p (i+1)) (by rw[Bp];exact(Bp b.l p i).symm) r';have hrow':(kS b.l p (i+1)).flatMap aM++r'=P++(aM {t with first:=f}++Q):=(by rw[hss];exact e2 _);rw[hrow']at BS KS;have CS:cP (a::(some bo).toList) h (G.set bo (.row true 43 (P++(aM {t with first:=f}++Q)))):=CG.trans (jl G bo _) (fun x hx _=>by simp at hx;simp[hx]);simp -implicitDefEqProofs[af,z,g0,g1,g4,g10,g11,g12,w1,wj,hrowG,him,hjp,hbp,hdp,hlp,q,hl5,hst',ab];intro _;exact⟨m-(i+1),by omega,i+1,rfl,by omega,BS,CS,hpG.kp KS,by simp[hcs]⟩
   ·rw[if_neg z]at hss hcs;simp -implicitDefEqProofs[af,z,g0,g1,g4,g10,g11,g12,w1];intro _;exact⟨m-(i+1),by omega,i+1,rfl,by omega,by rw[hss];exact BG,CG,hpG,by simp[hcs]⟩
 ·have e:i=m:=by omega
  subst e;have ea:kS b.l p i=eC b.l p:=by rw[hm,ajf]
  rw[ea]at BG;simp -implicitDefEqProofs[g0];exact⟨BG,CG⟩
end Go.Proofs.Ybk.K
namespace Go.Proofs.Ybk.K
open Go Go.Am
open V (aq aU aj au bg ab bD aN aB cF cJ bq bR)
section
variable {α:Type} {e:TypeId} {enc:α→List Value} {h0 h1 h h':aa} {o:Option Nat} {xs:List α} {v:Value}
theorem ajm (H:cU e enc h v xs) (W:Wk h h'):cU e enc h' v xs:=by
 obtain⟨ad,c,q,n,z⟩:=H;refine⟨ad,c,q,n,?_⟩;rcases z with z|⟨b,off,w,cells,rest,z1,z2,z3,z4,z5⟩
 ·exact .inl z
 ·rcases W.f b with q|⟨e1,cs,q1,q2⟩
  ·exact .inr ⟨b,off,w,cells,rest,z1,by rw[q,z2],z3,z4,by rw[W.n];exact z5⟩
  ·rw[z2]at q1;simp only[aZ.row.injEq]at q1;obtain⟨_,rfl,rfl⟩:=q1;exact .inr ⟨b,off,false,cells,rest,z1,q2,z3,z4,by rw[W.n];exact z5⟩
theorem AM (H:V.jW e enc h0 h v xs) (E:Ext h0 h):∃h',Wk h h'∧Ext h0 h'∧aK e enc h' v xs:=by
 obtain⟨h',W,S,C⟩:=H.1.dB;refine⟨h',W,⟨W.g.trans E.g,by rw[W.n];exact E.n,fun b hb=>?_⟩,S⟩;rw[←E.f b hb];refine Classical.byContradiction fun q=>?_;have:=H.2 b _ _ _ (C b q);omega
theorem AN (H:V.jW e enc h0 h v xs) (W:Wk h h'):V.jW e enc h0 h' v xs:=⟨ajm H.1 W,H.2⟩
theorem eM.low (H:eM e enc h1 h o xs v) (hn:h0.n≤h1.n):eM e enc h0 h o xs v:=by
 cases o with
 |none=>exact H
 |some b=>exact⟨H.1,eW hn H.2.1,H.2.2⟩
theorem agP (H:Ow e enc h0 h o xs v):eM e enc h0 h o xs v:=by
 obtain⟨rfl,z⟩:=H;cases o with
 |none=>simp only at z;subst z;exact⟨rfl,rfl⟩
 |some b=>exact⟨⟨_,[],rfl,by rw[pj];exact z.1⟩,z.2.1,z.2.2⟩
end
theorem amr {h0 h:aa} {v:aj} {cs:List Value} (H:V.nX h0 h v cs) (E:Ext h0 h):∃h',Wk h h'∧Ext h0 h'∧fw h' v cs:=by
 obtain⟨s,k,p,rfl,z1,z2,z3⟩:=H;obtain⟨F1,W1,E1,S1⟩:=AM z1 E;obtain⟨F2,W2,E2,S2⟩:=AM (AN z2 W1) E1;obtain⟨F3,W3,E3,S3⟩:=AM (AN (AN z3 W1) W2) E2;exact⟨F3,(W1.trans W2).trans W3,E3,s,k,p,rfl,(S1.wk W2).wk W3,S2.wk W3,S3⟩
section
variable {h0 h1 h h' h'':aa} {a a2:Nat} {b b' b2:aG} {vc vc2:List Value} {ov ov2:Value} {o o1 o2:Option Nat}
theorem bz.low (B:bz h1 h a b vc ov o) (E:Ext h0 h1):bz h0 h a b vc ov o:=
 ⟨B.row,eW E.n B.a0,B.a1,E.trans B.ext,B.dF,B.dL.low E.n⟩
theorem bz.iH (B:bz h0 h a b vc ov o):ic (a::o.toList) h:=by
 refine ic.cons B.row ?_;intro x hx;obtain⟨cs,q⟩:=B.dL.row x (by simpa using hx);exact⟨_,cs,q⟩
theorem bz.own (B:bz h0 h a b vc ov o):∀x∈a::o.toList,h0.n≤x∧x<h.n:=by
 intro x hx;rcases cE.1 hx with rfl|hx
 ·exact⟨B.a0,B.a1⟩
 ·exact B.dL.lt x (by simpa using hx)
theorem bz.eY (B:bz h0 h a b vc ov o) {S:List Nat} (C:cP S h h') (hs:ic S h) (h0S:∀x∈S,h0.n≤x) (hd:∀x∈a::o.toList,x∉S):bz h0 h' a b vc ov o where
 row:=by rw[C.f a B.a1 (hd a dH)];exact B.row
 a0:=B.a0
 a1:=de B.a1 C.n
 ext:=⟨C.g.trans B.ext.g,eW B.ext.n C.n,fun x hx=>by
  rw[C.f x (de hx B.ext.n) (fun z=>by have:=h0S x z;omega)];exact B.ext.f x hx⟩
 dF:=B.dF.eY C hs
 dL:=B.dL.keep (fun x hx=>C.f x (B.dL.lt x hx).2 (hd x (by simp[hx]))) C.n
def cI (h0 h h':aa) (a:Nat) (o:Option Nat) (b:aG):Prop:=∃vc ov o',bz h0 h' a b vc ov o'∧cP (a::o.toList) h h'∧∀x,o'=some x→o=some x∨h.n≤x
theorem cI.fD (B:bz h0 h a b vc ov o) (E:Ext h h'):cI h0 h h' a o b:=⟨vc,ov,o,B.exts E,cP.fD E,fun _ hx=>.inl hx⟩
theorem cI.oM (B:bz h0 h' a b vc ov o) (C:cP (a::o.toList) h h'):cI h0 h h' a o b:=⟨vc,ov,o,B,C,fun _ hx=>.inl hx⟩
theorem cI.post (Q:cI h0 h h' a o b) (E:Ext h' h''):cI h0 h h'' a o b:=by
 obtain⟨vc,ov,o',B,C,D⟩:=Q;exact⟨vc,ov,o',B.exts E,C.trans (cP.fD (S:=[]) E) (fun _ hi=>by cases hi),D⟩
theorem cI.pre (E:Ext h h1) (Q:cI h0 h1 h' a o b):cI h0 h h' a o b:=by
 obtain⟨vc,ov,o',B,C,D⟩:=Q;refine⟨vc,ov,o',B,(cP.fD E).trans C (fun _ hi _=>hi),fun x hx=>?_⟩;rcases D x hx with q|q
 ·exact .inl q
 ·exact .inr (eW E.n q)
theorem cI.trans (C1:cP (a::o.toList) h h1) (D1:∀x,o1=some x→o=some x∨h.n≤x) (Q:cI h0 h1 h' a o1 b):cI h0 h h' a o b:=by
 obtain⟨vc,ov,o',B,C,D⟩:=Q;refine⟨vc,ov,o',B,C1.trans C (fun i hi hl=>?_),fun x hx=>?_⟩
 ·rcases cE.1 hi with rfl|hi
  ·exact dH
  ·rcases D1 i (by simpa using hi)with q|q
   ·exact ep _ (by simpa using q)
   ·omega
 ·rcases D x hx with q|q
  ·exact D1 x q
  ·exact .inr (eW C1.n q)
theorem bz.other (B2:bz h0 h a2 b2 vc2 ov2 o2) (B:bz h0 h a b vc ov o) (C:cP (a::o.toList) h h') (hd:∀x∈a2::o2.toList,x∉a::o.toList):bz h0 h' a2 b2 vc2 ov2 o2:=
 B2.eY C B.iH (fun x hx=>(B.own x hx).1) hd
theorem rO {C0 cs:List Value} (ha:h.f a= .row true 77 C0) (a0:h0.n≤a) (a1:a<h.n) (E:Ext h0 h) (hv:fw h b.v vc) (W:eM 43 aM h0 h o b.l ov) (hc:cs=iy b vc ov):bz h0 (h.set a (.row true 77 cs)) a b vc ov o where
 row:=by rw[hc];simp
 a0:=a0
 a1:=a1
 ext:=E.dh a0 _
 dF:=hv.eY (jl h a _) (nP ha)
 dL:=W.keep (fun x hx=>lB _ _ (fun z=>by
  obtain⟨cs',q⟩:=W.row x hx;rw[z,ha]at q;simp only[aZ.row.injEq]at q;exact absurd q.2.1 (by decide))) (a8 _)
end
end Go.Proofs.Ybk.K
namespace Go.Am
open Go
section
variable {P:Program}
def pA (P:Program) (E:TypeId→List Value→List Value→Option Bool):List Field→List Value→List Value→Option Bool
 |[],_,_=>some true
 |f::fs,xs,ys=>if f.name= "_" then none else match P.underlying f.type,cW P f.type with
  |some (.struct _),some n=>(E f.type ((xs.drop f.offset).take n) ((ys.drop f.offset).take n)).bind fun r=>(pA P E fs xs ys).map (r&&·)
  |some (.struct _),none=>none
  |_,_=>(mF P [f] xs ys).bind fun r=>(pA P E fs xs ys).map (r&&·)
def nz (P:Program):Nat→TypeId→List Value→List Value→Option Bool
 |0,_,_,_=>none
 |n+1,t,u,v=>if P.stoodInHeld t=false then match P.underlying t with
  |some (.struct fs)=>pA P (nz P n) fs.toList u v
  |_=>none else none
theorem XI (d:Nat) (xs ys:Array Value) (f:Field) (fs:List Field):(Op.eqFields d xs ys (f::fs)).aR P=((Op.eqFields d xs ys [f]).aR P).bind fun r=>if r=true then(Op.eqFields d xs ys fs).aR P else some false:=by
 simp only[Op.eqFields];by_cases hn:f.name≠ "_"
 ·simp only[if_pos hn,cH];generalize (part f.type xs f.offset).aR P=r1;cases r1 with
  |none=>rfl
  |some a=>
   simp only[dZ];generalize (part f.type ys f.offset).aR P=r2;cases r2 with
   |none=>rfl
   |some b=>
    simp only[dZ];generalize (Op.equalIn d f.type a b).aR P=r3;cases r3 with
    |none=>rfl
    |some r=>cases r<;>rfl
 ·simp only[if_neg hn];simp[Sem.aR,pure]
theorem OF {t:TypeId} {gs:Array Field} {n:Nat} (hu:P.underlying t=some (.struct gs)) (hs:cW P t=some n) (cs:List Value) (off:Nat):(part t ⟨cs⟩ off).aR P=some (.agg ⟨(cs.drop off).take n⟩):=by
 have h1:(isAgg t).aR P=some true:=by
  simp only[isAgg,cH,underlying,pS,dZ,hu];simp[Sem.aR,pure]
 have h2:(sizeOf t).aR P=some n:=by
  unfold cW at hs;cases hi:P.info? t with
  |none=>simp[hi]at hs
  |some i=>
   simp[hi]at hs;simp[sizeOf,typeInfo,cH,pS,hi,hs,Sem.aR,pure]
 simp only[part,cH,h1,dZ,if_true,h2];simp[Sem.aR,pure]
theorem XK (d:Nat) (E:TypeId→List Value→List Value→Option Bool) (hE:∀t u v r,E t u v=some r→(Op.equalIn (d+1) t (.agg ⟨u⟩) (.agg ⟨v⟩)).aR P=some r):
  ∀(fs:List Field) (xs ys:List Value) (r:Bool),pA P E fs xs ys=some r→(Op.eqFields (d+1) ⟨xs⟩ ⟨ys⟩ fs).aR P=some r:=by
 intro fs;induction fs with
 |nil=>intro xs ys r h;simp only[pA,aw]at h;subst h;rfl
 |cons f fs ih=>
  intro xs ys r h;rw[pA]at h;split at h
  ·cases h
  ·rename_i hn;rw[XI];have fin:∀(o:Option Bool),(∀r1,o=some r1→(Op.eqFields (d+1) ⟨xs⟩ ⟨ys⟩ [f]).aR P=some r1)→(o.bind fun r=>(pA P E fs xs ys).map (r&&·))=some r→
     (((Op.eqFields (d+1) ⟨xs⟩ ⟨ys⟩ [f]).aR P).bind fun r=>if r=true then(Op.eqFields (d+1) ⟨xs⟩ ⟨ys⟩ fs).aR P else some false)=some r:=by
    intro o ho hb;cases o with
    |none=>cases hb
    |some r1=>
     rw[ho r1 rfl,dZ];rw[dZ]at hb;obtain⟨r2,h1,h2⟩:=Option.map_eq_some_iff.1 hb;cases r1 with
     |true=>rw[if_pos rfl,ih xs ys r2 h1,←h2];rfl
     |false=>rw[←h2];rfl
   split at h
   ·rename_i gs n hu hs;refine fin _ (fun r1 h1=>?_) h;simp only[Op.eqFields];rw[if_pos hn,cH,OF hu hs,dZ,cH,OF hu hs,dZ,cH,hE _ _ _ _ h1,dZ];cases r1<;>rfl
   ·cases h
   ·exact fin _ (fun r1 h1=>Jb d [f] xs ys r1 h1) h
theorem Jc:∀(n d:Nat) (t:TypeId) (u v:List Value) (r:Bool),n+1≤d→nz P n t u v=some r→(Op.equalIn d t (.agg ⟨u⟩) (.agg ⟨v⟩)).aR P=some r:=by
 intro n;induction n with
 |zero=>intro d t u v r _ h;cases h
 |succ n ih=>
  intro d t u v r hd h;rw[nz]at h;split at h;rotate_left
  ·cases h
  rename_i hp;split at h;rotate_left
  ·cases h
  rename_i fs hu;obtain⟨d',rfl⟩:∃d',d=d'+1+1:=⟨d-2,by omega⟩;rw[Jd (d'+1) t _ _ fs hu hp];exact XK d' (nz P n) (fun t u v r h=>ih (d'+1) t u v r (by omega) h) _ _ _ _ h
variable {σ:St}
theorem ajL {t yt ty:TypeId} {x y:Operand} {u v:List Value} {r:Bool} {d:Option Nat} {pos:String} {aft:Array Edge} {g:Option (Nat×Bool)} (hx:aL σ x=some (.agg ⟨u⟩)) (hy:aL σ y=some (.agg ⟨v⟩)) (hg:P.eqGuardType P.depth t=false) (hu:u.all dm=true) (hv:v.all dm=true) (h:nz P 5 t u v=some r):
  di P σ ⟨d,.binOp .eql t x y yt,ty,pos,aft,g⟩=some (.bool r,σ):=by
 have hr:=Jc 5 10000 t u v r (by omega) h;refine qW (op:=.eql) (xt:=t) (yt:=yt) rfl hx hy (by simpa[cA]using hu) (by simpa[cA]using hv) ?_ ?_ rfl
 ·simp[eqGuard,cH,pS,hg,Sem.aR,pure]
 ·have hr':(Op.equal t (.agg ⟨u⟩) (.agg ⟨v⟩)).aR P=some r:=hr;simp[binOp,cH,hr',Sem.aR,pure]
theorem PF {t yt ty:TypeId} {x y:Operand} {u v:List Value} {r:Bool} {d:Option Nat} {pos:String} {aft:Array Edge} {g:Option (Nat×Bool)} (hx:aL σ x=some (.agg ⟨u⟩)) (hy:aL σ y=some (.agg ⟨v⟩)) (hg:P.eqGuardType P.depth t=false) (hu:u.all dm=true) (hv:v.all dm=true) (h:nz P 5 t u v=some r):
  di P σ ⟨d,.binOp .neq t x y yt,ty,pos,aft,g⟩=some (.bool (!r),σ):=by
 have hr:=Jc 5 10000 t u v r (by omega) h;refine qW (op:=.neq) (xt:=t) (yt:=yt) rfl hx hy (by simpa[cA]using hu) (by simpa[cA]using hv) ?_ ?_ rfl
 ·simp[eqGuard,cH,pS,hg,Sem.aR,pure]
 ·have hr':(Op.equal t (.agg ⟨u⟩) (.agg ⟨v⟩)).aR P=some r:=hr;simp[binOp,cH,hr',Sem.aR,pure]
end
end Go.Am
namespace Go.Proofs.Ybk
open Go Go.Am
theorem Xh:PP.eqGuardType PP.depth 43=false:=by kernel_rfl
theorem IN:PP.eqGuardType PP.depth 73=false:=by kernel_rfl
theorem Pt:PP.stoodInHeld 43=false:=by kernel_rfl
theorem ai5:PP.stoodInHeld 73=false:=by kernel_rfl
theorem Ps:PP.stoodInHeld 29=false:=by kernel_rfl
theorem XL (a1 a2 a3 a4 a5 a6 b1 b2 b3 b4 b5 b6:Int):nz PP 5 43 [.int .i64 a1,.int .i64 a2,.int .i64 a3,.int .i64 a4,.int .i64 a5,.int .i64 a6] [.int .i64 b1,.int .i64 b2,.int .i64 b3,.int .i64 b4,.int .i64 b5,.int .i64 b6]=
  some (decide (a1=b1)&&(decide (a2=b2)&&((decide (a3=b3)&&decide (a4=b4))&&(decide (a5=b5)&&decide (a6=b6))))):=by
 simp[nz,pA,mF,Pt,Ps]
theorem XM (a0 a1 a2 a3 a4 a5 a6 a7 b0 b1 b2 b3 b4 b5 b6 b7:Int) (s t:ByteArray):nz PP 5 73 [.int .i64 a0,.string s,.int .i64 a1,.int .i64 a2,.int .i64 a3,.int .i64 a4,.int .i64 a5,.int .i64 a6,.int .i64 a7] [.int .i64 b0,.string t,.int .i64 b1,.int .i64 b2,.int .i64 b3,.int .i64 b4,.int .i64 b5,.int .i64 b6,.int .i64 b7]=
  some (decide (a0=b0)&&(decide (s=t)&&((decide (a1=b1)&&(decide (a2=b2)&&((decide (a3=b3)&&decide (a4=b4))&&(decide (a5=b5)&&decide (a6=b6)))))&&decide (a7=b7)))):=by
 simp[nz,pA,mF,Pt,Ps,ai5]
noncomputable def oL (t:TypeId) (u v:List Value):Option Bool:=if u.all dm=true∧v.all dm=true then nz PP 5 t u v else none
theorem abt (a1 a2 a3 a4 a5 a6 b1 b2 b3 b4 b5 b6:Int):oL 43 [.int .i64 a1,.int .i64 a2,.int .i64 a3,.int .i64 a4,.int .i64 a5,.int .i64 a6] [.int .i64 b1,.int .i64 b2,.int .i64 b3,.int .i64 b4,.int .i64 b5,.int .i64 b6]=
  some (decide (a1=b1)&&(decide (a2=b2)&&((decide (a3=b3)&&decide (a4=b4))&&(decide (a5=b5)&&decide (a6=b6))))):=by
 unfold oL;rw[if_pos ⟨rfl,rfl⟩,XL]
theorem abu (a0 a1 a2 a3 a4 a5 a6 a7 b0 b1 b2 b3 b4 b5 b6 b7:Int) (s t:ByteArray):oL 73 [.int .i64 a0,.string s,.int .i64 a1,.int .i64 a2,.int .i64 a3,.int .i64 a4,.int .i64 a5,.int .i64 a6,.int .i64 a7] [.int .i64 b0,.string t,.int .i64 b1,.int .i64 b2,.int .i64 b3,.int .i64 b4,.int .i64 b5,.int .i64 b6,.int .i64 b7]=
  some (decide (a0=b0)&&(decide (s=t)&&((decide (a1=b1)&&(decide (a2=b2)&&((decide (a3=b3)&&decide (a4=b4))&&(decide (a5=b5)&&decide (a6=b6)))))&&decide (a7=b7)))):=by
 unfold oL;rw[if_pos ⟨rfl,rfl⟩,XM]
noncomputable def ra (σ:St) (o:Oper):Option (Value×St):=di PP σ o
section
variable {σ:St} {ty yt:TypeId} {x y:Operand} {d:Option Nat} {pos:String} {aft:Array Edge} {g:Option (Nat×Bool)}
theorem Az:di PP σ ⟨d,.binOp .neq 43 x y yt,ty,pos,aft,g⟩=match aL σ x,aL σ y with
  |some (.agg u),some (.agg v)=>(match oL 43 u.toList v.toList with
   |some r=>some (.bool (!r),σ)
   |none=>ra σ ⟨d,.binOp .neq 43 x y yt,ty,pos,aft,g⟩)
  |_,_=>ra σ ⟨d,.binOp .neq 43 x y yt,ty,pos,aft,g⟩:=by
 split
 ·rename_i u v hx hy;split
  ·rename_i r hr;unfold oL at hr;split at hr
   ·rename_i hf;exact PF (u:=u.toList) (v:=v.toList) hx hy Xh hf.1 hf.2 hr
   ·cases hr
  ·rfl
 ·rfl
theorem NP:di PP σ ⟨d,.binOp .neq 73 x y yt,ty,pos,aft,g⟩=match aL σ x,aL σ y with
  |some (.agg u),some (.agg v)=>(match oL 73 u.toList v.toList with
   |some r=>some (.bool (!r),σ)
   |none=>ra σ ⟨d,.binOp .neq 73 x y yt,ty,pos,aft,g⟩)
  |_,_=>ra σ ⟨d,.binOp .neq 73 x y yt,ty,pos,aft,g⟩:=by
 split
 ·rename_i u v hx hy;split
  ·rename_i r hr;unfold oL at hr;split at hr
   ·rename_i hf;exact PF (u:=u.toList) (v:=v.toList) hx hy IN hf.1 hf.2 hr
   ·cases hr
  ·rfl
 ·rfl
theorem XN:di PP σ ⟨d,.binOp .eql 73 x y yt,ty,pos,aft,g⟩=match aL σ x,aL σ y with
  |some (.agg u),some (.agg v)=>(match oL 73 u.toList v.toList with
   |some r=>some (.bool r,σ)
   |none=>ra σ ⟨d,.binOp .eql 73 x y yt,ty,pos,aft,g⟩)
  |_,_=>ra σ ⟨d,.binOp .eql 73 x y yt,ty,pos,aft,g⟩:=by
 split
 ·rename_i u v hx hy;split
  ·rename_i r hr;unfold oL at hr;split at hr
   ·rename_i hf;exact ajL (u:=u.toList) (v:=v.toList) hx hy IN hf.1 hf.2 hr
   ·cases hr
  ·rfl
 ·rfl
theorem Zl (n:Nat):(Op.equalIn (n+1) 26 (.pointer none) (.pointer none)).aR PP=some true:=by
 simp only[Op.equalIn,cH,oV P8,dZ];rfl
theorem JB:(Op.equal 26 (.pointer none) (.pointer none)).aR PP=some true:=Zl 9999
theorem XO:di PP σ ⟨d,.binOp .eql 26 x y yt,ty,pos,aft,g⟩=match aL σ x,aL σ y with
  |some (.pointer none),some (.pointer none)=>some (.bool true,σ)
  |_,_=>ra σ ⟨d,.binOp .eql 26 x y yt,ty,pos,aft,g⟩:=by
 split
 ·rename_i hx hy;refine qW (op:=.eql) (xt:=26) (yt:=yt) rfl hx hy rfl rfl ?_ ?_ rfl
  ·simp[eqGuard,Sem.aR,pure]
  ·show(do pure (.bool (←Op.equal 26 (.pointer none) (.pointer none))):Sem Value).aR PP=_;rw[cH,JB];rfl
 ·rfl
theorem aaT:di PP σ ⟨d,.binOp .neq 26 x y yt,ty,pos,aft,g⟩=match aL σ x,aL σ y with
  |some (.pointer none),some (.pointer none)=>some (.bool false,σ)
  |_,_=>ra σ ⟨d,.binOp .neq 26 x y yt,ty,pos,aft,g⟩:=by
 split
 ·rename_i hx hy;refine qW (op:=.neq) (xt:=26) (yt:=yt) rfl hx hy rfl rfl ?_ ?_ rfl
  ·simp[eqGuard,Sem.aR,pure]
  ·show(do pure (.bool (!(←Op.equal 26 (.pointer none) (.pointer none)))):Sem Value).aR PP=_;rw[cH,JB];rfl
 ·rfl
end
attribute [simp] XO aaT Az NP XN abt abu
end Go.Proofs.Ybk
namespace Go.Proofs.Ybk.K
open Go Go.Am
set_option maxHeartbeats 4000000
open V (aq aU aj au bg ab bD aN aB cF cJ bq bR oZ o0)
def wE {α:Type} (s u:Value) (xs ys:List α) (m:Nat) (h:aa) (n:Nat) (σ:St):Prop:=∃i:Nat,n=m-i∧i≤m∧σ.m.h=h∧σ.t.get 0=some s∧σ.t.get 1=some u∧σ.t.get 12=some (.int .i64 (m:Nat))∧σ.t.get 13=some (.int .i64 (i:Nat))∧xs.take i=ys.take i
theorem XQ (s u:Value) (xs ys:List aH) (hl:xs.length≤1073741824) (h:aa) (Hs:cU 43 aM h s xs) (Hu:cU 43 aM h u ys):ao PP 44 [s,u] h (fun r h'=>h'=h∧r= .bool (decide (xs=ys))):=by
 refine aC mix (aD Tryz.func44) rfl rfl rfl afy ?_;simp only[ai,Tryz.f44];obtain⟨ad1,c1,rfl⟩:=Hs.shape;obtain⟨ad2,c2,rfl⟩:=Hu.shape;by_cases q:(xs.length:Int)=ys.length;rotate_left
 ·have:¬xs=ys:=fun e=>q (by rw[e]);simp -implicitDefEqProofs[q,this]
 obtain⟨m,hm⟩:∃m,m=xs.length:=⟨_,rfl⟩;have hm2:ys.length=m:=by omega
 rw[←hm]at Hs hl ⊢;rw[hm2]at Hu ⊢;clear q;obtain⟨D,hD⟩:∃D,D=decide (xs=ys):=⟨_,rfl⟩;rw[←hD];simp -implicitDefEqProofs;refine bL (wE (.slice ad1 m c1) (.slice ad2 m c2) xs ys m h) _ ⟨0,rfl,by omega,rfl,by simp⟩ ?_;rintro n ⟨T,⟨x,H⟩⟩ ⟨i,rfl,hi,hH,g0,g1,g12,g13,ht⟩;simp at hH g0 g1 g12 g13;subst hH;simp -implicitDefEqProofs[g0,g1,g12,g13];refine bY (fun hc=>?_) (fun hc=>?_)
 ·have him:i<m:=by omega
  have hA:xs[i]? =some xs[i]:=av (by omega);have hB:ys[i]? =some ys[i]:=av (by omega);obtain⟨_,b1,o1,wb1,cs1,r1,rfl,bI,hd1,hl1,_⟩:=Hs.at 6 ir hA;obtain⟨_,b2,o2,wb2,cs2,r2,rfl,bQ,hd2,hl2,_⟩:=Hu.at 6 ir hB;obtain⟨a',hea⟩:∃z,z=xs[i]:=⟨_,rfl⟩;obtain⟨b',heb⟩:∃z,z=ys[i]:=⟨_,rfl⟩;rw[←hea]at hd1 hA;rw[←heb]at hd2 hB;have w1:=bU (i:=i) (by omega);obtain⟨id,st,⟨sz,wh⟩,tl,fi⟩:=a';obtain⟨id2,st2,⟨uG,wh2⟩,tl2,fi2⟩:=b';simp -implicitDefEqProofs[g0,g1,g12,g13,him,bI,bQ,hd1,hd2,hl1,hl2,aM,Az];refine iM (fun hq=>?_) (fun hq=>?_)
  ·have hne:¬xs=ys:=oZ hA hB (fun e=>by simp only[aH.mk.injEq,aV.mk.injEq]at e;simp[e.1,e.2.1,e.2.2.1.1,e.2.2.1.2,e.2.2.2.1,e.2.2.2.2]at hq);simp -implicitDefEqProofs;rw[hD];simp[hne]
  ·simp at hq;obtain⟨rfl,rfl,⟨rfl,rfl⟩,rfl,rfl⟩:=hq;simp -implicitDefEqProofs[g0,g1,g12,g13,w1];exact⟨m-(i+1),by omega,i+1,rfl,by omega,rfl,by simp[g0],by simp[g1],by simp[g12],by simp,o0 hA hB ht⟩
 ·have e:i=m:=by omega
  subst e;have he:xs=ys:=by rw[bZ (by omega),bZ (by omega)]at ht;exact ht
  simp -implicitDefEqProofs;rw[hD];simp[he]
theorem XS (s u:Value) (xs ys:List aq) (hl:xs.length≤1073741824) (h:aa) (Hs:cU 99 au h s xs) (Hu:cU 99 au h u ys):ao PP 81 [s,u] h (fun r h'=>h'=h∧r= .bool (decide (xs=ys))):=by
 refine aC mix (aD Tryz.func81) rfl rfl rfl afW ?_;simp only[ai,Tryz.f81];obtain⟨ad1,c1,rfl⟩:=Hs.shape;obtain⟨ad2,c2,rfl⟩:=Hu.shape;by_cases q:(xs.length:Int)=ys.length;rotate_left
 ·have:¬xs=ys:=fun e=>q (by rw[e]);simp -implicitDefEqProofs[q,this]
 obtain⟨m,hm⟩:∃m,m=xs.length:=⟨_,rfl⟩;have hm2:ys.length=m:=by omega
 rw[←hm]at Hs hl ⊢;rw[hm2]at Hu ⊢;clear q;obtain⟨D,hD⟩:∃D,D=decide (xs=ys):=⟨_,rfl⟩;rw[←hD];simp -implicitDefEqProofs;refine bL (wE (.slice ad1 m c1) (.slice ad2 m c2) xs ys m h) _ ⟨0,rfl,by omega,rfl,by simp⟩ ?_;rintro n ⟨T,⟨x,H⟩⟩ ⟨i,rfl,hi,hH,g0,g1,g12,g13,ht⟩;simp at hH g0 g1 g12 g13;subst hH;simp -implicitDefEqProofs[g0,g1,g12,g13];refine bY (fun hc=>?_) (fun hc=>?_)
 ·have him:i<m:=by omega
  have hA:xs[i]? =some xs[i]:=av (by omega);have hB:ys[i]? =some ys[i]:=av (by omega);obtain⟨_,b1,o1,wb1,cs1,r1,rfl,bI,hd1,hl1,_⟩:=Hs.at 4 V.gK hA;obtain⟨_,b2,o2,wb2,cs2,r2,rfl,bQ,hd2,hl2,_⟩:=Hu.at 4 V.gK hB;obtain⟨a',hea⟩:∃z,z=xs[i]:=⟨_,rfl⟩;obtain⟨b',heb⟩:∃z,z=ys[i]:=⟨_,rfl⟩;rw[←hea]at hd1 hA;rw[←heb]at hd2 hB;have w1:=bU (i:=i) (by omega);obtain⟨ar,ax,ay,ak⟩:=a';obtain⟨ar2,ax2,ay2,Ua⟩:=b';simp -implicitDefEqProofs[g0,g1,g12,g13,him,bI,bQ,hd1,hd2,hl1,hl2,au];refine iM (fun hq=>?_) (fun hq=>?_)
  ·have hne:¬xs=ys:=oZ hA hB (fun e=>by simp only[aq.mk.injEq]at e;simp[e.1,e.2.1,e.2.2.1,e.2.2.2]at hq);simp -implicitDefEqProofs;rw[hD];simp[hne]
  ·simp at hq;obtain⟨rfl,rfl,rfl,rfl⟩:=hq;simp -implicitDefEqProofs[g0,g1,g12,g13,w1];exact⟨m-(i+1),by omega,i+1,rfl,by omega,rfl,by simp[g0],by simp[g1],by simp[g12],by simp,o0 hA hB ht⟩
 ·have e:i=m:=by omega
  subst e;have he:xs=ys:=by rw[bZ (by omega),bZ (by omega)]at ht;exact ht
  simp -implicitDefEqProofs;rw[hD];simp[he]
theorem XP (s u:Value) (xs ys:List Int) (hl:xs.length≤1073741824) (h:aa) (Hs:cU 3 ab h s xs) (Hu:cU 3 ab h u ys):ao PP 82 [s,u] h (fun r h'=>h'=h∧r= .bool (decide (xs=ys))):=by
 refine aC mix (aD Tryz.func82) rfl rfl rfl afX ?_;simp only[ai,Tryz.f82];obtain⟨ad1,c1,rfl⟩:=Hs.shape;obtain⟨ad2,c2,rfl⟩:=Hu.shape;by_cases q:(xs.length:Int)=ys.length;rotate_left
 ·have:¬xs=ys:=fun e=>q (by rw[e]);simp -implicitDefEqProofs[q,this]
 obtain⟨m,hm⟩:∃m,m=xs.length:=⟨_,rfl⟩;have hm2:ys.length=m:=by omega
 rw[←hm]at Hs hl ⊢;rw[hm2]at Hu ⊢;clear q;obtain⟨D,hD⟩:∃D,D=decide (xs=ys):=⟨_,rfl⟩;rw[←hD];simp -implicitDefEqProofs;refine bL (wE (.slice ad1 m c1) (.slice ad2 m c2) xs ys m h) _ ⟨0,rfl,by omega,rfl,by simp⟩ ?_;rintro n ⟨T,⟨x,H⟩⟩ ⟨i,rfl,hi,hH,g0,g1,g12,g13,ht⟩;simp at hH g0 g1 g12 g13;subst hH;simp -implicitDefEqProofs[g0,g1,g12,g13];refine bY (fun hc=>?_) (fun hc=>?_)
 ·have him:i<m:=by omega
  have hA:xs[i]? =some xs[i]:=av (by omega);have hB:ys[i]? =some ys[i]:=av (by omega);obtain⟨_,b1,o1,wb1,cs1,r1,rfl,bI,hd1,hl1,_⟩:=Hs.at 1 V.dV hA;obtain⟨_,b2,o2,wb2,cs2,r2,rfl,bQ,hd2,hl2,_⟩:=Hu.at 1 V.dV hB;obtain⟨a',hea⟩:∃z,z=xs[i]:=⟨_,rfl⟩;obtain⟨b',heb⟩:∃z,z=ys[i]:=⟨_,rfl⟩;rw[←hea]at hd1 hA;rw[←heb]at hd2 hB;have w1:=bU (i:=i) (by omega);rw[Nat.mul_one]at hd1 hd2 hl1 hl2;simp -implicitDefEqProofs[g0,g1,g12,g13,him,bI,bQ,hd1,hd2,hl1,hl2,ab];refine iM (fun hq=>?_) (fun hq=>?_)
  ·have hne:¬xs=ys:=oZ hA hB (fun e=>by simp[e]at hq);simp -implicitDefEqProofs;rw[hD];simp[hne]
  ·simp at hq;subst hq;simp -implicitDefEqProofs[g0,g1,g12,g13,w1];exact⟨m-(i+1),by omega,i+1,rfl,by omega,rfl,by simp[g0],by simp[g1],by simp[g12],by simp,o0 hA hB ht⟩
 ·have e:i=m:=by omega
  subst e;have he:xs=ys:=by rw[bZ (by omega),bZ (by omega)]at ht;exact ht
  simp -implicitDefEqProofs;rw[hD];simp[he]
theorem XR (s u:Value) (xs ys:List aU) (hl:xs.length≤1073741824) (h:aa) (Hs:cU 103 bg h s xs) (Hu:cU 103 bg h u ys):ao PP 83 [s,u] h (fun r h'=>h'=h∧r= .bool (decide (xs=ys))):=by
 refine aC mix (aD Tryz.func83) rfl rfl rfl afY ?_;simp only[ai,Tryz.f83];obtain⟨ad1,c1,rfl⟩:=Hs.shape;obtain⟨ad2,c2,rfl⟩:=Hu.shape;by_cases q:(xs.length:Int)=ys.length;rotate_left
 ·have:¬xs=ys:=fun e=>q (by rw[e]);simp -implicitDefEqProofs[q,this]
 obtain⟨m,hm⟩:∃m,m=xs.length:=⟨_,rfl⟩;have hm2:ys.length=m:=by omega
 rw[←hm]at Hs hl ⊢;rw[hm2]at Hu ⊢;clear q;obtain⟨D,hD⟩:∃D,D=decide (xs=ys):=⟨_,rfl⟩;rw[←hD];simp -implicitDefEqProofs;refine bL (wE (.slice ad1 m c1) (.slice ad2 m c2) xs ys m h) _ ⟨0,rfl,by omega,rfl,by simp⟩ ?_;rintro n ⟨T,⟨x,H⟩⟩ ⟨i,rfl,hi,hH,g0,g1,g12,g13,ht⟩;simp at hH g0 g1 g12 g13;subst hH;simp -implicitDefEqProofs[g0,g1,g12,g13];refine bY (fun hc=>?_) (fun hc=>?_)
 ·have him:i<m:=by omega
  have hA:xs[i]? =some xs[i]:=av (by omega);have hB:ys[i]? =some ys[i]:=av (by omega);obtain⟨_,b1,o1,wb1,cs1,r1,rfl,bI,hd1,hl1,_⟩:=Hs.at 3 V.pQ hA;obtain⟨_,b2,o2,wb2,cs2,r2,rfl,bQ,hd2,hl2,_⟩:=Hu.at 3 V.pQ hB;obtain⟨a',hea⟩:∃z,z=xs[i]:=⟨_,rfl⟩;obtain⟨b',heb⟩:∃z,z=ys[i]:=⟨_,rfl⟩;rw[←hea]at hd1 hA;rw[←heb]at hd2 hB;have w1:=bU (i:=i) (by omega);obtain⟨ax,ay,ar⟩:=a';obtain⟨ax2,ay2,ar2⟩:=b';simp -implicitDefEqProofs[g0,g1,g12,g13,him,bI,bQ,hd1,hd2,hl1,hl2,bg];refine iM (fun hq=>?_) (fun hq=>?_)
  ·have hne:¬xs=ys:=oZ hA hB (fun e=>by simp only[aU.mk.injEq]at e;simp[e.1,e.2.1,e.2.2]at hq);simp -implicitDefEqProofs;rw[hD];simp[hne]
  ·simp at hq;obtain⟨rfl,rfl,rfl⟩:=hq;simp -implicitDefEqProofs[g0,g1,g12,g13,w1];exact⟨m-(i+1),by omega,i+1,rfl,by omega,rfl,by simp[g0],by simp[g1],by simp[g12],by simp,o0 hA hB ht⟩
 ·have e:i=m:=by omega
  subst e;have he:xs=ys:=by rw[bZ (by omega),bZ (by omega)]at ht;exact ht
  simp -implicitDefEqProofs;rw[hD];simp[he]
end Go.Proofs.Ybk.K
namespace Go.Proofs.Ybk.K
open Go Go.Am
set_option maxHeartbeats 4000000
open V (aq aU aj au bg ab bD aN aB cF cJ bq bR)
section
variable {h0 h h':aa} {a:Nat} {b:aG} {vc:List Value} {ov:Value} {o:Option Nat}
theorem GY (hl:b.l.length≤1073741824) (B:bz h0 h a b vc ov o):ao PP 35 [.pointer (some ⟨a,0,none⟩)] h (fun r h'=>Ext h h'∧∃a' ov' o',r= .pointer (some ⟨a',0,none⟩)∧bz h h' a' b vc ov' o'):=by
 refine aC mix (aD Tryz.func35) rfl rfl rfl afn ?_;simp only[ai,Tryz.f35];obtain⟨a1,n1,c1,g,r,a2,n2,c2,a3,n3,c3,a4,n4,c4,rfl,rfl,rfl,hrow⟩:=B.cells;have hne:¬a=h.n:=by have:=B.a1;omega
 simp -implicitDefEqProofs[hrow,hne];obtain⟨G,hG⟩:∃G,G=(h.new (.row true 77 [.int .i64 0,.bool false,.slice none 0 0,.int .i64 0,.int .i64 0,.slice none 0 0,.slice none 0 0,.slice none 0 0,.int .i64 0])).set h.n (.row true 77 [.int .i64 b.fuel,.bool b.has,.slice a1 n1 c1,.int .i64 g,.int .i64 r,.slice a2 n2 c2,.slice a3 n3 c3,.slice a4 b.l.length c4,.int .i64 b.now]):=⟨_,rfl⟩;rw[←hG];have EG:Ext h G:=by rw[hG];exact(Ext.new h _).dh (a8 _) _
 have hGn:G.n=h.n+1:=by rw[hG];rfl
 have hGf:G.f h.n= .row true 77 [.int .i64 b.fuel,.bool b.has,.slice a1 n1 c1,.int .i64 g,.int .i64 r,.slice a2 n2 c2,.slice a3 n3 c3,.slice a4 b.l.length c4,.int .i64 b.now]:=by rw[hG];simp
 have BG:=B.exts EG;refine(GK _ b.l hl G BG.dL.sl).mono ?_;rintro w F ⟨EF,W⟩;obtain⟨o',W'⟩:=Ow.iE W;obtain⟨ad,rfl,_⟩:=id W;have hFf:F.f h.n=G.f h.n:=EF.f _ (by omega);rw[hGf]at hFf;simp -implicitDefEqProofs[af,hFf];intro _;have hF:Ext h F:=EG.trans EF;refine⟨hF.dh (a8 _) _,_,o',rO hFf (a8 _) (by have:=EF.n;omega) hF (B.dF.ext hF) ((agP W').low EG.n) rfl⟩
end
end Go.Proofs.Ybk.K

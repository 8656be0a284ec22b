import Derived.Test.YtbcdmljanolkeaaGreatDoorMc
import Derived.Laws.RangeString
set_option linter.unusedVariables false
set_option linter.unusedSimpArgs false
set_option linter.unusedSectionVars false
set_option linter.constructorNameAsVariable false
set_option maxRecDepth 20000
namespace Go.Proofs.Ybk.K
open Go Go.Am
set_option maxHeartbeats 4000000
open V (aq aP ah al aQ ab aX aM aB bT bX aZ bF)
def ag (p:aU):List Value:=[.int .i64 p.size,.int .i64 p.cL]
def dD (p:aU):Value:=.agg ⟨ag p⟩
def iz (p:Int×Int):List Value:=[.int .i64 p.1,.int .i64 p.2]
theorem jD (s:aU):(ag s).length=2:=rfl
theorem rG (s:Int×Int):(iz s).length=2:=rfl
theorem j7 (p:aU) (h:aa):ai PP 108 [dD p] h (fun v h'=>h'=h∧v= .bool (dM p)):=by
 refine az mix aaT U0 rfl (by show 1≤26;decide) ah7 ?_
 simp only[uY,Tryz.f108]
 unfold dM
 by_cases h1:p.size<1
 ·have e1:¬1≤p.size:=by omega
  simp -implicitDefEqProofs[dD,ag,h1,e1]
 by_cases h2:8<p.size
 ·have e2:¬p.size≤8:=by omega
  simp -implicitDefEqProofs[dD,ag,h1,h2,e2]
 by_cases h3:p.cL<0
 ·have e3:¬0≤p.cL:=by omega
  simp -implicitDefEqProofs[dD,ag,h1,h2,h3,e3]
 have e1:1≤p.size:=by omega
 have e2:p.size≤8:=by omega
 have e3:0≤p.cL:=by omega
 by_cases h4:p.cL≤2
 ·have w1:IntKind.wrap .i64 (2*p.cL)=2*p.cL:=aA (by omega)
  simp -implicitDefEqProofs[dD,ag,h1,h2,h3,h4,e1,e2,e3,w1]
 ·simp -implicitDefEqProofs[dD,ag,h1,h2,h3,h4,e1,e2,e3]
theorem Ut (p:aU) (h:aa):ai PP 254 [dD p] h (fun v h'=>h'=h∧v= .bool (!dM p)):=by
 refine az mix acr WE rfl (by show 1≤6;decide) ajD ?_
 simp only[xg,Tryz.f254]
 simp -implicitDefEqProofs[dD,ag]
 refine(j7 p h).mono ?_
 rintro v h' ⟨rfl,rfl⟩
 simp -implicitDefEqProofs[ae]
abbrev pC:=cm 29 ag
def SE (s:Value) (l:List aU) (m:Nat) (h:aa) (n:Nat) (σ:St):Prop:=∃i:Nat,n=m-i∧i≤m∧σ.m.h=h∧σ.t.get 0=some s∧σ.t.get 1=some (.func (.func 254) #[] #[])∧σ.t.get 7=some (.int .i64 (m:Nat))∧σ.t.get 8=some (.int .i64 (i:Nat))∧∀j t,j<i→l[j]? =some t→(!dM t)=false
theorem aeD (s:Value) (l:List aU) (hl:l.length≤1073741824) (h:aa) (hs:pC h s l):
  ai PP 295 [s,.func (.func 254) #[] #[]] h (fun v h'=>h'=h∧v= .int .i64 (V.dL (fun p=> !dM p) l)):=by
 refine az mix acK WY rfl (by show 2≤19;decide) ajV ?_
 simp only[xA,Tryz.f295]
 obtain⟨ad,c,rfl⟩:=hs.shape
 obtain⟨m,hm⟩:∃m,m=l.length:=⟨_,rfl⟩
 rw[←hm]at hs ⊢
 simp -implicitDefEqProofs
 refine bD (SE (.slice ad m c) l m h) _ ⟨0,rfl,by omega,rfl,by simp,by simp,by simp,by simp,by omega⟩ ?_
 rintro n ⟨T,⟨x,H⟩⟩ ⟨i,rfl,hi,hH,g0,g1,g7,g8,aL⟩
 simp at hH g0 g1 g7 g8
 subst hH
 simp -implicitDefEqProofs[g0,g1,g7,g8]
 refine bB (fun hc=>?_) (fun hc=>?_)<;>simp only[decide_eq_true_eq,decide_eq_false_iff_not]at hc
 ·have hil:i<m:=by omega
  have hti:l[i]? =some l[i]:=List.getElem?_eq_getElem (by omega)
  obtain⟨_,b',o,wb,cs,r,rfl,hb',hd,hlc,_⟩:=hs.at 2 jD hti
  obtain⟨u,hu⟩:∃u,u=l[i]:=⟨_,rfl⟩
  rw[←hu]at hd hti
  have w1:IntKind.wrap .i64 ((i:Int)+1)=((i+1:Nat):Int):=by rw[aA (by omega)];omega
  simp -implicitDefEqProofs[g0,g1,g7,g8,hil,hb',hd,hlc,ag]
  refine(Ut u H).mono ?_
  rintro v h' ⟨rfl,rfl⟩
  simp -implicitDefEqProofs[ae]
  intro _
  by_cases h1:dM u=true
  ·simp -implicitDefEqProofs[h1,g0,g1,g7,g8,w1]
   refine⟨m-(i+1),by omega,i+1,rfl,by omega,rfl,by simp[g0],by simp[g1],by simp[g7],by simp,fun j z hj hz=>?_⟩
   rcases Nat.lt_or_ge j i with q|q
   ·exact aL j z q hz
   ·have:j=i:=by omega
    subst this
    rw[hti]at hz
    obtain rfl:=Option.some.inj hz
    simp[h1]
  ·simp -implicitDefEqProofs[h1,g0,g1,g7,g8]
   exact(V.yT hti (by simp[h1]) aL).symm
 ·simp -implicitDefEqProofs[g0,g1,g7,g8]
  exact(V.yU (fun j z hj hz=>aL j z (by omega) hz)).symm
theorem Zt (s:Value) (l:List aU) (hl:l.length≤1073741824) (h:aa) (hs:pC h s l):
  ai PP 253 [s,.func (.func 254) #[] #[]] h (fun v h'=>h'=h∧v= .bool (!l.all dM)):=by
 refine az mix acq WD rfl (by show 2≤9;decide) ajC ?_
 simp only[xf,Tryz.f253]
 obtain⟨ad,c,rfl⟩:=hs.shape
 simp -implicitDefEqProofs
 refine(aeD _ l hl h hs).mono ?_
 rintro v h' ⟨rfl,rfl⟩
 have e:(!l.all dM)=decide (0≤V.dL (fun p=> !dM p) l):=by
  unfold V.dL
  cases q:l.any (fun p=> !dM p)with
  |true=>
   simp only[if_true]
   rw[show l.all dM=false by rw[←Bool.not_eq_true,List.all_eq_true];intro z;obtain⟨t,ht,hp⟩:=List.any_eq_true.1 q;rw[z t ht]at hp;cases hp]
   simp
  |false=>
   simp only[Bool.false_eq_true,if_false]
   rw[show l.all dM=true by rw[List.all_eq_true];intro t ht;cases hm:dM t with
    |true=>rfl
    |false=>rw[List.any_eq_false]at q;exact absurd (by simp[hm]) (q t ht)]
   simp
 simp -implicitDefEqProofs[ae,e]
theorem Bh (s:Value) (l:List aU) (hl:l.length≤1073741824) (h:aa) (hs:pC h s l):ai PP 209 [s] h (fun v h'=>h'=h∧v= .bool (iG l)):=by
 refine az mix abX Wa rfl (by show 1≤11;decide) ajb ?_
 simp only[wF,Tryz.f209]
 obtain⟨ad,c,rfl⟩:=hs.shape
 unfold iG
 by_cases h1:l.length≤512
 ·have h1':(l.length:Int)≤512:=by omega
  simp -implicitDefEqProofs[h1,h1']
  refine(Zt _ l hl h hs).mono ?_
  rintro v h' ⟨rfl,rfl⟩
  simp -implicitDefEqProofs[ae]
 ·have h1':¬(l.length:Int)≤512:=by omega
  simp -implicitDefEqProofs[h1,h1']
def SF (a b:aq) (h:aa) (n:Nat) (σ:St):Prop:=∃i:Nat,n=2-i∧i≤2∧σ.m.h=h.new (.row true 99 (al a++al b))∧σ.t.get 2=some (.pointer (some ⟨2,0,some 0⟩))∧σ.t.get 3=some (.pointer (some ⟨3,0,some 0⟩))∧σ.t.get 11=some (.slice (some ⟨h.n,0,none⟩) 2 2)∧σ.t.get 12=some (.int .i64 2)∧σ.t.get 13=some (.int .i64 (i:Nat))∧
 σ.m.x.look 2=some (99,al a)∧σ.m.x.look 3=some (99,al b)∧(0<i→gY a.x=true∧gY a.y=true)∧(1<i→gY b.x=true∧gY b.y=true)
theorem aaE (a b:aq) (h:aa):ai PP 296 [aX a,aX b] h (fun v h'=>Ext h h'∧v= .int .i64 (pT a b)):=by
 refine az mix acL WZ rfl (by show 2≤45;decide) ajW ?_
 simp only[xC,Tryz.f296]
 have hr8:List.range 8=[0,1,2,3,4,5,6,7]:=rfl
 simp -implicitDefEqProofs[aX,al,aI,hr8]
 refine bD (SF a b h) _ ⟨0,rfl,by omega,by simp[al],by simp,by simp,by simp,by simp,by simp,by simp[al],by simp[al],by omega,by omega⟩ ?_
 rintro n ⟨T,⟨x,H⟩⟩ ⟨i,rfl,hi,hH,g2,g3,g11,g12,g13,x2,x3,ca,cb⟩
 simp at hH g2 g3 g11 g12 g13 x2 x3
 subst hH
 simp -implicitDefEqProofs[g2,g3,g11,g12,g13,x2,x3]
 refine bB (fun hc=>?_) (fun hc=>?_)<;>simp only[decide_eq_true_eq,decide_eq_false_iff_not]at hc
 ·have w1:IntKind.wrap .i64 ((i:Int)+1)=((i+1:Nat):Int):=by rw[aA (by omega)];omega
  obtain⟨s,hs⟩:∃s,s=if i=0 then a else b:=⟨_,rfl⟩
  obtain⟨cs,hcs⟩:∃cs,cs=al a++al b:=⟨_,rfl⟩
  obtain⟨r,hd⟩:∃r,cs.drop (i*4)=al s++r:=by
   rcases(by omega:i=0∨i=1)with e|e
   ·subst e;exact⟨al b,by rw[hs,hcs];rfl⟩
   ·subst e;exact⟨[],by rw[hs,hcs];rfl⟩
  have hl:i*4+4≤cs.length:=by rw[hcs];show _≤8;omega
  have oe:(i:Int)<2:=by omega
  have fin:(gY s.x=false∨gY s.y=false)→pT a b=0:=by
   intro q
   unfold pT
   rw[if_neg]
   rcases(by omega:i=0∨i=1)with e|e
   ·rw[if_pos e]at hs;subst hs;rcases q with q|q<;>simp[q]
   ·rw[if_neg (by omega)]at hs;subst hs;rcases q with q|q<;>simp[q]
  rw[←hcs]
  simp -implicitDefEqProofs[g2,g3,g11,g12,g13,x2,x3,oe,hd,hl,al]
  refine(V.nW s.x (h.new (.row true 99 cs))).mono ?_
  rintro v h' ⟨rfl,rfl⟩
  simp -implicitDefEqProofs[ae]
  intro _
  by_cases h1:gY s.x=true
  ·have h1':=h1
   unfold gY at h1'
   simp -implicitDefEqProofs[h1']
   refine(V.nW s.y (h.new (.row true 99 cs))).mono ?_
   rintro v h' ⟨rfl,rfl⟩
   simp -implicitDefEqProofs[ae]
   intro _
   by_cases h2:gY s.y=true
   ·have h2':=h2
    unfold gY at h2'
    simp -implicitDefEqProofs[h2',g2,g3,g11,g12,g13,x2,x3,w1]
    refine⟨2-(i+1),by omega,i+1,rfl,by omega,by rw[hcs],by simp[g2],by simp[g3],by simp[g11],by simp[g12],by simp,by simp[x2,al],by simp[x3,al],fun _=>?_,fun q=>?_⟩
    ·rcases(by omega:i=0∨i=1)with e|e
     ·rw[if_pos e]at hs;rw[←hs];exact⟨h1,h2⟩
     ·exact ca (by omega)
    ·have e:i=1:=by omega
     rw[if_neg (by omega)]at hs
     rw[←hs];exact⟨h1,h2⟩
   ·have h2':=h2
    unfold gY at h2'
    have e:=fin (.inr (by simpa using h2))
    simp -implicitDefEqProofs[h2',e]
    exact Ext.new _ _
  ·have h1':=h1
   unfold gY at h1'
   have e:=fin (.inl (by simpa using h1))
   simp -implicitDefEqProofs[h1',e]
   exact Ext.new _ _
 ·obtain⟨ca1,ca2⟩:=ca (by omega)
  obtain⟨cb1,cb2⟩:=cb (by omega)
  have e:pT a b=(a.x-b.x)*(a.x-b.x)+(a.y-b.y)*(a.y-b.y):=by unfold pT;rw[if_pos (by simp[ca1,ca2,cb1,cb2])]
  simp[gY,aB]at ca1 ca2 cb1 cb2
  obtain⟨dx,hdx⟩:∃dx,dx=a.x-b.x:=⟨_,rfl⟩
  obtain⟨dy,hdy⟩:∃dy,dy=a.y-b.y:=⟨_,rfl⟩
  have sq:∀d:Int,-2097152≤d→d≤2097152→0≤d*d∧d*d≤4398046511104:=fun d h1 h2=>by
   rcases Int.le_total 0 d with q|q
   ·exact⟨Int.mul_nonneg q q,by have:=Int.mul_le_mul h2 h2 q (by omega);simpa using this⟩
   ·have:=Int.mul_le_mul (show -d≤2097152 by omega) (show -d≤2097152 by omega) (by omega) (by omega)
    rw[Int.neg_mul_neg]at this
    exact⟨by rw[←Int.neg_mul_neg];exact Int.mul_nonneg (by omega) (by omega),this⟩
  have b1:=sq dx (by omega) (by omega)
  have b2:=sq dy (by omega) (by omega)
  have w1:IntKind.wrap .i64 (a.x-b.x)=dx:=by rw[aA (by omega)];omega
  have w2:IntKind.wrap .i64 (a.y-b.y)=dy:=by rw[aA (by omega)];omega
  have w3:IntKind.wrap .i64 (dx*dx)=dx*dx:=aA (by omega)
  have w4:IntKind.wrap .i64 (dy*dy)=dy*dy:=aA (by omega)
  have w5:IntKind.wrap .i64 (dx*dx+dy*dy)=dx*dx+dy*dy:=aA (by omega)
  rw[e,←hdx,←hdy]
  simp -implicitDefEqProofs[g2,g3,g11,g12,g13,x2,x3,al,w1,w2,w3,w4,w5]
  exact Ext.new _ _
theorem FJ (a b:aq) (r:Int) (hr: -2147483648≤r∧r≤2147483648) (h:aa):ai PP 255 [aX a,aX b,.int .i64 r] h (fun v h'=>Ext h h'∧v= .bool (k9 a b r)):=by
 refine az mix acs WG rfl (by show 3≤14;decide) ajE ?_
 simp only[xh,Tryz.f255]
 have hf:=aaE a b h
 have sq:0≤r*r∧r*r≤4611686018427387904:=by
  rcases Int.le_total 0 r with q|q
  ·exact⟨Int.mul_nonneg q q,by have:=Int.mul_le_mul hr.2 hr.2 q (by omega);simpa using this⟩
  ·have:=Int.mul_le_mul (show -r≤2147483648 by omega) (show -r≤2147483648 by omega) (by omega) (by omega)
   rw[Int.neg_mul_neg]at this
   exact⟨by rw[←Int.neg_mul_neg];exact Int.mul_nonneg (by omega) (by omega),this⟩
 have w1:IntKind.wrap .i64 (r*r)=r*r:=aA (by omega)
 simp only[aX,al]at hf
 simp -implicitDefEqProofs[aX,al]
 refine hf.mono ?_
 rintro v h' ⟨E,rfl⟩
 simp -implicitDefEqProofs[ae,w1]
 intro _
 exact⟨E,by unfold k9;rfl⟩
structure fK (v:ah):Prop where
 af:V.eE v.af=true
 aV:1≤v.aV∧v.aV≤1048576
 bg:0≤v.bg∧v.bg≤1048576
 aD:V.ft v.aD v.af.length=true
 aE:V.fS v.aE=true
theorem j6 {v:ah} (h:aM v=true):fK v:=by
 unfold aM V.jL at h
 rw[decide_eq_true_eq]at h
 split at h
 ·cases h
 rename_i h1
 split at h
 ·cases h
 rename_i h2
 split at h
 ·cases h
 rename_i h3
 split at h
 ·cases h
 rename_i h4
 split at h
 ·cases h
 rename_i h5
 simp only[Bool.not_eq_false]at h1 h2 h3 h4 h5
 simp[aB]at h2 h3
 exact⟨h1,h2,h3,h4,h5⟩
theorem fK.len {v:ah} (M:fK v):0<v.af.length∧v.af.length≤4096:=by
 have:=M.af
 unfold V.eE at this
 simp at this
 exact this.2
theorem fK.dP {v:ah} (M:fK v) {k:Nat} {s:aq} (hk:v.af[k]? =some s):(0≤s.kind∧s.kind≤2)∧(0≤s.row∧s.row≤999)∧(-1048576≤s.x∧s.x≤1048576)∧(-1048576≤s.y∧s.y≤1048576):=by
 have h:=M.af
 unfold V.eE at h
 rw[Bool.and_eq_true,List.all_eq_true]at h
 have hlt:=(List.getElem?_eq_some_iff.mp hk).1
 have:=h.1 k (List.mem_range.2 hlt)
 unfold V.dN at this
 rw[hk]at this
 simp only[Bool.and_eq_true]at this
 have h2:=this.1
 unfold V.gF at h2
 simp[aB]at h2
 omega
theorem fK.fR {v:ah} (M:fK v) {k:Nat} {p:aP} (hk:v.aE[k]? =some p):(-1048576≤p.x∧p.x≤1048576)∧(-1048576≤p.y∧p.y≤1048576)∧(1≤p.r∧p.r≤1048576):=by
 have h:=M.aE
 unfold V.fS at h
 rw[Bool.and_eq_true,List.all_eq_true]at h
 have hlt:=(List.getElem?_eq_some_iff.mp hk).1
 have:=h.1 k (List.mem_range.2 hlt)
 unfold V.fy at this
 rw[hk]at this
 simp only at this
 unfold V.ij at this
 simp[aB]at this
 omega
theorem fK.Ab {v:ah} (M:fK v):v.aE.length≤200:=by
 have:=M.aE
 unfold V.fS at this
 simp at this
 exact this.2
theorem fK.zw {v:ah} (M:fK v):v.aD.length≤200:=by
 have:=M.aD
 unfold V.ft at this
 simp at this
 exact this.2
theorem fK.small {v:ah} (M:fK v):V.ji v:=⟨by have:=M.len;omega,by have:=M.zw;omega,by have:=M.Ab;omega⟩
def dJ (h:aa) (v:ah) (cs:List Value):Prop:=∃s k p,cs=[s,.int .i64 v.aV,.int .i64 v.bg,k,p]∧aF 99 al h s v.af∧aF 3 ab h k v.aD∧aF 103 aQ h p v.aE
theorem dJ.cK {h:aa} {v:ah} {cs:List Value} (H:dJ h v cs):bF h v cs:=by
 obtain⟨s,k,p,rfl,h1,h2,h3⟩:=H
 exact⟨s,k,p,rfl,h1.sl,h2.sl,h3.sl⟩
theorem dJ.ext {h h':aa} {v:ah} {cs:List Value} (H:dJ h v cs) (E:Ext h h'):dJ h' v cs:=by
 obtain⟨s,k,p,rfl,h1,h2,h3⟩:=H
 exact⟨s,k,p,rfl,h1.ext E,h2.ext E,h3.ext E⟩
theorem dJ.dt {h h':aa} {v:ah} {cs:List Value} (H:dJ h v cs) {S:List Nat} (C:b8 S h h') (hs:eZ S h):dJ h' v cs:=by
 obtain⟨s,k,p,rfl,h1,h2,h3⟩:=H
 exact⟨s,k,p,rfl,h1.dt C hs,h2.dt C hs,h3.dt C hs⟩
theorem dJ.wk {h h':aa} {v:ah} {cs:List Value} (H:dJ h v cs) (W:Wk h h'):dJ h' v cs:=by
 obtain⟨s,k,p,rfl,h1,h2,h3⟩:=H
 exact⟨s,k,p,rfl,h1.wk W,h2.wk W,h3.wk W⟩
def dq (b:Bool):List Value:=[.bool b]
theorem yA (b:Bool):(dq b).length=1:=rfl
abbrev uA:=cm 4 dq
theorem qA {v:ah} {k:Nat} (h:k<v.af.length):v.af[k]? =some (gj v k):=by
 unfold gj
 rw[List.getD_eq_getElem?_getD,List.getElem?_eq_getElem h];rfl
theorem zJ (v:ah) (M:fK v) (cs:List Value) (a:Int) (ha: -4611686018427387904≤a∧a≤4611686018427387904) (h:aa) (H:bF h v cs):ai PP 311 [.agg ⟨cs⟩,.int .i64 a] h (fun r h'=>h'=h∧r= .bool (rz v a)):=by
 refine az mix acN W5 rfl (by show 2≤50;decide) ajY ?_
 simp only[xE,Tryz.f311]
 obtain⟨s,k,p,rfl,h1,h2,h3⟩:=H
 obtain⟨ad1,c1,e1⟩:=h1.shape
 obtain⟨ad2,c2,e2⟩:=h2.shape
 obtain⟨ad3,c3,e3⟩:=h3.shape
 subst e1;subst e2;subst e3
 have hlen:=M.len
 obtain⟨m,hm⟩:∃m,m=v.af.length:=⟨_,rfl⟩
 unfold rz
 rw[←hm]at h1 hlen ⊢
 by_cases q1:0≤a
 ·have w1:IntKind.wrap .i64 ((m:Int)-1)=(m:Int)-1:=aA (by omega)
  by_cases q2:a<(m:Int)-1
  ·obtain⟨i,rfl⟩:∃i:Nat,a=i:=⟨a.toNat,by omega⟩
   obtain⟨j,hj⟩:∃j,j=i+1:=⟨_,rfl⟩
   have eJ:j<m:=by omega
   have hi0:i<m:=by omega
   have hs0:=qA (v:=v) (k:=i) (by omega)
   have hs1:=qA (v:=v) (k:=j) (by omega)
   obtain⟨t,ht⟩:∃t,t=gj v i:=⟨_,rfl⟩
   obtain⟨u,hu⟩:∃u,u=gj v j:=⟨_,rfl⟩
   rw[←ht]at hs0
   rw[←hu]at hs1
   have b0:=M.dP hs0
   have b1:=M.dP hs1
   obtain⟨_,b,o,wb,cells,r,rfl,hb,hd,hlc,_⟩:=h1.at 4 V.eM hs0
   obtain⟨_,b',o',wb',cells',r',e,hb',hd',hlc',_⟩:=h1.at 4 V.eM hs1
   simp only[Option.some.injEq,Addr.mk.injEq,and_true]at e
   obtain⟨rfl,rfl⟩:=e
   rw[hb]at hb'
   simp only[aO.row.injEq,true_and]at hb'
   obtain⟨rfl,rfl⟩:=hb'
   have w2:IntKind.wrap .i64 ((i:Int)+1)=(j:Int):=by rw[aA (by omega)];omega
   have w3:IntKind.wrap .i64 (u.x-t.x)=u.x-t.x:=aA (by omega)
   have hd0:cells.drop (o+i*4)= .int .i64 t.row::([.int .i64 t.x,.int .i64 t.y,.int .i64 t.kind]++r):=hd
   have hd1:cells.drop (o+i*4+1)= .int .i64 t.x::([.int .i64 t.y,.int .i64 t.kind]++r):=by rw[←List.drop_drop,hd];rfl
   have hd2:cells.drop (o+j*4)= .int .i64 u.row::([.int .i64 u.x,.int .i64 u.y,.int .i64 u.kind]++r'):=hd'
   have hd3:cells.drop (o+j*4+1)= .int .i64 u.x::([.int .i64 u.y,.int .i64 u.kind]++r'):=by rw[←List.drop_drop,hd'];rfl
   have l0:o+i*4+1≤cells.length:=by omega
   have l1:o+i*4+1+1≤cells.length:=by omega
   have l2:o+j*4+1≤cells.length:=by omega
   have l3:o+j*4+1+1≤cells.length:=by omega
   have htn:(i:Int).toNat=i:=by omega
   rw[htn,←hj,←ht,←hu]
   have q2':(i:Int)<(m:Int)-1:=q2
   by_cases q3:u.row=t.row
   ·simp -implicitDefEqProofs[w1,w2,w3,q2',eJ,hi0,hb,hd0,hd1,hd2,hd3,l0,l1,l2,l3,q3]
   ·simp -implicitDefEqProofs[w1,w2,w3,q2',eJ,hi0,hb,hd0,hd1,hd2,hd3,l0,l1,l2,l3,q3]
  ·simp -implicitDefEqProofs[q1,q2,w1]
 ·simp -implicitDefEqProofs[q1]
theorem adO (v:ah) (M:fK v) (cs:List Value) (uv:Value) (us:List Bool) (hu:us.length≤1073741824) (a:Int) (h:aa) (H:bF h v cs) (hus:uA h uv us):ai PP 310 [.agg ⟨cs⟩,uv,.int .i64 a] h (fun r h'=>h'=h∧r= .bool (mS v us a)):=by
 refine az mix acM W4 rfl (by show 3≤25;decide) ajX ?_
 simp only[xD,Tryz.f310]
 obtain⟨s,k,p,rfl,h1,h2,h3⟩:=H
 obtain⟨ad1,c1,e1⟩:=h1.shape
 obtain⟨ad2,c2,e2⟩:=h2.shape
 obtain⟨ad3,c3,e3⟩:=h3.shape
 subst e1;subst e2;subst e3
 obtain⟨ad4,c4,rfl⟩:=hus.shape
 unfold mS
 by_cases q1:a<0
 ·have q1':¬0≤a:=by omega
  simp -implicitDefEqProofs[q1,q1']
 have q1':0≤a:=by omega
 by_cases q2:(v.af.length:Int)≤a
 ·have q2':¬a<(v.af.length:Int):=by omega
  simp -implicitDefEqProofs[q1,q1',q2,q2']
 have q2':a<(v.af.length:Int):=by omega
 by_cases q3:(us.length:Int)≤a
 ·have q3':¬a<(us.length:Int):=by omega
  simp -implicitDefEqProofs[q1,q1',q2,q2',q3,q3']
 have q3':a<(us.length:Int):=by omega
 obtain⟨i,rfl⟩:∃i:Nat,a=i:=⟨a.toNat,by omega⟩
 have hil:i<us.length:=by omega
 have hti:us[i]? =some us[i]:=List.getElem?_eq_getElem hil
 obtain⟨_,b,o,wb,cells,r,rfl,hb,hd,hlc,_⟩:=hus.at 1 yA hti
 rw[Nat.mul_one]at hd
 have hlc':o+i+1≤cells.length:=by omega
 have hgd:us.getD i false=us[i]:=by rw[List.getD_eq_getElem?_getD,hti];rfl
 simp -implicitDefEqProofs[q1,q1',q2,q2',q3,q3',hil,hb,hd,hlc',dq,hgd]
def SA (h:aa) (v:ah) (cs:List Value) (uv:Value) (us:List Bool) (a:Int) (M n:Nat) (σ:St):Prop:=∃i:Nat,n=M-i∧i≤M∧i≤v.af.length∧σ.m.h=h∧σ.t.get 1=some uv∧σ.t.get 2=some (.int .i64 a)∧σ.t.get 3=some (.int .i64 (M:Nat))∧σ.t.get 4=some (.pointer (some ⟨4,0,some 0⟩))∧σ.t.get 9=some (.int .i64 (i:Nat))∧σ.m.x.look 4=some (63,cs)∧
 iI v us a M 0=iI v us a (M-i) i∧(0<i→0≤a∧a+i≤v.af.length)
theorem afC (v:ah) (Mv:fK v) (cs:List Value) (uv:Value) (us:List Bool) (hu:us.length≤1073741824) (a:Int) (ha: -4611686018427387904≤a∧a≤4611686018427387904) (M:Nat) (hM:M≤4611686018427387904) (h:aa) (H:bF h v cs) (hus:uA h uv us):
  ai PP 284 [.agg ⟨cs⟩,uv,.int .i64 a,.int .i64 (M:Nat)] h (fun r h'=>h'=h∧r= .int .i64 ((iI v us a M 0:Nat):Int)):=by
 refine az mix acz WM rfl (by show 4≤36;decide) ajK ?_
 simp only[xn,Tryz.f284]
 have hfree:=fun a=>adO v Mv cs uv us hu a h H hus
 have hnext:=fun a ha=>zJ v Mv cs a ha h H
 have hlen:=Mv.len
 obtain⟨s,k,p,rfl,h1,h2,h3⟩:=H
 obtain⟨ad1,c1,e1⟩:=h1.shape
 obtain⟨ad2,c2,e2⟩:=h2.shape
 obtain⟨ad3,c3,e3⟩:=h3.shape
 subst e1;subst e2;subst e3
 obtain⟨ad4,c4,rfl⟩:=hus.shape
 obtain⟨C,hC⟩:∃C,C=[Value.slice ad1 v.af.length c1,.int .i64 v.aV,.int .i64 v.bg,.slice ad2 v.aD.length c2,.slice ad3 v.aE.length c3]:=⟨_,rfl⟩
 have hCl:C.length=5:=by rw[hC];rfl
 have hCt:C.take 5=C:=List.take_of_length_le (by omega)
 simp -implicitDefEqProofs
 refine bD (SA h v C (.slice ad4 us.length c4) us a M) _ ⟨0,rfl,by omega,by omega,by simp,by simp,by simp,by simp,by simp,by simp,by simp[hC],by simp,by omega⟩ ?_
 rw[←hC]at hfree hnext
 rintro n ⟨T,⟨x,G⟩⟩ ⟨i,rfl,hi,hil,hG,g1,g2,g3,g4,g9,x4,hlr,hin⟩
 simp at hG g1 g2 g3 g4 g9 x4
 subst hG
 have w1:IntKind.wrap .i64 (a+(i:Int))=a+i:=aA (by omega)
 by_cases q1:i<M
 ·have q1':(i:Int)<(M:Int):=by omega
  have hstep:iI v us a (M-i) i=if mS v us (a+i)&&(decide (i=0) || rz v (a+i-1))then iI v us a (M-(i+1)) (i+1)else i:=by
   rw[show M-i=(M-(i+1))+1 by omega,iI]
  have w2:IntKind.wrap .i64 ((i:Int)+1)=((i+1:Nat):Int):=by rw[aA (by omega)];omega
  simp -implicitDefEqProofs[g1,g2,g3,g4,g9,x4,q1,q1',w1,hCl,hCt]
  refine(hfree (a+i)).mono ?_
  rintro r h' ⟨e,rfl⟩
  replace e:=e.symm
  subst e
  simp -implicitDefEqProofs[ae]
  intro _
  by_cases q2:mS v us (a+i)=true
  ·have q2':=q2
   unfold mS at q2'
   simp at q2'
   by_cases q3:i=0
   ·subst q3
    simp only[Int.natCast_zero,Int.add_zero]at q2
    simp at hstep
    rw[q2]at hstep
    simp -implicitDefEqProofs[g1,g2,g3,g4,g9,x4,q2,w2]
    exact⟨M-1,by omega,1,rfl,by omega,by omega,rfl,by simp[g1],by simp[g2],by simp[g3],by simp[g4],by simp[aA],by simp[x4],by rw[hlr];simpa using hstep,by omega⟩
   ·have q3':¬(i:Int)=0:=by omega
    have w3:IntKind.wrap .i64 (a+(i:Int)-1)=a+i-1:=aA (by omega)
    simp -implicitDefEqProofs[g1,g2,g3,g4,g9,x4,q2,q3,q3',w1,w3,hCl,hCt]
    refine(hnext (a+i-1) (by omega)).mono ?_
    rintro r h' ⟨e,rfl⟩
    replace e:=e.symm
    subst e
    simp -implicitDefEqProofs[ae]
    intro _
    by_cases q4:rz v (a+i-1)=true
    ·rw[q2,q4]at hstep
     simp at hstep
     simp -implicitDefEqProofs[g1,g2,g3,g4,g9,x4,q4,w2]
     exact⟨M-(i+1),by omega,i+1,rfl,by omega,by omega,rfl,by simp[g1],by simp[g2],by simp[g3],by simp[g4],by simp,by simp[x4],by rw[hlr,hstep],by omega⟩
    ·rw[q2,Bool.eq_false_iff.2 q4]at hstep
     simp[q3]at hstep
     simp -implicitDefEqProofs[g1,g2,g3,g4,g9,x4,q4]
     rw[hlr,hstep]
  ·rw[Bool.eq_false_iff.2 q2]at hstep
   simp at hstep
   simp -implicitDefEqProofs[g1,g2,g3,g4,g9,x4,q2]
   rw[hlr,hstep]
 ·have e:i=M:=by omega
  subst e
  simp -implicitDefEqProofs[g1,g2,g3,g4,g9,x4]
  rw[hlr];simp[iI]
structure iM {α:Type} (t e sz by_:Nat) (enc:α→List Value):Prop where
 el:ep PP t=some (e,sz)
 un:PP.underlying t=some (.slice e)
 ze:∃zl,cT PP e=some zl∧zl.length=sz
 yD:fX PP e=some by_
 co:PP.cellsOf e=sz
 pos:0<sz
 b0:0<by_
 len:∀x,(enc x).length=sz
 one:∀x,(enc x).all one=true
theorem nX:iM 22 3 1 8 ab:=⟨JV,Qv,⟨_,AJ,rfl⟩,yC,pO,by decide,by decide,V.cY,fun _=>rfl⟩
theorem ju:iM 66 29 2 16 ag:=⟨J0,QR,⟨_,AI,rfl⟩,BE,FL,by decide,by decide,jD,fun _=>rfl⟩
theorem aac:iM 67 69 2 16 iz:=⟨J1,QS,⟨_,AM,rfl⟩,BM,FQ,by decide,by decide,rG,fun _=>rfl⟩
theorem J2:iM 131 4 1 1 dq:=⟨JU,Qr,⟨_,RC,rfl⟩,BK,FO,by decide,by decide,yA,fun _=>rfl⟩
section
variable {α:Type} {t e sz by_:Nat} {enc:α→List Value} {h0 H:aa} {o:Option Nat} {xs:List α} {v:Value}
theorem gx (E:iM t e sz by_ enc) (W:Ow e enc h0 H o xs v) (a:α) (hl:(xs.length+1)*by_≤140737488355328) (T:Fr) (x:bI) (s y:Nat) (hs:Fr.get T s=some v) (hy:Fr.get T y=some (.slice (some ⟨H.n,0,none⟩) 1 1)):
  cB PP ⟨T,⟨x,H.new (.row true e (enc a))⟩⟩ t t (.tmp s) (.tmp y)=some (.slice (some ⟨H.n+1,0,none⟩) (xs.length+1) (xs.length+1),⟨T,⟨x,bK (H.new (.row true e (enc a))) o (.row true e (xs.flatMap enc++enc a))⟩⟩):=by
 obtain⟨zl,hz,hzl⟩:=E.ze
 have hlen:=E.len a
 have htk:(enc a).take sz=enc a:=List.take_of_length_le (by omega)
 refine Ph (σ:=⟨T,⟨x,H.new (.row true e (enc a))⟩⟩) (W.ext (Ext.new _ _)) E.el hz E.yD E.co E.pos E.b0 hzl E.len (by simpa using hs) ?_ (E.one a) (by decide) hl
 simp[cQ,E.un,hy,hlen,htk]
theorem Ow.one (W:Ow e enc h0 H o xs v) (hn:h0.n≤H.n) (c:aO) (a:α) {cells:List Value} (hc:cells=xs.flatMap enc++enc a):Ow e enc h0 (bK (H.new c) o (.row true e cells)) (some (H.n+1)) (xs++[a]) (.slice (some ⟨H.n+1,0,none⟩) (xs.length+1) (xs.length+1)):=
 (W.ext (Ext.new H c)).app (by rw[cZ];omega) [a] (by simpa using hc) rfl
theorem gz (E:Ext h0 H) (W:Ow e enc h0 H o xs v) (c c':aO):Ext h0 (bK (H.new c) o c'):=(E.bA c).app (fun b hb=>by have:=W.lt b hb;exact⟨this.1,by rw[cZ];omega⟩) c'
end
def SC (h:aa) (a:Int) (M n:Nat) (σ:St):Prop:=∃(i:Nat) (o:Option Nat) (v:Value),n=M-i∧i≤M∧Ext h σ.m.h∧Ow 3 ab h σ.m.h o (jF a i) v∧σ.t.get 0=some (.int .i64 a)∧σ.t.get 5=some v∧σ.t.get 7=some (.int .i64 (M:Nat))∧σ.t.get 8=some (.int .i64 (i:Nat))
theorem qs (a:Int) (n:Nat):(jF a n).length=n:=by simp[jF]
theorem alH (a:Int) (n:Nat):jF a (n+1)=jF a n++[a+n]:=by simp[jF,List.range_succ]
theorem alG (a:Int) (ha: -4611686018427387904≤a∧a≤4611686018427387904) (M:Nat) (hM:M≤1048576) (h:aa):ai PP 285 [.int .i64 a,.int .i64 (M:Nat)] h (fun v h'=>Ext h h'∧aF 3 ab h' v (jF a M)):=by
 refine ai.gK (post:=fun v h'=>Ext h h'∧bS 3 ab h h' v (jF a M)) ?_ (fun v h' ⟨E,W⟩=>by
  obtain⟨h'',w,E',S⟩:=W.cG E
  exact⟨h'',w,E',S⟩)
 refine az mix acA WN rfl (by show 2≤19;decide) ajL ?_
 simp only[xo,Tryz.f285]
 simp -implicitDefEqProofs
 refine bD (SC h a M) _ ⟨0,none,_,rfl,by omega,Ext.bu h,Ow.nil,by simp,by simp,by simp,by simp⟩ ?_
 rintro n ⟨T,⟨x,H⟩⟩ ⟨i,o,v,rfl,hi,E,W,g0,g5,g7,g8⟩
 simp at E W g0 g5 g7 g8
 obtain⟨rfl,_⟩:=id W
 simp -implicitDefEqProofs[g0,g5,g7,g8]
 refine bB (fun hc=>?_) (fun hc=>?_)<;>simp only[decide_eq_true_eq,decide_eq_false_iff_not]at hc
 ·have w1:IntKind.wrap .i64 ((i:Int)+1)=((i+1:Nat):Int):=by rw[aA (by omega)];omega
  obtain⟨z,hz⟩:∃z,z=a+(i:Int):=⟨_,rfl⟩
  have w2:IntKind.wrap .i64 (a+(i:Int))=z:=by rw[aA (by omega),hz]
  have hA:=gx nX W z (by rw[qs];omega)
  simp only[ab,qs,Option.map_map]at hA
  have hr1:List.range 1=[0]:=rfl
  simp -implicitDefEqProofs[g0,g5,g7,g8,w1,w2,aI,hr1,hA,qs]
  refine⟨M-(i+1),by omega,i+1,some (H.n+1),.slice (some ⟨H.n+1,0,none⟩) (i+1) (i+1),rfl,by omega,gz E W _ _,?_,by simp[g0],by simp,by simp[g7],by simp⟩
  have:=Ow.one W E.n (.row true 3 [.int .i64 z]) z (cells:=(jF a i).flatMap ab++[.int .i64 z]) rfl
  rw[qs]at this
  rw[alH,←hz]
  simpa using this
 ·have e:i=M:=by omega
  subst e
  simp -implicitDefEqProofs[g0,g5,g7,g8]
  exact⟨E,W.own⟩
def nO (h:aa) (r:Option (List Int)) (v:Value) (h':aa):Prop:=Ext h h'∧match r with
 |some l=>∃s,aF 3 ab h' s l∧v= .tuple #[s,.bool true]
 |none=>v= .tuple #[.slice none 0 0,.bool false]
theorem apn (v:ah) (Mv:fK v) (cs:List Value) (uv:Value) (us:List Bool) (hu:us.length≤1073741824) (a:Int) (ha: -4611686018427387904≤a∧a≤4611686018427387904) (size:Int) (hz:size≤1048576) (h:aa) (H:bF h v cs) (hus:uA h uv us):
  ai PP 245 [.agg ⟨cs⟩,uv,.int .i64 a,.int .i64 size] h (nO h (lQ v us a size)):=by
 refine az mix ach Wv rfl (by show 4≤31;decide) aju ?_
 simp only[w6,Tryz.f245]
 have hlong:=fun M hM=>afC v Mv cs uv us hu a ha M hM h H hus
 obtain⟨s,k,p,rfl,h1,h2,h3⟩:=H
 obtain⟨ad1,c1,e1⟩:=h1.shape
 obtain⟨ad2,c2,e2⟩:=h2.shape
 obtain⟨ad3,c3,e3⟩:=h3.shape
 subst e1;subst e2;subst e3
 obtain⟨ad4,c4,rfl⟩:=hus.shape
 unfold lQ nO
 by_cases q1:size<1
 ·simp -implicitDefEqProofs[q1]
  exact Ext.bu h
 by_cases q2:(v.af.length:Int)<size
 ·simp -implicitDefEqProofs[q1,q2]
  exact Ext.bu h
 obtain⟨M,rfl⟩:∃M:Nat,size=M:=⟨size.toNat,by omega⟩
 simp -implicitDefEqProofs[q1,q2]
 refine(hlong M (by omega)).mono ?_
 rintro r h' ⟨e,rfl⟩
 replace e:=e.symm
 subst e
 simp -implicitDefEqProofs[ae]
 intro _
 by_cases q3:iI v us a M 0<M
 ·simp -implicitDefEqProofs[q3]
  exact Ext.bu h
 ·simp -implicitDefEqProofs[q3]
  refine(alG a ha M (by omega) h).mono ?_
  rintro r h' ⟨E,S⟩
  obtain⟨ad,c,rfl⟩:=S.shape
  simp -implicitDefEqProofs[ae]
  intro _
  exact⟨E,S⟩
theorem afB {v:ah} {us:List Bool} {a:Int}:∀(m n:Nat),(0<n→0≤a∧a+n≤v.af.length)→0<iI v us a m n→0≤a∧a+(iI v us a m n:Nat)≤v.af.length:=by
 intro m
 induction m with
 |zero=>intro n h q;exact h q
 |succ m ih=>
  intro n h q
  rw[iI]at q ⊢
  split
  ·rename_i hc
   rw[if_pos hc]at q
   refine ih (n+1) (fun _=>?_) q
   rw[Bool.and_eq_true]at hc
   have hf:=hc.1
   unfold mS at hf
   simp at hf
   rcases Nat.eq_zero_or_pos n with e|e
   ·subst e;omega
   ·have:=h e;omega
  ·rename_i hc
   rw[if_neg hc]at q
   exact h q
theorem ud {v:ah} {us:List Bool} {a size:Int} {l:List Int} (h:lQ v us a size=some l):l=jF a size.toNat∧1≤size∧0≤a∧a+size≤v.af.length:=by
 unfold lQ at h
 split at h
 ·cases h
 ·rename_i hc
  obtain rfl:=Option.some.inj h
  have:=afB (v:=v) (us:=us) (a:=a) size.toNat 0 (by omega) (by omega)
  refine⟨rfl,by omega,this.1,?_⟩
  have hc3:¬(iI v us a size.toNat 0:Int)<size:=fun q=>hc (.inr (.inr q))
  omega
theorem Pz {a:Int} {n:Nat} {x:Int} (h:x∈jF a n):a≤x∧x<a+n:=by
 unfold jF at h
 obtain⟨k,hk,rfl⟩:=List.mem_map.1 h
 rw[List.mem_range]at hk
 omega
theorem afd (v:ah) (vc:List Value) (uv lv:Value) (l:List Int) (hin:∀x∈l,0≤x∧x<v.af.length) (hl:l.length≤1073741824) (k:Int) (h:aa) (H:bF h v vc) (hs:aZ h lv l) (bl bh:Nat) {w1 w2:Bool}
  (hbl:h.f bl= .row w1 22 [lv]) (hbh:h.f bh= .row w2 239 (vc++[uv])):ai PP 286 [.int .i64 k,.pointer (some ⟨bl,0,none⟩),.pointer (some ⟨bh,0,none⟩)] h (fun r h'=>h'=h∧r= .int .i64 (ic v l k)):=by
 refine az mix acB WO rfl (by show 3≤23;decide) ajM ?_
 simp only[xp,Tryz.f286]
 obtain⟨s,kk,p,rfl,h1,h2,h3⟩:=H
 obtain⟨ad1,c1,e1⟩:=h1.shape
 subst e1
 obtain⟨ad4,c4,rfl⟩:=hs.shape
 unfold ic
 by_cases q1:k<0
 ·simp -implicitDefEqProofs[q1]
 by_cases q2:(l.length:Int)≤k
 ·simp -implicitDefEqProofs[q1,q2,hbl]
 obtain⟨i,rfl⟩:∃i:Nat,k=i:=⟨k.toNat,by omega⟩
 have hil:i<l.length:=by omega
 have hti:l[i]? =some l[i]:=List.getElem?_eq_getElem hil
 obtain⟨_,b,o,wb,cells,r,rfl,hb,hd,hlc,_⟩:=hs.at 1 V.cY hti
 rw[Nat.mul_one]at hd
 have hlc':o+i+1≤cells.length:=by omega
 have hgd:l.getD i 0=l[i]:=by rw[List.getD_eq_getElem?_getD,hti];rfl
 have hx:=hin l[i] (List.getElem_mem hil)
 obtain⟨x,hxe⟩:∃x,x=l[i]:=⟨_,rfl⟩
 rw[←hxe]at hx hgd hd
 obtain⟨j,rfl⟩:∃j:Nat,x=j:=⟨x.toNat,by omega⟩
 have hjl:j<v.af.length:=by omega
 obtain⟨t,ht⟩:∃t,t=gj v j:=⟨_,rfl⟩
 have hsj:=qA hjl
 rw[←ht]at hsj
 obtain⟨_,b',o',wb',cells',r',rfl,hb',hd',hlc2,_⟩:=h1.at 4 V.eM hsj
 have hd3:cells'.drop (o'+j*4+3)= .int .i64 t.kind::r':=by rw[←List.drop_drop,hd'];rfl
 have l3:o'+j*4+3+1≤cells'.length:=by omega
 simp -implicitDefEqProofs[q1,q2,hbl,hbh,hil,hb,hd,hlc',ab,hjl,hb',hd3,l3,hgd]
 rw[←hxe,Int.toNat_natCast,←ht]
def c1 (v:ah) (l:List Int) (x:Int) (i:Nat):Nat:=((List.range i).filter fun k:Nat=>decide (ic v l k=x)).length
theorem BR (v:ah) (l:List Int) (x:Int) (i:Nat):c1 v l x (i+1)=if ic v l i=x then c1 v l x i+1 else c1 v l x i:=by
 unfold c1
 rw[List.range_succ,List.filter_append,List.length_append]
 by_cases h:ic v l i=x
 ·simp[h]
 ·simp[h]
theorem BQ (v:ah) (l:List Int) (x:Int) (i:Nat):c1 v l x i≤i:=by
 unfold c1
 have:=List.length_filter_le (fun k:Nat=>decide (ic v l k=x)) (List.range i)
 simpa using this
def kf (v:ah) (l:List Int) (k:Nat):Bool:=decide (ic v l k≠1) || (decide (ic v l ((k:Int)-1)=2) || decide (ic v l ((k:Int)+1)=2))
theorem Of (v:ah) (l:List Int) (cL:Int):oy v l cL=((List.range l.length).all (kf v l)&&(!(decide (cL=0)&&decide (0<c1 v l 2 l.length))&&decide ((c1 v l 1 l.length:Int)=cL))):=rfl
def AS (v:ah) (l:List Int) (cL:Int) (fv:Value) (H:aa) (m:Nat) (n:Nat) (σ:St):Prop:=∃i:Nat,n=m-i∧i≤m∧σ.m.h=H∧(List.range i).all (kf v l)=true∧σ.t.get 2=some (.int .i64 cL)∧σ.t.get 7=some fv∧σ.t.get 8=some (.int .i64 (c1 v l 1 i:Nat))∧σ.t.get 9=some (.int .i64 (c1 v l 2 i:Nat))∧
 σ.t.get 13=some (.int .i64 (m:Nat))∧σ.t.get 14=some (.int .i64 (i:Nat))
theorem afi (v:ah) (vc:List Value) (uv lv:Value) (hnu:bL uv=true) (l:List Int) (hin:∀x∈l,0≤x∧x<v.af.length) (hl:l.length≤1048576) (cL:Int) (h:aa) (H:bF h v vc) (hs:aZ h lv l):
  ai PP 246 [.agg ⟨vc++[uv]⟩,lv,.int .i64 cL] h (fun r h'=>Ext h h'∧r= .bool (oy v l cL)):=by
 refine az mix aci Ww rfl (by show 3≤52;decide) ajv ?_
 simp only[w7,Tryz.f246]
 obtain⟨C,hC⟩:∃C,C=vc++[uv]:=⟨_,rfl⟩
 have hCl:C.length=6:=by obtain⟨s,kk,p,rfl,_⟩:=H;rw[hC];rfl
 obtain⟨ad4,c4,rfl⟩:=hs.shape
 obtain⟨m,hm⟩:∃m,m=l.length:=⟨_,rfl⟩
 obtain⟨G,hG⟩:∃G,G=(h.new (.row true 239 C)).new (.row true 22 [.slice ad4 l.length c4]):=⟨_,rfl⟩
 have E:Ext h G:=by rw[hG];exact(Ext.new _ _).bA _
 have k1:=fun k=>afd v vc uv (.slice ad4 l.length c4) l hin (by omega) k G (V.bF.ext H E) (hs.ext E) (h.n+1) h.n (w1:=true) (w2:=true) (by rw[hG];simp) (by rw[hG,←hC];simp)
 rw[←hC]
 have hfl:∀i,kf v l i=false→i<m→oy v l cL=false:=fun i hi him=>by
  rw[Of,V.all_false (by omega) hi];rfl
 simp -implicitDefEqProofs[hCl]
 rw[←hG]
 refine bD (AS v l cL (.func (.func 286) #[] #[.pointer (some ⟨h.n+1,0,none⟩),.pointer (some ⟨h.n,0,none⟩)]) G m) m ⟨0,by omega,by omega,by simp,rfl,by simp,by simp,by simp[c1],by simp[c1],by simp[hm],by simp⟩ ?_
 rintro n ⟨T,⟨x,G2⟩⟩ ⟨i,rfl,hi,e,aL,g2,g7,g8,g9,g13,g14⟩
 simp at e g2 g7 g8 g9 g13 g14
 subst e
 simp -implicitDefEqProofs[g2,g7,g8,g9,g13,g14]
 refine bB (fun hc=>?_) (fun hc=>?_)<;>simp only[decide_eq_true_eq,decide_eq_false_iff_not]at hc
 ·have him:i<m:=by omega
  have w1:IntKind.wrap .i64 ((i:Int)+1)=((i+1:Nat):Int):=by rw[aA (by omega)];omega
  have w1':IntKind.wrap .i64 ((i:Int)+1)=(i:Int)+1:=aA (by omega)
  have w2:IntKind.wrap .i64 ((i:Int)-1)=(i:Int)-1:=aA (by omega)
  have l1:=BQ v l 1 i
  have l2:=BQ v l 2 i
  have w3:IntKind.wrap .i64 ((c1 v l 1 i:Int)+1)=((c1 v l 1 i+1:Nat):Int):=by rw[aA (by omega)];omega
  have w4:IntKind.wrap .i64 ((c1 v l 2 i:Int)+1)=((c1 v l 2 i+1:Nat):Int):=by rw[aA (by omega)];omega
  have s1:=BR v l 1 i
  have s2:=BR v l 2 i
  simp -implicitDefEqProofs[g2,g7,g8,g9,g13,g14]
  refine(k1 i).mono ?_
  rintro r h' ⟨rfl,rfl⟩
  simp -implicitDefEqProofs[ae]
  intro _
  obtain⟨kk,hkk⟩:∃kk,kk=ic v l i:=⟨_,rfl⟩
  rw[←hkk]at s1 s2 ⊢
  by_cases q1:kk=1
  ·rw[if_pos q1]at s1
   rw[if_neg (by omega)]at s2
   simp -implicitDefEqProofs[g2,g7,g8,g9,g13,g14,q1,w2,w3]
   refine(k1 ((i:Int)-1)).mono ?_
   rintro r h' ⟨e,rfl⟩
   replace e:=e.symm
   subst e
   simp -implicitDefEqProofs[ae]
   intro _
   have fin:kf v l i=true→mz (fun σ'=>∃j,j<m-i∧AS v l cL (.func (.func 286) #[] #[.pointer (some ⟨h.n+1,0,none⟩),.pointer (some ⟨h.n,0,none⟩)]) h' m j σ') (sL PP Tryz.f246.results.toList (fun r h'=>Ext h h'∧r= .bool (oy v l cL))) .normal ⟨T,⟨x,h'⟩⟩∨True:=fun _=>.inr trivial
   by_cases q2:ic v l ((i:Int)-1)=2
   ·have hok:kf v l i=true:=by unfold kf;simp[q2]
    simp -implicitDefEqProofs[g2,g7,g8,g9,g13,g14,q2,w1,w3]
    exact⟨m-(i+1),by omega,i+1,rfl,by omega,rfl,V.all_succ aL hok,by simp[g2],by simp[g7],by simp[s1,w3],by simp[g9,s2],by simp[g13],by simp⟩
   ·simp -implicitDefEqProofs[g2,g7,g8,g9,g13,g14,q2,w1',w3]
    refine(k1 ((i:Int)+1)).mono ?_
    rintro r h'' ⟨e,rfl⟩
    replace e:=e.symm
    subst e
    simp -implicitDefEqProofs[ae]
    intro _
    by_cases q3:ic v l ((i:Int)+1)=2
    ·have hok:kf v l i=true:=by unfold kf;simp[q3]
     simp -implicitDefEqProofs[g2,g7,g8,g9,g13,g14,q3,w1,w3]
     exact⟨m-(i+1),by omega,i+1,rfl,by omega,rfl,V.all_succ aL hok,by simp[g2],by simp[g7],by simp[s1,w3],by simp[g9,s2],by simp[g13],by simp⟩
    ·have hok:kf v l i=false:=by unfold kf;rw[←hkk,q1];simp[q2,q3]
     have hf:=hfl i hok him
     simp -implicitDefEqProofs[q3,hf]
     exact E
  ·rw[if_neg q1]at s1
   have hok:kf v l i=true:=by unfold kf;rw[←hkk];simp[q1]
   by_cases q2:kk=2
   ·rw[if_pos q2]at s2
    simp -implicitDefEqProofs[g2,g7,g8,g9,g13,g14,q1,q2,w1,w4]
    exact⟨m-(i+1),by omega,i+1,rfl,by omega,rfl,V.all_succ aL hok,by simp[g2],by simp[g7],by simp[g8,s1],by simp[s2,w4],by simp[g13],by simp⟩
   ·rw[if_neg q2]at s2
    simp -implicitDefEqProofs[g2,g7,g8,g9,g13,g14,q1,q2,w1]
    exact⟨m-(i+1),by omega,i+1,rfl,by omega,rfl,V.all_succ aL hok,by simp[g2],by simp[g7],by simp[g8,s1],by simp[g9,s2],by simp[g13],by simp⟩
 ·have e:i=m:=by omega
  subst e
  have he:oy v l cL=(!(decide (cL=0)&&decide (0<c1 v l 2 i))&&decide ((c1 v l 1 i:Int)=cL)):=by
   rw[Of,←hm,aL,Bool.true_and]
  rw[he]
  obtain⟨A,hA⟩:∃A,A=c1 v l 1 i:=⟨_,rfl⟩
  obtain⟨Bc,hB⟩:∃B,B=c1 v l 2 i:=⟨_,rfl⟩
  rw[←hA]at g8 ⊢
  rw[←hB]at g9 ⊢
  by_cases q1:cL=0
  ·by_cases q2:0<Bc
   ·have q2':(0:Int)<(Bc:Int):=by omega
    simp -implicitDefEqProofs[g2,g7,g8,g9,g13,g14,q1,q2,q2']
    exact E
   ·have q2':¬(0:Int)<(Bc:Int):=by omega
    subst q1
    by_cases q3:A=0
    ·simp -implicitDefEqProofs[g2,g7,g8,g9,g13,g14,q2,q2',q3]
     exact E
    ·simp -implicitDefEqProofs[g2,g7,g8,g9,g13,g14,q2,q2',q3]
     exact E
  ·by_cases q3:(A:Int)=cL
   ·simp -implicitDefEqProofs[g2,g7,g8,g9,g13,g14,q1,q3]
    exact E
   ·simp -implicitDefEqProofs[g2,g7,g8,g9,g13,g14,q1,q3]
    exact E
def fJ (h:aa) (v:ah) (us:List Bool) (cs:List Value):Prop:=∃vc uv,cs=vc++[uv]∧dJ h v vc∧aF 4 dq h uv us
theorem fJ.ext {h h':aa} {v:ah} {us:List Bool} {cs:List Value} (H:fJ h v us cs) (E:Ext h h'):fJ h' v us cs:=by
 obtain⟨vc,uv,rfl,h1,h2⟩:=H
 exact⟨vc,uv,rfl,h1.ext E,h2.ext E⟩
theorem fJ.dt {h h':aa} {v:ah} {us:List Bool} {cs:List Value} (H:fJ h v us cs) {S:List Nat} (C:b8 S h h') (hs:eZ S h):fJ h' v us cs:=by
 obtain⟨vc,uv,rfl,h1,h2⟩:=H
 exact⟨vc,uv,rfl,h1.dt C hs,h2.dt C hs⟩
theorem fJ.wk {h h':aa} {v:ah} {us:List Bool} {cs:List Value} (H:fJ h v us cs) (W:Wk h h'):fJ h' v us cs:=by
 obtain⟨vc,uv,rfl,h1,h2⟩:=H
 exact⟨vc,uv,rfl,h1.wk W,h2.wk W⟩
structure po (v:ah) (us:List Bool):Prop where
 may:fK v
 us:us.length≤1073741824
theorem sW (v:ah) (us:List Bool) (M:po v us) (cs:List Value) (p:aU) (a:Int) (ha: -4611686018427387904≤a∧a≤4611686018427387904) (h:aa) (H:fJ h v us cs):
  ai PP 205 [.agg ⟨cs⟩,dD p,.int .i64 a] h (nO h (cD v us p a)):=by
 refine az mix abT V6 rfl (by show 3≤35;decide) ai7 ?_
 simp only[wA,Tryz.f205]
 obtain⟨vc,uv,rfl,hv,hu⟩:=H
 have hmay:=j7 p h
 have htake:=fun size hz=>apn v M.may vc uv us M.us a ha size hz h hv.cK hu.sl
 have hnu:bL uv=true:=by obtain⟨ad,c,rfl⟩:=hu.shape;rfl
 have hkinds:=fun lv l hin hl h' E hs=>afi v vc uv lv hnu l hin hl p.cL h' (hv.ext E).cK hs
 obtain⟨s,k,pp,rfl,h1,h2,h3⟩:=hv
 obtain⟨ad1,c1,e1⟩:=h1.shape
 obtain⟨ad2,c2,e2⟩:=h2.shape
 obtain⟨ad3,c3,e3⟩:=h3.shape
 obtain⟨ad4,c4,e4⟩:=hu.shape
 subst e1;subst e2;subst e3;subst e4
 simp only[dD,ag,List.cons_append,List.nil_append]at hmay hkinds
 unfold cD nO
 simp -implicitDefEqProofs[dD,ag]
 refine hmay.mono ?_
 rintro r h' ⟨e,rfl⟩
 replace e:=e.symm
 subst e
 simp -implicitDefEqProofs[ae]
 intro _
 by_cases q1:dM p=true
 ·have hsz:p.size≤8:=by unfold dM at q1;simp at q1;omega
  simp -implicitDefEqProofs[q1]
  refine(htake p.size (by omega)).mono ?_
  rintro r h' ⟨E,R⟩
  cases q2:lQ v us a p.size with
  |none=>
   rw[q2]at R
   subst R
   simp -implicitDefEqProofs[ae]
   intro _
   exact E
  |some l=>
   rw[q2]at R
   obtain⟨s,S,rfl⟩:=R
   obtain⟨ad5,c5,rfl⟩:=S.shape
   obtain⟨el,t1,t2,t3⟩:=ud q2
   have hll:l.length≤1048576:=by rw[el,qs];omega
   simp -implicitDefEqProofs[ae]
   intro _
   refine(hkinds _ l (fun x hx=>by rw[el]at hx;have:=Pz hx;omega) hll h' E S.sl).mono ?_
   rintro r h'' ⟨E2,rfl⟩
   by_cases q3:oy v l p.cL=true
   ·simp -implicitDefEqProofs[ae,q3]
    intro _
    exact⟨E.trans E2,S.ext E2⟩
   ·simp -implicitDefEqProofs[ae,q3]
    intro _
    exact E.trans E2
 ·simp -implicitDefEqProofs[q1]
  exact Ext.bu h
def Ss (h:aa) (v:ah) (us:List Bool) (cs:List Value) (p:aU) (m n:Nat) (σ:St):Prop:=∃(i:Nat) (o:Option Nat) (w:Value),n=m-i∧i≤m∧Ext h σ.m.h∧Ow 3 ab h σ.m.h o (((List.range i).filter fun k:Nat=>(cD v us p k).isSome).map fun k:Nat=>(k:Int)) w∧
 σ.t.get 2=some (.pointer (some ⟨2,0,some 0⟩))∧σ.t.get 3=some (.pointer (some ⟨3,0,some 0⟩))∧σ.t.get 5=some w∧σ.t.get 12=some (.int .i64 (m:Nat))∧σ.t.get 13=some (.int .i64 (i:Nat))∧σ.m.x.look 2=some (239,cs)∧σ.m.x.look 3=some (29,ag p)
theorem aek (v:ah) (us:List Bool) (M:po v us) (cs:List Value) (p:aU) (h:aa) (H:fJ h v us cs):
  ai PP 247 [.agg ⟨cs⟩,dD p] h (fun r h'=>Ext h h'∧aF 3 ab h' r (fB v us p)):=by
 refine ai.gK (post:=fun v' h'=>Ext h h'∧bS 3 ab h h' v' (fB v us p)) ?_ (fun v h' ⟨E,W⟩=>by
  obtain⟨h'',w,E',S⟩:=W.cG E
  exact⟨h'',w,E',S⟩)
 refine az mix acj Wx rfl (by show 2≤30;decide) ajw ?_
 simp only[w8,Tryz.f247]
 have hse:=fun(a:Int) ha h' E=>sW v us M cs p a ha h' (H.ext E)
 have hlen:=M.may.len
 obtain⟨vc,uv,rfl,hv,hu⟩:=H
 obtain⟨s,k,pp,rfl,h1,h2,h3⟩:=hv
 obtain⟨ad1,c1,e1⟩:=h1.shape
 obtain⟨ad2,c2,e2⟩:=h2.shape
 obtain⟨ad3,c3,e3⟩:=h3.shape
 obtain⟨ad4,c4,e4⟩:=hu.shape
 subst e1;subst e2;subst e3;subst e4
 obtain⟨C,hC⟩:∃C,C=[Value.slice ad1 v.af.length c1,.int .i64 v.aV,.int .i64 v.bg,.slice ad2 v.aD.length c2,.slice ad3 v.aE.length c3]++[Value.slice ad4 us.length c4]:=⟨_,rfl⟩
 rw[←hC]at hse
 have hCl:C.length=6:=by rw[hC];rfl
 have hCt:C.take 6=C:=List.take_of_length_le (by omega)
 simp only[dD,ag]at hse
 simp -implicitDefEqProofs[dD,ag]
 refine bD (Ss h v us C p v.af.length) _ ⟨0,none,_,rfl,by omega,Ext.bu h,Ow.nil,by simp,by simp,by simp,by simp,by simp,by simp[hC],by simp[ag]⟩ ?_
 rintro n ⟨T,⟨x,G⟩⟩ ⟨i,o,w,rfl,hi,E,W,g2,g3,g5,g12,g13,x2,x3⟩
 simp at E W g2 g3 g5 g12 g13 x2 x3
 have hwn:bL w=true:=by rw[W.1];rfl
 simp only[bL,fO,Option.isNone_iff_eq_none]at hwn
 simp -implicitDefEqProofs[g2,g3,g5,g12,g13,x2,x3]
 refine bB (fun hc=>?_) (fun hc=>?_)<;>simp only[decide_eq_true_eq,decide_eq_false_iff_not]at hc
 ·have w1:IntKind.wrap .i64 ((i:Int)+1)=((i+1:Nat):Int):=by rw[aA (by omega)];omega
  have hfl:(((List.range i).filter fun k:Nat=>(cD v us p k).isSome).map fun k:Nat=>(k:Int)).length≤i:=by
   rw[List.length_map]
   have:=List.length_filter_le (fun k:Nat=>(cD v us p k).isSome) (List.range i)
   simpa using this
  obtain⟨acc,hacc⟩:∃acc,acc=(((List.range i).filter fun k:Nat=>(cD v us p k).isSome).map fun k:Nat=>(k:Int)):=⟨_,rfl⟩
  have hnx:(((List.range (i+1)).filter fun k:Nat=>(cD v us p k).isSome).map fun k:Nat=>(k:Int))=if(cD v us p i).isSome then acc++[(i:Int)]else acc:=by
   rw[List.range_succ,List.filter_append,List.map_append,←hacc]
   by_cases q:(cD v us p i).isSome=true
   ·simp[q]
   ·simp[q]
  rw[←hacc]at W hfl
  obtain⟨rfl,_⟩:=id W
  simp -implicitDefEqProofs[g2,g3,g5,g12,g13,x2,x3,hCl,hCt,ag]
  refine(hse i (by omega) G E).mono ?_
  rintro r h' ⟨E2,R⟩
  have W2:=W.ext E2
  cases q2:cD v us p i with
  |none=>
   rw[q2]at R
   subst R
   rw[q2]at hnx
   simp only[Option.isSome_none,Bool.false_eq_true,if_false]at hnx
   simp -implicitDefEqProofs[ae,g2,g3,g5,g12,g13,x2,x3,w1]
   intro _
   exact⟨v.af.length-(i+1),by omega,i+1,o,_,rfl,by omega,E.trans E2,by rw[hnx];exact W2,by simp,by simp,by simp,by simp,by simp,by simp[x2],by simp[x3,ag]⟩
  |some l=>
   rw[q2]at R hnx
   simp only[Option.isSome_some,if_true]at hnx
   obtain⟨s,S,rfl⟩:=R
   obtain⟨ad5,c5,rfl⟩:=S.shape
   have hA:=gx nX W2 (i:Int) (by omega)
   simp only[ab]at hA
   have hr1:List.range 1=[0]:=rfl
   simp -implicitDefEqProofs[ae,g2,g3,g5,g12,g13,x2,x3,w1,aI,hr1,hA]
   intro _
   refine⟨v.af.length-(i+1),by omega,i+1,some (h'.n+1),.slice (some ⟨h'.n+1,0,none⟩) (acc.length+1) (acc.length+1),rfl,by omega,gz (E.trans E2) W2 _ _,?_,by simp,by simp,by simp,by simp,by simp,by simp[x2],by simp[x3,ag]⟩
   rw[hnx]
   exact Ow.one W2 (E.trans E2).n _ (i:Int) rfl
 ·have e:i=v.af.length:=by omega
  subst e
  have hfin:bS 3 ab h G w (fB v us p):=W.own
  obtain⟨acc,hacc⟩:∃acc,acc=fB v us p:=⟨_,rfl⟩
  rw[←hacc]at hfin ⊢
  obtain⟨ad,rfl,_⟩:=id hfin
  simp -implicitDefEqProofs[g2,g3,g5,g12,g13,x2,x3]
  exact⟨E,hfin⟩
def qU (v:ah) (a b:Int) (i k:Nat):Bool:=decide (a+i≠b+k)&& !k9 (gj v (a+i).toNat) (gj v (b+k).toNat) v.bg
def Aj (v:ah) (a b:Int) (Q i:Nat):Bool:=(List.range Q).all (qU v a b i)
theorem UE (v:ah) (p:aU) (a:Int) (q:aU) (b:Int):dK v p a q b=(List.range p.size.toNat).all (Aj v a b q.size.toNat):=rfl
def Sp (h:aa) (v:ah) (cs:List Value) (p q:aU) (a b:Int) (n:Nat) (σ:St):Prop:=∃i:Nat,n=p.size.toNat-i∧i≤p.size.toNat∧Ext h σ.m.h∧(List.range i).all (Aj v a b q.size.toNat)=true∧
 σ.t.get 2=some (.int .i64 a)∧σ.t.get 4=some (.int .i64 b)∧σ.t.get 5=some (.pointer (some ⟨5,0,some 0⟩))∧σ.t.get 6=some (.pointer (some ⟨6,0,some 0⟩))∧σ.t.get 8=some (.pointer (some ⟨8,0,some 0⟩))∧σ.t.get 11=some (.int .i64 (a+(i:Int)))∧
 σ.m.x.look 5=some (239,cs)∧σ.m.x.look 6=some (29,ag p)∧σ.m.x.look 8=some (29,ag q)
def Sq (h:aa) (v:ah) (cs:List Value) (p q:aU) (a b:Int) (i:Nat) (n:Nat) (σ:St):Prop:=∃k:Nat,n=q.size.toNat-k∧k≤q.size.toNat∧Ext h σ.m.h∧(List.range k).all (qU v a b i)=true∧
 σ.t.get 2=some (.int .i64 a)∧σ.t.get 4=some (.int .i64 b)∧σ.t.get 5=some (.pointer (some ⟨5,0,some 0⟩))∧σ.t.get 6=some (.pointer (some ⟨6,0,some 0⟩))∧σ.t.get 8=some (.pointer (some ⟨8,0,some 0⟩))∧σ.t.get 11=some (.int .i64 (a+(i:Int)))∧σ.t.get 12=some (.int .i64 (b+(k:Int)))∧
 σ.m.x.look 5=some (239,cs)∧σ.m.x.look 6=some (29,ag p)∧σ.m.x.look 8=some (29,ag q)
theorem uQ (v:ah) (us:List Bool) (M:po v us) (cs:List Value) (p:aU) (a:Int) (q:aU) (b:Int) (ha:0≤a∧a+p.size≤v.af.length) (hb:0≤b∧b+q.size≤v.af.length) (hp:0≤p.size) (hq:0≤q.size) (h:aa) (H:fJ h v us cs):
  ai PP 222 [.agg ⟨cs⟩,dD p,.int .i64 a,dD q,.int .i64 b] h (fun r h'=>Ext h h'∧r= .bool (dK v p a q b)):=by
 refine az mix acb Wq rfl (by show 5≤52;decide) ajp ?_
 simp only[wU,Tryz.f222]
 have hlen:=M.may.len
 have hrad:=M.may.bg
 obtain⟨vc,uv,rfl,hv,hu⟩:=H
 obtain⟨s,k,pp,rfl,h1,h2,h3⟩:=hv
 obtain⟨ad1,c1,e1⟩:=h1.shape
 obtain⟨ad2,c2,e2⟩:=h2.shape
 obtain⟨ad3,c3,e3⟩:=h3.shape
 obtain⟨ad4,c4,e4⟩:=hu.shape
 subst e1;subst e2;subst e3;subst e4
 obtain⟨C,hC⟩:∃C,C=[Value.slice ad1 v.af.length c1,.int .i64 v.aV,.int .i64 v.bg,.slice ad2 v.aD.length c2,.slice ad3 v.aE.length c3]++[Value.slice ad4 us.length c4]:=⟨_,rfl⟩
 have hCl:C.length=6:=by rw[hC];rfl
 have hC0:C.take 1=[.slice ad1 v.af.length c1]:=by rw[hC];rfl
 have hC2:C.drop 2= .int .i64 v.bg::C.drop 3:=by rw[hC];rfl
 have w0:IntKind.wrap .i64 (a+p.size)=a+p.size:=aA (by omega)
 have w9:IntKind.wrap .i64 (b+q.size)=b+q.size:=aA (by omega)
 rw[UE]
 simp -implicitDefEqProofs[dD,ag]
 refine bD (Sp h v C p q a b) _ ⟨0,rfl,by omega,Ext.bu h,rfl,by simp,by simp,by simp,by simp,by simp,by simp,by simp[hC],by simp[ag],by simp[ag]⟩ ?_
 rintro n ⟨T,⟨x,G⟩⟩ ⟨i,rfl,hi,E,aL,g2,g4,g5,g6,g8,g11,x5,x6,x8⟩
 simp at E g2 g4 g5 g6 g8 g11 x5 x6 x8
 simp -implicitDefEqProofs[g2,g4,g5,g6,g8,g11,x5,x6,x8,ag,w0]
 refine bB (fun hc=>?_) (fun hc=>?_)<;>simp only[decide_eq_true_eq,decide_eq_false_iff_not]at hc
 ·have hip:i<p.size.toNat:=by omega
  simp -implicitDefEqProofs[g2,g4,g5,g6,g8,g11,x5,x6,x8,ag]
  refine bD (Sq h v C p q a b i) _ ⟨0,rfl,by omega,E,rfl,by simp,by simp,by simp,by simp,by simp,by simp,by simp,by simp[x5],by simp[x6,ag],by simp[x8,ag]⟩ ?_
  clear g2 g4 g5 g6 g8 g11 x5 x6 x8
  rintro n ⟨T,⟨x,G⟩⟩ ⟨k,rfl,hk,E,hall2,g2,g4,g5,g6,g8,g11,g12,x5,x6,x8⟩
  simp at E g2 g4 g5 g6 g8 g11 g12 x5 x6 x8
  simp -implicitDefEqProofs[g2,g4,g5,g6,g8,g11,g12,x5,x6,x8,ag,w9]
  refine bB (fun hc=>?_) (fun hc=>?_)<;>simp only[decide_eq_true_eq,decide_eq_false_iff_not]at hc
  ·have hkq:k<q.size.toNat:=by omega
   have fin:qU v a b i k=false→(List.range p.size.toNat).all (Aj v a b q.size.toNat)=false:=fun hf=>V.all_false hip (V.all_false hkq hf)
   obtain⟨A,hA⟩:∃A:Nat,a+(i:Int)=A:=⟨(a+i).toNat,by omega⟩
   obtain⟨Bn,hB⟩:∃Bn:Nat,b+(k:Int)=Bn:=⟨(b+k).toNat,by omega⟩
   have hAl:A<v.af.length:=by omega
   have hBl:Bn<v.af.length:=by omega
   have hcell:qU v a b i k=(decide (A≠Bn)&& !k9 (gj v A) (gj v Bn) v.bg):=by
    unfold qU;rw[hA,hB,Int.toNat_natCast,Int.toNat_natCast]
    have e:decide ((A:Int)≠(Bn:Int))=decide (A≠Bn):=by rw[decide_eq_decide];omega
    rw[e]
   have w1:IntKind.wrap .i64 ((Bn:Int)+1)=b+((k+1:Nat):Int):=by rw[aA (by omega)];omega
   rw[hA]at g11
   rw[hB]at g12
   rw[hA,hB]
   by_cases q1:A=Bn
   ·have hf:=fin (by rw[hcell];simp[q1])
    have q1':(A:Int)=(Bn:Int):=by omega
    simp -implicitDefEqProofs[g2,g4,g5,g6,g8,g11,g12,x5,x6,x8,ag,q1,q1',hf]
    exact E
   ·have q1':¬(A:Int)=(Bn:Int):=by omega
    have hs0:=qA hAl
    have hs1:=qA hBl
    obtain⟨t,ht⟩:∃t,t=gj v A:=⟨_,rfl⟩
    obtain⟨u,hu⟩:∃u,u=gj v Bn:=⟨_,rfl⟩
    rw[←ht]at hs0
    rw[←hu]at hs1
    obtain⟨_,bb,o,cells,r,rfl,bq,hd,hlc,_⟩:=(h1.ext E).at 4 V.eM hs0
    obtain⟨_,b',o',cells',r',e,hb',hd',hlc',_⟩:=(h1.ext E).at 4 V.eM hs1
    simp only[Option.some.injEq,Addr.mk.injEq,and_true]at e
    obtain⟨rfl,rfl⟩:=e
    rw[bq]at hb'
    simp only[aO.row.injEq,true_and]at hb'
    obtain rfl:=hb'
    have k0:(cells.drop (o+A*4)).take 4=al t:=by rw[hd];rfl
    have k1:(cells.drop (o+Bn*4)).take 4=al u:=by rw[hd'];rfl
    simp only[al]at k0 k1
    have hcl:=FJ t u v.bg (by omega) G
    simp only[aX,al]at hcl
    simp -implicitDefEqProofs[g2,g4,g5,g6,g8,g11,g12,x5,x6,x8,ag,q1,q1',hC0,hC2,hCl,hAl,hBl,bq,k0,k1,hlc,hlc']
    refine hcl.mono ?_
    rintro r h' ⟨E2,rfl⟩
    by_cases q2:k9 t u v.bg=true
    ·have hf:=fin (by rw[hcell,←ht,←hu,q2];simp)
     simp -implicitDefEqProofs[ae,q2,hf]
     intro _
     exact E.trans E2
    ·simp -implicitDefEqProofs[ae,q2,g2,g4,g5,g6,g8,g11,g12,x5,x6,x8,ag,w1]
     intro _
     exact⟨q.size.toNat-(k+1),by omega,k+1,rfl,by omega,E.trans E2,V.all_succ hall2 (by rw[hcell,←ht,←hu];simp[q1,q2]),by simp,by simp,by simp,by simp,by simp,by simp[hA],by simp,by simp[x5],by simp[x6,ag],by simp[x8,ag]⟩
  ·have e:k=q.size.toNat:=by omega
   subst e
   have w1:IntKind.wrap .i64 (a+(i:Int)+1)=a+((i+1:Nat):Int):=by rw[aA (by omega)];omega
   simp -implicitDefEqProofs[g2,g4,g5,g6,g8,g11,g12,x5,x6,x8,ag,w1]
   exact⟨p.size.toNat-(i+1),by omega,i+1,rfl,by omega,E,V.all_succ aL hall2,by simp,by simp,by simp,by simp,by simp,by simp,by simp[x5],by simp[x6,ag],by simp[x8,ag]⟩
 ·have e:i=p.size.toNat:=by omega
  subst e
  simp -implicitDefEqProofs[g2,g4,g5,g6,g8,g11,x5,x6,x8,ag,aL]
  exact E
def iW (x:Int):List Int→Nat→Int
 |[],_=>-1
 |a::r,i=>if x=a then(i:Int)else iW x r (i+1)
def Sn (s:Value) (l:List Int) (x:Int) (h:aa) (m n:Nat) (σ:St):Prop:=∃i:Nat,n=m-i∧i≤m∧σ.m.h=h∧σ.t.get 0=some s∧σ.t.get 1=some (.int .i64 x)∧σ.t.get 7=some (.int .i64 (m:Nat))∧σ.t.get 8=some (.int .i64 (i:Nat))∧iW x l 0=iW x (l.drop i) i
theorem aeB (s:Value) (l:List Int) (x:Int) (hl:l.length≤1073741824) (h:aa) (hs:aZ h s l):ai PP 218 [s,.int .i64 x] h (fun v h'=>h'=h∧v= .int .i64 (iW x l 0)):=by
 refine az mix Kv By rfl (by show 2≤19;decide) Pc ?_
 simp only[sA,Tryz.f218]
 obtain⟨ad,c,rfl⟩:=hs.shape
 obtain⟨m,hm⟩:∃m,m=l.length:=⟨_,rfl⟩
 rw[←hm]at hs ⊢
 simp -implicitDefEqProofs
 refine bD (Sn (.slice ad m c) l x h m) _ ⟨0,rfl,by omega,rfl,by simp,by simp,by simp,by simp,rfl⟩ ?_
 rintro n ⟨T,⟨y,H⟩⟩ ⟨i,rfl,hi,hH,g0,g1,g7,g8,hq⟩
 simp at hH g0 g1 g7 g8
 subst hH
 simp -implicitDefEqProofs[g0,g1,g7,g8]
 refine bB (fun hc=>?_) (fun hc=>?_)<;>simp only[decide_eq_true_eq,decide_eq_false_iff_not]at hc
 ·have hil:i<m:=by omega
  have hti:l[i]? =some l[i]:=List.getElem?_eq_getElem (by omega)
  obtain⟨_,b,o,wb,cs,r,rfl,hb,hd,hlc,_⟩:=hs.at 1 V.cY hti
  obtain⟨t,ht⟩:∃t,t=l[i]:=⟨_,rfl⟩
  rw[←ht]at hd hti
  have w1:IntKind.wrap .i64 ((i:Int)+1)=((i+1:Nat):Int):=by rw[aA (by omega)];omega
  have hlc':o+i+1≤cs.length:=by omega
  have hdr:l.drop i=t::l.drop (i+1):=by rw[ht];exact List.drop_eq_getElem_cons (by omega)
  rw[Nat.mul_one]at hd
  by_cases h1:x=t
  ·have hp:iW x l 0=(i:Int):=by rw[hq,hdr,iW,if_pos h1]
   simp -implicitDefEqProofs[g0,g1,g7,g8,hil,hb,hd,hlc',ab,h1]
   rw[←h1,hp]
  ·have hp:iW x l 0=iW x (l.drop (i+1)) (i+1):=by rw[hq,hdr,iW,if_neg h1]
   simp -implicitDefEqProofs[g0,g1,g7,g8,hil,hb,hd,hlc',ab,h1,w1]
   exact⟨m-(i+1),by omega,i+1,rfl,by omega,rfl,by simp[g0],by simp[g1],by simp[g7],by simp,hp⟩
 ·have hp:iW x l 0= -1:=by rw[hq,List.drop_of_length_le (by omega)];rfl
  simp -implicitDefEqProofs[g0,g1,g7,g8,hp]
theorem aev (x:Int) (l:List Int) (i:Nat):0≤iW x l i↔x∈l:=by
 induction l generalizing i with
 |nil=>simp[iW]
 |cons a r ih=>
  rw[iW]
  split
  ·rename_i h;simp[h]
  ·rename_i h;rw[ih,List.mem_cons];simp[h]
theorem FX (s:Value) (l:List Int) (x:Int) (hl:l.length≤1073741824) (h:aa) (hs:aZ h s l):ai PP 162 [s,.int .i64 x] h (fun v h'=>h'=h∧v= .bool (decide (x∈l))):=by
 refine az mix Ks Bv rfl (by show 2≤9;decide) O9 ?_
 simp only[sw,Tryz.f162]
 obtain⟨ad,c,rfl⟩:=hs.shape
 simp -implicitDefEqProofs
 refine(aeB _ l x hl h hs).mono ?_
 rintro v h' ⟨rfl,rfl⟩
 have e:decide (x∈l)=decide (0≤iW x l 0):=by rw[decide_eq_decide,aev]
 simp -implicitDefEqProofs[ae,e]
def pN (v:ah) (s k:Nat):Bool:=match v.aE[k]? with
 |some p=>k9 (gj v s) ⟨0,p.x,p.y,0⟩ p.r
 |none=>false
def pX (v:ah) (s:Nat):List Int:=if v.aD.contains (s:Int)then[-1]else[]
def iP (v:ah) (s i:Nat):List Int:=pX v s++((List.range i).filter (pN v s)).map fun k:Nat=>(k:Int)
theorem Yp (v:ah) (s:Nat):pJ v s=iP v s v.aE.length:=rfl
theorem Yr (v:ah) (s i:Nat):iP v s (i+1)=if pN v s i=true then iP v s i++[(i:Int)]else iP v s i:=by
 unfold iP
 rw[List.range_succ,List.filter_append,List.map_append,←List.append_assoc]
 by_cases q:pN v s i=true
 ·simp[q]
 ·simp[q]
theorem Yq (v:ah) (s i:Nat):(iP v s i).length≤i+1:=by
 unfold iP
 rw[List.length_append,List.length_map]
 have:=List.length_filter_le (pN v s) (List.range i)
 rw[List.length_range]at this
 have h2:(pX v s).length≤1:=by unfold pX;split<;>simp
 omega
def Sm (h:aa) (v:ah) (cs:List Value) (s:Nat) (pv:Value) (m n:Nat) (σ:St):Prop:=∃(i:Nat) (o:Option Nat) (w:Value),n=m-i∧i≤m∧Ext h σ.m.h∧Ow 3 ab h σ.m.h o (iP v s i) w∧
 σ.t.get 1=some (.int .i64 (s:Nat))∧σ.t.get 2=some (.pointer (some ⟨2,0,some 0⟩))∧σ.t.get 5=some w∧σ.t.get 16=some pv∧σ.t.get 17=some (.int .i64 (m:Nat))∧σ.t.get 18=some (.int .i64 (i:Nat))∧σ.m.x.look 2=some (63,cs)
def Ts (h:aa) (v:ah) (cs:List Value) (s:Nat) (σ:St):Prop:=∃(o:Option Nat) (w:Value),Ext h σ.m.h∧Ow 3 ab h σ.m.h o (iP v s 0) w∧σ.t.get 1=some (.int .i64 (s:Nat))∧σ.t.get 2=some (.pointer (some ⟨2,0,some 0⟩))∧σ.t.get 5=some w∧σ.m.x.look 2=some (63,cs)
theorem Ys (v:ah) (M:fK v) (cs:List Value) (s:Nat) (hs:s<v.af.length) (h:aa) (H:dJ h v cs):
  ai PP 210 [.agg ⟨cs⟩,.int .i64 (s:Nat)] h (fun r h'=>Ext h h'∧bS 3 ab h h' r (pJ v s)):=by
 refine az mix abZ Wc rfl (by show 2≤42;decide) ajd ?_
 simp only[wH,Tryz.f210]
 have hpl:=M.Ab
 have hcon:=fun kv hk=>FX kv v.aD (s:Int) (by have:=M.zw;omega) h hk
 obtain⟨sv,k,pp,rfl,h1,h2,h3⟩:=H
 obtain⟨ad1,c1,e1⟩:=h1.shape
 obtain⟨ad2,c2,e2⟩:=h2.shape
 obtain⟨ad3,c3,e3⟩:=h3.shape
 subst e1;subst e2;subst e3
 obtain⟨C,hC⟩:∃C,C=[Value.slice ad1 v.af.length c1,.int .i64 v.aV,.int .i64 v.bg,.slice ad2 v.aD.length c2,.slice ad3 v.aE.length c3]:=⟨_,rfl⟩
 have hCl:C.length=5:=by rw[hC];rfl
 have hC0:C.take 1=[.slice ad1 v.af.length c1]:=by rw[hC];rfl
 have hC3:C.drop 3= .slice ad2 v.aD.length c2::C.drop 4:=by rw[hC];rfl
 have hC4:C.drop 4=[.slice ad3 v.aE.length c3]:=by rw[hC];rfl
 rw[←hC]
 have hr1:List.range 1=[0]:=rfl
 simp -implicitDefEqProofs[hCl,hC3]
 refine(hcon _ h2.sl).mono ?_
 rintro r h' ⟨e,rfl⟩
 replace e:=e.symm
 subst e
 simp -implicitDefEqProofs[ae]
 intro _
 refine sF (Ts h v C s) ?_ ?_
 ·by_cases q1:(s:Int)∈v.aD
  ·have hb:iP v s 0=[-1]:=by simp[iP,pX,q1]
   simp -implicitDefEqProofs[q1,aI,hr1,cB,cQ,cH]
   refine⟨some (h.n+1),.slice (some ⟨h.n+1,0,none⟩) 1 1,(Ext.new _ _).bA _,?_,by simp,by simp,by simp,by simp[hC]⟩
   rw[hb]
   exact⟨rfl,by simp[ab],by omega,by simp⟩
  ·have hb:iP v s 0=[]:=by simp[iP,pX,q1]
   simp -implicitDefEqProofs[q1]
   refine⟨none,.slice none 0 0,Ext.bu h,?_,by simp,by simp,by simp,by simp[hC]⟩
   rw[hb]
   exact Ow.nil
 ·rintro⟨T,⟨x,G⟩⟩ ⟨o,w,E,W,g1,g2,g5,x2⟩
  simp at E W g1 g2 g5 x2
  have hwn:bL w=true:=by rw[W.1];rfl
  simp only[bL,fO,Option.isNone_iff_eq_none]at hwn
  simp -implicitDefEqProofs[g1,g2,g5,x2,hCl,hC4]
  refine bD (Sm h v C s (.slice ad3 v.aE.length c3) v.aE.length) _ ⟨0,o,w,rfl,by omega,E,W,by simp,by simp,by simp[hwn],by simp,by simp,by simp,by simp[x2]⟩ ?_
  clear g1 g2 g5 x2 E W hwn
  rintro n ⟨T,⟨x,G⟩⟩ ⟨i,o,w,rfl,hi,E,W,g1,g2,g5,g16,g17,g18,x2⟩
  simp at E W g1 g2 g5 g16 g17 g18 x2
  have hwn:bL w=true:=by rw[W.1];rfl
  simp only[bL,fO,Option.isNone_iff_eq_none]at hwn
  simp -implicitDefEqProofs[g1,g2,g5,g16,g17,g18,x2,hwn]
  refine bB (fun hc=>?_) (fun hc=>?_)<;>simp only[decide_eq_true_eq,decide_eq_false_iff_not]at hc
  ·have hip:i<v.aE.length:=by omega
   have w1:IntKind.wrap .i64 ((i:Int)+1)=((i+1:Nat):Int):=by rw[aA (by omega)];omega
   have hpi:v.aE[i]? =some v.aE[i]:=List.getElem?_eq_getElem hip
   obtain⟨p,hp⟩:∃p,p=v.aE[i]:=⟨_,rfl⟩
   rw[←hp]at hpi
   have bp:=M.fR hpi
   obtain⟨_,b,o1,cells,r,rfl,hb,hd,hlc,_⟩:=(h3.ext E).at 3 V.mj hpi
   have k0:(cells.drop (o1+i*3)).take 3=aQ p:=by rw[hd];rfl
   have hss:=qA hs
   obtain⟨t,ht⟩:∃t,t=gj v s:=⟨_,rfl⟩
   rw[←ht]at hss
   obtain⟨_,b',o2,cells',r',rfl,hb',hd',hlc',_⟩:=(h1.ext E).at 4 V.eM hss
   have k1:(cells'.drop (o2+s*4)).take 4=al t:=by rw[hd'];rfl
   simp only[al,aQ]at k0 k1
   have hcl:=FJ t ⟨0,p.x,p.y,0⟩ p.r (by omega) G
   simp only[aX,al]at hcl
   have hcP:pN v s i=k9 t ⟨0,p.x,p.y,0⟩ p.r:=by unfold pN;rw[hpi,ht]
   have hsu:=Yr v s i
   rw[hcP]at hsu
   have hll:=Yq v s i
   simp -implicitDefEqProofs[g1,g2,g5,g16,g17,g18,x2,hwn,hip,hb,k0,hlc,hC0,hCl,hs,hb',k1,hlc',aQ]
   refine hcl.mono ?_
   rintro r h' ⟨E2,rfl⟩
   have W2:=W.ext E2
   by_cases q1:k9 t ⟨0,p.x,p.y,0⟩ p.r=true
   ·rw[if_pos q1]at hsu
    obtain⟨acc,hacc⟩:∃acc,acc=iP v s i:=⟨_,rfl⟩
    rw[←hacc]at W2 hsu hll
    obtain⟨rfl,_⟩:=id W2
    have hA:=gx nX W2 (i:Int) (by omega)
    simp only[ab]at hA
    simp -implicitDefEqProofs[ae,q1,g1,g2,g5,g16,g17,g18,x2,w1,aI,hr1,hA]
    intro _
    refine⟨v.aE.length-(i+1),by omega,i+1,some (h'.n+1),.slice (some ⟨h'.n+1,0,none⟩) (acc.length+1) (acc.length+1),rfl,by omega,gz (E.trans E2) W2 _ _,?_,by simp,by simp,by simp,by simp,by simp,by simp,by simp[x2]⟩
    rw[hsu]
    exact Ow.one W2 (E.trans E2).n _ (i:Int) rfl
   ·rw[if_neg q1]at hsu
    simp -implicitDefEqProofs[ae,q1,g1,g2,g5,g16,g17,g18,x2,w1,hwn]
    intro _
    exact⟨v.aE.length-(i+1),by omega,i+1,o,w,rfl,by omega,E.trans E2,by rw[hsu];exact W2,by simp,by simp,by simp[hwn],by simp,by simp,by simp,by simp[x2]⟩
  ·have e:i=v.aE.length:=by omega
   subst e
   rw[←Yp]at W
   have hfin:=W.own
   simp -implicitDefEqProofs[g1,g2,g5,g16,g17,g18,x2,hwn]
   exact⟨E,hfin⟩
theorem kX {α:Type} (f:α→Value) (l:List α) (i:Nat) (b:α) (hi:i<l.length):(l.map f).take i++f b::(l.map f).drop (i+1)=(l.set i b).map f:=by
 rw[←List.map_take,←List.map_drop,List.set_eq_take_append_cons_drop,if_pos hi,List.map_append,List.map_cons]
theorem afS (l:List Int):l.map (Value.int .i64)=l.flatMap ab:=by
 induction l with
 |nil=>rfl
 |cons a r ih=>rw[List.map_cons,List.flatMap_cons,ih];rfl
theorem afT (l:List Bool):l.map Value.bool=l.flatMap dq:=by
 induction l with
 |nil=>rfl
 |cons a r ih=>rw[List.map_cons,List.flatMap_cons,ih];rfl
def jI (v:ah) (m i:Nat):List Bool:=(List.range m).map fun k=>if k<i then(pJ v k).isEmpty else false
theorem aqb (v:ah) (m i:Nat) (hi:i<m):(jI v m i).set i (pJ v i).isEmpty=jI v m (i+1):=by
 unfold jI
 apply List.ext_getElem
 ·simp
 ·intro j h1 h2
  rw[List.getElem_set]
  split
  ·rename_i e;subst e;simp
  ·rename_i e
   simp only[List.getElem_map,List.getElem_range]
   by_cases q:j<i
   ·rw[if_pos q,if_pos (by omega)]
   ·rw[if_neg q,if_neg (by omega)]
theorem qG (v:ah) (m i:Nat):(jI v m i).length=m:=by simp[jI]
theorem rW {v:ah} (h:aM v=true):jI v v.af.length v.af.length=cJ v:=by
 unfold jI cJ
 rw[if_pos h]
 refine List.map_congr_left fun k hk=>?_
 rw[List.mem_range]at hk
 rw[if_pos hk]
def R9 (h:aa) (v:ah) (cs:List Value) (m n:Nat) (σ:St):Prop:=∃i:Nat,n=m-i∧i≤m∧Ext h σ.m.h∧σ.m.h.f h.n= .row true 4 ((jI v m i).map Value.bool)∧h.n<σ.m.h.n∧
 σ.t.get 1=some (.pointer (some ⟨1,0,some 0⟩))∧σ.t.get 3=some (.slice (some ⟨h.n,0,none⟩) m m)∧σ.t.get 13=some (.int .i64 (m:Nat))∧σ.t.get 14=some (.int .i64 (i:Nat))∧σ.m.x.look 1=some (63,cs)
theorem QZ (v:ah) (M:aM v=true) (cs:List Value) (h:aa) (H:dJ h v cs):
  ai PP 155 [.agg ⟨cs⟩] h (fun r h'=>Ext h h'∧aF 4 dq h' r (cJ v)):=by
 refine ai.gK (post:=fun v' h'=>Ext h h'∧bS 4 dq h h' v' (cJ v)) ?_ (fun v h' ⟨E,W⟩=>by
  obtain⟨h'',w,E',S⟩:=W.cG E
  exact⟨h'',w,E',S⟩)
 refine az mix abn Vv rfl (by show 1≤27;decide) aiC ?_
 simp only[vF,Tryz.f155]
 have F:=j6 M
 have hlen:=F.len
 have hm:=V.j7 v cs F.small h H.cK
 have hby:=fun s hs h' E=>Ys v F cs s hs h' (H.ext E)
 obtain⟨sv,k,pp,rfl,h1,h2,h3⟩:=H
 obtain⟨ad1,c1,e1⟩:=h1.shape
 obtain⟨ad2,c2,e2⟩:=h2.shape
 obtain⟨ad3,c3,e3⟩:=h3.shape
 subst e1;subst e2;subst e3
 obtain⟨C,hC⟩:∃C,C=[Value.slice ad1 v.af.length c1,.int .i64 v.aV,.int .i64 v.bg,.slice ad2 v.aD.length c2,.slice ad3 v.aE.length c3]:=⟨_,rfl⟩
 have hCl:C.length=5:=by rw[hC];rfl
 have hCt:C.take 5=C:=List.take_of_length_le (by omega)
 have hC0:C.take 1=[.slice ad1 v.af.length c1]:=by rw[hC];rfl
 rw[←hC]at hm hby ⊢
 simp -implicitDefEqProofs[hCl,hCt]
 refine hm.mono ?_
 rintro r h' ⟨e,rfl⟩
 replace e:=e.symm
 subst e
 have hz:=uo (.bool false) v.af.length
 have hmx:v.af.length≤140737488355328:=by omega
 have h00:¬(v.af.length:Int)<0:=by omega
 have hu0:List.replicate v.af.length (Value.bool false)=(jI v v.af.length 0).map Value.bool:=by
  unfold jI
  apply List.ext_getElem
  ·simp
  ·intro j h1 h2;simp
 simp -implicitDefEqProofs[ae,M,hCl,hC0,lI,cH,hz,hmx,h00]
 intro _
 rw[hu0]
 refine bD (R9 h v C v.af.length) _ ⟨0,rfl,by omega,Ext.new _ _,by simp,by simp,by simp,by simp,by simp,by simp,by simp[hC]⟩ ?_
 rintro n ⟨T,⟨x,G⟩⟩ ⟨i,rfl,hi,E,hrow,hn,g1,g3,g13,g14,x1⟩
 simp at E hrow hn g1 g3 g13 g14 x1
 simp -implicitDefEqProofs[g1,g3,g13,g14,x1]
 refine bB (fun hc=>?_) (fun hc=>?_)<;>simp only[decide_eq_true_eq,decide_eq_false_iff_not]at hc
 ·have him:i<v.af.length:=by omega
  have w1:IntKind.wrap .i64 ((i:Int)+1)=((i+1:Nat):Int):=by rw[aA (by omega)];omega
  simp -implicitDefEqProofs[g1,g3,g13,g14,x1,hCl,hCt]
  refine(hby i him G E).mono ?_
  rintro r h' ⟨E2,W⟩
  obtain⟨ad,rfl,_⟩:=id W
  obtain⟨L,hL⟩:∃L,L=pJ v i:=⟨_,rfl⟩
  rw[←hL]at W ⊢
  have hrow2:h'.f h.n= .row true 4 ((jI v v.af.length i).map Value.bool):=by rw[E2.f _ hn,hrow]
  obtain⟨cells,hcells⟩:∃cells,cells=(jI v v.af.length i).map Value.bool:=⟨_,rfl⟩
  rw[←hcells]at hrow2
  have hcl:cells.length=v.af.length:=by rw[hcells,List.length_map,qG]
  have hil:i+1≤cells.length:=by omega
  have hem:L.isEmpty=decide (L.length=0):=by cases L<;>simp
  have hts:=kX Value.bool (jI v v.af.length i) i L.isEmpty (by rw[qG];exact him)
  rw[hL,aqb v _ i him,←hL,←hcells,hem]at hts
  simp -implicitDefEqProofs[ae,g1,g3,g13,g14,x1,w1,him,hrow2,hil]
  intro _
  refine⟨v.af.length-(i+1),by omega,i+1,rfl,by omega,(E.trans E2).cq (Nat.le_refl _) _,?_,Nat.lt_of_lt_of_le hn E2.n,by simp,by simp,by simp,by simp,by simp[x1]⟩
  rw[←hts]
  by_cases q:L=[]
  ·subst q;simp
  ·have q2:¬L.length=0:=fun e=>q (List.length_eq_zero_iff.1 e)
   simp[q]
 ·have e:i=v.af.length:=by omega
  subst e
  rw[rW M,afT]at hrow
  have hul:(cJ v).length=v.af.length:=by rw[←rW M,qG]
  simp -implicitDefEqProofs[g1,g3,g13,g14,x1]
  exact⟨E,_,by rw[hul],.inr ⟨_,rfl,hrow,Nat.le_refl _,hn⟩⟩
def nc (v:ah) (k:Nat):Bool:= !(cJ v).getD k true
theorem aeX (v:ah):fb v=((List.range (cJ v).length).filter (nc v)).map fun k:Nat=>(k:Int):=rfl
def kL (v:ah) (i:Nat):List Int:=((List.range i).filter (nc v)).map fun k:Nat=>(k:Int)
theorem aeV (v:ah) (i:Nat):kL v (i+1)=if nc v i=true then kL v i++[(i:Int)]else kL v i:=by
 unfold kL
 rw[List.range_succ,List.filter_append,List.map_append]
 by_cases q:nc v i=true
 ·simp[q]
 ·simp[q]
theorem aeU (v:ah) (i:Nat):(kL v i).length≤i:=by
 unfold kL
 rw[List.length_map]
 have:=List.length_filter_le (nc v) (List.range i)
 rwa[List.length_range]at this
def RY (h:aa) (v:ah) (uv:Value) (m n:Nat) (σ:St):Prop:=∃(i:Nat) (o:Option Nat) (w:Value),n=m-i∧i≤m∧Ext h σ.m.h∧aF 4 dq σ.m.h uv (cJ v)∧Ow 3 ab h σ.m.h o (kL v i) w∧
 σ.t.get 3=some w∧σ.t.get 7=some uv∧σ.t.get 8=some (.int .i64 (m:Nat))∧σ.t.get 9=some (.int .i64 (i:Nat))
theorem aeZ (v:ah) (M:aM v=true) (cs:List Value) (h:aa) (H:dJ h v cs):
  ai PP 115 [.agg ⟨cs⟩] h (fun r h'=>Ext h h'∧aF 3 ab h' r (fb v)):=by
 refine ai.gK (post:=fun v' h'=>Ext h h'∧bS 3 ab h h' v' (fb v)) ?_ (fun v h' ⟨E,W⟩=>by
  obtain⟨h'',w,E',S⟩:=W.cG E
  exact⟨h'',w,E',S⟩)
 refine az mix aa1 U9 rfl (by show 1≤22;decide) aif ?_
 simp only[vg,Tryz.f115]
 have F:=j6 M
 have hlen:=F.len
 have hu:=QZ v M cs h H
 obtain⟨sv,k,pp,rfl,h1,h2,h3⟩:=H
 obtain⟨ad1,c1,e1⟩:=h1.shape
 obtain⟨ad2,c2,e2⟩:=h2.shape
 obtain⟨ad3,c3,e3⟩:=h3.shape
 subst e1;subst e2;subst e3
 have hul:(cJ v).length=v.af.length:=by rw[←rW M,qG]
 have hr1:List.range 1=[0]:=rfl
 simp -implicitDefEqProofs
 refine hu.mono ?_
 rintro r G ⟨E,S⟩
 obtain⟨ad,c,rfl⟩:=S.shape
 rw[aeX]
 obtain⟨m,hm⟩:∃m,m=(cJ v).length:=⟨_,rfl⟩
 have hmm:m=v.af.length:=hm.trans hul
 rw[←hm]at S ⊢
 simp -implicitDefEqProofs[ae]
 intro _
 refine bD (RY h v (.slice ad m c) m) _ ⟨0,none,_,rfl,by omega,E,S,Ow.nil,by simp,by simp,by simp,by simp⟩ ?_
 clear E S
 rintro n ⟨T,⟨x,G⟩⟩ ⟨i,o,w,rfl,hi,E,S,W,g3,g7,g8,g9⟩
 simp at E S W g3 g7 g8 g9
 have hwn:bL w=true:=by rw[W.1];rfl
 simp only[bL,fO,Option.isNone_iff_eq_none]at hwn
 simp -implicitDefEqProofs[g3,g7,g8,g9,hwn]
 refine bB (fun hc=>?_) (fun hc=>?_)<;>simp only[decide_eq_true_eq,decide_eq_false_iff_not]at hc
 ·have him:i<m:=by omega
  have w1:IntKind.wrap .i64 ((i:Int)+1)=((i+1:Nat):Int):=by rw[aA (by omega)];omega
  have hti:(cJ v)[i]? =some (cJ v)[i]:=List.getElem?_eq_getElem (by omega)
  obtain⟨_,b,o1,cells,r,rfl,hb,hd,hlc,_⟩:=S.at 1 yA hti
  rw[Nat.mul_one]at hd
  have hlc':o1+i+1≤cells.length:=by omega
  obtain⟨t,ht⟩:∃t,t=(cJ v)[i]:=⟨_,rfl⟩
  rw[←ht]at hd hti
  have hnk:nc v i= !t:=by unfold nc;rw[List.getD_eq_getElem?_getD,hti];rfl
  have hsu:=aeV v i
  have hll:=aeU v i
  rw[hnk]at hsu
  have S0:=S
  obtain⟨acc,hacc⟩:∃acc,acc=kL v i:=⟨_,rfl⟩
  rw[←hacc]at W hsu hll
  have hA:=gx nX W (i:Int) (by omega)
  simp only[ab]at hA
  obtain⟨rfl,_⟩:=id W
  cases t with
  |false=>
   simp only[Bool.not_false,if_true]at hsu
   simp -implicitDefEqProofs[g3,g7,g8,g9,him,hb,hd,hlc',dq,w1,aI,hr1,hA]
   refine⟨m-(i+1),by omega,i+1,some (G.n+1),.slice (some ⟨G.n+1,0,none⟩) (acc.length+1) (acc.length+1),rfl,by omega,gz E W _ _,?_,?_,by simp,by simp,by simp,by simp⟩
   ·refine aF.dt S (S:=o.toList) ?_ ?_
    ·refine⟨uR _ _ _,by rw[cn];show G.n≤G.n+1+1;omega,fun b hb hs=>?_⟩
     rw[mG _ _ _ (show b<G.n+1 by omega) (fun q=>hs (by simp[q]))]
     simp[show¬b=G.n by omega]
    ·intro b hb
     obtain rfl:o=some b:=by simpa using hb
     exact⟨_,_,W.row⟩
   ·rw[hsu]
    exact Ow.one W E.n _ (i:Int) rfl
  |true=>
   simp only[Bool.not_true,Bool.false_eq_true,if_false]at hsu
   simp -implicitDefEqProofs[g3,g7,g8,g9,him,hb,hd,hlc',dq,w1]
   exact⟨m-(i+1),by omega,i+1,o,_,rfl,by omega,E,S,by rw[hsu];exact W,by simp,by simp,by simp,by simp⟩
 ·have e:i=m:=by omega
  subst e
  have W2:Ow 3 ab h G o (((List.range i).filter (nc v)).map fun k:Nat=>(k:Int)) w:=W
  have hfin:=W2.own
  simp -implicitDefEqProofs[g3,g7,g8,g9,hwn]
  exact⟨E,hfin⟩
theorem KH (v:ah) (M:aM v=true) (cs:List Value) (h:aa) (H:dJ h v cs):
  ai PP 204 [.agg ⟨cs⟩] h (fun r h'=>Ext h h'∧∃hc,fJ h' v (cJ v) hc∧r= .tuple #[.agg ⟨hc⟩,.bool true]):=by
 refine az mix abS V5 rfl (by show 1≤10;decide) ai6 ?_
 simp only[wz,Tryz.f204]
 have F:=j6 M
 have hu:=QZ v M cs h H
 have hm:=fun h' E=>V.j7 v cs F.small h' (H.ext E).cK
 have H0:=H
 obtain⟨sv,k,pp,rfl,h1,h2,h3⟩:=H
 obtain⟨ad1,c1,e1⟩:=h1.shape
 obtain⟨ad2,c2,e2⟩:=h2.shape
 obtain⟨ad3,c3,e3⟩:=h3.shape
 subst e1;subst e2;subst e3
 simp -implicitDefEqProofs
 refine hu.mono ?_
 rintro r G ⟨E,S⟩
 obtain⟨ad,c,rfl⟩:=S.shape
 simp -implicitDefEqProofs[aC]
 intro _
 refine(hm G E).mono ?_
 rintro r h' ⟨e,rfl⟩
 replace e:=e.symm
 subst e
 simp -implicitDefEqProofs[aC,M]
 intro _
 exact⟨E,[Value.slice ad1 v.af.length c1,.int .i64 v.aV,.int .i64 v.bg,.slice ad2 v.aD.length c2,.slice ad3 v.aE.length c3],.slice ad (cJ v).length c,rfl,H0.ext E,S⟩
end Go.Proofs.Ybk.K
namespace Go.Am
open Go
structure Kp (h h':aa):Prop where
 g:h'.g=h.g
 n:h.n≤h'.n
 f:∀b,b<h.n→∀e cs,h.f b= .row false e cs→h'.f b= .row false e cs
theorem Kp.refl (h:aa):Kp h h:=⟨rfl,Nat.le_refl _,fun _ _ _ _ q=>q⟩
theorem Ext.kp {h h':aa} (E:Ext h h'):Kp h h':=⟨E.g,E.n,fun b hb e cs q=>by rw[E.f b hb];exact q⟩
theorem Kp.trans {h h' h'':aa} (a:Kp h h') (b:Kp h' h''):Kp h h'':=
 ⟨b.g.trans a.g,Nat.le_trans a.n b.n,fun i hi e cs q=>b.f i (Nat.lt_of_lt_of_le hi a.n) e cs (a.f i hi e cs q)⟩
theorem b8.kp {S:List Nat} {h h':aa} (C:b8 S h h') (hs:eZ S h):Kp h h':=
 ⟨C.g,C.n,fun b hb e cs q=>by
  rw[C.f b hb (fun z=>by obtain⟨e',cs',q'⟩:=hs b z;rw[q]at q';cases q')];exact q⟩
theorem Kp.set {h h':aa} (K:Kp h h') {b:Nat} (hb:∀e cs,h'.f b≠.row false e cs) (x:aO):Kp h (h'.set b x):=
 ⟨K.g,K.n,fun i hi e cs q=>by
  have:=K.f i hi e cs q
  rw[eT,if_neg (fun z=>hb e cs (by rw[←z];exact this))];exact this⟩
theorem Kp.new {h h':aa} (K:Kp h h') (x:aO):Kp h (h'.new x):=K.trans (Ext.new h' x).kp
theorem Kp.app {h h':aa} (K:Kp h h') {o:Option Nat} (ho:∀b,o=some b→∀e cs,h'.f b≠.row false e cs) (c:aO):Kp h (bK h' o c):=by
 cases o with
 |none=>exact K.new c
 |some b=>exact(K.set (ho b rfl) .dead).new c
section
variable {α:Type} {e:TypeId} {enc:α→List Value} {h0 h h':aa} {o:Option Nat} {v:Value} {xs:List α}
theorem aF.kp (H:aF e enc h v xs) (K:Kp h h'):aF e enc h' v xs:=by
 obtain⟨ad,c,q,n,z⟩:=H
 refine⟨ad,c,q,n,?_⟩
 rcases z with z|⟨b,off,cells,rest,z1,z2,z3,z4,z5⟩
 ·exact .inl z
 ·exact .inr ⟨b,off,cells,rest,z1,K.f b z5 _ _ z2,z3,z4,Nat.lt_of_lt_of_le z5 K.n⟩
theorem Ow.nf (W:Ow e enc h0 h o xs v):∀b,o=some b→∀e' cs,h.f b≠.row false e' cs:=by
 rintro b rfl e' cs q
 have:=W.row
 rw[q]at this
 cases this
theorem afj (W:Ow e enc h0 h o xs v) (c c':aO):Kp h (bK (h.new c) o c'):=by
 refine((Kp.refl h).new c).app (fun b hb e' cs q=>?_) c'
 have hlt:=(W.lt b hb).2
 have:(h.new c).f b=h.f b:=by rw[mP,if_neg (by omega)]
 rw[this]at q
 exact W.nf b hb e' cs q
end
section
variable {P:Program} {cfg:au}
def sH (M:St→Prop) (Q:Ex→St→Prop):Ex→St→Prop
 | .normal,σ=>M σ
 |e,σ=>Q e σ
theorem Zy {M:St→Prop} {Q:Ex→St→Prop} {σ:St}:sH M Q .normal σ=M σ:=rfl
theorem Zz {M:St→Prop} {Q:Ex→St→Prop} {σ:St}:sH M Q .ret σ=Q .ret σ:=rfl
theorem Zx {M:St→Prop} {Q:Ex→St→Prop} {σ:St} (i:Nat):sH M Q (.exit i) σ=Q (.exit i) σ:=rfl
theorem rX (n:Nat) (M:St→Prop):∀{c:Code} {Q:Ex→St→Prop} {σ:St},vc P cfg (pY n c) (sH M Q) σ→(∀σ',M σ'→vc P cfg (qE n c) Q σ')→vc P cfg c Q σ:=by
 induction n with
 |zero=>intro c Q σ h1 h2;have:=h2 σ h1;rw[my]at this;exact this
 |succ n ih=>
  intro c Q σ h1 h2
  cases c with
  |seq a b=>
   refine uk a _ _ (fun e σ' h=>?_) σ h1
   cases e with
   |normal=>exact ih h h2
   |exit j=>exact h
   |ret=>exact h
  |_=>exact h2 σ h1
end
attribute [simp ↓] Zy Zz Zx
end Go.Am
namespace Go.Proofs.Ybk.K
open Go Go.Am
set_option maxHeartbeats 4000000
open V (aq aP ah al aQ ab aX aM aB bT bX aZ bF)
theorem dJ.kp {h h':aa} {v:ah} {cs:List Value} (H:dJ h v cs) (K:Kp h h'):dJ h' v cs:=by
 obtain⟨s,k,p,rfl,h1,h2,h3⟩:=H
 exact⟨s,k,p,rfl,h1.kp K,h2.kp K,h3.kp K⟩
theorem fJ.kp {h h':aa} {v:ah} {us:List Bool} {cs:List Value} (H:fJ h v us cs) (K:Kp h h'):fJ h' v us cs:=by
 obtain⟨vc,uv,rfl,h1,h2⟩:=H
 exact⟨vc,uv,rfl,h1.kp K,h2.kp K⟩
def du:List (Int×Int)→Nat→List MapEntry
 |[],_=>[]
 |p::r,i=>⟨.int .i64 p.1,.int .i64 p.2,i⟩::du r (i+1)
theorem aao (l k:List (Int×Int)) (i:Nat):du (l++k) i=du l i++du k (i+l.length):=by
 induction l generalizing i with
 |nil=>rfl
 |cons a r ih=>simp only[List.cons_append,du,ih,List.length_cons];rw[show i+1+r.length=i+(r.length+1) by omega]
def jy:List (Int×Int)→Int→Nat→Option (Nat×Int)
 |[],_,_=>none
 |p::r,k,i=>if p.1=k then some (i,p.2)else jy r k (i+1)
theorem aaI (k:Int) (l:List (Int×Int)) (i j:Nat):Instr.findNow (.int .i64) (.int .i64 k) (du l i) j=some ((jy l k j).map fun p=>(p.1,.int .i64 p.2)):=by
 induction l generalizing i j with
 |nil=>rfl
 |cons p r ih=>
  simp only[du,Instr.findNow,jy,Instr.sameNow,if_true]
  by_cases q:p.1=k
  ·have:(k==p.1)=true:=by simp[q]
   rw[this,if_pos q];rfl
  ·have:(k==p.1)=false:=by simp;omega
   rw[this,if_neg q]
   exact ih (i+1) (j+1)
theorem afG (l:List (Int×Int)) (k:Int) (i:Nat):(jy l k i).map (fun p=>p.2)=(l.find? fun p=>decide (p.1=k)).map fun p=>p.2:=by
 induction l generalizing i with
 |nil=>rfl
 |cons p r ih=>
  rw[jy,List.find?_cons]
  by_cases q:p.1=k
  ·simp[q]
  ·simp[q,ih]
theorem afH {l:List (Int×Int)} {k:Int} (h:∀p∈l,p.1≠k) (i:Nat):jy l k i=none:=by
 induction l generalizing i with
 |nil=>rfl
 |cons p r ih=>
  rw[jy,if_neg (h p (by simp))]
  exact ih (fun q hq=>h q (by simp[hq])) _
theorem gu:PP=Tryz.prog:=by unfold PP;rfl
theorem FG (e:Bool) (k:Int):(Instr.checkKey e 10000 3 (.int .i64 k)).aJ PP=some ():=by
 rw[gu]
 cases e<;>kernel_rfl
theorem Ke (k:Int) (l:List (Int×Int)) (i:Nat):(Instr.findKey 3 (.int .i64 k) (du l i)).aJ PP=some ((jy l k 0).map fun p=>(p.1,.int .i64 p.2)):=by
 simp only[Instr.findKey,bP,lN QG,Option.bind_some]
 rw[aaI]
 rfl
theorem yS (k:Int) (l:List (Int×Int)):(l7 3 3 (.int .i64 k) (du l 0).toArray true).aJ PP=some (.tuple #[.int .i64 (((jy l k 0).map fun p=>p.2).getD 0),.bool (jy l k 0).isSome]):=by
 have hz:(zeroValue 3).aJ PP=some (.int .i64 0):=by rw[gu];kernel_rfl
 simp only[l7,bP,FG,Option.bind_some,Ke]
 cases hp:jy l k 0 with
 |none=>
  show(zeroValue 3 >>= fun a=>pure (Value.tuple #[a,.bool false]):Sem Value).aJ PP=_
  rw[bP,hz];rfl
 |some p=>simp[bP,oZ]
theorem aqD (k:Int) (l:List (Int×Int)):(pn 3 (.int .i64 k) (du l 0).toArray).aJ PP=some ((jy l k 0).map fun p=>(p.1,.int .i64 p.2)):=by
 simp only[pn,bP,FG,Option.bind_some,Ke]
def gH (h:aa) (s:bO) (cs:List Value):Prop:=∃hc lv mb,cs=hc++[lv,.map (some mb)]∧fJ h s.v s.us hc∧aF 29 ag h lv s.l∧h.f mb= .obj (.map (du s.pins 0).toArray s.pins.length)∧mb<h.n
def nM (cs:List Value):Prop:=∃a1 n1 c1 g r a2 n2 c2 a3 n3 c3 a4 n4 c4 a5 n5 c5 mb,cs=[.slice a1 n1 c1,.int .i64 g,.int .i64 r,.slice a2 n2 c2,.slice a3 n3 c3,.slice a4 n4 c4,.slice a5 n5 c5,.map (some mb)]
def TC (v:ah) (us:List Bool) (l:List aU) (acc:List (Int×Int)):Prop:=∀p∈acc,0≤p.1∧p.1<l.length∧((cD v us (l.getD p.1.toNat default) p.2).isSome=true)
theorem nu {v:ah} {us:List Bool} {p:aU} {a:Int} (h:(cD v us p a).isSome=true):dM p=true∧1≤p.size∧p.size≤8∧0≤a∧a+p.size≤v.af.length:=by
 unfold cD at h
 split at h
 ·rename_i hm
  split at h
  ·rename_i l hl
   have:=ud hl
   have hs:p.size≤8:=by have hm':=hm;unfold dM at hm';simp at hm';omega
   exact⟨hm,this.2.1,hs,this.2.2.1,this.2.2.2⟩
  ·cases h
 ·cases h
theorem aey (v:ah) (us:List Bool) (l:List aU) (acc:List (Int×Int)) (p f:Int) (r:List (Int×Int)):gP v us l acc ((p,f)::r)=(if iY acc p || decide (p<0) || decide ((l.length:Int)≤p)then none
  else if(cD v us (l.getD p.toNat default) f).isNone then none
  else if acc.all fun q=>dK v (l.getD p.toNat default) f (l.getD q.1.toNat default) q.2 then gP v us l (acc++[(p,f)]) r else none):=rfl
def nL (acc:List (Int×Int)):Prop:=acc.Pairwise fun a b=>a.1<b.1
theorem PM {acc:List (Int×Int)} (h:nL acc) {p f:Int} (hn:iY acc p=false):nL (acc++[(p,f)]):=by
 unfold nL at h ⊢
 rw[List.pairwise_append]
 refine⟨h,List.pairwise_singleton _ _,fun a ha b hb=>?_⟩
 obtain rfl:=List.mem_singleton.1 hb
 rcases List.eq_nil_or_concat acc with e|⟨r,q,e⟩
 ·subst e;cases ha
 ·rw[List.concat_eq_append]at e
  subst e
  unfold iY at hn
  rw[List.getLast?_append]at hn
  simp at hn
  rcases List.mem_append.1 ha with z|z
  ·have:=(List.pairwise_append.1 h).2.2 a z q (by simp)
   simp only;omega
  ·obtain rfl:=List.mem_singleton.1 z
   exact hn
theorem amK {acc:List (Int×Int)} (h:nL acc) {p:Int} (hn:iY acc p=false):∀q∈acc,q.1≠p:=by
 intro q hq
 have:=PM h (f:=0) hn
 unfold nL at this
 have:=(List.pairwise_append.1 this).2.2 q hq (p,0) (by simp)
 simp only at this
 omega
def Sb (h:aa) (v:ah) (us:List Bool) (l:List aU) (pins:List (Int×Int)) (hc:List Value) (lv pv:Value) (mb:Nat) (z6:List Value) (m n:Nat) (σ:St):Prop:=∃i:Nat,n=m-i∧i≤m∧Ext h σ.m.h∧fJ σ.m.h v us hc∧h.n≤mb∧mb<σ.m.h.n∧σ.m.h.f mb= .obj (.map (du (pins.take i) 0).toArray i)∧
 gP v us l [] pins=gP v us l (pins.take i) (pins.drop i)∧TC v us l (pins.take i)∧nL (pins.take i)∧
 σ.t.get 1=some lv∧σ.t.get 2=some pv∧σ.t.get 6=some (.pointer (some ⟨6,0,some 0⟩))∧σ.t.get 8=some (.pointer (some ⟨8,0,some 0⟩))∧σ.t.get 10=some (.pointer (some ⟨10,0,some 0⟩))∧σ.t.get 34=some pv∧σ.t.get 35=some (.int .i64 (m:Nat))∧σ.t.get 36=some (.int .i64 (i:Nat))∧
 σ.m.x.look 6=some (242,z6)∧σ.m.x.look 8=some (239,hc)∧σ.m.x.look 10=some (242,hc++[lv,.map (some mb)])
def Tp (H:aa) (lv pv:Value) (m i:Nat) (p f:Int) (z6 hc c10:List Value) (σ:St):Prop:=σ.m.h=H∧σ.t.get 1=some lv∧σ.t.get 2=some pv∧σ.t.get 6=some (.pointer (some ⟨6,0,some 0⟩))∧σ.t.get 8=some (.pointer (some ⟨8,0,some 0⟩))∧σ.t.get 10=some (.pointer (some ⟨10,0,some 0⟩))∧σ.t.get 11=some (.int .i64 (i:Nat))∧σ.t.get 12=some (.pointer (some ⟨12,0,some 0⟩))∧
 σ.t.get 34=some pv∧σ.t.get 35=some (.int .i64 (m:Nat))∧σ.t.get 36=some (.int .i64 (i:Nat))∧σ.m.x.look 6=some (242,z6)∧σ.m.x.look 8=some (239,hc)∧σ.m.x.look 10=some (242,c10)∧σ.m.x.look 12=some (69,[.int .i64 p,.int .i64 f])
def To (H:aa) (lv pv:Value) (m i:Nat) (p f:Int) (z:Bool) (z6 hc c10:List Value) (σ:St):Prop:=σ.m.h=H∧σ.t.get 1=some lv∧σ.t.get 2=some pv∧σ.t.get 6=some (.pointer (some ⟨6,0,some 0⟩))∧σ.t.get 8=some (.pointer (some ⟨8,0,some 0⟩))∧σ.t.get 10=some (.pointer (some ⟨10,0,some 0⟩))∧σ.t.get 11=some (.int .i64 (i:Nat))∧σ.t.get 12=some (.pointer (some ⟨12,0,some 0⟩))∧
 σ.t.get 34=some pv∧σ.t.get 35=some (.int .i64 (m:Nat))∧σ.t.get 36=some (.int .i64 (i:Nat))∧σ.t.get 65=some (.bool z)∧σ.m.x.look 6=some (242,z6)∧σ.m.x.look 8=some (239,hc)∧σ.m.x.look 10=some (242,c10)∧σ.m.x.look 12=some (69,[.int .i64 p,.int .i64 f])
def Sc (h:aa) (v:ah) (us:List Bool) (l:List aU) (pins:List (Int×Int)) (X:aU) (q:Nat) (f:Int) (hc c10:List Value) (lv pv tv:Value) (mb:Nat) (z6:List Value) (m i n:Nat) (σ:St):Prop:=∃k:Nat,n=i-k∧k≤i∧Ext h σ.m.h∧fJ σ.m.h v us hc∧mb<σ.m.h.n∧σ.m.h.f mb= .obj (.map (du (pins.take i) 0).toArray i)∧
 ((pins.take k).all fun y=>dK v X f (l.getD y.1.toNat default) y.2)=true∧
 σ.t.get 1=some lv∧σ.t.get 2=some pv∧σ.t.get 6=some (.pointer (some ⟨6,0,some 0⟩))∧σ.t.get 8=some (.pointer (some ⟨8,0,some 0⟩))∧σ.t.get 10=some (.pointer (some ⟨10,0,some 0⟩))∧σ.t.get 12=some (.pointer (some ⟨12,0,some 0⟩))∧σ.t.get 34=some pv∧σ.t.get 35=some (.int .i64 (m:Nat))∧σ.t.get 36=some (.int .i64 (i:Nat))∧
 σ.t.get 84=some tv∧σ.t.get 85=some (.int .i64 (i:Nat))∧σ.t.get 86=some (.int .i64 (k:Nat))∧σ.m.x.look 6=some (242,z6)∧σ.m.x.look 8=some (239,hc)∧σ.m.x.look 10=some (242,c10)∧σ.m.x.look 12=some (69,[.int .i64 (q:Nat),.int .i64 f])
def sa (h:aa) (r:Option bO) (v:Value) (h':aa):Prop:=Ext h h'∧∃cs,nM cs∧v= .tuple #[.agg ⟨cs⟩,.bool r.isSome]∧∀s,r=some s→gH h' s cs
theorem alI (v:ah) (M:aM v=true) (cs:List Value) (lv pv:Value) (l:List aU) (pins:List (Int×Int)) (hl:l.length≤1073741824) (hp:pins.length≤1073741824) (hpf:∀p∈pins,-4611686018427387904≤p.2∧p.2≤4611686018427387904) (h:aa) (H:dJ h v cs) (hs:aF 29 ag h lv l) (hps:aF 69 iz h pv pins):
  ai PP 170 [.agg ⟨cs⟩,lv,pv] h (sa h (eu v l pins)):=by
 refine az mix abE VL rfl (by show 3≤117;decide) aiS ?_
 simp only[vV,Tryz.f170]
 have F:=j6 M
 have hin:=KH v M cs h H
 have aL:=fun h' E=>Bh lv l hl h' (hs.ext (h':=h') E).sl
 have hul:(cJ v).length≤1073741824:=by rw[←rW M,qG];have:=F.len;omega
 have HM:po v (cJ v):=⟨F,hul⟩
 have hset:eu v l pins=if iG l then(gP v (cJ v) l [] pins).map fun a=>⟨v,cJ v,l,a⟩else none:=by unfold eu;rw[M,Bool.true_and]
 obtain⟨sv,k,pp,rfl,h1,h2,h3⟩:=H
 obtain⟨ad1,c1,e1⟩:=h1.shape
 obtain⟨ad2,c2,e2⟩:=h2.shape
 obtain⟨ad3,c3,e3⟩:=h3.shape
 subst e1;subst e2;subst e3
 obtain⟨ad5,c5,e5⟩:=hs.shape
 obtain⟨ad6,c6,e6⟩:=hps.shape
 subst e5;subst e6
 simp -implicitDefEqProofs
 refine hin.mono ?_
 rintro r G ⟨E,hc,HF,rfl⟩
 have hcs:∃a1 n1 c1 g r a2 n2 c2 a3 n3 c3 a4 n4 c4,hc=[.slice a1 n1 c1,.int .i64 g,.int .i64 r,.slice a2 n2 c2,.slice a3 n3 c3,.slice a4 n4 c4]:=by
  obtain⟨vc,uv,rfl,⟨s,k,p,rfl,h1,h2,h3⟩,h4⟩:=HF
  obtain⟨b1,d1,rfl⟩:=h1.shape
  obtain⟨b2,d2,rfl⟩:=h2.shape
  obtain⟨b3,d3,rfl⟩:=h3.shape
  obtain⟨b4,d4,rfl⟩:=h4.shape
  exact⟨_,_,_,_,_,_,_,_,_,_,_,_,_,_,rfl⟩
 obtain⟨b1,n1,d1,g,rr,b2,n2,d2,b3,n3,d3,b4,n4,d4,rfl⟩:=hcs
 simp -implicitDefEqProofs[ae]
 intro _
 obtain⟨mb,hmb⟩:∃mb,mb=G.n:=⟨_,rfl⟩
 obtain⟨G1,hG1⟩:∃G1,G1=G.new (.obj (.map #[] 0)):=⟨_,rfl⟩
 have E1:Ext G G1:=by rw[hG1];exact Ext.new _ _
 have hmb1:G1.n=mb+1:=by rw[hG1,hmb];rfl
 have hmf:G1.f mb= .obj (.map #[] 0):=by rw[hG1,hmb];simp
 rw[←hG1,←hmb]
 refine(aL _ (E.trans E1)).mono ?_
 rintro r h' ⟨e,rfl⟩
 replace e:=e.symm
 subst e
 have HF1:=HF.ext E1
 by_cases qa:iG l=true
 ·rw[if_pos qa]at hset
  rw[hset]
  obtain⟨us,hus⟩:∃us,us=cJ v:=⟨_,rfl⟩
  rw[←hus]at HF1 HM ⊢
  obtain⟨hc,hhc⟩:∃hc,hc=[Value.slice b1 n1 d1,.int .i64 g,.int .i64 rr,.slice b2 n2 d2,.slice b3 n3 d3,.slice b4 n4 d4]:=⟨_,rfl⟩
  rw[←hhc]at HF1
  have hcl:hc.length=6:=by rw[hhc];rfl
  have hct:hc.take 6=hc:=List.take_of_length_le (by omega)
  obtain⟨m,hm⟩:∃m,m=pins.length:=⟨_,rfl⟩
  have fin:∀(H:aa) (r:Option (List (Int×Int))),Ext h H→(∀a,r=some a→fJ H v us hc∧aF 29 ag H (.slice ad5 l.length c5) l∧H.f mb= .obj (.map (du a 0).toArray a.length)∧mb<H.n)→
    sa h (r.map fun a=>(⟨v,us,l,a⟩:bO)) (.tuple #[.agg ⟨hc++[.slice ad5 l.length c5,.map (some mb)]⟩,.bool (r.map fun a=>(⟨v,us,l,a⟩:bO)).isSome]) H:=by
   intro H r EH hr
   refine⟨EH,_,?_,rfl,fun s hs=>?_⟩
   ·rw[hhc];exact⟨_,_,_,_,_,_,_,_,_,_,_,_,_,_,_,_,_,_,rfl⟩
   ·cases r with
    |none=>cases hs
    |some a=>
     simp only[Option.map_some,Option.some.injEq]at hs
     subst hs
     obtain⟨f1,f2,f3,f4⟩:=hr a rfl
     exact⟨hc,_,mb,rfl,f1,f2,f3,f4⟩
  simp -implicitDefEqProofs[ae,qa]
  intro _
  rw[←hm]
  refine bD (Sb h v us l pins hc (.slice ad5 l.length c5) (.slice ad6 m c6) mb [.slice none 0 0,.int .i64 0,.int .i64 0,.slice none 0 0,.slice none 0 0,.slice none 0 0,.slice none 0 0,.map none] m) _ ⟨0,rfl,by omega,by simpa using E.trans E1,by simpa using HF1,by rw[hmb];exact E.n,by simp;omega,by simpa[du]using hmf,by simp,by intro p hp;simp at hp,by simp[nL],by simp,by simp,by simp,by simp,by simp,by simp,by simp,by simp,by simp,by simp[hhc],by simp[hhc]⟩ ?_
  rintro n ⟨T,⟨x,H⟩⟩ ⟨i,rfl,hi,EH,HH,hmb0,hmbn,hmbf,hgo,hPO,hR,g1,g2,g6,g8,g10,g34,g35,g36,x6,x8,x10⟩
  simp at EH HH hmbn hmbf g1 g2 g6 g8 g10 g34 g35 g36 x6 x8 x10
  simp -implicitDefEqProofs[g1,g2,g6,g8,g10,g34,g35,g36,x6,x8,x10]
  refine bB (fun hc'=>?_) (fun hc'=>?_)<;>simp only[decide_eq_true_eq,decide_eq_false_iff_not]at hc'
  ·have him:i<m:=by omega
   have hpi:pins[i]? =some pins[i]:=List.getElem?_eq_getElem (by omega)
   obtain⟨pf,hpf'⟩:∃pf,pf=pins[i]:=⟨_,rfl⟩
   rw[←hpf']at hpi
   obtain⟨p,f⟩:=pf
   have hfr:=hpf (p,f) (List.mem_of_getElem? hpi)
   simp only at hfr
   have hdrop:pins.drop i=(p,f)::pins.drop (i+1):=by rw[hpf'];exact List.drop_eq_getElem_cons (by omega)
   have htake:pins.take (i+1)=pins.take i++[(p,f)]:=by rw[List.take_add_one,hpi];rfl
   have hpsH:=hps.ext EH
   rw[←hm]at hpsH
   obtain⟨_,bp,op,cells,r,rfl,hb,hd,hlc,hbn⟩:=hpsH.at 2 rG hpi
   have hk0:(cells.drop (op+i*2)).take 2=[.int .i64 p,.int .i64 f]:=by rw[hd];rfl
   have hnu:iY (pins.take i) p=(decide (0<i)&&decide (p≤(pins.getD (i-1) default).1)):=by
    rcases Nat.eq_zero_or_pos i with e|e
    ·subst e;simp[iY]
    ·obtain⟨j,rfl⟩:∃j,i=j+1:=⟨i-1,by omega⟩
     have hj:pins[j]? =some pins[j]:=List.getElem?_eq_getElem (by omega)
     have hlast:(pins.take (j+1)).getLast? =some pins[j]:=by
      rw[List.getLast?_eq_getElem?,List.length_take,Nat.min_eq_left (by omega)]
      simp[List.getElem?_take,hj]
     unfold iY
     rw[hlast]
     simp[List.getD_eq_getElem?_getD,hj]
   have hstep:=hgo
   rw[hdrop,aey]at hstep
   have bad:∀(cond:(iY (pins.take i) p || decide (p<0) || decide ((l.length:Int)≤p))=true∨(cD v us (l.getD p.toNat default) f).isNone=true∨((pins.take i).all fun q=>dK v (l.getD p.toNat default) f (l.getD q.1.toNat default) q.2)=false),gP v us l [] pins=none:=by
    intro cond
    rw[hstep]
    by_cases z1:(iY (pins.take i) p || decide (p<0) || decide ((l.length:Int)≤p))=true
    ·rw[if_pos z1]
    ·rw[if_neg z1]
     by_cases z2:(cD v us (l.getD p.toNat default) f).isNone=true
     ·rw[if_pos z2]
     ·rw[if_neg z2]
      rcases cond with q|q|q
      ·exact absurd q z1
      ·exact absurd q z2
      ·rw[if_neg (by rw[q];decide)]
   have finN:∀(H:aa),Ext h H→gP v us l [] pins=none→sa h ((gP v us l [] pins).map fun a=>(⟨v,us,l,a⟩:bO)) (.tuple #[.agg ⟨hc++[.slice ad5 l.length c5,.map (some mb)]⟩,.bool false]) H:=by
    intro H EH hn
    have:=fin H none EH (fun a ha=>by cases ha)
    rw[hn]
    exact this
   have tail:∀(H:aa),True:=fun _=>trivial
   have w1:IntKind.wrap .i64 ((i:Int)+1)=((i+1:Nat):Int):=by rw[aA (by omega)];omega
   have hcL:(hc++[Value.slice ad5 l.length c5,Value.map (some mb)]).length=8:=by simp[hcl]
   obtain⟨A,hA⟩:∃A,A=hc++[Value.slice ad5 l.length c5,Value.map (some mb)]:=⟨_,rfl⟩
   have hAl:A.length=8:=by rw[hA];exact hcL
   have hAt:A.take 8=A:=List.take_of_length_le (by omega)
   have hA7:A.drop 7=[.map (some mb)]:=by rw[hA,hhc];rfl
   have hAo:A.all one=true:=by rw[hA,hhc];rfl
   rw[←hA]at x10 finN
   simp only[yJ,Q7,Qk]
   rw[AF,Q4]
   refine Q5 1 (Tp H (.slice ad5 l.length c5) (.slice (some ⟨bp,op,none⟩) m c6) m i p f [.slice none 0 0,.int .i64 0,.int .i64 0,.slice none 0 0,.slice none 0 0,.slice none 0 0,.slice none 0 0,.map none] hc A) ?_ ?_
   ·simp only[oc,oa]
    simp -implicitDefEqProofs[g1,g2,g6,g8,g10,g34,g35,g36,x6,x8,x10,him,hb,hk0,hlc]
    exact⟨rfl,by simp,by simp,by simp,by simp,by simp,by simp,by simp,by simp,by simp,by simp,by simp[x6],by simp[x8],by simp[x10,hA],by simp⟩
   clear g1 g2 g6 g8 g10 g34 g35 g36 x6 x8 x10
   rintro⟨T,⟨x,H2⟩⟩ ⟨e,g1,g2,g6,g8,g10,g11,g12,g34,g35,g36,x6,x8,x10,x12⟩
   replace e:H=H2:=e.symm
   subst e
   simp at g1 g2 g6 g8 g10 g11 g12 g34 g35 g36 x6 x8 x10 x12
   simp only[pg,my]
   rw[AF]
   refine Q5 1 (To H (.slice ad5 l.length c5) (.slice (some ⟨bp,op,none⟩) m c6) m i p f (iY (pins.take i) p || decide (p<0) || decide ((l.length:Int)≤p)) [.slice none 0 0,.int .i64 0,.int .i64 0,.slice none 0 0,.slice none 0 0,.slice none 0 0,.slice none 0 0,.map none] hc A) ?_ ?_
   ·simp only[oc,oa]
    rw[hnu]
    by_cases z0:0<i
    ·obtain⟨j,hj⟩:∃j,j=i-1:=⟨_,rfl⟩
     have hjm:j<m:=by omega
     have hpj:pins[j]? =some pins[j]:=List.getElem?_eq_getElem (by omega)
     obtain⟨pf2,hpf2⟩:∃pf,pf=pins[j]:=⟨_,rfl⟩
     rw[←hpf2]at hpj
     obtain⟨p2,f2⟩:=pf2
     obtain⟨_,bp',op',cells',r',e,hb',hd',hlc',_⟩:=hpsH.at 2 rG hpj
     simp only[Option.some.injEq,Addr.mk.injEq,and_true]at e
     obtain⟨rfl,rfl⟩:=e
     rw[hb]at hb'
     simp only[aO.row.injEq,true_and]at hb'
     obtain rfl:=hb'
     have hk1:cells.drop (op+j*2)= .int .i64 p2:: .int .i64 f2::r':=hd'
     have hk1l:op+j*2+1≤cells.length:=by omega
     have w2:IntKind.wrap .i64 ((i:Int)-1)=(j:Int):=by rw[aA (by omega)];omega
     have z0':(0:Int)<(i:Int):=by omega
     have hgd:(pins.getD (i-1) default).1=p2:=by rw[←hj,List.getD_eq_getElem?_getD,hpj];rfl
     rw[hgd]
     by_cases z2:p≤p2
     ·simp -implicitDefEqProofs[g1,g2,g6,g8,g10,g11,g12,g34,g35,g36,x6,x8,x10,x12,him,hb,hlc,z0,z0',w2,hjm,hk1,hk1l,z2]
      exact⟨rfl,by simp,by simp,by simp,by simp,by simp,by simp,by simp,by simp,by simp,by simp,by simp,by simp[x6],by simp[x8],by simp[x10],by simp[x12]⟩
     by_cases z3:p<0
     ·simp -implicitDefEqProofs[g1,g2,g6,g8,g10,g11,g12,g34,g35,g36,x6,x8,x10,x12,him,hb,hlc,z0,z0',w2,hjm,hk1,hk1l,z2,z3]
      exact⟨rfl,by simp,by simp,by simp,by simp,by simp,by simp,by simp,by simp,by simp,by simp,by simp,by simp[x6],by simp[x8],by simp[x10],by simp[x12]⟩
     ·simp -implicitDefEqProofs[g1,g2,g6,g8,g10,g11,g12,g34,g35,g36,x6,x8,x10,x12,him,hb,hlc,z0,z0',w2,hjm,hk1,hk1l,z2,z3]
      exact⟨rfl,by simp,by simp,by simp,by simp,by simp,by simp,by simp,by simp,by simp,by simp,by simp,by simp[x6],by simp[x8],by simp[x10],by simp[x12]⟩
    ·have z0':¬(0:Int)<(i:Int):=by omega
     by_cases z3:p<0
     ·simp -implicitDefEqProofs[g1,g2,g6,g8,g10,g11,g12,g34,g35,g36,x6,x8,x10,x12,him,hb,hlc,z0,z0',z3]
      exact⟨rfl,by simp,by simp,by simp,by simp,by simp,by simp,by simp,by simp,by simp,by simp,by simp,by simp[x6],by simp[x8],by simp[x10],by simp[x12]⟩
     ·simp -implicitDefEqProofs[g1,g2,g6,g8,g10,g11,g12,g34,g35,g36,x6,x8,x10,x12,him,hb,hlc,z0,z0',z3]
      exact⟨rfl,by simp,by simp,by simp,by simp,by simp,by simp,by simp,by simp,by simp,by simp,by simp,by simp[x6],by simp[x8],by simp[x10],by simp[x12]⟩
   clear g1 g2 g6 g8 g10 g11 g12 g34 g35 g36 x6 x8 x10
   rintro⟨T,⟨x,H2⟩⟩ ⟨e,g1,g2,g6,g8,g10,g11,g12,g34,g35,g36,g65,x6,x8,x10,x12⟩
   replace e:H=H2:=e.symm
   subst e
   simp at g1 g2 g6 g8 g10 g11 g12 g34 g35 g36 g65 x6 x8 x10 x12
   simp only[pg,my]
   obtain⟨z,hz⟩:∃z,z=(iY (pins.take i) p || decide (p<0) || decide ((l.length:Int)≤p)):=⟨_,rfl⟩
   rw[←hz]at g65
   cases z with
   |true=>
    have hbad:=finN H EH (bad (.inl hz.symm))
    simp -implicitDefEqProofs[g1,g2,g6,g8,g10,g11,g12,g34,g35,g36,g65,x6,x8,x10,x12,hAl,hAt,hAo]
    exact hbad
   |false=>
    have hz':=hz.symm
    simp only[Bool.or_eq_false_iff,decide_eq_false_iff_not]at hz'
    obtain⟨⟨hn0,hp0⟩,hpl⟩:=hz'
    obtain⟨q,rfl⟩:∃q:Nat,p=q:=⟨p.toNat,by omega⟩
    have hql:q<l.length:=by omega
    have hti:l[q]? =some l[q]:=List.getElem?_eq_getElem hql
    obtain⟨X,hX⟩:∃X,X=l[q]:=⟨_,rfl⟩
    rw[←hX]at hti
    have hgX:l.getD (q:Int).toNat default=X:=by rw[Int.toNat_natCast,List.getD_eq_getElem?_getD,hti];rfl
    obtain⟨_,bl,ol,cl,rl,rfl,hbl,hdl,hlcl,hbln⟩:=(hs.ext EH).at 2 jD hti
    have hkl:(cl.drop (ol+q*2)).take 2=[.int .i64 X.size,.int .i64 X.cL]:=by rw[hdl];rfl
    have hse:=sW v us HM hc X f hfr H HH
    simp only[dD,ag]at hse
    rw[hgX]at bad
    simp -implicitDefEqProofs[g1,g2,g6,g8,g10,g11,g12,g34,g35,g36,g65,x6,x8,x10,x12,hAl,hAt,hcl,hct,hql,hbl,hkl,hlcl]
    refine hse.mono ?_
    rintro r H3 ⟨E3,R⟩
    have EH3:=EH.trans E3
    cases hsx:cD v us X f with
    |none=>
     rw[hsx]at R
     subst R
     have hbad:=finN H3 EH3 (bad (.inr (.inl (by rw[hsx];rfl))))
     simp -implicitDefEqProofs[ae,g1,g2,g6,g8,g10,g11,g12,g34,g35,g36,g65,x6,x8,x10,x12,hAl,hAt,hAo]
     intro _
     exact hbad
    |some ls=>
     rw[hsx]at R
     obtain⟨sl,Ssl,rfl⟩:=R
     obtain⟨ad7,c7,rfl⟩:=Ssl.shape
     have hsome:(cD v us X f).isSome=true:=by rw[hsx];rfl
     have hXin:=nu hsome
     have HH3:=HH.ext E3
     have hmbf3:H3.f mb= .obj (.map (du (pins.take i) 0).toArray i):=by rw[E3.f _ hmbn];exact hmbf
     have hmbn3:mb<H3.n:=Nat.lt_of_lt_of_le hmbn E3.n
     have hb3:H3.f bp= .row false 69 cells:=by rw[E3.f bp hbn];exact hb
     have him':i≤m:=by omega
     simp -implicitDefEqProofs[ae,g1,g2,g6,g8,g10,g11,g12,g34,g35,g36,g65,x6,x8,x10,x12,hAl,hAt,hAo,hb3,him']
     intro _
     refine bD (Sc h v us l pins X q f hc A (.slice (some ⟨bl,ol,none⟩) l.length c5) (.slice (some ⟨bp,op,none⟩) m c6) (.slice (some ⟨bp,op,none⟩) i i) mb [.slice none 0 0,.int .i64 0,.int .i64 0,.slice none 0 0,.slice none 0 0,.slice none 0 0,.slice none 0 0,.map none] m i) _ ⟨0,rfl,by omega,by simpa using EH3,by simpa using HH3,by simpa using hmbn3,by simpa using hmbf3,by simp,by simp,by simp,by simp,by simp,by simp,by simp,by simp,by simp,by simp,by simp,by simp,by simp,by simp,by simp,by simp,by simp⟩ ?_
     clear g1 g2 g6 g8 g10 g11 g12 g34 g35 g36 g65 x6 x8 x10 x12 hmbf3 hmbn3 hb3 HH3
     rintro n ⟨T,⟨x,H4⟩⟩ ⟨k,rfl,hk,EH4,HH4,hmbn4,hmbf4,hall4,g1,g2,g6,g8,g10,g12,g34,g35,g36,g84,g85,g86,x6,x8,x10,x12⟩
     simp at EH4 HH4 hmbn4 hmbf4 g1 g2 g6 g8 g10 g12 g34 g35 g36 g84 g85 g86 x6 x8 x10 x12
     simp -implicitDefEqProofs[g1,g2,g6,g8,g10,g12,g34,g35,g36,g84,g85,g86,x6,x8,x10,x12]
     refine bB (fun hc2=>?_) (fun hc2=>?_)<;>simp only[decide_eq_true_eq,decide_eq_false_iff_not]at hc2
     ·have hki:k<i:=by omega
      have hpk:pins[k]? =some pins[k]:=List.getElem?_eq_getElem (by omega)
      obtain⟨pf3,hpf3⟩:∃pf,pf=pins[k]:=⟨_,rfl⟩
      rw[←hpf3]at hpk
      have hmem:pf3∈pins.take i:=by
       rw[List.mem_take_iff_getElem]
       exact⟨k,by omega,hpf3.symm⟩
      have hPOk:=hPO pf3 hmem
      obtain⟨p3,f3⟩:=pf3
      simp only at hPOk
      obtain⟨y,rfl⟩:∃y:Nat,p3=y:=⟨p3.toNat,by omega⟩
      have hyl:y<l.length:=by omega
      have hty:l[y]? =some l[y]:=List.getElem?_eq_getElem hyl
      obtain⟨Y,hY⟩:∃Y,Y=l[y]:=⟨_,rfl⟩
      rw[←hY]at hty
      have hgY:l.getD (y:Int).toNat default=Y:=by rw[Int.toNat_natCast,List.getD_eq_getElem?_getD,hty];rfl
      rw[hgY]at hPOk
      have hYin:=nu hPOk.2.2
      have hps4:=hps.ext EH4
      rw[←hm]at hps4
      obtain⟨_,bp',op',cells',r',e,hb4,hd4,hlc4,_⟩:=hps4.at 2 rG hpk
      simp only[Option.some.injEq,Addr.mk.injEq,and_true]at e
      obtain⟨rfl,rfl⟩:=e
      have hkk:(cells'.drop (op+k*2)).take 2=[.int .i64 (y:Int),.int .i64 f3]:=by rw[hd4];rfl
      obtain⟨_,bl',ol',cl',rl',e,hbl4,hdl4,hlcl4,_⟩:=(hs.ext EH4).at 2 jD hti
      simp only[Option.some.injEq,Addr.mk.injEq,and_true]at e
      obtain⟨rfl,rfl⟩:=e
      obtain⟨_,bl2,ol2,cl2,rl2,e,hbl5,hdl5,hlcl5,_⟩:=(hs.ext EH4).at 2 jD hty
      simp only[Option.some.injEq,Addr.mk.injEq,and_true]at e
      obtain⟨rfl,rfl⟩:=e
      rw[hbl4]at hbl5
      simp only[aO.row.injEq,true_and]at hbl5
      obtain rfl:=hbl5
      have hkX:(cl'.drop (ol+q*2)).take 2=[.int .i64 X.size,.int .i64 X.cL]:=by rw[hdl4];rfl
      have hkY:(cl'.drop (ol+y*2)).take 2=[.int .i64 Y.size,.int .i64 Y.cL]:=by rw[hdl5];rfl
      have hap:=uQ v us HM hc X f Y f3 ⟨hXin.2.2.2.1,hXin.2.2.2.2⟩ ⟨hYin.2.2.2.1,hYin.2.2.2.2⟩ (by omega) (by omega) H4 HH4
      simp only[dD,ag]at hap
      have w3:IntKind.wrap .i64 ((k:Int)+1)=((k+1:Nat):Int):=by rw[aA (by omega)];omega
      simp -implicitDefEqProofs[g1,g2,g6,g8,g10,g12,g34,g35,g36,g84,g85,g86,x6,x8,x10,x12,hki,hb4,hkk,hlc4,hcl,hct,hql,hyl,hbl4,hkX,hkY,hlcl4,hlcl5]
      refine hap.mono ?_
      rintro r H5 ⟨E5,rfl⟩
      by_cases hq:dK v X f Y f3=true
      ·simp -implicitDefEqProofs[ae,aC,hq,g1,g2,g6,g8,g10,g12,g34,g35,g36,g84,g85,g86,x6,x8,x10,x12,w3]
       intro _
       have htk:pins.take (k+1)=pins.take k++[((y:Int),f3)]:=by rw[List.take_add_one,hpk];rfl
       refine⟨i-(k+1),by omega,k+1,rfl,by omega,EH4.trans E5,HH4.ext E5,Nat.lt_of_lt_of_le hmbn4 E5.n,by rw[E5.f _ hmbn4];exact hmbf4,?_,by simp,by simp,by simp,by simp,by simp,by simp,by simp,by simp,by simp,by simp,by simp,by simp,by simp[x6],by simp[x8],by simp[x10],by simp[x12]⟩
       rw[htk,List.all_append,hall4]
       simp only[List.all_cons,List.all_nil,Bool.and_true,Bool.true_and,hgY]
       exact hq
      ·have hbad:=finN H5 (EH4.trans E5) (bad (.inr (.inr (by
        rw[←Bool.not_eq_true,List.all_eq_true]
        intro hh
        have:=hh _ hmem
        simp only[hgY]at this
        exact hq this))))
       simp -implicitDefEqProofs[ae,aC,hq,g1,g2,g6,g8,g10,g12,g34,g35,g36,g84,g85,g86,x6,x8,x10,x12,hAl,hAt,hAo]
       intro _
       exact hbad
     ·have e:k=i:=by omega
      subst e
      have hwh:=aqD (q:Int) (pins.take k)
      rw[afH (amK hR hn0)]at hwh
      simp only[Option.map_none]at hwh
      simp -implicitDefEqProofs[g1,g2,g6,g8,g10,g12,g34,g35,g36,g84,g85,g86,x6,x8,x10,x12,hAl,hAt,hA7,hmbf4,hwh,w1]
      have hgo2:gP v us l [] pins=gP v us l (pins.take (k+1)) (pins.drop (k+1)):=by
       rw[hstep,←hz,hgX,htake]
       simp only[Bool.false_eq_true,if_false]
       rw[if_neg (by rw[hsx];simp),if_pos hall4]
      have hents:(du (pins.take (k+1)) 0).toArray=(du (pins.take k) 0).toArray.push {key:=.int .i64 (q:Int),val:=.int .i64 f,born:=k}:=by
       rw[htake,aao]
       simp[du,show min k pins.length=k by omega]
      refine⟨m-(k+1),by omega,k+1,rfl,by omega,EH4.cq hmb0 _,HH4.kp ((Kp.refl H4).set (fun e cs q=>by rw[hmbf4]at q;cases q) _),hmb0,hmbn4,?_,hgo2,?_,?_,by simp,by simp,by simp,by simp,by simp,by simp,by simp,by simp,by simp[x6],by simp[x8],by simp[x10,hA]⟩
      ·simp[hents]
      ·rw[htake]
       intro y hy
       rcases List.mem_append.1 hy with z|z
       ·exact hPO y z
       ·obtain rfl:=List.mem_singleton.1 z
        exact⟨hp0 |> fun z=>by omega,by simp only;omega,by simp only;rw[hgX];exact hsome⟩
      ·rw[htake]
       exact PM hR hn0
  ·have e:i=m:=by omega
   subst e
   have hgo2:gP v us l [] pins=some pins:=by rw[hgo,List.drop_of_length_le (by omega),List.take_of_length_le (by omega)];rfl
   have hfin:=fin H (some pins) EH (fun a ha=>by
    obtain rfl:=Option.some.inj ha
    refine⟨HH,?_,?_,hmbn⟩
    ·exact hs.ext EH
    ·rw[hmbf,hm,List.take_of_length_le (Nat.le_refl _)])
   rw[hgo2]
   simp only[Option.map_some,Option.isSome_some]at hfin ⊢
   have hA:(hc++[Value.slice ad5 l.length c5,Value.map (some mb)]).length=8:=by simp[hcl]
   obtain⟨A,hAA⟩:∃A,A=hc++[Value.slice ad5 l.length c5,Value.map (some mb)]:=⟨_,rfl⟩
   rw[←hAA]at hfin hA x10 ⊢
   have hAt:A.take 8=A:=List.take_of_length_le (by omega)
   have hAo:A.all one=true:=by rw[hAA,hhc];rfl
   simp -implicitDefEqProofs[g1,g2,g6,g8,g10,g34,g35,g36,x6,x8,x10,hA,hAt,hAo]
   exact hfin
 ·rw[if_neg qa]at hset
  rw[hset]
  simp -implicitDefEqProofs[ae,qa]
  intro _
  exact⟨E.trans E1,_,⟨_,_,_,_,_,_,_,_,_,_,_,_,_,_,_,_,_,_,rfl⟩,rfl,fun s hs=>by cases hs⟩
theorem gH.ext {h h':aa} {s:bO} {cs:List Value} (H:gH h s cs) (E:Ext h h'):gH h' s cs:=by
 obtain⟨hc,lv,mb,rfl,h1,h2,h3,h4⟩:=H
 exact⟨hc,lv,mb,rfl,h1.ext E,h2.ext E,by rw[E.f _ h4];exact h3,Nat.lt_of_lt_of_le h4 E.n⟩
theorem gH.dt {h h':aa} {s:bO} {cs:List Value} (H:gH h s cs) {S:List Nat} (C:b8 S h h') (hs:eZ S h):gH h' s cs:=by
 obtain⟨hc,lv,mb,rfl,h1,h2,h3,h4⟩:=H
 exact⟨hc,lv,mb,rfl,h1.dt C hs,h2.dt C hs,C.obj hs h3 h4,Nat.lt_of_lt_of_le h4 C.n⟩
theorem gH.shape {h:aa} {s:bO} {cs:List Value} (H:gH h s cs):nM cs:=by
 obtain⟨hc,lv,mb,rfl,⟨vc,uv,rfl,⟨sv,k,p,rfl,h1,h2,h3⟩,h4⟩,h5,_⟩:=H
 obtain⟨b1,d1,rfl⟩:=h1.shape
 obtain⟨b2,d2,rfl⟩:=h2.shape
 obtain⟨b3,d3,rfl⟩:=h3.shape
 obtain⟨b4,d4,rfl⟩:=h4.shape
 obtain⟨b5,d5,rfl⟩:=h5.shape
 exact⟨_,_,_,_,_,_,_,_,_,_,_,_,_,_,_,_,_,_,rfl⟩
structure qM (s:bO):Prop where
 aL:po s.v s.us
 len:s.l.length≤1073741824
theorem zY (s:bO) (k:Int):eW s k=(jy s.pins k 0).map fun p=>p.2:=by
 rw[afG];rfl
def nR (s:bO) (p:List Int) (k:Nat):Bool:=match eW s k with
 |some x=>decide (p.getD k 0≠x)
 |none=>false
theorem Rj (s:bO) (p:List Int) (k:Nat):dz s p k=(if nR s p k=true then true else if p.getD k 0= -1 then false else if(cD s.v s.us (s.l.getD k default) (p.getD k 0)).isNone=true then true
  else(List.range k).any fun j=>decide (p.getD j 0≠-1)&& !dK s.v (s.l.getD k default) (p.getD k 0) (s.l.getD j default) (p.getD j 0)):=rfl
theorem aqO {s:bO} {p:List Int} {k:Nat} (h:dz s p k=false) (hk:p.getD k 0≠-1):(cD s.v s.us (s.l.getD k default) (p.getD k 0)).isSome=true:=by
 rw[Rj]at h
 split at h
 ·cases h
 ·split at h
  ·cases h
  ·rename_i q
   cases hs:cD s.v s.us (s.l.getD k default) (p.getD k 0)with
   |none=>rw[hs]at q;exact absurd rfl q
   |some l=>rfl
def nQ (s:bO) (p:List Int) (k j:Nat):Bool:=decide (p.getD j 0≠-1)&& !dK s.v (s.l.getD k default) (p.getD k 0) (s.l.getD j default) (p.getD j 0)
def Sr (h:aa) (cs:List Value) (pv:Value) (s:bO) (p:List Int) (k n:Nat) (σ:St):Prop:=∃j:Nat,n=k-j∧j≤k∧Ext h σ.m.h∧(List.range j).any (nQ s p k)=false∧σ.t.get 1=some pv∧σ.t.get 2=some (.int .i64 (k:Nat))∧σ.t.get 3=some (.pointer (some ⟨3,0,some 0⟩))∧σ.t.get 52=some (.int .i64 (k:Nat))∧σ.t.get 53=some (.int .i64 (j:Nat))∧σ.m.x.look 3=some (242,cs)
def Tt (h:aa) (cs:List Value) (pv:Value) (s:bO) (p:List Int) (k:Nat) (σ:St):Prop:=σ.m.h=h∧σ.t.get 1=some pv∧σ.t.get 2=some (.int .i64 (k:Nat))∧σ.t.get 3=some (.pointer (some ⟨3,0,some 0⟩))∧σ.m.x.look 3=some (242,cs)∧nR s p k=false∧p.getD k 0≠-1
theorem anp (s:bO) (M:qM s) (cs:List Value) (pv:Value) (p:List Int) (hlen:p.length=s.l.length) (hpf:∀x∈p,-4611686018427387904≤x∧x≤4611686018427387904) (k:Nat) (hk:k<p.length) (hbefore:∀j,j<k→dz s p j=false) (h:aa) (H:gH h s cs) (hp:aZ h pv p):
  ai PP 223 [.agg ⟨cs⟩,pv,.int .i64 (k:Nat)] h (fun r h'=>Ext h h'∧r= .bool (dz s p k)):=by
 refine az mix acd Wr rfl (by show 3≤86;decide) ajq ?_
 simp only[wV,Tryz.f223]
 have hMl:=M.len
 have hp0:=hp
 obtain⟨ad6,c6,rfl⟩:=hp.shape
 obtain⟨C,hC⟩:∃C,C=cs:=⟨_,rfl⟩
 have hCs:=H.shape
 have hCl:C.length=8:=by obtain⟨a1,n1,c1,g,r,a2,n2,c2,a3,n3,c3,a4,n4,c4,a5,n5,c5,mb,rfl⟩:=hCs;rw[hC];rfl
 have hCo:C.all one=true:=by obtain⟨a1,n1,c1,g,r,a2,n2,c2,a3,n3,c3,a4,n4,c4,a5,n5,c5,mb,rfl⟩:=hCs;rw[hC];rfl
 have hH:fJ h s.v s.us (C.take 6):=by
  obtain⟨hc,lv,mb,e,h1,_⟩:=id H
  obtain⟨vc,uv,e2,⟨sv,kk,pp,e3,_⟩,_⟩:=id h1
  have:C.take 6=hc:=by rw[hC,e,e2,e3];rfl
  rw[this];exact h1
 obtain⟨hc,lv,mb,e,h1,h2,h3,h4⟩:=id H
 have hdr:C.drop 6=lv::[.map (some mb)]:=by
  obtain⟨vc,uv,e2,⟨sv,kk,pp,e3,_⟩,_⟩:=id h1
  rw[hC,e,e2,e3];rfl
 have hdr7:C.drop 7=[.map (some mb)]:=by
  obtain⟨vc,uv,e2,⟨sv,kk,pp,e3,_⟩,_⟩:=id h1
  rw[hC,e,e2,e3];rfl
 obtain⟨ad5,c5,rfl⟩:=h2.shape
 obtain⟨hc6,hh6⟩:∃x,x=C.take 6:=⟨_,rfl⟩
 rw[←hh6]at hH
 rw[←hC]
 clear e hC hCs H
 have hkt:p[k]? =some p[k]:=List.getElem?_eq_getElem hk
 obtain⟨f,hf⟩:∃f,f=p[k]:=⟨_,rfl⟩
 rw[←hf]at hkt
 have hgf:p.getD k 0=f:=by rw[List.getD_eq_getElem?_getD,hkt];rfl
 have hfb:=hpf f (List.mem_of_getElem? hkt)
 obtain⟨_,bp,op,wp,cells,r,rfl,hb,hd,hlc,hbn⟩:=hp0.at 1 V.cY hkt
 rw[Nat.mul_one]at hd
 have hlc':op+k+1≤cells.length:=by omega
 have hkl:k<s.l.length:=by omega
 have hti:s.l[k]? =some s.l[k]:=List.getElem?_eq_getElem hkl
 obtain⟨X,hX⟩:∃X,X=s.l[k]:=⟨_,rfl⟩
 rw[←hX]at hti
 have hgX:s.l.getD k default=X:=by rw[List.getD_eq_getElem?_getD,hti];rfl
 obtain⟨_,bl,ol,cl,rl,rfl,hbl,hdl,hlcl,hbln⟩:=h2.at 2 jD hti
 have hkX:(cl.drop (ol+k*2)).take 2=[.int .i64 X.size,.int .i64 X.cL]:=by rw[hdl];rfl
 have hlook:(l7 3 3 (.int .i64 (k:Int)) (du s.pins 0).toArray true).aJ PP=some (.tuple #[.int .i64 ((eW s k).getD 0),.bool (eW s k).isSome]):=by
  rw[yS,zY,Option.isSome_map]
 have hbp:nR s p k=match eW s k with
  |some x=>decide (f≠x)
  |none=>false:=by unfold nR;rw[hgf]
 have hgoal:=Rj s p k
 rw[hgf,hgX]at hgoal
 refine rX 3 (Tt h C (.slice (some ⟨bp,op,none⟩) p.length c6) s p k) ?_ ?_
 ·simp only[oc,oa]
  cases hpin:eW s k with
  |none=>
   rw[hpin]at hlook hbp
   have hb0:nR s p k=false:=hbp
   rw[hb0]at hgoal
   simp only[Option.getD_none,Option.isSome_none]at hlook
   by_cases q1:f= -1
   ·have hw:dz s p k=false:=by rw[hgoal];simp[q1]
    simp -implicitDefEqProofs[hCl,hdr7,h3,hlook,hk,hb,hd,hlc',ab,q1,hw]
    exact Ext.bu h
   ·simp -implicitDefEqProofs[hCl,hdr7,h3,hlook,hk,hb,hd,hlc',ab,q1]
    exact⟨rfl,by simp,by simp,by simp,by simp,hb0,by rw[hgf];exact q1⟩
  |some x=>
   rw[hpin]at hlook hbp
   simp only[Option.getD_some,Option.isSome_some]at hlook
   by_cases q0:f=x
   ·have hb0:nR s p k=false:=by rw[hbp];simp[q0]
    rw[hb0]at hgoal
    by_cases q1:f= -1
    ·have hw:dz s p k=false:=by rw[hgoal];simp[q1]
     have q2:x= -1:=by omega
     simp -implicitDefEqProofs[hCl,hdr7,h3,hlook,hk,hb,hd,hlc',ab,q1,q2,hw]
     exact Ext.bu h
    ·rw[q0]at q1 hd
     simp -implicitDefEqProofs[hCl,hdr7,h3,hlook,hk,hb,hd,hlc',ab,q1]
     exact⟨rfl,by simp,by simp,by simp,by simp,hb0,by rw[hgf,q0];exact q1⟩
   ·have hb0:nR s p k=true:=by rw[hbp];simp[q0]
    have hw:dz s p k=true:=by rw[hgoal,hb0];rfl
    simp -implicitDefEqProofs[hCl,hdr7,h3,hlook,hk,hb,hd,hlc',ab,q0,hw]
    exact Ext.bu h
 ·rintro⟨T,⟨x,H2⟩⟩ ⟨e,g1,g2,g3,x3,hb0,q1⟩
  replace e:h=H2:=e.symm
  subst e
  simp at g1 g2 g3 x3
  rw[hgf]at q1
  rw[hb0]at hgoal
  simp only[Bool.false_eq_true,if_false]at hgoal
  rw[if_neg q1]at hgoal
  have hse:=sW s.v s.us M.aL hc6 X f hfb h hH
  simp only[dD,ag]at hse
  have hc6l:C.take 6=hc6:=hh6.symm
  simp only[pg,my]
  simp -implicitDefEqProofs[g1,g2,g3,x3,hCl,hc6l,hdr,hk,hb,hd,hlc',ab,hkl,hbl,hkX,hlcl]
  refine hse.mono ?_
  rintro r H3 ⟨E3,R⟩
  cases hsx:cD s.v s.us X f with
  |none=>
   rw[hsx]at R hgoal
   subst R
   have hw:dz s p k=true:=by rw[hgoal];rfl
   simp -implicitDefEqProofs[aC,hw]
   intro _
   exact E3
  |some ls=>
   rw[hsx]at R hgoal
   obtain⟨sl,Ssl,rfl⟩:=R
   obtain⟨ad7,c7,rfl⟩:=Ssl.shape
   simp only[Option.isNone_some,Bool.false_eq_true,if_false]at hgoal
   have hsome:(cD s.v s.us X f).isSome=true:=by rw[hsx];rfl
   have hXin:=nu hsome
   have hgoal2:dz s p k=(List.range k).any (nQ s p k):=by
    rw[hgoal];unfold nQ;rw[hgf,hgX]
   simp -implicitDefEqProofs[aC,g1,g2,g3,x3]
   intro _
   refine bD (Sr h C (.slice (some ⟨bp,op,none⟩) p.length c6) s p k) _ ⟨0,rfl,by omega,E3,rfl,by simp,by simp,by simp,by simp,by simp,by simp[x3]⟩ ?_
   clear g1 g2 g3 x3
   rintro n ⟨T,⟨x,H4⟩⟩ ⟨j,rfl,hj,E4,hany,g1,g2,g3,g52,g53,x3⟩
   simp at E4 g1 g2 g3 g52 g53 x3
   simp -implicitDefEqProofs[g1,g2,g3,g52,g53,x3]
   refine bB (fun hc2=>?_) (fun hc2=>?_)<;>simp only[decide_eq_true_eq,decide_eq_false_iff_not]at hc2
   ·have hjk:j<k:=by omega
    have w1:IntKind.wrap .i64 ((j:Int)+1)=((j+1:Nat):Int):=by rw[aA (by omega)];omega
    have hjp:j<p.length:=by omega
    have hjt:p[j]? =some p[j]:=List.getElem?_eq_getElem hjp
    obtain⟨y,hy⟩:∃y,y=p[j]:=⟨_,rfl⟩
    rw[←hy]at hjt
    have hgy:p.getD j 0=y:=by rw[List.getD_eq_getElem?_getD,hjt];rfl
    obtain⟨_,bp',op',wp',cells',r',e,hb4,hd4,hlc4,_⟩:=(cm.ext hp0 E4).at 1 V.cY hjt
    simp only[Option.some.injEq,Addr.mk.injEq,and_true]at e
    obtain⟨rfl,rfl⟩:=e
    rw[Nat.mul_one]at hd4
    have hlc4':op+j+1≤cells'.length:=by omega
    have hb4k:cells'=cells:=by rw[E4.f _ hbn,hb]at hb4;simp only[aO.row.injEq,true_and]at hb4;exact hb4.2.symm
    have hrow:H4.f bp= .row wp 3 cells:=by rw[E4.f _ hbn,hb]
    rw[hb4k]at hd4 hlc4'
    by_cases q2:y= -1
    ·have hbj:nQ s p k j=false:=by unfold nQ;rw[hgy,q2];rfl
     simp -implicitDefEqProofs[g1,g2,g3,g52,g53,x3,hjp,hrow,hd4,hlc4',ab,q2,w1]
     refine⟨k-(j+1),by omega,j+1,rfl,by omega,E4,?_,by simp,by simp,by simp,by simp,by simp,by simp[x3]⟩
     rw[List.range_succ,List.any_append,hany];simp[hbj]
    ·have hjl:j<s.l.length:=by omega
     have htj:s.l[j]? =some s.l[j]:=List.getElem?_eq_getElem hjl
     obtain⟨Y,hY⟩:∃Y,Y=s.l[j]:=⟨_,rfl⟩
     rw[←hY]at htj
     have hgY:s.l.getD j default=Y:=by rw[List.getD_eq_getElem?_getD,htj];rfl
     have hsY:=aqO (hbefore j hjk) (by rw[hgy];exact q2)
     rw[hgy,hgY]at hsY
     have hYin:=nu hsY
     have hbj:nQ s p k j= !dK s.v X f Y y:=by unfold nQ;rw[hgy,hgf,hgX,hgY];simp[q2]
     have hrl:H4.f bl= .row false 29 cl:=by rw[E4.f _ hbln,hbl]
     obtain⟨_,bl',ol',cl',rl',e,hbl5,hdl5,hlcl5,_⟩:=h2.at 2 jD htj
     simp only[Option.some.injEq,Addr.mk.injEq,and_true]at e
     obtain⟨rfl,rfl⟩:=e
     rw[hbl]at hbl5
     simp only[aO.row.injEq,true_and]at hbl5
     obtain rfl:=hbl5
     have hkY:(cl.drop (ol+j*2)).take 2=[.int .i64 Y.size,.int .i64 Y.cL]:=by rw[hdl5];rfl
     have hap:=uQ s.v s.us M.aL hc6 X f Y y ⟨hXin.2.2.2.1,hXin.2.2.2.2⟩ ⟨hYin.2.2.2.1,hYin.2.2.2.2⟩ (by omega) (by omega) H4 (hH.ext E4)
     simp only[dD,ag]at hap
     simp -implicitDefEqProofs[g1,g2,g3,g52,g53,x3,hjp,hk,hrow,hd4,hd,hlc',hlc4',ab,q2,hCl,hc6l,hdr,hkl,hjl,hrl,hkX,hkY,hlcl,hlcl5]
     refine hap.mono ?_
     rintro r H5 ⟨E5,rfl⟩
     by_cases hq:dK s.v X f Y y=true
     ·simp -implicitDefEqProofs[aC,hq,g1,g2,g3,g52,g53,x3,w1]
      intro _
      refine⟨k-(j+1),by omega,j+1,rfl,by omega,E4.trans E5,?_,by simp,by simp,by simp,by simp,by simp,by simp[x3]⟩
      rw[List.range_succ,List.any_append,hany];simp[hbj,hq]
     ·have hw:dz s p k=true:=by
       rw[hgoal2,List.any_eq_true]
       exact⟨j,List.mem_range.2 hjk,by rw[hbj];simp[hq]⟩
      simp -implicitDefEqProofs[aC,hq,hw]
      intro _
      exact E4.trans E5
   ·have e:j=k:=by omega
    subst e
    have hw:dz s p j=false:=by rw[hgoal2,hany]
    simp -implicitDefEqProofs[g1,g2,g3,g52,g53,x3,hw]
    exact E4
theorem nM.len {C:List Value} (H:nM C):C.length=8:=by obtain⟨a1,n1,c1,g,r,a2,n2,c2,a3,n3,c3,a4,n4,c4,a5,n5,c5,mb,rfl⟩:=H;rfl
theorem nM.one {C:List Value} (H:nM C):C.all one=true:=by obtain⟨a1,n1,c1,g,r,a2,n2,c2,a3,n3,c3,a4,n4,c4,a5,n5,c5,mb,rfl⟩:=H;rfl
theorem KJ {v:ah} {l:List aU} {pins:List (Int×Int)} {s:bO} (h:eu v l pins=some s):s.v=v∧s.us=cJ v∧s.l=l∧aM v=true∧iG l=true:=by
 unfold eu at h
 split at h
 ·rename_i q
  rw[Bool.and_eq_true]at q
  cases hg:gP v (cJ v) l [] pins with
  |none=>rw[hg]at h;cases h
  |some a=>
   rw[hg]at h
   simp only[Option.map_some,Option.some.injEq]at h
   subst h
   exact⟨rfl,rfl,rfl,q.1,q.2⟩
 ·cases h
theorem uh {v:ah} (M:aM v=true):(cJ v).length=v.af.length:=by rw[←rW M,qG]
theorem zj {v:ah} {l:List aU} {pins:List (Int×Int)} {s:bO} (h:eu v l pins=some s):qM s:=by
 obtain⟨rv,ru,rl,M,A⟩:=KJ h
 have F:=j6 M
 have:=F.len
 refine⟨⟨by rw[rv];exact F,by rw[ru,uh M];omega⟩,?_⟩
 rw[rl]
 unfold iG at A
 rw[Bool.and_eq_true]at A
 have:=of_decide_eq_true A.1
 omega
def yV (s:bO) (p:List Int) (k:Nat):Prop:=∀j,j<k→dz s p j=false
theorem aaK {s:bO} {p:List Int} {k:Nat} (hk:k<p.length) (hw:dz s p k=true) (hb:yV s p k):l8 s p=k:=by
 unfold l8
 have:(List.range p.length).find? (dz s p)=some k:=by
  rw[List.find?_range_eq_some]
  exact⟨hw,List.mem_range.2 hk,fun j hj=>by rw[hb j hj];rfl⟩
 rw[this]
theorem aaL {s:bO} {p:List Int} (hb:yV s p p.length):l8 s p= -1:=by
 unfold l8
 have:(List.range p.length).find? (dz s p)=none:=by
  rw[List.find?_range_eq_none]
  intro j hj
  rw[hb j hj];rfl
 rw[this]
def Sd (h:aa) (cs:List Value) (pv:Value) (s:bO) (p:List Int) (m n:Nat) (σ:St):Prop:=∃k:Nat,n=m-k∧k≤m∧Ext h σ.m.h∧yV s p k∧σ.t.get 1=some pv∧σ.t.get 2=some (.pointer (some ⟨2,0,some 0⟩))∧σ.t.get 7=some (.int .i64 (m:Nat))∧σ.t.get 8=some (.int .i64 (k:Nat))∧σ.m.x.look 2=some (242,cs)
theorem aaM (s:bO) (M:qM s) (cs:List Value) (pv:Value) (p:List Int) (hlen:p.length=s.l.length) (hpf:∀x∈p,-4611686018427387904≤x∧x≤4611686018427387904) (h:aa) (H:gH h s cs) (hp:aZ h pv p):
  ai PP 171 [.agg ⟨cs⟩,pv] h (fun r h'=>Ext h h'∧r= .int .i64 (l8 s p)):=by
 refine az mix abF VM rfl (by show 2≤17;decide) aiT ?_
 simp only[vW,Tryz.f171]
 have hMl:=M.len
 have hw:=fun k hk hb h' E=>anp s M cs pv p hlen hpf k hk hb h' (H.ext (h':=h') E) (cm.ext hp E)
 have hCs:=H.shape
 have hCl:=hCs.len
 have hCo:=hCs.one
 have hCt:cs.take 8=cs:=List.take_of_length_le (by omega)
 obtain⟨ad,c,rfl⟩:=hp.shape
 obtain⟨m,hm⟩:∃m,m=p.length:=⟨_,rfl⟩
 rw[←hm]at hw
 simp -implicitDefEqProofs[hCl]
 rw[←hm]
 refine bD (Sd h cs (.slice ad m c) s p m) _ ⟨0,rfl,by omega,Ext.bu h,(fun j hj=>by omega),by simp,by simp,by simp,by simp,by simp⟩ ?_
 rintro n ⟨T,⟨x,G⟩⟩ ⟨k,rfl,hk,E,hb,g1,g2,g7,g8,x2⟩
 simp at E g1 g2 g7 g8 x2
 simp -implicitDefEqProofs[g1,g2,g7,g8,x2]
 refine bB (fun hc2=>?_) (fun hc2=>?_)<;>simp only[decide_eq_true_eq,decide_eq_false_iff_not]at hc2
 ·have hkm:k<m:=by omega
  have w1:IntKind.wrap .i64 ((k:Int)+1)=((k+1:Nat):Int):=by rw[aA (by omega)];omega
  simp -implicitDefEqProofs[g1,g2,g7,g8,x2,hCl,hCt]
  refine(hw k hkm hb G E).mono ?_
  rintro r G2 ⟨E2,rfl⟩
  by_cases q:dz s p k=true
  ·have hf:=aaK (by omega) q hb
   simp -implicitDefEqProofs[ae,q,g1,g2,g7,g8,x2]
   intro _
   exact⟨E.trans E2,hf.symm⟩
  ·simp -implicitDefEqProofs[ae,q,g1,g2,g7,g8,x2,w1]
   intro _
   refine⟨m-(k+1),by omega,k+1,rfl,by omega,E.trans E2,fun j hj=>?_,by simp,by simp,by simp,by simp,by simp[x2]⟩
   rcases Nat.lt_or_ge j k with z|z
   ·exact hb j z
   ·have:j=k:=by omega
    subst this
    simpa using q
 ·have e:k=m:=by omega
  rw[e,hm]at hb
  have hf:=aaL hb
  simp -implicitDefEqProofs[g1,g2,g7,g8,x2]
  exact⟨E,hf.symm⟩
def um (v:ah) (l:List aU) (p:List Int) (pins:List (Int×Int)):Int:=match eu v l pins with
 |some s=>if p.length=l.length then l8 s p else l.length
 |none=>l.length
theorem afX (v:ah) (l:List aU) (p:List Int) (pins:List (Int×Int)):ix v l p pins=decide (um v l p pins= -1):=by
 unfold ix um
 cases eu v l pins with
 |none=>rfl
 |some s=>
  simp only
  by_cases q:p.length=l.length
  ·simp only[q,if_true]
  ·simp only[q,if_false]
structure iF (h:aa) (v:ah) (l:List aU) (pins:List (Int×Int)) (cs:List Value) (lv pv:Value):Prop where
 may:aM v=true
 ll:l.length≤1073741824
 pl:pins.length≤1073741824
 pf:∀p∈pins,-4611686018427387904≤p.2∧p.2≤4611686018427387904
 cK:dJ h v cs
 ls:aF 29 ag h lv l
 ps:aF 69 iz h pv pins
theorem iF.ext {h h':aa} {v:ah} {l:List aU} {pins:List (Int×Int)} {cs:List Value} {lv pv:Value} (H:iF h v l pins cs lv pv) (E:Ext h h'):iF h' v l pins cs lv pv:=
 ⟨H.may,H.ll,H.pl,H.pf,H.cK.ext E,H.ls.ext E,H.ps.ext E⟩
theorem iF.zk {h:aa} {v:ah} {l:List aU} {pins:List (Int×Int)} {cs:List Value} {lv pv:Value} (H:iF h v l pins cs lv pv):ai PP 170 [.agg ⟨cs⟩,lv,pv] h (sa h (eu v l pins)):=
 alI v H.may cs lv pv l pins H.ll H.pl H.pf h H.cK H.ls H.ps
theorem dJ.shape {h:aa} {v:ah} {cs:List Value} (H:dJ h v cs):∃a1 n1 c1 g r a2 n2 c2 a3 n3 c3,cs=[.slice a1 n1 c1,.int .i64 g,.int .i64 r,.slice a2 n2 c2,.slice a3 n3 c3]:=by
 obtain⟨s,k,p,rfl,h1,h2,h3⟩:=H
 obtain⟨b1,d1,rfl⟩:=h1.shape
 obtain⟨b2,d2,rfl⟩:=h2.shape
 obtain⟨b3,d3,rfl⟩:=h3.shape
 exact⟨_,_,_,_,_,_,_,_,_,_,_,rfl⟩
theorem dJ.len {h:aa} {v:ah} {cs:List Value} (H:dJ h v cs):cs.length=5:=by obtain⟨a1,n1,c1,g,r,a2,n2,c2,a3,n3,c3,rfl⟩:=H.shape;rfl
theorem dJ.one {h:aa} {v:ah} {cs:List Value} (H:dJ h v cs):cs.all one=true:=by obtain⟨a1,n1,c1,g,r,a2,n2,c2,a3,n3,c3,rfl⟩:=H.shape;rfl
theorem amr (v:ah) (l:List aU) (pins:List (Int×Int)) (p:List Int) (cs:List Value) (lv pv fv:Value) (hpf:∀x∈p,-4611686018427387904≤x∧x≤4611686018427387904) (h:aa) (H:iF h v l pins cs lv pv) (hp:aZ h fv p):
  ai PP 124 [.agg ⟨cs⟩,lv,fv,pv] h (fun r h'=>Ext h h'∧r= .int .i64 (um v l p pins)):=by
 refine az mix aba Vi rfl (by show 4≤32;decide) aip ?_
 simp only[vr,Tryz.f124]
 have hin:=H.zk
 have hcl:=H.cK.len
 have hct:cs.take 5=cs:=List.take_of_length_le (by omega)
 have hll:=H.ll
 obtain⟨ad,c,rfl⟩:=hp.shape
 obtain⟨ad2,c2,rfl⟩:=H.ls.shape
 obtain⟨ad3,c3,rfl⟩:=H.ps.shape
 unfold um
 simp -implicitDefEqProofs[hcl,hct]
 refine hin.mono ?_
 rintro r G ⟨E,C,hC,rfl,hS⟩
 have hCl:=hC.len
 have hCo:=hC.one
 have hCt:C.take 8=C:=List.take_of_length_le (by omega)
 cases q:eu v l pins with
 |none=>
  simp -implicitDefEqProofs[ae,hCl,hCo]
  intro _
  exact E
 |some s=>
  have hSet:=hS s q
  obtain⟨rv,ru,rl,M,A⟩:=KJ q
  by_cases q2:p.length=l.length
  ·have q2':(p.length:Int)=(l.length:Int):=by omega
   have hf:=aaM s (zj q) C (.slice ad p.length c) p (by rw[rl];exact q2) hpf G hSet (cm.ext hp E)
   rw[q2]at hf
   simp -implicitDefEqProofs[ae,hCl,hCo,hCt,q2]
   intro _
   refine hf.mono ?_
   rintro r G2 ⟨E2,rfl⟩
   simp -implicitDefEqProofs[ae]
   intro _
   exact E.trans E2
  ·have q2':¬(p.length:Int)=(l.length:Int):=by omega
   simp -implicitDefEqProofs[ae,hCl,hCo,hCt,q2,q2']
   intro _
   exact E
theorem PC (v:ah) (l:List aU) (pins:List (Int×Int)) (p:List Int) (cs:List Value) (lv pv fv:Value) (hpf:∀x∈p,-4611686018427387904≤x∧x≤4611686018427387904) (h:aa) (H:iF h v l pins cs lv pv) (hp:aZ h fv p):
  ai PP 80 [.agg ⟨cs⟩,lv,fv,pv] h (fun r h'=>Ext h h'∧r= .bool (ix v l p pins)):=by
 refine az mix adw XE rfl (by show 4≤15;decide) akx ?_
 simp only[yn,Tryz.f80]
 have hw:=amr v l pins p cs lv pv fv hpf h H hp
 have hcl:=H.cK.len
 have hct:cs.take 5=cs:=List.take_of_length_le (by omega)
 obtain⟨ad,c,rfl⟩:=hp.shape
 obtain⟨ad2,c2,rfl⟩:=H.ls.shape
 obtain⟨ad3,c3,rfl⟩:=H.ps.shape
 rw[afX]
 simp -implicitDefEqProofs[hcl,hct]
 refine hw.mono ?_
 rintro r G ⟨E,rfl⟩
 simp -implicitDefEqProofs[ae]
 intro _
 exact E
theorem amg (v:ah) (l:List aU) (pins:List (Int×Int)) (cs:List Value) (lv pv:Value) (h:aa) (H:iF h v l pins cs lv pv):
  ai PP 249 [.agg ⟨cs⟩,lv,pv] h (fun r h'=>Ext h h'∧r= .bool (eu v l pins).isSome):=by
 refine az mix acm Wz rfl (by show 3≤17;decide) ajy ?_
 simp only[xb,Tryz.f249]
 have hin:=H.zk
 have hcl:=H.cK.len
 have hct:cs.take 5=cs:=List.take_of_length_le (by omega)
 obtain⟨ad2,c2,rfl⟩:=H.ls.shape
 obtain⟨ad3,c3,rfl⟩:=H.ps.shape
 simp -implicitDefEqProofs[hcl,hct]
 refine hin.mono ?_
 rintro r G ⟨E,C,hC,rfl,hS⟩
 have hCl:=hC.len
 have hCo:=hC.one
 simp -implicitDefEqProofs[ae,hCl,hCo]
 intro _
 exact E
def Ti (h:aa) (lv pv:Value) (p:List Int) (m n:Nat) (σ:St):Prop:=∃k:Nat,n=m-k∧k≤m∧σ.m.h=h∧(p.take k).all (fun f=>decide (0≤f))=true∧σ.t.get 0=some lv∧σ.t.get 1=some pv∧σ.t.get 7=some pv∧σ.t.get 8=some (.int .i64 (m:Nat))∧σ.t.get 9=some (.int .i64 (k:Nat))
theorem yZ (l:List aU) (p:List Int) (lv pv:Value) (hpl:p.length≤1073741824) (hll:l.length≤1073741824) (h:aa) (hl:pC h lv l) (hp:aZ h pv p):ai PP 79 [lv,pv] h (fun r h'=>h'=h∧r= .bool (jW l p)):=by
 refine az mix adv XD rfl (by show 2≤21;decide) akw ?_
 simp only[ym,Tryz.f79]
 obtain⟨ad,c,rfl⟩:=hp.shape
 obtain⟨ad2,c2,rfl⟩:=hl.shape
 obtain⟨m,hm⟩:∃m,m=p.length:=⟨_,rfl⟩
 unfold jW
 rw[←hm]at hp ⊢
 simp -implicitDefEqProofs
 refine bD (Ti h (.slice ad2 l.length c2) (.slice ad m c) p m) _ ⟨0,rfl,by omega,rfl,by simp,by simp,by simp,by simp,by simp,by simp⟩ ?_
 rintro n ⟨T,⟨x,G⟩⟩ ⟨k,rfl,hk,e,aL,g0,g1,g7,g8,g9⟩
 simp at e g0 g1 g7 g8 g9
 subst e
 simp -implicitDefEqProofs[g0,g1,g7,g8,g9]
 refine bB (fun hc2=>?_) (fun hc2=>?_)<;>simp only[decide_eq_true_eq,decide_eq_false_iff_not]at hc2
 ·have hkm:k<m:=by omega
  have w1:IntKind.wrap .i64 ((k:Int)+1)=((k+1:Nat):Int):=by rw[aA (by omega)];omega
  have hkt:p[k]? =some p[k]:=List.getElem?_eq_getElem (by omega)
  obtain⟨f,hf⟩:∃f,f=p[k]:=⟨_,rfl⟩
  rw[←hf]at hkt
  obtain⟨_,bp,op,wp,cells,r,rfl,hb,hd,hlc,hbn⟩:=hp.at 1 V.cY hkt
  rw[Nat.mul_one]at hd
  have hlc':op+k+1≤cells.length:=by omega
  by_cases q:f<0
  ·have hA:p.all (fun f=>decide (0≤f))=false:=by
    rw[←Bool.not_eq_true,List.all_eq_true]
    intro hh
    have:=of_decide_eq_true (hh f (List.mem_of_getElem? hkt))
    omega
   simp -implicitDefEqProofs[g0,g1,g7,g8,g9,hkm,hb,hd,hlc',ab,q,hA]
  ·simp -implicitDefEqProofs[g0,g1,g7,g8,g9,hkm,hb,hd,hlc',ab,q,w1]
   refine⟨m-(k+1),by omega,k+1,rfl,by omega,rfl,?_,by simp,by simp,by simp,by simp,by simp⟩
   rw[List.take_add_one,hkt,List.all_append,aL]
   simp;omega
 ·have e:k=m:=by omega
  rw[e,hm,List.take_length]at aL
  rw[aL]
  by_cases q:l.length=m
  ·have q':(l.length:Int)=(m:Int):=by omega
   simp -implicitDefEqProofs[g0,g1,g7,g8,g9,q]
  ·have q':¬(l.length:Int)=(m:Int):=by omega
   simp -implicitDefEqProofs[g0,g1,g7,g8,g9,q,q']
def pb (l:List aU) (p:List Int) (k:Nat):Int:=if 0≤p.getD k 0 then(l.getD k default).size else 0
def kV (l:List aU) (p:List Int) (k:Nat):Int:=((List.range k).map (pb l p)).foldl (· + ·) 0
theorem Qi (l:List aU) (p:List Int) (k:Nat):kV l p (k+1)=kV l p k+pb l p k:=by
 unfold kV
 rw[List.range_succ,List.map_append,List.foldl_append]
 rfl
theorem Uy {l:List aU} (h:iG l=true) {k:Nat} (hk:k<l.length):1≤(l.getD k default).size∧(l.getD k default).size≤8:=by
 unfold iG at h
 rw[Bool.and_eq_true,List.all_eq_true]at h
 have hm:l.getD k default∈l:=by
  rw[List.getD_eq_getElem?_getD,List.getElem?_eq_getElem hk]
  exact List.getElem_mem hk
 have:=h.2 _ hm
 obtain⟨X,hX⟩:∃X,X=l.getD k default:=⟨_,rfl⟩
 rw[←hX]at this ⊢
 unfold dM at this
 simp at this
 omega
theorem Qh {l:List aU} (p:List Int) (h:iG l=true):∀k,k≤l.length→0≤kV l p k∧kV l p k≤8*k:=by
 intro k
 induction k with
 |zero=>intro _;simp[kV]
 |succ k ih=>
  intro hk
  have h1:=ih (by omega)
  have h2:=Uy h (show k<l.length by omega)
  rw[Qi]
  unfold pb
  split<;>omega
theorem anf (l:List aU) (p:List Int):jH l p=if l.length=p.length∧iG l=true then kV l p p.length else 0:=rfl
def R8 (h:aa) (lv pv:Value) (l:List aU) (p:List Int) (m n:Nat) (σ:St):Prop:=∃k:Nat,n=m-k∧k≤m∧σ.m.h=h∧σ.t.get 0=some lv∧σ.t.get 5=some (.int .i64 (kV l p k))∧σ.t.get 18=some pv∧σ.t.get 19=some (.int .i64 (m:Nat))∧σ.t.get 20=some (.int .i64 (k:Nat))
theorem Al (l:List aU) (p:List Int) (lv pv:Value) (hpl:p.length≤1073741824) (hll:l.length≤1073741824) (h:aa) (hl:pC h lv l) (hp:aZ h pv p):ai PP 153 [lv,pv] h (fun r h'=>h'=h∧r= .int .i64 (jH l p)):=by
 refine az mix abl Vt rfl (by show 2≤36;decide) aiA ?_
 simp only[vD,Tryz.f153]
 have aL:=Bh lv l hll h hl
 obtain⟨ad,c,rfl⟩:=hp.shape
 obtain⟨ad2,c2,rfl⟩:=hl.shape
 obtain⟨m,hm⟩:∃m,m=p.length:=⟨_,rfl⟩
 rw[anf]
 rw[←hm]at hp ⊢
 by_cases q1:l.length=m
 ·have q1':(l.length:Int)=(m:Int):=by omega
  rw[q1]at aL hl
  simp -implicitDefEqProofs[q1]
  refine aL.mono ?_
  rintro r h' ⟨e,rfl⟩
  replace e:=e.symm
  subst e
  by_cases q2:iG l=true
  ·simp -implicitDefEqProofs[ae,q2]
   intro _
   refine bD (R8 h (.slice ad2 m c2) (.slice ad m c) l p m) _ ⟨0,rfl,by omega,rfl,by simp,by simp[kV],by simp,by simp,by simp⟩ ?_
   rintro n ⟨T,⟨x,G⟩⟩ ⟨k,rfl,hk,e,g0,g5,g18,g19,g20⟩
   simp at e g0 g5 g18 g19 g20
   subst e
   simp -implicitDefEqProofs[g0,g5,g18,g19,g20]
   refine bB (fun hc2=>?_) (fun hc2=>?_)<;>simp only[decide_eq_true_eq,decide_eq_false_iff_not]at hc2
   ·have hkm:k<m:=by omega
    have w1:IntKind.wrap .i64 ((k:Int)+1)=((k+1:Nat):Int):=by rw[aA (by omega)];omega
    have hkt:p[k]? =some p[k]:=List.getElem?_eq_getElem (by omega)
    obtain⟨f,hf⟩:∃f,f=p[k]:=⟨_,rfl⟩
    rw[←hf]at hkt
    have hgf:p.getD k 0=f:=by rw[List.getD_eq_getElem?_getD,hkt];rfl
    obtain⟨_,bp,op,wp,cells,r,rfl,hb,hd,hlc,hbn⟩:=hp.at 1 V.cY hkt
    rw[Nat.mul_one]at hd
    have hlc':op+k+1≤cells.length:=by omega
    have hsu:=Qi l p k
    have hle:=Qh p q2 (k+1) (by omega)
    have hle0:=Qh p q2 k (by omega)
    by_cases q:0≤f
    ·have hti:l[k]? =some l[k]:=List.getElem?_eq_getElem (by omega)
     obtain⟨X,hX⟩:∃X,X=l[k]:=⟨_,rfl⟩
     rw[←hX]at hti
     have hgX:l.getD k default=X:=by rw[List.getD_eq_getElem?_getD,hti];rfl
     rw[←q1]at hl
     obtain⟨_,bl,ol,wl,cl,rl,rfl,hbl,hdl,hlcl,hbln⟩:=hl.at 2 jD hti
     have hdl':cl.drop (ol+k*2)= .int .i64 X.size:: .int .i64 X.cL::rl:=hdl
     have hlcl':ol+k*2+1≤cl.length:=by omega
     have hsa:pb l p k=X.size:=by unfold pb;rw[hgf,if_pos q,hgX]
     rw[hsa]at hsu
     have w2:IntKind.wrap .i64 (kV l p k+X.size)=kV l p (k+1):=by rw[hsu];exact aA (by omega)
     simp -implicitDefEqProofs[g0,g5,g18,g19,g20,hkm,hb,hd,hlc',ab,q,w1,w2,hbl,hdl',hlcl']
     exact⟨m-(k+1),by omega,k+1,rfl,by omega,rfl,by simp,by simp,by simp,by simp,by simp⟩
    ·have hsa:pb l p k=0:=by unfold pb;rw[hgf,if_neg q]
     rw[hsa,Int.add_zero]at hsu
     simp -implicitDefEqProofs[g0,g5,g18,g19,g20,hkm,hb,hd,hlc',ab,q,w1]
     exact⟨m-(k+1),by omega,k+1,rfl,by omega,rfl,by simp,by simp[hsu],by simp,by simp,by simp⟩
   ·have e:k=m:=by omega
    subst e
    simp -implicitDefEqProofs[g0,g5,g18,g19,g20]
  ·simp -implicitDefEqProofs[ae,q2]
 ·have q1':¬(l.length:Int)=(m:Int):=by omega
  simp -implicitDefEqProofs[q1,q1']
def aH (o:aN):List Value:=[.int .i64 o.id,.int .i64 o.state,.int .i64 o.aR.size,.int .i64 o.aR.cL,.int .i64 o.gT,.int .i64 o.first]
theorem fx (o:aN):(aH o).length=6:=rfl
theorem qZ {α:Type} {enc:α→List Value} (he:∀x,(enc x).all one=true) (xs:List α):(xs.flatMap enc).all one=true:=by
 rw[List.all_eq_true]
 intro v hv
 obtain⟨s,_,hs⟩:=List.mem_flatMap.1 hv
 exact List.all_eq_true.1 (he s) v hs
theorem Y7 (s:Value) (xs:List Int) (hl:xs.length≤1073741824) (h:aa) (hs:cm 3 ab h s xs):ai PP 60 [s] h (fun v h'=>Ext h h'∧bS 3 ab h h' v xs):=by
 refine az mix ac6 Xo rfl (by show 1≤8;decide) akh ?_
 simp only[xX,Tryz.f60]
 obtain⟨ad,c,rfl,hn,hz⟩:=hs
 cases ad with
 |none=>
  have:xs=[]:=by
   rcases hz with z|⟨b,off,w,cells,rest,z,_⟩
   ·exact z
   ·simp at z
  subst this
  have:=hn rfl
  subst this
  simp -implicitDefEqProofs
  exact⟨Ext.bu h,bS.nil⟩
 |some ad=>
  by_cases h0:xs=[]
  ·subst h0
   simp -implicitDefEqProofs[aI,cB,cQ,cH]
   exact⟨(Ext.new h _).cq (Nat.le_refl _) _ |>.bA _,_,rfl,.inr ⟨_,rfl,by simp,by simp,by simp⟩⟩
  ·obtain⟨b,off,w,cells,rest,e,z2,z3,z4,z5⟩:∃b off w cells rest,some ad=some (⟨b,off,none⟩:Addr)∧h.f b= .row w 3 cells∧cells.drop off=xs.flatMap ab++rest∧off≤cells.length∧b<h.n:=by
    rcases hz with z|z
    ·exact absurd z h0
    ·exact z
   obtain rfl:=Option.some.inj e
   obtain⟨m,hm⟩:∃m,m=xs.length:=⟨_,rfl⟩
   have hm0:¬m=0:=by rw[hm];simpa using h0
   obtain⟨F,hF⟩:∃F,F=xs.flatMap ab:=⟨_,rfl⟩
   have hFl:F.length=m:=by rw[hF,dA 1 V.cY,hm,Nat.mul_one]
   have hone:F.all one=true:=by rw[hF];exact qZ (fun _=>rfl) xs
   rw[←hF]at z3
   have hlen:off+m≤cells.length:=by
    have:=congrArg List.length z3
    rw[List.length_drop,List.length_append,hFl]at this;omega
   have htk:(cells.drop off).take (m)=F:=by rw[z3,List.take_append_of_le_length (by omega),List.take_of_length_le (by omega)]
   have hbn:¬b=h.n:=by omega
   have hmx:m*8≤140737488355328:=by omega
   rw[←hm]
   simp -implicitDefEqProofs[aI,cB,cQ,cH,hm0,hbn,z2,hlen,htk,hone,hmx]
   exact⟨(Ext.new h _).cq (Nat.le_refl _) _ |>.bA _,_,by rw[hm],.inr ⟨_,rfl,by simp[hF],by simp,by simp⟩⟩
theorem yG (s:Value) (xs:List Int) (hl:xs.length≤1073741824) (h:aa) (hs:cm 3 ab h s xs):ai PP 154 [s] h (fun v h'=>Ext h h'∧bS 3 ab h h' v xs):=by
 refine az mix abm Vu rfl (by show 1≤8;decide) aiB ?_
 simp only[vE,Tryz.f154]
 obtain⟨ad,c,rfl,hn,hz⟩:=hs
 cases ad with
 |none=>
  have:xs=[]:=by
   rcases hz with z|⟨b,off,w,cells,rest,z,_⟩
   ·exact z
   ·simp at z
  subst this
  have:=hn rfl
  subst this
  simp -implicitDefEqProofs
  exact⟨Ext.bu h,bS.nil⟩
 |some ad=>
  by_cases h0:xs=[]
  ·subst h0
   simp -implicitDefEqProofs[aI,cB,cQ,cH]
   exact⟨(Ext.new h _).cq (Nat.le_refl _) _ |>.bA _,_,rfl,.inr ⟨_,rfl,by simp,by simp,by simp⟩⟩
  ·obtain⟨b,off,w,cells,rest,e,z2,z3,z4,z5⟩:∃b off w cells rest,some ad=some (⟨b,off,none⟩:Addr)∧h.f b= .row w 3 cells∧cells.drop off=xs.flatMap ab++rest∧off≤cells.length∧b<h.n:=by
    rcases hz with z|z
    ·exact absurd z h0
    ·exact z
   obtain rfl:=Option.some.inj e
   obtain⟨m,hm⟩:∃m,m=xs.length:=⟨_,rfl⟩
   have hm0:¬m=0:=by rw[hm];simpa using h0
   obtain⟨F,hF⟩:∃F,F=xs.flatMap ab:=⟨_,rfl⟩
   have hFl:F.length=m:=by rw[hF,dA 1 V.cY,hm,Nat.mul_one]
   have hone:F.all one=true:=by rw[hF];exact qZ (fun _=>rfl) xs
   rw[←hF]at z3
   have hlen:off+m≤cells.length:=by
    have:=congrArg List.length z3
    rw[List.length_drop,List.length_append,hFl]at this;omega
   have htk:(cells.drop off).take (m)=F:=by rw[z3,List.take_append_of_le_length (by omega),List.take_of_length_le (by omega)]
   have hbn:¬b=h.n:=by omega
   have hmx:m*8≤140737488355328:=by omega
   rw[←hm]
   simp -implicitDefEqProofs[aI,cB,cQ,cH,hm0,hbn,z2,hlen,htk,hone,hmx]
   exact⟨(Ext.new h _).cq (Nat.le_refl _) _ |>.bA _,_,by rw[hm],.inr ⟨_,rfl,by simp[hF],by simp,by simp⟩⟩
theorem Za (s:Value) (xs:List aU) (hl:xs.length≤1073741824) (h:aa) (hs:cm 29 ag h s xs):ai PP 203 [s] h (fun v h'=>Ext h h'∧bS 29 ag h h' v xs):=by
 refine az mix abR V4 rfl (by show 1≤8;decide) ai5 ?_
 simp only[wy,Tryz.f203]
 obtain⟨ad,c,rfl,hn,hz⟩:=hs
 cases ad with
 |none=>
  have:xs=[]:=by
   rcases hz with z|⟨b,off,w,cells,rest,z,_⟩
   ·exact z
   ·simp at z
  subst this
  have:=hn rfl
  subst this
  simp -implicitDefEqProofs
  exact⟨Ext.bu h,bS.nil⟩
 |some ad=>
  by_cases h0:xs=[]
  ·subst h0
   simp -implicitDefEqProofs[aI,cB,cQ,cH]
   exact⟨(Ext.new h _).cq (Nat.le_refl _) _ |>.bA _,_,rfl,.inr ⟨_,rfl,by simp,by simp,by simp⟩⟩
  ·obtain⟨b,off,w,cells,rest,e,z2,z3,z4,z5⟩:∃b off w cells rest,some ad=some (⟨b,off,none⟩:Addr)∧h.f b= .row w 29 cells∧cells.drop off=xs.flatMap ag++rest∧off≤cells.length∧b<h.n:=by
    rcases hz with z|z
    ·exact absurd z h0
    ·exact z
   obtain rfl:=Option.some.inj e
   obtain⟨m,hm⟩:∃m,m=xs.length:=⟨_,rfl⟩
   have hm0:¬m=0:=by rw[hm];simpa using h0
   obtain⟨F,hF⟩:∃F,F=xs.flatMap ag:=⟨_,rfl⟩
   have hFl:F.length=m*2:=by rw[hF,dA 2 jD,hm]
   have hone:F.all one=true:=by rw[hF];exact qZ (fun _=>rfl) xs
   rw[←hF]at z3
   have hlen:off+m*2≤cells.length:=by
    have:=congrArg List.length z3
    rw[List.length_drop,List.length_append,hFl]at this;omega
   have htk:(cells.drop off).take (m*2)=F:=by rw[z3,List.take_append_of_le_length (by omega),List.take_of_length_le (by omega)]
   have hbn:¬b=h.n:=by omega
   have hmx:m*16≤140737488355328:=by omega
   rw[←hm]
   simp -implicitDefEqProofs[aI,cB,cQ,cH,hm0,hbn,z2,hlen,htk,hone,hmx]
   exact⟨(Ext.new h _).cq (Nat.le_refl _) _ |>.bA _,_,by rw[hm],.inr ⟨_,rfl,by simp[hF],by simp,by simp⟩⟩
theorem FI (s:Value) (xs:List aN) (hl:xs.length≤1073741824) (h:aa) (hs:cm 43 aH h s xs):ai PP 34 [s] h (fun v h'=>Ext h h'∧bS 43 aH h h' v xs):=by
 refine az mix acQ W8 rfl (by show 1≤8;decide) aj1 ?_
 simp only[xH,Tryz.f34]
 obtain⟨ad,c,rfl,hn,hz⟩:=hs
 cases ad with
 |none=>
  have:xs=[]:=by
   rcases hz with z|⟨b,off,w,cells,rest,z,_⟩
   ·exact z
   ·simp at z
  subst this
  have:=hn rfl
  subst this
  simp -implicitDefEqProofs
  exact⟨Ext.bu h,bS.nil⟩
 |some ad=>
  by_cases h0:xs=[]
  ·subst h0
   simp -implicitDefEqProofs[aI,cB,cQ,cH]
   exact⟨(Ext.new h _).cq (Nat.le_refl _) _ |>.bA _,_,rfl,.inr ⟨_,rfl,by simp,by simp,by simp⟩⟩
  ·obtain⟨b,off,w,cells,rest,e,z2,z3,z4,z5⟩:∃b off w cells rest,some ad=some (⟨b,off,none⟩:Addr)∧h.f b= .row w 43 cells∧cells.drop off=xs.flatMap aH++rest∧off≤cells.length∧b<h.n:=by
    rcases hz with z|z
    ·exact absurd z h0
    ·exact z
   obtain rfl:=Option.some.inj e
   obtain⟨m,hm⟩:∃m,m=xs.length:=⟨_,rfl⟩
   have hm0:¬m=0:=by rw[hm];simpa using h0
   obtain⟨F,hF⟩:∃F,F=xs.flatMap aH:=⟨_,rfl⟩
   have hFl:F.length=m*6:=by rw[hF,dA 6 fx,hm]
   have hone:F.all one=true:=by rw[hF];exact qZ (fun _=>rfl) xs
   rw[←hF]at z3
   have hlen:off+m*6≤cells.length:=by
    have:=congrArg List.length z3
    rw[List.length_drop,List.length_append,hFl]at this;omega
   have htk:(cells.drop off).take (m*6)=F:=by rw[z3,List.take_append_of_le_length (by omega),List.take_of_length_le (by omega)]
   have hbn:¬b=h.n:=by omega
   have hmx:m*48≤140737488355328:=by omega
   rw[←hm]
   simp -implicitDefEqProofs[aI,cB,cQ,cH,hm0,hbn,z2,hlen,htk,hone,hmx]
   exact⟨(Ext.new h _).cq (Nat.le_refl _) _ |>.bA _,_,by rw[hm],.inr ⟨_,rfl,by simp[hF],by simp,by simp⟩⟩
theorem iu:iM 113 3 1 8 ab:=⟨JS,Qp,⟨_,AJ,rfl⟩,yC,pO,by decide,by decide,V.cY,fun _=>rfl⟩
section
variable {α:Type} {t e sz by_:Nat} {enc:α→List Value} {h0 G:aa} {o:Option Nat} {xs:List α} {v:Value}
theorem eS (E:iM t e sz by_ enc) (W:Ow e enc h0 G o xs v) (a:α) (b:Nat) {w:Bool} (hb:G.f b= .row w e (enc a)) (hl:(xs.length+1)*by_≤140737488355328) (T:Fr) (x:bI) (s y:Nat) (hs:Fr.get T s=some v) (hy:Fr.get T y=some (.slice (some ⟨b,0,none⟩) 1 1)):
  cB PP ⟨T,⟨x,G⟩⟩ t t (.tmp s) (.tmp y)=some (.slice (some ⟨G.n,0,none⟩) (xs.length+1) (xs.length+1),⟨T,⟨x,bK G o (.row true e (xs.flatMap enc++enc a))⟩⟩):=by
 obtain⟨zl,hz,hzl⟩:=E.ze
 have hlen:=E.len a
 have htk:(enc a).take sz=enc a:=List.take_of_length_le (by omega)
 refine Ph (σ:=⟨T,⟨x,G⟩⟩) W E.el hz E.yD E.co E.pos E.b0 hzl E.len (by simpa using hs) ?_ (E.one a) (by decide) hl
 simp[cQ,E.un,hy,hlen,htk,hb]
end
def AW (h:aa) (l:List aU) (p:List Int) (q:aU) (σ:St):Prop:=Ext h σ.m.h∧∃c d:Nat,σ.t.get 6=some (.slice (some ⟨c,0,none⟩) (l.length+1) (l.length+1))∧σ.t.get 7=some (.slice (some ⟨d,0,none⟩) (p.length+1) (p.length+1))∧
 σ.m.h.f c= .row true 29 (l.flatMap ag++ag q)∧σ.m.h.f d= .row true 3 (p.flatMap ab++ab (-1))∧h.n≤c∧h.n≤d∧c<σ.m.h.n∧d<σ.m.h.n
theorem lU {h G4 G5:aa} {l:List aU} {p:List Int} {q:aU} {c:Nat} {o2:Option Nat} (E4:Ext h G4) (E5:Ext G4 G5) (hlt:∀b,o2=some b→G4.n≤b∧b<G5.n) (hc:G4.f c= .row true 29 (l.flatMap ag++ag q)) (hc0:h.n≤c) (hc1:c<G4.n):
  Ext h (bK G5 o2 (.row true 3 (p.flatMap ab++ab (-1))))∧(bK G5 o2 (.row true 3 (p.flatMap ab++ab (-1)))).f c= .row true 29 (l.flatMap ag++ag q)∧
  (bK G5 o2 (.row true 3 (p.flatMap ab++ab (-1)))).f G5.n= .row true 3 (p.flatMap ab++ab (-1))∧h.n≤c∧h.n≤G5.n∧c<G5.n+1:=by
 have n4:=E4.n
 have n5:=E5.n
 refine⟨(E4.trans E5).app (fun b hb=>?_) _,?_,jq _ _ _,hc0,by omega,by omega⟩
 ·have:=hlt b hb;omega
 ·rw[mG _ _ _ (by omega) (fun z=>by have:=(hlt c z).1;omega),E5.f _ hc1,hc]
theorem fm {G G':aa} {b:Nat} {c:aO} (F:G.f b=c∧b<G.n) (E:Ext G G'):G'.f b=c∧b<G'.n:=⟨by rw[E.f b F.2];exact F.1,Nat.lt_of_lt_of_le F.2 E.n⟩
theorem eU (G:aa) (c:aO):(G.new c).f G.n=c∧G.n<(G.new c).n:=⟨by simp,by simp⟩
theorem mQ {G:aa} {b:Nat} {c c':aO} {o:Option Nat} (F:G.f b=c'∧b<G.n) (ho:o≠some b):(bK G o c).f b=c'∧b<(bK G o c).n:=⟨by rw[mG _ _ _ F.2 ho];exact F.1,by rw[cn];omega⟩
theorem lV {h G:aa} {l:List aU} {p:List Int} {q:aU} {c d:Nat} (T:Fr) (x:bI) (H:Ext h G∧G.f c= .row true 29 (l.flatMap ag++ag q)∧G.f d= .row true 3 (p.flatMap ab++ab (-1))∧h.n≤c∧h.n≤d∧c<d+1) (hd:d<G.n)
  (h6:T.get 6=some (.slice (some ⟨c,0,none⟩) (l.length+1) (l.length+1))) (h7:T.get 7=some (.slice (some ⟨d,0,none⟩) (p.length+1) (p.length+1))):AW h l p q ⟨T,⟨x,G⟩⟩:=
 ⟨H.1,c,d,h6,h7,H.2.1,H.2.2.1,H.2.2.2.1,H.2.2.2.2.1,by have:=H.2.2.2.2.2;show c<G.n;omega,hd⟩
theorem aqG (l:List aU) (p:List Int) (q:aU) (lv pv:Value) (hl:l.length≤1048576) (hp:p.length≤1048576) (h:aa) (Hl:pC h lv l) (Hp:aZ h pv p):
  ai PP 150 [lv,pv,dD q] h (fun r h'=>Ext h h'∧∃a b,r= .tuple #[a,b]∧aF 29 ag h' a (l++[q])∧aF 3 ab h' b (p++[-1])):=by
 refine ai.gK (post:=fun r h'=>Ext h h'∧∃c d:Nat,r= .tuple #[.slice (some ⟨c,0,none⟩) (l.length+1) (l.length+1),.slice (some ⟨d,0,none⟩) (p.length+1) (p.length+1)]∧h'.f c= .row true 29 (l.flatMap ag++ag q)∧h'.f d= .row true 3 (p.flatMap ab++ab (-1))∧h.n≤c∧h.n≤d∧c<h'.n∧d<h'.n) ?_ (fun v h' ⟨E,c,d,hv,h1,h2,n1,n2,m1,m2⟩=>by
  have hcd:¬d=c:=by intro e;rw[e,h1]at h2;cases h2
  refine⟨(h'.cG c).cG d,(h'.ma c).trans ((h'.cG c).ma d),(E.cG n1).cG n2,_,_,hv,?_,?_⟩
  ·refine⟨_,l.length+1,by simp,fun z=>(by cases z),.inr ⟨c,0,l.flatMap ag++ag q,[],rfl,?_,by simp,by simp,m1⟩⟩
   unfold aa.cG
   simp[hcd,show¬c=d from fun e=>hcd e.symm,h1,aO.cG]
  ·refine⟨_,p.length+1,by simp,fun z=>(by cases z),.inr ⟨d,0,p.flatMap ab++ab (-1),[],rfl,?_,by simp,by simp,m2⟩⟩
   unfold aa.cG
   simp[hcd,h2,aO.cG])
 refine az mix abi Vq rfl (by show 3≤17;decide) aix ?_
 simp only[vA,Tryz.f150]
 have hc1:=fun G (E:Ext h G)=>Za lv l (by omega) G (Hl.ext E)
 have hc2:=fun G (E:Ext h G)=>yG pv p (by omega) G (Hp.ext E)
 obtain⟨ad,c,rfl⟩:=Hp.shape
 obtain⟨ad2,c2,rfl⟩:=Hl.shape
 have hr1:List.range 1=[0]:=rfl
 have hr2:List.range 2=[0,1]:=rfl
 simp -implicitDefEqProofs[dD,ag]
 refine si (AW h l p q) ?_ ?_
 ·rw[gv,gv,gv,gv,gv,gv,gv,gv,gv,gv,qN]
  refine⟨?_,?_,?_,?_,?_,?_,?_,?_,?_,?_,trivial⟩
  ·simp -implicitDefEqProofs[aC,aI,hr1,hr2]
   refine(hc1 _ (Ext.bu h)).mono ?_
   rintro v1 H1 ⟨E1,W1⟩
   obtain⟨o1,W1⟩:=Ow.fw W1
   obtain⟨rfl,_⟩:=id W1
   have F1:=(Ext.bu h).trans E1
   have D1:=W1.lt
   have W1k2:=W1.ext (Ext.new H1 (.row true 29 (ag q)))
   have Ra:=eU H1 (.row true 29 (ag q))
   have ERa:=Ext.bA F1 (.row true 29 (ag q))
   have hA:=eS ju W1k2 q _ Ra.1 (by omega)
   simp only[ag,V.ab]at hA
   have W1e:=W1k2.lt
   have E4:Ext h (bK (H1.new (.row true 29 (ag q))) o1 (.row true 29 (l.flatMap ag++ag q))):=Ext.app ERa (fun b z=>⟨by have:=W1.lt b z;have:=(ERa).n;simp[cZ]at * <;>omega,(W1e b z).2⟩) _
   have c0:h.n≤(H1.new (.row true 29 (ag q))).n:=(ERa).n
   have c1:(H1.new (.row true 29 (ag q))).n<(bK (H1.new (.row true 29 (ag q))) o1 (.row true 29 (l.flatMap ag++ag q))).n:=by rw[cn];omega
   have c2:=jq (H1.new (.row true 29 (ag q))) o1 (.row true 29 (l.flatMap ag++ag q))
   have E4o:=Ext.bu (bK (H1.new (.row true 29 (ag q))) o1 (.row true 29 (l.flatMap ag++ag q)))
   simp -implicitDefEqProofs[aC,aI,hr1,hr2,hA]
   intro _
   refine(hc2 _ E4).mono ?_
   rintro v2 H2 ⟨E2,W2⟩
   obtain⟨o2,W2⟩:=Ow.fw W2
   obtain⟨rfl,_⟩:=id W2
   have E4k3:=E4o.trans E2
   have F2:=E4.trans E2
   have D2:=W2.lt
   have W2k4:=W2.ext (Ext.new H2 (.row true 3 (ab (-1))))
   have E4k4:=E4k3.trans (Ext.new H2 (.row true 3 (ab (-1))))
   have Rb:=eU H2 (.row true 3 (ab (-1)))
   have ERb:=Ext.bA F2 (.row true 3 (ab (-1)))
   have hB:=eS iu W2k4 (-1) _ Rb.1 (by omega)
   simp only[ag,V.ab]at hB
   have W2e:=W2k4.lt
   have T:=lU (o2:=o2) E4 E4k4 (fun b z=>⟨by have:=W2.lt b z;simp[cZ]at * <;>omega,(W2e b z).2⟩) c2 c0 c1 (p:=p)
   simp -implicitDefEqProofs[aC,aI,hr1,hr2,hB]
   intro _
   exact lV _ _ T (by simp[cn]) (by simp[cn]) (by simp[cn])
  ·simp -implicitDefEqProofs[aC,aI,hr1,hr2]
   refine(hc1 _ (Ext.bu h)).mono ?_
   rintro v1 H1 ⟨E1,W1⟩
   obtain⟨o1,W1⟩:=Ow.fw W1
   obtain⟨rfl,_⟩:=id W1
   have F1:=(Ext.bu h).trans E1
   have D1:=W1.lt
   have W1k2:=W1.ext (Ext.new H1 (.row true 29 (ag q)))
   have Ra:=eU H1 (.row true 29 (ag q))
   have ERa:=Ext.bA F1 (.row true 29 (ag q))
   have hA:=eS ju W1k2 q _ Ra.1 (by omega)
   simp only[ag,V.ab]at hA
   have W1e:=W1k2.lt
   have E4:Ext h (bK (H1.new (.row true 29 (ag q))) o1 (.row true 29 (l.flatMap ag++ag q))):=Ext.app ERa (fun b z=>⟨by have:=W1.lt b z;have:=(ERa).n;simp[cZ]at * <;>omega,(W1e b z).2⟩) _
   have c0:h.n≤(H1.new (.row true 29 (ag q))).n:=(ERa).n
   have c1:(H1.new (.row true 29 (ag q))).n<(bK (H1.new (.row true 29 (ag q))) o1 (.row true 29 (l.flatMap ag++ag q))).n:=by rw[cn];omega
   have c2:=jq (H1.new (.row true 29 (ag q))) o1 (.row true 29 (l.flatMap ag++ag q))
   have E4o:=Ext.bu (bK (H1.new (.row true 29 (ag q))) o1 (.row true 29 (l.flatMap ag++ag q)))
   have E4k3:=E4o.trans (Ext.new (bK (H1.new (.row true 29 (ag q))) o1 (.row true 29 (l.flatMap ag++ag q))) (.row true 3 (ab (-1))))
   have Rb:=eU (bK (H1.new (.row true 29 (ag q))) o1 (.row true 29 (l.flatMap ag++ag q))) (.row true 3 (ab (-1)))
   have ERb:=Ext.bA E4 (.row true 3 (ab (-1)))
   simp -implicitDefEqProofs[aC,aI,hr1,hr2,hA]
   intro _
   refine(hc2 _ ERb).mono ?_
   rintro v2 H2 ⟨E2,W2⟩
   obtain⟨o2,W2⟩:=Ow.fw W2
   obtain⟨rfl,_⟩:=id W2
   have Rbk4:=fm Rb E2
   have E4k4:=E4k3.trans E2
   have F2:=ERb.trans E2
   have D2:=W2.lt
   have hB:=eS iu W2 (-1) _ Rbk4.1 (by omega)
   simp only[ag,V.ab]at hB
   have W2e:=W2.lt
   have T:=lU (o2:=o2) E4 E4k4 (fun b z=>⟨by have:=W2.lt b z;simp[cZ]at * <;>omega,(W2e b z).2⟩) c2 c0 c1 (p:=p)
   simp -implicitDefEqProofs[aC,aI,hr1,hr2,hB]
   intro _
   exact lV _ _ T (by simp[cn]) (by simp[cn]) (by simp[cn])
  ·simp -implicitDefEqProofs[aC,aI,hr1,hr2]
   refine(hc1 _ (Ext.bu h)).mono ?_
   rintro v1 H1 ⟨E1,W1⟩
   obtain⟨o1,W1⟩:=Ow.fw W1
   obtain⟨rfl,_⟩:=id W1
   have F1:=(Ext.bu h).trans E1
   have D1:=W1.lt
   have W1k2:=W1.ext (Ext.new H1 (.row true 29 (ag q)))
   have Ra:=eU H1 (.row true 29 (ag q))
   have ERa:=Ext.bA F1 (.row true 29 (ag q))
   have W1k3:=W1k2.ext (Ext.new (H1.new (.row true 29 (ag q))) (.row true 3 (ab (-1))))
   have Rak3:=fm Ra (Ext.new (H1.new (.row true 29 (ag q))) (.row true 3 (ab (-1))))
   have Rb:=eU (H1.new (.row true 29 (ag q))) (.row true 3 (ab (-1)))
   have ERb:=Ext.bA ERa (.row true 3 (ab (-1)))
   have hA:=eS ju W1k3 q _ Rak3.1 (by omega)
   simp only[ag,V.ab]at hA
   have W1e:=W1k3.lt
   have Rb4:=mQ (o:=o1) (c:=(.row true 29 (l.flatMap ag++ag q))) Rb (fun z=>by have:=W1.lt _ z;have:=W1e _ z;have:=Rb.2;simp[cZ]at * <;>omega)
   have E4:Ext h (bK ((H1.new (.row true 29 (ag q))).new (.row true 3 (ab (-1)))) o1 (.row true 29 (l.flatMap ag++ag q))):=Ext.app ERb (fun b z=>⟨by have:=W1.lt b z;have:=(ERb).n;simp[cZ]at * <;>omega,(W1e b z).2⟩) _
   have c0:h.n≤((H1.new (.row true 29 (ag q))).new (.row true 3 (ab (-1)))).n:=(ERb).n
   have c1:((H1.new (.row true 29 (ag q))).new (.row true 3 (ab (-1)))).n<(bK ((H1.new (.row true 29 (ag q))).new (.row true 3 (ab (-1)))) o1 (.row true 29 (l.flatMap ag++ag q))).n:=by rw[cn];omega
   have c2:=jq ((H1.new (.row true 29 (ag q))).new (.row true 3 (ab (-1)))) o1 (.row true 29 (l.flatMap ag++ag q))
   have E4o:=Ext.bu (bK ((H1.new (.row true 29 (ag q))).new (.row true 3 (ab (-1)))) o1 (.row true 29 (l.flatMap ag++ag q)))
   simp -implicitDefEqProofs[aC,aI,hr1,hr2,hA]
   intro _
   refine(hc2 _ E4).mono ?_
   rintro v2 H2 ⟨E2,W2⟩
   obtain⟨o2,W2⟩:=Ow.fw W2
   obtain⟨rfl,_⟩:=id W2
   have Rbk4:=fm Rb4 E2
   have E4k4:=E4o.trans E2
   have F2:=E4.trans E2
   have D2:=W2.lt
   have hB:=eS iu W2 (-1) _ Rbk4.1 (by omega)
   simp only[ag,V.ab]at hB
   have W2e:=W2.lt
   have T:=lU (o2:=o2) E4 E4k4 (fun b z=>⟨by have:=W2.lt b z;simp[cZ]at * <;>omega,(W2e b z).2⟩) c2 c0 c1 (p:=p)
   simp -implicitDefEqProofs[aC,aI,hr1,hr2,hB]
   intro _
   exact lV _ _ T (by simp[cn]) (by simp[cn]) (by simp[cn])
  ·simp -implicitDefEqProofs[aC,aI,hr1,hr2]
   refine(hc1 _ (Ext.bu h)).mono ?_
   rintro v1 H1 ⟨E1,W1⟩
   obtain⟨o1,W1⟩:=Ow.fw W1
   obtain⟨rfl,_⟩:=id W1
   have F1:=(Ext.bu h).trans E1
   have D1:=W1.lt
   have W1k2:=W1.ext (Ext.new H1 (.row true 3 (ab (-1))))
   have Rb:=eU H1 (.row true 3 (ab (-1)))
   have ERb:=Ext.bA F1 (.row true 3 (ab (-1)))
   have W1k3:=W1k2.ext (Ext.new (H1.new (.row true 3 (ab (-1)))) (.row true 29 (ag q)))
   have Rbk3:=fm Rb (Ext.new (H1.new (.row true 3 (ab (-1)))) (.row true 29 (ag q)))
   have Ra:=eU (H1.new (.row true 3 (ab (-1)))) (.row true 29 (ag q))
   have ERa:=Ext.bA ERb (.row true 29 (ag q))
   have hA:=eS ju W1k3 q _ Ra.1 (by omega)
   simp only[ag,V.ab]at hA
   have W1e:=W1k3.lt
   have Rb4:=mQ (o:=o1) (c:=(.row true 29 (l.flatMap ag++ag q))) Rbk3 (fun z=>by have:=W1.lt _ z;have:=W1e _ z;have:=Rbk3.2;simp[cZ]at * <;>omega)
   have E4:Ext h (bK ((H1.new (.row true 3 (ab (-1)))).new (.row true 29 (ag q))) o1 (.row true 29 (l.flatMap ag++ag q))):=Ext.app ERa (fun b z=>⟨by have:=W1.lt b z;have:=(ERa).n;simp[cZ]at * <;>omega,(W1e b z).2⟩) _
   have c0:h.n≤((H1.new (.row true 3 (ab (-1)))).new (.row true 29 (ag q))).n:=(ERa).n
   have c1:((H1.new (.row true 3 (ab (-1)))).new (.row true 29 (ag q))).n<(bK ((H1.new (.row true 3 (ab (-1)))).new (.row true 29 (ag q))) o1 (.row true 29 (l.flatMap ag++ag q))).n:=by rw[cn];omega
   have c2:=jq ((H1.new (.row true 3 (ab (-1)))).new (.row true 29 (ag q))) o1 (.row true 29 (l.flatMap ag++ag q))
   have E4o:=Ext.bu (bK ((H1.new (.row true 3 (ab (-1)))).new (.row true 29 (ag q))) o1 (.row true 29 (l.flatMap ag++ag q)))
   simp -implicitDefEqProofs[aC,aI,hr1,hr2,hA]
   intro _
   refine(hc2 _ E4).mono ?_
   rintro v2 H2 ⟨E2,W2⟩
   obtain⟨o2,W2⟩:=Ow.fw W2
   obtain⟨rfl,_⟩:=id W2
   have Rbk4:=fm Rb4 E2
   have E4k4:=E4o.trans E2
   have F2:=E4.trans E2
   have D2:=W2.lt
   have hB:=eS iu W2 (-1) _ Rbk4.1 (by omega)
   simp only[ag,V.ab]at hB
   have W2e:=W2.lt
   have T:=lU (o2:=o2) E4 E4k4 (fun b z=>⟨by have:=W2.lt b z;simp[cZ]at * <;>omega,(W2e b z).2⟩) c2 c0 c1 (p:=p)
   simp -implicitDefEqProofs[aC,aI,hr1,hr2,hB]
   intro _
   exact lV _ _ T (by simp[cn]) (by simp[cn]) (by simp[cn])
  ·have Ra:=eU h (.row true 29 (ag q))
   have ERa:=Ext.bA (Ext.bu h) (.row true 29 (ag q))
   simp -implicitDefEqProofs[aC,aI,hr1,hr2]
   refine(hc1 _ ERa).mono ?_
   rintro v1 H1 ⟨E1,W1⟩
   obtain⟨o1,W1⟩:=Ow.fw W1
   obtain⟨rfl,_⟩:=id W1
   have Rak2:=fm Ra E1
   have F1:=ERa.trans E1
   have D1:=W1.lt
   have hA:=eS ju W1 q _ Rak2.1 (by omega)
   simp only[ag,V.ab]at hA
   have W1e:=W1.lt
   have E4:Ext h (bK H1 o1 (.row true 29 (l.flatMap ag++ag q))):=Ext.app F1 (fun b z=>⟨by have:=W1.lt b z;have:=(F1).n;simp[cZ]at * <;>omega,(W1e b z).2⟩) _
   have c0:h.n≤H1.n:=(F1).n
   have c1:H1.n<(bK H1 o1 (.row true 29 (l.flatMap ag++ag q))).n:=by rw[cn];omega
   have c2:=jq H1 o1 (.row true 29 (l.flatMap ag++ag q))
   have E4o:=Ext.bu (bK H1 o1 (.row true 29 (l.flatMap ag++ag q)))
   simp -implicitDefEqProofs[aC,aI,hr1,hr2,hA]
   intro _
   refine(hc2 _ E4).mono ?_
   rintro v2 H2 ⟨E2,W2⟩
   obtain⟨o2,W2⟩:=Ow.fw W2
   obtain⟨rfl,_⟩:=id W2
   have E4k3:=E4o.trans E2
   have F2:=E4.trans E2
   have D2:=W2.lt
   have W2k4:=W2.ext (Ext.new H2 (.row true 3 (ab (-1))))
   have E4k4:=E4k3.trans (Ext.new H2 (.row true 3 (ab (-1))))
   have Rb:=eU H2 (.row true 3 (ab (-1)))
   have ERb:=Ext.bA F2 (.row true 3 (ab (-1)))
   have hB:=eS iu W2k4 (-1) _ Rb.1 (by omega)
   simp only[ag,V.ab]at hB
   have W2e:=W2k4.lt
   have T:=lU (o2:=o2) E4 E4k4 (fun b z=>⟨by have:=W2.lt b z;simp[cZ]at * <;>omega,(W2e b z).2⟩) c2 c0 c1 (p:=p)
   simp -implicitDefEqProofs[aC,aI,hr1,hr2,hB]
   intro _
   exact lV _ _ T (by simp[cn]) (by simp[cn]) (by simp[cn])
  ·have Ra:=eU h (.row true 29 (ag q))
   have ERa:=Ext.bA (Ext.bu h) (.row true 29 (ag q))
   simp -implicitDefEqProofs[aC,aI,hr1,hr2]
   refine(hc1 _ ERa).mono ?_
   rintro v1 H1 ⟨E1,W1⟩
   obtain⟨o1,W1⟩:=Ow.fw W1
   obtain⟨rfl,_⟩:=id W1
   have Rak2:=fm Ra E1
   have F1:=ERa.trans E1
   have D1:=W1.lt
   have hA:=eS ju W1 q _ Rak2.1 (by omega)
   simp only[ag,V.ab]at hA
   have W1e:=W1.lt
   have E4:Ext h (bK H1 o1 (.row true 29 (l.flatMap ag++ag q))):=Ext.app F1 (fun b z=>⟨by have:=W1.lt b z;have:=(F1).n;simp[cZ]at * <;>omega,(W1e b z).2⟩) _
   have c0:h.n≤H1.n:=(F1).n
   have c1:H1.n<(bK H1 o1 (.row true 29 (l.flatMap ag++ag q))).n:=by rw[cn];omega
   have c2:=jq H1 o1 (.row true 29 (l.flatMap ag++ag q))
   have E4o:=Ext.bu (bK H1 o1 (.row true 29 (l.flatMap ag++ag q)))
   have E4k3:=E4o.trans (Ext.new (bK H1 o1 (.row true 29 (l.flatMap ag++ag q))) (.row true 3 (ab (-1))))
   have Rb:=eU (bK H1 o1 (.row true 29 (l.flatMap ag++ag q))) (.row true 3 (ab (-1)))
   have ERb:=Ext.bA E4 (.row true 3 (ab (-1)))
   simp -implicitDefEqProofs[aC,aI,hr1,hr2,hA]
   intro _
   refine(hc2 _ ERb).mono ?_
   rintro v2 H2 ⟨E2,W2⟩
   obtain⟨o2,W2⟩:=Ow.fw W2
   obtain⟨rfl,_⟩:=id W2
   have Rbk4:=fm Rb E2
   have E4k4:=E4k3.trans E2
   have F2:=ERb.trans E2
   have D2:=W2.lt
   have hB:=eS iu W2 (-1) _ Rbk4.1 (by omega)
   simp only[ag,V.ab]at hB
   have W2e:=W2.lt
   have T:=lU (o2:=o2) E4 E4k4 (fun b z=>⟨by have:=W2.lt b z;simp[cZ]at * <;>omega,(W2e b z).2⟩) c2 c0 c1 (p:=p)
   simp -implicitDefEqProofs[aC,aI,hr1,hr2,hB]
   intro _
   exact lV _ _ T (by simp[cn]) (by simp[cn]) (by simp[cn])
  ·have Ra:=eU h (.row true 29 (ag q))
   have ERa:=Ext.bA (Ext.bu h) (.row true 29 (ag q))
   simp -implicitDefEqProofs[aC,aI,hr1,hr2]
   refine(hc1 _ ERa).mono ?_
   rintro v1 H1 ⟨E1,W1⟩
   obtain⟨o1,W1⟩:=Ow.fw W1
   obtain⟨rfl,_⟩:=id W1
   have Rak2:=fm Ra E1
   have F1:=ERa.trans E1
   have D1:=W1.lt
   have W1k3:=W1.ext (Ext.new H1 (.row true 3 (ab (-1))))
   have Rak3:=fm Rak2 (Ext.new H1 (.row true 3 (ab (-1))))
   have Rb:=eU H1 (.row true 3 (ab (-1)))
   have ERb:=Ext.bA F1 (.row true 3 (ab (-1)))
   have hA:=eS ju W1k3 q _ Rak3.1 (by omega)
   simp only[ag,V.ab]at hA
   have W1e:=W1k3.lt
   have Rb4:=mQ (o:=o1) (c:=(.row true 29 (l.flatMap ag++ag q))) Rb (fun z=>by have:=W1.lt _ z;have:=W1e _ z;have:=Rb.2;simp[cZ]at * <;>omega)
   have E4:Ext h (bK (H1.new (.row true 3 (ab (-1)))) o1 (.row true 29 (l.flatMap ag++ag q))):=Ext.app ERb (fun b z=>⟨by have:=W1.lt b z;have:=(ERb).n;simp[cZ]at * <;>omega,(W1e b z).2⟩) _
   have c0:h.n≤(H1.new (.row true 3 (ab (-1)))).n:=(ERb).n
   have c1:(H1.new (.row true 3 (ab (-1)))).n<(bK (H1.new (.row true 3 (ab (-1)))) o1 (.row true 29 (l.flatMap ag++ag q))).n:=by rw[cn];omega
   have c2:=jq (H1.new (.row true 3 (ab (-1)))) o1 (.row true 29 (l.flatMap ag++ag q))
   have E4o:=Ext.bu (bK (H1.new (.row true 3 (ab (-1)))) o1 (.row true 29 (l.flatMap ag++ag q)))
   simp -implicitDefEqProofs[aC,aI,hr1,hr2,hA]
   intro _
   refine(hc2 _ E4).mono ?_
   rintro v2 H2 ⟨E2,W2⟩
   obtain⟨o2,W2⟩:=Ow.fw W2
   obtain⟨rfl,_⟩:=id W2
   have Rbk4:=fm Rb4 E2
   have E4k4:=E4o.trans E2
   have F2:=E4.trans E2
   have D2:=W2.lt
   have hB:=eS iu W2 (-1) _ Rbk4.1 (by omega)
   simp only[ag,V.ab]at hB
   have W2e:=W2.lt
   have T:=lU (o2:=o2) E4 E4k4 (fun b z=>⟨by have:=W2.lt b z;simp[cZ]at * <;>omega,(W2e b z).2⟩) c2 c0 c1 (p:=p)
   simp -implicitDefEqProofs[aC,aI,hr1,hr2,hB]
   intro _
   exact lV _ _ T (by simp[cn]) (by simp[cn]) (by simp[cn])
  ·have Ra:=eU h (.row true 29 (ag q))
   have ERa:=Ext.bA (Ext.bu h) (.row true 29 (ag q))
   have Rak2:=fm Ra (Ext.new (h.new (.row true 29 (ag q))) (.row true 3 (ab (-1))))
   have Rb:=eU (h.new (.row true 29 (ag q))) (.row true 3 (ab (-1)))
   have ERb:=Ext.bA ERa (.row true 3 (ab (-1)))
   simp -implicitDefEqProofs[aC,aI,hr1,hr2]
   refine(hc1 _ ERb).mono ?_
   rintro v1 H1 ⟨E1,W1⟩
   obtain⟨o1,W1⟩:=Ow.fw W1
   obtain⟨rfl,_⟩:=id W1
   have Rak3:=fm Rak2 E1
   have Rbk3:=fm Rb E1
   have F1:=ERb.trans E1
   have D1:=W1.lt
   have hA:=eS ju W1 q _ Rak3.1 (by omega)
   simp only[ag,V.ab]at hA
   have W1e:=W1.lt
   have Rb4:=mQ (o:=o1) (c:=(.row true 29 (l.flatMap ag++ag q))) Rbk3 (fun z=>by have:=W1.lt _ z;have:=W1e _ z;have:=Rbk3.2;simp[cZ]at * <;>omega)
   have E4:Ext h (bK H1 o1 (.row true 29 (l.flatMap ag++ag q))):=Ext.app F1 (fun b z=>⟨by have:=W1.lt b z;have:=(F1).n;simp[cZ]at * <;>omega,(W1e b z).2⟩) _
   have c0:h.n≤H1.n:=(F1).n
   have c1:H1.n<(bK H1 o1 (.row true 29 (l.flatMap ag++ag q))).n:=by rw[cn];omega
   have c2:=jq H1 o1 (.row true 29 (l.flatMap ag++ag q))
   have E4o:=Ext.bu (bK H1 o1 (.row true 29 (l.flatMap ag++ag q)))
   simp -implicitDefEqProofs[aC,aI,hr1,hr2,hA]
   intro _
   refine(hc2 _ E4).mono ?_
   rintro v2 H2 ⟨E2,W2⟩
   obtain⟨o2,W2⟩:=Ow.fw W2
   obtain⟨rfl,_⟩:=id W2
   have Rbk4:=fm Rb4 E2
   have E4k4:=E4o.trans E2
   have F2:=E4.trans E2
   have D2:=W2.lt
   have hB:=eS iu W2 (-1) _ Rbk4.1 (by omega)
   simp only[ag,V.ab]at hB
   have W2e:=W2.lt
   have T:=lU (o2:=o2) E4 E4k4 (fun b z=>⟨by have:=W2.lt b z;simp[cZ]at * <;>omega,(W2e b z).2⟩) c2 c0 c1 (p:=p)
   simp -implicitDefEqProofs[aC,aI,hr1,hr2,hB]
   intro _
   exact lV _ _ T (by simp[cn]) (by simp[cn]) (by simp[cn])
  ·have Rb:=eU h (.row true 3 (ab (-1)))
   have ERb:=Ext.bA (Ext.bu h) (.row true 3 (ab (-1)))
   simp -implicitDefEqProofs[aC,aI,hr1,hr2]
   refine(hc1 _ ERb).mono ?_
   rintro v1 H1 ⟨E1,W1⟩
   obtain⟨o1,W1⟩:=Ow.fw W1
   obtain⟨rfl,_⟩:=id W1
   have Rbk2:=fm Rb E1
   have F1:=ERb.trans E1
   have D1:=W1.lt
   have W1k3:=W1.ext (Ext.new H1 (.row true 29 (ag q)))
   have Rbk3:=fm Rbk2 (Ext.new H1 (.row true 29 (ag q)))
   have Ra:=eU H1 (.row true 29 (ag q))
   have ERa:=Ext.bA F1 (.row true 29 (ag q))
   have hA:=eS ju W1k3 q _ Ra.1 (by omega)
   simp only[ag,V.ab]at hA
   have W1e:=W1k3.lt
   have Rb4:=mQ (o:=o1) (c:=(.row true 29 (l.flatMap ag++ag q))) Rbk3 (fun z=>by have:=W1.lt _ z;have:=W1e _ z;have:=Rbk3.2;simp[cZ]at * <;>omega)
   have E4:Ext h (bK (H1.new (.row true 29 (ag q))) o1 (.row true 29 (l.flatMap ag++ag q))):=Ext.app ERa (fun b z=>⟨by have:=W1.lt b z;have:=(ERa).n;simp[cZ]at * <;>omega,(W1e b z).2⟩) _
   have c0:h.n≤(H1.new (.row true 29 (ag q))).n:=(ERa).n
   have c1:(H1.new (.row true 29 (ag q))).n<(bK (H1.new (.row true 29 (ag q))) o1 (.row true 29 (l.flatMap ag++ag q))).n:=by rw[cn];omega
   have c2:=jq (H1.new (.row true 29 (ag q))) o1 (.row true 29 (l.flatMap ag++ag q))
   have E4o:=Ext.bu (bK (H1.new (.row true 29 (ag q))) o1 (.row true 29 (l.flatMap ag++ag q)))
   simp -implicitDefEqProofs[aC,aI,hr1,hr2,hA]
   intro _
   refine(hc2 _ E4).mono ?_
   rintro v2 H2 ⟨E2,W2⟩
   obtain⟨o2,W2⟩:=Ow.fw W2
   obtain⟨rfl,_⟩:=id W2
   have Rbk4:=fm Rb4 E2
   have E4k4:=E4o.trans E2
   have F2:=E4.trans E2
   have D2:=W2.lt
   have hB:=eS iu W2 (-1) _ Rbk4.1 (by omega)
   simp only[ag,V.ab]at hB
   have W2e:=W2.lt
   have T:=lU (o2:=o2) E4 E4k4 (fun b z=>⟨by have:=W2.lt b z;simp[cZ]at * <;>omega,(W2e b z).2⟩) c2 c0 c1 (p:=p)
   simp -implicitDefEqProofs[aC,aI,hr1,hr2,hB]
   intro _
   exact lV _ _ T (by simp[cn]) (by simp[cn]) (by simp[cn])
  ·have Rb:=eU h (.row true 3 (ab (-1)))
   have ERb:=Ext.bA (Ext.bu h) (.row true 3 (ab (-1)))
   have Rbk2:=fm Rb (Ext.new (h.new (.row true 3 (ab (-1)))) (.row true 29 (ag q)))
   have Ra:=eU (h.new (.row true 3 (ab (-1)))) (.row true 29 (ag q))
   have ERa:=Ext.bA ERb (.row true 29 (ag q))
   simp -implicitDefEqProofs[aC,aI,hr1,hr2]
   refine(hc1 _ ERa).mono ?_
   rintro v1 H1 ⟨E1,W1⟩
   obtain⟨o1,W1⟩:=Ow.fw W1
   obtain⟨rfl,_⟩:=id W1
   have Rak3:=fm Ra E1
   have Rbk3:=fm Rbk2 E1
   have F1:=ERa.trans E1
   have D1:=W1.lt
   have hA:=eS ju W1 q _ Rak3.1 (by omega)
   simp only[ag,V.ab]at hA
   have W1e:=W1.lt
   have Rb4:=mQ (o:=o1) (c:=(.row true 29 (l.flatMap ag++ag q))) Rbk3 (fun z=>by have:=W1.lt _ z;have:=W1e _ z;have:=Rbk3.2;simp[cZ]at * <;>omega)
   have E4:Ext h (bK H1 o1 (.row true 29 (l.flatMap ag++ag q))):=Ext.app F1 (fun b z=>⟨by have:=W1.lt b z;have:=(F1).n;simp[cZ]at * <;>omega,(W1e b z).2⟩) _
   have c0:h.n≤H1.n:=(F1).n
   have c1:H1.n<(bK H1 o1 (.row true 29 (l.flatMap ag++ag q))).n:=by rw[cn];omega
   have c2:=jq H1 o1 (.row true 29 (l.flatMap ag++ag q))
   have E4o:=Ext.bu (bK H1 o1 (.row true 29 (l.flatMap ag++ag q)))
   simp -implicitDefEqProofs[aC,aI,hr1,hr2,hA]
   intro _
   refine(hc2 _ E4).mono ?_
   rintro v2 H2 ⟨E2,W2⟩
   obtain⟨o2,W2⟩:=Ow.fw W2
   obtain⟨rfl,_⟩:=id W2
   have Rbk4:=fm Rb4 E2
   have E4k4:=E4o.trans E2
   have F2:=E4.trans E2
   have D2:=W2.lt
   have hB:=eS iu W2 (-1) _ Rbk4.1 (by omega)
   simp only[ag,V.ab]at hB
   have W2e:=W2.lt
   have T:=lU (o2:=o2) E4 E4k4 (fun b z=>⟨by have:=W2.lt b z;simp[cZ]at * <;>omega,(W2e b z).2⟩) c2 c0 c1 (p:=p)
   simp -implicitDefEqProofs[aC,aI,hr1,hr2,hB]
   intro _
   exact lV _ _ T (by simp[cn]) (by simp[cn]) (by simp[cn])
 ·rintro⟨T,⟨x,G⟩⟩ ⟨E,c,d,g6,g7,r⟩
  simp at E g6 g7 r
  simp -implicitDefEqProofs[g6,g7]
  exact⟨E,c,d,⟨rfl,rfl⟩,r⟩
def qk (p q:List Int) (k:Nat):Bool:=decide (p.getD k 0≠q.getD k 0)
def j9 (p q:List Int) (i:Nat):List Int:=((List.range i).filter (qk p q)).map fun k:Nat=>(k:Int)
theorem age (p q:List Int) (i:Nat):j9 p q (i+1)=if qk p q i=true then j9 p q i++[(i:Int)]else j9 p q i:=by
 unfold j9
 rw[List.range_succ,List.filter_append,List.map_append]
 by_cases z:qk p q i=true
 ·simp[z]
 ·simp[z]
theorem agd (p q:List Int) (i:Nat):(j9 p q i).length≤i:=by
 unfold j9
 rw[List.length_map]
 have:=List.length_filter_le (qk p q) (List.range i)
 rwa[List.length_range]at this
def RX (h:aa) (v1 v2:Value) (p q:List Int) (m n:Nat) (σ:St):Prop:=∃(i:Nat) (o:Option Nat) (w:Value),n=m-i∧i≤m∧Ext h σ.m.h∧Ow 3 ab h σ.m.h o (j9 p q i) w∧
 σ.t.get 0=some v1∧σ.t.get 1=some v2∧σ.t.get 5=some w∧σ.t.get 11=some (.int .i64 (m:Nat))∧σ.t.get 12=some (.int .i64 (i:Nat))
theorem agf (p q:List Int) (v1 v2:Value) (hp:p.length≤1073741824) (hq:q.length≤1073741824) (h:aa) (H1:aZ h v1 p) (H2:aZ h v2 q):
  ai PP 114 [v1,v2] h (fun r h'=>Ext h h'∧aF 3 ab h' r (j9 p q (min p.length q.length))):=by
 refine ai.gK (post:=fun v' h'=>Ext h h'∧bS 3 ab h h' v' (j9 p q (min p.length q.length))) ?_ (fun v h' ⟨E,W⟩=>by
  obtain⟨h'',w,E',S⟩:=W.cG E
  exact⟨h'',w,E',S⟩)
 refine az mix aa0 U8 rfl (by show 2≤30;decide) aie ?_
 simp only[vf,Tryz.f114]
 obtain⟨ad1,c1,rfl⟩:=H1.shape
 obtain⟨ad2,c2,rfl⟩:=H2.shape
 have hr1:List.range 1=[0]:=rfl
 obtain⟨m,hm⟩:∃m,m=min p.length q.length:=⟨_,rfl⟩
 have hm1:m≤p.length:=by omega
 have hm2:m≤q.length:=by omega
 have hmi:min (p.length:Int) (q.length:Int)=(m:Nat):=by omega
 have hmi':(if q.length<p.length then(q.length:Int)else p.length)=(m:Nat):=by split<;>omega
 rw[←hm]
 simp -implicitDefEqProofs[hmi']
 refine bD (RX h (.slice ad1 p.length c1) (.slice ad2 q.length c2) p q m) _ ⟨0,none,_,rfl,by omega,Ext.bu h,Ow.nil,by simp,by simp,by simp,by simp,by simp⟩ ?_
 rintro n ⟨T,⟨x,G⟩⟩ ⟨i,o,w,rfl,hi,E,W,g0,g1,g5,g11,g12⟩
 simp at E W g0 g1 g5 g11 g12
 have hwn:bL w=true:=by rw[W.1];rfl
 simp only[bL,fO,Option.isNone_iff_eq_none]at hwn
 simp -implicitDefEqProofs[g0,g1,g5,g11,g12,hwn]
 refine bB (fun hc=>?_) (fun hc=>?_)<;>simp only[decide_eq_true_eq,decide_eq_false_iff_not]at hc
 ·have him:i<m:=by omega
  have w1:IntKind.wrap .i64 ((i:Int)+1)=((i+1:Nat):Int):=by rw[aA (by omega)];omega
  have hti:p[i]? =some p[i]:=List.getElem?_eq_getElem (by omega)
  have hui:q[i]? =some q[i]:=List.getElem?_eq_getElem (by omega)
  obtain⟨_,b,o1,w0,cells,r,rfl,hb,hd,hlc,_⟩:=(cm.ext H1 E).at 1 V.cY hti
  obtain⟨_,b',o1',w0',cells',r',rfl,hb',hd',hlc',_⟩:=(cm.ext H2 E).at 1 V.cY hui
  rw[Nat.mul_one]at hd hd'
  have hl1:o1+i+1≤cells.length:=by omega
  have hl2:o1'+i+1≤cells'.length:=by omega
  have hip:i<p.length:=by omega
  have hiq:i<q.length:=by omega
  obtain⟨t,ht⟩:∃t,t=p[i]:=⟨_,rfl⟩
  obtain⟨u,hu⟩:∃u,u=q[i]:=⟨_,rfl⟩
  rw[←ht]at hd hti
  rw[←hu]at hd' hui
  have hnk:qk p q i=decide (t≠u):=by unfold qk;rw[List.getD_eq_getElem?_getD,hti,List.getD_eq_getElem?_getD,hui];rfl
  have hsu:=age p q i
  have hll:=agd p q i
  rw[hnk]at hsu
  obtain⟨acc,hacc⟩:∃acc,acc=j9 p q i:=⟨_,rfl⟩
  rw[←hacc]at W hsu hll
  have hA:=gx nX W (i:Int) (by omega)
  simp only[ab]at hA
  obtain⟨rfl,_⟩:=id W
  by_cases z:t=u
  ·subst z
   simp at hsu
   simp -implicitDefEqProofs[g0,g1,g5,g11,g12,him,hip,hiq,hb,hd,hl1,hb',hd',hl2,ab,w1]
   exact⟨m-(i+1),by omega,i+1,o,_,rfl,by omega,E,by rw[hsu];exact W,by simp,by simp,by simp,by simp,by simp⟩
  ·simp only[ne_eq,z,not_false_eq_true,decide_true,if_true]at hsu
   simp -implicitDefEqProofs[g0,g1,g5,g11,g12,him,hip,hiq,hb,hd,hl1,hb',hd',hl2,ab,w1,z,aI,hr1,hA]
   refine⟨m-(i+1),by omega,i+1,some (G.n+1),.slice (some ⟨G.n+1,0,none⟩) (acc.length+1) (acc.length+1),rfl,by omega,gz E W _ _,?_,by simp,by simp,by simp,by simp,by simp⟩
   rw[hsu]
   exact Ow.one W E.n _ (i:Int) rfl
 ·have e:i=m:=by omega
  subst e
  have hfin:=W.own
  simp -implicitDefEqProofs[g0,g1,g5,g11,g12,hwn]
  exact⟨E,hfin⟩
theorem amm (v:ah) (M:aM v=true) (cs:List Value) (p:aU) (a:Int) (ha: -4611686018427387904≤a∧a≤4611686018427387904) (h:aa) (H:dJ h v cs):
  ai PP 151 [.agg ⟨cs⟩,dD p,.int .i64 a] h (nO h (cD v (cJ v) p a)):=by
 refine az mix abj Vr rfl (by show 3≤23;decide) aiy ?_
 simp only[vB,Tryz.f151]
 have hh:=KH v M cs h H
 have hcl:=H.len
 have hct:cs.take 5=cs:=List.take_of_length_le (by omega)
 have HM:po v (cJ v):=by
  have F:=j6 M
  have:=F.len
  exact⟨F,by rw[uh M];omega⟩
 simp -implicitDefEqProofs[dD,ag,hcl,hct]
 refine hh.mono ?_
 rintro r G ⟨E,hc,HF,rfl⟩
 have hlen:hc.length=6:=by
  obtain⟨vc,uv,rfl,hv,hu⟩:=HF
  rw[List.length_append,hv.len];rfl
 have hone:hc.all one=true:=by
  obtain⟨vc,uv,rfl,hv,hu⟩:=HF
  obtain⟨ad,c,rfl⟩:=hu.shape
  rw[List.all_append,hv.one];rfl
 have htk:hc.take 6=hc:=List.take_of_length_le (by omega)
 have hs:=sW v (cJ v) HM hc p a ha G HF
 simp only[dD,ag]at hs
 simp -implicitDefEqProofs[aC,hlen,hone,htk]
 intro _
 refine hs.mono ?_
 unfold nO
 obtain⟨R,hR⟩:∃R,R=cD v (cJ v) p a:=⟨_,rfl⟩
 rw[←hR]
 cases R with
 |none=>
  rintro r G2 ⟨E2,rfl⟩
  simp -implicitDefEqProofs[aC]
  intro _
  exact E.trans E2
 |some L=>
  rintro r G2 ⟨E2,sv,hsv,rfl⟩
  obtain⟨ad,c,rfl⟩:=hsv.shape
  simp -implicitDefEqProofs[aC]
  intro _
  exact⟨E.trans E2,hsv⟩
end Go.Proofs.Ybk.K
namespace Go.Proofs.Ybk.T
open Go Go.Am
def cV (b:Nat):Nat:=if b=32∨b=9∨b=13 then 1 else if b=35 then 2 else if b=10 then 3 else if b=45 then 6 else if 97≤b∧b≤122 then 4 else if 48≤b∧b≤57 then 5 else 0
theorem kD (b:UInt8) (h:aa):ai PP 213 [.int .u8 b.toNat] h (fun v h'=>h'=h∧v= .int .i64 (cV b.toNat)):=by
 refine az mix ab2 Wf rfl (by show 1≤30;decide) ajg ?_
 simp only[wL,Tryz.f213]
 generalize b.toNat=n
 simp[qV,rn]
 repeat' first
  |(refine bB (fun hc=>?_) (fun hc=>?_)<;>simp only[decide_eq_true_eq,decide_eq_false_iff_not]at hc<;>simp[qV,rn,hc])
  |(refine zf (fun hc=>?_) (fun hc=>?_)<;>simp only[decide_eq_true_eq,decide_eq_false_iff_not]at hc<;>simp[qV,rn,hc])
 all_goals (simp only[cV];(repeat' split)<;>omega)
def fA (k:Nat):List UInt8→Nat
 |[]=>0
 |c::r=>if cV c.toNat=k then fA k r+1 else 0
theorem amX {k a:Nat} {l:List UInt8} {c:UInt8} (hc:l[a]? =some c):fA k (l.drop a)=if cV c.toNat=k then fA k (l.drop (a+1))+1 else 0:=by
 rw[List.getElem?_eq_some_iff]at hc
 obtain⟨ha,hc⟩:=hc
 rw[List.drop_eq_getElem_cons ha,hc,fA]
theorem amY {k a:Nat} {l:List UInt8} (h:¬a<l.length):fA k (l.drop a)=0:=by
 rw[List.drop_eq_nil_of_le (by omega),fA]
def Sl (l:List UInt8) (a k:Nat) (h:aa) (n:Nat) (σ:St):Prop:=∃b,n=l.length-b∧σ.t.get 0=some (.string (B l))∧σ.t.get 1=some (.int .i64 (b:Nat))∧σ.t.get 2=some (.int .i64 k)∧σ.m.h=h∧b+fA k (l.drop b)=a+fA k (l.drop a)
theorem tR (l:List UInt8) (a k:Nat) (hl:l.length≤1073741824) (h:aa):ai PP 214 [.string (B l),.int .i64 a,.int .i64 k] h (fun v h'=>h'=h∧v= .int .i64 ((a+fA k (l.drop a):Nat):Int)):=by
 refine az mix ab3 Wg rfl (by show 3≤22;decide) ajh ?_
 simp only[wM,Tryz.f214]
 simp
 refine bD (Sl l a k h) _ ⟨a,rfl,by simp,by simp,by simp,rfl,rfl⟩ ?_
 rintro n ⟨t,⟨x,h'⟩⟩ ⟨b,rfl,h0,h1,h2,rfl,hr⟩
 simp at h0 h1 h2
 simp[h0,h1,h2]
 refine zf (fun hc=>?_) (fun hc=>?_)<;>simp only[decide_eq_true_eq,decide_eq_false_iff_not]at hc
 ·have hb:b<l.length:=by omega
  have hc':l[b]? =some l[b]:=List.getElem?_eq_getElem hb
  simp[h0,h1,h2,hc,hc']
  refine(kD _ _).mono ?_
  rintro v h'' ⟨rfl,rfl⟩
  simp[h0,h1,h2,hc,hc',ae]
  intro _
  have hr':=amX (k:=k) hc'
  refine bB (fun hk=>?_) (fun hk=>?_)<;>simp only[decide_eq_true_eq,decide_eq_false_iff_not]at hk
  ·rw[if_pos (by omega)]at hr'
   have hw:IntKind.wrap .i64 ((b:Int)+1)=((b+1:Nat):Int):=by rw[aA (by omega)];omega
   simp[hw]
   exact⟨l.length-(b+1),by omega,b+1,by omega,by simp[h0],by simp,by simp[h2],rfl,by omega⟩
  ·rw[if_neg (by omega)]at hr'
   simp
   omega
 ·have hr':=amY (k:=k) (a:=b) (l:=l) (by omega)
  simp[h0,h1,h2,hc]
  omega
def eG:Bool→List UInt8→Nat
 |_,[]=>0
 |true,c::r=>if c.toNat=10 then 0 else eG true r+1
 |false,c::r=>if cV c.toNat=1 then eG false r+1 else if cV c.toNat=2 then eG true r+1 else 0
theorem pS {a:Nat} {l:List UInt8} {c:UInt8} (hc:l[a]? =some c):l.drop a=c::l.drop (a+1):=by
 rw[List.getElem?_eq_some_iff]at hc
 obtain⟨ha,hc⟩:=hc
 rw[List.drop_eq_getElem_cons ha,hc]
theorem sJ {a:Nat} {l:List UInt8} (h:¬a<l.length):l.drop a=[]:=List.drop_eq_nil_of_le (by omega)
theorem afh {b:Nat}:cV b=2↔b=35:=by simp only[cV];(repeat' split)<;>omega
def sb (l:List UInt8) (a:Nat) (h:aa) (n:Nat) (σ:St):Prop:=∃b,n=l.length-b∧σ.t.get 0=some (.string (B l))∧σ.t.get 1=some (.int .i64 (b:Nat))∧σ.m.h=h∧b+eG false (l.drop b)=a+eG false (l.drop a)
def Se (l:List UInt8) (a:Nat) (h:aa) (n:Nat) (σ:St):Prop:=∃b,n=l.length-b∧a≤b∧σ.t.get 0=some (.string (B l))∧σ.t.get 1=some (.int .i64 (b:Nat))∧σ.m.h=h∧b+eG true (l.drop b)=a+eG true (l.drop a)
theorem anC (l:List UInt8) (a:Nat) (hl:l.length≤1073741824) (h:aa):ai PP 211 [.string (B l),.int .i64 a] h (fun v h'=>h'=h∧v= .int .i64 ((a+eG false (l.drop a):Nat):Int)):=by
 refine az mix ab0 Wd rfl (by show 2≤33;decide) aje ?_
 simp only[wI,Tryz.f211]
 simp
 refine bD (sb l a h) _ ⟨a,rfl,by simp,by simp,rfl,rfl⟩ ?_
 rintro n ⟨t,⟨x,h'⟩⟩ ⟨b,rfl,h0,h1,rfl,hr⟩
 simp at h0 h1
 simp[h0,h1]
 refine bB (fun hc=>?_) (fun hc=>?_)<;>simp only[decide_eq_true_eq,decide_eq_false_iff_not]at hc
 ·have hb:b<l.length:=by omega
  have hc':l[b]? =some l[b]:=List.getElem?_eq_getElem hb
  have hd:=pS hc'
  simp[h0,h1,hc']
  refine(kD _ _).mono ?_
  rintro v h'' ⟨rfl,rfl⟩
  simp[h0,h1,hc',ae]
  intro _
  refine bB (fun hk=>?_) (fun hk=>?_)<;>simp only[decide_eq_true_eq,decide_eq_false_iff_not]at hk
  ·have hw:IntKind.wrap .i64 ((b:Int)+1)=((b+1:Nat):Int):=by rw[aA (by omega)];omega
   simp[hw,h0]
   rw[hd,eG,if_pos (by omega)]at hr
   exact⟨l.length-(b+1),by omega,b+1,by omega,by simp[h0],by simp,rfl,by omega⟩
  ·simp[h0]
   refine bB (fun hk2=>?_) (fun hk2=>?_)<;>simp only[decide_eq_true_eq,decide_eq_false_iff_not]at hk2
   ·simp
    have h35:=afh.1 (show cV l[b].toNat=2 by omega)
    refine bD (Se l b h'') _ ⟨b,rfl,Nat.le_refl _,by simp[h0],by simp,rfl,rfl⟩ ?_
    rintro n ⟨t,⟨x,h'⟩⟩ ⟨c,rfl,hbc,h0,h1,rfl,hr2⟩
    simp at h0 h1
    rw[hd,eG,if_neg (by omega),if_pos (by omega)]at hr
    have hr3:eG true (l.drop b)=eG true (l.drop (b+1))+1:=by rw[hd,eG,if_neg (by omega)]
    simp[h0,h1]
    refine zf (fun hq=>?_) (fun hq=>?_)<;>simp only[decide_eq_true_eq,decide_eq_false_iff_not]at hq
    ·have hb':c<l.length:=by omega
     have hc2:l[c]? =some l[c]:=List.getElem?_eq_getElem hb'
     have hd2:=pS hc2
     simp[h0,h1,hq,hc2]
     refine bB (fun hk4=>?_) (fun hk4=>?_)<;>simp at hk4
     ·have hw:IntKind.wrap .i64 ((c:Int)+1)=((c+1:Nat):Int):=by rw[aA (by omega)];omega
      simp[hw]
      rw[hd2,eG,if_neg (by omega)]at hr2
      exact⟨l.length-(c+1),by omega,c+1,by omega,by omega,by simp[h0],by simp,rfl,by omega⟩
     ·simp
      have hcb:b≠c:=by
       intro e;subst e;omega
      rw[hd2,eG,if_pos (by omega)]at hr2
      refine⟨l.length-c,by omega,c,rfl,by simp[h0],by simp,rfl,?_⟩
      have:cV l[c].toNat=3:=by rw[show l[c].toNat=10 by omega];rfl
      rw[hd2,eG,if_neg (by omega),if_neg (by omega)]
      omega
    ·have hr':=sJ (a:=c) (l:=l) (by omega)
     simp[h0,h1,hq]
     rw[hr',eG]at hr2
     refine⟨l.length-c,by omega,c,rfl,by simp[h0],by simp,rfl,?_⟩
     rw[hr',eG];omega
   ·simp[h0]
    rw[hd,eG,if_neg (by omega),if_neg (by omega)]at hr
    omega
 ·have hr':=sJ (a:=b) (l:=l) (by omega)
  rw[hr',eG]at hr
  simp[h0,h1]
  omega
end Go.Proofs.Ybk.T
namespace Go.Proofs.Ybk.T
open Go Go.Am
set_option maxHeartbeats 2000000
@[irreducible] def nT (n d:Nat):Nat:=if 2147483649<n*10+d then 2147483649 else n*10+d
theorem yE (n d:Nat):nT n d=if 2147483649<n*10+d then 2147483649 else n*10+d:=by unfold nT;rfl
theorem yF (n d:Nat):nT n d≤2147483649:=by rw[yE];split<;>omega
def iZ (n:Nat):List UInt8→Nat
 |[]=>n
 |c::r=>iZ (nT n (c.toNat-48)) r
theorem O0 (n:Nat) (c:UInt8) (r:List UInt8):iZ n (c::r)=iZ (nT n (c.toNat-48)) r:=by simp only[iZ]
theorem O1 (n:Nat):iZ n []=n:=by simp only[iZ]
theorem afg {b:Nat}:cV b=5↔48≤b∧b≤57:=by simp only[cV];(repeat' split)<;>omega
theorem agE:∀(l:List UInt8) (n:Nat),n≤2147483649→iZ n l≤2147483649:=by
 intro l
 induction l with
 |nil=>intro n h;exact h
 |cons c r ih=>intro n h;exact ih _ (yF _ _)
structure A4 where
 n:Int
 to:Nat
 ok:Bool
def iJ (l:List UInt8) (k m t:Nat) (n:Int):A4:=
 if t=0∨n < -2147483648∨2147483647<n then⟨0,k,false⟩
 else⟨n,k+m+t,match l[k+m+t]? with
  |some c=>decide (cV c.toNat≠4)&&decide (cV c.toNat≠6)
  |none=>true⟩
def kK (l:List UInt8) (k:Nat):Nat:=if(l.getD k 0).toNat=45 then 1 else 0
def ng (l:List UInt8) (k:Nat):Nat:=fA 5 (l.drop (k+kK l k))
def zM (l:List UInt8) (k:Nat):Int:=
 let n:Int:=iZ 0 ((l.drop (k+kK l k)).take (ng l k))
 if kK l k=1 then -n else n
def ig (l:List UInt8) (k:Nat):A4:=iJ l k (kK l k) (ng l k) (zM l k)
def AR (l ds:List UInt8) (z f g:Int) (h:aa) (n:Nat) (σ:St):Prop:=∃p,n=ds.length-p∧p≤ds.length∧Ext h σ.m.h∧h.n<σ.m.h.n∧σ.m.h.f h.n= .obj (.stringIter (B ds) p)∧
 σ.t.get 0=some (.string (B l))∧σ.t.get 1=some (.int .i64 z)∧σ.t.get 7=some (.int .i64 f)∧σ.t.get 8=some (.int .i64 g)∧
 σ.t.get 26=some (.pointer (some ⟨h.n,0,none⟩))∧∃v:Nat,v≤2147483649∧σ.t.get 9=some (.int .i64 v)∧iZ v (ds.drop p)=iZ 0 ds
theorem FZ {ds:List UInt8} {p:Nat} {c:UInt8} (hc:ds[p]? =some c) (h:c.toNat<128):Utf8.decode (B ds) p=(c.toNat,1):=by
 rw[List.getElem?_eq_some_iff]at hc
 obtain⟨hp,hc⟩:=hc
 have:=decode_ascii (B ds) p (by rw[r7];exact hp) (by show(ds[p]).toNat<128;rw[hc];exact h)
 rw[this]
 show((ds[p]).toNat,1)=_
 rw[hc]
theorem KI {x:Int} (h: -2147483648≤x∧x≤2147483647):IntKind.wrap .i32 x=x:=by
 have e:IntKind.wrap .i32 x=if(x % 4294967296:Int)≥2147483648 then x % 4294967296-4294967296 else x % 4294967296:=by
  simp[IntKind.wrap,IntKind.bits,IntKind.signed]
 rw[e];split<;>omega
theorem tQ (k:Nat):∀l:List UInt8,fA k l≤l.length:=by
 intro l
 induction l with
 |nil=>simp[fA]
 |cons c r ih=>simp only[fA];split<;>simp<;>omega
theorem amW (k:Nat):∀l:List UInt8,∀c∈l.take (fA k l),cV c.toNat=k:=by
 intro l
 induction l with
 |nil=>simp[fA]
 |cons c r ih=>
  intro d hd
  simp only[fA]at hd
  split at hd
  ·rename_i hk
   rw[List.take_succ_cons,List.mem_cons]at hd
   rcases hd with rfl|hd
   ·exact hk
   ·exact ih d hd
  ·simp at hd
theorem agH (l:List UInt8) (k:Nat) (hk:k<l.length) (hl:l.length≤1073741824) (h:aa):ai PP 215 [.string (B l),.int .i64 k] h (fun v h'=>Ext h h'∧v= .tuple #[.int .i64 (ig l k).n,.int .i64 (ig l k).to,.bool (ig l k).ok]):=by
 refine az mix ab4 Wh rfl (by show 2≤74;decide) aji ?_
 simp only[wN,Tryz.f215]
 have hc':l[k]? =some l[k]:=List.getElem?_eq_getElem hk
 have hd:=pS hc'
 simp[hc']
 obtain⟨m,hm⟩:∃m,m=if l[k].toNat=45 then 1 else 0:=⟨_,rfl⟩
 have hkm:k+m≤l.length:=by split at hm<;>omega
 obtain⟨t,ht⟩:∃t,t=fA 5 (l.drop (k+m)):=⟨_,rfl⟩
 have htl:k+m+t≤l.length:=by have:=tQ 5 (l.drop (k+m));rw[List.length_drop]at this;omega
 obtain⟨ds,hds⟩:∃ds,ds=(l.drop (k+m)).take t:=⟨_,rfl⟩
 have hds':(l.take (k+m+t)).drop (k+m)=ds:=by rw[hds,List.drop_take];congr 1;omega
 have hdl:ds.length=t:=by rw[hds,List.length_take,List.length_drop];omega
 have hdd:∀c∈ds,48≤c.toNat∧c.toNat≤57:=fun c hc=>by rw[hds,ht]at hc;exact afg.1 (amW 5 _ c hc)
 have e1:IntKind.wrap .i64 ((k:Int)+1)=((k+1:Nat):Int):=by rw[aA (by omega)];omega
 obtain⟨f,hf⟩:∃f:Int,f=((k+m:Nat):Int):=⟨_,rfl⟩
 obtain⟨g,hg⟩:∃g:Int,g=((k+m+t:Nat):Int):=⟨_,rfl⟩
 have hrun:=tR l (k+m) 5 hl h
 rw[←hf,←ht,←hg]at hrun
 have i1:(0:Int)≤f:=by omega
 have i2:(0:Int)≤g:=by omega
 have i3:f.toNat=k+m:=by omega
 have i4:g.toNat=k+m+t:=by omega
 obtain⟨nn,hnn⟩:∃nn:Int,nn=if m=1 then -(iZ 0 ds:Int)else iZ 0 ds:=⟨_,rfl⟩
 have hM:kK l k=m:=by rw[hm];simp[kK,hk]
 have hT:ng l k=t:=by rw[ht,ng,hM]
 have hN:zM l k=nn:=by rw[hnn,zM,hM,hT,←hds]
 have hV:ig l k=iJ l k m t nn:=by rw[ig,hM,hT,hN]
 have hnl:=agE ds 0 (by omega)
 rw[hV]
 refine bB (fun hm'=>?_) (fun hm'=>?_)<;>simp only[decide_eq_true_eq,decide_eq_false_iff_not]at hm'
 ·have hm1:m=1:=by rw[if_pos (by omega)]at hm;exact hm
  have e1:IntKind.wrap .i64 ((k:Int)+1)=f:=by rw[aA (by omega),hf,hm1];omega
  simp[e1]
  refine hrun.mono ?_
  rintro v h'' ⟨rfl,rfl⟩
  simp[ae]
  intro _
  simp[i1,i2,i3,i4,htl,hds',kg]
  refine bD (AR l ds _ f g h'') _ ⟨0,rfl,by omega,Ext.new _ _,by simp,by simp,by simp,rfl,by simp,by simp,by simp,0,by omega,by simp,rfl⟩ ?_
  rintro n ⟨T,⟨x,H⟩⟩ ⟨p,rfl,hp,hE,hn,hit,h0,h1,h7,h8,h26,v,hv,h9,hr⟩
  simp at hE hn hit h0 h1 h7 h8 h26 h9
  simp[h26,hit,nh]
  by_cases hpl:p<ds.length
  ·have hc2:ds[p]? =some ds[p]:=List.getElem?_eq_getElem hpl
   have hdig:=hdd ds[p] (List.getElem_mem hpl)
   have hdr:=pS hc2
   rw[hdr,O0]at hr
   obtain⟨d,hd2⟩:∃d:Nat,d=ds[p].toNat-48:=⟨_,rfl⟩
   obtain⟨q1,hq1⟩:∃q:Int,q=(v:Int)*10:=⟨_,rfl⟩
   obtain⟨q2,hq2⟩:∃q:Int,q=(d:Int):=⟨_,rfl⟩
   obtain⟨q3,hq3⟩:∃q:Int,q=q1+q2:=⟨_,rfl⟩
   obtain⟨q4,hq4⟩:∃q:Int,q=if 2147483649<q3 then 2147483649 else q3:=⟨_,rfl⟩
   have hq5:q4=(nT v d:Int):=by rw[hq4,yE];split<;>split<;>omega
   have w1:IntKind.wrap .i32 ((ds[p].toNat:Int)-48)=q2:=by rw[KI (by omega)];omega
   have w2:IntKind.wrap .i64 ((v:Int)*10)=q1:=by rw[aA (by omega)];omega
   have w3:IntKind.wrap .i64 q2=q2:=aA (by omega)
   have w4:IntKind.wrap .i64 (q1+q2)=q3:=by rw[aA (by omega)];omega
   simp only[hpl,if_true,FZ hc2 (by omega)]
   rw[←hd2]at hr
   simp[h0,h1,h7,h8,h9,h26,w1,w2,w3,w4,←hq4]
   refine⟨ds.length-(p+1),by omega,p+1,rfl,by omega,hE.cq (Nat.le_refl _) _,hn,by simp,by simp[h0],by simp[h1],by simp[h7],by simp[h8],by simp[h26],_,yF _ _,by simp[←hq5],hr⟩
  ·have hr0:iZ 0 ds=v:=by rw[sJ hpl,O1]at hr;exact hr.symm
   simp[hpl,h0,h1,h7,h8,h9,h26]
   have e9:IntKind.wrap .i64 (-(v:Int))=nn:=by rw[aA (by omega),hnn,if_pos hm1,hr0]
   have e10:(k:Int)<f:=by omega
   simp[e9,e10]
   by_cases ht0:t=0
   ·have hg0:g=f:=by omega
    simp[hg0,iJ,ht0,hf]
    exact hE
   ·have hg0:¬g=f:=by omega
    simp[hg0]
    by_cases hn1:nn < -2147483648
    ·simp[hn1,iJ,hf]
     exact hE
    ·simp[hn1]
     by_cases hn2:2147483647<nn
     ·simp[hn2,iJ,hf]
      exact hE
     ·simp[hn2]
      have hV2:iJ l k m t nn=⟨nn,k+m+t,match l[k+m+t]? with
        |some c=>decide (cV c.toNat≠4)&&decide (cV c.toNat≠6)
        |none=>true⟩:=by rw[iJ,if_neg (by omega)]
      rw[hV2]
      by_cases hend:g=(l.length:Int)
      ·have hnone:l[k+m+t]? =none:=List.getElem?_eq_none (by omega)
       simp[hend,hnone]
       exact⟨hE,by omega⟩
      ·have hlt:k+m+t<l.length:=by omega
       have hc3:l[k+m+t]? =some l[k+m+t]:=List.getElem?_eq_getElem hlt
       simp[hend,i2,i4,hc3]
       refine(kD _ _).mono ?_
       rintro v' h3 ⟨rfl,rfl⟩
       simp[ae]
       intro _
       by_cases hk4:cV l[k+m+t].toNat=4
       ·have hk4':((cV l[k+m+t].toNat:Nat):Int)=4:=by omega
        simp[hk4',hk4]
        exact⟨hE,by omega⟩
       ·have hk4':¬((cV l[k+m+t].toNat:Nat):Int)=4:=by omega
        simp[hk4',hk4,i2,i4,hc3]
        refine(kD _ _).mono ?_
        rintro v' h3 ⟨rfl,rfl⟩
        simp[ae]
        intro _
        refine⟨hE,by omega,?_⟩
        by_cases hk6:cV l[k+m+t].toNat=6
        ·simp[hk6]
        ·have:¬((cV l[k+m+t].toNat:Nat):Int)=6:=by omega
         simp[hk6,this]
 ·have hm1:m=0:=by rw[if_neg (by omega)]at hm;exact hm
  have e1:(k:Int)=f:=by rw[hf,hm1];omega
  simp[e1]
  refine hrun.mono ?_
  rintro v h'' ⟨rfl,rfl⟩
  simp[ae]
  intro _
  simp[i1,i2,i3,i4,htl,hds',kg]
  refine bD (AR l ds _ f g h'') _ ⟨0,rfl,by omega,Ext.new _ _,by simp,by simp,by simp,rfl,by simp,by simp,by simp,0,by omega,by simp,rfl⟩ ?_
  rintro n ⟨T,⟨x,H⟩⟩ ⟨p,rfl,hp,hE,hn,hit,h0,h1,h7,h8,h26,v,hv,h9,hr⟩
  simp at hE hn hit h0 h1 h7 h8 h26 h9
  simp[h26,hit,nh]
  by_cases hpl:p<ds.length
  ·have hc2:ds[p]? =some ds[p]:=List.getElem?_eq_getElem hpl
   have hdig:=hdd ds[p] (List.getElem_mem hpl)
   have hdr:=pS hc2
   rw[hdr,O0]at hr
   obtain⟨d,hd2⟩:∃d:Nat,d=ds[p].toNat-48:=⟨_,rfl⟩
   obtain⟨q1,hq1⟩:∃q:Int,q=(v:Int)*10:=⟨_,rfl⟩
   obtain⟨q2,hq2⟩:∃q:Int,q=(d:Int):=⟨_,rfl⟩
   obtain⟨q3,hq3⟩:∃q:Int,q=q1+q2:=⟨_,rfl⟩
   obtain⟨q4,hq4⟩:∃q:Int,q=if 2147483649<q3 then 2147483649 else q3:=⟨_,rfl⟩
   have hq5:q4=(nT v d:Int):=by rw[hq4,yE];split<;>split<;>omega
   have w1:IntKind.wrap .i32 ((ds[p].toNat:Int)-48)=q2:=by rw[KI (by omega)];omega
   have w2:IntKind.wrap .i64 ((v:Int)*10)=q1:=by rw[aA (by omega)];omega
   have w3:IntKind.wrap .i64 q2=q2:=aA (by omega)
   have w4:IntKind.wrap .i64 (q1+q2)=q3:=by rw[aA (by omega)];omega
   simp only[hpl,if_true,FZ hc2 (by omega)]
   rw[←hd2]at hr
   simp[h0,h1,h7,h8,h9,h26,w1,w2,w3,w4,←hq4]
   refine⟨ds.length-(p+1),by omega,p+1,rfl,by omega,hE.cq (Nat.le_refl _) _,hn,by simp,by simp[h0],by simp[h1],by simp[h7],by simp[h8],by simp[h26],_,yF _ _,by simp[←hq5],hr⟩
  ·have hr0:iZ 0 ds=v:=by rw[sJ hpl,O1]at hr;exact hr.symm
   simp[hpl,h0,h1,h7,h8,h9,h26]
   have e9:(v:Int)=nn:=by rw[hnn,if_neg (by omega),hr0]
   simp[e9]
   by_cases ht0:t=0
   ·have hg0:g=f:=by omega
    simp[hg0,iJ,ht0,←e1]
    exact hE
   ·have hg0:¬g=f:=by omega
    simp[hg0]
    by_cases hn1:nn < -2147483648
    ·simp[hn1,iJ,←e1]
     exact hE
    ·simp[hn1]
     by_cases hn2:2147483647<nn
     ·simp[hn2,iJ,←e1]
      exact hE
     ·simp[hn2]
      have hV2:iJ l k m t nn=⟨nn,k+m+t,match l[k+m+t]? with
        |some c=>decide (cV c.toNat≠4)&&decide (cV c.toNat≠6)
        |none=>true⟩:=by rw[iJ,if_neg (by omega)]
      rw[hV2]
      by_cases hend:g=(l.length:Int)
      ·have hnone:l[k+m+t]? =none:=List.getElem?_eq_none (by omega)
       simp[hend,hnone]
       exact⟨hE,by omega⟩
      ·have hlt:k+m+t<l.length:=by omega
       have hc3:l[k+m+t]? =some l[k+m+t]:=List.getElem?_eq_getElem hlt
       simp[hend,i2,i4,hc3]
       refine(kD _ _).mono ?_
       rintro v' h3 ⟨rfl,rfl⟩
       simp[ae]
       intro _
       by_cases hk4:cV l[k+m+t].toNat=4
       ·have hk4':((cV l[k+m+t].toNat:Nat):Int)=4:=by omega
        simp[hk4',hk4]
        exact⟨hE,by omega⟩
       ·have hk4':¬((cV l[k+m+t].toNat:Nat):Int)=4:=by omega
        simp[hk4',hk4,i2,i4,hc3]
        refine(kD _ _).mono ?_
        rintro v' h3 ⟨rfl,rfl⟩
        simp[ae]
        intro _
        refine⟨hE,by omega,?_⟩
        by_cases hk6:cV l[k+m+t].toNat=6
        ·simp[hk6]
        ·have:¬((cV l[k+m+t].toNat:Nat):Int)=6:=by omega
         simp[hk6,this]
structure a8 where
 kind:Int
 n:Int
 line:Int
 aj:Int
 text:List UInt8
def cg (t:a8):List Value:=[.int .i64 t.kind,.int .i64 t.n,.int .i64 t.line,.int .i64 t.aj,.string (B t.text)]
def dv (t:a8):Value:=.agg ⟨cg t⟩
def cE (ln aj:Int):Value:=.agg #[.int .i64 ln,.int .i64 aj]
theorem aem (p bs ba:Nat) (ln aj:Int) (a:Nat) (h:aa) {w1 w2:Bool} {e1 e2:TypeId} (hs:h.f bs= .row w1 e1 [.int .i64 ln,.int .i64 aj]) (ha:h.f ba= .row w2 e2 [.int .i64 a])
  (hp:p≤1073741824) (hc:0≤aj∧aj≤4294967296) (ha':a≤1073741824):
  ai PP 212 [.int .i64 p,.pointer (some ⟨bs,0,none⟩),.pointer (some ⟨ba,0,none⟩)] h (fun v h'=>h'=h∧v=cE ln (aj+p-a)):=by
 refine az mix ab1 We rfl (by show 3≤14;decide) ajf ?_
 simp only[wJ,Tryz.f212]
 have e1:IntKind.wrap .i64 (aj+p)=aj+p:=aA (by omega)
 have e2:IntKind.wrap .i64 (aj+p-a)=aj+p-a:=aA (by omega)
 simp[hs,ha,e1,e2]
 rfl
structure NX where
 tok:a8
 to:Nat
 ln:Int
 aj:Int
 code:Int
def gV:a8:=⟨0,0,0,0,[]⟩
def jA (x:NX):Value:=.tuple #[dv x.tok,.int .i64 x.to,cE x.ln x.aj,.int .i64 x.code]
def jT (l:List UInt8) (to:Nat):Bool:=match l[to]? with|some d=>decide (cV d.toNat≠5)&&decide (cV d.toNat≠6)|none=>true
def ie (l:List UInt8) (a k:Nat) (ln aj:Int):NX:=
 match l[k]? with
 |none=>⟨gV,k,ln,aj+k-a,4⟩
 |some c=>
  if cV c.toNat=3 then⟨⟨3,0,ln,aj+k-a,[]⟩,k+1,ln+1,1,0⟩
  else if cV c.toNat=4 then
   let to:=k+fA 4 (l.drop k)
   if jT l to=true then⟨⟨1,0,ln,aj+k-a,(l.take to).drop k⟩,to,ln,aj+to-a,0⟩
   else⟨gV,a,ln,aj+to-a,2⟩
  else if cV c.toNat=6∨cV c.toNat=5 then
   let u:=ig l k
   if u.ok=true then⟨⟨2,u.n,ln,aj+k-a,(l.take u.to).drop k⟩,u.to,ln,aj+u.to-a,0⟩
   else⟨gV,a,ln,aj+u.to-a,2⟩
  else⟨gV,a,ln,aj+k-a,2⟩
def dC (l:List UInt8) (a:Nat) (ln aj:Int):NX:=ie l a (a+eG false (l.drop a)) ln aj
theorem anB:∀(b:Bool) (l:List UInt8),eG b l≤l.length:=by
 intro b l
 induction l generalizing b with
 |nil=>cases b<;>simp[eG]
 |cons c r ih=>cases b<;>simp only[eG,List.length_cons]<;>(repeat' split)<;>first|omega|(have:=ih true;have:=ih false;omega)
theorem O3 (l:List UInt8) (k:Nat) (hk:k≤l.length):(ig l k).to≤l.length:=by
 unfold ig iJ
 split
 ·exact hk
 ·rename_i h
  have:=tQ 5 (l.drop (k+kK l k))
  rw[List.length_drop]at this
  have:ng l k=fA 5 (l.drop (k+kK l k)):=rfl
  show k+kK l k+ng l k≤l.length
  omega
theorem O2 (l:List UInt8) (k:Nat):k≤(ig l k).to:=by
 unfold ig iJ
 split
 ·exact Nat.le_refl _
 ·show k≤k+kK l k+ng l k
  omega
theorem zJ (l:List UInt8) (a:Nat) (ln aj:Int) (hl:l.length≤1073741824) (ha:a≤l.length) (hln:0≤ln∧ln≤4294967296) (hcol:0≤aj∧aj≤2147483648) (h:aa):
  ai PP 156 [.string (B l),.int .i64 a,cE ln aj] h (fun v h'=>Ext h h'∧v=jA (dC l a ln aj)):=by
 refine az mix abo Vw rfl (by show 3≤115;decide) aiD ?_
 simp only[vG,Tryz.f156]
 have c1:¬(a:Int)<0:=by omega
 have c2:¬(l.length:Int)<(a:Int):=by omega
 simp[cE,c1,c2]
 obtain⟨G,hG⟩:∃G,G=((h.new (aO.row true 3 [Value.int IntKind.i64 a])).new (aO.row true 36 [Value.int IntKind.i64 ln,Value.int IntKind.i64 aj])):=⟨_,rfl⟩
 have gE:Ext h G:=by rw[hG];exact(Ext.new _ _).bA _
 have gn:G.n=h.n+2:=by rw[hG];rfl
 have ga:G.f h.n= .row true 3 [.int .i64 a]:=by rw[hG];simp
 have gs:G.f (h.n+1)= .row true 36 [.int .i64 ln,.int .i64 aj]:=by rw[hG];simp
 rw[←hG]
 clear hG
 obtain⟨k,hk⟩:∃k,k=a+eG false (l.drop a):=⟨_,rfl⟩
 have hsk:=anC l a hl G
 rw[←hk]at hsk
 have hkl:k≤l.length:=by have:=anB false (l.drop a);rw[List.length_drop]at this;omega
 have hX:dC l a ln aj=ie l a k ln aj:=by rw[dC,←hk]
 rw[hX]
 refine hsk.mono ?_
 rintro v h'' ⟨rfl,rfl⟩
 have hhere:∀(H:aa) (p:Nat),H.f h.n= .row true 3 [.int .i64 a]→H.f (h.n+1)= .row true 36 [.int .i64 ln,.int .i64 aj]→p≤l.length→
   ai PP 212 [.int .i64 p,.pointer (some ⟨h.n+1,0,none⟩),.pointer (some ⟨h.n,0,none⟩)] H (fun v h'=>h'=H∧v= .agg #[.int .i64 ln,.int .i64 (aj+p-a)]):=
  fun H p h1 h2 hp=>aem p (h.n+1) h.n ln aj a H h2 h1 (by omega) (by omega) (by omega)
 simp[ae]
 intro _
 by_cases hend:k=l.length
 ·subst hend
  have hnone:l[l.length]? =none:=List.getElem?_eq_none (by omega)
  simp
  refine(hhere _ l.length ga gs (by omega)).mono ?_
  rintro v h'' ⟨rfl,rfl⟩
  simp[ae]
  intro _
  simp[ie,hnone,jA,dv,cg,gV,cE]
  exact gE
 ·have hend':¬((k:Int)=(l.length:Int)):=by omega
  have hlt:k<l.length:=by omega
  have hc':l[k]? =some l[k]:=List.getElem?_eq_getElem hlt
  simp[hend',gs]
  refine(hhere _ k ga gs (by omega)).mono ?_
  rintro v h'' ⟨rfl,rfl⟩
  simp[aC,ga]
  intro _
  simp[gs,hc']
  refine(kD _ _).mono ?_
  rintro v H ⟨rfl,rfl⟩
  obtain⟨kk,hkk⟩:∃kk,kk=cV l[k].toNat:=⟨_,rfl⟩
  rw[←hkk]
  have w1:IntKind.wrap .i64 (ln+1)=ln+1:=aA (by omega)
  have w2:IntKind.wrap .i64 ((k:Int)+1)=(k:Int)+1:=aA (by omega)
  simp[ae]
  intro _
  by_cases h3:kk=3
  ·simp[h3,gs,w1,w2]
   simp[ie,jT,hc',←hkk,h3,jA,dv,cg,gV,cE]
   exact gE
  ·have h3':¬((kk:Int)=3):=by omega
   simp[h3']
   by_cases h4:kk=4
   ·simp[h4]
    obtain⟨to,hto⟩:∃to,to=k+fA 4 (l.drop k):=⟨_,rfl⟩
    have hru:=tR l k 4 hl H
    rw[←hto]at hru
    have htl:to≤l.length:=by have:=tQ 4 (l.drop k);rw[List.length_drop]at this;omega
    refine hru.mono ?_
    rintro v H ⟨rfl,rfl⟩
    simp[ae]
    intro _
    have hkto:k≤to:=by omega
    by_cases he:to=l.length
    ·subst he
     have hnone:l[l.length]? =none:=List.getElem?_eq_none (by omega)
     simp
     simp[hkl]
     refine(hhere _ l.length ga gs (Nat.le_refl _)).mono ?_
     rintro v H2 ⟨rfl,rfl⟩
     simp[aC,ga]
     intro _
     simp[ie,jT,hc',←hkk,h4,←hto,hnone,jA,dv,cg,gV,cE]
     exact gE
    ·have he':¬((to:Int)=(l.length:Int)):=by omega
     have hlt2:to<l.length:=by omega
     have hc2:l[to]? =some l[to]:=List.getElem?_eq_getElem hlt2
     simp[he',hc2]
     refine(kD _ _).mono ?_
     rintro v H ⟨rfl,rfl⟩
     simp[ae]
     intro _
     by_cases g5:cV l[to].toNat=5
     ·simp[g5]
      simp[ga]
      refine(hhere _ to ga gs htl).mono ?_
      rintro v H2 ⟨rfl,rfl⟩
      simp[aC,ga]
      intro _
      simp[ie,jT,hc',←hkk,h4,←hto,hc2,g5,jA,dv,cg,gV,cE]
      exact gE
     ·have g5':¬((cV l[to].toNat:Nat):Int)=5:=by omega
      simp[g5',hc2]
      refine(kD _ _).mono ?_
      rintro v H ⟨rfl,rfl⟩
      simp[ae]
      intro _
      by_cases g6:cV l[to].toNat=6
      ·simp[g6]
       simp[ga]
       refine(hhere _ to ga gs htl).mono ?_
       rintro v H2 ⟨rfl,rfl⟩
       simp[aC,ga]
       intro _
       simp[ie,jT,hc',←hkk,h4,←hto,hc2,g5,g6,jA,dv,cg,gV,cE]
       exact gE
      ·have g6':¬((cV l[to].toNat:Nat):Int)=6:=by omega
       simp[g6']
       simp[hkto,htl]
       refine(hhere _ to ga gs htl).mono ?_
       rintro v H2 ⟨rfl,rfl⟩
       simp[aC,ga]
       intro _
       simp[ie,jT,hc',←hkk,h4,←hto,hc2,g5,g6,jA,dv,cg,gV,cE]
       exact gE
   ·have h4':¬((kk:Int)=4):=by omega
    simp[h4']
    by_cases h56:kk=6∨kk=5
    ·have hnum:=agH l k hlt hl H
     obtain⟨to,hto⟩:∃to,to=(ig l k).to:=⟨_,rfl⟩
     obtain⟨nn,hnn⟩:∃nn,nn=(ig l k).n:=⟨_,rfl⟩
     obtain⟨gd,hgd⟩:∃gd,gd=(ig l k).ok:=⟨_,rfl⟩
     rw[←hto,←hnn,←hgd]at hnum
     have htl:to≤l.length:=by rw[hto];exact O3 l k hkl
     have hkto:k≤to:=by rw[hto];exact O2 l k
     have hgo:∀v H2,(Ext H H2∧v=Value.tuple #[.int .i64 nn,.int .i64 to,.bool gd])→Ext h H2∧H2.f h.n= .row true 3 [.int .i64 a]∧H2.f (h.n+1)= .row true 36 [.int .i64 ln,.int .i64 aj]:=fun v H2 z=>⟨gE.trans z.1,by rw[z.1.f _ (by omega),ga],by rw[z.1.f _ (by omega),gs]⟩
     rcases h56 with h6|h5
     ·simp[h6]
      refine hnum.mono ?_
      rintro v H2 hh
      obtain⟨gE,ga,gs⟩:=hgo v H2 hh
      obtain⟨_,rfl⟩:=hh
      simp[ae]
      intro _
      cases gd with
      |true=>
       simp
       simp[hkto,htl]
       refine(hhere _ to ga gs htl).mono ?_
       rintro v H2 ⟨rfl,rfl⟩
       simp[aC,ga]
       intro _
       simp[ie,jT,hc',←hkk,h6,←hto,←hnn,←hgd,jA,dv,cg,gV,cE]
       exact gE
      |false=>
       simp
       simp[ga]
       refine(hhere _ to ga gs htl).mono ?_
       rintro v H2 ⟨rfl,rfl⟩
       simp[aC,ga]
       intro _
       simp[ie,jT,hc',←hkk,h6,←hto,←hnn,←hgd,jA,dv,cg,gV,cE]
       exact gE
     ·simp[h5]
      refine hnum.mono ?_
      rintro v H2 hh
      obtain⟨gE,ga,gs⟩:=hgo v H2 hh
      obtain⟨_,rfl⟩:=hh
      simp[ae]
      intro _
      cases gd with
      |true=>
       simp
       simp[hkto,htl]
       refine(hhere _ to ga gs htl).mono ?_
       rintro v H2 ⟨rfl,rfl⟩
       simp[aC,ga]
       intro _
       simp[ie,jT,hc',←hkk,h5,←hto,←hnn,←hgd,jA,dv,cg,gV,cE]
       exact gE
      |false=>
       simp
       simp[ga]
       refine(hhere _ to ga gs htl).mono ?_
       rintro v H2 ⟨rfl,rfl⟩
       simp[aC,ga]
       intro _
       simp[ie,jT,hc',←hkk,h5,←hto,←hnn,←hgd,jA,dv,cg,gV,cE]
       exact gE
    ·have h6:¬((kk:Int)=6):=by omega
     have h5:¬((kk:Int)=5):=by omega
     simp[h6,h5]
     simp[ga]
     refine(hhere _ k ga gs hkl).mono ?_
     rintro v H2 ⟨rfl,rfl⟩
     simp[aC,ga]
     intro _
     simp[ie,jT,hc',←hkk,h3,h4,(show¬kk=6 by omega),(show¬kk=5 by omega),jA,dv,cg,gV,cE]
     exact gE
theorem OX {l:List UInt8} {a:Nat} {ln aj:Int} (ha:a≤l.length) (hln:1≤ln∧ln≤1+a) (hcol:1≤aj∧aj≤1+a) (hc:(dC l a ln aj).code=0):
  a<(dC l a ln aj).to∧(dC l a ln aj).to≤l.length∧(1≤(dC l a ln aj).ln∧(dC l a ln aj).ln≤1+(dC l a ln aj).to)∧(1≤(dC l a ln aj).aj∧(dC l a ln aj).aj≤1+(dC l a ln aj).to):=by
 revert hc
 unfold dC ie
 generalize hk:a+eG false (l.drop a)=k
 have hak:a≤k:=by omega
 cases hg:l[k]? with
 |none=>simp
 |some c=>
  have hd:=pS hg
  have hkl:k<l.length:=by rw[List.getElem?_eq_some_iff]at hg;exact hg.1
  dsimp only
  by_cases h3:cV c.toNat=3
  ·simp only[h3,if_true];intro _;omega
  ·by_cases h4:cV c.toNat=4
   ·have hr:fA 4 (l.drop k)≤l.length-k:=by have:=tQ 4 (l.drop k);rw[List.length_drop]at this;exact this
    have hr2:1≤fA 4 (l.drop k):=by rw[hd,fA,if_pos h4];omega
    cases he:jT l (k+fA 4 (l.drop k))with
    |true=>simp only[h4,if_true,he];intro _;simp only[show¬(4=3) by omega,if_false];omega
    |false=>simp[h4]
   ·by_cases h5:cV c.toNat=6∨cV c.toNat=5
    ·cases hok:(ig l k).ok with
     |true=>
      have h1:=O3 l k (by omega)
      have h2:k<(ig l k).to:=by
       revert hok
       unfold ig iJ
       split
       ·simp
       ·intro _;show k<k+kK l k+ng l k;omega
      simp only[h3,h4,h5,if_false,if_true];intro _;omega
     |false=>simp[h3,h4,h5]
    ·simp[h3,h4,h5]
def nI (h0 h:aa) (v:Value) (ts:List a8):Prop:=∃ad,v= .slice ad ts.length ts.length∧((ad=none∧ts=[])∨∃b,ad=some ⟨b,0,none⟩∧h.f b= .row true 193 (ts.flatMap cg)∧h0.n≤b∧b<h.n)
theorem nI.ext {h0 h h':aa} {v:Value} {ts:List a8} (H:nI h0 h v ts) (e:Ext h h'):nI h0 h' v ts:=by
 obtain⟨ad,q,z⟩:=H
 refine⟨ad,q,?_⟩
 rcases z with z|⟨b,z1,z2,z3,z4⟩
 ·exact .inl z
 ·exact .inr ⟨b,z1,by rw[e.f b z4,z2],z3,Nat.lt_of_lt_of_le z4 e.n⟩
theorem ue (ts:List a8):(ts.flatMap cg).length=ts.length*5:=by
 induction ts with
 |nil=>rfl
 |cons t r ih=>simp[cg]at ih ⊢;omega
structure AO where
 ts:List a8
 ln:Int
 aj:Int
 code:Int
def eP (l:List UInt8):Nat→Nat→Int→Int→AO
 |0,_,ln,aj=>⟨[],ln,aj,0⟩
 |n+1,a,ln,aj=>
  let x:=dC l a ln aj
  if x.code=0 then let r:=eP l n x.to x.ln x.aj;⟨x.tok::r.ts,r.ln,r.aj,r.code⟩
  else if x.code=4 then⟨[],x.ln,x.aj,0⟩
  else⟨[],x.ln,x.aj,x.code⟩
theorem Uv (l:List UInt8):∀(n m a:Nat) (ln aj:Int),l.length<n+a→l.length<m+a→a≤l.length→(1≤ln∧ln≤1+a)→(1≤aj∧aj≤1+a)→eP l n a ln aj=eP l m a ln aj:=by
 intro n
 induction n with
 |zero=>intro m a ln aj h1 h2 h3;omega
 |succ n ih=>
  intro m a ln aj h1 h2 h3 h4 h5
  cases m with
  |zero=>omega
  |succ m=>
   rw[eP,eP]
   by_cases hc:(dC l a ln aj).code=0
   ·have hgo:=OX h3 h4 h5 hc
    simp only[hc,if_true]
    rw[ih m _ _ _ (by omega) (by omega) hgo.2.1 hgo.2.2.1 hgo.2.2.2]
   ·simp only[hc,if_false]
def bG (l:List UInt8):AO:=eP l (l.length+1) 0 1 1
def RV (l:List UInt8) (h:aa) (n:Nat) (σ:St):Prop:=∃(a:Nat) (ln aj:Int) (ts:List a8) (s:Value),n=l.length-a∧a≤l.length∧(1≤ln∧ln≤1+a)∧(1≤aj∧aj≤1+a)∧ts.length≤a∧
 σ.t.get 0=some (.string (B l))∧σ.t.get 5=some s∧σ.t.get 6=some (.int .i64 a)∧σ.t.get 7=some (.pointer (some ⟨7,0,some 0⟩))∧σ.t.get 3=some (.pointer (some ⟨3,0,some 0⟩))∧
 σ.m.x.look 7=some (36,[.int .i64 ln,.int .i64 aj])∧(∃c1 c2,σ.m.x.look 3=some (36,[c1,c2]))∧Ext h σ.m.h∧nI h σ.m.h s ts∧
 bG l=⟨ts++(eP l (l.length-a+1) a ln aj).ts,(eP l (l.length-a+1) a ln aj).ln,(eP l (l.length-a+1) a ln aj).aj,(eP l (l.length-a+1) a ln aj).code⟩
theorem uP (l:List UInt8) (hl:l.length≤1048576) (h:aa):ai PP 118 [.string (B l)] h (fun v h'=>Ext h h'∧∃s,nI h h' s (bG l).ts∧v= .tuple #[s,cE (bG l).ln (bG l).aj,.int .i64 (bG l).code]):=by
 refine az mix aa4 Vc rfl (by show 1≤42;decide) aij ?_
 simp only[vl,Tryz.f118]
 have c1:¬(1048576:Int)<(l.length:Int):=by omega
 simp[c1]
 refine bD (RV l h) _ ⟨0,1,1,[],.slice none 0 0,rfl,by omega,by omega,by omega,by simp,by simp,by simp,by simp,by simp,by simp,by simp,⟨_,_,by simp;exact⟨rfl,rfl⟩⟩,Ext.bu _,⟨none,rfl,.inl ⟨rfl,rfl⟩⟩,rfl⟩ ?_
 rintro n ⟨T,⟨x,H⟩⟩ ⟨a,ln,aj,ts,s,rfl,ha,hln,hcol,hts,h0,h5,h6,h7,h3,hx7,⟨d1,d2,hx3⟩,hE,hO,hr⟩
 simp at h0 h5 h6 h7 h3 hx7 hx3 hE hO
 simp[h0,h5,h6,h7,h3,hx7,hx3]
 refine(zJ l a ln aj (by omega) ha (by omega) (by omega) H).mono ?_
 rintro v H2 ⟨hE2,rfl⟩
 have hgo:=OX (l:=l) ha hln hcol
 rw[show l.length-a+1=(l.length-a)+1 by rfl,eP]at hr
 obtain⟨X,hX⟩:∃X,X=dC l a ln aj:=⟨_,rfl⟩
 rw[←hX]at hgo hr ⊢
 simp[ae,jA,dv,cg,cE]
 intro _
 obtain⟨ad,rfl,hO2⟩:=hO.ext hE2
 have hE3:Ext h H2:=hE.trans hE2
 simp[h0,h5,h6,h7,h3,hx7,hx3]
 by_cases hc0:X.code=0
 ·rw[if_pos hc0]at hr
  obtain⟨g1,g2,g3,g4⟩:=hgo hc0
  have hr5:List.range 5=[0,1,2,3,4]:=rfl
  have hfu:l.length-a=(l.length-X.to+1)+(X.to-a-1):=by omega
  have hr6:∀L,bG l=L→True:=fun _ _=>trivial
  dsimp only at hr
  rw[Uv l (l.length-a) (l.length-X.to+1) X.to X.ln X.aj (by omega) (by omega) g2 g3 g4]at hr
  rcases hO2 with⟨rfl,rfl⟩|⟨b,rfl,bq,bC,hb3⟩
  ·simp[hc0,cB,cQ,aI,cH,hr5]
   refine⟨l.length-X.to,by omega,X.to,X.ln,X.aj,[X.tok],_,rfl,g2,g3,g4,by simp;omega,by simp,by simp;rfl,by simp,by simp,by simp,by simp,⟨_,_,by simp;exact⟨rfl,rfl⟩⟩,(hE3.bA _).bA _,⟨_,rfl,.inr ⟨_,rfl,?_,?_,?_⟩⟩,?_⟩
   ·simp[cg]
   ·have:=hE3.n;omega
   ·simp
   ·rw[hr];simp
  ·have hb:¬b=H2.n:=by omega
   have hmx:(ts.length+1)*48≤140737488355328:=by omega
   obtain⟨cs,hcs⟩:∃cs,cs=ts.flatMap cg:=⟨_,rfl⟩
   have hcl:cs.length=ts.length*5:=by rw[hcs,ue]
   rw[←hcs]at bq
   simp[hc0,cB,cQ,aI,cH,hb,bq,hcl,hmx,hr5]
   refine⟨l.length-X.to,by omega,X.to,X.ln,X.aj,ts++[X.tok],_,rfl,g2,g3,g4,by simp;omega,by simp,by simp;rfl,by simp,by simp,by simp,by simp,⟨_,_,by simp;exact⟨rfl,rfl⟩⟩,((hE3.bA _).cq bC _).bA _,⟨_,by simp;rfl,.inr ⟨_,rfl,?_,?_,?_⟩⟩,?_⟩
   ·have:=List.take_of_length_le (l:=cs) (i:=ts.length*5) (by omega)
    simp[cg,this];rw[←hcs]at *
   ·have:=hE3.n;omega
   ·simp
   ·rw[hr];simp
 ·simp[hc0]
  rw[if_neg hc0]at hr
  by_cases hc4:X.code=4
  ·simp[hc4]
   rw[if_pos hc4]at hr
   rw[hr]
   exact⟨hE3,_,⟨ad,by simp,by simpa using hO2⟩,rfl,⟨rfl,rfl⟩,rfl⟩
  ·simp[hc4]
   rw[if_neg hc4]at hr
   rw[hr]
   exact⟨hE3,_,⟨ad,by simp,by simpa using hO2⟩,rfl,⟨rfl,rfl⟩,rfl⟩
end Go.Proofs.Ybk.T

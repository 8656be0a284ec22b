import Derived.Test.YtbcdmljanolkeaaGreatDoorMf
set_option linter.unusedVariables false
set_option linter.unusedSimpArgs false
set_option linter.unusedSectionVars false
set_option linter.constructorNameAsVariable false
set_option maxRecDepth 20000
namespace Go.Proofs.Ybk.K
open Go Go.Am
set_option maxHeartbeats 4000000
open V (aq aP ah al aQ ab aX aM aB bT bX aZ bF)
def gb (o:aN):Value:=.agg ⟨aH o⟩
abbrev TB:=cm 43 aH
theorem J3:iM 33 43 6 48 aH:=⟨JX,QI,⟨_,AL,rfl⟩,BL,FP,by decide,by decide,fx,fun _=>rfl⟩
theorem Ou (o:aN) (h:aa):ai PP 40 [gb o] h (fun v h'=>h'=h∧v= .bool (cS o)):=by
 refine az mix acW Xe rfl (by show 1≤9;decide) aj7 ?_
 simp only[xN,Tryz.f40]
 unfold cS
 by_cases h1:o.state=1
 ·simp -implicitDefEqProofs[gb,aH,h1]
 ·by_cases h2:o.state=2
  ·simp -implicitDefEqProofs[gb,aH,h1,h2]
  ·simp -implicitDefEqProofs[gb,aH,h1,h2]
theorem Ot (o:aN) (h:aa):ai PP 39 [gb o] h (fun v h'=>h'=h∧v= .bool (!cS o)):=by
 refine az mix acV Xd rfl (by show 1≤6;decide) aj6 ?_
 simp only[xM,Tryz.f39]
 simp -implicitDefEqProofs[gb,aH]
 refine(Ou o h).mono ?_
 rintro v h' ⟨rfl,rfl⟩
 simp -implicitDefEqProofs[ae]
def Te (s:Value) (l:List aN) (m:Nat) (h:aa) (n:Nat) (σ:St):Prop:=∃i:Nat,n=m-i∧i≤m∧σ.m.h=h∧σ.t.get 0=some s∧σ.t.get 1=some (.func (.func 39) #[] #[])∧σ.t.get 7=some (.int .i64 (m:Nat))∧σ.t.get 8=some (.int .i64 (i:Nat))∧∀j t,j<i→l[j]? =some t→(!cS t)=false
theorem aeC (s:Value) (l:List aN) (hl:l.length≤1073741824) (h:aa) (hs:TB h s l):
  ai PP 74 [s,.func (.func 39) #[] #[]] h (fun v h'=>h'=h∧v= .int .i64 (V.dL (fun p=> !cS p) l)):=by
 refine az mix adi Xy rfl (by show 2≤19;decide) akr ?_
 simp only[yh,Tryz.f74]
 obtain⟨ad,c,rfl⟩:=hs.shape
 obtain⟨m,hm⟩:∃m,m=l.length:=⟨_,rfl⟩
 rw[←hm]at hs ⊢
 simp -implicitDefEqProofs
 refine bD (Te (.slice ad m c) l m h) _ ⟨0,rfl,by omega,rfl,by simp,by simp,by simp,by simp,by omega⟩ ?_
 rintro n ⟨T,⟨x,H⟩⟩ ⟨i,rfl,hi,hH,g0,g1,g7,g8,aL⟩
 simp at hH g0 g1 g7 g8
 subst hH
 simp -implicitDefEqProofs[g0,g1,g7,g8]
 refine bB (fun hc=>?_) (fun hc=>?_)<;>simp only[decide_eq_true_eq,decide_eq_false_iff_not]at hc
 ·have hil:i<m:=by omega
  have hti:l[i]? =some l[i]:=List.getElem?_eq_getElem (by omega)
  obtain⟨_,b',o,wb,cs,r,rfl,hb',hd,hlc,_⟩:=hs.at 6 fx hti
  obtain⟨u,hu⟩:∃u,u=l[i]:=⟨_,rfl⟩
  rw[←hu]at hd hti
  have w1:IntKind.wrap .i64 ((i:Int)+1)=((i+1:Nat):Int):=by rw[aA (by omega)];omega
  have hk6:(cs.drop (o+i*6)).take 6=aH u:=by rw[hd];rfl
  simp only[aH]at hk6
  simp -implicitDefEqProofs[g0,g1,g7,g8,hil,hb',hk6,hlc]
  refine(Ot u H).mono ?_
  rintro v h' ⟨rfl,rfl⟩
  simp -implicitDefEqProofs[ae]
  intro _
  by_cases h1:cS u=true
  ·simp -implicitDefEqProofs[h1,g0,g1,g7,g8,w1]
   refine⟨m-(i+1),by omega,i+1,rfl,by omega,rfl,by simp[g0],by simp[g1],by simp[g7],by simp,fun j z hj hz=>?_⟩
   rcases Nat.lt_or_ge j i with q|q
   ·exact aL j z q hz
   ·have:j=i:=by omega
    subst this
    rw[hti]at hz
    obtain rfl:=Option.some.inj hz
    simp[h1]
  ·simp -implicitDefEqProofs[h1,g0,g1,g7,g8]
   exact(V.yT hti (by simp[h1]) aL).symm
 ·simp -implicitDefEqProofs[g0,g1,g7,g8]
  exact(V.yU (fun j z hj hz=>aL j z (by omega) hz)).symm
theorem Ko {α:Type} {enc:α→List Value} {k:Nat} (hk:∀x,(enc x).length=k) (xs:List α) (i:Nat):(xs.flatMap enc).take (i*k)=(xs.take i).flatMap enc:=by
 induction xs generalizing i with
 |nil=>simp
 |cons a r ih=>
  cases i with
  |zero=>simp
  |succ i=>
   rw[List.flatMap_cons,List.take_succ_cons,List.flatMap_cons,←ih i,List.take_append,hk a,List.take_of_length_le (by rw[hk,Nat.succ_mul];omega),Nat.succ_mul,Nat.add_sub_cancel]
theorem aaP {α:Type} {enc:α→List Value} {k:Nat} (hk:∀x,(enc x).length=k) (xs:List α) (i:Nat) (a:α) (hi:i<xs.length):(xs.flatMap enc).take (i*k)++enc a++(xs.flatMap enc).drop (i*k+k)=(xs.set i a).flatMap enc:=by
 have:=mR k hk xs (i+1)
 rw[Nat.succ_mul]at this
 rw[Ko hk,this,List.set_eq_take_append_cons_drop,if_pos hi,List.flatMap_append,List.flatMap_cons,List.append_assoc]
theorem sP {α:Type} (p:α→Bool) (l:List α) (j:Nat) {t:α} (h:l[j]? =some t):(l.take (j+1)).filter p=(l.take j).filter p++(if p t=true then[t]else[]):=by
 rw[List.take_add_one,h,Option.toList_some,List.filter_append]
 by_cases q:p t=true
 ·simp[q]
 ·simp[q]
theorem aer (G:aa) (b:Nat) (v:aO):(G.set b v).f b=v:=by simp
def uI (h0:aa) (b c:Nat) (xs:List aN) (m n:Nat) (σ:St):Prop:=∃(i j:Nat) (L:List aN),n=m-j∧j≤m∧i<j∧Ext h0 σ.m.h∧b<σ.m.h.n∧σ.m.h.f b= .row true 43 (L.flatMap aH)∧L.length=m∧L.take i=(xs.take j).filter cS∧L.drop j=xs.drop j∧
 σ.t.get 0=some (.slice (some ⟨b,0,none⟩) m c)∧σ.t.get 1=some (.func (.func 39) #[] #[])∧σ.t.get 5=some (.int .i64 (i:Nat))∧σ.t.get 6=some (.int .i64 (j:Nat))
theorem ZB (h0 h:aa) (E0:Ext h0 h) (o:Option Nat) (xs:List aN) (v:Value) (hl:xs.length≤1073741824) (W:Ow 43 aH h0 h o xs v):
  ai PP 38 [v,.func (.func 39) #[] #[]] h (fun r h'=>Ext h0 h'∧dm 43 aH h0 h' o (xs.filter cS) r):=by
 refine az mix acU Xc rfl (by show 2≤42;decide) aj5 ?_
 simp only[xL,Tryz.f38]
 have hin:=aeC v xs hl h W.sl
 cases o with
 |none=>
  obtain⟨rfl,hx⟩:=W
  simp only at hx
  subst hx
  have hf:V.dL (fun p=> !cS p) ([]:List aN)= -1:=rfl
  rw[hf]at hin
  simp -implicitDefEqProofs
  refine hin.mono ?_
  rintro r h' ⟨e,rfl⟩
  replace e:=e.symm
  subst e
  simp -implicitDefEqProofs[ae]
  intro _
  exact⟨E0,rfl,rfl⟩
 |some b=>
  obtain⟨rfl,hrow,hb0,bq⟩:=W
  simp -implicitDefEqProofs
  refine hin.mono ?_
  rintro r h' ⟨e,rfl⟩
  replace e:=e.symm
  subst e
  by_cases q:∃t∈xs,cS t=false
  ·have hany:xs.any (fun p=> !cS p)=true:=by
    obtain⟨t,ht,hz⟩:=q
    exact List.any_eq_true.2 ⟨t,ht,by simp[hz]⟩
   have hfi:V.dL (fun p=> !cS p) xs=(xs.findIdx (fun p=> !cS p):Int):=by unfold V.dL;rw[if_pos hany]
   obtain⟨i0,hi0⟩:∃i0,i0=xs.findIdx (fun p=> !cS p):=⟨_,rfl⟩
   have hil:i0<xs.length:=by
    rw[hi0,List.findIdx_lt_length]
    obtain⟨t,ht,hz⟩:=q
    exact⟨t,ht,by simp[hz]⟩
   have hbef:∀j,j<i0→∀t,xs[j]? =some t→cS t=true:=fun j hj t ht=>by
    have hjx:j<xs.findIdx (fun p=> !cS p):=by rw[←hi0];exact hj
    have:=List.not_of_lt_findIdx hjx
    obtain⟨hjl,e⟩:=List.getElem?_eq_some_iff.1 ht
    rw[e]at this
    simpa using this
   have hat:∀t,xs[i0]? =some t→cS t=false:=fun t ht=>by
    obtain⟨hjl,e⟩:=List.getElem?_eq_some_iff.1 ht
    have:=List.findIdx_getElem (xs:=xs) (p:=fun p=> !cS p) (w:=by rw[←hi0];exact hil)
    simp only[←hi0]at this
    rw[e]at this
    simpa using this
   rw[hfi,←hi0]
   have hne:¬(i0:Int)= -1:=by omega
   have w1:IntKind.wrap .i64 ((i0:Int)+1)=((i0+1:Nat):Int):=by rw[aA (by omega)];omega
   obtain⟨m,hm⟩:∃m,m=xs.length:=⟨_,rfl⟩
   rw[←hm]
   simp -implicitDefEqProofs[ae,hne,w1]
   intro _
   have hft:(xs.take (i0+1)).filter cS=xs.take i0:=by
    have ht:xs[i0]? =some xs[i0]:=List.getElem?_eq_getElem hil
    rw[sP cS xs i0 ht,hat _ ht]
    simp only[Bool.false_eq_true,if_false,List.append_nil]
    rw[List.filter_eq_self]
    intro t ht
    obtain⟨j,hj,e⟩:=List.getElem_of_mem ht
    rw[List.length_take]at hj
    refine hbef j (by omega) t ?_
    rw[←e,List.getElem_take]
    exact List.getElem?_eq_getElem (by omega)
   refine bD (uI h0 b m xs m) _ ⟨i0,i0+1,xs,rfl,by omega,by omega,E0,bq,hrow,hm.symm,hft.symm,rfl,by simp,by simp,by simp,by simp⟩ ?_
   clear hft
   rintro n ⟨T,⟨x,G⟩⟩ ⟨i,j,L,rfl,hj,hij,E,hbn,hr,hLl,hLt,hLd,g0,g1,g5,g6⟩
   simp at E hbn hr g0 g1 g5 g6
   simp -implicitDefEqProofs[g0,g1,g5,g6]
   refine bB (fun hc=>?_) (fun hc=>?_)<;>simp only[decide_eq_true_eq,decide_eq_false_iff_not]at hc
   ·have hjm:j<m:=by omega
    have w2:IntKind.wrap .i64 ((j:Int)+1)=((j+1:Nat):Int):=by rw[aA (by omega)];omega
    have w3:IntKind.wrap .i64 ((i:Int)+1)=((i+1:Nat):Int):=by rw[aA (by omega)];omega
    have hxj:xs[j]? =some xs[j]:=List.getElem?_eq_getElem (by omega)
    obtain⟨u,hu⟩:∃u,u=xs[j]:=⟨_,rfl⟩
    rw[←hu]at hxj
    have hLj:L[j]? =some u:=by
     have h1:(L.drop j)[0]? =(xs.drop j)[0]? :=by rw[hLd]
     rw[List.getElem?_drop,List.getElem?_drop,Nat.add_zero]at h1
     rw[h1];exact hxj
    obtain⟨cells,hcells⟩:∃cells,cells=L.flatMap aH:=⟨_,rfl⟩
    rw[←hcells]at hr
    have hcl:cells.length=m*6:=by rw[hcells,dA 6 fx,hLl]
    have hd6:(cells.drop (j*6)).take 6=aH u:=by
     obtain⟨hlt,e⟩:=List.getElem?_eq_some_iff.1 hLj
     rw[hcells,mR 6 fx,List.drop_eq_getElem_cons hlt,List.flatMap_cons,e];rfl
    have hd6':=hd6
    simp only[aH]at hd6
    have hjl:j*6+6≤cells.length:=by omega
    have hil2:i*6+6≤cells.length:=by omega
    have him:i<m:=by omega
    simp -implicitDefEqProofs[g0,g1,g5,g6,hjm,hr,hd6,hjl]
    refine(Ot u G).mono ?_
    rintro r h' ⟨e,rfl⟩
    replace e:=e.symm
    subst e
    have hfs:=sP cS xs j hxj
    have hdd:L.drop (j+1)=xs.drop (j+1):=by
     have:=congrArg (List.drop 1) hLd
     rwa[List.drop_drop,List.drop_drop]at this
    by_cases z:cS u=true
    ·rw[if_pos z]at hfs
     have hset:=aaP fx L i u (by omega)
     rw[←hcells]at hset
     simp only[aH,List.append_assoc,List.cons_append,List.nil_append]at hset
     simp -implicitDefEqProofs[ae,z,g0,g1,g5,g6,w2,w3,him,hr,hil2]
     intro _
     rw[hset]
     refine⟨m-(j+1),by omega,i+1,j+1,L.set i u,rfl,by omega,by omega,E.cq hb0 _,hbn,by simp,by simp[hLl],?_,?_,by simp,by simp,by simp,by simp⟩
     ·rw[hfs,←hLt,List.take_add_one,List.getElem?_set_self (by omega)]
      congr 1
      exact List.take_set_of_le (Nat.le_refl _)
     ·rw[List.drop_set_of_lt (by omega),hdd]
    ·rw[if_neg z,List.append_nil]at hfs
     simp -implicitDefEqProofs[ae,z,g0,g1,g5,g6,w2]
     intro _
     exact⟨m-(j+1),by omega,i,j+1,L,rfl,by omega,by omega,E,hbn,by rw[hr,hcells],hLl,by rw[hfs];exact hLt,hdd,by simp,by simp,by simp,by simp⟩
   ·have e:j=m:=by omega
    subst e
    have hcl:(L.flatMap aH).length=j*6:=by rw[dA 6 fx,hLl]
    have hlt:=Ko fx L i
    rw[hLt,List.take_of_length_le (show xs.length≤j by omega)]at hlt
    have hfl:(xs.filter cS).length=i:=by
     have:=congrArg List.length hLt
     rw[List.length_take,List.take_of_length_le (show xs.length≤j by omega)]at this
     omega
    obtain⟨cells,hcells⟩:∃cells,cells=L.flatMap aH:=⟨_,rfl⟩
    rw[←hcells]at hr hcl hlt
    have c1:i≤j:=by omega
    have c2:¬j-i=0:=by omega
    have c3:i*6+(j-i)*6≤cells.length:=by omega
    simp -implicitDefEqProofs[g0,g1,g5,g6,hr,c1,c2,c3,lF]
    rw[hlt]
    exact⟨E.cq hb0 _,⟨i,_,by rw[hfl],aer _ _ _⟩,hb0,hbn⟩
  ·have aL:∀t∈xs,cS t=true:=fun t ht=>by
    cases z:cS t with
    |true=>rfl
    |false=>exact absurd ⟨t,ht,z⟩ q
   have hfi:V.dL (fun p=> !cS p) xs= -1:=by
    unfold V.dL
    rw[if_neg]
    intro z
    obtain⟨t,ht,hz⟩:=List.any_eq_true.1 z
    rw[aL t ht]at hz
    cases hz
   have hfl:xs.filter cS=xs:=List.filter_eq_self.2 aL
   rw[hfi,hfl]
   simp -implicitDefEqProofs[ae]
   intro _
   exact⟨E0,⟨_,[],rfl,by simpa using hrow⟩,hb0,bq⟩
def fh (b:aK) (vc:List Value) (ov:Value):List Value:=.int .i64 b.fuel:: .bool b.has::(vc++[ov,.int .i64 b.now])
structure aY (h0 h:aa) (a:Nat) (b:aK) (vc:List Value) (ov:Value) (o:Option Nat):Prop where
 row:h.f a= .row true 77 (fh b vc ov)
 a0:h0.n≤a
 a1:a<h.n
 ext:Ext h0 h
 cK:dJ h b.v vc
 cP:dm 43 aH h0 h o b.l ov
section
variable {α:Type} {e:TypeId} {enc:α→List Value} {h0 h:aa} {o:Option Nat} {xs:List α} {v:Value}
theorem dm.sl (W:dm e enc h0 h o xs v):cm e enc h v xs:=by
 cases o with
 |none=>obtain⟨rfl,rfl⟩:=W;exact cm.nil
 |some b=>
  obtain⟨⟨c,r,rfl,q⟩,n0,n1⟩:=W
  exact⟨_,_,rfl,fun z=>(by cases z),.inr ⟨b,0,true,_,r,rfl,q,rfl,by simp,n1⟩⟩
theorem dm.cG (W:dm e enc h0 h o xs v) (E:Ext h0 h):∃h',Wk h h'∧Ext h0 h'∧aF e enc h' v xs:=by
 cases o with
 |none=>obtain⟨rfl,rfl⟩:=W;exact⟨h,Wk.refl h,E,aF.nil⟩
 |some b=>
  obtain⟨⟨c,r,rfl,q⟩,n0,n1⟩:=W
  exact⟨h.cG b,h.ma b,E.cG n0,⟨_,_,rfl,fun z=>(by cases z),.inr ⟨b,0,_,r,rfl,sR q,rfl,by simp,n1⟩⟩⟩
end
section
variable {h0 h h':aa} {a:Nat} {b:aK} {vc:List Value} {ov:Value} {o:Option Nat}
theorem aY.exts (B:aY h0 h a b vc ov o) (E:Ext h h'):aY h0 h' a b vc ov o:=
 ⟨by rw[E.f _ B.a1];exact B.row,B.a0,Nat.lt_of_lt_of_le B.a1 E.n,B.ext.trans E,B.cK.ext E,B.cP.ext E⟩
theorem aY.cells (B:aY h0 h a b vc ov o):∃a1 n1 c1 g r a2 n2 c2 a3 n3 c3 a4 n4 c4,vc=[.slice a1 n1 c1,.int .i64 g,.int .i64 r,.slice a2 n2 c2,.slice a3 n3 c3]∧ov= .slice a4 n4 c4∧n4=b.l.length∧
  h.f a= .row true 77 [.int .i64 b.fuel,.bool b.has,.slice a1 n1 c1,.int .i64 g,.int .i64 r,.slice a2 n2 c2,.slice a3 n3 c3,.slice a4 n4 c4,.int .i64 b.now]:=by
 obtain⟨a1,n1,c1,g,r,a2,n2,c2,a3,n3,c3,rfl⟩:=B.cK.shape
 obtain⟨a4,c4,rfl⟩:=B.cP.shape
 exact⟨_,_,_,_,_,_,_,_,_,_,_,_,_,_,rfl,rfl,rfl,B.row⟩
theorem Pq (hl:b.l.length≤1073741824) (B:aY h0 h a b vc ov o):ai PP 14 [.pointer (some ⟨a,0,none⟩)] h (fun r h'=>Ext h h'∧bS 43 aH h h' r b.l):=by
 refine az mix abf Vn rfl (by show 1≤10;decide) aiu ?_
 simp only[vx,Tryz.f14]
 have hc:=FI ov b.l hl h B.cP.sl
 obtain⟨a1,n1,c1,g,r,a2,n2,c2,a3,n3,c3,a4,n4,c4,rfl,rfl,rfl,hrow⟩:=B.cells
 simp -implicitDefEqProofs[hrow]
 refine hc.mono ?_
 rintro r G ⟨E,W⟩
 have hw:=W
 obtain⟨ad,rfl,_⟩:=id W
 simp -implicitDefEqProofs[aC]
 intro _
 exact⟨E,hw⟩
theorem mX (hl:b.l.length≤1073741824) (B:aY h0 h a b vc ov o):ai PP 16 [.pointer (some ⟨a,0,none⟩)] h (fun r h'=>Ext h h'∧aF 43 aH h' r (bW b)):=by
 refine ai.gK (post:=fun r h'=>Ext h h'∧∃o',dm 43 aH h h' o' (bW b) r) ?_ (fun v h' ⟨E,o',W⟩=>by
  obtain⟨h'',w,E',S⟩:=W.cG E
  exact⟨h'',w,E',S⟩)
 refine az mix abt VA rfl (by show 1≤6;decide) aiH ?_
 simp only[vK,Tryz.f16]
 have ho:=Pq hl B
 simp -implicitDefEqProofs
 refine ho.mono ?_
 rintro r G ⟨E,W⟩
 obtain⟨o1,W⟩:=Ow.fw W
 obtain⟨rfl,_⟩:=id W
 have hd:=ZB h G E o1 b.l _ hl W
 simp -implicitDefEqProofs[aC]
 intro _
 refine hd.mono ?_
 rintro r G2 ⟨E2,W2⟩
 obtain⟨ad,c,e⟩:=W2.shape
 subst e
 simp -implicitDefEqProofs[aC]
 intro _
 exact⟨E2,o1,W2⟩
theorem OZ (B:aY h0 h a b vc ov o):ai PP 22 [.pointer (some ⟨a,0,none⟩)] h (fun r h'=>h'=h∧r= .int .i64 b.now):=by
 refine az mix ab8 Wn rfl (by show 1≤9;decide) ajm ?_
 simp only[wR,Tryz.f22]
 obtain⟨a1,n1,c1,g,r,a2,n2,c2,a3,n3,c3,a4,n4,c4,rfl,rfl,rfl,hrow⟩:=B.cells
 simp -implicitDefEqProofs[hrow]
end
theorem tu (fuel:Int) (h0:0≤fuel) (h1:fuel≤1073741824) (h:aa):ai PP 12 [.int .i64 fuel] h (fun r h'=>∃a vc ov,r= .pointer (some ⟨a,0,none⟩)∧aY h h' a (fu fuel) vc ov none):=by
 refine az mix Kq Bt rfl (by show 1≤12;decide) O7 ?_
 simp only[sr,Tryz.f12]
 have q1:¬fuel<0:=by omega
 have q2:¬1073741824<fuel:=by omega
 simp -implicitDefEqProofs[q1,q2]
 exact⟨[.slice none 0 0,.int .i64 0,.int .i64 0,.slice none 0 0,.slice none 0 0],.slice none 0 0,⟨by simp[fh,fu],Nat.le_refl _,by simp,Ext.new _ _,⟨_,_,_,rfl,aF.nil,aF.nil,aF.nil⟩,⟨rfl,rfl⟩⟩⟩
theorem Ow.ne {α β:Type} {e e':TypeId} {enc:α→List Value} {enc':β→List Value} {h0 h0' h:aa} {o o':Option Nat} {xs:List α} {ys:List β} {v u:Value} (W:Ow e enc h0 h o xs v) (W':Ow e' enc' h0' h o' ys u) (he:e≠e'):∀b,o=some b→o'≠some b:=by
 rintro b rfl z
 subst z
 have h1:=W.row
 rw[W'.row]at h1
 simp only[aO.row.injEq,true_and]at h1
 exact he h1.1.symm
theorem alJ (k:Nat) (a b:List aN):fG k (a++b)=fG k a++fG (k+a.length) b:=by
 induction a generalizing k with
 |nil=>simp[fG]
 |cons o r ih=>
  rw[List.cons_append,fG,fG]
  split
  ·rw[ih,List.cons_append,List.length_cons,show k+1+r.length=k+(r.length+1) by omega]
  ·rw[ih,List.length_cons,show k+1+r.length=k+(r.length+1) by omega]
theorem alK (l:List aN) (i:Nat) {t:aN} (h:l[i]? =some t):fG 0 (l.take (i+1))=fG 0 (l.take i)++(if t.state=2 then[((i:Int),t.first)]else[]):=by
 obtain⟨hl,_⟩:=List.getElem?_eq_some_iff.1 h
 rw[List.take_add_one,h,Option.toList_some,alJ,List.length_take,Nat.min_eq_left (by omega),Nat.zero_add]
 congr 1
theorem tG (k:Nat) (l:List aN):(fG k l).length≤l.length:=by
 induction l generalizing k with
 |nil=>simp[fG]
 |cons o r ih=>
  rw[fG]
  split
  ·simp only[List.length_cons];have:=ih (k+1);omega
  ·simp only[List.length_cons];have:=ih (k+1);omega
def lL (l:List aN) (i:Nat):List aU:=(l.take i).map (·.aR)
def lp (l:List aN) (i:Nat):List Int:=(l.take i).map (·.first)
theorem zW (l:List aN) (i:Nat) {t:aN} (h:l[i]? =some t):lL l (i+1)=lL l i++[t.aR]:=by unfold lL;rw[List.take_add_one,h,Option.toList_some,List.map_append];rfl
theorem yW (l:List aN) (i:Nat) {t:aN} (h:l[i]? =some t):lp l (i+1)=lp l i++[t.first]:=by unfold lp;rw[List.take_add_one,h,Option.toList_some,List.map_append];rfl
theorem alz (l:List aN) (i:Nat) (h:i≤l.length):(lL l i).length=i:=by simp[lL];omega
theorem aaN (l:List aN) (i:Nat) (h:i≤l.length):(lp l i).length=i:=by simp[lp];omega
def Th (h:aa) (l:List aN) (lv:Value) (m n:Nat) (σ:St):Prop:=∃(i:Nat) (o1 o2 o3:Option Nat) (v1 v2 v3:Value),n=m-i∧i≤m∧Ext h σ.m.h∧aF 43 aH σ.m.h lv l∧Ow 29 ag h σ.m.h o1 (lL l i) v1∧Ow 3 ab h σ.m.h o2 (lp l i) v2∧Ow 69 iz h σ.m.h o3 (fG 0 (l.take i)) v3∧
 σ.t.get 5=some v1∧σ.t.get 6=some v2∧σ.t.get 7=some v3∧σ.t.get 11=some lv∧σ.t.get 12=some (.int .i64 (m:Nat))∧σ.t.get 13=some (.int .i64 (i:Nat))
def Ty (h:aa) (l:List aN) (lv:Value) (t:aN) (m i:Nat) (σ:St):Prop:=∃(o1 o2 o3:Option Nat) (v1 v2 v3:Value),Ext h σ.m.h∧aF 43 aH σ.m.h lv l∧Ow 29 ag h σ.m.h o1 (lL l (i+1)) v1∧Ow 3 ab h σ.m.h o2 (lp l (i+1)) v2∧Ow 69 iz h σ.m.h o3 (fG 0 (l.take i)) v3∧
 σ.t.get 5=some v1∧σ.t.get 6=some v2∧σ.t.get 7=some v3∧σ.t.get 8=some (.int .i64 (i:Nat))∧σ.t.get 9=some (.pointer (some ⟨9,0,some 0⟩))∧σ.t.get 11=some lv∧σ.t.get 12=some (.int .i64 (m:Nat))∧σ.t.get 13=some (.int .i64 (i:Nat))∧σ.m.x.look 9=some (43,aH t)
theorem zS {α:Type} {e:TypeId} {enc:α→List Value} {h h' F:aa} {o:Option Nat} {xs:List α} {v:Value} (W:Ow e enc h h' o xs v) (hn:F.n=h'.n) (hF:∀b cs,h.n≤b→b<h'.n→h'.f b= .row true e cs→F.f b= .row false e cs):aF e enc F v xs:=by
 obtain⟨rfl,z⟩:=W
 cases o with
 |none=>
  simp only at z
  subst z
  exact aF.nil
 |some b=>
  obtain⟨z1,z2,z3⟩:=z
  exact⟨_,xs.length,rfl,fun q=>(by cases q),.inr ⟨b,0,_,[],rfl,hF b _ z2 z3 z1,by simp,by simp,by rw[hn];exact z3⟩⟩
theorem adS {h h':aa} (E:Ext h h') {o1 o2 o3:Option Nat} {l1:List aU} {l2:List Int} {l3:List (Int×Int)} {v1 v2 v3:Value} (W1:Ow 29 ag h h' o1 l1 v1) (W2:Ow 3 ab h h' o2 l2 v2) (W3:Ow 69 iz h h' o3 l3 v3):
  ∃F,Wk h' F∧Ext h F∧aF 29 ag F v1 l1∧aF 3 ab F v2 l2∧aF 69 iz F v3 l3:=by
 obtain⟨F,hF⟩:∃F,F=aa.fp (aa.fp (aa.fp h' h.n h'.n 29) h.n h'.n 3) h.n h'.n 69:=⟨_,rfl⟩
 have W:Wk h' F:=by rw[hF];exact((mT h' _ _ _).trans (mT _ _ _ _)).trans (mT _ _ _ _)
 refine⟨F,W,⟨W.g.trans E.g,by rw[W.n];exact E.n,fun x hx=>?_⟩,zS W1 W.n fun b cs n0 n1 hb=>?_,zS W2 W.n fun b cs n0 n1 hb=>?_,zS W3 W.n fun b cs n0 n1 hb=>?_⟩
 ·rw[hF,n9 _ (.inl hx),n9 _ (.inl hx),n9 _ (.inl hx),E.f _ hx]
 ·have q1:=pU h' n0 n1 hb
  have q2:(aa.fp (aa.fp h' h.n h'.n 29) h.n h'.n 3).f b= .row false 29 cs:=by rw[l9 _ (fun w c z=>by rw[q1]at z;cases z)];exact q1
  rw[hF,l9 _ (fun w c z=>by rw[q2]at z;cases z)];exact q2
 ·have q1:(aa.fp h' h.n h'.n 29).f b= .row true 3 cs:=by rw[l9 _ (fun w c z=>by rw[hb]at z;cases z)];exact hb
  have q2:=pU (aa.fp h' h.n h'.n 29) n0 n1 q1
  rw[hF,l9 _ (fun w c z=>by rw[q2]at z;cases z)];exact q2
 ·have q1:(aa.fp h' h.n h'.n 29).f b= .row true 69 cs:=by rw[l9 _ (fun w c z=>by rw[hb]at z;cases z)];exact hb
  have q2:(aa.fp (aa.fp h' h.n h'.n 29) h.n h'.n 3).f b= .row true 69 cs:=by rw[l9 _ (fun w c z=>by rw[q1]at z;cases z)];exact q1
  rw[hF]
  exact pU _ n0 n1 q2
section
variable {h0 h h':aa} {a:Nat} {b:aK} {vc:List Value} {ov:Value} {o:Option Nat}
theorem z7 (hl:b.l.length≤1048576) (B:aY h0 h a b vc ov o):ai PP 78 [.pointer (some ⟨a,0,none⟩)] h (fun r h'=>Ext h h'∧∃v1 v2 v3,r= .tuple #[v1,v2,v3]∧aF 29 ag h' v1 (aT b).1∧aF 3 ab h' v2 (aT b).2.1∧aF 69 iz h' v3 (aT b).2.2):=by
 refine ai.gK (post:=fun r h'=>Ext h h'∧∃o1 o2 o3 v1 v2 v3,r= .tuple #[v1,v2,v3]∧Ow 29 ag h h' o1 (aT b).1 v1∧Ow 3 ab h h' o2 (aT b).2.1 v2∧Ow 69 iz h h' o3 (aT b).2.2 v3) ?_ (fun r h' ⟨E,o1,o2,o3,v1,v2,v3,e,W1,W2,W3⟩=>by
  obtain⟨F,W,EF,S1,S2,S3⟩:=adS E W1 W2 W3
  exact⟨F,W,EF,v1,v2,v3,e,S1,S2,S3⟩)
 refine az mix adu XC rfl (by show 1≤42;decide) akv ?_
 simp only[yl,Tryz.f78]
 have hlive:=mX (by omega) B
 have hr1:List.range 1=[0]:=rfl
 have hr2:List.range 2=[0,1]:=rfl
 have hll:(bW b).length≤1048576:=Nat.le_trans (List.length_filter_le _ _) hl
 have hpl:aT b=((bW b).map (·.aR),(bW b).map (·.first),fG 0 (bW b)):=rfl
 rw[hpl]
 obtain⟨l,hlB⟩:∃l,l=bW b:=⟨_,rfl⟩
 rw[←hlB]at hlive hll ⊢
 obtain⟨m,hm⟩:∃m,m=l.length:=⟨_,rfl⟩
 simp -implicitDefEqProofs
 refine hlive.mono ?_
 rintro r G ⟨E,S⟩
 obtain⟨ad,c,rfl⟩:=S.shape
 rw[←hm]at S ⊢
 simp -implicitDefEqProofs[aC,ae]
 intro _
 refine bD (Th h l (.slice ad m c) m) _ ⟨0,none,none,none,_,_,_,rfl,by omega,E,S,Ow.nil,Ow.nil,Ow.nil,by simp,by simp,by simp,by simp,by simp,by simp⟩ ?_
 rintro n ⟨T,⟨x,G⟩⟩ ⟨i,o1,o2,o3,v1,v2,v3,rfl,hi,E,S,W1,W2,W3,g5,g6,g7,g11,g12,g13⟩
 simp at E S W1 W2 W3 g5 g6 g7 g11 g12 g13
 obtain⟨rfl,_⟩:=id W1
 obtain⟨rfl,_⟩:=id W2
 obtain⟨rfl,_⟩:=id W3
 have l1:=alz l i (by omega)
 have l2:=aaN l i (by omega)
 simp -implicitDefEqProofs[g5,g6,g7,g11,g12,g13]
 refine bB (fun hc=>?_) (fun hc=>?_)<;>simp only[decide_eq_true_eq,decide_eq_false_iff_not]at hc
 ·have him:i<m:=by omega
  have w1:IntKind.wrap .i64 ((i:Int)+1)=((i+1:Nat):Int):=by rw[aA (by omega)];omega
  have hti:l[i]? =some l[i]:=List.getElem?_eq_getElem (by omega)
  obtain⟨t,ht⟩:∃t,t=l[i]:=⟨_,rfl⟩
  rw[←ht]at hti
  obtain⟨_,bo,oo,co,ro,rfl,hbo,hdo,hlo,_⟩:=S.at 6 fx hti
  have hk6:(co.drop (oo+i*6)).take 6=aH t:=by rw[hdo];rfl
  simp only[aH]at hk6
  obtain⟨A1,hA1⟩:∃A1,A1=(lL l i).flatMap ag++ag t.aR:=⟨_,rfl⟩
  obtain⟨A2,hA2⟩:∃A2,A2=(lp l i).flatMap ab++ab t.first:=⟨_,rfl⟩
  simp -implicitDefEqProofs[g5,g6,g7,g11,g12,g13,him,hbo,hk6,hlo]
  refine si (Ty h l (.slice (some ⟨bo,oo,none⟩) m c) t m i) ?_ ?_
  ·rw[gv,gv,gv,qN]
   refine⟨?_,?_,?_,trivial⟩
   ·have W1k1:=W1.ext (Ext.new G (.row true 29 (ag t.aR)))
    have W2k1:=W2.ext (Ext.new G (.row true 29 (ag t.aR)))
    have W3k1:=W3.ext (Ext.new G (.row true 29 (ag t.aR)))
    have Sk1:=S.ext (Ext.new G (.row true 29 (ag t.aR)))
    have La:=eU G (.row true 29 (ag t.aR))
    have E1:=Ext.bA E (.row true 29 (ag t.aR))
    have hA:=eS ju W1k1 t.aR _ La.1 (by rw[l1];omega)
    rw[←hA1]at hA
    have N2:=Ow.ne W2k1 W1k1 (by decide)
    have N32:=Ow.ne W3k1 W1k1 (by decide)
    have W1n:=Ow.app W1k1 (E1).n [t.aR] (cells:=A1) (by rw[hA1];simp) rfl
    have W2k2:=Ow.other (β:=Int) (e':=3) (enc':=ab) (ys:=[]) (u:=.bool true) W2k1 N2 (.row true 29 A1)
    have W3k2:=Ow.other (β:=Int) (e':=3) (enc':=ab) (ys:=[]) (u:=.bool true) W3k1 N32 (.row true 29 A1)
    have Sk2:=Sk1.kp ((Kp.refl _).app (fun b hb=>Ow.nf W1k1 b hb) (.row true 29 A1))
    have E2:=Ext.app E1 (o:=o1) (fun b hb=>⟨(W1k1.lt b hb).1,(W1k1.lt b hb).2⟩) (.row true 29 A1)
    have W1k3:=W1n.ext (Ext.new (bK (G.new (.row true 29 (ag t.aR))) o1 (.row true 29 A1)) (.row true 3 (ab t.first)))
    have W2k3:=W2k2.ext (Ext.new (bK (G.new (.row true 29 (ag t.aR))) o1 (.row true 29 A1)) (.row true 3 (ab t.first)))
    have W3k3:=W3k2.ext (Ext.new (bK (G.new (.row true 29 (ag t.aR))) o1 (.row true 29 A1)) (.row true 3 (ab t.first)))
    have Sk3:=Sk2.ext (Ext.new (bK (G.new (.row true 29 (ag t.aR))) o1 (.row true 29 A1)) (.row true 3 (ab t.first)))
    have Lb:=eU (bK (G.new (.row true 29 (ag t.aR))) o1 (.row true 29 A1)) (.row true 3 (ab t.first))
    have E3:=Ext.bA E2 (.row true 3 (ab t.first))
    have hB:=eS iu W2k3 t.first _ Lb.1 (by rw[l2];omega)
    rw[←hA2]at hB
    have N4:=Ow.ne W1k3 W2k3 (by decide)
    have N34:=Ow.ne W3k3 W2k3 (by decide)
    have W2n:=Ow.app W2k3 (E3).n [t.first] (cells:=A2) (by rw[hA2];simp) rfl
    have W1k4:=Ow.other (β:=Int) (e':=3) (enc':=ab) (ys:=[]) (u:=.bool true) W1k3 N4 (.row true 3 A2)
    have W3k4:=Ow.other (β:=Int) (e':=3) (enc':=ab) (ys:=[]) (u:=.bool true) W3k3 N34 (.row true 3 A2)
    have Sk4:=Sk3.kp ((Kp.refl _).app (fun b hb=>Ow.nf W2k3 b hb) (.row true 3 A2))
    have E4:=Ext.app E3 (o:=o2) (fun b hb=>⟨(W2k3.lt b hb).1,(W2k3.lt b hb).2⟩) (.row true 3 A2)
    simp only[ag,V.ab]at hA hB
    simp -implicitDefEqProofs[aC,g5,g6,g7,g11,g12,g13,aI,hr1,hr2,hA,hB]
    have P1:=W1k4
    rw[←zW l i hti]at P1
    have P2:=W2n
    rw[←yW l i hti]at P2
    exact⟨_,_,o3,_,_,_,E4,Sk4,P1,P2,W3k4,by simp[cn],by simp[cn],by simp,by simp,by simp,by simp,by simp,by simp,by simp[aH]⟩
   ·have W1k1:=W1.ext (Ext.new G (.row true 29 (ag t.aR)))
    have W2k1:=W2.ext (Ext.new G (.row true 29 (ag t.aR)))
    have W3k1:=W3.ext (Ext.new G (.row true 29 (ag t.aR)))
    have Sk1:=S.ext (Ext.new G (.row true 29 (ag t.aR)))
    have La:=eU G (.row true 29 (ag t.aR))
    have E1:=Ext.bA E (.row true 29 (ag t.aR))
    have W1k2:=W1k1.ext (Ext.new (G.new (.row true 29 (ag t.aR))) (.row true 3 (ab t.first)))
    have W2k2:=W2k1.ext (Ext.new (G.new (.row true 29 (ag t.aR))) (.row true 3 (ab t.first)))
    have W3k2:=W3k1.ext (Ext.new (G.new (.row true 29 (ag t.aR))) (.row true 3 (ab t.first)))
    have Sk2:=Sk1.ext (Ext.new (G.new (.row true 29 (ag t.aR))) (.row true 3 (ab t.first)))
    have Lak2:=fm La (Ext.new (G.new (.row true 29 (ag t.aR))) (.row true 3 (ab t.first)))
    have Lb:=eU (G.new (.row true 29 (ag t.aR))) (.row true 3 (ab t.first))
    have E2:=Ext.bA E1 (.row true 3 (ab t.first))
    have hA:=eS ju W1k2 t.aR _ Lak2.1 (by rw[l1];omega)
    rw[←hA1]at hA
    have N3:=Ow.ne W2k2 W1k2 (by decide)
    have N33:=Ow.ne W3k2 W1k2 (by decide)
    have W1n:=Ow.app W1k2 (E2).n [t.aR] (cells:=A1) (by rw[hA1];simp) rfl
    have W2k3:=Ow.other (β:=Int) (e':=3) (enc':=ab) (ys:=[]) (u:=.bool true) W2k2 N3 (.row true 29 A1)
    have W3k3:=Ow.other (β:=Int) (e':=3) (enc':=ab) (ys:=[]) (u:=.bool true) W3k2 N33 (.row true 29 A1)
    have Sk3:=Sk2.kp ((Kp.refl _).app (fun b hb=>Ow.nf W1k2 b hb) (.row true 29 A1))
    have Lbk3:=mQ (o:=o1) (c:=(.row true 29 A1)) Lb (fun z=>by have q:=(W1.lt _ z).2;simp[cn]at q<;>omega)
    have E3:=Ext.app E2 (o:=o1) (fun b hb=>⟨(W1k2.lt b hb).1,(W1k2.lt b hb).2⟩) (.row true 29 A1)
    have hB:=eS iu W2k3 t.first _ Lbk3.1 (by rw[l2];omega)
    rw[←hA2]at hB
    have N4:=Ow.ne W1n W2k3 (by decide)
    have N34:=Ow.ne W3k3 W2k3 (by decide)
    have W2n:=Ow.app W2k3 (E3).n [t.first] (cells:=A2) (by rw[hA2];simp) rfl
    have W1k4:=Ow.other (β:=Int) (e':=3) (enc':=ab) (ys:=[]) (u:=.bool true) W1n N4 (.row true 3 A2)
    have W3k4:=Ow.other (β:=Int) (e':=3) (enc':=ab) (ys:=[]) (u:=.bool true) W3k3 N34 (.row true 3 A2)
    have Sk4:=Sk3.kp ((Kp.refl _).app (fun b hb=>Ow.nf W2k3 b hb) (.row true 3 A2))
    have E4:=Ext.app E3 (o:=o2) (fun b hb=>⟨(W2k3.lt b hb).1,(W2k3.lt b hb).2⟩) (.row true 3 A2)
    simp only[ag,V.ab]at hA hB
    simp -implicitDefEqProofs[aC,g5,g6,g7,g11,g12,g13,aI,hr1,hr2,hA,hB]
    have P1:=W1k4
    rw[←zW l i hti]at P1
    have P2:=W2n
    rw[←yW l i hti]at P2
    exact⟨_,_,o3,_,_,_,E4,Sk4,P1,P2,W3k4,by simp[cn],by simp[cn],by simp,by simp,by simp,by simp,by simp,by simp,by simp[aH]⟩
   ·have W1k1:=W1.ext (Ext.new G (.row true 3 (ab t.first)))
    have W2k1:=W2.ext (Ext.new G (.row true 3 (ab t.first)))
    have W3k1:=W3.ext (Ext.new G (.row true 3 (ab t.first)))
    have Sk1:=S.ext (Ext.new G (.row true 3 (ab t.first)))
    have Lb:=eU G (.row true 3 (ab t.first))
    have E1:=Ext.bA E (.row true 3 (ab t.first))
    have W1k2:=W1k1.ext (Ext.new (G.new (.row true 3 (ab t.first))) (.row true 29 (ag t.aR)))
    have W2k2:=W2k1.ext (Ext.new (G.new (.row true 3 (ab t.first))) (.row true 29 (ag t.aR)))
    have W3k2:=W3k1.ext (Ext.new (G.new (.row true 3 (ab t.first))) (.row true 29 (ag t.aR)))
    have Sk2:=Sk1.ext (Ext.new (G.new (.row true 3 (ab t.first))) (.row true 29 (ag t.aR)))
    have Lbk2:=fm Lb (Ext.new (G.new (.row true 3 (ab t.first))) (.row true 29 (ag t.aR)))
    have La:=eU (G.new (.row true 3 (ab t.first))) (.row true 29 (ag t.aR))
    have E2:=Ext.bA E1 (.row true 29 (ag t.aR))
    have hA:=eS ju W1k2 t.aR _ La.1 (by rw[l1];omega)
    rw[←hA1]at hA
    have N3:=Ow.ne W2k2 W1k2 (by decide)
    have N33:=Ow.ne W3k2 W1k2 (by decide)
    have W1n:=Ow.app W1k2 (E2).n [t.aR] (cells:=A1) (by rw[hA1];simp) rfl
    have W2k3:=Ow.other (β:=Int) (e':=3) (enc':=ab) (ys:=[]) (u:=.bool true) W2k2 N3 (.row true 29 A1)
    have W3k3:=Ow.other (β:=Int) (e':=3) (enc':=ab) (ys:=[]) (u:=.bool true) W3k2 N33 (.row true 29 A1)
    have Sk3:=Sk2.kp ((Kp.refl _).app (fun b hb=>Ow.nf W1k2 b hb) (.row true 29 A1))
    have Lbk3:=mQ (o:=o1) (c:=(.row true 29 A1)) Lbk2 (fun z=>by have q:=(W1.lt _ z).2;simp[cn]at q<;>omega)
    have E3:=Ext.app E2 (o:=o1) (fun b hb=>⟨(W1k2.lt b hb).1,(W1k2.lt b hb).2⟩) (.row true 29 A1)
    have hB:=eS iu W2k3 t.first _ Lbk3.1 (by rw[l2];omega)
    rw[←hA2]at hB
    have N4:=Ow.ne W1n W2k3 (by decide)
    have N34:=Ow.ne W3k3 W2k3 (by decide)
    have W2n:=Ow.app W2k3 (E3).n [t.first] (cells:=A2) (by rw[hA2];simp) rfl
    have W1k4:=Ow.other (β:=Int) (e':=3) (enc':=ab) (ys:=[]) (u:=.bool true) W1n N4 (.row true 3 A2)
    have W3k4:=Ow.other (β:=Int) (e':=3) (enc':=ab) (ys:=[]) (u:=.bool true) W3k3 N34 (.row true 3 A2)
    have Sk4:=Sk3.kp ((Kp.refl _).app (fun b hb=>Ow.nf W2k3 b hb) (.row true 3 A2))
    have E4:=Ext.app E3 (o:=o2) (fun b hb=>⟨(W2k3.lt b hb).1,(W2k3.lt b hb).2⟩) (.row true 3 A2)
    simp only[ag,V.ab]at hA hB
    simp -implicitDefEqProofs[aC,g5,g6,g7,g11,g12,g13,aI,hr1,hr2,hA,hB]
    have P1:=W1k4
    rw[←zW l i hti]at P1
    have P2:=W2n
    rw[←yW l i hti]at P2
    exact⟨_,_,o3,_,_,_,E4,Sk4,P1,P2,W3k4,by simp[cn],by simp[cn],by simp,by simp,by simp,by simp,by simp,by simp,by simp[aH]⟩
  ·rintro⟨T,⟨x,G⟩⟩ ⟨o1,o2,o3,v1,v2,v3,E,S,W1,W2,W3,g5,g6,g7,g8,g9,g11,g12,g13,x9⟩
   simp at E S W1 W2 W3 g5 g6 g7 g8 g9 g11 g12 g13 x9
   obtain⟨rfl,_⟩:=id W1
   obtain⟨rfl,_⟩:=id W2
   obtain⟨rfl,_⟩:=id W3
   have hps:=alK l i hti
   have hpl3:=tG 0 (l.take i)
   rw[List.length_take]at hpl3
   by_cases q:t.state=2
   ·rw[if_pos q]at hps
    have hA:=gx aac W3 ((i:Int),t.first) (by omega)
    obtain⟨A3,hA3⟩:∃A3,A3=(fG 0 (l.take i)).flatMap iz++iz ((i:Int),t.first):=⟨_,rfl⟩
    rw[←hA3]at hA
    simp only[iz]at hA
    simp only[aH]at x9
    simp -implicitDefEqProofs[g5,g6,g7,g8,g9,g11,g12,g13,x9,q,w1,aI,hr1,hr2,hA]
    have N1:=Ow.ne W1 W3 (by decide)
    have N2:=Ow.ne W2 W3 (by decide)
    have P3:=Ow.one W3 E.n (.row true 69 (iz ((i:Int),t.first))) ((i:Int),t.first) (cells:=A3) hA3
    rw[←hps]at P3
    have K:=afj W3 (.row true 69 (iz ((i:Int),t.first))) (.row true 69 A3)
    exact⟨m-(i+1),by omega,i+1,o1,o2,_,_,_,_,rfl,by omega,gz E W3 _ _,S.kp K,
     Ow.other (β:=Int) (e':=3) (enc':=ab) (ys:=[]) (u:=.bool true) (W1.ext (Ext.new _ _)) N1 _,Ow.other (β:=Int) (e':=3) (enc':=ab) (ys:=[]) (u:=.bool true) (W2.ext (Ext.new _ _)) N2 _,P3,by simp,by simp,by simp,by simp,by simp,by simp⟩
   ·rw[if_neg q,List.append_nil]at hps
    simp only[aH]at x9
    simp -implicitDefEqProofs[g5,g6,g7,g8,g9,g11,g12,g13,x9,q,w1]
    exact⟨m-(i+1),by omega,i+1,o1,o2,o3,_,_,_,rfl,by omega,E,S,W1,W2,by rw[hps];exact W3,by simp,by simp,by simp,by simp,by simp,by simp⟩
 ·have e:i=m:=by omega
  subst e
  have e1:lL l i=l.map (·.aR):=by unfold lL;rw[hm,List.take_length]
  have e2:lp l i=l.map (·.first):=by unfold lp;rw[hm,List.take_length]
  have e3:l.take i=l:=by rw[hm,List.take_length]
  simp -implicitDefEqProofs[g5,g6,g7]
  exact⟨E,o1,o2,o3,_,_,_,⟨rfl,rfl,rfl⟩,by rw[←e1];exact W1,by rw[←e2];exact W2,by rw[e3]at W3 ⊢;exact W3⟩
end
section
variable {h0 h h':aa} {a:Nat} {b:aK} {vc:List Value} {ov:Value} {o:Option Nat}
theorem sD (B:aY h0 h a b vc ov o) (M:aM b.v=true) (x:aN) (hx: -4611686018427387904≤x.first∧x.first≤4611686018427387904):
  ai PP 111 [.pointer (some ⟨a,0,none⟩),gb x] h (fun r h'=>Ext h h'∧aF 3 ab h' r (eX b x)):=by
 refine az mix aaX U4 rfl (by show 2≤20;decide) aib ?_
 simp only[va,Tryz.f111]
 have hp:=amm b.v M vc x.aR x.first hx h B.cK
 have hsb:eX b x=(cD b.v (cJ b.v) x.aR x.first).getD []:=by unfold eX;rw[if_pos M]
 rw[hsb]
 obtain⟨a1,n1,c1,g,r,a2,n2,c2,a3,n3,c3,a4,n4,c4,rfl,rfl,rfl,hrow⟩:=B.cells
 simp only[dD,ag]at hp
 simp -implicitDefEqProofs[gb,aH,hrow]
 refine hp.mono ?_
 unfold nO
 obtain⟨R,hR⟩:∃R,R=cD b.v (cJ b.v) x.aR x.first:=⟨_,rfl⟩
 rw[←hR]
 cases R with
 |none=>
  rintro r G2 ⟨E2,rfl⟩
  simp -implicitDefEqProofs[aC]
  intro _
  exact⟨E2,aF.nil⟩
 |some L=>
  rintro r G2 ⟨E2,sv,hsv,rfl⟩
  obtain⟨ad,c,rfl⟩:=hsv.shape
  simp -implicitDefEqProofs[aC]
  intro _
  exact⟨E2,hsv⟩
theorem BD (B:aY h0 h a b vc ov o) (hl:b.l.length≤1073741824) (id:Int):
  ai PP 112 [.pointer (some ⟨a,0,none⟩),.int .i64 id] h (fun r h'=>h'=h∧if id<1∨(b.l.length:Int)<id then r= .tuple #[.pointer none,.int .i64 4]else∃bo,o=some bo∧r= .tuple #[.pointer (some ⟨bo,(id.toNat-1)*6,none⟩),.int .i64 0]):=by
 refine az mix aaY U6 rfl (by show 2≤24;decide) aic ?_
 simp only[vd,Tryz.f112]
 have hW:=B.cP
 obtain⟨a1,n1,c1,g,r,a2,n2,c2,a3,n3,c3,a4,n4,c4,rfl,rfl,rfl,hrow⟩:=B.cells
 by_cases q1:id<1
 ·simp -implicitDefEqProofs[hrow,q1]
 ·by_cases q2:(b.l.length:Int)<id
  ·simp -implicitDefEqProofs[hrow,q1,q2]
  ·obtain⟨k,rfl⟩:∃k:Nat,id=(k:Int)+1:=⟨id.toNat-1,by omega⟩
   have hk:k<b.l.length:=by omega
   have wk:IntKind.wrap .i64 ((k:Int))=(k:Nat):=by rw[aA (by omega)]
   cases o with
   |none=>
    have:=hW.2
    rw[this]at hk
    simp at hk
   |some bo=>
    obtain⟨⟨c',r',e,q⟩,_⟩:=hW
    simp only[Value.slice.injEq]at e
    obtain⟨rfl,_,_⟩:=e
    have q3:¬((k:Int)+1<1):=by omega
    have hk2:¬((k:Int)<0):=by omega
    simp -implicitDefEqProofs[hrow,q1,q2,wk,hk,q,hk2,q3]
    try omega
end
theorem oU {L:List aN} {k:Nat} {t:aN} (ht:L[k]? =some t) (r:List Value):∃P Q:List Value,P.length=k*6∧L.flatMap aH++r=P++(aH t++Q)∧∀t',(L.set k t').flatMap aH++r=P++(aH t'++Q):=by
 obtain⟨hk,e⟩:=List.getElem?_eq_some_iff.1 ht
 refine⟨(L.take k).flatMap aH,(L.drop (k+1)).flatMap aH++r,?_,?_,fun t'=>?_⟩
 ·rw[dA 6 fx,List.length_take,Nat.min_eq_left (by omega)]
 ·have:L=L.take k++t::L.drop (k+1):=by rw[←e,←List.drop_eq_getElem_cons hk,List.take_append_drop]
  conv=>lhs;rw[this]
  simp
 ·rw[List.set_eq_take_append_cons_drop,if_pos hk]
  simp
theorem ph {P X:List Value} {n i:Nat} (h:P.length=n):(P++X).take (n+i)=P++X.take i:=by
 rw[List.take_append,h,List.take_of_length_le (by omega),Nat.add_sub_cancel_left]
theorem jS {P X:List Value} {n i:Nat} (h:P.length=n):(P++X).drop (n+i)=X.drop i:=by
 rw[List.drop_append,h,List.drop_of_length_le (by omega),Nat.add_sub_cancel_left,List.nil_append]
theorem J4 (h:aa) (bo k:Nat) {L:List aN} {t:aN} (ht:L[k]? =some t) (r:List Value) (hb:h.f bo= .row true 43 (L.flatMap aH++r)):
  ai PP 107 [.pointer (some ⟨bo,k*6,none⟩)] h (fun _ h'=>h'=h.set bo (.row true 43 ((L.set k (iR t)).flatMap aH++r))):=by
 refine az mix aaS UZ rfl (by show 1≤11;decide) ah6 ?_
 simp only[uX,Tryz.f107]
 obtain⟨P,Q,hP,e1,e2⟩:=oU ht r
 rw[e2 (iR t)]
 rw[e1]at hb
 have hl:∀X:List Value,(P++X).length=k*6+X.length:=fun X=>by rw[List.length_append,hP]
 have t1:∀X:List Value,(P++X).take (k*6+1)=P++X.take 1:=fun X=>ph hP
 have t4:∀X:List Value,(P++X).take (k*6+4)=P++X.take 4:=fun X=>ph hP
 have t5:∀X:List Value,(P++X).take (k*6+5)=P++X.take 5:=fun X=>ph hP
 have d2:∀X:List Value,(P++X).drop (k*6+1+1)=X.drop 2:=fun X=>jS (i:=2) hP
 have d5:∀X:List Value,(P++X).drop (k*6+4+1)=X.drop 5:=fun X=>jS (i:=5) hP
 have d6:∀X:List Value,(P++X).drop (k*6+5+1)=X.drop 6:=fun X=>jS (i:=6) hP
 simp only[aH,iR,List.cons_append,List.nil_append]at hb ⊢
 have z1:k*6+1+1≤k*6+(Q.length+1+1+1+1+1+1):=by omega
 have z2:k*6+4+1≤k*6+(Q.length+1+1+1+1+1+1):=by omega
 have z3:k*6+5+1≤k*6+(Q.length+1+1+1+1+1+1):=by omega
 simp -implicitDefEqProofs[hb,hP,z1,z2,z3,t1,t4,t5,d2,d5,d6]
 rw[jX,jX]
end Go.Proofs.Ybk.K
namespace Go.Proofs.Ybk.K
open Go Go.Am
open V (aq aP ah al aQ ab aX aM aB bT bX aZ bF)
theorem anv (a b:List aN) (p:List Int):eF (a++b) p=eF a p++eF b (p.drop (a.filter cS).length):=by
 induction a generalizing p with
 |nil=>rfl
 |cons o r ih=>
  rw[List.cons_append,eF,eF]
  by_cases q:cS o=true
  ·rw[if_pos q,if_pos q,ih,List.filter_cons_of_pos q,List.length_cons,List.cons_append,←List.drop_one,List.drop_drop,Nat.add_comm 1]
  ·rw[if_neg q,if_neg q,ih,List.filter_cons_of_neg q,List.cons_append]
theorem rS (a:List aN) (p:List Int):(eF a p).length=a.length:=by
 induction a generalizing p with
 |nil=>rfl
 |cons o r ih=>
  rw[eF]
  split<;>simp[ih]
def iE (l:List aN) (p:List Int) (i:Nat):List aN:=eF (l.take i) p++l.drop i
theorem anx (l:List aN) (p:List Int) (i:Nat):(iE l p i)[i]? =l[i]? :=by
 unfold iE
 by_cases h:i≤l.length
 ·rw[List.getElem?_append_right (by rw[rS,List.length_take];omega),rS,List.length_take,Nat.min_eq_left h,Nat.sub_self,List.getElem?_drop,Nat.add_zero]
 ·rw[List.getElem?_eq_none (by rw[List.length_append,rS,List.length_take,List.length_drop];omega),List.getElem?_eq_none (by omega)]
theorem anz (l:List aN) (p:List Int) (i:Nat) {t:aN} (ht:l[i]? =some t):iE l p (i+1)=if cS t=true then(iE l p i).set i {t with first:=(p.drop ((l.take i).filter cS).length).headD 0}else iE l p i:=by
 obtain⟨hi,e⟩:=List.getElem?_eq_some_iff.1 ht
 unfold iE
 have hd:l.drop i=t::l.drop (i+1):=by rw[←e];exact List.drop_eq_getElem_cons hi
 have hl:(eF (l.take i) p).length=i:=by rw[rS,List.length_take];omega
 rw[List.take_add_one,ht,Option.toList_some,anv,hd,eF]
 split
 ·rw[List.set_append_right _ _ (by omega),hl,Nat.sub_self,List.set_cons_zero,eF,List.append_assoc];rfl
 ·rw[eF,List.append_assoc];rfl
theorem anw (l:List aN) (p:List Int):iE l p l.length=eF l p:=by unfold iE;simp
theorem Ao (l:List aN) (p:List Int) (i:Nat):(iE l p i).length=l.length:=by
 unfold iE
 rw[List.length_append,rS,List.length_take,List.length_drop];omega
theorem aY.qB {h0 h:aa} {a:Nat} {b:aK} {vc:List Value} {ov:Value} {bo:Nat} (B:aY h0 h a b vc ov (some bo)) {L:List aN} (hl:L.length=b.l.length) (r:List Value):
  aY h0 (h.set bo (.row true 43 (L.flatMap aH++r))) a {b with l:=L} vc ov (some bo)∧Kp h (h.set bo (.row true 43 (L.flatMap aH++r))):=by
 obtain⟨⟨c,r',e,q⟩,n0,n1⟩:=B.cP
 have C:=fY h bo (.row true 43 (L.flatMap aH++r))
 have RS:=kS q
 have hne:¬a=bo:=fun z=>by have:=B.row;rw[z,q]at this;cases this
 refine⟨⟨by rw[iU _ _ hne];exact B.row,B.a0,B.a1,B.ext.cq n0 _,B.cK.dt C RS,⟨⟨c,r,by rw[e,←hl],by simp⟩,n0,n1⟩⟩,C.kp RS⟩
end Go.Proofs.Ybk.K
namespace Go.Proofs.Ybk.K
open Go Go.Am
set_option maxHeartbeats 4000000
open V (aq aP ah al aQ ab aX aM aB bT bX aZ bF)
def lf (l:List aN) (i:Nat):Nat:=((l.take i).filter cS).length
theorem Zf (l:List aN) (i:Nat) {t:aN} (ht:l[i]? =some t):lf l (i+1)=if cS t=true then lf l i+1 else lf l i:=by
 unfold lf
 rw[sP cS l i ht,List.length_append]
 split<;>simp
theorem Ze (l:List aN) (i:Nat):lf l i≤(l.filter cS).length:=by
 unfold lf
 have:((l.take i).filter cS).Sublist (l.filter cS):=(List.take_sublist i l).filter _
 exact this.length_le
def RW (h0 h1:aa) (a:Nat) (b:aK) (p:List Int) (vc:List Value) (ov pv:Value) (o:Option Nat) (m n:Nat) (σ:St):Prop:=∃i:Nat,n=m-i∧i≤m∧aY h0 σ.m.h a {b with l:=iE b.l p i} vc ov o∧b8 (a::o.toList) h1 σ.m.h∧aF 3 ab σ.m.h pv p∧
 σ.t.get 0=some (.pointer (some ⟨a,0,none⟩))∧σ.t.get 1=some pv∧σ.t.get 4=some (.int .i64 (lf b.l i:Nat))∧σ.t.get 10=some ov∧σ.t.get 11=some (.int .i64 (m:Nat))∧σ.t.get 12=some (.int .i64 (i:Nat))
theorem P8 {h0 h:aa} {a:Nat} {b:aK} {vc:List Value} {ov:Value} {o:Option Nat} (B:aY h0 h a b vc ov o) (hl:b.l.length≤1048576) (p:List Int) (pv:Value) (hp:aF 3 ab h pv p) (hpl:(bW b).length≤p.length):
  ai PP 110 [.pointer (some ⟨a,0,none⟩),pv] h (fun _ h'=>aY h0 h' a (qC b p) vc ov o∧b8 (a::o.toList) h h'):=by
 refine az mix aaW U3 rfl (by show 2≤33;decide) aia ?_
 simp only[u9,Tryz.f110]
 have hr1:List.range 1=[0]:=rfl
 obtain⟨adp,cp,rfl⟩:=hp.shape
 obtain⟨a1,n1,c1,g,r,a2,n2,c2,a3,n3,c3,a4,n4,c4,rfl,rfl,rfl,hrow⟩:=B.cells
 simp -implicitDefEqProofs[hrow]
 obtain⟨m,hm⟩:∃m,m=b.l.length:=⟨_,rfl⟩
 rw[←hm]at B ⊢
 have e0:iE b.l p 0=b.l:=by simp[iE,eF]
 refine bD (RW h0 h a b p [.slice a1 n1 c1,.int .i64 g,.int .i64 r,.slice a2 n2 c2,.slice a3 n3 c3] (.slice a4 m c4) (.slice adp p.length cp) o m) _ ⟨0,rfl,by omega,by rw[e0];exact B,b8.bu _ _,hp,by simp,by simp,by simp[lf],by simp,by simp,by simp⟩ ?_
 rintro n ⟨T,⟨x,G⟩⟩ ⟨i,rfl,hi,BG,CG,hpG,g0,g1,g4,g10,g11,g12⟩
 simp at BG CG hpG g0 g1 g4 g10 g11 g12
 simp -implicitDefEqProofs[g0,g1,g4,g10,g11,g12]
 refine bB (fun hc=>?_) (fun hc=>?_)<;>simp only[decide_eq_true_eq,decide_eq_false_iff_not]at hc
 ·have him:i<m:=by omega
  have w1:IntKind.wrap .i64 ((i:Int)+1)=((i+1:Nat):Int):=by rw[aA (by omega)];omega
  have hti:b.l[i]? =some b.l[i]:=List.getElem?_eq_getElem (by omega)
  obtain⟨t,ht⟩:∃t,t=b.l[i]:=⟨_,rfl⟩
  rw[←ht]at hti
  have hsi:=anx b.l p i
  rw[hti]at hsi
  have hss:=anz b.l p i hti
  have hcs:=Zf b.l i hti
  have hrowG:=BG.row
  simp only[fh,List.cons_append,List.nil_append]at hrowG
  cases o with
  |none=>
   have:=BG.cP.2
   simp only at this
   have hz:=Ao b.l p i
   rw[this]at hz
   simp at hz
   omega
  |some bo=>
   have hO:=BG.cP
   obtain⟨⟨c',r',e,q⟩,nn0,nn1⟩:=hO
   simp only[Value.slice.injEq]at e q
   obtain⟨rfl,_,_⟩:=e
   obtain⟨P,Q,hP,e1,e2⟩:=oU hsi r'
   rw[e1]at q
   have hd6:(P++(aH t++Q)).drop (i*6)=aH t++Q:=jS (i:=0) hP
   have hl6:i*6+6≤(P++(aH t++Q)).length:=by rw[List.length_append,hP,List.length_append,fx];omega
   have hl5:i*6+5+1≤(P++(aH t++Q)).length:=hl6
   have t5:(P++(aH t++Q)).take (i*6+5)=P++(aH t++Q).take 5:=ph hP
   have d6:(P++(aH t++Q)).drop (i*6+5+1)=Q:=jS (i:=6) hP
   have hst:∀v:Int,(P++(aH t++Q)).take (i*6+5)++Value.int .i64 v::(P++(aH t++Q)).drop (i*6+5+1)=P++(aH {t with first:=v}++Q):=fun v=>by rw[t5,d6];simp[aH]
   obtain⟨R,hR⟩:∃R,R=P++(aH t++Q):=⟨_,rfl⟩
   rw[←hR]at q hd6 hl6 hl5 hst
   simp only[aH,List.cons_append,List.nil_append]at hd6
   simp -implicitDefEqProofs[g0,g1,g4,g10,g11,g12,him,q,hd6,hl6]
   refine(Ou t G).mono ?_
   rintro rr h' ⟨e,rfl⟩
   replace e:=e.symm
   subst e
   by_cases z:cS t=true
   ·rw[if_pos z]at hss hcs
    have hjl:=Ze b.l (i+1)
    have hlv:(bW b).length=(b.l.filter cS).length:=rfl
    obtain⟨j,hj⟩:∃j,j=lf b.l i:=⟨_,rfl⟩
    have hjd:((b.l.take i).filter cS).length=j:=hj.symm
    rw[hjd]at hss
    have hji:j≤i:=by rw[hj];unfold lf;exact Nat.le_trans (List.length_filter_le _ _) (by rw[List.length_take];omega)
    rw[←hj]at hcs g4 ⊢
    have hjp:j<p.length:=by omega
    have hpj:p[j]? =some p[j]:=List.getElem?_eq_getElem hjp
    obtain⟨f,hf⟩:∃f,f=p[j]:=⟨_,rfl⟩
    rw[←hf]at hpj
    have hhd:(p.drop j).headD 0=f:=by rw[List.drop_eq_getElem_cons hjp,←hf];rfl
    rw[hhd]at hss
    obtain⟨_,bp,op,cpl,rp,rfl,hbp,hdp,hlp,_⟩:=hpG.at 1 V.cY hpj
    rw[Nat.mul_one]at hdp hlp
    have wj:IntKind.wrap .i64 ((j:Int)+1)=((j+1:Nat):Int):=by rw[aA (by omega)];omega
    have hst':=hst f
    obtain⟨BS,KS⟩:=BG.qB (L:=iE b.l p (i+1)) (by rw[Ao];exact(Ao b.l p i).symm) r'
    have hrow':(iE b.l p (i+1)).flatMap aH++r'=P++(aH {t with first:=f}++Q):=by rw[hss];exact e2 _
    rw[hrow']at BS KS
    have CS:b8 (a::(some bo).toList) h (G.set bo (.row true 43 (P++(aH {t with first:=f}++Q)))):=CG.trans (fY G bo _) (fun x hx _=>by simp at hx;simp[hx])
    simp -implicitDefEqProofs[ae,z,g0,g1,g4,g10,g11,g12,w1,wj,hrowG,him,hjp,hbp,hdp,hlp,q,hl5,hst',ab]
    intro _
    exact⟨m-(i+1),by omega,i+1,rfl,by omega,BS,CS,hpG.kp KS,by simp,by simp,by simp[hcs],by simp,by simp,by simp⟩
   ·rw[if_neg z]at hss hcs
    simp -implicitDefEqProofs[ae,z,g0,g1,g4,g10,g11,g12,w1]
    intro _
    exact⟨m-(i+1),by omega,i+1,rfl,by omega,by rw[hss];exact BG,CG,hpG,by simp,by simp,by simp[hcs],by simp,by simp,by simp⟩
 ·have e:i=m:=by omega
  subst e
  have ea:iE b.l p i=eF b.l p:=by rw[hm,anw]
  rw[ea]at BG
  simp -implicitDefEqProofs[g0]
  exact⟨BG,CG⟩
end Go.Proofs.Ybk.K
namespace Go.Proofs.Ybk.K
open Go Go.Am
open V (aq aP ah al aQ ab aX aM aB bT bX aZ bF)
section
variable {α:Type} {e:TypeId} {enc:α→List Value} {h0 h1 h h':aa} {o:Option Nat} {xs:List α} {v:Value}
theorem anD (H:cm e enc h v xs) (W:Wk h h'):cm e enc h' v xs:=by
 obtain⟨ad,c,q,n,z⟩:=H
 refine⟨ad,c,q,n,?_⟩
 rcases z with z|⟨b,off,w,cells,rest,z1,z2,z3,z4,z5⟩
 ·exact .inl z
 ·rcases W.f b with q|⟨e1,cs,q1,q2⟩
  ·exact .inr ⟨b,off,w,cells,rest,z1,by rw[q,z2],z3,z4,by rw[W.n];exact z5⟩
  ·rw[z2]at q1
   simp only[aO.row.injEq]at q1
   obtain⟨_,rfl,rfl⟩:=q1
   exact .inr ⟨b,off,false,cells,rest,z1,q2,z3,z4,by rw[W.n];exact z5⟩
theorem zQ (H:V.gL e enc h0 h v xs) (E:Ext h0 h):∃h',Wk h h'∧Ext h0 h'∧aF e enc h' v xs:=by
 obtain⟨h',W,S,C⟩:=H.1.cG
 refine⟨h',W,⟨W.g.trans E.g,by rw[W.n];exact E.n,fun b hb=>?_⟩,S⟩
 rw[←E.f b hb]
 refine Classical.byContradiction fun q=>?_
 have:=H.2 b _ _ _ (C b q)
 omega
theorem zR (H:V.gL e enc h0 h v xs) (W:Wk h h'):V.gL e enc h0 h' v xs:=⟨anD H.1 W,H.2⟩
theorem dm.low (H:dm e enc h1 h o xs v) (hn:h0.n≤h1.n):dm e enc h0 h o xs v:=by
 cases o with
 |none=>exact H
 |some b=>exact⟨H.1,Nat.le_trans hn H.2.1,H.2.2⟩
theorem als (H:Ow e enc h0 h o xs v):dm e enc h0 h o xs v:=by
 obtain⟨rfl,z⟩:=H
 cases o with
 |none=>simp only at z;subst z;exact⟨rfl,rfl⟩
 |some b=>exact⟨⟨_,[],rfl,by rw[List.append_nil];exact z.1⟩,z.2.1,z.2.2⟩
end
theorem aqx {h0 h:aa} {v:ah} {cs:List Value} (H:V.kZ h0 h v cs) (E:Ext h0 h):∃h',Wk h h'∧Ext h0 h'∧dJ h' v cs:=by
 obtain⟨s,k,p,rfl,z1,z2,z3⟩:=H
 obtain⟨F1,W1,E1,S1⟩:=zQ z1 E
 obtain⟨F2,W2,E2,S2⟩:=zQ (zR z2 W1) E1
 obtain⟨F3,W3,E3,S3⟩:=zQ (zR (zR z3 W1) W2) E2
 exact⟨F3,(W1.trans W2).trans W3,E3,s,k,p,rfl,(S1.wk W2).wk W3,S2.wk W3,S3⟩
section
variable {h0 h1 h h' h'':aa} {a a2:Nat} {b b' b2:aK} {vc vc2:List Value} {ov ov2:Value} {o o1 o2:Option Nat}
theorem aY.low (B:aY h1 h a b vc ov o) (E:Ext h0 h1):aY h0 h a b vc ov o:=
 ⟨B.row,Nat.le_trans E.n B.a0,B.a1,E.trans B.ext,B.cK,B.cP.low E.n⟩
theorem aY.gh (B:aY h0 h a b vc ov o):eZ (a::o.toList) h:=by
 refine eZ.cons B.row ?_
 intro x hx
 obtain⟨cs,q⟩:=B.cP.row x (by simpa using hx)
 exact⟨_,cs,q⟩
theorem aY.own (B:aY h0 h a b vc ov o):∀x∈a::o.toList,h0.n≤x∧x<h.n:=by
 intro x hx
 rcases List.mem_cons.1 hx with rfl|hx
 ·exact⟨B.a0,B.a1⟩
 ·exact B.cP.lt x (by simpa using hx)
theorem aY.dt (B:aY h0 h a b vc ov o) {S:List Nat} (C:b8 S h h') (hs:eZ S h) (h0S:∀x∈S,h0.n≤x) (hd:∀x∈a::o.toList,x∉S):aY h0 h' a b vc ov o where
 row:=by rw[C.f a B.a1 (hd a List.mem_cons_self)];exact B.row
 a0:=B.a0
 a1:=Nat.lt_of_lt_of_le B.a1 C.n
 ext:=⟨C.g.trans B.ext.g,Nat.le_trans B.ext.n C.n,fun x hx=>by
  rw[C.f x (Nat.lt_of_lt_of_le hx B.ext.n) (fun z=>by have:=h0S x z;omega)];exact B.ext.f x hx⟩
 cK:=B.cK.dt C hs
 cP:=B.cP.keep (fun x hx=>C.f x (B.cP.lt x hx).2 (hd x (by simp[hx]))) C.n
def bR (h0 h h':aa) (a:Nat) (o:Option Nat) (b:aK):Prop:=∃vc ov o',aY h0 h' a b vc ov o'∧b8 (a::o.toList) h h'∧∀x,o'=some x→o=some x∨h.n≤x
theorem bR.dR (B:aY h0 h a b vc ov o) (E:Ext h h'):bR h0 h h' a o b:=⟨vc,ov,o,B.exts E,b8.dR E,fun _ hx=>.inl hx⟩
theorem bR.lE (B:aY h0 h' a b vc ov o) (C:b8 (a::o.toList) h h'):bR h0 h h' a o b:=⟨vc,ov,o,B,C,fun _ hx=>.inl hx⟩
theorem bR.post (Q:bR h0 h h' a o b) (E:Ext h' h''):bR h0 h h'' a o b:=by
 obtain⟨vc,ov,o',B,C,D⟩:=Q
 exact⟨vc,ov,o',B.exts E,C.trans (b8.dR (S:=[]) E) (fun _ hi=>by cases hi),D⟩
theorem bR.pre (E:Ext h h1) (Q:bR h0 h1 h' a o b):bR h0 h h' a o b:=by
 obtain⟨vc,ov,o',B,C,D⟩:=Q
 refine⟨vc,ov,o',B,(b8.dR E).trans C (fun _ hi _=>hi),fun x hx=>?_⟩
 rcases D x hx with q|q
 ·exact .inl q
 ·exact .inr (Nat.le_trans E.n q)
theorem bR.trans (C1:b8 (a::o.toList) h h1) (D1:∀x,o1=some x→o=some x∨h.n≤x) (Q:bR h0 h1 h' a o1 b):bR h0 h h' a o b:=by
 obtain⟨vc,ov,o',B,C,D⟩:=Q
 refine⟨vc,ov,o',B,C1.trans C (fun i hi hl=>?_),fun x hx=>?_⟩
 ·rcases List.mem_cons.1 hi with rfl|hi
  ·exact List.mem_cons_self
  ·rcases D1 i (by simpa using hi)with q|q
   ·exact List.mem_cons_of_mem _ (by simpa using q)
   ·omega
 ·rcases D x hx with q|q
  ·exact D1 x q
  ·exact .inr (Nat.le_trans C1.n q)
theorem aY.other (B2:aY h0 h a2 b2 vc2 ov2 o2) (B:aY h0 h a b vc ov o) (C:b8 (a::o.toList) h h') (hd:∀x∈a2::o2.toList,x∉a::o.toList):aY h0 h' a2 b2 vc2 ov2 o2:=
 B2.dt C B.gh (fun x hx=>(B.own x hx).1) hd
theorem nS {C0 cs:List Value} (ha:h.f a= .row true 77 C0) (a0:h0.n≤a) (a1:a<h.n) (E:Ext h0 h) (hv:dJ h b.v vc) (W:dm 43 aH h0 h o b.l ov) (hc:cs=fh b vc ov):aY h0 (h.set a (.row true 77 cs)) a b vc ov o where
 row:=by rw[hc];simp
 a0:=a0
 a1:=a1
 ext:=E.cq a0 _
 cK:=hv.dt (fY h a _) (kS ha)
 cP:=W.keep (fun x hx=>iU _ _ (fun z=>by
  obtain⟨cs',q⟩:=W.row x hx
  rw[z,ha]at q
  simp only[aO.row.injEq]at q
  exact absurd q.2.1 (by decide))) (Nat.le_refl _)
end
end Go.Proofs.Ybk.K
namespace Go.Am
open Go
section
variable {P:Program}
def l6 (P:Program) (E:TypeId→List Value→List Value→Option Bool):List Field→List Value→List Value→Option Bool
 |[],_,_=>some true
 |f::fs,xs,ys=>if f.name= "_" then none else match P.underlying f.type,cf P f.type with
  |some (.struct _),some n=>(E f.type ((xs.drop f.offset).take n) ((ys.drop f.offset).take n)).bind fun r=>(l6 P E fs xs ys).map (r&&·)
  |some (.struct _),none=>none
  |_,_=>(jU P [f] xs ys).bind fun r=>(l6 P E fs xs ys).map (r&&·)
def kB (P:Program):Nat→TypeId→List Value→List Value→Option Bool
 |0,_,_,_=>none
 |n+1,t,u,v=>if P.stoodInHeld t=false then match P.underlying t with
  |some (.struct fs)=>l6 P (kB P n) fs.toList u v
  |_=>none else none
theorem aas (d:Nat) (xs ys:Array Value) (f:Field) (fs:List Field):(Op.eqFields d xs ys (f::fs)).aJ P=((Op.eqFields d xs ys [f]).aJ P).bind fun r=>if r=true then(Op.eqFields d xs ys fs).aJ P else some false:=by
 simp only[Op.eqFields]
 by_cases hn:f.name≠ "_"
 ·simp only[if_pos hn,bP]
  generalize (part f.type xs f.offset).aJ P=r1
  cases r1 with
  |none=>rfl
  |some a=>
   simp only[Option.bind_some]
   generalize (part f.type ys f.offset).aJ P=r2
   cases r2 with
   |none=>rfl
   |some b=>
    simp only[Option.bind_some]
    generalize (Op.equalIn d f.type a b).aJ P=r3
    cases r3 with
    |none=>rfl
    |some r=>cases r<;>rfl
 ·simp only[if_neg hn]
  simp[Sem.aJ,pure]
theorem Ps {t:TypeId} {gs:Array Field} {n:Nat} (hu:P.underlying t=some (.struct gs)) (hs:cf P t=some n) (cs:List Value) (off:Nat):(part t ⟨cs⟩ off).aJ P=some (.agg ⟨(cs.drop off).take n⟩):=by
 have h1:(isAgg t).aJ P=some true:=by
  simp only[isAgg,bP,underlying,ml,Option.bind_some,hu]
  simp[Sem.aJ,pure]
 have h2:(sizeOf t).aJ P=some n:=by
  unfold cf at hs
  cases hi:P.info? t with
  |none=>simp[hi]at hs
  |some i=>
   simp[hi]at hs
   simp[sizeOf,typeInfo,bP,ml,hi,hs,Sem.aJ,pure]
 simp only[part,bP,h1,Option.bind_some,if_true,h2]
 simp[Sem.aJ,pure]
theorem aau (d:Nat) (E:TypeId→List Value→List Value→Option Bool) (hE:∀t u v r,E t u v=some r→(Op.equalIn (d+1) t (.agg ⟨u⟩) (.agg ⟨v⟩)).aJ P=some r):
  ∀(fs:List Field) (xs ys:List Value) (r:Bool),l6 P E fs xs ys=some r→(Op.eqFields (d+1) ⟨xs⟩ ⟨ys⟩ fs).aJ P=some r:=by
 intro fs
 induction fs with
 |nil=>intro xs ys r h;simp only[l6,Option.some.injEq]at h;subst h;rfl
 |cons f fs ih=>
  intro xs ys r h
  rw[l6]at h
  split at h
  ·cases h
  ·rename_i hn
   rw[aas]
   have fin:∀(o:Option Bool),(∀r1,o=some r1→(Op.eqFields (d+1) ⟨xs⟩ ⟨ys⟩ [f]).aJ P=some r1)→(o.bind fun r=>(l6 P E fs xs ys).map (r&&·))=some r→
     (((Op.eqFields (d+1) ⟨xs⟩ ⟨ys⟩ [f]).aJ P).bind fun r=>if r=true then(Op.eqFields (d+1) ⟨xs⟩ ⟨ys⟩ fs).aJ P else some false)=some r:=by
    intro o ho hb
    cases o with
    |none=>cases hb
    |some r1=>
     rw[ho r1 rfl,Option.bind_some]
     rw[Option.bind_some]at hb
     obtain⟨r2,h1,h2⟩:=Option.map_eq_some_iff.1 hb
     cases r1 with
     |true=>rw[if_pos rfl,ih xs ys r2 h1,←h2];rfl
     |false=>rw[←h2];rfl
   split at h
   ·rename_i gs n hu hs
    refine fin _ (fun r1 h1=>?_) h
    simp only[Op.eqFields]
    rw[if_pos hn,bP,Ps hu hs,Option.bind_some,bP,Ps hu hs,Option.bind_some,bP,hE _ _ _ _ h1,Option.bind_some]
    cases r1<;>rfl
   ·cases h
   ·exact fin _ (fun r1 h1=>J8 d [f] xs ys r1 h1) h
theorem J9:∀(n d:Nat) (t:TypeId) (u v:List Value) (r:Bool),n+1≤d→kB P n t u v=some r→(Op.equalIn d t (.agg ⟨u⟩) (.agg ⟨v⟩)).aJ P=some r:=by
 intro n
 induction n with
 |zero=>intro d t u v r _ h;cases h
 |succ n ih=>
  intro d t u v r hd h
  rw[kB]at h
  split at h
  rotate_left
  ·cases h
  rename_i hp
  split at h
  rotate_left
  ·cases h
  rename_i fs hu
  obtain⟨d',rfl⟩:∃d',d=d'+1+1:=⟨d-2,by omega⟩
  rw[Ka (d'+1) t _ _ fs hu hp]
  exact aau d' (kB P n) (fun t u v r h=>ih (d'+1) t u v r (by omega) h) _ _ _ _ h
variable {σ:St}
theorem an0 {t yt ty:TypeId} {x y:Operand} {u v:List Value} {r:Bool} {d:Option Nat} {pos:String} {aft:Array Edge} {g:Option (Nat×Bool)} (hx:aG σ x=some (.agg ⟨u⟩)) (hy:aG σ y=some (.agg ⟨v⟩)) (hg:P.eqGuardType P.depth t=false) (hu:u.all cA=true) (hv:v.all cA=true) (h:kB P 5 t u v=some r):
  cu P σ ⟨d,.binOp .eql t x y yt,ty,pos,aft,g⟩=some (.bool r,σ):=by
 have hr:=J9 5 10000 t u v r (by omega) h
 refine nk (op:=.eql) (xt:=t) (yt:=yt) rfl hx hy (by simpa[bM]using hu) (by simpa[bM]using hv) ?_ ?_ rfl
 ·simp[eqGuard,bP,ml,hg,Sem.aJ,pure]
 ·have hr':(Op.equal t (.agg ⟨u⟩) (.agg ⟨v⟩)).aJ P=some r:=hr
  simp[binOp,bP,hr',Sem.aJ,pure]
theorem Qe {t yt ty:TypeId} {x y:Operand} {u v:List Value} {r:Bool} {d:Option Nat} {pos:String} {aft:Array Edge} {g:Option (Nat×Bool)} (hx:aG σ x=some (.agg ⟨u⟩)) (hy:aG σ y=some (.agg ⟨v⟩)) (hg:P.eqGuardType P.depth t=false) (hu:u.all cA=true) (hv:v.all cA=true) (h:kB P 5 t u v=some r):
  cu P σ ⟨d,.binOp .neq t x y yt,ty,pos,aft,g⟩=some (.bool (!r),σ):=by
 have hr:=J9 5 10000 t u v r (by omega) h
 refine nk (op:=.neq) (xt:=t) (yt:=yt) rfl hx hy (by simpa[bM]using hu) (by simpa[bM]using hv) ?_ ?_ rfl
 ·simp[eqGuard,bP,ml,hg,Sem.aJ,pure]
 ·have hr':(Op.equal t (.agg ⟨u⟩) (.agg ⟨v⟩)).aJ P=some r:=hr
  simp[binOp,bP,hr',Sem.aJ,pure]
end
end Go.Am
namespace Go.Proofs.Ybk
open Go Go.Am
theorem Z1:PP.eqGuardType PP.depth 43=false:=by kernel_rfl
theorem JR:PP.eqGuardType PP.depth 73=false:=by kernel_rfl
theorem PZ:PP.stoodInHeld 43=false:=by kernel_rfl
theorem anq:PP.stoodInHeld 73=false:=by kernel_rfl
theorem PY:PP.stoodInHeld 29=false:=by kernel_rfl
theorem aav (a1 a2 a3 a4 a5 a6 b1 b2 b3 b4 b5 b6:Int):kB PP 5 43 [.int .i64 a1,.int .i64 a2,.int .i64 a3,.int .i64 a4,.int .i64 a5,.int .i64 a6] [.int .i64 b1,.int .i64 b2,.int .i64 b3,.int .i64 b4,.int .i64 b5,.int .i64 b6]=
  some (decide (a1=b1)&&(decide (a2=b2)&&((decide (a3=b3)&&decide (a4=b4))&&(decide (a5=b5)&&decide (a6=b6))))):=by
 simp[kB,l6,jU,PZ,PY]
theorem aaw (a0 a1 a2 a3 a4 a5 a6 a7 b0 b1 b2 b3 b4 b5 b6 b7:Int) (s t:ByteArray):kB PP 5 73 [.int .i64 a0,.string s,.int .i64 a1,.int .i64 a2,.int .i64 a3,.int .i64 a4,.int .i64 a5,.int .i64 a6,.int .i64 a7] [.int .i64 b0,.string t,.int .i64 b1,.int .i64 b2,.int .i64 b3,.int .i64 b4,.int .i64 b5,.int .i64 b6,.int .i64 b7]=
  some (decide (a0=b0)&&(decide (s=t)&&((decide (a1=b1)&&(decide (a2=b2)&&((decide (a3=b3)&&decide (a4=b4))&&(decide (a5=b5)&&decide (a6=b6)))))&&decide (a7=b7)))):=by
 simp[kB,l6,jU,PZ,PY,anq]
noncomputable def lD (t:TypeId) (u v:List Value):Option Bool:=if u.all cA=true∧v.all cA=true then kB PP 5 t u v else none
theorem agK (a1 a2 a3 a4 a5 a6 b1 b2 b3 b4 b5 b6:Int):lD 43 [.int .i64 a1,.int .i64 a2,.int .i64 a3,.int .i64 a4,.int .i64 a5,.int .i64 a6] [.int .i64 b1,.int .i64 b2,.int .i64 b3,.int .i64 b4,.int .i64 b5,.int .i64 b6]=
  some (decide (a1=b1)&&(decide (a2=b2)&&((decide (a3=b3)&&decide (a4=b4))&&(decide (a5=b5)&&decide (a6=b6))))):=by
 unfold lD
 rw[if_pos ⟨rfl,rfl⟩,aav]
theorem agL (a0 a1 a2 a3 a4 a5 a6 a7 b0 b1 b2 b3 b4 b5 b6 b7:Int) (s t:ByteArray):lD 73 [.int .i64 a0,.string s,.int .i64 a1,.int .i64 a2,.int .i64 a3,.int .i64 a4,.int .i64 a5,.int .i64 a6,.int .i64 a7] [.int .i64 b0,.string t,.int .i64 b1,.int .i64 b2,.int .i64 b3,.int .i64 b4,.int .i64 b5,.int .i64 b6,.int .i64 b7]=
  some (decide (a0=b0)&&(decide (s=t)&&((decide (a1=b1)&&(decide (a2=b2)&&((decide (a3=b3)&&decide (a4=b4))&&(decide (a5=b5)&&decide (a6=b6)))))&&decide (a7=b7)))):=by
 unfold lD
 rw[if_pos ⟨rfl,rfl⟩,aaw]
noncomputable def nz (σ:St) (o:Oper):Option (Value×St):=cu PP σ o
section
variable {σ:St} {ty yt:TypeId} {x y:Operand} {d:Option Nat} {pos:String} {aft:Array Edge} {g:Option (Nat×Bool)}
theorem zI:cu PP σ ⟨d,.binOp .neq 43 x y yt,ty,pos,aft,g⟩=match aG σ x,aG σ y with
  |some (.agg u),some (.agg v)=>(match lD 43 u.toList v.toList with
   |some r=>some (.bool (!r),σ)
   |none=>nz σ ⟨d,.binOp .neq 43 x y yt,ty,pos,aft,g⟩)
  |_,_=>nz σ ⟨d,.binOp .neq 43 x y yt,ty,pos,aft,g⟩:=by
 split
 ·rename_i u v hx hy
  split
  ·rename_i r hr
   unfold lD at hr
   split at hr
   ·rename_i hf
    exact Qe (u:=u.toList) (v:=v.toList) hx hy Z1 hf.1 hf.2 hr
   ·cases hr
  ·rfl
 ·rfl
theorem agj:cu PP σ ⟨d,.binOp .neq 73 x y yt,ty,pos,aft,g⟩=match aG σ x,aG σ y with
  |some (.agg u),some (.agg v)=>(match lD 73 u.toList v.toList with
   |some r=>some (.bool (!r),σ)
   |none=>nz σ ⟨d,.binOp .neq 73 x y yt,ty,pos,aft,g⟩)
  |_,_=>nz σ ⟨d,.binOp .neq 73 x y yt,ty,pos,aft,g⟩:=by
 split
 ·rename_i u v hx hy
  split
  ·rename_i r hr
   unfold lD at hr
   split at hr
   ·rename_i hf
    exact Qe (u:=u.toList) (v:=v.toList) hx hy JR hf.1 hf.2 hr
   ·cases hr
  ·rfl
 ·rfl
theorem aax:cu PP σ ⟨d,.binOp .eql 73 x y yt,ty,pos,aft,g⟩=match aG σ x,aG σ y with
  |some (.agg u),some (.agg v)=>(match lD 73 u.toList v.toList with
   |some r=>some (.bool r,σ)
   |none=>nz σ ⟨d,.binOp .eql 73 x y yt,ty,pos,aft,g⟩)
  |_,_=>nz σ ⟨d,.binOp .eql 73 x y yt,ty,pos,aft,g⟩:=by
 split
 ·rename_i u v hx hy
  split
  ·rename_i r hr
   unfold lD at hr
   split at hr
   ·rename_i hf
    exact an0 (u:=u.toList) (v:=v.toList) hx hy JR hf.1 hf.2 hr
   ·cases hr
  ·rfl
 ·rfl
theorem aeW (n:Nat):(Op.equalIn (n+1) 26 (.pointer none) (.pointer none)).aJ PP=some true:=by
 simp only[Op.equalIn,bP,lN QA,Option.bind_some]
 rfl
theorem KE:(Op.equal 26 (.pointer none) (.pointer none)).aJ PP=some true:=aeW 9999
theorem aay:cu PP σ ⟨d,.binOp .eql 26 x y yt,ty,pos,aft,g⟩=match aG σ x,aG σ y with
  |some (.pointer none),some (.pointer none)=>some (.bool true,σ)
  |_,_=>nz σ ⟨d,.binOp .eql 26 x y yt,ty,pos,aft,g⟩:=by
 split
 ·rename_i hx hy
  refine nk (op:=.eql) (xt:=26) (yt:=yt) rfl hx hy rfl rfl ?_ ?_ rfl
  ·simp[eqGuard,Sem.aJ,pure]
  ·show(do pure (.bool (←Op.equal 26 (.pointer none) (.pointer none))):Sem Value).aJ PP=_
   rw[bP,KE];rfl
 ·rfl
theorem agk:cu PP σ ⟨d,.binOp .neq 26 x y yt,ty,pos,aft,g⟩=match aG σ x,aG σ y with
  |some (.pointer none),some (.pointer none)=>some (.bool false,σ)
  |_,_=>nz σ ⟨d,.binOp .neq 26 x y yt,ty,pos,aft,g⟩:=by
 split
 ·rename_i hx hy
  refine nk (op:=.neq) (xt:=26) (yt:=yt) rfl hx hy rfl rfl ?_ ?_ rfl
  ·simp[eqGuard,Sem.aJ,pure]
  ·show(do pure (.bool (!(←Op.equal 26 (.pointer none) (.pointer none)))):Sem Value).aJ PP=_
   rw[bP,KE];rfl
 ·rfl
end
attribute [simp] aay agk zI agj aax agK agL
end Go.Proofs.Ybk
namespace Go.Proofs.Ybk.K
open Go Go.Am
set_option maxHeartbeats 4000000
open V (aq aP ah al aQ ab aX aM aB bT bX aZ bF nA nB)
def sc {α:Type} (s u:Value) (xs ys:List α) (m:Nat) (h:aa) (n:Nat) (σ:St):Prop:=∃i:Nat,n=m-i∧i≤m∧σ.m.h=h∧σ.t.get 0=some s∧σ.t.get 1=some u∧σ.t.get 12=some (.int .i64 (m:Nat))∧σ.t.get 13=some (.int .i64 (i:Nat))∧xs.take i=ys.take i
theorem aaA (s u:Value) (xs ys:List aN) (hl:xs.length≤1073741824) (h:aa) (Hs:cm 43 aH h s xs) (Hu:cm 43 aH h u ys):ai PP 44 [s,u] h (fun r h'=>h'=h∧r= .bool (decide (xs=ys))):=by
 refine az mix ac0 Xi rfl (by show 2≤26;decide) akb ?_
 simp only[xR,Tryz.f44]
 obtain⟨ad1,c1,rfl⟩:=Hs.shape
 obtain⟨ad2,c2,rfl⟩:=Hu.shape
 by_cases q:(xs.length:Int)=ys.length
 rotate_left
 ·have:¬xs=ys:=fun e=>q (by rw[e])
  simp -implicitDefEqProofs[q,this]
 obtain⟨m,hm⟩:∃m,m=xs.length:=⟨_,rfl⟩
 have hm2:ys.length=m:=by omega
 rw[←hm]at Hs hl ⊢
 rw[hm2]at Hu ⊢
 clear q
 obtain⟨D,hD⟩:∃D,D=decide (xs=ys):=⟨_,rfl⟩
 rw[←hD]
 simp -implicitDefEqProofs
 refine bD (sc (.slice ad1 m c1) (.slice ad2 m c2) xs ys m h) _ ⟨0,rfl,by omega,rfl,by simp,by simp,by simp,by simp,by simp⟩ ?_
 rintro n ⟨T,⟨x,H⟩⟩ ⟨i,rfl,hi,hH,g0,g1,g12,g13,ht⟩
 simp at hH g0 g1 g12 g13
 subst hH
 simp -implicitDefEqProofs[g0,g1,g12,g13]
 refine bB (fun hc=>?_) (fun hc=>?_)<;>simp only[decide_eq_true_eq,decide_eq_false_iff_not]at hc
 ·have him:i<m:=by omega
  have hA:xs[i]? =some xs[i]:=List.getElem?_eq_getElem (by omega)
  have hB:ys[i]? =some ys[i]:=List.getElem?_eq_getElem (by omega)
  obtain⟨_,b1,o1,wb1,cs1,r1,rfl,bq,hd1,hl1,_⟩:=Hs.at 6 fx hA
  obtain⟨_,b2,o2,wb2,cs2,r2,rfl,bC,hd2,hl2,_⟩:=Hu.at 6 fx hB
  obtain⟨a',hea⟩:∃z,z=xs[i]:=⟨_,rfl⟩
  obtain⟨b',heb⟩:∃z,z=ys[i]:=⟨_,rfl⟩
  rw[←hea]at hd1 hA
  rw[←heb]at hd2 hB
  have w1:IntKind.wrap .i64 ((i:Int)+1)=((i+1:Nat):Int):=by rw[aA (by omega)];omega
  obtain⟨id,st,⟨sz,wh⟩,tl,fi⟩:=a'
  obtain⟨id2,st2,⟨rV,wh2⟩,tl2,fi2⟩:=b'
  simp -implicitDefEqProofs[g0,g1,g12,g13,him,bq,bC,hd1,hd2,hl1,hl2,aH,zI]
  refine bB (fun hq=>?_) (fun hq=>?_)
  ·have hne:¬xs=ys:=nA hA hB (fun e=>by simp only[aN.mk.injEq,aU.mk.injEq]at e;simp[e.1,e.2.1,e.2.2.1.1,e.2.2.1.2,e.2.2.2.1,e.2.2.2.2]at hq)
   simp -implicitDefEqProofs
   rw[hD];simp[hne]
  ·simp at hq
   obtain⟨rfl,rfl,⟨rfl,rfl⟩,rfl,rfl⟩:=hq
   simp -implicitDefEqProofs[g0,g1,g12,g13,w1]
   exact⟨m-(i+1),by omega,i+1,rfl,by omega,rfl,by simp[g0],by simp[g1],by simp[g12],by simp,nB hA hB ht⟩
 ·have e:i=m:=by omega
  subst e
  have he:xs=ys:=by rw[List.take_of_length_le (by omega),List.take_of_length_le (by omega)]at ht;exact ht
  simp -implicitDefEqProofs
  rw[hD];simp[he]
theorem aaC (s u:Value) (xs ys:List aq) (hl:xs.length≤1073741824) (h:aa) (Hs:cm 99 al h s xs) (Hu:cm 99 al h u ys):ai PP 81 [s,u] h (fun r h'=>h'=h∧r= .bool (decide (xs=ys))):=by
 refine az mix ady XF rfl (by show 2≤26;decide) aky ?_
 simp only[yo,Tryz.f81]
 obtain⟨ad1,c1,rfl⟩:=Hs.shape
 obtain⟨ad2,c2,rfl⟩:=Hu.shape
 by_cases q:(xs.length:Int)=ys.length
 rotate_left
 ·have:¬xs=ys:=fun e=>q (by rw[e])
  simp -implicitDefEqProofs[q,this]
 obtain⟨m,hm⟩:∃m,m=xs.length:=⟨_,rfl⟩
 have hm2:ys.length=m:=by omega
 rw[←hm]at Hs hl ⊢
 rw[hm2]at Hu ⊢
 clear q
 obtain⟨D,hD⟩:∃D,D=decide (xs=ys):=⟨_,rfl⟩
 rw[←hD]
 simp -implicitDefEqProofs
 refine bD (sc (.slice ad1 m c1) (.slice ad2 m c2) xs ys m h) _ ⟨0,rfl,by omega,rfl,by simp,by simp,by simp,by simp,by simp⟩ ?_
 rintro n ⟨T,⟨x,H⟩⟩ ⟨i,rfl,hi,hH,g0,g1,g12,g13,ht⟩
 simp at hH g0 g1 g12 g13
 subst hH
 simp -implicitDefEqProofs[g0,g1,g12,g13]
 refine bB (fun hc=>?_) (fun hc=>?_)<;>simp only[decide_eq_true_eq,decide_eq_false_iff_not]at hc
 ·have him:i<m:=by omega
  have hA:xs[i]? =some xs[i]:=List.getElem?_eq_getElem (by omega)
  have hB:ys[i]? =some ys[i]:=List.getElem?_eq_getElem (by omega)
  obtain⟨_,b1,o1,wb1,cs1,r1,rfl,bq,hd1,hl1,_⟩:=Hs.at 4 V.eM hA
  obtain⟨_,b2,o2,wb2,cs2,r2,rfl,bC,hd2,hl2,_⟩:=Hu.at 4 V.eM hB
  obtain⟨a',hea⟩:∃z,z=xs[i]:=⟨_,rfl⟩
  obtain⟨b',heb⟩:∃z,z=ys[i]:=⟨_,rfl⟩
  rw[←hea]at hd1 hA
  rw[←heb]at hd2 hB
  have w1:IntKind.wrap .i64 ((i:Int)+1)=((i+1:Nat):Int):=by rw[aA (by omega)];omega
  obtain⟨ar,ax,ay,ak⟩:=a'
  obtain⟨ar2,ax2,ay2,Us⟩:=b'
  simp -implicitDefEqProofs[g0,g1,g12,g13,him,bq,bC,hd1,hd2,hl1,hl2,al]
  refine bB (fun hq=>?_) (fun hq=>?_)
  ·have hne:¬xs=ys:=nA hA hB (fun e=>by simp only[aq.mk.injEq]at e;simp[e.1,e.2.1,e.2.2.1,e.2.2.2]at hq)
   simp -implicitDefEqProofs
   rw[hD];simp[hne]
  ·simp at hq
   obtain⟨rfl,rfl,rfl,rfl⟩:=hq
   simp -implicitDefEqProofs[g0,g1,g12,g13,w1]
   exact⟨m-(i+1),by omega,i+1,rfl,by omega,rfl,by simp[g0],by simp[g1],by simp[g12],by simp,nB hA hB ht⟩
 ·have e:i=m:=by omega
  subst e
  have he:xs=ys:=by rw[List.take_of_length_le (by omega),List.take_of_length_le (by omega)]at ht;exact ht
  simp -implicitDefEqProofs
  rw[hD];simp[he]
theorem aaz (s u:Value) (xs ys:List Int) (hl:xs.length≤1073741824) (h:aa) (Hs:cm 3 ab h s xs) (Hu:cm 3 ab h u ys):ai PP 82 [s,u] h (fun r h'=>h'=h∧r= .bool (decide (xs=ys))):=by
 refine az mix adz XG rfl (by show 2≤26;decide) akz ?_
 simp only[yp,Tryz.f82]
 obtain⟨ad1,c1,rfl⟩:=Hs.shape
 obtain⟨ad2,c2,rfl⟩:=Hu.shape
 by_cases q:(xs.length:Int)=ys.length
 rotate_left
 ·have:¬xs=ys:=fun e=>q (by rw[e])
  simp -implicitDefEqProofs[q,this]
 obtain⟨m,hm⟩:∃m,m=xs.length:=⟨_,rfl⟩
 have hm2:ys.length=m:=by omega
 rw[←hm]at Hs hl ⊢
 rw[hm2]at Hu ⊢
 clear q
 obtain⟨D,hD⟩:∃D,D=decide (xs=ys):=⟨_,rfl⟩
 rw[←hD]
 simp -implicitDefEqProofs
 refine bD (sc (.slice ad1 m c1) (.slice ad2 m c2) xs ys m h) _ ⟨0,rfl,by omega,rfl,by simp,by simp,by simp,by simp,by simp⟩ ?_
 rintro n ⟨T,⟨x,H⟩⟩ ⟨i,rfl,hi,hH,g0,g1,g12,g13,ht⟩
 simp at hH g0 g1 g12 g13
 subst hH
 simp -implicitDefEqProofs[g0,g1,g12,g13]
 refine bB (fun hc=>?_) (fun hc=>?_)<;>simp only[decide_eq_true_eq,decide_eq_false_iff_not]at hc
 ·have him:i<m:=by omega
  have hA:xs[i]? =some xs[i]:=List.getElem?_eq_getElem (by omega)
  have hB:ys[i]? =some ys[i]:=List.getElem?_eq_getElem (by omega)
  obtain⟨_,b1,o1,wb1,cs1,r1,rfl,bq,hd1,hl1,_⟩:=Hs.at 1 V.cY hA
  obtain⟨_,b2,o2,wb2,cs2,r2,rfl,bC,hd2,hl2,_⟩:=Hu.at 1 V.cY hB
  obtain⟨a',hea⟩:∃z,z=xs[i]:=⟨_,rfl⟩
  obtain⟨b',heb⟩:∃z,z=ys[i]:=⟨_,rfl⟩
  rw[←hea]at hd1 hA
  rw[←heb]at hd2 hB
  have w1:IntKind.wrap .i64 ((i:Int)+1)=((i+1:Nat):Int):=by rw[aA (by omega)];omega
  rw[Nat.mul_one]at hd1 hd2 hl1 hl2
  simp -implicitDefEqProofs[g0,g1,g12,g13,him,bq,bC,hd1,hd2,hl1,hl2,ab]
  refine bB (fun hq=>?_) (fun hq=>?_)
  ·have hne:¬xs=ys:=nA hA hB (fun e=>by simp[e]at hq)
   simp -implicitDefEqProofs
   rw[hD];simp[hne]
  ·simp at hq
   subst hq
   simp -implicitDefEqProofs[g0,g1,g12,g13,w1]
   exact⟨m-(i+1),by omega,i+1,rfl,by omega,rfl,by simp[g0],by simp[g1],by simp[g12],by simp,nB hA hB ht⟩
 ·have e:i=m:=by omega
  subst e
  have he:xs=ys:=by rw[List.take_of_length_le (by omega),List.take_of_length_le (by omega)]at ht;exact ht
  simp -implicitDefEqProofs
  rw[hD];simp[he]
theorem aaB (s u:Value) (xs ys:List aP) (hl:xs.length≤1073741824) (h:aa) (Hs:cm 103 aQ h s xs) (Hu:cm 103 aQ h u ys):ai PP 83 [s,u] h (fun r h'=>h'=h∧r= .bool (decide (xs=ys))):=by
 refine az mix adC XH rfl (by show 2≤26;decide) akA ?_
 simp only[yq,Tryz.f83]
 obtain⟨ad1,c1,rfl⟩:=Hs.shape
 obtain⟨ad2,c2,rfl⟩:=Hu.shape
 by_cases q:(xs.length:Int)=ys.length
 rotate_left
 ·have:¬xs=ys:=fun e=>q (by rw[e])
  simp -implicitDefEqProofs[q,this]
 obtain⟨m,hm⟩:∃m,m=xs.length:=⟨_,rfl⟩
 have hm2:ys.length=m:=by omega
 rw[←hm]at Hs hl ⊢
 rw[hm2]at Hu ⊢
 clear q
 obtain⟨D,hD⟩:∃D,D=decide (xs=ys):=⟨_,rfl⟩
 rw[←hD]
 simp -implicitDefEqProofs
 refine bD (sc (.slice ad1 m c1) (.slice ad2 m c2) xs ys m h) _ ⟨0,rfl,by omega,rfl,by simp,by simp,by simp,by simp,by simp⟩ ?_
 rintro n ⟨T,⟨x,H⟩⟩ ⟨i,rfl,hi,hH,g0,g1,g12,g13,ht⟩
 simp at hH g0 g1 g12 g13
 subst hH
 simp -implicitDefEqProofs[g0,g1,g12,g13]
 refine bB (fun hc=>?_) (fun hc=>?_)<;>simp only[decide_eq_true_eq,decide_eq_false_iff_not]at hc
 ·have him:i<m:=by omega
  have hA:xs[i]? =some xs[i]:=List.getElem?_eq_getElem (by omega)
  have hB:ys[i]? =some ys[i]:=List.getElem?_eq_getElem (by omega)
  obtain⟨_,b1,o1,wb1,cs1,r1,rfl,bq,hd1,hl1,_⟩:=Hs.at 3 V.mj hA
  obtain⟨_,b2,o2,wb2,cs2,r2,rfl,bC,hd2,hl2,_⟩:=Hu.at 3 V.mj hB
  obtain⟨a',hea⟩:∃z,z=xs[i]:=⟨_,rfl⟩
  obtain⟨b',heb⟩:∃z,z=ys[i]:=⟨_,rfl⟩
  rw[←hea]at hd1 hA
  rw[←heb]at hd2 hB
  have w1:IntKind.wrap .i64 ((i:Int)+1)=((i+1:Nat):Int):=by rw[aA (by omega)];omega
  obtain⟨ax,ay,ar⟩:=a'
  obtain⟨ax2,ay2,ar2⟩:=b'
  simp -implicitDefEqProofs[g0,g1,g12,g13,him,bq,bC,hd1,hd2,hl1,hl2,aQ]
  refine bB (fun hq=>?_) (fun hq=>?_)
  ·have hne:¬xs=ys:=nA hA hB (fun e=>by simp only[aP.mk.injEq]at e;simp[e.1,e.2.1,e.2.2]at hq)
   simp -implicitDefEqProofs
   rw[hD];simp[hne]
  ·simp at hq
   obtain⟨rfl,rfl,rfl⟩:=hq
   simp -implicitDefEqProofs[g0,g1,g12,g13,w1]
   exact⟨m-(i+1),by omega,i+1,rfl,by omega,rfl,by simp[g0],by simp[g1],by simp[g12],by simp,nB hA hB ht⟩
 ·have e:i=m:=by omega
  subst e
  have he:xs=ys:=by rw[List.take_of_length_le (by omega),List.take_of_length_le (by omega)]at ht;exact ht
  simp -implicitDefEqProofs
  rw[hD];simp[he]
end Go.Proofs.Ybk.K
namespace Go.Proofs.Ybk.K
open Go Go.Am
set_option maxHeartbeats 4000000
open V (aq aP ah al aQ ab aX aM aB bT bX aZ bF)
section
variable {h0 h h':aa} {a:Nat} {b:aK} {vc:List Value} {ov:Value} {o:Option Nat}
theorem FY (hl:b.l.length≤1073741824) (B:aY h0 h a b vc ov o):ai PP 35 [.pointer (some ⟨a,0,none⟩)] h (fun r h'=>Ext h h'∧∃a' ov' o',r= .pointer (some ⟨a',0,none⟩)∧aY h h' a' b vc ov' o'):=by
 refine az mix acR W9 rfl (by show 1≤15;decide) aj2 ?_
 simp only[xI,Tryz.f35]
 obtain⟨a1,n1,c1,g,r,a2,n2,c2,a3,n3,c3,a4,n4,c4,rfl,rfl,rfl,hrow⟩:=B.cells
 have hne:¬a=h.n:=by have:=B.a1;omega
 simp -implicitDefEqProofs[hrow,hne]
 obtain⟨G,hG⟩:∃G,G=(h.new (.row true 77 [.int .i64 0,.bool false,.slice none 0 0,.int .i64 0,.int .i64 0,.slice none 0 0,.slice none 0 0,.slice none 0 0,.int .i64 0])).set h.n (.row true 77 [.int .i64 b.fuel,.bool b.has,.slice a1 n1 c1,.int .i64 g,.int .i64 r,.slice a2 n2 c2,.slice a3 n3 c3,.slice a4 b.l.length c4,.int .i64 b.now]):=⟨_,rfl⟩
 rw[←hG]
 have EG:Ext h G:=by rw[hG];exact(Ext.new h _).cq (Nat.le_refl _) _
 have hGn:G.n=h.n+1:=by rw[hG];rfl
 have hGf:G.f h.n= .row true 77 [.int .i64 b.fuel,.bool b.has,.slice a1 n1 c1,.int .i64 g,.int .i64 r,.slice a2 n2 c2,.slice a3 n3 c3,.slice a4 b.l.length c4,.int .i64 b.now]:=by rw[hG];simp
 have BG:=B.exts EG
 refine(FI _ b.l hl G BG.cP.sl).mono ?_
 rintro w F ⟨EF,W⟩
 obtain⟨o',W'⟩:=Ow.fw W
 obtain⟨ad,rfl,_⟩:=id W
 have hFf:F.f h.n=G.f h.n:=EF.f _ (by omega)
 rw[hGf]at hFf
 simp -implicitDefEqProofs[ae,hFf]
 intro _
 have hF:Ext h F:=EG.trans EF
 refine⟨hF.cq (Nat.le_refl _) _,_,o',nS hFf (Nat.le_refl _) (by have:=EF.n;omega) hF (B.cK.ext hF) ((als W').low EG.n) rfl⟩
end
end Go.Proofs.Ybk.K
namespace Go.Proofs.Ybk.T
open Go Go.Am
set_option maxHeartbeats 2000000
end Go.Proofs.Ybk.T
namespace Go.Proofs.Ybk
open Go Go.Am
set_option maxHeartbeats 2000000
open T (a8 bG)
open V (aq aP ah)
def fZ (L:List (List UInt8)):List UInt8:=L.flatMap fun b=>b++[10]
end Go.Proofs.Ybk
namespace Go.Proofs.Ybk
open Go Go.Am
set_option maxHeartbeats 2000000
open T (a8 bG dC)
open V (aq aP ah)
end Go.Proofs.Ybk
namespace Go.Proofs.Ybk.T
open Go Go.Am
set_option maxHeartbeats 2000000
def de:List Int→List UInt8
 |[]=>[]
 |n::r=>32::(Lib.itoa n++de r)
theorem aeM {n:Int} (h:0≤n):Lib.itoa n=Lib.decDigits n.toNat:=by unfold Lib.itoa;rw[if_neg (by omega)]
end Go.Proofs.Ybk.T
namespace Go.Proofs.Ybk
open Go Go.Am
set_option maxHeartbeats 4000000
open T (a8 bG de)
open V (aq aP ah gF ij aB dB iN Ri dF dL eo aM)
inductive Ln where
 |aV (g:Int)
 |dX (g:Int)
 |dP (s:aq)
 |kill (row x:Int)
 |fR (p:aP)
def km (k:Int):List UInt8:=if k=0 then kl else if k=1 then jK else if k=2 then jJ else[63]
def Ln.word:Ln→List UInt8
 | .aV _=>fH
 | .dX _=>gG
 | .dP s=>km s.kind
 | .kill _ _=>fI
 | .fR _=>gU
def Ln.fP:Ln→List Int
 | .aV g=>[g]
 | .dX g=>[g]
 | .dP s=>[s.row,s.x,s.y]
 | .kill a b=>[a,b]
 | .fR p=>[p.x,p.y,p.r]
def Ln.bytes (l:Ln):List UInt8:=l.word++de l.fP
def Ln.ok:Ln→Prop
 | .aV g=>1≤g∧g≤1048576
 | .dX g=>0≤g∧g≤1048576
 | .dP s=>0≤s.row∧s.row≤999∧0≤s.x∧s.x≤1048576∧0≤s.y∧s.y≤1048576∧0≤s.kind∧s.kind≤2
 | .kill a b=>0≤a∧a≤999∧0≤b∧b≤1048576
 | .fR p=>0≤p.x∧p.x≤1048576∧0≤p.y∧p.y≤1048576∧1≤p.r∧p.r≤1048576
end Go.Proofs.Ybk
namespace Go.Proofs.Ybk
open Go Go.Am
set_option maxHeartbeats 4000000
open T (a8 bG de)
open V (aq aP ah gF ij aB dB iN Ri dF dL eo aM Made)
def jc (v:ah) (k:Int):aq:=v.af.getD k.toNat default
def ey (v:ah):List Ln:=[.aV v.aV,.dX v.bg]++(v.af.map Ln.dP++(v.aD.map (fun k=>Ln.kill (jc v k).row (jc v k).x)++v.aE.map Ln.fR))
def pX:List UInt8:=[35,32,97,32,118,101,110,117,101]
theorem afM {i:Nat} {v:ah} {row x:Int} (M:Made i v row x) (hi:i≤24):∀l∈ey v,l.ok:=by
 have hg:=M.aV
 have hr:=M.bg
 have hlen:=M.len
 intro l hl
 unfold ey at hl
 rcases List.mem_append.1 hl with hl|hl
 ·simp only[List.mem_cons,List.not_mem_nil,or_false]at hl
  rcases hl with rfl|rfl
  ·simp only[Ln.ok];omega
  ·simp only[Ln.ok];omega
 ·rcases List.mem_append.1 hl with hl|hl
  ·obtain⟨s,hs,rfl⟩:=List.mem_map.1 hl
   have:=M.dP s hs
   simp only[Ln.ok];omega
  ·rcases List.mem_append.1 hl with hl|hl
   ·obtain⟨k,hk,rfl⟩:=List.mem_map.1 hl
    have hkb:=M.kill k hk
    have hmem:jc v k∈v.af:=by
     unfold jc
     rw[List.getD_eq_getElem?_getD,List.getElem?_eq_getElem (by omega),Option.getD_some]
     exact List.getElem_mem _
    have:=M.dP _ hmem
    simp only[Ln.ok];omega
   ·obtain⟨p,hp,rfl⟩:=List.mem_map.1 hl
    have:=M.fR p hp
    simp only[Ln.ok];omega
end Go.Proofs.Ybk
namespace Go.Proofs.Ybk
open Go Go.Am
set_option maxHeartbeats 4000000
open T (de)
open V (aq aP ah al aQ ab aX aM)
theorem aqI (k:Int) (h:aa):ai PP 132 [.int .i64 k] h (fun v h'=>h'=h∧v= .string (B (km k))):=by
 refine az mix abe Vm rfl (by show 1≤10;decide) ait ?_
 simp only[vw,Tryz.f132]
 unfold km kl jK jJ
 by_cases h0:k=0
 ·simp -implicitDefEqProofs[h0]
 ·by_cases h1:k=1
  ·simp -implicitDefEqProofs[h1]
  ·by_cases h2:k=2
   ·simp -implicitDefEqProofs[h2]
   ·simp -implicitDefEqProofs[h0,h1,h2]
theorem gC {n:Int} (h:0≤n∧n≤2147483647):(Lib.itoa n).length≤20:=by
 rw[T.aeM h.1]
 exact F.pQ (by omega)
theorem anb (s:aq) (hs:(Ln.dP s).ok) (h:aa):ai PP 90 [aX s] h (fun v h'=>h'=h∧v= .string (B (Ln.dP s).bytes)):=by
 refine az mix adI XN rfl (by show 1≤21;decide) akG ?_
 simp only[yz,Tryz.f90]
 simp only[Ln.ok]at hs
 have l1:=gC (n:=s.row) (by omega)
 have l2:=gC (n:=s.x) (by omega)
 have l3:=gC (n:=s.y) (by omega)
 have l0:(km s.kind).length≤9:=by
  rcases(by omega:s.kind=0∨s.kind=1∨s.kind=2)with q|q|q<;>rw[q]<;>decide
 have d1:=fun H=>F.lh s.row (by omega) H
 have d2:=fun H=>F.lh s.x (by omega) H
 have d3:=fun H=>F.lh s.y (by omega) H
 have dw:=fun H=>aqI s.kind H
 have hb:(Ln.dP s).bytes=km s.kind++(32::(Lib.itoa s.row++(32::(Lib.itoa s.x++(32::Lib.itoa s.y))))):=by
  simp[Ln.bytes,Ln.word,Ln.fP,de]
 rw[hb]
 obtain⟨w0,hw0⟩:∃w,w=km s.kind:=⟨_,rfl⟩
 obtain⟨w1,hw1⟩:∃w,w=Lib.itoa s.row:=⟨_,rfl⟩
 obtain⟨w2,hw2⟩:∃w,w=Lib.itoa s.x:=⟨_,rfl⟩
 obtain⟨w3,hw3⟩:∃w,w=Lib.itoa s.y:=⟨_,rfl⟩
 rw[←hw0]at l0 dw ⊢
 rw[←hw1]at l1 d1 ⊢
 rw[←hw2]at l2 d2 ⊢
 rw[←hw3]at l3 d3 ⊢
 have f0:w0.length≤9223372036854775806:=by omega
 simp -implicitDefEqProofs[aX,al]
 refine(dw h).mono ?_
 rintro v h1 ⟨rfl,rfl⟩
 simp -implicitDefEqProofs[aC,f0]
 intro _
 refine(d1 h1).mono ?_
 rintro v h2 ⟨rfl,rfl⟩
 have g1:w0.length+1+w1.length≤9223372036854775807:=by omega
 have g2:w0.length+(w1.length+1)≤9223372036854775806:=by omega
 simp -implicitDefEqProofs[aC,f0,g1,g2]
 intro _
 refine(d2 h2).mono ?_
 rintro v h3 ⟨rfl,rfl⟩
 have g3:w0.length+(w1.length+1+1)+w2.length≤9223372036854775807:=by omega
 have g4:w0.length+(w1.length+(w2.length+1)+1)≤9223372036854775806:=by omega
 simp -implicitDefEqProofs[aC,f0,g1,g2,g3,g4]
 intro _
 refine(d3 h3).mono ?_
 rintro v h4 ⟨rfl,rfl⟩
 have g5:w0.length+(w1.length+(w2.length+1+1)+1)+w3.length≤9223372036854775807:=by omega
 simp -implicitDefEqProofs[aC,f0,g1,g2,g3,g4,g5]
def fr (L:List Ln):List UInt8:=fZ (L.map Ln.bytes)
theorem BP (l:Ln) (h:l.ok):l.bytes.length≤99:=by
 cases l with
 |aV g=>
  simp only[Ln.ok]at h
  have:=gC (n:=g) (by omega)
  simp[Ln.bytes,Ln.word,Ln.fP,de,fH];omega
 |dX g=>
  simp only[Ln.ok]at h
  have:=gC (n:=g) (by omega)
  simp[Ln.bytes,Ln.word,Ln.fP,de,gG];omega
 |kill a b=>
  simp only[Ln.ok]at h
  have h1:=gC (n:=a) (by omega)
  have h2:=gC (n:=b) (by omega)
  simp[Ln.bytes,Ln.word,Ln.fP,de,fI];omega
 |fR p=>
  simp only[Ln.ok]at h
  have h1:=gC (n:=p.x) (by omega)
  have h2:=gC (n:=p.y) (by omega)
  have h3:=gC (n:=p.r) (by omega)
  simp[Ln.bytes,Ln.word,Ln.fP,de,gU];omega
 |dP s=>
  simp only[Ln.ok]at h
  have h1:=gC (n:=s.row) (by omega)
  have h2:=gC (n:=s.x) (by omega)
  have h3:=gC (n:=s.y) (by omega)
  have l0:(km s.kind).length≤9:=by
   rcases(by omega:s.kind=0∨s.kind=1∨s.kind=2)with q|q|q<;>rw[q]<;>decide
  simp[Ln.bytes,Ln.word,Ln.fP,de];omega
theorem KP:∀(L:List Ln),(∀l∈L,l.ok)→(fr L).length≤100*L.length:=by
 intro L
 induction L with
 |nil=>intro _;simp[fr,fZ]
 |cons l L ih=>
  intro h
  have h1:=BP l (h l List.mem_cons_self)
  have h2:=ih (fun l hl=>h l (List.mem_cons_of_mem _ hl))
  have e:fr (l::L)=l.bytes++10::fr L:=by simp[fr,fZ]
  rw[e]
  simp;omega
theorem aeP (A B:List Ln):fr (A++B)=fr A++fr B:=by simp[fr,fZ]
theorem aeQ (l:Ln):fr [l]=l.bytes++[10]:=by simp[fr,fZ]
theorem zn {pre xs:List Ln} {i:Nat} {l:Ln} (h:xs[i]? =some l):fr (pre++xs.take (i+1))=fr (pre++xs.take i)++(l.bytes++[10]):=by
 rw[List.take_add_one,h,←List.append_assoc,aeP,Option.toList_some,aeQ]
def uJ (ti:Nat) (cs:List Value) (pre xs:List Ln) (m:Nat) (h:aa) (n:Nat) (σ:St):Prop:=∃i:Nat,n=m-i∧i≤m∧σ.m.h=h∧σ.t.get 1=some (.pointer (some ⟨1,0,some 0⟩))∧σ.t.get 4=some (.string (B (fr (pre++xs.take i))))∧σ.t.get ti=some (.int .i64 (i:Nat))∧σ.m.x.look 1=some (63,cs)
theorem amj (v:ah) (cs:List Value) (hv:v.af.length≤1000∧v.aD.length≤1000∧v.aE.length≤1000) (hok:∀l∈ey v,l.ok) (hm:aM v=true) (hk:∀k∈v.aD,0≤k∧k<v.af.length) (h:aa) (H:V.bF h v cs):
  ai PP 46 [.agg ⟨cs⟩] h (fun r h'=>h'=h∧r= .tuple #[.string (B (fr (ey v))),.int .i64 0]):=by
 refine az mix ac2 Xk rfl (by show 1≤97;decide) akd ?_
 simp only[xT,Tryz.f46]
 have rm:=V.amO v cs ⟨by omega,by omega,by omega⟩ h H
 rw[hm]at rm
 obtain⟨s,k,p,rfl,h1,h2,h3⟩:=H
 obtain⟨ad1,c1,e1⟩:=h1.shape
 obtain⟨ad2,c2,e2⟩:=h2.shape
 obtain⟨ad3,c3,e3⟩:=h3.shape
 subst e1;subst e2;subst e3
 obtain⟨ms,hms⟩:∃m,m=v.af.length:=⟨_,rfl⟩
 obtain⟨mk,hmk⟩:∃m,m=v.aD.length:=⟨_,rfl⟩
 obtain⟨mp,hmp⟩:∃m,m=v.aE.length:=⟨_,rfl⟩
 rw[←hms]at h1 rm hk ⊢
 rw[←hmk]at h2 rm ⊢
 rw[←hmp]at h3 rm ⊢
 obtain⟨g,hg⟩:∃g,g=v.aV:=⟨_,rfl⟩
 obtain⟨r,hr⟩:∃r,r=v.bg:=⟨_,rfl⟩
 have og:=hok (.aV v.aV) (by simp[ey])
 have orr:=hok (.dX v.bg) (by simp[ey])
 simp only[Ln.ok]at og orr
 rw[←hg]at og rm ⊢
 rw[←hr]at orr rm ⊢
 have dg:=fun H=>F.lh g (by omega) H
 have dr:=fun H=>F.lh r (by omega) H
 have lg:=gC (n:=g) (by omega)
 have lr:=gC (n:=r) (by omega)
 obtain⟨wg,hwg⟩:∃w,w=Lib.itoa g:=⟨_,rfl⟩
 obtain⟨wr,hwr⟩:∃w,w=Lib.itoa r:=⟨_,rfl⟩
 rw[←hwg]at dg lg
 rw[←hwr]at dr lr
 have p1:4+wg.length≤9223372036854775807:=by omega
 have p2:wg.length≤9223372036854775795:=by omega
 simp -implicitDefEqProofs
 refine rm.mono ?_
 rintro v h0 ⟨rfl,rfl⟩
 simp -implicitDefEqProofs[ae]
 intro _
 refine(dg h0).mono ?_
 rintro v h1' ⟨rfl,rfl⟩
 simp -implicitDefEqProofs[aC,p1,p2]
 intro _
 refine(dr h1').mono ?_
 rintro v2 h2' ⟨rfl,rfl⟩
 have p3:wg.length+8+1+1+1+1+wr.length≤9223372036854775807:=by omega
 have p4:wg.length+(wr.length+8)≤9223372036854775802:=by omega
 have p5:wg.length+(wr.length+1+1+1+1+1+1+1+1)≤9223372036854775802:=by omega
 simp -implicitDefEqProofs[aC,p1,p2,p3,p4,p5]
 intro _
 clear p1 p2 p3 p4 p5 dg dr rm
 obtain⟨L0,hL0⟩:∃L,L=[Ln.aV g,Ln.dX r]:=⟨_,rfl⟩
 have hpre:103::97::112::32::(wg++10::114::97::100::105::117::115::32::(wr++[10]))=fr L0:=by
  rw[hL0]
  simp[fr,fZ,Ln.bytes,Ln.word,Ln.fP,de,fH,gG,hwg,hwr]
 obtain⟨X1,hX1⟩:∃X,X=v.af.map Ln.dP:=⟨_,rfl⟩
 obtain⟨X2,hX2⟩:∃X,X=v.aD.map (fun k=>Ln.kill (jc v k).row (jc v k).x):=⟨_,rfl⟩
 obtain⟨X3,hX3⟩:∃X,X=v.aE.map Ln.fR:=⟨_,rfl⟩
 have aL:ey v=L0++(X1++(X2++X3)):=by rw[hL0,hX1,hX2,hX3,hg,hr];rfl
 have hlen:∀(A B:List Ln),ey v=A++B→(fr A).length≤310000:=fun A B e=>by
  have h1:=KP A (fun l hl=>hok l (by rw[e];exact List.mem_append_left _ hl))
  have h2:(ey v).length≤3002:=by rw[aL,hL0,hX1,hX2,hX3];simp;omega
  rw[e,List.length_append]at h2
  omega
 have hl1:X1.length=ms:=by rw[hX1,hms];simp
 have hl2:X2.length=mk:=by rw[hX2,hmk];simp
 have hl3:X3.length=mp:=by rw[hX3,hmp];simp
 obtain⟨cs,hcs⟩:∃cs,cs=[Value.slice ad1 ms c1,Value.int IntKind.i64 g,Value.int IntKind.i64 r,Value.slice ad2 mk c2,Value.slice ad3 mp c3]:=⟨_,rfl⟩
 rw[hpre,←hcs]
 refine bD (uJ 5 cs L0 X1 ms h2') ms ⟨0,by omega,by omega,rfl,by simp,by simp,by simp,by simp⟩ ?_
 rintro n0 ⟨T0,⟨x0',H0⟩⟩ ⟨i,rfl,hi,hH,g1,g4,gi,x1⟩
 simp at hH g1 g4 gi x1
 subst hH
 rw[hcs]at x1
 simp -implicitDefEqProofs[g1,g4,gi,x1]
 refine bB (fun hc=>?_) (fun hc=>?_)<;>simp only[decide_eq_true_eq,decide_eq_false_iff_not]at hc
 ·have hil:i<ms:=by omega
  have hti:v.af[i]? =some v.af[i]:=List.getElem?_eq_getElem (by omega)
  obtain⟨t,ht⟩:∃t,t=v.af[i]:=⟨_,rfl⟩
  rw[←ht]at hti
  obtain⟨_,b,o,wb,cb,rb,rfl,hb,hd,hlc,_⟩:=h1.at 4 V.eM hti
  have hlc':o+i*4+4≤cb.length:=hlc
  have hxi:X1[i]? =some (Ln.dP t):=by rw[hX1,List.getElem?_map,hti];rfl
  have hnx:=zn (pre:=L0) hxi
  have ok:=hok (Ln.dP t) (by rw[aL];exact List.mem_append_right _ (List.mem_append_left _ (List.mem_of_getElem? hxi)))
  have lS:=hlen (L0++X1.take i) (X1.drop i++(X2++X3)) (by rw[aL,List.append_assoc,←List.append_assoc (X1.take i),List.take_append_drop])
  have lb:=BP _ ok
  obtain⟨S,hS⟩:∃S,S=fr (L0++X1.take i):=⟨_,rfl⟩
  rw[←hS]at lS g4 hnx ⊢
  have st:=fun H=>anb t ok H
  obtain⟨w,hw⟩:∃w,w=(Ln.dP t).bytes:=⟨_,rfl⟩
  rw[←hw]at st lb hnx
  obtain⟨i1,eJ⟩:∃i1,i1=i+1:=⟨_,rfl⟩
  have w1:IntKind.wrap .i64 ((i:Int)+1)=(i1:Int):=by rw[aA (by omega)];omega
  have f1:S.length+w.length≤9223372036854775807:=by omega
  have f2:S.length+w.length≤9223372036854775806:=by omega
  simp -implicitDefEqProofs[g1,g4,gi,x1,hil,hb,hd,hlc',al]
  refine(st H0).mono ?_
  rintro v1 h1x ⟨rfl,rfl⟩
  simp -implicitDefEqProofs[ae,f1,f2,w1,g1,x1]
  intro _
  exact⟨ms-i1,by omega,i1,rfl,by omega,rfl,by simp,by rw[eJ,hnx];simp,by simp,by simp[hcs]⟩
 ·have him:i=ms:=by omega
  rw[him,List.take_of_length_le (by omega)]at g4
  rw[him,List.take_of_length_le (by omega)]
  simp -implicitDefEqProofs[g1,g4,x1]
  obtain⟨L1,hL1⟩:∃L,L=L0++X1:=⟨_,rfl⟩
  rw[←hL1,←hcs]
  clear him gi hc hi g1 g4 x1
  refine bD (uJ 6 cs L1 X2 mk H0) mk ⟨0,by omega,by omega,rfl,by simp,by simp,by simp,by simp⟩ ?_
  rintro n1 ⟨T1,⟨x1',H1⟩⟩ ⟨i,rfl,hi,hH,g1,g4,gi,x1⟩
  simp at hH g1 g4 gi x1
  subst hH
  rw[hcs]at x1
  simp -implicitDefEqProofs[g1,g4,gi,x1]
  refine bB (fun hc=>?_) (fun hc=>?_)<;>simp only[decide_eq_true_eq,decide_eq_false_iff_not]at hc
  ·have hil:i<mk:=by omega
   have hki:v.aD[i]? =some v.aD[i]:=List.getElem?_eq_getElem (by omega)
   obtain⟨k,hkk⟩:∃t,t=v.aD[i]:=⟨_,rfl⟩
   rw[←hkk]at hki
   have hkb:=hk k (List.mem_of_getElem? hki)
   obtain⟨kn,hkn⟩:∃kn:Nat,k=kn:=⟨k.toNat,by omega⟩
   have hkms:kn<ms:=by omega
   have hti:v.af[kn]? =some v.af[kn]:=List.getElem?_eq_getElem (by omega)
   obtain⟨t,ht⟩:∃t,t=v.af[kn]:=⟨_,rfl⟩
   rw[←ht]at hti
   have hse:jc v k=t:=by unfold jc;rw[hkn,Int.toNat_natCast,List.getD_eq_getElem?_getD,hti];rfl
   obtain⟨_,b,o,wb,cb,rb,rfl,hb,hd,hlc,_⟩:=h1.at 4 V.eM hti
   have hlc':o+kn*4+4≤cb.length:=hlc
   obtain⟨_,b2,o2,wb2,cb2,rb2,rfl,bC,hd2,hlc2,_⟩:=h2.at 1 V.cY hki
   have hlc2':o2+i+1≤cb2.length:=by omega
   rw[Nat.mul_one,hkn]at hd2
   have hxi:X2[i]? =some (Ln.kill t.row t.x):=by rw[hX2,List.getElem?_map,hki,Option.map_some,hse]
   have hnx:=zn (pre:=L1) hxi
   have ok:=hok (Ln.kill t.row t.x) (by rw[aL];exact List.mem_append_right _ (List.mem_append_right _ (List.mem_append_left _ (List.mem_of_getElem? hxi))))
   have lS:=hlen (L1++X2.take i) (X2.drop i++X3) (by rw[aL,hL1,List.append_assoc,List.append_assoc,←List.append_assoc (X2.take i),List.take_append_drop])
   simp only[Ln.ok]at ok
   have la:=gC (n:=t.row) (by omega)
   have lb:=gC (n:=t.x) (by omega)
   have da:=fun H=>F.lh t.row (by omega) H
   have db:=fun H=>F.lh t.x (by omega) H
   obtain⟨S,hS⟩:∃S,S=fr (L1++X2.take i):=⟨_,rfl⟩
   rw[←hS]at lS g4 hnx ⊢
   have hby:(Ln.kill t.row t.x).bytes=[107,105,108,108,32]++(Lib.itoa t.row++32::Lib.itoa t.x):=by simp[Ln.bytes,Ln.word,Ln.fP,de,fI]
   rw[hby]at hnx
   obtain⟨wa,hwa⟩:∃w,w=Lib.itoa t.row:=⟨_,rfl⟩
   obtain⟨wb,hwb⟩:∃w,w=Lib.itoa t.x:=⟨_,rfl⟩
   rw[←hwa]at la da hnx
   rw[←hwb]at lb db hnx
   obtain⟨i1,eJ⟩:∃i1,i1=i+1:=⟨_,rfl⟩
   have w1:IntKind.wrap .i64 ((i:Int)+1)=(i1:Int):=by rw[aA (by omega)];omega
   have f1:S.length≤9223372036854775802:=by omega
   have f2:S.length+5+wa.length≤9223372036854775807:=by omega
   have f3:S.length+(wa.length+5)≤9223372036854775806:=by omega
   simp -implicitDefEqProofs[g1,g4,gi,x1,hil,hb,hd,hlc',bC,hd2,hlc2',hkms,al,ab,f1]
   refine(da H1).mono ?_
   rintro v1 h1x ⟨rfl,rfl⟩
   have f4:S.length+(wa.length+1+5)+wb.length≤9223372036854775807:=by omega
   have f5:S.length+(wa.length+(wb.length+1)+5)≤9223372036854775806:=by omega
   simp -implicitDefEqProofs[aC,f1,f2,f3,w1,g1,x1]
   intro _
   refine(db h1x).mono ?_
   rintro v2 h2x ⟨rfl,rfl⟩
   simp -implicitDefEqProofs[aC,f1,f2,f3,f4,f5,w1,g1,x1]
   intro _
   exact⟨mk-i1,by omega,i1,rfl,by omega,rfl,by simp,by rw[eJ,hnx];simp,by simp,by simp[hcs]⟩
  ·have him:i=mk:=by omega
   rw[him,List.take_of_length_le (by omega)]at g4
   rw[him,List.take_of_length_le (by omega)]
   simp -implicitDefEqProofs[g1,g4,x1]
   obtain⟨L2,hL2⟩:∃L,L=L1++X2:=⟨_,rfl⟩
   rw[←hL2,←hcs]
   clear him gi hc hi g1 g4 x1
   refine bD (uJ 8 cs L2 X3 mp H1) mp ⟨0,by omega,by omega,rfl,by simp,by simp,by simp,by simp⟩ ?_
   rintro n2 ⟨T2,⟨x2',H2⟩⟩ ⟨i,rfl,hi,hH,g1,g4,gi,x1⟩
   simp at hH g1 g4 gi x1
   subst hH
   rw[hcs]at x1
   simp -implicitDefEqProofs[g1,g4,gi,x1]
   refine bB (fun hc=>?_) (fun hc=>?_)<;>simp only[decide_eq_true_eq,decide_eq_false_iff_not]at hc
   ·have hil:i<mp:=by omega
    have hti:v.aE[i]? =some v.aE[i]:=List.getElem?_eq_getElem (by omega)
    obtain⟨t,ht⟩:∃t,t=v.aE[i]:=⟨_,rfl⟩
    rw[←ht]at hti
    obtain⟨_,b,o,wb,cb,rb,rfl,hb,hd,hlc,_⟩:=h3.at 3 V.mj hti
    have hlc':o+i*3+3≤cb.length:=hlc
    have hxi:X3[i]? =some (Ln.fR t):=by rw[hX3,List.getElem?_map,hti];rfl
    have hnx:=zn (pre:=L2) hxi
    have ok:=hok (Ln.fR t) (by rw[aL];exact List.mem_append_right _ (List.mem_append_right _ (List.mem_append_right _ (List.mem_of_getElem? hxi))))
    have lS:=hlen (L2++X3.take i) (X3.drop i) (by rw[aL,hL2,hL1,List.append_assoc,List.append_assoc,List.append_assoc,List.take_append_drop])
    simp only[Ln.ok]at ok
    have la:=gC (n:=t.x) (by omega)
    have lb:=gC (n:=t.y) (by omega)
    have lc:=gC (n:=t.r) (by omega)
    have da:=fun H=>F.lh t.x (by omega) H
    have db:=fun H=>F.lh t.y (by omega) H
    have dc:=fun H=>F.lh t.r (by omega) H
    obtain⟨S,hS⟩:∃S,S=fr (L2++X3.take i):=⟨_,rfl⟩
    rw[←hS]at lS g4 hnx ⊢
    have hby:(Ln.fR t).bytes=[112,111,108,101,32]++(Lib.itoa t.x++32::(Lib.itoa t.y++32::Lib.itoa t.r)):=by simp[Ln.bytes,Ln.word,Ln.fP,de,gU]
    rw[hby]at hnx
    obtain⟨wa,hwa⟩:∃w,w=Lib.itoa t.x:=⟨_,rfl⟩
    obtain⟨wb,hwb⟩:∃w,w=Lib.itoa t.y:=⟨_,rfl⟩
    obtain⟨wc,hwc⟩:∃w,w=Lib.itoa t.r:=⟨_,rfl⟩
    rw[←hwa]at la da hnx
    rw[←hwb]at lb db hnx
    rw[←hwc]at lc dc hnx
    obtain⟨i1,eJ⟩:∃i1,i1=i+1:=⟨_,rfl⟩
    have w1:IntKind.wrap .i64 ((i:Int)+1)=(i1:Int):=by rw[aA (by omega)];omega
    have f1:S.length≤9223372036854775802:=by omega
    have f2:S.length+5+wa.length≤9223372036854775807:=by omega
    have f3:S.length+(wa.length+5)≤9223372036854775806:=by omega
    have f4:S.length+(wa.length+1+5)+wb.length≤9223372036854775807:=by omega
    have f5:S.length+(wa.length+(wb.length+1)+5)≤9223372036854775806:=by omega
    have f6:S.length+(wa.length+(wb.length+1+1)+5)+wc.length≤9223372036854775807:=by omega
    have f7:S.length+(wa.length+(wb.length+(wc.length+1)+1)+5)≤9223372036854775806:=by omega
    simp -implicitDefEqProofs[g1,g4,gi,x1,hil,hb,hd,hlc',aQ,f1]
    refine(da H2).mono ?_
    rintro v1 h1x ⟨rfl,rfl⟩
    simp -implicitDefEqProofs[aC,f1,f2,f3,w1,g1,x1]
    intro _
    refine(db h1x).mono ?_
    rintro v2 h2x ⟨rfl,rfl⟩
    simp -implicitDefEqProofs[aC,f1,f2,f3,f4,f5,w1,g1,x1]
    intro _
    refine(dc h2x).mono ?_
    rintro v2 h3x ⟨rfl,rfl⟩
    simp -implicitDefEqProofs[aC,f1,f2,f3,f4,f5,f6,f7,w1,g1,x1]
    intro _
    exact⟨mp-i1,by omega,i1,rfl,by omega,rfl,by simp,by rw[eJ,hnx];simp,by simp,by simp[hcs]⟩
   ·have him:i=mp:=by omega
    rw[him,List.take_of_length_le (by omega)]at g4
    rw[him,List.take_of_length_le (by omega)]
    have hfin:L2++X3=ey v:=by rw[aL,hL2,hL1];simp
    rw[hfin]at g4 ⊢
    simp -implicitDefEqProofs[g1,g4,x1]
end Go.Proofs.Ybk
namespace Go.Proofs.Ybk.K
open Go Go.Am
open V (aq aP ah aM aB)
def gR (t:List UInt8):dh:={mB with kind:=1,text:=t}
def iB (o:aN):dh:={mB with kind:=2,order:=o}
def jb (n:Int):dh:={mB with kind:=3,time:=n}
def recC:dh:={mB with kind:=4}
def iK (v:ah):List UInt8:=fr (ey v)
def np (b:aK):List dh:=(if b.has then[gR (iK b.v)]else[])++([jb b.now]++(b.l.map iB++[recC]))
def oT (o:aN):Bool:=aB o.id 1 2147483647&&(aB o.state 1 3&&(dM o.aR&&(aB o.gT 0 1099511627776&&aB o.first (-1) 4095)))
def j5 (r:dh):Bool:=if r.kind=1 then decide (r.text.length≤1048576)&&decide (r=gR r.text)else if r.kind=2 then oT r.order&&decide (r=iB r.order)else if r.kind=3 then aB r.time 0 1099511627776&&decide (r=jb r.time)else decide (r=recC)
def kW (b:aK) (r:dh):Option aK:=if j5 r=false then none
 else if r.kind=1 then match(ef r.text).1 with
  |some _=>none
  |none=>some {b with v:=lC (ef r.text).2,has:=true}
 else if r.kind=3 then(if b.now≤r.time then some {b with now:=r.time}else none)
 else if r.kind=2 then(if(b.l.length:Int)+1<r.order.id then none else if r.order.id=(b.l.length:Int)+1 then some {b with l:=b.l++[r.order]}else some {b with l:=b.l.set (r.order.id.toNat-1) r.order})
 else none
def il:List dh→aK→Option aK
 |[],b=>some b
 |r::l,b=>match kW b r with
  |some b'=>il l b'
  |none=>none
def ny (b:aK) (o:aN):Bool:=if o.state=1 then decide (b.now<o.gT)else if o.state=3 then decide (o.gT=0)&&decide (o.first= -1)else decide (o.gT=0)
def lz (b:aK):Bool:=b.l.all (ny b)&&(decide ((aT b).1.length=0) || (b.has&&(decide ((aT b).1.length≤512)&&(jW (aT b).1 (aT b).2.1&&ix b.v (aT b).1 (aT b).2.1 (aT b).2.2))))
def pH (b:aK) (l:List dh):aK×Int:=if l.getLast? =some recC then match il l.dropLast b with
  |some x=>if lz x then(x,0)else(b,10)
  |none=>(b,10)
 else(b,10)
def rP (a b:aK):Bool:=decide (a.has=b.has)&&(decide (a.now=b.now)&&(V.qz a.v b.v&&decide (a.l=b.l)))
def tg:List UInt8:=[103,97,112,32,49,48,10,114,97,100,105,117,115,32,48,10,115,101,97,116,32,48,32,48,32,48,10,115,101,97,116,32,48,32,49,48,32,48,10,115,101,97,116,32,48,32,50,48,32,48,10]
def nE:ah:=⟨[⟨0,0,0,0⟩,⟨0,10,0,0⟩,⟨0,20,0,0⟩],10,0,[],[]⟩
def di:aK:=⟨1000,true,nE,[⟨1,2,⟨1,0⟩,0,0⟩,⟨2,3,⟨2,0⟩,0,-1⟩],5⟩
theorem aeL (n:Nat) (h:n<10):Lib.itoa (n:Nat)=[UInt8.ofNat (48+n)]:=by
 unfold Lib.itoa
 rw[if_neg (by omega),Int.toNat_natCast,Lib.decDigits,dif_pos h]
theorem KO (n:Nat) (h0:10≤n) (h:n<100):Lib.itoa (n:Nat)=[UInt8.ofNat (48+n / 10),UInt8.ofNat (48+n % 10)]:=by
 unfold Lib.itoa
 rw[if_neg (by omega),Int.toNat_natCast,Lib.decDigits,dif_neg (by omega),Lib.decDigits,dif_pos (by omega)]
 rfl
theorem apO:iK nE=tg:=by
 have a0:=aeL 0 (by omega)
 have a10:=KO 10 (by omega) (by omega)
 have a20:=KO 20 (by omega) (by omega)
 unfold iK fr ey nE
 simp[Ln.bytes,Ln.word,Ln.fP,T.de,km,fZ,tg,fH,gG,kl]
 simp at a0 a10 a20
 rw[a0,a10,a20]
 decide
theorem apM:pH (fu 1000) ([gR tg,jb 5]++(di.l.map iB++[recC]))=(di,0):=by kernel_rfl
theorem aqR {s:bO} {q:List Int} {k:Nat} (h:dz s q k=false) (hne:q.getD k 0≠-1):(cD s.v s.us (s.l.getD k default) (q.getD k 0)).isSome=true∧∀j,j<k→q.getD j 0≠-1→dK s.v (s.l.getD k default) (q.getD k 0) (s.l.getD j default) (q.getD j 0)=true:=by
 have key:∀B:Bool,(if B=true then true else if q.getD k 0= -1 then false else if(cD s.v s.us (s.l.getD k default) (q.getD k 0)).isNone then true
   else(List.range k).any fun j=>decide (q.getD j 0≠-1)&& !dK s.v (s.l.getD k default) (q.getD k 0) (s.l.getD j default) (q.getD j 0))=false→
   (cD s.v s.us (s.l.getD k default) (q.getD k 0)).isSome=true∧∀j,j<k→q.getD j 0≠-1→dK s.v (s.l.getD k default) (q.getD k 0) (s.l.getD j default) (q.getD j 0)=true:=by
  intro B h
  cases B with
  |true=>cases h
  |false=>
   rw[if_neg (by decide),if_neg hne]at h
   cases hs:cD s.v s.us (s.l.getD k default) (q.getD k 0)with
   |none=>rw[hs]at h;cases h
   |some l=>
    rw[hs]at h
    simp only[Option.isNone_some,Bool.false_eq_true,if_false]at h
    rw[List.any_eq_false]at h
    refine⟨rfl,fun j hj hjn=>?_⟩
    have:=h j (List.mem_range.2 hj)
    cases ha:dK s.v (s.l.getD k default) (q.getD k 0) (s.l.getD j default) (q.getD j 0)with
    |true=>rfl
    |false=>rw[ha]at this;exact absurd (by simp only[Bool.not_false,Bool.and_true,decide_eq_true_eq];exact hjn) this
 exact key _ h
theorem UB {v:ah} {us:List Bool} {p:aU} {f:Int} (h:(cD v us p f).isSome=true):f∈fB v us p:=by
 have hb:0≤f∧f<v.af.length:=by
  unfold cD at h
  split at h
  ·cases ht:lQ v us f p.size with
   |none=>rw[ht]at h;cases h
   |some l=>
    unfold lQ at ht
    split at ht
    ·cases ht
    ·rename_i hc
     simp only[not_or]at hc
     obtain⟨m,hm⟩:∃m,p.size.toNat=m+1:=⟨p.size.toNat-1,by omega⟩
     have hl:=hc.2.2
     rw[hm,iI]at hl
     split at hl
     ·rename_i hf
      simp only[Bool.and_eq_true]at hf
      have:=hf.1
      unfold mS at this
      simp only[Bool.and_eq_true,decide_eq_true_eq]at this
      omega
     ·omega
  ·cases h
 unfold fB
 rw[List.mem_map]
 refine⟨f.toNat,List.mem_filter.2 ⟨List.mem_range.2 (by omega),?_⟩,by omega⟩
 rw[Int.toNat_of_nonneg hb.1];exact h
def RR (s:bO) (q:List Int):Prop:=q.length=s.l.length∧∀k,k<q.length→dz s q k=false
structure aqY (p:cd):Prop where
 len:p.levels.length=p.p.length+1
 wid:∀d,d≤p.p.length→(p.levels.getD d []).length=p.s.l.length
 aq8:∀d,d≤p.p.length→∀k,k<d→p.p.getD k 0≠-1→(p.levels.getD d []).getD k []≠[]
 all:∀q,RR p.s q→∀d,d≤p.p.length→(∀j,j<d→q.getD j 0=p.p.getD j 0)→∀k,d≤k→k<p.s.l.length→q.getD k 0= -1∨q.getD k 0∈(p.levels.getD d []).getD k []
end Go.Proofs.Ybk.K
namespace Go.Proofs.Ybk.K
open Go Go.Am
open V (aq aP ah aM aB)
open T (bG)
theorem alx {t:List UInt8} (h:(ef t).1=none):qK (ef t).2 (lC (ef t).2):=by
 unfold ef at h ⊢
 by_cases hc:(bG t).code≠0
 ·rw[if_pos hc]at h;cases h
 ·rw[if_neg hc]at h ⊢
  have G0:=Oq (bG t).ts (bG t).ln (bG t).aj ((bG t).ts.length+1) 0 fT PH
  obtain⟨L,hL⟩:∃L,L=fe (bG t).ts (bG t).ln (bG t).aj ((bG t).ts.length+1) 0 fT:=⟨_,rfl⟩
  rw[←hL]at h G0 ⊢
  obtain⟨r,re⟩:=L
  cases re with
  |some e=>simp only at h;cases h
  |none=>
   simp only at h G0 ⊢
   have G:=G0 trivial
   have hk:r.aD.length≤200:=G.ok.2.1
   have hwn:=Rf (r:=r) (el:=(bG t).ln) (ec:=(bG t).aj)
   obtain⟨W,hW⟩:∃W,W=gq r (bG t).ln (bG t).aj:=⟨_,rfl⟩
   rw[←hW]at h hwn ⊢
   obtain⟨ks,we⟩:=W
   cases we with
   |some e=>simp only at h;cases h
   |none=>
    simp only at h hwn ⊢
    obtain⟨n1,n2,n3,n4⟩:=hwn trivial hk
    have hm:∀x,x∈((V.dF (jh r ks)).map fun s=>V.dL (V.eo s) (mv r.af)).foldr jY []↔x∈(V.dF (jh r ks)).map (fun s=>V.dL (V.eo s) (mv r.af)):=fun x=>Qa x _
    exact⟨Au _,Av _,Ag (Ar _),hm,rfl,rfl,rfl,KB G n1 n2 n3 n4 (Au _) (Av _) (Ag (Ar _)) hm⟩
theorem zV {t:List UInt8} (h:(ef t).1=none):aM (lC (ef t).2)=true:=(alx h).2.2.2.2.2.2.2
def fQ (x:Int):Prop:=-1≤x∧x≤4096
structure dH (N:Nat) (b:aK):Prop where
 f0:0≤b.fuel
 f1:b.fuel≤1073741824
 n0:0≤b.now
 n1:b.now≤1099511627776
 len:b.l.length≤N
 may:b.has=true→aM b.v=true
 fst:∀o∈b.l,fQ o.first
theorem dH.mono {N M:Nat} {b:aK} (H:dH N b) (h:N≤M):dH M b:=⟨H.f0,H.f1,H.n0,H.n1,Nat.le_trans H.len h,H.may,H.fst⟩
theorem OU (fuel:Int) (h0:0≤fuel) (h1:fuel≤1073741824):dH 0 (fu fuel):=⟨h0,h1,by show(0:Int)≤0;decide,by show(0:Int)≤_;decide,Nat.le_refl _,fun q=>(by cases q),fun o ho=>(by cases ho)⟩
theorem ani {v:ah} {us:List Bool} {p:aU} {f:Int} (h:(cD v us p f).isSome=true):0≤f∧f<v.af.length:=by
 have:=UB h
 unfold fB at this
 rw[List.mem_map]at this
 obtain⟨k,hk,rfl⟩:=this
 have:=List.mem_range.1 (List.mem_filter.1 hk).1
 omega
theorem af3 {v:ah} {l:List aU} {p:List Int} {pins:List (Int×Int)} (h:ix v l p pins=true):∃s,eu v l pins=some s∧p.length=l.length∧∀k,k<p.length→dz s p k=false:=by
 unfold ix at h
 cases hs:eu v l pins with
 |none=>rw[hs]at h;simp only[decide_eq_true_eq]at h;omega
 |some s=>
  rw[hs]at h
  simp only at h
  by_cases q:p.length=l.length
  ·rw[if_pos q]at h
   refine⟨s,rfl,q,fun k hk=>?_⟩
   simp only[decide_eq_true_eq]at h
   unfold l8 at h
   cases hf:(List.range p.length).find? (dz s p)with
   |some j=>rw[hf]at h;simp only at h;omega
   |none=>
    rw[List.find?_eq_none]at hf
    have:=hf k (List.mem_range.2 hk)
    simpa using this
  ·rw[if_neg q]at h
   simp only[decide_eq_true_eq]at h;omega
theorem OH {v:ah} {l:List aU} {p:List Int} {pins:List (Int×Int)} (h:ix v l p pins=true) (M:aM v=true):∀x∈p,fQ x:=by
 obtain⟨s,hs,hl,hw⟩:=af3 h
 obtain⟨e,_,_,_⟩:=qc hs
 intro x hx
 obtain⟨k,hk,rfl⟩:=List.getElem_of_mem hx
 have hwk:=hw k hk
 have hg:p.getD k 0=p[k]:=by rw[List.getD_eq_getElem?_getD,List.getElem?_eq_getElem hk];rfl
 by_cases q:p[k]= -1
 ·rw[q];exact⟨by decide,by decide⟩
 ·have:=(aqR hwk (by rw[hg];exact q)).1
  rw[hg]at this
  have hb:=ani this
  have hsv:s.v=v:=by rw[e]
  rw[hsv]at hb
  have hlen:=(j6 M).len
  exact⟨by omega,by omega⟩
theorem P9:∀(l:List aN) (p:List Int),(∀o∈l,fQ o.first)→(∀x∈p,fQ x)→∀o∈eF l p,fQ o.first:=by
 intro l
 induction l with
 |nil=>intro p _ _ o ho;rw[eF]at ho;cases ho
 |cons a r ih=>
  intro p hl hp o ho
  rw[eF]at ho
  have hr:=fun p hp=>ih p (fun o ho=>hl o (List.mem_cons_of_mem _ ho)) hp
  split at ho
  ·rcases List.mem_cons.1 ho with rfl|ho
   ·cases p with
    |nil=>exact⟨by show(-1:Int)≤0;decide,by show(0:Int)≤4096;decide⟩
    |cons x t=>exact hp x List.mem_cons_self
   ·exact hr p.tail (fun x hx=>hp x (List.mem_of_mem_tail hx)) o ho
  ·rcases List.mem_cons.1 ho with rfl|ho
   ·exact hl _ List.mem_cons_self
   ·exact hr p hp o ho
theorem zb {p:List Int} (h:∀x∈p,fQ x):fQ (p.getLastD 0):=by
 rw[List.getLastD_eq_getLast?]
 cases q:p.getLast? with
 |none=>exact⟨by decide,by decide⟩
 |some x=>exact h x (List.mem_of_getLast? q)
theorem adW {l:List aN} (h:∀o∈l,fQ o.first) (k:Nat):fQ (l.getD k default).first:=by
 rw[List.getD_eq_getElem?_getD]
 cases q:l[k]? with
 |none=>exact⟨by decide,by decide⟩
 |some o=>exact h o (List.mem_of_getElem? q)
theorem An {l:List aN} (h:∀o∈l,fQ o.first) (k:Nat) {o:aN} (ho:fQ o.first):∀x∈l.set k o,fQ x.first:=by
 intro x hx
 rcases List.mem_or_eq_of_mem_set hx with q|q
 ·exact h x q
 ·rw[q];exact ho
theorem yX {n:Nat} {b:aK} {p:aU} (M:aM b.v=true) (h:(fD n b p).2=0):∀x∈(fD n b p).1,fQ x:=by
 unfold fD at h ⊢
 split
 ·intro x hx;cases hx
 ·rename_i h1
  rw[if_neg h1]at h
  simp only at h ⊢
  split
  ·intro x hx;cases hx
  ·rename_i h2
   split
   ·exact OH (Bf (Classical.byContradiction fun q=>h2 q)) M
   ·split
    ·intro x hx;cases hx
    ·intro x hx;cases hx
theorem l5 (n:Nat) {N:Nat} {b:aK} (c:dQ) (H:dH N b):dH (N+1) (cv n b c).1:=by
 have H1:dH (N+1) b:=H.mono (by omega)
 unfold cv
 split
 ·exact H1
 split
 ·unfold me
  split
  ·exact H1
  ·split
   ·exact H1
   ·rename_i hp
    exact⟨H.f0,H.f1,H.n0,H.n1,H1.len,fun _=>zV hp,H.fst⟩
 split
 ·unfold iL
  split
  ·exact H1
  ·rename_i hc
   simp only[not_or,Int.not_lt]at hc
   refine⟨H.f0,H.f1,by have:=H.n0;show 0≤b.now+c.a;omega,by show b.now+c.a≤_;omega,by show(b.l.map _).length≤_;rw[List.length_map];exact H1.len,H.may,fun o ho=>?_⟩
   obtain⟨o',ho',rfl⟩:=List.mem_map.1 ho
   split
   ·exact⟨by show(-1:Int)≤-1;decide,by show(-1:Int)≤4096;decide⟩
   ·exact H.fst o' ho'
 split
 ·exact H1
 rename_i hhas
 have M:aM b.v=true:=H.may (by simpa using hhas)
 split
 ·unfold jw
  split
  ·exact H1
  ·simp only
   split
   ·exact H1
   ·rename_i h2
    have hf:=yX M (Classical.byContradiction fun q=>h2 q)
    refine⟨H.f0,H.f1,H.n0,H.n1,?_,H.may,?_⟩
    ·show(eF (b.l++[_]) _).length≤_
     rw[P7,List.length_append,List.length_singleton];have:=H.len;omega
    ·refine P9 _ _ (fun o ho=>?_) hf
     rcases List.mem_append.1 ho with q|q
     ·exact H.fst o q
     ·rw[List.mem_singleton]at q;subst q;exact zb hf
 split
 ·exact H1
 split
 ·unfold mJ
  split
  ·exact H1
  ·simp only
   split
   ·exact H1
   ·exact⟨H.f0,H.f1,H.n0,H.n1,by show(b.l.set _ _).length≤_;rw[List.length_set];exact H1.len,H.may,An H.fst _ (adW H.fst _)⟩
 split
 ·unfold mH
  split
  ·exact H1
  ·simp only
   split
   ·exact H1
   ·exact⟨H.f0,H.f1,H.n0,H.n1,by show(b.l.set _ _).length≤_;rw[List.length_set];exact H1.len,H.may,An H.fst _ ⟨by show(-1:Int)≤-1;decide,by show(-1:Int)≤4096;decide⟩⟩
 split
 ·unfold nq
  simp only
  split
  ·exact H1
  ·rename_i h1
   split
   ·exact H1
   ·refine⟨H.f0,H.f1,H.n0,H.n1,?_,H.may,P9 _ _ H.fst (OH (Bf (Classical.byContradiction fun q=>h1 q)) M)⟩
    show(eF b.l _).length≤_
    rw[P7];exact H1.len
 ·exact H1
end Go.Proofs.Ybk.K
namespace Go.Proofs.Ybk.K
open Go Go.Am
open V (aq aP ah aM aB)
def l4 (n:Nat) (b:aK) (c:dQ):List dh:=if(cv n b c).2.code≠0 then[]else pc (cv n b c).1 b c
def qR:aK:=⟨1000,true,nE,[],0⟩
def pI:aK:=⟨1000,true,nE,[⟨1,1,⟨1,0⟩,5,0⟩],0⟩
def lY:aK:=⟨1000,true,nE,[⟨1,1,⟨1,0⟩,5,0⟩,⟨2,1,⟨2,0⟩,5,1⟩],0⟩
def qS:aK:=⟨1000,true,nE,[⟨1,2,⟨1,0⟩,0,0⟩,⟨2,1,⟨2,0⟩,5,1⟩],0⟩
theorem ZP:cv 2000 (fu 1000) (cmd 2 0 0 [])=(fu 1000,err 11):=by kernel_rfl
theorem JM:cv 2000 (fu 1000) (cmd 1 0 0 th)=(qR,⟨0,3,(0,0),[]⟩):=by kernel_rfl
theorem JN:cv 2000 qR (cmd 2 5 1 [])=(pI,⟨0,1,(0,0),[0]⟩):=by kernel_rfl
theorem JO:cv 2000 pI (cmd 2 5 2 [])=(lY,⟨0,2,(0,0),[1,2]⟩):=by kernel_rfl
theorem ZS:cv 2000 lY (cmd 2 5 1 [])=(lY,err 6):=by kernel_rfl
theorem JP:cv 2000 lY (cmd 3 1 0 [])=(qS,⟨0,0,(0,0),[0]⟩):=by kernel_rfl
theorem JQ:cv 2000 qS (cmd 5 5 0 [])=(di,⟨0,1,(0,0),[]⟩):=by kernel_rfl
theorem ZT:cv 2000 di (cmd 8 0 0 [])=(di,⟨0,0,(0,0),[1,0,0]⟩):=by kernel_rfl
theorem ZU:cv 2000 di (cmd 3 2 0 [])=(di,err 5):=by kernel_rfl
theorem ZV:cv 2000 di (cmd 4 9 0 [])=(di,err 4):=by kernel_rfl
theorem ZQ:cv 2000 di (cmd 99 0 0 [])=(di,err 1):=by kernel_rfl
theorem ZR:cv 2000 di (cmd 1 0 0 [])=(di,err 12):=by kernel_rfl
theorem ZK:l4 2000 (fu 1000) (cmd 2 0 0 [])=[]:=by kernel_rfl
theorem ZL:(l4 2000 (fu 1000) (cmd 1 0 0 th)).length=2:=by kernel_rfl
theorem ZM:(l4 2000 pI (cmd 2 5 2 [])).length=2:=by kernel_rfl
theorem Qm:np di=[gR tg,jb 5]++(di.l.map iB++[recC]):=by
 show(if di.has then[gR (iK nE)]else[])++_=_
 rw[apO];rfl
end Go.Proofs.Ybk.K
namespace Go.Proofs.Ybk.K
open Go Go.Am
set_option maxHeartbeats 4000000
open V (aq aP ah al aQ ab aX aM aB bT bX aZ bF)
open T (cE)
open F (bQ)
def cX (c:dQ):List Value:=[.int .i64 c.kind,.int .i64 c.a,.int .i64 c.aR.size,.int .i64 c.aR.cL,.string (B c.text)]
def bV (c:dQ):Value:=.agg ⟨cX c⟩
def qu (r:im) (sv:Value):List Value:=[.int .i64 r.code,.int .i64 r.n,.int .i64 r.spot.1,.int .i64 r.spot.2,sv]
def ku (h:aa) (R:im) (v:Value):Prop:=∃sv,v= .agg ⟨qu R sv⟩∧aF 3 ab h sv R.af
theorem gg (h:aa) (k:Int):ku h (err k) (.agg ⟨[.int .i64 k,.int .i64 0,.int .i64 0,.int .i64 0,.slice none 0 0]⟩):=⟨_,rfl,aF.nil⟩
theorem Q9 (l:List UInt8) (hl:l.length≤1048576) (h:aa):ai PP 76 [.string (B l)] h (fun v h'=>Ext h h'∧match(ef l).1 with
 |some _=>∃be,v= .tuple #[.agg ⟨V.gW⟩,.iface 207 (.pointer (some ⟨be,0,none⟩))]
 |none=>∃co,dJ h' (lC (ef l).2) co∧v= .tuple #[.agg ⟨co⟩,.nilIface]):=by
 refine ai.gK (Rc l hl h) (fun v h' ⟨E,H⟩=>?_)
 cases q:(ef l).1 with
 |some e=>
  rw[q]at H
  obtain⟨E1,e1,C⟩:=H
  obtain⟨be,e2⟩:=iv (h:=h') (a:=e.1) (b:=e.2) ⟨Ext.bu _,C⟩
  exact⟨h',Wk.refl _,E,be,by rw[e1,e2]⟩
 |none=>
  rw[q]at H
  obtain⟨w,co,n1,n2,n3⟩:=H
  obtain⟨F,W,EF,S⟩:=aqx n2 E
  exact⟨F,W,EF,co,by rw[agz n1];exact S,n3⟩
section
variable {h0 h h':aa} {a:Nat} {b:aK} {vc:List Value} {ov:Value} {o:Option Nat}
theorem afA (hl:b.l.length≤1048576) (c:dQ) (hc:c.text.length≤1048576) (G0:bQ h0) (B:aY h0 h a b vc ov o):
  ai PP 66 [.pointer (some ⟨a,0,none⟩),bV c] h (fun r h'=>bR h0 h h' a o (me b c.text).1∧ku h' (me b c.text).2 r):=by
 refine az mix ac8 Xq rfl (by show 2≤42;decide) akj ?_
 simp only[xZ,Tryz.f66]
 have hlive:=mX (by omega) B
 unfold me
 simp -implicitDefEqProofs[bV,cX]
 refine hlive.mono ?_
 rintro r G1 ⟨E1,S1⟩
 obtain⟨ad,cc,rfl⟩:=S1.shape
 simp -implicitDefEqProofs[ae]
 intro _
 by_cases q:(bW b).length>0
 ·have q':(0:Int)<(bW b).length:=by omega
  rw[if_pos q]
  simp -implicitDefEqProofs[q,q']
  exact⟨bR.dR B E1,gg _ 12⟩
 ·have q':¬(0:Int)<(bW b).length:=by omega
  rw[if_neg q]
  simp -implicitDefEqProofs[q,q']
  refine(alC c.text hc G1 ((G0.ext B.ext).ext E1)).mono ?_
  rintro r G2 ⟨E2,rfl⟩
  unfold qW
  cases qp:(ef c.text).1 with
  |some e=>
   simp -implicitDefEqProofs[ae,cE]
   intro _
   exact⟨bR.dR B (E1.trans E2),_,rfl,aF.nil⟩
  |none=>
   simp -implicitDefEqProofs[ae,cE]
   intro _
   refine(Q9 c.text hc G2).mono ?_
   rintro r G3 ⟨E3,H3⟩
   rw[qp]at H3
   obtain⟨co,hV,rfl⟩:=H3
   have B3:=((B.exts E1).exts E2).exts E3
   have hV':=hV
   obtain⟨s,k,p,rfl,z1,z2,z3⟩:=hV'
   obtain⟨b1,d1,rfl⟩:=z1.shape
   obtain⟨b2,d2,rfl⟩:=z2.shape
   obtain⟨b3,d3,rfl⟩:=z3.shape
   have hrow3:=B3.row
   have hw:=B3.cP
   obtain⟨a1,n1,c1,g,r,a2,n2,c2,a3,n3,c3,a4,n4,c4,rfl,rfl,rfl,hrow⟩:=B.cells
   simp only[fh,List.cons_append,List.nil_append]at hrow3
   simp -implicitDefEqProofs[ae,hrow3]
   intro _
   rw[jX]
   refine⟨(bR.pre ((E1.trans E2).trans E3) (bR.lE (nS (b:={b with v:=lC (ef c.text).2,has:=true}) hrow3 B3.a0 B3.a1 B3.ext hV hw rfl) ((fY G3 a _).mono (fun x hx _=>?_)))),_,rfl,aF.nil⟩
   rw[List.mem_singleton]at hx;subst hx;exact List.mem_cons_self
end
end Go.Proofs.Ybk.K
namespace Go.Proofs.Ybk.K
open Go Go.Am
set_option maxHeartbeats 4000000
open V (aq aP ah al aQ ab aX aM aB bT bX aZ bF)
def gS (now:Int) (l:List aN) (i:Nat):List aN:=(l.take i).map (fj now)++l.drop i
theorem apE (now:Int) (l:List aN) (i:Nat):(gS now l i)[i]? =l[i]? :=by
 unfold gS
 by_cases h:i≤l.length
 ·rw[List.getElem?_append_right (by rw[List.length_map,List.length_take];omega),List.length_map,List.length_take,Nat.min_eq_left h,Nat.sub_self,List.getElem?_drop,Nat.add_zero]
 ·rw[List.getElem?_eq_none (by rw[List.length_append,List.length_map,List.length_take,List.length_drop];omega),List.getElem?_eq_none (by omega)]
theorem apG (now:Int) (l:List aN) (i:Nat) {t:aN} (ht:l[i]? =some t):gS now l (i+1)=(gS now l i).set i (fj now t):=by
 obtain⟨hi,e⟩:=List.getElem?_eq_some_iff.1 ht
 unfold gS
 have hd:l.drop i=t::l.drop (i+1):=by rw[←e];exact List.drop_eq_getElem_cons hi
 have hl:((l.take i).map (fj now)).length=i:=by rw[List.length_map,List.length_take];omega
 rw[List.take_add_one,ht,Option.toList_some,List.map_append,hd,List.set_append_right _ _ (by omega),hl,Nat.sub_self,List.set_cons_zero,List.append_assoc];rfl
theorem apF (now:Int) (l:List aN) (i:Nat):(gS now l i).length=l.length:=by
 unfold gS
 rw[List.length_append,List.length_map,List.length_take,List.length_drop];omega
theorem apD (now:Int) (l:List aN):gS now l l.length=l.map (fj now):=by unfold gS;simp
def kA (now:Int) (l:List aN) (i:Nat):Nat:=((l.take i).filter (dW now)).length
theorem ZX (now:Int) (l:List aN) (i:Nat) {t:aN} (ht:l[i]? =some t):kA now l (i+1)=if dW now t=true then kA now l i+1 else kA now l i:=by
 unfold kA
 rw[sP (dW now) l i ht,List.length_append]
 split<;>simp
theorem ZW (now:Int) (l:List aN) (i:Nat):kA now l i≤i:=by
 unfold kA
 have:=List.length_filter_le (dW now) (l.take i)
 rw[List.length_take]at this;omega
def Ta (h0 h1:aa) (a:Nat) (b:aK) (now:Int) (vc:List Value) (ov:Value) (o:Option Nat) (m n:Nat) (σ:St):Prop:=∃i:Nat,n=m-i∧i≤m∧aY h0 σ.m.h a {b with now:=now,l:=gS now b.l i} vc ov o∧b8 (a::o.toList) h1 σ.m.h∧
 σ.t.get 0=some (.pointer (some ⟨a,0,none⟩))∧σ.t.get 4=some (.pointer (some ⟨4,0,some 0⟩))∧σ.t.get 5=some (.int .i64 (kA now b.l i:Nat))∧σ.t.get 35=some ov∧σ.t.get 36=some (.int .i64 (m:Nat))∧σ.t.get 37=some (.int .i64 (i:Nat))∧σ.m.x.look 4=some (38,[.int .i64 0,.int .i64 0,.int .i64 0,.int .i64 0,.slice none 0 0])
theorem apH {h0 h:aa} {a:Nat} {b:aK} {vc:List Value} {ov:Value} {o:Option Nat} (hl:b.l.length≤1048576) (hn:0≤b.now∧b.now≤1099511627776) (n:Int) (B:aY h0 h a b vc ov o):
  ai PP 67 [.pointer (some ⟨a,0,none⟩),.int .i64 n] h (fun r h'=>bR h0 h h' a o (iL b n).1∧ku h' (iL b n).2 r):=by
 refine az mix ac9 Xr rfl (by show 2≤66;decide) akk ?_
 simp only[ya,Tryz.f67]
 have hrow0:=B.row
 obtain⟨a1,n1,c1,g,r,a2,n2,c2,a3,n3,c3,a4,n4,c4,rfl,rfl,rfl,hrow⟩:=B.cells
 by_cases q1:n<1
 ·have e:iL b n=(b,err 1):=by unfold iL;rw[if_pos (.inl q1)]
  rw[e]
  simp -implicitDefEqProofs[q1]
  exact⟨bR.dR B (Ext.bu _),gg _ 1⟩
 by_cases q2:1000000<n
 ·have e:iL b n=(b,err 1):=by unfold iL;rw[if_pos (.inr (.inl q2))]
  rw[e]
  simp -implicitDefEqProofs[q1,q2]
  exact⟨bR.dR B (Ext.bu _),gg _ 1⟩
 have w0:IntKind.wrap .i64 (b.now+n)=b.now+n:=aA (by omega)
 by_cases q3:1099511627776<b.now+n
 ·have e:iL b n=(b,err 1):=by unfold iL;rw[if_pos (.inr (.inr q3))]
  rw[e]
  simp -implicitDefEqProofs[q1,q2,hrow,w0,q3]
  exact⟨bR.dR B (Ext.bu _),gg _ 1⟩
 rw[Ql b n ⟨by omega,by omega,by omega⟩]
 obtain⟨now,hnow⟩:∃z,z=b.now+n:=⟨_,rfl⟩
 have q3':¬1099511627776<now:=by omega
 rw[←hnow]at w0 ⊢
 simp -implicitDefEqProofs[q1,q2,hrow,←hnow,w0,q3']
 have B1:=nS (b:={b with now:=now}) hrow0 B.a0 B.a1 B.ext B.cK B.cP rfl
 simp only[fh,List.cons_append,List.nil_append]at B1
 have C1:b8 (a::o.toList) h (h.set a (.row true 77 [.int .i64 b.fuel,.bool b.has,.slice a1 n1 c1,.int .i64 g,.int .i64 r,.slice a2 n2 c2,.slice a3 n3 c3,.slice a4 b.l.length c4,.int .i64 now])):=(fY h a _).mono (fun x hx _=>by rw[List.mem_singleton]at hx;subst hx;exact List.mem_cons_self)
 obtain⟨m,hm⟩:∃m,m=b.l.length:=⟨_,rfl⟩
 rw[←hm]at B1 C1 ⊢
 have e0:gS now b.l 0=b.l:=by simp[gS]
 refine bD (Ta h0 h a b now [.slice a1 n1 c1,.int .i64 g,.int .i64 r,.slice a2 n2 c2,.slice a3 n3 c3] (.slice a4 m c4) o m) _ ⟨0,rfl,by omega,by rw[e0];exact B1,C1,by simp,by simp,by simp[kA],by simp,by simp,by simp,by simp⟩ ?_
 rintro n' ⟨T,⟨x,G⟩⟩ ⟨i,rfl,hi,BG,CG,g0,g4,g5,g35,g36,g37,x4⟩
 simp at BG CG g0 g4 g5 g35 g36 g37 x4
 simp -implicitDefEqProofs[g0,g4,g5,g35,g36,g37,x4]
 refine bB (fun hc=>?_) (fun hc=>?_)<;>simp only[decide_eq_true_eq,decide_eq_false_iff_not]at hc
 ·have him:i<m:=by omega
  have w1:IntKind.wrap .i64 ((i:Int)+1)=((i+1:Nat):Int):=by rw[aA (by omega)];omega
  have hti:b.l[i]? =some b.l[i]:=List.getElem?_eq_getElem (by omega)
  obtain⟨t,ht⟩:∃t,t=b.l[i]:=⟨_,rfl⟩
  rw[←ht]at hti
  have hsi:=apE now b.l i
  rw[hti]at hsi
  have hss:=apG now b.l i hti
  have hcs:=ZX now b.l i hti
  have hcl:=ZW now b.l i
  have hrowG:=BG.row
  simp only[fh,List.cons_append,List.nil_append]at hrowG
  cases o with
  |none=>
   have:=BG.cP.2
   simp only at this
   have hz:=apF now b.l i
   rw[this]at hz
   simp at hz
   omega
  |some bo=>
   obtain⟨⟨c',r',e,q⟩,nn0,nn1⟩:=BG.cP
   simp only[Value.slice.injEq]at e q
   obtain⟨rfl,_,_⟩:=e
   obtain⟨P,Q,hP,e1,e2⟩:=oU hsi r'
   have qq:=q
   rw[e1]at q
   have hd6:(P++(aH t++Q)).drop (i*6)=aH t++Q:=jS (i:=0) hP
   have hl6:i*6+6≤(P++(aH t++Q)).length:=by rw[List.length_append,hP,List.length_append,fx];omega
   obtain⟨R,hR⟩:∃R,R=P++(aH t++Q):=⟨_,rfl⟩
   rw[←hR]at q hd6 hl6
   simp only[aH,List.cons_append,List.nil_append]at hd6
   obtain⟨d,hd⟩:∃d,d=kA now b.l i:=⟨_,rfl⟩
   rw[←hd]at g5 hcs hcl
   have wd:IntKind.wrap .i64 ((d:Int)+1)=((d+1:Nat):Int):=by rw[aA (by omega)];omega
   have rest:∀(z:dW now t=false),fj now t=t:=fun z=>by unfold fj;rw[z];rfl
   have next:dW now t=false→aY h0 G a {b with now:=now,l:=gS now b.l (i+1)} [.slice a1 n1 c1,.int .i64 g,.int .i64 r,.slice a2 n2 c2,.slice a3 n3 c3] (.slice (some ⟨bo,0,none⟩) m c4) (some bo):=fun z=>by
    rw[hss,rest z]
    have:(gS now b.l i).set i t=gS now b.l i:=by
     obtain⟨hlt,e⟩:=List.getElem?_eq_some_iff.1 hsi
     rw[←e];exact List.set_getElem_self hlt
    rw[this];exact BG
   by_cases z1:t.state=1
   ·by_cases z2:t.gT≤now
    ·have z:dW now t=true:=by unfold dW;simp[z1,z2]
     have ze:fj now t=iR t:=by unfold fj;rw[z];rfl
     rw[ze]at hss
     rw[if_pos z]at hcs
     have hend:=J4 G bo i hsi r' qq
     obtain⟨BS,KS⟩:=BG.qB (L:=(gS now b.l i).set i (iR t)) (by rw[List.length_set]) r'
     have CS:b8 (a::(some bo).toList) h (G.set bo (.row true 43 (((gS now b.l i).set i (iR t)).flatMap aH++r'))):=CG.trans (fY G bo _) (fun x hx _=>by simp at hx;simp[hx])
     simp -implicitDefEqProofs[g0,g4,g5,g35,g36,g37,x4,him,q,hd6,hl6,z1,hrowG,z2]
     refine hend.mono ?_
     rintro rr F rfl
     simp -implicitDefEqProofs[ae,g0,g4,g5,g35,g36,g37,x4,w1,wd]
     intro _
     exact⟨m-(i+1),by omega,i+1,rfl,by omega,by rw[hss];exact BS,CS,by simp,by simp,by simp[hcs,←hd,wd],by simp,by simp,by simp,by simp[x4]⟩
    ·have z:dW now t=false:=by unfold dW;simp[z1,z2]
     rw[if_neg (by rw[z];decide)]at hcs
     simp -implicitDefEqProofs[g0,g4,g5,g35,g36,g37,x4,him,q,hd6,hl6,z1,hrowG,z2,w1]
     exact⟨m-(i+1),by omega,i+1,rfl,by omega,next z,CG,by simp,by simp,by simp[hcs,←hd,wd],by simp,by simp,by simp,by simp[x4]⟩
   ·have z:dW now t=false:=by unfold dW;simp[z1]
    rw[if_neg (by rw[z];decide)]at hcs
    simp -implicitDefEqProofs[g0,g4,g5,g35,g36,g37,x4,him,q,hd6,hl6,z1,hrowG,w1]
    exact⟨m-(i+1),by omega,i+1,rfl,by omega,next z,CG,by simp,by simp,by simp[hcs,←hd,wd],by simp,by simp,by simp,by simp[x4]⟩
 ·have e:i=m:=by omega
  subst e
  have ea:gS now b.l i=b.l.map (fj now):=by rw[hm,apD]
  rw[ea]at BG
  have ed:kA now b.l i=(b.l.filter (dW now)).length:=by unfold kA;rw[hm,List.take_length]
  simp -implicitDefEqProofs[g0,g4,g5,x4]
  exact⟨bR.lE BG CG,_,by rw[ed];rfl,aF.nil⟩
theorem Kj (steps:Nat) (b:aK) (p:aU):fD steps b p=if 512≤(bW b).length then([],8)else
  if(eO steps b.v ((aT b).1++[p]) (aT b).2.2 ((aT b).2.1++[-1]) b.fuel).2≠0 then([],(eO steps b.v ((aT b).1++[p]) (aT b).2.2 ((aT b).2.1++[-1]) b.fuel).2)
  else if jW ((aT b).1++[p]) (eO steps b.v ((aT b).1++[p]) (aT b).2.2 ((aT b).2.1++[-1]) b.fuel).1.aW then((eO steps b.v ((aT b).1++[p]) (aT b).2.2 ((aT b).2.1++[-1]) b.fuel).1.aW,0)
  else if(eO steps b.v ((aT b).1++[p]) (aT b).2.2 ((aT b).2.1++[-1]) b.fuel).1.answer=3 then([],7)else([],6):=rfl
theorem Kl {steps:Nat} {b:aK} {p:aU} (h:(fD steps b p).2=0):(fD steps b p).1.length=(bW b).length+1:=by
 rw[Kj]at h ⊢
 split
 ·rename_i h1
  rw[if_pos h1]at h;simp at h
 ·rename_i h1
  rw[if_neg h1]at h
  split
  ·rename_i h2
   rw[if_pos h2]at h;exact absurd h h2
  ·rename_i h2
   rw[if_neg h2]at h
   split
   ·rename_i h3
    unfold jW at h3
    simp only[Bool.and_eq_true,decide_eq_true_eq]at h3
    rw[←h3.2,List.length_append,List.length_singleton]
    show((bW b).map _).length+1=_
    rw[List.length_map]
   ·rename_i h3
    rw[if_neg h3]at h
    split
    ·rename_i h4;rw[if_pos h4]at h;simp at h
    ·rename_i h4;rw[if_neg h4]at h;simp at h
theorem alL (l:List aN):∀(k:Nat),∀q∈fG k l,∃o∈l,q.2=o.first:=by
 induction l with
 |nil=>intro k q hq;cases hq
 |cons o r ih=>
  intro k q hq
  rw[fG]at hq
  split at hq
  ·rcases List.mem_cons.1 hq with rfl|hq
   ·exact⟨o,List.mem_cons_self,rfl⟩
   ·obtain⟨x,hx,e⟩:=ih _ q hq
    exact⟨x,List.mem_cons_of_mem _ hx,e⟩
  ·obtain⟨x,hx,e⟩:=ih _ q hq
   exact⟨x,List.mem_cons_of_mem _ hx,e⟩
theorem Aa {N:Nat} {b:aK} (H:dH N b):(∀x∈(aT b).2.1,fQ x)∧(∀q∈(aT b).2.2,fQ q.2):=by
 have hl:∀o∈bW b,fQ o.first:=fun o ho=>H.fst o (List.mem_filter.1 ho).1
 refine⟨fun x hx=>?_,fun q hq=>?_⟩
 ·obtain⟨o,ho,rfl⟩:=List.mem_map.1 hx
  exact hl o ho
 ·obtain⟨o,ho,e⟩:=alL (bW b) 0 q hq
  rw[e];exact hl o ho
theorem fQ.wide {x:Int} (h:fQ x): -4611686018427387904≤x∧x≤4611686018427387904:=⟨by have:=h.1;omega,by have:=h.2;omega⟩
theorem mW (b:aK):(bW b).length≤b.l.length:=List.length_filter_le _ _
section
variable {h0 h h':aa} {a:Nat} {b:aK} {vc:List Value} {ov:Value} {o:Option Nat}
theorem Kk {N:Nat} (OK:dH N b) (hN:N≤1048000) (hhas:b.has=true) (steps:Nat) (hst:2*b.fuel.toNat≤steps) (p:aU) (B:aY h0 h a b vc ov o):
  ai PP 109 [.pointer (some ⟨a,0,none⟩),dD p] h (fun r h'=>Ext h h'∧∃pv,r= .tuple #[pv,.int .i64 (fD steps b p).2]∧aF 3 ab h' pv (fD steps b p).1):=by
 refine az mix aaU U1 rfl (by show 2≤58;decide) ah8 ?_
 simp only[uZ,Tryz.f109]
 have hlen:=OK.len
 have hll:=mW b
 have hlive:=mX (by omega) B
 obtain⟨FB,hFB⟩:∃F,F=fD steps b p:=⟨_,rfl⟩
 rw[←hFB]
 rw[Kj]at hFB
 simp -implicitDefEqProofs[dD,ag]
 refine hlive.mono ?_
 rintro r G1 ⟨E1,S1⟩
 obtain⟨ad,cc,rfl⟩:=S1.shape
 by_cases q:512≤(bW b).length
 ·have q':(512:Int)≤(bW b).length:=by omega
  rw[if_pos q]at hFB
  subst hFB
  simp -implicitDefEqProofs[ae,q,q']
  intro _
  exact⟨E1,aF.nil⟩
 ·have q':¬(512:Int)≤(bW b).length:=by omega
  rw[if_neg q]at hFB
  have B1:=B.exts E1
  have hpl:=z7 (by omega) B1
  have hw0:=fun v1 v2 G (H1:aF 29 ag G v1 (aT b).1) (H2:aF 3 ab G v2 (aT b).2.1)=>aqG (aT b).1 (aT b).2.1 p v1 v2 (by show((bW b).map _).length≤_;rw[List.length_map];omega) (by show((bW b).map _).length≤_;rw[List.length_map];omega) G H1.sl H2.sl
  simp only[dD,ag]at hw0
  simp -implicitDefEqProofs[ae,q,q']
  intro _
  refine hpl.mono ?_
  rintro r G2 ⟨E2,v1,v2,v3,rfl,P1,P2,P3⟩
  have hw:=hw0 v1 v2 G2 P1 P2
  have B2:=B1.exts E2
  obtain⟨x1,y1,e1⟩:=P1.shape
  obtain⟨x2,y2,e2⟩:=P2.shape
  obtain⟨x3,y3,e3⟩:=P3.shape
  subst e1;subst e2;subst e3
  simp -implicitDefEqProofs[ae]
  intro _
  refine hw.mono ?_
  rintro r G3 ⟨E3,w1,w2,rfl,W1,W2⟩
  have B3:=B2.exts E3
  have P33:=P3.ext E3
  obtain⟨hok1,hok2⟩:=Aa OK
  have hpf:∀x∈(aT b).2.1++[-1],-4611686018427387904≤x∧x≤4611686018427387904:=fun x hx=>by
   rcases List.mem_append.1 hx with z|z
   ·exact(hok1 x z).wide
   ·rw[List.mem_singleton]at z;subst z;decide
  have hP:iF G3 b.v ((aT b).1++[p]) (aT b).2.2 vc w1 (.slice x3 (aT b).2.2.length y3):=⟨OK.may hhas,by rw[List.length_append];show((bW b).map _).length+_≤_;rw[List.length_map];simp;omega,by show(fG 0 (bW b)).length≤_;have:=tG 0 (bW b);omega,fun q hq=>(hok2 q hq).wide,B3.cK,W1,P33⟩
  have hag:=Bb steps b.v ((aT b).1++[p]) (aT b).2.2 ((aT b).2.1++[-1]) b.fuel hst vc w1 (.slice x3 (aT b).2.2.length y3) w2 hpf (by rw[List.length_append];show((bW b).map _).length+_≤_;rw[List.length_map];simp;omega) G3 hP W2.sl
  obtain⟨R,hR⟩:∃R,R=eO steps b.v ((aT b).1++[p]) (aT b).2.2 ((aT b).2.1++[-1]) b.fuel:=⟨_,rfl⟩
  have hRl:R.2=0→R.1.aW.length=((aT b).1++[p]).length:=fun z=>by
   rw[hR]at z ⊢
   exact Be (by rw[List.length_append,List.length_append];show((bW b).map _).length+_=((bW b).map _).length+_;rw[List.length_map,List.length_map];rfl) z
  rw[←hR]at hag hFB
  obtain⟨L,hL⟩:∃L,L=(aT b).1++[p]:=⟨_,rfl⟩
  have hLl:L.length≤1073741824:=by rw[hL];exact hP.ll
  rw[←hL]at W1 hRl hFB
  obtain⟨O,hO⟩:∃O,O=(aT b).2.1++[-1]:=⟨_,rfl⟩
  rw[←hO]at W2
  obtain⟨x4,y4,e4⟩:=W1.shape
  obtain⟨x5,y5,e5⟩:=W2.shape
  subst e4;subst e5
  have hrow3:=B3.row
  obtain⟨a1,n1,c1,g,r,a2,n2,c2,a3,n3,c3,a4,n4,c4,rfl,rfl,rfl,hrow⟩:=B.cells
  simp only[fh,List.cons_append,List.nil_append]at hrow3
  simp -implicitDefEqProofs[ae,hrow3]
  intro _
  refine hag.mono ?_
  rintro r G4 ⟨E4,pv,at_,nt,ct,rfl,S4⟩
  obtain⟨x6,y6,e6⟩:=S4.shape
  subst e6
  have EE:Ext h G4:=((E1.trans E2).trans E3).trans E4
  by_cases q2:R.2=0
  rotate_left
  ·rw[if_pos q2]at hFB
   subst hFB
   simp -implicitDefEqProofs[aC,mq,q2]
   intro _
   exact⟨EE,aF.nil⟩
  ·rw[if_neg (by simpa using q2)]at hFB
   have hfu:=yZ L R.1.aW (.slice x4 L.length y4) (.slice x6 R.1.aW.length y6) (by rw[hRl q2];exact hLl) hLl G4 (W1.ext E4).sl S4.sl
   simp -implicitDefEqProofs[aC,mq,q2]
   intro _
   refine hfu.mono ?_
   rintro r h' ⟨e,rfl⟩
   replace e:=e.symm
   subst e
   by_cases q3:jW L R.1.aW=true
   ·rw[if_pos q3]at hFB
    subst hFB
    simp -implicitDefEqProofs[ae,q3]
    intro _
    exact⟨EE,S4⟩
   ·rw[if_neg q3]at hFB
    by_cases q4:R.1.answer=3
    ·rw[if_pos q4]at hFB
     subst hFB
     simp -implicitDefEqProofs[ae,q3,q4]
     intro _
     exact⟨EE,aF.nil⟩
    ·rw[if_neg q4]at hFB
     subst hFB
     simp -implicitDefEqProofs[ae,q3,q4]
     intro _
     exact⟨EE,aF.nil⟩
theorem Og {p:List Int} {n:Nat} (h:p.length=n+1):p[n]? =some (p.getLastD 0):=by
 rw[List.getLastD_eq_getLast?,List.getLast?_eq_getElem?,h,Nat.add_sub_cancel]
 rw[List.getElem?_eq_getElem (by omega)];rfl
def tN (steps:Nat) (b:aK) (c:dQ):im:=if !dM c.aR then err 1 else if(fD steps b c.aR).2≠0 then err (fD steps b c.aR).2 else⟨0,0,(0,0),eX b ⟨0,0,c.aR,0,(fD steps b c.aR).1.getLastD 0⟩⟩
theorem ams {N:Nat} (OK:dH N b) (hN:N≤1048000) (hhas:b.has=true) (steps:Nat) (hst:2*b.fuel.toNat≤steps) (c:dQ) (B:aY h0 h a b vc ov o):
  ai PP 69 [.pointer (some ⟨a,0,none⟩),bV c] h (fun r h'=>Ext h h'∧ku h' (tN steps b c) r):=by
 refine az mix adb Xt rfl (by show 2≤35;decide) akm ?_
 simp only[yc,Tryz.f69]
 have hm:=j7 c.aR h
 have hf:=Kk OK hN hhas steps hst c.aR B
 simp only[dD,ag]at hm hf
 obtain⟨QB,hQB⟩:∃F,F=tN steps b c:=⟨_,rfl⟩
 rw[←hQB]
 unfold tN at hQB
 obtain⟨FB,hFB⟩:∃F,F=fD steps b c.aR:=⟨_,rfl⟩
 have hfl:=fun z=>Kl (steps:=steps) (b:=b) (p:=c.aR) z
 have hfF:=fun M z=>yX (n:=steps) (b:=b) (p:=c.aR) M z
 rw[←hFB]at hf hQB hfl hfF
 simp -implicitDefEqProofs[bV,cX]
 refine hm.mono ?_
 rintro r h' ⟨e,rfl⟩
 replace e:=e.symm
 subst e
 by_cases q:dM c.aR=true
 rotate_left
 ·rw[if_pos (by simp[q])]at hQB
  subst hQB
  simp -implicitDefEqProofs[ae,q]
  intro _
  exact⟨Ext.bu _,gg _ 1⟩
 ·rw[if_neg (by simp[q])]at hQB
  simp -implicitDefEqProofs[ae,q]
  intro _
  refine hf.mono ?_
  rintro r G ⟨E,pv,rfl,S⟩
  obtain⟨ad,cc,e⟩:=S.shape
  subst e
  by_cases q2:FB.2=0
  rotate_left
  ·rw[if_pos q2]at hQB
   subst hQB
   simp -implicitDefEqProofs[ae,q2]
   intro _
   exact⟨E,gg _ _⟩
  ·rw[if_neg (by simpa using q2)]at hQB
   replace hfl:=hfl q2
   replace hfF:=hfF (OK.may hhas) q2
   obtain⟨n,hn⟩:∃n,n=(bW b).length:=⟨_,rfl⟩
   rw[←hn]at hfl
   have hnl:n≤1048000:=by rw[hn];have:=mW b;have:=OK.len;omega
   have hlast:=Og hfl
   have hx:=(zb hfF).wide
   obtain⟨pl,hpl⟩:∃pl,pl=FB.1:=⟨_,rfl⟩
   rw[←hpl]at hfl hlast hx S hQB ⊢
   obtain⟨la,hla⟩:∃la,la=pl.getLastD 0:=⟨_,rfl⟩
   rw[←hla]at hlast hx hQB
   subst hQB
   obtain⟨_,b1,o1,cs1,r1,rfl,bq,hd1,hl1,_⟩:=S.at 1 V.cY hlast
   rw[Nat.mul_one]at hd1 hl1
   rw[hfl]at S ⊢
   have w1:IntKind.wrap .i64 (((n:Int)+1)-1)=(n:Int):=by rw[aA (by omega)];omega
   have w2:IntKind.wrap .i64 (n:Int)=(n:Int):=aA (by omega)
   have hlt:(n:Int)<(n:Int)+1:=by omega
   have hse:=sD (B.exts E) (OK.may hhas) ⟨0,0,c.aR,0,la⟩ hx
   simp only[gb,aH]at hse
   simp -implicitDefEqProofs[ae,aC,q2,w1,w2,hlt,bq,hd1,hl1,ab]
   intro _
   refine hse.mono ?_
   rintro r G2 ⟨E2,S2⟩
   obtain⟨ad2,cc2,rfl⟩:=S2.shape
   simp -implicitDefEqProofs[aC,ae]
   intro _
   exact⟨E.trans E2,_,rfl,S2⟩
end
theorem Y6 {h:aa} {a:Nat} {o:Option Nat} (c c':aO):b8 (a::o.toList) h (bK (h.new c) o c'):=by
 refine⟨uR _ _ _,by rw[cn,cZ];omega,fun i hi q=>?_⟩
 rw[mG _ _ _ (by rw[cZ];omega) (fun e=>q (by simp[e])),mP,if_neg (by omega)]
theorem BA {h0 h:aa} {a:Nat} {b:aK} {vc:List Value} {ov:Value} {o:Option Nat} (B:aY h0 h a b vc ov o) (x:aN):
  (bK (h.new (.row true 43 (aH x))) o (.row true 43 (b.l.flatMap aH++aH x))).f a= .row true 77 (fh b vc ov)∧
  aY h0 ((bK (h.new (.row true 43 (aH x))) o (.row true 43 (b.l.flatMap aH++aH x))).set a (.row true 77 (fh {b with l:=b.l++[x]} vc (.slice (some ⟨h.n+1,0,none⟩) (b.l.length+1) (b.l.length+1))))) a {b with l:=b.l++[x]} vc (.slice (some ⟨h.n+1,0,none⟩) (b.l.length+1) (b.l.length+1)) (some (h.n+1))∧
  b8 (a::o.toList) h ((bK (h.new (.row true 43 (aH x))) o (.row true 43 (b.l.flatMap aH++aH x))).set a (.row true 77 (fh {b with l:=b.l++[x]} vc (.slice (some ⟨h.n+1,0,none⟩) (b.l.length+1) (b.l.length+1))))):=by
 obtain⟨F,hF⟩:∃F,F=bK (h.new (.row true 43 (aH x))) o (.row true 43 (b.l.flatMap aH++aH x)):=⟨_,rfl⟩
 have hoa:o≠some a:=fun e=>by
  obtain⟨cs,q⟩:=B.cP.row a e
  rw[B.row]at q
  simp only[aO.row.injEq]at q
  exact absurd q.2.1 (by decide)
 have hFa:F.f a= .row true 77 (fh b vc ov):=by
  rw[hF,mG _ _ _ (by rw[cZ];have:=B.a1;omega) hoa,mP,if_neg (by have:=B.a1;omega)]
  exact B.row
 have hFn:F.n=h.n+2:=by rw[hF,cn,cZ]
 have EF:Ext h0 F:=by
  rw[hF]
  exact Ext.app (B.ext.bA _) (fun i hi=>⟨(B.cP.lt i hi).1,by rw[cZ];have:=(B.cP.lt i hi).2;omega⟩) _
 have KF:Kp h F:=by
  rw[hF]
  refine((Kp.refl h).new _).app (fun i hi e' cs q=>?_) _
  have hlt:=(B.cP.lt i hi).2
  rw[mP,if_neg (by omega)]at q
  obtain⟨cs',q'⟩:=B.cP.row i hi
  rw[q']at q
  cases q
 have W:dm 43 aH h0 F (some (h.n+1)) (b.l++[x]) (.slice (some ⟨h.n+1,0,none⟩) (b.l.length+1) (b.l.length+1)):=by
  rw[hF];exact B.cP.one B.ext.n _ x rfl
 have C:b8 (a::o.toList) h F:=by rw[hF];exact Y6 _ _
 rw[←hF]
 refine⟨hFa,nS (b:={b with l:=b.l++[x]}) hFa B.a0 (by have:=B.a1;omega) EF (B.cK.kp KF) W rfl,C.trans (fY F a _) (fun i hi _=>?_)⟩
 rw[List.mem_singleton]at hi
 subst hi;exact List.mem_cons_self
theorem aeo (steps:Nat) (b:aK) (c:dQ) (h1:dM c.aR=true) (h2:¬c.a<1) (h3:¬1000000<c.a) (h4:¬1099511627776<b.now+c.a):jw steps b c=
  if(fD steps b c.aR).2≠0 then(b,err (fD steps b c.aR).2)else
   (qC {b with l:=b.l++[⟨(b.l.length:Int)+1,1,c.aR,b.now+c.a,(fD steps b c.aR).1.getLastD 0⟩]} (fD steps b c.aR).1,
    ⟨0,(b.l.length:Int)+1,(0,0),eX (qC {b with l:=b.l++[⟨(b.l.length:Int)+1,1,c.aR,b.now+c.a,(fD steps b c.aR).1.getLastD 0⟩]} (fD steps b c.aR).1) ⟨(b.l.length:Int)+1,1,c.aR,b.now+c.a,(fD steps b c.aR).1.getLastD 0⟩⟩):=by
 unfold jw
 rw[if_neg (by simp[h1,h2,h3,h4])]
theorem sV (steps:Nat) (b:aK) (c:dQ) (h:(!dM c.aR || decide (c.a<1) || decide (1000000<c.a) || decide (1099511627776<b.now+c.a))=true):jw steps b c=(b,err 1):=by
 unfold jw;rw[if_pos h]
theorem aep {h0 h:aa} {a:Nat} {b:aK} {vc:List Value} {ov:Value} {o:Option Nat} {N:Nat} (OK:dH N b) (hN:N≤1048000) (hhas:b.has=true) (steps:Nat) (hst:2*b.fuel.toNat≤steps) (c:dQ) (B:aY h0 h a b vc ov o):
  ai PP 68 [.pointer (some ⟨a,0,none⟩),bV c] h (fun r h'=>bR h0 h h' a o (jw steps b c).1∧ku h' (jw steps b c).2 r):=by
 refine az mix ada Xs rfl (by show 2≤85;decide) akl ?_
 simp only[yb,Tryz.f68]
 have hm:=j7 c.aR h
 have hf:=Kk OK hN hhas steps hst c.aR B
 simp only[dD,ag]at hm hf
 have hrow:=B.row
 have hbc:=hrow
 obtain⟨a1,n1,c1,g,r,a2,n2,c2,a3,n3,c3,a4,n4,c4,hvc,hov,hn4,hrow'⟩:=B.cells
 obtain⟨HB,hHB⟩:∃F,F=jw steps b c:=⟨_,rfl⟩
 rw[←hHB]
 simp -implicitDefEqProofs[bV,cX]
 refine hm.mono ?_
 rintro r h' ⟨e,rfl⟩
 replace e:=e.symm
 subst e
 by_cases q1:dM c.aR=true
 rotate_left
 ·rw[sV steps b c (by simp[q1])]at hHB
  subst hHB
  simp -implicitDefEqProofs[aC,q1]
  intro _
  exact⟨bR.dR B (Ext.bu _),gg _ 1⟩
 by_cases q2:c.a<1
 ·rw[sV steps b c (by simp[q2])]at hHB
  subst hHB
  simp -implicitDefEqProofs[aC,q1,q2]
  intro _
  exact⟨bR.dR B (Ext.bu _),gg _ 1⟩
 by_cases q3:1000000<c.a
 ·rw[sV steps b c (by simp[q3])]at hHB
  subst hHB
  simp -implicitDefEqProofs[aC,q1,q2,q3]
  intro _
  exact⟨bR.dR B (Ext.bu _),gg _ 1⟩
 have w0:IntKind.wrap .i64 (b.now+c.a)=b.now+c.a:=aA (by have:=OK.n0;have:=OK.n1;omega)
 by_cases q4:1099511627776<b.now+c.a
 ·rw[sV steps b c (by simp[q4])]at hHB
  subst hHB
  simp -implicitDefEqProofs[aC,q1,q2,q3,hrow',w0,q4]
  intro _
  exact⟨bR.dR B (Ext.bu _),gg _ 1⟩
 rw[aeo steps b c q1 q2 q3 q4]at hHB
 obtain⟨FB,hFB⟩:∃F,F=fD steps b c.aR:=⟨_,rfl⟩
 have hfl:=fun z=>Kl (steps:=steps) (b:=b) (p:=c.aR) z
 have hfF:=fun M z=>yX (n:=steps) (b:=b) (p:=c.aR) M z
 rw[←hFB]at hf hHB hfl hfF
 simp -implicitDefEqProofs[aC,q1,q2,q3,hrow',w0,q4]
 intro _
 refine hf.mono ?_
 rintro r G ⟨E,pv,rfl,S⟩
 obtain⟨ad,cc,e⟩:=S.shape
 subst e
 by_cases q5:FB.2=0
 rotate_left
 ·rw[if_pos q5]at hHB
  subst hHB
  simp -implicitDefEqProofs[ae,q5]
  intro _
  exact⟨bR.dR B E,gg _ _⟩
 rw[if_neg (by simpa using q5)]at hHB
 replace hfl:=hfl q5
 replace hfF:=hfF (OK.may hhas) q5
 obtain⟨n,hn⟩:∃n,n=(bW b).length:=⟨_,rfl⟩
 rw[←hn]at hfl
 have hlen:=OK.len
 have hnl:n≤1048000:=by rw[hn];have:=mW b;omega
 have hlast:=Og hfl
 have hx:=(zb hfF).wide
 obtain⟨pl,hpl⟩:∃pl,pl=FB.1:=⟨_,rfl⟩
 rw[←hpl]at hfl hlast hx S hHB ⊢
 obtain⟨la,hla⟩:∃la,la=pl.getLastD 0:=⟨_,rfl⟩
 rw[←hla]at hlast hx hHB
 have S0:=S
 obtain⟨_,b1,o1,cs1,r1,rfl,bq,hd1,hl1,_⟩:=S.at 1 V.cY hlast
 rw[Nat.mul_one]at hd1 hl1
 rw[hfl]at S ⊢
 have w1:IntKind.wrap .i64 (((n:Int)+1)-1)=(n:Int):=by rw[aA (by omega)];omega
 have w2:IntKind.wrap .i64 (n:Int)=(n:Int):=aA (by omega)
 have hlt:(n:Int)<(n:Int)+1:=by omega
 have w3:IntKind.wrap .i64 ((b.l.length:Int)+1)=(b.l.length:Int)+1:=aA (by omega)
 have BG:=B.exts E
 obtain⟨x,hX⟩:∃x:aN,x=⟨(b.l.length:Int)+1,1,c.aR,b.now+c.a,la⟩:=⟨_,rfl⟩
 rw[←hX]at hHB
 have hxc:aH x=[Value.int .i64 ((b.l.length:Int)+1),.int .i64 1,.int .i64 c.aR.size,.int .i64 c.aR.cL,.int .i64 (b.now+c.a),.int .i64 la]:=by rw[hX];rfl
 have hA:=qP J3 BG.cP x (by have:=OK.len;omega)
 obtain⟨p1,BX,CX⟩:=BA BG x
 have hrowG:=BG.row
 subst hvc;subst hov;subst hn4
 rw[hxc]at hA p1 BX CX
 simp only[fh,List.cons_append,List.nil_append]at hrowG p1 BX CX
 have KX:Kp G _:=CX.kp BG.gh
 have hlive:(bW {b with l:=b.l++[x]}).length=n+1:=by
  show((b.l++[x]).filter cS).length=_
  rw[List.filter_append,List.length_append,hn]
  have:cS x=true:=by rw[hX];rfl
  simp[this,bW]
 have hsit:=P8 BX (by show(b.l++[x]).length≤_;rw[List.length_append,List.length_singleton];omega) pl _ (S.kp KX) (by rw[hlive,hfl];exact Nat.le_refl _)
 have hr1:List.range 6=[0,1,2,3,4,5]:=rfl
 have hneG:¬a=G.n:=by have:=BG.a1;omega
 simp -implicitDefEqProofs[ae,q5,w0,w1,w2,hlt,w3,bq,hd1,hl1,ab,hrowG,aI,hr1,hA,p1,hneG]
 intro _
 refine hsit.mono ?_
 rintro rr G2 ⟨B2,C2⟩
 have hse:=sD B2 (OK.may hhas) x (by rw[hX];exact hx)
 simp only[gb]at hse
 rw[hxc]at hse
 simp -implicitDefEqProofs[ae]
 intro _
 refine hse.mono ?_
 rintro rr G3 ⟨E3,S3⟩
 obtain⟨ad3,cc3,rfl⟩:=S3.shape
 simp -implicitDefEqProofs[aC,ae]
 intro _
 subst hHB
 exact⟨(bR.pre E (bR.trans CX (fun i hi=>.inr (by simp only[Option.some.injEq]at hi;omega)) (bR.lE B2 C2))).post E3,_,rfl,S3⟩
section
variable {h0 h h':aa} {a:Nat} {b:aK} {vc:List Value} {ov:Value} {o:Option Nat}
theorem aY.pM {bo:Nat} (B:aY h0 h a b vc ov (some bo)) (L:List aN) (hl:L.length=b.l.length) (r:List Value):
  bR h0 h (h.set bo (.row true 43 (L.flatMap aH++r))) a (some bo) {b with l:=L}:=by
 refine bR.lE (B.qB hl r).1 ((fY h bo _).mono fun x hx _=>?_)
 rw[List.mem_singleton]at hx
 subst hx;simp
theorem Zs (hl:b.l.length≤1048576) (M:aM b.v=true) (hF:∀o∈b.l,fQ o.first) (id:Int) (B:aY h0 h a b vc ov o):
  ai PP 70 [.pointer (some ⟨a,0,none⟩),.int .i64 id] h (fun r h'=>bR h0 h h' a o (mJ b id).1∧ku h' (mJ b id).2 r):=by
 refine az mix ade Xu rfl (by show 2≤37;decide) akn ?_
 simp only[yd,Tryz.f70]
 have hord:=BD B (by omega) id
 obtain⟨CB,hCB⟩:∃F,F=mJ b id:=⟨_,rfl⟩
 rw[←hCB]
 unfold mJ at hCB
 simp -implicitDefEqProofs
 refine hord.mono ?_
 rintro r h' ⟨rfl,hr⟩
 by_cases q:id<1∨(b.l.length:Int)<id
 ·rw[if_pos q]at hr hCB
  subst hCB
  subst hr
  simp -implicitDefEqProofs[ae]
  intro _
  exact⟨bR.dR B (Ext.bu _),gg _ 4⟩
 ·rw[if_neg q]at hr hCB
  obtain⟨bo,rfl,rfl⟩:=hr
  obtain⟨k,hk⟩:∃k,k=id.toNat-1:=⟨_,rfl⟩
  rw[←hk]at hCB
  try rw[←hk]
  have hkl:k<b.l.length:=by omega
  have hti:=Kz hkl
  obtain⟨t,ht⟩:∃t,t=b.l.getD k default:=⟨_,rfl⟩
  rw[←ht]at hti
  simp only[←ht]at hCB
  obtain⟨⟨c',r',e,qq⟩,nn0,nn1⟩:=B.cP
  obtain⟨P,Q,hP,e1,e2⟩:=oU hti r'
  have B':=B
  rw[e1]at qq
  have hL:∀X:List Value,(P++X).length=k*6+X.length:=fun X=>by rw[List.length_append,hP]
  have t1:∀X:List Value,(P++X).take (k*6+1)=P++X.take 1:=fun X=>ph hP
  have t4:∀X:List Value,(P++X).take (k*6+4)=P++X.take 4:=fun X=>ph hP
  have d1:∀X:List Value,(P++X).drop (k*6+1)=X.drop 1:=fun X=>jS (i:=1) hP
  have d2:∀X:List Value,(P++X).drop (k*6+1+1)=X.drop 2:=fun X=>jS (i:=2) hP
  have d5:∀X:List Value,(P++X).drop (k*6+4+1)=X.drop 5:=fun X=>jS (i:=5) hP
  have d0:∀X:List Value,(P++X).drop (k*6)=X:=fun X=>jS (i:=0) hP
  have z1:k*6+1+1≤k*6+(Q.length+1+1+1+1+1+1):=by omega
  have z2:k*6+4+1≤k*6+(Q.length+1+1+1+1+1+1):=by omega
  have z3:k*6+6≤k*6+(Q.length+1+1+1+1+1+1):=by omega
  simp only[aH,List.cons_append,List.nil_append]at qq
  by_cases q2:t.state=1
  rotate_left
  ·rw[if_pos q2]at hCB
   subst hCB
   simp -implicitDefEqProofs[ae,qq,hL,z1,z2,z3,d1,q2]
   intro _
   exact⟨bR.dR B (Ext.bu _),gg _ 5⟩
  ·rw[if_neg (by simpa using q2)]at hCB
   obtain⟨t2,ht2⟩:∃t2:aN,t2={t with state:=2,gT:=0}:=⟨_,rfl⟩
   have hQ:=B.pM (b.l.set k t2) (by rw[List.length_set]) r'
   have BS:=(B.qB (L:=b.l.set k t2) (by rw[List.length_set]) r').1
   rw[e2 t2]at hQ BS
   have hfi:fQ t2.first:=by rw[ht2];exact hF t (List.mem_of_getElem? hti)
   have hse:=sD BS M t2 hfi.wide
   have hc2:aH t2=[.int .i64 t.id,.int .i64 2,.int .i64 t.aR.size,.int .i64 t.aR.cL,.int .i64 0,.int .i64 t.first]:=by rw[ht2];rfl
   simp only[gb]at hse
   rw[hc2]at hse hQ
   simp only[List.cons_append,List.nil_append]at hse hQ
   rw[←ht2]at hCB
   subst hCB
   simp -implicitDefEqProofs[ae,qq,hL,z1,z2,z3,d0,d1,d2,d5,t1,t4,q2]
   intro _
   rw[jX]
   refine hse.mono ?_
   rintro r G2 ⟨E2,S2⟩
   obtain⟨ad2,cc2,rfl⟩:=S2.shape
   simp -implicitDefEqProofs[ae]
   intro _
   exact⟨hQ.post E2,_,rfl,S2⟩
theorem Y1 (hl:b.l.length≤1048576) (id:Int) (B:aY h0 h a b vc ov o):
  ai PP 71 [.pointer (some ⟨a,0,none⟩),.int .i64 id] h (fun r h'=>bR h0 h h' a o (mH b id).1∧ku h' (mH b id).2 r):=by
 refine az mix adf Xv rfl (by show 2≤28;decide) ako ?_
 simp only[ye,Tryz.f71]
 have hord:=BD B (by omega) id
 obtain⟨CB,hCB⟩:∃F,F=mH b id:=⟨_,rfl⟩
 rw[←hCB]
 unfold mH at hCB
 simp -implicitDefEqProofs
 refine hord.mono ?_
 rintro r h' ⟨rfl,hr⟩
 by_cases q:id<1∨(b.l.length:Int)<id
 ·rw[if_pos q]at hr hCB
  subst hCB
  subst hr
  simp -implicitDefEqProofs[ae]
  intro _
  exact⟨bR.dR B (Ext.bu _),gg _ 4⟩
 ·rw[if_neg q]at hr hCB
  obtain⟨bo,rfl,rfl⟩:=hr
  obtain⟨k,hk⟩:∃k,k=id.toNat-1:=⟨_,rfl⟩
  rw[←hk]at hCB
  try rw[←hk]
  have hkl:k<b.l.length:=by omega
  have hti:=Kz hkl
  obtain⟨t,ht⟩:∃t,t=b.l.getD k default:=⟨_,rfl⟩
  rw[←ht]at hti
  simp only[←ht]at hCB
  obtain⟨⟨c',r',e,qq⟩,nn0,nn1⟩:=B.cP
  have hend:=J4 h' bo k hti r' qq
  obtain⟨P,Q,hP,e1,e2⟩:=oU hti r'
  rw[e1]at qq
  have hL:∀X:List Value,(P++X).length=k*6+X.length:=fun X=>by rw[List.length_append,hP]
  have d1:∀X:List Value,(P++X).drop (k*6+1)=X.drop 1:=fun X=>jS (i:=1) hP
  have z1:k*6+1+1≤k*6+(Q.length+1+1+1+1+1+1):=by omega
  simp only[aH,List.cons_append,List.nil_append]at qq
  by_cases q2:t.state=3
  ·rw[if_pos q2]at hCB
   subst hCB
   simp -implicitDefEqProofs[ae,qq,hL,z1,d1,q2]
   intro _
   exact⟨bR.dR B (Ext.bu _),gg _ 5⟩
  ·rw[if_neg q2]at hCB
   subst hCB
   have hQ:=B.pM (b.l.set k (iR t)) (by rw[List.length_set]) r'
   simp -implicitDefEqProofs[ae,qq,hL,z1,d1,q2]
   intro _
   refine hend.mono ?_
   rintro r G2 rfl
   simp -implicitDefEqProofs[ae]
   intro _
   exact⟨hQ,gg _ 0⟩
end
theorem amD (steps:Nat) (b:aK):nq steps b=
  if(eO steps b.v (aT b).1 (aT b).2.2 (aT b).2.1 b.fuel).2≠0 then(b,err (eO steps b.v (aT b).1 (aT b).2.2 (aT b).2.1 b.fuel).2)
  else if(eO steps b.v (aT b).1 (aT b).2.2 (aT b).2.1 b.fuel).1.answer=3 then(b,err 7)
  else(qC b (eO steps b.v (aT b).1 (aT b).2.2 (aT b).2.1 b.fuel).1.aW,⟨0,(j9 (aT b).2.1 (eO steps b.v (aT b).1 (aT b).2.2 (aT b).2.1 b.fuel).1.aW (min (aT b).2.1.length (eO steps b.v (aT b).1 (aT b).2.2 (aT b).2.1 b.fuel).1.aW.length)).length,(0,0),[]⟩):=by
 unfold j9
 rw[List.length_map]
 rfl
section
variable {h0 h h':aa} {a:Nat} {b:aK} {vc:List Value} {ov:Value} {o:Option Nat}
theorem amE {N:Nat} (OK:dH N b) (hN:N≤1048000) (hhas:b.has=true) (steps:Nat) (hst:2*b.fuel.toNat≤steps) (B:aY h0 h a b vc ov o):
  ai PP 72 [.pointer (some ⟨a,0,none⟩)] h (fun r h'=>bR h0 h h' a o (nq steps b).1∧ku h' (nq steps b).2 r):=by
 refine az mix adg Xw rfl (by show 1≤49;decide) akp ?_
 simp only[yf,Tryz.f72]
 have hlen:=OK.len
 have hll:=mW b
 have hpl:=z7 (by omega) B
 obtain⟨RB,hRB⟩:∃F,F=nq steps b:=⟨_,rfl⟩
 rw[←hRB]
 rw[amD]at hRB
 simp -implicitDefEqProofs
 refine hpl.mono ?_
 rintro r G2 ⟨E2,v1,v2,v3,rfl,P1,P2,P3⟩
 have B2:=B.exts E2
 have l1:(aT b).1.length=(bW b).length:=List.length_map ..
 have l2:(aT b).2.1.length=(bW b).length:=List.length_map ..
 obtain⟨hok1,hok2⟩:=Aa OK
 have hP:iF G2 b.v (aT b).1 (aT b).2.2 vc v1 v3:=⟨OK.may hhas,by omega,by show(fG 0 (bW b)).length≤_;have:=tG 0 (bW b);omega,fun q hq=>(hok2 q hq).wide,B2.cK,P1,P3⟩
 have hag:=Bb steps b.v (aT b).1 (aT b).2.2 (aT b).2.1 b.fuel hst vc v1 v3 v2 (fun x hx=>(hok1 x hx).wide) (by omega) G2 hP P2.sl
 obtain⟨R,hR⟩:∃R,R=eO steps b.v (aT b).1 (aT b).2.2 (aT b).2.1 b.fuel:=⟨_,rfl⟩
 have hRl:R.2=0→R.1.aW.length=(bW b).length:=fun z=>by
  rw[hR]at z ⊢
  rw[Be (by omega) z];exact l1
 rw[←hR]at hag hRB
 have hrow2:=B2.row
 obtain⟨a1,n1,c1,g,r,a2,n2,c2,a3,n3,c3,a4,n4,c4,rfl,rfl,rfl,hrow⟩:=B.cells
 simp only[fh,List.cons_append,List.nil_append]at hrow2
 obtain⟨x1,y1,e1⟩:=P1.shape
 obtain⟨x2,y2,e2⟩:=P2.shape
 obtain⟨x3,y3,e3⟩:=P3.shape
 subst e1;subst e2;subst e3
 simp -implicitDefEqProofs[ae,hrow2]
 intro _
 refine hag.mono ?_
 rintro r G4 ⟨E4,pv,at_,nt,ct,rfl,S4⟩
 obtain⟨x6,y6,e6⟩:=S4.shape
 subst e6
 have EE:Ext h G4:=E2.trans E4
 have B4:=B2.exts E4
 by_cases q2:R.2=0
 rotate_left
 ·rw[if_pos q2]at hRB
  subst hRB
  simp -implicitDefEqProofs[aC,mq,q2]
  intro _
  exact⟨bR.dR B EE,gg _ _⟩
 rw[if_neg (by simpa using q2)]at hRB
 by_cases q4:R.1.answer=3
 ·rw[if_pos q4]at hRB
  subst hRB
  simp -implicitDefEqProofs[aC,mq,q2,q4]
  intro _
  exact⟨bR.dR B EE,gg _ 7⟩
 rw[if_neg q4]at hRB
 subst hRB
 have hRl':=hRl q2
 have hsit:=P8 B4 (by omega) R.1.aW _ S4 (by omega)
 simp -implicitDefEqProofs[aC,mq,q2,q4]
 intro _
 refine hsit.mono ?_
 rintro r G5 ⟨B5,C5⟩
 have K5:=C5.kp B4.gh
 have hmo:=agf (aT b).2.1 R.1.aW _ _ (by omega) (by omega) G5 ((P2.ext E4).kp K5).sl (S4.kp K5).sl
 simp -implicitDefEqProofs[ae]
 intro _
 refine hmo.mono ?_
 rintro r G6 ⟨E6,S6⟩
 obtain⟨x7,y7,e7⟩:=S6.shape
 subst e7
 simp -implicitDefEqProofs[ae]
 intro _
 exact⟨(bR.pre EE (bR.lE B5 C5)).post E6,_,rfl,aF.nil⟩
end
def gk (v:Int) (out ks:List Int):List Int:=ks.foldl (fun out k=>out.set k.toNat v) out
theorem rR (v:Int):∀(ks out:List Int),(gk v out ks).length=out.length:=by
 intro ks
 induction ks with
 |nil=>intro out;rfl
 |cons k r ih=>intro out;show(gk v (out.set k.toNat v) r).length=_;rw[ih,List.length_set]
theorem PW (v:Int) (out ks:List Int) (j:Nat) {t:Int} (h:ks[j]? =some t):gk v out (ks.take (j+1))=(gk v out (ks.take j)).set t.toNat v:=by
 unfold gk
 rw[List.take_add_one,h,Option.toList_some,List.foldl_append];rfl
theorem anm (v:Int):∀(ks out:List Int) (j:Nat),(∀k∈ks,0≤k)→j<out.length→(gk v out ks).getD j 0=if(j:Int)∈ks then v else out.getD j 0:=by
 intro ks
 induction ks with
 |nil=>intro out j _ _;rfl
 |cons k r ih=>
  intro out j hk hj
  have hk0:=hk k List.mem_cons_self
  show(gk v (out.set k.toNat v) r).getD j 0=_
  rw[ih _ _ (fun x hx=>hk x (List.mem_cons_of_mem _ hx)) (by rw[List.length_set];exact hj)]
  by_cases q:(j:Int)∈r
  ·rw[if_pos q,if_pos (List.mem_cons_of_mem _ q)]
  ·rw[if_neg q]
   by_cases q2:(j:Int)=k
   ·rw[if_pos (by rw[q2];exact List.mem_cons_self)]
    have e:k.toNat=j:=by omega
    rw[List.getD_eq_getElem?_getD,e,List.getElem?_set_self hj];rfl
   ·rw[if_neg (fun z=>by rcases List.mem_cons.1 z with z|z;exact q2 z;exact q z)]
    rw[List.getD_eq_getElem?_getD,List.getD_eq_getElem?_getD,List.getElem?_set_ne (by omega)]
theorem Oe (v:ah):∀k∈fb v,0≤k:=by
 intro k hk
 unfold fb at hk
 obtain⟨n,_,rfl⟩:=List.mem_map.1 hk
 omega
theorem aeY {v:ah} (M:aM v=true):∀k∈fb v,k<v.af.length:=by
 intro k hk
 unfold fb at hk
 obtain⟨n,hn,rfl⟩:=List.mem_map.1 hk
 have:=List.mem_range.1 (List.mem_filter.1 hn).1
 rw[uh M]at this
 omega
def iq (b:aK) (i:Nat):List Int:=((bW b).take i).foldl (fun out o=>gk o.id out (eX b o)) (gk (-1) (List.replicate b.v.af.length 0) (fb b.v))
theorem Y4 (b:aK) (i:Nat) {t:aN} (h:(bW b)[i]? =some t):iq b (i+1)=gk t.id (iq b i) (eX b t):=by
 unfold iq
 rw[List.take_add_one,h,Option.toList_some,List.foldl_append];rfl
theorem adL (f:aN→Int) (g:aN→List Int):∀(l:List aN) (out:List Int),(l.foldl (fun out o=>gk (f o) out (g o)) out).length=out.length:=by
 intro l
 induction l with
 |nil=>intro out;rfl
 |cons o r ih=>intro out;rw[List.foldl_cons,ih,rR]
theorem FF (b:aK) (i:Nat):(iq b i).length=b.v.af.length:=by
 unfold iq
 rw[adL (fun o=>o.id) (fun o=>eX b o),rR,List.length_replicate]
theorem Y3 (b:aK):pL b=⟨0,0,(0,0),iq b (bW b).length⟩:=by
 unfold pL iq
 rw[List.take_length]
 have e:(List.range b.v.af.length).map (fun k:Nat=>if(fb b.v).contains (k:Int)then(-1:Int)else 0)=gk (-1) (List.replicate b.v.af.length 0) (fb b.v):=by
  refine List.ext_getElem (by rw[rR];simp) (fun j h1 h2=>?_)
  rw[List.length_map,List.length_range]at h1
  have:=anm (-1) (fb b.v) (List.replicate b.v.af.length 0) j (Oe b.v) (by simpa using h1)
  rw[List.getD_eq_getElem?_getD,List.getElem?_eq_getElem h2,Option.getD_some]at this
  rw[this,List.getElem_map,List.getElem_range]
  have e2:(List.replicate b.v.af.length (0:Int)).getD j 0=0:=by
   rw[List.getD_eq_getElem?_getD]
   cases q:(List.replicate b.v.af.length (0:Int))[j]? with
   |none=>rfl
   |some x=>exact(List.mem_replicate.1 (List.mem_of_getElem? q)).2
  rw[e2]
  by_cases q:(j:Int)∈fb b.v
  ·rw[if_pos q,if_pos (by simpa using q)]
  ·rw[if_neg q,if_neg (by simpa using q)]
 simp only[e]
 rfl
theorem ang {b:aK} {o:aN}:∀x∈eX b o,0≤x∧x<b.v.af.length:=by
 intro x hx
 unfold eX at hx
 split at hx
 ·unfold cD at hx
  split at hx
  ·cases ht:lQ b.v (cJ b.v) o.first o.aR.size with
   |none=>rw[ht]at hx;cases hx
   |some l=>
    rw[ht]at hx
    simp only at hx
    split at hx
    ·simp only[Option.getD_some]at hx
     obtain⟨e,t1,t2,t3⟩:=ud ht
     rw[e]at hx
     have:=Pz hx
     omega
    ·cases hx
  ·cases hx
 ·cases hx
theorem anh {b:aK} {o:aN}:(eX b o).length≤b.v.af.length:=by
 unfold eX
 split
 ·unfold cD
  split
  ·cases ht:lQ b.v (cJ b.v) o.first o.aR.size with
   |none=>simp
   |some l=>
    simp only
    split
    ·simp only[Option.getD_some]
     obtain⟨e,t1,t2,t3⟩:=ud ht
     rw[e,qs];omega
    ·simp
  ·simp
 ·simp
def rZ:List Value:=[.int .i64 0,.int .i64 0,.int .i64 0,.int .i64 0,.slice none 0 0]
def Tb (h:aa) (a b1:Nat) (kv:Value) (ks:List Int) (n m k:Nat) (σ:St):Prop:=∃i:Nat,k=m-i∧i≤m∧Ext h σ.m.h∧σ.m.h.f b1= .row true 3 ((gk (-1) (List.replicate n 0) (ks.take i)).map (Value.int .i64))∧b1<σ.m.h.n∧aF 3 ab σ.m.h kv ks∧
 σ.t.get 0=some (.pointer (some ⟨a,0,none⟩))∧σ.t.get 2=some (.pointer (some ⟨2,0,some 0⟩))∧σ.t.get 3=some (.slice (some ⟨b1,0,none⟩) n n)∧σ.t.get 21=some kv∧σ.t.get 22=some (.int .i64 (m:Nat))∧σ.t.get 23=some (.int .i64 (i:Nat))∧σ.m.x.look 2=some (38,rZ)
def Tc (h:aa) (a b1:Nat) (b:aK) (lv:Value) (n m k:Nat) (σ:St):Prop:=∃i:Nat,k=m-i∧i≤m∧Ext h σ.m.h∧σ.m.h.f b1= .row true 3 ((iq b i).map (Value.int .i64))∧b1<σ.m.h.n∧aF 43 aH σ.m.h lv (bW b)∧
 σ.t.get 0=some (.pointer (some ⟨a,0,none⟩))∧σ.t.get 2=some (.pointer (some ⟨2,0,some 0⟩))∧σ.t.get 3=some (.slice (some ⟨b1,0,none⟩) n n)∧σ.t.get 32=some lv∧σ.t.get 33=some (.int .i64 (m:Nat))∧σ.t.get 34=some (.int .i64 (i:Nat))∧σ.m.x.look 2=some (38,rZ)
def Td (h:aa) (a b1:Nat) (b:aK) (lv sv:Value) (t:aN) (i n m p k:Nat) (σ:St):Prop:=∃j:Nat,k=p-j∧j≤p∧Ext h σ.m.h∧σ.m.h.f b1= .row true 3 ((gk t.id (iq b i) ((eX b t).take j)).map (Value.int .i64))∧b1<σ.m.h.n∧aF 43 aH σ.m.h lv (bW b)∧aF 3 ab σ.m.h sv (eX b t)∧
 σ.t.get 0=some (.pointer (some ⟨a,0,none⟩))∧σ.t.get 2=some (.pointer (some ⟨2,0,some 0⟩))∧σ.t.get 3=some (.slice (some ⟨b1,0,none⟩) n n)∧σ.t.get 7=some (.pointer (some ⟨7,0,some 0⟩))∧σ.t.get 32=some lv∧σ.t.get 33=some (.int .i64 (m:Nat))∧σ.t.get 34=some (.int .i64 (i:Nat))∧σ.t.get 40=some sv∧σ.t.get 41=some (.int .i64 (p:Nat))∧σ.t.get 42=some (.int .i64 (j:Nat))∧σ.m.x.look 2=some (38,rZ)∧σ.m.x.look 7=some (43,aH t)
theorem Y5 {h0 h:aa} {a:Nat} {b:aK} {vc:List Value} {ov:Value} {o:Option Nat} {N:Nat} (OK:dH N b) (hN:N≤1048000) (hhas:b.has=true) (B:aY h0 h a b vc ov o):
  ai PP 73 [.pointer (some ⟨a,0,none⟩)] h (fun r h'=>Ext h h'∧ku h' (pL b) r):=by
 refine ai.gK (post:=fun r h'=>Ext h h'∧∃sv,r= .agg ⟨qu (pL b) sv⟩∧bS 3 ab h h' sv (pL b).af) ?_ (fun v h' ⟨E,sv,e,W⟩=>by
  obtain⟨h'',w,E',S⟩:=W.cG E
  exact⟨h'',w,E',sv,e,S⟩)
 refine az mix adh Xx rfl (by show 1≤55;decide) akq ?_
 simp only[yg,Tryz.f73]
 have M:=OK.may hhas
 have hvl:=(j6 M).len
 have hlen:=OK.len
 have hll:=mW b
 rw[Y3]
 obtain⟨n,hn⟩:∃n,n=b.v.af.length:=⟨_,rfl⟩
 have hv:=B.cK
 have hk:=fun G (E:Ext h G)=>aeZ b.v M vc G (B.cK.ext E)
 have hlive:=fun G (E:Ext h G)=>mX (by omega) (B.exts E)
 have hse:=fun G (E:Ext h G) (t:aN) (ht:fQ t.first)=>sD (B.exts E) M t ht.wide
 have hrow:=B.row
 obtain⟨s,ke,p,rfl,z1,z2,z3⟩:=hv
 obtain⟨b1,d1,rfl⟩:=z1.shape
 obtain⟨b2,d2,rfl⟩:=z2.shape
 obtain⟨b3,d3,rfl⟩:=z3.shape
 obtain⟨b4,d4,hov⟩:=B.cP.shape
 subst hov
 simp only[fh,List.cons_append,List.nil_append]at hrow
 have hz:=uo (.int .i64 0) n
 have hmx:n*8≤140737488355328:=by omega
 have h00:¬(n:Int)<0:=by omega
 have hne:¬a=h.n:=by have:=B.a1;omega
 have hu0:List.replicate n (Value.int .i64 0)=(gk (-1) (List.replicate n 0) ((fb b.v).take 0)).map (Value.int .i64):=by simp[gk]
 rw[←hn]at hrow hk
 simp -implicitDefEqProofs[hrow,lI,cH,hz,hmx,h00,hne]
 rw[hu0]
 refine(hk _ (Ext.new h _)).mono ?_
 rintro r G ⟨E,S⟩
 have hGf:=E.f h.n (by simp)
 obtain⟨ad,cc,rfl⟩:=S.shape
 have hkl:(fb b.v).length≤n:=by
  unfold fb
  rw[List.length_map]
  have:=List.length_filter_le (fun k=> !(cJ b.v).getD k true) (List.range (cJ b.v).length)
  rw[List.length_range]at this
  have h2:=uh M
  omega
 obtain⟨m,hm⟩:∃m,m=(fb b.v).length:=⟨_,rfl⟩
 rw[←hm]at S hkl ⊢
 simp -implicitDefEqProofs[ae]
 intro _
 refine bD (Tb h a h.n (.slice ad m cc) (fb b.v) n m) _ ⟨0,rfl,by omega,(Ext.new h _).trans E,by rw[hGf];simp,by show h.n<G.n;have:=E.n;rw[cZ]at this;omega,S,by simp,by simp,by simp,by simp,by simp,by simp,by simp[rZ]⟩ ?_
 clear S hGf E
 rintro k0 ⟨T,⟨x,G⟩⟩ ⟨i,rfl,hi,E,hb,hbn,S,g0,g2,g3,g21,g22,g23,x2⟩
 simp at E hb hbn S g0 g2 g3 g21 g22 g23 x2
 simp -implicitDefEqProofs[g0,g2,g3,g21,g22,g23,x2]
 refine bB (fun hc=>?_) (fun hc=>?_)<;>simp only[decide_eq_true_eq,decide_eq_false_iff_not]at hc
 ·have him:i<m:=by omega
  have w1:IntKind.wrap .i64 ((i:Int)+1)=((i+1:Nat):Int):=by rw[aA (by omega)];omega
  have hti:(fb b.v)[i]? =some (fb b.v)[i]:=List.getElem?_eq_getElem (by omega)
  obtain⟨_,b',o1,cells',r,rfl,hb',hd',hlc,_⟩:=S.at 1 V.cY hti
  obtain⟨t,ht⟩:∃t,t=(fb b.v)[i]:=⟨_,rfl⟩
  rw[←ht]at hd' hti
  have t0:=Oe b.v t (List.mem_of_getElem? hti)
  have t1:=aeY M t (List.mem_of_getElem? hti)
  obtain⟨q,rfl⟩:∃q:Nat,t=q:=⟨t.toNat,by omega⟩
  have hqn:q<n:=by omega
  rw[Nat.mul_one]at hd' hlc
  have hsu:=PW (-1) (List.replicate n 0) (fb b.v) i hti
  have hsl:=rR (-1) ((fb b.v).take i) (List.replicate n 0)
  rw[List.length_replicate]at hsl
  obtain⟨L,hL⟩:∃L,L=gk (-1) (List.replicate n 0) ((fb b.v).take i):=⟨_,rfl⟩
  rw[←hL]at hb hsu hsl
  obtain⟨cells,hcells⟩:∃cells,cells=L.map (Value.int .i64):=⟨_,rfl⟩
  rw[←hcells]at hb
  have hcl2:cells.length=n:=by rw[hcells,List.length_map,hsl]
  have hil:q+1≤cells.length:=by omega
  have hts:=kX (Value.int .i64) L q (-1) (by omega)
  simp only[Int.toNat_natCast]at hsu
  rw[←hsu,←hcells]at hts
  have hbf:∀e cs,G.f h.n≠.row false e cs:=fun e cs z=>by rw[hb]at z;cases z
  simp -implicitDefEqProofs[g0,g2,g3,g21,g22,g23,x2,him,hb',hd',hlc,ab,hqn,hb,hil,w1]
  refine⟨m-(i+1),by omega,i+1,rfl,by omega,E.cq (Nat.le_refl _) _,?_,hbn,S.kp ((Kp.refl _).set hbf _),by simp,by simp,by simp,by simp,by simp,by simp,by simp[x2]⟩
  rw[←hts]
  simp
 ·have e:i=m:=by omega
  subst e
  have ec:gk (-1) (List.replicate n 0) ((fb b.v).take i)=iq b 0:=by
   rw[hm,List.take_length];unfold iq;rw[List.take_zero,List.foldl_nil,←hn]
  rw[ec]at hb
  simp -implicitDefEqProofs[g0,g2,g3,g21,g22,g23,x2]
  refine(hlive G E).mono ?_
  rintro r G2 ⟨E2,S2⟩
  obtain⟨ad2,cc2,rfl⟩:=S2.shape
  obtain⟨m2,hm2⟩:∃m,m=(bW b).length:=⟨_,rfl⟩
  have bC:=E2.f h.n hbn
  rw[hb]at bC
  rw[←hm2]at S2 ⊢
  simp -implicitDefEqProofs[ae]
  intro _
  refine bD (Tc h a h.n b (.slice ad2 m2 cc2) n m2) _ ⟨0,rfl,by omega,E.trans E2,bC,by have:=E2.n;simp only;omega,S2,by simp[g0],by simp[g2],by simp[g3],by simp,by simp,by simp,by simp[x2]⟩ ?_
  clear g0 g2 g3 g21 g22 g23 x2 hb hbn S bC E2 S2 E hc
  rintro k1 ⟨T,⟨x,G⟩⟩ ⟨i2,rfl,oe,E,hb,hbn,S,g0,g2,g3,g32,g33,g34,x2⟩
  simp at E hb hbn S g0 g2 g3 g32 g33 g34 x2
  simp -implicitDefEqProofs[g0,g2,g3,g32,g33,g34,x2]
  refine bB (fun hc=>?_) (fun hc=>?_)<;>simp only[decide_eq_true_eq,decide_eq_false_iff_not]at hc
  ·have him:i2<m2:=by omega
   have w1:IntKind.wrap .i64 ((i2:Int)+1)=((i2+1:Nat):Int):=by rw[aA (by omega)];omega
   have hti:(bW b)[i2]? =some (bW b)[i2]:=List.getElem?_eq_getElem (by omega)
   obtain⟨_,b',o1,cells',r,rfl,hb',hd',hlc,_⟩:=S.at 6 fx hti
   obtain⟨t,ht⟩:∃t,t=(bW b)[i2]:=⟨_,rfl⟩
   rw[←ht]at hd' hti
   have htf:=OK.fst t (List.mem_filter.1 (List.mem_of_getElem? hti)).1
   have hk6:(cells'.drop (o1+i2*6)).take 6=aH t:=by rw[hd'];rfl
   have hse':=hse G E t htf
   have hcs:=Y4 b i2 hti
   have hcl:=FF b i2
   simp only[gb,aH]at hse' hk6
   simp -implicitDefEqProofs[g0,g2,g3,g32,g33,g34,x2,him,hb',hk6,hlc]
   refine hse'.mono ?_
   rintro r G2 ⟨E2,S2⟩
   obtain⟨ad3,cc3,rfl⟩:=S2.shape
   have bC:=E2.f h.n hbn
   rw[hb]at bC
   have hpl:=anh (b:=b) (o:=t)
   obtain⟨p,hp⟩:∃p,p=(eX b t).length:=⟨_,rfl⟩
   rw[←hp]at S2 hpl ⊢
   simp -implicitDefEqProofs[ae]
   intro _
   refine bD (Td h a h.n b (.slice (some ⟨b',o1,none⟩) m2 cc2) (.slice ad3 p cc3) t i2 n m2 p) _ ⟨0,rfl,by omega,E.trans E2,by simpa[gk]using bC,by have:=E2.n;simp only;omega,S.ext E2,S2,by simp[g0],by simp[g2],by simp[g3],by simp,by simp[g32],by simp[g33],by simp[g34],by simp,by simp,by simp,by simp[x2],by simp[aH]⟩ ?_
   clear g0 g2 g3 g32 g33 g34 x2 hb hbn S bC E2 S2 E hb' hd' hk6 hlc hse'
   rintro k2 ⟨T,⟨x,G⟩⟩ ⟨j,rfl,hj,E,hb,hbn,S,S2,g0,g2,g3,g7,g32,g33,g34,g40,g41,g42,x2,x7⟩
   simp at E hb hbn S S2 g0 g2 g3 g7 g32 g33 g34 g40 g41 g42 x2 x7
   simp only[aH]at x7
   simp -implicitDefEqProofs[g0,g2,g3,g7,g32,g33,g34,g40,g41,g42,x2,x7]
   refine bB (fun hc=>?_) (fun hc=>?_)<;>simp only[decide_eq_true_eq,decide_eq_false_iff_not]at hc
   ·have hjp:j<p:=by omega
    have w2:IntKind.wrap .i64 ((j:Int)+1)=((j+1:Nat):Int):=by rw[aA (by omega)];omega
    have huj:(eX b t)[j]? =some (eX b t)[j]:=List.getElem?_eq_getElem (by omega)
    obtain⟨_,b5,o5,cells5,r5,rfl,hb5,hd5,hlc5,_⟩:=S2.at 1 V.cY huj
    obtain⟨u,hu⟩:∃u,u=(eX b t)[j]:=⟨_,rfl⟩
    rw[←hu]at hd5 huj
    have hub:=ang u (List.mem_of_getElem? huj)
    obtain⟨q,rfl⟩:∃q:Nat,u=q:=⟨u.toNat,by omega⟩
    have hqn:q<n:=by omega
    rw[Nat.mul_one]at hd5 hlc5
    have hsu:=PW t.id (iq b i2) (eX b t) j huj
    have hsl:=rR t.id ((eX b t).take j) (iq b i2)
    obtain⟨L,hL⟩:∃L,L=gk t.id (iq b i2) ((eX b t).take j):=⟨_,rfl⟩
    rw[←hL]at hb hsu hsl
    obtain⟨cells,hcells⟩:∃cells,cells=L.map (Value.int .i64):=⟨_,rfl⟩
    rw[←hcells]at hb
    have hcl2:cells.length=n:=by rw[hcells,List.length_map,hsl,hcl,hn]
    have hil:q+1≤cells.length:=by omega
    have hts:=kX (Value.int .i64) L q t.id (by omega)
    simp only[Int.toNat_natCast]at hsu
    rw[←hsu,←hcells]at hts
    have hbf:∀e cs,G.f h.n≠.row false e cs:=fun e cs z=>by rw[hb]at z;cases z
    simp -implicitDefEqProofs[g0,g2,g3,g7,g32,g33,g34,g40,g41,g42,x2,x7,hjp,hb5,hd5,hlc5,ab,hqn,hb,hil,w2]
    refine⟨p-(j+1),by omega,j+1,rfl,by omega,E.cq (Nat.le_refl _) _,?_,hbn,S.kp ((Kp.refl _).set hbf _),S2.kp ((Kp.refl _).set hbf _),by simp,by simp,by simp,by simp,by simp,by simp,by simp,by simp,by simp,by simp,by simp[x2],by simp[x7,aH]⟩
    rw[←hts]
    simp
   ·have e:j=p:=by omega
    subst e
    have ec:gk t.id (iq b i2) ((eX b t).take j)=iq b (i2+1):=by rw[hp,List.take_length,hcs]
    rw[ec]at hb
    simp -implicitDefEqProofs[g0,g2,g3,g7,g32,g33,g34,g40,g41,g42,x2,x7,w1]
    exact⟨m2-(i2+1),by omega,i2+1,rfl,by omega,E,hb,hbn,S,by simp[g0],by simp[g2],by simp[g3],by simp[g32],by simp[g33],by simp,by simp[x2]⟩
  ·have e:i2=m2:=by omega
   subst e
   simp -implicitDefEqProofs[g0,g2,g3,g32,g33,g34,x2,rZ]
   refine⟨E,_,rfl,some ⟨h.n,0,none⟩,by rw[FF,hn],.inr ⟨h.n,rfl,?_,Nat.le_refl _,hbn⟩⟩
   rw[hb]
   have:∀l:List Int,l.map (Value.int .i64)=l.flatMap ab:=fun l=>by induction l with|nil=>rfl|cons z r ih=>rw[List.map_cons,List.flatMap_cons,ih];rfl
   rw[this]
end Go.Proofs.Ybk.K
namespace Go.Proofs.Ybk.K
open Go Go.Am
set_option maxHeartbeats 4000000
open V (aq aP ah al aQ ab aX aM aB bT bX aZ bF)
open F (bQ)
def dn (r:dh):List Value:=[.int .i64 r.kind,.string (B r.text),.int .i64 r.order.id,.int .i64 r.order.state,.int .i64 r.order.aR.size,.int .i64 r.order.aR.cL,.int .i64 r.order.gT,.int .i64 r.order.first,.int .i64 r.time]
theorem Ai (r:dh):(dn r).length=9:=rfl
theorem mM:iM 39 73 9 80 dn:=⟨JZ,QO,⟨_,AN,rfl⟩,BN,FT,by decide,by decide,Ai,fun _=>rfl⟩
theorem ans:∀(l was:List aN) (t:aN),iD (l++[t]) was=iD l was++(if was[l.length]? =some t then[]else[iB t]):=by
 intro l
 induction l with
 |nil=>
  intro was t
  show(if was.head? =some t then[]else[iB t])++[]=[]++_
  rw[List.append_nil,List.nil_append,List.head?_eq_getElem?];rfl
 |cons a r ih=>
  intro was t
  rw[List.cons_append,iD,iD,ih,List.append_assoc,List.length_cons]
  cases was with
  |nil=>rfl
  |cons b s=>rfl
def kT (l was:List aN) (i:Nat):List dh:=iD (l.take i) was
theorem ant (l was:List aN) (i:Nat) {t:aN} (h:l[i]? =some t):kT l was (i+1)=if was[i]? =some t then kT l was i else kT l was i++[iB t]:=by
 unfold kT
 have hl:(l.take i).length=i:=by
  have:=(List.getElem?_eq_some_iff.1 h).1
  rw[List.length_take];omega
 rw[List.take_add_one,h,Option.toList_some,ans,hl]
 split
 ·rw[List.append_nil]
 ·rfl
theorem P6:∀(l was:List aN),(iD l was).length≤l.length:=by
 intro l
 induction l with
 |nil=>intro was;exact Nat.le_refl _
 |cons a r ih=>
  intro was
  rw[iD,List.length_append,List.length_cons]
  have:=ih was.tail
  split<;>simp<;>omega
def oX (b:aK) (c:dQ):List dh:=if c.kind=1 then[gR c.text]else if c.kind=5 then[jb b.now]else[]
theorem anr (b was:aK) (c:dQ):pc b was c=if oX b c++iD b.l was.l=[]then[]else(oX b c++iD b.l was.l)++[recC]:=rfl
theorem ami (b:aK) (c:dQ):(oX b c).length≤1:=by
 unfold oX
 split
 ·exact Nat.le_refl _
 ·split<;>simp
def uH (h:aa) (a2:Nat) (pre:List dh) (l was:List aN) (lv:Value) (C2:List Value) (m n:Nat) (σ:St):Prop:=∃(i:Nat) (o:Option Nat) (w:Value),n=m-i∧i≤m∧Ext h σ.m.h∧Ow 73 dn h σ.m.h o (pre++kT l was i) w∧
 σ.t.get 1=some (.pointer (some ⟨a2,0,none⟩))∧σ.t.get 7=some w∧σ.t.get 33=some lv∧σ.t.get 34=some (.int .i64 (m:Nat))∧σ.t.get 35=some (.int .i64 (i:Nat))
def Tw (h:aa) (a a2:Nat) (pre:List dh) (σ:St):Prop:=∃(o:Option Nat) (w:Value),Ext h σ.m.h∧Ow 73 dn h σ.m.h o pre w∧σ.t.get 0=some (.pointer (some ⟨a,0,none⟩))∧σ.t.get 1=some (.pointer (some ⟨a2,0,none⟩))∧σ.t.get 7=some w
section
variable {h0 h:aa} {a a2:Nat} {b was:aK} {vc vc2:List Value} {ov ov2:Value} {o o2:Option Nat}
theorem anu (hl:b.l.length≤1048576) (hl2:was.l.length≤1048576) (c:dQ) (B1:aY h0 h a b vc ov o) (B2:aY h0 h a2 was vc2 ov2 o2):
  ai PP 37 [.pointer (some ⟨a,0,none⟩),.pointer (some ⟨a2,0,none⟩),bV c] h (fun r h'=>Ext h h'∧aF 73 dn h' r (pc b was c)):=by
 refine ai.gK (post:=fun v' h'=>Ext h h'∧bS 73 dn h h' v' (pc b was c)) ?_ (fun v h' ⟨E,W⟩=>by
  obtain⟨h'',w,E',S⟩:=W.cG E
  exact⟨h'',w,E',S⟩)
 refine az mix acT Xb rfl (by show 3≤71;decide) aj4 ?_
 simp only[xK,Tryz.f37]
 obtain⟨SB,hSB⟩:∃F,F=pc b was c:=⟨_,rfl⟩
 rw[←hSB]
 rw[anr]at hSB
 have hr1:List.range 9=[0,1,2,3,4,5,6,7,8]:=rfl
 have hrow:=B1.row
 have hrow2:=B2.row
 have hS1:=B1.cP.sl
 have hS2:=B2.cP.sl
 obtain⟨x1,y1,m1,g1,r1,x2,m2,y2,x3,m3,y3,e1⟩:=B1.cK.shape
 obtain⟨x4,y4,m4,g4,r4,x5,m5,y5,x6,m6,y6,e2⟩:=B2.cK.shape
 obtain⟨x7,y7,e3⟩:=B1.cP.shape
 obtain⟨x8,y8,e4⟩:=B2.cP.shape
 subst e1;subst e2;subst e3;subst e4
 simp only[fh,List.cons_append,List.nil_append]at hrow hrow2
 refine rX 3 (Tw h a a2 (oX b c)) ?_ ?_
 ·simp only[oc,oa]
  have W0:Ow 73 dn h h none ([]:List dh) (.slice none 0 0):=Ow.nil
  have hA1:=gx mM W0 (gR c.text) (by decide)
  have hA3:=gx mM W0 (jb b.now) (by decide)
  have k1:[Value.int .i64 1,.string (B c.text),.int .i64 0,.int .i64 0,.int .i64 0,.int .i64 0,.int .i64 0,.int .i64 0,.int .i64 0]=dn (gR c.text):=rfl
  have k3:[Value.int .i64 3,.string (B []),.int .i64 0,.int .i64 0,.int .i64 0,.int .i64 0,.int .i64 0,.int .i64 0,.int .i64 b.now]=dn (jb b.now):=rfl
  simp only[List.flatMap_nil,List.nil_append,List.length_nil,Nat.zero_add]at hA1 hA3
  rw[←k1]at hA1
  rw[←k3]at hA3
  unfold oX
  by_cases q1:c.kind=1
  ·rw[if_pos q1]
   simp -implicitDefEqProofs[bV,cX,q1,aI,hr1,hA1]
   exact⟨_,_,gz (Ext.bu h) W0 _ _,Ow.one W0 (Nat.le_refl _) _ (gR c.text) rfl,by simp,by simp,by simp⟩
  ·by_cases q5:c.kind=5
   ·rw[if_neg q1,if_pos q5]
    simp -implicitDefEqProofs[bV,cX,q1,q5,hrow,aI,hr1,hA3]
    exact⟨_,_,gz (Ext.bu h) W0 _ _,Ow.one W0 (Nat.le_refl _) _ (jb b.now) rfl,by simp,by simp,by simp⟩
   ·rw[if_neg q1,if_neg q5]
    simp -implicitDefEqProofs[bV,cX,q1,q5]
    exact⟨none,_,Ext.bu h,Ow.nil,by simp,by simp,by simp⟩
 ·simp only[pg,my]
  rintro⟨T,⟨x,G⟩⟩ ⟨oo,w,E,W,g0,g1,g7⟩
  simp at E W g0 g1 g7
  have hpl:=ami b c
  obtain⟨pre,hpre⟩:∃p,p=oX b c:=⟨_,rfl⟩
  rw[←hpre]at W hpl hSB
  have hrG:=hrow
  rw[←E.f a B1.a1]at hrG
  obtain⟨m,hm⟩:∃m,m=b.l.length:=⟨_,rfl⟩
  rw[←hm]at hS1 hrG
  simp -implicitDefEqProofs[g0,g1,g7,hrG]
  refine bD (uH h a2 pre b.l was.l (.slice x7 m y7) [] m) _ ⟨0,oo,w,rfl,by omega,E,by simpa[kT,iD]using W,by simp[g1],by simp[g7],by simp,by simp,by simp⟩ ?_
  clear W g0 g1 g7 hrG E
  rintro n ⟨T,⟨x,G⟩⟩ ⟨i,oo,w,rfl,hi,E,W,g1,g7,g33,g34,g35⟩
  simp at E W g1 g7 g33 g34 g35
  have hwn:bL w=true:=by rw[W.1];rfl
  simp only[bL,fO,Option.isNone_iff_eq_none]at hwn
  simp -implicitDefEqProofs[g1,g7,g33,g34,g35,hwn]
  refine bB (fun hc=>?_) (fun hc=>?_)<;>simp only[decide_eq_true_eq,decide_eq_false_iff_not]at hc
  ·have him:i<m:=by omega
   have w1:IntKind.wrap .i64 ((i:Int)+1)=((i+1:Nat):Int):=by rw[aA (by omega)];omega
   have hti:b.l[i]? =some b.l[i]:=List.getElem?_eq_getElem (by omega)
   obtain⟨_,b',o1,w0,cells',r,rfl,hb',hd',hlc,_⟩:=(hS1.ext E).at 6 fx hti
   obtain⟨t,ht⟩:∃t,t=b.l[i]:=⟨_,rfl⟩
   rw[←ht]at hd' hti
   have hk6:(cells'.drop (o1+i*6)).take 6=aH t:=by rw[hd'];rfl
   have hnx:=ant b.l was.l i hti
   have hfl:(pre++kT b.l was.l i).length≤1048577:=by
    rw[List.length_append]
    have:=P6 (b.l.take i) was.l
    rw[List.length_take]at this
    show pre.length+(iD (b.l.take i) was.l).length≤_
    omega
   have hr2:=hrow2
   rw[←E.f a2 B2.a1]at hr2
   obtain⟨acc,hacc⟩:∃acc,acc=pre++kT b.l was.l i:=⟨_,rfl⟩
   have hnx':pre++kT b.l was.l (i+1)=if was.l[i]? =some t then acc else acc++[iB t]:=by
    rw[hnx,hacc]
    split
    ·rfl
    ·rw[List.append_assoc]
   rw[←hacc]at W hfl
   obtain⟨rfl,_⟩:=id W
   have hA:=gx mM W (iB t) (by omega)
   obtain⟨ti,ts,⟨tp,tw⟩,tl,tf⟩:=t
   have k2:[Value.int .i64 2,.string (B []),.int .i64 ti,.int .i64 ts,.int .i64 tp,.int .i64 tw,.int .i64 tl,.int .i64 tf,.int .i64 0]=dn (iB ⟨ti,ts,⟨tp,tw⟩,tl,tf⟩):=rfl
   rw[←k2]at hA
   simp only[aH]at hk6
   by_cases q:was.l.length≤i
   ·have q':(was.l.length:Int)≤i:=by omega
    rw[if_neg (by rw[List.getElem?_eq_none q];simp)]at hnx'
    simp -implicitDefEqProofs[g1,g7,g33,g34,g35,him,hb',hk6,hlc,hr2,q,q',aI,hr1,hA,w1]
    refine⟨m-(i+1),by omega,i+1,some (G.n+1),.slice (some ⟨G.n+1,0,none⟩) (acc.length+1) (acc.length+1),rfl,by omega,gz E W _ _,?_,by simp,by simp,by simp,by simp,by simp⟩
    rw[hnx']
    exact Ow.one W E.n _ _ rfl
   ·have q':¬(was.l.length:Int)≤i:=by omega
    have hiw:i<was.l.length:=by omega
    have hui:was.l[i]? =some was.l[i]:=List.getElem?_eq_getElem hiw
    obtain⟨_,b5,o5,w5,cells5,r5,rfl,hb5,hd5,hlc5,_⟩:=(hS2.ext E).at 6 fx hui
    obtain⟨u,hu⟩:∃u,u=was.l[i]:=⟨_,rfl⟩
    rw[←hu]at hd5 hui
    have hk5:(cells5.drop (o5+i*6)).take 6=aH u:=by rw[hd5];rfl
    obtain⟨ui,us,⟨up,uw⟩,ul,uf⟩:=u
    simp only[aH]at hk5
    simp -implicitDefEqProofs[g1,g7,g33,g34,g35,him,hb',hk6,hlc,hr2,q,q',hiw,hb5,hk5,hlc5]
    refine bB (fun hq=>?_) (fun hq=>?_)
    ·rw[if_neg (by rw[hui];intro e;simp only[Option.some.injEq,aN.mk.injEq,aU.mk.injEq]at e;simp[e.1,e.2.1,e.2.2.1.1,e.2.2.1.2,e.2.2.2.1,e.2.2.2.2]at hq)]at hnx'
     simp -implicitDefEqProofs[g1,g7,g33,g34,g35,aI,hr1,hA,w1]
     refine⟨m-(i+1),by omega,i+1,some (G.n+1),.slice (some ⟨G.n+1,0,none⟩) (acc.length+1) (acc.length+1),rfl,by omega,gz E W _ _,?_,by simp,by simp,by simp,by simp,by simp⟩
     rw[hnx']
     exact Ow.one W E.n _ _ rfl
    ·simp at hq
     obtain⟨rfl,rfl,⟨rfl,rfl⟩,rfl,rfl⟩:=hq
     rw[if_pos hui]at hnx'
     simp -implicitDefEqProofs[g1,g7,g33,g34,g35,w1]
     exact⟨m-(i+1),by omega,i+1,oo,_,rfl,by omega,E,by rw[hnx'];exact W,by simp[g1],by simp[g7],by simp[g33],by simp[g34],by simp⟩
  ·have e:i=m:=by omega
   subst e
   have he:kT b.l was.l i=iD b.l was.l:=by unfold kT;rw[hm,List.take_length]
   rw[he]at W
   have hfl:(pre++iD b.l was.l).length≤1048577:=by
    rw[List.length_append]
    have:=P6 b.l was.l
    omega
   obtain⟨acc,hacc⟩:∃acc,acc=pre++iD b.l was.l:=⟨_,rfl⟩
   rw[←hacc]at W hfl hSB
   obtain⟨rfl,_⟩:=id W
   by_cases q:acc=[]
   ·have q':acc.length=0:=by rw[q];rfl
    rw[if_pos q]at hSB
    subst hSB
    simp -implicitDefEqProofs[g7,q']
    exact⟨E,bS.nil⟩
   ·have q':¬acc.length=0:=fun z=>q (List.length_eq_zero_iff.1 z)
    rw[if_neg q]at hSB
    subst hSB
    have hA:=gx mM W recC (by omega)
    have k4:[Value.int .i64 4,.string (B []),.int .i64 0,.int .i64 0,.int .i64 0,.int .i64 0,.int .i64 0,.int .i64 0,.int .i64 0]=dn recC:=rfl
    rw[←k4]at hA
    simp -implicitDefEqProofs[g7,q',aI,hr1,hA]
    exact⟨gz E W _ _,(Ow.one W E.n _ recC rfl).own⟩
end
section
variable {h0 h:aa} {a:Nat} {b:aK} {vc:List Value} {ov:Value} {o:Option Nat}
theorem ZF {N:Nat} (OK:dH N b) (hN:N≤1048000) (steps:Nat) (hst:2*b.fuel.toNat≤steps) (c:dQ) (hc:c.text.length≤1048576) (G0:bQ h0) (B:aY h0 h a b vc ov o):
  ai PP 36 [.pointer (some ⟨a,0,none⟩),bV c] h (fun r h'=>bR h0 h h' a o (cv steps b c).1∧ku h' (cv steps b c).2 r):=by
 refine az mix acS Xa rfl (by show 2≤67;decide) aj3 ?_
 simp only[xJ,Tryz.f36]
 have hlen:=OK.len
 have hload:=afA (by omega) c hc G0 B
 have htick:=apH (by omega) ⟨OK.n0,OK.n1⟩ c.a B
 have hrow:=B.row
 have hrow':=hrow
 obtain⟨a1,n1,c1,g,r,a2,n2,c2,a3,n3,c3,a4,n4,c4,e1,e2,e3,hr⟩:=B.cells
 have fin:∀(R:im) (v:Value) (G:aa),ku G R v→∃ad n cc,v= .agg ⟨[.int .i64 R.code,.int .i64 R.n,.int .i64 R.spot.1,.int .i64 R.spot.2,.slice ad n cc]⟩:=by
  rintro R v G ⟨sv,rfl,S⟩
  obtain⟨ad,cc,rfl⟩:=S.shape
  exact⟨_,_,_,rfl⟩
 obtain⟨DB,hDB⟩:∃F,F=cv steps b c:=⟨_,rfl⟩
 rw[←hDB]
 unfold cv at hDB
 simp only[bV,cX]at hload htick
 by_cases q1:c.kind<1
 ·rw[if_pos (.inl q1)]at hDB
  subst hDB
  simp -implicitDefEqProofs[bV,cX,q1]
  exact⟨bR.dR B (Ext.bu _),gg _ 1⟩
 by_cases q2:8<c.kind
 ·rw[if_pos (.inr q2)]at hDB
  subst hDB
  simp -implicitDefEqProofs[bV,cX,q1,q2]
  exact⟨bR.dR B (Ext.bu _),gg _ 1⟩
 rw[if_neg (by omega)]at hDB
 by_cases k1:c.kind=1
 ·rw[if_pos k1]at hDB
  subst hDB
  rw[k1]at hload
  simp -implicitDefEqProofs[bV,cX,k1]
  refine hload.mono ?_
  rintro r h' ⟨Q,P⟩
  obtain⟨ad,n,cc,rfl⟩:=fin _ _ _ P
  simp -implicitDefEqProofs[ae]
  intro _
  exact⟨Q,P⟩
 rw[if_neg k1]at hDB
 by_cases k5:c.kind=5
 ·rw[if_pos k5]at hDB
  subst hDB
  simp -implicitDefEqProofs[bV,cX,k5]
  refine htick.mono ?_
  rintro r h' ⟨Q,P⟩
  obtain⟨ad,n,cc,rfl⟩:=fin _ _ _ P
  simp -implicitDefEqProofs[ae]
  intro _
  exact⟨Q,P⟩
 rw[if_neg k5]at hDB
 by_cases qh:b.has=true
 rotate_left
 ·rw[if_pos (by simpa using qh)]at hDB
  subst hDB
  simp -implicitDefEqProofs[bV,cX,q1,q2,k1,k5,hr,qh]
  exact⟨bR.dR B (Ext.bu _),gg _ 11⟩
 rw[if_neg (by simpa using qh)]at hDB
 have hhold:=aep OK hN qh steps hst c B
 have hquote:=ams OK hN qh steps hst c B
 have hconf:=Zs (by omega) (OK.may qh) OK.fst c.a B
 have hcanc:=Y1 (by omega) c.a B
 have hrepl:=amE OK hN qh steps hst B
 have hchart:=Y5 OK hN qh B
 simp only[bV,cX]at hhold hquote
 by_cases k2:c.kind=2
 ·rw[if_pos k2]at hDB
  subst hDB
  rw[k2]at hhold
  simp -implicitDefEqProofs[bV,cX,k2,hr,qh]
  refine hhold.mono ?_
  rintro r h' ⟨Q,P⟩
  obtain⟨ad,n,cc,rfl⟩:=fin _ _ _ P
  simp -implicitDefEqProofs[ae]
  intro _
  exact⟨Q,P⟩
 rw[if_neg k2]at hDB
 by_cases k6:c.kind=6
 ·rw[if_pos k6]at hDB
  have eq6:DB=(b,tN steps b c):=hDB
  subst eq6
  rw[k6]at hquote
  simp -implicitDefEqProofs[bV,cX,k6,hr,qh]
  refine hquote.mono ?_
  rintro r h' ⟨E,P⟩
  obtain⟨ad,n,cc,rfl⟩:=fin _ _ _ P
  simp -implicitDefEqProofs[ae]
  intro _
  exact⟨bR.dR B E,P⟩
 rw[if_neg k6]at hDB
 by_cases k3:c.kind=3
 ·rw[if_pos k3]at hDB
  subst hDB
  simp -implicitDefEqProofs[bV,cX,k3,hr,qh]
  refine hconf.mono ?_
  rintro r h' ⟨Q,P⟩
  obtain⟨ad,n,cc,rfl⟩:=fin _ _ _ P
  simp -implicitDefEqProofs[ae]
  intro _
  exact⟨Q,P⟩
 rw[if_neg k3]at hDB
 by_cases k4:c.kind=4
 ·rw[if_pos k4]at hDB
  subst hDB
  simp -implicitDefEqProofs[bV,cX,k4,hr,qh]
  refine hcanc.mono ?_
  rintro r h' ⟨Q,P⟩
  obtain⟨ad,n,cc,rfl⟩:=fin _ _ _ P
  simp -implicitDefEqProofs[ae]
  intro _
  exact⟨Q,P⟩
 rw[if_neg k4]at hDB
 by_cases k7:c.kind=7
 ·rw[if_pos k7]at hDB
  subst hDB
  simp -implicitDefEqProofs[bV,cX,k7,hr,qh]
  refine hrepl.mono ?_
  rintro r h' ⟨Q,P⟩
  obtain⟨ad,n,cc,rfl⟩:=fin _ _ _ P
  simp -implicitDefEqProofs[ae]
  intro _
  exact⟨Q,P⟩
 rw[if_neg k7]at hDB
 subst hDB
 simp -implicitDefEqProofs[bV,cX,q1,q2,k1,k2,k3,k4,k5,k6,k7,hr,qh]
 refine hchart.mono ?_
 rintro r h' ⟨E,P⟩
 obtain⟨ad,n,cc,rfl⟩:=fin _ _ _ P
 simp -implicitDefEqProofs[ae]
 intro _
 exact⟨bR.dR B E,P⟩
theorem Ga (steps:Nat) (b:aK) (c:dQ):(cv steps b c).1.fuel=b.fuel:=by
 unfold cv
 split
 ·rfl
 split
 ·unfold me
  split
  ·rfl
  ·split<;>rfl
 split
 ·unfold iL
  split<;>rfl
 split
 ·rfl
 split
 ·unfold jw
  split
  ·rfl
  ·simp only
   split<;>rfl
 split
 ·rfl
 split
 ·unfold mJ
  split
  ·rfl
  ·simp only
   split<;>rfl
 split
 ·unfold mH
  split
  ·rfl
  ·simp only
   split<;>rfl
 split
 ·unfold nq
  simp only
  split
  ·rfl
  ·split<;>rfl
 ·rfl
def uC (h0 h:aa) (a:Nat) (o:Option Nat) (steps:Nat) (b:aK) (c:dQ) (r:Value) (h':aa):Prop:=bR h0 h h' a o (cv steps b c).1∧∃ad n cc w,r= .tuple #[.agg ⟨qu (cv steps b c).2 (.slice ad n cc)⟩,w]∧aF 3 ab h' (.slice ad n cc) (cv steps b c).2.af∧aF 73 dn h' w (l4 steps b c)
theorem F9 {N:Nat} (OK:dH N b) (hN:N≤1047000) (steps:Nat) (hst:2*b.fuel.toNat≤steps) (c:dQ) (hc:c.text.length≤1048576) (G0:bQ h0) (B:aY h0 h a b vc ov o):
  ai PP 15 [.pointer (some ⟨a,0,none⟩),bV c] h (uC h0 h a o steps b c):=by
 refine az mix Kr Bu rfl (by show 2≤25;decide) O8 ?_
 simp only[su,Tryz.f15]
 have hlen:=OK.len
 have hcp:=FY (by omega) B
 simp -implicitDefEqProofs[bV,cX]
 refine hcp.mono ?_
 rintro r G1 ⟨E1,a',ov',o',rfl,B'⟩
 have B1:=B.exts E1
 have hdo:=ZF OK (by omega) steps hst c hc G0 B1
 simp only[bV,cX]at hdo
 simp -implicitDefEqProofs[ae]
 intro _
 refine hdo.mono ?_
 rintro r G2 ⟨⟨vc2,ov2,o2,B2,C2,D2⟩,sv,rfl,S⟩
 obtain⟨ad,cc,rfl⟩:=S.shape
 have hQ:bR h0 h G2 a o (cv steps b c).1:=bR.pre E1 ⟨vc2,ov2,o2,B2,C2,D2⟩
 obtain⟨R,hR⟩:∃R,R=(cv steps b c).2:=⟨_,rfl⟩
 have hdr:l4 steps b c=if R.code≠0 then[]else pc (cv steps b c).1 b c:=by rw[hR];rfl
 rw[←hR]at S ⊢
 by_cases q:R.code=0
 rotate_left
 ·rw[if_pos q]at hdr
  simp -implicitDefEqProofs[ae,qu,q]
  intro _
  exact⟨hQ,ad,_,cc,_,by rw[←hR];rfl,by rw[←hR];exact S,by rw[hdr];exact aF.nil⟩
 ·rw[if_neg (by simpa using q)]at hdr
  have B3:=(B'.low B.ext).other B1 C2 (fun x hx z=>by
   have h1:=(B'.own x hx).1
   have h2:=(B.own x z).2
   omega)
  have OK2:=l5 steps c OK
  have hsi:=anu (by have:=OK2.len;omega) (by omega) c B2 B3
  simp only[bV,cX]at hsi
  simp -implicitDefEqProofs[ae,qu,q]
  intro _
  refine hsi.mono ?_
  rintro r G3 ⟨E3,S3⟩
  obtain⟨ad3,cc3,rfl⟩:=S3.shape
  simp -implicitDefEqProofs[aC]
  intro _
  exact⟨hQ.post E3,ad,R.af.length,cc,.slice ad3 (pc (cv steps b c).1 b c).length cc3,by rw[←hR];simp[qu,q],by rw[←hR];exact S.ext E3,by rw[hdr];exact S3⟩
end
theorem rf (n lo hi:Int) (h:aa):ai PP 117 [.int .i64 n,.int .i64 lo,.int .i64 hi] h (fun v h'=>h'=h∧v= .bool (aB n lo hi)):=by
 refine az mix aa3 Vb rfl (by show 3≤15;decide) aii ?_
 simp only[vk,Tryz.f117]
 unfold aB
 by_cases q:lo≤n
 ·simp -implicitDefEqProofs[q]
 ·simp -implicitDefEqProofs[q]
theorem alr (o:aN) (h:aa):ai PP 116 [gb o] h (fun v h'=>h'=h∧v= .bool (oT o)):=by
 refine az mix aa2 Va rfl (by show 1≤26;decide) aih ?_
 simp only[vh,Tryz.f116]
 have hp:=fun H=>j7 o.aR H
 simp only[dD,ag]at hp
 unfold oT
 simp -implicitDefEqProofs[gb,aH]
 refine(rf _ _ _ h).mono ?_
 rintro r h' ⟨e,rfl⟩
 replace e:=e.symm
 subst e
 by_cases q1:aB o.id 1 2147483647=true
 rotate_left
 ·simp -implicitDefEqProofs[ae,q1]
 simp -implicitDefEqProofs[ae,q1]
 intro _
 refine(rf _ _ _ h).mono ?_
 rintro r h' ⟨e,rfl⟩
 replace e:=e.symm
 subst e
 by_cases q2:aB o.state 1 3=true
 rotate_left
 ·simp -implicitDefEqProofs[ae,q2]
 simp -implicitDefEqProofs[ae,q2]
 intro _
 refine(hp h).mono ?_
 rintro r h' ⟨e,rfl⟩
 replace e:=e.symm
 subst e
 by_cases q3:dM o.aR=true
 rotate_left
 ·simp -implicitDefEqProofs[ae,q3]
 simp -implicitDefEqProofs[ae,q3]
 intro _
 refine(rf _ _ _ h).mono ?_
 rintro r h' ⟨e,rfl⟩
 replace e:=e.symm
 subst e
 by_cases q4:aB o.gT 0 1099511627776=true
 rotate_left
 ·simp -implicitDefEqProofs[ae,q4]
 simp -implicitDefEqProofs[ae,q4]
 intro _
 refine(rf _ _ _ h).mono ?_
 rintro r h' ⟨e,rfl⟩
 replace e:=e.symm
 subst e
 simp -implicitDefEqProofs[ae]
def kQ (r:dh):Value:=.agg ⟨dn r⟩
theorem uq {a b:List UInt8} (h:B a=B b):a=b:=by
 have h1:∀x:List UInt8,(B x).data.toList=x:=fun _=>rfl
 rw[←h1 a,←h1 b,h]
theorem amv (r:dh) (h:aa):ai PP 75 [kQ r] h (fun v h'=>h'=h∧v= .bool (j5 r)):=by
 refine az mix adj Xz rfl (by show 1≤43;decide) aks ?_
 simp only[yi,Tryz.f75]
 have hord:=alr r.order h
 have hin:=rf r.time 0 1099511627776 h
 obtain⟨MB,hMB⟩:∃F,F=j5 r:=⟨_,rfl⟩
 rw[←hMB]
 unfold j5 at hMB
 obtain⟨rk,rt,⟨oi,os,⟨op,ow⟩,ol,of_⟩,rm⟩:=r
 simp only[gb,aH]at hord hin
 simp only[gR,iB,jb,recC,mB,ko,dh.mk.injEq,aN.mk.injEq,aU.mk.injEq,true_and,and_true]at hMB
 by_cases k1:rk=1
 ·subst k1
  by_cases q:rt.length≤1048576
  ·have q':(rt.length:Int)≤1048576:=by omega
   simp -implicitDefEqProofs[kQ,dn,q']
   rw[hMB];simp[q]
  ·have q':¬(rt.length:Int)≤1048576:=by omega
   simp -implicitDefEqProofs[kQ,dn,q']
   rw[hMB];simp[q]
 by_cases k2:rk=2
 ·subst k2
  simp -implicitDefEqProofs[kQ,dn]
  refine hord.mono ?_
  rintro v h' ⟨e,rfl⟩
  replace e:=e.symm
  subst e
  obtain⟨D,hD⟩:∃D,D=oT ⟨oi,os,⟨op,ow⟩,ol,of_⟩:=⟨_,rfl⟩
  rw[←hD]at hMB ⊢
  cases D
  ·simp -implicitDefEqProofs[aC]
   rw[hMB];simp
  ·simp -implicitDefEqProofs[aC]
   rw[hMB];simp
 by_cases k3:rk=3
 ·subst k3
  simp -implicitDefEqProofs[kQ,dn]
  refine hin.mono ?_
  rintro v h' ⟨e,rfl⟩
  replace e:=e.symm
  subst e
  obtain⟨D,hD⟩:∃D,D=aB rm 0 1099511627776:=⟨_,rfl⟩
  rw[←hD]at hMB ⊢
  cases D
  ·simp -implicitDefEqProofs[aC]
   rw[hMB];simp
  ·simp -implicitDefEqProofs[aC]
   rw[hMB];simp
 by_cases k4:rk=4
 ·subst k4
  simp -implicitDefEqProofs[kQ,dn]
  rw[hMB];simp
 ·simp -implicitDefEqProofs[kQ,dn,k1,k2,k3,k4]
  rw[hMB];simp[k1,k2,k3,k4]
theorem anP {h0 h:aa} {a:Nat} {b:aK} {vc:List Value} {ov:Value} {o:Option Nat} (B:aY h0 h a b vc ov o) (x:aN):ai PP 77 [.pointer (some ⟨a,0,none⟩),gb x] h (fun r h'=>h'=h∧r= .bool (ny b x)):=by
 refine az mix adq XB rfl (by show 2≤29;decide) aku ?_
 simp only[yk,Tryz.f77]
 obtain⟨a1,n1,c1,g,r,a2,n2,c2,a3,n3,c3,a4,n4,c4,rfl,rfl,rfl,hrow⟩:=B.cells
 unfold ny
 by_cases q1:x.state=1
 ·simp -implicitDefEqProofs[gb,aH,q1,hrow]
 ·by_cases q3:x.state=3
  ·by_cases q4:x.gT=0
   ·simp -implicitDefEqProofs[gb,aH,q3,q4]
   ·simp -implicitDefEqProofs[gb,aH,q3,q4]
  ·simp -implicitDefEqProofs[gb,aH,q1,q3]
def SN (h:aa) (a:Nat) (b:aK) (ov:Value) (m n:Nat) (σ:St):Prop:=∃i:Nat,n=m-i∧i≤m∧σ.m.h=h∧(∀j t,j<i→b.l[j]? =some t→ny b t=true)∧
 σ.t.get 0=some (.pointer (some ⟨a,0,none⟩))∧σ.t.get 11=some ov∧σ.t.get 12=some (.int .i64 (m:Nat))∧σ.t.get 13=some (.int .i64 (i:Nat))
theorem afV (b:aK) (hs:b.l.all (ny b)=true):lz b=(decide ((aT b).1.length=0) || (b.has&&(decide ((aT b).1.length≤512)&&(jW (aT b).1 (aT b).2.1&&ix b.v (aT b).1 (aT b).2.1 (aT b).2.2)))):=by
 unfold lz;rw[hs,Bool.true_and]
theorem afU {h0 h:aa} {a:Nat} {b:aK} {vc:List Value} {ov:Value} {o:Option Nat} {N:Nat} (OK:dH N b) (hN:N≤1048000) (B:aY h0 h a b vc ov o):
  ai PP 42 [.pointer (some ⟨a,0,none⟩)] h (fun r h'=>Ext h h'∧r= .bool (lz b)):=by
 refine az mix acY Xg rfl (by show 1≤55;decide) aj9 ?_
 simp only[xP,Tryz.f42]
 have hlen:=OK.len
 have hll:=mW b
 have hsl:=B.cP.sl
 have hrow:=B.row
 have hvs:=B.cK.shape
 obtain⟨x7,y7,e3⟩:=B.cP.shape
 subst e3
 obtain⟨x1,y1,m1,g1,r1,x2,m2,y2,x3,m3,y3,e1⟩:=hvs
 subst e1
 simp only[fh,List.cons_append,List.nil_append]at hrow
 obtain⟨m,hm⟩:∃m,m=b.l.length:=⟨_,rfl⟩
 have hrow':=hrow
 rw[←hm]at hrow hsl
 simp -implicitDefEqProofs[hrow]
 refine bD (SN h a b (.slice x7 m y7) m) _ ⟨0,rfl,by omega,rfl,fun j t hj=>by omega,by simp,by simp,by simp,by simp⟩ ?_
 rintro n ⟨T,⟨x,G⟩⟩ ⟨i,rfl,hi,hG,aL,g0,g11,g12,g13⟩
 simp at hG g0 g11 g12 g13
 subst hG
 simp -implicitDefEqProofs[g0,g11,g12,g13]
 refine bB (fun hc=>?_) (fun hc=>?_)<;>simp only[decide_eq_true_eq,decide_eq_false_iff_not]at hc
 ·have him:i<m:=by omega
  have w1:IntKind.wrap .i64 ((i:Int)+1)=((i+1:Nat):Int):=by rw[aA (by omega)];omega
  have hti:b.l[i]? =some b.l[i]:=List.getElem?_eq_getElem (by omega)
  obtain⟨_,b',o1,w0,cells',r,rfl,hb',hd',hlc,_⟩:=hsl.at 6 fx hti
  obtain⟨t,ht⟩:∃t,t=b.l[i]:=⟨_,rfl⟩
  rw[←ht]at hd' hti
  have hk6:(cells'.drop (o1+i*6)).take 6=aH t:=by rw[hd'];rfl
  have hso:=anP B t
  simp only[gb,aH]at hso hk6
  simp -implicitDefEqProofs[g0,g11,g12,g13,him,hb',hk6,hlc]
  refine hso.mono ?_
  rintro rr h' ⟨e,rfl⟩
  replace e:=e.symm
  subst e
  by_cases z:ny b t=true
  ·simp -implicitDefEqProofs[ae,z,g0,g11,g12,g13,w1]
   intro _
   refine⟨m-(i+1),by omega,i+1,rfl,by omega,rfl,fun j u hj hu=>?_,by simp[g0],by simp[g11],by simp[g12],by simp⟩
   rcases Nat.lt_or_ge j i with q|q
   ·exact aL j u q hu
   ·have:j=i:=by omega
    subst this
    rw[hti]at hu
    obtain rfl:=Option.some.inj hu
    exact z
  ·have e:lz b=false:=by
    unfold lz
    have:b.l.all (ny b)=false:=by
     rw[Bool.eq_false_iff]
     intro q
     exact z (List.all_eq_true.1 q t (List.mem_of_getElem? hti))
    rw[this,Bool.false_and]
   rw[e]
   simp -implicitDefEqProofs[ae,z]
   intro _
   exact Ext.bu _
 ·have e:i=m:=by omega
  subst e
  have hs:b.l.all (ny b)=true:=by
   rw[List.all_eq_true]
   intro t ht
   obtain⟨j,hj,e⟩:=List.getElem_of_mem ht
   exact aL j t (by omega) (by rw[←e];exact List.getElem?_eq_getElem hj)
  obtain⟨MB,hMB⟩:∃F,F=lz b:=⟨_,rfl⟩
  rw[←hMB]
  rw[afV b hs]at hMB
  have hpl:=z7 (by omega) B
  simp -implicitDefEqProofs[g0,g11,g12,g13]
  refine hpl.mono ?_
  rintro r G2 ⟨E2,v1,v2,v3,rfl,P1,P2,P3⟩
  have B2:=B.exts E2
  have l1:(aT b).1.length=(bW b).length:=List.length_map ..
  have l2:(aT b).2.1.length=(bW b).length:=List.length_map ..
  obtain⟨hok1,hok2⟩:=Aa OK
  have hrow2:=B2.row
  simp only[fh,List.cons_append,List.nil_append]at hrow2
  obtain⟨x1',y1',e1⟩:=P1.shape
  obtain⟨x2',y2',e2⟩:=P2.shape
  obtain⟨x3',y3',e3⟩:=P3.shape
  subst e1;subst e2;subst e3
  have hfu:=yZ (aT b).1 (aT b).2.1 _ _ (by omega) (by omega) G2 P1.sl P2.sl
  have hmay:=fun hhas=>PC b.v (aT b).1 (aT b).2.2 (aT b).2.1 _ _ _ _ (fun x hx=>(hok1 x hx).wide) G2 (⟨OK.may hhas,by omega,by show(fG 0 (bW b)).length≤_;have:=tG 0 (bW b);omega,fun q hq=>(hok2 q hq).wide,B2.cK,P1,P3⟩:iF G2 b.v (aT b).1 (aT b).2.2 _ _ _) P2.sl
  by_cases q0:(aT b).1.length=0
  ·have e:MB=true:=by rw[hMB];simp[q0]
   subst e
   simp -implicitDefEqProofs[ae,q0]
   intro _
   exact E2
  have q0':¬((aT b).1.length:Int)=0:=by omega
  by_cases qh:b.has=true
  rotate_left
  ·have e:MB=false:=by rw[hMB];simp[q0,qh]
   subst e
   simp -implicitDefEqProofs[ae,q0,q0',hrow2,qh]
   intro _
   exact E2
  by_cases q5:(aT b).1.length≤512
  rotate_left
  ·have e:MB=false:=by rw[hMB];simp[q0,q5]
   subst e
   have q5':¬((aT b).1.length:Int)≤512:=by omega
   simp -implicitDefEqProofs[ae,q0,q0',hrow2,qh,q5,q5']
   intro _
   exact E2
  have q5':((aT b).1.length:Int)≤512:=by omega
  have hmay':=hmay qh
  simp -implicitDefEqProofs[ae,q0,q0',hrow2,qh,q5,q5']
  intro _
  refine hfu.mono ?_
  rintro r h' ⟨e,rfl⟩
  replace e:=e.symm
  subst e
  by_cases q6:jW (aT b).1 (aT b).2.1=true
  rotate_left
  ·have e:MB=false:=by rw[hMB];simp[q0,q6]
   subst e
   simp -implicitDefEqProofs[ae,q6]
   intro _
   exact E2
  simp -implicitDefEqProofs[ae,q6,hrow2]
  intro _
  have e:MB=ix b.v (aT b).1 (aT b).2.1 (aT b).2.2:=by rw[hMB];simp[q0,qh,q5,q6]
  rw[←e]at hmay'
  refine hmay'.mono ?_
  rintro r G3 ⟨E3,rfl⟩
  simp -implicitDefEqProofs[ae]
  intro _
  exact E2.trans E3
end Go.Proofs.Ybk.K

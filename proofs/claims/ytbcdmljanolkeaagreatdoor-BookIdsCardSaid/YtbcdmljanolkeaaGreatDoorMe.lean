import Derived.Test.YtbcdmljanolkeaaGreatDoorMd
import Derived.Shelf.SlSortCmp.WholeK
import Derived.Shelf.Sort.Plain
import Derived.Test.YtbcdmljanolkeaaGreatDoorProg
import Derived.Shelf.Slices.CompactI
set_option linter.unusedVariables false
set_option linter.unusedSimpArgs false
set_option linter.unusedSectionVars false
set_option linter.constructorNameAsVariable false
set_option linter.defProp false
set_option maxRecDepth 20000
namespace Go.Proofs.Ybk
open Go Go.Am
set_option maxHeartbeats 4000000
open T (bA cX fe dz fH)
open V (aq aU aj au bg ab aB)
open F (FR eS cz)
structure kE where
 row:Int
 x:Int
 line:Int
 ah:Int
 q7:Int
 qY:Int
deriving DecidableEq
def lE (k:kE):List Value:=[.int .i64 k.row,.int .i64 k.x,.int .i64 k.line,.int .i64 k.ah,.int .i64 k.q7,.int .i64 k.qY]
structure Rd where
 ag:List aq
 aW:Int
 bC:Int
 aE:List kE
 aI:List aU
 eJ:Bool
deriving DecidableEq
def gx:Rd:=⟨[],0,0,[],[],false⟩
def cV (r:Rd) (t0:bA) (rest:List bA):Rd×Bool:=
 let n:=fun i=>(rest.getD i T.kg).n
 if t0.text=ft then(if 0<r.aW then(r,false)else({r with aW:=n 0},true))
 else if t0.text=fP then(if r.eJ then(r,false)else({r with eJ:=true,bC:=n 0},true))
 else if t0.text=fj then
  let k:=r.aE++[⟨n 0,n 1,t0.line,t0.ah,(rest.getD 0 T.kg).line,(rest.getD 0 T.kg).ah⟩]
  ({r with aE:=k},decide (k.length≤200))
 else if t0.text=gh then
  let p:=r.aI++[⟨n 0,n 1,n 2⟩]
  ({r with aI:=p},decide (p.length≤200))
 else match j7 r.ag (n 0) (n 1)with
  |some _=>(r,false)
  |none=>let s:=r.ag++[⟨n 0,n 1,n 2,qN t0.text⟩];({r with ag:=s},decide (s.length≤4096))
def lR (h0 h:aa) (r:Rd) (el ec:Int) (ks:Value) (br:Nat):Prop:=∃(os op ok:Option Nat) (ss sp sk:Value) (bm:Nat),
 h.f br= .row true 170 [ss,.int .i64 r.aW,.int .i64 r.bC,ks,sp,.int .i64 el,.int .i64 ec,.map (some bm),sk,.bool r.eJ]∧h0.n≤br∧br<h.n∧
 F.bM 99 au h0 h os r.ag ss∧F.bM 103 bg h0 h op r.aI sp∧F.bM 230 lE h0 h ok r.aE sk∧h.f bm= .obj (.map (oy r.ag).toArray r.ag.length)∧h0.n≤bm∧bm<h.n
def O8 (r:Rd):Prop:=r.ag.length≤1000000∧r.aE.length≤1000000∧r.aI.length≤1000000
theorem Pb {w:List UInt8} {bs:List Nat} (h:gS w=some bs) {rest:List bA} (hl:rest.length=bs.length):
  ((w=ft∨w=fP)∧∃a,rest=[a])∨(w=fj∧∃a b,rest=[a,b])∨((w=gh∨w=mn∨w=lN∨w=lM)∧∃a b c,rest=[a,b,c]):=by
 have l1:rest.length=1→∃a,rest=[a]:=fun q=>by
  match rest,q with
  |[a],_=>exact⟨a,rfl⟩
 have l2:rest.length=2→∃a b,rest=[a,b]:=fun q=>by
  match rest,q with
  |[a,b],_=>exact⟨a,b,rfl⟩
 have l3:rest.length=3→∃a b c,rest=[a,b,c]:=fun q=>by
  match rest,q with
  |[a,b,c],_=>exact⟨a,b,c,rfl⟩
 unfold gS at h;split at h
 ·rename_i hw;simp only[aw]at h;subst h;exact .inr (.inr ⟨.inr hw,l3 hl⟩)
 split at h
 ·rename_i hw;simp only[aw]at h;subst h;exact .inl ⟨.inl hw,l1 hl⟩
 split at h
 ·rename_i hw;simp only[aw]at h;subst h;exact .inl ⟨.inr hw,l1 hl⟩
 split at h
 ·rename_i hw;simp only[aw]at h;subst h;exact .inr (.inl ⟨hw,l2 hl⟩)
 split at h
 ·rename_i hw;simp only[aw]at h;subst h;exact .inr (.inr ⟨.inl hw,l3 hl⟩)
 ·cases h
theorem lH {α:Type} {e:TypeId} {enc:α→List Value} {h0 h:aa} {o:Option Nat} {xs:List α} {v:Value} (H:F.bM e enc h0 h o xs v) {b:Nat} {e':TypeId} {cs:List Value} (hb:h.f b= .row true e' cs) (he:e≠e'):o≠some b:=by
 rintro rfl;have h1:=H.2.1;rw[hb]at h1;simp only[aZ.row.injEq]at h1;exact he h1.2.1.symm
theorem sO {α:Type} {e:TypeId} {enc:α→List Value} {h0 h:aa} {o:Option Nat} {xs:List α} {v:Value} (H:F.bM e enc h0 h o xs v) {b:Nat} {ob:Obj} (hb:h.f b= .obj ob):o≠some b:=by
 rintro rfl;have h1:=H.2.1;rw[hb]at h1;cases h1
theorem lR.put {h0 h:aa} {r:Rd} {el ec:Int} {ks:Value} {br:Nat} (R:lR h0 h r el ec ks br) (aW bC:Int) (eJ:Bool):∃(os op ok:Option Nat) (ss sp sk:Value) (bm:Nat),
  h.f br= .row true 170 [ss,.int .i64 r.aW,.int .i64 r.bC,ks,sp,.int .i64 el,.int .i64 ec,.map (some bm),sk,.bool r.eJ]∧
  lR h0 (h.set br (.row true 170 [ss,.int .i64 aW,.int .i64 bC,ks,sp,.int .i64 el,.int .i64 ec,.map (some bm),sk,.bool eJ])) {r with aW:=aW,bC:=bC,eJ:=eJ} el ec ks br:=by
 obtain⟨os,op,ok,ss,sp,sk,bm,hbr,hbr1,hbr2,hos,hop,hok,hbm,hbm1,hbm2⟩:=R;refine⟨os,op,ok,ss,sp,sk,bm,hbr,os,op,ok,ss,sp,sk,bm,by simp,hbr1,hbr2,hos.nh _ (lH hos hbr (by decide)),hop.nh _ (lH hop hbr (by decide)),hok.nh _ (lH hok hbr (by decide)),?_,hbm1,hbm2⟩;rw[gT,if_neg]
 ·exact hbm
 ·rintro rfl;rw[hbr]at hbm;cases hbm
theorem ai3 (h:aa) (b:Nat) (x y:aZ):(h.set b x).set b y=h.set b y:=by
 unfold aa.set;congr 1;funext i;by_cases hi:i=b<;>simp[hi]
def iC (h:aa) (o:Option Nat) (c0 c1:aZ):aa:=match o with
 |none=>(h.new c0).new c1
 |some b=>((h.new c0).set b .dead).new c1
theorem pG (h:aa) (o:Option Nat) (c0 c1:aZ):(iC h o c0 c1).n=h.n+1+1:=by cases o<;>simp[iC]
theorem zY (h:aa) (o:Option Nat) (c0 c1:aZ) {b:Nat} (hb:b<h.n) (ho:o≠some b):(iC h o c0 c1).f b=h.f b:=by
 have n1:¬b=h.n:=by omega
 have n2:¬b=h.n+1:=by omega
 cases o with
 |none=>simp[iC,n1,n2]
 |some x=>
  have n3:¬b=x:=fun q=>ho (by rw[q]);simp[iC,n1,n2,n3]
theorem agR {α:Type} {e:TypeId} {enc:α→List Value} {h0 h h':aa} {o:Option Nat} {xs:List α} {v:Value} (H:F.bM e enc h0 h o xs v) (hs:∀b,o=some b→h'.f b=h.f b) (hn:h.n≤h'.n):F.bM e enc h0 h' o xs v:=by
 obtain⟨rfl,z⟩:=H;refine⟨rfl,?_⟩;cases o with
 |none=>exact z
 |some b=>exact⟨by rw[hs b rfl];exact z.1,z.2.1,de z.2.2 hn⟩
theorem xZ {α:Type} {e:TypeId} {enc:α→List Value} {h0 h:aa} {o:Option Nat} {xs:List α} {v:Value} (H:F.bM e enc h0 h o xs v) (hn:h0.n≤h.n) (c0:aZ) (x:α) {cells:List Value} (hc:cells=xs.flatMap enc++enc x) {br:Nat} (hbr:br<h.n) (X:aZ):
  F.bM e enc h0 ((iC h o c0 (.row true e cells)).set br X) (some (h.n+1)) (xs++[x]) (.slice (some ⟨h.n+1,0,none⟩) (xs.length+1) (xs.length+1)):=by
 have key:F.bM e enc h0 (iC h o c0 (.row true e cells)) (some (h.n+1)) (xs++[x]) (.slice (some ⟨h.n+1,0,none⟩) (xs.length+1) (xs.length+1)):=by
  cases o with
  |none=>
   have hx:xs=[]:=H.2;subst hx;exact F.bM.yi hn c0 x (by rw[hc];rfl)
  |some b=>exact H.push c0 x (by rw[hc];simp)
 exact key.nh _ (by simp;omega)
theorem oR {α:Type} {e:TypeId} {enc:α→List Value} {h0 h:aa} {o o':Option Nat} {xs:List α} {v:Value} (H:F.bM e enc h0 h o xs v) (c0 c1:aZ) {br:Nat} (X:aZ) (h1:∀b,o'=some b→o≠some b) (h2:o≠some br):F.bM e enc h0 ((iC h o' c0 c1).set br X) o xs v:=by
 refine agR H (fun b hb=>?_) (by show h.n≤(iC h o' c0 c1).n;rw[pG];omega);rw[gT,if_neg (fun q=>h2 (by rw[hb,q]))];refine zY h o' c0 c1 ?_ (fun q=>h1 b q hb);subst hb;exact H.2.2.2
theorem xe {h0 h:aa} (E:Ext h0 h) {o:Option Nat} (ho:∀b,o=some b→h0.n≤b) (c0 c1:aZ) {br:Nat} (hbr:h0.n≤br) (X:aZ):Ext h0 ((iC h o c0 c1).set br X):=by
 refine Ext.dh ?_ hbr _;cases o with
 |none=>exact(E.bN _).bN _
 |some b=>exact((E.bN _).dh (ho b rfl) _).bN _
theorem xY {α:Type} {e:TypeId} {enc:α→List Value} {h0 h:aa} {o:Option Nat} {xs:List α} {v:Value} (H:F.bM e enc h0 h o xs v):∀b,o=some b→h0.n≤b:=by
 rintro b rfl;exact H.2.2.1
theorem oS {α β:Type} {e e':TypeId} {enc:α→List Value} {enc':β→List Value} {h0 h:aa} {o o':Option Nat} {xs:List α} {ys:List β} {v v':Value} (H:F.bM e enc h0 h o xs v) (H':F.bM e' enc' h0 h o' ys v') (he:e≠e'):∀b,o'=some b→o≠some b:=by
 rintro b rfl;exact lH H H'.2.1 he
theorem xO {h:aa} {o:Option Nat} (c0 c1:aZ) {br bm:Nat} (X:aZ) {ob:Obj} (hbm:h.f bm= .obj ob) (hlt:bm<h.n) (ho:o≠some bm) (hb:bm≠br):((iC h o c0 c1).set br X).f bm= .obj ob:=by
 rw[gT,if_neg hb,zY h o c0 c1 hlt ho,hbm]
def rq (h h':aa):Prop:=∀(b:Nat) (w:Bool) (cells:List Value),b<h.n→h.f b= .row w 193 cells→h'.f b= .row w 193 cells
def wu (h0 h:aa) (r:Rd) (t0:bA) (rest:List bA) (el ec:Int) (ks:Value) (br:Nat) (v:Value) (h':aa):Prop:=
 v= .bool (cV r t0 rest).2∧Ext h0 h'∧lR h0 h' (cV r t0 rest).1 el ec ks br∧rq h h'
theorem tS {h h':aa} (K:rq h h') {b:Nat} (hb:∀w cells,h.f b≠.row w 193 cells) (x:aZ):rq h (h'.set b x):=fun i w cells hi hf=>by
 have hne:¬i=b:=by rintro rfl;exact hb _ _ hf
 rw[gT,if_neg hne];exact K i w cells hi hf
theorem qM (h:aa):rq h h:=fun _ _ _ _ hf=>hf
theorem Ah {h h':aa} (K:rq h h') (hn:h.n≤h'.n) {o:Option Nat} (c0 c1:aZ) (ho:∀b,o=some b→∀w cells,h'.f b≠.row w 193 cells):rq h (iC h' o c0 c1):=fun i w cells hi hf=>by
 have h1:=K i w cells hi hf;rw[zY h' o c0 c1 (by omega) (fun q=>ho i q w cells h1)];exact h1
theorem AQ {α:Type} {e:TypeId} {enc:α→List Value} {h0 h:aa} {o:Option Nat} {xs:List α} {v:Value} (H:F.bM e enc h0 h o xs v) (he:e≠193):∀b,o=some b→∀w cells,h.f b≠.row w 193 cells:=by
 rintro b rfl w cells q;have h1:=H.2.1;rw[q]at h1;simp only[aZ.row.injEq]at h1;exact he h1.2.1.symm
theorem vR {h:aa} {b:Nat} {w:Bool} {e:TypeId} {cs:List Value} (hb:h.f b= .row w e cs) (he:e≠193):∀w cells,h.f b≠.row w 193 cells:=by
 intro w' cells q;rw[hb]at q;simp only[aZ.row.injEq]at q;exact he q.2.1
theorem abw {h:aa} {b:Nat} {o:Obj} (hb:h.f b= .obj o):∀w cells,h.f b≠.row w 193 cells:=by
 intro w' cells q;rw[hb]at q;cases q
theorem Tl (h0 h:aa) (r:Rd) (t0:bA) (rest:List bA) (bs:List Nat) (hb:gS t0.text=some bs) (hl:rest.length=bs.length) (el ec:Int) (ks:Value) (hks:cu ks=true) (br:Nat) (tv nv:Value)
  (E0:Ext h0 h) (R:lR h0 h r el ec ks br) (hr:O8 r) (ht:fH h tv (t0::rest)) (hn:cL 3 ab h0 h nv (rest.map (·.n))):ao PP 161 [.pointer (some ⟨br,0,none⟩),tv,nv] h (wu h0 h r t0 rest el ec ks br):=by
 refine aC mix (aD Tryz.func161) rfl rfl rfl adF ?_;simp only[ai,Tryz.f161];obtain⟨os,op,ok,ss,sp,sk,bm,hbr,hbr1,hbr2,hos,hop,hok,hbm,hbm1,hbm2⟩:=id R;obtain⟨ad,c,rfl,_⟩:=id ht;obtain⟨_,bt,off,wt,cells,r0,rfl,e2,e3,e4,e5⟩:=ht.at (i:=0) (t:=t0) rfl;simp only[Nat.zero_mul,gQ]at e3 e4;obtain⟨d0,d1,d4⟩:=rf e3;have hl4:off+4+1≤cells.length:=by omega
 have hl5:off+5≤cells.length:=by omega
 obtain⟨adn,rfl,hn'⟩:=id hn;rcases Pb hb hl with⟨hw,a,rfl⟩|⟨hw,a,b,rfl⟩|⟨hw,a,b,c',rfl⟩
 ·obtain⟨bn,rfl,hbn,hbn1,hbn2⟩:∃bn,adn=some ⟨bn,0,none⟩∧h.f bn= .row true 3 [.int .i64 a.n]∧h0.n≤bn∧bn<h.n:=by
   rcases hn' with⟨_,q⟩|⟨bn,q1,q2,q3,q4⟩
   ·cases q
   ·exact⟨bn,q1,q2,q3,q4⟩
  rcases hw with hw|hw
  ·rw[hw,ft]at d4
   by_cases hg:0<r.aW
   ·have hres:cV r t0 [a]=(r,false):=by simp[cV,hw,hg]
    simp -implicitDefEqProofs[e2,d4,hl4,hbr,hg,ft]
    exact⟨by rw[hres],E0,by rw[hres];exact R,qM h⟩
   ·have hres:cV r t0 [a]=({r with aW:=a.n},true):=by simp[cV,hw,hg]
    obtain⟨_,_,_,ss',sp',sk',bm',q1,q2⟩:=R.put a.n r.bC r.eJ
    rw[hbr]at q1
    simp only[aZ.row.injEq,List.cons.injEq,Value.map.injEq,aw,true_and,and_true]at q1
    obtain⟨rfl,rfl,rfl,rfl⟩:=q1
    simp -implicitDefEqProofs[e2,d4,hl4,hbr,hg,ft,hbn]
    exact⟨by rw[hres],E0.dh hbr1 _,by rw[hres];exact q2,tS (qM h) (vR hbr (by decide)) _⟩
  ·rw[hw,fP]at d4
   have hw2:¬fP=ft:=by decide
   cases hg:r.eJ with
   |true=>
    have hres:cV r t0 [a]=(r,false):=by simp[cV,hw,hg,hw2]
    simp -implicitDefEqProofs[e2,d4,hl4,hbr,hg]
    exact⟨by rw[hres],E0,by rw[hres];exact R,qM h⟩
   |false=>
    have hres:cV r t0 [a]=({r with eJ:=true,bC:=a.n},true):=by simp[cV,hw,hg,hw2]
    obtain⟨_,_,_,ss',sp',sk',bm',q1,q2⟩:=R.put r.aW a.n true
    rw[hbr]at q1
    simp only[aZ.row.injEq,List.cons.injEq,Value.map.injEq,aw,true_and,and_true]at q1
    obtain⟨rfl,rfl,rfl,rfl⟩:=q1
    simp -implicitDefEqProofs[e2,d4,hl4,hbr,hg,hbn]
    rw[ai3]
    exact⟨by rw[hres],E0.dh hbr1 _,by rw[hres];exact q2,tS (qM h) (vR hbr (by decide)) _⟩
 ·obtain⟨bn,rfl,hbn,hbn1,hbn2⟩:∃bn,adn=some ⟨bn,0,none⟩∧h.f bn= .row true 3 [.int .i64 a.n,.int .i64 b.n]∧h0.n≤bn∧bn<h.n:=by
   rcases hn' with⟨_,q⟩|⟨bn,q1,q2,q3,q4⟩
   ·cases q
   ·exact⟨bn,q1,q2,q3,q4⟩
  rw[hw,fj]at d4
  have hw1:¬fj=ft:=by decide
  have hw2:¬fj=fP:=by decide
  have hr1:List.range 1=[0]:=rfl
  have hr6:List.range 6=[0,1,2,3,4,5]:=rfl
  obtain⟨kq,hkq⟩:∃k:kE,k=⟨a.n,b.n,t0.line,t0.ah,a.line,a.ah⟩:=⟨_,rfl⟩
  have hres:cV r t0 [a,b]=({r with aE:=r.aE++[kq]},decide ((r.aE++[kq]).length≤200)):=by simp[cV,hw,hw1,hw2,hkq]
  obtain⟨_,b',off',w',cells',r',q1,q2,q3,q4,q5⟩:=ht.at (i:=1) (t:=a) rfl
  simp only[aw,Addr.mk.injEq,and_true]at q1
  obtain⟨rfl,rfl⟩:=q1
  rw[e2]at q2
  simp only[aZ.row.injEq,true_and]at q2
  obtain⟨rfl,rfl⟩:=q2
  rw[Nat.one_mul]at q3 q4
  obtain⟨p0,p1,p4⟩:=rf q3
  have hl10:off+5+5≤cells.length:=by omega
  have sp1:=oX t0 h
  have sp2:=oX a h
  simp only[fe,cX,hw,fj]at sp1 sp2
  obtain⟨rfl,hko⟩:=id hok
  simp -implicitDefEqProofs[e2,d0,d4,p0,hl4,hl5,hl10,hbr,hbn,hw,fj]
  refine sp1.mono ?_
  rintro r1 H2 ⟨e,rfl⟩
  replace e:=e.symm
  subst e
  simp -implicitDefEqProofs[aJ,dz,e2,d0,d4,p0,hl4,hl5,hl10,hbr,hbn,hw,fj]
  intro _
  refine sp2.mono ?_
  rintro r1 H2 ⟨e,rfl⟩
  replace e:=e.symm
  subst e
  have mkK:∀cells,cells=r.aE.flatMap lE++lE kq→wu h0 h r t0 [a,b] el ec ks br (.bool (decide ((r.aE.length:Int)+1≤200))) ((iC h ok (.row true 230 (lE kq)) (.row true 230 cells)).set br
    (.row true 170 [ss,.int .i64 r.aW,.int .i64 r.bC,ks,sp,.int .i64 el,.int .i64 ec,.map (some bm),.slice (some ⟨h.n+1,0,none⟩) (r.aE.length+1) (r.aE.length+1),.bool r.eJ])):=by
   intro cells hc;refine⟨?_,xe E0 (xY hok) _ _ hbr1 _,?_,tS (Ah (qM h) (a8 _) _ _ (AQ hok (by decide))) (vR hbr (by decide)) _⟩
   ·rw[hres];congr 1;rw[decide_eq_decide,bF,ji];omega
   rw[hres];refine⟨os,op,some (h.n+1),_,_,_,bm,by rw[gT,if_pos rfl],hbr1,?_,oR hos _ _ _ (oS hos hok (by decide)) (lH hos hbr (by decide)),oR hop _ _ _ (oS hop hok (by decide)) (lH hop hbr (by decide)),xZ hok E0.n _ kq hc hbr2 _,xO _ _ _ hbm hbm2 (sO hok hbm) (by rintro rfl;rw[hbr]at hbm;cases hbm),hbm1,?_⟩
   ·show br<(iC h ok _ _).n;rw[pG];omega
   ·show bm<(iC h ok _ _).n;rw[pG];omega
  cases ok with
  |none=>
   simp only at hko
   have o2:¬br=h.n:=by omega
   have o3:¬br=h.n+1:=by omega
   simp -implicitDefEqProofs[aJ,dz,e2,d0,d4,p0,hl4,hl5,hl10,hbr,hbn,hw,fj,hko,aP,hr6,hr1,dq,dM,dC,o2,o3]
   intro _
   have hk0:r.aE.flatMap lE++lE kq=lE kq:=by rw[hko];rfl
   have key:=mkK (lE kq) (hk0.symm)
   rw[hkq,hko]at key
   exact key
  |some bk=>
   simp only at hko
   obtain⟨hk1,hk2,hk3⟩:=hko
   obtain⟨K,hK⟩:∃K,K=r.aE.flatMap lE:=⟨_,rfl⟩
   have hKl:K.length=r.aE.length*6:=by have:=fg 6 (enc:=lE) (fun _=>rfl) r.aE;rw[←hK]at this;omega
   rw[←hK]at hk1
   have hmx:(r.aE.length+1)*48≤140737488355328:=by have:=hr.2.1;omega
   have o1:¬bk=h.n:=by omega
   have o2:¬br=h.n:=by omega
   have o3:¬br=h.n+1:=by omega
   have o4:¬br=bk:=by rintro rfl;rw[hbr]at hk1;simp at hk1
   have e8:K.take (r.aE.length*6)=K:=bZ (by omega)
   simp -implicitDefEqProofs[aJ,dz,e2,d0,d4,p0,hl4,hl5,hl10,hbr,hbn,hw,fj,aP,hr6,hr1,dq,dM,dC,hk1,hKl,hmx,o1,o2,o3,o4,e8]
   intro _
   have key:=mkK (K++lE kq) (by rw[hK])
   rw[hkq]at key
   exact key
 ·obtain⟨bn,rfl,hbn,hbn1,hbn2⟩:∃bn,adn=some ⟨bn,0,none⟩∧h.f bn= .row true 3 [.int .i64 a.n,.int .i64 b.n,.int .i64 c'.n]∧h0.n≤bn∧bn<h.n:=by
   rcases hn' with⟨_,q⟩|⟨bn,q1,q2,q3,q4⟩
   ·cases q
   ·exact⟨bn,q1,q2,q3,q4⟩
  have hr1:List.range 1=[0]:=rfl
  have hr3:List.range 3=[0,1,2]:=rfl
  have hr4:List.range 4=[0,1,2,3]:=rfl
  by_cases hwp:t0.text=gh
  ·rw[hwp,gh]at d4
   have hw1:¬gh=ft:=by decide
   have hw2:¬gh=fP:=by decide
   have hw3:¬gh=fj:=by decide
   obtain⟨pq,hpq⟩:∃k:aU,k=⟨a.n,b.n,c'.n⟩:=⟨_,rfl⟩
   have hres:cV r t0 [a,b,c']=({r with aI:=r.aI++[pq]},decide ((r.aI++[pq]).length≤200)):=by simp[cV,hwp,hw1,hw2,hw3,hpq]
   have mkK:∀cells,cells=r.aI.flatMap bg++bg pq→wu h0 h r t0 [a,b,c'] el ec ks br (.bool (decide ((r.aI.length:Int)+1≤200))) ((iC h op (.row true 103 (bg pq)) (.row true 103 cells)).set br
     (.row true 170 [ss,.int .i64 r.aW,.int .i64 r.bC,ks,.slice (some ⟨h.n+1,0,none⟩) (r.aI.length+1) (r.aI.length+1),.int .i64 el,.int .i64 ec,.map (some bm),sk,.bool r.eJ])):=by
    intro cells hc;refine⟨?_,xe E0 (xY hop) _ _ hbr1 _,?_,tS (Ah (qM h) (a8 _) _ _ (AQ hop (by decide))) (vR hbr (by decide)) _⟩
    ·rw[hres];congr 1;rw[decide_eq_decide,bF,ji];omega
    rw[hres];refine⟨os,some (h.n+1),ok,_,_,_,bm,by rw[gT,if_pos rfl],hbr1,?_,oR hos _ _ _ (oS hos hop (by decide)) (lH hos hbr (by decide)),xZ hop E0.n _ pq hc hbr2 _,oR hok _ _ _ (oS hok hop (by decide)) (lH hok hbr (by decide)),xO _ _ _ hbm hbm2 (sO hop hbm) (by rintro rfl;rw[hbr]at hbm;cases hbm),hbm1,?_⟩
    ·show br<(iC h op _ _).n;rw[pG];omega
    ·show bm<(iC h op _ _).n;rw[pG];omega
   obtain⟨rfl,hko⟩:=id hop
   have o2:¬br=h.n:=by omega
   have o3:¬br=h.n+1:=by omega
   cases op with
   |none=>
    simp only at hko
    simp -implicitDefEqProofs[e2,d0,d4,hl4,hl5,hbr,hbn,hko,aP,hr3,hr1,dq,dM,dC,o2,o3]
    have hk0:r.aI.flatMap bg++bg pq=bg pq:=by rw[hko];rfl
    have key:=mkK (bg pq) (hk0.symm)
    rw[hpq,hko]at key
    exact key
   |some bk=>
    simp only at hko
    obtain⟨hk1,hk2,hk3⟩:=hko
    obtain⟨K,hK⟩:∃K,K=r.aI.flatMap bg:=⟨_,rfl⟩
    have hKl:K.length=r.aI.length*3:=by have:=fg 3 (enc:=bg) (fun _=>rfl) r.aI;rw[←hK]at this;omega
    rw[←hK]at hk1
    have hmx:(r.aI.length+1)*24≤140737488355328:=by have:=hr.2.2;omega
    have o1:¬bk=h.n:=by omega
    have o4:¬br=bk:=by rintro rfl;rw[hbr]at hk1;simp at hk1
    have e8:K.take (r.aI.length*3)=K:=bZ (by omega)
    simp -implicitDefEqProofs[e2,d0,d4,hl4,hl5,hbr,hbn,aP,hr3,hr1,dq,dM,dC,hk1,hKl,hmx,o1,o2,o3,o4,e8]
    have key:=mkK (K++bg pq) (by rw[hK])
    rw[hpq]at key
    exact key
  ·have hws:t0.text=mn∨t0.text=lN∨t0.text=lM:=by
    rcases hw with q|q
    ·exact absurd q hwp
    ·exact q
   have z1:¬t0.text=ft:=by rcases hws with q|q|q<;>rw[q]<;>decide
   have z2:¬t0.text=fP:=by rcases hws with q|q|q<;>rw[q]<;>decide
   have z3:¬t0.text=fj:=by rcases hws with q|q|q<;>rw[q]<;>decide
   have y1:¬t0.text=[103,97,112]:=z1
   have y2:¬t0.text=[114,97,100,105,117,115]:=z2
   have y3:¬t0.text=[107,105,108,108]:=z3
   have y4:¬t0.text=[112,111,108,101]:=hwp
   have f1:=Jk a.n b.n r.ag
   simp only[mP]at f1
   cases hp:j7 r.ag a.n b.n with
   |some q=>
    have hres:cV r t0 [a,b,c']=(r,false):=by simp[cV,z1,z2,z3,hwp,hp]
    rw[hp]at f1
    simp -implicitDefEqProofs[e2,d0,d4,hl4,hl5,hbr,hbn,y1,y2,y3,y4,oP,hbm,f1,cA,dm]
    exact⟨by rw[hres],E0,by rw[hres];exact R,qM h⟩
   |none=>
    have f2:=amy a.n b.n r.ag
    rw[hp]at f1 f2
    simp only[mP]at f2
    obtain⟨sq,hsq⟩:∃k:aq,k=⟨a.n,b.n,c'.n,qN t0.text⟩:=⟨_,rfl⟩
    have hres:cV r t0 [a,b,c']=({r with ag:=r.ag++[sq]},decide ((r.ag++[sq]).length≤4096)):=by simp[cV,z1,z2,z3,hwp,hp,hsq]
    have nb1:¬br=bm:=by rintro rfl;rw[hbr]at hbm;cases hbm
    have nb2:¬bn=bm:=by rintro rfl;rw[hbn]at hbm;cases hbm
    have nb3:¬bt=bm:=by rintro rfl;rw[e2]at hbm;cases hbm
    obtain⟨Om,hOm⟩:∃o,o=Obj.map (oy r.ag++[(⟨Value.agg ⟨[.int .i64 a.n,.int .i64 b.n]⟩,.int .i64 (r.ag.length:Nat),r.ag.length⟩:MapEntry)]).toArray (r.ag.length+1):=⟨_,rfl⟩
    have hOm2:Om= .map (oy (r.ag++[sq])).toArray (r.ag++[sq]).length:=by
     rw[hOm,XH,bF,hsq];rfl
    obtain⟨M,hM⟩:∃M,M=h.set bm (.obj Om):=⟨_,rfl⟩
    have Mn:M.n=h.n:=by rw[hM];rfl
    have Mbr:M.f br= .row true 170 [ss,.int .i64 r.aW,.int .i64 r.bC,ks,sp,.int .i64 el,.int .i64 ec,.map (some bm),sk,.bool r.eJ]:=by rw[hM,gT,if_neg nb1,hbr]
    have Mbm:M.f bm= .obj Om:=by rw[hM,gT,if_pos rfl]
    have Mos:=hos.nh (.obj Om) (sO hos hbm)
    have Mop:=hop.nh (.obj Om) (sO hop hbm)
    have Mok:=hok.nh (.obj Om) (sO hok hbm)
    rw[←hM]at Mos Mop Mok
    have ME:Ext h0 M:=by rw[hM];exact E0.dh hbm1 _
    have mkK:∀cells,cells=r.ag.flatMap au++au sq→wu h0 h r t0 [a,b,c'] el ec ks br (.bool (decide ((r.ag.length:Int)+1≤4096))) ((iC M os (.row true 99 (au sq)) (.row true 99 cells)).set br
      (.row true 170 [.slice (some ⟨M.n+1,0,none⟩) (r.ag.length+1) (r.ag.length+1),.int .i64 r.aW,.int .i64 r.bC,ks,sp,.int .i64 el,.int .i64 ec,.map (some bm),sk,.bool r.eJ])):=by
     intro cells hc;refine⟨?_,xe ME (xY Mos) _ _ hbr1 _,?_,tS (Ah (by rw[hM];exact tS (qM h) (abw hbm) _) (by rw[Mn];exact a8 _) _ _ (AQ Mos (by decide))) (vR hbr (by decide)) _⟩
     ·rw[hres];congr 1;rw[decide_eq_decide,bF,ji];omega
     rw[hres];refine⟨some (M.n+1),op,ok,_,_,_,bm,by rw[gT,if_pos rfl],hbr1,?_,xZ Mos ME.n _ sq hc (by rw[Mn];exact hbr2) _,oR Mop _ _ _ (oS Mop Mos (by decide)) (lH Mop Mbr (by decide)),oR Mok _ _ _ (oS Mok Mos (by decide)) (lH Mok Mbr (by decide)),?_,hbm1,?_⟩
     ·show br<(iC M os _ _).n;rw[pG];omega
     ·rw[xO _ _ _ Mbm (by rw[Mn];exact hbm2) (sO Mos Mbm) (fun q=>nb1 q.symm),hOm2]
     ·show bm<(iC M os _ _).n;rw[pG];omega
    obtain⟨rfl,hko⟩:=id Mos
    have o2:¬br=M.n:=by omega
    have o3:¬br=M.n+1:=by omega
    have Mbn:M.f bn= .row true 3 [.int .i64 a.n,.int .i64 b.n,.int .i64 c'.n]:=by rw[hM,gT,if_neg nb2,hbn]
    have Mbt:M.f bt= .row wt 193 cells:=by rw[hM,gT,if_neg nb3,e2]
    have o5:¬bn=M.n:=by omega
    have o6:¬bn=M.n+1:=by omega
    have o7:¬bt=M.n:=by omega
    have o8:¬bt=M.n+1:=by omega
    have knd:=nD t0.text M
    rw[hOm]at hM
    simp -implicitDefEqProofs[e2,d0,d4,hl4,hl5,hbr,hbn,y1,y2,y3,y4,hbm,f1,f2,nb1,nb2,nb3]
    rw[←hM]
    refine knd.mono ?_
    rintro r1 H2 ⟨e,rfl⟩
    replace e:=e.symm
    subst e
    cases os with
    |none=>
     simp only at hko
     simp -implicitDefEqProofs[aJ,Mbt,d0,d4,hl4,hl5,Mbr,Mbn,hko,aP,hr4,hr1,dq,dM,dC,o2,o3,o5,o6,o7,o8]
     intro _
     have hk0:r.ag.flatMap au++au sq=au sq:=by rw[hko];rfl
     have key:=mkK (au sq) (hk0.symm)
     rw[hsq,hko]at key
     exact key
    |some bk=>
     simp only at hko
     obtain⟨hk1,hk2,hk3⟩:=hko
     obtain⟨K,hK⟩:∃K,K=r.ag.flatMap au:=⟨_,rfl⟩
     have hKl:K.length=r.ag.length*4:=by have:=fg 4 (enc:=au) (fun _=>rfl) r.ag;rw[←hK]at this;omega
     rw[←hK]at hk1
     have hmx:(r.ag.length+1)*32≤140737488355328:=by have:=hr.1;omega
     have o1:¬bk=M.n:=by omega
     have o4:¬br=bk:=by rintro rfl;rw[Mbr]at hk1;simp at hk1
     have o9:¬bn=bk:=by rintro rfl;rw[Mbn]at hk1;simp at hk1
     have o10:¬bt=bk:=by rintro rfl;rw[Mbt]at hk1;simp at hk1
     have e8:K.take (r.ag.length*4)=K:=bZ (by omega)
     simp -implicitDefEqProofs[aJ,Mbt,d0,d4,hl4,hl5,Mbr,Mbn,aP,hr4,hr1,dq,dM,dC,hk1,hKl,hmx,o1,o2,o3,o4,o5,o6,o7,o8,o9,o10,e8]
     intro _
     have key:=mkK (K++au sq) (by rw[hK])
     rw[hsq]at key
     exact key
def rowAt (ts:List bA) (a:Nat):List bA:=(ts.take (a+T.iQ (ts.drop a))).drop a
def oI (ts:List bA) (a:Nat):Nat:=if a+T.iQ (ts.drop a)<ts.length then a+T.iQ (ts.drop a)+1 else ts.length
def jj (ts:List bA) (el ec:Int) (k:Nat):Int×Int:=match ts[k]? with
 |some t=>(t.line,t.ah)
 |none=>(el,ec)
def gH (ts:List bA) (el ec:Int):Nat→Nat→Rd→Rd×Option (Int×Int)
 |0,_,r=>(r,none)
 |f+1,a,r=>if a<ts.length then match rowAt ts a with
   |[]=>gH ts el ec f (oI ts a) r
   |t0::rest=>match eU (t0::rest) (jj ts el ec (a+(rest.length+1))).1 (jj ts el ec (a+(rest.length+1))).2 with
    |some e=>(r,some e)
    |none=>if(cV r t0 rest).2 then gH ts el ec f (oI ts a) (cV r t0 rest).1 else((cV r t0 rest).1,some (t0.line,t0.ah))
  else(r,none)
theorem xH {ts:List bA} {el ec:Int} {f a:Nat} {r:Rd} (ha:a<ts.length) (hr:rowAt ts a=[]):gH ts el ec (f+1) a r=gH ts el ec f (oI ts a) r:=by
 rw[gH,if_pos ha,hr]
theorem xG {ts:List bA} {el ec:Int} {f a:Nat} {r:Rd} {t0:bA} {rest:List bA} (ha:a<ts.length) (hr:rowAt ts a=t0::rest):gH ts el ec (f+1) a r=
  match eU (t0::rest) (jj ts el ec (a+(rest.length+1))).1 (jj ts el ec (a+(rest.length+1))).2 with
    |some e=>(r,some e)
    |none=>if(cV r t0 rest).2 then gH ts el ec f (oI ts a) (cV r t0 rest).1 else((cV r t0 rest).1,some (t0.line,t0.ah)):=by
 rw[gH,if_pos ha,hr]
theorem aaZ {ts:List bA} {a:Nat} (h:a<ts.length):a<oI ts a∧oI ts a≤ts.length:=by
 unfold oI;split<;>omega
theorem ais {ts:List bA} {a:Nat} (h:a<ts.length):(rowAt ts a).length=T.iQ (ts.drop a)∧a+T.iQ (ts.drop a)≤ts.length:=by
 have h1:T.iQ (ts.drop a)≤(ts.drop a).length:=by unfold T.iQ;exact(List.takeWhile_sublist _).length_le
 rw[eN]at h1;refine⟨?_,by omega⟩;unfold rowAt;rw[eN,cQ];omega
theorem lR.ext {h0 h h':aa} {r:Rd} {el ec:Int} {ks:Value} {br:Nat} (R:lR h0 h r el ec ks br) (E:Ext h h'):lR h0 h' r el ec ks br:=by
 obtain⟨os,op,ok,ss,sp,sk,bm,hbr,hbr1,hbr2,hos,hop,hok,hbm,hbm1,hbm2⟩:=R;exact⟨os,op,ok,ss,sp,sk,bm,by rw[E.f br hbr2];exact hbr,hbr1,de hbr2 E.n,hos.ext E,hop.ext E,hok.ext E,by rw[E.f bm hbm2];exact hbm,hbm1,de hbm2 E.n⟩
theorem agQ {α:Type} {e:TypeId} {enc:α→List Value} {h0 h1 h:aa} {v:Value} {xs:List α} (H:cL e enc h1 h v xs) (hn:h0.n≤h1.n):cL e enc h0 h v xs:=by
 obtain⟨ad,rfl,z⟩:=H;refine⟨ad,rfl,?_⟩;rcases z with z|⟨b,q1,q2,q3,q4⟩
 ·exact .inl z
 ·exact .inr ⟨b,q1,q2,eW hn q3,q4⟩
def pU (r:Rd):Prop:=r.ag.length≤4096∧r.aE.length≤200∧r.aI.length≤200
theorem pU.small {r:Rd} (H:pU r):O8 r:=⟨by have:=H.1;omega,by have:=H.2.1;omega,by have:=H.2.2;omega⟩
theorem Ck {r:Rd} {t0:bA} {rest:List bA} (H:pU r) (h:(cV r t0 rest).2=true):pU (cV r t0 rest).1:=by
 obtain⟨h1,h2,h3⟩:=H;unfold cV at h ⊢;dsimp only at h ⊢;by_cases c1:t0.text=ft
 ·rw[if_pos c1];split<;>exact⟨h1,h2,h3⟩
 rw[if_neg c1]at h ⊢;by_cases c2:t0.text=fP
 ·rw[if_pos c2];split<;>exact⟨h1,h2,h3⟩
 rw[if_neg c2]at h ⊢;by_cases c3:t0.text=fj
 ·rw[if_pos c3]at h ⊢;exact⟨h1,by simpa using h,h3⟩
 rw[if_neg c3]at h ⊢;by_cases c4:t0.text=gh
 ·rw[if_pos c4]at h ⊢;exact⟨h1,h2,by simpa using h⟩
 rw[if_neg c4]at h ⊢;split
 ·exact⟨h1,h2,h3⟩
 ·rename_i hp;rw[hp]at h;exact⟨by simpa using h,h2,h3⟩
theorem Np {t0:bA} {rest:List bA} {bl bc:Int} (h:eU (t0::rest) bl bc=none):∃bs,gS t0.text=some bs∧rest.length=bs.length:=by
 unfold eU at h;simp only at h;cases hw:jU t0 with
 |none=>rw[hw]at h;cases h
 |some bs=>
  rw[hw]at h;have hb:gS t0.text=some bs:=by unfold jU at hw;split at hw;exact hw;cases hw
  refine⟨bs,hb,?_⟩;simp only[l7]at h;cases hc:jq bl bc bs rest with
  |some e=>rw[hc]at h;cases h
  |none=>
   rw[hc]at h;simp only at h;have h1:bs.length≤rest.length:=by
    clear h hb hw;induction bs generalizing rest with
    |nil=>simp
    |cons b r ih=>cases rest with
     |nil=>cases hc
     |cons t q=>
      simp only[jq]at hc
      split at hc
      ·have:=ih hc;simp;omega
      ·cases hc
   cases hd:rest.drop bs.length with
   |nil=>have:=congrArg List.length hd;rw[eN]at this;simp at this;omega
   |cons t q=>rw[hd]at h;cases h
theorem alD {h h':aa} {v:Value} {t0:bA} {rest:List bA} (H:fH h v (t0::rest)) (K:rq h h') (hn:h.n≤h'.n):fH h' v (t0::rest):=by
 obtain⟨ad,c,q,z⟩:=H;refine⟨ad,c,q,?_⟩;rcases z with⟨_,q2,_⟩|⟨b,off,w,cells,r,z1,z2,z3,z4,z5⟩
 ·cases q2
 ·exact .inr ⟨b,off,w,cells,r,z1,K b w cells z5 z2,z3,z4,de z5 hn⟩
theorem aki {σ:St} (d:Option Nat) (x:Operand) (ty yt:TypeId) (pos:String) (aft:Array Edge) (g:Option (Nat×Bool)) (hx:aL σ x=some .nilIface):
  di PP σ ⟨d,.binOp .neq 110 x (.const .nilIface) yt,ty,pos,aft,g⟩=some (.bool false,σ):=by
 refine qe (by simp[Op.operands,kl hx rfl];rfl) rfl ?_ rfl;have e1:eqGuard .neq 110 x (.const .nilIface) .nilIface .nilIface=pure ():=by unfold eqGuard;simp
 have e2:binOp .neq 110 .nilIface .nilIface=(do pure (.bool (!(←Op.equal 110 .nilIface .nilIface)))):=rfl;have e3:(Op.equal 110 .nilIface .nilIface).aR PP=some true:=by
  have key:∀n,(Op.equalIn (n+1) 110 .nilIface .nilIface).aR PP=some true:=fun n=>by simp[Op.equalIn,cH,oV Bz,sR]
  exact key 9999
 have e4:kY σ (.const .nilIface)= .nilIface:=rfl;simp only[execOp,lz hx,e4,e1,e2,cH,sR,dZ,e3];rfl
attribute [simp] aki
def SK (ts:List bA) (h0:aa) (el ec:Int) (ks:Value) (br:Nat) (r0:Rd) (v:Value) (h':aa):Prop:=
 Ext h0 h'∧lR h0 h' (gH ts el ec (ts.length+1) 0 r0).1 el ec ks br∧match(gH ts el ec (ts.length+1) 0 r0).2 with
  |some e=>eS h' h'.n v (l4 e.1 e.2)
  |none=>v= .nilIface∧pU (gH ts el ec (ts.length+1) 0 r0).1
def R8 (ts:List bA) (h0:aa) (el ec:Int) (ks:Value) (br:Nat) (tv:Value) (r0:Rd) (m:Nat) (σ:St):Prop:=∃(f a:Nat) (r:Rd),m=ts.length-a∧a≤ts.length∧ts.length<f+a∧gH ts el ec (ts.length+1) 0 r0=gH ts el ec f a r∧pU r∧
 Ext h0 σ.m.h∧lR h0 σ.m.h r el ec ks br∧σ.t.get 0=some (.pointer (some ⟨br,0,none⟩))∧σ.t.get 1=some tv∧σ.t.get 5=some (.int .i64 (a:Nat))
def SX (H:aa) (br:Nat) (tv rv:Value) (nx:Nat) (bl bc:Int) (σ:St):Prop:=σ.m.h=H∧σ.t.get 0=some (.pointer (some ⟨br,0,none⟩))∧σ.t.get 1=some tv∧σ.t.get 6=some rv∧σ.t.get 7=some (.int .i64 (nx:Nat))∧σ.t.get 8=some (.pointer (some ⟨8,0,some 0⟩))∧σ.m.x.look 8=some (36,[.int .i64 bl,.int .i64 bc])
theorem ZV (ts:List bA) (hl:ts.length≤1048577) (h0 h:aa) (el ec:Int) (ks:Value) (hks:cu ks=true) (br:Nat) (r0:Rd) (hr0:pU r0) (tv:Value) (ht:fH h0 tv ts) (E0:Ext h0 h) (R:lR h0 h r0 el ec ks br):
  ao PP 121 [.pointer (some ⟨br,0,none⟩),tv] h (SK ts h0 el ec ks br r0):=by
 refine aC mix (aD Tryz.func121) rfl rfl rfl ac4 ?_;simp only[ai,Tryz.f121];obtain⟨ad,c,rfl,_⟩:=id ht;obtain⟨n,hn⟩:∃n,n=ts.length:=⟨_,rfl⟩;simp -implicitDefEqProofs[←hn];rw[hn];refine bL (R8 ts h0 el ec ks br (.slice ad ts.length c) r0) n ⟨ts.length+1,0,r0,by omega,by omega,by omega,rfl,hr0,E0,R,by simp⟩ ?_;rintro m ⟨Tf,⟨x,H⟩⟩ ⟨f,a,r,rfl,ha,hf,hlr,hok,E1,R1,g0,g1,g5⟩;simp at E1 R1 g0 g1 g5;have htH:=ht.ext E1;simp -implicitDefEqProofs[g0,g1,g5];refine bY (fun hc=>?_) (fun hc=>?_)
 ·have hal:a<ts.length:=by omega
  obtain⟨hrl,hkl⟩:=ais hal;obtain⟨k,hk⟩:∃k,k=T.iQ (ts.drop a):=⟨_,rfl⟩;obtain⟨row,hrow⟩:∃row,row=rowAt ts a:=⟨_,rfl⟩;obtain⟨nx,hnx⟩:∃nx,nx=oI ts a:=⟨_,rfl⟩;have hng:=aaZ hal;have hrow2:(ts.take (a+k)).drop a=row:=by rw[hrow,hk];rfl
  have hnx2:(if a+k<ts.length then a+k+1 else ts.length)=nx:=by rw[hnx,hk];rfl
  rw[←hk,←hrow]at hrl;rw[←hk]at hkl;rw[←hnx]at hng;obtain⟨os,op,ok,ss,sp,sk,bm,hbr,_⟩:=id R1;simp -implicitDefEqProofs[g0,g1,g5,hc,hal];refine(T.sg _ ts a hal (by omega) H htH).mono ?_;rintro v H2 ⟨e,s',hs',rfl⟩;replace e:=e.symm;subst e;rw[←hk,hrow2]at hs';rw[←hk,hnx2];obtain⟨ad',c',rfl,_⟩:=id hs';rw[hrl];have w1:IntKind.wrap .i64 ((a:Int)+(k:Int))=((a+k:Nat):Int):=by rw[bK (by omega)];omega
  simp -implicitDefEqProofs[af,g0,g1,g5,hbr];intro _;obtain⟨bh,hbh⟩:∃bh,bh=jj ts el ec (a+k):=⟨_,rfl⟩;refine wT (SX H br (.slice ad ts.length c) (.slice ad' k c') nx bh.1 bh.2) ?_ ?_
  ·by_cases hak:a+k<ts.length
   ·obtain⟨t,htt⟩:∃t,t=ts[a+k]:=⟨_,rfl⟩;have hget:ts[a+k]? =some t:=(by rw[htt];exact av hak);have hbh2:bh=(t.line,t.ah):=(by rw[hbh,jj,hget]);obtain⟨_,b',off',w',cells',r',q1,q2,q3,q4,q5⟩:=htH.at hget;obtain⟨p0,p1,p4⟩:=rf q3;have spt:=oX t H;simp only[fe,cX]at spt;subst q1;have k0:(0:Int)≤(a:Int)+(k:Int):=(by omega);have hak':(a:Int)+(k:Int)<(ts.length:Int):=(by omega);have tn:((a:Int)+(k:Int)).toNat=a+k:=(by omega);simp -implicitDefEqProofs[w1,hak,hak',q2,p0,q4,k0,tn];refine spt.mono ?_;rintro r1 H2 ⟨e,rfl⟩;replace e:=e.symm;subst e;simp -implicitDefEqProofs[af,dz];intro _;exact⟨rfl,by simp[hbh2]⟩
   ·have hbh2:bh=(el,ec):=(by rw[hbh,jj,iK (by omega)]);have hak':¬(a:Int)+(k:Int)<(ts.length:Int):=(by omega);simp -implicitDefEqProofs[w1,hak,hak'];exact⟨rfl,by simp[hbh2]⟩
  ·clear g0 g1 g5;rintro⟨Tg,⟨y,H2⟩⟩ ⟨e,g0,g1,g6,g7,g8,x8⟩;replace e:H=H2:=e.symm;subst e;simp at g0 g1 g6 g7 g8 x8;obtain⟨f',rfl⟩:∃f',f=f'+1:=⟨f-1,by omega⟩;cases row with
   |nil=>
    have hk0:k=0:=(by simpa using hrl.symm);subst hk0;have hstep:=hlr.trans (xH hal hrow.symm);rw[←hnx]at hstep;simp -implicitDefEqProofs[g0,g1,g6,g7,g8,x8];exact⟨ts.length-nx,by omega,f',nx,r,rfl,hng.2,by omega,hstep,hok,E1,R1,by simp⟩
   |cons t0 rest=>
    have hk1:k=rest.length+1:=(by simpa using hrl.symm);have hkne:¬(k:Int)=0:=(by omega);have hstep:=hlr.trans (xG hal hrow.symm);rw[←hnx]at hstep;simp only[←hk1,←hbh]at hstep;have hkne':¬k=0:=(by omega);have hs2:=hs';rw[hrl]at hs2;have gq:=abq (.slice ad' k c') t0 rest bh.1 bh.2 (by omega) H hs2;simp only[dz]at gq;simp -implicitDefEqProofs[g0,g1,g6,g7,g8,x8,hkne,hkne'];refine gq.mono ?_;rintro v H3 ⟨E3,hN⟩;have R3:=R1.ext E3;have E13:=E1.trans E3;cases hle:eU (t0::rest) bh.1 bh.2 with
    |some e=>
     rw[hle]at hN hstep;obtain⟨E,rfl,hE⟩:=hN;obtain⟨be,rfl⟩:=kM (h:=H) (a:=e.1) (b:=e.2) ⟨E3,hE⟩;simp -implicitDefEqProofs[af,g0,g1,g6,g7,g8,x8];intro _;refine⟨E13,by rw[hstep];exact R3,?_⟩;rw[hstep];exact hE
    |none=>
     rw[hle]at hN hstep;obtain⟨s3,rfl,hO3⟩:=hN;obtain⟨bs,bI,bQ⟩:=Np hle;have hO4:=agQ (h0:=h0) hO3 E1.n;obtain⟨ad3,rfl,_⟩:=id hO3;have hadd:=Tl h0 H3 r t0 rest bs bI bQ el ec ks hks br _ _ E13 R3 hok.small (hs2.ext E3) hO4;simp -implicitDefEqProofs[af,g0,g1,g6,g7,g8,x8];intro _;simp only[List.tail_cons,cN]at hadd;refine hadd.mono ?_;rintro v H4 ⟨rfl,E4,R4,K4⟩;cases hok2:(cV r t0 rest).2 with
     |true=>
      rw[hok2,if_pos rfl]at hstep;simp -implicitDefEqProofs[af,g0,g1,g6,g7,g8,x8];intro _;exact⟨ts.length-nx,by omega,f',nx,(cV r t0 rest).1,rfl,hng.2,by omega,hstep,Ck hok hok2,E4,R4,by simp⟩
     |false=>
      rw[hok2,if_neg (by decide)]at hstep;simp -implicitDefEqProofs[af,g0,g1,g6,g7,g8,x8];intro hN4;have hs4:fH H4 (.slice ad' k c') (t0::rest):=alD (hs2.ext E3) K4 hN4.2.2;have spt:=oX t0 H4;simp only[fe,cX]at spt;obtain⟨_,b',off',w',cells',r',q1,q2,q3,q4,q5⟩:=hs4.at (i:=0) (t:=t0) rfl;simp only[Nat.zero_mul,gQ]at q3 q4;obtain⟨p0,p1,p4⟩:=rf q3;subst q1;have hk0:0<k:=(by omega);simp -implicitDefEqProofs[g0,g1,g6,g7,g8,x8,q2,p0,q4,hk0];refine spt.mono ?_;rintro r1 H5 ⟨e,rfl⟩;replace e:=e.symm;subst e;simp -implicitDefEqProofs[af];intro _;refine(mq t0.line t0.ah H4).mono ?_;intro E H5 hE;obtain⟨be,rfl⟩:=kM hE;simp -implicitDefEqProofs[af];intro _;refine⟨E4.trans hE.1,by rw[hstep];exact R4.ext hE.1,?_⟩;rw[hstep];exact hE.2
 ·have hal:a=ts.length:=by omega
  have hstep:gH ts el ec f a r=(r,none):=by
   cases f with
   |zero=>rfl
   |succ f=>rw[gH,if_neg (by omega)]
  rw[hstep]at hlr;simp -implicitDefEqProofs[g0,g1,g5];refine⟨E1,by rw[hlr];exact R1,?_⟩;rw[hlr];exact⟨rfl,hok⟩
end Go.Proofs.Ybk
namespace Go.Proofs.Ybk
open Go Go.Am
set_option maxHeartbeats 4000000
open T (bA cX fe dz fH)
open V (aq aU aj au bg ab aB bq)
open F (FR eS cz)
def lC (x:Int):List Int→Nat→Int
 |[],_=>-1
 |a::r,i=>if x=a then(i:Int)else lC x r (i+1)
def SF (s:Value) (l:List Int) (x:Int) (h:aa) (m n:Nat) (σ:St):Prop:=∃i:Nat,n=m-i∧i≤m∧σ.m.h=h∧σ.t.get 0=some s∧σ.t.get 1=some (.int .i64 x)∧σ.t.get 7=some (.int .i64 (m:Nat))∧σ.t.get 8=some (.int .i64 (i:Nat))∧lC x l 0=lC x (l.drop i) i
theorem Y5 (s:Value) (l:List Int) (x:Int) (hl:l.length≤1073741824) (h:aa) (hs:bq h s l):ao PP 218 [s,.int .i64 x] h (fun v h'=>h'=h∧v= .int .i64 (lC x l 0)):=by
 refine aC mix (aD Tryz.func218) rfl rfl rfl Og ?_;simp only[ai,Tryz.f218];obtain⟨ad,c,rfl⟩:=hs.shape;obtain⟨m,hm⟩:∃m,m=l.length:=⟨_,rfl⟩;rw[←hm]at hs ⊢;simp -implicitDefEqProofs;refine bL (SF (.slice ad m c) l x h m) _ ⟨0,rfl,by omega,rfl,by simp,by simp,by simp,by simp,rfl⟩ ?_;rintro n ⟨T,⟨y,H⟩⟩ ⟨i,rfl,hi,hH,g0,g1,g7,g8,hq⟩;simp at hH g0 g1 g7 g8;subst hH;simp -implicitDefEqProofs[g0,g1,g7,g8];refine bY (fun hc=>?_) (fun hc=>?_)
 ·have hil:i<m:=by omega
  have hti:l[i]? =some l[i]:=av (by omega);obtain⟨_,b,o,wb,cs,r,rfl,hb,hd,hlc,_⟩:=hs.at 1 V.dV hti;obtain⟨t,ht⟩:∃t,t=l[i]:=⟨_,rfl⟩;rw[←ht]at hd hti;have w1:=bU (i:=i) (by omega);have hlc':o+i+1≤cs.length:=by omega
  have hdr:l.drop i=t::l.drop (i+1):=by rw[ht];exact ie (by omega)
  rw[Nat.mul_one]at hd;by_cases h1:x=t
  ·have hp:lC x l 0=(i:Int):=(by rw[hq,hdr,lC,if_pos h1]);simp -implicitDefEqProofs[g0,g1,g7,g8,hil,hb,hd,hlc',ab,h1];rw[←h1,hp]
  ·have hp:lC x l 0=lC x (l.drop (i+1)) (i+1):=(by rw[hq,hdr,lC,if_neg h1]);simp -implicitDefEqProofs[g0,g1,g7,g8,hil,hb,hd,hlc',ab,h1,w1];exact⟨m-(i+1),by omega,i+1,rfl,by omega,rfl,by simp[g0],by simp[g1],by simp[g7],by simp,hp⟩
 ·have hp:lC x l 0= -1:=by rw[hq,List.drop_of_length_le (by omega)];rfl
  simp -implicitDefEqProofs[g0,g1,g7,g8,hp]
theorem YU (x:Int) (l:List Int) (i:Nat):0≤lC x l i↔x∈l:=by
 induction l generalizing i with
 |nil=>simp[lC]
 |cons a r ih=>
  rw[lC];split
  ·rename_i h;simp[h]
  ·rename_i h;rw[ih,cE];simp[h]
theorem Wz (s:Value) (l:List Int) (x:Int) (hl:l.length≤1073741824) (h:aa) (hs:bq h s l):ao PP 162 [s,.int .i64 x] h (fun v h'=>h'=h∧v= .bool (decide (x∈l))):=by
 refine aC mix (aD Tryz.func162) rfl rfl rfl Od ?_;simp only[ai,Tryz.f162];obtain⟨ad,c,rfl⟩:=hs.shape;simp -implicitDefEqProofs;refine(Y5 _ l x hl h hs).mono ?_;rintro v h' ⟨rfl,rfl⟩;have e:decide (x∈l)=decide (0≤lC x l 0):=by rw[decide_eq_decide,YU]
 simp -implicitDefEqProofs[af,e]
def jZ (ag:List aq):List kE→List Int→List Int×Option (Int×Int)
 |[],acc=>(acc,none)
 |k::r,acc=>match j7 ag k.row k.x with
  |none=>(acc,some (k.q7,k.qY))
  |some n=>if(n:Int)∈acc then(acc,some (k.line,k.ah))else jZ ag r (acc++[(n:Int)])
def iv (r:Rd) (el ec:Int):List Int×Option (Int×Int):=if r.ag=[]∨r.aW=0 then([],some (el,ec))else jZ r.ag r.aE []
theorem Zq {ag:List aq} {acc:List Int}:jZ ag [] acc=(acc,none):=rfl
theorem Ai {ag:List aq} {k:kE} {r:List kE} {acc:List Int} (h:j7 ag k.row k.x=none):jZ ag (k::r) acc=(acc,some (k.q7,k.qY)):=by rw[jZ,h]
theorem Aj {ag:List aq} {k:kE} {r:List kE} {acc:List Int} {n:Nat} (h:j7 ag k.row k.x=some n) (hm:(n:Int)∈acc):jZ ag (k::r) acc=(acc,some (k.line,k.ah)):=by rw[jZ,h];simp only;rw[if_pos hm]
theorem xu {ag:List aq} {k:kE} {r:List kE} {acc:List Int} {n:Nat} (h:j7 ag k.row k.x=some n) (hm:(n:Int)∉acc):jZ ag (k::r) acc=jZ ag r (acc++[(n:Int)]):=by rw[jZ,h];simp only;rw[if_neg hm]
def wH (h0 h:aa) (r:Rd) (el ec:Int) (ks:List Int) (br:Nat):Prop:=∃(o:Option Nat) (kv:Value),F.bM 3 ab h0 h o ks kv∧lR h0 h r el ec kv br
def Cj (h0:aa) (r:Rd) (el ec:Int) (br:Nat) (v:Value) (h':aa):Prop:=Ext h0 h'∧match(iv r el ec).2 with
 |some e=>eS h' h'.n v (l4 e.1 e.2)
 |none=>v= .nilIface∧wH h0 h' r el ec (iv r el ec).1 br
def R9 (h0:aa) (r:Rd) (el ec:Int) (br:Nat) (sk:Value) (n:Nat) (m:Nat) (σ:St):Prop:=∃(i:Nat) (ks:List Int),m=n-i∧i≤n∧ks.length≤i∧Ext h0 σ.m.h∧wH h0 σ.m.h r el ec ks br∧iv r el ec=jZ r.ag (r.aE.drop i) ks∧
 σ.t.get 0=some (.pointer (some ⟨br,0,none⟩))∧σ.t.get 30=some sk∧σ.t.get 31=some (.int .i64 (n:Nat))∧σ.t.get 32=some (.int .i64 (i:Nat))∧(∃ok,F.bM 230 lE h0 σ.m.h ok r.aE sk)
theorem amz (h0 h:aa) (r:Rd) (el ec:Int) (br:Nat) (E0:Ext h0 h) (R:wH h0 h r el ec [] br) (hok:pU r):ao PP 122 [.pointer (some ⟨br,0,none⟩)] h (Cj h0 r el ec br):=by
 refine aC mix (aD Tryz.func122) rfl rfl rfl ac5 ?_;simp only[ai,Tryz.f122];obtain⟨o3,kv,hk3,os,op,ok,ss,sp,sk,bm,hbr,hbr1,hbr2,hos,hop,hokk,hbm,hbm1,hbm2⟩:=id R;obtain⟨rfl,_⟩:=id hos;obtain⟨rfl,_⟩:=id hokk;obtain⟨rfl,_⟩:=id hk3;obtain⟨n,hn⟩:∃n,n=r.aE.length:=⟨_,rfl⟩;have bad:(r.ag=[]∨r.aW=0)→∀E H2,wA h (l4 el ec) E H2→Cj h0 r el ec br E H2:=fun hb E H2 ⟨q1,q2⟩=>by
  have hw:iv r el ec=([],some (el,ec)):=by rw[iv,if_pos hb]
  refine⟨E0.trans q1,?_⟩;rw[hw];exact q2
 by_cases hb:r.ag=[]∨r.aW=0
 ·have wr:=mq el ec h;simp only[dz]at wr;by_cases h1:r.ag=[]
  ·have hsl:r.ag.length=0:=(by rw[h1];rfl);simp -implicitDefEqProofs[hbr,hsl,h1];refine wr.mono ?_;intro E H2 hE;obtain⟨be,rfl⟩:=kM hE;simp -implicitDefEqProofs[af];intro _;exact bad hb _ H2 hE
  ·have h2:r.aW=0:=hb.resolve_left h1;simp -implicitDefEqProofs[hbr,h1,h2];refine wr.mono ?_;intro E H2 hE;obtain⟨be,rfl⟩:=kM hE;simp -implicitDefEqProofs[af];intro _;exact bad hb _ H2 hE
 ·have bI:¬r.ag=[]:=fun q=>hb (.inl q);have bQ:¬r.aW=0:=fun q=>hb (.inr q);have hw:iv r el ec=jZ r.ag (r.aE.drop 0) []:=by rw[iv,if_neg hb];rfl
  obtain⟨adk,hadk⟩:∃a:Option Addr,a=ok.map fun b=>⟨b,0,none⟩:=⟨_,rfl⟩;rw[←hadk]at hbr hokk;simp -implicitDefEqProofs[hbr,bI,bQ,←hn];refine bL (R9 h0 r el ec br (.slice adk n n) n) n ⟨0,[],by omega,by omega,by simp,E0,R,hw,by simp,by simp,by simp,by simp,ok,by rw[hn];exact hokk⟩ ?_;clear hbr hbr2 hos hop hokk hbm hbm2 hk3 R;rintro m ⟨T,⟨x,H⟩⟩ ⟨i,ks,rfl,hi,hkl,E1,R1,hw1,g0,g30,g31,g32,ok',hok'⟩;simp at E1 R1 g0 g30 g31 g32 hok';have R1':=R1;obtain⟨o3,kv,hk3,os,op,ok,ss,sp,sk,bm,hbr,hbr1,hbr2,hos,hop,hokk,hbm,hbm1,hbm2⟩:=R1;simp -implicitDefEqProofs[g0,g30,g31,g32];refine bY (fun hc=>?_) (fun hc=>?_)
  ·have hin:i<n:=(by omega);have hti:r.aE[i]? =some r.aE[i]:=av (by omega);obtain⟨k,hk⟩:∃k,k=r.aE[i]:=⟨_,rfl⟩;rw[←hk]at hti;have hdr:r.aE.drop i=k::r.aE.drop (i+1):=(by rw[hk];exact ie (by omega));obtain⟨_,bk,off,wk,cells,r',rfl,hbk,hdk,hlk,_⟩:=hok'.own.sl.at 6 (fun _=>rfl) hti;simp only[lE,dp,dA]at hdk;have w1:IntKind.wrap .i64 ((i:Int)+1)=((i+1:Nat):Int):=(by have:=hok.2.1;rw[bK (by omega)];omega);have f1:=Jk k.row k.x r.ag;simp only[mP]at f1;have hkl2:ks.length≤200:=(by have:=hok.2.1;omega);cases hp:j7 r.ag k.row k.x with
   |none=>
    have hw2:iv r el ec=(ks,some (k.q7,k.qY)):=(by rw[hw1,hdr,Ai hp]);rw[hp]at f1;simp -implicitDefEqProofs[g0,g30,g31,g32,hin,hbk,hdk,hlk,hbr,oP,hbm,f1,cA,dm];have wr:=mq k.q7 k.qY H;simp only[dz]at wr;refine wr.mono ?_;intro E H2 hE;obtain⟨be,rfl⟩:=kM hE;simp -implicitDefEqProofs[af];intro _;refine⟨E1.trans hE.1,?_⟩;rw[hw2];exact hE.2
   |some q=>
    rw[hp]at f1;have hcon:=Wz kv ks (q:Nat) (by omega) H hk3.own.sl;obtain⟨rfl,hko⟩:=id hk3;simp -implicitDefEqProofs[g0,g30,g31,g32,hin,hbk,hdk,hlk,hbr,oP,hbm,f1,cA,dm];refine hcon.mono ?_;rintro v H2 ⟨e,rfl⟩;replace e:=e.symm;subst e;by_cases hm:((q:Nat):Int)∈ks
    ·have hw2:iv r el ec=(ks,some (k.line,k.ah)):=(by rw[hw1,hdr,Aj hp hm]);have wr:=mq k.line k.ah H;simp only[dz]at wr;simp -implicitDefEqProofs[af,hm];intro _;refine wr.mono ?_;intro E H2 hE;obtain⟨be,rfl⟩:=kM hE;simp -implicitDefEqProofs[af];intro _;refine⟨E1.trans hE.1,?_⟩;rw[hw2];exact hE.2
    ·have hw2:iv r el ec=jZ r.ag (r.aE.drop (i+1)) (ks++[(q:Int)]):=(by rw[hw1,hdr,xu hp hm]);have hr1:List.range 1=[0]:=rfl;have mkK:∀cells,cells=ks.flatMap ab++ab (q:Int)→(fun G=>Ext h0 G∧wH h0 G r el ec (ks++[(q:Int)]) br∧∃ok,F.bM 230 lE h0 G ok r.aE (.slice (some ⟨bk,off,none⟩) n n)) ((iC H o3 (.row true 3 (ab (q:Int))) (.row true 3 cells)).set br
       (.row true 170 [ss,.int .i64 r.aW,.int .i64 r.bC,.slice (some ⟨H.n+1,0,none⟩) (ks.length+1) (ks.length+1),sp,.int .i64 el,.int .i64 ec,.map (some bm),sk,.bool r.eJ])):=by
      intro cells hc;refine⟨xe E1 (xY hk3) _ _ hbr1 _,⟨some (H.n+1),_,xZ hk3 E1.n _ _ hc hbr2 _,os,op,ok,ss,sp,sk,bm,by rw[gT,if_pos rfl],hbr1,?_,oR hos _ _ _ (oS hos hk3 (by decide)) (lH hos hbr (by decide)),oR hop _ _ _ (oS hop hk3 (by decide)) (lH hop hbr (by decide)),oR hokk _ _ _ (oS hokk hk3 (by decide)) (lH hokk hbr (by decide)),xO _ _ _ hbm hbm2 (sO hk3 hbm) (by rintro rfl;rw[hbr]at hbm;cases hbm),hbm1,?_⟩,ok',oR hok' _ _ _ (oS hok' hk3 (by decide)) (lH hok' hbr (by decide))⟩
      ·show br<(iC H o3 _ _).n;rw[pG];omega
      ·show bm<(iC H o3 _ _).n;rw[pG];omega
     have o2:¬br=H.n:=(by omega);have o3':¬br=H.n+1:=(by omega);cases o3 with
     |none=>
      simp only at hko;subst hko;obtain⟨k1,k2,k3⟩:=mkK (ab (q:Int)) rfl;simp -implicitDefEqProofs[af,g0,g30,g31,g32,hbr,aP,hr1,dq,dM,dC,o2,o3',w1];intro _;exact⟨n-(i+1),by omega,i+1,[(q:Int)],rfl,by omega,by simp,k1,k2,hw2,by simp,by simp,by simp,by simp,k3⟩
     |some b3=>
      simp only at hko;obtain⟨hk1,hk2,hk3'⟩:=hko;obtain⟨K,hK⟩:∃K,K=ks.flatMap ab:=⟨_,rfl⟩;have hKl:K.length=ks.length:=(by have:=fg 1 (enc:=ab) (fun _=>rfl) ks;rw[←hK]at this;omega);rw[←hK]at hk1;have hmx:(ks.length+1)*8≤140737488355328:=(by omega);have o1:¬b3=H.n:=(by omega);have o4:¬br=b3:=(by rintro rfl;rw[hbr]at hk1;simp at hk1);have e8:K.take ks.length=K:=bZ (by omega);obtain⟨k1,k2,k3⟩:=mkK (K++ab (q:Int)) (by rw[hK]);simp -implicitDefEqProofs[af,hm,g0,g30,g31,g32,hbr,aP,hr1,dq,dM,dC,hk1,hKl,hmx,o1,o2,o3',o4,e8,w1];intro _;exact⟨n-(i+1),by omega,i+1,ks++[(q:Int)],rfl,by omega,by simp;omega,k1,k2,hw2,by simp,by simp,by simp,by simp,k3⟩
  ·have hin:i=n:=(by omega);have hw2:iv r el ec=(ks,none):=(by rw[hw1,List.drop_of_length_le (by omega)];rfl);simp -implicitDefEqProofs[g0,g30,g31,g32];refine⟨E1,?_⟩;rw[hw2];exact⟨rfl,R1'⟩
theorem pY (n lo hi:Int) (h:aa):ao PP 181 [.int .i64 n,.int .i64 lo,.int .i64 hi] h (fun v h'=>h'=h∧v= .bool (aB n lo hi)):=by
 refine aC mix (aD Tryz.func181) rfl rfl rfl Of ?_;simp only[ai,Tryz.f181];unfold aB;by_cases h1:lo≤n
 ·simp -implicitDefEqProofs[h1]
 ·simp -implicitDefEqProofs[h1]
theorem vO (n:Int) (h:aa):ao PP 229 [.int .i64 n] h (fun v h'=>h'=h∧v= .bool (aB n (-1048576) 1048576)):=by
 refine aC mix (aD Tryz.func229) rfl rfl rfl Oh ?_;simp only[ai,Tryz.f229];simp -implicitDefEqProofs;refine(pY n (-1048576) 1048576 h).mono ?_;rintro v h' ⟨rfl,rfl⟩;simp -implicitDefEqProofs[af]
def PC (p:Int×Int):List Value:=[.int .i64 p.1,.int .i64 p.2]
def Ap (a b:Option Nat):Prop:=∀n,a=some n→b≠some n
def gN (g:Int):Int:=if 0<g then 1 else 0
def rN (b:Bool):Int:=if b then 1 else 0
structure amS (h0 h:aa) (r:Rd) (ks:List Int) (br:Nat) (os op ok o1 o2 o3 o4:Option Nat) (ss sp sk s1 s2 s3 s4:Value):Prop where
 row:h.f br= .row true 188 [ss,.int .i64 r.aW,.int .i64 r.bC,sk,sp,.int .i64 (gN r.aW),.int .i64 (rN r.eJ),s1,s2,s3,s4]
 lo:h0.n≤br
 hi:br<h.n
 ag:F.bM 99 au h0 h os r.ag ss
 aI:F.bM 103 bg h0 h op r.aI sp
 aE:F.bM 3 ab h0 h ok ks sk
 rows:F.bM 3 ab h0 h o1 (r.aE.map (·.row)) s1
 xs:F.bM 3 ab h0 h o2 (r.aE.map (·.x)) s2
 words:F.bM 36 PC h0 h o3 (r.aE.map fun k=>(k.line,k.ah)) s3
 amY:F.bM 36 PC h0 h o4 (r.aE.map fun k=>(k.q7,k.qY)) s4
 amU:Ap ok o1
 Ua:Ap ok o2
 a12:Ap o1 o2
 amT:Ap o3 o4
 nil:r.aE=[]→o1=none∧o2=none∧o3=none∧o4=none
structure fU (h G:aa) (br:Nat) (p1 p2:Option Nat) (e:TypeId) (X1 X2:List Value) (y1 y2:Nat):Prop where
 amZ:h.n≤y1
 am0:h.n≤y2
 ne:y1≠y2
 fQ:y1<G.n
 sc:y2<G.n
 n:h.n≤G.n
 g:G.g=h.g
 same:∀x,x<h.n→x≠br→p1≠some x→p2≠some x→G.f x=h.f x
 r1:G.f y1= .row true e X1
 r2:G.f y2= .row true e X2
theorem fU.ext {h0 h G:aa} {br:Nat} {p1 p2:Option Nat} {e:TypeId} {X1 X2:List Value} {y1 y2:Nat} (T:fU h G br p1 p2 e X1 X2 y1 y2) (E:Ext h0 h) (hb:h0.n≤br) (h1:∀b,p1=some b→h0.n≤b) (h2:∀b,p2=some b→h0.n≤b):Ext h0 G:=
 ⟨T.g.trans E.g,eW E.n T.n,fun b hlt=>by
  rw[T.same b (de hlt E.n) (by omega) (fun q=>by have:=h1 b q;omega) (fun q=>by have:=h2 b q;omega),E.f b hlt]⟩
end Go.Proofs.Ybk
namespace Go.Proofs
open Go.Shelf Go.RowKit Go.Lib Go.Sort
def Tryz.ajx:Go.Shelf.Ren:=⟨fun|6=>163|15=>220|14=>219|28=>266|29=>267|20=>258|21=>259|22=>260|23=>261|24=>262|25=>263|26=>264|27=>265|46=>297|47=>298|48=>299|49=>300|50=>301|57=>313|n=>n,fun|22=>60|24=>99|25=>234|3=>3|39=>50|0=>0|53=>348|55=>184|4=>4|46=>342|45=>341|50=>205|5=>5|9=>9|66=>368|70=>372|76=>381|77=>382|n=>n,fun|n=>n⟩
theorem Tryz.ajw:SlLaysF0.n6 Tryz.prog Tryz.ajx:={
 mixed:=by kernel_rfl,
 f6:=⟨Tryz.f163.name,by decide,Tryz.func163.trans (congrArg some (by kernel_rfl))⟩,
 f14:=⟨Tryz.f219.name,by decide,Tryz.func219.trans (congrArg some (by kernel_rfl))⟩,
 f15:=Tryz.func220.trans (congrArg some (by kernel_rfl)),
 f20:=⟨Tryz.f258.name,by decide,Tryz.func258.trans (congrArg some (by kernel_rfl))⟩,
 f21:=⟨Tryz.f259.name,by decide,Tryz.func259.trans (congrArg some (by kernel_rfl))⟩,
 f22:=⟨Tryz.f260.name,by decide,Tryz.func260.trans (congrArg some (by kernel_rfl))⟩,
 f23:=⟨Tryz.f261.name,by decide,Tryz.func261.trans (congrArg some (by kernel_rfl))⟩,
 f24:=⟨Tryz.f262.name,by decide,Tryz.func262.trans (congrArg some (by kernel_rfl))⟩,
 f25:=⟨Tryz.f263.name,by decide,Tryz.func263.trans (congrArg some (by kernel_rfl))⟩,
 f26:=⟨Tryz.f264.name,by decide,Tryz.func264.trans (congrArg some (by kernel_rfl))⟩,
 f27:=⟨Tryz.f265.name,by decide,Tryz.func265.trans (congrArg some (by kernel_rfl))⟩,
 f28:=Tryz.func266.trans (congrArg some (by kernel_rfl)),
 f29:=Tryz.func267.trans (congrArg some (by kernel_rfl)),
 f46:=⟨Tryz.f297.name,by decide,Tryz.func297.trans (congrArg some (by kernel_rfl))⟩,
 f47:=Tryz.func298.trans (congrArg some (by kernel_rfl)),
 f48:=Tryz.func299.trans (congrArg some (by kernel_rfl)),
 f49:=⟨Tryz.f300.name,by decide,Tryz.func300.trans (congrArg some (by kernel_rfl))⟩,
 f50:=⟨Tryz.f301.name,by decide,Tryz.func301.trans (congrArg some (by kernel_rfl))⟩,
 f57:=⟨Tryz.f313.name,by decide,Tryz.func313.trans (congrArg some (by kernel_rfl))⟩,
 t0:=Tryz.underlying0,
 a0:=Tryz.isAgg0,
 z0:=Tryz.sizeOf0,
 v0:=Tryz.zeroValue0,
 t3:=Tryz.underlying3,
 a3:=Tryz.isAgg3,
 z3:=Tryz.sizeOf3,
 v3:=Tryz.zeroValue3,
 t4:=Tryz.underlying4,
 a4:=Tryz.isAgg4,
 z4:=Tryz.sizeOf4,
 v4:=Tryz.zeroValue4,
 t5:=Tryz.underlying5,
 a5:=Tryz.isAgg5,
 z5:=Tryz.sizeOf5,
 v5:=Tryz.zeroValue5,
 t9:=Tryz.underlying9,
 a9:=Tryz.isAgg9,
 z9:=Tryz.sizeOf9,
 v9:=Tryz.zeroValue9,
 t22:=Tryz.underlying60,
 a22:=Tryz.isAgg60,
 z22:=Tryz.sizeOf60,
 v22:=Tryz.zeroValue60,
 t25:=Tryz.underlying234,
 a25:=Tryz.isAgg234,
 z25:=Tryz.sizeOf234,
 v25:=Tryz.zeroValue234,
 t39:=Tryz.underlying50,
 a39:=Tryz.isAgg50,
 z39:=Tryz.sizeOf50,
 v39:=Tryz.zeroValue50,
 t45:=Tryz.underlying341,
 a45:=Tryz.isAgg341,
 z45:=Tryz.sizeOf341,
 v45:=Tryz.zeroValue341,
 t46:=Tryz.underlying342,
 a46:=Tryz.isAgg342,
 z46:=Tryz.sizeOf342,
 v46:=Tryz.zeroValue342,
 t50:=Tryz.underlying205,
 a50:=Tryz.isAgg205,
 z50:=Tryz.sizeOf205,
 v50:=Tryz.zeroValue205,
 t53:=Tryz.underlying348,
 a53:=Tryz.isAgg348,
 z53:=Tryz.sizeOf348,
 v53:=Tryz.zeroValue348,
 t55:=Tryz.underlying184,
 a55:=Tryz.isAgg184,
 z55:=Tryz.sizeOf184,
 v55:=Tryz.zeroValue184,
 t66:=Tryz.underlying368,
 a66:=Tryz.isAgg368,
 z66:=Tryz.sizeOf368,
 v66:=Tryz.zeroValue368,
 t70:=Tryz.underlying372,
 a70:=Tryz.isAgg372,
 z70:=Tryz.sizeOf372,
 v70:=Tryz.zeroValue372,
 t76:=Tryz.underlying381,
 a76:=Tryz.isAgg381,
 z76:=Tryz.sizeOf381,
 v76:=Tryz.zeroValue381,
 t77:=Tryz.underlying382,
 a77:=Tryz.isAgg382,
 z77:=Tryz.sizeOf382,
 v77:=Tryz.zeroValue382}
def Tryz.ajv:Go.Shelf.Ren:=⟨fun|189=>168|125=>220|257=>221|128=>266|129=>267|294=>268|295=>269|296=>270|297=>271|298=>272|299=>273|216=>274|300=>275|301=>276|328=>302|329=>298|330=>299|331=>303|332=>304|215=>305|343=>314|n=>n,fun|28=>22|3=>3|46=>50|0=>0|51=>348|53=>184|4=>4|183=>342|182=>341|131=>205|5=>5|9=>9|218=>368|222=>372|228=>381|229=>382|n=>n,fun|n=>n⟩
theorem Tryz.aju:Lays.n189 Tryz.prog Tryz.ajv:={
 mixed:=by kernel_rfl,
 f125:=Tryz.func220.trans (congrArg some (by kernel_rfl)),
 f128:=Tryz.func266.trans (congrArg some (by kernel_rfl)),
 f129:=Tryz.func267.trans (congrArg some (by kernel_rfl)),
 f189:=Tryz.func168.trans (congrArg some (by kernel_rfl)),
 f215:=Tryz.func305.trans (congrArg some (by kernel_rfl)),
 f216:=Tryz.func274.trans (congrArg some (by kernel_rfl)),
 f257:=Tryz.func221.trans (congrArg some (by kernel_rfl)),
 f294:=Tryz.func268.trans (congrArg some (by kernel_rfl)),
 f295:=Tryz.func269.trans (congrArg some (by kernel_rfl)),
 f296:=Tryz.func270.trans (congrArg some (by kernel_rfl)),
 f297:=Tryz.func271.trans (congrArg some (by kernel_rfl)),
 f298:=Tryz.func272.trans (congrArg some (by kernel_rfl)),
 f299:=Tryz.func273.trans (congrArg some (by kernel_rfl)),
 f300:=Tryz.func275.trans (congrArg some (by kernel_rfl)),
 f301:=Tryz.func276.trans (congrArg some (by kernel_rfl)),
 f328:=Tryz.func302.trans (congrArg some (by kernel_rfl)),
 f329:=Tryz.func298.trans (congrArg some (by kernel_rfl)),
 f330:=Tryz.func299.trans (congrArg some (by kernel_rfl)),
 f331:=Tryz.func303.trans (congrArg some (by kernel_rfl)),
 f332:=Tryz.func304.trans (congrArg some (by kernel_rfl)),
 f343:=Tryz.func314.trans (congrArg some (by kernel_rfl)),
 t0:=Tryz.underlying0,
 a0:=Tryz.isAgg0,
 z0:=Tryz.sizeOf0,
 v0:=Tryz.zeroValue0,
 t3:=Tryz.underlying3,
 a3:=Tryz.isAgg3,
 z3:=Tryz.sizeOf3,
 v3:=Tryz.zeroValue3,
 t4:=Tryz.underlying4,
 a4:=Tryz.isAgg4,
 z4:=Tryz.sizeOf4,
 v4:=Tryz.zeroValue4,
 t5:=Tryz.underlying5,
 a5:=Tryz.isAgg5,
 z5:=Tryz.sizeOf5,
 v5:=Tryz.zeroValue5,
 t9:=Tryz.underlying9,
 a9:=Tryz.isAgg9,
 z9:=Tryz.sizeOf9,
 v9:=Tryz.zeroValue9,
 t28:=Tryz.underlying22,
 a28:=Tryz.isAgg22,
 z28:=Tryz.sizeOf22,
 v28:=Tryz.zeroValue22,
 t46:=Tryz.underlying50,
 a46:=Tryz.isAgg50,
 z46:=Tryz.sizeOf50,
 v46:=Tryz.zeroValue50,
 t51:=Tryz.underlying348,
 a51:=Tryz.isAgg348,
 z51:=Tryz.sizeOf348,
 v51:=Tryz.zeroValue348,
 t53:=Tryz.underlying184,
 a53:=Tryz.isAgg184,
 z53:=Tryz.sizeOf184,
 v53:=Tryz.zeroValue184,
 t131:=Tryz.underlying205,
 a131:=Tryz.isAgg205,
 z131:=Tryz.sizeOf205,
 v131:=Tryz.zeroValue205,
 t182:=Tryz.underlying341,
 a182:=Tryz.isAgg341,
 z182:=Tryz.sizeOf341,
 v182:=Tryz.zeroValue341,
 t183:=Tryz.underlying342,
 a183:=Tryz.isAgg342,
 z183:=Tryz.sizeOf342,
 v183:=Tryz.zeroValue342,
 t218:=Tryz.underlying368,
 a218:=Tryz.isAgg368,
 z218:=Tryz.sizeOf368,
 v218:=Tryz.zeroValue368,
 t222:=Tryz.underlying372,
 a222:=Tryz.isAgg372,
 z222:=Tryz.sizeOf372,
 v222:=Tryz.zeroValue372,
 t228:=Tryz.underlying381,
 a228:=Tryz.isAgg381,
 z228:=Tryz.sizeOf381,
 v228:=Tryz.zeroValue381,
 t229:=Tryz.underlying382,
 a229:=Tryz.isAgg382,
 z229:=Tryz.sizeOf382,
 v229:=Tryz.zeroValue382}
end Go.Proofs
namespace Go.Proofs.Ybk.V
open Go Go.Am
theorem gM:PP=Tryz.prog:=by unfold PP;rfl
instance:Inhabited aq:=⟨⟨0,0,0,0⟩⟩
theorem wR (x y:aq):ltOf rQ x y=eP x y:=by
 unfold ltOf rQ;by_cases h1:eP x y=true
 ·rw[if_pos h1,h1];rfl
 ·rw[if_neg h1];have:eP x y=false:=by simpa using h1
  rw[this];split<;>rfl
theorem kN (a b:aq):eP a b=true↔a.row<b.row∨(a.row=b.row∧a.x<b.x):=by
 simp[eP]
theorem akt:Go.Sort.SWO (ltOf rQ) where
 irrefl x:=by rw[wR,←mz,kN];omega
 trans x y z h1 h2:=by rw[wR,kN]at *;omega
 ntrans x y z h1 h2:=by rw[wR,←mz,kN]at *;omega
theorem Jq {α:Type} [Inhabited α] (enc:α→List Value) (k:Nat) (hk:∀x,(enc x).length=k) (xs:List α) (j:Nat) (hj:j<xs.length*k):
  (xs.flatMap enc)[j]? =some ((enc xs.toArray[j / k]!)[j % k]!):=by
 have hk0:0<k:=by
  rcases Nat.eq_zero_or_pos k with h|h
  ·subst h;simp at hj
  ·exact h
 have hq:j / k<xs.length:=(Nat.div_lt_iff_lt_mul hk0).2 hj;have hd:=qH (enc:=enc) k hk xs (j / k);have e:(xs.flatMap enc)[j]? =((xs.flatMap enc).drop (j / k*k))[j % k]? :=by
  rw[List.getElem?_drop];congr 1;have:=Nat.div_add_mod j k;rw[Nat.mul_comm]at this;omega
 rw[e,hd,ie hq,gF,jz (by rw[hk];exact Nat.mod_lt _ hk0)];have h2:j % k<(enc xs[j / k]).length:=by rw[hk];exact Nat.mod_lt _ hk0
 have h3:xs.toArray[j / k]! =xs[j / k]:=by simp[hq]
 rw[av h2,h3];congr 1;exact(getElem!_pos (enc xs[j / k]) (j % k) h2).symm
theorem Pn (xs:List aq) (v:Value) (hm:v∈xs.flatMap au):∃n,v= .int .i64 n:=by
 obtain⟨s,_,hs⟩:=List.mem_flatMap.1 hm;simp only[au,cE,List.not_mem_nil,or_false]at hs;rcases hs with z|z|z|z<;>exact⟨_,z⟩
def kF (ys:List aq):Prop:=∀(i j:Nat) (a b:aq),i<j→ys[i]? =some a→ys[j]? =some b→eP b a=false
theorem ajq (b c:Nat) (xs:List aq) (hn:xs≠[]) (hl:xs.length≤1073741824) (h:aa) (hb:h.f b= .row true 99 (xs.flatMap au)):
  ao PP 163 [.slice (some ⟨b,0,none⟩) xs.length c,.func (.func 164) #[] #[]] h (fun r h'=>r= .tuple #[]∧∃ys,ys.Perm xs∧kF ys∧h'=h.set b (.row true 99 (ys.flatMap au))):=by
 rw[gM];refine⟨⟨Tryz.f163,Tryz.func163,by kernel_rfl,by kernel_rfl⟩,fun ρ w args' hbx R V=>?_⟩;obtain⟨v0,hv0,V0⟩:=V.2 0 _ rfl;obtain⟨v1,hv1,V1⟩:=V.2 1 _ rfl;have hargs:args'=[v0,v1]:=by
  have:=V.1;match args',hv0,hv1,this with
  |[p,q],h0,h1,_=>simp at h0 h1;rw[h0,h1]
 subst hargs;have e1:v1= .func (.func 164) #[] #[]:=by
  cases V1 with
  |func fn p p' q q' ha hl _ _=>
   have h1:p'=[]:=List.eq_nil_of_length_eq_zero ha.symm;have h2:q'=[]:=List.eq_nil_of_length_eq_zero hl.symm;subst h1;subst h2;rfl
 subst e1;have hlen:0<xs.length:=rJ.2 hn;obtain⟨pl,cap,hk,e0⟩:∃pl cap,ρ (false,b)=some pl∧v0= .slice (some ⟨pl.B,pl.o,none⟩) xs.length cap:=by
  rcases V0.ni with⟨a',e,_⟩|⟨b',off,pl,cap,e,hk,hc,hn',rfl⟩
  ·omega
  ·simp only[Addr.mk.injEq,and_true]at e;obtain⟨rfl,rfl⟩:=e;exact⟨pl,cap,hk,by simp⟩
 subst e0;obtain⟨C,e',fz,c1,c2,c3,c4,c5,c6⟩:=R.row (false,b) pl true 99 (xs.flatMap au) hk (by simp[Mem.row?,hb]);obtain rfl:=c2 rfl;have hblk:=R.bound _ _ hk;have hfl:(xs.flatMap au).length=xs.length*4:=fg 4 gK xs;have hcell:∀j,j<xs.length*4→C[pl.o+j]? =some ((au xs.toArray[j / 4]!)[j % 4]!):=by
  intro j hj;have hg:=Jq au 4 gK xs j hj;obtain⟨v',q1,q2⟩:=c6 j _ hg;rw[q1];congr 1;refine q2.dm ?_;have hm:(au xs.toArray[j / 4]!)[j % 4]!∈xs.flatMap au:=dY hg;obtain⟨n,hn⟩:=Pn xs _ hm;rw[hn];rfl
 have hH:Go.Sort.HoldsK au 4 w pl.B pl.o xs.toArray:=by
  intro j hj;rw[Go.Sort.size_flatK]at hj;have hj':j<xs.length*4:=by simpa using hj
  rw[Go.Sort.get_flatK _ _ _ _ hj];constructor
  ·unfold World.cell?;simp only[c1,Option.isSome_none];exact hcell j hj'
  ·unfold World.frozen?;simp only[c1];simp
 have hcmp:CmpLays Tryz.prog 164 #[] au 4 rQ pl.B pl.o xs.toArray.size w:=by
  intro m os dk _ x y;have:=(gM ▸ Wf x y h0:ao Tryz.prog 164 [bD x,bD y] h0 _).grown (fun v h' q=>q.2) rfl (fun v hv=>by
   simp only[cE,List.not_mem_nil,or_false]at hv;rcases hv with z|z<;>rw[z]<;>rfl) (sortWorldK au 4 w pl.B pl.o m dk os)
  exact this
 have hcon:=AnyQ.slices_SortFunc Tryz.ajw 4 Tryz.isAgg99 Tryz.sizeOf99 au gK (fun x v hv=>by
  simp only[au,cE,List.not_mem_nil,or_false]at hv;rcases hv with z|z|z|z<;>rw[z]<;>rfl) rQ akt 164 #[] pl.B pl.o cap xs.toArray w (enters_of Tryz.func164 (by kernel_rfl) rfl) hcmp hH hblk (by simp;omega)
 have hcon':Calls Tryz.prog 163 ⟨[.slice (some ⟨pl.B,pl.o,none⟩) xs.length cap,.func (.func 164) #[] #[]]⟩ w _:=hcon;refine hcon'.mono ?_;rintro e w' ⟨rfl,d',n,os,hperm,hsort,rfl⟩;obtain⟨p1,p2,p3⟩:=hperm;have hd:d'.size=xs.length:=by simpa using p1
 have hdl:(d'.extract 0 xs.toArray.size).toList=d'.toList:=by simp;rw[bZ (by simp[hd])]
 have hxl:(xs.toArray.extract 0 xs.toArray.size).toList=xs:=by simp
 rw[hdl,hxl]at p3;have hys:∀i a,d'.toList[i]? =some a→d'[i]! =a∧i<xs.length:=by
  intro i a hi;have hlt:=(cY.mp hi).1;have hlt':i<d'.size:=by simpa using hlt
  refine⟨?_,by omega⟩;rw[getElem!_pos d' i hlt'];have:=(cY.mp hi).2;simpa using this
 refine⟨.tuple #[],.tuple #[],_,ρ,rfl,⟨rfl,d'.toList,p3,fun i j a b hij hi hj=>?_,rfl⟩,hbx,?_⟩
 ·obtain⟨a1,a2⟩:=hys i a hi;obtain⟨b1,b2⟩:=hys j b hj;have:=hsort i j (Nat.zero_le _) hij (by simpa using b2);rw[wR,a1,b1]at this;exact this
 ·have hfl':(d'.toList.flatMap au).length=xs.length*4:=by rw[fg 4 gK];simp[hd]
  have hheap:(sortWorldK au 4 w pl.B pl.o n d' os).heap=(w.heap.modify pl.B (Go.Sort.onCells (Go.Sort.putCells id pl.o (Go.Sort.flatK au 4 d'))))++os:=rfl;have hsz:(w.heap.modify pl.B (Go.Sort.onCells (Go.Sort.putCells id pl.o (Go.Sort.flatK au 4 d')))).size=w.heap.size:=by simp
  obtain⟨q1,q2⟩:=rh R hk hb (cs':=d'.toList.flatMap au) (by rw[hfl',hfl]) (w':=sortWorldK au 4 w pl.B pl.o n d' os) rfl rfl rfl (Nat.le_add_right _ _) (by rw[hheap,Array.size_append,hsz];omega)
   (fun B hB hne=>by
    rw[hheap,Array.getElem?_append_left (by rw[hsz];exact hB),Array.getElem?_modify,if_neg (Ne.symm hne)])
   (fun C2 e2 fz2 hC2=>by
    rw[c1]at hC2;simp only[aw,Obj.cells.injEq]at hC2;obtain⟨rfl,rfl,rfl⟩:=hC2;refine⟨Go.Sort.putCells id pl.o (Go.Sort.flatK au 4 d') C,?_,by simp[Go.Sort.putCells],fun i v hi=>?_⟩
    ·rw[hheap,Array.getElem?_append_left (by rw[hsz];exact hblk),Array.getElem?_modify,if_pos rfl,c1];rfl
    ·have hi':i<xs.length*4:=(by have:=(cY.mp hi).1;omega);have hg:=Jq au 4 gK d'.toList i (by simpa[hd]using hi');rw[hg]at hi;obtain rfl:=bP hi;have hin:pl.o+i<C.size:=(by omega);refine⟨(au d'[i / 4]!)[i % 4]!,?_,?_⟩
     ·unfold Go.Sort.putCells;rw[Array.getElem?_mapIdx,Array.getElem?_eq_getElem hin];simp only[fJ,id];rw[if_pos ⟨by omega,by rw[Go.Sort.size_flatK,hd];omega⟩,Nat.add_sub_cancel_left,Go.Sort.get_flatK _ _ _ _ (by rw[hd];exact hi')]
     ·simp only[Array.toArray_toList];have hm:(au d'[i / 4]!)[i % 4]!∈d'.toList.flatMap au:=by
       have:=dY hg;simpa using this
      obtain⟨n,hn⟩:=Pn _ _ hm;rw[hn];exact .int _ _)
  exact⟨q1,q2,.gu rfl⟩
end Go.Proofs.Ybk.V
namespace Go.Proofs.Ybk
open Go Go.Am
def KA (i:Nat):List Nat:=if i<1 then[0,1,4]else[]
def DO:az:=⟨[],KA,aX⟩
theorem adG:aA PP DO Tryz.f163.ntmps (ai Tryz.f163)=true:=by kernel_rfl
def KG (i:Nat):List Nat:=if i<1 then[0,2]else[]
def DT:az:=⟨[],KG,aX⟩
theorem adM:aA PP DT Tryz.f168.ntmps (ai Tryz.f168)=true:=by kernel_rfl
def Lv (i:Nat):List Nat:=if i<15 then if i<7 then if i<3 then if i<1 then[0,1,2,3,4,10]else if i<2 then[0,1,2,3,4,10,11]else[0,1,2,3,4,10,11,12]else if i<5 then if i<4 then[0,1,2,3,4,10,11,12,25]else[]else if i<6 then[0,1,2,3,4,10,11,12,32]else[]else if i<11 then if i<9 then if i<8 then[0,1,2,3,4,10,11,12,39]else[0,1,2,3,4,10,11,12]else if i<10 then[0,1,2,3,4,10,11,12]else[0,1,2,3,4,10,11,12,13,14]else if i<13 then if i<12 then[0,1,2,3,4,10,11,12,13,14,56]else[0,1,2,3,4,10,11,12,13]else if i<14 then[0,1,2,3,4,10,11,12,13]else[0,1,2,3,4,10,11,12,13,14]else if i<23 then if i<19 then if i<17 then if i<16 then[0,1,2,3,4,10,11,12,13,75]else[0,1,2,3,4,10,11,12,13,80]else if i<18 then[0,1,2,3,4,10,11,12,13,97]else[0,2,3,4,10,11,15]else if i<21 then if i<20 then[0,1,2,3,4,10,11]else[0,1,2,3,4,12,16,17]else if i<22 then[0,1,2,3,4,11,12,16]else[0,1,2,3,4,11,12,16,18,19]else if i<27 then if i<25 then if i<24 then[0,1,2,3,4,11,16,18,19,20]else[0,1,2,3,4,11,16,18,19,20,125]else if i<26 then[0,1,2,3,4,10,11,16]else[0,2,3,4,10,11,16]else if i<29 then if i<28 then[0,1,2,3,4,10,11]else[0,1,2,3,4,10,11,16]else if i<30 then[0,1,3,4,10,11,16]else[0,1,2,3,4,10,11]
def HP (i:Nat):cf:=if i=17 then⟨[],[0,1,2,3,4,5,6,7,8,9,10,11,12,13,14,15,16],[(0,[]),(1,[]),(2,[]),(3,[]),(3,[]),(3,[]),(3,[5]),(3,[4,5,6]),(3,[4,5,6,7]),(3,[]),(3,[]),(3,[9,10]),(3,[9,10,11]),(13,[]),(14,[]),(15,[]),(16,[])],[]⟩else⟨[],[],[],[]⟩
def ES:az:=⟨[],Lv,HP⟩
theorem aev:aA PP ES Tryz.f219.ntmps (ai Tryz.f219)=true:=by kernel_rfl
def Lx (i:Nat):List Nat:=if i<1 then[0]else if i<2 then[2]else[2]
def EU:az:=⟨[],Lx,aX⟩
theorem aex:aA PP EU Tryz.f220.ntmps (ai Tryz.f220)=true:=by kernel_rfl
def Ly (i:Nat):List Nat:=if i<15 then if i<7 then if i<3 then if i<1 then[0,1,2,3,8]else if i<2 then[0,1,2,3,8,9]else[0,1,2,3,8,9,10]else if i<5 then if i<4 then[0,1,2,3,8,9,10,23]else[]else if i<6 then[0,1,2,3,8,9,10,29]else[]else if i<11 then if i<9 then if i<8 then[0,1,2,3,8,9,10,35]else[0,1,2,3,8,9,10]else if i<10 then[0,1,2,3,8,9,10]else[0,1,2,3,8,9,10,11,12]else if i<13 then if i<12 then[0,1,2,3,8,9,10,11,12,50]else[0,1,2,3,8,9,10,11]else if i<14 then[0,1,2,3,8,9,10,11]else[0,1,2,3,8,9,10,11,12]else if i<23 then if i<19 then if i<17 then if i<16 then[0,1,2,3,8,9,10,11,68]else[0,1,2,3,8,9,10,11,72]else if i<18 then[0,1,2,3,8,9,10,11,87]else[0,2,3,8,9,13]else if i<21 then if i<20 then[0,1,2,3,8,9]else[0,1,2,3,10,14,15]else if i<22 then[0,1,2,3,9,10,14]else[0,1,2,3,9,10,14,16,17]else if i<27 then if i<25 then if i<24 then[0,1,2,3,9,14,16,17,18]else[0,1,2,3,9,14,16,17,18,113]else if i<26 then[0,1,2,3,8,9,14]else[0,2,3,8,9,14]else if i<29 then if i<28 then[0,1,2,3,8,9]else[0,1,2,3,8,9,14]else if i<30 then[0,1,3,8,9,14]else[0,1,2,3,8,9]
def HQ (i:Nat):cf:=if i=17 then⟨[],[0,1,2,3,4,5,6,7,8,9,10,11,12,13,14],[(0,[]),(1,[]),(2,[]),(3,[]),(3,[]),(3,[4]),(6,[]),(7,[]),(3,[]),(3,[]),(3,[8,9]),(3,[8,9,10]),(12,[]),(13,[]),(14,[])],[]⟩else⟨[],[],[],[]⟩
def EV:az:=⟨[],Ly,HQ⟩
theorem aey:aA PP EV Tryz.f221.ntmps (ai Tryz.f221)=true:=by kernel_rfl
def LV (i:Nat):List Nat:=if i<3 then if i<1 then[0,1,2,3,8]else if i<2 then[0,1,2,3,8,14]else[0,1,2,3,8]else if i<5 then if i<4 then[0,1,2,3,8,9]else[0,1,2,3,8,9,34]else if i<6 then[0,1,2,3,8,9]else[0,1,2,3,8,9]
def Ia (i:Nat):cf:=if i=4 then⟨[],[0,1,2,3,4,5,6,7,8,9,10,11,12,13,14,15,16],[(0,[]),(0,[]),(2,[]),(3,[]),(4,[]),(4,[]),(4,[]),(4,[5,6]),(4,[5,6,7]),(4,[]),(4,[]),(4,[10]),(4,[9,10,11]),(4,[9,10,11,12]),(14,[]),(15,[]),(16,[])],[]⟩else if i=6 then⟨[],[0,1,2,3,4,5,6,7,8,9,10,11,12,13,14,15,16,17],[(0,[]),(0,[]),(0,[]),(0,[]),(0,[3]),(0,[]),(0,[]),(0,[6]),(0,[5,6,7]),(0,[5,6,7,8]),(0,[]),(0,[]),(0,[10,11]),(0,[10,11,12]),(2,[5,6,7,8,9,10,11,12,13]),(2,[5,6,7,8,9,10,11,12,13,14]),(16,[]),(17,[])],[]⟩else⟨[],[],[],[]⟩
def Ft:az:=⟨[],LV,Ia⟩
theorem aeR:aA PP Ft Tryz.f258.ntmps (ai Tryz.f258)=true:=by kernel_rfl
def LW (i:Nat):List Nat:=if i<5 then if i<2 then if i<1 then[0,2]else[0,2,4]else if i<3 then[0]else if i<4 then[0,2]else[0,2,8]else if i<8 then if i<6 then[0,2]else if i<7 then[0,2]else[0,2,14]else if i<9 then[0,2]else if i<10 then[0,2]else[2]
def Fu:az:=⟨[],LW,aX⟩
theorem aeS:aA PP Fu Tryz.f267.ntmps (ai Tryz.f267)=true:=by kernel_rfl
def LX (i:Nat):List Nat:=if i<3 then if i<1 then[0,1,2,6]else if i<2 then[0,1,2,6,12]else[0,1,2,6]else if i<5 then if i<4 then[0,1,2,6,7]else[0,1,2,6,7,30]else if i<6 then[0,1,2,6,7]else[0,1,2,6,7]
def Ib (i:Nat):cf:=if i=4 then⟨[],[0,1,2,3,4,5,6,7,8,9,10,11,12,13,14],[(0,[]),(0,[]),(2,[]),(3,[]),(4,[]),(4,[]),(6,[]),(7,[]),(4,[]),(4,[]),(4,[9]),(4,[8,9,10]),(4,[8,9,10,11]),(13,[]),(14,[])],[]⟩else if i=6 then⟨[],[0,1,2,3,4,5,6,7,8,9,10,11,12,13,14,15,16,17],[(0,[]),(0,[]),(0,[]),(0,[]),(0,[3]),(0,[]),(0,[]),(0,[6]),(0,[5,6,7]),(0,[5,6,7,8]),(0,[]),(0,[]),(0,[10,11]),(0,[10,11,12]),(2,[5,6,7,8,9,10,11,12,13]),(2,[5,6,7,8,9,10,11,12,13,14]),(16,[]),(17,[])],[]⟩else⟨[],[],[],[]⟩
def Fv:az:=⟨[],LX,Ib⟩
theorem aeT:aA PP Fv Tryz.f268.ntmps (ai Tryz.f268)=true:=by kernel_rfl
attribute [simp] KA DO KG DT Lv ES HP Lx EU Ly EV HQ LV Ft Ia LW Fu LX Fv Ib
end Go.Proofs.Ybk
namespace Go.Proofs.Ybk.V
open Go Go.Am
set_option maxHeartbeats 2000000
theorem ZH (h:aa):ao PP 267 [.int .u64 0] h (fun v h'=>h'=h∧v= .int .i64 0):=by
 refine aC mix (aD Tryz.func267) rfl rfl rfl aeS ?_;simp only[ai,Tryz.f267];have e1:IntKind.wrap .u8 0=0:=rfl;have e2:IntKind.wrap .i64 0=0:=rfl;simp -implicitDefEqProofs[e1,e2];rfl
theorem Nk (h:aa):ao PP 220 [.int .u64 0] h (fun v h'=>h'=h∧v= .int .i64 0):=by
 refine aC mix (aD Tryz.func220) rfl rfl rfl aex ?_;simp only[ai,Tryz.f220];simp -implicitDefEqProofs;refine(ZH h).mono ?_;rintro v h' ⟨rfl,rfl⟩;simp -implicitDefEqProofs[af]
def Sr (h:aa) (n:Nat) (σ:St):Prop:=n=0∧σ.m.h=h∧σ.t.get 8=some (.int .i64 1)∧σ.t.get 2=some (.int .i64 0)
theorem Y9 (ad:Option Addr) (c:Nat) (h:aa):ao PP 258 [.slice ad 0 c,.int .i64 0,.int .i64 0,.func (.func 164) #[] #[]] h (fun v h'=>h'=h∧v= .tuple #[]):=by
 refine aC mix (aD Tryz.func258) rfl rfl rfl aeR ?_;simp only[ai,Tryz.f258];have e1:IntKind.wrap .i64 1=1:=rfl;simp -implicitDefEqProofs[e1];refine bL (Sr h) _ ⟨rfl,rfl,by simp⟩ ?_;rintro n ⟨T,⟨x,H⟩⟩ ⟨rfl,hH,g8,g2⟩;simp at hH g8 g2;subst hH;simp -implicitDefEqProofs[g8,g2]
def Sn (v:Value) (h:aa) (n:Nat) (σ:St):Prop:=n=0∧σ.m.h=h∧σ.t.get 0=some v∧σ.t.get 1=some (.int .i64 0)∧σ.t.get 2=some (.int .i64 0)∧σ.t.get 4=some (.func (.func 164) #[] #[])
theorem ag5 (ad:Option Addr) (c:Nat) (h:aa):ao PP 219 [.slice ad 0 c,.int .i64 0,.int .i64 0,.int .i64 0,.func (.func 164) #[] #[]] h (fun v h'=>h'=h∧v= .tuple #[]):=by
 refine aC mix (aD Tryz.func219) rfl rfl rfl aev ?_;simp only[ai,Tryz.f219];simp -implicitDefEqProofs;refine bL (Sn (.slice ad 0 c) h) _ ⟨rfl,rfl,by simp⟩ ?_;rintro n ⟨T,⟨x,H⟩⟩ ⟨rfl,hH,g0,g1,g2,g4⟩;simp at hH g0 g1 g2 g4;subst hH;have e1:IntKind.wrap .i64 0=0:=rfl;simp -implicitDefEqProofs[g0,g1,g2,g4,e1];refine(Y9 ad c H).mono ?_;rintro v h' ⟨rfl,rfl⟩;simp -implicitDefEqProofs[af]
theorem ajo (ad:Option Addr) (c:Nat) (h:aa):ao PP 163 [.slice ad 0 c,.func (.func 164) #[] #[]] h (fun v h'=>h'=h∧v= .tuple #[]):=by
 refine aC mix (aD Tryz.func163) rfl rfl rfl adG ?_;simp only[ai,Tryz.f163];have e1:IntKind.wrap .u64 0=0:=rfl;simp -implicitDefEqProofs[e1];refine(Nk h).mono ?_;rintro v h' ⟨rfl,rfl⟩;simp -implicitDefEqProofs[af];intro _;refine(ag5 ad c h').mono ?_;rintro v h' ⟨rfl,rfl⟩;simp -implicitDefEqProofs[af]
def Ss (h:aa) (n:Nat) (σ:St):Prop:=n=0∧σ.m.h=h∧σ.t.get 6=some (.int .i64 1)∧σ.t.get 2=some (.int .i64 0)
def Sp (v:Value) (h:aa) (n:Nat) (σ:St):Prop:=n=0∧σ.m.h=h∧σ.t.get 0=some v∧σ.t.get 1=some (.int .i64 0)∧σ.t.get 2=some (.int .i64 0)
theorem Y6 (ad:Option Addr) (c:Nat) (h:aa):ao PP 268 [.slice ad 0 c,.int .i64 0,.int .i64 0] h (fun v h'=>h'=h∧v= .tuple #[]):=by
 refine aC mix (aD Tryz.func268) rfl rfl rfl aeT ?_;simp only[ai,Tryz.f268];have e1:IntKind.wrap .i64 1=1:=rfl;simp -implicitDefEqProofs[e1];refine bL (Ss h) _ ⟨rfl,rfl,by simp⟩ ?_;rintro n ⟨T,⟨x,H⟩⟩ ⟨rfl,hH,g8,g2⟩;simp at hH g8 g2;subst hH;simp -implicitDefEqProofs[g8,g2]
theorem ag1 (ad:Option Addr) (c:Nat) (h:aa):ao PP 221 [.slice ad 0 c,.int .i64 0,.int .i64 0,.int .i64 0] h (fun v h'=>h'=h∧v= .tuple #[]):=by
 refine aC mix (aD Tryz.func221) rfl rfl rfl aey ?_;simp only[ai,Tryz.f221];simp -implicitDefEqProofs;refine bL (Sp (.slice ad 0 c) h) _ ⟨rfl,rfl,by simp⟩ ?_;rintro n ⟨T,⟨x,H⟩⟩ ⟨rfl,hH,g0,g1,g2⟩;simp at hH g0 g1 g2;subst hH;have e1:IntKind.wrap .i64 0=0:=rfl;simp -implicitDefEqProofs[g0,g1,g2,e1];refine(Y6 ad c H).mono ?_;rintro v h' ⟨rfl,rfl⟩;simp -implicitDefEqProofs[af]
theorem ajr (ad:Option Addr) (c:Nat) (h:aa):ao PP 168 [.slice ad 0 c] h (fun v h'=>h'=h∧v= .tuple #[]):=by
 refine aC mix (aD Tryz.func168) rfl rfl rfl adM ?_;simp only[ai,Tryz.f168];have e1:IntKind.wrap .u64 0=0:=rfl;simp -implicitDefEqProofs[e1];refine(Nk h).mono ?_;rintro v h' ⟨rfl,rfl⟩;simp -implicitDefEqProofs[af];intro _;refine(ag1 ad c h').mono ?_;rintro v h' ⟨rfl,rfl⟩;simp -implicitDefEqProofs[af]
def jc (xs:List Int):List Int:=xs.mergeSort (fun x y=>decide (x≤y))
theorem Za (xs:List Int):xs.flatMap ab=xs.map (Value.int .i64):=by
 induction xs with
 |nil=>rfl
 |cons x r ih=>rw[gF,ih];rfl
theorem xr (xs:List Int) (j:Nat) (hj:j<xs.length):(xs.flatMap ab)[j]? =some (.int .i64 xs[j]):=by
 rw[Za,ix,av hj];rfl
theorem ajt (b c:Nat) (xs:List Int) (hn:xs≠[]) (hl:xs.length≤1073741824) (h:aa) (hb:h.f b= .row true 3 (xs.flatMap ab)):
  ao PP 168 [.slice (some ⟨b,0,none⟩) xs.length c] h (fun r h'=>r= .tuple #[]∧h'=h.set b (.row true 3 ((jc xs).flatMap ab))):=by
 rw[gM];refine⟨⟨Tryz.f168,Tryz.func168,by kernel_rfl,by kernel_rfl⟩,fun ρ w args' hbx R V=>?_⟩;obtain⟨v0,hv0,V0⟩:=V.2 0 _ rfl;have hargs:args'=[v0]:=by
  have:=V.1;match args',hv0,this with
  |[p],h0,_=>simp at h0;rw[h0]
 subst hargs;have hlen:0<xs.length:=rJ.2 hn;obtain⟨pl,cap,hk,e0⟩:∃pl cap,ρ (false,b)=some pl∧v0= .slice (some ⟨pl.B,pl.o,none⟩) xs.length cap:=by
  rcases V0.ni with⟨a',e,_⟩|⟨b',off,pl,cap,e,hk,hc,hn',rfl⟩
  ·omega
  ·simp only[Addr.mk.injEq,and_true]at e;obtain⟨rfl,rfl⟩:=e;exact⟨pl,cap,hk,by simp⟩
 subst e0;obtain⟨C,e',fz,c1,c2,c3,c4,c5,c6⟩:=R.row (false,b) pl true 3 (xs.flatMap ab) hk (by simp[Mem.row?,hb]);obtain rfl:=c2 rfl;have hblk:=R.bound _ _ hk;have hfl:(xs.flatMap ab).length=xs.length:=by have:=fg 1 dV xs;omega
 have hcell:∀j (hj:j<xs.length),C[pl.o+j]? =some (.int .i64 xs[j]):=by
  intro j hj;obtain⟨v',q1,q2⟩:=c6 j _ (xr xs j hj);rw[q1];congr 1;exact q2.dm rfl
 have hH:Go.Sort.Holds (Value.int .i64) w pl.B pl.o xs.toArray:=by
  intro j hj;have hj':j<xs.length:=by simpa using hj
  have e:xs.toArray[j]! =xs[j]:=by simp[hj']
  rw[e];constructor
  ·unfold World.cell?;simp only[c1,Option.isSome_none];exact hcell j hj'
  ·unfold World.frozen?;simp only[c1];simp
 have hcon':Calls Tryz.prog 168 ⟨[.slice (some ⟨pl.B,pl.o,none⟩) xs.length cap]⟩ w _:=Any.slices_Sort_int Tryz.aju pl.B pl.o cap xs w hH hblk (by omega);refine hcon'.mono ?_;rintro e w' ⟨rfl,n,os,rfl⟩;have hd:(jc xs).length=xs.length:=List.length_mergeSort _;refine⟨.tuple #[],.tuple #[],_,ρ,rfl,⟨rfl,rfl⟩,hbx,?_⟩;have hfl':((jc xs).flatMap ab).length=xs.length:=by have:=fg 1 dV (jc xs);omega
 have hheap:(Go.Sort.grow (Go.Sort.putRow (Value.int .i64) (Go.Sort.ahead w n) pl.B pl.o (jc xs).toArray) os).heap=(w.heap.modify pl.B (Go.Sort.onCells (Go.Sort.putCells (Value.int .i64) pl.o (jc xs).toArray)))++os:=rfl;have hsz:(w.heap.modify pl.B (Go.Sort.onCells (Go.Sort.putCells (Value.int .i64) pl.o (jc xs).toArray))).size=w.heap.size:=by simp
 obtain⟨q1,q2⟩:=rh R hk hb (cs':=(jc xs).flatMap ab) (by rw[hfl',hfl]) (w':=Go.Sort.grow (Go.Sort.putRow (Value.int .i64) (Go.Sort.ahead w n) pl.B pl.o (jc xs).toArray) os) rfl rfl rfl (Nat.le_add_right _ _) (by rw[hheap,Array.size_append,hsz];omega)
  (fun B hB hne=>by
   rw[hheap,Array.getElem?_append_left (by rw[hsz];exact hB),Array.getElem?_modify,if_neg (Ne.symm hne)])
  (fun C2 e2 fz2 hC2=>by
   rw[c1]at hC2;simp only[aw,Obj.cells.injEq]at hC2;obtain⟨rfl,rfl,rfl⟩:=hC2;refine⟨Go.Sort.putCells (Value.int .i64) pl.o (jc xs).toArray C,?_,by simp[Go.Sort.putCells],fun i v hi=>?_⟩
   ·rw[hheap,Array.getElem?_append_left (by rw[hsz];exact hblk),Array.getElem?_modify,if_pos rfl,c1];rfl
   ·have hi':i<(jc xs).length:=(by have:=(cY.mp hi).1;omega);rw[xr _ i hi']at hi;obtain rfl:=bP hi;have hin:pl.o+i<C.size:=(by omega);refine⟨.int .i64 (jc xs)[i],?_,.int _ _⟩;unfold Go.Sort.putCells;rw[Array.getElem?_mapIdx,Array.getElem?_eq_getElem hin];simp only[fJ];rw[if_pos ⟨by omega,by simp;omega⟩,Nat.add_sub_cancel_left];simp[hi'])
 exact⟨q1,q2,.gu rfl⟩
def Tc (xs:List Int):Prop:=∀(i:Nat) (a b:Int),xs[i]? =some a→xs[i+1]? =some b→a≠b
def Sa (v:Value) (m:Nat) (h:aa) (n:Nat) (σ:St):Prop:=∃i:Nat,n=m-i∧1≤i∧i≤m∧σ.m.h=h∧σ.t.get 0=some v∧σ.t.get 3=some (.int .i64 (i:Nat))
theorem Wt (v:Value) (xs:List Int) (hl:xs.length≤1073741824) (hx:Tc xs) (h:aa) (hs:bq h v xs):ao PP 169 [v] h (fun r h'=>h'=h∧r=v):=by
 refine aC mix (aD Tryz.func169) rfl rfl rfl adN ?_;simp only[ai,Tryz.f169];obtain⟨ad,c,rfl⟩:=hs.shape;obtain⟨m,hm⟩:∃m,m=xs.length:=⟨_,rfl⟩;rw[←hm]at hs ⊢;by_cases h2:(m:Int)<2
 ·simp -implicitDefEqProofs[h2]
 ·simp -implicitDefEqProofs[h2];refine bL (Sa (.slice ad m c) m h) _ ⟨1,rfl,by omega,by omega,rfl,by simp⟩ ?_;rintro n ⟨T,⟨x,H⟩⟩ ⟨i,rfl,fQ,hi,hH,g0,g3⟩;simp at hH g0 g3;subst hH;simp -implicitDefEqProofs[g0,g3];refine bY (fun hc=>?_) (fun hc=>?_)
  ·have him:i<m:=(by omega);obtain⟨j,hj⟩:∃j,j=i-1:=⟨_,rfl⟩;have hjm:j<m:=(by omega);have ha:xs[i]? =some xs[i]:=av (by omega);have hb:xs[j]? =some xs[j]:=av (by omega);obtain⟨_,b1,o1,wb1,cs1,r1,rfl,bI,hd1,hl1,_⟩:=hs.at 1 dV ha;obtain⟨_,b2,o2,wb2,cs2,r2,e1,bQ,hd2,hl2,_⟩:=hs.at 1 dV hb;simp only[aw,Addr.mk.injEq,and_true]at e1;obtain⟨rfl,rfl⟩:=e1;rw[bI]at bQ;simp only[aZ.row.injEq,true_and]at bQ;obtain⟨rfl,rfl⟩:=bQ;have hne:¬xs[i]=xs[j]:=by
    have:=hx j _ _ hb (by rw[show j+1=i by omega];exact ha);exact fun e=>this e.symm
   rw[Nat.mul_one]at hd1 hd2 hl1 hl2;have w1:=bU (i:=i) (by omega);have w2:IntKind.wrap .i64 ((i:Int)-1)=(j:Int):=(by rw[bK (by omega)];omega);simp -implicitDefEqProofs[g0,g3,him,hjm,bI,hd1,hd2,hl1,hl2,ab,w2,hne,w1];exact⟨m-(i+1),by omega,i+1,rfl,by omega,by omega,rfl,by simp[g0]⟩
  ·simp -implicitDefEqProofs[g0,g3]
def fa (v:aj):List aq:=v.aE.map (fun k=>v.ag.getD k.toNat default)
def oG (v:aj):Bool:=v.aE.all (fun k=>decide (0≤k)&&decide (k<v.ag.length))
def kh:List Value:=[.slice none 0 0,.int .i64 0,.int .i64 0,.slice none 0 0,.slice none 0 0]
def Ry (cs:List Value) (v:aj) (ks:Value) (h:aa) (n:Nat) (σ:St):Prop:=∃(i:Nat) (kv:Value),n=v.aE.length-i∧i≤v.aE.length∧Ext h σ.m.h∧cL 99 au h σ.m.h kv ((fa v).take i)∧
 (∀j k,j<i→v.aE[j]? =some k→0≤k∧k<v.ag.length)∧
 σ.t.get 1=some (.pointer (some ⟨1,0,some 0⟩))∧σ.t.get 2=some (.pointer (some ⟨2,0,some 0⟩))∧σ.t.get 4=some kv∧σ.t.get 11=some ks∧σ.t.get 12=some (.int .i64 (v.aE.length:Nat))∧σ.t.get 13=some (.int .i64 (i:Nat))∧
 σ.m.x.look 1=some (63,cs)∧σ.m.x.look 2=some (63,kh)
theorem cL.nh {α:Type} {e:TypeId} {enc:α→List Value} {h0 h:aa} {v:Value} {xs:List α} (H:cL e enc h0 h v xs) {b:Nat} (cs:aZ) (hb:b<h0.n):cL e enc h0 (h.set b cs) v xs:=by
 obtain⟨ad,rfl,z⟩:=H;refine⟨ad,rfl,?_⟩;rcases z with z|⟨b',z1,z2,z3,z4⟩
 ·exact .inl z
 ·exact .inr ⟨b',z1,by rw[gT,if_neg (by omega),z2],z3,z4⟩
theorem ajp (v:Value) (xs:List aq) (h0 h:aa) (hl:xs.length≤1073741824) (H:cL 99 au h0 h v xs):
  ao PP 163 [v,.func (.func 164) #[] #[]] h (fun r h'=>r= .tuple #[]∧∃ys,ys.Perm xs∧kF ys∧cL 99 au h0 h' v ys∧(h'=h∨∃b n c cs,v= .slice (some ⟨b,0,none⟩) n c∧h0.n≤b∧b<h.n∧h'=h.set b cs)):=by
 by_cases hx:xs=[]
 ·subst hx;obtain⟨ad,rfl,z⟩:=H;refine(ajo ad 0 h).mono ?_;rintro r h' ⟨rfl,rfl⟩;exact⟨rfl,[],List.Perm.refl _,fun i j a b _ hi=>by simp at hi,⟨ad,rfl,z⟩,.inl rfl⟩
 ·obtain⟨ad,rfl,z⟩:=H;rcases z with⟨_,z⟩|⟨b,rfl,z2,z3,z4⟩
  ·exact absurd z hx
  ·refine(ajq b _ xs hx hl h z2).mono ?_;rintro r h' ⟨rfl,ys,hp,hs,rfl⟩;have hll:=hp.length_eq;exact⟨rfl,ys,hp,hs,⟨_,by rw[hll],.inr ⟨b,rfl,by rw[gT,if_pos rfl],z3,z4⟩⟩,.inr ⟨b,_,_,_,rfl,z3,z4,rfl⟩⟩
theorem ajs (v:Value) (xs:List Int) (h0 h:aa) (hl:xs.length≤1073741824) (H:cL 3 ab h0 h v xs):
  ao PP 168 [v] h (fun r h'=>r= .tuple #[]∧cL 3 ab h0 h' v (jc xs)∧(h'=h∨∃b n c cs,v= .slice (some ⟨b,0,none⟩) n c∧h0.n≤b∧b<h.n∧h'=h.set b cs)):=by
 by_cases hx:xs=[]
 ·subst hx;obtain⟨ad,rfl,z⟩:=H;refine(ajr ad 0 h).mono ?_;rintro r h' ⟨rfl,rfl⟩;have:jc []=[]:=by simp[jc]
  exact⟨rfl,by rw[this];exact⟨ad,rfl,z⟩,.inl rfl⟩
 ·obtain⟨ad,rfl,z⟩:=H;rcases z with⟨_,z⟩|⟨b,rfl,z2,z3,z4⟩
  ·exact absurd z hx
  ·refine(ajt b _ xs hx hl h z2).mono ?_;rintro r h' ⟨rfl,rfl⟩;have hll:(jc xs).length=xs.length:=List.length_mergeSort _;exact⟨rfl,⟨_,by rw[hll],.inr ⟨b,rfl,by rw[gT,if_pos rfl],z3,z4⟩⟩,.inr ⟨b,_,_,_,rfl,z3,z4,rfl⟩⟩
def Rz (b7:Value→List Value) (kv:Value) (K:List Int) (h0:aa) (n:Nat) (σ:St):Prop:=∃(j:Nat) (kq:Value),n=K.length-j∧j≤K.length∧Ext h0 σ.m.h∧cL 3 ab h0 σ.m.h kq (K.take j)∧
 σ.t.get 2=some (.pointer (some ⟨2,0,some 0⟩))∧σ.t.get 7=some (.pointer (some ⟨7,0,some 0⟩))∧σ.t.get 50=some kv∧σ.t.get 51=some (.int .i64 (K.length:Nat))∧σ.t.get 52=some (.int .i64 (j:Nat))∧
 σ.m.x.look 2=some (63,kh)∧σ.m.x.look 7=some (63,b7 kq)
def bM {α:Type} (e:TypeId) (enc:α→List Value) (h0 h:aa) (o:Option Nat) (xs:List α) (v:Value):Prop:=
 v= .slice (o.map fun b=>⟨b,0,none⟩) xs.length xs.length∧(match o with
  |none=>xs=[]
  |some b=>h.f b= .row true e (xs.flatMap enc)∧h0.n≤b∧b<h.n)
theorem bM.own {α:Type} {e:TypeId} {enc:α→List Value} {h0 h:aa} {o:Option Nat} {xs:List α} {v:Value} (H:bM e enc h0 h o xs v):cL e enc h0 h v xs:=by
 obtain⟨rfl,z⟩:=H;cases o with
 |none=>exact⟨none,rfl,.inl ⟨rfl,z⟩⟩
 |some b=>exact⟨_,rfl,.inr ⟨b,rfl,z.1,z.2.1,z.2.2⟩⟩
theorem bM.ext {α:Type} {e:TypeId} {enc:α→List Value} {h0 h h':aa} {o:Option Nat} {xs:List α} {v:Value} (H:bM e enc h0 h o xs v) (E:Ext h h'):bM e enc h0 h' o xs v:=by
 obtain⟨rfl,z⟩:=H;refine⟨rfl,?_⟩;cases o with
 |none=>exact z
 |some b=>exact⟨by rw[E.f b z.2.2];exact z.1,z.2.1,de z.2.2 E.n⟩
theorem bM.nh {α:Type} {e:TypeId} {enc:α→List Value} {h0 h:aa} {o:Option Nat} {xs:List α} {v:Value} (H:bM e enc h0 h o xs v) {b:Nat} (c:aZ) (hb:o≠some b):bM e enc h0 (h.set b c) o xs v:=by
 obtain⟨rfl,z⟩:=H;refine⟨rfl,?_⟩;cases o with
 |none=>exact z
 |some b'=>exact⟨by rw[gT,if_neg (fun q=>hb (by rw[q]))];exact z.1,z.2.1,z.2.2⟩
theorem bM.lt {α:Type} {e:TypeId} {enc:α→List Value} {h0 h:aa} {o:Option Nat} {xs:List α} {v:Value} (H:bM e enc h0 h o xs v) {m:Nat} (hm:h.n≤m):o≠some m:=by
 intro q;subst q;have:=H.2.2.2;omega
theorem bM.nil {α:Type} {e:TypeId} {enc:α→List Value} {h0 h:aa}:bM e enc h0 h none ([]:List α) (.slice none 0 0):=⟨rfl,rfl⟩
theorem bM.keep {α:Type} {e:TypeId} {enc:α→List Value} {h0 h:aa} {o:Option Nat} {xs:List α} {v:Value} (H:bM e enc h0 h o xs v) {b:Nat} (c0 c1:aZ) (hb:o≠some b):bM e enc h0 (((h.new c0).set b .dead).new c1) o xs v:=
 ((H.ext (Ext.new _ _)).nh _ hb).ext (Ext.new _ _)
theorem bM.push {α:Type} {e:TypeId} {enc:α→List Value} {h0 h:aa} {b:Nat} {xs:List α} {v:Value} (H:bM e enc h0 h (some b) xs v) (c0:aZ) (x:α) {cells:List Value} (hc:cells=(xs++[x]).flatMap enc):
  bM e enc h0 (((h.new c0).set b .dead).new (.row true e cells)) (some (h.n+1)) (xs++[x]) (.slice (some ⟨h.n+1,0,none⟩) (xs.length+1) (xs.length+1)):=by
 obtain⟨_,_,h1,h2⟩:=H;refine⟨by simp,?_,?_,?_⟩
 ·simp[hc]
 ·omega
 ·simp
theorem bM.yi {α:Type} {e:TypeId} {enc:α→List Value} {h0 h:aa} (hn:h0.n≤h.n) (c0:aZ) (x:α) {cells:List Value} (hc:cells=enc x):
  bM e enc h0 ((h.new c0).new (.row true e cells)) (some (h.n+1)) [x] (.slice (some ⟨h.n+1,0,none⟩) 1 1):=by
 refine⟨by simp,?_,?_,?_⟩
 ·simp[hc]
 ·omega
 ·simp
theorem zK {h0 h:aa} (E:Ext h0 h) {b:Nat} (hb:h0.n≤b) (c0 c1 c2:aZ):Ext h0 (((h.new c0).set b c2).new c1):=((E.bN _).dh hb _).bN _
def Ap (a b:Option Nat):Prop:=∀n,a=some n→b≠some n
def zb (h0 h:aa) (v:aj) (a b c:Option Nat) (cs:List Value):Prop:=∃s k p,cs=[s,.int .i64 v.aW,.int .i64 v.bC,k,p]∧bM 99 au h0 h a v.ag s∧bM 3 ab h0 h b v.aE k∧bM 103 bg h0 h c v.aI p∧Ap a b∧Ap a c∧Ap b c
structure Made (i:Nat) (v:aj) (row x:Int):Prop where
 aW:v.aW=10
 bC:0≤v.bC∧v.bC≤24
 len:v.ag.length=i+1
 xx:v.aE.length≤i
 ye:v.aI.length≤i
 last:∃s,v.ag[i]? =some s∧s.row=row∧s.x=x
 Pe:0≤row∧row≤i
 xB:0≤x∧x≤15*i
 eu:∀s∈v.ag,0≤s.row∧s.row≤i∧0≤s.x∧s.x≤15*i∧s.y=10*s.row∧0≤s.kind∧s.kind≤2
 up:∀j s t,v.ag[j]? =some s→v.ag[j+1]? =some t→eP s t=true
 kill:∀a∈v.aE,1≤a∧a≤i
 Al:∀j a b,v.aE[j]? =some a→v.aE[j+1]? =some b→a<b
 gv:∀p∈v.aI,0≤p.x∧p.x≤15*i∧0≤p.y∧p.y≤10*i∧1≤p.r∧p.r≤12
def tg (lv:Value) (cD:Int) (h:aa) (i:Nat) (v:aj) (row x:Int) (σ:St):Prop:=∃(a b c:Option Nat) (cs:List Value),Ext h σ.m.h∧zb h σ.m.h v a b c cs∧a≠none∧
 σ.t.get 0=some lv∧σ.t.get 1=some (.int .i64 cD)∧σ.t.get 4=some (.pointer (some ⟨4,0,some 0⟩))∧σ.t.get 5=some (.pointer (some ⟨5,0,some 0⟩))∧σ.t.get 6=some (.int .i64 row)∧σ.t.get 7=some (.int .i64 x)∧σ.t.get 8=some (.int .i64 (i:Nat))∧
 σ.m.x.look 4=some (63,kh)∧σ.m.x.look 5=some (63,cs)
def yV (lv:Value) (cD:Int) (h:aa) (n:Nat) (σ:St):Prop:=∃(i:Nat) (v:aj) (row x:Int),n=(cD-i).toNat∧(i:Int)<cD∧Made i v row x∧tg lv cD h i v row x σ
def PE (row x row' x':Int):Prop:=(row'=row∧x<x'∧x'≤x+15)∨(row'=row+1∧x'=0)
theorem Qt {α:Type} {r:α→α→Prop} {l:List α} {z:α} (h:∀j s t,l[j]? =some s→l[j+1]? =some t→r s t) (hz:∀s,l.getLast? =some s→r s z):∀j s t,(l++[z])[j]? =some s→(l++[z])[j+1]? =some t→r s t:=by
 intro j s t h1 h2;rcases Nat.lt_trichotomy (j+1) l.length with q|q|q
 ·rw[jz (by omega)]at h1 h2;exact h j s t h1 h2
 ·rw[jz (by omega)]at h1;rw[iW (by omega),q]at h2;simp at h2;subst h2;refine hz s ?_;rw[List.getLast?_eq_getElem?,←q];exact h1
 ·rw[iK (by simp;omega)]at h2;cases h2
theorem aam {i:Nat} {v:aj} {row x:Int} (M:Made i v row x) {row' x':Int} (hst:PE row x row' x') {k:Int} (hk0:0≤k) (hk2:k≤2) {ks:List Int} {ps:List aU} {r:Int}
  (hks:ks=v.aE∨ks=v.aE++[((i+1:Nat):Int)]) (hps:ps=v.aI∨∃r,1≤r∧r≤12∧ps=v.aI++[⟨x',10*row',r⟩]) (hr:r=v.bC∨0≤r∧r≤24):
  Made (i+1) ⟨v.ag++[⟨row',x',10*row',k⟩],v.aW,r,ks,ps⟩ row' x':=by
 have hrB:=M.Pe;have hxB:=M.xB;have hrow1:0≤row'∧row'≤i+1:=by rcases hst with h|h<;>omega
 have hx1:0≤x'∧x'≤15*(i+1):=by rcases hst with h|h<;>omega
 refine⟨M.aW,?_,by simp[M.len],?_,?_,⟨⟨row',x',10*row',k⟩,by rw[iW (by simp[M.len]),M.len];simp,rfl,rfl⟩,by omega,by omega,?_,?_,?_,?_,?_⟩
 ·rcases hr with rfl|h
  ·exact M.bC
  ·exact h
 ·have:=M.xx;rcases hks with rfl|rfl<;>simp<;>omega
 ·have:=M.ye;rcases hps with rfl|⟨_,_,_,rfl⟩<;>simp<;>omega
 ·intro s hs;rcases ei.1 hs with h|h
  ·obtain⟨z1,z2,z3,z4,z5,z6⟩:=M.eu s h;exact⟨z1,by omega,z3,by omega,z5,z6⟩
  ·obtain rfl:=eo.1 h;exact⟨hrow1.1,by simp only;omega,hx1.1,by simp only;omega,rfl,hk0,hk2⟩
 ·refine Qt M.up (fun s hs=>?_);obtain⟨s0,e0,e1,e2⟩:=M.last;rw[List.getLast?_eq_getElem?,M.len,rH,e0]at hs;obtain rfl:=bP hs;rw[kN];simp only;rcases hst with h|h<;>omega
 ·intro a ha;rcases hks with rfl|rfl
  ·have:=M.kill a ha;omega
  ·rcases ei.1 ha with h|h
   ·have:=M.kill a h;omega
   ·obtain rfl:=eo.1 h;omega
 ·rcases hks with rfl|rfl
  ·exact M.Al
  ·refine Qt (r:=fun a b=>a<b) M.Al (fun s hs=>?_);have:=M.kill s (List.mem_of_getLast? hs);omega
 ·intro p hp;rcases hps with rfl|⟨r',h1,h2,rfl⟩
  ·have:=M.gv p hp;omega
  ·rcases ei.1 hp with h|h
   ·have:=M.gv p h;omega
   ·obtain rfl:=eo.1 h;simp only;omega
def M1 (lv:Value) (cD:Int) (h:aa) (i:Nat) (v:aj) (row x u:Int) (σ:St):Prop:=∃row' x',PE row x row' x'∧tg lv cD h i v row' x' σ∧σ.t.get 9=some (.int .u64 u)
def M2 (lv:Value) (cD:Int) (h:aa) (i:Nat) (v:aj) (row x u:Int) (σ:St):Prop:=∃k,0≤k∧k≤2∧tg lv cD h i v row x σ∧σ.t.get 9=some (.int .u64 u)∧σ.t.get 10=some (.pointer (some ⟨10,0,some 0⟩))∧σ.m.x.look 10=some (99,au ⟨row,x,10*row,k⟩)
def M3 (lv:Value) (cD:Int) (h:aa) (i:Nat) (v:aj) (row x u:Int) (σ:St):Prop:=∃ks,(ks=v.aE∨ks=v.aE++[((i+1:Nat):Int)])∧tg lv cD h i {v with aE:=ks} row x σ∧σ.t.get 9=some (.int .u64 u)
def M4 (lv:Value) (cD:Int) (h:aa) (i:Nat) (v:aj) (row x u:Int) (σ:St):Prop:=∃ps,(ps=v.aI∨∃r,1≤r∧r≤12∧ps=v.aI++[⟨x,10*row,r⟩])∧tg lv cD h i {v with aI:=ps} row x σ∧σ.t.get 9=some (.int .u64 u)
def M5 (lv:Value) (cD:Int) (h:aa) (i:Nat) (v:aj) (row x:Int) (σ:St):Prop:=∃r,(r=v.bC∨0≤r∧r≤24)∧tg lv cD h i {v with bC:=r} row x σ
def Tb (cD:Int) (h:aa) (r:Value) (h':aa):Prop:=Ext h h'∧∃(i:Nat) (v:aj) (row x:Int) (a b c:Option Nat) (cs:List Value),(i:Int)<cD∧Made i v row x∧a≠none∧zb h h' v a b c cs∧r= .agg ⟨cs⟩
theorem aan (lv:Value) (l:List Int) (cD:Int) (hm:1≤cD∧cD≤100) (hl:l.length≤4611686018427387904) (h:aa) (hs:bq h lv l):
  ao PP 47 [lv,.int .i64 cD] h (Tb cD h):=by
 refine aC mix (aD Tryz.func47) rfl rfl rfl afB ?_;simp only[ai,Tryz.f47];have hr4:List.range 4=[0,1,2,3]:=rfl;obtain⟨ad,cap,rfl⟩:=hs.shape;simp -implicitDefEqProofs[aP,hr4];refine bL (yV (.slice ad l.length cap) cD h) _ ⟨0,⟨[⟨0,0,0,0⟩],10,0,[],[]⟩,0,0,rfl,by omega,?_,some h.n,none,none,_,Ext.new _ _,⟨_,_,_,rfl,⟨rfl,?_⟩,bM.nil,bM.nil,?_⟩,by simp[kh]⟩ ?_
 ·exact⟨rfl,⟨by decide,by decide⟩,rfl,by simp,by simp,⟨_,rfl,rfl,rfl⟩,by simp,by simp,by simp,fun j s t _ h2=>by simp at h2,by simp,fun j a b h1=>by simp at h1,by simp⟩
 ·simp[au]
 ·refine⟨?_,?_,?_⟩<;>(intro n;simp)
 rintro m ⟨T,⟨x,H⟩⟩ ⟨i,v,row,x',rfl,him,hM,a,b,c,cs,hE,hO,ha,g0,g1,g4,g5,g6,g7,g8,x4,x5⟩;simp at hE hO g0 g1 g4 g5 g6 g7 g8 x4 x5;obtain⟨bs,rfl⟩:∃bs,a=some bs:=by cases a with|none=>exact absurd rfl ha|some b=>exact⟨b,rfl⟩
 have hO':=hO;obtain⟨sv,kv,pv,rfl,⟨rfl,o1⟩,⟨rfl,o2⟩,⟨rfl,o3⟩,ap⟩:=hO;have hlen:=hM.len;by_cases q1:i<l.length;rotate_left
 ·simp -implicitDefEqProofs[g0,g1,g4,g5,g6,g7,g8,x4,x5,q1];exact⟨hE,i,v,row,x',_,_,_,_,him,hM,ha,hO',rfl⟩
 by_cases q2:(v.ag.length:Int)<cD;rotate_left
 ·simp -implicitDefEqProofs[g0,g1,g4,g5,g6,g7,g8,x4,x5,q1,q2];exact⟨hE,i,v,row,x',_,_,_,_,him,hM,ha,hO',rfl⟩
 have hti:l[i]? =some l[i]:=av (by omega);obtain⟨_,b1,o1',wb1,cs1,r1,rfl,bI,hd1,hl1,_⟩:=(hs.ext hE).at 1 dV hti;obtain⟨t,ht⟩:∃t,t=l[i]:=⟨_,rfl⟩;rw[←ht]at hd1 hti;rw[Nat.mul_one]at hd1 hl1;obtain⟨u,hu⟩:∃u,u=t % 18446744073709551616:=⟨_,rfl⟩;have e1:IntKind.wrap .u64 t=u:=by rw[PR,hu]
 have hu0:0≤u∧u<18446744073709551616:=by omega
 obtain⟨ua,hua⟩:∃z,z=u.tmod 7:=⟨_,rfl⟩;have e2:IntKind.wrap .u64 ua=ua:=jv (by rw[hua,Int.tmod_eq_emod_of_nonneg hu0.1];omega);have hrb:=hM.Pe;have hxb:=hM.xB;have e3:IntKind.wrap .i64 (x'+10)=x'+10:=bK (by omega);have e4:IntKind.wrap .i64 (row+1)=row+1:=bK (by omega);have e5:IntKind.wrap .i64 (x'+10+5)=x'+10+5:=bK (by omega);simp -implicitDefEqProofs[g0,g1,g4,g5,g6,g7,g8,x4,x5,q1,q2,bI,hd1,hl1,ab,e1,e2,e3,←hua];refine zC (M1 (.slice (some ⟨b1,o1',none⟩) l.length cap) cD h i v row x' u) ?_ ?_
 ·refine iM (fun hc=>?_) (fun hc=>?_)
  ·simp -implicitDefEqProofs[e4];exact⟨row+1,0,.inr ⟨rfl,rfl⟩,⟨some bs,b,c,_,hE,hO',ha,by simp⟩,by simp⟩
  ·simp -implicitDefEqProofs;refine iM (fun hc=>?_) (fun hc=>?_)
   ·simp -implicitDefEqProofs[e5];exact⟨row,x'+10+5,.inl ⟨rfl,by omega,by omega⟩,⟨some bs,b,c,_,hE,hO',ha,by simp⟩,by simp⟩
   ·simp -implicitDefEqProofs;exact⟨row,x'+10,.inl ⟨rfl,by omega,by omega⟩,⟨some bs,b,c,_,hE,hO',ha,by simp⟩,by simp⟩
 clear g0 g1 g4 g5 g6 g7 g8 x4 x5 hE hO' o1 o2 o3 ap ha hs bI;rintro⟨T1,⟨X1,H1⟩⟩ ⟨row1,x1,hst,⟨a,b,c,cs,hE,hO,ha,g0,g1,g4,g5,g6,g7,g8,x4,x5⟩,g9⟩;simp at hE hO g0 g1 g4 g5 g6 g7 g8 x4 x5 g9;obtain⟨bs,rfl⟩:∃bs,a=some bs:=by cases a with|none=>exact absurd rfl ha|some b=>exact⟨b,rfl⟩
 have hO':=hO;obtain⟨sv,kv,pv,rfl,⟨rfl,o1⟩,⟨rfl,o2⟩,⟨rfl,o3⟩,ap⟩:=hO;have hrow1:0≤row1∧row1≤i+1:=by rcases hst with h|h<;>omega
 have hx1:0≤x1∧x1≤15*(i+1):=by rcases hst with h|h<;>omega
 have f1:IntKind.wrap .i64 (10*row1)=10*row1:=bK (by omega);obtain⟨ub,hub⟩:∃z,z=u.tdiv 7:=⟨_,rfl⟩;have hub0:0≤ub∧ub<18446744073709551616:=by rw[hub,Int.tdiv_eq_ediv_of_nonneg hu0.1];omega
 have f2:IntKind.wrap .u64 ub=ub:=jv (by omega);obtain⟨uc,huc⟩:∃z,z=ub.tmod 6:=⟨_,rfl⟩;have f3:IntKind.wrap .u64 uc=uc:=jv (by rw[huc,Int.tmod_eq_emod_of_nonneg hub0.1];omega);simp -implicitDefEqProofs[g0,g1,g4,g5,g6,g7,g8,g9,x4,x5,f1,←hub,f2,←huc,f3];refine zC (M2 (.slice (some ⟨b1,o1',none⟩) l.length cap) cD h i v row1 x1 u) ?_ ?_
 ·by_cases k0:uc=0
  ·simp -implicitDefEqProofs[k0];exact⟨1,by decide,by decide,⟨some bs,b,c,_,hE,hO',ha,by simp⟩,by simp[au]⟩
  ·by_cases k1:uc=1
   ·simp -implicitDefEqProofs[k1];exact⟨2,by decide,by decide,⟨some bs,b,c,_,hE,hO',ha,by simp⟩,by simp[au]⟩
   ·by_cases k2:uc=2
    ·simp -implicitDefEqProofs[k2];exact⟨2,by decide,by decide,⟨some bs,b,c,_,hE,hO',ha,by simp⟩,by simp[au]⟩
    ·simp -implicitDefEqProofs[k0,k1,k2];exact⟨0,by decide,by decide,⟨some bs,b,c,_,hE,hO',ha,by simp⟩,by simp[au]⟩
 clear g0 g1 g4 g5 g6 g7 g8 g9 x4 x5 hE hO' o1 o2 o3 ap ha;rintro⟨T2,⟨X2,H2⟩⟩ ⟨kd,hk0,hk2,⟨a,b,c,cs,hE,hO,ha,g0,g1,g4,g5,g6,g7,g8,x4,x5⟩,g9,g10,x10⟩;simp at hE hO g0 g1 g4 g5 g6 g7 g8 x4 x5 g9 g10 x10;obtain⟨bs,rfl⟩:∃bs,a=some bs:=by cases a with|none=>exact absurd rfl ha|some b=>exact⟨b,rfl⟩
 have hO':=hO;obtain⟨sv,kv,pv,rfl,⟨rfl,o1⟩,⟨rfl,o2⟩,⟨rfl,o3⟩,ap⟩:=hO;obtain⟨o11,o12,o13⟩:=o1;have hbn:¬bs=H2.n:=by omega
 obtain⟨F,hF⟩:∃F,F=v.ag.flatMap au:=⟨_,rfl⟩;have hFl:F.length=v.ag.length*4:=by rw[hF,fg 4 gK]
 rw[←hF]at o11;have hmx:(v.ag.length+1)*32≤140737488355328:=by omega
 have e8:F.take (v.ag.length*4)=F:=bZ (by omega);obtain⟨uv,huv⟩:∃z,z=u.tdiv 42:=⟨_,rfl⟩;have huv0:0≤uv∧uv<18446744073709551616:=by rw[huv,Int.tdiv_eq_ediv_of_nonneg hu0.1];omega
 have p1:IntKind.wrap .u64 uv=uv:=jv (by omega);obtain⟨uw,huw⟩:∃z,z=uv.tmod 9:=⟨_,rfl⟩;have p2:IntKind.wrap .u64 uw=uw:=jv (by rw[huw,Int.tmod_eq_emod_of_nonneg huv0.1];omega);simp -implicitDefEqProofs[g0,g1,g4,g5,g6,g7,g8,g9,g10,x4,x5,x10,au,dq,dM,aP,dC,hr4,hbn,o11,hFl,hmx,e8,←huv,p1,←huw,p2];obtain⟨G,hG⟩:∃G,G=((H2.new (aZ.row true 99 [Value.int IntKind.i64 row1,Value.int IntKind.i64 x1,Value.int IntKind.i64 (10*row1),Value.int IntKind.i64 kd])).set bs aZ.dead).new (aZ.row true 99 (F++[Value.int IntKind.i64 row1,Value.int IntKind.i64 x1,Value.int IntKind.i64 (10*row1),Value.int IntKind.i64 kd])):=⟨_,rfl⟩;rw[←hG];obtain⟨v1,hv1⟩:∃v1:aj,v1={v with ag:=v.ag++[⟨row1,x1,10*row1,kd⟩]}:=⟨_,rfl⟩;have EG:Ext h G:=by rw[hG];exact zK hE o12 _ _ _
 have hOG:zb h G v1 (some (H2.n+1)) b c [.slice (some ⟨H2.n+1,0,none⟩) (v.ag.length+1) (v.ag.length+1),.int .i64 v.aW,.int .i64 v.bC,.slice (b.map fun b=>⟨b,0,none⟩) v.aE.length v.aE.length,.slice (c.map fun b=>⟨b,0,none⟩) v.aI.length v.aI.length]:=by
  obtain⟨p1,p2,p3⟩:=ap;have k2:bM 3 ab h H2 b v.aE (.slice (b.map fun b=>⟨b,0,none⟩) v.aE.length v.aE.length):=⟨rfl,o2⟩;have k3:bM 103 bg h H2 c v.aI (.slice (c.map fun b=>⟨b,0,none⟩) v.aI.length v.aI.length):=⟨rfl,o3⟩;have k1:bM 99 au h H2 (some bs) v.ag (.slice (some ⟨bs,0,none⟩) v.ag.length v.ag.length):=⟨rfl,by rw[←hF];exact o11,o12,o13⟩;subst hv1;refine⟨_,_,_,rfl,?_,?_,?_,?_,?_,p3⟩
  ·rw[hG];exact k1.push _ _ (by simp[hF,au])
  ·rw[hG];exact k2.keep _ _ (p1 bs rfl)
  ·rw[hG];exact k3.keep _ _ (p2 bs rfl)
  ·intro n hn;obtain rfl:=bP hn;exact k2.lt (by omega)
  ·intro n hn;obtain rfl:=bP hn;exact k3.lt (by omega)
 have hl1v:v1.ag.length=i+2:=by rw[hv1];simp[hlen]
 have hk1v:v1.aE=v.aE:=by rw[hv1]
 have hp1v:v1.aI=v.aI:=by rw[hv1]
 have hg1v:v1.aW=v.aW:=by rw[hv1]
 have hr1v:v1.bC=v.bC:=by rw[hv1]
 have n1:G.n=H2.n+2:=by rw[hG];rfl
 have hr1:List.range 1=[0]:=rfl;clear g0 g1 g4 g5 g6 g7 g8 g9 g10 x4 x5 x10 hE hO';refine wT (M3 (.slice (some ⟨b1,o1',none⟩) l.length cap) cD h i v1 row1 x1 u) ?_ ?_
 ·by_cases k0:uw=0
  ·have r1:IntKind.wrap .i64 (v.ag.length:Int)=((i+1:Nat):Int):=(by rw[bK (by omega)];omega);have hOG':=hOG;obtain⟨_,_,_,ee,t1,t2,t3,a1,a2,a3⟩:=hOG;simp only[List.cons.injEq,and_true,true_and]at ee;obtain⟨rfl,_,_,rfl,rfl⟩:=ee;cases b with
   |none=>
    simp -implicitDefEqProofs[o2,dq,dM,aP,dC,hr1,k0,r1];have hk0:v1.aE=[]:=(by rw[hk1v,o2]);refine⟨[((i+1:Nat):Int)],.inr (by rw[hk0];rfl),⟨some (H2.n+1),some (G.n+1),c,_,(EG.bN _).bN _,⟨_,_,_,by rw[hg1v,hr1v],(t1.ext (Ext.new _ _)).ext (Ext.new _ _),bM.yi (by omega) _ _ (by simp[ab]),(t3.ext (Ext.new _ _)).ext (Ext.new _ _),fun n hn=>?_,a2,fun n hn=>?_⟩,by simp⟩,by simp⟩
    ·obtain rfl:=bP hn;simp;omega
    ·obtain rfl:=bP hn;exact t3.lt (by omega)
   |some bk=>
    obtain⟨o21,o22,o23⟩:=t2.2;have hbk:¬bk=G.n:=(by omega);obtain⟨FK,hFK⟩:∃F,F=v1.aE.flatMap ab:=⟨_,rfl⟩;have hFKl:FK.length=v.aE.length:=(by have:=fg 1 dV v1.aE;rw[←hFK,hk1v]at this;omega);rw[←hFK]at o21;have hkl:=hM.xx;have hmk:(v.aE.length+1)*8≤140737488355328:=(by omega);have e9:FK.take v.aE.length=FK:=bZ (by omega);simp -implicitDefEqProofs[dq,dM,aP,dC,hr1,k0,r1,hbk,o21,hFKl,hmk,e9];have k2:=t2.push (.row true 3 [.int .i64 ((i+1:Nat):Int)]) ((i+1:Nat):Int) (cells:=FK++[.int .i64 ((i+1:Nat):Int)]) (by simp[hFK,ab]);refine⟨v1.aE++[((i+1:Nat):Int)],.inr rfl,⟨some (H2.n+1),some (G.n+1),c,_,zK EG o22 _ _ _,⟨_,_,_,by rw[hg1v,hr1v],t1.keep _ _ (fun q=>a1 _ rfl q.symm),by rw[hk1v]at k2 ⊢;exact k2,t3.keep _ _ (a3 _ rfl),fun n hn=>?_,a2,fun n hn=>?_⟩,by simp⟩,by simp⟩
    ·obtain rfl:=bP hn;simp;omega
    ·obtain rfl:=bP hn;exact t3.lt (by omega)
  ·simp -implicitDefEqProofs[k0];refine⟨v1.aE,.inl rfl,⟨some (H2.n+1),b,c,_,EG,hOG,by simp⟩,by simp⟩
 clear hbn hF hFl o11 hmx e8 hG EG hOG n1 ha o2 o3 ap o12 o13;rintro⟨T3,⟨X3,H3⟩⟩ ⟨ks,hks,⟨a,b,c,cs,hE,hO,ha,g0,g1,g4,g5,g6,g7,g8,x4,x5⟩,g9⟩;simp at hE hO g0 g1 g4 g5 g6 g7 g8 x4 x5 g9;obtain⟨v2,hv2⟩:∃v2:aj,v2={v1 with aE:=ks}:=⟨_,rfl⟩;rw[←hv2]at hO;have hO':=hO;obtain⟨sv,kv,pv,rfl,t1,t2,t3,a1,a2,a3⟩:=hO;obtain⟨ux,hux⟩:∃z,z=uv.tmod 11:=⟨_,rfl⟩;have p3:IntKind.wrap .u64 ux=ux:=jv (by rw[hux,Int.tmod_eq_emod_of_nonneg huv0.1];omega);obtain⟨uy,huy⟩:∃z,z=u.tdiv 500:=⟨_,rfl⟩;have huy0:0≤uy∧uy<18446744073709551616:=by rw[huy,Int.tdiv_eq_ediv_of_nonneg hu0.1];omega
 have p4:IntKind.wrap .u64 uy=uy:=jv (by omega);obtain⟨uz,huz⟩:∃z,z=uy.tmod 12:=⟨_,rfl⟩;have huz0:0≤uz∧uz<12:=by rw[huz,Int.tmod_eq_emod_of_nonneg huy0.1];omega
 have p5:IntKind.wrap .u64 uz=uz:=jv (by omega);have p6:IntKind.wrap .i64 uz=uz:=bK (by omega);have p7:IntKind.wrap .i64 (1+uz)=1+uz:=bK (by omega);simp -implicitDefEqProofs[g0,g1,g4,g5,g6,g7,g8,g9,x4,x5,←huv,p1,←hux,p3];have hr3:List.range 3=[0,1,2]:=rfl;have hp2v:v2.aI=v.aI:=by rw[hv2];exact hp1v
 refine wT (M4 (.slice (some ⟨b1,o1',none⟩) l.length cap) cD h i v2 row1 x1 u) ?_ ?_
 ·by_cases k0:ux=1
  ·cases c with
   |none=>
    obtain⟨rfl,t3'⟩:=t3;have hp0:v2.aI=[]:=t3';simp -implicitDefEqProofs[hp0,g0,g1,g4,g5,g6,g7,g8,g9,x4,x5,dq,dM,aP,dC,hr3,k0,f1,←huy,p4,←huz,p5,p6,p7];refine⟨[⟨x1,10*row1,1+uz⟩],.inr ⟨1+uz,by omega,by omega,by rw[hp0];rfl⟩,⟨a,b,some (H3.n+1),_,(hE.bN _).bN _,⟨_,_,_,rfl,(t1.ext (Ext.new _ _)).ext (Ext.new _ _),(t2.ext (Ext.new _ _)).ext (Ext.new _ _),bM.yi hE.n _ _ (by simp[bg]),a1,fun n hn=>?_,fun n hn=>?_⟩,ha,by simp⟩,by simp⟩
    ·subst hn;intro q;obtain rfl:=bP q;exact t1.lt (Nat.le_succ _) rfl
    ·subst hn;intro q;obtain rfl:=bP q;exact t2.lt (Nat.le_succ _) rfl
   |some bk=>
    have t3'':=t3;obtain⟨rfl,o21,o22,o23⟩:=t3;have hbk:¬bk=H3.n:=(by omega);obtain⟨FK,hFK⟩:∃F,F=v2.aI.flatMap bg:=⟨_,rfl⟩;have hFKl:FK.length=v2.aI.length*3:=(by rw[hFK];exact fg 3 pQ v2.aI);rw[←hFK]at o21;have hpl:=hM.ye;have hmk:(v2.aI.length+1)*24≤140737488355328:=(by rw[hp2v];omega);have e9:FK.take (v2.aI.length*3)=FK:=bZ (by omega);simp -implicitDefEqProofs[g0,g1,g4,g5,g6,g7,g8,g9,x4,x5,dq,dM,aP,dC,hr3,k0,hbk,o21,hFKl,hmk,e9,f1,←huy,p4,←huz,p5,p6,p7];have k2:=t3''.push (.row true 103 [.int .i64 x1,.int .i64 (10*row1),.int .i64 (1+uz)]) ⟨x1,10*row1,1+uz⟩ (cells:=FK++[.int .i64 x1,.int .i64 (10*row1),.int .i64 (1+uz)]) (by simp[hFK,bg]);refine⟨v2.aI++[⟨x1,10*row1,1+uz⟩],.inr ⟨1+uz,by omega,by omega,rfl⟩,⟨a,b,some (H3.n+1),_,zK hE o22 _ _ _,⟨_,_,_,rfl,t1.keep _ _ (fun q=>a2 _ q rfl),t2.keep _ _ (fun q=>a3 _ q rfl),k2,a1,fun n hn=>?_,fun n hn=>?_⟩,ha,by simp⟩,by simp⟩
    ·subst hn;intro q;obtain rfl:=bP q;exact t1.lt (Nat.le_succ _) rfl
    ·subst hn;intro q;obtain rfl:=bP q;exact t2.lt (Nat.le_succ _) rfl
  ·simp -implicitDefEqProofs[k0];exact⟨v2.aI,.inl rfl,⟨a,b,c,_,hE,hO',ha,by simp⟩,by simp⟩
 clear g0 g1 g4 g5 g6 g7 g8 g9 x4 x5 hE hO' t1 t2 t3 a1 a2 a3 ha;rintro⟨T4,⟨X4,H4⟩⟩ ⟨ps,hps,⟨a,b,c,cs,hE,hO,ha,g0,g1,g4,g5,g6,g7,g8,x4,x5⟩,g9⟩;simp at hE hO g0 g1 g4 g5 g6 g7 g8 x4 x5 g9;obtain⟨v3,hv3⟩:∃v3:aj,v3={v2 with aI:=ps}:=⟨_,rfl⟩;rw[←hv3]at hO;have hO':=hO;obtain⟨sv,kv,pv,rfl,t1,t2,t3,ap⟩:=hO;obtain⟨ur,hur⟩:∃z,z=uv.tmod 5:=⟨_,rfl⟩;have p8:IntKind.wrap .u64 ur=ur:=jv (by rw[hur,Int.tmod_eq_emod_of_nonneg huv0.1];omega);obtain⟨us,hus⟩:∃z,z=u.tdiv 300:=⟨_,rfl⟩;have hus0:0≤us∧us<18446744073709551616:=by rw[hus,Int.tdiv_eq_ediv_of_nonneg hu0.1];omega
 have p9:IntKind.wrap .u64 us=us:=jv (by omega);obtain⟨ut,hut⟩:∃z,z=us.tmod 25:=⟨_,rfl⟩;have hut0:0≤ut∧ut<25:=by rw[hut,Int.tmod_eq_emod_of_nonneg hus0.1];omega
 have p10:IntKind.wrap .u64 ut=ut:=jv (by omega);have p11:IntKind.wrap .i64 ut=ut:=bK (by omega);simp -implicitDefEqProofs[g0,g1,g4,g5,g6,g7,g8,g9,x4,x5,←huv,p1,←hur,p8];refine zC (M5 (.slice (some ⟨b1,o1',none⟩) l.length cap) cD h i v3 row1 x1) ?_ ?_
 ·by_cases k0:ur=3
  ·simp -implicitDefEqProofs[g0,g1,g4,g5,g6,g7,g8,g9,x4,x5,k0,←hus,p9,←hut,p10,p11];exact⟨ut,.inr ⟨by omega,by omega⟩,⟨a,b,c,_,hE,⟨_,_,_,rfl,t1,t2,t3,ap⟩,ha,by simp⟩⟩
  ·simp -implicitDefEqProofs[k0];exact⟨v3.bC,.inl rfl,⟨a,b,c,_,hE,hO',ha,by simp⟩⟩
 clear g0 g1 g4 g5 g6 g7 g8 g9 x4 x5 hE hO' t1 t2 t3 ap ha;rintro⟨T5,⟨X5,H5⟩⟩ ⟨r,hr,⟨a,b,c,cs,hE,hO,ha,g0,g1,g4,g5,g6,g7,g8,x4,x5⟩⟩;simp at hE hO g0 g1 g4 g5 g6 g7 g8 x4 x5;have w1:=bU (i:=i) (by omega);have hMade:Made (i+1) {v3 with bC:=r} row1 x1:=by
  rw[hv3,hv2,hv1];refine aam hM hst hk0 hk2 ?_ ?_ ?_
  ·rw[←hk1v];exact hks
  ·rw[←hp2v];exact hps
  ·rw[hv3]at hr;rw[←hr1v];rw[hv2]at hr;exact hr
 simp -implicitDefEqProofs[g0,g1,g4,g5,g6,g7,g8,x4,x5,w1];refine⟨(cD-((i+1:Nat):Int)).toNat,by omega,i+1,_,_,_,rfl,by omega,hMade,a,b,c,_,hE,hO,ha,by simp⟩
theorem oZ {α:Type} {xs ys:List α} {i:Nat} {a b:α} (h1:xs[i]? =some a) (h2:ys[i]? =some b) (h:a≠b):xs≠ys:=fun e=>h (by rw[e,h2]at h1;exact(bP h1).symm)
theorem o0 {α:Type} {xs ys:List α} {i:Nat} {a:α} (h1:xs[i]? =some a) (h2:ys[i]? =some a) (h:xs.take i=ys.take i):xs.take (i+1)=ys.take (i+1):=by
 rw[fI,fI,h,h1,h2]
def uB (a b:aj):Bool:=decide (a.aW=b.aW)&&(decide (a.bC=b.bC)&&(decide (a.ag=b.ag)&&(decide (a.aE=b.aE)&&decide (a.aI=b.aI))))
theorem ag6 {xs ys:List aq} (hx:xs.Pairwise (fun a b=>eP a b=true)) (hp:ys.Perm xs) (hs:kF ys):ys=xs:=by
 have hy:ys.Pairwise (fun a b=>eP b a=false):=by
  rw[List.pairwise_iff_getElem];intro a b ha hb hab;exact hs a b _ _ hab (av ha) (av hb)
 induction xs generalizing ys with
 |nil=>exact List.perm_nil.1 hp
 |cons x r ih=>
  cases ys with
  |nil=>exact absurd hp.length_eq (by simp)
  |cons y z=>
   rw[jg]at hx hy;have e:y=x:=by
    rcases cE.1 (hp.subset (dH))with e|e
    ·exact e
    ·have q1:=hx.1 y e;rcases cE.1 (hp.symm.subset (dH))with e2|e2
     ·exact e2.symm
     ·have:=hy.1 x e2;rw[q1]at this;cases this
   subst e;rw[ih hx.2 ((List.perm_cons y).1 hp) (fun i j a b hij hi hj=>hs (i+1) (j+1) a b (by omega) hi hj) hy.2]
theorem ND {i:Nat} {v:aj} {row x:Int} (M:Made i v row x) (hi:i≤150):aN v=true:=by
 have hlen:=M.len;have hg:=M.aW;have hr:=M.bC;have hkl:=M.xx;have hpl:=M.ye;have h1:gB v.ag=true:=by
  unfold gB;rw[bX];refine⟨?_,by simp;omega⟩;rw[cq];intro j hj;rw[dv]at hj;unfold fB;have e:v.ag[j]? =some v.ag[j]:=av hj;rw[e];have hs:=M.eu _ (fy hj);have h1:jK v.ag[j]=true:=by
   simp only[jK,aB,bX,dP];omega
  simp only[h1,tu];by_cases h0:j=0
  ·simp[h0]
  ·have e2:v.ag[j-1]? =some v.ag[j-1]:=av (by omega);rw[e2];have:=M.up (j-1) _ _ e2 (by rw[show j-1+1=j by omega];exact e);simp[this]
 have h2:aB v.aW 1 1048576=true:=by simp[aB,hg]
 have h3:aB v.bC 0 1048576=true:=by simp[aB];omega
 have h4:il v.aE v.ag.length=true:=by
  unfold il;rw[bX];refine⟨?_,by simp;omega⟩;rw[cq];intro j hj;rw[dv]at hj;unfold gG;have e:v.aE[j]? =some v.aE[j]:=av hj;rw[e];have hs:=M.kill _ (fy hj);simp only[bX,kG,dP];refine⟨by omega,by omega,?_⟩;by_cases h0:j=0
  ·exact .inl h0
  ·have e2:v.aE[j-1]? =some v.aE[j-1]:=av (by omega);rw[e2];have:=M.Al (j-1) _ _ e2 (by rw[show j-1+1=j by omega];exact e);exact .inr (by simpa using this)
 have h5:jb v.aI=true:=by
  unfold jb;rw[bX];refine⟨?_,by simp;omega⟩;rw[cq];intro j hj;rw[dv]at hj;unfold iF;have e:v.aI[j]? =some v.aI[j]:=av hj;rw[e];have hs:=M.gv _ (fy hj);simp only[ky,aB,bX,dP];omega
 unfold aN mo;rw[h1,h2,h3,h4,h5];rfl
theorem aip (a b:aq) (h:aa):ao PP 188 [bD a,bD b] h (fun v h'=>h'=h∧v= .bool (eP a b)):=by
 refine aC mix (aD Tryz.func188) rfl rfl rfl aeb ?_;simp only[ai,Tryz.f188];unfold eP;by_cases h1:a.row<b.row
 ·simp -implicitDefEqProofs[bD,au,h1]
 ·by_cases h2:a.row=b.row
  ·simp -implicitDefEqProofs[bD,au,h1,h2]
  ·simp -implicitDefEqProofs[bD,au,h1,h2]
theorem pY (n lo hi:Int) (h:aa):ao PP 181 [.int .i64 n,.int .i64 lo,.int .i64 hi] h (fun v h'=>h'=h∧v= .bool (aB n lo hi)):=by
 refine aC mix (aD Tryz.func181) rfl rfl rfl Of ?_;simp only[ai,Tryz.f181];unfold aB;by_cases h1:lo≤n
 ·simp -implicitDefEqProofs[h1]
 ·simp -implicitDefEqProofs[h1]
theorem vO (n:Int) (h:aa):ao PP 229 [.int .i64 n] h (fun v h'=>h'=h∧v= .bool (aB n (-1048576) 1048576)):=by
 refine aC mix (aD Tryz.func229) rfl rfl rfl Oh ?_;simp only[ai,Tryz.f229];simp -implicitDefEqProofs;refine(pY n (-1048576) 1048576 h).mono ?_;rintro v h' ⟨rfl,rfl⟩;simp -implicitDefEqProofs[af]
def yW (s:Value) (l:List aq) (m:Nat) (h:aa) (n:Nat) (σ:St):Prop:=∃i:Nat,n=m-i∧i≤m∧σ.m.h=h∧σ.t.get 0=some s∧σ.t.get 3=some (.int .i64 (i:Nat))∧(List.range i).all (fB l)=true
theorem aiz (s:Value) (l:List aq) (hl:l.length≤1073741824) (h:aa) (hs:cF h s l):ao PP 180 [s] h (fun v h'=>h'=h∧v= .bool (gB l)):=by
 refine aC mix (aD Tryz.func180) rfl rfl rfl adY ?_;simp only[ai,Tryz.f180];obtain⟨ad,c,rfl⟩:=hs.shape;obtain⟨m,hm⟩:∃m,m=l.length:=⟨_,rfl⟩;rw[←hm]at hs ⊢;simp -implicitDefEqProofs;refine bL (yW (.slice ad m c) l m h) _ ⟨0,rfl,by omega,rfl,by simp,by simp,rfl⟩ ?_;rintro n ⟨T,⟨x,H⟩⟩ ⟨i,rfl,hi,hH,g0,g3,aQ⟩;simp at hH g0 g3;subst hH;simp -implicitDefEqProofs[g0,g3];refine bY (fun hc=>?_) (fun hc=>?_)
 ·have hil:i<m:=by omega
  have hti:l[i]? =some l[i]:=av (by omega);obtain⟨_,b,o,wb,cs,r,rfl,hb,hd,hlc,_⟩:=hs.at 4 gK hti;obtain⟨t,ht⟩:∃t,t=l[i]:=⟨_,rfl⟩;rw[←ht]at hd hti;have w1:=bU (i:=i) (by omega);have hlc':o+i*4+4≤cs.length:=hlc;have fin:fB l i=false→gB l=false:=fun hp=>by unfold gB;rw[all_false (by omega) hp];rfl
  simp -implicitDefEqProofs[g0,g3,hil,hb,hd,hlc',au];refine(pY t.row 0 999 H).mono ?_;rintro v h' ⟨rfl,rfl⟩;simp -implicitDefEqProofs[aJ];intro _;by_cases q1:aB t.row 0 999=true;rotate_left
  ·have hp:fB l i=false:=(by simp[fB,hti,jK,q1]);simp -implicitDefEqProofs[q1,fin hp]
  simp -implicitDefEqProofs[q1];refine(vO t.x h').mono ?_;rintro v h' ⟨rfl,rfl⟩;simp -implicitDefEqProofs[aJ];intro _;by_cases q2:aB t.x (-1048576) 1048576=true;rotate_left
  ·have hp:fB l i=false:=(by simp[fB,hti,jK,q2]);simp -implicitDefEqProofs[q2,fin hp]
  simp -implicitDefEqProofs[q2];refine(vO t.y h').mono ?_;rintro v h' ⟨rfl,rfl⟩;simp -implicitDefEqProofs[aJ];intro _;by_cases q3:aB t.y (-1048576) 1048576=true;rotate_left
  ·have hp:fB l i=false:=(by simp[fB,hti,jK,q3]);simp -implicitDefEqProofs[q3,fin hp]
  simp -implicitDefEqProofs[q3];refine(pY t.kind 0 2 h').mono ?_;rintro v h' ⟨rfl,rfl⟩;simp -implicitDefEqProofs[aJ];intro _;by_cases q4:aB t.kind 0 2=true;rotate_left
  ·have hp:fB l i=false:=(by simp[fB,hti,jK,q4]);simp -implicitDefEqProofs[q4,fin hp]
  have h1:jK t=true:=by simp[jK,q1,q2,q3,q4]
  by_cases h2:i=0
  ·subst h2;have hp:fB l 0=true:=(by simp[fB,hti,h1]);simp -implicitDefEqProofs[q4,g0,g3];exact⟨m-1,by omega,1,rfl,by omega,rfl,by simp[g0],by simp[bK],all_succ aQ hp⟩
  ·have fQ:i-1<m:=(by omega);have htp:l[i-1]? =some l[i-1]:=av (by omega);obtain⟨p,hp⟩:∃p,p=l[i-1]:=⟨_,rfl⟩;rw[←hp]at htp;obtain⟨_,b',o',wb',cs',r',e1,hb',hd',hlc2,_⟩:=hs.at 4 gK htp;simp only[aw,Addr.mk.injEq,and_true]at e1;obtain⟨rfl,rfl⟩:=e1;rw[hb]at hb';simp only[aZ.row.injEq,true_and]at hb';obtain⟨rfl,rfl⟩:=hb';obtain⟨j,hj⟩:∃j,j=i-1:=⟨_,rfl⟩;rw[←hj]at hd' hlc2 fQ;have w2:IntKind.wrap .i64 ((i:Int)-1)=(j:Int):=(by rw[bK (by omega)];omega);have h0:(0:Int)<(i:Int):=(by omega);have hlc3:o+j*4+4≤cs.length:=hlc2;simp -implicitDefEqProofs[q4,h0,h2,w2,fQ,hb,hd',hlc3,au,show 0<i by omega,g0,g3];refine(aip p t h').mono ?_;rintro v h'' ⟨rfl,rfl⟩;simp -implicitDefEqProofs[aJ];intro _;by_cases h3:eP p t=true
   ·have hp:fB l i=true:=(by simp[fB,hti,h1,htp,h3]);simp -implicitDefEqProofs[h3,g0,g3,w1];exact⟨m-(i+1),by omega,i+1,rfl,by omega,rfl,by simp[g0],by simp,all_succ aQ hp⟩
   ·have hp:fB l i=false:=(by simp[fB,hti,h1,htp,h3,h2]);simp -implicitDefEqProofs[h3,fin hp]
 ·have:i=m:=by omega
  subst this;rw[hm]at aQ;have he:gB l=(decide (0<l.length)&&decide (l.length≤4096)):=by unfold gB;rw[aQ];rfl
  rw[he,←hm];by_cases h1:0<i
  ·have h1':(1:Int)≤(i:Int):=(by omega);by_cases h2:(i:Int)≤4096
   ·have h2':i≤4096:=(by omega);simp -implicitDefEqProofs[g0,h1,h1',h2,h2']
   ·have h2':¬i≤4096:=(by omega);simp -implicitDefEqProofs[g0,h1,h1',h2,h2']
  ·have:i=0:=(by omega);subst this;simp -implicitDefEqProofs[g0]
def yX (s:Value) (l:List Int) (k:Int) (m:Nat) (h:aa) (n:Nat) (σ:St):Prop:=∃i:Nat,n=m-i∧i≤m∧σ.m.h=h∧σ.t.get 0=some s∧σ.t.get 1=some (.int .i64 k)∧σ.t.get 5=some (.int .i64 (i:Nat))∧(List.range i).all (gG l k)=true
theorem ain (s:Value) (l:List Int) (k:Int) (hk:0≤k∧k≤1073741824) (hl:l.length≤1073741824) (h:aa) (hs:bq h s l):ao PP 182 [s,.int .i64 k] h (fun v h'=>h'=h∧v= .bool (il l k)):=by
 refine aC mix (aD Tryz.func182) rfl rfl rfl adZ ?_;simp only[ai,Tryz.f182];obtain⟨ad,c,rfl⟩:=hs.shape;obtain⟨m,hm⟩:∃m,m=l.length:=⟨_,rfl⟩;rw[←hm]at hs ⊢;simp -implicitDefEqProofs;refine bL (yX (.slice ad m c) l k m h) _ ⟨0,rfl,by omega,rfl,by simp,by simp,by simp,rfl⟩ ?_;rintro n ⟨T,⟨x,H⟩⟩ ⟨i,rfl,hi,hH,g0,g1,g5,aQ⟩;simp at hH g0 g1 g5;subst hH;simp -implicitDefEqProofs[g0,g1,g5];refine bY (fun hc=>?_) (fun hc=>?_)
 ·have hil:i<m:=by omega
  have hti:l[i]? =some l[i]:=av (by omega);obtain⟨_,b,o,wb,cs,r,rfl,hb,hd,hlc,_⟩:=hs.at 1 dV hti;obtain⟨t,ht⟩:∃t,t=l[i]:=⟨_,rfl⟩;rw[←ht]at hd hti;have w1:=bU (i:=i) (by omega);have hlc':o+i+1≤cs.length:=by omega
  rw[Nat.mul_one]at hd;have fin:gG l k i=false→il l k=false:=fun hp=>by unfold il;rw[all_false (by omega) hp];rfl
  have w3:IntKind.wrap .i64 (k-1)=k-1:=bK (by omega);simp -implicitDefEqProofs[g0,g1,g5,hil,hb,hd,hlc',ab,w3];refine(pY t 0 (k-1) H).mono ?_;rintro v h' ⟨rfl,rfl⟩;simp -implicitDefEqProofs[aJ];intro _;by_cases q1:aB t 0 (k-1)=true;rotate_left
  ·have hp:gG l k i=false:=by
    simp only[aB,bX,dP]at q1;simp[gG,hti];omega
   simp -implicitDefEqProofs[q1,fin hp]
  have q1':=q1;simp only[aB,bX,dP]at q1';by_cases h3:i=0
  ·subst h3;have hp:gG l k 0=true:=(by simp[gG,hti];omega);simp -implicitDefEqProofs[q1,g0,g1,g5];exact⟨m-1,by omega,1,rfl,by omega,rfl,by simp[g0],by simp[g1],by simp[bK],all_succ aQ hp⟩
  ·have fQ:i-1<m:=(by omega);have htp:l[i-1]? =some l[i-1]:=av (by omega);obtain⟨p,hp⟩:∃p,p=l[i-1]:=⟨_,rfl⟩;rw[←hp]at htp;obtain⟨_,b',o',wb',cs',r',e1,hb',hd',hlc2,_⟩:=hs.at 1 dV htp;simp only[aw,Addr.mk.injEq,and_true]at e1;obtain⟨rfl,rfl⟩:=e1;rw[hb]at hb';simp only[aZ.row.injEq,true_and]at hb';obtain⟨rfl,rfl⟩:=hb';obtain⟨j,hj⟩:∃j,j=i-1:=⟨_,rfl⟩;rw[←hj,Nat.mul_one]at hd' hlc2;have hjm:j<m:=(by omega);have w2:IntKind.wrap .i64 ((i:Int)-1)=(j:Int):=(by rw[bK (by omega)];omega);have h0:(0:Int)<(i:Int):=(by omega);have h0':0<i:=(by omega);by_cases h4:t≤p
   ·have hp:gG l k i=false:=(by simp[gG,hti,htp,h3];omega);simp -implicitDefEqProofs[q1,g0,g1,g5,hil,hb,hd,hlc',ab,h0,h0',h3,w2,hjm,hd',hlc2,h4,fin hp]
   ·have hp:gG l k i=true:=(by simp[gG,hti,htp,h3];omega);simp -implicitDefEqProofs[q1,g0,g1,g5,hil,hb,hd,hlc',ab,h0,h0',h3,w2,hjm,hd',hlc2,h4,w1];exact⟨m-(i+1),by omega,i+1,rfl,by omega,rfl,by simp[g0],by simp[g1],by simp,all_succ aQ hp⟩
 ·have:i=m:=by omega
  subst this;rw[hm]at aQ;have he:il l k=decide (l.length≤200):=by unfold il;rw[aQ];rfl
  rw[he,←hm];by_cases h2:(i:Int)≤200
  ·have h2':i≤200:=(by omega);simp -implicitDefEqProofs[g0,h2,h2']
  ·have h2':¬i≤200:=(by omega);simp -implicitDefEqProofs[g0,h2,h2']
def Sj (s:Value) (l:List aU) (m:Nat) (h:aa) (n:Nat) (σ:St):Prop:=∃i:Nat,n=m-i∧i≤m∧σ.m.h=h∧σ.t.get 0=some s∧σ.t.get 3=some (.int .i64 (i:Nat))∧(List.range i).all (iF l)=true
theorem aiy (s:Value) (l:List aU) (hl:l.length≤1073741824) (h:aa) (hs:cJ h s l):ao PP 183 [s] h (fun v h'=>h'=h∧v= .bool (jb l)):=by
 refine aC mix (aD Tryz.func183) rfl rfl rfl aea ?_;simp only[ai,Tryz.f183];obtain⟨ad,c,rfl⟩:=hs.shape;obtain⟨m,hm⟩:∃m,m=l.length:=⟨_,rfl⟩;rw[←hm]at hs ⊢;simp -implicitDefEqProofs;refine bL (Sj (.slice ad m c) l m h) _ ⟨0,rfl,by omega,rfl,by simp,by simp,rfl⟩ ?_;rintro n ⟨T,⟨x,H⟩⟩ ⟨i,rfl,hi,hH,g0,g3,aQ⟩;simp at hH g0 g3;subst hH;simp -implicitDefEqProofs[g0,g3];refine bY (fun hc=>?_) (fun hc=>?_)
 ·have hil:i<m:=by omega
  have hti:l[i]? =some l[i]:=av (by omega);obtain⟨_,b,o,wb,cs,r,rfl,hb,hd,hlc,_⟩:=hs.at 3 pQ hti;obtain⟨t,ht⟩:∃t,t=l[i]:=⟨_,rfl⟩;rw[←ht]at hd hti;have w1:=bU (i:=i) (by omega);have hlc':o+i*3+3≤cs.length:=hlc;have l1:o+i*3+1≤cs.length:=by omega
  have l2:o+i*3+1+1≤cs.length:=by omega
  have l3:o+i*3+2+1≤cs.length:=by omega
  have d1:(cs.drop (o+i*3)).take 1=[.int .i64 t.x]:=by rw[hd];rfl
  have d2:(cs.drop (o+i*3+1)).take 1=[.int .i64 t.y]:=by rw[←fx,hd];rfl
  have d3:(cs.drop (o+i*3+2)).take 1=[.int .i64 t.r]:=by rw[←fx,hd];rfl
  have fin:iF l i=false→jb l=false:=fun hp=>by unfold jb;rw[all_false (by omega) hp];rfl
  simp -implicitDefEqProofs[g0,g3,hil,hb,d1,l1];refine(vO t.x H).mono ?_;rintro v h' ⟨rfl,rfl⟩;simp -implicitDefEqProofs[af];intro _;by_cases h1:aB t.x (-1048576) 1048576=true
  ·simp -implicitDefEqProofs[h1,g0,g3,hil,hb,d2,l2];refine(vO t.y h').mono ?_;rintro v h2 ⟨rfl,rfl⟩;simp -implicitDefEqProofs[af];intro _;by_cases h3:aB t.y (-1048576) 1048576=true
   ·simp -implicitDefEqProofs[h3,g0,g3,hil,hb,d3,l3];refine(pY t.r 1 1048576 h2).mono ?_;rintro v h4 ⟨rfl,rfl⟩;simp -implicitDefEqProofs[af];intro _;by_cases h5:aB t.r 1 1048576=true
    ·have hp:iF l i=true:=(by simp[iF,hti,ky,h1,h3,h5]);simp -implicitDefEqProofs[h5,g0,g3,w1];exact⟨m-(i+1),by omega,i+1,rfl,by omega,rfl,by simp[g0],by simp,all_succ aQ hp⟩
    ·have hp:iF l i=false:=(by simp[iF,hti,ky,h1,h3,h5]);simp -implicitDefEqProofs[h5,fin hp]
   ·have hp:iF l i=false:=(by simp[iF,hti,ky,h1,h3]);simp -implicitDefEqProofs[h3,fin hp]
  ·have hp:iF l i=false:=(by simp[iF,hti,ky,h1]);simp -implicitDefEqProofs[h1,fin hp]
 ·have:i=m:=by omega
  subst this;rw[hm]at aQ;have he:jb l=decide (l.length≤200):=by unfold jb;rw[aQ];rfl
  rw[he,←hm];by_cases h2:(i:Int)≤200
  ·have h2':i≤200:=(by omega);simp -implicitDefEqProofs[g0,h2,h2']
  ·have h2':¬i≤200:=(by omega);simp -implicitDefEqProofs[g0,h2,h2']
theorem aiO (v:aj) (cs:List Value) (hv:kf v) (h:aa) (H:bR h v cs):ao PP 130 [.agg ⟨cs⟩] h (fun r h'=>h'=h∧r= .string (B (mo v))):=by
 refine aC mix (aD Tryz.func130) rfl rfl rfl ada ?_;simp only[ai,Tryz.f130];obtain⟨s,k,p,rfl,h1,h2,h3⟩:=H;obtain⟨ad1,c1,e1⟩:=h1.shape;obtain⟨ad2,c2,e2⟩:=h2.shape;obtain⟨ad3,c3,e3⟩:=h3.shape;subst e1;subst e2;subst e3;unfold mo;simp -implicitDefEqProofs;refine(aiz _ v.ag hv.1 h h1).mono ?_;rintro r h' ⟨rfl,rfl⟩;simp -implicitDefEqProofs[af];intro _;by_cases q1:gB v.ag=true
 ·simp -implicitDefEqProofs[q1];refine(pY v.aW 1 1048576 h').mono ?_;rintro r h' ⟨rfl,rfl⟩;simp -implicitDefEqProofs[af];intro _;by_cases q2:aB v.aW 1 1048576=true
  ·simp -implicitDefEqProofs[q2];refine(pY v.bC 0 1048576 h').mono ?_;rintro r h' ⟨rfl,rfl⟩;simp -implicitDefEqProofs[af];intro _;by_cases q3:aB v.bC 0 1048576=true
   ·simp -implicitDefEqProofs[q3];refine(ain _ v.aE v.ag.length (by have:=hv.1;omega) hv.2.1 h' h2).mono ?_;rintro r h' ⟨rfl,rfl⟩;simp -implicitDefEqProofs[af];intro _;by_cases q4:il v.aE v.ag.length=true
    ·simp -implicitDefEqProofs[q4];refine(aiy _ v.aI hv.2.2 h' h3).mono ?_;rintro r h' ⟨rfl,rfl⟩;simp -implicitDefEqProofs[af];intro _;by_cases q5:jb v.aI=true
     ·simp -implicitDefEqProofs[q5]
     ·simp -implicitDefEqProofs[q5]
    ·simp -implicitDefEqProofs[q4]
   ·simp -implicitDefEqProofs[q3]
  ·simp -implicitDefEqProofs[q2]
 ·simp -implicitDefEqProofs[q1]
theorem air (v:aj) (cs:List Value) (hv:kf v) (h:aa) (H:bR h v cs):ao PP 88 [.agg ⟨cs⟩] h (fun r h'=>h'=h∧r= .bool (aN v)):=by
 refine aC mix (aD Tryz.func88) rfl rfl rfl af2 ?_;simp only[ai,Tryz.f88];have hw:=aiO v cs hv h H;obtain⟨s,k,p,rfl,h1,h2,h3⟩:=H;simp -implicitDefEqProofs;refine hw.mono ?_;rintro r h' ⟨rfl,rfl⟩;simp -implicitDefEqProofs[af,aN]
end Go.Proofs.Ybk.V
namespace Go.Proofs.Ybk.V
open Go Go.Am
set_option maxHeartbeats 4000000
def Ch (xs:List aq):Prop:=xs.Pairwise (fun a b=>eP b a=false)
theorem Ch.sorted {xs:List aq} (h:Ch xs):kF xs:=by
 intro i j a b hij ha hb;have h1:=(cY.mp ha);have h2:=(cY.mp hb);obtain⟨p1,rfl⟩:=h1;obtain⟨p2,rfl⟩:=h2;exact(List.pairwise_iff_getElem.1 h) i j p1 p2 hij
def Ri (ks:List Int):Prop:=ks.Pairwise (fun a b=>a<b)
theorem ail {a b:List Int} (ha:Ri a) (hb:Ri b) (h:∀x,x∈a↔x∈b):a=b:=by
 have n1:a.Nodup:=ha.imp (fun{x y} hxy=>by omega);have n2:b.Nodup:=hb.imp (fun{x y} hxy=>by omega);have hp:a.Perm b:=(List.perm_ext_iff_of_nodup n1 n2).2 h;exact hp.eq_of_pairwise (fun x y _ _ q1 q2=>by omega) ha hb
end Go.Proofs.Ybk.V
namespace Go.Proofs
open Go.Shelf Go.RowKit Go.Lib Go.Sort
def Tryz.Ws:Go.Shelf.Ren:=⟨fun|20=>169|n=>n,fun|22=>22|3=>3|4=>4|0=>0|n=>n,fun|n=>n⟩
theorem Tryz.Wr:Lays2.n20 Tryz.prog Tryz.Ws:={
 mixed:=by kernel_rfl,
 f20:=Tryz.func169.trans (congrArg some (by kernel_rfl)),
 t0:=Tryz.underlying0,
 a0:=Tryz.isAgg0,
 z0:=Tryz.sizeOf0,
 v0:=Tryz.zeroValue0,
 t3:=Tryz.underlying3,
 a3:=Tryz.isAgg3,
 z3:=Tryz.sizeOf3,
 v3:=Tryz.zeroValue3,
 t4:=Tryz.underlying4,
 a4:=Tryz.isAgg4,
 z4:=Tryz.sizeOf4,
 v4:=Tryz.zeroValue4,
 t22:=Tryz.underlying22,
 a22:=Tryz.isAgg22,
 z22:=Tryz.sizeOf22,
 v22:=Tryz.zeroValue22,
 i3:=by kernel_rfl}
end Go.Proofs
namespace Go.Proofs.Ybk.V
open Go Go.Am
set_option maxHeartbeats 2000000
theorem zE (xs:List Int):(Lib.compact xs).length≤xs.length:=by
 unfold Lib.compact Lib.compactUpTo;rw[cN];exact eW (List.length_filter_le _ _) (by simp)
def kJ (xs:List Int):List Int:=Lib.compact xs++List.replicate (xs.length-(Lib.compact xs).length) 0
theorem WB (xs:List Int):(kJ xs).length=xs.length:=by
 have:=zE xs;unfold kJ;simp;omega
theorem Wq (b c:Nat) (xs:List Int) (hn:xs≠[]) (hl:xs.length≤1073741824) (h:aa) (hb:h.f b= .row true 3 (xs.flatMap ab)):
  ao PP 169 [.slice (some ⟨b,0,none⟩) xs.length c] h (fun r h'=>r= .slice (some ⟨b,0,none⟩) (Lib.compact xs).length (Lib.compact xs).length∧h'=h.set b (.row true 3 ((kJ xs).flatMap ab))):=by
 rw[gM];refine⟨⟨Tryz.f169,Tryz.func169,by kernel_rfl,by kernel_rfl⟩,fun ρ w args' hbx R V=>?_⟩;obtain⟨v0,hv0,V0⟩:=V.2 0 _ rfl;have hargs:args'=[v0]:=by
  have:=V.1;match args',hv0,this with
  |[p],h0,_=>simp at h0;rw[h0]
 subst hargs;have hlen:0<xs.length:=rJ.2 hn;obtain⟨pl,cap,hk,hc1,hc2,e0⟩:∃pl cap,ρ (false,b)=some pl∧xs.length≤cap∧0+cap*pl.sz≤pl.n∧v0= .slice (some ⟨pl.B,pl.o,none⟩) xs.length cap:=by
  rcases V0.ni with⟨a',e,_⟩|⟨b',off,pl,cap,e,hk,hc,hn',rfl⟩
  ·omega
  ·simp only[Addr.mk.injEq,and_true]at e;obtain⟨rfl,rfl⟩:=e;exact⟨pl,cap,hk,hc,hn',by simp⟩
 subst e0;obtain⟨C,e',fz,c1,c2,c3,c4,c5,c6⟩:=R.row (false,b) pl true 3 (xs.flatMap ab) hk (by simp[Mem.row?,hb]);obtain rfl:=c2 rfl;have hblk:=R.bound _ _ hk;have hfl:(xs.flatMap ab).length=xs.length:=by have:=fg 1 dV xs;omega
 have hcell:∀j (hj:j<xs.length),C[pl.o+j]? =some (.int .i64 xs[j]):=by
  intro j hj;obtain⟨v',q1,q2⟩:=c6 j _ (xr xs j hj);rw[q1];congr 1;exact q2.dm rfl
 have hH:Go.Sort.Holds (Value.int .i64) w pl.B pl.o xs.toArray:=by
  intro j hj;have hj':j<xs.length:=by simpa using hj
  have e:xs.toArray[j]! =xs[j]:=by simp[hj']
  rw[e];constructor
  ·unfold World.cell?;simp only[c1,Option.isSome_none];exact hcell j hj'
  ·unfold World.frozen?;simp only[c1];simp
 have hcon':Calls Tryz.prog 169 ⟨[.slice (some ⟨pl.B,pl.o,none⟩) xs.length cap]⟩ w _:=Any.slices_Compact_int Tryz.Wr pl.B pl.o cap xs w hH (by omega) (by omega);refine hcon'.mono ?_;rintro e w' ⟨rfl,n,rfl⟩;have hd:(kJ xs).length=xs.length:=WB xs;refine⟨.slice (some ⟨b,0,none⟩) (Lib.compact xs).length (Lib.compact xs).length,.slice (some ⟨pl.B,pl.o,none⟩) (Lib.compact xs).length cap,_,ρ,rfl,⟨rfl,rfl⟩,hbx,?_⟩;have hfl':((kJ xs).flatMap ab).length=xs.length:=by have:=fg 1 dV (kJ xs);omega
 have hheap:(Go.Sort.putRow (Value.int .i64) (Go.Sort.ahead w n) pl.B pl.o (kJ xs).toArray).heap=(w.heap.modify pl.B (Go.Sort.onCells (Go.Sort.putCells (Value.int .i64) pl.o (kJ xs).toArray))):=rfl;have hsz:(w.heap.modify pl.B (Go.Sort.onCells (Go.Sort.putCells (Value.int .i64) pl.o (kJ xs).toArray))).size=w.heap.size:=by simp
 obtain⟨q1,q2⟩:=rh R hk hb (cs':=(kJ xs).flatMap ab) (by rw[hfl',hfl]) (w':=Go.Sort.putRow (Value.int .i64) (Go.Sort.ahead w n) pl.B pl.o (kJ xs).toArray) rfl rfl rfl (Nat.le_add_right _ _) (by rw[hheap,hsz];omega)
  (fun B hB hne=>by
   rw[hheap,Array.getElem?_modify,if_neg (Ne.symm hne)])
  (fun C2 e2 fz2 hC2=>by
   rw[c1]at hC2;simp only[aw,Obj.cells.injEq]at hC2;obtain⟨rfl,rfl,rfl⟩:=hC2;refine⟨Go.Sort.putCells (Value.int .i64) pl.o (kJ xs).toArray C,?_,by simp[Go.Sort.putCells],fun i v hi=>?_⟩
   ·rw[hheap,Array.getElem?_modify,if_pos rfl,c1];rfl
   ·have hi':i<(kJ xs).length:=(by have:=(cY.mp hi).1;omega);rw[xr _ i hi']at hi;obtain rfl:=bP hi;have hin:pl.o+i<C.size:=(by omega);refine⟨.int .i64 (kJ xs)[i],?_,.int _ _⟩;unfold Go.Sort.putCells;rw[Array.getElem?_mapIdx,Array.getElem?_eq_getElem hin];simp only[fJ];rw[if_pos ⟨by omega,by simp;omega⟩,Nat.add_sub_cancel_left];simp[hi'])
 have hz:(Lib.compact xs).length≤cap:=eW (zE xs) (by omega);exact⟨q1,q2,by have:=VR.sl (ρ:=ρ) b 0 (Lib.compact xs).length (Lib.compact xs).length pl cap hk hz (by omega);simpa using this⟩
theorem Wv (xs:List Int) (hs:xs.Pairwise (fun a b=>a≤b)):(Lib.compact xs).Pairwise (fun a b=>a<b)∧∀x,x∈Lib.compact xs↔x∈xs:=by
 have key:∀m,m≤xs.length→(Lib.compactUpTo xs.toArray m).Pairwise (fun a b=>a<b)∧(∀x,x∈Lib.compactUpTo xs.toArray m↔x∈xs.take m):=by
  intro m;induction m with
  |zero=>intro _;simp[Lib.compactUpTo]
  |succ m ih=>
   intro hm;obtain⟨i1,i2⟩:=ih (by omega);have e:xs.toArray[m]! =xs[m]:=(by simp[show m<xs.length by omega]);rw[Lib.compactUpTo_succ,e,fI,av (by omega:m<xs.length)];cases hk:Lib.keeps xs.toArray m with
   |true=>
    rw[if_pos rfl];refine⟨?_,fun x=>by rw[ei,i2,ei];simp⟩;rw[nZ];refine⟨i1,by simp,fun a ha b hb=>?_⟩;obtain rfl:=eo.1 hb;obtain⟨j,hj⟩:=List.mem_iff_getElem?.1 ((i2 a).1 ha);rw[List.getElem?_take]at hj;split at hj;rotate_left
    ·cases hj
    rename_i hjm;obtain⟨z1,rfl⟩:=cY.mp hj;have h1:=(List.pairwise_iff_getElem.1 hs) j (m-1) z1 (by omega);have h2:=(List.pairwise_iff_getElem.1 hs) (m-1) m (by omega) (by omega) (by omega);have h3:xs[j]≤xs[m-1]'(by omega):=by
     by_cases q:j=m-1
     ·subst q;omega
     ·exact h1 (by omega)
    have h4:xs[m]≠xs[m-1]'(by omega):=by
     unfold Lib.keeps at hk;rw[dP]at hk;rcases hk with q|q
     ·omega
     ·rw[e]at q;have e2:xs.toArray[m-1]! =xs[m-1]'(by omega):=(by simp[show m-1<xs.length by omega]);rw[e2]at q;exact q
    omega
   |false=>
    rw[if_neg (by simp),pj];refine⟨i1,fun x=>?_⟩;rw[i2,ei];constructor
    ·intro q;exact .inl q
    ·rintro(q|q)
     ·exact q
     ·simp at q;subst q;unfold Lib.keeps at hk;rw[lp]at hk;have hm0:m≠0:=fun z=>hk (.inl z);have e2:xs.toArray[m-1]! =xs[m-1]'(by omega):=(by simp[show m-1<xs.length by omega]);have h4:xs[m]=xs[m-1]'(by omega):=by
       apply Classical.byContradiction;intro z;exact hk (.inr (by rw[e,e2];exact z))
      rw[h4];exact List.mem_take_iff_getElem.2 ⟨m-1,by omega,rfl⟩
 obtain⟨k1,k2⟩:=key xs.length (a8 _);rw[kH]at k2;exact⟨k1,k2⟩
end Go.Proofs.Ybk.V
namespace Go.Proofs.Ybk.V
open Go Go.Am
set_option maxHeartbeats 4000000
def jW {α:Type} (e:TypeId) (enc:α→List Value) (h0 h:aa) (v:Value) (xs:List α):Prop:=cU e enc h v xs∧∀b off n c,v= .slice (some ⟨b,off,none⟩) n c→h0.n≤b
section
variable {α:Type} {e:TypeId} {enc:α→List Value} {h0 h1 h h':aa} {v:Value} {xs:List α}
theorem jW.of (H:cL e enc h1 h v xs) (hn:h0.n≤h1.n):jW e enc h0 h v xs:=by
 refine⟨H.sl,?_⟩;obtain⟨ad,rfl,z⟩:=H;rintro b off n c q;simp only[Value.slice.injEq]at q;rcases z with⟨rfl,_⟩|⟨b',rfl,_,z3,_⟩
 ·cases q.1
 ·have:=q.1;simp only[aw,Addr.mk.injEq]at this;omega
theorem jW.ext (H:jW e enc h0 h v xs) (E:Ext h h'):jW e enc h0 h' v xs:=⟨H.1.ext E,H.2⟩
theorem jW.low (H:jW e enc h1 h v xs) (hn:h0.n≤h1.n):jW e enc h0 h v xs:=⟨H.1,fun b off n c q=>eW hn (H.2 b off n c q)⟩
end
def nX (h0 h:aa) (v:aj) (cs:List Value):Prop:=∃s k p,cs=[s,.int .i64 v.aW,.int .i64 v.bC,k,p]∧jW 99 au h0 h s v.ag∧jW 3 ab h0 h k v.aE∧jW 103 bg h0 h p v.aI
theorem nX.dF {h0 h:aa} {v:aj} {cs:List Value} (H:nX h0 h v cs):bR h v cs:=by
 obtain⟨s,k,p,rfl,h1,h2,h3⟩:=H;exact⟨s,k,p,rfl,h1.1,h2.1,h3.1⟩
theorem nX.low {h0 h1 h:aa} {v:aj} {cs:List Value} (H:nX h1 h v cs) (hn:h0.n≤h1.n):nX h0 h v cs:=by
 obtain⟨s,k,p,rfl,z1,z2,z3⟩:=H;exact⟨s,k,p,rfl,z1.low hn,z2.low hn,z3.low hn⟩
def Cc (v:aj) (h:aa) (r:Value) (h':aa):Prop:=Ext h h'∧
 ((oG v=false∧r= .tuple #[.agg ⟨kh⟩,.bool false])∨
  (oG v=true∧∃ys ks,ys.Perm v.ag∧kF ys∧Ri ks∧(∀x,x∈ks↔x∈(fa v).map (fun s=>ey (eO s) ys))∧
   ((aN ⟨ys,v.aW,v.bC,ks,v.aI⟩=true∧∃co,nX h h' ⟨ys,v.aW,v.bC,ks,v.aI⟩ co∧r= .tuple #[.agg ⟨co⟩,.bool true])∨
   (aN ⟨ys,v.aW,v.bC,ks,v.aI⟩=false∧r= .tuple #[.agg ⟨kh⟩,.bool false]))))
theorem Wu (v:Value) (xs:List Int) (h0 h:aa) (hl:xs.length≤1073741824) (ho:cL 3 ab h0 h v xs):
  ao PP 169 [v] h (fun r h'=>jW 3 ab h0 h' r (Lib.compact xs)∧(h'=h∨∃b cs,h0.n≤b∧b<h.n∧h'=h.set b (.row true 3 cs))):=by
 by_cases hx:xs=[]
 ·subst hx;refine(Wt v [] hl (fun i a b h1 _=>by simp at h1) h ho.sl).mono ?_;rintro r h' ⟨rfl,rfl⟩;exact⟨jW.of ho (a8 _),.inl rfl⟩
 ·obtain⟨ad,rfl,z⟩:=ho;rcases z with⟨_,z⟩|⟨b,rfl,hb,bI,bQ⟩
  ·exact absurd z hx
  refine(Wq b xs.length xs hx hl h hb).mono ?_;rintro r h' ⟨rfl,rfl⟩;refine⟨⟨⟨_,_,rfl,fun q=>by simp at q,.inr ⟨b,0,true,(kJ xs).flatMap ab,(List.replicate (xs.length-(Lib.compact xs).length) (0:Int)).flatMap ab,rfl,by simp,?_,by simp,?_⟩⟩,fun b' o' n' c' q=>by
   simp only[Value.slice.injEq,aw,Addr.mk.injEq]at q;omega⟩,.inr ⟨b,_,bI,bQ,rfl⟩⟩
  ·unfold kJ;rw[List.drop_zero,List.flatMap_append]
  ·exact bQ
theorem abe (v:aj) (cs:List Value) (hv:kf v) (hk:v.aE.length≤1000000) (h:aa) (H:bR h v cs):
  ao PP 123 [.agg ⟨cs⟩] h (Cc v h):=by
 refine aC mix (aD Tryz.func123) rfl rfl rfl ac6 ?_;simp only[ai,Tryz.f123];obtain⟨s,k,p,rfl,h1,h2,h3⟩:=H;obtain⟨ad1,c1,e1⟩:=h1.shape;obtain⟨ad2,c2,e2⟩:=h2.shape;obtain⟨ad3,c3,e3⟩:=h3.shape;subst e1;subst e2;subst e3;obtain⟨m,hm⟩:∃m,m=v.aE.length:=⟨_,rfl⟩;have hm':=hm;rw[←hm]at h2 hk ⊢;simp -implicitDefEqProofs;refine bL (Ry _ v (.slice ad2 m c2) h) _ ⟨0,.slice none 0 0,rfl,by omega,Ext.bJ h,by simpa using cL.nil,fun j k hj=>by omega,by simp,by simp,by simp,by simp,by simp[hm],by simp,by simp;rfl,by simp[kh]⟩ ?_;rintro n ⟨T,⟨x,H⟩⟩ ⟨i,kv,rfl,hi,hE,hO,hin,g1,g2,g4,g11,g12,g13,x1,x2⟩;simp at hE hO g1 g2 g4 g11 g12 g13 x1 x2;rw[←hm]at g12 hi;simp -implicitDefEqProofs[g1,g2,g4,g11,g12,g13,x1,x2];refine bY (fun hc=>?_) (fun hc=>?_)
 ·have him:i<m:=by omega
  have hti:v.aE[i]? =some v.aE[i]:=av (by omega);obtain⟨_,b1,o1,wb1,cs1,r1,rfl,bI,hd1,hl1,_⟩:=(h2.ext hE).at 1 dV hti;obtain⟨t,ht⟩:∃t,t=v.aE[i]:=⟨_,rfl⟩;rw[←ht]at hd1 hti;rw[Nat.mul_one]at hd1 hl1;have bad:(t<0∨(v.ag.length:Int)≤t)→oG v=false:=by
   intro hb;unfold oG;rw[Bool.eq_false_iff];intro q;rw[cq]at q;have:=q t (dY hti);simp at this;omega
  by_cases q1:t<0
  ·simp -implicitDefEqProofs[g1,g2,g4,g11,g12,g13,x1,x2,him,bI,hd1,hl1,ab,q1];exact⟨hE,.inl ⟨bad (.inl q1),by simp[kh]⟩⟩
  ·by_cases q2:(v.ag.length:Int)≤t
   ·simp -implicitDefEqProofs[g1,g2,g4,g11,g12,g13,x1,x2,him,bI,hd1,hl1,ab,q1,q2];exact⟨hE,.inl ⟨bad (.inr q2),by simp[kh]⟩⟩
   ·obtain⟨a,ha⟩:∃a:Nat,t=a:=⟨t.toNat,by omega⟩;subst ha;have hal:a<v.ag.length:=(by omega);have hsa:v.ag[a]? =some v.ag[a]:=av hal;obtain⟨_,b2,o2,wb2,cs2,r2,rfl,bQ,hd2,hl2,hbn2⟩:=(h1.ext hE).at 4 gK hsa;obtain⟨u,hu⟩:∃u,u=v.ag[a]:=⟨_,rfl⟩;rw[←hu]at hd2 hsa;have w1:=bU (i:=i) (by omega);have hkt:(fa v).take (i+1)=(fa v).take i++[u]:=by
     rw[fI];congr 1;simp[fa,hti,hsa]
    have hkl:((fa v).take i).length=i:=(by rw[cQ];simp[fa];omega);have hin':∀j k,j<i+1→v.aE[j]? =some k→0≤k∧k<v.ag.length:=by
     intro j k hj hjk;rcases Nat.lt_or_ge j i with z|z
     ·exact hin j k z hjk
     ·have:j=i:=(by omega);subst this;rw[hti]at hjk;obtain rfl:=bP hjk;omega
    have hr4:List.range 4=[0,1,2,3]:=rfl;obtain⟨ad,ekv,hz⟩:=hO;rw[hkl]at ekv;subst ekv;rcases hz with⟨rfl,hz⟩|⟨b,rfl,hbb,hb3,hb4⟩
    ·have hi0:i=0:=(by have:=congrArg List.length hz;rw[hkl]at this;simpa using this);have hsl:Value.slice none i i=Value.slice none 0 0:=(by rw[hi0]);simp only[hsl]at g4 ⊢;simp -implicitDefEqProofs[g1,g2,g4,g11,g12,g13,x1,x2,him,bI,hd1,hl1,ab,q1,q2,hal,bQ,hd2,hl2,au,dq,dM,aP,dC,hr4,w1];refine⟨m-(i+1),by omega,i+1,_,by rw[←hm],by omega,(hE.bN _).bN _,⟨some ⟨H.n+1,0,none⟩,?_,.inr ⟨H.n+1,rfl,?_,?_,by simp⟩⟩,hin',by simp,by simp,by simp;rfl,by simp[g11,hm]⟩
     ·rw[hkt,bF,hkl,hi0];rfl
     ·simp[hkt,hz,au]
     ·have:=hE.n;omega
    ·have hbn:¬b=H.n:=(by omega);have hmx:(i+1)*32≤140737488355328:=(by omega);obtain⟨F,hF⟩:∃F,F=((fa v).take i).flatMap au:=⟨_,rfl⟩;have hFl:F.length=i*4:=(by rw[hF,fg 4 gK,hkl]);rw[←hF]at hbb;simp -implicitDefEqProofs[g1,g2,g4,g11,g12,g13,x1,x2,him,bI,hd1,hl1,ab,q1,q2,hal,bQ,hd2,hl2,au,dq,dM,aP,dC,hr4,w1,hbn,hbb,hFl,hmx];refine⟨m-(i+1),by omega,i+1,_,by rw[←hm],by omega,((hE.bN _).dh hb3 _).bN _,⟨some ⟨H.n+1,0,none⟩,?_,.inr ⟨H.n+1,rfl,?_,?_,by simp⟩⟩,hin',by simp,by simp,by simp;rfl,by simp[g11,hm]⟩
     ·rw[hkt,bF,hkl];rfl
     ·have e8:List.take (i*4) (((fa v).take i).flatMap au)=((fa v).take i).flatMap au:=(by rw[←hF];exact bZ (by omega));simp[hkt,au,hF,e8]
     ·have:=hE.n;omega
 ·have hie:i=m:=by omega
  subst hie;have hki:oG v=true:=by
   unfold oG;rw[cq];intro k hk';obtain⟨j,hj,rfl⟩:=List.mem_iff_getElem.1 hk';have:=hin j _ (by omega) (av hj);simp;omega
  have hkl:(fa v).take i=fa v:=bZ (by simp[fa];omega);rw[hkl]at hO;have hkll:(fa v).length=i:=by simp[fa];omega
  have hkv:∃ad,kv= .slice ad i i:=by obtain⟨ad,e,_⟩:=hO;exact⟨ad,by rw[e,hkll]⟩
  obtain⟨adK,eK⟩:=hkv;subst eK;simp -implicitDefEqProofs[g1,g2,g4,g11,g12,g13,x1,x2];refine(V9 _ v.ag hv.1 H (h1.ext hE)).mono ?_;rintro w1 hA ⟨EA,OA⟩;simp -implicitDefEqProofs[aJ];intro _;have hwA:∃ad,w1= .slice ad v.ag.length v.ag.length:=by obtain⟨ad,e,_⟩:=OA;exact⟨ad,e⟩
  refine(V7 _ v.aI hv.2.2 hA ((h3.ext hE).ext EA)).mono ?_;rintro w2 hB ⟨EB,OB⟩;have OA2:=OA.ext EB;obtain⟨adA,eA⟩:=hwA;subst eA;have hwB:∃ad,w2= .slice ad v.aI.length v.aI.length:=by obtain⟨ad,e,_⟩:=OB;exact⟨ad,e⟩
  obtain⟨adB,eB⟩:=hwB;subst eB;simp -implicitDefEqProofs[aJ];intro _;refine(ajp _ v.ag H hB hv.1 OA2).mono ?_;rintro r hC ⟨rfl,ys,hperm,hsort,OS,hch⟩;have hys:ys.length=v.ag.length:=hperm.length_eq;have hbA:∀b n c,Value.slice adA v.ag.length v.ag.length= .slice (some ⟨b,0,none⟩) n c→b<hA.n:=by
   intro b n c e;obtain⟨ad,e2,z⟩:=OA;rw[e2]at e;simp only[Value.slice.injEq]at e;rcases z with⟨z,_⟩|⟨b',z,_,_,z4⟩
   ·rw[z]at e;simp at e
   ·rw[z]at e;simp at e;rw[←e.1];exact z4
  have EHC:Ext H hC:=by
   rcases hch with rfl|⟨b,n,c,cs,e,bI,bQ,rfl⟩
   ·exact EA.trans EB
   ·exact(EA.trans EB).dh bI _
  have OB2:cL 103 bg hA hC (.slice adB v.aI.length v.aI.length) v.aI:=by
   rcases hch with rfl|⟨b,n,c,cs,e,bI,bQ,rfl⟩
   ·exact OB
   ·exact cL.nh OB cs (hbA b n c e)
  have OK:=hO.ext EHC;obtain⟨K,hK⟩:∃K,K=(fa v).map (fun s=>ey (eO s) ys):=⟨_,rfl⟩;have hKl:K.length=i:=by rw[hK,cN,hkll]
  simp -implicitDefEqProofs[af];intro _;refine bL (Rz (fun kq=>[.slice adA v.ag.length v.ag.length,.int .i64 v.aW,.int .i64 v.bC,kq,.slice adB v.aI.length v.aI.length]) (.slice adK i i) K hC) _ ⟨0,.slice none 0 0,rfl,by omega,Ext.bJ hC,by simpa using cL.nil,by simp[hKl]⟩ ?_;clear g1 g2 g4 g11 g12 g13 x1 x2 hc;rintro n ⟨T,⟨x,D⟩⟩ ⟨j,kq,rfl,hj,ED,OQ,g2,g7,g50,g51,g52,x2,x7⟩;simp at ED OQ g2 g7 g50 g51 g52 x2 x7;rw[hKl]at g51 hj;simp -implicitDefEqProofs[g2,g7,g50,g51,g52,x2,x7];refine bY (fun hc=>?_) (fun hc=>?_)
  ·have hji:j<i:=(by omega);have hua:(fa v)[j]? =some (fa v)[j]:=av (by omega);have OKD:=OK.sl.ext ED;obtain⟨_,b1,o1,wb1,cs1,r1,e1,bI,hd1,hl1,hbn1⟩:=(hkll ▸ OKD:cU 99 au D (.slice adK i i) (fa v)).at 4 gK hua;subst e1;obtain⟨u,hu⟩:∃u,u=(fa v)[j]:=⟨_,rfl⟩;rw[←hu]at hd1 hua;have hbD:¬b1=D.n:=(by omega);have w1:=bU (i:=j) (by omega);have hKj:K[j]? =some (ey (eO u) ys):=(by rw[hK,ix,hua];rfl);have hKt:K.take (j+1)=K.take j++[ey (eO u) ys]:=(by rw[fI,hKj];rfl);have hKjl:(K.take j).length=j:=(by rw[cQ];omega);simp -implicitDefEqProofs[g2,g7,g50,g51,g52,x2,x7,hji,bI,hd1,hl1,au];have ED2:Ext D ((D.new (aZ.row true 99 [.int .i64 0,.int .i64 0,.int .i64 0,.int .i64 0])).set D.n (aZ.row true 99 [.int .i64 u.row,.int .i64 u.x,.int .i64 u.y,.int .i64 u.kind])):=(Ext.new D _).dh (a8 _) _;have hsD:cF ((D.new (aZ.row true 99 [.int .i64 0,.int .i64 0,.int .i64 0,.int .i64 0])).set D.n (aZ.row true 99 [.int .i64 u.row,.int .i64 u.x,.int .i64 u.y,.int .i64 u.kind])) (.slice adA v.ag.length v.ag.length) ys:=(OS.sl.ext ED).ext ED2;refine(Y1 _ ys u D.n true (by have:=hv.1;omega) _ hsD (by simp[au])).mono ?_;rintro r h' ⟨rfl,rfl⟩;obtain⟨q,hq⟩:∃q,q=ey (eO u) ys:=⟨_,rfl⟩;rw[←hq]at hKt ⊢;have hr1:List.range 1=[0]:=rfl;obtain⟨ad,ekq,hz⟩:=OQ;rw[hKjl]at ekq;subst ekq;have hGn:((D.new (aZ.row true 99 [.int .i64 0,.int .i64 0,.int .i64 0,.int .i64 0])).set D.n (aZ.row true 99 [.int .i64 u.row,.int .i64 u.x,.int .i64 u.y,.int .i64 u.kind])).n=D.n+1:=rfl;obtain⟨G,hG⟩:∃G,G=((D.new (aZ.row true 99 [.int .i64 0,.int .i64 0,.int .i64 0,.int .i64 0])).set D.n (aZ.row true 99 [.int .i64 u.row,.int .i64 u.x,.int .i64 u.y,.int .i64 u.kind])):=⟨_,rfl⟩;rw[←hG]at ED2 hGn ⊢;have EDG:Ext hC G:=ED.trans ED2;rcases hz with⟨rfl,hz⟩|⟨b,rfl,hbb,hb3,hb4⟩
   ·have hj0:j=0:=(by have:=congrArg List.length hz;rw[hKjl]at this;simpa using this);have hsl:Value.slice none j j=Value.slice none 0 0:=(by rw[hj0]);simp only[hsl]at x7 ⊢;simp -implicitDefEqProofs[aJ];intro _;simp -implicitDefEqProofs[dq,dM,aP,dC,hr1,g2,g7,g50,g51,g52,w1];refine⟨i-(j+1),by omega,j+1,_,by rw[hKl],by omega,(EDG.bN _).bN _,⟨some ⟨G.n+1,0,none⟩,?_,.inr ⟨G.n+1,rfl,?_,?_,by simp⟩⟩,by simp,by simp,by simp,by simp[hKl],by simp,by simp,by simp;rfl⟩
    ·rw[hKt,bF,hKjl,hj0];rfl
    ·simp[hKt,hz,ab]
    ·have:=EDG.n;omega
   ·have hbn:¬b=G.n:=(by omega);have hbG:G.f b= .row true 3 ((K.take j).flatMap ab):=(by rw[ED2.f b hb4,hbb]);have hmx:(j+1)*8≤140737488355328:=(by omega);obtain⟨F,hF⟩:∃F,F=(K.take j).flatMap ab:=⟨_,rfl⟩;have hFl:F.length=j:=(by have:=fg 1 dV (K.take j);rw[←hF,hKjl]at this;omega);rw[←hF]at hbG;have e8:F.take j=F:=bZ (by omega);simp -implicitDefEqProofs[aJ];intro _;simp -implicitDefEqProofs[dq,dM,aP,dC,hr1,g2,g7,g50,g51,g52,w1,hbn,hbG,hFl,hmx,e8];refine⟨i-(j+1),by omega,j+1,_,by rw[hKl],by omega,((EDG.bN _).dh hb3 _).bN _,⟨some ⟨G.n+1,0,none⟩,?_,.inr ⟨G.n+1,rfl,?_,?_,by simp⟩⟩,by simp,by simp,by simp,by simp[hKl],by simp,by simp,by simp;rfl⟩
    ·rw[hKt,bF,hKjl];rfl
    ·simp[hKt,ab,hF]
    ·have:=EDG.n;omega
  ·have hji:j=i:=(by omega);subst hji;have hKt:K.take j=K:=bZ (by omega);rw[hKt]at OQ;have hkq:∃ad,kq= .slice ad j j:=(by obtain⟨ad,e,_⟩:=OQ;exact⟨ad,by rw[e,hKl]⟩);obtain⟨adQ,eQ⟩:=hkq;subst eQ;simp -implicitDefEqProofs[g2,g7,g50,g51,g52,x2,x7];refine(ajs _ K hC D (by omega) OQ).mono ?_;rintro r hD ⟨rfl,OD,hch2⟩;have ECD:Ext hC hD:=by
    rcases hch2 with rfl|⟨b,n,c,cs,e,bI,bQ,rfl⟩
    ·exact ED
    ·exact ED.dh bI _
   simp -implicitDefEqProofs[af];intro _;have hsl:(jc K).length=K.length:=List.length_mergeSort _;refine(Wu _ (jc K) hC hD (by omega) OD).mono ?_;rintro r hE' ⟨OE,hch3⟩;have ECE:Ext hC hE':=by
    rcases hch3 with rfl|⟨b,cs,bI,bQ,rfl⟩
    ·exact ECD
    ·exact ECD.dh bI _
   obtain⟨adR,cR,eR⟩:=OE.1.shape;subst eR;simp -implicitDefEqProofs[af];intro _;have hsrt:(jc K).Pairwise (fun a b=>a≤b):=by
    have:=List.pairwise_mergeSort (le:=fun a b:Int=>decide (a≤b)) (fun a b c h1 h2=>by simp at *;omega) (fun a b=>by simp;omega) K;exact this.imp (fun h=>by simpa using h)
   obtain⟨cr1,cr2⟩:=Wv (jc K) hsrt;obtain⟨ks,hks⟩:∃ks,ks=Lib.compact (jc K):=⟨_,rfl⟩;have hkl2:=zE (jc K);rw[←hks]at cr1 cr2 OE hkl2 ⊢;have hmem:∀x,x∈ks↔x∈(fa v).map (fun s=>ey (eO s) ys):=fun x=>(by rw[cr2,←hK];exact(List.mergeSort_perm K _).mem_iff);have hVN:nX h hE' ⟨ys,v.aW,v.bC,ks,v.aI⟩ [.slice adA v.ag.length v.ag.length,.int .i64 v.aW,.int .i64 v.bC,.slice adR ks.length cR,.slice adB v.aI.length v.aI.length]:=
    ⟨_,_,_,rfl,(jW.of OS hE.n).ext ECE,OE.low (hE.trans EHC).n,(jW.of OB2 (eW hE.n EA.n)).ext ECE⟩
   have hVC:=hVN.dF;have hsm:kf ⟨ys,v.aW,v.bC,ks,v.aI⟩:=⟨by show ys.length≤_;have:=hv.1;omega,by show ks.length≤_;omega,hv.2.2⟩;refine(mS _ _ hsm hE' hVC).mono ?_;rintro r hF ⟨rfl,rfl⟩;have EF:Ext h hF:=(hE.trans EHC).trans ECE;simp -implicitDefEqProofs[af];intro _;by_cases hmay:aN ⟨ys,v.aW,v.bC,ks,v.aI⟩=true
   ·simp -implicitDefEqProofs[hmay,g2,g7,x2,x7];exact⟨EF,.inr ⟨hki,ys,ks,hperm,hsort,cr1,hmem,.inl ⟨hmay,_,hVN,rfl⟩⟩⟩
   ·have hmay':aN ⟨ys,v.aW,v.bC,ks,v.aI⟩=false:=(by simpa using hmay);simp -implicitDefEqProofs[hmay',g2,g7,x2,x7];exact⟨EF,.inr ⟨hki,ys,ks,hperm,hsort,cr1,hmem,.inr ⟨hmay',by simp[kh]⟩⟩⟩
end Go.Proofs.Ybk.V
namespace Go.Proofs.Ybk
open Go Go.Am
set_option maxHeartbeats 4000000
open T (bA cX fe dz fH bT)
open V (aq aU aj au bg ab aB bq jK ky gB il jb aN mo eP kF Ri fa oG ey eO)
open F (FR eS cz)
structure qu (r:Rd):Prop where
 ok:pU r
 ag:∀s∈r.ag,jK s=true
 pz:r.ag.Pairwise (fun a b=>¬(a.row=b.row∧a.x=b.x))
 aW:r.aW=0∨aB r.aW 1 1048576=true
 bC:aB r.bC 0 1048576=true
 aI:∀p∈r.aI,ky p=true
theorem O7:qu gx:=⟨⟨by simp[gx],by simp[gx]⟩,by simp[gx],by simp[gx],.inl rfl,by decide,by simp[gx]⟩
theorem OU {row x:Int} {l:List aq} {i:Nat} (h:mh row x l i=none):∀s∈l,¬(s.row=row∧s.x=x):=by
 induction l generalizing i with
 |nil=>intro s hs;cases hs
 |cons a r ih=>
  rw[mh]at h;split at h
  ·cases h
  ·rename_i hn;intro s hs;rcases cE.1 hs with rfl|q
   ·exact hn
   ·exact ih h s q
theorem OV {row x:Int} {l:List aq} {i n:Nat} (h:mh row x l i=some n):i≤n∧n<i+l.length∧∃s,l[n-i]? =some s∧s.row=row∧s.x=x:=by
 induction l generalizing i with
 |nil=>cases h
 |cons a r ih=>
  rw[mh]at h;split at h
  ·rename_i hn;simp only[aw]at h;subst h;exact⟨a8 _,by simp,a,by simp,hn.1,hn.2⟩
  ·obtain⟨q1,q2,s,q3,q4⟩:=ih h;refine⟨by omega,by simp;omega,s,?_,q4⟩;obtain⟨d,hd⟩:∃d,n-i=d+1:=⟨n-i-1,by omega⟩;rw[hd,List.getElem?_cons_succ,show d=n-(i+1) by omega];exact q3
theorem ahC {l:List aq} {row x:Int} {n:Nat} (h:j7 l row x=some n):n<l.length:=by
 have:=OV h;omega
theorem abl:∀{bs:List Nat} {rest:List bA},j6 bs rest=none→rest.length=bs.length→∀(i f:Nat) (t:bA),bs[i]? =some f→rest[i]? =some t→jP f t.n=true:=by
 intro bs;induction bs with
 |nil=>intro rest _ _ i f t h;simp at h
 |cons b bs ih=>
  intro rest h hl i f t h1 h2;cases rest with
  |nil=>simp at hl
  |cons t' rest=>
   rw[j6]at h;split at h
   ·rename_i hm;cases i with
    |zero=>
     simp at h1 h2;subst h1;subst h2;exact hm
    |succ i=>
     simp at h1 h2 hl;exact ih h hl i f t h1 h2
   ·cases h
theorem No {t0:bA} {rest:List bA} {bl bc:Int} (h:eU (t0::rest) bl bc=none):∃bs,gS t0.text=some bs∧rest.length=bs.length∧j6 bs rest=none:=by
 obtain⟨bs,h1,h2⟩:=Np h;refine⟨bs,h1,h2,?_⟩;have hw:jU t0=some bs:=by
  unfold eU at h;simp only at h;cases hw:jU t0 with
  |none=>rw[hw]at h;cases h
  |some b2=>
   have:gS t0.text=some b2:=(by unfold jU at hw;split at hw;exact hw;cases hw);rw[h1]at this;exact this.symm
 simp only[eU,hw,l7]at h;cases hc:jq bl bc bs rest with
 |some e=>rw[hc]at h;cases h
 |none=>
  rw[hc]at h;simp only at h;rw[←h2,List.drop_length]at h;exact h
theorem Tj {r:Rd} {t0:bA} {rest:List bA} {bl bc:Int} (G:qu r) (hle:eU (t0::rest) bl bc=none) (ha:(cV r t0 rest).2=true):qu (cV r t0 rest).1:=by
 obtain⟨bs,hb,hl,hm⟩:=No hle;have hok:=Ck G.ok ha;have aQ:=abl hm hl;rcases Pb hb hl with⟨hw,a,rfl⟩|⟨hw,a,b,rfl⟩|⟨hw,a,b,c,rfl⟩
 ·rcases hw with hw|hw
  ·have hbs:bs=[173]:=(by rw[hw]at hb;simpa[gS,ft,mn,lN,lM]using hb.symm);have h0:=aQ 0 173 a (by rw[hbs];rfl) rfl;by_cases hg:0<r.aW
   ·have hres:cV r t0 [a]=(r,false):=(by simp[cV,hw,hg]);rw[hres]at ha;cases ha
   ·have hres:cV r t0 [a]=({r with aW:=a.n},true):=(by simp[cV,hw,hg]);rw[hres]at hok ⊢;exact⟨hok,G.ag,G.pz,.inr (by simpa[jP]using h0),G.bC,G.aI⟩
  ·have hbs:bs=[256]:=(by rw[hw]at hb;simpa[gS,fP,ft,mn,lN,lM]using hb.symm);have hw2:¬fP=ft:=(by decide);have h0:=aQ 0 256 a (by rw[hbs];rfl) rfl;cases hg:r.eJ with
   |true=>
    have hres:cV r t0 [a]=(r,false):=(by simp[cV,hw,hg,hw2]);rw[hres]at ha;cases ha
   |false=>
    have hres:cV r t0 [a]=({r with eJ:=true,bC:=a.n},true):=(by simp[cV,hw,hg,hw2]);rw[hres]at hok ⊢;refine⟨hok,G.ag,G.pz,G.aW,?_,G.aI⟩;simp[jP,aB]at h0;simp[aB];omega
 ·have hw1:¬fj=ft:=by decide
  have hw2:¬fj=fP:=by decide
  have hres:cV r t0 [a,b]=({r with aE:=r.aE++[⟨a.n,b.n,t0.line,t0.ah,a.line,a.ah⟩]},decide ((r.aE++[(⟨a.n,b.n,t0.line,t0.ah,a.line,a.ah⟩:kE)]).length≤200)):=by simp[cV,hw,hw1,hw2]
  rw[hres]at hok ⊢;exact⟨hok,G.ag,G.pz,G.aW,G.bC,G.aI⟩
 ·by_cases hwp:t0.text=gh
  ·have hbs:bs=[225,225,173]:=(by rw[hwp]at hb;simpa[gS,gh,fj,fP,ft,mn,lN,lM]using hb.symm);have hw1:¬gh=ft:=(by decide);have hw2:¬gh=fP:=(by decide);have hw3:¬gh=fj:=(by decide);have h0:=aQ 0 225 a (by rw[hbs];rfl) rfl;have h1:=aQ 1 225 b (by rw[hbs];rfl) rfl;have h2:=aQ 2 173 c (by rw[hbs];rfl) rfl;have hres:cV r t0 [a,b,c]=({r with aI:=r.aI++[⟨a.n,b.n,c.n⟩]},decide ((r.aI++[(⟨a.n,b.n,c.n⟩:aU)]).length≤200)):=(by simp[cV,hwp,hw1,hw2,hw3]);rw[hres]at hok ⊢;refine⟨hok,G.ag,G.pz,G.aW,G.bC,fun p hp=>?_⟩;rcases ei.1 hp with q|q
   ·exact G.aI p q
   ·obtain rfl:=eo.1 q;simp[jP]at h0 h1 h2;simp[ky,h0,h1,h2]
  ·have hws:t0.text=mn∨t0.text=lN∨t0.text=lM:=by
    rcases hw with q|q
    ·exact absurd q hwp
    ·exact q
   have z1:¬t0.text=ft:=by rcases hws with q|q|q<;>rw[q]<;>decide
   have z2:¬t0.text=fP:=by rcases hws with q|q|q<;>rw[q]<;>decide
   have z3:¬t0.text=fj:=by rcases hws with q|q|q<;>rw[q]<;>decide
   have hbs:bs=[257,225,225]:=by
    have e:gS t0.text=some [257,225,225]:=(by rw[gS,if_pos hws]);rw[e]at hb;simpa using hb.symm
   have h0:=aQ 0 257 a (by rw[hbs];rfl) rfl
   have h1:=aQ 1 225 b (by rw[hbs];rfl) rfl
   have h2:=aQ 2 225 c (by rw[hbs];rfl) rfl
   have hkd:aB (qN t0.text) 0 2=true:=by rcases hws with q|q|q<;>rw[q]<;>decide
   cases hp:j7 r.ag a.n b.n with
   |some q=>
    have hres:cV r t0 [a,b,c]=(r,false):=by simp[cV,z1,z2,z3,hwp,hp]
    rw[hres]at ha;cases ha
   |none=>
    have hres:cV r t0 [a,b,c]=({r with ag:=r.ag++[⟨a.n,b.n,c.n,qN t0.text⟩]},decide ((r.ag++[(⟨a.n,b.n,c.n,qN t0.text⟩:aq)]).length≤4096)):=by simp[cV,z1,z2,z3,hwp,hp]
    rw[hres]at hok ⊢
    refine⟨hok,fun s hs=>?_,?_,G.aW,G.bC,G.aI⟩
    ·rcases ei.1 hs with q|q
     ·exact G.ag s q
     ·obtain rfl:=eo.1 q
      simp[jP]at h0 h1 h2
      simp[jK,h0,h1,h2,hkd]
    ·show(r.ag++_).Pairwise _
     rw[nZ]
     refine⟨G.pz,by simp,fun s hs t ht=>?_⟩
     obtain rfl:=eo.1 ht
     exact OU hp s hs
theorem Nq (ts:List bA) (el ec:Int):∀(f a:Nat) (r:Rd),qu r→(gH ts el ec f a r).2=none→qu (gH ts el ec f a r).1:=by
 intro f;induction f with
 |zero=>intro a r G _;exact G
 |succ f ih=>
  intro a r G h;by_cases ha:a<ts.length
  ·cases hr:rowAt ts a with
   |nil=>
    rw[xH ha hr]at h ⊢;exact ih _ _ G h
   |cons t0 rest=>
    rw[xG ha hr]at h ⊢;cases hle:eU (t0::rest) (jj ts el ec (a+(rest.length+1))).1 (jj ts el ec (a+(rest.length+1))).2 with
    |some e=>rw[hle]at h;cases h
    |none=>
     rw[hle]at h;simp only at h ⊢;by_cases h2:(cV r t0 rest).2=true
     ·rw[if_pos h2]at h ⊢;exact ih _ _ (Tj G hle h2) h
     ·rw[if_neg h2]at h;cases h
  ·rw[gH,if_neg ha];exact G
theorem Zr (ag:List aq):∀(l:List kE) (acc:List Int),(∀k∈acc,0≤k∧k<ag.length)→(jZ ag l acc).2=none→
  (∀k∈(jZ ag l acc).1,0≤k∧k<ag.length)∧(jZ ag l acc).1.length=acc.length+l.length:=by
 intro l;induction l with
 |nil=>intro acc h _;exact⟨h,rfl⟩
 |cons k r ih=>
  intro acc h h2;cases hp:j7 ag k.row k.x with
  |none=>rw[Ai hp]at h2;cases h2
  |some n=>
   have hlt:=ahC hp;by_cases hm:(n:Int)∈acc
   ·rw[Aj hp hm]at h2;cases h2
   ·rw[xu hp hm]at h2 ⊢;obtain⟨q1,q2⟩:=ih (acc++[(n:Int)]) (fun k hk=>by
     rcases ei.1 hk with q|q
     ·exact h k q
     ·obtain rfl:=eo.1 q;omega) h2
    exact⟨q1,by rw[q2];simp;omega⟩
theorem abd:∀(a b:List Int),a.Nodup→(∀x∈a,x∈b)→a.length≤b.length:=by
 intro a;induction a with
 |nil=>intro b _ _;simp
 |cons x r ih=>
  intro b hn hs;rw[List.nodup_cons]at hn;have hx:=hs x dH;have h1:=ih (b.erase x) hn.2 (fun y hy=>(List.mem_erase_of_ne (by rintro rfl;exact hn.1 hy)).2 (hs y (ep _ hy)));rw[List.length_erase_of_mem hx]at h1;have:0<b.length:=List.length_pos_of_mem hx;simp;omega
def kD (r:Rd) (ks:List Int):aj:=⟨r.ag,r.aW,r.bC,ks,r.aI⟩
theorem Jx {r:Rd} {K:List Int} (G:qu r) (hs:r.ag≠[]) (hg:r.aW≠0) (hK:∀k∈K,0≤k∧k<r.ag.length) (hKl:K.length≤200) {ys:List aq} {ks:List Int} (hp:ys.Perm r.ag) (hso:kF ys) (hri:Ri ks)
  (hm:∀x,x∈ks↔x∈(fa (kD r K)).map (fun s=>ey (eO s) ys)):aN ⟨ys,r.aW,r.bC,ks,r.aI⟩=true:=by
 have hyl:=hp.length_eq;have hpos:0<r.ag.length:=rJ.2 hs;have h1:gB ys=true:=by
  unfold gB;rw[bX,bX,cq];refine⟨fun i hi=>?_,by simp;omega,by have:=G.ok.1;simp;omega⟩;rw[dv]at hi;have e:=av hi;unfold V.fB;rw[e];simp only[bX,kG,dP];refine⟨G.ag _ (hp.subset (fy hi)),?_⟩;by_cases hi0:i=0
  ·exact .inl hi0
  ·right;have fQ:i-1<ys.length:=(by omega);rw[av fQ];simp only;have q1:=hso (i-1) i _ _ (by omega) (av fQ) e;have hd:ys.Pairwise (fun a b=>¬(a.row=b.row∧a.x=b.x)):=by
    refine(hp.pairwise_iff (R:=fun a b=>¬(a.row=b.row∧a.x=b.x)) (fun{a b} h q=>h ⟨q.1.symm,q.2.symm⟩)).2 G.pz
   have q2:=(List.pairwise_iff_getElem.1 hd) (i-1) i fQ hi (by omega);rw[V.kN];rw[←mz,V.kN]at q1;omega
 have h2:aB r.aW 1 1048576=true:=G.aW.resolve_left hg;have h4:il ks ys.length=true:=by
  unfold il;rw[bX,cq];refine⟨fun i hi=>?_,?_⟩
  ·rw[dv]at hi;have e:=av hi;unfold V.gG;rw[e];simp only[bX,kG,dP];have hx:=(hm ks[i]).1 (fy hi);rw[dI]at hx;obtain⟨s,hsm,hfx⟩:=hx;unfold fa kD at hsm;rw[dI]at hsm;obtain⟨k,hk,rfl⟩:=hsm;have hkb:=hK k hk;have hkn:k.toNat<r.ag.length:=(by omega);have hin:r.ag.getD k.toNat default∈ys:=by
    rw[bB,av hkn,iJ];exact hp.symm.subset (fy hkn)
   have hany:ys.any (eO (r.ag.getD k.toNat default))=true:=kV.2 ⟨_,hin,by simp[eO]⟩;have hfl:ey (eO (r.ag.getD k.toNat default)) ys=(ys.findIdx (eO (r.ag.getD k.toNat default)):Int):=(by unfold ey;rw[if_pos hany]);have hlt:ys.findIdx (eO (r.ag.getD k.toNat default))<ys.length:=List.findIdx_lt_length_of_exists ⟨_,hin,by simp[eO]⟩;rw[hfl]at hfx;refine⟨by omega,by omega,?_⟩;by_cases hi0:i=0
   ·exact .inl hi0
   ·right;have fQ:i-1<ks.length:=(by omega);rw[av fQ];simp only[dP];exact(List.pairwise_iff_getElem.1 hri) (i-1) i fQ hi (by omega)
  ·have hn:ks.Nodup:=hri.imp (fun{x y} hxy=>by omega);have:=abd ks _ hn (fun x hx=>(hm x).1 hx);rw[cN]at this;unfold fa kD at this;rw[cN]at this;simp only at this;simp;omega
 have h5:jb r.aI=true:=by
  unfold jb;rw[bX,cq];refine⟨fun i hi=>?_,by have:=G.ok.2.2;simpa using this⟩;rw[dv]at hi;unfold V.iF;rw[av hi];exact G.aI _ (fy hi)
 unfold aN mo;rw[dP];simp only;rw[if_neg (by rw[h1];decide),if_neg (by rw[h2];decide),if_neg (by rw[G.bC];decide),if_neg (by rw[h4];decide),if_neg (by rw[h5];decide)]
def fc (l:List UInt8):Option (Int×Int)×aj:=
 if(bT l).code≠0 then(some ((bT l).ln,(bT l).ah),⟨[],0,0,[],[]⟩)
 else match gH (bT l).ts (bT l).ln (bT l).ah ((bT l).ts.length+1) 0 gx with
  |(_,some e)=>(some e,⟨[],0,0,[],[]⟩)
  |(r,none)=>match iv r (bT l).ln (bT l).ah with
   |(_,some e)=>(some e,⟨[],0,0,[],[]⟩)
   |(ks,none)=>(none,kD r ks)
def uQ (v w:aj):Prop:=w.ag.Perm v.ag∧kF w.ag∧Ri w.aE∧(∀x,x∈w.aE↔x∈(fa v).map (fun s=>ey (eO s) w.ag))∧w.aW=v.aW∧w.bC=v.bC∧w.aI=v.aI∧aN w=true
theorem QJ {r:Rd} {el ec:Int} (h:(iv r el ec).2=none) (hk:r.aE.length≤200):r.ag≠[]∧r.aW≠0∧(∀k∈(iv r el ec).1,0≤k∧k<r.ag.length)∧(iv r el ec).1.length≤200:=by
 unfold iv at h ⊢;by_cases hb:r.ag=[]∨r.aW=0
 ·rw[if_pos hb]at h;cases h
 ·rw[if_neg hb]at h ⊢;obtain⟨q1,q2⟩:=Zr r.ag r.aE [] (fun k hk=>by cases hk) h;exact⟨fun q=>hb (.inl q),fun q=>hb (.inr q),q1,by rw[q2];simpa using hk⟩
end Go.Proofs.Ybk
namespace Go.Proofs.Ybk
open Go Go.Am
set_option maxHeartbeats 4000000
open T (bA cX fe dz fH bT eF bu)
open V (aq aU aj au bg ab aB bq jK ky gB il jb aN mo eP kF Ri fa oG ey eO)
open F (FR eS cz)
theorem Uc (l:List UInt8):∀(n a:Nat) (ln ah:Int),(eF l n a ln ah).code=0∨(eF l n a ln ah).code=2:=by
 intro n;induction n with
 |zero=>intro a ln ah;exact .inl rfl
 |succ n ih=>
  intro a ln ah;rw[eF];rcases T.aa4 l a ln ah with h|h|h<;>simp[h];exact ih _ _ _
theorem Ui (l:List UInt8):(bT l).code=0∨(bT l).code=2:=Uc l _ _ _ _
theorem Uf (l:List UInt8):∀(n a:Nat) (ln ah:Int),(eF l n a ln ah).ts.length≤n:=by
 intro n;induction n with
 |zero=>intro a ln ah;simp[eF]
 |succ n ih=>
  intro a ln ah;rw[eF];split
  ·have:=ih (bu l a ln ah).to (bu l a ln ah).ln (bu l a ln ah).ah;simp;omega
  ·split<;>simp
theorem abf {r:Rd} {ks:List Int} (G:qu r) (hs:r.ag≠[]) (hg:r.aW≠0) (hK:∀k∈ks,0≤k∧k<r.ag.length) (hKl:ks.length≤200) {h h':aa} {v:Value} (N:V.Cc (kD r ks) h v h'):
  Ext h h'∧∃w co,uQ (kD r ks) w∧V.nX h h' w co∧v= .tuple #[.agg ⟨co⟩,.bool true]:=by
 obtain⟨E,N⟩:=N;refine⟨E,?_⟩;have hin:oG (kD r ks)=true:=by
  unfold oG;rw[cq];intro k hk;have:=hK k hk;show(decide (0≤k)&&decide (k<(r.ag.length:Int)))=true;simp;omega
 rcases N with⟨q,_⟩|⟨_,ys,kz,p,so,ri,hm,N⟩
 ·rw[hin]at q;cases q
 ·have hmay:=Jx G hs hg hK hKl p so ri hm;rcases N with⟨_,co,hc,rfl⟩|⟨q,_⟩
  ·exact⟨⟨ys,r.aW,r.bC,kz,r.aI⟩,co,⟨p,so,ri,hm,rfl,rfl,rfl,hmay⟩,hc,rfl⟩
  ·rw[show aN ⟨ys,(kD r ks).aW,(kD r ks).bC,kz,(kD r ks).aI⟩=true from hmay]at q;cases q
def zc (l:List UInt8) (h:aa) (v:Value) (h':aa):Prop:=Ext h h'∧match(fc l).1 with
 |some e=>∃E,v= .tuple #[.agg ⟨V.kh⟩,E]∧eS h' h'.n E (l4 e.1 e.2)
 |none=>∃w co,uQ (fc l).2 w∧V.nX h h' w co∧v= .tuple #[.agg ⟨co⟩,.nilIface]
def Ci (l:List UInt8) (h:aa) (v:Value) (h':aa):Prop:=Ext h h'∧match(fc l).1 with
 |some e=>∃E,v= .tuple #[.agg ⟨V.kh⟩,E]∧eS h' h'.n E (l4 e.1 e.2)
 |none=>∃w co,uQ (fc l).2 w∧V.bR h' w co∧v= .tuple #[.agg ⟨co⟩,.nilIface]
theorem QH (l:List UInt8) (hl:l.length≤1048576) (h:aa):ao PP 76 [.string (B l)] h (zc l h):=by
 refine aC mix (aD Tryz.func76) rfl rfl rfl afR ?_;simp only[ai,Tryz.f76];simp -implicitDefEqProofs;refine(T.zi l hl h).mono ?_;rintro v H1 ⟨E1,s,hs,rfl⟩;obtain⟨ad,rfl,_⟩:=id hs;have hp:fc l=if(bT l).code≠0 then(some ((bT l).ln,(bT l).ah),⟨[],0,0,[],[]⟩)else _:=rfl;simp -implicitDefEqProofs[af,dz];intro _;rcases Ui l with hc|hc;rotate_left
 ·rw[if_pos (by rw[hc];decide)]at hp;have wr:=mq (bT l).ln (bT l).ah H1;simp only[dz]at wr;simp -implicitDefEqProofs[hc];refine wr.mono ?_;intro E H2 hE;obtain⟨be,rfl⟩:=kM hE;simp -implicitDefEqProofs[af];intro _;refine⟨E1.trans hE.1,?_⟩;rw[hp];exact⟨_,by simp[V.kh],hE.2⟩
 ·rw[if_neg (by rw[hc];decide)]at hp;simp -implicitDefEqProofs[hc];have htl:(bT l).ts.length≤1048577:=by have:=Uf l (l.length+1) 0 1 1;show(eF l (l.length+1) 0 1 1).ts.length≤_;omega
  obtain⟨M,hM⟩:∃M,M=(H1.new (aZ.obj (Obj.map #[] 0))).new (aZ.row true 170 [Value.slice none 0 0,Value.int IntKind.i64 0,Value.int IntKind.i64 0,Value.slice none 0 0,Value.slice none 0 0,Value.int IntKind.i64 (bT l).ln,Value.int IntKind.i64 (bT l).ah,Value.map (some H1.n),Value.slice none 0 0,Value.bool false]):=⟨_,rfl⟩;have EM:Ext H1 M:=by rw[hM];exact(Ext.new _ _).bN _
  have RM:lR H1 M gx (bT l).ln (bT l).ah (.slice none 0 0) (H1.n+1):=by
   rw[hM];exact⟨none,none,none,_,_,_,H1.n,by simp[gx],by omega,by simp,F.bM.nil,F.bM.nil,F.bM.nil,by simp[gx,oy,qE],a8 _,by simp;omega⟩
  rw[←hM];refine(ZV (bT l).ts htl H1 M (bT l).ln (bT l).ah (.slice none 0 0) rfl (H1.n+1) gx ⟨by simp[gx],by simp[gx]⟩ _ hs.alC EM RM).mono ?_;rintro v H2 ⟨E2,R2,hL⟩;obtain⟨L,hLd⟩:∃L,L=gH (bT l).ts (bT l).ln (bT l).ah ((bT l).ts.length+1) 0 gx:=⟨_,rfl⟩;rw[←hLd]at R2 hL hp;obtain⟨r,re⟩:=L;cases re with
  |some e=>
   simp only at R2 hL hp;obtain⟨be,rfl⟩:=kM (h:=H2) (a:=e.1) (b:=e.2) ⟨Ext.bJ _,hL⟩;simp -implicitDefEqProofs[af];intro _;refine⟨E1.trans E2,?_⟩;rw[hp];exact⟨_,by simp[V.kh],hL⟩
  |none=>
   simp only at R2 hL hp;obtain⟨rfl,hok⟩:=hL;have G:qu r:=by
    have:=Nq (bT l).ts (bT l).ln (bT l).ah ((bT l).ts.length+1) 0 gx O7 (by rw[←hLd]);rw[←hLd]at this;exact this
   simp -implicitDefEqProofs[af];intro _;refine(amz H1 H2 r (bT l).ln (bT l).ah (H1.n+1) E2 ⟨none,_,F.bM.nil,R2⟩ hok).mono ?_;rintro v H3 ⟨E3,hW⟩;obtain⟨W,hWd⟩:∃W,W=iv r (bT l).ln (bT l).ah:=⟨_,rfl⟩;have hwn:=QJ (r:=r) (el:=(bT l).ln) (ec:=(bT l).ah);rw[←hWd]at hW hp hwn;obtain⟨ks,we⟩:=W;cases we with
   |some e=>
    simp only at hW hp;obtain⟨be,rfl⟩:=kM (h:=H3) (a:=e.1) (b:=e.2) ⟨Ext.bJ _,hW⟩;simp -implicitDefEqProofs[af];intro _;refine⟨E1.trans E3,?_⟩;rw[hp];exact⟨_,by simp[V.kh],hW⟩
   |none=>
    simp only at hW hp hwn;obtain⟨rfl,R3⟩:=hW;obtain⟨n1,n2,n3,n4⟩:=hwn trivial hok.2.1;obtain⟨o3,kv,hk3,os,op,ok,ss,sp,sk,bm,hbr,hbr1,hbr2,hos,hop,hokk,_⟩:=R3;have hVC:V.bR H3 (kD r ks) [ss,.int .i64 r.aW,.int .i64 r.bC,kv,sp]:=⟨_,_,_,rfl,hos.own.sl,hk3.own.sl,hop.own.sl⟩;simp -implicitDefEqProofs[af,hbr];intro _;refine(V.abe (kD r ks) _ ⟨by have:=hok.1;show r.ag.length≤_;omega,by show ks.length≤_;omega,by have:=hok.2.2;show r.aI.length≤_;omega⟩ (by show ks.length≤_;omega) H3 hVC).mono ?_;intro v H4 hN;obtain⟨E4,w,co,hw,hc,rfl⟩:=abf G n1 n2 n3 n4 hN;obtain⟨s',k',p',rfl,v1,v2,v3⟩:=id hc;obtain⟨ad1,cc1,rfl⟩:=v1.1.shape;obtain⟨ad2,cc2,rfl⟩:=v2.1.shape;obtain⟨ad3,cc3,rfl⟩:=v3.1.shape;simp -implicitDefEqProofs[af];intro _;refine⟨(E1.trans E3).trans E4,?_⟩;rw[hp];exact⟨w,_,hw,hc.low (E1.trans E3).n,rfl⟩
theorem zc.p {l:List UInt8} {h h':aa} {v:Value} (H:zc l h v h'):Ci l h v h':=by
 obtain⟨E,H⟩:=H;refine⟨E,?_⟩;cases q:(fc l).1 with
 |some e=>rw[q]at H;exact H
 |none=>
  rw[q]at H;obtain⟨w,co,n1,n2,n3⟩:=H;exact⟨w,co,n1,n2.dF,n3⟩
theorem amt (l:List UInt8) (hl:l.length≤1048576) (h:aa):ao PP 76 [.string (B l)] h (Ci l h):=(QH l hl h).mono fun _ _ H=>H.p
end Go.Proofs.Ybk
namespace Go.Proofs.Ybk
open Go Go.Am
set_option maxHeartbeats 4000000
open T (bA cX fe dz fH bT eF bu im fY)
open V (aq aU aj au bg ab aB bq)
open F (FR eS cz)
def lK (t:bA):Prop:=1≤t.line∧1≤t.ah
theorem aa9 (l:List UInt8) (a:Nat) (ln ah:Int) (h1:1≤ln) (h2:1≤ah):1≤(bu l a ln ah).ln∧1≤(bu l a ln ah).ah∧((bu l a ln ah).code=0→lK (bu l a ln ah).tok):=by
 unfold bu im lK;generalize hk:a+T.dE false (l.drop a)=k;have hak:a≤k:=by omega
 have hnv:=T.N6 l k;cases hg:l[k]? with
 |none=>dsimp only;refine⟨by omega,by omega,by simp⟩
 |some c=>
  dsimp only;(repeat' split)<;>refine⟨by dsimp only;omega,by dsimp only;omega,?_⟩<;>intro q<;>first|(exfalso;revert q;dsimp only;omega)|exact⟨by dsimp only;omega,by dsimp only;omega⟩
theorem Ug (l:List UInt8):∀(n a:Nat) (ln ah:Int),1≤ln→1≤ah→1≤(eF l n a ln ah).ln∧1≤(eF l n a ln ah).ah∧∀t∈(eF l n a ln ah).ts,lK t:=by
 intro n;induction n with
 |zero=>intro a ln ah h1 h2;exact⟨h1,h2,fun t ht=>by cases ht⟩
 |succ n ih=>
  intro a ln ah h1 h2;obtain⟨p1,p2,p3⟩:=aa9 l a ln ah h1 h2;rw[eF];by_cases h0:(bu l a ln ah).code=0
  ·simp only[h0,if_true];obtain⟨q1,q2,q3⟩:=ih (bu l a ln ah).to _ _ p1 p2;refine⟨q1,q2,fun t ht=>?_⟩;rcases cE.1 ht with rfl|z
   ·exact p3 h0
   ·exact q3 t z
  ·simp only[h0,if_false];split<;>exact⟨p1,p2,fun t ht=>by cases ht⟩
theorem Uj (l:List UInt8):1≤(bT l).ln∧1≤(bT l).ah∧∀t∈(bT l).ts,lK t:=Ug l _ _ _ _ (by omega) (by omega)
def kC (e:Int×Int):Prop:=1≤e.1∧1≤e.2
theorem abi {bl bc:Int} (hb:kC (bl,bc)):∀{bs:List Nat} {rest:List bA} {e:Int×Int},(∀t∈rest,lK t)→jq bl bc bs rest=some e→kC e:=by
 intro bs;induction bs with
 |nil=>intro rest e _ h;cases h
 |cons b bs ih=>
  intro rest e hr h;cases rest with
  |nil=>rw[jq]at h;simp only[aw]at h;rw[←h];exact hb
  |cons t r=>
   rw[jq]at h;split at h
   ·exact ih (fun t ht=>hr t (ep _ ht)) h
   ·simp only[aw]at h;rw[←h];exact hr t dH
theorem abm:∀{bs:List Nat} {rest:List bA} {e:Int×Int},(∀t∈rest,lK t)→j6 bs rest=some e→kC e:=by
 intro bs;induction bs with
 |nil=>intro rest e _ h;cases h
 |cons b bs ih=>
  intro rest e hr h;cases rest with
  |nil=>cases h
  |cons t r=>
   rw[j6]at h;split at h
   ·exact ih (fun t ht=>hr t (ep _ ht)) h
   ·simp only[aw]at h;rw[←h];exact hr t dH
theorem ZQ {ts:List bA} {bl bc:Int} {e:Int×Int} (hb:kC (bl,bc)) (hr:∀t∈ts,lK t) (h:eU ts bl bc=some e):kC e:=by
 cases ts with
 |nil=>cases h
 |cons t0 rest=>
  have hr':∀t∈rest,lK t:=fun t ht=>hr t (ep _ ht);simp only[eU]at h;cases hw:jU t0 with
  |none=>rw[hw]at h;simp only[aw]at h;rw[←h];exact hr t0 dH
  |some bs=>
   rw[hw]at h;simp only[l7]at h;cases hc:jq bl bc bs rest with
   |some e'=>rw[hc]at h;simp only[aw]at h;rw[←h];exact abi hb hr' hc
   |none=>
    rw[hc]at h;simp only at h;cases hd:rest.drop bs.length with
    |cons t q=>rw[hd]at h;simp only[aw]at h;rw[←h];exact hr' t (List.mem_of_mem_drop (hd ▸ dH))
    |nil=>rw[hd]at h;exact abm hr' h
def xv (r:Rd):Prop:=∀k∈r.aE,kC (k.line,k.ah)∧kC (k.q7,k.qY)
theorem Tk {r:Rd} {t0:bA} {rest:List bA} (H:xv r) (h0:lK t0) (hr:∀t∈rest,lK t) (hl:1≤rest.length):xv (cV r t0 rest).1:=by
 unfold cV;dsimp only;split
 ·split<;>exact H
 split
 ·split<;>exact H
 split
 ·intro k hk;rcases ei.1 hk with q|q
  ·exact H k q
  ·obtain rfl:=eo.1 q;cases rest with
   |nil=>simp at hl
   |cons t q=>exact⟨h0,hr t dH⟩
 split
 ·exact H
 ·split<;>exact H
theorem Uz {ts:List bA} {el ec:Int} (he:kC (el,ec)) (hr:∀t∈ts,lK t) (k:Nat):kC ((jj ts el ec k).1,(jj ts el ec k).2):=by
 unfold jj;cases hk:ts[k]? with
 |none=>exact he
 |some t=>exact hr t (dY hk)
theorem ait {ts:List bA} {a:Nat} {t:bA} (h:t∈rowAt ts a):t∈ts:=by
 unfold rowAt at h;exact List.mem_of_mem_take (List.mem_of_mem_drop h)
theorem ZU (ts:List bA) (el ec:Int) (he:kC (el,ec)) (hts:∀t∈ts,lK t):∀(f a:Nat) (r:Rd),xv r→xv (gH ts el ec f a r).1∧∀e,(gH ts el ec f a r).2=some e→kC e:=by
 intro f;induction f with
 |zero=>intro a r H;exact⟨H,fun e h=>by cases h⟩
 |succ f ih=>
  intro a r H;by_cases ha:a<ts.length
  ·cases hr:rowAt ts a with
   |nil=>rw[xH ha hr];exact ih _ _ H
   |cons t0 rest=>
    have hm:∀t∈t0::rest,lK t:=fun t ht=>hts t (ait (a:=a) (by rw[hr];exact ht));have hm':∀t∈rest,lK t:=fun t ht=>hm t (ep _ ht);rw[xG ha hr];cases hle:eU (t0::rest) (jj ts el ec (a+(rest.length+1))).1 (jj ts el ec (a+(rest.length+1))).2 with
    |some e=>
     refine⟨H,fun e' h=>?_⟩;simp only[aw]at h;rw[←h];exact ZQ (Uz he hts _) hm hle
    |none=>
     obtain⟨bs,hb,hl,_⟩:=No hle;have h1:=(Cy hb).2.1;have ha:=Tk H (hm t0 dH) hm' (by omega);simp only;split
     ·exact ih _ _ ha
     ·refine⟨ha,fun e' h=>?_⟩;simp only[aw]at h;rw[←h];exact hm t0 dH
  ·rw[gH,if_neg ha];exact⟨H,fun e h=>by cases h⟩
theorem Zs (ag:List aq):∀(l:List kE) (acc:List Int) (e:Int×Int),(∀k∈l,kC (k.line,k.ah)∧kC (k.q7,k.qY))→(jZ ag l acc).2=some e→kC e:=by
 intro l;induction l with
 |nil=>intro acc e _ h;cases h
 |cons k r ih=>
  intro acc e H h;have hk:=H k dH;cases hp:j7 ag k.row k.x with
  |none=>rw[Ai hp]at h;simp only[aw]at h;rw[←h];exact hk.2
  |some n=>
   by_cases hm:(n:Int)∈acc
   ·rw[Aj hp hm]at h;simp only[aw]at h;rw[←h];exact hk.1
   ·rw[xu hp hm]at h;exact ih _ _ (fun k hk=>H k (ep _ hk)) h
theorem agT {l:List UInt8} {e:Int×Int} (h:(fc l).1=some e):kC e:=by
 obtain⟨p1,p2,p3⟩:=Uj l;unfold fc at h;split at h
 ·simp only[aw]at h;rw[←h];exact⟨p1,p2⟩
 ·have hL:=ZU (bT l).ts (bT l).ln (bT l).ah ⟨p1,p2⟩ p3 ((bT l).ts.length+1) 0 gx (fun k hk=>by simp[gx]at hk);revert h hL;generalize gH (bT l).ts (bT l).ln (bT l).ah ((bT l).ts.length+1) 0 gx=L;intro h hL;obtain⟨r,re⟩:=L;cases re with
  |some e'=>simp only[aw]at h;rw[←h];exact hL.2 _ rfl
  |none=>
   simp only at h;have hw:∀e,(iv r (bT l).ln (bT l).ah).2=some e→kC e:=by
    intro e h;unfold iv at h;split at h
    ·simp only[aw]at h;rw[←h];exact⟨p1,p2⟩
    ·exact Zs _ _ _ _ hL.1 h
   revert h hw;generalize iv r (bT l).ln (bT l).ah=W;intro h hw;obtain⟨ks,we⟩:=W;cases we with
   |some e'=>simp only[aw]at h;rw[←h];exact hw _ rfl
   |none=>cases h
def vd (l:List UInt8):Int×Int×Int:=match(fc l).1 with
 |some e=>(2,e.1,e.2)
 |none=>(0,0,0)
def Rr (l:List UInt8) (h:aa) (v:Value) (h':aa):Prop:=Ext h h'∧v= .tuple #[.int .i64 (vd l).1,dz (vd l).2.1 (vd l).2.2]
theorem ajA {e:Int×Int} (h:kC e):F.nR (l4 e.1 e.2)=e:=by
 obtain⟨h1,h2⟩:=h;have a1:F.nH e.1=e.1:=by unfold F.nH;rw[if_neg (by omega)]
 have a2:F.nH e.2=e.2:=by unfold F.nH;rw[if_neg (by omega)]
 have hs:F.xm ⟨2,e.1,e.2⟩=true:=by
  have:¬e.1=0:=by omega
  simp[F.xm,this]
 simp only[l4,a1,a2,F.nR];rw[if_neg (by decide),if_pos hs]
theorem ag0 (l:List UInt8) (hl:l.length≤1048576) (h:aa) (G:cz h):ao PP 106 [.string (B l)] h (Rr l h):=by
 refine aC mix (aD Tryz.func106) rfl rfl rfl acO ?_;simp only[ai,Tryz.f106];simp -implicitDefEqProofs;refine(amt l hl h).mono ?_;rintro v H1 ⟨E1,hV⟩;have hcv:vd l=match(fc l).1 with
  |some e=>(2,e.1,e.2)
  |none=>(0,0,0):=rfl
 have G1:=G.ext E1;cases hp:(fc l).1 with
 |none=>
  rw[hp]at hV hcv;obtain⟨w,co,hw,hc,rfl⟩:=hV;obtain⟨s',k',p',rfl,v1,v2,v3⟩:=id hc;obtain⟨ad1,cc1,rfl⟩:=v1.shape;obtain⟨ad2,cc2,rfl⟩:=v2.shape;obtain⟨ad3,cc3,rfl⟩:=v3.shape;simp -implicitDefEqProofs[af];intro _;refine(F.Cv _ _ (G1.ext (Ext.new H1 _))).mono ?_;rintro v H2 ⟨rfl,rfl⟩;simp -implicitDefEqProofs[af];intro _;refine⟨E1.bN _,?_⟩;rw[hcv];rfl
 |some e=>
  rw[hp]at hV hcv;obtain⟨E,rfl,hE⟩:=hV;have hpos:=agT hp;have hE':=hE;rcases hE.shape with⟨_,q⟩|⟨b,f,E',r,rfl,q,k1,k2,k3⟩
  ·cases q
  simp -implicitDefEqProofs[af,V.kh];intro _;have EN:Ext H1 (H1.new (.row true 207 [.pointer none])):=Ext.new H1 _;refine(F.Cu b H1.n (.pointer none) _ (G1.ext EN) (by simp)).mono ?_;rintro v H2 ⟨rfl,rfl⟩;have EN2:=EN.dh (a8 H1.n) (.row true 207 [.pointer (some ⟨b,0,none⟩)]);obtain⟨M,hM⟩:∃M,M=(H1.new (.row true 207 [.pointer none])).set H1.n (.row true 207 [.pointer (some ⟨b,0,none⟩)]):=⟨_,rfl⟩;have hMn:M.f H1.n= .row true 207 [.pointer (some ⟨b,0,none⟩)]:=by rw[hM];simp
  rw[←hM]at EN2 ⊢;have hMb:M.f b= .row true 223 [.int .i64 f.code,.int .i64 f.line,.int .i64 f.ah,E']:=by rw[EN2.f b k2];exact k1
  simp -implicitDefEqProofs[af,hMn];intro _;refine(XW b f E' M hMb).mono ?_;rintro v H2 ⟨e1,rfl⟩;replace e1:=e1.symm;subst e1;simp -implicitDefEqProofs[af];intro _;refine(F.oX _ _ (by simp[l4]) M (G1.ext EN2) (hE'.ext EN2)).mono ?_;rintro v H2 ⟨E3,rfl⟩;rw[ajA hpos];simp -implicitDefEqProofs[af];intro _;refine⟨(E1.trans EN2).trans E3,?_⟩;have hfc:f.code=2:=by simp only[l4,List.cons.injEq]at q;rw[←q.1]
  rw[hcv,hfc];rfl
end Go.Proofs.Ybk
namespace Go.Proofs.Ybk
open Go Go.Am
set_option maxHeartbeats 4000000
open T (bA cX fe dz fH bT eF bu)
open V (aq aU aj au bg ab aB bq)
open F (FR eS cz)
end Go.Proofs.Ybk
namespace Go.Proofs.Ybk
open Go Go.Am
set_option maxHeartbeats 4000000
open T (bA cX fe dz fH bT eF bu)
open V (aq aU aj au bg ab aB bq eP kN kF Ri fa ey eO aN mo gB fB il)
open F (FR eS cz)
theorem NK {v:aj} (h:aN v=true):gB v.ag=true:=by
 cases q:gB v.ag with
 |true=>rfl
 |false=>unfold aN mo at h;rw[if_pos q]at h;simp at h
theorem Pp {l:List aq} (h:gB l=true):l.Pairwise (fun a b=>eP a b=true):=by
 unfold gB at h;rw[bX,cq]at h;have key:∀(d i:Nat) (a b:aq),l[i]? =some a→l[i+d+1]? =some b→eP a b=true:=by
  have step:∀(i:Nat) (a b:aq),l[i]? =some a→l[i+1]? =some b→eP a b=true:=by
   intro i a b h1 h2;have hlt:=(cY.mp h2).1;have:=h.1 (i+1) (dv.2 hlt);unfold fB at this;rw[h2,show i+1-1=i by omega,h1]at this;simp at this;exact this.2
  intro d;induction d with
  |zero=>exact step
  |succ d ih=>
   intro i a b h1 h2;have hlt:=(cY.mp h2).1;have h3:l[i+d+1]? =some l[i+d+1]:=av (by omega);have q1:=ih i a _ h1 h3;have q2:=step _ _ _ h3 (by rw[show i+d+1+1=i+(d+1)+1 by omega];exact h2);rw[kN]at *;omega
 rw[List.pairwise_iff_getElem];intro a b ha hb hab;exact key (b-a-1) a _ _ (av ha) (by rw[show a+(b-a-1)+1=b by omega];exact av hb)
end Go.Proofs.Ybk
namespace Go.Proofs.Ybk
open Go Go.Am
open V (aq aU aj aB eP kN kF Ri fa ey eO aN mo gB fB il)
def se (s:aq):List aq→List aq
 |[]=>[s]
 |a::r=>if eP s a then s::a::r else a::se s r
def qd (l:List aq):List aq:=l.foldr se []
def mO (x:Int):List Int→List Int
 |[]=>[x]
 |a::r=>if x<a then x::a::r else if x=a then a::r else a::mO x r
def mU (v:aj):aj:=⟨qd v.ag,v.aW,v.bC,((fa v).map fun s=>ey (eO s) (qd v.ag)).foldr mO [],v.aI⟩
theorem JH (s:aq) (l:List aq):(se s l).Perm (s::l):=by
 induction l with
 |nil=>exact List.Perm.refl _
 |cons a r ih=>
  rw[se];split
  ·exact List.Perm.refl _
  ·exact(List.Perm.cons a ih).trans (List.Perm.swap _ _ _)
theorem Bt (l:List aq):(qd l).Perm l:=by
 induction l with
 |nil=>exact List.Perm.refl _
 |cons a r ih=>exact(JH a (qd r)).trans (List.Perm.cons a ih)
theorem Y8 (s:aq) {l:List aq} (h:l.Pairwise fun a b=>eP b a=false):(se s l).Pairwise fun a b=>eP b a=false:=by
 induction l with
 |nil=>simp[se]
 |cons a r ih=>
  rw[jg]at h;rw[se];by_cases q:eP s a=true
  ·rw[if_pos q,jg];have q':=q;rw[kN]at q;refine⟨fun b hb=>?_,jg.2 h⟩;rw[←mz,kN];rcases cE.1 hb with e|hb
   ·subst e;omega
   ·have:=h.1 b hb;rw[←mz,kN]at this;omega
  ·rw[if_neg q,jg];refine⟨fun b hb=>?_,ih h.2⟩;rcases cE.1 ((JH s r).mem_iff.1 hb)with e|hb
   ·subst e;exact Bool.eq_false_iff.2 q
   ·exact h.1 b hb
theorem Bu (l:List aq):kF (qd l):=by
 have h:(qd l).Pairwise fun a b=>eP b a=false:=by
  induction l with
  |nil=>exact List.Pairwise.nil
  |cons a r ih=>exact Y8 a ih
 intro i j a b hij ha hb;rw[List.pairwise_iff_getElem]at h;obtain⟨hi,rfl⟩:=cY.mp ha;obtain⟨hj,rfl⟩:=cY.mp hb;exact h i j hi hj hij
theorem JG (x y:Int) (l:List Int):y∈mO x l↔y=x∨y∈l:=by
 induction l with
 |nil=>simp[mO]
 |cons a r ih=>
  rw[mO];split
  ·simp
  ·split
   ·rename_i e;subst e;simp
   ·rw[cE,ih,cE];constructor
    ·rintro(h|h|h)
     ·exact .inr (.inl h)
     ·exact .inl h
     ·exact .inr (.inr h)
    ·rintro(h|h|h)
     ·exact .inr (.inl h)
     ·exact .inl h
     ·exact .inr (.inr h)
theorem PB (y:Int) (l:List Int):y∈l.foldr mO []↔y∈l:=by
 induction l with
 |nil=>simp
 |cons a r ih=>rw[List.foldr_cons,JG,ih,cE]
theorem Y7 (x:Int) {l:List Int} (h:l.Pairwise (· < ·)):(mO x l).Pairwise (· < ·):=by
 induction l with
 |nil=>simp[mO]
 |cons a r ih=>
  rw[jg]at h;rw[mO];split
  ·rename_i q;rw[jg];refine⟨fun b hb=>?_,jg.2 h⟩;rcases cE.1 hb with e|hb
   ·subst e;exact q
   ·have:=h.1 b hb;omega
  ·split
   ·exact jg.2 h
   ·rw[jg];refine⟨fun b hb=>?_,ih h.2⟩;rcases(JG x b r).1 hb with e|hb
    ·subst e;omega
    ·exact h.1 b hb
theorem Bs (l:List Int):(l.foldr mO []).Pairwise (· < ·):=by
 induction l with
 |nil=>exact List.Pairwise.nil
 |cons a r ih=>exact Y7 a ih
theorem A7 {l:List Int} (h:l.Pairwise (· < ·)):Ri l:=h
theorem NY {v w:aj} (H:uQ v w):mU v=w:=by
 obtain⟨p,s,r,m,g,a,q,y⟩:=H;have e:qd v.ag=w.ag:=V.ag6 (Pp (NK y)) ((Bt v.ag).trans p.symm) (Bu v.ag);have e2:(mU v).aE=w.aE:=V.ail (A7 (Bs _)) r (fun x=>by
  show x∈List.foldr mO [] _↔_;rw[m,PB,e])
 unfold mU at e2 ⊢;simp only at e2;cases w;simp only at *;rw[e2,e,g,a,q]
end Go.Proofs.Ybk
namespace Go.Proofs.Ybk.K
open Go Go.Am
open V (aq aU aj aN aB)
structure aG where
 fuel:Int
 has:Bool
 v:aj
 l:List aH
 now:Int
def bS (o:aH):Bool:=decide (o.state=1) || decide (o.state=2)
def b8 (b:aG):List aH:=b.l.filter bS
def fr:Nat→List aH→List (Int×Int)
 |_,[]=>[]
 |k,o::r=>if o.state=2 then((k:Int),o.first)::fr (k+1) r else fr (k+1) r
def aT (b:aG):List aV×List Int×List (Int×Int):=((b8 b).map (·.aO),(b8 b).map (·.first),fr 0 (b8 b))
def eC:List aH→List Int→List aH
 |[],_=>[]
 |o::r,p=>if bS o then{o with first:=p.headD 0}::eC r p.tail else o::eC r p
def sX (b:aG) (p:List Int):aG:={b with l:=eC b.l p}
def gX (b:aG) (o:aH):List Int:=if aN b.v then(cS b.v (cd b.v) o.aO o.first).getD []else[]
def err (c:Int):jL:=⟨c,0,(0,0),[]⟩
def j5 (b:aG) (t:List UInt8):aG×jL:=if(b8 b).length>0 then(b,err 12)else match(fc t).1 with
 |some e=>(b,⟨2,0,e,[]⟩)
 |none=>let v:=mU (fc t).2;({b with v:=v,has:=true},⟨0,v.ag.length,(0,0),[]⟩)
def gV (steps:Nat) (b:aG) (p:aV):List Int×Int:=if 512≤(b8 b).length then([],8)else
 let (l,old,pins):=aT b
 let r:=gj steps b.v (l++[p]) pins (old++[-1]) b.fuel
 if r.2≠0 then([],r.2)else if jE (l++[p]) r.1.aY then(r.1.aY,0)else if r.1.answer=3 then([],7)else([],6)
def jY (steps:Nat) (b:aG) (c:CmdR):aG×jL:=if !ez c.aO || decide (c.a<1) || decide (1000000<c.a) || decide (1099511627776<b.now+c.a)then(b,err 1)else
 let r:=gV steps b c.aO
 if r.2≠0 then(b,err r.2)else
  let o:aH:=⟨(b.l.length:Int)+1,1,c.aO,b.now+c.a,r.1.getLastD 0⟩
  let b1:=sX {b with l:=b.l++[o]} r.1
  (b1,⟨0,o.id,(0,0),gX b1 o⟩)
def lW (b:aG) (id:Int):aG×jL:=if id<1∨(b.l.length:Int)<id then(b,err 4)else
 let o:=b.l.getD (id.toNat-1) default
 if o.state≠1 then(b,err 5)else
  let o1:={o with state:=2,fZ:=0}
  ({b with l:=b.l.set (id.toNat-1) o1},⟨0,0,(0,0),gX b o1⟩)
def kX (o:aH):aH:={o with state:=3,first:=-1,fZ:=0}
def lV (b:aG) (id:Int):aG×jL:=if id<1∨(b.l.length:Int)<id then(b,err 4)else
 let o:=b.l.getD (id.toNat-1) default
 if o.state=3 then(b,err 5)else({b with l:=b.l.set (id.toNat-1) (kX o)},err 0)
def iI (b:aG) (n:Int):aG×jL:=if n<1∨1000000<n∨1099511627776<b.now+n then(b,err 1)else
 let now:=b.now+n
 let due:=fun o:aH=>decide (o.state=1)&&decide (o.fZ≤now)
 ({b with now:=now,l:=b.l.map fun o=>if due o then kX o else o},⟨0,(b.l.filter due).length,(0,0),[]⟩)
def mi (steps:Nat) (b:aG):aG×jL:=
 let (l,old,pins):=aT b
 let r:=gj steps b.v l pins old b.fuel
 if r.2≠0 then(b,err r.2)else if r.1.answer=3 then(b,err 7)else
  (sX b r.1.aY,⟨0,((List.range (min old.length r.1.aY.length)).filter fun k=>decide (old.getD k 0≠r.1.aY.getD k 0)).length,(0,0),[]⟩)
def tE (b:aG):jL:=
 let out:=(List.range b.v.ag.length).map fun k:Nat=>if(ik b.v).contains (k:Int)then(-1:Int)else 0
 ⟨0,0,(0,0),(b8 b).foldl (fun out o=>(gX b o).foldl (fun out k=>out.set k.toNat o.id) out) out⟩
def bG (steps:Nat) (b:aG) (c:CmdR):aG×jL:=
 if c.kind<1∨8<c.kind then(b,err 1)else if c.kind=1 then j5 b c.text else if c.kind=5 then iI b c.a else if !b.has then(b,err 11)
 else if c.kind=2 then jY steps b c else if c.kind=6 then(b,let r:=gV steps b c.aO;if !ez c.aO then err 1 else if r.2≠0 then err r.2 else⟨0,0,(0,0),gX b ⟨0,0,c.aO,0,r.1.getLastD 0⟩⟩)
 else if c.kind=3 then lW b c.a else if c.kind=4 then lV b c.a else if c.kind=7 then mi steps b else(b,tE b)
def dX (fuel:Int):aG:=⟨fuel,false,⟨[],0,0,[],[]⟩,[],0⟩
def xN:List UInt8:=[103,97,112,32,49,48,10,115,101,97,116,32,48,32,48,32,48,10,115,101,97,116,32,48,32,49,48,32,48,10,115,101,97,116,32,48,32,50,48,32,48,10]
def cmd (k a s:Int) (t:List UInt8):CmdR:=⟨k,a,⟨s,0⟩,t⟩
def qR (i:Nat) (o:aH):Prop:=o.id=(i:Int)+1∧1≤o.state∧o.state≤3∧(o.state=3→o.first= -1∧o.fZ=0)
def gW:Nat→List aH→Prop
 |_,[]=>True
 |i,o::r=>qR i o∧gW (i+1) r
theorem xV:∀{l:List aH} {i k:Nat} {o:aH},gW i l→l[k]? =some o→qR (i+k) o:=by
 intro l;induction l with
 |nil=>intro i k o _ h;simp at h
 |cons a r ih=>
  intro i k o h hk;cases k with
  |zero=>
   simp at hk;subst hk;exact h.1
  |succ k=>
   rw[List.getElem?_cons_succ]at hk;have:=ih h.2 hk;rwa[show i+1+k=i+(k+1) by omega]at this
theorem Oi:∀{l:List aH} {i:Nat} {o:aH},gW i l→qR (i+l.length) o→gW i (l++[o]):=by
 intro l;induction l with
 |nil=>intro i o _ h;exact⟨by simpa using h,trivial⟩
 |cons a r ih=>
  intro i o h ho;refine⟨h.1,ih h.2 ?_⟩;rw[eE]at ho;rwa[show i+(r.length+1)=i+1+r.length by omega]at ho
theorem Oj:∀{l:List aH} {i k:Nat} {o:aH},gW i l→qR (i+k) o→gW i (l.set k o):=by
 intro l;induction l with
 |nil=>intro i k o _ _;trivial
 |cons a r ih=>
  intro i k o h ho;cases k with
  |zero=>exact⟨ho,h.2⟩
  |succ k=>
   refine⟨h.1,ih h.2 ?_⟩;rwa[show i+1+k=i+(k+1) by omega]
theorem af7 {f:aH→aH} (hf:∀n o,qR n o→qR n (f o)):∀{l:List aH} {i:Nat},gW i l→gW i (l.map f):=by
 intro l;induction l with
 |nil=>intro i _;trivial
 |cons a r ih=>intro i h;exact⟨hf _ _ h.1,ih h.2⟩
theorem AK:∀{l:List aH} {i:Nat} (p:List Int),gW i l→gW i (eC l p):=by
 intro l;induction l with
 |nil=>intro i p _;trivial
 |cons o r ih=>
  intro i p h;rw[eC];split
  ·rename_i hl;refine⟨?_,ih _ h.2⟩;obtain⟨h1,h2,h3,h4⟩:=h.1;refine⟨h1,h2,h3,fun q=>?_⟩;simp only at q;simp[bS]at hl;omega
  ·exact⟨h.1,ih _ h.2⟩
theorem uE:∀(l:List aH) (p:List Int),(eC l p).length=l.length:=by
 intro l;induction l with
 |nil=>intro p;rfl
 |cons o r ih=>intro p;rw[eC];split<;>simp[ih]
theorem I6 {n:Nat} {o:aH} (h:qR n o):qR n (kX o):=⟨h.1,by show(1:Int)≤3;decide,by show(3:Int)≤3;decide,fun _=>⟨rfl,rfl⟩⟩
def qo (b:aG) (c:CmdR) (b':aG) (r:jL):Prop:=gW 0 b'.l∧(b'.l.length≠b.l.length→c.kind=2∧r.code=0∧b'.l.length=b.l.length+1∧r.n=(b.l.length:Int)+1)
theorem jH {b:aG} {c:CmdR} {b':aG} {r:jL} (h:gW 0 b'.l) (hl:b'.l.length=b.l.length):qo b c b' r:=⟨h,fun q=>absurd hl q⟩
theorem tM {l:List aH} {k:Nat} (h:k<l.length):l[k]? =some (l.getD k default):=by
 rw[bB,av h];rfl
theorem Z8 (b:aG) (c:CmdR) (t:List UInt8) (h:gW 0 b.l):qo b c (j5 b t).1 (j5 b t).2:=by
 unfold j5;split
 ·exact jH h rfl
 ·split
  ·exact jH h rfl
  ·exact jH h rfl
theorem YN (n:Nat) (b:aG) (c:CmdR) (hc:c.kind=2) (h:gW 0 b.l):qo b c (jY n b c).1 (jY n b c).2:=by
 unfold jY;split
 ·exact jH h rfl
 ·simp only;split
  ·exact jH h rfl
  ·refine⟨?_,fun _=>⟨hc,rfl,?_,rfl⟩⟩
   ·refine AK _ (Oi h ?_);exact⟨by simp,by show(1:Int)≤1;decide,by show(1:Int)≤3;decide,fun q=>by simp at q⟩
   ·show(eC (b.l++[_]) _).length=_;rw[uE];simp
theorem Wx (b:aG) (c:CmdR) (id:Int) (h:gW 0 b.l):qo b c (lW b id).1 (lW b id).2:=by
 unfold lW;split
 ·exact jH h rfl
 ·rename_i hid;simp only;split
  ·exact jH h rfl
  ·have hk:id.toNat-1<b.l.length:=(by omega);have ho:=xV h (tM hk);refine jH (Oj h ?_) (by simp);exact⟨ho.1,by show(1:Int)≤2;decide,by show(2:Int)≤3;decide,fun q=>by simp at q⟩
theorem VV (b:aG) (c:CmdR) (id:Int) (h:gW 0 b.l):qo b c (lV b id).1 (lV b id).2:=by
 unfold lV;split
 ·exact jH h rfl
 ·rename_i hid;simp only;split
  ·exact jH h rfl
  ·have hk:id.toNat-1<b.l.length:=(by omega);exact jH (Oj h (I6 (xV h (tM hk)))) (by simp)
theorem alA (b:aG) (c:CmdR) (n:Int) (h:gW 0 b.l):qo b c (iI b n).1 (iI b n).2:=by
 unfold iI;split
 ·exact jH h rfl
 ·refine jH (af7 (fun m o ho=>?_) h) (by simp);split
  ·exact I6 ho
  ·exact ho
theorem aif (n:Nat) (b:aG) (c:CmdR) (h:gW 0 b.l):qo b c (mi n b).1 (mi n b).2:=by
 unfold mi;simp only;split
 ·exact jH h rfl
 ·split
  ·exact jH h rfl
  ·exact jH (AK _ h) (uE _ _)
theorem He (n:Nat) (b:aG) (c:CmdR) (h:gW 0 b.l):qo b c (bG n b c).1 (bG n b c).2:=by
 unfold bG;split
 ·exact jH h rfl
 split
 ·exact Z8 b c c.text h
 split
 ·exact alA b c c.a h
 split
 ·exact jH h rfl
 split
 ·rename_i hc;exact YN n b c hc h
 split
 ·exact jH h rfl
 split
 ·exact Wx b c c.a h
 split
 ·exact VV b c c.a h
 split
 ·exact aif n b c h
 ·exact jH h rfl
theorem ZW:∀{l:List aH} {i:Nat},gW i l→(l.filter bS).length=(l.filter fun o=>decide (o.state≠3)).length:=by
 intro l;induction l with
 |nil=>intro i _;rfl
 |cons o r ih=>
  intro i h;obtain⟨h1,h2,h3,h4⟩:=h.1;have e:bS o=decide (o.state≠3):=by
   unfold bS;rcases(by omega:o.state=1∨o.state=2∨o.state=3)with q|q|q<;>rw[q]<;>rfl
  rw[gP,gP,e];split
  ·rw[eE,eE,ih h.2]
  ·exact ih h.2
def jV:dO:=⟨0,[],nm,0⟩
def fN:List aH→List aH→List dO
 |[],_=>[]
 |o::r,was=>(if was.head? =some o then[]else[{jV with kind:=2,order:=o}])++fN r was.tail
def kB (b was:aG) (c:CmdR):List dO:=
 let out:=(if c.kind=1 then[{jV with kind:=1,text:=c.text}]else if c.kind=5 then[{jV with kind:=3,time:=b.now}]else[])++fN b.l was.l
 if out=[]then[]else out++[{jV with kind:=4}]
theorem ajd:∀{l was:List aH},fN l was=[]→was.length≤l.length→l=was:=by
 intro l;induction l with
 |nil=>
  intro was _ h;cases was with
  |nil=>rfl
  |cons a r=>simp at h
 |cons o r ih=>
  intro was h hl;rw[fN,List.append_eq_nil_iff]at h;obtain⟨h1,h2⟩:=h;cases was with
  |nil=>simp at h1
  |cons a s=>
   have e:a=o:=by
    rcases Decidable.em ((a::s).head? =some o)with q|q
    ·simpa using q
    ·rw[if_neg q]at h1;cases h1
   rw[e,ih h2 (by simpa using hl)];rfl
structure Cg (b:aG) (c:CmdR) (b':aG) (r:jL):Prop where
 bad:r.code≠0→b'=b∧r.n=0∧r.ag=[]
 len:b.l.length≤b'.l.length
 rest:c.kind≠1→c.kind≠5→b'.fuel=b.fuel∧b'.has=b.has∧b'.v=b.v∧b'.now=b.now
theorem lf {b:aG} {c:CmdR} {r:jL} (h:r.code≠0→r.n=0∧r.ag=[]):Cg b c b r:=⟨fun q=>⟨rfl,h q⟩,a8 _,fun _ _=>⟨rfl,rfl,rfl,rfl⟩⟩
theorem ly (k:Int):(err k).code≠0→(err k).n=0∧(err k).ag=[]:=fun _=>⟨rfl,rfl⟩
theorem vh (n:Nat) (b:aG) (c:CmdR):Cg b c (bG n b c).1 (bG n b c).2:=by
 unfold bG;split
 ·exact lf (ly _)
 split
 ·rename_i hk;unfold j5;split
  ·exact lf (ly _)
  ·split
   ·exact lf (fun _=>⟨rfl,rfl⟩)
   ·exact⟨fun q=>absurd rfl q,a8 _,fun q=>absurd hk q⟩
 split
 ·rename_i hk;unfold iI;split
  ·exact lf (ly _)
  ·exact⟨fun q=>absurd rfl q,by simp,fun _ q=>absurd hk q⟩
 split
 ·exact lf (ly _)
 split
 ·unfold jY;split
  ·exact lf (ly _)
  ·simp only;split
   ·exact lf (ly _)
   ·refine⟨fun q=>absurd rfl q,?_,fun _ _=>⟨rfl,rfl,rfl,rfl⟩⟩;show _≤(eC (b.l++[_]) _).length;rw[uE];simp
 split
 ·refine lf ?_;simp only;split
  ·exact ly _
  ·split
   ·exact ly _
   ·exact fun q=>absurd rfl q
 split
 ·unfold lW;split
  ·exact lf (ly _)
  ·simp only;split
   ·exact lf (ly _)
   ·exact⟨fun q=>absurd rfl q,by simp,fun _ _=>⟨rfl,rfl,rfl,rfl⟩⟩
 split
 ·unfold lV;split
  ·exact lf (ly _)
  ·simp only;split
   ·exact lf (ly _)
   ·exact⟨fun q=>absurd rfl q,by simp,fun _ _=>⟨rfl,rfl,rfl,rfl⟩⟩
 split
 ·unfold mi;simp only;split
  ·exact lf (ly _)
  ·split
   ·exact lf (ly _)
   ·refine⟨fun q=>absurd rfl q,?_,fun _ _=>⟨rfl,rfl,rfl,rfl⟩⟩;show _≤(eC b.l _).length;rw[uE];exact a8 _
 ·exact lf (fun q=>absurd rfl q)
theorem A8 (n:Nat) (b:aG) (c:CmdR) (h:kB (bG n b c).1 b c=[]):(bG n b c).1=b:=by
 have Q:=vh n b c;obtain⟨b',hb⟩:∃b',b'=(bG n b c).1:=⟨_,rfl⟩;rw[←hb]at Q h ⊢;unfold kB at h;simp only at h;obtain⟨out,hout⟩:∃out,out=(if c.kind=1 then[({jV with kind:=1,text:=c.text}:dO)]else if c.kind=5 then[{jV with kind:=3,time:=b'.now}]else[])++fN b'.l b.l:=⟨_,rfl⟩;rw[←hout]at h;by_cases h0:out=[]
 ·rw[hout,List.append_eq_nil_iff]at h0;obtain⟨h1,h2⟩:=h0;have k1:c.kind≠1:=by intro q;rw[if_pos q]at h1;cases h1
  have k5:c.kind≠5:=by intro q;rw[if_neg k1,if_pos q]at h1;cases h1
  obtain⟨q1,q2,q3,q4⟩:=Q.rest k1 k5;have ql:=ajd h2 Q.len;cases b';cases b;simp only at q1 q2 q3 q4 ql;subst q1;subst q2;subst q3;subst q4;subst ql;rfl
 ·rw[if_neg h0]at h;simp at h
def fq (now:Int) (o:aH):Bool:=decide (o.state=1)&&decide (o.fZ≤now)
def fK (now:Int) (o:aH):aH:=if fq now o then kX o else o
theorem Xx {m n:Int} (h:m≤n) (o:aH):fK n (fK m o)=fK n o:=by
 unfold fK;by_cases q:fq m o=true
 ·have q2:fq n o=true:=by simp[fq]at q ⊢;omega
  have q3:fq n (kX o)=false:=by simp[fq,kX]
  rw[if_pos q,if_pos q2,q3];rfl
 ·rw[if_neg q]
theorem alB (m n:Int) (h:m≤n) (l:List aH):(l.map (fK m)).map (fK n)=l.map (fK n):=by
 rw[tz];exact List.map_congr_left (fun o _=>Xx h o)
theorem alz (m n:Int) (h:m≤n):∀l:List aH,(l.filter (fq m)).length+((l.map (fK m)).filter (fq n)).length=(l.filter (fq n)).length:=by
 intro l;induction l with
 |nil=>rfl
 |cons o r ih=>
  rw[eT,gP,gP,gP];by_cases q:fq m o=true
  ·have q2:fq n o=true:=(by simp[fq]at q ⊢;omega);have q3:fq n (fK m o)=false:=(by unfold fK;rw[if_pos q];simp[fq,kX]);rw[if_pos q,if_pos q2,q3];simp only[ff,if_false,eE];omega
  ·have q3:fK m o=o:=(by unfold fK;rw[if_neg q]);rw[if_neg q,q3];split
   ·simp only[eE];omega
   ·exact ih
theorem yF (b:aG) (n:Int) (h:1≤n∧n≤1000000∧b.now+n≤1099511627776):iI b n=({b with now:=b.now+n,l:=b.l.map (fK (b.now+n))},⟨0,(b.l.filter (fq (b.now+n))).length,(0,0),[]⟩):=by
 unfold iI;rw[if_neg (by omega)];rfl
theorem An (l:List aV) (pins:List (Int×Int)):(dK l pins).length=l.length:=by
 unfold dK;have:∀(pins:List (Int×Int)) (p:List Int),(pins.foldl (fun p q=>p.set q.1.toNat q.2) p).length=p.length:=by
  intro pins;induction pins with
  |nil=>intro p;rfl
  |cons q r ih=>intro p;rw[List.foldl_cons,ih];simp
 rw[this];simp
theorem Ny (h:dn) (hl:h.aY.length=h.l.length):(cB h).1.aY.length=(cB h).1.l.length∧(cB h).1.l=h.l:=by
 unfold cB;split
 ·exact⟨hl,rfl⟩
 ·simp only;split
  ·rename_i hd;split
   ·exact⟨hd,rfl⟩
   ·exact⟨hl,rfl⟩
  ·split
   ·exact⟨hl,rfl⟩
   ·exact⟨hl,rfl⟩
theorem aiL:∀(n:Nat) (h:dn) (g:Bool),h.aY.length=h.l.length→(dN n h g).1.aY.length=(dN n h g).1.l.length∧(dN n h g).1.l=h.l:=by
 intro n;induction n with
 |zero=>intro h g hl;exact⟨hl,rfl⟩
 |succ n ih=>
  intro h g hl;rw[dN];split
  ·split
   ·exact⟨hl,rfl⟩
   ·split
    ·exact ih _ _ hl
    ·rename_i l a r hs q;obtain⟨e1,e2⟩:=Ny {h with stack:=(l,a+1)::r,p:=fM h.p (l.getD a 0)} hl;obtain⟨i1,i2⟩:=ih _ (cB {h with stack:=(l,a+1)::r,p:=fM h.p (l.getD a 0)}).2 e1;exact⟨i1,i2.trans e2⟩
  ·exact⟨hl,rfl⟩
theorem wN {steps:Nat} {v:aj} {l:List aV} {pins:List (Int×Int)} {fuel:Int} {r:qw} (h:mB steps v l pins fuel=some r):r.aY.length=l.length:=by
 unfold mB at h;split at h
 ·cases h
 ·rename_i s hs;split at h
  ·cases h
  ·simp only[aw]at h;subst h;simp only;obtain⟨e1,e2⟩:=Ny ⟨fb s,l,dK l pins,0,[],eV l (dK l pins),fuel,[]⟩ (An l pins);obtain⟨i1,i2⟩:=aiL steps _ (cB ⟨fb s,l,dK l pins,0,[],eV l (dK l pins),fuel,[]⟩).2 e1;rw[i1,i2,e2]
theorem Cn {steps:Nat} {v:aj} {l:List aV} {pins:List (Int×Int)} {old:List Int} {fuel:Int} (ho:old.length=l.length) (h:(gj steps v l pins old fuel).2=0):(gj steps v l pins old fuel).1.aY.length=l.length:=by
 unfold gj at h ⊢;split
 ·rename_i q;rw[if_pos q]at h;simp at h
 ·rename_i q;rw[if_neg q]at h;split
  ·rename_i q2;rw[q2]at h;simp at h
  ·rename_i r q2;split
   ·exact ho
   ·exact wN q2
structure BR (s:bO) (p:List Int) (d k:Nat) (f:Int):Prop where
 yb:∀x,eI s k=some x→f=x
 ag:(cS s.v s.us (s.l.getD k default) f).isSome=true
 apart:∀j,j<d→p.getD j 0≠-1→dS s.v (s.l.getD k default) f (s.l.getD j default) (p.getD j 0)=true
theorem QP {s:bO} {p q:List Int} {k:Nat} (h:∀j,j≤k→p.getD j 0=q.getD j 0):eg s p k=eg s q k:=by
 unfold eg;simp only;rw[h k (a8 _)];congr 3;have:∀j∈List.range k,(decide (p.getD j 0≠-1)&& !dS s.v (s.l.getD k default) (q.getD k 0) (s.l.getD j default) (p.getD j 0))=(decide (q.getD j 0≠-1)&& !dS s.v (s.l.getD k default) (q.getD k 0) (s.l.getD j default) (q.getD j 0)):=fun j hj=>by
  rw[h j (Nat.le_of_lt (dv.1 hj))]
 rw[Bool.eq_iff_iff,kV,kV];constructor
 ·rintro⟨j,hj,e⟩;exact⟨j,hj,by rw[←this j hj];exact e⟩
 ·rintro⟨j,hj,e⟩;exact⟨j,hj,by rw[this j hj];exact e⟩
theorem mM {p q:List Int} {j:Nat} (h:j<p.length):(p++q).getD j 0=p.getD j 0:=by
 rw[bB,bB,jz h]
theorem rY {p:List Int} {f:Int}:(p++[f]).getD p.length 0=f:=by
 rw[bB,iW (a8 _)];simp
theorem vp {p:List Int} {j:Nat} (h:j<p.length-1):p.dropLast.getD j 0=p.getD j 0:=by
 rw[bB,bB,List.getElem?_dropLast,if_pos h]
theorem amJ {s:bO} {p:List Int} {f:Int} (D:BR s p p.length p.length f):eg s (p++[f]) p.length=false:=by
 unfold eg;simp only[rY];have h2:(cS s.v s.us (s.l.getD p.length default) f).isNone=false:=by
  have:=D.ag;cases q:cS s.v s.us (s.l.getD p.length default) f with
  |none=>rw[q]at this;cases this
  |some _=>rfl
 have h3:((List.range p.length).any fun j=>decide ((p++[f]).getD j 0≠-1)&& !dS s.v (s.l.getD p.length default) f (s.l.getD j default) ((p++[f]).getD j 0))=false:=by
  rw[List.any_eq_false];intro j hj;have hj:=dv.1 hj;rw[mM hj];by_cases q:p.getD j 0= -1
  ·rw[show decide (p.getD j 0≠-1)=false from by rw[q];rfl];simp
  ·rw[D.apart j hj q];simp
 rw[h2,h3];cases q:eI s p.length with
 |none=>simp
 |some x=>simp[D.yb x q]
theorem amL {s:bO} {p:List Int} (h:eI s p.length=none):eg s (p++[-1]) p.length=false:=by
 unfold eg;simp only[rY,h];rfl
structure mv (p:cn):Prop where
 len:p.levels.length=p.p.length+1
 ok:∀k,k<p.p.length→eg p.s p.p k=false
 dQ:∀d,d≤p.p.length→∀k,d≤k→∀f∈(p.levels.getD d []).getD k [],BR p.s p.p d k f
theorem xT {p:cn} (h:p.levels.length=p.p.length+1):cG p=p.levels.getD p.p.length []:=by
 unfold cG;rw[List.getLastD_eq_getLast?,List.getLast?_eq_getElem?,h,rH,bB]
theorem qV {p:cn} (P:mv p):mv (fC p):=by
 unfold fC;split
 ·exact P
 ·rename_i h0;have hl:=P.len;refine⟨by simp[hl];omega,fun k hk=>?_,fun d hd k hk f hf=>?_⟩
  ·simp only[List.length_dropLast]at hk;rw[show eg p.s p.p.dropLast k=eg p.s p.p k from QP (fun j hj=>vp (by omega))];exact P.ok k (by omega)
  ·simp only[List.length_dropLast]at hd;simp only at hf;have e:p.levels.dropLast.getD d []=p.levels.getD d []:=by
    rw[bB,bB,List.getElem?_dropLast,if_pos (by omega)]
   rw[e]at hf;have D:=P.dQ d (by omega) k hk f hf;refine⟨D.yb,D.ag,fun j hj=>?_⟩;rw[vp (show j<p.p.length-1 by omega)];exact D.apart j hj
theorem yj {p:cn} (P:mv p) (f:Int):mv (fM p f):=by
 unfold fM;simp only;split
 ·exact P
 ·rename_i hg;simp only[kG,bX,not_or,not_and,Bool.not_eq_true',dP,lp]at hg;obtain⟨⟨hk,hpin⟩,hdom⟩:=hg;have hk:p.p.length<p.s.l.length:=by simpa using hk
  have hnow:=xT P.len;refine⟨by simp[P.len],fun k hk'=>?_,fun d hd k hk' f' hf'=>?_⟩
  ·simp only[bF,ji]at hk';rcases Nat.lt_or_ge k p.p.length with z|z
   ·rw[show eg p.s (p.p++[f]) k=eg p.s p.p k from QP (fun j hj=>mM (by omega))];exact P.ok k z
   ·obtain rfl:k=p.p.length:=(by omega);by_cases hf:f= -1
    ·subst hf;refine amL ?_;have:=hpin rfl;unfold ku at this;simp[hk]at this;exact this
    ·have hd:=hdom hf;have hmem:f∈(cG p).getD p.p.length []:=by
      unfold iN at hd;rw[if_pos hk]at hd;simpa using hd
     rw[hnow]at hmem;exact amJ (P.dQ _ (a8 _) _ (a8 _) f hmem)
  ·simp only[bF,ji]at hd;simp only at hf';rcases Nat.lt_or_ge p.p.length d with z|z
   ·obtain rfl:d=p.p.length+1:=(by omega);have e:(p.levels++[(List.range (cG p).length).map fun j=>if j=p.p.length then(if f= -1 then[]else[f])else if f≠-1∧p.p.length<j then fp p.s ((cG p).getD j []) j p.p.length f else(cG p).getD j []]).getD (p.p.length+1) []=(List.range (cG p).length).map fun j=>if j=p.p.length then(if f= -1 then[]else[f])else if f≠-1∧p.p.length<j then fp p.s ((cG p).getD j []) j p.p.length f else(cG p).getD j []:=by
     rw[bB,iW (by rw[P.len];omega),P.len];simp
    rw[e]at hf';rw[bB,ix]at hf';cases hr:(List.range (cG p).length)[k]? with
    |none=>rw[hr]at hf';simp at hf'
    |some k'=>
     have hk2:=cY.1 hr;obtain⟨hk3,hk4⟩:=hk2;rw[List.getElem_range]at hk4;subst hk4;rw[hr]at hf';simp only[fJ,iJ]at hf';rw[if_neg (by omega)]at hf';have key:f'∈(cG p).getD k []∧(f≠-1→dS p.s.v (p.s.l.getD k default) f' (p.s.l.getD p.p.length default) f=true):=by
      by_cases hf:f= -1
      ·rw[if_neg (by simp[hf])]at hf';exact⟨hf',fun q=>absurd hf q⟩
      ·rw[if_pos ⟨hf,by omega⟩]at hf';unfold fp at hf';obtain⟨m1,m2⟩:=ig.1 hf';exact⟨m1,fun _=>m2⟩
     rw[hnow]at key;have D:=P.dQ _ (a8 _) k (by omega) f' key.1;refine⟨D.yb,D.ag,fun j hj hne=>?_⟩;rcases Nat.lt_or_ge j p.p.length with y|y
     ·simp only[mM y]at hne ⊢;exact D.apart j y hne
     ·obtain rfl:j=p.p.length:=(by omega);simp only[rY]at hne ⊢;exact key.2 hne
   ·have e:∀X:List (List Int),(p.levels++[X]).getD d []=p.levels.getD d []:=fun X=>by
     rw[bB,bB,jz (by rw[P.len];omega)]
    rw[e]at hf'
    have D:=P.dQ d z k hk' f' hf'
    refine⟨D.yb,D.ag,fun j hj hne=>?_⟩
    simp only[mM (show j<p.p.length by omega)]at hne ⊢
    exact D.apart j hj hne
structure mu (v:aj) (us:List Bool) (l:List aV) (a:List (Int×Int)):Prop where
 each:∀q∈a,0≤q.1∧q.1<(l.length:Int)∧(cS v us (l.getD q.1.toNat default) q.2).isSome=true
 pair:a.Pairwise (fun x y=>x.1<y.1∧dS v (l.getD y.1.toNat default) y.2 (l.getD x.1.toNat default) x.2=true)
theorem YZ (v:aj) (us:List Bool) (l:List aV):∀(r acc out:List (Int×Int)),jo v us l acc r=some out→mu v us l acc→out=acc++r∧mu v us l out:=by
 intro r;induction r with
 |nil=>
  intro acc out h G;simp only[jo,aw]at h;subst h;exact⟨by simp,G⟩
 |cons q r ih=>
  intro acc out h G;obtain⟨p,f⟩:=q;rw[jo]at h;by_cases h1:(kO acc p || decide (p<0) || decide ((l.length:Int)≤p))=true
  ·rw[if_pos h1]at h;cases h
  ·rw[if_neg h1]at h;by_cases h2:(cS v us (l.getD p.toNat default) f).isNone=true
   ·rw[if_pos h2]at h;cases h
   ·rw[if_neg h2]at h;by_cases h3:(acc.all fun q=>dS v (l.getD p.toNat default) f (l.getD q.1.toNat default) q.2)=true
    ·rw[if_pos h3]at h;simp only[kG,dP,not_or]at h1;obtain⟨⟨hlast,hp0⟩,hpl⟩:=h1;have hsm:(cS v us (l.getD p.toNat default) f).isSome=true:=by
      cases z:cS v us (l.getD p.toNat default) f with
      |none=>rw[z]at h2;exact absurd rfl h2
      |some _=>rfl
     have aQ:∀x∈acc,x.1<p:=by
      intro x hx;cases hg:acc.getLast? with
      |none=>rw[List.getLast?_eq_none_iff]at hg;rw[hg]at hx;cases hx
      |some y=>
       have hlast:¬p≤y.1:=by
        intro q;apply hlast;unfold kO;rw[hg];simpa using q
       rcases Nat.lt_or_ge 0 acc.length with z|z
       ·obtain⟨i,hi,rfl⟩:=List.getElem_of_mem hx;rw[List.getLast?_eq_getElem?,av (by omega)]at hg;have hg:=bP hg;rcases Nat.lt_or_ge i (acc.length-1)with y1|y1
        ·have:=(List.pairwise_iff_getElem.1 G.pair) i (acc.length-1) hi (by omega) y1;rw[hg]at this;omega
        ·have e:i=acc.length-1:=(by omega);subst e;rw[hg];omega
       ·have:acc=[]:=nu.1 (by omega);rw[this]at hx;cases hx
     have G2:mu v us l (acc++[(p,f)]):=by
      refine⟨fun x hx=>?_,?_⟩
      ·rcases ei.1 hx with z|z
       ·exact G.each x z
       ·obtain rfl:=eo.1 z;exact⟨by simp only;omega,by simp only;omega,hsm⟩
      ·rw[nZ];refine⟨G.pair,by simp,fun x hx y hy=>?_⟩;obtain rfl:=eo.1 hy;refine⟨aQ x hx,?_⟩;exact cq.1 h3 x hx
     obtain⟨e1,e2⟩:=ih _ _ h G2;exact⟨by rw[e1];simp,e2⟩
    ·rw[if_neg h3]at h;cases h
theorem pH {v:aj} {l:List aV} {pins:List (Int×Int)} {s:bO} (h:fL v l pins=some s):s=⟨v,cd v,l,pins⟩∧mu v (cd v) l pins∧aN v=true∧fV l=true:=by
 unfold fL at h;split at h
 ·rename_i hc;simp only[bX]at hc;cases hg:jo v (cd v) l [] pins with
  |none=>rw[hg]at h;cases h
  |some out=>
   rw[hg]at h;simp only[fJ,aw]at h;obtain⟨e1,e2⟩:=YZ v (cd v) l pins [] out hg ⟨fun q hq=>(by cases hq),List.Pairwise.nil⟩;rw[dA]at e1;subst e1;exact⟨h.symm,e2,hc.1,hc.2⟩
 ·cases h
theorem vJ {s:bO} {k x:Int} (h:eI s k=some x):(k,x)∈s.pins:=by
 unfold eI at h;cases hf:s.pins.find? (fun p=>decide (p.1=k))with
 |none=>rw[hf]at h;cases h
 |some q=>
  rw[hf]at h;simp only[fJ,aw]at h;have h1:=List.find?_some hf;have h2:=List.mem_of_find?_eq_some hf;simp only[dP]at h1;obtain⟨a,b⟩:=q;simp only at h h1;subst h;subst h1;exact h2
theorem Yi (s:bO) (k:Nat):∀(pins:List (Int×Int)) (d:List Int) (f:Int),f∈pins.foldl (fun d q=>fp s d k q.1.toNat q.2) d→f∈d:=by
 intro pins;induction pins with
 |nil=>intro d f h;exact h
 |cons q r ih=>
  intro d f h;rw[List.foldl_cons]at h;have:=ih _ _ h;unfold fp at this;exact(ig.1 this).1
theorem all_some {v:aj} {us:List Bool} {p:aV} {f:Int} (h:f∈ij v us p):(cS v us p f).isSome=true:=by
 unfold ij at h;obtain⟨k,hk,rfl⟩:=dI.1 h;exact(ig.1 hk).2
theorem sj {v:aj} {l:List aV} {pins:List (Int×Int)} (P:mu v (cd v) l pins):mv (fb ⟨v,cd v,l,pins⟩):=by
 obtain⟨s,hs⟩:∃s:bO,s=⟨v,cd v,l,pins⟩:=⟨_,rfl⟩;rw[←hs];refine⟨rfl,fun k hk=>by simp[fb]at hk,fun d hd k _ f hf=>?_⟩;have hd0:d=0:=by simp[fb]at hd;exact hd
 subst hd0;have hf':f∈((List.range s.l.length).map fun k:Nat=>match eI s k with
  |some a=>[a]
  |none=>s.pins.foldl (fun d q=>fp s d k q.1.toNat q.2) (ij s.v s.us (s.l.getD k default))).getD k []:=hf
 rw[bB,ix]at hf';cases hr:(List.range s.l.length)[k]? with
 |none=>rw[hr]at hf';simp at hf'
 |some k'=>
  obtain⟨hk3,hk4⟩:=cY.1 hr;rw[List.getElem_range]at hk4;subst hk4;rw[hr]at hf';simp only[fJ,iJ]at hf';have hap:∀j,j<0→([]:List Int).getD j 0≠-1→dS s.v (s.l.getD k default) f (s.l.getD j default) (([]:List Int).getD j 0)=true:=fun j hj=>by omega
  cases hq:eI s k with
  |some a=>
   rw[hq]at hf';obtain rfl:=eo.1 hf';have hm:=vJ hq;refine⟨fun x hx=>?_,?_,hap⟩
   ·have e:(fb s).s=s:=rfl;rw[e,hq]at hx;exact bP hx
   ·have:=(P.each (k,f) (by rw[hs]at hm;exact hm)).2.2;simp only[jN]at this;rw[hs];exact this
  |none=>
   rw[hq]at hf';have hm:=all_some (Yi s k _ _ f hf');refine⟨fun x hx=>?_,hm,hap⟩;have e:(fb s).s=s:=rfl;rw[e,hq]at hx;cases hx
def za (s:bO) (p:List Int):Prop:=∀k,k<p.length→eg s p k=false
structure uP (s:bO) (h:dn):Prop where
 prop:mv h.p
 set:h.p.s=s
 aY:za s h.aY
theorem pR (p:cn):(fC p).s=p.s:=by unfold fC;split<;>rfl
theorem yk (p:cn) (f:Int):(fM p f).s=p.s:=by unfold fM;simp only;split<;>rfl
theorem NC {s:bO} {h:dn} (H:uP s h):uP s (cB h).1:=by
 unfold cB;split
 ·exact H
 ·simp only;split
  ·split
   ·exact⟨qV H.prop,by simp only[pR];exact H.set,fun k hk=>by have:=H.prop.ok k hk;rw[H.set]at this;exact this⟩
   ·exact⟨qV H.prop,by simp only[pR];exact H.set,H.aY⟩
  ·split
   ·exact⟨H.prop,H.set,H.aY⟩
   ·exact⟨qV H.prop,by simp only[pR];exact H.set,H.aY⟩
theorem yp {s:bO}:∀(n:Nat) (h:dn) (g:Bool),uP s h→uP s (dN n h g).1:=by
 intro n;induction n with
 |zero=>intro h g H;exact H
 |succ n ih=>
  intro h g H;rw[dN];split
  ·split
   ·exact H
   ·split
    ·exact ih _ _ ⟨qV H.prop,by simp only[pR];exact H.set,H.aY⟩
    ·exact ih _ _ (NC ⟨yj H.prop _,by simp only[yk];exact H.set,H.aY⟩)
  ·exact H
theorem ZD:∀(pins:List (Int×Int)) (p:List Int) (k:Nat),pins.Pairwise (fun x y=>x.1<y.1)→(∀q∈pins,0≤q.1)→k<p.length→
  (pins.foldl (fun p q=>p.set q.1.toNat q.2) p).getD k 0=match(pins.find? fun q=>decide (q.1=(k:Int))).map (fun q=>q.2)with
   |some x=>x
   |none=>p.getD k 0:=by
 intro pins;induction pins with
 |nil=>intro p k _ _ _;rfl
 |cons q r ih=>
  intro p k hp h0 hk;rw[jg]at hp;have hq0:=h0 q dH;rw[List.foldl_cons,ih _ k hp.2 (fun x hx=>h0 x (ep _ hx)) (by simpa using hk),List.find?_cons];by_cases e:q.1=(k:Int)
  ·have hn:r.find? (fun q=>decide (q.1=(k:Int)))=none:=by
    rw[List.find?_eq_none];intro x hx;have:=hp.1 x hx;simp;omega
   rw[hn,show decide (q.1=(k:Int))=true from by simp[e]]
   simp only[Option.map_none,fJ]
   rw[bB,show q.1.toNat=k by omega,List.getElem?_set_self hk];rfl
  ·rw[show decide (q.1=(k:Int))=false from by simp[e]];simp only;have:(p.set q.1.toNat q.2).getD k 0=p.getD k 0:=by
    rw[bB,bB,List.getElem?_set_ne (by omega)]
   rw[this]
theorem ZE {v:aj} {l:List aV} {pins:List (Int×Int)} (P:mu v (cd v) l pins):za ⟨v,cd v,l,pins⟩ (dK l pins):=by
 obtain⟨s,hs⟩:∃s:bO,s=⟨v,cd v,l,pins⟩:=⟨_,rfl⟩;rw[←hs];intro k hk;rw[An]at hk;have hg:∀j,j<l.length→(dK l pins).getD j 0=match eI s j with
   |some x=>x
   |none=>-1:=by
  intro j hj;have:=ZD pins (List.replicate l.length (-1)) j (P.pair.imp (fun h=>h.1)) (fun q hq=>(P.each q hq).1) (by simpa using hj);unfold dK eI;rw[this,hs];have e:(List.replicate l.length (-1:Int)).getD j 0= -1:=by rw[bB,List.getElem?_replicate,if_pos hj];rfl
  rw[e]
 unfold eg;simp only;cases hq:eI s k with
 |none=>
  have e:=hg k hk;rw[hq]at e;simp only at e;rw[e];rfl
 |some x=>
  have e:=hg k hk;rw[hq]at e;simp only at e;rw[e];have hm:=vJ hq;have he:=(P.each (k,x) (by rw[hs]at hm;exact hm)).2.2;simp only[jN]at he;have h2:(cS s.v s.us (s.l.getD k default) x).isNone=false:=by
   rw[hs];simp only;cases z:cS v (cd v) (l.getD k default) x with
   |none=>rw[z]at he;cases he
   |some _=>rfl
  have h3:((List.range k).any fun j=>decide ((dK l pins).getD j 0≠-1)&& !dS s.v (s.l.getD k default) x (s.l.getD j default) ((dK l pins).getD j 0))=false:=by
   rw[List.any_eq_false];intro j hj;have hj:=dv.1 hj;have ej:=hg j (by omega);cases hqj:eI s j with
   |none=>rw[hqj]at ej;simp only at ej;rw[ej];simp
   |some y=>
    rw[hqj]at ej;simp only at ej;rw[ej];have hmj:=vJ hqj;rw[hs]at hm hmj;obtain⟨ia,ha,ea⟩:=List.getElem_of_mem hmj;obtain⟨ib,hb,eb⟩:=List.getElem_of_mem hm;simp only at ha hb ea eb;have hlt:ia<ib:=by
     rcases Nat.lt_trichotomy ia ib with z|z|z
     ·exact z
     ·exfalso;subst z;rw[ea]at eb;simp only[bH]at eb;omega
     ·exfalso;have:=(List.pairwise_iff_getElem.1 P.pair) ib ia hb ha z;rw[ea,eb]at this;simp only at this;omega
    have:=((List.pairwise_iff_getElem.1 P.pair) ia ib ha hb hlt).2;rw[ea,eb]at this;simp only[jN]at this;rw[hs];simp only;rw[this];simp
  rw[h2,h3];simp
theorem UE {steps:Nat} {v:aj} {l:List aV} {pins:List (Int×Int)} {fuel:Int} {r:qw} (h:mB steps v l pins fuel=some r):iR v l r.aY pins=true:=by
 have hl:=wN h;unfold mB at h;split at h
 ·cases h
 ·rename_i s hs;obtain⟨e,P,hm,ha⟩:=pH hs;split at h
  ·cases h
  ·simp only[aw]at h;have H:uP s (dN steps (cB ⟨fb s,l,dK l pins,0,[],eV l (dK l pins),fuel,[]⟩).1 (cB ⟨fb s,l,dK l pins,0,[],eV l (dK l pins),fuel,[]⟩).2).1:=by
    refine yp _ _ _ (NC ⟨?_,rfl,?_⟩)
    ·rw[e];exact sj P
    ·rw[e];exact ZE P
   have hp:za s r.aY:=(by rw[←h];exact H.aY);unfold iR;rw[hs];simp only;rw[if_pos hl];unfold oB;have:(List.range r.aY.length).find? (eg s r.aY)=none:=by
    rw[List.find?_eq_none];intro k hk;rw[hp k (dv.1 hk)];simp
   rw[this];rfl
end Go.Proofs.Ybk.K

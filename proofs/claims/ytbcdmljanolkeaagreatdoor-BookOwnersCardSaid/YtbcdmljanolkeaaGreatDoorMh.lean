import Derived.Test.YtbcdmljanolkeaaGreatDoorMg
set_option linter.unusedVariables false
set_option linter.unusedSimpArgs false
set_option linter.unusedSectionVars false
set_option linter.constructorNameAsVariable false
set_option linter.defProp false
set_option maxRecDepth 20000
namespace Go.Proofs.Ybk.K
open Go Go.Am
open V (au aR ai aK aE)
def zc{v:ai}{us:List Bool}{p:aQ}{f:Int}(h:(cY v us p f).isSome=true):0<=f:=by
 have:=zR h;unfold ir at this;obtain⟨k,_,rfl⟩:=dO.1 this;omega
def Qy{s:bS}(hp:s.pins.Pairwise (λx y=>x.1<y.1)){k x:Int}(h:(k,x)∈s.pins):eS s k=some x:=by
 unfold eS;generalize s.pins=l at hp h;induction l with
 |nil=>cases h
 |cons q r ih=>
  rw[jy]at hp;rw[List.find?_cons];rcases cJ.1 h with e|h
  .subst e;simp
  .have:=hp.1 _ h;simp only at this;rw[show decide (q.1=k)=false from by simp;omega];exact ih hp.2 h
def ZG(s:bS)(k:Nat):∀(pins:List (Int×Int))(d:List Int)(f:Int),f∈d->(∀q∈pins,dM s.v (s.l.getD k default) f (s.l.getD q.1.toNat default) q.2=true)->f∈pins.foldl (λd q=>fB s d k q.1.toNat q.2) d:=by
 intro pins;induction pins with
 |nil=>intro d f h _;exact h
 |cons q r ih=>
  intro d f h ha;rw[List.foldl_cons];refine ih _ f ?_ (λx hx=>ha x (eI _ hx));unfold fB;exact gS.2 ⟨h,ha q dU⟩
def PL{v:ai}{l:List aQ}{pins:List (Int×Int)}(P:mU v (bK v) l pins):ml (fm ⟨v,bK v,l,pins⟩):=by
 obtain⟨s,hs⟩:=nm (⟨v,bK v,l,pins⟩:bS);rw[<-hs];have hp:s.pins.Pairwise (λx y=>x.1<y.1):=by rw[hs];exact P.pair.imp (λh=>h.1)
 refine⟨rfl,λd hd=>?_,λd hd k hk=>?_,λq C d hd ha k _ hkl=>?_⟩
 .have hd0:d=0:=by simp[fm]at hd;exact hd
  subst hd0;show((List.range s.l.length).map _).length=s.l.length;simp
 .simp[fm]at hd;omega
 .have hd0:d=0:=by simp[fm]at hd;exact hd
  subst hd0;have hkl:k<s.l.length:=hkl;by_cases hn:q.getD k 0= -1
  .exact .inl hn
  .right;show q.getD k 0∈((List.range s.l.length).map λk:Nat=>match eS s k with
    |some a=>[a]
    |none=>s.pins.foldl (λd q=>fB s d k q.1.toNat q.2) (ir s.v s.us (s.l.getD k default))).getD k []
   have C:oP s q:=C;have hw:=C.2 k (by rw[C.1];exact hkl);rw[bu,fx,List.getElem?_range hkl];simp only[fV,iH];cases hq:eS s k with
   |some a=>simp only;rw[zw hw hq];exact dZ.2 rfl
   |none=>
    simp only;refine ZG s k _ _ _ (zR (vn hw hn).1) (λx hx=>?_);obtain⟨j,y⟩:=x;have he:=P.each (j,y) (by rw[hs]at hx;exact hx);simp only at he;obtain⟨jn,hj⟩:∃n:Nat,j=n:=⟨j.toNat,by omega⟩;subst hj;have hjp:=Qy hp hx;have hls:s.l=l:=(by rw[hs]);have hjl:jn<s.l.length:=(by rw[hls];omega);have hjk:jn≠k:=(by rintro rfl;rw[hjp]at hq;cases hq);have hqj:=zw (C.2 jn (by rw[C.1];exact hjl)) hjp;have hy:=zc he.2.2;have:=Dz C hjl hkl hjk (by rw[hqj];omega) hn;rw[hqj]at this;simpa using this
def sM{p:cu}(P:ml p):cK p=p.levels.getD p.p.length []:=yH P.len
def QR{p:cu}(P:ml p)(f:Int):ml (fY p f):=by
 unfold fY;simp only;split
 .exact P
 .rename_i hg;simp only[kY,bQ,not_or,not_and,Bool.not_eq_true',de,lP]at hg;obtain⟨⟨hk,hpin⟩,hdom⟩:=hg;have hk:p.p.length<p.s.l.length:=by simpa using hk
  have hnow:=sM P;have hwid:=P.wid p.p.length (aX _);rw[<-hnow]at hwid;obtain⟨nx,hnx⟩:=nm ((List.range (cK p).length).map λj=>if j=p.p.length then(if f= -1 then[]else[f])else if f≠-1/\p.p.length<j then fB p.s ((cK p).getD j []) j p.p.length f else(cK p).getD j []);rw[<-hnx];have hnl:nx.length=p.s.l.length:=by rw[hnx];simp[hwid]
  have hget:∀k,k<p.s.l.length->nx.getD k []=if k=p.p.length then(if f= -1 then[]else[f])else if f≠-1/\p.p.length<k then fB p.s ((cK p).getD k []) k p.p.length f else(cK p).getD k []:=by
   intro k hkl;rw[hnx,bu,fx,List.getElem?_range (by rw[hwid];exact hkl)];rfl
  have elt:∀d,d<=p.p.length->(p.levels++[nx]).getD d []=p.levels.getD d []:=λd hd=>by
   rw[bu,bu,ji (by rw[P.len];omega)]
  have eat:(p.levels++[nx]).getD (p.p.length+1) []=nx:=by
   rw[bu,iF (by rw[P.len];omega),P.len];simp
  refine⟨by simp[P.len],λd hd=>?_,λd hd k hk' hn=>?_,λq C d hd ha k hk' hkl=>?_⟩
  .simp only[bH,jz]at hd;rcases Nat.lt_or_ge p.p.length d with z|z
   .obtain rfl:d=p.p.length+1:=(by omega);simp only[eat];exact hnl
   .simp only[elt d z];exact P.wid d z
  .simp only[bH,jz]at hd;rcases Nat.lt_or_ge p.p.length d with z|z
   .obtain rfl:d=p.p.length+1:=(by omega);simp only[eat];rw[hget k (by omega)];rcases Nat.lt_or_ge k p.p.length with y|y
    .simp only[nz y]at hn;rw[if_neg (by omega),if_neg (by omega),hnow];exact P.xY _ (aX _) k y hn
    .obtain rfl:k=p.p.length:=(by omega);simp only[sC]at hn;rw[if_pos rfl,if_neg hn];simp
   .simp only[elt d z];simp only[nz (show k<p.p.length by omega)]at hn;exact P.xY d z k hk' hn
  .simp only[bH,jz]at hd;rcases Nat.lt_or_ge p.p.length d with z|z
   .obtain rfl:d=p.p.length+1:=(by omega);simp only[eat];rw[hget k hkl,if_neg (by omega)];have hf:q.getD p.p.length 0=f:=by
     have:=ha p.p.length (by omega);simp only[sC]at this;exact this
    have hag:∀j,j<p.p.length->q.getD j 0=p.p.getD j 0:=λj hj=>by
     have:=ha j (by omega);simp only[nz hj]at this;exact this
    rcases P.all q C _ (aX _) hag k (by omega) hkl with w|w
    .exact .inl w
    .by_cases hn:q.getD k 0= -1
     .exact .inl hn
     .right;rw[<-hnow]at w;by_cases hf1:f= -1
      .rw[if_neg (by simp[hf1])];exact w
      .rw[if_pos ⟨hf1,by omega⟩];unfold fB;refine gS.2 ⟨w,?_⟩;have:=Dz C hk hkl (by omega) (by rw[hf];exact hf1) hn;rw[hf]at this;exact this
   .simp only[elt d z];refine P.all q C d z (λj hj=>?_) k hk' hkl;have:=ha j hj;simp only[nz (show j<p.p.length by omega)]at this;exact this
def Co(f g:Nat->Int):∀(L:List Nat)(a b:Int),a<=b->(∀k∈L,f k<=g k)->(L.map f).foldl (· + ·) a<=(L.map g).foldl (· + ·) b:=by
 intro L;induction L with
 |nil=>intro a b h _;exact h
 |cons k r ih=>
  intro a b h hk;rw[fg,fg,List.foldl_cons,List.foldl_cons];refine ih _ _ ?_ (λx hx=>hk x (eI _ hx));have:=hk k dU;omega
def size_pos{l:List aQ}(h:fy l=true){k:Nat}(hk:k<l.length):0<=(l.getD k default).size:=by
 unfold fy at h;simp only[bQ,cz]at h;rw[bu,aq hk,iH];have:=h.2 _ (fG hk);unfold dK at this;simp only[bQ,de]at this;omega
def aca{p:cu}(P:ml p)(ha:fy p.s.l=true)(hd:p.p.length<=p.s.l.length){q:List Int}(C:oP p.s q)(hg:∀j,j<p.p.length->q.getD j 0=p.p.getD j 0):ff p.s.l q<=j6 p:=by
 have hnow:=sM P;have hwid:=P.wid p.p.length (aX _);rw[<-hnow]at hwid;unfold ff j6;rw[if_pos ⟨C.1.symm,ha⟩,hwid,C.1];refine Co _ _ _ _ _ (kE _) (λk hk=>?_);have hkl:=dF.1 hk;have hs:=size_pos ha hkl;by_cases h0:0<=q.getD k 0
 .rw[if_pos h0,if_pos]
  .exact kE _
  .rw[hnow];rcases Nat.lt_or_ge k p.p.length with z|z
   .have:=P.xY _ (aX _) k z (by rw[<-hg k z];omega);exact sf.2 this
   .rcases P.all q C _ (aX _) hg k z hkl with w|w
    .omega
    .exact List.length_pos_of_mem w
 .rw[if_neg h0];split
  .exact hs
  .exact kE _
def qC(p:cu)(d:Nat):List Int:=if(eS p.s d).isSome then(p.levels.getD d []).getD d []else(p.levels.getD d []).getD d []++[-1]
def wP(p:cu):List (List Int×Nat)->Prop
 |[]=>True
 |(l,a)::r=>(l=qC p r.length/\r.length<p.s.l.length/\a<=l.length)/\wP p r
def qk(p:cu)(q:List Int):List (List Int×Nat)->Prop
 |[]=>False
 |(l,a)::r=>((∀j,j<r.length->q.getD j 0=p.p.getD j 0)/\q.getD r.length 0∈l.drop a)∨qk p q r
def Q9{p p':cu}(hs:p'.s=p.s):∀(st:List (List Int×Nat)),(∀d,d<st.length->p'.levels.getD d []=p.levels.getD d [])->wP p st->wP p' st:=by
 intro st;induction st with
 |nil=>intro _ _;trivial
 |cons x r ih=>
  obtain⟨l,a⟩:=x;intro h H;refine⟨⟨?_,by rw[hs];exact H.1.2.1,H.1.2.2⟩,ih (λd hd=>h d (by simp;omega)) H.2⟩;rw[H.1.1];unfold qC;rw[hs,h r.length (by simp)]
def Qu{p p':cu}{q:List Int}:∀(st:List (List Int×Nat)),(∀d,d+1<st.length->p'.p.getD d 0=p.p.getD d 0)->qk p q st->qk p' q st:=by
 intro st;induction st with
 |nil=>intro _ h;exact h
 |cons x r ih=>
  obtain⟨l,a⟩:=x;intro h H;rcases H with⟨H1,H2⟩|H
  .exact .inl ⟨λj hj=>by rw[H1 j hj,h j (by simp;omega)],H2⟩
  .exact .inr (ih (λd hd=>h d (by simp;omega)) H)
structure oQ(s:bS)(h:dA)(flat:Bool):Prop where
 all:ml h.p
 ok:mV h.p
 set:h.p.s=s
 l:h.l=s.l
 may:fy s.l=true
 pins:∀k x,eS s k=some x->x≠-1
 wide:h.p.p.length<=s.l.length
 rows:wP h.p h.stack
 deep:if flat then h.stack.length=h.p.p.length else(h.stack.length=h.p.p.length+1∨(h.stack=[]/\h.p.p=[]))
 qT:∀q,oP s q->ff s.l q<=h.cI∨qk h.p q h.stack∨(flat=true/\∀j,j<h.p.p.length->q.getD j 0=h.p.p.getD j 0)
def wI(p:cu):(fK p).p.length=p.p.length-1:=by unfold fK;split<;>simp_all
def QN{p:cu}(hl:p.levels.length=p.p.length+1){d:Nat}(hd:d<p.p.length):(fK p).levels.getD d []=p.levels.getD d []:=by
 unfold fK;rw[if_neg (by omega)];simp only;rw[bu,bu,List.getElem?_dropLast,if_pos (by omega)]
def QM{p:cu}{d:Nat}(hd:d+1<p.p.length):(fK p).p.getD d 0=p.p.getD d 0:=by
 unfold fK;rw[if_neg (by omega)];exact vQ (by omega)
def leave{s:bS}{h:dA}{st:List (List Int×Nat)}{m:Int}{pl:List Int}{nd:Int}{tr:List Bool}(A:ml h.p)(O:mV h.p)(S:h.p.s=s)(L:h.l=s.l)(M:fy s.l=true)(N:∀k x,eS s k=some x->x≠-1)(W:h.p.p.length<=s.l.length)(R:wP h.p st)(D:st.length=h.p.p.length)
  (B:∀q,oP s q->ff s.l q<=m∨qk h.p q st):oQ s ⟨fK h.p,h.l,pl,nd,tr,m,h.fuel,st⟩ false:=by
 refine⟨BI A,rG O,by simp only[qt];exact S,L,M,N,by simp only[wI];omega,?_,?_,λq C=>?_⟩
 .exact Q9 (qt _) st (λd hd=>QN A.len (by omega)) R
 .simp only[fw,if_false,wI];rcases Nat.eq_zero_or_pos h.p.p.length with z|z
  .right;refine⟨mY.1 (by omega),mY.1 (by rw[wI];omega)⟩
  .left;omega
 .rcases B q C with b|b
  .exact .inl b
  .exact .inr (.inl (Qu st (λd hd=>QM (by omega)) b))
def Pm{s:bS}{h:dA}(H:oQ s h true)(hg:(cD h).2=true):oQ s (cD h).1 false:=by
 have hdeep:h.stack.length=h.p.p.length:=by have:=H.deep;simpa using this
 have hbest:∀q,oP s q->∀m,h.cI<=m->j6 h.p<=m->ff s.l q<=m∨qk h.p q h.stack:=by
  intro q C m h1 h2;rcases H.qT q C with b|b|⟨_,b⟩
  .exact .inl (Int.le_trans b h1)
  .exact .inr b
  .left;have:=aca H.all (by rw[H.set];exact H.may) (by rw[H.set];exact H.wide) (by rw[H.set];exact C) b;rw[H.set]at this;exact Int.le_trans this h2
 unfold cD at hg ⊢;split
 .rename_i hf;rw[if_pos hf]at hg;cases hg
 .simp only;split
  .split
   .rename_i hm;exact leave H.all H.ok H.set H.l H.may H.pins H.wide H.rows hdeep (λq C=>hbest q C _ (by omega) (kE _))
   .rename_i hm;exact leave H.all H.ok H.set H.l H.may H.pins H.wide H.rows hdeep (λq C=>hbest q C _ (kE _) (by have hm2:¬h.cI<j6 h.p:=hm;omega))
  .rename_i hc;split
   .rename_i hm;have hlt:h.p.p.length<s.l.length:=(by have:=H.wide;rw[H.l]at hc;omega);refine⟨H.all,H.ok,H.set,H.l,H.may,H.pins,H.wide,⟨⟨?_,by rw[hdeep,H.set];exact hlt,Nat.zero_le _⟩,H.rows⟩,by simp[hdeep],λq C=>?_⟩
    .unfold iQ qC;simp only;rw[hdeep];unfold kN iY;rw[H.set,if_pos hlt,sM H.all];simp[hlt]
    .rcases H.qT q C with b|b|⟨_,b⟩
     .exact .inl b
     .exact .inr (.inl (.inr b))
     .refine .inr (.inl (.inl ⟨by rw[hdeep];exact b,?_⟩));rw[hdeep,List.drop_zero];have C':oP h.p.s q:=(by rw[H.set];exact C);have w:=H.all.all q C' _ (aX _) b h.p.p.length (aX _) (by rw[H.set];exact hlt);unfold iQ;simp only;unfold kN iY;rw[H.set,if_pos hlt,sM H.all];cases hp:eS s h.p.p.length with
      |none=>
       simp[hlt];rcases w with w|w
       .right;simpa using w
       .left;simpa using w
      |some x=>
       have e:=zw (C.2 h.p.p.length (by rw[C.1];exact hlt)) hp;have nx:=H.pins _ _ hp;rcases w with w|w
       .rw[e]at w;exact absurd w nx
       .simp[hlt];simpa using w
   .rename_i hm;exact leave H.all H.ok H.set H.l H.may H.pins H.wide H.rows hdeep (λq C=>hbest q C _ (kE _) (by have hm2:¬h.cI<j6 h.p:=hm;omega))
def ajl{p:cu}{f:Int}(O:mV p)(A:ml p)(hk:p.p.length<p.s.l.length)(hf:f∈qC p p.p.length):(fY p f).p=p.p++[f]/\∀d,d<=p.p.length->(fY p f).levels.getD d []=p.levels.getD d []:=by
 have hdom:∀g,g∈(p.levels.getD p.p.length []).getD p.p.length []->0<=g:=λg hg=>zc (O.dX _ (aX _) _ (aX _) g hg).ag;have g2:(decide (f= -1)&&kN p p.p.length)=false:=by
  by_cases e:f= -1
  .cases hp:eS p.s p.p.length with
   |none=>unfold kN;rw[hp];simp
   |some x=>
    unfold qC at hf;rw[hp]at hf;simp only[Option.isSome_some,if_true]at hf;have:=hdom f hf;omega
  .simp[e]
 have g3:(decide (f≠-1)&& !(iY p p.p.length).contains f)=false:=by
  by_cases e:f= -1
  .simp[e]
  .have hm:f∈(p.levels.getD p.p.length []).getD p.p.length []:=by
    unfold qC at hf;split at hf
    .exact hf
    .rcases eH.1 hf with w|w
     .exact w
     .exact absurd (dZ.1 w) e
   unfold iY
   rw[if_pos hk,sM A]
   have:((p.levels.getD p.p.length []).getD p.p.length []).contains f=true:=by simpa using hm
   rw[this];simp
 unfold fY;simp only;rw[if_neg (by rw[g2,g3];simp[hk])];refine⟨rfl,λd hd=>?_⟩;simp only;rw[bu,bu,ji (by rw[A.len];omega)]
def aj3{p p':cu}{d:Nat}(hs:p'.s=p.s)(h:p'.levels.getD d []=p.levels.getD d []):qC p' d=qC p d:=by
 unfold qC;rw[hs,h]
def al3{s:bS}{h:dA}{l:List Int}{a:Nat}{r:List (List Int×Nat)}(H:oQ s h false)(hs:h.stack=(l,a)::r)(ha:a<l.length):
  oQ s {h with stack:=(l,a+1)::r,p:=fY h.p (l.getD a 0)} true:=by
 have hr:=H.rows;rw[hs]at hr;obtain⟨⟨hl,hlt,hal⟩,hr⟩:=hr;have hd:=H.deep;simp only[fw,if_false]at hd;have hdl:r.length=h.p.p.length:=by
  rcases hd with d|⟨d,_⟩
  .rw[hs]at d;simpa using d
  .rw[hs]at d;cases d
 have hlt':h.p.p.length<h.p.s.l.length:=by rw[<-hdl];exact hlt
 have hfm:l.getD a 0∈l:=by rw[bu,aq ha];exact fG ha
 obtain⟨e1,e2⟩:=ajl (f:=l.getD a 0) H.ok H.all hlt' (by rw[<-hdl,<-hl];exact hfm);have hps:=yV h.p (l.getD a 0);have hget:∀j,j<h.p.p.length->(fY h.p (l.getD a 0)).p.getD j 0=h.p.p.getD j 0:=λj hj=>by rw[e1,nz hj]
 refine⟨QR H.all _,yU H.ok _,by simp only[hps];exact H.set,H.l,H.may,H.pins,?_,⟨⟨?_,by simp only[hps];exact hlt,ha⟩,?_⟩,?_,λq C=>?_⟩
 .simp only[e1,bH,jz];rw[H.set]at hlt';omega
 .exact hl.trans (aj3 hps (e2 r.length (by omega))).symm
 .exact Q9 (p:=h.p) hps r (λd hd=>e2 d (by omega)) hr
 .rw[if_pos rfl];show r.length+1=(fY h.p (l.getD a 0)).p.length;rw[e1,bH,hdl];rfl
 .rcases H.qT q C with b|b|⟨b,_⟩
  .exact .inl b
  .rw[hs]at b;rcases b with⟨b1,b2⟩|b
   .rw[gQ ha]at b2;rcases cJ.1 b2 with w|w
    .refine .inr (.inr ⟨rfl,λj hj=>?_⟩);simp only[e1,bH,jz]at hj ⊢;rcases Nat.lt_or_ge j h.p.p.length with z|z
     .rw[nz z];exact b1 j (by omega)
     .obtain rfl:j=h.p.p.length:=(by omega);rw[sC,<-hdl,w,bu,aq ha];rfl
    .refine .inr (.inl (.inl ⟨λj hj=>?_,w⟩));rw[b1 j hj];exact(hget j (by omega)).symm
   .exact .inr (.inl (.inr (Qu r (λd hd=>hget d (by omega)) b)))
  .cases b
def al2{s:bS}{h:dA}{l:List Int}{a:Nat}{r:List (List Int×Nat)}(H:oQ s h false)(hs:h.stack=(l,a)::r)(ha:a=l.length):
  oQ s {h with stack:=r,p:=fK h.p} false:=by
 have hr:=H.rows;rw[hs]at hr;have hd:=H.deep;simp only[fw,if_false]at hd;have hdl:r.length=h.p.p.length:=by
  rcases hd with d|⟨d,_⟩
  .rw[hs]at d;simpa using d
  .rw[hs]at d;cases d
 refine leave H.all H.ok H.set H.l H.may H.pins H.wide hr.2 hdl (λq C=>?_);rcases H.qT q C with b|b|⟨b,_⟩
 .exact .inl b
 .rw[hs]at b;rcases b with⟨_,b2⟩|b
  .rw[ha,List.drop_length]at b2;cases b2
  .exact .inr b
 .cases b
def BW(n:Nat)(h:dA):(dV n h false).2=false:=by cases n<;>rfl
def akj{s:bS}:∀(n:Nat)(h:dA),oQ s h false->(dV n h true).2=true->oQ s (dV n h true).1 false:=by
 intro n;induction n with
 |zero=>intro h H _;exact H
 |succ n ih=>
  intro h H hg;rw[dV,if_pos rfl]at hg ⊢;cases hs:h.stack with
  |nil=>simp only;exact H
  |cons x r=>
   obtain⟨l,a⟩:=x;rw[hs]at hg;simp only at hg ⊢;by_cases ha:a=l.length
   .rw[if_pos ha]at hg ⊢;exact ih _ (al2 H hs ha) hg
   .rw[if_neg ha]at hg ⊢;by_cases hal:a<l.length
    .have J:=al3 H hs hal;cases hb:(cD {h with stack:=(l,a+1)::r,p:=fY h.p (l.getD a 0)}).2 with
     |false=>rw[hb,BW]at hg;cases hg
     |true=>
      rw[hb]at hg;exact ih _ (Pm J hb) hg
    .exfalso;have hr:=H.rows;rw[hs]at hr;have:=hr.1.2.2;omega
def Pq(h:dA)(hg:(cD h).2=true):h.nodes<h.fuel/\(cD h).1.nodes=h.nodes+1/\(cD h).1.fuel=h.fuel/\(cD h).1.stack.length<=h.stack.length+1:=by
 unfold cD at hg ⊢;split
 .rename_i hf;rw[if_pos hf]at hg;cases hg
 .rename_i hf;refine⟨by omega,?_⟩;simp only;split
  .split
   .exact⟨rfl,rfl,Nat.le_succ _⟩
   .exact⟨rfl,rfl,Nat.le_succ _⟩
  .split
   .exact⟨rfl,rfl,aX _⟩
   .exact⟨rfl,rfl,Nat.le_succ _⟩
def akk:∀(n:Nat)(h:dA),2*(h.fuel-h.nodes).toNat+h.stack.length<=n->(dV n h true).2=false∨(dV n h true).1.stack=[]:=by
 intro n;induction n with
 |zero=>intro h hm;right;exact mY.1 (by show h.stack.length=0;omega)
 |succ n ih=>
  intro h hm;rw[dV,if_pos rfl];cases hs:h.stack with
  |nil=>simp only;right;exact hs
  |cons x r=>
   obtain⟨l,a⟩:=x;simp only;rw[hs,eW]at hm;by_cases ha:a=l.length
   .rw[if_pos ha];exact ih _ (by simp only;omega)
   .rw[if_neg ha];cases hb:(cD {h with stack:=(l,a+1)::r,p:=fY h.p (l.getD a 0)}).2 with
    |false=>left;exact BW _ _
    |true=>
     obtain⟨m1,m2,m3,m4⟩:=Pq _ hb;refine ih _ ?_;rw[m2,m3];simp only[eW]at m1 m4 ⊢;omega
def abc{v:ai}{l:List aQ}{pins:List (Int×Int)}(P:mU v (bK v) l pins):∀k x,eS (⟨v,bK v,l,pins⟩:bS) k=some x->x≠-1:=by
 intro k x h;have:=zc (P.each (k,x) (wF h)).2.2;omega
def alq{v:ai}{l:List aQ}{pins:List (Int×Int)}(P:mU v (bK v) l pins)(ha:fy l=true)(aY:List Int)(cI fuel:Int):oQ ⟨v,bK v,l,pins⟩ ⟨fm ⟨v,bK v,l,pins⟩,l,aY,0,[],cI,fuel,[]⟩ true:=
 ⟨PL P,sL P,rfl,rfl,ha,abc P,Nat.zero_le _,trivial,rfl,λq _=>.inr (.inr ⟨rfl,λj hj=>absurd hj (Nat.not_lt_zero j)⟩)⟩
def aao{v:ai}{l:List aQ}{pins:List (Int×Int)}(P:mU v (bK v) l pins)(ha:fy l=true)(aY:List Int)(cI fuel:Int)(n:Nat)(hn:2*fuel.toNat+1<=n)
  (hg:(dV n (cD ⟨fm ⟨v,bK v,l,pins⟩,l,aY,0,[],cI,fuel,[]⟩).1 (cD ⟨fm ⟨v,bK v,l,pins⟩,l,aY,0,[],cI,fuel,[]⟩).2).2=true):
  ∀q,oP ⟨v,bK v,l,pins⟩ q->ff l q<=(dV n (cD ⟨fm ⟨v,bK v,l,pins⟩,l,aY,0,[],cI,fuel,[]⟩).1 (cD ⟨fm ⟨v,bK v,l,pins⟩,l,aY,0,[],cI,fuel,[]⟩).2).1.cI:=by
 intro q C;have J:=alq P ha aY cI fuel;obtain⟨h0,hh⟩:=nm (⟨fm ⟨v,bK v,l,pins⟩,l,aY,0,[],cI,fuel,[]⟩:dA);rw[<-hh]at J hg ⊢;have f1:h0.fuel=fuel:=by rw[hh]
 have f2:h0.nodes=0:=by rw[hh]
 have f3:h0.stack.length=0:=by rw[hh];rfl
 have hb:(cD h0).2=true:=by
  cases hb:(cD h0).2 with
  |false=>rw[hb,BW]at hg;cases hg
  |true=>rfl
 rw[hb]at hg ⊢;have K:=akj n _ (Pm J hb) hg;obtain⟨m1,m2,m3,m4⟩:=Pq _ hb;have E:=akk n (cD h0).1 (by rw[m2,m3,f1,f2];omega);have E:(dV n (cD h0).1 true).1.stack=[]:=by
  rcases E with E|E
  .rw[hg]at E;cases E
  .exact E
 rcases K.qT q C with b|b|⟨b,_⟩
 .exact b
 .rw[E]at b;exact absurd b (λz=>z)
 .cases b
def rY(p:cu):Prop:=∀d,d<=p.p.length->∀k,k<d->p.p.getD k 0= -1->(p.levels.getD d []).getD k []=[]
def acr(s:bS):rY (fm s):=λd hd k hk=>by simp[fm]at hd;omega
def QO{p:cu}(hl:p.levels.length=p.p.length+1)(P:rY p):rY (fK p):=by
 intro d hd k hk hn;rcases Nat.eq_zero_or_pos p.p.length with z|z
 .rw[wI,z]at hd;omega
 .rw[wI]at hd;rw[QN hl (by omega)];rw[QM (by omega)]at hn;exact P d (by omega) k hk hn
def ajn{p:cu}(A:ml p)(P:rY p)(f:Int):rY (fY p f):=by
 unfold fY;simp only;split
 .exact P
 .have hnow:=sM A;intro d hd k hk hn;simp only[bH,jz]at hd;simp only at hn ⊢;rcases Nat.lt_or_ge p.p.length d with z|z
  .obtain rfl:d=p.p.length+1:=(by omega);have eat:∀nx:List (List Int),(p.levels++[nx]).getD (p.p.length+1) []=nx:=λnx=>by
    rw[bu,iF (by rw[A.len];omega),A.len];simp
   rw[eat,bu,fx];cases hr:(List.range (cK p).length)[k]? with
   |none=>rfl
   |some k'=>
    obtain⟨hk3,hk4⟩:=cP.1 hr;rw[List.getElem_range]at hk4;subst hk4;simp only[fV,iH];rcases Nat.lt_or_ge k p.p.length with y|y
    .rw[nz y]at hn;rw[if_neg (by omega),if_neg (by omega),hnow];exact P _ (aX _) k y hn
    .obtain rfl:k=p.p.length:=(by omega);rw[sC]at hn;rw[if_pos rfl,if_pos hn]
  .rw[nz (show k<p.p.length by omega)]at hn;have elt:∀nx:List (List Int),(p.levels++[nx]).getD d []=p.levels.getD d []:=λnx=>by
    rw[bu,bu,ji (by rw[A.len];omega)]
   rw[elt];exact P d z k hk hn
def acb{p:cu}(A:ml p)(O:mV p)(P:rY p)(ha:fy p.s.l=true)(hc:p.p.length=p.s.l.length):j6 p<=ff p.s.l p.p:=by
 have hnow:=sM A;have hwid:=A.wid p.p.length (aX _);rw[<-hnow]at hwid;unfold ff j6;rw[if_pos ⟨hc.symm,ha⟩,hwid,hc];refine Co _ _ _ _ _ (kE _) (λk hk=>?_);have hkl:=dF.1 hk;have hs:=size_pos ha hkl;by_cases h0:p.p.getD k 0= -1
 .rw[if_neg]
  .split
   .exact hs
   .exact kE _
  .rw[hnow,P _ (aX _) k (by omega) h0];simp
 .have:=zc (vn (O.ok k (by omega)) h0).1;rw[if_pos this];split
  .exact kE _
  .exact hs
structure vp(s:bS)(h:dA):Prop where
 all:ml h.p
 ok:mV h.p
 nil:rY h.p
 set:h.p.s=s
 l:h.l=s.l
 may:fy s.l=true
 cI:h.cI<=ff s.l h.aY
def Pp{s:bS}{h:dA}(H:vp s h):vp s (cD h).1:=by
 have hp:=λ(nd:Int)(tr:List Bool)(st:List (List Int×Nat))(pl:List Int)(m:Int)(hm:m<=ff s.l pl)=>(⟨BI H.all,rG H.ok,QO H.all.len H.nil,by simp only[qt];exact H.set,H.l,H.may,hm⟩:vp s ⟨fK h.p,h.l,pl,nd,tr,m,h.fuel,st⟩);unfold cD;split
 .exact H
 .simp only;split
  .rename_i hc;split
   .refine hp _ _ _ _ _ ?_;have:=acb H.all H.ok H.nil (by rw[H.set];exact H.may) (by rw[H.set,<-H.l];exact hc);rw[H.set]at this;exact this
   .exact hp _ _ _ _ _ H.cI
  .split
   .exact⟨H.all,H.ok,H.nil,H.set,H.l,H.may,H.cI⟩
   .exact hp _ _ _ _ _ H.cI
def akn{s:bS}:∀(n:Nat)(h:dA)(g:Bool),vp s h->vp s (dV n h g).1:=by
 intro n;induction n with
 |zero=>intro h g H;exact H
 |succ n ih=>
  intro h g H;rw[dV];split
  .split
   .exact H
   .split
    .exact ih _ _ ⟨BI H.all,rG H.ok,QO H.all.len H.nil,by simp only[qt];exact H.set,H.l,H.may,H.cI⟩
    .exact ih _ _ (Pp ⟨QR H.all _,yU H.ok _,ajn H.all H.nil _,by simp only[yV];exact H.set,H.l,H.may,H.cI⟩)
  .exact H
def Wf{steps:Nat}{v:ai}{l:List aQ}{pins:List (Int×Int)}{fuel:Int}{r:qO}(h:mZ steps v l pins fuel=some r)(hn:2*fuel.toNat+1<=steps)(ha:r.answer≠3):
  ∀q,oP ⟨v,bK v,l,pins⟩ q->ff l q<=ff l r.aY:=by
 intro q C;unfold mZ at h;split at h
 .cases h
 .rename_i s hs;obtain⟨e,P,hm,hal⟩:=pe hs;split at h
  .cases h
  .simp only[av]at h;rw[e]at h;have hg:(dV steps (cD ⟨fm ⟨v,bK v,l,pins⟩,l,dQ l pins,0,[],ff l (dQ l pins),fuel,[]⟩).1 (cD ⟨fm ⟨v,bK v,l,pins⟩,l,dQ l pins,0,[],ff l (dQ l pins),fuel,[]⟩).2).2=true:=by
    cases hb:(dV steps (cD ⟨fm ⟨v,bK v,l,pins⟩,l,dQ l pins,0,[],ff l (dQ l pins),fuel,[]⟩).1 (cD ⟨fm ⟨v,bK v,l,pins⟩,l,dQ l pins,0,[],ff l (dQ l pins),fuel,[]⟩).2).2 with
    |true=>rfl
    |false=>
     rw[hb]at h;exfalso;apply ha;rw[<-h];rfl
   have b1:=aao P hal (dQ l pins) (ff l (dQ l pins)) fuel steps hn hg q C;have b2:=(akn (s:=⟨v,bK v,l,pins⟩) steps _ (cD ⟨fm ⟨v,bK v,l,pins⟩,l,dQ l pins,0,[],ff l (dQ l pins),fuel,[]⟩).2 (Pp (h:=⟨fm ⟨v,bK v,l,pins⟩,l,dQ l pins,0,[],ff l (dQ l pins),fuel,[]⟩) ⟨PL P,sL P,acr _,rfl,rfl,hal,kE _⟩)).cI;rw[<-h];exact Int.le_trans b1 b2
def ama(f g:Nat->Int):∀(L:List Nat)(a b:Int),a<=b->(∀k∈L,f k<=g k)->(L.map g).foldl (· + ·) b<=(L.map f).foldl (· + ·) a->∀k∈L,f k=g k:=by
 intro L;induction L with
 |nil=>intro a b _ _ _ k hk;cases hk
 |cons x r ih=>
  intro a b h hk hs;rw[fg,fg,List.foldl_cons,List.foldl_cons]at hs;have h0:=hk x dU;have hr:=λk h=>hk k (eI x h);have e:f x=g x:=by
   rcases Int.lt_or_eq_of_le h0 with z|z
   .exfalso;have l1:=Co f g r (a+f x) (b+g x-1) (by omega) hr;have l2:∀(L:List Int)(c:Int),L.foldl (· + ·) (c-1)=L.foldl (· + ·) c-1:=by
     intro L;induction L with
     |nil=>intro c;rfl
     |cons y L ihL=>intro c;rw[List.foldl_cons,List.foldl_cons,show c-1+y=c+y-1 by omega,ihL]
    rw[l2]at l1;omega
   .exact z
  intro k hkm;rcases cJ.1 hkm with rfl|hkm
  .exact e
  .exact ih _ _ (by omega) hr hs k hkm
def ZN{l:List aQ}{q p:List Int}(ha:fy l=true)(hq:jD l q=true)(hp:p.length=l.length)(h:ff l q<=ff l p):jD l p=true:=by
 unfold jD at hq ⊢;simp only[bQ,cz,de]at hq ⊢;obtain⟨q1,q2⟩:=hq;refine⟨λx hx=>?_,hp.symm⟩;unfold ff at h;rw[if_pos ⟨q2,ha⟩,if_pos ⟨hp.symm,ha⟩,<-q2,hp]at h;have hs:∀k,k<l.length->1<=(l.getD k default).size:=by
  intro k hk;unfold fy at ha;simp only[bQ,cz]at ha;rw[bu,aq hk,iH];have:=ha.2 _ (fG hk);unfold dK at this;simp only[bQ,de]at this;omega
 have hqk:∀k,k<l.length->0<=q.getD k 0:=by
  intro k hk;rw[bu,aq (by omega),iH];exact q1 _ (fG _)
 obtain⟨k,hk,rfl⟩:=List.getElem_of_mem hx;have key:=ama (λk=>if 0<=p.getD k 0 then(l.getD k default).size else 0) (λk=>if 0<=q.getD k 0 then(l.getD k default).size else 0) (List.range l.length) 0 0 (kE _) (λk hk=>by
  have hkl:=dF.1 hk;have:=hs k hkl;rw[if_pos (hqk k hkl)];split<;>omega) h k (dF.2 (by omega))
 rw[if_pos (hqk k (by omega))]at key;have:=hs k (by omega);split at key
 .rename_i h0;rw[bu,aq hk,iH]at h0;exact h0
 .omega
def pf(o:aB):aQ×Int:=(o.az,o.first)
structure lO(v:ai)(A:List (aQ×Int)):Prop where
 may:aK v=true
 each:∀q∈A,dK q.1=true/\0<=q.2/\(cY v (bK v) q.1 q.2).isSome=true
 pair:A.Pairwise λx y=>dM v y.1 y.2 x.1 x.2=true
def lO.sub{v:ai}{A B:List (aQ×Int)}(H:lO v A)(h:B.Sublist A):lO v B:=
 ⟨H.may,λq hq=>H.each q (h.subset hq),H.pair.sublist h⟩
def getD_at{α:Type}{l:List α}{k:Nat}{d:α}(h:k<l.length):l.getD k d=l[k]:=by
 rw[bu,aq h,iH]
def akW{v:ai}{l:List aQ}{p:List Int}{pins:List (Int×Int)}(h:ix v l p pins=true)(hf:∀x∈p,0<=x):lO v (l.zip p):=by
 obtain⟨s,hs,hl,hw⟩:=yD h;obtain⟨e,P,hm,ha⟩:=pe hs;subst e;have g:∀i,i<p.length->0<=p.getD i 0:=λi hi=>by
  rw[getD_at hi];exact hf _ (fG hi)
 have key:∀k,k<p.length->(cY v (bK v) (l.getD k default) (p.getD k 0)).isSome=true/\∀j,j<k->dM v (l.getD k default) (p.getD k 0) (l.getD j default) (p.getD j 0)=true:=by
  intro k hk;have:=vn (hw k hk) (by have:=g k hk;omega);exact⟨this.1,λj hj=>this.2 j hj (by have:=g j (by omega);omega)⟩
 refine⟨hm,λq hq=>?_,?_⟩
 .obtain⟨k,hk,rfl⟩:=List.getElem_of_mem hq;rw[List.length_zip]at hk;rw[List.getElem_zip];have k1:k<l.length:=by omega
  have k2:k<p.length:=by omega
  have kk:=(key k k2).1;rw[getD_at k1,getD_at k2]at kk;have g2:=g k k2;rw[getD_at k2]at g2;unfold fy at ha;simp only[bQ,cz]at ha;exact⟨ha.2 _ (fG k1),g2,kk⟩
 .rw[List.pairwise_iff_getElem];intro i j hi hj hij;rw[List.length_zip]at hi hj;rw[List.getElem_zip,List.getElem_zip];have kk:=(key j (by omega)).2 i hij;rw[getD_at (show j<l.length by omega),getD_at (show j<p.length by omega),getD_at (show i<l.length by omega),getD_at (show i<p.length by omega)]at kk;exact kk
def uU:∀(l:List aB)(k:Nat)(q:Int×Int),q∈cT k l->∃i o,l[i]? =some o/\o.state=2/\q=(((k+i:Nat):Int),o.first):=by
 intro l;induction l with
 |nil=>intro k q h;cases h
 |cons a r ih=>
  intro k q h;rw[cT]at h;have rest:q∈cT (k+1) r->∃i o,(a::r)[i]? =some o/\o.state=2/\q=(((k+i:Nat):Int),o.first):=λh=>by
   obtain⟨i,o,h1,h2,h3⟩:=ih (k+1) q h;exact⟨i+1,o,by rw[List.getElem?_cons_succ];exact h1,h2,by rw[h3,show k+1+i=k+(i+1) by omega]⟩
  split at h
  .rename_i hs;rcases cJ.1 h with e|h
   .exact⟨0,a,rfl,hs,e⟩
   .exact rest h
  .exact rest h
def aav(v:ai)(us:List Bool)(l:List aQ):∀(r acc:List (Int×Int)),mU v us l (acc++r)->jE v us l acc r=some (acc++r):=by
 intro r;induction r with
 |nil=>intro acc _;simp[jE]
 |cons q r ih=>
  obtain⟨p,f⟩:=q;intro acc P;have hap:acc++(p,f)::r=(acc++[(p,f)])++r:=by simp
  obtain⟨e1,e2,e3⟩:=P.each (p,f) (by simp);simp only at e1 e2 e3;have pw:=P.pair;rw[oR]at pw;have cr:=λa ha=>pw.2.2 a ha (p,f) dU;have hn:lq acc p=false:=by
   unfold lq;cases hg:acc.getLast? with
   |none=>rfl
   |some q=>have:=(cr q (List.mem_of_getLast? hg)).1;simp only[lP];omega
  have h2:¬(cY v us (l.getD p.toNat default) f).isNone=true:=by
   intro q;rw[Option.isNone_iff_eq_none]at q;rw[q]at e3;cases e3
  rw[jE,if_neg (by rw[hn];simp;omega),if_neg h2,if_pos (by rw[cz];exact λa ha=>(cr a ha).2),ih _ (hap ▸ P),<-hap]
def aow{s:bS}{p:List Int}{k:Nat}(h1:∀x,eS s k=some x->p.getD k 0=x)(h2:(cY s.v s.us (s.l.getD k default) (p.getD k 0)).isSome=true)
  (h3:∀j,j<k->dM s.v (s.l.getD k default) (p.getD k 0) (s.l.getD j default) (p.getD j 0)=true):ez s p k=false:=by
 have a2:(cY s.v s.us (s.l.getD k default) (p.getD k 0)).isNone=false:=by
  cases q:cY s.v s.us (s.l.getD k default) (p.getD k 0)with
  |none=>rw[q]at h2;cases h2
  |some _=>rfl
 have a3:((List.range k).any λj=>decide (p.getD j 0≠-1)&& !dM s.v (s.l.getD k default) (p.getD k 0) (s.l.getD j default) (p.getD j 0))=false:=by
  rw[List.any_eq_false];intro j hj;rw[h3 j (dF.1 hj)];simp
 unfold ez;simp only;rw[a2,a3];clear a2 a3 h2 h3;generalize p.getD k 0=f at h1 ⊢;cases q:eS s k with
 |none=>simp
 |some x=>simp[h1 x q]
def ab1{v:ai}{l:List aQ}{p:List Int}{pins:List (Int×Int)}{s:bS}(hs:fW v l pins=some s)(hl:p.length=l.length)(hw:∀k,k<p.length->ez s p k=false):ix v l p pins=true:=by
 unfold ix;rw[hs];simp only;rw[if_pos hl];unfold pb;have:(List.range p.length).find? (ez s p)=none:=by
  rw[List.find?_eq_none];intro k hk;rw[hw k (dF.1 hk)];simp
 rw[this];rfl
def ab0{v:ai}{L:List aB}(H:lO v (L.map pf))(hl:L.length<=512):ix v (L.map (·.az)) (L.map (·.first)) (cT 0 L)=true:=by
 have each:∀(k:Nat)(o:aB),L[k]? =some o->dK o.az=true/\0<=o.first/\(cY v (bK v) o.az o.first).isSome=true:=λk o h=>H.each (pf o) (List.mem_map_of_mem (dE h));have pair:∀(i j:Nat)(a b:aB),i<j->L[i]? =some a->L[j]? =some b->dM v b.az b.first a.az a.first=true:=by
  intro i j a b hij ha hb;obtain⟨hi,rfl⟩:=cP.mp ha;obtain⟨hj,rfl⟩:=cP.mp hb;have:=H.pair;rw[List.pairwise_map,List.pairwise_iff_getElem]at this;exact this i j hi hj hij
 have gp:∀(k:Nat)(o:aB),L[k]? =some o->(L.map (·.az)).getD k default=o.az:=λk o h=>by
  rw[bu,fx,h];rfl
 have gf:∀(k:Nat)(o:aB),L[k]? =some o->(L.map (·.first)).getD k 0=o.first:=λk o h=>by
  rw[bu,fx,h];rfl
 have P:mU v (bK v) (L.map (·.az)) (cT 0 L):=by
  refine⟨λq hq=>?_,?_⟩
  .obtain⟨i,o,h1,h2,rfl⟩:=uU L 0 q hq;have hi:=(cP.mp h1).1;simp only[gR,iG,cf];rw[gp i o h1];exact⟨by omega,by omega,(each i o h1).2.2⟩
  .refine(BA L 0).2.imp_of_mem (fun{x y} hx hy hxy=>⟨hxy,?_⟩);obtain⟨i,a,h1,h2,rfl⟩:=uU L 0 x hx;obtain⟨j,b,h3,h4,rfl⟩:=uU L 0 y hy;simp only[gR,iG]at hxy ⊢;rw[gp i a h1,gp j b h3];exact pair i j a b (by omega) h1 h3
 have hin:fW v (L.map (·.az)) (cT 0 L)=some ⟨v,bK v,L.map (·.az),cT 0 L⟩:=by
  unfold fW;have ha:fy (L.map (·.az))=true:=by
   unfold fy;simp only[bQ,de,cz,cf];refine⟨hl,λx hx=>?_⟩;obtain⟨o,ho,rfl⟩:=dO.1 hx;exact(H.each (pf o) (List.mem_map_of_mem ho)).1
  rw[if_pos (by rw[H.may,ha];rfl),aav v _ _ (cT 0 L) [] P];rfl
 refine ab1 hin (by simp) (λk hk=>?_);rw[cf]at hk;have ho:L[k]? =some L[k]:=aq hk;refine aow (λx hx=>?_) ?_ (λj hj=>?_)
 .have hm:=wF hx;obtain⟨i,o,h1,h2,e⟩:=uU L 0 _ hm;simp only[bM,iG]at e;obtain⟨e1,e2⟩:=e;have:k=i:=by omega
  subst this;rw[gf k o h1,e2]
 .simp only;rw[gp k _ ho,gf k _ ho];exact(each k _ ho).2.2
 .simp only;have hj':L[j]? =some L[j]:=aq (by omega);rw[gp k _ ho,gf k _ ho,gp j _ hj',gf j _ hj'];exact pair j k _ _ hj hj' ho
structure Good(b:aI):Prop where
 ids:gV 0 b.l
 ord:∀o∈b.l,dK o.az=true/\0<=o.gX/\o.gX<=1099511627776
 sound:∀o∈b.l,kR b o=true
 live:bV b≠[]->b.has=true/\(bV b).length<=512/\lO b.v ((bV b).map pf)
def KC(f:Int):Good (eP f):=⟨trivial,λo h=>(by cases h),λo h=>(by cases h),λq=>absurd rfl q⟩
def Good.full{b:aI}(H:Good b):jD (aO b).1 (aO b).2.1=true:=by
 unfold jD aO;simp only[bQ,cz,de,cf,and_true];intro x hx;obtain⟨o,ho,rfl⟩:=dO.1 hx;have hne:bV b≠[]:=λq=>by rw[q]at ho;cases ho
 exact((H.live hne).2.2.each (pf o) (List.mem_map_of_mem ho)).2.1
def Good.abU{b:aI}(H:Good b)(hne:bV b≠[]):ix b.v (aO b).1 (aO b).2.1 (aO b).2.2=true:=ab0 (H.live hne).2.2 (H.live hne).2.1
def Good.may{b:aI}(H:Good b):nF b=true:=by
 unfold nF;rw[bQ];refine⟨cz.2 H.sound,?_⟩;by_cases q:bV b=[]
 .rw[kY];refine .inl ?_;simp[aO,q]
 .obtain⟨h1,h2,h3⟩:=H.live q;rw[kY];refine .inr ?_;rw[h1,H.full,H.abU q];simp[aO];exact h2
def Pf{b:aI}{o:aB}(h:o∈b.l)(hl:bT o=true):o∈bV b:=gS.2 ⟨h,hl⟩
def Good.l7{b:aI}(H:Good b)(hN:b.l.length<=2147483647):∀o∈b.l,l7 o=true:=by
 intro o ho;obtain⟨k,hk,e⟩:=List.getElem_of_mem ho;obtain⟨o1,o2,o3,o4⟩:=yJ H.ids (aq hk);rw[e]at o1 o2 o3 o4;obtain⟨p1,p2,p3⟩:=H.ord o ho;have hf: -1<=o.first/\o.first<=4095:=by
  by_cases q:o.state=3
  .rw[(o4 q).1];omega
  .have hl:bT o=true:=(by unfold bT;simp;omega);have hm:=Pf ho hl;obtain⟨_,_,S⟩:=H.live (λq=>by rw[q]at hm;cases hm);have hs:=(S.each (pf o) (List.mem_map_of_mem hm)).2.2;have hb:=Cc hs;have:=(jF S.may).len;simp only[pf]at hb;omega
 unfold K.l7 aE;rw[p1];simp;omega
def Ru:∀(l:List aB)(p:List Int),∀o∈eE l p,∃x∈l,o=x∨(bT x=true/\∃f,o=kP x f):=by
 intro l;induction l with
 |nil=>intro p o ho;rw[eE]at ho;cases ho
 |cons a r ih=>
  intro p o ho;rw[eE]at ho;split at ho
  .rename_i hl;rcases cJ.1 ho with rfl|ho
   .exact⟨a,dU,.inr ⟨hl,_,rfl⟩⟩
   .obtain⟨x,hx,e⟩:=ih _ o ho;exact⟨x,eI _ hx,e⟩
  .rcases cJ.1 ho with rfl|ho
   .exact⟨o,dU,.inl rfl⟩
   .obtain⟨x,hx,e⟩:=ih _ o ho;exact⟨x,eI _ hx,e⟩
def ale{b b':aI}{x:aB}(hn:b'.now=b.now)(hl:bT x=true)(f:Int)(h:kR b x=true):kR b' (kP x f)=true:=by
 unfold bT at hl;simp at hl;unfold kR at h ⊢;rw[hn];have e1:(kP x f).state=x.state:=rfl;have e2:(kP x f).gX=x.gX:=rfl;rw[e1,e2];rcases hl with q|q<;>simp[q]at h ⊢<;>exact h
def KD{b:aI}{L:List aB}{p:List Int}{pins:List (Int×Int)}(hids:gV 0 L)(hord:∀o∈L,dK o.az=true/\0<=o.gX/\o.gX<=1099511627776)(hs:∀o∈L,kR b o=true)(hh:b.has=true)
  (hl:(L.filter bT).length<=512) (hm:ix b.v ((L.filter bT).map (·.az)) p pins=true) (hf:jD ((L.filter bT).map (·.az)) p=true):Good (tD {b with l:=L} p):=by
 have hlen:p.length=(L.filter bT).length:=by
  unfold jD at hf;simp only[bQ,de,cf]at hf;exact hf.2.symm
 have hpos:∀x∈p,0<=x:=by
  unfold jD at hf;simp only[bQ,cz,de]at hf;exact hf.1
 refine⟨Bo p hids,λo ho=>?_,λo ho=>?_,λ_=>⟨hh,?_,?_⟩⟩
 .obtain⟨x,hx,e|⟨_,f,e⟩⟩:=Ru L p o ho
  .rw[e];exact hord x hx
  .rw[e];exact hord x hx
 .obtain⟨x,hx,e|⟨hl,f,e⟩⟩:=Ru L p o ho
  .rw[e];exact hs x hx
  .rw[e];exact ale rfl hl f (hs x hx)
 .show((eE L p).filter bT).length<=512;rw[Pg L p hlen,List.length_zipWith];omega
 .show lO b.v (((eE L p).filter bT).map pf);rw[Pg L p hlen];have e:(List.zipWith kP (L.filter bT) p).map pf=((L.filter bT).map (·.az)).zip p:=by
   rw[List.zip_map_left,List.map_zipWith,List.zip,List.map_zipWith];rfl
  rw[e];exact akW hm hpos
def abv(now:Int):∀l:List aB,((l.map (kF now)).filter bT).Sublist (l.filter bT):=by
 intro l;induction l with
 |nil=>exact List.Sublist.refl _
 |cons a r ih=>
  rw[fg];by_cases q:kh now a=true
  .have e:bT (kF now a)=false:=(by unfold kF;rw[if_pos q];rfl);rw[iS,e];simp only[fw,if_false];rw[iS];split
   .exact ih.cons _
   .exact ih
  .have e:kF now a=a:=(by unfold kF;rw[if_neg q]);rw[e,iS,iS];split
   .exact ih.cons_cons _
   .exact ih
def abu{x:aB}(hx:bT x=false):∀(l:List aB)(k:Nat),((l.set k x).filter bT).Sublist (l.filter bT):=by
 intro l;induction l with
 |nil=>intro k;exact List.Sublist.refl _
 |cons a r ih=>
  intro k;cases k with
  |zero=>
   rw[List.set_cons_zero,iS,hx,iS];simp only[fw,if_false];split
   .exact(List.Sublist.refl _).cons _
   .exact List.Sublist.refl _
  |succ k=>
   rw[List.set_cons_succ,iS,iS];split
   .exact(ih k).cons_cons _
   .exact ih k
def abw{x:aB}:∀(l:List aB)(k:Nat)(o:aB),l[k]? =some o->bT x=bT o->pf x=pf o->((l.set k x).filter bT).map pf=(l.filter bT).map pf:=by
 intro l;induction l with
 |nil=>intro k o h;simp at h
 |cons a r ih=>
  intro k o h h1 h2;cases k with
  |zero=>
   simp at h;subst h;rw[List.set_cons_zero,iS,iS,h1];split
   .rw[fg,fg,h2]
   .rfl
  |succ k=>
   rw[List.getElem?_cons_succ]at h;rw[List.set_cons_succ,iS,iS];split
   .rw[fg,fg,ih k o h h1 h2]
   .exact ih k o h h1 h2
def Good.sub{b b':aI}(H:Good b)(hids:gV 0 b'.l)(hord:∀o∈b'.l,dK o.az=true/\0<=o.gX/\o.gX<=1099511627776)(hs:∀o∈b'.l,kR b' o=true)(hh:b'.has=b.has)(hv:b'.v=b.v)
  (hl:((bV b').map pf).Sublist ((bV b).map pf)):Good b':=by
 refine⟨hids,hord,hs,λq=>?_⟩;have hlen:=hl.length_le;rw[cf,cf]at hlen;have hne:bV b≠[]:=by
  intro z;rw[z]at hlen;exact q (mY.1 (by simpa using hlen))
 obtain⟨h1,h2,h3⟩:=H.live hne;exact⟨by rw[hh];exact h1,by omega,by rw[hv];exact h3.sub hl⟩
def yE{l:List aB}{k:Nat}{x o:aB}(h:o∈l.set k x):o∈l∨o=x:=List.mem_or_eq_of_mem_set h
def xX{n N:Nat}{b:aI}(H:Good b)(OK:eF N b)(hn:2*b.fuel.toNat+1<=n)(c:CmdR):Good (bZ n b c).1:=by
 have ids:=(Ys n b c H.ids).1;unfold bZ at ids ⊢;split
 .exact H
 rename_i k0;rw[if_neg k0]at ids;split
 .rename_i k1;rw[if_pos k1]at ids;unfold kJ at ids ⊢;split
  .exact H
  .rename_i hz;split
   .exact H
   .refine⟨H.ids,H.ord,H.sound,λq=>absurd ?_ q⟩;exact mY.1 (by show(bV b).length=0;omega)
 rename_i k1;rw[if_neg k1]at ids;split
 .rename_i k5;rw[if_pos k5]at ids;by_cases hc:1<=c.a/\c.a<=1000000/\b.now+c.a<=1099511627776;rotate_left
  .unfold iR;rw[if_pos (by omega)];exact H
  .rw[Cs b c.a hc]at ids ⊢;refine H.sub ids (λo ho=>?_) (λo ho=>?_) rfl rfl ((abv _ b.l).map pf)
   .obtain⟨x,hx,rfl⟩:=dO.1 ho;unfold kF;split
    .exact⟨(H.ord x hx).1,kE 0,by show(0:Int)<=_;decide⟩
    .exact H.ord x hx
   .obtain⟨x,hx,rfl⟩:=dO.1 ho;have hsx:=H.sound x hx;unfold kF;by_cases q:kh (b.now+c.a) x=true
    .rw[if_pos q];rfl
    .rw[if_neg q];unfold kh at q;unfold kR at hsx ⊢;by_cases q1:x.state=1
     .simp[q1]at q ⊢;omega
     .rw[if_neg q1]at hsx ⊢;exact hsx
 rename_i k5;rw[if_neg k5]at ids;split
 .exact H
 rename_i hhas;rw[if_neg hhas]at ids;have hh:b.has=true:=by simpa using hhas
 split
 .rename_i k2;rw[if_pos k2]at ids;unfold kH at ids ⊢;split
  .exact H
  .rename_i hcond;simp only[kY,de,not_or,Bool.not_eq_true',Bool.not_eq_false]at hcond;obtain⟨⟨⟨c1,c2⟩,c3⟩,c4⟩:=hcond;simp only at ids ⊢;split
   .exact H
   .rename_i h2;have h2:(gv n b c.az).2=0:=Classical.byContradiction h2;obtain⟨F,hF⟩:=nm (gv n b c.az);rw[<-hF]at h2 ⊢;unfold gv at hF;split at hF
    .rw[hF]at h2;cases h2
    .rename_i h512;simp only at hF;split at hF
     .rename_i h3;rw[hF]at h2;exact absurd h2 h3
     .rename_i h3;split at hF
      .rename_i h4;have hm:=tW (Classical.byContradiction λq=>h3 q);have hlive:(b.l++[(⟨(b.l.length:Int)+1,1,c.az,b.now+c.a,F.1.getLastD 0⟩:aB)]).filter bT=bV b++[⟨(b.l.length:Int)+1,1,c.az,b.now+c.a,F.1.getLastD 0⟩]:=by
        rw[mo];rfl
       have n0:=OK.n0;refine KD (pins:=(aO b).2.2) ?_ (λo ho=>?_) (λo ho=>?_) hh ?_ ?_ ?_
       .exact Qb H.ids ⟨by simp,by show(1:Int)<=1;decide,by show(1:Int)<=3;decide,λq=>(by cases q)⟩
       .rcases eH.1 ho with q|q
        .exact H.ord o q
        .rw[dZ]at q;subst q;exact⟨c1,by show 0<=b.now+c.a;omega,by show b.now+c.a<=_;omega⟩
       .rcases eH.1 ho with q|q
        .exact H.sound o q
        .rw[dZ]at q;subst q;unfold kR;simp;omega
       .rw[hlive,bH,jz];omega
       .rw[hlive,kX,hF];exact hm
       .rw[hlive,kX,hF];exact h4
      .split at hF
       .rw[hF]at h2;cases h2
       .rw[hF]at h2;cases h2
 rename_i k2;rw[if_neg k2]at ids;split
 .exact H
 rename_i k6;rw[if_neg k6]at ids;split
 .rename_i k3;rw[if_pos k3]at ids;unfold lR at ids ⊢;split
  .exact H
  .rename_i hr;rw[if_neg hr]at ids;simp only at ids ⊢;split
   .exact H
   .rename_i hs;rw[if_neg hs]at ids;simp only[ne_eq,Decidable.not_not]at hs;have hk:c.a.toNat-1<b.l.length:=(by omega);have hg:=sD hk;obtain⟨o,ho⟩:=nm (b.l.getD (c.a.toNat-1) default);rw[<-ho]at hg hs ids ⊢;have hmo:=dE hg;refine H.sub ids (λx hx=>?_) (λx hx=>?_) rfl rfl ?_
    .rcases yE hx with q|q
     .exact H.ord x q
     .subst q;exact⟨(H.ord o hmo).1,kE 0,by show(0:Int)<=_;decide⟩
    .rcases yE hx with q|q
     .exact H.sound x q
     .subst q;rfl
    .show(((b.l.set _ _).filter bT).map pf).Sublist _;rw[abw (x:={o with state:=2,gX:=0}) b.l _ o hg (by unfold bT;simp[hs]) rfl];exact List.Sublist.refl _
 rename_i k3;rw[if_neg k3]at ids;split
 .rename_i k4;rw[if_pos k4]at ids;unfold lQ at ids ⊢;split
  .exact H
  .rename_i hr;rw[if_neg hr]at ids;simp only at ids ⊢;split
   .exact H
   .rename_i hs;rw[if_neg hs]at ids;have hk:c.a.toNat-1<b.l.length:=(by omega);have hg:=sD hk;obtain⟨o,ho⟩:=nm (b.l.getD (c.a.toNat-1) default);rw[<-ho]at hg hs ids ⊢;have hmo:=dE hg;refine H.sub ids (λx hx=>?_) (λx hx=>?_) rfl rfl ((abu rfl b.l _).map pf)
    .rcases yE hx with q|q
     .exact H.ord x q
     .subst q;exact⟨(H.ord o hmo).1,kE 0,by show(0:Int)<=_;decide⟩
    .rcases yE hx with q|q
     .exact H.sound x q
     .subst q;rfl
 rename_i k4;rw[if_neg k4]at ids;split
 .rename_i k7;rw[if_pos k7]at ids;unfold ma at ids ⊢;simp only at ids ⊢;split
  .exact H
  .rename_i h1;split
   .exact H
   .rename_i h3;have h1:(gj n b.v (aO b).1 (aO b).2.2 (aO b).2.1 b.fuel).2=0:=Classical.byContradiction h1;have hm:=tW h1;have hlen:(bV b).length<=512:=by
     by_cases q:bV b=[]
     .rw[q];decide
     .exact(H.live q).2.1
    refine KD (b:=b) (L:=b.l) (pins:=(aO b).2.2) H.ids H.ord H.sound hh hlen hm ?_;unfold gj at h1 h3 ⊢;by_cases qm:ix b.v (aO b).1 (aO b).2.1 (aO b).2.2=true;rotate_left
    .rw[if_pos (by simpa using qm)]at h1;cases h1
    rw[qm]at h1 h3 ⊢;simp only[Bool.not_true,fw,if_false]at h1 h3 ⊢;cases hb:mZ n b.v (aO b).1 (aO b).2.2 b.fuel with
    |none=>rw[hb]at h1;cases h1
    |some r=>
     rw[hb]at h3;simp only at h3 ⊢;by_cases q3:r.answer=3/\ff (aO b).1 r.aY<=ff (aO b).1 (aO b).2.1
     .rw[if_pos q3]at h3;exact absurd q3.1 h3
     .rw[if_neg q3]at h3 ⊢;obtain⟨s,hs,hl,hw⟩:=yD qm;obtain⟨e,P,_,ha⟩:=pe hs;subst e;exact ZN ha H.full (xu hb) (Wf hb hn h3 _ ⟨hl,hw⟩)
 .exact H
end Go.Proofs.Ybk.K

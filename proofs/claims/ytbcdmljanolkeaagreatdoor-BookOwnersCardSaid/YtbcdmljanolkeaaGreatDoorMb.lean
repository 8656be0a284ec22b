import Derived.Test.YtbcdmljanolkeaaGreatDoorMa
import Derived.Tactics
import Derived.Laws.Strings
import Derived.Laws.StructEq
import Derived.Below
import Derived.Test.YtbcdmljanolkeaaGreatDoorProg
import Derived.KernelRfl
import Derived.Shelf.Strconv.Itoa3
import Derived.Shelf.Strings.OnBuilder
set_option linter.unusedVariables false
set_option linter.unusedSimpArgs false
set_option linter.unusedSectionVars false
set_option linter.constructorNameAsVariable false
set_option linter.defProp false
set_option maxRecDepth 20000
namespace Go.Am
open Go
section
variable {P:Program} {ρ0 ρ ρ':aH} {h0:aa} {w0 w:World} {m:Mem}
def wo(P:Program)(ops:Array Oper)(p q:Nat×Oper):Prop:=
 eO P p.2.op=true/\(∀d,p.2.dst=some d->d∉q.2.looksAt ops)/\(∀d,p.2.dst=some d->q.2.dst≠some d)/\(∀d,q.2.dst=some d->d∉p.2.looksAt ops)
def CZ(P:Program)(ops:Array Oper)(B:Nat->Nat->Bool)(Wl:List Nat)(p q:Nat×Oper):Prop:=
 p.1≠q.1/\(B q.1 p.1=false->(eO P p.2.op=false/\eO P q.2.op=false)∨wo P ops p q∨∃r,r≠q.1/\B q.1 r=true/\[p.1,r].Sublist Wl)
def al9{A S:List Nat}{p r:Nat}(hn:(A++S).Nodup)(hp:p∈S)(h:[p,r].Sublist (A++S)):r∈S:=by
 obtain⟨l1,l2,e,h1,h2⟩:=List.sublist_append_iff.1 h;cases l1 with
 |nil=>rw[dJ]at e;exact h2.subset (by rw[<-e];simp)
 |cons a t=>
  rw[dB,List.cons.injEq]at e;have:a∈A:=h1.subset (by simp);exact absurd e.1.symm ((List.nodup_append.1 hn).2.2 a this p hp)
def Sd{loc:List Nat}{ops:Array Oper}{B:Nat->Nat->Bool}{Q:St->Prop}{hl:HL}{i:Nat}{o:Oper}{r:List (Nat×Oper)}{σ:St}(hn:eO P o.op=true):
  gM P loc ops B Q hl ((i,o)::r) σ↔∃v hl',jl P loc ops hl i o σ=some (v,hl')/\gM P loc ops B Q hl' r (σ.cF o.dst v):=by
 rw[gM,if_pos hn];constructor
 .intro h;split at h
  .rename_i v k hk;exact⟨v,k,hk,h⟩
  .exact h.elim
 .rintro⟨v,k,h1,h2⟩;rw[h1];exact h2
def anU{loc:List Nat}{ops:Array Oper}{B:Nat->Nat->Bool}{Q:St->Prop}{q:Nat×Oper}{post:List (Nat×Oper)}(hnl:wA loc q.2=true):∀(pre:List (Nat×Oper))(hl:HL)(σ:St),
  (∀p∈pre,wo P ops p q/\B q.1 p.1=false)->gM P loc ops B Q hl (pre++q::post) σ->gM P loc ops B Q hl (q::(pre++post)) σ:=by
 intro pre;induction pre with
 |nil=>intro hl σ _ h;exact h
 |cons p r ih=>
  intro hl σ hp h;obtain⟨j,oj⟩:=p;obtain⟨i,oi⟩:=q;obtain⟨⟨hj,a1,a2,a3⟩,hB⟩:=hp (j,oj) (by simp);refine anW hj hB a1 a2 a3 hnl ?_;simp only[dB]at h;rw[Sd hj]at h ⊢;obtain⟨v,k,h1,h2⟩:=h;exact⟨v,k,h1,ih _ _ (λp hp'=>hp p (eI _ hp')) h2⟩
def aop{o:Oper}{f:FuncId}{args:List Value}{σ:St}{a:Act}{post:Value->aa->Prop}{K:Act->World->Prop}{Z:Exit->Act->World->Prop}(hc:dP σ o=some (f,args))
  (H:al P f args σ.m.h post) (I:Inv P ρ0 h0 w0 ρ σ.m w) (F:fu ρ σ.t a.tmps)
  (hK:∀v h' ρ' v' w',post v h'->qL σ.m.h v h'->Inv P ρ0 h0 w0 ρ' ⟨σ.m.x,h'⟩ w'->(∀b pl,ρ (false,b)=some pl->ρ' (false,b)=some pl)->(∀s,ρ' (true,s)=ρ (true,s))->VR ρ' v v'->K (a.put o.dst v') w'):o.wp P a w K Z:=by
 obtain⟨args',hV,hrun⟩:=Dy hc H.1 I F;unfold Oper.wp;rw[hrun];simp only[Oper.upon];have hcall:=H.2 (ja ρ) w args' (λs=>AN ρ s) I.rel.ja ⟨hV.1,λi v hi=>let ⟨v',q1,q2⟩:=hV.2 i v hi;⟨v',q1,q2.ja⟩⟩;refine hcall.mono ?_;rintro e w' ⟨v,v',h',ρ',rfl,hpost,hbox,hR,hT,hv⟩;simp only;obtain⟨J,j1,j2⟩:=I.call hR hT;exact hK v h' _ v' w' hpost ⟨hT.hg,hv.KR,hT.hn⟩ J j1 j2 (hv.mono λb pl q=>by simp only[aH.join,fw,if_false];exact q)
structure iq where
 i:Nat
 s:Nat
 e:TypeId
 z:List Value
def jR(pd:List iq)(T:Fr):Fr:=λj=>if pd.any (λp=>p.s==j)then none else T j
def vU{pd:List iq}{T:Fr}{j:Nat}(h:∃p∈pd,p.s=j):jR pd T j=none:=by
 unfold jR;rw[if_pos];obtain⟨p,q1,q2⟩:=h;exact lB.2 ⟨p,q1,by simp[q2]⟩
def rf{pd:List iq}{T:Fr}{j:Nat}(h:∀p∈pd,p.s≠j):jR pd T j=T j:=by
 unfold jR;rw[if_neg];intro q;obtain⟨p,q1,q2⟩:=lB.1 q;exact h p q1 (by simpa using q2)
structure CP(P:Program)(loc:List Nat)(ops:Array Oper)(p:iq):Prop where
 op:∃o,ops[p.i]? =some o/\o.op= .alloc p.e/\o.dst=some p.s/\o.guard=none
 zero:eg P p.e=some p.z
def zA(P:Program)(ρ0:aH)(h0:aa)(w0:World)(n:Nat)(pd:List iq)(σ:St)(a:Act)(w:World):Prop:=
 ∃ρ,Inv P ρ0 h0 w0 ρ σ.m w/\fu ρ (jR pd σ.t) a.tmps/\a.tmps.size=n/\a.defers=[]/\
  ∀p∈pd,ρ (true,p.s)=none/\σ.m.x p.s=some (p.e,p.z)/\σ.t p.s=some (.pointer (some ⟨p.s,0,some 0⟩))
def aah{pd:List iq}{T:Fr}{m:Mem}{d:Option Nat}(h:∀i,d=some i->∀p∈pd,p.s≠i)(v:Value):jR pd (St.cF ⟨T,m⟩ d v).t=(St.cF ⟨jR pd T,m⟩ d v).t:=by
 cases d with
 |none=>rfl
 |some i=>
  funext j;simp only[St.cF];by_cases hj:∃p∈pd,p.s=j
  .have hne:¬i=j:=λq=>(by obtain⟨p,q1,q2⟩:=hj;exact h i rfl p q1 (q2.trans q.symm));rw[vU hj];simp only[Fr.put,hne,if_false];rw[vU hj]
  .have hj':∀p∈pd,p.s≠j:=λp hp q=>hj ⟨p,hp,q⟩;rw[rf hj'];simp only[Fr.put];split
   .rfl
   .rw[rf hj']
def Ag{n:Nat}{pd:List iq}{T:Fr}{M:Mem}{a:Act}{d:Option Nat}{v v':Value}(I:Inv P ρ0 h0 w0 ρ M w)(F:fu ρ (jR pd T) a.tmps)(hs:a.tmps.size=n)(hdf:a.defers=[])
  (hd:∀i,d=some i->i<n) (hdp:∀i,d=some i->∀p∈pd,p.s≠i) (hv:VT ρ v v')
  (hp:∀p∈pd,ρ (true,p.s)=none/\M.x p.s=some (p.e,p.z)/\T p.s=some (.pointer (some ⟨p.s,0,some 0⟩))):
  zA P ρ0 h0 w0 n pd (St.cF ⟨T,M⟩ d v) (a.put d v') w:=by
 refine⟨ρ,by rw[BL];exact I,?_,by cases d<;>simp[Act.put,hs],by cases d<;>exact hdf,λp hpp=>?_⟩
 .rw[aah hdp];cases d with
  |none=>exact F
  |some i=>exact F.put (by rw[hs];exact hd i rfl) hv
 .obtain⟨q1,q2,q3⟩:=hp p hpp;refine⟨q1,by rw[BL];exact q2,?_⟩;cases d with
  |none=>exact q3
  |some i=>
   have:¬i=p.s:=λe=>hdp i rfl p hpp e.symm;simp only[St.cF,Fr.put,this,if_false];exact q3
structure Left(P:Program)(loc:List Nat)(ops:Array Oper)(B:Nat->Nat->Bool)(W:Nat->Bool)(Wl:List Nat)(n:Nat)(L:List Nat)(pd:List iq)(rem:List (Nat×Oper)):Prop where
 left:∀i,i∈L↔(∃p∈pd,p.i=i)∨∃q∈rem,q.1=i
 nodup:L.Nodup
 cons:L.Pairwise λx y=>B x y=false
 ord:(rem.map (·.1)).filter W=L.filter W
 wr:∀q∈rem,W q.1= !eO P q.2.op
 wp:∀p∈pd,W p.i=false
 RD:(L.filter W).IsSuffix Wl
 Ss:Wl.Nodup
 wW:∀x∈Wl,W x=true
 pair:rem.Pairwise (CZ P ops B Wl)
 QY:∀q∈rem,ops[q.1]? =some q.2/\wA loc q.2=true/\(∀i,q.2.dst=some i->i<n)/\
  ∀p∈pd,B q.1 p.i=false->p.s∉q.2.looksAt ops/\q.2.dst≠some p.s
 qk:∀p∈pd,CP P loc ops p/\p.s<n
 Qv:pd.Pairwise λp q=>p.i≠q.i/\p.s≠q.s
 xq:∀p∈pd,∀q∈rem,p.i≠q.1
def Left.next{loc:List Nat}{ops:Array Oper}{B:Nat->Nat->Bool}{W:Nat->Bool}{Wl:List Nat}{n i:Nat}{l:List Nat}{pd pd':List iq}{rem rem':List (Nat×Oper)}(L:Left P loc ops B W Wl n (i::l) pd rem)
  (hpd:pd'.Sublist pd) (hrem:rem'.Sublist rem)
  (hl:∀j,j≠i->((∃p∈pd,p.i=j)∨∃q∈rem,q.1=j)->((∃p∈pd',p.i=j)∨∃q∈rem',q.1=j)) (uH:¬((∃p∈pd',p.i=i)∨∃q∈rem',q.1=i))
  (ho:(rem'.map (·.1)).filter W=l.filter W):
  Left P loc ops B W Wl n l pd' rem':=by
 have hnd:=List.nodup_cons.1 L.nodup;refine⟨λj=>⟨λhj=>hl j (λe=>hnd.1 (e ▸ hj)) ((L.left j).1 (eI _ hj)),λhj=>?_⟩,hnd.2,(jy.1 L.cons).2,ho,λq hq=>L.wr q (hrem.subset hq),λp hp=>L.wp p (hpd.subset hp),?_,L.Ss,L.wW,L.pair.sublist hrem,λq hq=>?_,
  λp hp=>L.qk p (hpd.subset hp),L.Qv.sublist hpd,λp hp q hq=>L.xq p (hpd.subset hp) q (hrem.subset hq)⟩
 .have hji:j≠i:=λe=>uH (e ▸ hj);have:j∈i::l:=(L.left j).2 (by
   rcases hj with⟨p,q1,q2⟩|⟨q,q1,q2⟩
   .exact .inl ⟨p,hpd.subset q1,q2⟩
   .exact .inr ⟨q,hrem.subset q1,q2⟩)
  rcases cJ.1 this with e|e
  .exact absurd e hji
  .exact e
 .have:=L.RD;rw[iS]at this;split at this
  .exact(List.suffix_cons _ _).trans this
  .exact this
 .obtain⟨q1,q2,q3,q4⟩:=L.QY q (hrem.subset hq);exact⟨q1,q2,q3,λp hp=>q4 p (hpd.subset hp)⟩
def YD{loc:List Nat}{ops:Array Oper}{B:Nat->Nat->Bool}{W:Nat->Bool}{Wl:List Nat}{Q:St->Prop}{Z:Exit->Act->World->Prop}{n:Nat}(hZ:∀σ' a' w',Q σ'->kD P ρ0 h0 w0 n σ' a' w'->Z .normal a' w'):
  ∀(l:List Nat)(pd:List iq)(rem:List (Nat×Oper))(hl:HL)(σ:St)(a:Act)(w:World),Left P loc ops B W Wl n l pd rem->
   gM P loc ops B Q hl rem σ->zA P ρ0 h0 w0 n pd σ a w->wpOps P ops Z l a w:=by
 intro l;induction l with
 |nil=>
  intro pd rem hl σ a w L h C;have hpd:pd=[]:=List.eq_nil_iff_forall_not_mem.2 λp hp=>by have:=(L.left p.i).2 (.inl ⟨p,hp,rfl⟩);simp at this
  have hrem:rem=[]:=List.eq_nil_iff_forall_not_mem.2 λq hq=>by have:=(L.left q.1).2 (.inr ⟨q,hq,rfl⟩);simp at this
  subst hpd;subst hrem;obtain⟨ρ,I,F,hs,hd,_⟩:=C;exact hZ σ a w h ⟨ρ,I,F,hs,hd⟩
 |cons i l ih=>
  intro pd rem hl σ a w L h C;rw[wpOps_cons];have hnd:=List.nodup_cons.1 L.nodup;have hnl:∀k,((∃p∈pd,p.i=k)∨∃q∈rem,q.1=k)->k≠i->B i k=false:=λk hk hki=>by
   rcases cJ.1 ((L.left k).2 hk)with e|e
   .exact absurd e hki
   .exact(jy.1 L.cons).1 k e
  obtain⟨ρ,I,F,hs,hdf,hp⟩:=C;rcases(L.left i).1 (by simp)with⟨p,hpm,hpi⟩|⟨q,hqm,hqi⟩
  .subst hpi;obtain⟨⟨⟨oi,hoi,c2,c3,c4⟩,hzero⟩,hsn⟩:=L.qk p hpm;obtain⟨zv,hzc,hzf,hzr⟩:=va hzero;obtain⟨l1,l2,hsplit⟩:=List.append_of_mem hpm;have hdis:∀p'∈l1++l2,p'.i≠p.i/\p'.s≠p.s:=by
    intro p' hp';have hpw:=L.Qv;rw[hsplit,oR]at hpw;rcases eH.1 hp' with q|q
    .exact hpw.2.2 p' q p (by simp)
    .have:=(jy.1 hpw.2.1).1 p' q;exact⟨λe=>this.1 e.symm,λe=>this.2 e.symm⟩
   have hsub:(l1++l2).Sublist pd:=(by rw[hsplit];exact List.Sublist.append (List.Sublist.refl _) (List.sublist_cons_self _ _));obtain⟨hpn,hpx,hpt⟩:=hp p hpm;have hfit:Fits P ρ (.row true p.e p.z) (.cells ⟨p.z⟩ p.e (0,0)) ⟨w.heap.size,0,(⟨p.z⟩:Array Value).size,P.cellsOf p.e⟩:=.row p.e p.e p.z ⟨p.z⟩ _ (by simp) (vP hzf);have J:=I.eP p.s hfit rfl;have hsame:(⟨σ.m.x.set p.s (p.e,p.z),σ.m.h⟩:Mem)=σ.m:=by
    obtain⟨T,x,hh⟩:=σ;simp only at hpx ⊢;congr 1;funext j;simp only[b8.set];split
    .rename_i e;subst e;exact hpx.symm
    .rfl
   rw[hsame]at J;simp only[wpOp,hoi];rw[if_pos (by simp[Region.wanted,c4])];refine .inl ?_;unfold Oper.wp;have hrun:(execOp a.eval oi).run P w= .ok (.value (.pointer (some ⟨w.heap.size,0,none⟩))) (w.alloc (.cells ⟨p.z⟩ p.e)):=by
    simp[execOp,c2,Instr.alloc,hzr,newVar,newRow,hzc]
   rw[hrun];simp only[Oper.upon,c3];refine ih (l1++l2) rem hl σ _ _
    (L.next hsub (List.Sublist.refl _) (λj hj hjl=>?_) (λhj=>?_) (by rw[L.ord,iS,if_neg (by rw[L.wp p hpm];simp)])) h ?_
   .rcases hjl with⟨p',q1,q2⟩|q
    .rw[hsplit]at q1;simp only[eH,cJ]at q1;rcases q1 with z|z|z
     .exact .inl ⟨p',by simp[z],q2⟩
     .subst z;exact absurd q2.symm hj
     .exact .inl ⟨p',by simp[z],q2⟩
    .exact .inr q
   .rcases hj with⟨p',q1,q2⟩|⟨q,q1,q2⟩
    .exact(hdis p' q1).1 q2
    .exact L.xq p hpm q q1 q2.symm
   .refine⟨_,J,?_,by simp[Act.put,hs],hdf,λp' hp'=>?_⟩
    .intro j u hj;simp only[Fr.get]at hj;by_cases hjs:j=p.s
     .subst hjs;rw[rf (λp' hp'=>(hdis p' hp').2)]at hj;rw[hpt]at hj;obtain rfl:=bU hj;refine⟨.pointer (some ⟨w.heap.size,0,none⟩),by simp only[Act.put];rw[Array.getElem?_setIfInBounds_self_of_lt (by rw[hs];exact hsn)],?_⟩;have:=VT.uQ (ρ:=ρ.gz (true,p.s) ⟨w.heap.size,0,(⟨p.z⟩:Array Value).size,P.cellsOf p.e⟩) (ad:=⟨p.s,0,some 0⟩) (pl:=⟨w.heap.size,0,(⟨p.z⟩:Array Value).size,P.cellsOf p.e⟩) (by simp[key,aH.gz]);simpa using this
     .have hj':jR pd σ.t j=some u:=by
       rw[<-hj];by_cases hex:∃p'∈l1++l2,p'.s=j
       .rw[vU hex,vU];obtain⟨p',q1,q2⟩:=hex;exact⟨p',hsub.subset q1,q2⟩
       .have hno:∀p'∈l1++l2,p'.s≠j:=λp' hp' e=>hex ⟨p',hp',e⟩;rw[rf hno,rf];intro p' hp';rw[hsplit]at hp';simp only[eH,cJ]at hp';rcases hp' with z|z|z
        .exact hno p' (by simp[z])
        .subst z;exact λe=>hjs e.symm
        .exact hno p' (by simp[z])
      obtain⟨u',q1,q2⟩:=F j u hj'
      refine⟨u',by simp only[Act.put];rw[Array.getElem?_setIfInBounds_ne (Ne.symm hjs)];exact q1,?_⟩
      cases q2 with
      |val _ _ q2=>exact .val _ _ (q2.mono λb pl z=>by rw[aH.df _ _ (by simp)];exact z)
      |loc s2 off x pl z=>
       have:s2≠p.s:=λe=>by subst e;rw[hpn]at z;cases z
       exact .loc s2 off x pl (by rw[aH.df _ _ (by simpa using this)];exact z)
    .obtain⟨q1,q2,q3⟩:=hp p' (hsub.subset hp');exact⟨by rw[aH.df _ _ (by simpa using(hdis p' hp').2)];exact q1,q2,q3⟩
  .obtain⟨qi,oi⟩:=q;simp only at hqi;subst hqi;obtain⟨r1,r2,r3,r4⟩:=L.QY (qi,oi) hqm;simp only at r1 r2 r3 r4;have hoi:=r1;obtain⟨pre,post,hsplit⟩:=List.append_of_mem hqm;have hpair:=L.pair;rw[hsplit,oR]at hpair;have hord:=L.ord;rw[hsplit,kX,fg,mo,iS]at hord;have hwq:=L.wr (qi,oi) hqm;simp only at hwq hord;have hpreN:W qi=true->∀p∈pre,eO P p.2.op=true:=λhw p hp'=>by
    rw[iS,if_pos hw,if_pos hw]at hord;have hpw:=L.wr p (by rw[hsplit];simp[hp']);cases hn:eO P p.2.op with
    |true=>rfl
    |false=>
     exfalso;rw[hn]at hpw;cases hf:(pre.map (·.1)).filter W with
     |nil=>
      have:p.1∈(pre.map (·.1)).filter W:=gS.2 ⟨dO.2 ⟨p,hp',rfl⟩,hpw⟩;rw[hf]at this;simp at this
     |cons y ys=>
      rw[hf,dB,List.cons.injEq]at hord;have:y∈(pre.map (·.1)).filter W:=(by rw[hf];simp);obtain⟨p2,q1,q2⟩:=dO.1 (gS.1 this).1;have:=(hpair.2.2 p2 q1 (qi,oi) (by simp)).1;exact this (by rw[q2];exact hord.1)
   have hpre:∀p∈pre,wo P ops p (qi,oi)/\B qi p.1=false:=λp hp'=>by
    have ha:=hpair.2.2 p hp' (qi,oi) (by simp);have hB:=hnl p.1 (.inr ⟨p,by rw[hsplit];simp[hp'],rfl⟩) ha.1;refine⟨?_,hB⟩;rcases ha.2 hB with⟨z1,z2⟩|z|⟨r,z1,z2,z3⟩
    .simp only at z2;have:=hpreN (by rw[hwq,z2];rfl) p hp';rw[z1]at this;cases this
    .exact z
    .exfalso;have hpL:p.1∈(qi::l).filter W:=gS.2 ⟨(L.left p.1).2 (.inr ⟨p,by rw[hsplit];simp[hp'],rfl⟩),L.wW _ (z3.subset (by simp))⟩;obtain⟨A,hA⟩:=L.RD;have hr:=al9 (by rw[hA];exact L.Ss) hpL (by rw[hA];exact z3);rcases cJ.1 (gS.1 hr).1 with e|e
     .exact z1 e
     .have:=(jy.1 L.cons).1 r e;simp only at z2;rw[z2]at this;cases this
   have hord':((pre++post).map (·.1)).filter W=l.filter W:=by
    rw[kX,mo];by_cases hw:W qi=true
    .have hnil:(pre.map (·.1)).filter W=[]:=List.eq_nil_iff_forall_not_mem.2 λy hy=>by
      obtain⟨p2,q1,q2⟩:=dO.1 (gS.1 hy).1;have h1:=L.wr p2 (by rw[hsplit];simp[q1]);rw[hpreN hw p2 q1,q2,(gS.1 hy).2]at h1;cases h1
     rw[iS,if_pos hw,if_pos hw,hnil,dJ,List.cons.injEq]at hord
     rw[hnil,dJ];exact hord.2
    .rw[iS,if_neg hw,if_neg hw]at hord;exact hord
   rw[hsplit]at h;replace h:=anU r2 pre hl σ hpre h;have hsub:(pre++post).Sublist rem:=(by rw[hsplit];exact List.Sublist.append (List.Sublist.refl _) (List.sublist_cons_self _ _));have hne:∀q'∈pre++post,q'.1≠qi:=by
    intro q' hq';rcases eH.1 hq' with z|z
    .exact(hpair.2.2 q' z (qi,oi) (by simp)).1
    .exact λe=>((jy.1 hpair.2.1).1 q' z).1 e.symm
   have L':Left P loc ops B W Wl n l pd (pre++post):=L.next (List.Sublist.refl _) hsub
    (λj hj hjl=>by
     rcases hjl with q|⟨q',q1,q2⟩
     .exact .inl q
     .rw[hsplit]at q1;simp only[eH,cJ]at q1;rcases q1 with z|z|z
      .exact .inr ⟨q',by simp[z],q2⟩
      .subst z;exact absurd q2.symm hj
      .exact .inr ⟨q',by simp[z],q2⟩)
    (λhj=>by
     rcases hj with⟨p,q1,q2⟩|⟨q',q1,q2⟩
     .exact L.xq p q1 (qi,oi) hqm q2
     .exact hne q' q1 q2)
    hord'
   have hpl:∀p∈pd,p.s∉oi.looksAt ops/\oi.dst≠some p.s:=λp hpm=>r4 p hpm (hnl p.i (.inl ⟨p,hpm,rfl⟩) (L.xq p hpm (qi,oi) hqm));have hopnd:∀M,∀x∈oi.op.operands,aN ⟨jR pd σ.t,M⟩ x=aN ⟨σ.t,M⟩ x:=λM x hx=>by
    cases x with
    |tmp t=>
     have:∀p∈pd,p.s≠t:=λp hpm e=>(hpl p hpm).1 (by
      subst e;exact List.mem_append_left _ (List.mem_filterMap.2 ⟨.tmp p.s,by simpa using hx,rfl⟩))
     simp only[aN,Fr.get];exact rf this
    |_=>rfl
   have hwant:fS ops (jR pd σ.t) oi=fS ops σ.t oi:=by
    unfold fS;cases hg:oi.guard with
    |none=>rfl
    |some gw=>
     obtain⟨g,want⟩:=gw;simp only;cases ht:(ops[g]?).bind (·.dst)with
     |none=>rfl
     |some t=>
      have:∀p∈pd,p.s≠t:=λp hpm e=>(hpl p hpm).1 (by subst e;simp[Oper.looksAt,hg,ht]);simp only[Fr.get];rw[rf this]
   have hdp:∀i,oi.dst=some i->∀p∈pd,p.s≠i:=λi hdi p hpm e=>(hpl p hpm).2 (by rw[hdi,e]);obtain⟨T,M⟩:=σ;simp only at I F hp h hopnd hwant;have skip:∀(hl':HL),fS ops T oi=some false->gM P loc ops B Q hl' (pre++post) (St.cF ⟨T,M⟩ oi.dst undef)->wpOp P ops Z qi (wpOps P ops Z l) a w:=by
    intro hl' hw h';simp only[wpOp,hoi];rw[if_neg (by rw[xa (σ:=⟨jR pd T,M⟩) F (hwant.trans hw)];simp)];exact ih pd (pre++post) hl' _ _ _ L' h' (Ag I F hs hdf r3 hdp (.gG rfl) hp)
   have act:∀(hl':HL)(v:Value)(M':Mem),fS ops T oi=some true->cU P loc ⟨T,M⟩ oi=some (v,⟨T,M'⟩)->gM P loc ops B Q hl' (pre++post) (St.cF ⟨T,M'⟩ oi.dst v)->
     wpOp P ops Z qi (wpOps P ops Z l) a w:=by
    intro hl' v M' hw hst h';have hst':cU P loc ⟨jR pd T,M⟩ oi=some (v,⟨jR pd T,M'⟩):=by
     rw[zj (T:=T) r2 (hopnd M),hst];rfl
    simp only[wpOp,hoi];rw[if_pos (xa (σ:=⟨jR pd T,M⟩) F (hwant.trans hw))];refine .inl ?_;obtain⟨nx,v',w',ρ',c1,c2,c3,c4,c5,c6⟩:=Ry hst' ρ0 h0 w0 ρ a w I F;unfold Oper.wp;rw[c1];have hp':∀p∈pd,ρ' (true,p.s)=none/\M'.x p.s=some (p.e,p.z)/\T p.s=some (.pointer (some ⟨p.s,0,some 0⟩)):=λp hpm=>by
     obtain⟨q1,q2,q3⟩:=hp p hpm;obtain⟨z1,z2⟩:=c6 p.s (λd hd=>λe=>hdp d hd p hpm e.symm);exact⟨by rw[z1];exact q1,by rw[z2 q1];exact q2,q3⟩
    cases nx<;>simp only[tb,av]at c2<;>first
     |(subst c2;exact ih pd (pre++post) hl' _ _ _ L' h' (Ag c3 c4 hs hdf r3 hdp c5 hp'))
     |(exact absurd c2 (by simp))
   have tsame:∀{v:Value}{σ':St},cU P loc ⟨T,M⟩ oi=some (v,σ')->σ'.t=T:=fun{v σ'} hst=>by
    have:=zj (P:=P) (loc:=loc) (T:=T) (T':=T) (m:=M) r2 (λx hx=>rfl);rw[hst]at this;simp only[fV,av,bM,true_and]at this;rw[this]
   by_cases hn:eO P oi.op=true
   .obtain⟨v,hl',h1,h2⟩:=(Sd hn).1 h;unfold jl at h1;simp only at h1;split at h1
    .simp at h1
    .rename_i hw;simp only[av,bM]at h1;obtain⟨rfl,rfl⟩:=h1;exact skip _ hw h2
    .rename_i hw;split at h1;rotate_left
     .simp at h1
     rename_i u hu;simp only[av,bM]at h1;obtain⟨rfl,rfl⟩:=h1;unfold pK at hu;cases hst:cU P loc ⟨T,M⟩ oi with
     |none=>rw[hst]at hu;simp at hu
     |some pr=>
      obtain⟨u2,σ2⟩:=pr;rw[hst]at hu;simp only[fV,av]at hu;subst hu;have e:=wV hn hst;subst e;exact act _ _ M hw hst h2
   .rw[gM,if_neg hn]at h;simp only at h;split at h
    .exact h.elim
    .rename_i hw;exact skip _ hw h
    .rename_i hw;split at h
     .rename_i f args hc;have hc':dP ⟨jR pd T,M⟩ oi=some (f,args):=(by rw[Dx (hopnd M)];exact hc);simp only[wpOp,hoi];rw[if_pos (xa (σ:=⟨jR pd T,M⟩) F (hwant.trans hw))];refine .inl (aop (σ:=⟨jR pd T,M⟩) hc' h I F λv h' ρ' v' w' hpost hnice J j1 j2 hv=>?_);obtain⟨_,h2⟩:=hpost hnice;exact ih pd (pre++post) hl _ _ _ L' h2 (Ag J (F.mono j1 j2) hs hdf r3 hdp (.val _ _ hv) λp hpm=>by
       obtain⟨q1,q2,q3⟩:=hp p hpm;exact⟨by rw[j2];exact q1,q2,q3⟩)
     .split at h;rotate_left
      .exact h.elim
      rename_i v σ' hst;obtain⟨T',M'⟩:=σ';have ht:=tsame hst;simp only at ht;subst ht;exact act _ v M' hw hst h.2
end
section
variable {P:Program} {ρ0 ρ ρ':aH} {h0:aa} {w0 w:World} {m:Mem}
structure bW where
 bx:List Nat
 perm:List Nat
 M:List (Nat×List Nat)
 alts:List (List Nat)
def bW.perms(d:bW):List (List Nat):=d.perm::d.alts
structure aw where
 loc:List Nat
 keep:Nat->List Nat
 draw:Nat->bW
def bW.L(d:bW)(i:Nat):List Nat:=List.range (d.M.getD i (0,[])).1++(d.M.getD i (0,[])).2
def bW.B(d:bW)(i j:Nat):Bool:=decide (j<(d.M.getD i (0,[])).1) || (d.M.getD i (0,[])).2.contains j
def bW.SZ{d:bW}{i j:Nat}(h:d.B i j=true):j∈d.L i:=by
 unfold bW.B at h;unfold bW.L;rw[kY,de,List.contains_iff_mem]at h;rw[eH,dF];exact h
def oB(P:Program)(ops:Array Oper)(i:Nat):iq:=
 match ops[i]? with
 |some ⟨some s,.alloc e,_,_,_,_⟩=>⟨i,s,e,(eg P e).getD []⟩
 |_=>⟨i,0,0,[]⟩
def mH(P:Program)(ops:Array Oper)(d:bW):List iq:=d.bx.map (oB P ops)
def qy(ops:Array Oper)(pm:List Nat):List (Nat×Oper):=pm.map λi=>(i,ops.getD i default)
def PE(P:Program)(ops:Array Oper)(p q:Nat×Oper):Bool:=eO P p.2.op&&
  (match p.2.dst with|some d=> !(q.2.looksAt ops).contains d&&q.2.dst != some d|none=>true)&&
  (match q.2.dst with|some d=> !(p.2.looksAt ops).contains d|none=>true)
def zP(P:Program)(ops:Array Oper)(B:Nat->Nat->Bool)(Wl:List Nat)(p q:Nat×Oper):Bool:=
 p.1 != q.1&&(B q.1 p.1 || (!eO P p.2.op&& !eO P q.2.op) || PE P ops p q || Wl.any λr=>r != q.1&&B q.1 r&&[p.1,r].isSublist Wl)
def VF{ops:Array Oper}{B:Nat->Nat->Bool}{Wl:List Nat}{p q:Nat×Oper}(h:zP P ops B Wl p q=true):CZ P ops B Wl p q:=by
 unfold zP at h;rw[bQ,bne_iff_ne]at h;refine⟨h.1,λhB=>?_⟩;have h2:=h.2;rw[hB,Bool.false_or,kY,kY]at h2;rcases h2 with(h2|h2)|h2
 .rw[bQ,Bool.not_eq_true',Bool.not_eq_true']at h2;exact .inl h2
 rotate_left
 .obtain⟨r,_,hr⟩:=lB.1 h2;rw[bQ,bQ,bne_iff_ne]at hr;exact .inr (.inr ⟨r,hr.1.1,hr.1.2,List.isSublist_iff_sublist.1 hr.2⟩)
 refine .inr (.inl ?_);unfold PE at h2;rw[bQ,bQ]at h2;obtain⟨⟨a1,a2⟩,a3⟩:=h2;refine⟨a1,λd hd=>?_,λd hd=>?_,λd hd=>?_⟩
 .rw[hd]at a2;simp only[bQ,Bool.not_eq_true']at a2;intro hm;have:=a2.1;rw[List.contains_eq_mem,lP]at this;exact this hm
 .rw[hd]at a2;simp only[bQ,bne_iff_ne]at a2;exact a2.2
 .rw[hd]at a3;simp only[Bool.not_eq_true']at a3;intro hm;rw[List.contains_eq_mem,lP]at a3;exact a3 hm
def uR{α:Type}(f:α->α->Bool):List α->Bool
 |[]=>true
 |x::r=>r.all (f x)&&uR f r
def Qp{α:Type}{f:α->α->Bool}{R:α->α->Prop}(hf:∀x y,f x y=true->R x y):∀l:List α,uR f l=true->l.Pairwise R:=by
 intro l;induction l with
 |nil=>intro _;exact .nil
 |cons x r ih=>
  intro h;rw[uR,bQ]at h;exact .cons (λy hy=>hf x y (cz.1 h.1 y hy)) (ih h.2)
def By(P:Program)(loc:List Nat)(ops:Array Oper)(n:Nat)(p:iq):Bool:=
 match ops[p.i]? with
 |some o=>(match o.op with| .alloc e=>e==p.e|_=>false)&&o.dst==some p.s&&o.guard.isNone&&loc.contains p.s&&decide (p.s<n)&&(eg P p.e).isSome
 |none=>false
def wB(P:Program)(ops:Array Oper)(d:bW)(i:Nat):Bool:= !d.bx.contains i&& !eO P (ops.getD i default).op
def exts(B:Nat->Nat->Bool):Nat->List Nat->List (List Nat)
 |0,_=>[[]]
 |n+1,X=>if X.isEmpty then[[]]else X.flatMap λx=>if(X.erase x).all (λy=> !B x y)then(exts B n (X.erase x)).map (x::·)else[]
def An(ops:Array Oper)(d:bW):Bool:=
 (List.range ops.size).all (λi=>match ops[i]? with
  |some o=>(d.L i).all (λj=>decide (j<ops.size)&&o.after.toList.any λe=>Region.binds .any e&&decide (e.on<ops.size)&&(e.on==j || d.B e.on j))&&
    o.after.toList.all (λe=> !Region.binds .any e || decide (e.on<i))
  |none=>false)
def JN(P:Program)(loc:List Nat)(n:Nat)(ops:Array Oper)(d:bW)(pm:List Nat):Bool:=
 let pd:=mH P ops d
 let rem:=qy ops pm
 let N:=ops.size
 (List.range N).all (λi=>d.bx.contains i || pm.contains i)&&d.bx.all (λi=>decide (i<N))&&pm.all (λi=>decide (i<N))&&
 uR (zP P ops d.B (pm.filter (wB P ops d))) rem&&
 rem.all (λq=>wA loc q.2&&(match q.2.dst with|some i=>decide (i<n)|none=>true)&&
  pd.all (λp=>d.B q.1 p.i || (!(q.2.looksAt ops).contains p.s&&q.2.dst != some p.s)))&&
 pd.all (By P loc ops n)&&uR (λp q=>p.i != q.i&&p.s != q.s) pd&&pd.all (λp=>rem.all λq=>p.i != q.1)
def Al(P:Program)(loc:List Nat)(n:Nat)(ops:Array Oper)(d:bW):Bool:=
 An ops d&&d.perms.all (JN P loc n ops d)&&
 (exts d.B ops.size ((List.range ops.size).filter (wB P ops d))).all (λe=>d.perms.any λpm=>pm.filter (wB P ops d)==e)
def BP{ops:Array Oper}{listed:Array Bool}{i:Nat}:i∈Region.ready .any ops listed↔
  i<ops.size/\listed.getD i true=false/\∃o,ops[i]? =some o/\∀e∈o.after,Region.binds .any e=true->listed.getD e.on false=true:=by
 unfold Region.ready;rw[gS,dF];constructor
 .rintro⟨h1,h2⟩;rw[bQ]at h2;obtain⟨h2,h3⟩:=h2;refine⟨h1,by simpa using h2,ops[i],by simp[h1],?_⟩;simp only[Array.getElem?_eq_getElem h1,fV,iH]at h3;rw[Array.all_eq_true_iff_forall_mem]at h3;intro e he hb;have:=h3 e he;rw[hb]at this;simpa using this
 .rintro⟨h1,h2,o,h3,h4⟩;refine⟨h1,?_⟩;rw[bQ];refine⟨by rw[h2];rfl,?_⟩;rw[h3];simp only[fV,iH];rw[Array.all_eq_true_iff_forall_mem];intro e he;cases hb:Region.binds .any e with
  |false=>rfl
  |true=>rw[h4 e he hb];rfl
def vR(l:Array Bool)(i j:Nat)(h:i<l.size):(l.setIfInBounds i true).getD j true=if i=j then true else l.getD j true:=by
 simp only[Array.getD_eq_getD_getElem?];by_cases hij:i=j
 .subst hij;rw[Array.getElem?_setIfInBounds_self_of_lt h];simp
 .rw[Array.getElem?_setIfInBounds_ne hij,if_neg hij]
structure zC(ops:Array Oper)(B:Nat->Nat->Bool):Prop where
 YN:∀i j,B i j=true->i<ops.size->j<ops.size/\∃o,ops[i]? =some o/\∃e∈o.after,Region.binds .any e=true/\e.on<ops.size/\(e.on=j∨B e.on j=true)
 back:∀i o,ops[i]? =some o->∀e∈o.after,Region.binds .any e=true->e.on<i
def YO{ops:Array Oper}{d:bW}(h:An ops d=true):zC ops d.B:=by
 unfold An at h;refine⟨λi j hB hi=>?_,λi o ho e he hb=>?_⟩
 .have:=cz.1 h i (dF.2 hi);rw[Array.getElem?_eq_getElem hi]at this;simp only[bQ]at this;have hj:=cz.1 this.1 j (bW.SZ hB);rw[bQ]at hj;obtain⟨e,he,hb⟩:=lB.1 hj.2;simp only[bQ,kY,beq_iff_eq,de]at hb;exact⟨of_decide_eq_true hj.1,ops[i],by simp[hi],e,by simpa using he,hb.1.1,hb.1.2,hb.2⟩
 .have hi:i<ops.size:=by rcases Nat.lt_or_ge i ops.size with z|z;exact z;rw[Array.getElem?_eq_none z]at ho;cases ho
  have:=cz.1 h i (dF.2 hi);rw[ho]at this;simp only[bQ]at this;have h2:=cz.1 this.2 e (by simpa using he);rw[hb]at h2;simpa using h2
def ajy{ops:Array Oper}{B:Nat->Nat->Bool}{listed:Array Bool}(E:zC ops B)(hs:listed.size=ops.size):∀k i,i<=k->i<ops.size->listed.getD i true=false->∃i,i∈Region.ready .any ops listed:=by
 intro k;induction k with
 |zero=>
  intro i hik hi hl;have:i=0:=by omega
  subst this;refine⟨0,BP.2 ⟨hi,hl,ops[0],by simp[hi],λe he hb=>?_⟩⟩;exact absurd (E.back 0 _ (Array.getElem?_eq_getElem hi) e he hb) (Nat.not_lt_zero _)
 |succ k ihk=>
  intro i hik hi hl;by_cases aJ:∀e∈ops[i].after,Region.binds .any e=true->listed.getD e.on false=true
  .exact⟨i,BP.2 ⟨hi,hl,ops[i],by simp[hi],aJ⟩⟩
  .have:∃e,e∈ops[i].after/\Region.binds .any e=true/\listed.getD e.on false≠true:=by
    apply Classical.byContradiction;intro hno;exact aJ λe he hb=>Classical.byContradiction λhne=>hno ⟨e,he,hb,hne⟩
   obtain⟨e,he,hb,hne⟩:=this
   have hlt:=E.back i _ (Array.getElem?_eq_getElem hi) e he hb
   have hes:e.on<listed.size:=by rw[hs];omega
   refine ihk e.on (by omega) (by omega) ?_
   simp only[Array.getD_eq_getD_getElem?,Array.getElem?_eq_getElem hes,iH]at hne ⊢
   simpa using hne
def Yf{α:Type}{p q:α->Bool}{x:α}(hpq:∀y,p y=true->q y=true)(hq:q x=true)(hp:p x=false):∀l:List α,x∈l->l.countP p<l.countP q:=by
 intro l;have hle:∀l:List α,l.countP p<=l.countP q:=by
  intro l;induction l with
  |nil=>simp
  |cons y r ih=>
   rw[List.countP_cons,List.countP_cons];cases h:p y with
   |true=>rw[hpq y h];simp;exact ih
   |false=>simp;cases q y<;>simp<;>omega
 induction l with
 |nil=>intro h;simp at h
 |cons y r ih=>
  intro h;rw[List.countP_cons,List.countP_cons];by_cases e:x=y
  .subst e;rw[hq,hp];simp;have:=hle r;omega
  .have:=ih (by rcases cJ.1 h with z|z;exact absurd z e;exact z);cases h:p y with
   |true=>rw[hpq y h];simp;exact this
   |false=>simp;cases q y<;>simp<;>omega
def vl(ops:Array Oper)(listed:Array Bool):Nat:=(List.range ops.size).countP λi=> !listed.getD i true
def abm{ops:Array Oper}{B:Nat->Nat->Bool}(E:zC ops B):∀(fuel t:Nat)(listed:Array Bool),listed.size=ops.size->vl ops listed<=fuel->
  (∀i j,listed.getD i true=true->B i j=true->j<ops.size->i<ops.size->listed.getD j true=true)->
  (∀i,i∈Region.linearise.go .any ops fuel t listed []↔i<ops.size/\listed.getD i true=false)/\(Region.linearise.go .any ops fuel t listed []).Nodup/\(Region.linearise.go .any ops fuel t listed []).Pairwise (λx y=>B x y=false):=by
 intro fuel;induction fuel with
 |zero=>
  intro t listed hs hu hc;have hno:∀i,i<ops.size->listed.getD i true=true:=λi hi=>by
   unfold vl at hu;have:=List.countP_eq_zero.1 (Nat.le_zero.1 hu) i (dF.2 hi);simpa using this
  refine⟨λi=>⟨λh=>by simp[Region.linearise.go]at h,λh=>?_⟩,by simp[Region.linearise.go]⟩;rw[hno i h.1]at h;cases h.2
 |succ fuel ih=>
  intro t listed hs hu hc;have hgo:Region.linearise.go .any ops (fuel+1) t listed []=match(Region.ready .any ops listed)[t % (Region.ready .any ops listed).length]? with
   |some i=>Region.linearise.go .any ops fuel (t / (Region.ready .any ops listed).length) (listed.setIfInBounds i true) [i]
   |none=>[]:=by rfl
  rw[hgo];cases hi:(Region.ready .any ops listed)[t % (Region.ready .any ops listed).length]? with
  |none=>
   have hnil:Region.ready .any ops listed=[]:=by
    cases hr:Region.ready .any ops listed with
    |nil=>rfl
    |cons x xs=>
     rw[hr]at hi;have hlt:t % (x::xs).length<(x::xs).length:=Nat.mod_lt _ (by simp);simp at hi;simp at hlt;omega
   refine⟨λi=>⟨λh=>by simp at h,λh=>?_⟩,by simp⟩;obtain⟨j,hj⟩:=ajy E hs i i (aX _) h.1 h.2;rw[hnil]at hj;simp at hj
  |some i=>
   simp only[];rw[linearise_go_acc,List.reverse_singleton,List.singleton_append];obtain⟨q1,q2,o,q3,q4⟩:=BP.1 (dE hi);have hil:i<listed.size:=(by rw[hs];exact q1);have hBi:∀j,B i j=true->listed.getD j true=true:=λj hB=>by
    obtain⟨hj,o',ho',e,he,hb,hon,hor⟩:=E.YN i j hB q1;rw[q3]at ho';obtain rfl:=bU ho';have h1:=q4 e he hb;have hlt:e.on<listed.size:=(by rw[hs];exact hon);have h1':listed.getD e.on true=true:=by
     simp only[Array.getD_eq_getD_getElem?,Array.getElem?_eq_getElem hlt,iH]at h1 ⊢;exact h1
    rcases hor with q|q
    .rw[<-q];exact h1'
    .exact hc e.on j h1' q hj hon
   obtain⟨r1,r2,r3⟩:=ih (t / (Region.ready .any ops listed).length) (listed.setIfInBounds i true) (by simpa using hs) (by
     have:vl ops (listed.setIfInBounds i true)<vl ops listed:=by
      unfold vl;refine Yf (x:=i) (λy hy=>?_) (by rw[q2];rfl) (by rw[vR _ _ _ hil];simp) _ (dF.2 q1);rw[vR _ _ _ hil]at hy;split at hy
      .simp at hy
      .exact hy
     omega) (λj k hj hB hk hj'=>by
     rw[vR _ _ _ hil]at hj ⊢;by_cases hik:i=k
     .rw[if_pos hik]
     .rw[if_neg hik];by_cases hij:i=j
      .subst hij;exact hBi k hB
      .rw[if_neg hij]at hj;exact hc j k hj hB hk hj')
   have hmem:∀j,j∈Region.linearise.go .any ops fuel (t / (Region.ready .any ops listed).length) (listed.setIfInBounds i true) []->j≠i/\listed.getD j true=false:=λj hj=>by
    have:=((r1 j).1 hj).2;rw[vR _ _ _ hil]at this;by_cases hij:i=j
    .rw[if_pos hij]at this;cases this
    .rw[if_neg hij]at this;exact⟨Ne.symm hij,this⟩
   refine⟨λj=>?_,List.nodup_cons.2 ⟨λh=>(hmem i h).1 rfl,r2⟩,jy.2 ⟨λj hj=>?_,r3⟩⟩
   .rw[cJ,r1 j,vR _ _ _ hil];by_cases hij:i=j
    .subst hij;rw[if_pos rfl];exact⟨λ_=>⟨q1,q2⟩,λ_=>.inl rfl⟩
    .rw[if_neg hij];exact⟨λh=>by rcases h with h|h;exact absurd h.symm hij;exact h,λh=>.inr h⟩
   .cases hB:B i j with
    |false=>rfl
    |true=>have:=hBi j hB;rw[(hmem j hj).2]at this;cases this
def Zp{B:Nat->Nat->Bool}:∀(l:List Nat)(n:Nat)(X:List Nat),l.Perm X->X.length<=n->l.Pairwise (λx y=>B x y=false)->l∈exts B n X:=by
 intro l;induction l with
 |nil=>
  intro n X hp hn _;have:X=[]:=hp.symm.eq_nil;subst this;cases n<;>simp[exts]
 |cons x r ih=>
  intro n X hp hn hw;obtain⟨h1,h2⟩:=List.cons_perm_iff_perm_erase.1 hp;have hX:X.isEmpty=false:=by cases X with|nil=>simp at h1|cons _ _=>rfl
  have hlen:=hp.length_eq;cases n with
  |zero=>simp at hlen;omega
  |succ n=>
   rw[exts,hX];simp only[fw,if_false];obtain⟨w1,w2⟩:=jy.1 hw;refine List.mem_flatMap.2 ⟨x,h1,?_⟩;rw[if_pos (cz.2 λy hy=>by rw[w1 y (h2.symm.subset hy)];rfl)];refine dO.2 ⟨r,ih n _ h2 ?_ w2,rfl⟩;have:=h2.length_eq;simp at hlen;omega
def uN(P:Program)(ops:Array Oper)(i:Nat):(oB P ops i).i=i:=by unfold oB;split<;>rfl
def ab7{P:Program}{loc:List Nat}{ops:Array Oper}{n i:Nat}(h:By P loc ops n (oB P ops i)=true):CP P loc ops (oB P ops i)/\(oB P ops i).s<n:=by
 unfold By at h;rw[uN]at h;split at h;rotate_left
 .simp at h
 rename_i o ho;simp only[bQ,beq_iff_eq,Option.isNone_iff_eq_none,de]at h;obtain⟨⟨⟨⟨⟨h1,h2⟩,h3⟩,h4⟩,h5⟩,h6⟩:=h;split at h1;rotate_left
 .simp at h1
 rename_i e he;rw[beq_iff_eq]at h1;refine⟨⟨⟨o,by rw[uN];exact ho,by rw[he,h1],h2,h3⟩,?_⟩,h5⟩;obtain⟨dst,op,type,pos,after,guard⟩:=o;simp only at he h2;subst he;cases dst with
 |none=>simp at h2
 |some s=>
  have:oB P ops i=⟨i,s,e,(eg P e).getD []⟩:=by simp only[oB,ho]
  rw[this]at h6 ⊢;simp only at h6 ⊢;cases hz:eg P e with
  |none=>rw[hz]at h6;simp at h6
  |some z=>rfl
def Qw{ops:Array Oper}{d:bW}(h:uR (λp q:iq=>p.i != q.i&&p.s != q.s) (mH P ops d)=true):(mH P ops d).Pairwise λp q=>p.i≠q.i/\p.s≠q.s:=
 Qp (λx y hxy=>by rw[bQ,bne_iff_ne,bne_iff_ne]at hxy;exact hxy) _ h
def YC{loc:List Nat}{n:Nat}{ops:Array Oper}{d:bW}(h:Al P loc n ops d=true)(t:Nat):
  (mH P ops d).Pairwise (λp q=>p.i≠q.i/\p.s≠q.s)/\∃pm∈d.perms,Left P loc ops d.B (wB P ops d) (pm.filter (wB P ops d)) n (Region.linearise.go .any ops ops.size t (Array.replicate ops.size false) []) (mH P ops d) (qy ops pm):=by
 unfold Al at h;simp only[bQ]at h;obtain⟨⟨e1,e2⟩,e3⟩:=h;have hget:∀i,i<ops.size->(Array.replicate ops.size false).getD i true=false:=λi hi=>by
  simp[Array.getD_eq_getD_getElem?,hi]
 obtain⟨l1,l2,l3⟩:=abm (YO e1) ops.size t (Array.replicate ops.size false) (by simp) (by
  unfold vl;have:=List.countP_le_length (p:=λi=> !(Array.replicate ops.size false).getD i true) (l:=List.range ops.size);simpa using this)
  (λi j hij _ _ hi=>by rw[hget i hi]at hij;cases hij)
 generalize hL:Region.linearise.go .any ops ops.size t (Array.replicate ops.size false) []=L at l1 l2 l3;have hperm:(L.filter (wB P ops d)).Perm ((List.range ops.size).filter (wB P ops d)):=by
  refine(List.perm_ext_iff_of_nodup (l2.filter _) (List.nodup_range.filter _)).2 λi=>?_;rw[gS,gS,l1 i,dF];exact⟨λz=>⟨z.1.1,z.2⟩,λz=>⟨⟨z.1,hget i z.1⟩,z.2⟩⟩
 have hin:=Zp (B:=d.B) _ ops.size _ hperm (by have:=List.length_filter_le (wB P ops d) (List.range ops.size);simpa using this) (l3.filter _);obtain⟨pm,hpm,heq⟩:=lB.1 (cz.1 e3 _ hin);have heq':pm.filter (wB P ops d)=L.filter (wB P ops d):=eq_of_beq heq;have ok1:=cz.1 e2 pm hpm;unfold JN at ok1;simp only[bQ]at ok1;obtain⟨⟨⟨⟨⟨⟨⟨c2,c3⟩,c4⟩,c6⟩,c7⟩,c8⟩,c9⟩,c10⟩:=ok1;refine⟨Qw c9,pm,hpm,λi=>?_,l2,l3,?_,λq hq=>?_,λp hp=>?_,(by rw[heq'];exact List.suffix_rfl),(by rw[heq'];exact l2.filter _),(λx hx=>(gS.1 hx).2),Qp (λx y=>VF) _ c6,λq hq=>?_,λp hp=>?_,Qw c9,λp hp q hq=>?_⟩
 .rw[l1 i];constructor
  .rintro⟨hi,_⟩;have:=cz.1 c2 i (dF.2 hi);rw[kY]at this;rcases this with q|q
   .exact .inl ⟨oB P ops i,dO.2 ⟨i,by simpa using q,rfl⟩,uN P ops i⟩
   .exact .inr ⟨(i,ops.getD i default),dO.2 ⟨i,by simpa using q,rfl⟩,rfl⟩
  .rintro(⟨p,q1,q2⟩|⟨q,q1,q2⟩)
   .obtain⟨j,hj,rfl⟩:=dO.1 q1;rw[uN]at q2;subst q2;have:=of_decide_eq_true (cz.1 c3 j hj);exact⟨this,hget _ this⟩
   .obtain⟨j,hj,rfl⟩:=dO.1 q1;simp only at q2;subst q2;have:=of_decide_eq_true (cz.1 c4 j hj);exact⟨this,hget _ this⟩
 .rw[<-heq',qy,vx];congr 1;exact(List.map_congr_left (λa _=>rfl)).trans (List.map_id _)
 .obtain⟨i,hi,rfl⟩:=dO.1 hq;simp only[wB];have:d.bx.contains i=false:=by
   cases hb:d.bx.contains i with
   |false=>rfl
   |true=>
    have h1:oB P ops i∈mH P ops d:=dO.2 ⟨i,by simpa using hb,rfl⟩;have:=cz.1 (cz.1 c10 _ h1) (i,ops.getD i default) hq;rw[uN]at this;simp at this
  rw[this];rfl
 .obtain⟨i,hi,rfl⟩:=dO.1 hp;rw[uN];have:d.bx.contains i=true:=by simpa using hi
  simp only[wB,this,Bool.not_true,Bool.false_and]
 .have h1:=cz.1 c7 q hq;simp only[bQ]at h1;obtain⟨⟨h1,h2⟩,h3⟩:=h1;obtain⟨i,hi,rfl⟩:=dO.1 hq;have hlt:=of_decide_eq_true (cz.1 c4 i hi);refine⟨by simp[Array.getD_eq_getD_getElem?,hlt],h1,λk hk=>?_,λp hp hB=>?_⟩
  .simp only at hk h2;rw[hk]at h2;exact of_decide_eq_true h2
  .have:=cz.1 h3 p hp;simp only at this hB;rw[hB,Bool.false_or,bQ,bne_iff_ne]at this;refine⟨λhm=>?_,this.2⟩;have:=this.1;rw[Bool.not_eq_true',List.contains_eq_mem,lP]at this;exact this hm
 .have h1:=cz.1 c8 p hp;obtain⟨i,hi,rfl⟩:=dO.1 hp;exact ab7 h1
 .have:=cz.1 (cz.1 c10 p hp) q hq;simpa using this
def vL(pd:List iq)(T:Fr):Fr:=λj=>
 match pd.find? (λp=>p.s==j)with
 |some p=>some (.pointer (some ⟨p.s,0,some 0⟩))
 |none=>match T j with
  |some v=>match iM v with
   |some s=>if pd.any (λp=>p.s==s)then none else some v
   |none=>some v
  |none=>none
def vM(pd:List iq)(x:b8):b8:=λj=>
 match pd.find? (λp=>p.s==j)with
 |some p=>some (p.e,p.z)
 |none=>x j
def qW(pd:List iq)(σ:St):St:=match pd with
 |[]=>σ
 |p::r=>⟨vL (p::r) σ.t,⟨vM (p::r) σ.m.x,σ.m.h⟩⟩
def Km{pd:List iq}{j:Nat}(h:∀p∈pd,p.s≠j):pd.find? (λp=>p.s==j)=none:=by
 rw[List.find?_eq_none];intro p hp;simpa using h p hp
def Ko{pd:List iq}(hpw:pd.Pairwise λp q=>p.i≠q.i/\p.s≠q.s){p:iq}(hp:p∈pd):pd.find? (λq=>q.s==p.s)=some p:=by
 induction pd with
 |nil=>simp at hp
 |cons q r ih=>
  rw[List.find?_cons];rcases cJ.1 hp with e|e
  .subst e;simp
  .have hne:=((jy.1 hpw).1 p e).2;have:(q.s==p.s)=false:=(by simpa using hne);rw[this];exact ih (jy.1 hpw).2 e
def Inv.forget(I:Inv P ρ0 h0 w0 ρ m w){ρ1:aH}{x1:b8}(hf:∀b,ρ1 (false,b)=ρ (false,b))(hb:∀s pl,ρ1 (true,s)=some pl->ρ (true,s)=some pl/\(x1 s=m.x s∨x1 s=none)):
  Inv P ρ0 h0 w0 ρ1 ⟨x1,m.h⟩ w:=by
 have hback:∀{k pl},ρ1 k=some pl->ρ k=some pl:=fun{k pl} h=>by
  obtain⟨t,b⟩:=k;cases t
  .rw[<-hf];exact h
  .exact(hb b pl h).1
 have hmono:∀{v u},VR ρ v u->VR ρ1 v u:=fun{v u} h=>h.mono λb pl q=>by rw[hf];exact q
 have hrow:∀{k pl r},ρ1 k=some pl->(Mem.mk x1 m.h).row? k=some r->m.row? k=some r:=fun{k pl r} h q=>by
  obtain⟨t,b⟩:=k;cases t
  .exact q
  .simp only[Mem.row?,b8.look]at q ⊢;rcases(hb b pl h).2 with z|z
   .rw[z]at q;exact q
   .rw[z]at q;simp at q
 have hlive:∀{k pl},ρ1 k=some pl->(Mem.mk x1 m.h).live k->m.live k:=fun{k pl} h q=>by
  obtain⟨t,b⟩:=k;cases t
  .exact q
  .simp only[Mem.live,b8.look]at q ⊢;rcases(hb b pl h).2 with z|z
   .rw[z]at q;exact q
   .rw[z]at q;simp at q
 have hwr:∀{k pl},ρ1 k=some pl->(Mem.mk x1 m.h).wr k->m.wr k:=fun{k pl} h q=>by
  obtain⟨t,b⟩:=k;cases t
  .exact q
  .simp only[Mem.wr,b8.look]at q ⊢;rcases(hb b pl h).2 with z|z
   .rw[z]at q;exact q
   .rw[z]at q;simp at q
 refine⟨⟨λk pl h=>I.rel.bound k pl (hback h),λb pl h=>I.rel.dX b pl (hback h),λk pl wr e cs h hr=>?_,λb pl o h ho=>⟨(I.rel.obj b pl o (hback h) ho).1.mono (λb pl q=>by rw[hf];exact q),(I.rel.obj b pl o (hback h) ho).2⟩,
  λk k' pl pl' hne h h' hw hl=>I.rel.sep k k' pl pl' hne (hback h) (hback h') (hwr h hw) (hlive h' hl),λi hi=>let ⟨pl,q1,q2⟩:=I.rel.ki i hi;⟨pl,by rw[hf];exact q1,q2⟩⟩,
  ⟨I.tr.os,I.tr.tape,I.tr.output,I.tr.drawn,I.tr.size,λb pl h=>by rw[hf];exact I.tr.ext b pl h,I.tr.hn,I.tr.hg,λb pl h h'=>I.tr.new b pl (hback h) h',I.tr.dead,I.tr.mi,I.tr.frame⟩,
  λs pl h=>I.box s pl (hback h),I.nZ⟩
 obtain⟨C,e',fz,c1,c2,c3,c4,c5,c6⟩:=I.rel.row _ _ _ _ _ (hback h) (hrow h hr);exact⟨C,e',fz,c1,c2,c3,c4,c5,λi v hi=>let ⟨v',q1,q2⟩:=c6 i v hi;⟨v',q1,hmono q2⟩⟩
def Y7{n:Nat}{pd:List iq}(hpw:pd.Pairwise λp q=>p.i≠q.i/\p.s≠q.s){σ:St}{a:Act}(C:kD P ρ0 h0 w0 n σ a w):zA P ρ0 h0 w0 n pd (qW pd σ) a w:=by
 obtain⟨ρ,I,F,hs,hd⟩:=C;cases hpd:pd with
 |nil=>exact⟨ρ,I,λi v hi=>F i v (by have h2:jR [] σ.t i=some v:=hi;simp only[jR,List.any_nil,fw,if_false]at h2;exact h2),hs,hd,by simp⟩
 |cons p0 r0=>
  rw[<-hpd];have he:qW pd σ=⟨vL pd σ.t,⟨vM pd σ.m.x,σ.m.h⟩⟩:=by rw[hpd];rfl
  rw[he];refine⟨λk=>if k.1=true/\(pd.any λp=>p.s==k.2)=true then none else ρ k,?_,?_,hs,hd,λp hp=>⟨?_,?_,?_⟩⟩
  .refine I.forget (λb=>by simp) λs pl h=>?_;simp only[true_and]at h;split at h
   .simp at h
   .rename_i hno;refine⟨h,.inl ?_⟩;have:∀p∈pd,p.s≠s:=λp hp e=>hno (lB.2 ⟨p,hp,by simp[e]⟩);simp only[vM,Km this]
  .intro j v hj;simp only[Fr.get]at hj;by_cases hex:∃p∈pd,p.s=j
   .rw[vU hex]at hj;simp at hj
   .have hno:∀p∈pd,p.s≠j:=λp hp e=>hex ⟨p,hp,e⟩;rw[rf hno]at hj;simp only[vL,Km hno]at hj;cases hT:σ.t j with
    |none=>rw[hT]at hj;simp at hj
    |some u=>
     rw[hT]at hj;simp only at hj;obtain⟨u',q1,q2⟩:=F j u hT;have:u=v/\∀s,iM u=some s->(pd.any λp=>p.s==s)=false:=by
      split at hj
      .rename_i s hs';split at hj
       .simp at hj
       .rename_i hnn;exact⟨bU hj,λs2 hs2=>by rw[hs']at hs2;obtain rfl:=bU hs2;simpa using hnn⟩
      .rename_i hnone;exact⟨bU hj,λs hs'=>by rw[hnone]at hs';cases hs'⟩
     obtain⟨rfl,hloc⟩:=this;refine⟨u',q1,?_⟩;cases q2 with
     |val _ _ q=>exact .val _ _ (q.mono λb pl z=>by simpa using z)
     |loc s off x pl z=>
      have:=hloc s rfl;exact .loc s off x pl (by simp only[this];simpa using z)
  .have:(pd.any λq=>q.s==p.s)=true:=lB.2 ⟨p,hp,by simp⟩;simp[this]
  .simp only[vM,Ko hpw hp]
  .simp only[vL,Ko hpw hp]
end
section
variable {P:Program} {ρ0 ρ ρ':aH} {h0:aa} {w0 w:World} {m:Mem}
inductive Ex
 |normal
 |exit (n:Nat)
 |ret
def St.cut(σ:St)(cfg:aw)(id:Nat):St:=⟨σ.t.prune (cfg.keep id),⟨σ.m.x.prune cfg.loc,σ.m.h⟩⟩
def vm(vb:(Ex->St->Prop)->St->Prop)(Q:Ex->St->Prop):Nat->St->Prop
 |0,_=>False
 |n+1,σ=>vb (λe σ'=>match e with
  | .normal=>vm vb Q n σ'
  |e=>Q e σ') σ
def rQ(f:St->Prop)(Q:Ex->St->Prop):Ex->St->Prop
 | .normal,σ=>f σ
 |e,σ=>Q e σ
def oU(i:Nat)(Q:Ex->St->Prop):Ex->St->Prop
 | .exit j,σ=>if j=i then Q .normal σ else Q (.exit j) σ
 |e,σ=>Q e σ
def tX(P:Program)(loc:List Nat)(ops:Array Oper)(B:Nat->Nat->Bool)(Q:St->Prop):List (List Nat)->St->Prop
 |[],_=>True
 |pm::r,σ=>gM P loc ops B Q [] (qy ops pm) σ/\tX P loc ops B Q r σ
def VQ{loc:List Nat}{ops:Array Oper}{B:Nat->Nat->Bool}{Q:St->Prop}{σ:St}{pm:List Nat}:∀{l:List (List Nat)},pm∈l->tX P loc ops B Q l σ->gM P loc ops B Q [] (qy ops pm) σ:=by
 intro l;induction l with
 |nil=>intro h;simp at h
 |cons x r ih=>
  intro h q;rcases cJ.1 h with e|e
  .subst e;exact q.1
  .exact ih e q.2
def vc(P:Program)(cfg:aw):Code->(Ex->St->Prop)->St->Prop
 | .skip,Q,σ=>Q .normal σ
 | .region id ops false,Q,σ=>gA P cfg.loc ops (λσ=>Q .normal (σ.cut cfg id)) ops.toList σ
 | .region id ops true,Q,σ=>tX P cfg.loc ops (cfg.draw id).B (λσ=>Q .normal (σ.cut cfg id)) (cfg.draw id).perms (qW (mH P ops (cfg.draw id)) σ)
 | .seq a b,Q,σ=>vc P cfg a (rQ (vc P cfg b Q) Q) σ
 | .cond c a b,Q,σ=>match aN σ c with
  |some (.bool t)=>if t=true then vc P cfg a Q σ else vc P cfg b Q σ
  |_=>False
 | .block i b,Q,σ=>vc P cfg b (oU i Q) σ
 | .loop b,Q,σ=>∃n,vm (vc P cfg b) Q n σ
 | .exit i,Q,σ=>Q (.exit i) σ
 | .ret,Q,σ=>Q .ret σ
 |_,_,_=>False
def mv(P:Program)(cfg:aw)(n:Nat):Code->Bool
 | .region id ops draw=>ops.toList.all (λo=>match o.dst with|some i=>decide (i<n)|none=>true)&&(!draw || Al P cfg.loc n ops (cfg.draw id))
 | .seq a b=>mv P cfg n a&&mv P cfg n b
 | .cond _ a b=>mv P cfg n a&&mv P cfg n b
 | .block _ b=>mv P cfg n b
 | .loop b=>mv P cfg n b
 |_=>true
def abD{α:Type}(T:Nat->Option α)(i:Nat):∀l:List Nat,nE (l.map λi=>(i,T i)) i=T i∨nE (l.map λi=>(i,T i)) i=none:=by
 intro l;induction l with
 |nil=>exact .inr rfl
 |cons j r ih=>
  simp only[fg,nE];split
  .rename_i h;subst h;exact .inl rfl
  .exact ih
def kp:List (List Nat)->Nat->List Nat
 |[],_=>[]
 |x::_,0=>x
 |_::l,n+1=>kp l n
@[simp ↓] def ao0(x:List Nat)(l:List (List Nat)):kp (x::l) 0=x:=rfl
@[simp ↓] def aoZ(x:List Nat)(l:List (List Nat))(n:Nat):kp (x::l) (n+1)=kp l n:=rfl
def kD.cut{n:Nat}{σ:St}{a:Act}(C:kD P ρ0 h0 w0 n σ a w)(cfg:aw)(id:Nat):kD P ρ0 h0 w0 n (σ.cut cfg id) a w:=by
 obtain⟨ρ,I,F,hs,hd⟩:=C;exact⟨ρ,I.forget (ρ1:=ρ) (x1:=σ.m.x.prune cfg.loc) (λ_=>rfl) λs pl h=>⟨h,abD σ.m.x.look s cfg.loc⟩,F.prune _,hs,hd⟩
def QC(P:Program)(ρ0:aH)(h0:aa)(w0:World)(n:Nat)(Q:Ex->St->Prop):Exit->Act->World->Prop
 | .normal,a,w=>∃σ,Q .normal σ/\kD P ρ0 h0 w0 n σ a w
 | .exit i,a,w=>∃σ,Q (.exit i) σ/\kD P ρ0 h0 w0 n σ a w
 | .ret,a,w=>∃σ,Q .ret σ/\kD P ρ0 h0 w0 n σ a w
 |_,_,_=>False
def aoq{c:Code}{Z:Exit->Act->World->Prop}(J:Nat->Act->World->Prop)(hJ:∀k a w,J (k+1) a w->c.wp P (Exit.then (λa' w'=>J k a' w') Z) a w)(h0:∀a w,¬J 0 a w):
  ∀(k:Nat)(a:Act)(w:World),J k a w->(Code.loop c).wp P Z a w:=by
 intro k a w h b kk cs;have key:∀(k:Nat)(a:Act)(w:World),J k a w->∃e a' w',Z e a' w'/\Arrives P (lone (b.at a (.code c:: .inLoop c::kk)) cs w) b kk cs e a' w':=by
  intro k;induction k with
  |zero=>intro a w h;exact absurd h (h0 a w)
  |succ k ih=>
   intro a w h;obtain⟨e,a₁,w₁,hq,harr⟩:=hJ k a w h b (.inLoop c::kk) cs;cases e with
   |normal=>
    obtain⟨e₂,a₂,w₂,hq₂,harr₂⟩:=ih a₁ w₁ hq;exact⟨e₂,a₂,w₂,hq₂,.of_steps (Steps.trans harr (.one step_inLoop)) harr₂⟩
   |exit id=>exact⟨_,a₁,w₁,hq,.pass (x:=.inLoop c) rfl (λ_ _=>.inl (by simp)) harr⟩
   |goto l=>exact⟨_,a₁,w₁,hq,.pass (x:=.inLoop c) rfl (λ_ _=>.inl (by simp)) harr⟩
   |ret=>exact⟨_,a₁,w₁,hq,.pass (x:=.inLoop c) rfl (λ_ _=>.inl (by simp)) harr⟩
   |panic ch=>exact⟨_,a₁,w₁,hq,.pass (x:=.inLoop c) rfl (λ_ _=>.inl (by simp)) harr⟩
   |outgrown=>exact⟨_,a₁,w₁,hq,.pass (x:=.inLoop c) rfl (λ_ _=>.inl (by simp)) harr⟩
 obtain⟨e,a',w',hq,harr⟩:=key k a w h;exact⟨e,a',w',hq,.of_steps (.one step_loop) harr⟩
def aoc{cfg:aw}{n:Nat}(hmix:P.follows .mixedOrders=true):∀(c:Code)(Q:Ex->St->Prop)(σ:St)(a:Act)(w:World),mv P cfg n c=true->vc P cfg c Q σ->kD P ρ0 h0 w0 n σ a w->
  c.wp P (QC P ρ0 h0 w0 n Q) a w:=by
 intro c;induction c with
 |skip=>intro Q σ a w _ h C;exact wp_skip ⟨σ,h,C⟩
 |region id ops draw=>
  intro Q σ a w hok h C;simp only[mv,bQ]at hok;obtain⟨h1,h2⟩:=hok;have hdst:∀o∈ops.toList,∀i,o.dst=some i->i<n:=λo ho i hi=>by
   have:=cz.1 h1 o ho;rw[hi]at this;exact of_decide_eq_true this
  cases draw with
  |false=>
   refine wp_region_list (an3 (Q:=λσ=>Q .normal (σ.cut cfg id)) (λσ' a' w' hq hc=>⟨_,hq,hc.cut cfg id⟩) ops.toList σ a w hdst h C)
  |true=>
   simp only[Bool.not_true,Bool.false_or]at h2;refine wp_region_draw λt=>?_;simp only[Region.schedule,hmix,Bool.true_or,if_true];obtain⟨hpw,pm,hpm,L⟩:=YC h2 t;refine YD (Q:=λσ=>Q .normal (σ.cut cfg id)) (λσ' a' w' hq hc=>⟨_,hq,hc.cut cfg id⟩) _ (mH P ops (cfg.draw id)) (qy ops pm) [] _ a _ L (VQ hpm h) ?_;have C':kD P ρ0 h0 w0 n σ a w.drew:=let ⟨ρ,I,F,z⟩:=C;⟨ρ,I.drew,F,z⟩;exact Y7 hpw C'
 |seq x y ihx ihy=>
  intro Q σ a w hok h C;simp only[mv,bQ]at hok;refine wp_seq (Code.wp_mono (λe a' w' hq=>?_) (ihx _ σ a w hok.1 h C));cases e with
  |normal=>obtain⟨σ',q1,q2⟩:=hq;exact ihy Q σ' a' w' hok.2 q1 q2
  |exit i=>exact hq
  |ret=>exact hq
  |goto l=>exact hq
  |panic ch=>exact hq
  |outgrown=>exact hq
 |cond c x y ihx ihy=>
  intro Q σ a w hok h C;simp only[mv,bQ]at hok;simp only[vc]at h;split at h;rotate_left
  .exact h.elim
  rename_i t ht;obtain⟨ρ,I,F,z⟩:=C;have hc:=(dD I F ht).cB rfl;refine wp_cond hc ?_;cases t with
  |true=>simp only[if_true]at h ⊢;exact ihx Q σ a w hok.1 h ⟨ρ,I,F,z⟩
  |false=>simp only[fw,if_false]at h ⊢;exact ihy Q σ a w hok.2 h ⟨ρ,I,F,z⟩
 |block i b ih=>
  intro Q σ a w hok h C;refine wp_block (Code.wp_mono (λe a' w' hq=>?_) (ih _ σ a w hok h C));cases e with
  |normal=>exact hq
  |exit j=>
   obtain⟨σ',q1,q2⟩:=hq;simp only[oU]at q1;simp only[Exit.inBlock];by_cases hj:j=i
   .rw[if_pos hj]at q1 ⊢;exact⟨σ',q1,q2⟩
   .rw[if_neg hj]at q1 ⊢;exact⟨σ',q1,q2⟩
  |ret=>exact hq
  |goto l=>exact hq
  |panic ch=>exact hq
  |outgrown=>exact hq
 |loop b ih=>
  intro Q σ a w hok h C;obtain⟨k,hk⟩:=h;refine aoq (J:=λk a w=>∃σ,vm (vc P cfg b) Q k σ/\kD P ρ0 h0 w0 n σ a w) (λk a w hJ=>?_) (λa w hJ=>?_) k a w ⟨σ,hk,C⟩
  .obtain⟨σ',q1,q2⟩:=hJ;refine Code.wp_mono (λe a' w' hq=>?_) (ih _ σ' a w hok q1 q2);cases e with
   |normal=>exact hq
   |exit j=>exact hq
   |ret=>exact hq
   |goto l=>exact hq
   |panic ch=>exact hq
   |outgrown=>exact hq
  .obtain⟨σ',q1,_⟩:=hJ;exact q1
 |exit i=>intro Q σ a w _ h C;exact wp_exit ⟨σ,h,C⟩
 |ret=>intro Q σ a w _ h C;exact wp_ret ⟨σ,h,C⟩
 |rangeFunc f ps x y=>intro Q σ a w _ h;exact h.elim
 |scope b=>intro Q σ a w _ h;exact h.elim
 |label l=>intro Q σ a w _ h;exact h.elim
 |goto l=>intro Q σ a w _ h;exact h.elim
 |refuse s=>intro Q σ a w _ h;exact h.elim
def wN(P:Program)(σ:St):ResultVar->Option Value
 | .tmp t=>match σ.t.get t with
  |some v=>if cn v then some v else none
  |none=>none
 | .cell t ty=>match σ.t.get t with
  |some (.pointer (some ad))=>match ei P ty,dj P ty with
   |some true,some n=>match σ.m.cells ad n with
    |some l=>some (.agg ⟨l⟩)
    |none=>none
   |some false,_=>match σ.m.cells ad 1 with
    |some [v]=>some v
    |_=>none
   |_,_=>none
  |_=>none
def qA(P:Program)(σ:St):List ResultVar->Option (List Value)
 |[]=>some []
 |r::l=>match wN P σ r,qA P σ l with
  |some v,some vs=>some (v::vs)
  |_,_=>none
def oL:List Value->Value
 |[v]=>v
 |l=>.tuple ⟨l⟩
def sP(tmps:Array Value):ResultVar->Sem Value
 | .tmp t=>pure (tmps.getD t undef)
 | .cell a t=>do loadVar t (<-asAddr (tmps.getD a undef))
def ajO(fn:Func)(tmps:Array Value):results fn tmps=(do
  let vs <-fn.results.mapM (sP tmps)
  pure (if h:vs.size=1 then vs[0]else .tuple vs)):=by
 unfold results;congr 1
def ajL{σ:St}{r:ResultVar}{v:Value}(h:wN P σ r=some v)(I:Inv P ρ0 h0 w0 ρ σ.m w){tmps:Array Value}(F:fu ρ σ.t tmps):
  ∃v',(sP tmps r).run P w= .ok v' w/\VR ρ v v':=by
 cases r with
 |tmp t=>
  simp only[wN]at h;split at h
  .rename_i u hu;split at h
   .rename_i hnl;obtain rfl:=bU h;obtain⟨v',q1,q2⟩:=F t _ hu;exact⟨v',by simp[sP,Array.getD_eq_getD_getElem?,q1],q2.cn hnl⟩
   .simp at h
  .simp at h
 |cell t ty=>
  simp only[wN]at h;split at h
  .rename_i ad hx;obtain⟨v',q1,q2⟩:=F t _ hx;obtain⟨pl,hk,hv⟩:=q2.ptr;have hg:tmps.getD t undef= .pointer (some ⟨pl.B,pl.o+ad.off,none⟩):=(by simp[Array.getD_eq_getD_getElem?,q1,hv]);split at h
   .rename_i n hagg hsz;split at h
    .rename_i l hl;obtain rfl:=bU h;obtain⟨p1,l',p2,p3,p4⟩:=sr I hk hl;have hrun:=run_loadCells_list (P:=P) w ⟨pl.B,pl.o+ad.off,none⟩ l' p4;rw[p2]at hrun;exact⟨.agg ⟨l'⟩,by simp[hg,asAddr,loadVar,sP,u9 hagg,run_sizeOf hsz,hrun],Cx (p1.trans p2.symm) p3⟩
    .simp at h
   .rename_i hagg;split at h
    .rename_i v1 hl;obtain rfl:=bU h;obtain⟨p1,l',p2,p3,p4⟩:=sr I hk hl;obtain⟨v2,e1,e2⟩:=p3 0 v1 rfl;have hc:=p4 0 v2 e1;rw[Addr.add_zero']at hc;exact⟨v2,by simp[hg,asAddr,loadVar,sP,u9 hagg,hc],e2⟩
    .simp at h
   .simp at h
  .simp at h
def ajM{σ:St}(I:Inv P ρ0 h0 w0 ρ σ.m w){tmps:Array Value}(F:fu ρ σ.t tmps):∀{l:List ResultVar}{vs:List Value},qA P σ l=some vs->
  ∃vs':List Value,(l.mapM (sP tmps)).run P w= .ok vs' w/\mX ρ vs vs':=by
 intro l;induction l with
 |nil=>intro vs h;simp only[qA,av]at h;subst h;exact⟨[],rfl,rfl,by simp⟩
 |cons r l ih=>
  intro vs h;simp only[qA]at h;split at h;rotate_left
  .simp at h
  rename_i v us hv hus;obtain rfl:=bU h;obtain⟨v',q1,q2⟩:=ajL hv I F;obtain⟨vs',p1,p2,p3⟩:=ih hus;refine⟨v'::vs',?_,by simp[p2],λi u hi=>?_⟩
  .rw[List.mapM_cons];simp only[Sem.run_bind,q1,Result.andThen_ok,p1,Sem.run_pure]
  .cases i with
   |zero=>simp at hi;subst hi;exact⟨v',rfl,q2⟩
   |succ i=>exact p3 i u (by simpa using hi)
def ajN{vs vs':List Value}(h:mX ρ vs vs'):VR ρ (oL vs) (oL vs'):=by
 obtain⟨hl,h2⟩:=h;match vs,vs',hl with
 |[],[],_=>exact .tuple [] [] rfl (by simp)
 |[v],[v'],_=>obtain⟨u,q1,q2⟩:=h2 0 v rfl;simp at q1;subst q1;exact q2
 |v::v2::r,v'::v2'::r',hl=>exact .tuple _ _ hl ((pL hl).2 h2)
def uu(args:List Value):Fr:=Fr.ofList (args.zipIdx.map λp=>(p.2,some p.1))
def uq(P:Program)(rs:List ResultVar)(post:Value->aa->Prop):Ex->St->Prop
 | .exit _,_=>False
 |_,σ=>match qA P σ rs with
  |some vs=>post (oL vs) σ.m.h
  |none=>False
def abE(l:List Value):∀(k i:Nat)(v:Value),nE ((l.zipIdx k).map λp=>(p.2,some p.1)) i=some v->k<=i/\l[i-k]? =some v:=by
 induction l with
 |nil=>intro k i v h;simp[nE]at h
 |cons x r ih=>
  intro k i v h;rw[List.zipIdx_cons,fg]at h;simp only[nE]at h;split at h
  .rename_i e;subst e;simp at h;subst h;simp
  .rename_i hne;obtain⟨q1,q2⟩:=ih (k+1) i v h;refine⟨by omega,?_⟩;rw[show i-k=(i-(k+1))+1 by omega,List.getElem?_cons_succ];exact q2
def UX{f:FuncId}{fn:Func}{c:Code}{cfg:aw}{args:List Value}{h:aa}{post:Value->aa->Prop}(hmix:P.follows .mixedOrders=true)(hf:P.funcs[f]? =some fn)(hb:fn.body=some c)
  (hname:(fn.name== "runtime.NumGoroutine")=false) (hn:args.length<=fn.ntmps) (hok:mv P cfg fn.ntmps c=true)
  (hvc:vc P cfg c (uq P fn.results.toList post) ⟨uu args,⟨b8.nil,h⟩⟩):al P f args h post:=by
 refine⟨⟨fn,hf,by simp[hb],hname⟩,λρ w args' hbox R V=>?_⟩;refine calls_of_wp hf hb ?_;have I:=Inv.start R hbox;have hlen:args'.length<=fn.ntmps:=by rw[<-V.1];exact hn
 have C:kD P ρ h w fn.ntmps ⟨uu args,⟨b8.nil,h⟩⟩ {tmps:=(⟨args'⟩:Array Value)++Array.replicate (fn.ntmps-(⟨args'⟩:Array Value).size) undef,defers:=[]} w:=by
  refine⟨ρ,I,λi v hi=>?_,by simp;omega,rfl⟩;obtain⟨_,q⟩:=abE args 0 i v hi;obtain⟨v',q1,q2⟩:=V.2 i v (by simpa using q);refine⟨v',?_,.val _ _ q2⟩;have hi':i<args'.length:=by rcases Nat.lt_or_ge i args'.length with z|z;exact z;rw[iT z]at q1;cases q1
  rw[Array.getElem?_append_left (by simpa using hi')];simpa using q1
 refine Code.wp_mono (λe a' w' hq=>?_) (aoc hmix c _ _ _ w hok hvc C);have fin:∀σ,(match qA P σ fn.results.toList with|some vs=>post (oL vs) σ.m.h|none=>False)->kD P ρ h w fn.ntmps σ a' w'->a'.defers=[]/\∃v,(results fn a'.tmps).run P w'= .ok v w'/\
   ∃v0 v' h' ρ',Ending.returned v= .returned v'/\post v0 h'/\(∀s,ρ' (true,s)=none)/\jw P ρ' ⟨b8.nil,h'⟩ w'/\Tr ρ h w ρ' h' w'/\VR ρ' v0 v':=by
  intro σ hp ⟨ρ1,I1,F1,hs,hd⟩;refine⟨hd,?_⟩;split at hp;rotate_left
  .exact hp.elim
  rename_i vs hvs;obtain⟨vs',q1,q2⟩:=ajM I1 F1 hvs;refine⟨oL vs',?_,oL vs,oL vs',σ.m.h,ja ρ1,rfl,hp,λs=>AN _ s,I1.rel.ja,?_,(ajN q2).ja⟩
  .have hm:(fn.results.mapM (sP a'.tmps)).run P w'= .ok ⟨vs'⟩ w':=by
    rw[Array.mapM_eq_mapM_toList,Sem.run_map,q1];rfl
   rw[ajO,Sem.run_bind,hm]
   simp only[Result.andThen_ok,Sem.run_pure]
   congr 1
   match vs' with
   |[]=>rfl
   |[v]=>rfl
   |v::v2::r=>simp[oL]
  .have t:=I1.tr;exact⟨t.os,t.tape,t.output,t.drawn,t.size,λb pl q=>by rw[oh];exact t.ext b pl q,t.hn,t.hg,λb pl q q'=>by rw[oh]at q;exact t.new b pl q q',t.dead,t.mi,t.frame⟩
 cases e with
 |normal=>obtain⟨σ,q1,q2⟩:=hq;exact fin σ q1 q2
 |ret=>obtain⟨σ,q1,q2⟩:=hq;exact fin σ q1 q2
 |exit i=>obtain⟨σ,q1,q2⟩:=hq;exact q1
 |goto l=>exact hq
 |panic ch=>exact hq.elim
 |outgrown=>exact hq.elim
def aA(f:Func):Code:=match f.body with|some c=>c|none=>.skip
def UU{n:FuncId}{f:Func}{cfg:aw}{args:List Value}{h:aa}{post:Value->aa->Prop}(hmix:P.follows .mixedOrders=true)(hf:P.funcs[n]? =some f)(hb:f.body=some (aA f))
  (hname:(f.name== "runtime.NumGoroutine")=false) (hn:Nat.ble args.length f.ntmps=true) (hok:mv P cfg f.ntmps (aA f)=true)
  (hvc:vc P cfg (aA f) (uq P f.results.toList post) ⟨uu args,⟨b8.nil,h⟩⟩):al P n args h post:=
 UX hmix hf hb hname (Nat.le_of_ble_eq_true hn) hok hvc
def l6(P:Program)(c:aw)(f:Func):Bool:=f.body.isSome&&(!(f.name== "runtime.NumGoroutine")&&mv P c f.ntmps (aA f))
def UW{n:FuncId}{f:Func}{cfg:aw}{args:List Value}{h:aa}{post:Value->aa->Prop}(hmix:P.follows .mixedOrders=true)(hf:P.funcs[n]? =some f)(hok:l6 P cfg f=true)
  (hvc:vc P cfg (aA f) (uq P f.results.toList post) ⟨uu args,⟨b8.nil,h⟩⟩) (hn:Nat.ble args.length f.ntmps=true):al P n args h post:=by
 unfold l6 at hok;simp only[bQ,Bool.not_eq_true']at hok;refine UU hmix hf ?_ hok.2.1 hn hok.2.2 hvc;obtain⟨c,hc⟩:=Option.isSome_iff_exists.1 hok.1;rw[hc,aA,hc]
end
section
variable {P:Program} {loc:List Nat} {ops:Array Oper} {cfg:aw}
def an4{Q Q':St->Prop}(hq:∀σ,Q σ->Q' σ):∀(l:List Oper)(σ:St),gA P loc ops Q l σ->gA P loc ops Q' l σ:=by
 intro l;induction l with
 |nil=>intro σ h;exact hq _ h
 |cons o r ih=>
  intro σ h;simp only[gA]at h ⊢;split at h
  .exact h.elim
  .exact ih _ h
  .split at h
   .exact h.mono λv h' q n=>ih _ (q n)
   .split at h
    .exact ih _ h
    .exact acw (λv σ=>ih _) h
def anX{Q Q':St->Prop}{B:Nat->Nat->Bool}(hq:∀σ,Q σ->Q' σ):∀(l:List (Nat×Oper))(hl:HL)(σ:St),gM P loc ops B Q hl l σ->gM P loc ops B Q' hl l σ:=by
 intro l;induction l with
 |nil=>intro hl σ h;exact hq _ h
 |cons p r ih=>
  intro hl σ h;obtain⟨i,o⟩:=p;simp only[gM]at h ⊢;split at h
  .rename_i hn;rw[if_pos hn];split at h
   .exact ih _ _ h
   .exact h.elim
  .rename_i hn;rw[if_neg hn];split at h
   .exact h.elim
   .exact ih _ _ h
   .split at h
    .exact h.mono λv h' q n=>⟨(q n).1,ih _ _ (q n).2⟩
    .split at h
     .exact⟨h.1,ih _ _ h.2⟩
     .exact h.elim
def C7{Q Q':St->Prop}{B:Nat->Nat->Bool}(hq:∀σ,Q σ->Q' σ):∀(l:List (List Nat))(σ:St),tX P loc ops B Q l σ->tX P loc ops B Q' l σ:=by
 intro l;induction l with
 |nil=>intro σ h;exact h
 |cons x r ih=>intro σ h;exact⟨anX hq _ _ _ h.1,ih σ h.2⟩
def anY{vb:(Ex->St->Prop)->St->Prop}(hvb:∀{Q Q':Ex->St->Prop},(∀e σ,Q e σ->Q' e σ)->∀σ,vb Q σ->vb Q' σ){Q Q':Ex->St->Prop}(hq:∀e σ,Q e σ->Q' e σ):
  ∀n σ,vm vb Q n σ->vm vb Q' n σ:=by
 intro n;induction n with
 |zero=>intro σ h;exact h
 |succ n ih=>
  intro σ h;refine hvb (λe σ' h'=>?_) σ h;cases e with
  |normal=>exact ih _ h'
  |exit i=>exact hq _ _ h'
  |ret=>exact hq _ _ h'
def Sl:∀(c:Code){Q Q':Ex->St->Prop},(∀e σ,Q e σ->Q' e σ)->∀σ,vc P cfg c Q σ->vc P cfg c Q' σ:=by
 intro c;induction c with
 |skip=>intro Q Q' hq σ h;exact hq _ _ h
 |region id ops draw=>
  intro Q Q' hq σ h;cases draw with
  |false=>exact an4 (λσ=>hq _ _) _ _ h
  |true=>exact C7 (λσ=>hq _ _) _ _ h
 |seq a b iha ihb=>
  intro Q Q' hq σ h;refine iha (λe σ' h'=>?_) σ h;cases e with
  |normal=>exact ihb hq _ h'
  |exit i=>exact hq _ _ h'
  |ret=>exact hq _ _ h'
 |cond c a b iha ihb=>
  intro Q Q' hq σ h;simp only[vc]at h ⊢;split at h
  .rename_i t ht;cases t with
   |true=>rw[if_pos rfl]at h ⊢;exact iha hq _ h
   |false=>rw[if_neg (by simp)]at h ⊢;exact ihb hq _ h
  .exact h.elim
 |block i b ih=>
  intro Q Q' hq σ h;refine ih (λe σ' h'=>?_) σ h;cases e with
  |normal=>exact hq _ _ h'
  |ret=>exact hq _ _ h'
  |exit j=>
   simp only[oU]at h' ⊢;by_cases e:j=i
   .rw[if_pos e]at h' ⊢;exact hq _ _ h'
   .rw[if_neg e]at h' ⊢;exact hq _ _ h'
 |loop b ih=>
  intro Q Q' hq σ h;obtain⟨n,h⟩:=h;exact⟨n,anY (λhq σ h=>ih hq σ h) hq n σ h⟩
 |exit i=>intro Q Q' hq σ h;exact hq _ _ h
 |ret=>intro Q Q' hq σ h;exact hq _ _ h
 |_=>intro Q Q' hq σ h;exact h.elim
def bG{b:Code}{Q:Ex->St->Prop}{σ:St}(J:Nat->St->Prop)(n:Nat)(h0:J n σ)
  (step:∀k σ,J k σ->vc P cfg b (rQ (λσ'=>∃j,j<k/\J j σ') Q) σ):vc P cfg (.loop b) Q σ:=by
 refine⟨n+1,?_⟩;have key:∀m n σ,n<m->J n σ->vm (vc P cfg b) Q m σ:=by
  intro m;induction m with
  |zero=>intro n σ h;omega
  |succ m ih=>
   intro n σ hn hJ;refine Sl b (λe σ' h'=>?_) σ (step n σ hJ);cases e with
   |normal=>obtain⟨j,hj,h'⟩:=h';exact ih j σ' (by omega) h'
   |exit i=>exact h'
   |ret=>exact h'
 exact key (n+1) n σ (by omega) h0
def ZV(T:Fr)(i j:Nat)(v:Value):(T.put i v).get j=if i=j then some v else T.get j:=rfl
def ZS(i j:Nat)(v:Option Value)(l:List (Nat×Option Value)):(Fr.ofList ((i,v)::l)).get j=if i=j then v else(Fr.ofList l).get j:=rfl
def get_nil(j:Nat):(Fr.ofList []).get j=none:=rfl
def ajg(T:Fr)(l:List Nat):T.prune l=Fr.ofList (l.map λi=>(i,T.get i)):=rfl
def uM(x:b8)(i j:Nat)(v:TypeId×List Value):(x.set i v).look j=if i=j then some v else x.look j:=rfl
def abH(i j:Nat)(v:Option (TypeId×List Value))(l:List (Nat×Option (TypeId×List Value))):(b8.ofList ((i,v)::l)).look j=if i=j then v else(b8.ofList l).look j:=rfl
def abJ(j:Nat):(b8.ofList []).look j=none:=rfl
def abK(j:Nat):b8.nil.look j=none:=rfl
def Wn(x:b8)(l:List Nat):x.prune l=b8.ofList (l.map λi=>(i,x.look i)):=rfl
def qY(h:aa)(x:aW)(b:Nat):(h.new x).f b=if b=h.n then x else h.f b:=rfl
def eu(h:aa)(x:aW):(h.new x).n=h.n+1:=rfl
def ZP(h:aa)(x:aW):(h.new x).g=h.g:=rfl
def fI(h:aa)(a:Nat)(x:aW)(b:Nat):(h.set a x).f b=if b=a then x else h.f b:=rfl
def PF(h:aa)(a:Nat)(x:aW):(h.set a x).n=h.n:=rfl
def ZQ(h:aa)(a:Nat)(x:aW):(h.set a x).g=h.g:=rfl
def ZT(p:iq)(pd:List iq)(T:Fr)(j:Nat):(vL (p::pd) T).get j=match(p::pd).find? (λp=>p.s==j)with
 |some p=>some (.pointer (some ⟨p.s,0,some 0⟩))
 |none=>match T.get j with
  |some v=>match iM v with
   |some s=>if(p::pd).any (λp=>p.s==s)then none else some v
   |none=>some v
  |none=>none:=rfl
def abI(p:iq)(pd:List iq)(x:b8)(j:Nat):(vM (p::pd) x).look j=match(p::pd).find? (λp=>p.s==j)with
 |some p=>some (p.e,p.z)
 |none=>x.look j:=rfl
structure Ext(h h':aa):Prop where
 g:h'.g=h.g
 n:h.n<=h'.n
 f:∀b,b<h.n->h'.f b=h.f b
def Ext.bJ(h:aa):Ext h h:=⟨rfl,aX _,λ_ _=>rfl⟩
def Ext.trans{h h' h'':aa}(a:Ext h h')(b:Ext h' h''):Ext h h'':=
 ⟨b.g.trans a.g,eY a.n b.n,λi hi=>(b.f i (cV hi a.n)).trans (a.f i hi)⟩
def Ext.new(h:aa)(x:aW):Ext h (h.new x):=⟨rfl,Nat.le_succ _,λi hi=>by rw[qY,if_neg (by omega)]⟩
def Ext.bI{h h':aa}(a:Ext h h')(x:aW):Ext h (h'.new x):=a.trans (Ext.new h' x)
def Ext.dp{h h':aa}(a:Ext h h'){b:Nat}(hb:h.n<=b)(x:aW):Ext h (h'.set b x):=
 ⟨a.g,a.n,λi hi=>by rw[fI,if_neg (by omega)];exact a.f i hi⟩
def B(l:List UInt8):ByteArray:=⟨⟨l⟩⟩
def xf(l:List UInt8):(B l).size=l.length:=rfl
def SY(l:List UInt8)(i:Nat):(B l)[i]? =l[i]? :=by
 by_cases h:i<l.length
 .rw[aq h,getElem?_pos (B l) i (by simpa[xf]using h)];rfl
 .rw[iT (by omega),getElem?_neg (B l) i (by simpa[xf]using h)]
def SX(l:List UInt8)(i j:Nat):(B l).extract i j=B ((l.take j).drop i):=by
 apply ByteArray.ext;apply Array.ext';simp[B,List.take_drop];by_cases h:i<=j
 .rw[show i+(j-i)=j by omega]
 .rw[List.drop_eq_nil_of_le (by simp;omega),List.drop_eq_nil_of_le (by simp;omega)]
def SV(l k:List UInt8):B l++B k=B (l++k):=by
 apply ByteArray.ext;simp[B]
def xe(l k:List UInt8):B l=B k↔l=k:=⟨λh=>by simpa[B]using h,λh=>by rw[h]⟩
end
section
variable {P:Program} {loc:List Nat} {σ:St}
def C8(k:IntKind)(a b:Int):Int:=k.wrap ((BitVec.ofInt k.bits a &&& BitVec.ofInt k.bits b).toNat:Int)
def Ql(k:IntKind)(a b:Int):Int:=k.wrap ((BitVec.ofInt k.bits a ||| BitVec.ofInt k.bits b).toNat:Int)
def Sy(k:IntKind)(a b:Int):Int:=k.wrap ((BitVec.ofInt k.bits a ^^^ BitVec.ofInt k.bits b).toNat:Int)
def PS(k:IntKind)(a b:Int):Int:=k.wrap ((BitVec.ofInt k.bits a &&& ~~~BitVec.ofInt k.bits b).toNat:Int)
def Rp(k:IntKind)(a b:Int):Int:=k.wrap (a*2 ^ (min b.toNat k.bits))
def Rq(k:IntKind)(a b:Int):Int:=a.fdiv (2 ^ (min b.toNat k.bits))
def xv(op:BinOp)(k:IntKind)(a b:Int):Option Value:=match op with
 | .and=>some (.int k (C8 k a b))
 | .or=>some (.int k (Ql k a b))
 | .xor=>some (.int k (Sy k a b))
 | .andNot=>some (.int k (PS k a b))
 | .shl=>if b<0 then none else some (.int k (Rp k a b))
 | .shr=>if b<0 then none else some (.int k (Rq k a b))
 | .add=>some (.int k (k.wrap (a+b)))
 | .sub=>some (.int k (k.wrap (a-b)))
 | .mul=>some (.int k (k.wrap (a*b)))
 | .eql=>some (.bool (decide (a=b)))
 | .neq=>some (.bool (decide (a≠b)))
 | .lss=>some (.bool (decide (a<b)))
 | .leq=>some (.bool (decide (a<=b)))
 | .gtr=>some (.bool (decide (b<a)))
 | .geq=>some (.bool (decide (b<=a)))
 | .quo=>if b=0 then none else some (.int k (k.wrap (a.tdiv b)))
 | .rem=>if b=0 then none else some (.int k (a.tmod b))
def nq(P:Program):List Field->List Value->List Value->Option Bool
 |[],_,_=>some true
 |f::fs,xs,ys=>if f.name= "_" then none else match P.underlying f.type,xs[f.offset]?,ys[f.offset]? with
  |some (.int _),some (.int k a),some (.int k' b)=>if k=k' then(nq P fs xs ys).map (decide (a=b)&&·)else none
  |some .string,some (.string a),some (.string b)=>(nq P fs xs ys).map (decide (a=b)&&·)
  |some .bool,some (.bool a),some (.bool b)=>(nq P fs xs ys).map ((a==b)&&·)
  |_,_,_=>none
def sA(P:Program)(t:TypeId)(u v:List Value):Option Bool:=
 if P.eqGuardType P.depth t=false/\P.stoodInHeld t=false/\u.all dz=true/\v.all dz=true then match P.underlying t with
  |some (.struct fs)=>nq P fs.toList u v
  |_=>none
 else none
def xp(P:Program)(op:BinOp)(t:TypeId)(u v:List Value):Option Value:=match op with
 | .eql=>(sA P t u v).map λr=>.bool r
 | .neq=>(sA P t u v).map λr=>.bool (!r)
 |_=>none
def zk(op:BinOp)(a b:ByteArray):Option Value:=match op with
 | .add=>if a.size+b.size<=9223372036854775807 then some (.string (a++b))else none
 | .eql=>some (.bool (decide (a=b)))
 | .neq=>some (.bool (decide (a≠b)))
 |_=>none
def xx(op:BinOp)(a b:Bool):Option Value:=match op with
 | .eql=>some (.bool (a==b))
 | .neq=>some (.bool (!(a==b)))
 |_=>none
def vB(P:Program)(σ:St)(o:Oper)(op:BinOp)(xt:TypeId)(x y:Operand):Option (Value×St):=match mG P σ op xt x y with
 |some r=>some r
 |none=>dq P σ o
def zX(P:Program)(σ:St)(o:Oper)(op:BinOp)(xt:TypeId)(x y:Operand):Option (Value×St):=match aN σ x,aN σ y with
 |some (.agg u),some (.agg v)=>(match xp P op xt u.toList v.toList with|some v=>some (v,σ)|none=>dq P σ o)
 |some (.int k a),some (.int k' b)=>if k=k' then(match xv op k a b with|some v=>some (v,σ)|none=>dq P σ o)else dq P σ o
 |some (.string a),some (.string b)=>(match zk op a b with|some v=>some (v,σ)|none=>dq P σ o)
 |some (.bool a),some (.bool b)=>(match P.underlying xt,xx op a b with|some .bool,some v=>some (v,σ)|_,_=>dq P σ o)
 |_,_=>vB P σ o op xt x y
def qF{o:Oper}{v:Value}(aJ:o.op.operands.toList.all (pc σ)=true)(hsel:vX o.op=false)(hr:(execOp (lF σ) o).aU P=some (.value v))(hv:cB v=true):dq P σ o=some (v,σ):=by
 simp[dq,tg,aJ,hsel,hr,hv]
def kG{x:Operand}{v:Value}(h:aN σ x=some v)(hv:cB v=true):pc σ x=true:=by simp[pc,h,hv]
def lV{x:Operand}{v:Value}(h:aN σ x=some v):lF σ x=v:=by simp[lF,h]
def zW(a b:ByteArray):(a.toList==b.toList)=decide (a=b):=by
 rw[ByteArray.toList_eq,ByteArray.toList_eq,Bool.eq_iff_iff];simp only[beq_iff_eq,de];constructor
 .intro h;apply ByteArray.ext;exact Array.ext' h
 .intro h;rw[h]
def V9(a b:ByteArray):(a==b)=decide (a=b):=by rw[beq_toListBytes,zW]
def rH{o:Oper}{op:BinOp}{xt yt:TypeId}{x y:Operand}{u v r:Value}(ho:o.op= .binOp op xt x y yt)(hx:aN σ x=some u)(hy:aN σ y=some v)(hu:cB u=true)(hv:cB v=true)
  (hg:(eqGuard op xt x y u v).aU P=some ()) (hr:(binOp op xt u v).aU P=some r) (hf:cB r=true):dq P σ o=some (r,σ):=by
 refine qF (by rw[ho];simp[Op.operands,kG hx hu,kG hy hv]) (by rw[ho];rfl) ?_ hf;simp only[execOp,ho,lV hx,lV hy];rw[cM,cM,hg];simp only[ep,hr];rfl
def aab(op:BinOp)(xt:TypeId)(x y:Operand)(k k':IntKind)(a b:Int):(eqGuard op xt x y (.int k a) (.int k' b)).aU P=some ():=by
 unfold eqGuard;split<;>rfl
def aac(op:BinOp)(xt:TypeId)(x y:Operand)(a b:ByteArray):(eqGuard op xt x y (.string a) (.string b)).aU P=some ():=by
 unfold eqGuard;split<;>rfl
def De{op:BinOp}{k:IntKind}{a b:Int}{v:Value}(h:xv op k a b=some v)(xt:TypeId):(binOp op xt (.int k a) (.int k b)).aU P=some v/\cB v=true:=by
 cases op<;>simp only[xv,av,reduceCtorEq,Option.ite_none_left_eq_some]at h<;>first
  |(subst h;refine⟨?_,rfl⟩;simp[binOp,Op.intArith,Op.intCmp,Sem.aU,pure,Bool.beq_eq_decide_eq,bne];done)
  |(obtain⟨h0,h⟩:=h;subst h;refine⟨?_,rfl⟩;simp[binOp,Op.intDiv,h0,Sem.aU,pure];done)
  |(subst h;refine⟨?_,rfl⟩;simp[binOp,Op.intBits,C8,Ql,Sy,PS,Sem.aU,pure];done)
  |(obtain⟨h0,h⟩:=h;subst h;refine⟨?_,rfl⟩;simp[binOp,Op.shift,Rp,Rq,h0,Sem.aU,pure];done)
def uS{t:TypeId}{d:TypeDesc}{cs:List Value}{off:Nat}{v:Value}(hu:P.underlying t=some d)(hd:(match d with| .struct _| .array _ _=>false|_=>true)=true)(hv:cs[off]? =some v):(part t ⟨cs⟩ off).aU P=some v:=by
 have:(isAgg t).aU P=some false:=by
  simp only[isAgg,cM,underlying,qu,ep,hu];cases d<;>simp_all [Sem.aU,pure]
 simp[part,cM,this,Sem.aU,pure,hv]
def pG{t:TypeId}{d:TypeDesc}(h:P.underlying t=some d):(underlying t).aU P=some d:=by
 simp[underlying,cM,qu,h,Sem.aU,pure]
def Ke(d:Nat):∀(fs:List Field)(xs ys:List Value)(r:Bool),nq P fs xs ys=some r->(Op.eqFields (d+1) ⟨xs⟩ ⟨ys⟩ fs).aU P=some r:=by
 intro fs;induction fs with
 |nil=>intro xs ys r h;simp only[nq,av]at h;subst h;rfl
 |cons f fs ih=>
  intro xs ys r h;rw[nq]at h;split at h
  .simp at h
  .rename_i hn;rw[Op.eqFields,if_pos hn];split at h
   .rename_i k0 k a k' b hu hx hy;split at h
    .rename_i hk;subst hk;obtain⟨r',h1,h2⟩:=Option.map_eq_some_iff.1 h;rw[cM,uS hu rfl hx,ep,cM,uS hu rfl hy,ep,cM];simp only[Op.equalIn,cM,pG hu,ep,if_true,Sem.aU,pure];by_cases hab:a=b
     .subst hab;simp only[beq_self_eq_true,Bool.not_true,fw,if_false,decide_true,qQ]at h2 ⊢;rw[<-h2];exact ih xs ys r' h1
     .have e:r=false:=(by rw[<-h2];simp[hab]);subst e;simp[hab,Sem.aU]
    .simp at h
   .rename_i a b hu hx hy;obtain⟨r',h1,h2⟩:=Option.map_eq_some_iff.1 h;rw[cM,uS hu rfl hx,ep,cM,uS hu rfl hy,ep,cM];simp only[Op.equalIn,cM,pG hu,ep,Sem.aU,pure,V9];by_cases hab:a=b
    .subst hab;have e:r=r':=(by rw[<-h2];simp);rw[e];simpa using ih xs ys r' h1
    .have e:r=false:=(by rw[<-h2];simp[hab]);subst e;simp[hab,Sem.aU]
   .rename_i a b hu hx hy;obtain⟨r',h1,h2⟩:=Option.map_eq_some_iff.1 h;rw[cM,uS hu rfl hx,ep,cM,uS hu rfl hy,ep,cM];simp only[Op.equalIn,cM,pG hu,ep,Sem.aU,pure];by_cases hab:a=b
    .subst hab;have e:r=r':=(by rw[<-h2];simp);rw[e];simpa using ih xs ys r' h1
    .have e:r=false:=(by rw[<-h2];simp[hab]);subst e;simp[hab,Sem.aU]
   .simp at h
def Kg(d:Nat)(t:TypeId)(xs ys:Array Value)(fs:Array Field)(ht:P.underlying t=some (.struct fs))(hp:P.stoodInHeld t=false):
  (Op.equalIn (d+1) t (.agg xs) (.agg ys)).aU P=(Op.eqFields d xs ys fs.toList).aU P:=by
 simp only[Op.equalIn,cM,pG ht,ep,qu,hp,fw,if_false];rw[<-Array.forIn_toList];generalize fs.toList=fs;induction fs with
 |nil=>rfl
 |cons f fs ih=>
  simp only[List.forIn_cons,Op.eqFields];by_cases hn:f.name≠ "_"
  .simp only[if_pos hn,cM];generalize (part f.type xs f.offset).aU P=r1;cases r1 with
   |none=>rfl
   |some a=>
    simp only[ep];generalize (part f.type ys f.offset).aU P=r2;cases r2 with
    |none=>rfl
    |some b=>
     simp only[ep];generalize (Op.equalIn d f.type a b).aU P=r3;cases r3 with
     |none=>rfl
     |some r=>
      cases r
      .rfl
      .simpa[cM,Sem.aU,pure]using ih
  .simp only[if_neg hn];simpa[cM,Sem.aU,pure]using ih
def Ar{t:TypeId}{u v:List Value}{r:Bool}(h:sA P t u v=some r):(∀op x y,(eqGuard op t x y (.agg ⟨u⟩) (.agg ⟨v⟩)).aU P=some ())/\(Op.equal t (.agg ⟨u⟩) (.agg ⟨v⟩)).aU P=some r/\u.all dz=true/\v.all dz=true:=by
 unfold sA at h;split at h;rotate_left
 .simp at h
 rename_i hc;obtain⟨c1,c2,c3,c4⟩:=hc;split at h;rotate_left
 .simp at h
 rename_i fs hu;refine⟨λop x y=>?_,?_,c3,c4⟩
 .cases op<;>first|rfl|simp[eqGuard,cM,qu,c1,Sem.aU,pure]
 .show(Op.equalIn (9999+1) t _ _).aU P=_;rw[Kg 9999 t _ _ fs hu c2];exact Ke 9998 _ _ _ _ h
def VE{op:BinOp}{t:TypeId}{u v:List Value}{r:Value}(h:xp P op t u v=some r):(∀x y,(eqGuard op t x y (.agg ⟨u⟩) (.agg ⟨v⟩)).aU P=some ())/\(binOp op t (.agg ⟨u⟩) (.agg ⟨v⟩)).aU P=some r/\cB r=true/\u.all dz=true/\v.all dz=true:=by
 cases op<;>simp only[xp,reduceCtorEq]at h
 .obtain⟨b,h1,rfl⟩:=Option.map_eq_some_iff.1 h;obtain⟨q1,q2,q3,q4⟩:=Ar h1;exact⟨q1 _,by simp[binOp,cM,q2,Sem.aU,pure],rfl,q3,q4⟩
 .obtain⟨b,h1,rfl⟩:=Option.map_eq_some_iff.1 h;obtain⟨q1,q2,q3,q4⟩:=Ar h1;exact⟨q1 _,by simp[binOp,cM,q2,Sem.aU,pure],rfl,q3,q4⟩
def RC{op:BinOp}{a b:ByteArray}{v:Value}(h:zk op a b=some v)(xt:TypeId):(binOp op xt (.string a) (.string b)).aU P=some v/\cB v=true:=by
 unfold zk at h;split at h
 .split at h
  .rename_i hle;obtain rfl:=bU h;have:¬(((a.size+b.size:Nat):Int)>IntKind.i64.max):=by
    have:IntKind.i64.max=9223372036854775807:=(by decide);rw[this];omega
   refine⟨?_,rfl⟩;simp only[binOp,Op.stringOp,if_neg this];rfl
  .simp at h
 .obtain rfl:=bU h;refine⟨?_,rfl⟩;simp[binOp,Op.stringOp,Sem.aU,pure,zW]
 .obtain rfl:=bU h;refine⟨?_,rfl⟩;simp[binOp,Op.stringOp,Sem.aU,pure,zW]
 .simp at h
def Dh{op:BinOp}{a b:Bool}{v:Value}{xt:TypeId}(ht:P.underlying xt=some .bool)(h:xx op a b=some v):(binOp op xt (.bool a) (.bool b)).aU P=some v/\cB v=true:=by
 have key:∀n,(Op.equalIn (n+1) xt (.bool a) (.bool b)).aU P=some (a==b):=by
  intro n;simp[Op.equalIn,cM,pG ht,Sem.aU,pure]
 have he:(Op.equal xt (.bool a) (.bool b)).aU P=some (a==b):=key 9999;clear key;cases op<;>simp only[xx,av,reduceCtorEq]at h
 .subst h;refine⟨?_,rfl⟩;show(do pure (.bool (<-Op.equal xt (.bool a) (.bool b))):Sem Value).aU P=_;rw[cM,he];simp[Sem.aU,pure,Bool.beq_eq_decide_eq]
 .subst h;refine⟨?_,rfl⟩;show(do pure (.bool (!(<-Op.equal xt (.bool a) (.bool b)))):Sem Value).aU P=_;rw[cM,he];simp[Sem.aU,pure,Bool.beq_eq_decide_eq]
def aaa(op:BinOp)(xt:TypeId)(x y:Operand)(a b:Bool):(eqGuard op xt x y (.bool a) (.bool b)).aU P=some ():=by
 unfold eqGuard;split<;>rfl
def alv(d:Option Nat)(op:BinOp)(xt yt ty:TypeId)(x y:Operand)(pos:String)(aft:Array Edge)(g:Option (Nat×Bool)):
  cU P loc σ ⟨d,.binOp op xt x y yt,ty,pos,aft,g⟩=zX P σ ⟨d,.binOp op xt x y yt,ty,pos,aft,g⟩ op xt x y:=by
 show vB P σ ⟨d,.binOp op xt x y yt,ty,pos,aft,g⟩ op xt x y=_;have hno:∀u v,aN σ x=some u->aN σ y=some v->(∀dd,pn dd u v=none)->vB P σ ⟨d,.binOp op xt x y yt,ty,pos,aft,g⟩ op xt x y=dq P σ ⟨d,.binOp op xt x y yt,ty,pos,aft,g⟩:=by
  intro u v hx hy hn;unfold vB;have:mG P σ op xt x y=none:=by
   unfold mG;rw[hx,hy];cases P.underlying xt with
   |none=>rfl
   |some dd=>simp only[hn]
  rw[this]
 unfold zX;split
 .rename_i u v hx hy;rw[hno _ _ hx hy (λdd=>by unfold pn;split<;>first|rfl|simp_all)];obtain⟨u⟩:=u;obtain⟨v⟩:=v;split
  .rename_i r hr;obtain⟨q1,q2,q3,q4,q5⟩:=VE hr;exact rH (op:=op) (xt:=xt) (yt:=yt) rfl hx hy (by simpa[cB]using q4) (by simpa[cB]using q5) (q1 _ _) q2 q3
  .rfl
 .rename_i k a k' b hx hy;rw[hno _ _ hx hy (λdd=>by unfold pn;split<;>first|rfl|simp_all)];split
  .rename_i hk;subst hk;split
   .rename_i v hv;exact rH (op:=op) (xt:=xt) (yt:=yt) rfl hx hy rfl rfl (aab ..) (De hv xt).1 (De (P:=P) hv xt).2
   .rfl
  .rfl
 .rename_i a b hx hy;rw[hno _ _ hx hy (λdd=>by unfold pn;split<;>first|rfl|simp_all)];split
  .rename_i v hv;exact rH (op:=op) (xt:=xt) (yt:=yt) rfl hx hy rfl rfl (aac ..) (RC hv xt).1 (RC (P:=P) hv xt).2
  .rfl
 .rename_i a b hx hy;rw[hno _ _ hx hy (λdd=>by unfold pn;split<;>first|rfl|simp_all)];split
  .rename_i v ht hv;exact rH (op:=op) (xt:=xt) (yt:=yt) rfl hx hy rfl rfl (aaa ..) (Dh ht hv).1 (Dh (P:=P) ht hv).2
  .rfl
 .rfl
def Cv(P:Program)(σ:St)(o:Oper)(op:UnOp)(x:Operand):Option (Value×St):=match op,aN σ x with
 | .neg,some (.int k a)=>some (.int k (k.wrap (0-a)),σ)
 | .not,some (.bool b)=>some (.bool (!b),σ)
 |_,_=>dq P σ o
def QQ{o:Oper}{op:UnOp}{t:TypeId}{x:Operand}{u r:Value}(ho:o.op= .unOp op t x)(hx:aN σ x=some u)(hu:cB u=true)
  (hr:(Op.unary op u).aU P=some r) (hf:cB r=true):dq P σ o=some (r,σ):=by
 refine qF (by rw[ho];simp[Op.operands,kG hx hu]) (by rw[ho];rfl) ?_ hf;simp only[execOp,ho,lV hx];rw[cM,hr];rfl
def al7(d:Option Nat)(op:UnOp)(t ty:TypeId)(x:Operand)(pos:String)(aft:Array Edge)(g:Option (Nat×Bool)):
  cU P loc σ ⟨d,.unOp op t x,ty,pos,aft,g⟩=Cv P σ ⟨d,.unOp op t x,ty,pos,aft,g⟩ op x:=by
 show dq P σ _=_;unfold Cv;split
 .rename_i k a hx;exact QQ (op:=.neg) rfl hx rfl rfl rfl
 .rename_i b hx;exact QQ (op:=.not) rfl hx rfl rfl rfl
 .rfl
def xF(P:Program)(σ:St)(o:Oper)(s t:TypeId)(x:Operand):Option (Value×St):=match P.underlying s,P.underlying t,aN σ x with
 |some _,some (.int k),some (.int _ n)=>some (.int k (k.wrap n),σ)
 |_,_,_=>dq P σ o
def yS{t:TypeId}{d:TypeDesc}(h:P.underlying t=some d):(underlying t).aU P=some d:=by
 simp[underlying,cM,qu,h,Sem.aU,pure]
def alA(d:Option Nat)(s t ty:TypeId)(x:Operand)(pos:String)(aft:Array Edge)(g:Option (Nat×Bool)):
  cU P loc σ ⟨d,.convert s t x,ty,pos,aft,g⟩=match mF P σ s t x with
   |some r=>some r
   |none=>xF P σ ⟨d,.convert s t x,ty,pos,aft,g⟩ s t x:=by
 have key:dq P σ ⟨d,.convert s t x,ty,pos,aft,g⟩=xF P σ ⟨d,.convert s t x,ty,pos,aft,g⟩ s t x:=?_
 .rw[<-key];rfl
 unfold xF;split
 .rename_i e k k' n hs ht hx;refine qF (by simp[Op.operands,kG hx rfl]) rfl ?_ rfl;simp only[execOp,lV hx,convert];simp only[cM,yS hs,yS ht,ep];cases e<;>rfl
 .rfl
def AP(P:Program)(σ:St)(o:Oper)(t:TypeId)(x i:Operand):Option (Value×St):=match P.underlying t,aN σ x,aN σ i with
 |some .string,some (.string s),some (.int _ n)=>if 0<=n then(match s[n.toNat]? with|some b=>some (.int .u8 b.toNat,σ)|none=>dq P σ o)else dq P σ o
 |_,_,_=>dq P σ o
def alI(d:Option Nat)(t ty:TypeId)(x i:Operand)(pos:String)(aft:Array Edge)(g:Option (Nat×Bool)):
  cU P loc σ ⟨d,.index t x i,ty,pos,aft,g⟩=AP P σ ⟨d,.index t x i,ty,pos,aft,g⟩ t x i:=by
 show dq P σ _=_;unfold AP;split
 .rename_i s k n ht hx hi;split
  .rename_i hn;split
   .rename_i b hb;refine qF (by simp[Op.operands,kG hx rfl,kG hi rfl]) rfl ?_ rfl;simp only[execOp,lV hx,lV hi,Instr.index];simp only[cM,yS ht,ep,asIntOf,Sem.aU,pure,hn,if_true,hb]
   .rfl
  .rfl
 .rfl
def Ci(P:Program)(σ:St)(o:Oper)(t:TypeId)(x:Operand)(lo hi:Option Operand):Option (Value×St):=match P.underlying t,aN σ x with
 |some .string,some (.string s)=>(match iW σ lo 0,iW σ hi s.size with
  |some l,some h=>if l<=h/\h<=s.size then some (.string (s.extract l h),σ)else dq P σ o
  |_,_=>dq P σ o)
 |some .string,_=>dq P σ o
 |_,_=>rE P σ t x lo hi
def uV{y n dflt:Nat}{c:BoundsCode}{i:Operand}(h:iW σ (some i) dflt=some n)(hy:n<=y):pc σ i=true/\(Instr.sliceBound (lF σ i) y c).aU P=some n:=by
 unfold iW at h;split at h
 .cases ‹some i=none›
 .rename_i j hj;obtain rfl:=bU hj;split at h
  .rename_i k z hz;split at h
   .rename_i h0z;obtain rfl:=bU h;have hzy:z<=(y:Int):=(by omega);refine⟨kG hz rfl,?_⟩;simp[Instr.sliceBound,lV hz,asIntOf,h0z,hzy,cM,Sem.aU,pure]
   .simp at h
  .simp at h
def al5(d:Option Nat)(t ty:TypeId)(x:Operand)(lo hi:Option Operand)(pos:String)(aft:Array Edge)(g:Option (Nat×Bool)):
  cU P loc σ ⟨d,.slice t x lo hi none,ty,pos,aft,g⟩=Ci P σ ⟨d,.slice t x lo hi none,ty,pos,aft,g⟩ t x lo hi:=by
 unfold Ci;show(match P.underlying t with|some .string=>dq P σ _|_=>rE P σ t x lo hi)=_
 split
 .rename_i ht;split
  .rename_i s ht' hx;split
   .rename_i l h hl hh;split
    .rename_i hb;refine qF ?_ rfl ?_ rfl
     .cases lo with
      |none=>cases hi with
       |none=>simp[Op.operands,kG hx rfl]
       |some hi=>simp[Op.operands,kG hx rfl,(uV (P:=P) (c:=.sliceB) hh (aX _)).1]
      |some lo=>cases hi with
       |none=>simp[Op.operands,kG hx rfl,(uV (P:=P) (c:=.sliceB) hl (aX _)).1]
       |some hi=>simp[Op.operands,kG hx rfl,(uV (P:=P) (c:=.sliceB) hh (aX _)).1,(uV (P:=P) (c:=.sliceB) hl (aX _)).1]
     .simp only[execOp,lV hx,Instr.sliceAt,Instr.slice];simp only[cM,yS ht,ep,Instr.sliceBounds,Option.map_none];have e1:∀i,lo=some i->(Instr.sliceBound (lF σ i) h .sliceB).aU P=some l:=λi e=>(by subst e;exact(uV hl hb.1).2);have e2:∀i,hi=some i->(Instr.sliceBound (lF σ i) s.size .sliceAlen).aU P=some h:=λi e=>(by subst e;exact(uV hh hb.2).2);cases lo with
      |none=>
       have:l=0:=(by simpa[iW]using hl.symm);subst this;cases hi with
       |none=>
        have:h=s.size:=(by simpa[iW]using hh.symm);subst this;simp[cM,Sem.aU,pure]
       |some hi=>simp[cM,Sem.aU,pure,e2 hi rfl]
      |some lo=>cases hi with
       |none=>
        have:h=s.size:=by simpa[iW]using hh.symm
        subst this
        simp[cM,Sem.aU,pure,e1 lo rfl]
       |some hi=>simp[cM,Sem.aU,pure,e1 lo rfl,e2 hi rfl]
    .rfl
   .rfl
  .rfl
  .rename_i hno hne;exact(hno ht).elim
 .rename_i hne;split
  .rename_i z _;exact absurd z hne
  .rename_i z _;exact absurd z hne
  .rfl
def wm(P:Program)(σ:St)(o:Oper)(mx:Bool)(x y:Operand):Option (Value×St):=match aN σ x,aN σ y with
 |some (.int k a),some (.int _ b)=>some (.int k (if mx then(if a<b then b else a)else(if b<a then b else a)),σ)
 |_,_=>dq P σ o
def alU(d:Option Nat)(x y:Operand)(ts:Array TypeId)(ty:TypeId)(pos:String)(aft:Array Edge)(g:Option (Nat×Bool)):
  cU P loc σ ⟨d,.call ⟨.builtin .min,#[x,y],ts⟩,ty,pos,aft,g⟩=wm P σ ⟨d,.call ⟨.builtin .min,#[x,y],ts⟩,ty,pos,aft,g⟩ false x y:=by
 show dq P σ _=_;unfold wm;split
 .rename_i k a k' b hx hy;refine qF (by simp[Op.operands,Call.operands,kG hx rfl,kG hy rfl]) rfl ?_ rfl;simp[execOp,resolve,invoke,builtin,lV hx,lV hy,Builtin.min_,Builtin.min2,cM,Sem.aU,pure]
 .rfl
def alT(d:Option Nat)(x y:Operand)(ts:Array TypeId)(ty:TypeId)(pos:String)(aft:Array Edge)(g:Option (Nat×Bool)):
  cU P loc σ ⟨d,.call ⟨.builtin .max,#[x,y],ts⟩,ty,pos,aft,g⟩=wm P σ ⟨d,.call ⟨.builtin .max,#[x,y],ts⟩,ty,pos,aft,g⟩ true x y:=by
 show dq P σ _=_;unfold wm;split
 .rename_i k a k' b hx hy;refine qF (by simp[Op.operands,Call.operands,kG hx rfl,kG hy rfl]) rfl ?_ rfl;simp[execOp,resolve,invoke,builtin,lV hx,lV hy,Builtin.max_,Builtin.max2,cM,Sem.aU,pure]
 .rfl
end
section
variable {P:Program} {loc:List Nat} {σ:St} {cfg:aw} {ops:Array Oper} {Bd:Nat->Nat->Bool}
variable (d:Option Nat) (ty:TypeId) (pos:String) (aft:Array Edge) (g:Option (Nat×Bool))
def alV(x:Operand):cU P loc σ ⟨d,.move x,ty,pos,aft,g⟩=oH σ x:=rfl
def alu(x:Operand):cU P loc σ ⟨d,.assign x,ty,pos,aft,g⟩=oH σ x:=rfl
def al1(c x y:Operand):cU P loc σ ⟨d,.pick c x y,ty,pos,aft,g⟩=s6 σ c x y:=rfl
def alM(t:TypeId)(x:Operand):cU P loc σ ⟨d,.load t x,ty,pos,aft,g⟩=sY P σ t x:=rfl
def al6(t:TypeId)(x y:Operand):cU P loc σ ⟨d,.store t x y,ty,pos,aft,g⟩=s8 P σ t x y:=rfl
def als(t:TypeId):cU P loc σ ⟨d,.alloc t,ty,pos,aft,g⟩=sQ P loc σ d t:=rfl
def alw(t:TypeId)(x:Operand):cU P loc σ ⟨d,.box t x,ty,pos,aft,g⟩=sR loc σ d t x:=rfl
def alx(t:TypeId)(ps:Array (Nat×Operand)):cU P loc σ ⟨d,.build t ps,ty,pos,aft,g⟩=fX P σ t ps:=rfl
def aly(t:TypeId)(n:Nat)(ps:Array (Nat×Operand)):cU P loc σ ⟨d,.buildSlice t n ps,ty,pos,aft,g⟩=aM P σ t n ps:=rfl
def alG(s:TypeId)(x:Operand)(f:Nat):cU P loc σ ⟨d,.fieldAddr s x f,ty,pos,aft,g⟩=sV P σ s x f:=rfl
def alF(s:TypeId)(x:Operand)(f:Nat):cU P loc σ ⟨d,.field s x f,ty,pos,aft,g⟩=sU P σ s x f:=rfl
def alJ(t:TypeId)(x i:Operand):cU P loc σ ⟨d,.indexAddr t x i,ty,pos,aft,g⟩=sW P σ t x i:=rfl
def alE(x:Operand)(k:Nat):cU P loc σ ⟨d,.extract x k,ty,pos,aft,g⟩=sT σ x k:=rfl
def alP(t:TypeId)(x:Operand):cU P loc σ ⟨d,.makeInterface t x,ty,pos,aft,g⟩=qg P σ t x:=rfl
def alO(fn:Fn)(a b:Array Operand):cU P loc σ ⟨d,.makeFunc fn a b,ty,pos,aft,g⟩=sZ σ fn a b:=rfl
def alY(x:Operand):cU P loc σ ⟨d,.nilCheck x,ty,pos,aft,g⟩=s5 σ x:=rfl
def alR(t:TypeId)(a b:Operand):cU P loc σ ⟨d,.makeSlice t a b,ty,pos,aft,g⟩=oF P σ t a b:=rfl
def al4(t:TypeId)(x:Operand):cU P loc σ ⟨d,.range t x,ty,pos,aft,g⟩=(match nM P σ t x with
  |some r=>some r
  |none=>s7 P σ t x):=rfl
def alD(x:Operand):cU P loc σ ⟨d,.entry x,ty,pos,aft,g⟩=sS σ x:=rfl
def alX(x:Operand):cU P loc σ ⟨d,.next x false,ty,pos,aft,g⟩=none:=rfl
def alW(x:Operand):cU P loc σ ⟨d,.next x true,ty,pos,aft,g⟩=rD σ x:=rfl
def alL(x:Operand)(t:TypeId):cU P loc σ ⟨d,.call ⟨.builtin .len,#[x],#[t]⟩,ty,pos,aft,g⟩=sX P σ t x:=rfl
def step_append(s x:Operand)(t u:TypeId):cU P loc σ ⟨d,.call ⟨.builtin .append,#[s,x],#[t,u]⟩,ty,pos,aft,g⟩=dC P σ t u s x:=rfl
def alz(x:Operand)(t:TypeId):cU P loc σ ⟨d,.call ⟨.builtin .clear,#[x],#[t]⟩,ty,pos,aft,g⟩=pz P σ t x:=rfl
def alB(s x:Operand)(t u:TypeId):cU P loc σ ⟨d,.call ⟨.builtin .copy,#[s,x],#[t,u]⟩,ty,pos,aft,g⟩=pA P σ t s x:=rfl
def XC(f:Operand)(aS:Array Operand)(ts:Array TypeId):dP σ ⟨d,.call ⟨.value f,aS,ts⟩,ty,pos,aft,g⟩=(match aN σ f,aS.toList.mapM (aN σ)with
  |some (.func (.func fid) first cap),some l=>if l.all cn then some (fid,first.toList++l++cap.toList)else none
  |_,_=>none):=rfl
def Xe(b:Builtin)(aS:Array Operand)(ts:Array TypeId):dP σ ⟨d,.call ⟨.builtin b,aS,ts⟩,ty,pos,aft,g⟩=none:=rfl
def Xu(x:Operand):dP σ ⟨d,.move x,ty,pos,aft,g⟩=none:=rfl
def W9(x:Operand):dP σ ⟨d,.assign x,ty,pos,aft,g⟩=none:=rfl
def Xx(c x y:Operand):dP σ ⟨d,.pick c x y,ty,pos,aft,g⟩=none:=rfl
def Xn(t:TypeId)(x:Operand):dP σ ⟨d,.load t x,ty,pos,aft,g⟩=none:=rfl
def XA(t:TypeId)(x y:Operand):dP σ ⟨d,.store t x y,ty,pos,aft,g⟩=none:=rfl
def W8(t:TypeId):dP σ ⟨d,.alloc t,ty,pos,aft,g⟩=none:=rfl
def Xb(t:TypeId)(x:Operand):dP σ ⟨d,.box t x,ty,pos,aft,g⟩=none:=rfl
def Xc(t:TypeId)(ps:Array (Nat×Operand)):dP σ ⟨d,.build t ps,ty,pos,aft,g⟩=none:=rfl
def Xd(t:TypeId)(n:Nat)(ps:Array (Nat×Operand)):dP σ ⟨d,.buildSlice t n ps,ty,pos,aft,g⟩=none:=rfl
def Xj(s:TypeId)(x:Operand)(f:Nat):dP σ ⟨d,.fieldAddr s x f,ty,pos,aft,g⟩=none:=rfl
def Xi(s:TypeId)(x:Operand)(f:Nat):dP σ ⟨d,.field s x f,ty,pos,aft,g⟩=none:=rfl
def Xl(t:TypeId)(x i:Operand):dP σ ⟨d,.indexAddr t x i,ty,pos,aft,g⟩=none:=rfl
def Xk(t:TypeId)(x i:Operand):dP σ ⟨d,.index t x i,ty,pos,aft,g⟩=none:=rfl
def Xh(x:Operand)(k:Nat):dP σ ⟨d,.extract x k,ty,pos,aft,g⟩=none:=rfl
def Xq(t:TypeId)(x:Operand):dP σ ⟨d,.makeInterface t x,ty,pos,aft,g⟩=none:=rfl
def Xp(fn:Fn)(a b:Array Operand):dP σ ⟨d,.makeFunc fn a b,ty,pos,aft,g⟩=none:=rfl
def Xw(x:Operand):dP σ ⟨d,.nilCheck x,ty,pos,aft,g⟩=none:=rfl
def Xs(t:TypeId)(a b:Operand):dP σ ⟨d,.makeSlice t a b,ty,pos,aft,g⟩=none:=rfl
def Xy(t:TypeId)(x:Operand):dP σ ⟨d,.range t x,ty,pos,aft,g⟩=none:=rfl
def Xg(x:Operand):dP σ ⟨d,.entry x,ty,pos,aft,g⟩=none:=rfl
def Xv(x:Operand)(b:Bool):dP σ ⟨d,.next x b,ty,pos,aft,g⟩=none:=rfl
def Xa(op:BinOp)(s t:TypeId)(x y:Operand):dP σ ⟨d,.binOp op s x y t,ty,pos,aft,g⟩=none:=rfl
def XB(op:UnOp)(t:TypeId)(x:Operand):dP σ ⟨d,.unOp op t x,ty,pos,aft,g⟩=none:=rfl
def Xf(s t:TypeId)(x:Operand):dP σ ⟨d,.convert s t x,ty,pos,aft,g⟩=none:=rfl
def Xz(t:TypeId)(x:Operand)(a b c:Option Operand):dP σ ⟨d,.slice t x a b c,ty,pos,aft,g⟩=none:=rfl
def aoh(T:Fr)(dd:Option Nat)(o:Op):fS ops T ⟨dd,o,ty,pos,aft,none⟩=some true:=rfl
def aoi(T:Fr)(dd:Option Nat)(o:Op)(j:Nat)(w:Bool):fS ops T ⟨dd,o,ty,pos,aft,some (j,w)⟩=(match(ops[j]?).bind (·.dst)with
  |some d=>match T.get d with
   |some (.bool b)=>some (b==w)
   |some _=>some false
   |none=>none
  |none=>some false):=rfl
def tq(Q:Ex->St->Prop)(cfg:aw)(id:Nat)(σ:St):Prop:=Q .normal (σ.cut cfg id)
def ajF{Q:Ex->St->Prop}(id:Nat):tq Q cfg id σ=Q .normal (σ.cut cfg id):=rfl
def lE(P:Program)(cfg:aw)(a b:Code)(Q:Ex->St->Prop)(σ:St)(t:Bool):Prop:=if t=true then vc P cfg a Q σ else vc P cfg b Q σ
def Ai{Q:Ex->St->Prop}(a b:Code):lE P cfg a b Q σ true=vc P cfg a Q σ:=rfl
def Iy{Q:Ex->St->Prop}(a b:Code):lE P cfg a b Q σ false=vc P cfg b Q σ:=rfl
def jk{Q:Ex->St->Prop}{a b:Code}{t:Bool}(h1:t=true->lE P cfg a b Q σ true)(h2:t=false->lE P cfg a b Q σ false):lE P cfg a b Q σ t:=by
 cases t
 .exact h2 rfl
 .exact h1 rfl
def cE{n:FuncId}{args:List Value}{h:aa}{v:Value}{Q:Value->aa->Prop}(H:al P n args h (λr h'=>h'=h/\r=v))(k:Q v h):al P n args h Q:=H.mono (λr h' e=>by obtain⟨rfl,rfl⟩:=e;exact k)
def bR{Q:Ex->St->Prop}{a b:Code}{p:Prop}[Decidable p](h1:p->lE P cfg a b Q σ true)(h2:¬p->lE P cfg a b Q σ false):lE P cfg a b Q σ (decide p):=jk (λh=>h1 (of_decide_eq_true h)) (λh=>h2 (of_decide_eq_false h))
def af(P:Program)(loc:List Nat)(ops:Array Oper)(Q:St->Prop)(r:List Oper)(d:Option Nat)(σ:St)(v:Value)(h':aa):Prop:=
 qL σ.m.h v h'->gA P loc ops Q r (St.cF ⟨σ.t,⟨σ.m.x,h'⟩⟩ d v)
def W7{Q:St->Prop}{r:List Oper}{d:Option Nat}{v:Value}{h':aa}:af P loc ops Q r d σ v h'=(qL σ.m.h v h'->gA P loc ops Q r (St.cF ⟨σ.t,⟨σ.m.x,h'⟩⟩ d v)):=rfl
def uE(P:Program)(loc:List Nat)(ops:Array Oper)(Q:St->Prop)(d:Option Nat)(o:Op)(ty:TypeId)(pos:String)(aft:Array Edge)(r:List Oper)(σ:St)(w:Bool):Prop:=
 if w=true then gA P loc ops Q (⟨d,o,ty,pos,aft,none⟩::r) σ else gA P loc ops Q r (σ.cF d undef)
def KG{Q:St->Prop}(d:Option Nat)(o:Op)(ty:TypeId)(pos:String)(aft:Array Edge)(r:List Oper):uE P loc ops Q d o ty pos aft r σ true=gA P loc ops Q (⟨d,o,ty,pos,aft,none⟩::r) σ:=rfl
def KE{Q:St->Prop}(d:Option Nat)(o:Op)(ty:TypeId)(pos:String)(aft:Array Edge)(r:List Oper):uE P loc ops Q d o ty pos aft r σ false=gA P loc ops Q r (σ.cF d undef):=rfl
def AK{Q:St->Prop}{d:Option Nat}{o:Op}{ty:TypeId}{pos:String}{aft:Array Edge}{r:List Oper}{w:Bool}
  (h1:w=true->uE P loc ops Q d o ty pos aft r σ true) (h2:w=false->uE P loc ops Q d o ty pos aft r σ false):uE P loc ops Q d o ty pos aft r σ w:=by
 cases w
 .exact h2 rfl
 .exact h1 rfl
def Sk{Q:Ex->St->Prop}:vc P cfg .skip Q σ=Q .normal σ:=rfl
def aoa{Q:Ex->St->Prop}(id:Nat)(l:List Oper):vc P cfg (.region id l.toArray false) Q σ=gA P cfg.loc l.toArray (tq Q cfg id) l σ:=rfl
def Cw{Q:Ex->St->Prop}(a b:Code):vc P cfg (.seq a b) Q σ=vc P cfg a (rQ (vc P cfg b Q) Q) σ:=rfl
def an7{Q:Ex->St->Prop}(c:Operand)(a b:Code):vc P cfg (.cond c a b) Q σ=(match aN σ c with
  |some (.bool t)=>lE P cfg a b Q σ t
  |_=>False):=rfl
def Sh{Q:Ex->St->Prop}(i:Nat)(b:Code):vc P cfg (.block i b) Q σ=vc P cfg b (oU i Q) σ:=rfl
def an8{Q:Ex->St->Prop}(i:Nat):vc P cfg (.exit i) Q σ=Q (.exit i) σ:=rfl
def aob{Q:Ex->St->Prop}:vc P cfg .ret Q σ=Q .ret σ:=rfl
def RJ{f:St->Prop}{Q:Ex->St->Prop}:rQ f Q .normal σ=f σ:=rfl
def am6{f:St->Prop}{Q:Ex->St->Prop}(i:Nat):rQ f Q (.exit i) σ=Q (.exit i) σ:=rfl
def am7{f:St->Prop}{Q:Ex->St->Prop}:rQ f Q .ret σ=Q .ret σ:=rfl
def Wi{Q:Ex->St->Prop}(i:Nat):oU i Q .normal σ=Q .normal σ:=rfl
def Wh{Q:Ex->St->Prop}(i j:Nat):oU i Q (.exit j) σ=if j=i then Q .normal σ else Q (.exit j) σ:=rfl
def Wj{Q:Ex->St->Prop}(i:Nat):oU i Q .ret σ=Q .ret σ:=rfl
def Y6(rs:List ResultVar)(post:Value->aa->Prop):uq P rs post .ret σ=(match qA P σ rs with
 |some vs=>post (oL vs) σ.m.h
 |none=>False):=rfl
def Y5(rs:List ResultVar)(post:Value->aa->Prop):uq P rs post .normal σ=(match qA P σ rs with
 |some vs=>post (oL vs) σ.m.h
 |none=>False):=rfl
def abP{f:Operand->Option Value}:List.mapM f []=some []:=rfl
def abO{f:Operand->Option Value}(x:Operand)(l:List Operand):List.mapM f (x::l)=match f x,List.mapM f l with|some v,some r=>some (v::r)|_,_=>none:=by
 rw[List.mapM_cons];cases f x with
 |none=>rfl
 |some v=>cases List.mapM f l<;>rfl
def an2{Q:St->Prop}:gA P loc ops Q [] σ=Q σ:=rfl
def PO(P:Program)(loc:List Nat)(ops:Array Oper)(Q:St->Prop)(r:List Oper)(d:Option Nat)(o:Op)(ty:TypeId)(pos:String)(aft:Array Edge)(σ:St):Prop:=
 pk σ ⟨d,o,ty,pos,aft,none⟩ λv σ'=>gA P loc ops Q r (σ'.cF d v)
def an0{Q:St->Prop}(d:Option Nat)(o:Op)(ty:TypeId)(pos:String)(aft:Array Edge)(r:List Oper):gA P loc ops Q (⟨d,o,ty,pos,aft,none⟩::r) σ=(match dP σ ⟨d,o,ty,pos,aft,none⟩with
   |some (f,args)=>al P f args σ.m.h (af P loc ops Q r d σ)
   |none=>match cU P loc σ ⟨d,o,ty,pos,aft,none⟩with
    |some (v,σ')=>gA P loc ops Q r (σ'.cF d v)
    |none=>PO P loc ops Q r d o ty pos aft σ):=rfl
def an1{Q:St->Prop}(d:Option Nat)(o:Op)(ty:TypeId)(pos:String)(aft:Array Edge)(g:Nat×Bool)(r:List Oper):gA P loc ops Q (⟨d,o,ty,pos,aft,some g⟩::r) σ=(match fS ops σ.t ⟨d,o,ty,pos,aft,some g⟩with
  |none=>False
  |some w=>uE P loc ops Q d o ty pos aft r σ w):=by
 rw[gA];cases fS ops σ.t ⟨d,o,ty,pos,aft,some g⟩with
 |none=>rfl
 |some w=>cases w<;>rfl
def jV(dd:Oper):List Oper->Nat->Oper
 |[],_=>dd
 |a::_,0=>a
 |_::l,n+1=>jV dd l n
def abj(dd a:Oper)(l:List Oper):jV dd (a::l) 0=a:=rfl
def O9(dd a:Oper)(l:List Oper)(n:Nat):jV dd (a::l) (n+1)=jV dd l n:=rfl
def abk(dd:Oper)(l:List Oper)(n:Nat):(l.toArray).getD n dd=jV dd l n:=by
 induction l generalizing n with
 |nil=>rfl
 |cons a l ih=>cases n with
  |zero=>rfl
  |succ n=>rw[O9,<-ih];simp[Array.getD_eq_getD_getElem?]
def mf(P:Program)(loc:List Nat)(l:List Oper)(Bd:Nat->Nat->Bool)(Q:St->Prop)(hl:HL)(perm:List Nat)(σ:St):Prop:=
 gM P loc l.toArray Bd Q hl (perm.map λi=>(i,jV default l i)) σ
def aF(P:Program)(loc:List Nat)(l:List Oper)(Bd:Nat->Nat->Bool)(Q:St->Prop)(hl:HL)(i:Nat)(r:List Nat)(d:Option Nat)(σ:St)(v:Value)(h':aa):Prop:=
 qL σ.m.h v h'->nL Bd i hl ⟨σ.m.x,h'⟩/\mf P loc l Bd Q hl r (St.cF ⟨σ.t,⟨σ.m.x,h'⟩⟩ d v)
def W6{l:List Oper}{Q:St->Prop}{hl:HL}{i:Nat}{r:List Nat}{d:Option Nat}{v:Value}{h':aa}:aF P loc l Bd Q hl i r d σ v h'=(qL σ.m.h v h'->nL Bd i hl ⟨σ.m.x,h'⟩/\mf P loc l Bd Q hl r (St.cF ⟨σ.t,⟨σ.m.x,h'⟩⟩ d v)):=rfl
def tJ(P:Program)(loc:List Nat)(l:List Oper)(Bd:Nat->Nat->Bool)(Q:St->Prop)(hl:HL)(i:Nat)(r:List Nat)(d:Option Nat)(o:Op)(ty:TypeId)(pos:String)(aft:Array Edge)(g:Option (Nat×Bool))(σ:St)(w:Bool):Prop:=
 if w=true then(if eO P o then(match cU P loc σ ⟨d,o,ty,pos,aft,g⟩with
    |some (v,_)=>mf P loc l Bd Q (if pS o then(i,gO P loc σ.t ⟨d,o,ty,pos,aft,g⟩,v)::hl else hl) r (σ.cF d v)
    |none=>False)
   else match dP σ ⟨d,o,ty,pos,aft,g⟩with
   |some (f,args)=>al P f args σ.m.h (aF P loc l Bd Q hl i r d σ)
   |none=>match cU P loc σ ⟨d,o,ty,pos,aft,g⟩with
    |some (v,σ')=>nL Bd i hl σ'.m/\mf P loc l Bd Q hl r (σ'.cF d v)
    |none=>False)else mf P loc l Bd Q hl r (σ.cF d undef)
def zr(P:Program)(loc:List Nat)(l:List Oper)(Bd:Nat->Nat->Bool)(Q:St->Prop)(hl:HL)(i:Nat)(r:List Nat)(o:Oper)(σ:St):Prop:=
 match fS l.toArray σ.t o with
  |none=>False
  |some w=>tJ P loc l Bd Q hl i r o.dst o.op o.type o.pos o.after o.guard σ w
def an5{l:List Oper}{Q:St->Prop}{hl:HL}:mf P loc l Bd Q hl [] σ=Q σ:=rfl
def Se{l:List Oper}{Q:St->Prop}{hl:HL}(i:Nat)(r:List Nat):mf P loc l Bd Q hl (i::r) σ=zr P loc l Bd Q hl i r (jV default l i) σ:=by
 rw[mf,fg,gM,zr];generalize jV default l i=o;cases hw:fS l.toArray σ.t o with
 |none=>cases hn:eO P o.op<;>simp[jl,hw]
 |some w=>cases w with
  |false=>cases hn:eO P o.op with
   |true=>simp only[jl,hw,if_true];rfl
   |false=>simp only[fw,if_false];rfl
  |true=>cases hn:eO P o.op with
   |true=>
    simp only[jl,hw,if_true,pK,tJ,hn]
    cases hs:cU P loc σ o with
    |none=>rfl
    |some p=>rfl
   |false=>simp only[fw,if_false,tJ,hn];rfl
section
variable {l:List Oper} {Q:St->Prop} {hl:HL} {i:Nat} {r:List Nat} (d:Option Nat) (o:Op) (ty:TypeId) (pos:String) (aft:Array Edge)
def anZ(g:Option (Nat×Bool)):zr P loc l Bd Q hl i r ⟨d,o,ty,pos,aft,g⟩ σ=(match fS l.toArray σ.t ⟨d,o,ty,pos,aft,g⟩with
  |none=>False
  |some w=>tJ P loc l Bd Q hl i r d o ty pos aft g σ w):=rfl
def Sg(g:Option (Nat×Bool)):tJ P loc l Bd Q hl i r d o ty pos aft g σ true=(if eO P o then(match cU P loc σ ⟨d,o,ty,pos,aft,g⟩with
    |some (v,_)=>mf P loc l Bd Q (if pS o then(i,gO P loc σ.t ⟨d,o,ty,pos,aft,g⟩,v)::hl else hl) r (σ.cF d v)
    |none=>False)
   else match dP σ ⟨d,o,ty,pos,aft,g⟩with
   |some (f,args)=>al P f args σ.m.h (aF P loc l Bd Q hl i r d σ)
   |none=>match cU P loc σ ⟨d,o,ty,pos,aft,g⟩with
    |some (v,σ')=>nL Bd i hl σ'.m/\mf P loc l Bd Q hl r (σ'.cF d v)
    |none=>False):=rfl
def Sf(g:Option (Nat×Bool)):tJ P loc l Bd Q hl i r d o ty pos aft g σ false=mf P loc l Bd Q hl r (σ.cF d undef):=rfl
end
def XN{o:Oper}(h:eO P o.op=true):dP σ o=none:=by
 obtain⟨d,op,ty,pos,aft,g⟩:=o;unfold dP;split
 .rename_i f aS ts e;simp only at e h;subst e;simp[eO]at h
 .rfl
def acu{o:Oper}{K:Value->St->Prop}(h:eO P o.op=true):pk σ o K=False:=by
 unfold pk;split
 .rename_i p hp;rw[(PN hp).1]at h;simp[eO]at h
 .rfl
def an6{l:List Oper}{Q:St->Prop}:∀(perm:List Nat)(hl:HL)(σ:St),perm.all (λi=>eO P (jV default l i).op)=true->mf P loc l Bd Q hl perm σ=gA P loc l.toArray Q (perm.map (jV default l)) σ:=by
 intro perm;induction perm with
 |nil=>intro hl σ _;rfl
 |cons i r ih=>
  intro hl σ h;rw[List.all_cons,bQ]at h;obtain⟨h1,h2⟩:=h;rw[Se,fg,zr,gA];generalize jV default l i=o at h1;cases hw:fS l.toArray σ.t o with
  |none=>rfl
  |some w=>cases w with
   |false=>exact ih _ _ h2
   |true=>
    simp only[tJ,h1,if_true,XN h1]
    cases hs:cU P loc σ o with
    |none=>rw[acu h1]
    |some p=>
     obtain⟨v,σ'⟩:=p
     have:=wV h1 hs
     subst this
     exact ih _ _ h2
def wD(P:Program)(loc:List Nat)(l:List Oper)(Bd:Nat->Nat->Bool)(Q:St->Prop)(pm:List Nat)(σ:St):Prop:=
 if pm.all (λi=>eO P (jV default l i).op)=true then gA P loc l.toArray Q (pm.map (jV default l)) σ else mf P loc l Bd Q [] pm σ
def Qm{l:List Oper}{Q:St->Prop}{pm:List Nat}:wD P loc l Bd Q pm σ=if pm.all (λi=>eO P (jV default l i).op)=true then gA P loc l.toArray Q (pm.map (jV default l)) σ else mf P loc l Bd Q [] pm σ:=rfl
def aiF{l:List Oper}{Q:St->Prop}{pm:List Nat}:wD P loc l Bd Q pm σ=gM P loc l.toArray Bd Q [] (qy l.toArray pm) σ:=by
 have e:qy l.toArray pm=pm.map λi=>(i,jV default l i):=by simp only[qy,abk]
 rw[wD,e];split
 .rename_i h;exact(an6 _ _ _ h).symm
 .rfl
def pQ(P:Program)(loc:List Nat)(l:List Oper)(Bd:Nat->Nat->Bool)(Q:St->Prop)(pms:List (List Nat))(σ:St):Prop:=tX P loc l.toArray Bd Q pms σ
def tY{l:List Oper}{Q:St->Prop}:pQ P loc l Bd Q [] σ=True:=rfl
def iU{l:List Oper}{Q:St->Prop}{pm:List Nat}{r:List (List Nat)}:pQ P loc l Bd Q (pm::r) σ=(wD P loc l Bd Q pm σ/\pQ P loc l Bd Q r σ):=by
 rw[aiF];rfl
def VS{l:List Oper}{Q Q':St->Prop}{pms:List (List Nat)}(hq:∀σ,Q σ->Q' σ)(h:pQ P loc l Bd Q pms σ):pQ P loc l Bd Q' pms σ:=C7 hq _ _ h
def vy{l:List Oper}{Q:Ex->St->Prop}{id:Nat}{pms:List (List Nat)}(M:St->Prop)(h1:pQ P loc l Bd (λσ=>M (σ.cut cfg id)) pms σ)(h2:∀σ',M σ'->Q .normal σ'):pQ P loc l Bd (tq Q cfg id) pms σ:=
 VS (λ_ h=>h2 _ h) h1
def Sj{Q:Ex->St->Prop}(id:Nat)(l:List Oper):vc P cfg (.region id l.toArray true) Q σ=match(cfg.draw id).alts with
  |[]=>wD P cfg.loc l (cfg.draw id).B (tq Q cfg id) (cfg.draw id).perm (qW (mH P l.toArray (cfg.draw id)) σ)
  |a::r=>pQ P cfg.loc l (cfg.draw id).B (tq Q cfg id) ((cfg.draw id).perm::a::r) (qW (mH P l.toArray (cfg.draw id)) σ):=by
 have e:vc P cfg (.region id l.toArray true) Q σ=pQ P cfg.loc l (cfg.draw id).B (tq Q cfg id) ((cfg.draw id).perm::(cfg.draw id).alts) (qW (mH P l.toArray (cfg.draw id)) σ):=rfl;rw[e];cases (cfg.draw id).alts with
 |nil=>rw[iU,tY,and_true]
 |cons a r=>rfl
def ahY{i:Nat}{M:Mem}:nL Bd i [] M=True:=by simp[nL]
def ahX{i j:Nat}{f:Mem->Option Value}{v:Value}{hl:HL}{M:Mem}:nL Bd i ((j,f,v)::hl) M=((Bd i j=false->f M=some v)/\nL Bd i hl M):=by simp[nL]
def ZO{T:Fr}{o:Oper}{M:Mem}:gO P loc T o M=(cU P loc ⟨T,M⟩ o).map (·.1):=rfl
def aiE(i:Nat):aN σ (.tmp i)=σ.t.get i:=rfl
def aiC(v:Value):aN σ (.const v)=if dz v then some v else none:=rfl
def aiD(f:FuncId):aN σ (.func f)=some (.func (.func f) #[] #[]):=rfl
def Tb(l:List UInt8):(⟨⟨l⟩⟩:ByteArray)=B l:=rfl
def jL{x:Int}(h:0<=x/\x<=18446744073709551615):IntKind.wrap .u64 x=x:=by
 have e:IntKind.wrap .u64 x=x % 18446744073709551616:=by simp[IntKind.wrap,IntKind.bits,IntKind.signed]
 rw[e];omega
def RO(x:Int):IntKind.wrap .u64 x=x % 18446744073709551616:=by simp[IntKind.wrap,IntKind.bits,IntKind.signed]
def bB{x:Int}(h: -9223372036854775808<=x/\x<=9223372036854775807):IntKind.wrap .i64 x=x:=by
 have e:IntKind.wrap .i64 x=if(x % 18446744073709551616:Int)≥9223372036854775808 then x % 18446744073709551616-18446744073709551616 else x % 18446744073709551616:=by
  simp[IntKind.wrap,IntKind.bits,IntKind.signed]
 rw[e];split<;>omega
def bO{i:Nat}(h:(i:Int)+1<=9223372036854775807):IntKind.wrap .i64 ((i:Int)+1)=((i+1:Nat):Int):=by rw[bB (by omega)];omega
end
attribute [simp] alV alu al1 alM al6 als alw alx aly alG alF alJ alE alP alO alY alR al4 alD alX alW alL step_append alB alz mF pA
 alv al7 alA alI al5 alU alT qg
 XC Xe Xu W9 Xx Xn XA W8 Xb Xc Xd Xj Xi Xl Xk Xh Xq Xp Xw Xs Xy Xg Xv Xa XB Xf Xz
 aoh aoi abP abO ahY ahX ZO eO pS mH oB bW.B aiE aiC aiD Tb
 ZV ZS get_nil uM abH abJ abK qY eu ZP fI PF ZQ
 xf SY SX SV xe
attribute [simp ↓] Sk aoa Sj Qm Cw an7 Sh an8 aob RJ am6 am7 Wi Wh Wj Y6 Y5 ajF Ai Iy KG KE W7 W6 Sg Sf an2 an0 an1 an5 Se anZ abj O9
attribute [simp] Ai Iy KG KE Sg Sf
attribute [simp] Fr.KA zb ZT abI qW nN qZ yN s5
attribute [simp] xp sA nq Value.cells undef oH s6 sY s8 sQ sR St.newVar sV sU sW sT sZ sX rE iW zX vB mG pn xx xv zk Cv xF AP Ci wm St.cF St.cut qA wN oL uu ajg Wn cn iM dz cB Mem.cells Mem.row? Mem.setRow key nK lx Cq cL Value.oneCell'
end Go.Am
namespace Go.Am
open Go Go.RowKit
def IntsW(w:World)(a:Option Addr)(len cap:Nat)(zs:List Int):Prop:=
 (a=none/\len=0/\cap=0/\zs=[])∨
 ∃x,a=some x/\len<=cap/\zs.length=cap/\(∀i,i<zs.length->w.cell? (x.add i)=some (.int .i64 (zs.getD i 0)))
def rK:aH:=λ_=>none
def h0:aa:=⟨1,0,λ_=>.dead⟩
def h1(zs:List Int):aa:=⟨1,0,λb=>if b=0 then .row false 3 (zs.map (Value.int .i64))else .dead⟩
def aci(P:Program)(w:World)(h:aa)(hg:h.g=0):jw P rK ⟨b8.nil,h⟩ w:=
 ⟨λk pl e=>by simp[rK]at e,λb pl e=>by simp[rK]at e,λk pl wr e cs q=>by simp[rK]at q,λb pl o q=>by simp[rK]at q,
  λk k' pl pl' _ q=>by simp[rK]at q,λi hi=>by rw[show(⟨b8.nil,h⟩:Mem).h.g=0 from hg]at hi;exact absurd hi (by omega)⟩
def add_add(x:Addr)(i:Nat):(x.add i).block=x.block:=by unfold Addr.add;split<;>rfl
end Go.Am
namespace Go.Am
open Go
section
variable {α:Type}
def dt(e:TypeId)(enc:α->List Value)(h:aa)(v:Value)(xs:List α):Prop:=∃ad c,v= .slice ad xs.length c/\(ad=none->c=0)/\
 (xs=[]∨∃b off w cells rest,ad=some ⟨b,off,none⟩/\h.f b= .row w e cells/\cells.drop off=xs.flatMap enc++rest/\off<=cells.length/\b<h.n)
def cO(e:TypeId)(enc:α->List Value)(h0 h:aa)(v:Value)(xs:List α):Prop:=∃ad,v= .slice ad xs.length xs.length/\
 ((ad=none/\xs=[])∨∃b,ad=some ⟨b,0,none⟩/\h.f b= .row true e (xs.flatMap enc)/\h0.n<=b/\b<h.n)
variable {e:TypeId} {enc:α->List Value} {h0 h h':aa} {v:Value} {xs:List α}
def dt.nil:dt e enc h (.slice none 0 0) []:=⟨none,0,rfl,λ_=>rfl,.inl rfl⟩
def dt.shape(H:dt e enc h v xs):∃ad c,v= .slice ad xs.length c:=by obtain⟨ad,c,q,_⟩:=H;exact⟨ad,c,q⟩
def dt.ext(H:dt e enc h v xs)(E:Ext h h'):dt e enc h' v xs:=by
 obtain⟨ad,c,q,n,z⟩:=H;refine⟨ad,c,q,n,?_⟩;rcases z with z|⟨b,off,w,cells,rest,z1,z2,z3,z4,z5⟩
 .exact .inl z
 .exact .inr ⟨b,off,w,cells,rest,z1,by rw[E.f b z5,z2],z3,z4,cV z5 E.n⟩
def cO.sl(H:cO e enc h0 h v xs):dt e enc h v xs:=by
 obtain⟨ad,rfl,z⟩:=H;rcases z with⟨rfl,rfl⟩|⟨b,rfl,z2,z3,z4⟩
 .exact⟨none,_,rfl,λ_=>rfl,.inl rfl⟩
 .exact⟨_,_,rfl,λq=>by simp at q,.inr ⟨b,0,true,_,[],rfl,z2,by simp,by simp,z4⟩⟩
def cO.ext(H:cO e enc h0 h v xs)(E:Ext h h'):cO e enc h0 h' v xs:=by
 obtain⟨ad,q,z⟩:=H;refine⟨ad,q,?_⟩;rcases z with z|⟨b,z1,z2,z3,z4⟩
 .exact .inl z
 .exact .inr ⟨b,z1,by rw[E.f b z4,z2],z3,cV z4 E.n⟩
def cO.nil:cO e enc h0 h (.slice none 0 0) []:=⟨none,rfl,.inl ⟨rfl,rfl⟩⟩
def fr(k:Nat)(hk:∀x,(enc x).length=k)(xs:List α):(xs.flatMap enc).length=xs.length*k:=by
 induction xs with
 |nil=>simp
 |cons t r ih=>rw[ic,bH,ih,hk,eW,Nat.succ_mul];omega
def q7(k:Nat)(hk:∀x,(enc x).length=k)(xs:List α)(i:Nat):(xs.flatMap enc).drop (i*k)=(xs.drop i).flatMap enc:=by
 induction xs generalizing i with
 |nil=>simp
 |cons t r ih=>cases i with
  |zero=>simp
  |succ i=>
   rw[List.drop_succ_cons,<-ih i,ic,List.drop_append]
   rw[List.drop_eq_nil_of_le (by rw[hk,Nat.succ_mul];omega),dJ,hk]
   congr 1
   rw[Nat.succ_mul];omega
def dt.at(k:Nat)(hk:∀x,(enc x).length=k){ad:Option Addr}{n c:Nat}(H:dt e enc h (.slice ad n c) xs){i:Nat}{t:α}(hi:xs[i]? =some t):
  n=xs.length/\∃b off w cells rest,ad=some ⟨b,off,none⟩/\h.f b= .row w e cells/\cells.drop (off+i*k)=enc t++rest/\off+i*k+k<=cells.length/\b<h.n:=by
 obtain⟨ad',c',q,_,z⟩:=H;simp only[Value.slice.injEq]at q;obtain⟨rfl,rfl,rfl⟩:=q;have hlt:i<xs.length:=by rw[cP]at hi;exact hi.1
 refine⟨rfl,?_⟩;rcases z with rfl|⟨b,off,w,cells,rest,z1,z2,z3,z4,z5⟩
 .simp at hlt
 .have hd:xs.drop i=t::xs.drop (i+1):=by
   rw[cP]at hi;obtain⟨h1,h2⟩:=hi;rw[gQ h1,h2]
  have uH:i*k<=xs.length*k:=Nat.mul_le_mul_right k (by omega)
  have e:cells.drop (off+i*k)=enc t++((xs.drop (i+1)).flatMap enc++rest):=by
   rw[<-eh,z3,List.drop_append,q7 k hk,hd,ic,fr k hk,eG];rw[show i*k-xs.length*k=0 by omega];rfl
  refine⟨b,off,w,cells,_,z1,z2,e,?_,z5⟩
  have hl:=congrArg List.length e
  rw[eX,bH,hk]at hl
  rcases Nat.eq_zero_or_pos k with rfl|hk0
  .simp;omega
  .omega
end
section
variable {P:Program} {loc:List Nat} {ops:Array Oper} {cfg:aw}
def zt(c:Code)(Q Q':Ex->St->Prop)(hq:∀e σ,Q e σ->Q' e σ)(σ:St)(h:vc P cfg c Q σ):vc P cfg c Q' σ:=Sl c hq σ h
def yG(M:St->Prop):Ex->St->Prop
 | .normal,σ=>M σ
 |_,_=>False
def acK{M:St->Prop}{σ:St}:yG M .normal σ=M σ:=rfl
def Ix{a b:Code}{Q Q':Ex->St->Prop}{σ:St}{t:Bool}(hq:∀e σ,Q e σ->Q' e σ)(h:lE P cfg a b Q σ t):lE P cfg a b Q' σ t:=by
 cases t with
 |true=>exact zt a _ _ hq _ h
 |false=>exact zt b _ _ hq _ h
def xE{a b r:Code}{Q:Ex->St->Prop}{σ:St}{t:Bool}(M:St->Prop)(h1:lE P cfg a b (yG M) σ t)(h2:∀σ',M σ'->vc P cfg r Q σ'):lE P cfg a b (rQ (vc P cfg r Q) Q) σ t:=by
 refine Ix (λe σ' h=>?_) h1;cases e with
 |normal=>exact h2 _ h
 |exit j=>exact h.elim
 |ret=>exact h.elim
def Ah{a b r:Code}{Q:Ex->St->Prop}{σ:St}{t:Bool}{i:Nat}(M:St->Prop)(h1:lE P cfg a b (oU i (yG M)) σ t)(h2:∀σ',M σ'->vc P cfg r Q σ'):lE P cfg a b (oU i (rQ (vc P cfg r Q) Q)) σ t:=by
 refine Ix (λe σ' h=>?_) h1;cases e with
 |normal=>exact h2 _ h
 |exit j=>
  simp only[oU]at h ⊢;split at h
  .rename_i e;rw[if_pos e];exact h2 _ h
  .exact h.elim
 |ret=>exact h.elim
def uF:Nat->Code->Code
 |n+1,.seq a b=>.seq a (uF n b)
 |_,_=>.skip
def vh:Nat->Code->Code
 |n+1,.seq a b=>vh n b
 |_,c=>c
def sF(n:Nat)(a b:Code):uF (n+1) (.seq a b)= .seq a (uF n b):=rfl
def sE(c:Code):uF 0 c= .skip:=rfl
def tF(n:Nat)(a b:Code):vh (n+1) (.seq a b)=vh n b:=rfl
def qG(c:Code):vh 0 c=c:=by cases c<;>rfl
def Si(n:Nat)(M:St->Prop):∀{c:Code}{Q:Ex->St->Prop}{σ:St},vc P cfg (uF n c) (yG M) σ->(∀σ',M σ'->vc P cfg (vh n c) Q σ')->vc P cfg c Q σ:=by
 induction n with
 |zero=>intro c Q σ h1 h2;have:=h2 σ h1;rw[qG]at this;exact this
 |succ n ih=>
  intro c Q σ h1 h2;cases c with
  |seq a b=>
   refine zt a _ _ (λe σ' h=>?_) σ h1;cases e with
   |normal=>exact ih h h2
   |exit j=>exact h.elim
   |ret=>exact h.elim
  |_=>exact h2 σ h1
attribute [simp ↓] acK
end
end Go.Am
namespace Go.Proofs.Ybk
open Go Go.Am
noncomputable def PP:Program:=Tryz.prog
def mix:PP.follows .mixedOrders=true:=by kernel_rfl
noncomputable def okB(c:aw)(f:Func):Bool:=l6 PP c f
def aC{n:FuncId}{f:Func}{cfg:aw}{args:List Value}{h:aa}{post:Value->aa->Prop}(hf:Tryz.prog.funcs[n]? =some f)(hok:okB cfg f=true)
  (hvc:vc PP cfg (aA f) (uq PP f.results.toList post) ⟨uu args,⟨b8.nil,h⟩⟩) (hn:Nat.ble args.length f.ntmps=true:=by rfl):al PP n args h post:=UW mix hf hok hvc hn
@[simp] def aT(_:Nat):bW:=⟨[],[],[],[]⟩
def N8(i:Nat):List Nat:=kp [[0,1],[0,1,13],[4],[0,1,5,6,7],[0,1,5,6,7,27],[4],[0,1,5,6,7,8],[0,1,5,6,7,8,31],[0,1,5,6,7,8],[0,1,5,6,7,8,9,10],[0,1,5,6,7,8,71],[4],[4]] i
def GW:aw:=⟨[9],N8,aT⟩
def ahj:okB GW Tryz.f4=true:=by kernel_rfl
def Oi(i:Nat):List Nat:=kp [[0,1],[0,1,13],[4],[0,1,5,6],[0,1,5,6,22],[4],[0,1,5,6,7],[0,1,5,6,7,26],[0,1,5,6,7],[0,1,5,6,7,8],[0,1,5,6,7,8,9,10],[0,1,5,6,7,8,9,10,49],[0,1,5,6,7],[0,1,5,6,7,71],[4],[0,1,5,6,7,75],[4],[4]] i
def Hh:aw:=⟨[8,9],Oi,aT⟩
def aht:okB Hh Tryz.f6=true:=by kernel_rfl
def OL(i:Nat):List Nat:=kp [[0,1],[0,1,20],[4],[0,1,5],[0,1,5,24],[4],[0,1,5,6],[0,1,5,6,7],[0,1,5,6,7,28],[0,1,5,6,7],[0,1,5,6,7,8],[0,1,5,6,7,8,44],[0,1,5,6,7],[0,1,5,6,7,9],[0,1,5,6,7,9,10,11],[0,1,5,6,7,9,10,11,12],[0,1,5,6,7,9,10,11,12,13],[0,1,5,6,7,9,10,11,12,13,14],[0,1,5,6,7,9,10,11,12,13,14,15],[0,1,5,6,7,9,10,11,12,13,14,15,58],[0,1,5,6,7,9,10,11,12,13,14,15],[0,1,5,6,7,9,10,11,12,13,14,15],[0,1,5,6,7,9,10,11,12,13,14,15,16],[0,1,5,6,7,9,10,11,12,13,14,15,16,95],[0,1,5,6,7,9,10,11,12,13,14,15,16],[0,1,5,6,7,9,10,11,12,13,14,15,16,121],[4],[0,1,5,6,7,9,10,11,12,13,14,15],[0,1,5,6,7,9,150],[4],[0,1,5,6,7,9,17],[0,1,5,6,7,9,17,154],[0,1,5,6,7,9,17],[0,1,5,6,7,9,17,172],[4],[4]] i
def JI(i:Nat):bW:=if i=21 then⟨[],[0,1,2,3,4,5,8,9,10,11,12,13,6,7,14,15,16,17],[(0,[]),(0,[]),(0,[]),(0,[1,2]),(0,[1,2,3]),(0,[1,2,3,4]),(0,[1,2,3,4,5]),(7,[]),(0,[]),(0,[]),(0,[]),(0,[9,10]),(0,[9,10,11]),(0,[9,10,11,12]),(0,[9,10,11,12,13]),(15,[]),(16,[]),(17,[])],[[0,1,2,3,4,5,8,9,10,11,12,13,6,14,7,15,16,17],[0,1,2,3,4,5,8,9,10,11,12,13,14,6,7,15,16,17]]⟩else if i=25 then⟨[],[0,1,2,3,4,5,6,7,8,9,10,11,12,13,14,15],[(0,[]),(1,[]),(2,[]),(3,[]),(4,[]),(5,[]),(6,[]),(7,[]),(5,[]),(5,[]),(5,[8,9]),(5,[8,9,10]),(5,[8,9,10,11]),(5,[8,9,10,11,12]),(14,[]),(15,[])],[]⟩else if i=33 then⟨[],[0,1,2,3,4,5,6,7,8,9,10,11,12,13,14,15],[(0,[]),(0,[]),(2,[]),(3,[]),(4,[]),(5,[]),(6,[]),(7,[]),(7,[]),(9,[]),(10,[]),(11,[]),(7,[]),(7,[12]),(14,[]),(15,[])],[]⟩else⟨[],[],[],[]⟩
def HJ:aw:=⟨[8,10],OL,JI⟩
def ahL:okB HJ Tryz.f8=true:=by kernel_rfl
def KZ(i:Nat):List Nat:=kp [[0,1],[0,1,5],[0,1,5,9],[0,1,5],[0,1,5,18],[4],[4]] i
def DC:aw:=⟨[],KZ,aT⟩
def aeF:okB DC Tryz.f10=true:=by kernel_rfl
def Lk(i:Nat):List Nat:=kp [[],[1],[1,33],[0],[1,2,3],[1,2,3,4,5],[1,2,3,4,5,6],[1,2,3,4,5,6,8,9],[1,2,3,4,5,6,8,9,10],[1,2,3,4,5,6,8,9,10,12],[1,2,3,4,5,6,8,9,10,12,14],[1,2,3,4,5,6,8,9,10,12,14,16],[1,2,3,4,5,6,8,9,10,12,14,16,18],[1,2,3,4,5,6,8,9,10,12,14,16,18,20],[1,2,3,4,5,6,8,9,10,12,14,16,18,20,22],[1,2,3,4,5,6,8,9,10,12,14,16,18,20,22,24],[1,2,3,4,5,6,8,9,10,12,14,16,18,20,22,24,26],[1,2,3,4,5,6,8,9,10,12,14,16,18,20,22,24,26,111],[0],[1,2,3,4,5,6,8,9,10,12,14,16,18,20,22,24,26,27],[1,2,3,4,5,6,8,9,10,12,14,16,18,20,22,24,26,27,28],[1,2,3,4,5,6,8,9,10,12,14,16,18,20,22,24,26,27,29],[0]] i
def DL:aw:=⟨[2,4,6,8,10,12,14,16,18,20,22,24,29],Lk,aT⟩
def aeO:okB DL Tryz.f11=true:=by kernel_rfl
def Lx(i:Nat):List Nat:=kp [[0],[0,8],[2],[2]] i
def DW:aw:=⟨[],Lx,aT⟩
def P4:okB DW Tryz.f12=true:=by kernel_rfl
def LF(i:Nat):List Nat:=kp [[1,2,3,6],[1,2,3,6,9],[6],[2,3,6,15],[6],[2,3,6,7],[2,3,6,7,25],[3,6,7],[3,6],[3,6],[3,6],[3,6,56],[3,6],[6]] i
def Ed:aw:=⟨[3,6],LF,aT⟩
def aff:okB Ed Tryz.f13=true:=by kernel_rfl
def LJ(i:Nat):List Nat:=kp [[0],[0,4],[2],[2]] i
def Ej:aw:=⟨[],LJ,aT⟩
def afj:okB Ej Tryz.f14=true:=by kernel_rfl
def LS(i:Nat):List Nat:=kp [[0,3,4],[0,3,4,9],[4,5],[0,3,4,6],[0,3,4,6,7],[0,3,4,6,7,18],[4,5],[4,5]] i
def IU(i:Nat):bW:=if i=7 then⟨[],[0,1,2,3,4,5,6],[(0,[]),(0,[]),(0,[]),(0,[]),(0,[1,2,3]),(5,[]),(6,[])],[]⟩else⟨[],[],[],[]⟩
def Eu:aw:=⟨[3,4,7],LS,IU⟩
def P5:okB Eu Tryz.f15=true:=by kernel_rfl
def L9(i:Nat):List Nat:=kp [[0],[2]] i
def EP:aw:=⟨[],L9,aT⟩
def afC:okB EP Tryz.f16=true:=by kernel_rfl
def Mk(i:Nat):List Nat:=kp [[0,1],[0,1,10],[4],[0,1,5],[0,1,5,23],[4],[0,1,5,6],[0,6,28,29,30],[0,6,28,29,30,31],[0,6,8,28,29,30],[0,6,28,29,30,37],[4],[0,6,28,29,30],[0,6,41],[4],[],[4]] i
def Fc:aw:=⟨[8],Mk,aT⟩
def afM:okB Fc Tryz.f17=true:=by kernel_rfl
def Mt(i:Nat):List Nat:=kp [[0,1],[4]] i
def I5(i:Nat):bW:=if i=1 then⟨[],[0,1,2,3,4,5,6,7,8,9,10,11,12,13,14,15,16,17,18,19,20,21,22,23,24,25,26,27,28,29,30,31,32,33,34,35,36,37,38,39,40,41,42,43,44,45,46,47,48,49,50],[(0,[]),(1,[]),(2,[]),(3,[]),(4,[]),(5,[]),(6,[]),(7,[]),(8,[]),(9,[]),(10,[]),(7,[]),(7,[11]),(7,[11,12]),(7,[11,12,13]),(15,[]),(16,[]),(17,[]),(18,[]),(19,[]),(20,[]),(21,[]),(18,[]),(18,[22]),(18,[22,23]),(18,[22,23,24]),(26,[]),(27,[]),(28,[]),(29,[]),(30,[]),(31,[]),(32,[]),(29,[]),(29,[33]),(29,[33,34]),(29,[33,34,35]),(37,[]),(38,[]),(39,[]),(40,[]),(41,[]),(42,[]),(43,[]),(40,[]),(40,[44]),(40,[44,45]),(40,[44,45,46]),(48,[]),(49,[]),(50,[])],[]⟩else⟨[],[],[],[]⟩
def Fl:aw:=⟨[],Mt,I5⟩
def P7:okB Fl Tryz.f18=true:=by kernel_rfl
def MA(i:Nat):List Nat:=kp [[0],[0,9],[2],[0,3],[0,3,13],[0,3,4],[0,3],[0,3],[3,38,39,40],[3,38,39,40,41],[3,7,38,39,40],[3,38,39,40],[3,38,39,40],[2]] i
def Ft:aw:=⟨[7],MA,aT⟩
def afY:okB Ft Tryz.f19=true:=by kernel_rfl
def MI(i:Nat):List Nat:=kp [[0,1],[0,1,10],[4],[0,1,5],[0,1,5,14],[0,1,5],[0,1,5,25],[4],[4]] i
def Ja(i:Nat):bW:=if i=6 then⟨[],[0,1,2,3,4,5,6,7,8],[(0,[]),(0,[]),(2,[]),(3,[]),(0,[]),(0,[]),(0,[4,5]),(0,[4,5,6]),(8,[])],[]⟩else⟨[],[],[],[]⟩
def Fz:aw:=⟨[],MI,Ja⟩
def af4:okB Fz Tryz.f20=true:=by kernel_rfl
def MR(i:Nat):List Nat:=kp [[0],[3],[2]] i
def FJ:aw:=⟨[],MR,aT⟩
def agd:okB FJ Tryz.f21=true:=by kernel_rfl
def M6(i:Nat):List Nat:=kp [[0],[0,4],[2],[2]] i
def FW:aw:=⟨[],M6,aT⟩
def ago:okB FW Tryz.f22=true:=by kernel_rfl
def NJ(i:Nat):List Nat:=kp [[0,2],[0,2,13],[2,3],[2,4],[2,4],[2,3]] i
def Jr(i:Nat):bW:=if i=4 then⟨[],[0,1,3,4,6,7,2,9,5,8,10,11,12,13,14],[(0,[]),(1,[]),(2,[]),(0,[]),(0,[3]),(5,[]),(0,[]),(0,[6]),(8,[]),(5,[6,7]),(10,[]),(11,[]),(12,[]),(13,[]),(14,[])],[]⟩else⟨[],[],[],[]⟩
def GA:aw:=⟨[2,4],NJ,Jr⟩
def agV:okB GA Tryz.f29=true:=by kernel_rfl
def NR(i:Nat):List Nat:=kp [[0,1],[0,1,5],[0,1,5,9],[0,1,5],[0,1,5,16],[4],[4]] i
def GJ:aw:=⟨[],NR,aT⟩
def ag6:okB GJ Tryz.f30=true:=by kernel_rfl
def NS(i:Nat):List Nat:=kp [[1,2,3,4],[8]] i
def GK:aw:=⟨[4],NS,aT⟩
def ag7:okB GK Tryz.f31=true:=by kernel_rfl
def NW(i:Nat):List Nat:=kp [[0,1],[0,1,10],[4],[0,1,5],[0,1,5,14],[0,1,5],[0,1,5,25],[4],[4]] i
def Jv(i:Nat):bW:=if i=6 then⟨[],[0,1,2,3,4,5,6,7,8],[(0,[]),(0,[]),(2,[]),(3,[]),(0,[]),(0,[]),(0,[4,5]),(0,[4,5,6]),(8,[])],[]⟩else⟨[],[],[],[]⟩
def GO:aw:=⟨[],NW,Jv⟩
def ahc:okB GO Tryz.f33=true:=by kernel_rfl
def NY(i:Nat):List Nat:=kp [[0],[0,4],[2],[2]] i
def GP:aw:=⟨[],NY,aT⟩
def ahd:okB GP Tryz.f34=true:=by kernel_rfl
def NZ(i:Nat):List Nat:=kp [[0],[0,5],[2],[0,3],[3],[2]] i
def GQ:aw:=⟨[],NZ,aT⟩
def ahe:okB GQ Tryz.f35=true:=by kernel_rfl
def N0(i:Nat):List Nat:=kp [[0,3,4],[0,3,4,5],[4],[0,3,4,15],[4],[0,3,4,22],[4],[0,3,4,30],[4],[0,3,4,38],[0,3,4,38,39],[4],[0,3,4,38,44],[4],[0,3,4,38,49],[4],[0,3,4,38,55],[4],[0,4,61],[4],[4]] i
def GR:aw:=⟨[3,4],N0,aT⟩
def ahf:okB GR Tryz.f36=true:=by kernel_rfl
def N5(i:Nat):List Nat:=kp [[0,1,5],[0,1,5,7],[0,1,5,7,11],[0,1,5,7,11,12],[0,1,7],[0,1,7,20],[0,1,7],[1,7,33,34,35],[1,7,33,34,35,36],[1,7,8,9,33,34,35],[1,7,9,33,34,35,57],[1,7,33,34,35],[1,7,33,34,35],[7,66],[6],[6]] i
def Jw(i:Nat):bW:=if i=10 then⟨[],[0,1,2,3,4,5,6,7,8,9,10,11,12,13,14,15,16,17],[(0,[]),(0,[]),(0,[1]),(0,[1,2]),(0,[1,2,3]),(0,[1,2,3,4]),(6,[]),(7,[]),(8,[]),(9,[]),(10,[]),(11,[]),(8,[]),(13,[]),(14,[]),(8,[]),(16,[]),(17,[])],[]⟩else⟨[],[],[],[]⟩
def GS:aw:=⟨[5,9],N5,Jw⟩
def ahg:okB GS Tryz.f37=true:=by kernel_rfl
def N6(i:Nat):List Nat:=kp [[0,1],[0,1,5],[0,1,5,12],[4],[0,1,5,6],[0,1,5,6,19],[0,1,5,6],[0,1,5,6,7],[0,1,5,6,7,29],[0,1,5,6],[0,1,5,6],[0,5],[4]] i
def GU:aw:=⟨[7],N6,aT⟩
def ahh:okB GU Tryz.f38=true:=by kernel_rfl
def N7(i:Nat):List Nat:=kp [[1],[2]] i
def GV:aw:=⟨[1],N7,aT⟩
def ahi:okB GV Tryz.f39=true:=by kernel_rfl
def N9(i:Nat):List Nat:=kp [[1],[4],[4,5],[7],[2],[2]] i
def GX:aw:=⟨[1],N9,aT⟩
def ahk:okB GX Tryz.f40=true:=by kernel_rfl
def Oa(i:Nat):List Nat:=kp [[0,3],[0,3,11],[4],[0,3,13],[0,3,13,14],[0,5,6],[6],[4],[0,3,13,31],[0,3,7],[7],[4],[0,3,46],[0,3,8],[0,3,8,51],[0,3,8,60],[4],[0,3,8],[],[4],[4]] i
def Jx(i:Nat):bW:=if i=9 then⟨[],[0,1,2,3,4,5,6,7],[(0,[]),(1,[]),(0,[]),(0,[2]),(0,[2,3]),(0,[2,3,4]),(6,[]),(7,[])],[]⟩else if i=18 then⟨[],[0,1,2,3,4,5,6,7,8,9],[(0,[]),(1,[]),(2,[]),(3,[]),(0,[]),(0,[4]),(0,[]),(0,[6]),(8,[]),(9,[])],[]⟩else⟨[],[],[],[]⟩
def GY:aw:=⟨[3,5],Oa,Jx⟩
def ahl:okB GY Tryz.f41=true:=by kernel_rfl
def Ob(i:Nat):List Nat:=kp [[0],[0,11,12,13],[0,11,12,13,14],[0,4,11,12,13],[0,11,12,13,20],[2],[0,11,12,13],[0,5,6,7],[0,5,6,7,30],[2],[2]] i
def GZ:aw:=⟨[4],Ob,aT⟩
def ahm:okB GZ Tryz.f42=true:=by kernel_rfl
def Oc(i:Nat):List Nat:=kp [[2,3],[4]] i
def G8:aw:=⟨[2,3],Oc,aT⟩
def ahn:okB G8 Tryz.f43=true:=by kernel_rfl
def Od(i:Nat):List Nat:=kp [[0,1],[0,1,10],[4],[0,1,12,13],[0,1,12,13,14],[0,1,5,12,13],[0,1,12,13,24],[4],[0,1,12,13],[4]] i
def Jy(i:Nat):bW:=if i=6 then⟨[],[0,1,2,3,4,5,6,7,8],[(0,[]),(0,[]),(2,[]),(3,[]),(0,[]),(0,[]),(0,[4,5]),(0,[4,5,6]),(8,[])],[]⟩else⟨[],[],[],[]⟩
def G9:aw:=⟨[],Od,Jy⟩
def aho:okB G9 Tryz.f44=true:=by kernel_rfl
def Oe(i:Nat):List Nat:=kp [[1],[1,13],[2,3],[1,4],[1,4,24,25,26],[1,4,24,25,26,27],[1,4,6,24,25,26],[1,4,24,25,26],[1,4,24,25,26],[1,4,37,38,39],[1,4,37,38,39,40],[1,4,8,37,38,39],[1,4,37,38,39],[1,4,37,38,39],[4,62,63,64],[4,62,63,64,65],[4,10,62,63,64],[4,62,63,64],[4,62,63,64],[2,3]] i
def Jz(i:Nat):bW:=if i=3 then⟨[],[0,1,4,5,2,3,6,7,8,9],[(0,[]),(1,[]),(2,[]),(3,[]),(0,[]),(0,[4]),(0,[4,5]),(7,[]),(8,[]),(9,[])],[[0,1,4,5,2,6,3,7,8,9],[0,1,4,5,6,2,3,7,8,9]]⟩else if i=12 then⟨[],[0,1,2,3,4,5,6,7,8,9,10,11,12,13,14,15,16,17],[(0,[]),(0,[]),(0,[1]),(0,[]),(0,[1,2,3]),(0,[1,2,3,4]),(0,[1,2,3,4,5]),(0,[]),(0,[7]),(0,[]),(0,[7,8,9]),(0,[7,8,9,10]),(0,[7,8,9,10,11]),(0,[1,2,3,4,5,6,7,8,9,10,11,12]),(0,[1,2,3,4,5,6,7,8,9,10,11,12,13]),(0,[1,2,3,4,5,6,7,8,9,10,11,12,13,14]),(16,[]),(17,[])],[]⟩else⟨[],[],[],[]⟩
def Hd:aw:=⟨[1,6,10],Oe,Jz⟩
def ahp:okB Hd Tryz.f45=true:=by kernel_rfl
def Of(i:Nat):List Nat:=kp [[1],[1,12],[2,3],[1,4],[1,4,5],[1,4,5,27],[1,4,5],[1,4,5],[1,4,6],[1,4,6,43],[1,4,6],[1,4,6,7],[1,4,6],[1,4,8],[1,4,8,71],[1,4,8],[1,4,8,9],[1,4,8],[2,3]] i
def JA(i:Nat):bW:=if i=3 then⟨[],[0,1,5,6,2,3,4,7,8,9,10],[(0,[]),(1,[]),(2,[]),(3,[]),(4,[]),(0,[]),(0,[5]),(3,[5,6]),(8,[]),(9,[]),(10,[])],[]⟩else if i=11 then⟨[9],[0,1,2,3,4,5,6,7,8,10],[(0,[]),(1,[]),(0,[]),(0,[2]),(0,[]),(0,[2,3,4]),(0,[2,3,4,5]),(7,[]),(8,[]),(0,[]),(10,[])],[]⟩else if i=12 then⟨[],[0,1,2,3,7,8,4,5,6,9,10,11,12],[(0,[]),(1,[]),(0,[]),(0,[2]),(0,[2,3]),(5,[]),(6,[]),(0,[]),(0,[7]),(0,[2,3,4,7,8]),(10,[]),(11,[]),(12,[])],[]⟩else if i=17 then⟨[],[0,1,2,3,7,8,12,13,4,5,6,9,10,11,14,15,16,17],[(0,[]),(1,[]),(0,[]),(0,[2]),(0,[2,3]),(5,[]),(6,[]),(0,[]),(0,[7]),(0,[2,3,4,7,8]),(10,[]),(11,[]),(0,[]),(0,[12]),(0,[2,3,4,7,8,9,12,13]),(15,[]),(16,[]),(17,[])],[]⟩else⟨[],[],[],[]⟩
def He:aw:=⟨[1,7,9],Of,JA⟩
def ahq:okB He Tryz.f46=true:=by kernel_rfl
def Og(i:Nat):List Nat:=kp [[0,1,4],[0,1,4,5],[0,1,4,5,6,7],[0,1,4,5,6,7,8],[0,1,4,5,6,7,8,24],[0,1,4,5,6,7,8],[0,1,4,5,6,7,8,9],[0,1,4,5,6,7,8,9],[0,1,4,5,6,7,8,9,35],[0,1,4,5,6,7,8,9,35,36],[0,1,4,5,6,7,8,9],[0,1,4,5,6,7,8,9,40],[0,1,4,5,6,7,8,9],[0,1,4,5,6,7,8,9,10],[0,1,4,5,6,7,8,9,10,51],[0,1,4,5,6,7,8,9,10,51,52],[0,1,4,5,6,7,8,9,10],[0,1,4,5,6,7,8,9,10,51,55],[0,1,4,5,6,7,8,9,10,55],[0,1,4,5,6,7,8,9,10],[0,1,4,5,6,7,8,9],[0,1,4,5,6,7,8,9,68],[0,1,4,5,6,7,8,9],[0,1,4,5,6,7,8,9,81],[0,1,4,5,6,7,8,9],[0,1,4,5,6,7,8,9,99],[0,1,4,5,6,7,8],[4]] i
def Hf:aw:=⟨[4,5,10],Og,aT⟩
def ahr:okB Hf Tryz.f47=true:=by kernel_rfl
def Oh(i:Nat):List Nat:=kp [[0],[0,4],[2],[2]] i
def Hg:aw:=⟨[],Oh,aT⟩
def ahs:okB Hg Tryz.f59=true:=by kernel_rfl
def Oj(i:Nat):List Nat:=kp [[0],[0,4],[2],[2]] i
def Hi:aw:=⟨[],Oj,aT⟩
def ahu:okB Hi Tryz.f60=true:=by kernel_rfl
def Ol(i:Nat):List Nat:=kp [[0],[0,4],[2],[2]] i
def Hj:aw:=⟨[],Ol,aT⟩
def ahv:okB Hj Tryz.f61=true:=by kernel_rfl
def On(i:Nat):List Nat:=kp [[1,2,3,4],[1,2,3,9],[1,2,3,9,27],[8],[8]] i
def Hk:aw:=⟨[4],On,aT⟩
def ahw:okB Hk Tryz.f62=true:=by kernel_rfl
def Oo(i:Nat):List Nat:=kp [[0,3,4],[0,3,4,10],[4],[0,3,4,5,6],[0,3,4,5,6,19],[4],[0,4],[0,4],[4]] i
def Hm:aw:=⟨[3,4,6],Oo,aT⟩
def ahx:okB Hm Tryz.f66=true:=by kernel_rfl
def Oq(i:Nat):List Nat:=kp [[0,1,4],[0,1,4,22],[4],[0,4],[0,4,5],[0,4,5,35,36,37],[0,4,5,35,36,37,38],[0,4,5,6,7,35,36,37],[0,4,5,6,35,36,37,53],[0,4,5,35,36,37],[0,4,5,35,36,37],[0,4,5,35,36,37],[4]] i
def JB(i:Nat):bW:=if i=8 then⟨[],[0,1,2,3,4,5,6,7,8,9,10,11],[(0,[]),(1,[]),(2,[]),(3,[]),(4,[]),(5,[]),(4,[]),(4,[6]),(4,[6,7]),(4,[6,7,8]),(10,[]),(11,[])],[]⟩else⟨[],[],[],[]⟩
def Hn:aw:=⟨[4,7],Oq,JB⟩
def ahy:okB Hn Tryz.f67=true:=by kernel_rfl
def Ot(i:Nat):List Nat:=kp [[0,3,4],[0,3,4,31],[4],[0,3,4,5,6],[0,3,4,5,6,41],[4],[0,4,5,7],[0,4,5,7],[0,4,7],[4]] i
def JC(i:Nat):bW:=if i=1 then⟨[],[0,1,2,3,4,5,6,7,8,9,10,11,12,13,14,15,16,17,18,19,20,21,22,23],[(0,[]),(1,[]),(2,[]),(3,[]),(4,[]),(5,[]),(6,[]),(7,[]),(8,[]),(9,[]),(10,[]),(11,[]),(12,[]),(13,[]),(14,[]),(15,[]),(16,[]),(17,[]),(18,[]),(15,[]),(15,[19]),(21,[]),(22,[]),(23,[])],[]⟩else if i=6 then⟨[22],[0,1,2,3,4,5,6,7,8,9,10,11,12,13,14,15,16,17,18,19,20,21,23],[(0,[]),(1,[]),(2,[]),(3,[]),(4,[]),(5,[]),(0,[]),(0,[6]),(0,[]),(0,[8]),(0,[8,9]),(0,[8,9,10]),(0,[]),(0,[12]),(0,[8,9,10,11,12,13]),(0,[]),(0,[]),(0,[16]),(0,[16,17]),(0,[15,16,17,18]),(0,[15,16,17,18,19]),(21,[]),(0,[]),(23,[])],[]⟩else if i=7 then⟨[],[0,1,2,3,4,5,6,7,8,9,10],[(0,[]),(0,[]),(0,[1]),(0,[1,2]),(0,[1,2,3]),(0,[]),(0,[5]),(0,[1,2,3,4,5,6]),(8,[]),(9,[]),(10,[])],[]⟩else if i=9 then⟨[],[0,1,2,3,4,5,6],[(0,[]),(1,[]),(0,[]),(0,[]),(0,[2,3]),(5,[]),(6,[])],[]⟩else⟨[],[],[],[]⟩
def Ho:aw:=⟨[3,4,7],Ot,JC⟩
def ahz:okB Ho Tryz.f68=true:=by kernel_rfl
def Ou(i:Nat):List Nat:=kp [[0,3,4],[0,3,4,10],[4],[0,3,4,5,6],[0,3,4,5,6,20],[4],[4]] i
def JD(i:Nat):bW:=if i=6 then⟨[],[0,1,2,3,4,5,6,7,8,9,10,11,12],[(0,[]),(0,[]),(0,[1]),(0,[]),(0,[]),(0,[4]),(0,[4,5]),(0,[3,4,5,6]),(0,[3,4,5,6,7]),(0,[1,2,3,4,5,6,7,8]),(10,[]),(11,[]),(12,[])],[]⟩else⟨[],[],[],[]⟩
def Hr:aw:=⟨[3,4],Ou,JD⟩
def ahA:okB Hr Tryz.f69=true:=by kernel_rfl
def Ov(i:Nat):List Nat:=kp [[0,1,4],[0,4,5,6],[0,4,5,6,13],[4],[0,4,5,18],[4],[0,4,5],[4]] i
def Ht:aw:=⟨[4],Ov,aT⟩
def ahB:okB Ht Tryz.f70=true:=by kernel_rfl
def Ox(i:Nat):List Nat:=kp [[0,1,4],[4,5,6],[4,5,6,13],[4],[4,5,18],[4],[4],[4]] i
def Hv:aw:=⟨[4],Ox,aT⟩
def ahC:okB Hv Tryz.f71=true:=by kernel_rfl
def Oy(i:Nat):List Nat:=kp [[0,2],[0,2,3,4,5],[0,2,4,6,7],[0,2,4,6,7,29],[2],[0,2,4,6,34],[2],[2,4,6],[2]] i
def JE(i:Nat):bW:=if i=2 then⟨[15],[0,1,2,3,4,5,6,7,8,9,10,11,12,13,14,16,17],[(0,[]),(1,[]),(2,[]),(3,[]),(0,[]),(0,[]),(0,[]),(0,[]),(0,[7]),(0,[7,8]),(0,[7,8,9]),(11,[]),(12,[]),(13,[]),(13,[]),(0,[]),(14,[15]),(17,[])],[]⟩else⟨[],[],[],[]⟩
def Hw:aw:=⟨[2,6],Oy,JE⟩
def ahD:okB Hw Tryz.f72=true:=by kernel_rfl
def Oz(i:Nat):List Nat:=kp [[0,2],[0,2,3],[0,2,3,21,22,23],[0,2,3,21,22,23,24],[0,2,3,5,21,22,23],[0,2,3,21,22,23],[0,2,3,21,22,23],[0,2,3,32,33,34],[0,2,3,32,33,34,35],[0,2,3,7,32,33,34],[0,2,3,7,32,33,34,40,41,42],[0,2,3,7,32,33,34,40,41,42,43],[0,2,3,7,9,32,33,34,40,41,42],[0,2,3,7,32,33,34,40,41,42],[0,2,3,7,32,33,34,40,41,42],[0,2,3,32,33,34],[2]] i
def Hx:aw:=⟨[2,7],Oz,aT⟩
def ahE:okB Hx Tryz.f73=true:=by kernel_rfl
def OC(i:Nat):List Nat:=kp [[0,1],[0,1,7,8],[0,1,7,8,9],[0,1,5,7,8],[0,1,5,7,8,16],[4],[0,1,7,8],[4]] i
def Hy:aw:=⟨[],OC,aT⟩
def ahF:okB Hy Tryz.f74=true:=by kernel_rfl
def OF(i:Nat):List Nat:=kp [[1],[1,3],[1,3,4],[1,3,4,9],[2],[1,3,4,9,10],[1,3,4],[1,3,4,9,19],[1,3,4],[1,3,4,9,27],[1,3,4],[1,3,4,35],[2]] i
def JF(i:Nat):bW:=if i=6 then⟨[],[0,1,2,3,4,5,6,7,8],[(0,[]),(1,[]),(0,[]),(0,[2]),(0,[2,3]),(0,[2,3,4]),(2,[]),(2,[6]),(8,[])],[]⟩else if i=8 then⟨[],[0,1,2,3,5,4,6,7],[(0,[]),(1,[]),(0,[]),(0,[2]),(0,[2,3]),(2,[]),(6,[]),(7,[])],[]⟩else if i=10 then⟨[],[0,1,2,3,5,4,6,7],[(0,[]),(1,[]),(0,[]),(0,[2]),(0,[2,3]),(2,[]),(6,[]),(7,[])],[]⟩else⟨[],[],[],[]⟩
def Hz:aw:=⟨[1,3],OF,JF⟩
def ahG:okB Hz Tryz.f75=true:=by kernel_rfl
def OG(i:Nat):List Nat:=kp [[0,2],[2,4,5,6],[2,4,5,6,18],[2,4,5,6,18,19],[2,3],[2,4,5,6,24],[2,3],[2,4,5,7],[2,5,7,8],[2,5,7,8,37],[2,3],[2,5,7,9],[2,5,7,9,43],[2,3],[2,5,10,11],[2,5,10,55],[2,3],[2,3]] i
def HA:aw:=⟨[2,5,10],OG,aT⟩
def ahH:okB HA Tryz.f76=true:=by kernel_rfl
def OH(i:Nat):List Nat:=kp [[0,3],[0,3,6],[0,3,6,7],[4],[3,16],[4],[4]] i
def JG(i:Nat):bW:=if i=3 then⟨[],[0,1,2,3,4,5,6,7],[(0,[]),(1,[]),(0,[]),(0,[2]),(0,[2,3]),(0,[2,3,4]),(6,[]),(7,[])],[]⟩else⟨[],[],[],[]⟩
def HC:aw:=⟨[3],OH,JG⟩
def ahI:okB HC Tryz.f77=true:=by kernel_rfl
def OI(i:Nat):List Nat:=kp [[0],[0,5],[0,5,6],[0,5,6,7],[5,6,7,11,12,13],[5,6,7,11,12,13,14],[5,6,7,8,9,11,12,13],[5,6,7,8,9,11,12,13],[5,6,7,8,9,11,12,13,30],[5,6,7,11,12,13],[5,6,7,11,12,13],[2,3,4]] i
def JH(i:Nat):bW:=if i=7 then⟨[],[0,1,2,5,6,7,3,4,8,9,10,11],[(0,[]),(0,[]),(0,[1]),(0,[1,2]),(4,[]),(0,[]),(0,[]),(0,[6]),(0,[6,7]),(9,[]),(10,[]),(11,[])],[[0,1,2,5,6,7,3,8,4,9,10,11],[0,1,2,5,6,7,8,3,4,9,10,11]]⟩else⟨[],[],[],[]⟩
def HE:aw:=⟨[9],OI,JH⟩
def ahJ:okB HE Tryz.f78=true:=by kernel_rfl
def OJ(i:Nat):List Nat:=kp [[0,1],[0,1,7,8,9],[0,1,7,8,9,10],[0,1,6,7,8,9],[0,1,7,8,9,14],[4],[0,1,7,8,9],[4]] i
def HI:aw:=⟨[],OJ,aT⟩
def ahK:okB HI Tryz.f79=true:=by kernel_rfl
def OO(i:Nat):List Nat:=kp [[1,2,3,4],[8]] i
def HK:aw:=⟨[4],OO,aT⟩
def ahM:okB HK Tryz.f80=true:=by kernel_rfl
def OP(i:Nat):List Nat:=kp [[0,1],[0,1,10],[4],[0,1,12,13],[0,1,12,13,14],[0,1,5,12,13],[0,1,12,13,24],[4],[0,1,12,13],[4]] i
def JJ(i:Nat):bW:=if i=6 then⟨[],[0,1,2,3,4,5,6,7,8],[(0,[]),(0,[]),(2,[]),(3,[]),(0,[]),(0,[]),(0,[4,5]),(0,[4,5,6]),(8,[])],[]⟩else⟨[],[],[],[]⟩
def HN:aw:=⟨[],OP,JJ⟩
def ahN:okB HN Tryz.f81=true:=by kernel_rfl
def OT(i:Nat):List Nat:=kp [[0,1],[0,1,10],[4],[0,1,12,13],[0,1,12,13,14],[0,1,5,12,13],[0,1,12,13,24],[4],[0,1,12,13],[4]] i
def JK(i:Nat):bW:=if i=6 then⟨[],[0,1,2,3,4,5,6,7,8],[(0,[]),(0,[]),(2,[]),(3,[]),(0,[]),(0,[]),(0,[4,5]),(0,[4,5,6]),(8,[])],[]⟩else⟨[],[],[],[]⟩
def HO:aw:=⟨[],OT,JK⟩
def ahO:okB HO Tryz.f82=true:=by kernel_rfl
def OU(i:Nat):List Nat:=kp [[0,1],[0,1,10],[4],[0,1,12,13],[0,1,12,13,14],[0,1,5,12,13],[0,1,12,13,24],[4],[0,1,12,13],[4]] i
def JL(i:Nat):bW:=if i=6 then⟨[],[0,1,2,3,4,5,6,7,8],[(0,[]),(0,[]),(2,[]),(3,[]),(0,[]),(0,[]),(0,[4,5]),(0,[4,5,6]),(8,[])],[]⟩else⟨[],[],[],[]⟩
def HP:aw:=⟨[],OU,JL⟩
def ahP:okB HP Tryz.f83=true:=by kernel_rfl
def OV(i:Nat):List Nat:=kp [[1],[2]] i
def HQ:aw:=⟨[1],OV,aT⟩
def ahQ:okB HQ Tryz.f84=true:=by kernel_rfl
def OW(i:Nat):List Nat:=kp [[0,1],[0,7,8,9],[0,7,8,9,10],[0,6,7,8,9],[0,7,8,9],[0,7,8,9],[4]] i
def HS:aw:=⟨[],OW,aT⟩
def ahR:okB HS Tryz.f85=true:=by kernel_rfl
def OX(i:Nat):List Nat:=kp [[1],[1,3],[1,3,5],[1,3,5,6],[1,3],[1,3,5,8],[1,3],[1,3,10],[1,3],[2]] i
def HU:aw:=⟨[1],OX,aT⟩
def ahS:okB HU Tryz.f86=true:=by kernel_rfl
def OY(i:Nat):List Nat:=kp [[1],[2]] i
def HV:aw:=⟨[1],OY,aT⟩
def ahT:okB HV Tryz.f88=true:=by kernel_rfl
def OZ(i:Nat):List Nat:=kp [[0],[0,4],[2],[2]] i
def HW:aw:=⟨[],OZ,aT⟩
def ahU:okB HW Tryz.f89=true:=by kernel_rfl
def O0(i:Nat):List Nat:=kp [[1],[2]] i
def JM(i:Nat):bW:=if i=1 then⟨[],[0,1,4,5,9,10,14,15,2,3,6,7,8,11,12,13,16,17,18],[(0,[]),(1,[]),(2,[]),(3,[]),(0,[]),(0,[4]),(3,[4,5]),(7,[]),(8,[]),(0,[]),(0,[9]),(3,[4,5,6,9,10]),(12,[]),(13,[]),(0,[]),(0,[14]),(3,[4,5,6,9,10,11,14,15]),(17,[]),(18,[])],[]⟩else⟨[],[],[],[]⟩
def HX:aw:=⟨[1],O0,JM⟩
def ahV:okB HX Tryz.f90=true:=by kernel_rfl
def O1(i:Nat):List Nat:=kp [[1],[2]] i
def HY:aw:=⟨[1],O1,aT⟩
def ahW:okB HY Tryz.f92=true:=by kernel_rfl
def Lc(i:Nat):List Nat:=kp [[1],[1,7],[2],[1,3],[1,3,4],[1,3,4,15],[1,3,4],[1,3,4],[2]] i
def DD:aw:=⟨[1],Lc,aT⟩
def aeG:okB DD Tryz.f100=true:=by kernel_rfl
def Ld(i:Nat):List Nat:=kp [[1],[1,5],[2],[2]] i
def IG(i:Nat):bW:=if i=3 then⟨[],[0,1,2,3,4,5],[(0,[]),(0,[]),(0,[1]),(3,[]),(4,[]),(5,[])],[]⟩else⟨[],[],[],[]⟩
def DE:aw:=⟨[1],Ld,IG⟩
def aeH:okB DE Tryz.f102=true:=by kernel_rfl
def Le(i:Nat):List Nat:=kp [[0,1,2],[0,1,2,7],[0,1,2,7,13],[0,1,2,7],[0,1,2,7,8],[0,1,2,7,8,56],[6],[0,1,2,7,8,9],[0,1,2,7,8,9,59],[0,1,2,7,8,9],[0,1,2,7,8,9,86],[6],[6]] i
def IH(i:Nat):bW:=if i=5 then⟨[],[0,1,2,3,4,5,6,7,8,9,10,11,12,13,14,15,16,17,18,19,20,21,22,23,24,25,26,27,28,29,30,31,32,33,34,35],[(0,[]),(1,[]),(2,[]),(3,[]),(3,[]),(3,[4]),(6,[]),(7,[]),(8,[]),(9,[]),(10,[]),(11,[]),(12,[]),(12,[]),(12,[]),(12,[14]),(12,[13,14,15]),(12,[13,14,15,16]),(12,[13,14,15,16,17]),(19,[]),(20,[]),(21,[]),(22,[]),(23,[]),(23,[]),(23,[]),(23,[24,25]),(23,[24,25,26]),(23,[]),(23,[]),(23,[28,29]),(23,[28,29,30]),(23,[28,29,30,31]),(33,[]),(34,[]),(35,[])],[]⟩else if i=10 then⟨[],[0,1,2,3,4,5,6,7,8,9,10,11,12,13,14,15,16,17,18,19,20,21,22,23,24],[(0,[]),(0,[]),(0,[]),(0,[1,2]),(0,[1,2,3]),(0,[]),(0,[]),(0,[5,6]),(0,[5,6,7]),(0,[5,6,7,8]),(0,[]),(0,[]),(0,[]),(0,[11,12]),(0,[11,12,13]),(0,[11,12,13,14]),(0,[10,11,12,13,14,15]),(0,[10,11,12,13,14,15,16]),(0,[]),(0,[]),(0,[18,19]),(0,[18,19,20]),(0,[18,19,20,21]),(23,[]),(24,[])],[]⟩else⟨[],[],[],[]⟩
def DF:aw:=⟨[],Le,IH⟩
def aeI:okB DF Tryz.f103=true:=by kernel_rfl
def Lf(i:Nat):List Nat:=kp [[0,1,2,3],[0,1,2,3,9],[0,1,2,3,9,16],[0,1,2,3,9],[0,1,2,3,9,10,11],[0,1,2,3,9,53],[8],[0,1,2,3,9,12],[0,1,2,3,9,12,57],[0,1,2,3,9,12],[0,1,2,3,9,12,92],[8],[8]] i
def II(i:Nat):bW:=if i=5 then⟨[],[0,1,2,3,4,5,6,7,8,9,10,11,12,13,14,15,16,17,18,19,20,21,22,23,24,25,26,27,28],[(0,[]),(0,[]),(2,[]),(3,[]),(4,[]),(5,[]),(6,[]),(6,[]),(6,[]),(6,[7,8]),(6,[7,8,9]),(6,[]),(6,[]),(6,[11,12]),(6,[11,12,13]),(15,[]),(16,[]),(17,[]),(18,[]),(19,[]),(20,[]),(21,[]),(21,[]),(23,[]),(24,[]),(21,[]),(26,[]),(27,[]),(28,[])],[]⟩else if i=10 then⟨[],[0,1,2,3,4,5,6,7,8,9,10,11,12,13,14,15,16,17,18,19,20,21,22,23,24,25,26,27,28,29,30,31,32],[(0,[]),(0,[]),(2,[]),(3,[]),(4,[]),(5,[]),(6,[]),(6,[]),(8,[]),(9,[]),(10,[]),(11,[]),(12,[]),(13,[]),(13,[]),(13,[]),(13,[14,15]),(13,[14,15,16]),(13,[]),(13,[]),(13,[18,19]),(13,[18,19,20]),(13,[]),(13,[]),(13,[22,23]),(13,[22,23,24]),(13,[]),(13,[]),(13,[26,27]),(13,[26,27,28]),(30,[]),(31,[]),(32,[])],[]⟩else⟨[],[],[],[]⟩
def DG:aw:=⟨[],Lf,II⟩
def aeJ:okB DG Tryz.f104=true:=by kernel_rfl
def Lg(i:Nat):List Nat:=kp [[0,3],[3,5],[3,5,6],[3,5,6,15],[2,3],[2,3]] i
def DH:aw:=⟨[3,4],Lg,aT⟩
def aeK:okB DH Tryz.f106=true:=by kernel_rfl
def Lh(i:Nat):List Nat:=kp [[]] i
def DI:aw:=⟨[],Lh,aT⟩
def aeL:okB DI Tryz.f107=true:=by kernel_rfl
def Li(i:Nat):List Nat:=kp [[1],[1,3],[1,7],[1,11],[2],[2]] i
def DJ:aw:=⟨[1],Li,aT⟩
def aeM:okB DJ Tryz.f108=true:=by kernel_rfl
def Lj(i:Nat):List Nat:=kp [[0,3],[0,3,14],[4,5],[0,3,6,7,8],[0,6,7,8],[6,9,10],[6,9,10,43],[4,5],[9,47],[4,5],[54],[4,5],[4,5]] i
def IJ(i:Nat):bW:=if i=5 then⟨[15],[0,1,2,3,4,5,6,7,8,9,10,11,12,13,14,16,17],[(0,[]),(1,[]),(2,[]),(3,[]),(0,[]),(0,[]),(0,[]),(0,[]),(0,[7]),(0,[7,8]),(0,[7,8,9]),(11,[]),(12,[]),(13,[]),(13,[]),(0,[]),(14,[15]),(17,[])],[]⟩else⟨[],[],[],[]⟩
def DK:aw:=⟨[3,9],Lj,IJ⟩
def aeN:okB DK Tryz.f109=true:=by kernel_rfl
def Ll(i:Nat):List Nat:=kp [[0,1,4],[0,1,4,10,11,12],[0,1,4,10,11,12,13],[0,1,4,5,6,10,11,12],[0,1,4,5,10,11,12,18],[0,1,4,10,11,12],[0,1,4,10,11,12],[0,1,4,10,11,12]] i
def IK(i:Nat):bW:=if i=5 then⟨[],[0,1,2,3,4,5,6,7,8,9,10,11],[(0,[]),(1,[]),(2,[]),(3,[]),(0,[]),(0,[]),(0,[]),(0,[5,6]),(0,[5,6,7]),(9,[]),(10,[]),(11,[])],[]⟩else⟨[],[],[],[]⟩
def DM:aw:=⟨[6],Ll,IK⟩
def aeP:okB DM Tryz.f110=true:=by kernel_rfl
def Lm(i:Nat):List Nat:=kp [[0,3],[5],[4]] i
def IL(i:Nat):bW:=if i=1 then⟨[],[0,1,2,3,4,5,6,7,8,9,10,11,12,13],[(0,[]),(1,[]),(2,[]),(3,[]),(0,[]),(0,[4]),(0,[]),(0,[6]),(8,[]),(9,[]),(10,[]),(10,[]),(11,[]),(13,[])],[]⟩else⟨[],[],[],[]⟩
def DN:aw:=⟨[3],Lm,IL⟩
def aeQ:okB DN Tryz.f111=true:=by kernel_rfl
def Lp(i:Nat):List Nat:=kp [[0,1],[0,1,16],[4,5],[4,5]] i
def DO:aw:=⟨[],Lp,aT⟩
def aeR:okB DO Tryz.f112=true:=by kernel_rfl
def Lq(i:Nat):List Nat:=kp [[1,2,3,4,5,10],[1,2,3,4,5,10,19],[10,11],[1,3,10,12,13],[3,10,12,13,45],[10,12,13],[10,11]] i
def DP:aw:=⟨[5,10,12],Lq,aT⟩
def aeS:okB DP Tryz.f113=true:=by kernel_rfl
def Lr(i:Nat):List Nat:=kp [[0,1],[0,1,5],[0,1,5,11,12],[0,1,5,11,12,13],[0,1,5,6,11,12],[0,1,5,6,11,12,23],[0,1,5,11,12],[0,1,5,11,12],[4]] i
def IM(i:Nat):bW:=if i=5 then⟨[],[0,1,2,3,4,5,6,7,8],[(0,[]),(0,[]),(2,[]),(3,[]),(0,[]),(0,[]),(0,[4,5]),(0,[4,5,6]),(8,[])],[]⟩else⟨[],[],[],[]⟩
def DQ:aw:=⟨[],Lr,IM⟩
def aeT:okB DQ Tryz.f114=true:=by kernel_rfl
def Ls(i:Nat):List Nat:=kp [[1],[1,3],[3,7,8,9],[3,7,8,9,10],[3,4,5,7,8,9],[3,4,7,8,9,15],[3,7,8,9],[3,7,8,9],[2]] i
def DR:aw:=⟨[1],Ls,aT⟩
def aeU:okB DR Tryz.f115=true:=by kernel_rfl
def Lt(i:Nat):List Nat:=kp [[1],[2]] i
def DS:aw:=⟨[1],Lt,aT⟩
def aeV:okB DS Tryz.f116=true:=by kernel_rfl
def Lu(i:Nat):List Nat:=kp [[0,1,2],[6]] i
def DT:aw:=⟨[],Lu,aT⟩
def aeW:okB DT Tryz.f117=true:=by kernel_rfl
def Lv(i:Nat):List Nat:=kp [[0,3],[0,3,14],[2,3,4],[0,3,5],[0,3,5,6,7],[0,3,5,7,8,9,10,11],[0,3,5,7,8,9,10,11,26],[2,3,4],[0,3,5,7,8,9,10,11,26,30],[0,3,5,6,7],[3,5,10,11,38],[2,3,4]] i
def IN(i:Nat):bW:=if i=9 then⟨[],[0,1,4,5,2,3,6,7,8],[(0,[]),(0,[]),(0,[1]),(3,[]),(0,[]),(0,[]),(4,[]),(5,[6]),(8,[])],[]⟩else if i=11 then⟨[],[0,1,2,3,4],[(0,[]),(0,[]),(1,[]),(3,[]),(4,[])],[]⟩else if i=7 then⟨[],[0,1,2,3,4,5],[(0,[]),(0,[]),(0,[]),(1,[]),(2,[3]),(5,[])],[]⟩else⟨[],[],[],[]⟩
def DU:aw:=⟨[3,7,8,10],Lv,IN⟩
def aeX:okB DU Tryz.f118=true:=by kernel_rfl
def Lw(i:Nat):List Nat:=kp [[1],[2]] i
def DV:aw:=⟨[1],Lw,aT⟩
def aeY:okB DV Tryz.f119=true:=by kernel_rfl
def Ly(i:Nat):List Nat:=kp [[0,1,2],[0,1,2,8],[6],[6]] i
def DX:aw:=⟨[],Ly,aT⟩
def aeZ:okB DX Tryz.f120=true:=by kernel_rfl
def Lz(i:Nat):List Nat:=kp [[0,1],[0,1,5],[0,1,5,14],[0,1,5,6,7],[0,1,5,6,7,8],[0,1,5,6,7,8,31],[0,1,6,7,8],[0,1,5,6,8],[0,1,5,6,8,43],[0,1,5,6,9,10],[0,1,5,6,9,10,51],[4],[0,1,5,6,57],[4],[4]] i
def DY:aw:=⟨[8],Lz,aT⟩
def afa:okB DY Tryz.f121=true:=by kernel_rfl
def LA(i:Nat):List Nat:=kp [[0],[0,21],[2],[0,30,31,32],[0,30,31,32,33],[0,4,30,31,32],[0,4,5,6,30,31,32],[0,4,5,30,31,32,46],[2],[0,4,5,30,31,32,52],[2],[0,30,31,32],[0,30,31,32],[2]] i
def IP(i:Nat):bW:=if i=6 then⟨[],[0,1,2,3,4,5,6,7,8,9,10,11],[(0,[]),(1,[]),(2,[]),(3,[]),(0,[]),(0,[4]),(6,[]),(7,[]),(8,[]),(8,[]),(9,[]),(11,[])],[]⟩else⟨[],[],[],[]⟩
def DZ:aw:=⟨[4],LA,IP⟩
def afb:okB DZ Tryz.f122=true:=by kernel_rfl
def LB(i:Nat):List Nat:=kp [[1,2],[1,2,4],[1,2,4,11,12,13],[1,2,4,11,12,13,14],[1,2,4,6,11,12,13],[1,2,4,6,11,12,13,25],[2,3],[1,2,4,11,12,13],[1,2,4,11,12,13],[2,4,7],[2,4,7],[2,7,50,51,52],[2,7,50,51,52,53],[2,7,9,50,51,52],[2,7,50,51,52],[2,7,50,51,52],[2,7],[2,7],[2,7,75],[2,3],[2,3]] i
def IQ(i:Nat):bW:=if i=9 then⟨[11],[0,1,3,4,5,6,7,8,2,9,10,12],[(0,[]),(1,[]),(2,[]),(0,[]),(0,[3]),(0,[]),(0,[5]),(0,[]),(0,[7]),(3,[7,8]),(10,[]),(0,[]),(12,[])],[]⟩else if i=14 then⟨[],[0,1,2,3,4,5,6,7,8,9],[(0,[]),(1,[]),(0,[]),(0,[2]),(0,[]),(0,[2,3,4]),(0,[2,3,4,5]),(7,[]),(8,[]),(9,[])],[]⟩else⟨[],[],[],[]⟩
def Ea:aw:=⟨[1,2,7],LB,IQ⟩
def afc:okB Ea Tryz.f123=true:=by kernel_rfl
def LC(i:Nat):List Nat:=kp [[1,2,3,4],[1,2,9,10],[1,2,9,18],[1,2,9,21],[8],[8]] i
def Eb:aw:=⟨[4,9],LC,aT⟩
def afd:okB Eb Tryz.f124=true:=by kernel_rfl
def LD(i:Nat):List Nat:=kp [[1],[1,3],[2],[1,8],[2],[1,13],[2],[1,18],[2],[26],[2],[2]] i
def Ec:aw:=⟨[1],LD,aT⟩
def afe:okB Ec Tryz.f125=true:=by kernel_rfl
def LG(i:Nat):List Nat:=kp [[1],[1,3],[2],[1,8],[2],[1,13],[2],[1,18],[2],[26],[2],[2]] i
def Ee:aw:=⟨[1],LG,aT⟩
def afg:okB Ee Tryz.f130=true:=by kernel_rfl
def LH(i:Nat):List Nat:=kp [[0],[0,3],[0,3,5],[0,3],[0,3],[2]] i
def Ef:aw:=⟨[],LH,aT⟩
def afh:okB Ef Tryz.f131=true:=by kernel_rfl
def LI(i:Nat):List Nat:=kp [[0],[3],[3,4],[2],[3,6],[2],[8],[2],[2]] i
def Eh:aw:=⟨[],LI,aT⟩
def afi:okB Eh Tryz.f132=true:=by kernel_rfl
def LK(i:Nat):List Nat:=kp [[1,2],[1,2,5],[1,2,5,6],[1,2,5,6,13],[1,2,5,6],[1,2,5,6,22],[1,2,5,6],[1,2,5,7],[1,2,5,7,30],[1,2,5,7],[1,2,5,7,8],[1,2,5,7,52],[1,2,5,7],[4]] i
def IS(i:Nat):bW:=if i=11 then⟨[],[0,1,2,3,4,5,6,7,8,9,11,12,10,13,14],[(0,[]),(1,[]),(0,[]),(3,[]),(4,[]),(0,[]),(0,[5]),(0,[]),(0,[7]),(0,[5,6,7,8]),(10,[]),(0,[]),(0,[11]),(13,[]),(14,[])],[]⟩else⟨[],[],[],[]⟩
def El:aw:=⟨[2,8],LK,IS⟩
def afk:okB El Tryz.f141=true:=by kernel_rfl
def LL(i:Nat):List Nat:=kp [[0,2,4],[0,2,4,28],[6],[0,2,4,7],[0,2,4,7,8,9],[0,2,4,7,8,9,10],[0,2,4,7,8,9,10,37],[0,2,4,7,8,9,10],[0,2,4,7,8,9,10,48],[0,2,4,7,8,9,10,48,49],[0,2,4,7,8,9,10],[0,2,4,7,8,9,10,68],[6],[0,2,4,7,8,9,10,69],[0,2,4,7,8,9,10],[6]] i
def IT(i:Nat):bW:=if i=1 then⟨[],[0,1,2,3,4,5,6,7,8,9,10,11,12,14,15,13,16,17],[(0,[]),(1,[]),(2,[]),(3,[]),(4,[]),(5,[]),(6,[]),(7,[]),(4,[]),(4,[8]),(4,[8,9]),(4,[8,9,10]),(4,[]),(13,[]),(4,[]),(4,[14]),(16,[]),(17,[])],[]⟩else⟨[],[],[],[]⟩
def Em:aw:=⟨[4],LL,IT⟩
def afl:okB Em Tryz.f142=true:=by kernel_rfl
def LM(i:Nat):List Nat:=kp [[0,2,4,6,8],[0,2,4,6,8,24],[10],[0,2,4,6,8,11],[0,2,4,6,8,11,31],[0,2,4,6,8,11],[0,2,4,6,8,11,12],[0,2,4,6,8,11,12,40],[0,2,4,6,8,11,12],[0,2,4,6,8,11,12,54],[10],[10]] i
def En:aw:=⟨[6,8],LM,aT⟩
def afm:okB En Tryz.f143=true:=by kernel_rfl
def LO(i:Nat):List Nat:=kp [[0],[0,3],[0,3,7],[0,3],[0,3,15],[2],[2]] i
def Eo:aw:=⟨[],LO,aT⟩
def afn:okB Eo Tryz.f144=true:=by kernel_rfl
def LP(i:Nat):List Nat:=kp [[0,1],[0,1,6],[0,1,6,10],[0,1,6],[0,1,6,19],[4,5],[4,5]] i
def Ep:aw:=⟨[],LP,aT⟩
def afo:okB Ep Tryz.f145=true:=by kernel_rfl
def LQ(i:Nat):List Nat:=kp [[0],[2]] i
def Es:aw:=⟨[],LQ,aT⟩
def afp:okB Es Tryz.f148=true:=by kernel_rfl
def LR(i:Nat):List Nat:=kp [[0,2],[2,6,7,8],[2,6,7,8,9],[2,4,6,7,8],[2,4,6,7,8,17],[2],[2,6,7,8],[2]] i
def Et:aw:=⟨[2],LR,aT⟩
def afq:okB Et Tryz.f149=true:=by kernel_rfl
def LU(i:Nat):List Nat:=kp [[0,1,5],[6,7]] i
def IV(i:Nat):bW:=if i=1 then⟨[],[0,2,5,1,3,4,6,7,8,9,10],[(0,[]),(1,[]),(0,[]),(0,[2]),(4,[]),(0,[]),(6,[]),(0,[]),(8,[]),(9,[]),(10,[])],[[0,2,5,1,3,4,7,6,8,9,10],[0,2,5,1,3,7,4,6,8,9,10],[0,2,5,1,7,3,4,6,8,9,10],[0,2,5,3,1,4,6,7,8,9,10],[0,2,5,3,1,4,7,6,8,9,10],[0,2,5,3,1,7,4,6,8,9,10],[0,2,5,3,7,1,4,6,8,9,10],[0,2,5,7,1,3,4,6,8,9,10],[0,2,5,7,3,1,4,6,8,9,10]]⟩else⟨[],[],[],[]⟩
def Ev:aw:=⟨[5],LU,IV⟩
def afr:okB Ev Tryz.f150=true:=by kernel_rfl
def LV(i:Nat):List Nat:=kp [[2,3,4],[2,4,8,9],[2,4,8,16],[6,7],[6,7]] i
def Ew:aw:=⟨[3,4,8],LV,aT⟩
def afs:okB Ew Tryz.f151=true:=by kernel_rfl
def LW(i:Nat):List Nat:=kp [[1,2,3,4,8],[1,2,3,4,8,10,11],[1,2,3,4,8,10,31],[8,9],[1,3,8,10,12],[1,8,13],[1,8,13,14],[8,13],[1,8,13,53],[8,13],[8,13,60],[8,13],[8,9]] i
def Ey:aw:=⟨[4,8],LW,aT⟩
def afu:okB Ey Tryz.f152=true:=by kernel_rfl
def LX(i:Nat):List Nat:=kp [[0,1],[0,1,17],[4],[0,1,5],[0,5,18,19,20],[0,5,18,19,20,21],[0,5,6,7,18,19,20],[0,5,6,18,19,20,26],[0,5,18,19,20],[0,5,18,19,20],[4]] i
def Ez:aw:=⟨[],LX,aT⟩
def afv:okB Ez Tryz.f153=true:=by kernel_rfl
def LY(i:Nat):List Nat:=kp [[0],[0,4],[2],[2]] i
def EC:aw:=⟨[],LY,aT⟩
def afw:okB EC Tryz.f154=true:=by kernel_rfl
def LZ(i:Nat):List Nat:=kp [[1],[1,7],[2],[1,3],[1,3,13,14],[1,3,13,14,15],[1,3,4,13,14],[1,3,13,14],[1,3,13,14],[2]] i
def EI:aw:=⟨[1],LZ,aT⟩
def afx:okB EI Tryz.f155=true:=by kernel_rfl
def L3(i:Nat):List Nat:=kp [[0,4,5,6,8],[0,4,5,6,8,22],[6,7,8,9],[0,4,5,6,8,10],[0,4,5,6,8,10,11],[0,4,5,6,8,10,11,33],[6,7,8,9],[0,4,5,6,8,10,11,12],[0,4,5,6,8,10,11,12,13],[0,4,5,6,8,10,11,12,13,50],[0,4,5,6,8,10,11,12,13,50,51],[0,4,6,8,10,11,12,13,50,53],[0,4,6,8,10,11,12,13,50,55],[0,4,6,8,10,11,12,13,57],[5,6,8,10,12],[6,7,8,9],[0,4,6,8,10,11,12],[0,4,6,8,10,11,12,13],[0,4,6,8,10,11,12,13,14],[0,4,6,8,10,11,12],[0,4,6,8,10,11,12,13,14],[0,4,6,8,10,11,12,13,14],[0,4,6,8,10,11,12,13,99],[6,7,8,9],[6,8,11,12,13],[6,7,8,9]] i
def IW(i:Nat):bW:=if i=2 then⟨[],[0,1,2,3,4,5,6],[(0,[]),(0,[]),(0,[]),(1,[]),(2,[3]),(5,[]),(6,[])],[]⟩else if i=7 then⟨[7],[0,1,2,3,4,5,6,8],[(0,[]),(1,[]),(0,[]),(0,[]),(0,[2,3]),(0,[2,3,4]),(6,[]),(0,[]),(8,[])],[]⟩else if i=15 then⟨[],[0,1,2,3,4,5,6,7,8,9,10],[(0,[]),(0,[]),(0,[1]),(0,[]),(0,[3]),(0,[3,4]),(0,[3,4,5]),(1,[]),(3,[7]),(9,[]),(10,[])],[]⟩else if i=23 then⟨[],[0,1,2,3,4,5,6,7,8],[(0,[]),(0,[]),(0,[]),(0,[]),(0,[2,3]),(1,[2,3,4]),(6,[]),(7,[]),(8,[])],[]⟩else if i=25 then⟨[],[0,1,2,3,4,5,6,7,8],[(0,[]),(0,[]),(0,[]),(0,[]),(0,[2,3]),(1,[2,3,4]),(6,[]),(7,[]),(8,[])],[]⟩else⟨[],[],[],[]⟩
def EJ:aw:=⟨[6,8,12],L3,IW⟩
def afy:okB EJ Tryz.f156=true:=by kernel_rfl
attribute [irreducible] PP
def L4(i:Nat):List Nat:=kp [[0,1],[0,1,5],[4],[0,1,9],[4],[4]] i
def EK:aw:=⟨[],L4,aT⟩
def afz:okB EK Tryz.f157=true:=by kernel_rfl
def L7(i:Nat):List Nat:=kp [[0,1],[0,1,14],[4,5],[0,1,6],[0,1,6,20],[0,1,6],[0,1,6,28],[4,5],[4,5]] i
def EL:aw:=⟨[],L7,aT⟩
def afA:okB EL Tryz.f158=true:=by kernel_rfl
def L8(i:Nat):List Nat:=kp [[1,2],[2]] i
def EO:aw:=⟨[1,2],L8,aT⟩
def afB:okB EO Tryz.f159=true:=by kernel_rfl
def Ma(i:Nat):List Nat:=kp [[0,3],[0,3,6,7],[0,3,6,28],[4,5],[0,3,6,8],[0,3,6,8,35,36],[0,3,6,8,35,36,37],[0,3,6,8,9,35,36],[0,3,6,8,9,35,36,39],[4,5],[0,3,6,8,9,35,36,47],[4,5],[0,3,6,8,35,36],[0,3,6,8,35,36],[0,6,8,77],[4,5],[0,8,86,87,88],[0,8,86,87,88,89],[0,8,10,11,86,87,88],[0,8,10,86,87,88,99],[4,5],[0,8,86,87,88],[4,5]] i
def ER:aw:=⟨[3],Ma,aT⟩
def afD:okB ER Tryz.f160=true:=by kernel_rfl
def Mb(i:Nat):List Nat:=kp [[0,1,2],[0,1,2,13],[0,1,2,7],[0,1,2,7,9],[0,1,2,7,30],[6],[0,1,2],[0],[6],[0,1,2,13,75],[0,2,82],[6],[],[0,1,2,13,90],[0,2,95],[6],[],[0,1,2,13,106],[0],[6],[0,1,2,139],[0],[6],[6]] i
def IX(i:Nat):bW:=if i=18 then⟨[],[0,1,2,3,4,5,6,7,8,9,10,11,12,13,14,16,17,18,15,19,20,21,22,23,24,25],[(0,[]),(0,[]),(0,[1]),(0,[1,2]),(0,[1,2,3]),(0,[]),(0,[5]),(0,[5,6]),(0,[]),(0,[8]),(0,[8,9]),(0,[5,6,7,8,9,10]),(0,[]),(0,[12]),(0,[12,13]),(0,[12,13,14]),(0,[]),(0,[16]),(0,[16,17]),(0,[12,13,14,15,16,17,18]),(0,[5,6,7,8,9,10,11,12,13,14,15,16,17,18,19]),(0,[5,6,7,8,9,10,11,12,13,14,15,16,17,18,19,20]),(0,[1,2,3,4,5,6,7,8,9,10,11,12,13,14,15,16,17,18,19,20,21]),(23,[]),(24,[]),(25,[])],[]⟩else if i=21 then⟨[],[0,1,2,3,4,5,6,7,8,9,10,11,12,13,14,15,16,17,18,19,20,21],[(0,[]),(0,[]),(0,[1]),(0,[1,2]),(0,[1,2,3]),(0,[1,2,3,4]),(0,[]),(0,[6]),(0,[6,7]),(0,[]),(0,[9]),(0,[9,10]),(0,[]),(0,[12]),(0,[12,13]),(0,[6,7,8,9,10,11,12,13,14]),(0,[6,7,8,9,10,11,12,13,14,15]),(0,[1,2,3,4,5,6,7,8,9,10,11,12,13,14,15,16]),(18,[]),(19,[]),(20,[]),(21,[])],[]⟩else if i=2 then⟨[7],[0,1,2,3,4,5,6,8],[(0,[]),(1,[]),(2,[]),(0,[]),(0,[3]),(0,[3,4]),(6,[]),(0,[]),(8,[])],[]⟩else if i=3 then⟨[],[0,1,2,3,4,5,6,7,8,9,10],[(0,[]),(1,[]),(2,[]),(3,[]),(0,[]),(5,[]),(6,[]),(7,[]),(7,[]),(8,[]),(10,[])],[]⟩else if i=6 then⟨[],[0,1,2,3,4,5,6,7,8,9,10,11],[(0,[]),(1,[]),(2,[]),(3,[]),(0,[]),(0,[]),(0,[5]),(0,[5,6]),(0,[5,6,7]),(0,[5,6,7,8]),(0,[5,6,7,8,9]),(11,[])],[]⟩else if i=7 then⟨[],[0,1,2,3,4,5,6,7,8,9,10,11,12,13,14,15,16,17,18,19,20,21,22,23,24,25,26],[(0,[]),(0,[]),(0,[1]),(0,[1,2]),(0,[1,2,3]),(0,[1,2,3,4]),(0,[]),(0,[6]),(0,[6,7]),(0,[]),(0,[9]),(0,[9,10]),(0,[]),(0,[12]),(0,[12,13]),(0,[]),(0,[15]),(0,[15,16]),(0,[15,16,17]),(0,[15,16,17,18]),(0,[6,7,8,9,10,11,12,13,14,15,16,17,18,19]),(0,[6,7,8,9,10,11,12,13,14,15,16,17,18,19,20]),(0,[1,2,3,4,5,6,7,8,9,10,11,12,13,14,15,16,17,18,19,20,21]),(23,[]),(24,[]),(25,[]),(26,[])],[]⟩else⟨[],[],[],[]⟩
def ES:aw:=⟨[7],Mb,IX⟩
def afE:okB ES Tryz.f161=true:=by kernel_rfl
def Mc(i:Nat):List Nat:=kp [[0,1],[4]] i
def ET:aw:=⟨[],Mc,aT⟩
def P6:okB ET Tryz.f162=true:=by kernel_rfl
def Me(i:Nat):List Nat:=kp [[2,3],[2,3,5],[4],[9],[4],[4]] i
def EV:aw:=⟨[2,3],Me,aT⟩
def afG:okB EV Tryz.f164=true:=by kernel_rfl
def Mf(i:Nat):List Nat:=kp [[2,3],[4]] i
def EW:aw:=⟨[2,3],Mf,aT⟩
def afH:okB EW Tryz.f165=true:=by kernel_rfl
def Mg(i:Nat):List Nat:=kp [[0,1],[0,1,7,8],[0,1,7,8,9],[0,1,5,7,8],[0,1,5,7,8,16],[4],[0,1,7,8],[4]] i
def EX:aw:=⟨[],Mg,aT⟩
def afI:okB EX Tryz.f166=true:=by kernel_rfl
def Mh(i:Nat):List Nat:=kp [[1,2],[3]] i
def EY:aw:=⟨[2],Mh,aT⟩
def afJ:okB EY Tryz.f167=true:=by kernel_rfl
def Mj(i:Nat):List Nat:=kp [[0],[0,8],[2],[0,3],[0,3,13],[0,3],[0,3,25],[0,3,4],[0,3,4,5],[0,3,4,5,32],[0,3,4,5],[0,3,4,5,44],[0,3,4,5],[0,3,4,5],[0,3],[2],[2]] i
def IY(i:Nat):bW:=if i=6 then⟨[],[0,1,2,3,4,5,6,7,8,9],[(0,[]),(0,[]),(2,[]),(3,[]),(0,[]),(0,[]),(0,[5]),(0,[4,5,6]),(0,[4,5,6,7]),(9,[])],[]⟩else if i=11 then⟨[],[0,1,2,3,4,5,6,7,8,9],[(0,[]),(0,[]),(2,[]),(3,[]),(0,[]),(0,[]),(0,[5]),(0,[4,5,6]),(0,[4,5,6,7]),(9,[])],[]⟩else⟨[],[],[],[]⟩
def Fb:aw:=⟨[],Mj,IY⟩
def afL:okB Fb Tryz.f169=true:=by kernel_rfl
def Ml(i:Nat):List Nat:=kp [[1,2,3,6],[1,2,6,8,9],[1,2,6,8,9,10],[1,2,6,8,10,32],[6,7],[1,2,6,8,10,34,35,36],[1,2,6,8,10,34,35,36,37],[1,2,6,8,10,11,12,34,35,36],[1,2,6,8,10,11,12,34,35,36,65],[6,7],[1,2,6,8,10,11,12,14,34,35,36],[1,2,6,8,10,11,12,34,35,36,80],[6,7],[1,2,6,8,10,12,34,35,36,84,85,86],[1,2,6,8,10,12,34,35,36,84,85,86,87],[1,2,6,8,10,12,16,34,35,36,84,85,86],[1,2,6,8,10,12,34,35,36,84,85,86,106],[6,7],[1,2,6,8,10,12,34,35,36,84,85,86],[1,2,6,8,10,34,35,36],[1,2,6,8,10,34,35,36],[6,7]] i
def IZ(i:Nat):bW:=if i=8 then⟨[],[0,1,2,3,4,5,6,7,8,9,10,11,12,13,14,15,16,17,18,19,20,21,22,23,24],[(0,[]),(1,[]),(2,[]),(3,[]),(4,[]),(3,[]),(3,[]),(3,[6]),(3,[5,6,7]),(3,[5,6,7,8]),(3,[5,6,7,8,9]),(11,[]),(12,[]),(13,[]),(14,[]),(15,[]),(16,[]),(17,[]),(18,[]),(19,[]),(20,[]),(19,[]),(19,[21]),(23,[]),(24,[])],[]⟩else if i=10 then⟨[],[0,1,2,3,4,5,6,7,8,9,10,11,12,13],[(0,[]),(0,[]),(0,[]),(0,[2]),(0,[1,2,3]),(0,[1,2,3,4]),(0,[]),(0,[6]),(8,[]),(9,[]),(10,[]),(10,[]),(11,[]),(13,[])],[]⟩else if i=16 then⟨[],[0,1,2,3,4,5,6,7,8,9,10,11,12,13,14,15,16],[(0,[]),(0,[]),(0,[]),(0,[2]),(0,[1,2,3]),(0,[1,2,3,4]),(0,[]),(0,[6]),(0,[]),(0,[]),(0,[9]),(0,[8,9,10]),(0,[8,9,10,11]),(0,[]),(0,[13]),(15,[]),(16,[])],[]⟩else⟨[],[],[],[]⟩
def Fe:aw:=⟨[3,6,8,10,12,16],Ml,IZ⟩
def afN:okB Fe Tryz.f170=true:=by kernel_rfl
def Mm(i:Nat):List Nat:=kp [[1,2],[1,2,7,8],[1,2,7,8,9],[1,2,5,7,8],[1,2,5,7,8,14],[4],[1,2,7,8],[4]] i
def Ff:aw:=⟨[2],Mm,aT⟩
def afO:okB Ff Tryz.f171=true:=by kernel_rfl
def Mo(i:Nat):List Nat:=kp [[0],[0,5,6,7],[0,5,6,7,8],[0,3,4,5,6,7],[0,5,6,7,28],[2],[0,5,6,7],[2]] i
def I0(i:Nat):bW:=if i=4 then⟨[],[0,1,2,3,4,5,6,7,8,9,10,11,12,13,14,15,16],[(0,[]),(1,[]),(2,[]),(3,[]),(4,[]),(5,[]),(6,[]),(7,[]),(7,[]),(7,[8]),(10,[]),(11,[]),(7,[]),(13,[]),(14,[]),(15,[]),(16,[])],[]⟩else⟨[],[],[],[]⟩
def Fg:aw:=⟨[4],Mo,I0⟩
def afP:okB Fg Tryz.f172=true:=by kernel_rfl
def Mp(i:Nat):List Nat:=kp [[0],[2]] i
def Fh:aw:=⟨[],Mp,aT⟩
def afQ:okB Fh Tryz.f173=true:=by kernel_rfl
def Mq(i:Nat):List Nat:=kp [[0,1,2],[6]] i
def Fi:aw:=⟨[],Mq,aT⟩
def afR:okB Fi Tryz.f174=true:=by kernel_rfl
def Mr(i:Nat):List Nat:=kp [[0,1],[0,1,7,8,9],[0,1,7,8,9,10],[0,1,5,6,7,8,9],[0,1,7,8,9,33],[4],[0,1,7,8,9],[4]] i
def Fj:aw:=⟨[],Mr,aT⟩
def afS:okB Fj Tryz.f175=true:=by kernel_rfl
def Ms(i:Nat):List Nat:=kp [[0],[0,5,6,7],[0,5,6,7,8],[0,4,5,6,7],[0,5,6,7,26],[2],[0,5,6,7],[2]] i
def Fk:aw:=⟨[4],Ms,aT⟩
def afT:okB Fk Tryz.f176=true:=by kernel_rfl
def Mu(i:Nat):List Nat:=kp [[0],[0,3],[0,3,8],[0,3],[0,3,4],[0,3,50],[2],[2]] i
def I6(i:Nat):bW:=if i=5 then⟨[],[0,1,2,3,4,5,6,7,8,9,10,11,12,13,14,15,16,17,18,19,20,21,22,23,24,25,26,27,28,29,30,31,32,33,34,35],[(0,[]),(1,[]),(2,[]),(3,[]),(4,[]),(5,[]),(6,[]),(7,[]),(8,[]),(9,[]),(10,[]),(11,[]),(12,[]),(13,[]),(14,[]),(15,[]),(16,[]),(17,[]),(18,[]),(19,[]),(20,[]),(21,[]),(22,[]),(23,[]),(24,[]),(25,[]),(26,[]),(26,[]),(26,[27]),(29,[]),(30,[]),(26,[]),(32,[]),(33,[]),(34,[]),(35,[])],[]⟩else⟨[],[],[],[]⟩
def Fm:aw:=⟨[4],Mu,I6⟩
def afU:okB Fm Tryz.f180=true:=by kernel_rfl
def Mw(i:Nat):List Nat:=kp [[0,1,2],[6]] i
def Fo:aw:=⟨[],Mw,aT⟩
def P8:okB Fo Tryz.f181=true:=by kernel_rfl
def Mx(i:Nat):List Nat:=kp [[0,1],[0,1,5],[0,1,5,9],[0,1,5],[0,1,5,35],[4],[4]] i
def I7(i:Nat):bW:=if i=4 then⟨[],[0,1,2,3,4,5,6,7,8,9,10,11,12,13,14,15,16,17,18,19,20,21,22,23],[(0,[]),(0,[]),(2,[]),(3,[]),(0,[]),(0,[4]),(6,[]),(7,[]),(8,[]),(9,[]),(10,[]),(11,[]),(12,[]),(12,[]),(14,[]),(15,[]),(12,[]),(12,[]),(12,[17]),(12,[16,17,18]),(12,[16,17,18,19]),(21,[]),(22,[]),(23,[])],[]⟩else⟨[],[],[],[]⟩
def Fp:aw:=⟨[],Mx,I7⟩
def afV:okB Fp Tryz.f182=true:=by kernel_rfl
def My(i:Nat):List Nat:=kp [[0],[0,3],[0,3,7],[0,3],[0,3,34],[2],[2]] i
def Fq:aw:=⟨[],My,aT⟩
def afW:okB Fq Tryz.f183=true:=by kernel_rfl
def Mz(i:Nat):List Nat:=kp [[2,3],[4]] i
def Fs:aw:=⟨[2,3],Mz,aT⟩
def afX:okB Fs Tryz.f188=true:=by kernel_rfl
def MC(i:Nat):List Nat:=kp [[2,3],[2,3,26],[4],[4]] i
def I8(i:Nat):bW:=if i=3 then⟨[],[0,1,2,3,5,6,7,8,4,9,10,11],[(0,[]),(1,[]),(0,[]),(0,[2]),(4,[]),(0,[]),(0,[5]),(0,[]),(0,[7]),(9,[]),(10,[]),(11,[])],[]⟩else⟨[],[],[],[]⟩
def Fu:aw:=⟨[2,3],MC,I8⟩
def afZ:okB Fu Tryz.f193=true:=by kernel_rfl
def MD(i:Nat):List Nat:=kp [[0,1],[4]] i
def Fv:aw:=⟨[],MD,aT⟩
def af0:okB Fv Tryz.f194=true:=by kernel_rfl
def MF(i:Nat):List Nat:=kp [[1,2,3],[1,2,3,17],[6],[1,2,3,7],[1,2,3,7,30],[1,2,3,7],[6]] i
def Fw:aw:=⟨[3],MF,aT⟩
def af1:okB Fw Tryz.f195=true:=by kernel_rfl
def MG(i:Nat):List Nat:=kp [[0,1,2,3],[0,1,16],[8],[8]] i
def Fx:aw:=⟨[],MG,aT⟩
def af2:okB Fx Tryz.f196=true:=by kernel_rfl
def MH(i:Nat):List Nat:=kp [[1,2,3],[6]] i
def I9(i:Nat):bW:=if i=1 then⟨[],[0,1,2,3,4,5,6,7,8,9,10,11,12,13,14,15,16,17,18,19,20,21,22,23,25,26,24,27,28,29,30],[(0,[]),(0,[]),(2,[]),(3,[]),(4,[]),(4,[]),(6,[]),(7,[]),(8,[]),(9,[]),(9,[]),(11,[]),(12,[]),(13,[]),(14,[]),(15,[]),(14,[]),(17,[]),(18,[]),(14,[]),(14,[19]),(14,[]),(14,[19,20,21]),(14,[19,20,21,22]),(24,[]),(14,[]),(14,[25]),(27,[]),(28,[]),(29,[]),(30,[])],[]⟩else⟨[],[],[],[]⟩
def Fy:aw:=⟨[3],MH,I9⟩
def af3:okB Fy Tryz.f197=true:=by kernel_rfl
def MJ(i:Nat):List Nat:=kp [[0],[0,3],[0,3,4],[3,4,7],[3,4],[0,3,4],[2]] i
def FA:aw:=⟨[],MJ,aT⟩
def af5:okB FA Tryz.f202=true:=by kernel_rfl
def MK(i:Nat):List Nat:=kp [[0],[0,4],[2],[2]] i
def FC:aw:=⟨[],MK,aT⟩
def af6:okB FC Tryz.f203=true:=by kernel_rfl
def ML(i:Nat):List Nat:=kp [[1,2],[2,3]] i
def Jb(i:Nat):bW:=if i=1 then⟨[],[0,1,4,2,3,5,6,7],[(0,[]),(0,[]),(0,[1]),(3,[]),(0,[]),(0,[1,2,4]),(6,[]),(7,[])],[]⟩else⟨[],[],[],[]⟩
def FD:aw:=⟨[1,2],ML,Jb⟩
def af7:okB FD Tryz.f204=true:=by kernel_rfl
def MM(i:Nat):List Nat:=kp [[2,3,4],[2,3,4,12],[6,7],[3,4,8,9],[8,33],[6,7],[6,7]] i
def FE:aw:=⟨[3,4],MM,aT⟩
def af8:okB FE Tryz.f205=true:=by kernel_rfl
def MN(i:Nat):List Nat:=kp [[1,2,3],[1,8,9],[1,8,24],[6,7],[1,8,10],[1,8,10,29,30],[1,8,10,29,30,31],[1,8,10,11,29,30],[1,8,10,11,12,13,29,30],[1,8,10,11,12,29,30,40],[1,8,10,29,30],[1,8,10,11,29,30],[1,8,10,11,29,30,58],[1,8,10,11,29,30,58,60],[1,8,10,11,14,15,29,30,58],[1,8,10,11,29,30,58],[1,8,10,29,30],[6,7]] i
def Jc(i:Nat):bW:=if i=11 then⟨[],[0,1,2,3,4,5,6,7,8,9,10],[(0,[]),(0,[]),(0,[]),(0,[2]),(0,[]),(0,[]),(0,[4,5]),(0,[4,5,6]),(0,[2,3,4,5,6,7]),(9,[]),(10,[])],[]⟩else if i=15 then⟨[],[0,1,2,3,4,5,6,7,8,9,10,11,12],[(0,[]),(0,[]),(0,[]),(0,[]),(0,[]),(0,[3,4]),(0,[3,4,5]),(0,[]),(0,[]),(0,[]),(0,[2,3,4,5,6,7,8,9]),(11,[]),(12,[])],[]⟩else⟨[],[],[],[]⟩
def FF:aw:=⟨[3,8],MN,Jc⟩
def af9:okB FF Tryz.f206=true:=by kernel_rfl
def MO(i:Nat):List Nat:=kp [[1,2,3],[1,2,15],[6],[2,7],[2,7,20,21],[2,7,20,21,22],[2,7,8,20,21],[2,7,20,21],[2,7,20,21],[7,28,29,30],[7,28,29,30,31],[7,10,28,29,30],[7,28,29,30],[7,28,29,30],[6]] i
def FG:aw:=⟨[3,10],MO,aT⟩
def aga:okB FG Tryz.f207=true:=by kernel_rfl
def MP(i:Nat):List Nat:=kp [[0],[0,3],[0,3,15],[0,3,4],[0,3,4,36],[0,3],[0,3],[0,4],[0],[0,3],[2]] i
def Jd(i:Nat):bW:=if i=3 then⟨[],[0,1,2,3,4,5,6,7,8,9,10,11],[(0,[]),(1,[]),(2,[]),(3,[]),(0,[]),(0,[4]),(0,[4,5]),(0,[4,5,6]),(0,[4,5,6,7]),(0,[4,5,6,7,8]),(10,[]),(11,[])],[]⟩else if i=4 then⟨[],[0,1,2,3,4,5,6,7,8,9],[(0,[]),(1,[]),(2,[]),(3,[]),(0,[]),(0,[4]),(0,[4,5]),(0,[4,5,6]),(0,[4,5,6,7]),(9,[])],[]⟩else if i=5 then⟨[],[0,1,2,3,4,5,6,7,8,9,10,11,12,13,14],[(0,[]),(0,[]),(0,[1]),(0,[1,2]),(0,[1,2,3]),(0,[]),(0,[5]),(0,[5,6]),(0,[5,6,7]),(0,[5,6,7,8]),(0,[5,6,7,8,9]),(0,[1,2,3,4,5,6,7,8,9,10]),(12,[]),(13,[]),(14,[])],[]⟩else if i=8 then⟨[],[0,1,2,3,4,5,6,7,8,9,10,11,12,13,14,15],[(0,[]),(1,[]),(2,[]),(3,[]),(0,[]),(0,[4]),(0,[4,5]),(0,[4,5,6]),(0,[]),(0,[8]),(0,[8,9]),(0,[8,9,10]),(0,[8,9,10,11]),(0,[4,5,6,7,8,9,10,11,12]),(0,[4,5,6,7,8,9,10,11,12,13]),(15,[])],[]⟩else⟨[],[],[],[]⟩
def FH:aw:=⟨[],MP,Jd⟩
def agb:okB FH Tryz.f208=true:=by kernel_rfl
def MQ(i:Nat):List Nat:=kp [[0],[2]] i
def FI:aw:=⟨[],MQ,aT⟩
def agc:okB FI Tryz.f209=true:=by kernel_rfl
def MS(i:Nat):List Nat:=kp [[1,2],[1,2,5],[1,2,5,11],[1,2,5],[1,2,5,16,17,18],[1,2,5,16,17,18,19],[1,2,5,6,7,16,17,18],[1,2,5,6,16,17,18,35],[1,2,5,16,17,18],[1,2,5,16,17,18],[4]] i
def Je(i:Nat):bW:=if i=7 then⟨[],[0,1,2,3,4,5,6,7,8,9,10,11,12],[(0,[]),(1,[]),(0,[]),(3,[]),(4,[]),(0,[]),(0,[5]),(0,[]),(0,[7]),(0,[5,6,7,8]),(0,[]),(0,[10]),(12,[])],[]⟩else⟨[],[],[],[]⟩
def FL:aw:=⟨[2,7],MS,Je⟩
def age:okB FL Tryz.f210=true:=by kernel_rfl
def MT(i:Nat):List Nat:=kp [[0,1],[0,1,8],[0,1,12],[4],[0,1,12,14],[0,1],[0,1,18],[0,1,29],[0,1],[4]] i
def FM:aw:=⟨[],MT,aT⟩
def agf:okB FM Tryz.f211=true:=by kernel_rfl
def MU(i:Nat):List Nat:=kp [[0,1,2,4],[4]] i
def FN:aw:=⟨[4],MU,aT⟩
def agh:okB FN Tryz.f212=true:=by kernel_rfl
def vY(i:Nat):List Nat:=kp [[0],[0,3],[0,3,4],[0,3,6],[0,3,8],[0,3,10],[0,3,12],[0,14],[2],[2],[2],[2],[0,16],[2],[23],[2],[2]] i
def vH:aw:=⟨[],vY,aT⟩
def agi:okB vH Tryz.f213=true:=by kernel_rfl
def MV(i:Nat):List Nat:=kp [[0,1,2],[0,1,2,18],[0,1,2],[6]] i
def FO:aw:=⟨[],MV,aT⟩
def agj:okB FO Tryz.f214=true:=by kernel_rfl
def MW(i:Nat):List Nat:=kp [[0,1],[0,1,7],[0,1,7,16],[0,1,7],[0,1,7,8],[0,1,7,8,9],[0,1,7,8,9,26],[0,1,7,8,9,26,27,28],[0,1,7,8,9,11,26],[0,1,7,8,9,26],[0,1,7,8,9,39],[0,1,7,8,9],[0,1,8,9,52],[4,5,6],[4,5,6]] i
def FP:aw:=⟨[],MW,aT⟩
def agk:okB FP Tryz.f215=true:=by kernel_rfl
def MX(i:Nat):List Nat:=kp [[0],[0,4],[4,5],[4,5,6],[4,5,6],[4,5,6],[2,3],[4,5,11],[2,3],[4,5,14],[2,3],[5,18],[2,3],[21],[2,3],[2,3]] i
def FQ:aw:=⟨[],MX,aT⟩
def agl:okB FQ Tryz.f216=true:=by kernel_rfl
def MY(i:Nat):List Nat:=kp [[0],[3],[3,4],[2],[6],[2],[2]] i
def FT:aw:=⟨[],MY,aT⟩
def agm:okB FT Tryz.f217=true:=by kernel_rfl
def MZ(i:Nat):List Nat:=kp [[0,1],[0,1,7,8],[0,1,7,8,9],[0,1,5,7,8],[0,1,5,7,8,16],[4],[0,1,7,8],[4]] i
def FU:aw:=⟨[],MZ,aT⟩
def P9:okB FU Tryz.f218=true:=by kernel_rfl
def Na(i:Nat):List Nat:=kp [[2,4,5,6,8],[2,4,5,6,8,11],[2,4,5,6,8,11,19],[2,4,5,6,8,11],[2,4,5,6,8,11,12],[2,4,5,6,8,11,12,28],[2,4,5,6,8,11,12],[2,4,5,6,8,11,12,51],[10],[10]] i
def Jh(i:Nat):bW:=if i=7 then⟨[],[0,1,2,3,4,5,6,7,8,9,10,11,12,13,14,15,16,17,18,19,20],[(0,[]),(0,[]),(2,[]),(3,[]),(4,[]),(5,[]),(6,[]),(4,[]),(8,[]),(9,[]),(4,[]),(4,[10]),(4,[10,11]),(4,[]),(4,[10,11,12,13]),(4,[10,11,12,13,14]),(4,[]),(4,[16]),(4,[16,17]),(19,[]),(20,[])],[]⟩else⟨[],[],[],[]⟩
def FZ:aw:=⟨[5,6,8],Na,Jh⟩
def agr:okB FZ Tryz.f222=true:=by kernel_rfl
def Nb(i:Nat):List Nat:=kp [[1,2,3],[1,2,3,7,8],[1,2,3,19],[6],[1,2,3,29],[6],[1,2,3,10],[1,2,3,51],[6],[1,2,3,52,53],[1,2,3,52,53,54],[1,2,3,11,52,53],[1,2,3,52,53,84],[6],[1,2,3,52,53],[6]] i
def Ji(i:Nat):bW:=if i=6 then⟨[],[0,1,2,3,4,5,6,7,8,9,10,11,12,13,14,15,16],[(0,[]),(1,[]),(0,[]),(0,[2]),(0,[]),(0,[2,3,4]),(0,[2,3,4,5]),(0,[]),(0,[]),(0,[7,8]),(0,[7,8,9]),(11,[]),(12,[]),(13,[]),(13,[]),(14,[]),(16,[])],[]⟩else if i=12 then⟨[],[0,1,2,3,4,5,6,7,8,9,10,11,12,13,14,15,16,17,18,19,20,21,22,23,24,25,26,27,28],[(0,[]),(0,[]),(2,[]),(3,[]),(4,[]),(5,[]),(6,[]),(7,[]),(6,[]),(6,[8]),(6,[]),(6,[8,9,10]),(6,[8,9,10,11]),(6,[]),(6,[]),(6,[13,14]),(6,[13,14,15]),(6,[]),(6,[17]),(6,[]),(6,[17,18,19]),(6,[17,18,19,20]),(6,[]),(6,[]),(6,[22,23]),(6,[22,23,24]),(26,[]),(27,[]),(28,[])],[]⟩else⟨[],[],[],[]⟩
def F0:aw:=⟨[3],Nb,Ji⟩
def ags:okB F0 Tryz.f223=true:=by kernel_rfl
def Nc(i:Nat):List Nat:=kp [[1],[1,4],[1,4,5],[1,4,7],[1,9],[2],[2]] i
def F6:aw:=⟨[1],Nc,aT⟩
def agt:okB F6 Tryz.f224=true:=by kernel_rfl
def Nd(i:Nat):List Nat:=kp [[0],[2]] i
def F7:aw:=⟨[],Nd,aT⟩
def agu:okB F7 Tryz.f225=true:=by kernel_rfl
def Nf(i:Nat):List Nat:=kp [[0],[2]] i
def F8:aw:=⟨[],Nf,aT⟩
def Qa:okB F8 Tryz.f229=true:=by kernel_rfl
def Ng(i:Nat):List Nat:=kp [[0],[2]] i
def F9:aw:=⟨[],Ng,aT⟩
def agv:okB F9 Tryz.f238=true:=by kernel_rfl
def Nh(i:Nat):List Nat:=kp [[1,2],[4]] i
def Ga:aw:=⟨[2],Nh,aT⟩
def agw:okB Ga Tryz.f239=true:=by kernel_rfl
def Ni(i:Nat):List Nat:=kp [[0,1],[4]] i
def Gb:aw:=⟨[],Ni,aT⟩
def agx:okB Gb Tryz.f240=true:=by kernel_rfl
def Nj(i:Nat):List Nat:=kp [[1,2],[4]] i
def Jj(i:Nat):bW:=if i=1 then⟨[],[0,1,2,3,4,5,6,7,8,9,10,11,12,13,14,15,16,17,18,19,20,21,22,23,24,25,26,27,28,29,30,31,32,33,34,35,36,37,38,39,40,41,42,43,44],[(0,[]),(0,[]),(2,[]),(3,[]),(4,[]),(4,[]),(4,[5]),(7,[]),(8,[]),(9,[]),(10,[]),(11,[]),(10,[]),(13,[]),(14,[]),(15,[]),(10,[]),(10,[16]),(10,[]),(10,[18]),(10,[16,17,18,19]),(10,[16,17,18,19,20]),(10,[16,17,18,19,20,21]),(23,[]),(24,[]),(25,[]),(26,[]),(27,[]),(26,[]),(26,[28]),(30,[]),(31,[]),(32,[]),(26,[]),(26,[33]),(26,[]),(26,[33,34,35]),(26,[33,34,35,36]),(26,[33,34,35,36,37]),(39,[]),(26,[]),(26,[40]),(42,[]),(43,[]),(44,[])],[]⟩else⟨[],[],[],[]⟩
def Gc:aw:=⟨[2],Nj,Jj⟩
def agy:okB Gc Tryz.f241=true:=by kernel_rfl
def Nk(i:Nat):List Nat:=kp [[1,2,3,4],[2,3,27],[8,9],[8,9]] i
def Gd:aw:=⟨[4],Nk,aT⟩
def agz:okB Gd Tryz.f245=true:=by kernel_rfl
def Nl(i:Nat):List Nat:=kp [[2,3,4],[2,4,7],[2,4,7,8,9],[2,7,8,9,13,14],[2,7,8,9,13,14,15],[2,7,8,9,10,13,14],[2,7,8,9,10,13,14,19],[2,7,8,9,10,13,14,19,20],[2,7,8,9,10,13,14],[2,7,8,9,13,14,35],[6],[2,7,8,9,13,14,36],[2,7,8,9,13,14],[2,7,8,9,13,14],[2,8,41],[48],[6],[6]] i
def Ge:aw:=⟨[],Nl,aT⟩
def agA:okB Ge Tryz.f246=true:=by kernel_rfl
def Nn(i:Nat):List Nat:=kp [[2,3],[2,3,5],[2,3,5,12,13],[2,3,5,12,13,14],[2,3,5,6,12,13],[2,3,5,6,8,12,13],[2,3,5,6,12,13,23],[2,3,5,12,13],[2,3,5,12,13],[4]] i
def Gf:aw:=⟨[2,3],Nn,aT⟩
def agB:okB Gf Tryz.f247=true:=by kernel_rfl
def Np(i:Nat):List Nat:=kp [[1,2,3,4,5],[1,2,3,4,5,11],[2,3,4,5,11,14,15,16],[2,3,4,5,11,14,15,16,17],[2,3,4,5,11,13,14,15,16],[2,3,4,5,11,13,14,15,16,34],[2,3,4,5,11,14,15,16],[2,3,4,5,11,14,15,16],[10]] i
def Jk(i:Nat):bW:=if i=5 then⟨[],[0,1,2,3,4,5,6,7,8,9,10,11,12,13,14],[(0,[]),(1,[]),(0,[]),(0,[2]),(0,[]),(0,[2,3,4]),(0,[2,3,4,5]),(0,[]),(0,[]),(0,[8]),(0,[]),(0,[8,9,10]),(0,[8,9,10,11]),(0,[]),(14,[])],[]⟩else⟨[],[],[],[]⟩
def Gg:aw:=⟨[5],Np,Jk⟩
def agC:okB Gg Tryz.f248=true:=by kernel_rfl
def Nq(i:Nat):List Nat:=kp [[1,2,3],[8],[6]] i
def Gh:aw:=⟨[3,7],Nq,aT⟩
def agD:okB Gh Tryz.f249=true:=by kernel_rfl
def Nr(i:Nat):List Nat:=kp [[0],[0,13],[2],[0],[0],[],[0,39],[0,3],[0,3,61],[0],[],[0,80],[0],[],[2]] i
def Jl(i:Nat):bW:=if i=1 then⟨[],[0,1,2,3,4,5,6,7,8,9],[(0,[]),(1,[]),(2,[]),(3,[]),(4,[]),(0,[]),(0,[5]),(0,[5,6]),(0,[5,6,7]),(9,[])],[]⟩else if i=6 then⟨[],[0,1,2,3,5,6,7,8,9,4,10,11],[(0,[]),(1,[]),(2,[]),(3,[]),(4,[]),(0,[]),(0,[5]),(0,[5,6]),(0,[5,6,7]),(0,[5,6,7,8]),(10,[]),(11,[])],[]⟩else if i=11 then⟨[],[0,1,2,3,5,6,7,8,4,9,10],[(0,[]),(1,[]),(2,[]),(3,[]),(4,[]),(0,[]),(0,[5]),(0,[5,6]),(0,[5,6,7]),(9,[]),(10,[])],[]⟩else if i=12 then⟨[],[0,1,2,3,4,5,6,7,8,9,10,11,12,13,14,15],[(0,[]),(0,[]),(0,[1]),(0,[1,2]),(0,[1,2,3]),(0,[]),(0,[5]),(0,[5,6]),(0,[5,6,7]),(0,[5,6,7,8]),(0,[5,6,7,8,9]),(0,[5,6,7,8,9,10]),(0,[1,2,3,4,5,6,7,8,9,10,11]),(13,[]),(14,[]),(15,[])],[]⟩else⟨[],[],[],[]⟩
def Gi:aw:=⟨[],Nr,Jl⟩
def agE:okB Gi Tryz.f250=true:=by kernel_rfl
def Ns(i:Nat):List Nat:=kp [[0],[0,5],[2],[],[2]] i
def Jm(i:Nat):bW:=if i=3 then⟨[],[0,1,2,3,4,5,6,7,8,9,10,11,12,13,14,15,16,17,18,19,20,21,22,23,24,25,26,27,28,29],[(0,[]),(0,[]),(0,[]),(0,[2]),(0,[2,3]),(0,[2,3,4]),(0,[]),(0,[6]),(0,[6,7]),(0,[6,7,8]),(0,[6,7,8,9]),(0,[6,7,8,9,10]),(0,[2,3,4,5,6,7,8,9,10,11]),(0,[]),(0,[13]),(0,[13,14]),(0,[13,14,15]),(0,[]),(0,[17]),(0,[17,18]),(0,[17,18,19]),(0,[17,18,19,20]),(0,[17,18,19,20,21]),(0,[13,14,15,16,17,18,19,20,21,22]),(1,[2,3,4,5,6,7,8,9,10,11,12,13,14,15,16,17,18,19,20]),(1,[2,3,4,5,6,7,8,9,10,11,12,13,14,15,16,17,18,19,20,24]),(1,[2,3,4,5,6,7,8,9,10,11,12,13,14,15,16,17,18,19,20,24,25]),(27,[]),(28,[]),(29,[])],[]⟩else⟨[],[],[],[]⟩
def Gj:aw:=⟨[],Ns,Jm⟩
def agF:okB Gj Tryz.f251=true:=by kernel_rfl
def Nt(i:Nat):List Nat:=kp [[0,1],[0,1,5],[0,1,5,36],[4],[0,1,5,6],[0,1,5,6],[0,1,5,6,44],[0,1,5,6],[0,1,5,6,7],[0,1,5,6,7,55],[0,1,5,6,7],[0,1,5,6,7],[],[4]] i
def Jn(i:Nat):bW:=if i=11 then⟨[],[0,1,2,3,4,5,6,7,8,9,10,11,12,13,14,15],[(0,[]),(0,[]),(0,[]),(0,[2]),(0,[2,3]),(0,[2,3,4]),(0,[]),(0,[]),(0,[6,7]),(0,[6,7,8]),(0,[]),(0,[]),(0,[]),(0,[2,3,4,5,6,7,8,9,10,11,12]),(14,[]),(15,[])],[]⟩else if i=12 then⟨[],[0,1,2,3,4,5,6,9,10,11,12,13,7,8,14,15,16,17,18,19,20,21],[(0,[]),(0,[]),(0,[]),(0,[2]),(0,[2,3]),(0,[2,3,4]),(0,[]),(0,[6]),(0,[2,3,4,5,6,7]),(0,[]),(0,[9]),(0,[9,10]),(0,[9,10,11]),(0,[]),(0,[13]),(0,[2,3,4,5,6,7,8,9,10,11,12,13,14]),(1,[2,3,4,5,6,7,8,9,10,11,12,13,14,15]),(1,[2,3,4,5,6,7,8,9,10,11,12,13,14,15,16]),(1,[2,3,4,5,6,7,8,9,10,11,12,13,14,15,16,17]),(19,[]),(20,[]),(21,[])],[[0,1,2,3,4,5,6,9,10,11,12,13,7,14,8,15,16,17,18,19,20,21],[0,1,2,3,4,5,6,9,10,11,12,13,14,7,8,15,16,17,18,19,20,21]]⟩else⟨[],[],[],[]⟩
def Gk:aw:=⟨[],Nt,Jn⟩
def agG:okB Gk Tryz.f252=true:=by kernel_rfl
def Nu(i:Nat):List Nat:=kp [[0,1],[4]] i
def Gl:aw:=⟨[],Nu,aT⟩
def agH:okB Gl Tryz.f253=true:=by kernel_rfl
def Nv(i:Nat):List Nat:=kp [[1],[2]] i
def Gm:aw:=⟨[1],Nv,aT⟩
def agI:okB Gm Tryz.f254=true:=by kernel_rfl
def Nw(i:Nat):List Nat:=kp [[2,3,4],[6]] i
def Gn:aw:=⟨[3,4],Nw,aT⟩
def agJ:okB Gn Tryz.f255=true:=by kernel_rfl
def Nx(i:Nat):List Nat:=kp [[0],[2]] i
def Gp:aw:=⟨[],Nx,aT⟩
def agK:okB Gp Tryz.f256=true:=by kernel_rfl
def Ny(i:Nat):List Nat:=kp [[0],[2]] i
def Gq:aw:=⟨[],Ny,aT⟩
def agL:okB Gq Tryz.f257=true:=by kernel_rfl
def NC(i:Nat):List Nat:=kp [[1,2,3,4],[1,2,3,4,9],[1,2,3,4,9,32],[1,2,3,4,9],[8]] i
def Gu:aw:=⟨[4],NC,aT⟩
def agP:okB Gu Tryz.f284=true:=by kernel_rfl
def ND(i:Nat):List Nat:=kp [[0,1],[0,1,5],[0,5,7,8],[0,5,7,8,9],[0,5,6,7,8],[0,5,7,8],[0,5,7,8],[4]] i
def Gv:aw:=⟨[],ND,aT⟩
def agQ:okB Gv Tryz.f285=true:=by kernel_rfl
def NF(i:Nat):List Nat:=kp [[0,1,2],[0,1,2,12],[4],[4]] i
def Jq(i:Nat):bW:=if i=3 then⟨[],[0,1,2,3,4,5,6,7,8,9,10],[(0,[]),(1,[]),(2,[]),(0,[]),(0,[]),(0,[3,4]),(0,[3,4,5]),(7,[]),(8,[]),(9,[]),(10,[])],[]⟩else⟨[],[],[],[]⟩
def Gw:aw:=⟨[],NF,Jq⟩
def agR:okB Gw Tryz.f286=true:=by kernel_rfl
def NG(i:Nat):List Nat:=kp [[0],[0,4],[2],[2]] i
def Gx:aw:=⟨[],NG,aT⟩
def agS:okB Gx Tryz.f287=true:=by kernel_rfl
def NH(i:Nat):List Nat:=kp [[0],[0,7],[2],[0,3],[0,3,9,10,11],[0,3,9,10,11,12],[0,3,4,5,9,10,11],[0,3,4,9,10,11,18],[0,3,9,10,11],[0,3,9,10,11],[2]] i
def Gy:aw:=⟨[],NH,aT⟩
def agT:okB Gy Tryz.f288=true:=by kernel_rfl
def NI(i:Nat):List Nat:=kp [[0],[0,4],[2],[2]] i
def Gz:aw:=⟨[],NI,aT⟩
def agU:okB Gz Tryz.f289=true:=by kernel_rfl
def NK(i:Nat):List Nat:=kp [[0],[0,3],[0,3,4],[4,13],[4],[2]] i
def GB:aw:=⟨[],NK,aT⟩
def agW:okB GB Tryz.f290=true:=by kernel_rfl
def NL(i:Nat):List Nat:=kp [[0,1],[0,1,5],[0,1,8],[4],[4]] i
def GC:aw:=⟨[],NL,aT⟩
def agX:okB GC Tryz.f291=true:=by kernel_rfl
def NM(i:Nat):List Nat:=kp [[0,1],[0,1,10],[4],[6],[4]] i
def GD:aw:=⟨[],NM,aT⟩
def agY:okB GD Tryz.f292=true:=by kernel_rfl
def NN(i:Nat):List Nat:=kp [[0],[2]] i
def Js(i:Nat):bW:=if i=1 then⟨[],[0,1,2,3,4,5,6,7,8,9,10,11,12],[(0,[]),(1,[]),(2,[]),(3,[]),(0,[]),(0,[4]),(0,[4,5]),(0,[4,5,6]),(0,[4,5,6,7]),(0,[4,5,6,7,8]),(10,[]),(11,[]),(12,[])],[]⟩else⟨[],[],[],[]⟩
def GF:aw:=⟨[],NN,Js⟩
def agZ:okB GF Tryz.f293=true:=by kernel_rfl
def NO(i:Nat):List Nat:=kp [[0],[0,4],[2],[2]] i
def GG:aw:=⟨[],NO,aT⟩
def ag0:okB GG Tryz.f294=true:=by kernel_rfl
def NP(i:Nat):List Nat:=kp [[0,1],[0,1,7,8],[0,1,7,8,9],[0,1,5,7,8],[0,1,5,7,8,16],[4],[0,1,7,8],[4]] i
def GH:aw:=⟨[],NP,aT⟩
def ag1:okB GH Tryz.f295=true:=by kernel_rfl
def NQ(i:Nat):List Nat:=kp [[2,3],[2,3,11,12,13],[2,3,11,12,13,14],[2,3,6,11,12,13],[2,3,11,12,13,26],[4],[2,3,11,12,13],[7,8],[4]] i
def Jt(i:Nat):bW:=if i=7 then⟨[],[0,1,2,3,4,5,6,7,8,9,10,11],[(0,[]),(1,[]),(0,[]),(0,[2]),(4,[]),(0,[]),(0,[5]),(0,[]),(0,[7]),(0,[5,6,7,8]),(5,[]),(11,[])],[]⟩else⟨[],[],[],[]⟩
def GI:aw:=⟨[2,3,6],NQ,Jt⟩
def ag5:okB GI Tryz.f296=true:=by kernel_rfl
def NT(i:Nat):List Nat:=kp [[1,2,3],[1,2,3,7],[1,2,10],[1,2,16],[6],[6]] i
def GL:aw:=⟨[3],NT,aT⟩
def ag8:okB GL Tryz.f310=true:=by kernel_rfl
def NU(i:Nat):List Nat:=kp [[1,2],[4]] i
def Ju(i:Nat):bW:=if i=1 then⟨[],[0,1,2,3,4,5,6,7,8,9,10,11,12,13,14,15,16,17,18,19,20,21,22,23,24,25,26,27,28,29,30,31,32,33,34,35,36,37,38,39,40,41,42,43,44,45],[(0,[]),(1,[]),(2,[]),(3,[]),(3,[]),(3,[4]),(3,[4,5]),(3,[4,5,6]),(8,[]),(9,[]),(10,[]),(11,[]),(12,[]),(11,[]),(11,[13]),(15,[]),(16,[]),(17,[]),(11,[]),(11,[18]),(11,[]),(11,[18,19,20]),(11,[18,19,20,21]),(11,[18,19,20,21,22]),(24,[]),(25,[]),(26,[]),(27,[]),(28,[]),(27,[]),(27,[29]),(31,[]),(32,[]),(33,[]),(27,[]),(27,[34]),(27,[]),(27,[34,35,36]),(27,[34,35,36,37]),(27,[34,35,36,37,38]),(40,[]),(27,[]),(27,[41]),(43,[]),(44,[]),(45,[])],[]⟩else⟨[],[],[],[]⟩
def GM:aw:=⟨[2],NU,Ju⟩
def aha:okB GM Tryz.f311=true:=by kernel_rfl
def NV(i:Nat):List Nat:=kp [[0,1],[0,1,8],[4],[4]] i
def GN:aw:=⟨[],NV,aT⟩
def ahb:okB GN Tryz.f312=true:=by kernel_rfl
def anw:PP.underlying 2=some (.int .i64):=by kernel_rfl
def wX:dj PP 2=some 1:=by kernel_rfl
def Va:ei PP 2=some false:=by kernel_rfl
def RX:PP.underlying 3=some (.int .i64):=by kernel_rfl
def amv:dj PP 3=some 1:=by kernel_rfl
def uh:PP.cellsOf 3=1:=by kernel_rfl
def zZ:jB PP 3=some 8:=by kernel_rfl
def Vm:ei PP 3=some false:=by kernel_rfl
def Cz:eg PP 3=some [(.int .i64 0)]:=by kernel_rfl
def anJ:PP.underlying 4=some .bool:=by kernel_rfl
def amC:dj PP 4=some 1:=by kernel_rfl
def Iq:PP.cellsOf 4=1:=by kernel_rfl
def Dq:jB PP 4=some 1:=by kernel_rfl
def Vt:ei PP 4=some false:=by kernel_rfl
def SE:eg PP 4=some [(.bool false)]:=by kernel_rfl
def anL:PP.underlying 5=some (.int .u8):=by kernel_rfl
def anQ:PP.underlying 9=some .string:=by kernel_rfl
def amL:dj PP 9=some 1:=by kernel_rfl
def Iw:PP.cellsOf 9=1:=by kernel_rfl
def Du:jB PP 9=some 16:=by kernel_rfl
def VC:ei PP 9=some false:=by kernel_rfl
def SJ:eg PP 9=some [(.string {data:=#[]})]:=by kernel_rfl
def anA:PP.underlying 21=some (.int .i32):=by kernel_rfl
def RT:PP.underlying 22=some (.slice 3):=by kernel_rfl
def aml:dj PP 22=some 1:=by kernel_rfl
def XX:PP.cellsOf 22=1:=by kernel_rfl
def WS:jB PP 22=some 24:=by kernel_rfl
def Vc:ei PP 22=some false:=by kernel_rfl
def aoC:eg PP 22=some [(.slice none 0 0)]:=by kernel_rfl
def JY:gu PP 22=some (3,1):=by kernel_rfl
def anB:PP.underlying 23=some (.slice 31):=by kernel_rfl
def YT:gu PP 23=some (31,5):=by kernel_rfl
def RV:PP.underlying 26=some (.pointer 77):=by kernel_rfl
def anF:PP.underlying 29=some (.struct #[⟨ "Size",3,0,false,"","",0⟩,⟨ "Wheels",3,1,false,"","",8⟩]):=by kernel_rfl
def amu:dj PP 29=some 2:=by kernel_rfl
def Im:PP.cellsOf 29=2:=by kernel_rfl
def Dk:jB PP 29=some 16:=by kernel_rfl
def Vl:ei PP 29=some true:=by kernel_rfl
def Sz:eg PP 29=some [(.int .i64 0),(.int .i64 0)]:=by kernel_rfl
def alk:PP.stoodInHeld 29=false:=by kernel_rfl
def adO:cg PP 29 0=some (0,3,1):=by kernel_rfl
def adP:cg PP 29 1=some (1,3,1):=by kernel_rfl
def Wz:∀σ parts,fX PP σ 29 parts=iu σ [(0,1),(1,1)] [(.int .i64 0),(.int .i64 0)] parts:=iX (by kernel_rfl)
def amw:dj PP 31=some 5:=by kernel_rfl
def Vn:ei PP 31=some true:=by kernel_rfl
def aoI:eg PP 31=some [(.int .i64 0),(.int .i64 0),(.int .i64 0),(.int .i64 0),(.string {data:=#[]})]:=by kernel_rfl
def adS:cg PP 31 0=some (0,3,1):=by kernel_rfl
def adT:cg PP 31 1=some (1,3,1):=by kernel_rfl
def adU:cg PP 31 2=some (2,29,2):=by kernel_rfl
def adV:cg PP 31 3=some (4,9,1):=by kernel_rfl
def WB:∀σ parts,fX PP σ 31 parts=iu σ [(0,1),(1,1),(2,2),(4,1)] [(.int .i64 0),(.int .i64 0),(.int .i64 0),(.int .i64 0),(.string {data:=#[]})] parts:=iX (by kernel_rfl)
def RY:PP.underlying 33=some (.slice 43):=by kernel_rfl
def amy:dj PP 33=some 1:=by kernel_rfl
def Vp:ei PP 33=some false:=by kernel_rfl
def J0:gu PP 33=some (43,6):=by kernel_rfl
def anI:PP.underlying 36=some (.struct #[⟨ "Line",3,0,false,"","",0⟩,⟨ "Col",3,1,false,"","",8⟩]):=by kernel_rfl
def amA:dj PP 36=some 2:=by kernel_rfl
def Vr:ei PP 36=some true:=by kernel_rfl
def aoJ:eg PP 36=some [(.int .i64 0),(.int .i64 0)]:=by kernel_rfl
def ZZ:PP.eqGuardType PP.depth 36=false:=by kernel_rfl
def alm:PP.stoodInHeld 36=false:=by kernel_rfl
def aeb:cg PP 36 0=some (0,3,1):=by kernel_rfl
def aec:cg PP 36 1=some (1,3,1):=by kernel_rfl
def WE:∀σ parts,fX PP σ 36 parts=iu σ [(0,1),(1,1)] [(.int .i64 0),(.int .i64 0)] parts:=iX (by kernel_rfl)
def amB:dj PP 38=some 5:=by kernel_rfl
def Vs:ei PP 38=some true:=by kernel_rfl
def aoK:eg PP 38=some [(.int .i64 0),(.int .i64 0),(.int .i64 0),(.int .i64 0),(.slice none 0 0)]:=by kernel_rfl
def aed:cg PP 38 0=some (0,3,1):=by kernel_rfl
def aee:cg PP 38 1=some (1,3,1):=by kernel_rfl
def aef:cg PP 38 3=some (4,22,1):=by kernel_rfl
def WG:∀σ parts,fX PP σ 38 parts=iu σ [(0,1),(1,1),(2,2),(4,1)] [(.int .i64 0),(.int .i64 0),(.int .i64 0),(.int .i64 0),(.slice none 0 0)] parts:=iX (by kernel_rfl)
def R7:PP.underlying 39=some (.slice 73):=by kernel_rfl
def J2:gu PP 39=some (73,9):=by kernel_rfl
def anK:PP.underlying 43=some (.struct #[⟨ "Id",3,0,false,"","",0⟩,⟨ "State",3,1,false,"","",8⟩,⟨ "Party",29,2,false,"","",16⟩,⟨ "Until",2,4,false,"","",32⟩,⟨ "First",3,5,false,"","",40⟩]):=by kernel_rfl
def amD:dj PP 43=some 6:=by kernel_rfl
def It:PP.cellsOf 43=6:=by kernel_rfl
def Dr:jB PP 43=some 48:=by kernel_rfl
def Vu:ei PP 43=some true:=by kernel_rfl
def SF:eg PP 43=some [(.int .i64 0),(.int .i64 0),(.int .i64 0),(.int .i64 0),(.int .i64 0),(.int .i64 0)]:=by kernel_rfl
def Z0:PP.eqGuardType PP.depth 43=false:=by kernel_rfl
def aln:PP.stoodInHeld 43=false:=by kernel_rfl
def aeg:cg PP 43 0=some (0,3,1):=by kernel_rfl
def aeh:cg PP 43 1=some (1,3,1):=by kernel_rfl
def aei:cg PP 43 2=some (2,29,2):=by kernel_rfl
def aej:cg PP 43 3=some (4,2,1):=by kernel_rfl
def aek:cg PP 43 4=some (5,3,1):=by kernel_rfl
def WH:∀σ parts,fX PP σ 43 parts=iu σ [(0,1),(1,1),(2,2),(4,1),(5,1)] [(.int .i64 0),(.int .i64 0),(.int .i64 0),(.int .i64 0),(.int .i64 0),(.int .i64 0)] parts:=iX (by kernel_rfl)
def anM:PP.underlying 50=some (.int .u64):=by kernel_rfl
def aoL:eg PP 59=some [(.int .i64 0),(.int .i64 0),(.int .i64 0),(.int .i64 0),(.int .i64 0),(.int .i64 0),(.int .i64 0),(.int .i64 0),(.int .i64 0),(.int .i64 0),(.int .i64 0),(.int .i64 0),(.int .i64 0),(.int .i64 0),(.int .i64 0),(.int .i64 0),(.int .i64 0),(.int .i64 0),(.int .i64 0),(.int .i64 0),(.int .i64 0),(.int .i64 0),(.int .i64 0),(.int .i64 0),(.int .i64 0),(.int .i64 0),(.int .i64 0),(.int .i64 0),(.int .i64 0),(.int .i64 0)]:=by kernel_rfl
def anN:PP.underlying 60=some (.slice 99):=by kernel_rfl
def amE:dj PP 60=some 1:=by kernel_rfl
def Vv:ei PP 60=some false:=by kernel_rfl
def YX:gu PP 60=some (99,4):=by kernel_rfl
def anO:PP.underlying 61=some (.slice 103):=by kernel_rfl
def amF:dj PP 61=some 1:=by kernel_rfl
def Vw:ei PP 61=some false:=by kernel_rfl
def YY:gu PP 61=some (103,3):=by kernel_rfl
def amG:dj PP 63=some 5:=by kernel_rfl
def Vx:ei PP 63=some true:=by kernel_rfl
def aoM:eg PP 63=some [(.slice none 0 0),(.int .i64 0),(.int .i64 0),(.slice none 0 0),(.slice none 0 0)]:=by kernel_rfl
def ael:cg PP 63 0=some (0,60,1):=by kernel_rfl
def aem:cg PP 63 1=some (1,3,1):=by kernel_rfl
def aen:cg PP 63 2=some (2,3,1):=by kernel_rfl
def aeo:cg PP 63 3=some (3,22,1):=by kernel_rfl
def aep:cg PP 63 4=some (4,61,1):=by kernel_rfl
def WI:∀σ parts,fX PP σ 63 parts=iu σ [(0,1),(1,1),(2,1),(3,1),(4,1)] [(.slice none 0 0),(.int .i64 0),(.int .i64 0),(.slice none 0 0),(.slice none 0 0)] parts:=iX (by kernel_rfl)
def R8:PP.underlying 66=some (.slice 29):=by kernel_rfl
def amH:dj PP 66=some 1:=by kernel_rfl
def Vy:ei PP 66=some false:=by kernel_rfl
def J3:gu PP 66=some (29,2):=by kernel_rfl
def R9:PP.underlying 67=some (.slice 69):=by kernel_rfl
def J5:gu PP 67=some (69,2):=by kernel_rfl
def amI:dj PP 69=some 2:=by kernel_rfl
def Iu:PP.cellsOf 69=2:=by kernel_rfl
def Ds:jB PP 69=some 16:=by kernel_rfl
def Vz:ei PP 69=some true:=by kernel_rfl
def SH:eg PP 69=some [(.int .i64 0),(.int .i64 0)]:=by kernel_rfl
def aeq:cg PP 69 0=some (0,3,1):=by kernel_rfl
def aer:cg PP 69 1=some (1,3,1):=by kernel_rfl
def WJ:∀σ parts,fX PP σ 69 parts=iu σ [(0,1),(1,1)] [(.int .i64 0),(.int .i64 0)] parts:=iX (by kernel_rfl)
def anP:PP.underlying 73=some (.struct #[⟨ "Kind",3,0,false,"","",0⟩,⟨ "Text",9,1,false,"","",8⟩,⟨ "Order",43,2,false,"","",24⟩,⟨ "Time",2,8,false,"","",72⟩]):=by kernel_rfl
def amJ:dj PP 73=some 9:=by kernel_rfl
def Iv:PP.cellsOf 73=9:=by kernel_rfl
def Dt:jB PP 73=some 80:=by kernel_rfl
def VA:ei PP 73=some true:=by kernel_rfl
def SI:eg PP 73=some [(.int .i64 0),(.string {data:=#[]}),(.int .i64 0),(.int .i64 0),(.int .i64 0),(.int .i64 0),(.int .i64 0),(.int .i64 0),(.int .i64 0)]:=by kernel_rfl
def Z8:PP.eqGuardType PP.depth 73=false:=by kernel_rfl
def alo:PP.stoodInHeld 73=false:=by kernel_rfl
def aes:cg PP 73 0=some (0,3,1):=by kernel_rfl
def aet:cg PP 73 1=some (1,9,1):=by kernel_rfl
def aeu:cg PP 73 2=some (2,43,6):=by kernel_rfl
def aev:cg PP 73 3=some (8,2,1):=by kernel_rfl
def WK:∀σ parts,fX PP σ 73 parts=iu σ [(0,1),(1,1),(2,6),(8,1)] [(.int .i64 0),(.string {data:=#[]}),(.int .i64 0),(.int .i64 0),(.int .i64 0),(.int .i64 0),(.int .i64 0),(.int .i64 0),(.int .i64 0)] parts:=iX (by kernel_rfl)
def amK:dj PP 77=some 9:=by kernel_rfl
def VB:ei PP 77=some true:=by kernel_rfl
def aoN:eg PP 77=some [(.int .i64 0),(.bool false),(.slice none 0 0),(.int .i64 0),(.int .i64 0),(.slice none 0 0),(.slice none 0 0),(.slice none 0 0),(.int .i64 0)]:=by kernel_rfl
def aew:cg PP 77 0=some (0,3,1):=by kernel_rfl
def aex:cg PP 77 1=some (1,4,1):=by kernel_rfl
def aey:cg PP 77 2=some (2,63,5):=by kernel_rfl
def aez:cg PP 77 3=some (7,33,1):=by kernel_rfl
def aeA:cg PP 77 4=some (8,2,1):=by kernel_rfl
def WL:∀σ parts,fX PP σ 77 parts=iu σ [(0,1),(1,1),(2,5),(7,1),(8,1)] [(.int .i64 0),(.bool false),(.slice none 0 0),(.int .i64 0),(.int .i64 0),(.slice none 0 0),(.slice none 0 0),(.slice none 0 0),(.int .i64 0)] parts:=iX (by kernel_rfl)
def anR:PP.underlying 99=some (.struct #[⟨ "Row",3,0,false,"","",0⟩,⟨ "X",3,1,false,"","",8⟩,⟨ "Y",3,2,false,"","",16⟩,⟨ "Kind",3,3,false,"","",24⟩]):=by kernel_rfl
def amM:dj PP 99=some 4:=by kernel_rfl
def XZ:PP.cellsOf 99=4:=by kernel_rfl
def WU:jB PP 99=some 32:=by kernel_rfl
def VD:ei PP 99=some true:=by kernel_rfl
def aoO:eg PP 99=some [(.int .i64 0),(.int .i64 0),(.int .i64 0),(.int .i64 0)]:=by kernel_rfl
def Z9:PP.eqGuardType PP.depth 99=false:=by kernel_rfl
def alp:PP.stoodInHeld 99=false:=by kernel_rfl
def aeB:cg PP 99 0=some (0,3,1):=by kernel_rfl
def aeC:cg PP 99 1=some (1,3,1):=by kernel_rfl
def aeD:cg PP 99 2=some (2,3,1):=by kernel_rfl
def aeE:cg PP 99 3=some (3,3,1):=by kernel_rfl
def WM:∀σ parts,fX PP σ 99 parts=iu σ [(0,1),(1,1),(2,1),(3,1)] [(.int .i64 0),(.int .i64 0),(.int .i64 0),(.int .i64 0)] parts:=iX (by kernel_rfl)
def anq:PP.underlying 103=some (.struct #[⟨ "X",3,0,false,"","",0⟩,⟨ "Y",3,1,false,"","",8⟩,⟨ "R",3,2,false,"","",16⟩]):=by kernel_rfl
def amc:dj PP 103=some 3:=by kernel_rfl
def XU:PP.cellsOf 103=3:=by kernel_rfl
def WO:jB PP 103=some 24:=by kernel_rfl
def U1:ei PP 103=some true:=by kernel_rfl
def aoy:eg PP 103=some [(.int .i64 0),(.int .i64 0),(.int .i64 0)]:=by kernel_rfl
def ZX:PP.eqGuardType PP.depth 103=false:=by kernel_rfl
def ali:PP.stoodInHeld 103=false:=by kernel_rfl
def ac0:cg PP 103 0=some (0,3,1):=by kernel_rfl
def ac1:cg PP 103 1=some (1,3,1):=by kernel_rfl
def ac2:cg PP 103 2=some (2,3,1):=by kernel_rfl
def Wp:∀σ parts,fX PP σ 103 parts=iu σ [(0,1),(1,1),(2,1)] [(.int .i64 0),(.int .i64 0),(.int .i64 0)] parts:=iX (by kernel_rfl)
def Cu:PP.underlying 110=some (.interface #[("Error",182)]):=by kernel_rfl
def amd:dj PP 110=some 1:=by kernel_rfl
def U2:ei PP 110=some false:=by kernel_rfl
def RP:PP.underlying 113=some (.slice 3):=by kernel_rfl
def ame:dj PP 113=some 1:=by kernel_rfl
def U3:ei PP 113=some false:=by kernel_rfl
def JV:gu PP 113=some (3,1):=by kernel_rfl
def RQ:PP.underlying 122=some (.slice 9):=by kernel_rfl
def JW:gu PP 122=some (9,1):=by kernel_rfl
def RR:PP.underlying 131=some (.slice 4):=by kernel_rfl
def amf:dj PP 131=some 1:=by kernel_rfl
def U4:ei PP 131=some false:=by kernel_rfl
def JX:gu PP 131=some (4,1):=by kernel_rfl
def anr:PP.underlying 141=some (.pointer 201):=by kernel_rfl
def amg:dj PP 155=some 4:=by kernel_rfl
def U6:ei PP 155=some true:=by kernel_rfl
def aoz:eg PP 155=some [(.int .i64 0),(.slice none 0 0),(.int .i64 0),(.slice none 0 0)]:=by kernel_rfl
def ac3:cg PP 155 0=some (0,3,1):=by kernel_rfl
def ac4:cg PP 155 1=some (1,113,1):=by kernel_rfl
def ac5:cg PP 155 2=some (2,3,1):=by kernel_rfl
def ac6:cg PP 155 3=some (3,131,1):=by kernel_rfl
def Wq:∀σ parts,fX PP σ 155 parts=iu σ [(0,1),(1,1),(2,1),(3,1)] [(.int .i64 0),(.slice none 0 0),(.int .i64 0),(.slice none 0 0)] parts:=iX (by kernel_rfl)
def ans:PP.underlying 161=some (.slice 193):=by kernel_rfl
def YR:gu PP 161=some (193,5):=by kernel_rfl
def ant:PP.underlying 167=some (.map 228 3):=by kernel_rfl
def amh:dj PP 167=some 1:=by kernel_rfl
def U7:ei PP 167=some false:=by kernel_rfl
def anu:PP.underlying 168=some (.slice 230):=by kernel_rfl
def ami:dj PP 168=some 1:=by kernel_rfl
def U8:ei PP 168=some false:=by kernel_rfl
def YS:gu PP 168=some (230,6):=by kernel_rfl
def ac7:cg PP 170 0=some (0,63,5):=by kernel_rfl
def ac8:cg PP 170 1=some (5,36,2):=by kernel_rfl
def ac9:cg PP 170 2=some (7,167,1):=by kernel_rfl
def ada:cg PP 170 3=some (8,168,1):=by kernel_rfl
def adb:cg PP 170 4=some (9,4,1):=by kernel_rfl
def Wr:∀σ parts,fX PP σ 170 parts=iu σ [(0,5),(5,2),(7,1),(8,1),(9,1)] [(.slice none 0 0),(.int .i64 0),(.int .i64 0),(.slice none 0 0),(.slice none 0 0),(.int .i64 0),(.int .i64 0),(.map none),(.slice none 0 0),(.bool false)] parts:=iX (by kernel_rfl)
def anv:PP.underlying 184=some (.int .u64):=by kernel_rfl
def amj:dj PP 193=some 5:=by kernel_rfl
def XV:PP.cellsOf 193=5:=by kernel_rfl
def WQ:jB PP 193=some 48:=by kernel_rfl
def U9:ei PP 193=some true:=by kernel_rfl
def aoA:eg PP 193=some [(.int .i64 0),(.int .i64 0),(.int .i64 0),(.int .i64 0),(.string {data:=#[]})]:=by kernel_rfl
def ade:cg PP 193 0=some (0,3,1):=by kernel_rfl
def adf:cg PP 193 1=some (1,3,1):=by kernel_rfl
def adg:cg PP 193 2=some (2,3,1):=by kernel_rfl
def adh:cg PP 193 3=some (3,3,1):=by kernel_rfl
def adi:cg PP 193 4=some (4,9,1):=by kernel_rfl
def Ws:∀σ parts,fX PP σ 193 parts=iu σ [(0,1),(1,1),(2,1),(3,1),(4,1)] [(.int .i64 0),(.int .i64 0),(.int .i64 0),(.int .i64 0),(.string {data:=#[]})] parts:=iX (by kernel_rfl)
def adj:cg PP 201 0=some (0,63,5):=by kernel_rfl
def adm:cg PP 201 1=some (5,131,1):=by kernel_rfl
def Wt:∀σ parts,fX PP σ 201 parts=iu σ [(0,5),(5,1)] [(.slice none 0 0),(.int .i64 0),(.int .i64 0),(.slice none 0 0),(.slice none 0 0),(.slice none 0 0)] parts:=iX (by kernel_rfl)
def anx:PP.underlying 207=some (.pointer 223):=by kernel_rfl
def amk:dj PP 207=some 1:=by kernel_rfl
def XW:PP.cellsOf 207=1:=by kernel_rfl
def WR:jB PP 207=some 8:=by kernel_rfl
def Vb:ei PP 207=some false:=by kernel_rfl
def aoB:eg PP 207=some [(.pointer none)]:=by kernel_rfl
def anz:PP.underlying 209=some (.pointer 207):=by kernel_rfl
def adq:cg PP 223 0=some (0,3,1):=by kernel_rfl
def adu:cg PP 223 1=some (1,36,2):=by kernel_rfl
def adv:cg PP 223 2=some (3,110,1):=by kernel_rfl
def Wu:∀σ parts,fX PP σ 223 parts=iu σ [(0,1),(1,2),(3,1)] [(.int .i64 0),(.int .i64 0),(.int .i64 0),.nilIface] parts:=iX (by kernel_rfl)
def RU:PP.underlying 228=some (.struct #[⟨ "row",3,0,false,"","parterre/parse",0⟩,⟨ "x",3,1,false,"","parterre/parse",8⟩]):=by kernel_rfl
def amm:dj PP 228=some 2:=by kernel_rfl
def Vd:ei PP 228=some true:=by kernel_rfl
def aoD:eg PP 228=some [(.int .i64 0),(.int .i64 0)]:=by kernel_rfl
def ZY:PP.eqGuardType PP.depth 228=false:=by kernel_rfl
def alj:PP.stoodInHeld 228=false:=by kernel_rfl
def Wv:∀σ parts,fX PP σ 228 parts=iu σ [(0,1),(1,1)] [(.int .i64 0),(.int .i64 0)] parts:=iX (by kernel_rfl)
def amn:dj PP 230=some 6:=by kernel_rfl
def XY:PP.cellsOf 230=6:=by kernel_rfl
def WT:jB PP 230=some 48:=by kernel_rfl
def Ve:ei PP 230=some true:=by kernel_rfl
def aoE:eg PP 230=some [(.int .i64 0),(.int .i64 0),(.int .i64 0),(.int .i64 0),(.int .i64 0),(.int .i64 0)]:=by kernel_rfl
def adw:cg PP 230 0=some (0,228,2):=by kernel_rfl
def ady:cg PP 230 1=some (2,36,2):=by kernel_rfl
def adz:cg PP 230 2=some (4,36,2):=by kernel_rfl
def Ww:∀σ parts,fX PP σ 230 parts=iu σ [(0,2),(2,2),(4,2)] [(.int .i64 0),(.int .i64 0),(.int .i64 0),(.int .i64 0),(.int .i64 0),(.int .i64 0)] parts:=iX (by kernel_rfl)
def amo:dj PP 239=some 6:=by kernel_rfl
def Vf:ei PP 239=some true:=by kernel_rfl
def aoF:eg PP 239=some [(.slice none 0 0),(.int .i64 0),(.int .i64 0),(.slice none 0 0),(.slice none 0 0),(.slice none 0 0)]:=by kernel_rfl
def adC:cg PP 239 0=some (0,63,5):=by kernel_rfl
def adD:cg PP 239 1=some (5,131,1):=by kernel_rfl
def Wx:∀σ parts,fX PP σ 239 parts=iu σ [(0,5),(5,1)] [(.slice none 0 0),(.int .i64 0),(.int .i64 0),(.slice none 0 0),(.slice none 0 0),(.slice none 0 0)] parts:=iX (by kernel_rfl)
def anC:PP.underlying 240=some (.map 3 3):=by kernel_rfl
def amp:dj PP 240=some 1:=by kernel_rfl
def Vg:ei PP 240=some false:=by kernel_rfl
def amq:dj PP 242=some 8:=by kernel_rfl
def Vh:ei PP 242=some true:=by kernel_rfl
def aoG:eg PP 242=some [(.slice none 0 0),(.int .i64 0),(.int .i64 0),(.slice none 0 0),(.slice none 0 0),(.slice none 0 0),(.slice none 0 0),(.map none)]:=by kernel_rfl
def adE:cg PP 242 0=some (0,239,6):=by kernel_rfl
def adF:cg PP 242 1=some (6,66,1):=by kernel_rfl
def adG:cg PP 242 2=some (7,240,1):=by kernel_rfl
def Wy:∀σ parts,fX PP σ 242 parts=iu σ [(0,6),(6,1),(7,1)] [(.slice none 0 0),(.int .i64 0),(.int .i64 0),(.slice none 0 0),(.slice none 0 0),(.slice none 0 0),(.slice none 0 0),(.map none)] parts:=iX (by kernel_rfl)
def amr:dj PP 247=some 1:=by kernel_rfl
def Vi:ei PP 247=some false:=by kernel_rfl
def aoH:eg PP 247=some [.nilFunc]:=by kernel_rfl
def anD:PP.underlying 277=some (.slice 207):=by kernel_rfl
def YU:gu PP 277=some (207,1):=by kernel_rfl
def anE:PP.underlying 283=some (.pointer 334):=by kernel_rfl
def ams:dj PP 283=some 1:=by kernel_rfl
def Vj:ei PP 283=some false:=by kernel_rfl
def RW:PP.underlying 288=some (.slice 337):=by kernel_rfl
def amt:dj PP 288=some 1:=by kernel_rfl
def Vk:ei PP 288=some false:=by kernel_rfl
def JZ:gu PP 288=some (337,2):=by kernel_rfl
def adH:cg PP 290 0=some (0,283,1):=by kernel_rfl
def adI:cg PP 290 1=some (1,66,1):=by kernel_rfl
def adJ:cg PP 290 2=some (2,155,4):=by kernel_rfl
def adL:cg PP 290 3=some (6,3,1):=by kernel_rfl
def adM:cg PP 290 4=some (7,3,1):=by kernel_rfl
def adN:cg PP 290 5=some (8,288,1):=by kernel_rfl
def WA:∀σ parts,fX PP σ 290 parts=iu σ [(0,1),(1,1),(2,4),(6,1),(7,1),(8,1)] [(.pointer none),(.slice none 0 0),(.int .i64 0),(.slice none 0 0),(.int .i64 0),(.slice none 0 0),(.int .i64 0),(.int .i64 0),(.slice none 0 0)] parts:=iX (by kernel_rfl)
def anG:PP.underlying 297=some (.slice 247):=by kernel_rfl
def YV:gu PP 297=some (247,1):=by kernel_rfl
def anH:PP.underlying 329=some (.slice 22):=by kernel_rfl
def amx:dj PP 329=some 1:=by kernel_rfl
def Io:PP.cellsOf 329=1:=by kernel_rfl
def Dl:jB PP 329=some 24:=by kernel_rfl
def Vo:ei PP 329=some false:=by kernel_rfl
def SA:eg PP 329=some [(.slice none 0 0)]:=by kernel_rfl
def YW:gu PP 329=some (22,1):=by kernel_rfl
def RZ:PP.underlying 332=some (.slice 329):=by kernel_rfl
def amz:dj PP 332=some 1:=by kernel_rfl
def Vq:ei PP 332=some false:=by kernel_rfl
def J1:gu PP 332=some (329,1):=by kernel_rfl
def adW:cg PP 334 0=some (0,242,8):=by kernel_rfl
def adX:cg PP 334 1=some (8,332,1):=by kernel_rfl
def adY:cg PP 334 2=some (9,113,1):=by kernel_rfl
def WC:∀σ parts,fX PP σ 334 parts=iu σ [(0,8),(8,1),(9,1)] [(.slice none 0 0),(.int .i64 0),(.int .i64 0),(.slice none 0 0),(.slice none 0 0),(.slice none 0 0),(.slice none 0 0),(.map none),(.slice none 0 0),(.slice none 0 0)] parts:=iX (by kernel_rfl)
def Ip:PP.cellsOf 337=2:=by kernel_rfl
def Dp:jB PP 337=some 32:=by kernel_rfl
def SC:eg PP 337=some [(.slice none 0 0),(.int .i64 0)]:=by kernel_rfl
def adZ:cg PP 337 0=some (0,22,1):=by kernel_rfl
def aea:cg PP 337 1=some (1,3,1):=by kernel_rfl
def WD:∀σ parts,fX PP σ 337 parts=iu σ [(0,1),(1,1)] [(.slice none 0 0),(.int .i64 0)] parts:=iX (by kernel_rfl)
attribute [simp] anw wX Va RX amv uh zZ Vm Cz anJ amC Iq Dq Vt SE anL anQ amL Iw Du VC SJ anA RT aml XX WS Vc aoC JY anB YT RV anF amu Im Dk Vl Sz alk adO adP Wz amw Vn aoI adS adT adU adV WB RY amy Vp J0 anI amA Vr aoJ ZZ alm aeb aec WE amB Vs aoK aed aee aef WG R7 J2 anK amD It Dr Vu SF Z0 aln aeg aeh aei aej aek WH anM aoL anN amE Vv YX anO amF Vw YY amG Vx aoM ael aem aen aeo aep WI R8 amH Vy J3 R9 J5 amI Iu Ds Vz SH aeq aer WJ anP amJ Iv Dt VA SI Z8 alo aes aet aeu aev WK amK VB aoN aew aex aey aez aeA WL anR amM XZ WU VD aoO Z9 alp aeB aeC aeD aeE WM anq amc XU WO U1 aoy ZX ali ac0 ac1 ac2 Wp Cu amd U2 RP ame U3 JV RQ JW RR amf U4 JX anr amg U6 aoz ac3 ac4 ac5 ac6 Wq ans YR ant amh U7 anu ami U8 YS ac7 ac8 ac9 ada adb Wr anv amj XV WQ U9 aoA ade adf adg adh adi Ws adj adm Wt anx amk XW WR Vb aoB anz adq adu adv Wu RU amm Vd aoD ZY alj Wv amn XY WT Ve aoE adw ady adz Ww amo Vf aoF adC adD Wx anC amp Vg amq Vh aoG adE adF adG Wy amr Vi aoH anD YU anE ams Vj RW amt Vk JZ adH adI adJ adL adM adN WA anG YV anH amx Io Dl Vo SA YW RZ amz Vq J1 adW adX adY WC Ip Dp SC adZ aea WD N8 GW Oi Hh OL HJ JI KZ DC Lk DL Lx DW LF Ed LJ Ej LS Eu IU L9 EP Mk Fc Mt Fl I5 MA Ft MI Fz Ja MR FJ M6 FW NJ GA Jr NR GJ NS GK NW GO Jv NY GP NZ GQ N0 GR N5 GS Jw N6 GU N7 GV N9 GX Oa GY Jx Ob GZ Oc G8 Od G9 Jy Oe Hd Jz Of He JA Og Hf Oh Hg Oj Hi Ol Hj On Hk Oo Hm Oq Hn JB Ot Ho JC Ou Hr JD Ov Ht Ox Hv Oy Hw JE Oz Hx OC Hy OF Hz JF OG HA OH HC JG OI HE JH OJ HI OO HK OP HN JJ OT HO JK OU HP JL OV HQ OW HS OX HU OY HV OZ HW O0 HX JM O1 HY Lc DD Ld DE IG Le DF IH Lf DG II Lg DH Lh DI Li DJ Lj DK IJ Ll DM IK Lm DN IL Lp DO Lq DP Lr DQ IM Ls DR Lt DS Lu DT Lv DU IN Lw DV Ly DX Lz DY LA DZ IP LB Ea IQ LC Eb LD Ec LG Ee LH Ef LI Eh LK El IS LL Em IT LM En LO Eo LP Ep LQ Es LR Et LU Ev IV LV Ew LW Ey LX Ez LY EC LZ EI L3 EJ IW L4 EK L7 EL L8 EO Ma ER Mb ES IX Mc ET Me EV Mf EW Mg EX Mh EY Mj Fb IY Ml Fe IZ Mm Ff Mo Fg I0 Mp Fh Mq Fi Mr Fj Ms Fk Mu Fm I6 Mw Fo Mx Fp I7 My Fq Mz Fs MC Fu I8 MD Fv MF Fw MG Fx MH Fy I9 MJ FA MK FC ML FD Jb MM FE MN FF Jc MO FG MP FH Jd MQ FI MS FL Je MT FM MU FN vY vH MV FO MW FP MX FQ MY FT MZ FU Na FZ Jh Nb F0 Ji Nc F6 Nd F7 Nf F8 Ng F9 Nh Ga Ni Gb Nj Gc Jj Nk Gd Nl Ge Nn Gf Np Gg Jk Nq Gh Nr Gi Jl Ns Gj Jm Nt Gk Jn Nu Gl Nv Gm Nw Gn Nx Gp Ny Gq NC Gu ND Gv NF Gw Jq NG Gx NH Gy NI Gz NK GB NL GC NM GD NN GF Js NO GG NP GH NQ GI Jt NT GL NU GM Ju NV GN
end Go.Proofs.Ybk
namespace Go.Proofs
open Go.Shelf Go.RowKit Go.Lib Go.Sort
set_option maxRecDepth 100000
def Tryz.aaJ:Go.Shelf.Ren:=⟨fun|171=>126|243=>177|246=>226|283=>277|284=>278|285=>279|286=>280|129=>267|317=>306|318=>307|319=>308|320=>309|337=>315|338=>316|n=>n,fun|3=>3|9=>9|2=>2|4=>4|171=>356|0=>0|53=>184|37=>177|5=>5|173=>358|212=>377|51=>348|20=>20|213=>378|46=>50|232=>385|233=>386|n=>n,fun|17=>2|18=>3|19=>4|n=>n⟩
def Tryz.itoa:LaysM.n171 Tryz.prog Tryz.aaJ:={
 mixed:=by kernel_rfl,
 f129:=Tryz.func267.trans (congrArg some (by kernel_rfl)),
 f171:=Tryz.func126.trans (congrArg some (by kernel_rfl)),
 f243:=Tryz.func177.trans (congrArg some (by kernel_rfl)),
 f246:=Tryz.func226.trans (congrArg some (by kernel_rfl)),
 f283:=Tryz.func277.trans (congrArg some (by kernel_rfl)),
 f284:=Tryz.func278.trans (congrArg some (by kernel_rfl)),
 f285:=Tryz.func279.trans (congrArg some (by kernel_rfl)),
 f286:=Tryz.func280.trans (congrArg some (by kernel_rfl)),
 f317:=Tryz.func306.trans (congrArg some (by kernel_rfl)),
 f318:=Tryz.func307.trans (congrArg some (by kernel_rfl)),
 f319:=Tryz.func308.trans (congrArg some (by kernel_rfl)),
 f320:=Tryz.func309.trans (congrArg some (by kernel_rfl)),
 f337:=Tryz.func315.trans (congrArg some (by kernel_rfl)),
 f338:=Tryz.func316.trans (congrArg some (by kernel_rfl)),
 t0:=Tryz.underlying0,
 a0:=Tryz.isAgg0,
 z0:=Tryz.sizeOf0,
 v0:=Tryz.zeroValue0,
 t2:=Tryz.underlying2,
 a2:=Tryz.isAgg2,
 z2:=Tryz.sizeOf2,
 v2:=Tryz.zeroValue2,
 t3:=Tryz.underlying3,
 a3:=Tryz.isAgg3,
 z3:=Tryz.sizeOf3,
 v3:=Tryz.zeroValue3,
 t4:=Tryz.underlying4,
 a4:=Tryz.isAgg4,
 z4:=Tryz.sizeOf4,
 v4:=Tryz.zeroValue4,
 t5:=Tryz.underlying5,
 a5:=Tryz.isAgg5,
 z5:=Tryz.sizeOf5,
 v5:=Tryz.zeroValue5,
 t9:=Tryz.underlying9,
 a9:=Tryz.isAgg9,
 z9:=Tryz.sizeOf9,
 v9:=Tryz.zeroValue9,
 t20:=Tryz.underlying20,
 a20:=Tryz.isAgg20,
 z20:=Tryz.sizeOf20,
 v20:=Tryz.zeroValue20,
 t37:=Tryz.underlying177,
 a37:=Tryz.isAgg177,
 z37:=Tryz.sizeOf177,
 v37:=Tryz.zeroValue177,
 t46:=Tryz.underlying50,
 a46:=Tryz.isAgg50,
 z46:=Tryz.sizeOf50,
 v46:=Tryz.zeroValue50,
 t51:=Tryz.underlying348,
 a51:=Tryz.isAgg348,
 z51:=Tryz.sizeOf348,
 v51:=Tryz.zeroValue348,
 t53:=Tryz.underlying184,
 a53:=Tryz.isAgg184,
 z53:=Tryz.sizeOf184,
 v53:=Tryz.zeroValue184,
 t171:=Tryz.underlying356,
 a171:=Tryz.isAgg356,
 z171:=Tryz.sizeOf356,
 v171:=Tryz.zeroValue356,
 t173:=Tryz.underlying358,
 a173:=Tryz.isAgg358,
 z173:=Tryz.sizeOf358,
 v173:=Tryz.zeroValue358,
 t212:=Tryz.underlying377,
 a212:=Tryz.isAgg377,
 z212:=Tryz.sizeOf377,
 v212:=Tryz.zeroValue377,
 t213:=Tryz.underlying378,
 a213:=Tryz.isAgg378,
 z213:=Tryz.sizeOf378,
 t232:=Tryz.underlying385,
 a232:=Tryz.isAgg385,
 z232:=Tryz.sizeOf385,
 v232:=Tryz.zeroValue385,
 t233:=Tryz.underlying386,
 a233:=Tryz.isAgg386,
 z233:=Tryz.sizeOf386,
 v233:=Tryz.zeroValue386,
 g17:=by kernel_rfl,
 g18:=by kernel_rfl,
 g19:=by kernel_rfl,
 i0:=by kernel_rfl,
 i2:=by kernel_rfl,
 i3:=by kernel_rfl,
 i4:=by kernel_rfl,
 i5:=by kernel_rfl,
 i9:=by kernel_rfl,
 i20:=by kernel_rfl,
 i37:=by kernel_rfl,
 i46:=by kernel_rfl,
 i51:=by kernel_rfl,
 i53:=by kernel_rfl,
 i171:=by kernel_rfl,
 i173:=by kernel_rfl,
 i212:=by kernel_rfl,
 i232:=by kernel_rfl,
 i233:=by kernel_rfl,
 m17:=by kernel_rfl,
 m18:=by kernel_rfl,
 m19:=by kernel_rfl}
def Tryz.KY:Go.Shelf.Ren:=⟨fun|156=>87|165=>127|166=>128|169=>129|240=>178|241=>179|276=>227|277=>228|n=>n,fun|31=>122|9=>9|3=>3|4=>4|0=>0|20=>20|72=>179|76=>180|70=>176|37=>177|75=>110|127=>250|164=>265|5=>5|80=>182|n=>n,fun|n=>n⟩
def Tryz.join:Lays.n156 Tryz.prog Tryz.KY:={
 mixed:=by kernel_rfl,
 f156:=Tryz.func87.trans (congrArg some (by kernel_rfl)),
 f165:=Tryz.func127.trans (congrArg some (by kernel_rfl)),
 f166:=Tryz.func128.trans (congrArg some (by kernel_rfl)),
 f169:=Tryz.func129.trans (congrArg some (by kernel_rfl)),
 f240:=Tryz.func178.trans (congrArg some (by kernel_rfl)),
 f241:=Tryz.func179.trans (congrArg some (by kernel_rfl)),
 f276:=Tryz.func227.trans (congrArg some (by kernel_rfl)),
 f277:=Tryz.func228.trans (congrArg some (by kernel_rfl)),
 t0:=Tryz.underlying0,
 a0:=Tryz.isAgg0,
 z0:=Tryz.sizeOf0,
 v0:=Tryz.zeroValue0,
 t3:=Tryz.underlying3,
 a3:=Tryz.isAgg3,
 z3:=Tryz.sizeOf3,
 v3:=Tryz.zeroValue3,
 t4:=Tryz.underlying4,
 a4:=Tryz.isAgg4,
 z4:=Tryz.sizeOf4,
 v4:=Tryz.zeroValue4,
 t9:=Tryz.underlying9,
 a9:=Tryz.isAgg9,
 z9:=Tryz.sizeOf9,
 v9:=Tryz.zeroValue9,
 t20:=Tryz.underlying20,
 a20:=Tryz.isAgg20,
 z20:=Tryz.sizeOf20,
 v20:=Tryz.zeroValue20,
 t31:=Tryz.underlying122,
 a31:=Tryz.isAgg122,
 z31:=Tryz.sizeOf122,
 v31:=Tryz.zeroValue122,
 t37:=Tryz.underlying177,
 a37:=Tryz.isAgg177,
 z37:=Tryz.sizeOf177,
 v37:=Tryz.zeroValue177,
 t70:=Tryz.underlying176,
 a70:=Tryz.isAgg176,
 z70:=Tryz.sizeOf176,
 v70:=Tryz.zeroValue176,
 t72:=Tryz.underlying179,
 a72:=Tryz.isAgg179,
 z72:=Tryz.sizeOf179,
 v72:=Tryz.zeroValue179,
 t75:=Tryz.underlying110,
 a75:=Tryz.isAgg110,
 z75:=Tryz.sizeOf110,
 v75:=Tryz.zeroValue110,
 t76:=Tryz.underlying180,
 a76:=Tryz.isAgg180,
 z76:=Tryz.sizeOf180,
 v76:=Tryz.zeroValue180,
 t127:=Tryz.underlying250,
 a127:=Tryz.isAgg250,
 z127:=Tryz.sizeOf250,
 v127:=Tryz.zeroValue250,
 t164:=Tryz.underlying265,
 a164:=Tryz.isAgg265,
 z164:=Tryz.sizeOf265,
 v164:=Tryz.zeroValue265}
def Tryz.AU:Builder.Extra Tryz.prog Tryz.KY where
 sizeBuilder:=by kernel_rfl
 liesBuilder:=by kernel_rfl
 t5:=Tryz.underlying5
 a5:=Tryz.isAgg5
 z5:=Tryz.sizeOf5
 v5:=Tryz.zeroValue5
 infoByte:=by kernel_rfl
 cellsByte:=by kernel_rfl
 sizeByte:=by kernel_rfl
 neB5:=by decide
end Go.Proofs

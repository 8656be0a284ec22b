import Derived.Test.YtbcdmljanolkeaaGreatDoorMa
import Derived.Tactics
import Derived.Laws.Strings
import Derived.Laws.StructEq
import Derived.Below
import Derived.Test.YtbcdmljanolkeaaGreatDoorProg
import Derived.KernelRfl
set_option linter.unusedVariables false
set_option linter.unusedSimpArgs false
set_option linter.unusedSectionVars false
set_option linter.constructorNameAsVariable false
set_option linter.defProp false
set_option maxRecDepth 20000
namespace Go.Am
open Go
section
variable {P:Program} {ρ0 ρ ρ':aF} {h0:aa} {w0 w:World} {m:Mem}
def xQ (P:Program) (ops:Array Oper) (p q:Nat×Oper):Prop:=
 eH P p.2.op=true∧(∀d,p.2.dst=some d→d∉q.2.looksAt ops)∧(∀d,p.2.dst=some d→q.2.dst≠some d)∧(∀d,q.2.dst=some d→d∉p.2.looksAt ops)
def Co (P:Program) (ops:Array Oper) (B:Nat→Nat→Bool) (Wl:List Nat) (p q:Nat×Oper):Prop:=
 p.1≠q.1∧(B q.1 p.1=false→(eH P p.2.op=false∧eH P q.2.op=false)∨xQ P ops p q∨∃r,r≠q.1∧B q.1 r=true∧[p.1,r].Sublist Wl)
theorem akr {A S:List Nat} {p r:Nat} (hn:(A++S).Nodup) (hp:p∈S) (h:[p,r].Sublist (A++S)):r∈S:=by
 obtain⟨l1,l2,e,h1,h2⟩:=List.sublist_append_iff.1 h;cases l1 with
 |nil=>rw[dA]at e;exact h2.subset (by rw[←e];simp)
 |cons a t=>
  rw[dp,List.cons.injEq]at e;have:a∈A:=h1.subset (by simp);exact absurd e.1.symm ((List.nodup_append.1 hn).2.2 a this p hp)
theorem Qv {loc:List Nat} {ops:Array Oper} {B:Nat→Nat→Bool} {Q:St→Prop} {hl:HL} {i:Nat} {o:Oper} {r:List (Nat×Oper)} {σ:St} (hn:eH P o.op=true):
  gC P loc ops B Q hl ((i,o)::r) σ↔∃v hl',iX P loc ops hl i o σ=some (v,hl')∧gC P loc ops B Q hl' r (σ.cC o.dst v):=by
 rw[gC,if_pos hn];constructor
 ·intro h;split at h
  ·rename_i v k hk;exact⟨v,k,hk,h⟩
  ·exact h.elim
 ·rintro⟨v,k,h1,h2⟩;rw[h1];exact h2
theorem al8 {loc:List Nat} {ops:Array Oper} {B:Nat→Nat→Bool} {Q:St→Prop} {q:Nat×Oper} {post:List (Nat×Oper)} (hnl:vG loc q.2=true):∀(pre:List (Nat×Oper)) (hl:HL) (σ:St),
  (∀p∈pre,xQ P ops p q∧B q.1 p.1=false)→gC P loc ops B Q hl (pre++q::post) σ→gC P loc ops B Q hl (q::(pre++post)) σ:=by
 intro pre;induction pre with
 |nil=>intro hl σ _ h;exact h
 |cons p r ih=>
  intro hl σ hp h;obtain⟨j,oj⟩:=p;obtain⟨i,oi⟩:=q;obtain⟨⟨hj,a1,a2,a3⟩,hB⟩:=hp (j,oj) (by simp);refine ama hj hB a1 a2 a3 hnl ?_;simp only[dp]at h;rw[Qv hj]at h ⊢;obtain⟨v,k,h1,h2⟩:=h;exact⟨v,k,h1,ih _ _ (fun p hp'=>hp p (ep _ hp')) h2⟩
theorem amD {o:Oper} {f:FuncId} {args:List Value} {σ:St} {a:Act} {post:Value→aa→Prop} {K:Act→World→Prop} {Z:Exit→Act→World→Prop} (hc:dJ σ o=some (f,args))
  (H:ao P f args σ.m.h post) (I:Inv P ρ0 h0 w0 ρ σ.m w) (F:fm ρ σ.t a.tmps)
  (hK:∀v h' ρ' v' w',post v h'→qs σ.m.h v h'→Inv P ρ0 h0 w0 ρ' ⟨σ.m.x,h'⟩ w'→(∀b pl,ρ (false,b)=some pl→ρ' (false,b)=some pl)→(∀s,ρ' (true,s)=ρ (true,s))→VR ρ' v v'→K (a.put o.dst v') w'):o.wp P a w K Z:=by
 obtain⟨args',hV,hrun⟩:=CQ hc H.1 I F;unfold Oper.wp;rw[hrun];simp only[Oper.upon];have hcall:=H.2 (iO ρ) w args' (fun s=>Aa ρ s) I.rel.iO ⟨hV.1,fun i v hi=>let ⟨v',q1,q2⟩:=hV.2 i v hi;⟨v',q1,q2.iO⟩⟩;refine hcall.mono ?_;rintro e w' ⟨v,v',h',ρ',rfl,hpost,hbox,hR,hT,hv⟩;simp only;obtain⟨J,j1,j2⟩:=I.call hR hT;exact hK v h' _ v' w' hpost ⟨hT.hg,hv.JI,hT.hn⟩ J j1 j2 (hv.mono fun b pl q=>by simp only[aF.join,ff,if_false];exact q)
structure gZ where
 i:Nat
 s:Nat
 e:TypeId
 z:List Value
def jF (pd:List gZ) (T:Fr):Fr:=fun j=>if pd.any (fun p=>p.s==j)then none else T j
theorem vu {pd:List gZ} {T:Fr} {j:Nat} (h:∃p∈pd,p.s=j):jF pd T j=none:=by
 unfold jF;rw[if_pos];obtain⟨p,q1,q2⟩:=h;exact kV.2 ⟨p,q1,by simp[q2]⟩
theorem qL {pd:List gZ} {T:Fr} {j:Nat} (h:∀p∈pd,p.s≠j):jF pd T j=T j:=by
 unfold jF;rw[if_neg];intro q;obtain⟨p,q1,q2⟩:=kV.1 q;exact h p q1 (by simpa using q2)
structure Cf (P:Program) (loc:List Nat) (ops:Array Oper) (p:gZ):Prop where
 op:∃o,ops[p.i]? =some o∧o.op= .alloc p.e∧o.dst=some p.s∧o.guard=none
 zero:dR P p.e=some p.z
def yQ (P:Program) (ρ0:aF) (h0:aa) (w0:World) (n:Nat) (pd:List gZ) (σ:St) (a:Act) (w:World):Prop:=
 ∃ρ,Inv P ρ0 h0 w0 ρ σ.m w∧fm ρ (jF pd σ.t) a.tmps∧a.tmps.size=n∧a.defers=[]∧
  ∀p∈pd,ρ (true,p.s)=none∧σ.m.x p.s=some (p.e,p.z)∧σ.t p.s=some (.pointer (some ⟨p.s,0,some 0⟩))
theorem YK {pd:List gZ} {T:Fr} {m:Mem} {d:Option Nat} (h:∀i,d=some i→∀p∈pd,p.s≠i) (v:Value):jF pd (St.cC ⟨T,m⟩ d v).t=(St.cC ⟨jF pd T,m⟩ d v).t:=by
 cases d with
 |none=>rfl
 |some i=>
  funext j;simp only[St.cC];by_cases hj:∃p∈pd,p.s=j
  ·have hne:¬i=j:=fun q=>(by obtain⟨p,q1,q2⟩:=hj;exact h i rfl p q1 (q2.trans q.symm));rw[vu hj];simp only[Fr.put,hne,if_false];rw[vu hj]
  ·have hj':∀p∈pd,p.s≠j:=fun p hp q=>hj ⟨p,hp,q⟩;rw[qL hj'];simp only[Fr.put];split
   ·rfl
   ·rw[qL hj']
theorem zB {n:Nat} {pd:List gZ} {T:Fr} {M:Mem} {a:Act} {d:Option Nat} {v v':Value} (I:Inv P ρ0 h0 w0 ρ M w) (F:fm ρ (jF pd T) a.tmps) (hs:a.tmps.size=n) (hdf:a.defers=[])
  (hd:∀i,d=some i→i<n) (hdp:∀i,d=some i→∀p∈pd,p.s≠i) (hv:VT ρ v v')
  (hp:∀p∈pd,ρ (true,p.s)=none∧M.x p.s=some (p.e,p.z)∧T p.s=some (.pointer (some ⟨p.s,0,some 0⟩))):
  yQ P ρ0 h0 w0 n pd (St.cC ⟨T,M⟩ d v) (a.put d v') w:=by
 refine⟨ρ,by rw[A5];exact I,?_,by cases d<;>simp[Act.put,hs],by cases d<;>exact hdf,fun p hpp=>?_⟩
 ·rw[YK hdp];cases d with
  |none=>exact F
  |some i=>exact F.put (by rw[hs];exact hd i rfl) hv
 ·obtain⟨q1,q2,q3⟩:=hp p hpp;refine⟨q1,by rw[A5];exact q2,?_⟩;cases d with
  |none=>exact q3
  |some i=>
   have:¬i=p.s:=fun e=>hdp i rfl p hpp e.symm;simp only[St.cC,Fr.put,this,if_false];exact q3
structure Left (P:Program) (loc:List Nat) (ops:Array Oper) (B:Nat→Nat→Bool) (W:Nat→Bool) (Wl:List Nat) (n:Nat) (L:List Nat) (pd:List gZ) (rem:List (Nat×Oper)):Prop where
 left:∀i,i∈L↔(∃p∈pd,p.i=i)∨∃q∈rem,q.1=i
 nodup:L.Nodup
 cons:L.Pairwise fun x y=>B x y=false
 ord:(rem.map (·.1)).filter W=L.filter W
 wr:∀q∈rem,W q.1= !eH P q.2.op
 wp:∀p∈pd,W p.i=false
 PH:(L.filter W).IsSuffix Wl
 QK:Wl.Nodup
 wW:∀x∈Wl,W x=true
 pair:rem.Pairwise (Co P ops B Wl)
 Pa:∀q∈rem,ops[q.1]? =some q.2∧vG loc q.2=true∧(∀i,q.2.dst=some i→i<n)∧
  ∀p∈pd,B q.1 p.i=false→p.s∉q.2.looksAt ops∧q.2.dst≠some p.s
 pP:∀p∈pd,Cf P loc ops p∧p.s<n
 OL:pd.Pairwise fun p q=>p.i≠q.i∧p.s≠q.s
 wM:∀p∈pd,∀q∈rem,p.i≠q.1
theorem Left.next {loc:List Nat} {ops:Array Oper} {B:Nat→Nat→Bool} {W:Nat→Bool} {Wl:List Nat} {n:Nat} {i:Nat} {l:List Nat} {pd pd':List gZ} {rem rem':List (Nat×Oper)} (L:Left P loc ops B W Wl n (i::l) pd rem)
  (hpd:pd'.Sublist pd) (hrem:rem'.Sublist rem)
  (hl:∀j,j≠i→((∃p∈pd,p.i=j)∨∃q∈rem,q.1=j)→((∃p∈pd',p.i=j)∨∃q∈rem',q.1=j)) (sc:¬((∃p∈pd',p.i=i)∨∃q∈rem',q.1=i))
  (ho:(rem'.map (·.1)).filter W=l.filter W):
  Left P loc ops B W Wl n l pd' rem':=by
 have hnd:=List.nodup_cons.1 L.nodup;refine⟨fun j=>⟨fun hj=>hl j (fun e=>hnd.1 (e ▸ hj)) ((L.left j).1 (ep _ hj)),fun hj=>?_⟩,hnd.2,(jg.1 L.cons).2,ho,fun q hq=>L.wr q (hrem.subset hq),fun p hp=>L.wp p (hpd.subset hp),?_,L.QK,L.wW,L.pair.sublist hrem,fun q hq=>?_,
  fun p hp=>L.pP p (hpd.subset hp),L.OL.sublist hpd,fun p hp q hq=>L.wM p (hpd.subset hp) q (hrem.subset hq)⟩
 ·have hji:j≠i:=fun e=>sc (e ▸ hj);have:j∈i::l:=(L.left j).2 (by
   rcases hj with⟨p,q1,q2⟩|⟨q,q1,q2⟩
   ·exact .inl ⟨p,hpd.subset q1,q2⟩
   ·exact .inr ⟨q,hrem.subset q1,q2⟩)
  rcases cE.1 this with e|e
  ·exact absurd e hji
  ·exact e
 ·have:=L.PH;rw[gP]at this;split at this
  ·exact(List.suffix_cons _ _).trans this
  ·exact this
 ·obtain⟨q1,q2,q3,q4⟩:=L.Pa q (hrem.subset hq);exact⟨q1,q2,q3,fun p hp=>q4 p (hpd.subset hp)⟩
theorem WZ {loc:List Nat} {ops:Array Oper} {B:Nat→Nat→Bool} {W:Nat→Bool} {Wl:List Nat} {Q:St→Prop} {Z:Exit→Act→World→Prop} {n:Nat} (hZ:∀σ' a' w',Q σ'→ki P ρ0 h0 w0 n σ' a' w'→Z .normal a' w'):
  ∀(l:List Nat) (pd:List gZ) (rem:List (Nat×Oper)) (hl:HL) (σ:St) (a:Act) (w:World),Left P loc ops B W Wl n l pd rem→
   gC P loc ops B Q hl rem σ→yQ P ρ0 h0 w0 n pd σ a w→wpOps P ops Z l a w:=by
 intro l;induction l with
 |nil=>
  intro pd rem hl σ a w L h C;have hpd:pd=[]:=List.eq_nil_iff_forall_not_mem.2 fun p hp=>by have:=(L.left p.i).2 (.inl ⟨p,hp,rfl⟩);simp at this
  have hrem:rem=[]:=List.eq_nil_iff_forall_not_mem.2 fun q hq=>by have:=(L.left q.1).2 (.inr ⟨q,hq,rfl⟩);simp at this
  subst hpd;subst hrem;obtain⟨ρ,I,F,hs,hd,_⟩:=C;exact hZ σ a w h ⟨ρ,I,F,hs,hd⟩
 |cons i l ih=>
  intro pd rem hl σ a w L h C;rw[wpOps_cons];have hnd:=List.nodup_cons.1 L.nodup;have hnl:∀k,((∃p∈pd,p.i=k)∨∃q∈rem,q.1=k)→k≠i→B i k=false:=fun k hk hki=>by
   rcases cE.1 ((L.left k).2 hk)with e|e
   ·exact absurd e hki
   ·exact(jg.1 L.cons).1 k e
  obtain⟨ρ,I,F,hs,hdf,hp⟩:=C;rcases(L.left i).1 (by simp)with⟨p,hpm,hpi⟩|⟨q,hqm,hqi⟩
  ·subst hpi;obtain⟨⟨⟨oi,hoi,c2,c3,c4⟩,hzero⟩,hsn⟩:=L.pP p hpm;obtain⟨zv,hzc,hzf,hzr⟩:=uA hzero;obtain⟨l1,l2,hsplit⟩:=List.append_of_mem hpm;have hdis:∀p'∈l1++l2,p'.i≠p.i∧p'.s≠p.s:=by
    intro p' hp';have hpw:=L.OL;rw[hsplit,nZ]at hpw;rcases ei.1 hp' with q|q
    ·exact hpw.2.2 p' q p (by simp)
    ·have:=(jg.1 hpw.2.1).1 p' q;exact⟨fun e=>this.1 e.symm,fun e=>this.2 e.symm⟩
   have hsub:(l1++l2).Sublist pd:=(by rw[hsplit];exact List.Sublist.append (List.Sublist.refl _) (List.sublist_cons_self _ _));obtain⟨hpn,hpx,hpt⟩:=hp p hpm;have hfit:Fits P ρ (.row true p.e p.z) (.cells ⟨p.z⟩ p.e (0,0)) ⟨w.heap.size,0,(⟨p.z⟩:Array Value).size,P.cellsOf p.e⟩:=.row p.e p.e p.z ⟨p.z⟩ _ (by simp) (vo hzf);have J:=I.dX p.s hfit rfl;have hsame:(⟨σ.m.x.set p.s (p.e,p.z),σ.m.h⟩:Mem)=σ.m:=by
    obtain⟨T,x,hh⟩:=σ;simp only at hpx ⊢;congr 1;funext j;simp only[bV.set];split
    ·rename_i e;subst e;exact hpx.symm
    ·rfl
   rw[hsame]at J;simp only[wpOp,hoi];rw[if_pos (by simp[Region.wanted,c4])];refine .inl ?_;unfold Oper.wp;have hrun:(execOp a.eval oi).run P w= .ok (.value (.pointer (some ⟨w.heap.size,0,none⟩))) (w.alloc (.cells ⟨p.z⟩ p.e)):=by
    simp[execOp,c2,Instr.alloc,hzr,newVar,newRow,hzc]
   rw[hrun];simp only[Oper.upon,c3];refine ih (l1++l2) rem hl σ _ _
    (L.next hsub (List.Sublist.refl _) (fun j hj hjl=>?_) (fun hj=>?_) (by rw[L.ord,gP,if_neg (by rw[L.wp p hpm];simp)])) h ?_
   ·rcases hjl with⟨p',q1,q2⟩|q
    ·rw[hsplit]at q1;simp only[ei,cE]at q1;rcases q1 with z|z|z
     ·exact .inl ⟨p',by simp[z],q2⟩
     ·subst z;exact absurd q2.symm hj
     ·exact .inl ⟨p',by simp[z],q2⟩
    ·exact .inr q
   ·rcases hj with⟨p',q1,q2⟩|⟨q,q1,q2⟩
    ·exact(hdis p' q1).1 q2
    ·exact L.wM p hpm q q1 q2.symm
   ·refine⟨_,J,?_,by simp[Act.put,hs],hdf,fun p' hp'=>?_⟩
    ·intro j u hj;simp only[Fr.get]at hj;by_cases hjs:j=p.s
     ·subst hjs;rw[qL (fun p' hp'=>(hdis p' hp').2)]at hj;rw[hpt]at hj;obtain rfl:=bP hj;refine⟨.pointer (some ⟨w.heap.size,0,none⟩),by simp only[Act.put];rw[Array.getElem?_setIfInBounds_self_of_lt (by rw[hs];exact hsn)],?_⟩;have:=VT.tZ (ρ:=ρ.gb (true,p.s) ⟨w.heap.size,0,(⟨p.z⟩:Array Value).size,P.cellsOf p.e⟩) (ad:=⟨p.s,0,some 0⟩) (pl:=⟨w.heap.size,0,(⟨p.z⟩:Array Value).size,P.cellsOf p.e⟩) (by simp[key,aF.gb]);simpa using this
     ·have hj':jF pd σ.t j=some u:=by
       rw[←hj];by_cases hex:∃p'∈l1++l2,p'.s=j
       ·rw[vu hex,vu];obtain⟨p',q1,q2⟩:=hex;exact⟨p',hsub.subset q1,q2⟩
       ·have hno:∀p'∈l1++l2,p'.s≠j:=fun p' hp' e=>hex ⟨p',hp',e⟩;rw[qL hno,qL];intro p' hp';rw[hsplit]at hp';simp only[ei,cE]at hp';rcases hp' with z|z|z
        ·exact hno p' (by simp[z])
        ·subst z;exact fun e=>hjs e.symm
        ·exact hno p' (by simp[z])
      obtain⟨u',q1,q2⟩:=F j u hj'
      refine⟨u',by simp only[Act.put];rw[Array.getElem?_setIfInBounds_ne (Ne.symm hjs)];exact q1,?_⟩
      cases q2 with
      |val _ _ q2=>exact .val _ _ (q2.mono fun b pl z=>by rw[aF.cT _ _ (by simp)];exact z)
      |loc s2 off x pl z=>
       have:s2≠p.s:=fun e=>by subst e;rw[hpn]at z;cases z
       exact .loc s2 off x pl (by rw[aF.cT _ _ (by simpa using this)];exact z)
    ·obtain⟨q1,q2,q3⟩:=hp p' (hsub.subset hp');exact⟨by rw[aF.cT _ _ (by simpa using(hdis p' hp').2)];exact q1,q2,q3⟩
  ·obtain⟨qi,oi⟩:=q;simp only at hqi;subst hqi;obtain⟨r1,r2,r3,r4⟩:=L.Pa (qi,oi) hqm;simp only at r1 r2 r3 r4;have hoi:=r1;obtain⟨pre,post,hsplit⟩:=List.append_of_mem hqm;have hpair:=L.pair;rw[hsplit,nZ]at hpair;have hord:=L.ord;rw[hsplit,lk,eT,nr,gP]at hord;have hwq:=L.wr (qi,oi) hqm;simp only at hwq hord;have hpreN:W qi=true→∀p∈pre,eH P p.2.op=true:=fun hw p hp'=>by
    rw[gP,if_pos hw,if_pos hw]at hord;have hpw:=L.wr p (by rw[hsplit];simp[hp']);cases hn:eH P p.2.op with
    |true=>rfl
    |false=>
     exfalso;rw[hn]at hpw;cases hf:(pre.map (·.1)).filter W with
     |nil=>
      have:p.1∈(pre.map (·.1)).filter W:=ig.2 ⟨dI.2 ⟨p,hp',rfl⟩,hpw⟩;rw[hf]at this;simp at this
     |cons y ys=>
      rw[hf,dp,List.cons.injEq]at hord;have:y∈(pre.map (·.1)).filter W:=(by rw[hf];simp);obtain⟨p2,q1,q2⟩:=dI.1 (ig.1 this).1;have:=(hpair.2.2 p2 q1 (qi,oi) (by simp)).1;exact this (by rw[q2];exact hord.1)
   have hpre:∀p∈pre,xQ P ops p (qi,oi)∧B qi p.1=false:=fun p hp'=>by
    have ha:=hpair.2.2 p hp' (qi,oi) (by simp);have hB:=hnl p.1 (.inr ⟨p,by rw[hsplit];simp[hp'],rfl⟩) ha.1;refine⟨?_,hB⟩;rcases ha.2 hB with⟨z1,z2⟩|z|⟨r,z1,z2,z3⟩
    ·simp only at z2;have:=hpreN (by rw[hwq,z2];rfl) p hp';rw[z1]at this;cases this
    ·exact z
    ·exfalso;have hpL:p.1∈(qi::l).filter W:=ig.2 ⟨(L.left p.1).2 (.inr ⟨p,by rw[hsplit];simp[hp'],rfl⟩),L.wW _ (z3.subset (by simp))⟩;obtain⟨A,hA⟩:=L.PH;have hr:=akr (by rw[hA];exact L.QK) hpL (by rw[hA];exact z3);rcases cE.1 (ig.1 hr).1 with e|e
     ·exact z1 e
     ·have:=(jg.1 L.cons).1 r e;simp only at z2;rw[z2]at this;cases this
   have hord':((pre++post).map (·.1)).filter W=l.filter W:=by
    rw[lk,nr];by_cases hw:W qi=true
    ·have hnil:(pre.map (·.1)).filter W=[]:=List.eq_nil_iff_forall_not_mem.2 fun y hy=>by
      obtain⟨p2,q1,q2⟩:=dI.1 (ig.1 hy).1;have h1:=L.wr p2 (by rw[hsplit];simp[q1]);rw[hpreN hw p2 q1,q2,(ig.1 hy).2]at h1;cases h1
     rw[gP,if_pos hw,if_pos hw,hnil,dA,List.cons.injEq]at hord
     rw[hnil,dA];exact hord.2
    ·rw[gP,if_neg hw,if_neg hw]at hord;exact hord
   rw[hsplit]at h;replace h:=al8 r2 pre hl σ hpre h;have hsub:(pre++post).Sublist rem:=(by rw[hsplit];exact List.Sublist.append (List.Sublist.refl _) (List.sublist_cons_self _ _));have hne:∀q'∈pre++post,q'.1≠qi:=by
    intro q' hq';rcases ei.1 hq' with z|z
    ·exact(hpair.2.2 q' z (qi,oi) (by simp)).1
    ·exact fun e=>((jg.1 hpair.2.1).1 q' z).1 e.symm
   have L':Left P loc ops B W Wl n l pd (pre++post):=L.next (List.Sublist.refl _) hsub
    (fun j hj hjl=>by
     rcases hjl with q|⟨q',q1,q2⟩
     ·exact .inl q
     ·rw[hsplit]at q1;simp only[ei,cE]at q1;rcases q1 with z|z|z
      ·exact .inr ⟨q',by simp[z],q2⟩
      ·subst z;exact absurd q2.symm hj
      ·exact .inr ⟨q',by simp[z],q2⟩)
    (fun hj=>by
     rcases hj with⟨p,q1,q2⟩|⟨q',q1,q2⟩
     ·exact L.wM p q1 (qi,oi) hqm q2
     ·exact hne q' q1 q2)
    hord'
   have hpl:∀p∈pd,p.s∉oi.looksAt ops∧oi.dst≠some p.s:=fun p hpm=>r4 p hpm (hnl p.i (.inl ⟨p,hpm,rfl⟩) (L.wM p hpm (qi,oi) hqm));have hopnd:∀M,∀x∈oi.op.operands,aL ⟨jF pd σ.t,M⟩ x=aL ⟨σ.t,M⟩ x:=fun M x hx=>by
    cases x with
    |tmp t=>
     have:∀p∈pd,p.s≠t:=fun p hpm e=>(hpl p hpm).1 (by
      subst e;exact List.mem_append_left _ (List.mem_filterMap.2 ⟨.tmp p.s,by simpa using hx,rfl⟩))
     simp only[aL,Fr.get];exact qL this
    |_=>rfl
   have hwant:fG ops (jF pd σ.t) oi=fG ops σ.t oi:=by
    unfold fG;cases hg:oi.guard with
    |none=>rfl
    |some gw=>
     obtain⟨g,want⟩:=gw;simp only;cases ht:(ops[g]?).bind (·.dst)with
     |none=>rfl
     |some t=>
      have:∀p∈pd,p.s≠t:=fun p hpm e=>(hpl p hpm).1 (by subst e;simp[Oper.looksAt,hg,ht]);simp only[Fr.get];rw[qL this]
   have hdp:∀i,oi.dst=some i→∀p∈pd,p.s≠i:=fun i hdi p hpm e=>(hpl p hpm).2 (by rw[hdi,e]);obtain⟨T,M⟩:=σ;simp only at I F hp h hopnd hwant;have skip:∀(hl':HL),fG ops T oi=some false→gC P loc ops B Q hl' (pre++post) (St.cC ⟨T,M⟩ oi.dst undef)→wpOp P ops Z qi (wpOps P ops Z l) a w:=by
    intro hl' hw h';simp only[wpOp,hoi];rw[if_neg (by rw[wm (σ:=⟨jF pd T,M⟩) F (hwant.trans hw)];simp)];exact ih pd (pre++post) hl' _ _ _ L' h' (zB I F hs hdf r3 hdp (.gu rfl) hp)
   have act:∀(hl':HL) (v:Value) (M':Mem),fG ops T oi=some true→cM P loc ⟨T,M⟩ oi=some (v,⟨T,M'⟩)→gC P loc ops B Q hl' (pre++post) (St.cC ⟨T,M'⟩ oi.dst v)→
     wpOp P ops Z qi (wpOps P ops Z l) a w:=by
    intro hl' v M' hw hst h';have hst':cM P loc ⟨jF pd T,M⟩ oi=some (v,⟨jF pd T,M'⟩):=by
     rw[yB (T:=T) r2 (hopnd M),hst];rfl
    simp only[wpOp,hoi];rw[if_pos (wm (σ:=⟨jF pd T,M⟩) F (hwant.trans hw))];refine .inl ?_;obtain⟨nx,v',w',ρ',c1,c2,c3,c4,c5,c6⟩:=PD hst' ρ0 h0 w0 ρ a w I F;unfold Oper.wp;rw[c1];have hp':∀p∈pd,ρ' (true,p.s)=none∧M'.x p.s=some (p.e,p.z)∧T p.s=some (.pointer (some ⟨p.s,0,some 0⟩)):=fun p hpm=>by
     obtain⟨q1,q2,q3⟩:=hp p hpm;obtain⟨z1,z2⟩:=c6 p.s (fun d hd=>fun e=>hdp d hd p hpm e.symm);exact⟨by rw[z1];exact q1,by rw[z2 q1];exact q2,q3⟩
    cases nx<;>simp only[sN,aw]at c2<;>first
     |(subst c2;exact ih pd (pre++post) hl' _ _ _ L' h' (zB c3 c4 hs hdf r3 hdp c5 hp'))
     |(exact absurd c2 (by simp))
   have tsame:∀{v:Value} {σ':St},cM P loc ⟨T,M⟩ oi=some (v,σ')→σ'.t=T:=fun{v σ'} hst=>by
    have:=yB (P:=P) (loc:=loc) (T:=T) (T':=T) (m:=M) r2 (fun x hx=>rfl);rw[hst]at this;simp only[fJ,aw,bH,true_and]at this;rw[this]
   by_cases hn:eH P oi.op=true
   ·obtain⟨v,hl',h1,h2⟩:=(Qv hn).1 h;unfold iX at h1;simp only at h1;split at h1
    ·simp at h1
    ·rename_i hw;simp only[aw,bH]at h1;obtain⟨rfl,rfl⟩:=h1;exact skip _ hw h2
    ·rename_i hw;split at h1;rotate_left
     ·simp at h1
     rename_i u hu;simp only[aw,bH]at h1;obtain⟨rfl,rfl⟩:=h1;unfold pb at hu;cases hst:cM P loc ⟨T,M⟩ oi with
     |none=>rw[hst]at hu;simp at hu
     |some pr=>
      obtain⟨u2,σ2⟩:=pr;rw[hst]at hu;simp only[fJ,aw]at hu;subst hu;have e:=vY hn hst;subst e;exact act _ _ M hw hst h2
   ·rw[gC,if_neg hn]at h;simp only at h;split at h
    ·exact h.elim
    ·rename_i hw;exact skip _ hw h
    ·rename_i hw;split at h
     ·rename_i f args hc;have hc':dJ ⟨jF pd T,M⟩ oi=some (f,args):=(by rw[CP (hopnd M)];exact hc);simp only[wpOp,hoi];rw[if_pos (wm (σ:=⟨jF pd T,M⟩) F (hwant.trans hw))];refine .inl (amD (σ:=⟨jF pd T,M⟩) hc' h I F fun v h' ρ' v' w' hpost hnice J j1 j2 hv=>?_);obtain⟨_,h2⟩:=hpost hnice;exact ih pd (pre++post) hl _ _ _ L' h2 (zB J (F.mono j1 j2) hs hdf r3 hdp (.val _ _ hv) fun p hpm=>by
       obtain⟨q1,q2,q3⟩:=hp p hpm;exact⟨by rw[j2];exact q1,q2,q3⟩)
     ·split at h;rotate_left
      ·exact h.elim
      rename_i v σ' hst;obtain⟨T',M'⟩:=σ';have ht:=tsame hst;simp only at ht;subst ht;exact act _ v M' hw hst h.2
end
section
variable {P:Program} {ρ0 ρ ρ':aF} {h0:aa} {w0 w:World} {m:Mem}
structure cf where
 bx:List Nat
 perm:List Nat
 M:List (Nat×List Nat)
 alts:List (List Nat)
def cf.perms (d:cf):List (List Nat):=d.perm::d.alts
structure az where
 loc:List Nat
 keep:Nat→List Nat
 draw:Nat→cf
def cf.L (d:cf) (i:Nat):List Nat:=List.range (d.M.getD i (0,[])).1++(d.M.getD i (0,[])).2
def cf.B (d:cf) (i j:Nat):Bool:=decide (j<(d.M.getD i (0,[])).1) || (d.M.getD i (0,[])).2.contains j
theorem cf.Ro {d:cf} {i j:Nat} (h:d.B i j=true):j∈d.L i:=by
 unfold cf.B at h;unfold cf.L;rw[kG,dP,List.contains_iff_mem]at h;rw[ei,dv];exact h
def nF (P:Program) (ops:Array Oper) (i:Nat):gZ:=
 match ops[i]? with
 |some ⟨some s,.alloc e,_,_,_,_⟩=>⟨i,s,e,(dR P e).getD []⟩
 |_=>⟨i,0,0,[]⟩
def mf (P:Program) (ops:Array Oper) (d:cf):List gZ:=d.bx.map (nF P ops)
def pV (ops:Array Oper) (pm:List Nat):List (Nat×Oper):=pm.map fun i=>(i,ops.getD i default)
def NN (P:Program) (ops:Array Oper) (p q:Nat×Oper):Bool:=eH P p.2.op&&
  (match p.2.dst with|some d=> !(q.2.looksAt ops).contains d&&q.2.dst != some d|none=>true)&&
  (match q.2.dst with|some d=> !(p.2.looksAt ops).contains d|none=>true)
def zf (P:Program) (ops:Array Oper) (B:Nat→Nat→Bool) (Wl:List Nat) (p q:Nat×Oper):Bool:=
 p.1 != q.1&&(B q.1 p.1 || (!eH P p.2.op&& !eH P q.2.op) || NN P ops p q || Wl.any fun r=>r != q.1&&B q.1 r&&[p.1,r].isSublist Wl)
theorem T9 {ops:Array Oper} {B:Nat→Nat→Bool} {Wl:List Nat} {p q:Nat×Oper} (h:zf P ops B Wl p q=true):Co P ops B Wl p q:=by
 unfold zf at h;rw[bX,bne_iff_ne]at h;refine⟨h.1,fun hB=>?_⟩;have h2:=h.2;rw[hB,Bool.false_or,kG,kG]at h2;rcases h2 with(h2|h2)|h2
 ·rw[bX,Bool.not_eq_true',Bool.not_eq_true']at h2;exact .inl h2
 rotate_left
 ·obtain⟨r,_,hr⟩:=kV.1 h2;rw[bX,bX,bne_iff_ne]at hr;exact .inr (.inr ⟨r,hr.1.1,hr.1.2,List.isSublist_iff_sublist.1 hr.2⟩)
 refine .inr (.inl ?_);unfold NN at h2;rw[bX,bX]at h2;obtain⟨⟨a1,a2⟩,a3⟩:=h2;refine⟨a1,fun d hd=>?_,fun d hd=>?_,fun d hd=>?_⟩
 ·rw[hd]at a2;simp only[bX,Bool.not_eq_true']at a2;intro hm;have:=a2.1;rw[List.contains_eq_mem,lp]at this;exact this hm
 ·rw[hd]at a2;simp only[bX,bne_iff_ne]at a2;exact a2.2
 ·rw[hd]at a3;simp only[Bool.not_eq_true']at a3;intro hm;rw[List.contains_eq_mem,lp]at a3;exact a3 hm
def ue {α:Type} (f:α→α→Bool):List α→Bool
 |[]=>true
 |x::r=>r.all (f x)&&ue f r
theorem OC {α:Type} {f:α→α→Bool} {R:α→α→Prop} (hf:∀x y,f x y=true→R x y):∀l:List α,ue f l=true→l.Pairwise R:=by
 intro l;induction l with
 |nil=>intro _;exact .nil
 |cons x r ih=>
  intro h;rw[ue,bX]at h;exact .cons (fun y hy=>hf x y (cq.1 h.1 y hy)) (ih h.2)
def AT (P:Program) (loc:List Nat) (ops:Array Oper) (n:Nat) (p:gZ):Bool:=
 match ops[p.i]? with
 |some o=>(match o.op with| .alloc e=>e==p.e|_=>false)&&o.dst==some p.s&&o.guard.isNone&&loc.contains p.s&&decide (p.s<n)&&(dR P p.e).isSome
 |none=>false
def wB (P:Program) (ops:Array Oper) (d:cf) (i:Nat):Bool:= !d.bx.contains i&& !eH P (ops.getD i default).op
def exts (B:Nat→Nat→Bool):Nat→List Nat→List (List Nat)
 |0,_=>[[]]
 |n+1,X=>if X.isEmpty then[[]]else X.flatMap fun x=>if(X.erase x).all (fun y=> !B x y)then(exts B n (X.erase x)).map (x::·)else[]
def zG (ops:Array Oper) (d:cf):Bool:=
 (List.range ops.size).all (fun i=>match ops[i]? with
  |some o=>(d.L i).all (fun j=>decide (j<ops.size)&&o.after.toList.any fun e=>Region.binds .any e&&decide (e.on<ops.size)&&(e.on==j || d.B e.on j))&&
    o.after.toList.all (fun e=> !Region.binds .any e || decide (e.on<i))
  |none=>false)
def IG (P:Program) (loc:List Nat) (n:Nat) (ops:Array Oper) (d:cf) (pm:List Nat):Bool:=
 let pd:=mf P ops d
 let rem:=pV ops pm
 let N:=ops.size
 (List.range N).all (fun i=>d.bx.contains i || pm.contains i)&&d.bx.all (fun i=>decide (i<N))&&pm.all (fun i=>decide (i<N))&&
 ue (zf P ops d.B (pm.filter (wB P ops d))) rem&&
 rem.all (fun q=>vG loc q.2&&(match q.2.dst with|some i=>decide (i<n)|none=>true)&&
  pd.all (fun p=>d.B q.1 p.i || (!(q.2.looksAt ops).contains p.s&&q.2.dst != some p.s)))&&
 pd.all (AT P loc ops n)&&ue (fun p q=>p.i != q.i&&p.s != q.s) pd&&pd.all (fun p=>rem.all fun q=>p.i != q.1)
def zF (P:Program) (loc:List Nat) (n:Nat) (ops:Array Oper) (d:cf):Bool:=
 zG ops d&&d.perms.all (IG P loc n ops d)&&
 (exts d.B ops.size ((List.range ops.size).filter (wB P ops d))).all (fun e=>d.perms.any fun pm=>pm.filter (wB P ops d)==e)
theorem A9 {ops:Array Oper} {listed:Array Bool} {i:Nat}:i∈Region.ready .any ops listed↔
  i<ops.size∧listed.getD i true=false∧∃o,ops[i]? =some o∧∀e∈o.after,Region.binds .any e=true→listed.getD e.on false=true:=by
 unfold Region.ready;rw[ig,dv];constructor
 ·rintro⟨h1,h2⟩;rw[bX]at h2;obtain⟨h2,h3⟩:=h2;refine⟨h1,by simpa using h2,ops[i],by simp[h1],?_⟩;simp only[Array.getElem?_eq_getElem h1,fJ,iJ]at h3;rw[Array.all_eq_true_iff_forall_mem]at h3;intro e he hb;have:=h3 e he;rw[hb]at this;simpa using this
 ·rintro⟨h1,h2,o,h3,h4⟩;refine⟨h1,?_⟩;rw[bX];refine⟨by rw[h2];rfl,?_⟩;rw[h3];simp only[fJ,iJ];rw[Array.all_eq_true_iff_forall_mem];intro e he;cases hb:Region.binds .any e with
  |false=>rfl
  |true=>rw[h4 e he hb];rfl
theorem vq (l:Array Bool) (i j:Nat) (h:i<l.size):(l.setIfInBounds i true).getD j true=if i=j then true else l.getD j true:=by
 simp only[Array.getD_eq_getD_getElem?];by_cases hij:i=j
 ·subst hij;rw[Array.getElem?_setIfInBounds_self_of_lt h];simp
 ·rw[Array.getElem?_setIfInBounds_ne hij,if_neg hij]
structure yS (ops:Array Oper) (B:Nat→Nat→Bool):Prop where
 Xe:∀i j,B i j=true→i<ops.size→j<ops.size∧∃o,ops[i]? =some o∧∃e∈o.after,Region.binds .any e=true∧e.on<ops.size∧(e.on=j∨B e.on j=true)
 back:∀i o,ops[i]? =some o→∀e∈o.after,Region.binds .any e=true→e.on<i
theorem Xf {ops:Array Oper} {d:cf} (h:zG ops d=true):yS ops d.B:=by
 unfold zG at h;refine⟨fun i j hB hi=>?_,fun i o ho e he hb=>?_⟩
 ·have:=cq.1 h i (dv.2 hi);rw[Array.getElem?_eq_getElem hi]at this;simp only[bX]at this;have hj:=cq.1 this.1 j (cf.Ro hB);rw[bX]at hj;obtain⟨e,he,hb⟩:=kV.1 hj.2;simp only[bX,kG,beq_iff_eq,dP]at hb;exact⟨of_decide_eq_true hj.1,ops[i],by simp[hi],e,by simpa using he,hb.1.1,hb.1.2,hb.2⟩
 ·have hi:i<ops.size:=by rcases Nat.lt_or_ge i ops.size with z|z;exact z;rw[Array.getElem?_eq_none z]at ho;cases ho
  have:=cq.1 h i (dv.2 hi);rw[ho]at this;simp only[bX]at this;have h2:=cq.1 this.2 e (by simpa using he);rw[hb]at h2;simpa using h2
theorem ah3 {ops:Array Oper} {B:Nat→Nat→Bool} {listed:Array Bool} (E:yS ops B) (hs:listed.size=ops.size):∀k i,i≤k→i<ops.size→listed.getD i true=false→∃i,i∈Region.ready .any ops listed:=by
 intro k;induction k with
 |zero=>
  intro i hik hi hl;have:i=0:=by omega
  subst this;refine⟨0,A9.2 ⟨hi,hl,ops[0],by simp[hi],fun e he hb=>?_⟩⟩;exact absurd (E.back 0 _ (Array.getElem?_eq_getElem hi) e he hb) (Nat.not_lt_zero _)
 |succ k ihk=>
  intro i hik hi hl;by_cases aQ:∀e∈ops[i].after,Region.binds .any e=true→listed.getD e.on false=true
  ·exact⟨i,A9.2 ⟨hi,hl,ops[i],by simp[hi],aQ⟩⟩
  ·have:∃e,e∈ops[i].after∧Region.binds .any e=true∧listed.getD e.on false≠true:=by
    apply Classical.byContradiction;intro hno;exact aQ fun e he hb=>Classical.byContradiction fun hne=>hno ⟨e,he,hb,hne⟩
   obtain⟨e,he,hb,hne⟩:=this
   have hlt:=E.back i _ (Array.getElem?_eq_getElem hi) e he hb
   have hes:e.on<listed.size:=by rw[hs];omega
   refine ihk e.on (by omega) (by omega) ?_
   simp only[Array.getD_eq_getD_getElem?,Array.getElem?_eq_getElem hes,iJ]at hne ⊢
   simpa using hne
theorem WA {α:Type} {p q:α→Bool} {x:α} (hpq:∀y,p y=true→q y=true) (hq:q x=true) (hp:p x=false):∀l:List α,x∈l→l.countP p<l.countP q:=by
 intro l;have hle:∀l:List α,l.countP p≤l.countP q:=by
  intro l;induction l with
  |nil=>simp
  |cons y r ih=>
   rw[List.countP_cons,List.countP_cons];cases h:p y with
   |true=>rw[hpq y h];simp;exact ih
   |false=>simp;cases q y<;>simp<;>omega
 induction l with
 |nil=>intro h;simp at h
 |cons y r ih=>
  intro h;rw[List.countP_cons,List.countP_cons];by_cases e:x=y
  ·subst e;rw[hq,hp];simp;have:=hle r;omega
  ·have:=ih (by rcases cE.1 h with z|z;exact absurd z e;exact z);cases h:p y with
   |true=>rw[hpq y h];simp;exact this
   |false=>simp;cases q y<;>simp<;>omega
def uJ (ops:Array Oper) (listed:Array Bool):Nat:=(List.range ops.size).countP fun i=> !listed.getD i true
theorem ZP {ops:Array Oper} {B:Nat→Nat→Bool} (E:yS ops B):∀(fuel t:Nat) (listed:Array Bool),listed.size=ops.size→uJ ops listed≤fuel→
  (∀i j,listed.getD i true=true→B i j=true→j<ops.size→i<ops.size→listed.getD j true=true)→
  (∀i,i∈Region.linearise.go .any ops fuel t listed []↔i<ops.size∧listed.getD i true=false)∧(Region.linearise.go .any ops fuel t listed []).Nodup∧(Region.linearise.go .any ops fuel t listed []).Pairwise (fun x y=>B x y=false):=by
 intro fuel;induction fuel with
 |zero=>
  intro t listed hs hu hc;have hno:∀i,i<ops.size→listed.getD i true=true:=fun i hi=>by
   unfold uJ at hu;have:=List.countP_eq_zero.1 (Nat.le_zero.1 hu) i (dv.2 hi);simpa using this
  refine⟨fun i=>⟨fun h=>by simp[Region.linearise.go]at h,fun h=>?_⟩,by simp[Region.linearise.go]⟩;rw[hno i h.1]at h;cases h.2
 |succ fuel ih=>
  intro t listed hs hu hc;have hgo:Region.linearise.go .any ops (fuel+1) t listed []=match(Region.ready .any ops listed)[t % (Region.ready .any ops listed).length]? with
   |some i=>Region.linearise.go .any ops fuel (t / (Region.ready .any ops listed).length) (listed.setIfInBounds i true) [i]
   |none=>[]:=by rfl
  rw[hgo];cases hi:(Region.ready .any ops listed)[t % (Region.ready .any ops listed).length]? with
  |none=>
   have hnil:Region.ready .any ops listed=[]:=by
    cases hr:Region.ready .any ops listed with
    |nil=>rfl
    |cons x xs=>
     rw[hr]at hi;have hlt:t % (x::xs).length<(x::xs).length:=Nat.mod_lt _ (by simp);simp at hi;simp at hlt;omega
   refine⟨fun i=>⟨fun h=>by simp at h,fun h=>?_⟩,by simp⟩;obtain⟨j,hj⟩:=ah3 E hs i i (a8 _) h.1 h.2;rw[hnil]at hj;simp at hj
  |some i=>
   simp only[];rw[linearise_go_acc,List.reverse_singleton,List.singleton_append];obtain⟨q1,q2,o,q3,q4⟩:=A9.1 (dY hi);have hil:i<listed.size:=(by rw[hs];exact q1);have hBi:∀j,B i j=true→listed.getD j true=true:=fun j hB=>by
    obtain⟨hj,o',ho',e,he,hb,hon,hor⟩:=E.Xe i j hB q1;rw[q3]at ho';obtain rfl:=bP ho';have h1:=q4 e he hb;have hlt:e.on<listed.size:=(by rw[hs];exact hon);have h1':listed.getD e.on true=true:=by
     simp only[Array.getD_eq_getD_getElem?,Array.getElem?_eq_getElem hlt,iJ]at h1 ⊢;exact h1
    rcases hor with q|q
    ·rw[←q];exact h1'
    ·exact hc e.on j h1' q hj hon
   obtain⟨r1,r2,r3⟩:=ih (t / (Region.ready .any ops listed).length) (listed.setIfInBounds i true) (by simpa using hs) (by
     have:uJ ops (listed.setIfInBounds i true)<uJ ops listed:=by
      unfold uJ;refine WA (x:=i) (fun y hy=>?_) (by rw[q2];rfl) (by rw[vq _ _ _ hil];simp) _ (dv.2 q1);rw[vq _ _ _ hil]at hy;split at hy
      ·simp at hy
      ·exact hy
     omega) (fun j k hj hB hk hj'=>by
     rw[vq _ _ _ hil]at hj ⊢;by_cases hik:i=k
     ·rw[if_pos hik]
     ·rw[if_neg hik];by_cases hij:i=j
      ·subst hij;exact hBi k hB
      ·rw[if_neg hij]at hj;exact hc j k hj hB hk hj')
   have hmem:∀j,j∈Region.linearise.go .any ops fuel (t / (Region.ready .any ops listed).length) (listed.setIfInBounds i true) []→j≠i∧listed.getD j true=false:=fun j hj=>by
    have:=((r1 j).1 hj).2;rw[vq _ _ _ hil]at this;by_cases hij:i=j
    ·rw[if_pos hij]at this;cases this
    ·rw[if_neg hij]at this;exact⟨Ne.symm hij,this⟩
   refine⟨fun j=>?_,List.nodup_cons.2 ⟨fun h=>(hmem i h).1 rfl,r2⟩,jg.2 ⟨fun j hj=>?_,r3⟩⟩
   ·rw[cE,r1 j,vq _ _ _ hil];by_cases hij:i=j
    ·subst hij;rw[if_pos rfl];exact⟨fun _=>⟨q1,q2⟩,fun _=>.inl rfl⟩
    ·rw[if_neg hij];exact⟨fun h=>by rcases h with h|h;exact absurd h.symm hij;exact h,fun h=>.inr h⟩
   ·cases hB:B i j with
    |false=>rfl
    |true=>have:=hBi j hB;rw[(hmem j hj).2]at this;cases this
theorem XT {B:Nat→Nat→Bool}:∀(l:List Nat) (n:Nat) (X:List Nat),l.Perm X→X.length≤n→l.Pairwise (fun x y=>B x y=false)→l∈exts B n X:=by
 intro l;induction l with
 |nil=>
  intro n X hp hn _;have:X=[]:=hp.symm.eq_nil;subst this;cases n<;>simp[exts]
 |cons x r ih=>
  intro n X hp hn hw;obtain⟨h1,h2⟩:=List.cons_perm_iff_perm_erase.1 hp;have hX:X.isEmpty=false:=by cases X with|nil=>simp at h1|cons _ _=>rfl
  have hlen:=hp.length_eq;cases n with
  |zero=>simp at hlen;omega
  |succ n=>
   rw[exts,hX];simp only[ff,if_false];obtain⟨w1,w2⟩:=jg.1 hw;refine List.mem_flatMap.2 ⟨x,h1,?_⟩;rw[if_pos (cq.2 fun y hy=>by rw[w1 y (h2.symm.subset hy)];rfl)];refine dI.2 ⟨r,ih n _ h2 ?_ w2,rfl⟩;have:=h2.length_eq;simp at hlen;omega
theorem tV (P:Program) (ops:Array Oper) (i:Nat):(nF P ops i).i=i:=by unfold nF;split<;>rfl
theorem aaI {P:Program} {loc:List Nat} {ops:Array Oper} {n i:Nat} (h:AT P loc ops n (nF P ops i)=true):Cf P loc ops (nF P ops i)∧(nF P ops i).s<n:=by
 unfold AT at h;rw[tV]at h;split at h;rotate_left
 ·simp at h
 rename_i o ho;simp only[bX,beq_iff_eq,Option.isNone_iff_eq_none,dP]at h;obtain⟨⟨⟨⟨⟨h1,h2⟩,h3⟩,h4⟩,h5⟩,h6⟩:=h;split at h1;rotate_left
 ·simp at h1
 rename_i e he;rw[beq_iff_eq]at h1;refine⟨⟨⟨o,by rw[tV];exact ho,by rw[he,h1],h2,h3⟩,?_⟩,h5⟩;obtain⟨dst,op,type,pos,after,guard⟩:=o;simp only at he h2;subst he;cases dst with
 |none=>simp at h2
 |some s=>
  have:nF P ops i=⟨i,s,e,(dR P e).getD []⟩:=by simp only[nF,ho]
  rw[this]at h6 ⊢;simp only at h6 ⊢;cases hz:dR P e with
  |none=>rw[hz]at h6;simp at h6
  |some z=>rfl
theorem OO {ops:Array Oper} {d:cf} (h:ue (fun p q:gZ=>p.i != q.i&&p.s != q.s) (mf P ops d)=true):(mf P ops d).Pairwise fun p q=>p.i≠q.i∧p.s≠q.s:=
 OC (fun x y hxy=>by rw[bX,bne_iff_ne,bne_iff_ne]at hxy;exact hxy) _ h
theorem WY {loc:List Nat} {n:Nat} {ops:Array Oper} {d:cf} (h:zF P loc n ops d=true) (t:Nat):
  (mf P ops d).Pairwise (fun p q=>p.i≠q.i∧p.s≠q.s)∧∃pm∈d.perms,Left P loc ops d.B (wB P ops d) (pm.filter (wB P ops d)) n (Region.linearise.go .any ops ops.size t (Array.replicate ops.size false) []) (mf P ops d) (pV ops pm):=by
 unfold zF at h;simp only[bX]at h;obtain⟨⟨e1,e2⟩,e3⟩:=h;have hget:∀i,i<ops.size→(Array.replicate ops.size false).getD i true=false:=fun i hi=>by
  simp[Array.getD_eq_getD_getElem?,hi]
 obtain⟨l1,l2,l3⟩:=ZP (Xf e1) ops.size t (Array.replicate ops.size false) (by simp) (by
  unfold uJ;have:=List.countP_le_length (p:=fun i=> !(Array.replicate ops.size false).getD i true) (l:=List.range ops.size);simpa using this)
  (fun i j hij _ _ hi=>by rw[hget i hi]at hij;cases hij)
 generalize hL:Region.linearise.go .any ops ops.size t (Array.replicate ops.size false) []=L at l1 l2 l3;have hperm:(L.filter (wB P ops d)).Perm ((List.range ops.size).filter (wB P ops d)):=by
  refine(List.perm_ext_iff_of_nodup (l2.filter _) (List.nodup_range.filter _)).2 fun i=>?_;rw[ig,ig,l1 i,dv];exact⟨fun z=>⟨z.1.1,z.2⟩,fun z=>⟨⟨z.1,hget i z.1⟩,z.2⟩⟩
 have hin:=XT (B:=d.B) _ ops.size _ hperm (by have:=List.length_filter_le (wB P ops d) (List.range ops.size);simpa using this) (l3.filter _);obtain⟨pm,hpm,heq⟩:=kV.1 (cq.1 e3 _ hin);have heq':pm.filter (wB P ops d)=L.filter (wB P ops d):=eq_of_beq heq;have ok1:=cq.1 e2 pm hpm;unfold IG at ok1;simp only[bX]at ok1;obtain⟨⟨⟨⟨⟨⟨⟨c2,c3⟩,c4⟩,c6⟩,c7⟩,c8⟩,c9⟩,c10⟩:=ok1;refine⟨OO c9,pm,hpm,fun i=>?_,l2,l3,?_,fun q hq=>?_,fun p hp=>?_,(by rw[heq'];exact List.suffix_rfl),(by rw[heq'];exact l2.filter _),(fun x hx=>(ig.1 hx).2),OC (fun x y=>T9) _ c6,fun q hq=>?_,fun p hp=>?_,OO c9,fun p hp q hq=>?_⟩
 ·rw[l1 i];constructor
  ·rintro⟨hi,_⟩;have:=cq.1 c2 i (dv.2 hi);rw[kG]at this;rcases this with q|q
   ·exact .inl ⟨nF P ops i,dI.2 ⟨i,by simpa using q,rfl⟩,tV P ops i⟩
   ·exact .inr ⟨(i,ops.getD i default),dI.2 ⟨i,by simpa using q,rfl⟩,rfl⟩
  ·rintro(⟨p,q1,q2⟩|⟨q,q1,q2⟩)
   ·obtain⟨j,hj,rfl⟩:=dI.1 q1;rw[tV]at q2;subst q2;have:=of_decide_eq_true (cq.1 c3 j hj);exact⟨this,hget _ this⟩
   ·obtain⟨j,hj,rfl⟩:=dI.1 q1;simp only at q2;subst q2;have:=of_decide_eq_true (cq.1 c4 j hj);exact⟨this,hget _ this⟩
 ·rw[←heq',pV,tz];congr 1;exact(List.map_congr_left (fun a _=>rfl)).trans (List.map_id _)
 ·obtain⟨i,hi,rfl⟩:=dI.1 hq;simp only[wB];have:d.bx.contains i=false:=by
   cases hb:d.bx.contains i with
   |false=>rfl
   |true=>
    have h1:nF P ops i∈mf P ops d:=dI.2 ⟨i,by simpa using hb,rfl⟩;have:=cq.1 (cq.1 c10 _ h1) (i,ops.getD i default) hq;rw[tV]at this;simp at this
  rw[this];rfl
 ·obtain⟨i,hi,rfl⟩:=dI.1 hp;rw[tV];have:d.bx.contains i=true:=by simpa using hi
  simp only[wB,this,Bool.not_true,Bool.false_and]
 ·have h1:=cq.1 c7 q hq;simp only[bX]at h1;obtain⟨⟨h1,h2⟩,h3⟩:=h1;obtain⟨i,hi,rfl⟩:=dI.1 hq;have hlt:=of_decide_eq_true (cq.1 c4 i hi);refine⟨by simp[Array.getD_eq_getD_getElem?,hlt],h1,fun k hk=>?_,fun p hp hB=>?_⟩
  ·simp only at hk h2;rw[hk]at h2;exact of_decide_eq_true h2
  ·have:=cq.1 h3 p hp;simp only at this hB;rw[hB,Bool.false_or,bX,bne_iff_ne]at this;refine⟨fun hm=>?_,this.2⟩;have:=this.1;rw[Bool.not_eq_true',List.contains_eq_mem,lp]at this;exact this hm
 ·have h1:=cq.1 c8 p hp;obtain⟨i,hi,rfl⟩:=dI.1 hp;exact aaI h1
 ·have:=cq.1 (cq.1 c10 p hp) q hq;simpa using this
def vl (pd:List gZ) (T:Fr):Fr:=fun j=>
 match pd.find? (fun p=>p.s==j)with
 |some p=>some (.pointer (some ⟨p.s,0,some 0⟩))
 |none=>match T j with
  |some v=>match iY v with
   |some s=>if pd.any (fun p=>p.s==s)then none else some v
   |none=>some v
  |none=>none
def vm (pd:List gZ) (x:bV):bV:=fun j=>
 match pd.find? (fun p=>p.s==j)with
 |some p=>some (p.e,p.z)
 |none=>x j
def qD (pd:List gZ) (σ:St):St:=match pd with
 |[]=>σ
 |p::r=>⟨vl (p::r) σ.t,⟨vm (p::r) σ.m.x,σ.m.h⟩⟩
theorem Jj {pd:List gZ} {j:Nat} (h:∀p∈pd,p.s≠j):pd.find? (fun p=>p.s==j)=none:=by
 rw[List.find?_eq_none];intro p hp;simpa using h p hp
theorem Jl {pd:List gZ} (hpw:pd.Pairwise fun p q=>p.i≠q.i∧p.s≠q.s) {p:gZ} (hp:p∈pd):pd.find? (fun q=>q.s==p.s)=some p:=by
 induction pd with
 |nil=>simp at hp
 |cons q r ih=>
  rw[List.find?_cons];rcases cE.1 hp with e|e
  ·subst e;simp
  ·have hne:=((jg.1 hpw).1 p e).2;have:(q.s==p.s)=false:=(by simpa using hne);rw[this];exact ih (jg.1 hpw).2 e
theorem Inv.forget (I:Inv P ρ0 h0 w0 ρ m w) {ρ1:aF} {x1:bV} (hf:∀b,ρ1 (false,b)=ρ (false,b)) (hb:∀s pl,ρ1 (true,s)=some pl→ρ (true,s)=some pl∧(x1 s=m.x s∨x1 s=none)):
  Inv P ρ0 h0 w0 ρ1 ⟨x1,m.h⟩ w:=by
 have hback:∀{k pl},ρ1 k=some pl→ρ k=some pl:=fun{k pl} h=>by
  obtain⟨t,b⟩:=k;cases t
  ·rw[←hf];exact h
  ·exact(hb b pl h).1
 have hmono:∀{v u},VR ρ v u→VR ρ1 v u:=fun{v u} h=>h.mono fun b pl q=>by rw[hf];exact q
 have hrow:∀{k pl r},ρ1 k=some pl→(Mem.mk x1 m.h).row? k=some r→m.row? k=some r:=fun{k pl r} h q=>by
  obtain⟨t,b⟩:=k;cases t
  ·exact q
  ·simp only[Mem.row?,bV.look]at q ⊢;rcases(hb b pl h).2 with z|z
   ·rw[z]at q;exact q
   ·rw[z]at q;simp at q
 have hlive:∀{k pl},ρ1 k=some pl→(Mem.mk x1 m.h).live k→m.live k:=fun{k pl} h q=>by
  obtain⟨t,b⟩:=k;cases t
  ·exact q
  ·simp only[Mem.live,bV.look]at q ⊢;rcases(hb b pl h).2 with z|z
   ·rw[z]at q;exact q
   ·rw[z]at q;simp at q
 have hwr:∀{k pl},ρ1 k=some pl→(Mem.mk x1 m.h).wr k→m.wr k:=fun{k pl} h q=>by
  obtain⟨t,b⟩:=k;cases t
  ·exact q
  ·simp only[Mem.wr,bV.look]at q ⊢;rcases(hb b pl h).2 with z|z
   ·rw[z]at q;exact q
   ·rw[z]at q;simp at q
 refine⟨⟨fun k pl h=>I.rel.bound k pl (hback h),fun b pl h=>I.rel.dQ b pl (hback h),fun k pl wr e cs h hr=>?_,fun b pl o h ho=>⟨(I.rel.obj b pl o (hback h) ho).1.mono (fun b pl q=>by rw[hf];exact q),(I.rel.obj b pl o (hback h) ho).2⟩,
  fun k k' pl pl' hne h h' hw hl=>I.rel.sep k k' pl pl' hne (hback h) (hback h') (hwr h hw) (hlive h' hl),fun i hi=>let ⟨pl,q1,q2⟩:=I.rel.jX i hi;⟨pl,by rw[hf];exact q1,q2⟩⟩,
  ⟨I.tr.os,I.tr.tape,I.tr.output,I.tr.drawn,I.tr.size,fun b pl h=>by rw[hf];exact I.tr.ext b pl h,I.tr.hn,I.tr.hg,fun b pl h h'=>I.tr.new b pl (hback h) h',I.tr.dead,I.tr.lO,I.tr.frame⟩,
  fun s pl h=>I.box s pl (hback h),I.nw⟩
 obtain⟨C,e',fz,c1,c2,c3,c4,c5,c6⟩:=I.rel.row _ _ _ _ _ (hback h) (hrow h hr);exact⟨C,e',fz,c1,c2,c3,c4,c5,fun i v hi=>let ⟨v',q1,q2⟩:=c6 i v hi;⟨v',q1,hmono q2⟩⟩
theorem XC {n:Nat} {pd:List gZ} (hpw:pd.Pairwise fun p q=>p.i≠q.i∧p.s≠q.s) {σ:St} {a:Act} (C:ki P ρ0 h0 w0 n σ a w):yQ P ρ0 h0 w0 n pd (qD pd σ) a w:=by
 obtain⟨ρ,I,F,hs,hd⟩:=C;cases hpd:pd with
 |nil=>exact⟨ρ,I,fun i v hi=>F i v (by have h2:jF [] σ.t i=some v:=hi;simp only[jF,List.any_nil,ff,if_false]at h2;exact h2),hs,hd,by simp⟩
 |cons p0 r0=>
  rw[←hpd];have he:qD pd σ=⟨vl pd σ.t,⟨vm pd σ.m.x,σ.m.h⟩⟩:=by rw[hpd];rfl
  rw[he];refine⟨fun k=>if k.1=true∧(pd.any fun p=>p.s==k.2)=true then none else ρ k,?_,?_,hs,hd,fun p hp=>⟨?_,?_,?_⟩⟩
  ·refine I.forget (fun b=>by simp) fun s pl h=>?_;simp only[true_and]at h;split at h
   ·simp at h
   ·rename_i hno;refine⟨h,.inl ?_⟩;have:∀p∈pd,p.s≠s:=fun p hp e=>hno (kV.2 ⟨p,hp,by simp[e]⟩);simp only[vm,Jj this]
  ·intro j v hj;simp only[Fr.get]at hj;by_cases hex:∃p∈pd,p.s=j
   ·rw[vu hex]at hj;simp at hj
   ·have hno:∀p∈pd,p.s≠j:=fun p hp e=>hex ⟨p,hp,e⟩;rw[qL hno]at hj;simp only[vl,Jj hno]at hj;cases hT:σ.t j with
    |none=>rw[hT]at hj;simp at hj
    |some u=>
     rw[hT]at hj;simp only at hj;obtain⟨u',q1,q2⟩:=F j u hT;have:u=v∧∀s,iY u=some s→(pd.any fun p=>p.s==s)=false:=by
      split at hj
      ·rename_i s hs';split at hj
       ·simp at hj
       ·rename_i hnn;exact⟨bP hj,fun s2 hs2=>by rw[hs']at hs2;obtain rfl:=bP hs2;simpa using hnn⟩
      ·rename_i hnone;exact⟨bP hj,fun s hs'=>by rw[hnone]at hs';cases hs'⟩
     obtain⟨rfl,hloc⟩:=this;refine⟨u',q1,?_⟩;cases q2 with
     |val _ _ q=>exact .val _ _ (q.mono fun b pl z=>by simpa using z)
     |loc s off x pl z=>
      have:=hloc s rfl;exact .loc s off x pl (by simp only[this];simpa using z)
  ·have:(pd.any fun q=>q.s==p.s)=true:=kV.2 ⟨p,hp,by simp⟩;simp[this]
  ·simp only[vm,Jl hpw hp]
  ·simp only[vl,Jl hpw hp]
end
section
variable {P:Program} {ρ0 ρ ρ':aF} {h0:aa} {w0 w:World} {m:Mem}
inductive Ex
 |normal
 |exit (n:Nat)
 |ret
def St.cut (σ:St) (cfg:az) (id:Nat):St:=⟨σ.t.prune (cfg.keep id),⟨σ.m.x.prune cfg.loc,σ.m.h⟩⟩
def uL (vb:(Ex→St→Prop)→St→Prop) (Q:Ex→St→Prop):Nat→St→Prop
 |0,_=>False
 |n+1,σ=>vb (fun e σ'=>match e with
  | .normal=>uL vb Q n σ'
  |e=>Q e σ') σ
def qj (f:St→Prop) (Q:Ex→St→Prop):Ex→St→Prop
 | .normal,σ=>f σ
 |e,σ=>Q e σ
def oc (i:Nat) (Q:Ex→St→Prop):Ex→St→Prop
 | .exit j,σ=>if j=i then Q .normal σ else Q (.exit j) σ
 |e,σ=>Q e σ
def tA (P:Program) (loc:List Nat) (ops:Array Oper) (B:Nat→Nat→Bool) (Q:St→Prop):List (List Nat)→St→Prop
 |[],_=>True
 |pm::r,σ=>gC P loc ops B Q [] (pV ops pm) σ∧tA P loc ops B Q r σ
theorem Uk {loc:List Nat} {ops:Array Oper} {B:Nat→Nat→Bool} {Q:St→Prop} {σ:St} {pm:List Nat}:∀{l:List (List Nat)},pm∈l→tA P loc ops B Q l σ→gC P loc ops B Q [] (pV ops pm) σ:=by
 intro l;induction l with
 |nil=>intro h;simp at h
 |cons x r ih=>
  intro h q;rcases cE.1 h with e|e
  ·subst e;exact q.1
  ·exact ih e q.2
def vc (P:Program) (cfg:az):Code→(Ex→St→Prop)→St→Prop
 | .skip,Q,σ=>Q .normal σ
 | .region id ops false,Q,σ=>gg P cfg.loc ops (fun σ=>Q .normal (σ.cut cfg id)) ops.toList σ
 | .region id ops true,Q,σ=>tA P cfg.loc ops (cfg.draw id).B (fun σ=>Q .normal (σ.cut cfg id)) (cfg.draw id).perms (qD (mf P ops (cfg.draw id)) σ)
 | .seq a b,Q,σ=>vc P cfg a (qj (vc P cfg b Q) Q) σ
 | .cond c a b,Q,σ=>match aL σ c with
  |some (.bool t)=>if t=true then vc P cfg a Q σ else vc P cfg b Q σ
  |_=>False
 | .block i b,Q,σ=>vc P cfg b (oc i Q) σ
 | .loop b,Q,σ=>∃n,uL (vc P cfg b) Q n σ
 | .exit i,Q,σ=>Q (.exit i) σ
 | .ret,Q,σ=>Q .ret σ
 |_,_,_=>False
def aA (P:Program) (cfg:az) (n:Nat):Code→Bool
 | .region id ops draw=>ops.toList.all (fun o=>match o.dst with|some i=>decide (i<n)|none=>true)&&(!draw || zF P cfg.loc n ops (cfg.draw id))
 | .seq a b=>aA P cfg n a&&aA P cfg n b
 | .cond _ a b=>aA P cfg n a&&aA P cfg n b
 | .block _ b=>aA P cfg n b
 | .loop b=>aA P cfg n b
 |_=>true
theorem aad {α:Type} (T:Nat→Option α) (i:Nat):∀l:List Nat,mQ (l.map fun i=>(i,T i)) i=T i∨mQ (l.map fun i=>(i,T i)) i=none:=by
 intro l;induction l with
 |nil=>exact .inr rfl
 |cons j r ih=>
  simp only[eT,mQ];split
  ·rename_i h;subst h;exact .inl rfl
  ·exact ih
theorem ki.cut {n:Nat} {σ:St} {a:Act} (C:ki P ρ0 h0 w0 n σ a w) (cfg:az) (id:Nat):ki P ρ0 h0 w0 n (σ.cut cfg id) a w:=by
 obtain⟨ρ,I,F,hs,hd⟩:=C;exact⟨ρ,I.forget (ρ1:=ρ) (x1:=σ.m.x.prune cfg.loc) (fun _=>rfl) fun s pl h=>⟨h,aad σ.m.x.look s cfg.loc⟩,F.prune _,hs,hd⟩
def QC (P:Program) (ρ0:aF) (h0:aa) (w0:World) (n:Nat) (Q:Ex→St→Prop):Exit→Act→World→Prop
 | .normal,a,w=>∃σ,Q .normal σ∧ki P ρ0 h0 w0 n σ a w
 | .exit i,a,w=>∃σ,Q (.exit i) σ∧ki P ρ0 h0 w0 n σ a w
 | .ret,a,w=>∃σ,Q .ret σ∧ki P ρ0 h0 w0 n σ a w
 |_,_,_=>False
theorem amE {c:Code} {Z:Exit→Act→World→Prop} (J:Nat→Act→World→Prop) (hJ:∀k a w,J (k+1) a w→c.wp P (Exit.then (fun a' w'=>J k a' w') Z) a w) (h0:∀a w,¬J 0 a w):
  ∀(k:Nat) (a:Act) (w:World),J k a w→(Code.loop c).wp P Z a w:=by
 intro k a w h b kk cs;have key:∀(k:Nat) (a:Act) (w:World),J k a w→∃e a' w',Z e a' w'∧Arrives P (lone (b.at a (.code c:: .inLoop c::kk)) cs w) b kk cs e a' w':=by
  intro k;induction k with
  |zero=>intro a w h;exact absurd h (h0 a w)
  |succ k ih=>
   intro a w h;obtain⟨e,a₁,w₁,hq,harr⟩:=hJ k a w h b (.inLoop c::kk) cs;cases e with
   |normal=>
    obtain⟨e₂,a₂,w₂,hq₂,harr₂⟩:=ih a₁ w₁ hq;exact⟨e₂,a₂,w₂,hq₂,.of_steps (Steps.trans harr (.one step_inLoop)) harr₂⟩
   |exit id=>exact⟨_,a₁,w₁,hq,.pass (x:=.inLoop c) rfl (fun _ _=>.inl (by simp)) harr⟩
   |goto l=>exact⟨_,a₁,w₁,hq,.pass (x:=.inLoop c) rfl (fun _ _=>.inl (by simp)) harr⟩
   |ret=>exact⟨_,a₁,w₁,hq,.pass (x:=.inLoop c) rfl (fun _ _=>.inl (by simp)) harr⟩
   |panic ch=>exact⟨_,a₁,w₁,hq,.pass (x:=.inLoop c) rfl (fun _ _=>.inl (by simp)) harr⟩
   |outgrown=>exact⟨_,a₁,w₁,hq,.pass (x:=.inLoop c) rfl (fun _ _=>.inl (by simp)) harr⟩
 obtain⟨e,a',w',hq,harr⟩:=key k a w h;exact⟨e,a',w',hq,.of_steps (.one step_loop) harr⟩
theorem amq {cfg:az} {n:Nat} (hmix:P.follows .mixedOrders=true):∀(c:Code) (Q:Ex→St→Prop) (σ:St) (a:Act) (w:World),aA P cfg n c=true→vc P cfg c Q σ→ki P ρ0 h0 w0 n σ a w→
  c.wp P (QC P ρ0 h0 w0 n Q) a w:=by
 intro c;induction c with
 |skip=>intro Q σ a w _ h C;exact wp_skip ⟨σ,h,C⟩
 |region id ops draw=>
  intro Q σ a w hok h C;simp only[aA,bX]at hok;obtain⟨h1,h2⟩:=hok;have hdst:∀o∈ops.toList,∀i,o.dst=some i→i<n:=fun o ho i hi=>by
   have:=cq.1 h1 o ho;rw[hi]at this;exact of_decide_eq_true this
  cases draw with
  |false=>
   refine wp_region_list (amh (Q:=fun σ=>Q .normal (σ.cut cfg id)) (fun σ' a' w' hq hc=>⟨_,hq,hc.cut cfg id⟩) ops.toList σ a w hdst h C)
  |true=>
   simp only[Bool.not_true,Bool.false_or]at h2;refine wp_region_draw fun t=>?_;simp only[Region.schedule,hmix,Bool.true_or,if_true];obtain⟨hpw,pm,hpm,L⟩:=WY h2 t;refine WZ (Q:=fun σ=>Q .normal (σ.cut cfg id)) (fun σ' a' w' hq hc=>⟨_,hq,hc.cut cfg id⟩) _ (mf P ops (cfg.draw id)) (pV ops pm) [] _ a _ L (Uk hpm h) ?_;have C':ki P ρ0 h0 w0 n σ a w.drew:=let ⟨ρ,I,F,z⟩:=C;⟨ρ,I.drew,F,z⟩;exact XC hpw C'
 |seq x y ihx ihy=>
  intro Q σ a w hok h C;simp only[aA,bX]at hok;refine wp_seq (Code.wp_mono (fun e a' w' hq=>?_) (ihx _ σ a w hok.1 h C));cases e with
  |normal=>obtain⟨σ',q1,q2⟩:=hq;exact ihy Q σ' a' w' hok.2 q1 q2
  |exit i=>exact hq
  |ret=>exact hq
  |goto l=>exact hq
  |panic ch=>exact hq
  |outgrown=>exact hq
 |cond c x y ihx ihy=>
  intro Q σ a w hok h C;simp only[aA,bX]at hok;simp only[vc]at h;split at h;rotate_left
  ·exact h.elim
  rename_i t ht;obtain⟨ρ,I,F,z⟩:=C;have hc:=(dt I F ht).cA rfl;refine wp_cond hc ?_;cases t with
  |true=>simp only[if_true]at h ⊢;exact ihx Q σ a w hok.1 h ⟨ρ,I,F,z⟩
  |false=>simp only[ff,if_false]at h ⊢;exact ihy Q σ a w hok.2 h ⟨ρ,I,F,z⟩
 |block i b ih=>
  intro Q σ a w hok h C;refine wp_block (Code.wp_mono (fun e a' w' hq=>?_) (ih _ σ a w hok h C));cases e with
  |normal=>exact hq
  |exit j=>
   obtain⟨σ',q1,q2⟩:=hq;simp only[oc]at q1;simp only[Exit.inBlock];by_cases hj:j=i
   ·rw[if_pos hj]at q1 ⊢;exact⟨σ',q1,q2⟩
   ·rw[if_neg hj]at q1 ⊢;exact⟨σ',q1,q2⟩
  |ret=>exact hq
  |goto l=>exact hq
  |panic ch=>exact hq
  |outgrown=>exact hq
 |loop b ih=>
  intro Q σ a w hok h C;obtain⟨k,hk⟩:=h;refine amE (J:=fun k a w=>∃σ,uL (vc P cfg b) Q k σ∧ki P ρ0 h0 w0 n σ a w) (fun k a w hJ=>?_) (fun a w hJ=>?_) k a w ⟨σ,hk,C⟩
  ·obtain⟨σ',q1,q2⟩:=hJ;refine Code.wp_mono (fun e a' w' hq=>?_) (ih _ σ' a w hok q1 q2);cases e with
   |normal=>exact hq
   |exit j=>exact hq
   |ret=>exact hq
   |goto l=>exact hq
   |panic ch=>exact hq
   |outgrown=>exact hq
  ·obtain⟨σ',q1,_⟩:=hJ;exact q1
 |exit i=>intro Q σ a w _ h C;exact wp_exit ⟨σ,h,C⟩
 |ret=>intro Q σ a w _ h C;exact wp_ret ⟨σ,h,C⟩
 |rangeFunc f ps x y=>intro Q σ a w _ h;exact h.elim
 |scope b=>intro Q σ a w _ h;exact h.elim
 |label l=>intro Q σ a w _ h;exact h.elim
 |goto l=>intro Q σ a w _ h;exact h.elim
 |refuse s=>intro Q σ a w _ h;exact h.elim
def vQ (P:Program) (σ:St):ResultVar→Option Value
 | .tmp t=>match σ.t.get t with
  |some v=>if cu v then some v else none
  |none=>none
 | .cell t ty=>match σ.t.get t with
  |some (.pointer (some ad))=>match dU P ty,cW P ty with
   |some true,some n=>match σ.m.cells ad n with
    |some l=>some (.agg ⟨l⟩)
    |none=>none
   |some false,_=>match σ.m.cells ad 1 with
    |some [v]=>some v
    |_=>none
   |_,_=>none
  |_=>none
def pX (P:Program) (σ:St):List ResultVar→Option (List Value)
 |[]=>some []
 |r::l=>match vQ P σ r,pX P σ l with
  |some v,some vs=>some (v::vs)
  |_,_=>none
def nO:List Value→Value
 |[v]=>v
 |l=>.tuple ⟨l⟩
def sw (tmps:Array Value):ResultVar→Sem Value
 | .tmp t=>pure (tmps.getD t undef)
 | .cell a t=>do loadVar t (←asAddr (tmps.getD a undef))
theorem aik (fn:Func) (tmps:Array Value):results fn tmps=(do
  let vs ←fn.results.mapM (sw tmps)
  pure (if h:vs.size=1 then vs[0]else .tuple vs)):=by
 unfold results;congr 1
theorem aih {σ:St} {r:ResultVar} {v:Value} (h:vQ P σ r=some v) (I:Inv P ρ0 h0 w0 ρ σ.m w) {tmps:Array Value} (F:fm ρ σ.t tmps):
  ∃v',(sw tmps r).run P w= .ok v' w∧VR ρ v v':=by
 cases r with
 |tmp t=>
  simp only[vQ]at h;split at h
  ·rename_i u hu;split at h
   ·rename_i hnl;obtain rfl:=bP h;obtain⟨v',q1,q2⟩:=F t _ hu;exact⟨v',by simp[sw,Array.getD_eq_getD_getElem?,q1],q2.cu hnl⟩
   ·simp at h
  ·simp at h
 |cell t ty=>
  simp only[vQ]at h;split at h
  ·rename_i ad hx;obtain⟨v',q1,q2⟩:=F t _ hx;obtain⟨pl,hk,hv⟩:=q2.ptr;have hg:tmps.getD t undef= .pointer (some ⟨pl.B,pl.o+ad.off,none⟩):=(by simp[Array.getD_eq_getD_getElem?,q1,hv]);split at h
   ·rename_i n hagg hsz;split at h
    ·rename_i l hl;obtain rfl:=bP h;obtain⟨p1,l',p2,p3,p4⟩:=rP I hk hl;have hrun:=run_loadCells_list (P:=P) w ⟨pl.B,pl.o+ad.off,none⟩ l' p4;rw[p2]at hrun;exact⟨.agg ⟨l'⟩,by simp[hg,asAddr,loadVar,sw,uu hagg,run_sizeOf hsz,hrun],BE (p1.trans p2.symm) p3⟩
    ·simp at h
   ·rename_i hagg;split at h
    ·rename_i v1 hl;obtain rfl:=bP h;obtain⟨p1,l',p2,p3,p4⟩:=rP I hk hl;obtain⟨v2,e1,e2⟩:=p3 0 v1 rfl;have hc:=p4 0 v2 e1;rw[Addr.add_zero']at hc;exact⟨v2,by simp[hg,asAddr,loadVar,sw,uu hagg,hc],e2⟩
    ·simp at h
   ·simp at h
  ·simp at h
theorem aii {σ:St} (I:Inv P ρ0 h0 w0 ρ σ.m w) {tmps:Array Value} (F:fm ρ σ.t tmps):∀{l:List ResultVar} {vs:List Value},pX P σ l=some vs→
  ∃vs':List Value,(l.mapM (sw tmps)).run P w= .ok vs' w∧my ρ vs vs':=by
 intro l;induction l with
 |nil=>intro vs h;simp only[pX,aw]at h;subst h;exact⟨[],rfl,rfl,by simp⟩
 |cons r l ih=>
  intro vs h;simp only[pX]at h;split at h;rotate_left
  ·simp at h
  rename_i v us hv hus;obtain rfl:=bP h;obtain⟨v',q1,q2⟩:=aih hv I F;obtain⟨vs',p1,p2,p3⟩:=ih hus;refine⟨v'::vs',?_,by simp[p2],fun i u hi=>?_⟩
  ·rw[List.mapM_cons];simp only[Sem.run_bind,q1,Result.andThen_ok,p1,Sem.run_pure]
  ·cases i with
   |zero=>simp at hi;subst hi;exact⟨v',rfl,q2⟩
   |succ i=>exact p3 i u (by simpa using hi)
theorem aij {vs vs':List Value} (h:my ρ vs vs'):VR ρ (nO vs) (nO vs'):=by
 obtain⟨hl,h2⟩:=h;match vs,vs',hl with
 |[],[],_=>exact .tuple [] [] rfl (by simp)
 |[v],[v'],_=>obtain⟨u,q1,q2⟩:=h2 0 v rfl;simp at q1;subst q1;exact q2
 |v::v2::r,v'::v2'::r',hl=>exact .tuple _ _ hl ((pc hl).2 h2)
def xd (args:List Value):Fr:=Fr.ofList (args.zipIdx.map fun p=>(p.2,some p.1))
def vk (P:Program) (rs:List ResultVar) (post:Value→aa→Prop):Ex→St→Prop
 | .exit _,_=>False
 |_,σ=>match pX P σ rs with
  |some vs=>post (nO vs) σ.m.h
  |none=>False
theorem aae (l:List Value):∀(k i:Nat) (v:Value),mQ ((l.zipIdx k).map fun p=>(p.2,some p.1)) i=some v→k≤i∧l[i-k]? =some v:=by
 induction l with
 |nil=>intro k i v h;simp[mQ]at h
 |cons x r ih=>
  intro k i v h;rw[List.zipIdx_cons,eT]at h;simp only[mQ]at h;split at h
  ·rename_i e;subst e;simp at h;subst h;simp
  ·rename_i hne;obtain⟨q1,q2⟩:=ih (k+1) i v h;refine⟨by omega,?_⟩;rw[show i-k=(i-(k+1))+1 by omega,List.getElem?_cons_succ];exact q2
theorem Ti {f:FuncId} {fn:Func} {c:Code} {cfg:az} {args:List Value} {h:aa} {post:Value→aa→Prop} (hmix:P.follows .mixedOrders=true) (hf:P.funcs[f]? =some fn) (hb:fn.body=some c)
  (hname:(fn.name== "runtime.NumGoroutine")=false) (hn:args.length≤fn.ntmps) (hok:aA P cfg fn.ntmps c=true)
  (hvc:vc P cfg c (vk P fn.results.toList post) ⟨xd args,⟨bV.nil,h⟩⟩):ao P f args h post:=by
 refine⟨⟨fn,hf,by simp[hb],hname⟩,fun ρ w args' hbox R V=>?_⟩;refine calls_of_wp hf hb ?_;have I:=Inv.start R hbox;have hlen:args'.length≤fn.ntmps:=by rw[←V.1];exact hn
 have C:ki P ρ h w fn.ntmps ⟨xd args,⟨bV.nil,h⟩⟩ {tmps:=(⟨args'⟩:Array Value)++Array.replicate (fn.ntmps-(⟨args'⟩:Array Value).size) undef,defers:=[]} w:=by
  refine⟨ρ,I,fun i v hi=>?_,by simp;omega,rfl⟩;obtain⟨_,q⟩:=aae args 0 i v hi;obtain⟨v',q1,q2⟩:=V.2 i v (by simpa using q);refine⟨v',?_,.val _ _ q2⟩;have hi':i<args'.length:=by rcases Nat.lt_or_ge i args'.length with z|z;exact z;rw[iK z]at q1;cases q1
  rw[Array.getElem?_append_left (by simpa using hi')];simpa using q1
 refine Code.wp_mono (fun e a' w' hq=>?_) (amq hmix c _ _ _ w hok hvc C);have fin:∀σ,(match pX P σ fn.results.toList with|some vs=>post (nO vs) σ.m.h|none=>False)→ki P ρ h w fn.ntmps σ a' w'→a'.defers=[]∧∃v,(results fn a'.tmps).run P w'= .ok v w'∧
   ∃v0 v' h' ρ',Ending.returned v= .returned v'∧post v0 h'∧(∀s,ρ' (true,s)=none)∧je P ρ' ⟨bV.nil,h'⟩ w'∧Tr ρ h w ρ' h' w'∧VR ρ' v0 v':=by
  intro σ hp ⟨ρ1,I1,F1,hs,hd⟩;refine⟨hd,?_⟩;split at hp;rotate_left
  ·exact hp.elim
  rename_i vs hvs;obtain⟨vs',q1,q2⟩:=aii I1 F1 hvs;refine⟨nO vs',?_,nO vs,nO vs',σ.m.h,iO ρ1,rfl,hp,fun s=>Aa _ s,I1.rel.iO,?_,(aij q2).iO⟩
  ·have hm:(fn.results.mapM (sw a'.tmps)).run P w'= .ok ⟨vs'⟩ w':=by
    rw[Array.mapM_eq_mapM_toList,Sem.run_map,q1];rfl
   rw[aik,Sem.run_bind,hm]
   simp only[Result.andThen_ok,Sem.run_pure]
   congr 1
   match vs' with
   |[]=>rfl
   |[v]=>rfl
   |v::v2::r=>simp[nO]
  ·have t:=I1.tr;exact⟨t.os,t.tape,t.output,t.drawn,t.size,fun b pl q=>by rw[nB];exact t.ext b pl q,t.hn,t.hg,fun b pl q q'=>by rw[nB]at q;exact t.new b pl q q',t.dead,t.lO,t.frame⟩
 cases e with
 |normal=>obtain⟨σ,q1,q2⟩:=hq;exact fin σ q1 q2
 |ret=>obtain⟨σ,q1,q2⟩:=hq;exact fin σ q1 q2
 |exit i=>obtain⟨σ,q1,q2⟩:=hq;exact q1
 |goto l=>exact hq
 |panic ch=>exact hq.elim
 |outgrown=>exact hq.elim
def ai (f:Func):Code:=match f.body with|some c=>c|none=>.skip
theorem aC {n:FuncId} {f:Func} {cfg:az} {args:List Value} {h:aa} {post:Value→aa→Prop} (hmix:P.follows .mixedOrders=true) (hf:P.funcs[n]? =some f) (hb:f.body=some (ai f))
  (hname:(f.name== "runtime.NumGoroutine")=false) (hn:Nat.ble args.length f.ntmps=true) (hok:aA P cfg f.ntmps (ai f)=true)
  (hvc:vc P cfg (ai f) (vk P f.results.toList post) ⟨xd args,⟨bV.nil,h⟩⟩):ao P n args h post:=
 Ti hmix hf hb hname (Nat.le_of_ble_eq_true hn) hok hvc
end
section
variable {P:Program} {loc:List Nat} {ops:Array Oper} {cfg:az}
theorem ami {Q Q':St→Prop} (hq:∀σ,Q σ→Q' σ):∀(l:List Oper) (σ:St),gg P loc ops Q l σ→gg P loc ops Q' l σ:=by
 intro l;induction l with
 |nil=>intro σ h;exact hq _ h
 |cons o r ih=>
  intro σ h;simp only[gg]at h ⊢;split at h
  ·exact h.elim
  ·exact ih _ h
  ·split at h
   ·exact h.mono fun v h' q n=>ih _ (q n)
   ·split at h
    ·exact ih _ h
    ·exact aa2 (fun v σ=>ih _) h
theorem amb {Q Q':St→Prop} {B:Nat→Nat→Bool} (hq:∀σ,Q σ→Q' σ):∀(l:List (Nat×Oper)) (hl:HL) (σ:St),gC P loc ops B Q hl l σ→gC P loc ops B Q' hl l σ:=by
 intro l;induction l with
 |nil=>intro hl σ h;exact hq _ h
 |cons p r ih=>
  intro hl σ h;obtain⟨i,o⟩:=p;simp only[gC]at h ⊢;split at h
  ·rename_i hn;rw[if_pos hn];split at h
   ·exact ih _ _ h
   ·exact h.elim
  ·rename_i hn;rw[if_neg hn];split at h
   ·exact h.elim
   ·exact ih _ _ h
   ·split at h
    ·exact h.mono fun v h' q n=>⟨(q n).1,ih _ _ (q n).2⟩
    ·split at h
     ·exact⟨h.1,ih _ _ h.2⟩
     ·exact h.elim
theorem Cq {Q Q':St→Prop} {B:Nat→Nat→Bool} (hq:∀σ,Q σ→Q' σ):∀(l:List (List Nat)) (σ:St),tA P loc ops B Q l σ→tA P loc ops B Q' l σ:=by
 intro l;induction l with
 |nil=>intro σ h;exact h
 |cons x r ih=>intro σ h;exact⟨amb hq _ _ _ h.1,ih σ h.2⟩
theorem amc {vb:(Ex→St→Prop)→St→Prop} (hvb:∀{Q Q':Ex→St→Prop},(∀e σ,Q e σ→Q' e σ)→∀σ,vb Q σ→vb Q' σ) {Q Q':Ex→St→Prop} (hq:∀e σ,Q e σ→Q' e σ):
  ∀n σ,uL vb Q n σ→uL vb Q' n σ:=by
 intro n;induction n with
 |zero=>intro σ h;exact h
 |succ n ih=>
  intro σ h;refine hvb (fun e σ' h'=>?_) σ h;cases e with
  |normal=>exact ih _ h'
  |exit i=>exact hq _ _ h'
  |ret=>exact hq _ _ h'
theorem QF:∀(c:Code) {Q Q':Ex→St→Prop},(∀e σ,Q e σ→Q' e σ)→∀σ,vc P cfg c Q σ→vc P cfg c Q' σ:=by
 intro c;induction c with
 |skip=>intro Q Q' hq σ h;exact hq _ _ h
 |region id ops draw=>
  intro Q Q' hq σ h;cases draw with
  |false=>exact ami (fun σ=>hq _ _) _ _ h
  |true=>exact Cq (fun σ=>hq _ _) _ _ h
 |seq a b iha ihb=>
  intro Q Q' hq σ h;refine iha (fun e σ' h'=>?_) σ h;cases e with
  |normal=>exact ihb hq _ h'
  |exit i=>exact hq _ _ h'
  |ret=>exact hq _ _ h'
 |cond c a b iha ihb=>
  intro Q Q' hq σ h;simp only[vc]at h ⊢;split at h
  ·rename_i t ht;cases t with
   |true=>rw[if_pos rfl]at h ⊢;exact iha hq _ h
   |false=>rw[if_neg (by simp)]at h ⊢;exact ihb hq _ h
  ·exact h.elim
 |block i b ih=>
  intro Q Q' hq σ h;refine ih (fun e σ' h'=>?_) σ h;cases e with
  |normal=>exact hq _ _ h'
  |ret=>exact hq _ _ h'
  |exit j=>
   simp only[oc]at h' ⊢;by_cases e:j=i
   ·rw[if_pos e]at h' ⊢;exact hq _ _ h'
   ·rw[if_neg e]at h' ⊢;exact hq _ _ h'
 |loop b ih=>
  intro Q Q' hq σ h;obtain⟨n,h⟩:=h;exact⟨n,amc (fun hq σ h=>ih hq σ h) hq n σ h⟩
 |exit i=>intro Q Q' hq σ h;exact hq _ _ h
 |ret=>intro Q Q' hq σ h;exact hq _ _ h
 |_=>intro Q Q' hq σ h;exact h.elim
theorem bL {b:Code} {Q:Ex→St→Prop} {σ:St} (J:Nat→St→Prop) (n:Nat) (h0:J n σ)
  (step:∀k σ,J k σ→vc P cfg b (qj (fun σ'=>∃j,j<k∧J j σ') Q) σ):vc P cfg (.loop b) Q σ:=by
 refine⟨n+1,?_⟩;have key:∀m n σ,n<m→J n σ→uL (vc P cfg b) Q m σ:=by
  intro m;induction m with
  |zero=>intro n σ h;omega
  |succ m ih=>
   intro n σ hn hJ;refine QF b (fun e σ' h'=>?_) σ (step n σ hJ);cases e with
   |normal=>obtain⟨j,hj,h'⟩:=h';exact ih j σ' (by omega) h'
   |exit i=>exact h'
   |ret=>exact h'
 exact key (n+1) n σ (by omega) h0
theorem Yv (T:Fr) (i j:Nat) (v:Value):(T.put i v).get j=if i=j then some v else T.get j:=rfl
theorem Ys (i j:Nat) (v:Option Value) (l:List (Nat×Option Value)):(Fr.ofList ((i,v)::l)).get j=if i=j then v else(Fr.ofList l).get j:=rfl
theorem get_nil (j:Nat):(Fr.ofList []).get j=none:=rfl
theorem ahO (T:Fr) (l:List Nat):T.prune l=Fr.ofList (l.map fun i=>(i,T.get i)):=rfl
theorem tU (x:bV) (i j:Nat) (v:TypeId×List Value):(x.set i v).look j=if i=j then some v else x.look j:=rfl
theorem aah (i j:Nat) (v:Option (TypeId×List Value)) (l:List (Nat×Option (TypeId×List Value))):(bV.ofList ((i,v)::l)).look j=if i=j then v else(bV.ofList l).look j:=rfl
theorem aaj (j:Nat):(bV.ofList []).look j=none:=rfl
theorem aak (j:Nat):bV.nil.look j=none:=rfl
theorem UJ (x:bV) (l:List Nat):x.prune l=bV.ofList (l.map fun i=>(i,x.look i)):=rfl
theorem qF (h:aa) (x:aZ) (b:Nat):(h.new x).f b=if b=h.n then x else h.f b:=rfl
theorem ef (h:aa) (x:aZ):(h.new x).n=h.n+1:=rfl
theorem Yp (h:aa) (x:aZ):(h.new x).g=h.g:=rfl
theorem gT (h:aa) (a:Nat) (x:aZ) (b:Nat):(h.set a x).f b=if b=a then x else h.f b:=rfl
theorem NO (h:aa) (a:Nat) (x:aZ):(h.set a x).n=h.n:=rfl
theorem Yq (h:aa) (a:Nat) (x:aZ):(h.set a x).g=h.g:=rfl
theorem Yt (p:gZ) (pd:List gZ) (T:Fr) (j:Nat):(vl (p::pd) T).get j=match(p::pd).find? (fun p=>p.s==j)with
 |some p=>some (.pointer (some ⟨p.s,0,some 0⟩))
 |none=>match T.get j with
  |some v=>match iY v with
   |some s=>if(p::pd).any (fun p=>p.s==s)then none else some v
   |none=>some v
  |none=>none:=rfl
theorem aai (p:gZ) (pd:List gZ) (x:bV) (j:Nat):(vm (p::pd) x).look j=match(p::pd).find? (fun p=>p.s==j)with
 |some p=>some (p.e,p.z)
 |none=>x.look j:=rfl
structure Ext (h h':aa):Prop where
 g:h'.g=h.g
 n:h.n≤h'.n
 f:∀b,b<h.n→h'.f b=h.f b
theorem Ext.bJ (h:aa):Ext h h:=⟨rfl,a8 _,fun _ _=>rfl⟩
theorem Ext.trans {h h' h'':aa} (a:Ext h h') (b:Ext h' h''):Ext h h'':=
 ⟨b.g.trans a.g,eW a.n b.n,fun i hi=>(b.f i (de hi a.n)).trans (a.f i hi)⟩
theorem Ext.new (h:aa) (x:aZ):Ext h (h.new x):=⟨rfl,Nat.le_succ _,fun i hi=>by rw[qF,if_neg (by omega)]⟩
theorem Ext.bN {h h':aa} (a:Ext h h') (x:aZ):Ext h (h'.new x):=a.trans (Ext.new h' x)
theorem Ext.dh {h h':aa} (a:Ext h h') {b:Nat} (hb:h.n≤b) (x:aZ):Ext h (h'.set b x):=
 ⟨a.g,a.n,fun i hi=>by rw[gT,if_neg (by omega)];exact a.f i hi⟩
def B (l:List UInt8):ByteArray:=⟨⟨l⟩⟩
theorem wy (l:List UInt8):(B l).size=l.length:=rfl
theorem Rn (l:List UInt8) (i:Nat):(B l)[i]? =l[i]? :=by
 by_cases h:i<l.length
 ·rw[av h,getElem?_pos (B l) i (by simpa[wy]using h)];rfl
 ·rw[iK (by omega),getElem?_neg (B l) i (by simpa[wy]using h)]
theorem Rm (l:List UInt8) (i j:Nat):(B l).extract i j=B ((l.take j).drop i):=by
 apply ByteArray.ext;apply Array.ext';simp[B,List.take_drop];by_cases h:i≤j
 ·rw[show i+(j-i)=j by omega]
 ·rw[List.drop_eq_nil_of_le (by simp;omega),List.drop_eq_nil_of_le (by simp;omega)]
theorem Rl (l k:List UInt8):B l++B k=B (l++k):=by
 apply ByteArray.ext;simp[B]
theorem wx (l k:List UInt8):B l=B k↔l=k:=⟨fun h=>by simpa[B]using h,fun h=>by rw[h]⟩
end
section
variable {P:Program} {loc:List Nat} {σ:St}
def Cr (k:IntKind) (a b:Int):Int:=k.wrap ((BitVec.ofInt k.bits a &&& BitVec.ofInt k.bits b).toNat:Int)
def Ox (k:IntKind) (a b:Int):Int:=k.wrap ((BitVec.ofInt k.bits a ||| BitVec.ofInt k.bits b).toNat:Int)
def QQ (k:IntKind) (a b:Int):Int:=k.wrap ((BitVec.ofInt k.bits a ^^^ BitVec.ofInt k.bits b).toNat:Int)
def NZ (k:IntKind) (a b:Int):Int:=k.wrap ((BitVec.ofInt k.bits a &&& ~~~BitVec.ofInt k.bits b).toNat:Int)
def Pu (k:IntKind) (a b:Int):Int:=k.wrap (a*2 ^ (min b.toNat k.bits))
def Pv (k:IntKind) (a b:Int):Int:=a.fdiv (2 ^ (min b.toNat k.bits))
def wO (op:BinOp) (k:IntKind) (a b:Int):Option Value:=match op with
 | .and=>some (.int k (Cr k a b))
 | .or=>some (.int k (Ox k a b))
 | .xor=>some (.int k (QQ k a b))
 | .andNot=>some (.int k (NZ k a b))
 | .shl=>if b<0 then none else some (.int k (Pu k a b))
 | .shr=>if b<0 then none else some (.int k (Pv k a b))
 | .add=>some (.int k (k.wrap (a+b)))
 | .sub=>some (.int k (k.wrap (a-b)))
 | .mul=>some (.int k (k.wrap (a*b)))
 | .eql=>some (.bool (decide (a=b)))
 | .neq=>some (.bool (decide (a≠b)))
 | .lss=>some (.bool (decide (a<b)))
 | .leq=>some (.bool (decide (a≤b)))
 | .gtr=>some (.bool (decide (b<a)))
 | .geq=>some (.bool (decide (b≤a)))
 | .quo=>if b=0 then none else some (.int k (k.wrap (a.tdiv b)))
 | .rem=>if b=0 then none else some (.int k (a.tmod b))
def mF (P:Program):List Field→List Value→List Value→Option Bool
 |[],_,_=>some true
 |f::fs,xs,ys=>if f.name= "_" then none else match P.underlying f.type,xs[f.offset]?,ys[f.offset]? with
  |some (.int _),some (.int k a),some (.int k' b)=>if k=k' then(mF P fs xs ys).map (decide (a=b)&&·)else none
  |some .string,some (.string a),some (.string b)=>(mF P fs xs ys).map (decide (a=b)&&·)
  |some .bool,some (.bool a),some (.bool b)=>(mF P fs xs ys).map ((a==b)&&·)
  |_,_,_=>none
def rV (P:Program) (t:TypeId) (u v:List Value):Option Bool:=
 if P.eqGuardType P.depth t=false∧P.stoodInHeld t=false∧u.all dm=true∧v.all dm=true then match P.underlying t with
  |some (.struct fs)=>mF P fs.toList u v
  |_=>none
 else none
def wJ (P:Program) (op:BinOp) (t:TypeId) (u v:List Value):Option Value:=match op with
 | .eql=>(rV P t u v).map fun r=>.bool r
 | .neq=>(rV P t u v).map fun r=>.bool (!r)
 |_=>none
def yC (op:BinOp) (a b:ByteArray):Option Value:=match op with
 | .add=>if a.size+b.size≤9223372036854775807 then some (.string (a++b))else none
 | .eql=>some (.bool (decide (a=b)))
 | .neq=>some (.bool (decide (a≠b)))
 |_=>none
def wP (op:BinOp) (a b:Bool):Option Value:=match op with
 | .eql=>some (.bool (a==b))
 | .neq=>some (.bool (!(a==b)))
 |_=>none
def uV (P:Program) (σ:St) (o:Oper) (op:BinOp) (xt:TypeId) (x y:Operand):Option (Value×St):=match mc P σ op xt x y with
 |some r=>some r
 |none=>di P σ o
def zq (P:Program) (σ:St) (o:Oper) (op:BinOp) (xt:TypeId) (x y:Operand):Option (Value×St):=match aL σ x,aL σ y with
 |some (.agg u),some (.agg v)=>(match wJ P op xt u.toList v.toList with|some v=>some (v,σ)|none=>di P σ o)
 |some (.int k a),some (.int k' b)=>if k=k' then(match wO op k a b with|some v=>some (v,σ)|none=>di P σ o)else di P σ o
 |some (.string a),some (.string b)=>(match yC op a b with|some v=>some (v,σ)|none=>di P σ o)
 |some (.bool a),some (.bool b)=>(match P.underlying xt,wP op a b with|some .bool,some v=>some (v,σ)|_,_=>di P σ o)
 |_,_=>uV P σ o op xt x y
theorem qe {o:Oper} {v:Value} (aQ:o.op.operands.toList.all (oD σ)=true) (hsel:vw o.op=false) (hr:(execOp (kY σ) o).aR P=some (.value v)) (hv:cA v=true):di P σ o=some (v,σ):=by
 simp[di,sQ,aQ,hsel,hr,hv]
theorem kl {x:Operand} {v:Value} (h:aL σ x=some v) (hv:cA v=true):oD σ x=true:=by simp[oD,h,hv]
theorem lz {x:Operand} {v:Value} (h:aL σ x=some v):kY σ x=v:=by simp[kY,h]
theorem zo (a b:ByteArray):(a.toList==b.toList)=decide (a=b):=by
 rw[ByteArray.toList_eq,ByteArray.toList_eq,Bool.eq_iff_iff];simp only[beq_iff_eq,dP];constructor
 ·intro h;apply ByteArray.ext;exact Array.ext' h
 ·intro h;rw[h]
theorem Ux (a b:ByteArray):(a==b)=decide (a=b):=by rw[beq_toListBytes,zo]
theorem qW {o:Oper} {op:BinOp} {xt yt:TypeId} {x y:Operand} {u v:Value} {r:Value} (ho:o.op= .binOp op xt x y yt) (hx:aL σ x=some u) (hy:aL σ y=some v) (hu:cA u=true) (hv:cA v=true)
  (hg:(eqGuard op xt x y u v).aR P=some ()) (hr:(binOp op xt u v).aR P=some r) (hf:cA r=true):di P σ o=some (r,σ):=by
 refine qe (by rw[ho];simp[Op.operands,kl hx hu,kl hy hv]) (by rw[ho];rfl) ?_ hf;simp only[execOp,ho,lz hx,lz hy];rw[cH,cH,hg];simp only[dZ,hr];rfl
theorem YF (op:BinOp) (xt:TypeId) (x y:Operand) (k k':IntKind) (a b:Int):(eqGuard op xt x y (.int k a) (.int k' b)).aR P=some ():=by
 unfold eqGuard;split<;>rfl
theorem YG (op:BinOp) (xt:TypeId) (x y:Operand) (a b:ByteArray):(eqGuard op xt x y (.string a) (.string b)).aR P=some ():=by
 unfold eqGuard;split<;>rfl
theorem Cx {op:BinOp} {k:IntKind} {a b:Int} {v:Value} (h:wO op k a b=some v) (xt:TypeId):(binOp op xt (.int k a) (.int k b)).aR P=some v∧cA v=true:=by
 cases op<;>simp only[wO,aw,reduceCtorEq,Option.ite_none_left_eq_some]at h<;>first
  |(subst h;refine⟨?_,rfl⟩;simp[binOp,Op.intArith,Op.intCmp,Sem.aR,pure,Bool.beq_eq_decide_eq,bne];done)
  |(obtain⟨h0,h⟩:=h;subst h;refine⟨?_,rfl⟩;simp[binOp,Op.intDiv,h0,Sem.aR,pure];done)
  |(subst h;refine⟨?_,rfl⟩;simp[binOp,Op.intBits,Cr,Ox,QQ,NZ,Sem.aR,pure];done)
  |(obtain⟨h0,h⟩:=h;subst h;refine⟨?_,rfl⟩;simp[binOp,Op.shift,Pu,Pv,h0,Sem.aR,pure];done)
theorem ug {t:TypeId} {d:TypeDesc} {cs:List Value} {off:Nat} {v:Value} (hu:P.underlying t=some d) (hd:(match d with| .struct _| .array _ _=>false|_=>true)=true) (hv:cs[off]? =some v):(part t ⟨cs⟩ off).aR P=some v:=by
 have:(isAgg t).aR P=some false:=by
  simp only[isAgg,cH,underlying,pS,dZ,hu];cases d<;>simp_all [Sem.aR,pure]
 simp[part,cH,this,Sem.aR,pure,hv]
theorem oV {t:TypeId} {d:TypeDesc} (h:P.underlying t=some d):(underlying t).aR P=some d:=by
 simp[underlying,cH,pS,h,Sem.aR,pure]
theorem Jb (d:Nat):∀(fs:List Field) (xs ys:List Value) (r:Bool),mF P fs xs ys=some r→(Op.eqFields (d+1) ⟨xs⟩ ⟨ys⟩ fs).aR P=some r:=by
 intro fs;induction fs with
 |nil=>intro xs ys r h;simp only[mF,aw]at h;subst h;rfl
 |cons f fs ih=>
  intro xs ys r h;rw[mF]at h;split at h
  ·simp at h
  ·rename_i hn;rw[Op.eqFields,if_pos hn];split at h
   ·rename_i k0 k a k' b hu hx hy;split at h
    ·rename_i hk;subst hk;obtain⟨r',h1,h2⟩:=Option.map_eq_some_iff.1 h;rw[cH,ug hu rfl hx,dZ,cH,ug hu rfl hy,dZ,cH];simp only[Op.equalIn,cH,oV hu,dZ,if_true,Sem.aR,pure];by_cases hab:a=b
     ·subst hab;simp only[beq_self_eq_true,Bool.not_true,ff,if_false,decide_true,tu]at h2 ⊢;rw[←h2];exact ih xs ys r' h1
     ·have e:r=false:=(by rw[←h2];simp[hab]);subst e;simp[hab,Sem.aR]
    ·simp at h
   ·rename_i a b hu hx hy;obtain⟨r',h1,h2⟩:=Option.map_eq_some_iff.1 h;rw[cH,ug hu rfl hx,dZ,cH,ug hu rfl hy,dZ,cH];simp only[Op.equalIn,cH,oV hu,dZ,Sem.aR,pure,Ux];by_cases hab:a=b
    ·subst hab;have e:r=r':=(by rw[←h2];simp);rw[e];simpa using ih xs ys r' h1
    ·have e:r=false:=(by rw[←h2];simp[hab]);subst e;simp[hab,Sem.aR]
   ·rename_i a b hu hx hy;obtain⟨r',h1,h2⟩:=Option.map_eq_some_iff.1 h;rw[cH,ug hu rfl hx,dZ,cH,ug hu rfl hy,dZ,cH];simp only[Op.equalIn,cH,oV hu,dZ,Sem.aR,pure];by_cases hab:a=b
    ·subst hab;have e:r=r':=(by rw[←h2];simp);rw[e];simpa using ih xs ys r' h1
    ·have e:r=false:=(by rw[←h2];simp[hab]);subst e;simp[hab,Sem.aR]
   ·simp at h
theorem Jd (d:Nat) (t:TypeId) (xs ys:Array Value) (fs:Array Field) (ht:P.underlying t=some (.struct fs)) (hp:P.stoodInHeld t=false):
  (Op.equalIn (d+1) t (.agg xs) (.agg ys)).aR P=(Op.eqFields d xs ys fs.toList).aR P:=by
 simp only[Op.equalIn,cH,oV ht,dZ,pS,hp,ff,if_false];rw[←Array.forIn_toList];generalize fs.toList=fs;induction fs with
 |nil=>rfl
 |cons f fs ih=>
  simp only[List.forIn_cons,Op.eqFields];by_cases hn:f.name≠ "_"
  ·simp only[if_pos hn,cH];generalize (part f.type xs f.offset).aR P=r1;cases r1 with
   |none=>rfl
   |some a=>
    simp only[dZ];generalize (part f.type ys f.offset).aR P=r2;cases r2 with
    |none=>rfl
    |some b=>
     simp only[dZ];generalize (Op.equalIn d f.type a b).aR P=r3;cases r3 with
     |none=>rfl
     |some r=>
      cases r
      ·rfl
      ·simpa[cH,Sem.aR,pure]using ih
  ·simp only[if_neg hn];simpa[cH,Sem.aR,pure]using ih
theorem zJ {t:TypeId} {u v:List Value} {r:Bool} (h:rV P t u v=some r):(∀op x y,(eqGuard op t x y (.agg ⟨u⟩) (.agg ⟨v⟩)).aR P=some ())∧(Op.equal t (.agg ⟨u⟩) (.agg ⟨v⟩)).aR P=some r∧u.all dm=true∧v.all dm=true:=by
 unfold rV at h;split at h;rotate_left
 ·simp at h
 rename_i hc;obtain⟨c1,c2,c3,c4⟩:=hc;split at h;rotate_left
 ·simp at h
 rename_i fs hu;refine⟨fun op x y=>?_,?_,c3,c4⟩
 ·cases op<;>first|rfl|simp[eqGuard,cH,pS,c1,Sem.aR,pure]
 ·show(Op.equalIn (9999+1) t _ _).aR P=_;rw[Jd 9999 t _ _ fs hu c2];exact Jb 9998 _ _ _ _ h
theorem T7 {op:BinOp} {t:TypeId} {u v:List Value} {r:Value} (h:wJ P op t u v=some r):(∀x y,(eqGuard op t x y (.agg ⟨u⟩) (.agg ⟨v⟩)).aR P=some ())∧(binOp op t (.agg ⟨u⟩) (.agg ⟨v⟩)).aR P=some r∧cA r=true∧u.all dm=true∧v.all dm=true:=by
 cases op<;>simp only[wJ,reduceCtorEq]at h
 ·obtain⟨b,h1,rfl⟩:=Option.map_eq_some_iff.1 h;obtain⟨q1,q2,q3,q4⟩:=zJ h1;exact⟨q1 _,by simp[binOp,cH,q2,Sem.aR,pure],rfl,q3,q4⟩
 ·obtain⟨b,h1,rfl⟩:=Option.map_eq_some_iff.1 h;obtain⟨q1,q2,q3,q4⟩:=zJ h1;exact⟨q1 _,by simp[binOp,cH,q2,Sem.aR,pure],rfl,q3,q4⟩
theorem PG {op:BinOp} {a b:ByteArray} {v:Value} (h:yC op a b=some v) (xt:TypeId):(binOp op xt (.string a) (.string b)).aR P=some v∧cA v=true:=by
 unfold yC at h;split at h
 ·split at h
  ·rename_i hle;obtain rfl:=bP h;have:¬(((a.size+b.size:Nat):Int)>IntKind.i64.max):=by
    have:IntKind.i64.max=9223372036854775807:=(by decide);rw[this];omega
   refine⟨?_,rfl⟩;simp only[binOp,Op.stringOp,if_neg this];rfl
  ·simp at h
 ·obtain rfl:=bP h;refine⟨?_,rfl⟩;simp[binOp,Op.stringOp,Sem.aR,pure,zo]
 ·obtain rfl:=bP h;refine⟨?_,rfl⟩;simp[binOp,Op.stringOp,Sem.aR,pure,zo]
 ·simp at h
theorem CA {op:BinOp} {a b:Bool} {v:Value} {xt:TypeId} (ht:P.underlying xt=some .bool) (h:wP op a b=some v):(binOp op xt (.bool a) (.bool b)).aR P=some v∧cA v=true:=by
 have key:∀n,(Op.equalIn (n+1) xt (.bool a) (.bool b)).aR P=some (a==b):=by
  intro n;simp[Op.equalIn,cH,oV ht,Sem.aR,pure]
 have he:(Op.equal xt (.bool a) (.bool b)).aR P=some (a==b):=key 9999;clear key;cases op<;>simp only[wP,aw,reduceCtorEq]at h
 ·subst h;refine⟨?_,rfl⟩;show(do pure (.bool (←Op.equal xt (.bool a) (.bool b))):Sem Value).aR P=_;rw[cH,he];simp[Sem.aR,pure,Bool.beq_eq_decide_eq]
 ·subst h;refine⟨?_,rfl⟩;show(do pure (.bool (!(←Op.equal xt (.bool a) (.bool b)))):Sem Value).aR P=_;rw[cH,he];simp[Sem.aR,pure,Bool.beq_eq_decide_eq]
theorem YE (op:BinOp) (xt:TypeId) (x y:Operand) (a b:Bool):(eqGuard op xt x y (.bool a) (.bool b)).aR P=some ():=by
 unfold eqGuard;split<;>rfl
theorem ajO (d:Option Nat) (op:BinOp) (xt yt ty:TypeId) (x y:Operand) (pos:String) (aft:Array Edge) (g:Option (Nat×Bool)):
  cM P loc σ ⟨d,.binOp op xt x y yt,ty,pos,aft,g⟩=zq P σ ⟨d,.binOp op xt x y yt,ty,pos,aft,g⟩ op xt x y:=by
 show uV P σ ⟨d,.binOp op xt x y yt,ty,pos,aft,g⟩ op xt x y=_;have hno:∀u v,aL σ x=some u→aL σ y=some v→(∀dd,oK dd u v=none)→uV P σ ⟨d,.binOp op xt x y yt,ty,pos,aft,g⟩ op xt x y=di P σ ⟨d,.binOp op xt x y yt,ty,pos,aft,g⟩:=by
  intro u v hx hy hn;unfold uV;have:mc P σ op xt x y=none:=by
   unfold mc;rw[hx,hy];cases P.underlying xt with
   |none=>rfl
   |some dd=>simp only[hn]
  rw[this]
 unfold zq;split
 ·rename_i u v hx hy;rw[hno _ _ hx hy (fun dd=>by unfold oK;split<;>first|rfl|simp_all)];obtain⟨u⟩:=u;obtain⟨v⟩:=v;split
  ·rename_i r hr;obtain⟨q1,q2,q3,q4,q5⟩:=T7 hr;exact qW (op:=op) (xt:=xt) (yt:=yt) rfl hx hy (by simpa[cA]using q4) (by simpa[cA]using q5) (q1 _ _) q2 q3
  ·rfl
 ·rename_i k a k' b hx hy;rw[hno _ _ hx hy (fun dd=>by unfold oK;split<;>first|rfl|simp_all)];split
  ·rename_i hk;subst hk;split
   ·rename_i v hv;exact qW (op:=op) (xt:=xt) (yt:=yt) rfl hx hy rfl rfl (YF ..) (Cx hv xt).1 (Cx (P:=P) hv xt).2
   ·rfl
  ·rfl
 ·rename_i a b hx hy;rw[hno _ _ hx hy (fun dd=>by unfold oK;split<;>first|rfl|simp_all)];split
  ·rename_i v hv;exact qW (op:=op) (xt:=xt) (yt:=yt) rfl hx hy rfl rfl (YG ..) (PG hv xt).1 (PG (P:=P) hv xt).2
  ·rfl
 ·rename_i a b hx hy;rw[hno _ _ hx hy (fun dd=>by unfold oK;split<;>first|rfl|simp_all)];split
  ·rename_i v ht hv;exact qW (op:=op) (xt:=xt) (yt:=yt) rfl hx hy rfl rfl (YE ..) (CA ht hv).1 (CA (P:=P) ht hv).2
  ·rfl
 ·rfl
def BC (P:Program) (σ:St) (o:Oper) (op:UnOp) (x:Operand):Option (Value×St):=match op,aL σ x with
 | .neg,some (.int k a)=>some (.int k (k.wrap (0-a)),σ)
 | .not,some (.bool b)=>some (.bool (!b),σ)
 |_,_=>di P σ o
theorem O2 {o:Oper} {op:UnOp} {t:TypeId} {x:Operand} {u r:Value} (ho:o.op= .unOp op t x) (hx:aL σ x=some u) (hu:cA u=true)
  (hr:(Op.unary op u).aR P=some r) (hf:cA r=true):di P σ o=some (r,σ):=by
 refine qe (by rw[ho];simp[Op.operands,kl hx hu]) (by rw[ho];rfl) ?_ hf;simp only[execOp,ho,lz hx];rw[cH,hr];rfl
theorem akp (d:Option Nat) (op:UnOp) (t ty:TypeId) (x:Operand) (pos:String) (aft:Array Edge) (g:Option (Nat×Bool)):
  cM P loc σ ⟨d,.unOp op t x,ty,pos,aft,g⟩=BC P σ ⟨d,.unOp op t x,ty,pos,aft,g⟩ op x:=by
 show di P σ _=_;unfold BC;split
 ·rename_i k a hx;exact O2 (op:=.neg) rfl hx rfl rfl rfl
 ·rename_i b hx;exact O2 (op:=.not) rfl hx rfl rfl rfl
 ·rfl
def wU (P:Program) (σ:St) (o:Oper) (s t:TypeId) (x:Operand):Option (Value×St):=match P.underlying s,P.underlying t,aL σ x with
 |some _,some (.int k),some (.int _ n)=>some (.int k (k.wrap n),σ)
 |_,_,_=>di P σ o
theorem yh {t:TypeId} {d:TypeDesc} (h:P.underlying t=some d):(underlying t).aR P=some d:=by
 simp[underlying,cH,pS,h,Sem.aR,pure]
theorem ajT (d:Option Nat) (s t ty:TypeId) (x:Operand) (pos:String) (aft:Array Edge) (g:Option (Nat×Bool)):
  cM P loc σ ⟨d,.convert s t x,ty,pos,aft,g⟩=match ma P σ s t x with
   |some r=>some r
   |none=>wU P σ ⟨d,.convert s t x,ty,pos,aft,g⟩ s t x:=by
 have key:di P σ ⟨d,.convert s t x,ty,pos,aft,g⟩=wU P σ ⟨d,.convert s t x,ty,pos,aft,g⟩ s t x:=?_
 ·rw[←key];rfl
 unfold wU;split
 ·rename_i e k k' n hs ht hx;refine qe (by simp[Op.operands,kl hx rfl]) rfl ?_ rfl;simp only[execOp,lz hx,convert];simp only[cH,yh hs,yh ht,dZ];cases e<;>rfl
 ·rfl
def Ab (P:Program) (σ:St) (o:Oper) (t:TypeId) (x i:Operand):Option (Value×St):=match P.underlying t,aL σ x,aL σ i with
 |some .string,some (.string s),some (.int _ n)=>if 0≤n then(match s[n.toNat]? with|some b=>some (.int .u8 b.toNat,σ)|none=>di P σ o)else di P σ o
 |_,_,_=>di P σ o
theorem aj0 (d:Option Nat) (t ty:TypeId) (x i:Operand) (pos:String) (aft:Array Edge) (g:Option (Nat×Bool)):
  cM P loc σ ⟨d,.index t x i,ty,pos,aft,g⟩=Ab P σ ⟨d,.index t x i,ty,pos,aft,g⟩ t x i:=by
 show di P σ _=_;unfold Ab;split
 ·rename_i s k n ht hx hi;split
  ·rename_i hn;split
   ·rename_i b hb;refine qe (by simp[Op.operands,kl hx rfl,kl hi rfl]) rfl ?_ rfl;simp only[execOp,lz hx,lz hi,Instr.index];simp only[cH,yh ht,dZ,asIntOf,Sem.aR,pure,hn,if_true,hb]
   ·rfl
  ·rfl
 ·rfl
def Br (P:Program) (σ:St) (o:Oper) (t:TypeId) (x:Operand) (lo hi:Option Operand):Option (Value×St):=match P.underlying t,aL σ x with
 |some .string,some (.string s)=>(match iL σ lo 0,iL σ hi s.size with
  |some l,some h=>if l≤h∧h≤s.size then some (.string (s.extract l h),σ)else di P σ o
  |_,_=>di P σ o)
 |some .string,_=>di P σ o
 |_,_=>qT P σ t x lo hi
theorem uj {y n dflt:Nat} {c:BoundsCode} {i:Operand} (h:iL σ (some i) dflt=some n) (hy:n≤y):oD σ i=true∧(Instr.sliceBound (kY σ i) y c).aR P=some n:=by
 unfold iL at h;split at h
 ·cases ‹some i=none›
 ·rename_i j hj;obtain rfl:=bP hj;split at h
  ·rename_i k z hz;split at h
   ·rename_i h0z;obtain rfl:=bP h;have hzy:z≤(y:Int):=(by omega);refine⟨kl hz rfl,?_⟩;simp[Instr.sliceBound,lz hz,asIntOf,h0z,hzy,cH,Sem.aR,pure]
   ·simp at h
  ·simp at h
theorem akn (d:Option Nat) (t ty:TypeId) (x:Operand) (lo hi:Option Operand) (pos:String) (aft:Array Edge) (g:Option (Nat×Bool)):
  cM P loc σ ⟨d,.slice t x lo hi none,ty,pos,aft,g⟩=Br P σ ⟨d,.slice t x lo hi none,ty,pos,aft,g⟩ t x lo hi:=by
 unfold Br;show(match P.underlying t with|some .string=>di P σ _|_=>qT P σ t x lo hi)=_
 split
 ·rename_i ht;split
  ·rename_i s ht' hx;split
   ·rename_i l h hl hh;split
    ·rename_i hb;refine qe ?_ rfl ?_ rfl
     ·cases lo with
      |none=>cases hi with
       |none=>simp[Op.operands,kl hx rfl]
       |some hi=>simp[Op.operands,kl hx rfl,(uj (P:=P) (c:=.sliceB) hh (a8 _)).1]
      |some lo=>cases hi with
       |none=>simp[Op.operands,kl hx rfl,(uj (P:=P) (c:=.sliceB) hl (a8 _)).1]
       |some hi=>simp[Op.operands,kl hx rfl,(uj (P:=P) (c:=.sliceB) hh (a8 _)).1,(uj (P:=P) (c:=.sliceB) hl (a8 _)).1]
     ·simp only[execOp,lz hx,Instr.sliceAt,Instr.slice];simp only[cH,yh ht,dZ,Instr.sliceBounds,Option.map_none];have e1:∀i,lo=some i→(Instr.sliceBound (kY σ i) h .sliceB).aR P=some l:=fun i e=>(by subst e;exact(uj hl hb.1).2);have e2:∀i,hi=some i→(Instr.sliceBound (kY σ i) s.size .sliceAlen).aR P=some h:=fun i e=>(by subst e;exact(uj hh hb.2).2);cases lo with
      |none=>
       have:l=0:=(by simpa[iL]using hl.symm);subst this;cases hi with
       |none=>
        have:h=s.size:=(by simpa[iL]using hh.symm);subst this;simp[cH,Sem.aR,pure]
       |some hi=>simp[cH,Sem.aR,pure,e2 hi rfl]
      |some lo=>cases hi with
       |none=>
        have:h=s.size:=by simpa[iL]using hh.symm
        subst this
        simp[cH,Sem.aR,pure,e1 lo rfl]
       |some hi=>simp[cH,Sem.aR,pure,e1 lo rfl,e2 hi rfl]
    ·rfl
   ·rfl
  ·rfl
  ·rename_i hno hne;exact(hno ht).elim
 ·rename_i hne;split
  ·rename_i z _;exact absurd z hne
  ·rename_i z _;exact absurd z hne
  ·rfl
def vA (P:Program) (σ:St) (o:Oper) (mx:Bool) (x y:Operand):Option (Value×St):=match aL σ x,aL σ y with
 |some (.int k a),some (.int _ b)=>some (.int k (if mx then(if a<b then b else a)else(if b<a then b else a)),σ)
 |_,_=>di P σ o
theorem akc (d:Option Nat) (x y:Operand) (ts:Array TypeId) (ty:TypeId) (pos:String) (aft:Array Edge) (g:Option (Nat×Bool)):
  cM P loc σ ⟨d,.call ⟨.builtin .min,#[x,y],ts⟩,ty,pos,aft,g⟩=vA P σ ⟨d,.call ⟨.builtin .min,#[x,y],ts⟩,ty,pos,aft,g⟩ false x y:=by
 show di P σ _=_;unfold vA;split
 ·rename_i k a k' b hx hy;refine qe (by simp[Op.operands,Call.operands,kl hx rfl,kl hy rfl]) rfl ?_ rfl;simp[execOp,resolve,invoke,builtin,lz hx,lz hy,Builtin.min_,Builtin.min2,cH,Sem.aR,pure]
 ·rfl
theorem akb (d:Option Nat) (x y:Operand) (ts:Array TypeId) (ty:TypeId) (pos:String) (aft:Array Edge) (g:Option (Nat×Bool)):
  cM P loc σ ⟨d,.call ⟨.builtin .max,#[x,y],ts⟩,ty,pos,aft,g⟩=vA P σ ⟨d,.call ⟨.builtin .max,#[x,y],ts⟩,ty,pos,aft,g⟩ true x y:=by
 show di P σ _=_;unfold vA;split
 ·rename_i k a k' b hx hy;refine qe (by simp[Op.operands,Call.operands,kl hx rfl,kl hy rfl]) rfl ?_ rfl;simp[execOp,resolve,invoke,builtin,lz hx,lz hy,Builtin.max_,Builtin.max2,cH,Sem.aR,pure]
 ·rfl
end
section
variable {P:Program} {loc:List Nat} {σ:St} {cfg:az} {ops:Array Oper} {Bd:Nat→Nat→Bool}
variable (d:Option Nat) (ty:TypeId) (pos:String) (aft:Array Edge) (g:Option (Nat×Bool))
theorem akd (x:Operand):cM P loc σ ⟨d,.move x,ty,pos,aft,g⟩=nK σ x:=rfl
theorem ajN (x:Operand):cM P loc σ ⟨d,.assign x,ty,pos,aft,g⟩=nK σ x:=rfl
theorem akj (c x y:Operand):cM P loc σ ⟨d,.pick c x y,ty,pos,aft,g⟩=sJ σ c x y:=rfl
theorem aj4 (t:TypeId) (x:Operand):cM P loc σ ⟨d,.load t x,ty,pos,aft,g⟩=sG P σ t x:=rfl
theorem ako (t:TypeId) (x y:Operand):cM P loc σ ⟨d,.store t x y,ty,pos,aft,g⟩=sL P σ t x y:=rfl
theorem ajM (t:TypeId):cM P loc σ ⟨d,.alloc t,ty,pos,aft,g⟩=sx P loc σ d t:=rfl
theorem ajP (t:TypeId) (x:Operand):cM P loc σ ⟨d,.box t x,ty,pos,aft,g⟩=sy loc σ d t x:=rfl
theorem ajQ (t:TypeId) (ps:Array (Nat×Operand)):cM P loc σ ⟨d,.build t ps,ty,pos,aft,g⟩=dD P σ t ps:=rfl
theorem ajR (t:TypeId) (n:Nat) (ps:Array (Nat×Operand)):cM P loc σ ⟨d,.buildSlice t n ps,ty,pos,aft,g⟩=aP P σ t n ps:=rfl
theorem ajY (s:TypeId) (x:Operand) (f:Nat):cM P loc σ ⟨d,.fieldAddr s x f,ty,pos,aft,g⟩=sD P σ s x f:=rfl
theorem ajX (s:TypeId) (x:Operand) (f:Nat):cM P loc σ ⟨d,.field s x f,ty,pos,aft,g⟩=sC P σ s x f:=rfl
theorem aj1 (t:TypeId) (x i:Operand):cM P loc σ ⟨d,.indexAddr t x i,ty,pos,aft,g⟩=sE P σ t x i:=rfl
theorem ajW (x:Operand) (k:Nat):cM P loc σ ⟨d,.extract x k,ty,pos,aft,g⟩=sB σ x k:=rfl
theorem aj7 (t:TypeId) (x:Operand):cM P loc σ ⟨d,.makeInterface t x,ty,pos,aft,g⟩=pN P σ t x:=rfl
theorem aj6 (fn:Fn) (a b:Array Operand):cM P loc σ ⟨d,.makeFunc fn a b,ty,pos,aft,g⟩=sH σ fn a b:=rfl
theorem akg (x:Operand):cM P loc σ ⟨d,.nilCheck x,ty,pos,aft,g⟩=sI σ x:=rfl
theorem aj9 (t:TypeId) (a b:Operand):cM P loc σ ⟨d,.makeSlice t a b,ty,pos,aft,g⟩=oQ P σ t a b:=rfl
theorem akm (t:TypeId) (x:Operand):cM P loc σ ⟨d,.range t x,ty,pos,aft,g⟩=(match mZ P σ t x with
  |some r=>some r
  |none=>sK P σ t x):=rfl
theorem ajV (x:Operand):cM P loc σ ⟨d,.entry x,ty,pos,aft,g⟩=sA σ x:=rfl
theorem akf (x:Operand):cM P loc σ ⟨d,.next x false,ty,pos,aft,g⟩=none:=rfl
theorem ake (x:Operand):cM P loc σ ⟨d,.next x true,ty,pos,aft,g⟩=qS σ x:=rfl
theorem aj3 (x:Operand) (t:TypeId):cM P loc σ ⟨d,.call ⟨.builtin .len,#[x],#[t]⟩,ty,pos,aft,g⟩=sF P σ t x:=rfl
theorem step_append (s x:Operand) (t u:TypeId):cM P loc σ ⟨d,.call ⟨.builtin .append,#[s,x],#[t,u]⟩,ty,pos,aft,g⟩=dq P σ t u s x:=rfl
theorem ajS (x:Operand) (t:TypeId):cM P loc σ ⟨d,.call ⟨.builtin .clear,#[x],#[t]⟩,ty,pos,aft,g⟩=oN P σ t x:=rfl
theorem ajU (s x:Operand) (t u:TypeId):cM P loc σ ⟨d,.call ⟨.builtin .copy,#[s,x],#[t,u]⟩,ty,pos,aft,g⟩=oO P σ t s x:=rfl
theorem VS (f:Operand) (aS:Array Operand) (ts:Array TypeId):dJ σ ⟨d,.call ⟨.value f,aS,ts⟩,ty,pos,aft,g⟩=(match aL σ f,aS.toList.mapM (aL σ)with
  |some (.func (.func fid) first cap),some l=>if l.all cu then some (fid,first.toList++l++cap.toList)else none
  |_,_=>none):=rfl
theorem Vt (b:Builtin) (aS:Array Operand) (ts:Array TypeId):dJ σ ⟨d,.call ⟨.builtin b,aS,ts⟩,ty,pos,aft,g⟩=none:=rfl
theorem VJ (x:Operand):dJ σ ⟨d,.move x,ty,pos,aft,g⟩=none:=rfl
theorem Vo (x:Operand):dJ σ ⟨d,.assign x,ty,pos,aft,g⟩=none:=rfl
theorem VM (c x y:Operand):dJ σ ⟨d,.pick c x y,ty,pos,aft,g⟩=none:=rfl
theorem VC (t:TypeId) (x:Operand):dJ σ ⟨d,.load t x,ty,pos,aft,g⟩=none:=rfl
theorem VP (t:TypeId) (x y:Operand):dJ σ ⟨d,.store t x y,ty,pos,aft,g⟩=none:=rfl
theorem Vn (t:TypeId):dJ σ ⟨d,.alloc t,ty,pos,aft,g⟩=none:=rfl
theorem Vq (t:TypeId) (x:Operand):dJ σ ⟨d,.box t x,ty,pos,aft,g⟩=none:=rfl
theorem Vr (t:TypeId) (ps:Array (Nat×Operand)):dJ σ ⟨d,.build t ps,ty,pos,aft,g⟩=none:=rfl
theorem Vs (t:TypeId) (n:Nat) (ps:Array (Nat×Operand)):dJ σ ⟨d,.buildSlice t n ps,ty,pos,aft,g⟩=none:=rfl
theorem Vy (s:TypeId) (x:Operand) (f:Nat):dJ σ ⟨d,.fieldAddr s x f,ty,pos,aft,g⟩=none:=rfl
theorem Vx (s:TypeId) (x:Operand) (f:Nat):dJ σ ⟨d,.field s x f,ty,pos,aft,g⟩=none:=rfl
theorem VA (t:TypeId) (x i:Operand):dJ σ ⟨d,.indexAddr t x i,ty,pos,aft,g⟩=none:=rfl
theorem Vz (t:TypeId) (x i:Operand):dJ σ ⟨d,.index t x i,ty,pos,aft,g⟩=none:=rfl
theorem Vw (x:Operand) (k:Nat):dJ σ ⟨d,.extract x k,ty,pos,aft,g⟩=none:=rfl
theorem VF (t:TypeId) (x:Operand):dJ σ ⟨d,.makeInterface t x,ty,pos,aft,g⟩=none:=rfl
theorem VE (fn:Fn) (a b:Array Operand):dJ σ ⟨d,.makeFunc fn a b,ty,pos,aft,g⟩=none:=rfl
theorem VL (x:Operand):dJ σ ⟨d,.nilCheck x,ty,pos,aft,g⟩=none:=rfl
theorem VH (t:TypeId) (a b:Operand):dJ σ ⟨d,.makeSlice t a b,ty,pos,aft,g⟩=none:=rfl
theorem VN (t:TypeId) (x:Operand):dJ σ ⟨d,.range t x,ty,pos,aft,g⟩=none:=rfl
theorem Vv (x:Operand):dJ σ ⟨d,.entry x,ty,pos,aft,g⟩=none:=rfl
theorem VK (x:Operand) (b:Bool):dJ σ ⟨d,.next x b,ty,pos,aft,g⟩=none:=rfl
theorem Vp (op:BinOp) (s t:TypeId) (x y:Operand):dJ σ ⟨d,.binOp op s x y t,ty,pos,aft,g⟩=none:=rfl
theorem VQ (op:UnOp) (t:TypeId) (x:Operand):dJ σ ⟨d,.unOp op t x,ty,pos,aft,g⟩=none:=rfl
theorem Vu (s t:TypeId) (x:Operand):dJ σ ⟨d,.convert s t x,ty,pos,aft,g⟩=none:=rfl
theorem VO (t:TypeId) (x:Operand) (a b c:Option Operand):dJ σ ⟨d,.slice t x a b c,ty,pos,aft,g⟩=none:=rfl
theorem amv (T:Fr) (dd:Option Nat) (o:Op):fG ops T ⟨dd,o,ty,pos,aft,none⟩=some true:=rfl
theorem amw (T:Fr) (dd:Option Nat) (o:Op) (j:Nat) (w:Bool):fG ops T ⟨dd,o,ty,pos,aft,some (j,w)⟩=(match(ops[j]?).bind (·.dst)with
  |some d=>match T.get d with
   |some (.bool b)=>some (b==w)
   |some _=>some false
   |none=>none
  |none=>some false):=rfl
def sS (Q:Ex→St→Prop) (cfg:az) (id:Nat) (σ:St):Prop:=Q .normal (σ.cut cfg id)
theorem aia {Q:Ex→St→Prop} (id:Nat):sS Q cfg id σ=Q .normal (σ.cut cfg id):=rfl
def kW (P:Program) (cfg:az) (a b:Code) (Q:Ex→St→Prop) (σ:St) (t:Bool):Prop:=if t=true then vc P cfg a Q σ else vc P cfg b Q σ
theorem zD {Q:Ex→St→Prop} (a b:Code):kW P cfg a b Q σ true=vc P cfg a Q σ:=rfl
theorem GW {Q:Ex→St→Prop} (a b:Code):kW P cfg a b Q σ false=vc P cfg b Q σ:=rfl
theorem iM {Q:Ex→St→Prop} {a b:Code} {t:Bool} (h1:t=true→kW P cfg a b Q σ true) (h2:t=false→kW P cfg a b Q σ false):kW P cfg a b Q σ t:=by
 cases t
 ·exact h2 rfl
 ·exact h1 rfl
theorem bY {Q:Ex→St→Prop} {a b:Code} {p:Prop} [Decidable p] (h1:p→kW P cfg a b Q σ true) (h2:¬p→kW P cfg a b Q σ false):kW P cfg a b Q σ (decide p):=iM (fun h=>h1 (of_decide_eq_true h)) (fun h=>h2 (of_decide_eq_false h))
def af (P:Program) (loc:List Nat) (ops:Array Oper) (Q:St→Prop) (r:List Oper) (d:Option Nat) (σ:St) (v:Value) (h':aa):Prop:=
 qs σ.m.h v h'→gg P loc ops Q r (St.cC ⟨σ.t,⟨σ.m.x,h'⟩⟩ d v)
theorem Vm {Q:St→Prop} {r:List Oper} {d:Option Nat} {v:Value} {h':aa}:af P loc ops Q r d σ v h'=(qs σ.m.h v h'→gg P loc ops Q r (St.cC ⟨σ.t,⟨σ.m.x,h'⟩⟩ d v)):=rfl
def tN (P:Program) (loc:List Nat) (ops:Array Oper) (Q:St→Prop) (d:Option Nat) (o:Op) (ty:TypeId) (pos:String) (aft:Array Edge) (r:List Oper) (σ:St) (w:Bool):Prop:=
 if w=true then gg P loc ops Q (⟨d,o,ty,pos,aft,none⟩::r) σ else gg P loc ops Q r (σ.cC d undef)
theorem JA {Q:St→Prop} (d:Option Nat) (o:Op) (ty:TypeId) (pos:String) (aft:Array Edge) (r:List Oper):tN P loc ops Q d o ty pos aft r σ true=gg P loc ops Q (⟨d,o,ty,pos,aft,none⟩::r) σ:=rfl
theorem Jz {Q:St→Prop} (d:Option Nat) (o:Op) (ty:TypeId) (pos:String) (aft:Array Edge) (r:List Oper):tN P loc ops Q d o ty pos aft r σ false=gg P loc ops Q r (σ.cC d undef):=rfl
theorem zZ {Q:St→Prop} {d:Option Nat} {o:Op} {ty:TypeId} {pos:String} {aft:Array Edge} {r:List Oper} {w:Bool}
  (h1:w=true→tN P loc ops Q d o ty pos aft r σ true) (h2:w=false→tN P loc ops Q d o ty pos aft r σ false):tN P loc ops Q d o ty pos aft r σ w:=by
 cases w
 ·exact h2 rfl
 ·exact h1 rfl
theorem QE {Q:Ex→St→Prop}:vc P cfg .skip Q σ=Q .normal σ:=rfl
theorem amo {Q:Ex→St→Prop} (id:Nat) (l:List Oper):vc P cfg (.region id l.toArray false) Q σ=gg P cfg.loc l.toArray (sS Q cfg id) l σ:=rfl
theorem BD {Q:Ex→St→Prop} (a b:Code):vc P cfg (.seq a b) Q σ=vc P cfg a (qj (vc P cfg b Q) Q) σ:=rfl
theorem aml {Q:Ex→St→Prop} (c:Operand) (a b:Code):vc P cfg (.cond c a b) Q σ=(match aL σ c with
  |some (.bool t)=>kW P cfg a b Q σ t
  |_=>False):=rfl
theorem Qz {Q:Ex→St→Prop} (i:Nat) (b:Code):vc P cfg (.block i b) Q σ=vc P cfg b (oc i Q) σ:=rfl
theorem amm {Q:Ex→St→Prop} (i:Nat):vc P cfg (.exit i) Q σ=Q (.exit i) σ:=rfl
theorem amp {Q:Ex→St→Prop}:vc P cfg .ret Q σ=Q .ret σ:=rfl
theorem PN {f:St→Prop} {Q:Ex→St→Prop}:qj f Q .normal σ=f σ:=rfl
theorem alr {f:St→Prop} {Q:Ex→St→Prop} (i:Nat):qj f Q (.exit i) σ=Q (.exit i) σ:=rfl
theorem als {f:St→Prop} {Q:Ex→St→Prop}:qj f Q .ret σ=Q .ret σ:=rfl
theorem UG {Q:Ex→St→Prop} (i:Nat):oc i Q .normal σ=Q .normal σ:=rfl
theorem UF {Q:Ex→St→Prop} (i j:Nat):oc i Q (.exit j) σ=if j=i then Q .normal σ else Q (.exit j) σ:=rfl
theorem UH {Q:Ex→St→Prop} (i:Nat):oc i Q .ret σ=Q .ret σ:=rfl
theorem Xz (rs:List ResultVar) (post:Value→aa→Prop):vk P rs post .ret σ=(match pX P σ rs with
 |some vs=>post (nO vs) σ.m.h
 |none=>False):=rfl
theorem Xy (rs:List ResultVar) (post:Value→aa→Prop):vk P rs post .normal σ=(match pX P σ rs with
 |some vs=>post (nO vs) σ.m.h
 |none=>False):=rfl
theorem aap {f:Operand→Option Value}:List.mapM f []=some []:=rfl
theorem aao {f:Operand→Option Value} (x:Operand) (l:List Operand):List.mapM f (x::l)=match f x,List.mapM f l with|some v,some r=>some (v::r)|_,_=>none:=by
 rw[List.mapM_cons];cases f x with
 |none=>rfl
 |some v=>cases List.mapM f l<;>rfl
theorem amg {Q:St→Prop}:gg P loc ops Q [] σ=Q σ:=rfl
def NV (P:Program) (loc:List Nat) (ops:Array Oper) (Q:St→Prop) (r:List Oper) (d:Option Nat) (o:Op) (ty:TypeId) (pos:String) (aft:Array Edge) (σ:St):Prop:=
 oJ σ ⟨d,o,ty,pos,aft,none⟩ fun v σ'=>gg P loc ops Q r (σ'.cC d v)
theorem ame {Q:St→Prop} (d:Option Nat) (o:Op) (ty:TypeId) (pos:String) (aft:Array Edge) (r:List Oper):gg P loc ops Q (⟨d,o,ty,pos,aft,none⟩::r) σ=(match dJ σ ⟨d,o,ty,pos,aft,none⟩with
   |some (f,args)=>ao P f args σ.m.h (af P loc ops Q r d σ)
   |none=>match cM P loc σ ⟨d,o,ty,pos,aft,none⟩with
    |some (v,σ')=>gg P loc ops Q r (σ'.cC d v)
    |none=>NV P loc ops Q r d o ty pos aft σ):=rfl
theorem amf {Q:St→Prop} (d:Option Nat) (o:Op) (ty:TypeId) (pos:String) (aft:Array Edge) (g:Nat×Bool) (r:List Oper):gg P loc ops Q (⟨d,o,ty,pos,aft,some g⟩::r) σ=(match fG ops σ.t ⟨d,o,ty,pos,aft,some g⟩with
  |none=>False
  |some w=>tN P loc ops Q d o ty pos aft r σ w):=by
 rw[gg];cases fG ops σ.t ⟨d,o,ty,pos,aft,some g⟩with
 |none=>rfl
 |some w=>cases w<;>rfl
def jJ (dd:Oper):List Oper→Nat→Oper
 |[],_=>dd
 |a::_,0=>a
 |_::l,n+1=>jJ dd l n
theorem ZM (dd a:Oper) (l:List Oper):jJ dd (a::l) 0=a:=rfl
theorem Nn (dd a:Oper) (l:List Oper) (n:Nat):jJ dd (a::l) (n+1)=jJ dd l n:=rfl
theorem ZN (dd:Oper) (l:List Oper) (n:Nat):(l.toArray).getD n dd=jJ dd l n:=by
 induction l generalizing n with
 |nil=>rfl
 |cons a l ih=>cases n with
  |zero=>rfl
  |succ n=>rw[Nn,←ih];simp[Array.getD_eq_getD_getElem?]
def lL (P:Program) (loc:List Nat) (l:List Oper) (Bd:Nat→Nat→Bool) (Q:St→Prop) (hl:HL) (perm:List Nat) (σ:St):Prop:=
 gC P loc l.toArray Bd Q hl (perm.map fun i=>(i,jJ default l i)) σ
def aJ (P:Program) (loc:List Nat) (l:List Oper) (Bd:Nat→Nat→Bool) (Q:St→Prop) (hl:HL) (i:Nat) (r:List Nat) (d:Option Nat) (σ:St) (v:Value) (h':aa):Prop:=
 qs σ.m.h v h'→mX Bd i hl ⟨σ.m.x,h'⟩∧lL P loc l Bd Q hl r (St.cC ⟨σ.t,⟨σ.m.x,h'⟩⟩ d v)
theorem Vl {l:List Oper} {Q:St→Prop} {hl:HL} {i:Nat} {r:List Nat} {d:Option Nat} {v:Value} {h':aa}:aJ P loc l Bd Q hl i r d σ v h'=(qs σ.m.h v h'→mX Bd i hl ⟨σ.m.x,h'⟩∧lL P loc l Bd Q hl r (St.cC ⟨σ.t,⟨σ.m.x,h'⟩⟩ d v)):=rfl
def s7 (P:Program) (loc:List Nat) (l:List Oper) (Bd:Nat→Nat→Bool) (Q:St→Prop) (hl:HL) (i:Nat) (r:List Nat) (d:Option Nat) (o:Op) (ty:TypeId) (pos:String) (aft:Array Edge) (g:Option (Nat×Bool)) (σ:St) (w:Bool):Prop:=
 if w=true then(if eH P o then(match cM P loc σ ⟨d,o,ty,pos,aft,g⟩with
    |some (v,_)=>lL P loc l Bd Q (if po o then(i,gO P loc σ.t ⟨d,o,ty,pos,aft,g⟩,v)::hl else hl) r (σ.cC d v)
    |none=>False)
   else match dJ σ ⟨d,o,ty,pos,aft,g⟩with
   |some (f,args)=>ao P f args σ.m.h (aJ P loc l Bd Q hl i r d σ)
   |none=>match cM P loc σ ⟨d,o,ty,pos,aft,g⟩with
    |some (v,σ')=>mX Bd i hl σ'.m∧lL P loc l Bd Q hl r (σ'.cC d v)
    |none=>False)else lL P loc l Bd Q hl r (σ.cC d undef)
def yJ (P:Program) (loc:List Nat) (l:List Oper) (Bd:Nat→Nat→Bool) (Q:St→Prop) (hl:HL) (i:Nat) (r:List Nat) (o:Oper) (σ:St):Prop:=
 match fG l.toArray σ.t o with
  |none=>False
  |some w=>s7 P loc l Bd Q hl i r o.dst o.op o.type o.pos o.after o.guard σ w
theorem amj {l:List Oper} {Q:St→Prop} {hl:HL}:lL P loc l Bd Q hl [] σ=Q σ:=rfl
theorem Qw {l:List Oper} {Q:St→Prop} {hl:HL} (i:Nat) (r:List Nat):lL P loc l Bd Q hl (i::r) σ=yJ P loc l Bd Q hl i r (jJ default l i) σ:=by
 rw[lL,eT,gC,yJ];generalize jJ default l i=o;cases hw:fG l.toArray σ.t o with
 |none=>cases hn:eH P o.op<;>simp[iX,hw]
 |some w=>cases w with
  |false=>cases hn:eH P o.op with
   |true=>simp only[iX,hw,if_true];rfl
   |false=>simp only[ff,if_false];rfl
  |true=>cases hn:eH P o.op with
   |true=>
    simp only[iX,hw,if_true,pb,s7,hn]
    cases hs:cM P loc σ o with
    |none=>rfl
    |some p=>rfl
   |false=>simp only[ff,if_false,s7,hn];rfl
section
variable {l:List Oper} {Q:St→Prop} {hl:HL} {i:Nat} {r:List Nat} (d:Option Nat) (o:Op) (ty:TypeId) (pos:String) (aft:Array Edge)
theorem amd (g:Option (Nat×Bool)):yJ P loc l Bd Q hl i r ⟨d,o,ty,pos,aft,g⟩ σ=(match fG l.toArray σ.t ⟨d,o,ty,pos,aft,g⟩with
  |none=>False
  |some w=>s7 P loc l Bd Q hl i r d o ty pos aft g σ w):=rfl
theorem Qy (g:Option (Nat×Bool)):s7 P loc l Bd Q hl i r d o ty pos aft g σ true=(if eH P o then(match cM P loc σ ⟨d,o,ty,pos,aft,g⟩with
    |some (v,_)=>lL P loc l Bd Q (if po o then(i,gO P loc σ.t ⟨d,o,ty,pos,aft,g⟩,v)::hl else hl) r (σ.cC d v)
    |none=>False)
   else match dJ σ ⟨d,o,ty,pos,aft,g⟩with
   |some (f,args)=>ao P f args σ.m.h (aJ P loc l Bd Q hl i r d σ)
   |none=>match cM P loc σ ⟨d,o,ty,pos,aft,g⟩with
    |some (v,σ')=>mX Bd i hl σ'.m∧lL P loc l Bd Q hl r (σ'.cC d v)
    |none=>False):=rfl
theorem Qx (g:Option (Nat×Bool)):s7 P loc l Bd Q hl i r d o ty pos aft g σ false=lL P loc l Bd Q hl r (σ.cC d undef):=rfl
end
theorem Wb {o:Oper} (h:eH P o.op=true):dJ σ o=none:=by
 obtain⟨d,op,ty,pos,aft,g⟩:=o;unfold dJ;split
 ·rename_i f aS ts e;simp only at e h;subst e;simp[eH]at h
 ·rfl
theorem aa0 {o:Oper} {K:Value→St→Prop} (h:eH P o.op=true):oJ σ o K=False:=by
 unfold oJ;split
 ·rename_i p hp;rw[(NU hp).1]at h;simp[eH]at h
 ·rfl
theorem amk {l:List Oper} {Q:St→Prop}:∀(perm:List Nat) (hl:HL) (σ:St),perm.all (fun i=>eH P (jJ default l i).op)=true→lL P loc l Bd Q hl perm σ=gg P loc l.toArray Q (perm.map (jJ default l)) σ:=by
 intro perm;induction perm with
 |nil=>intro hl σ _;rfl
 |cons i r ih=>
  intro hl σ h;rw[List.all_cons,bX]at h;obtain⟨h1,h2⟩:=h;rw[Qw,eT,yJ,gg];generalize jJ default l i=o at h1;cases hw:fG l.toArray σ.t o with
  |none=>rfl
  |some w=>cases w with
   |false=>exact ih _ _ h2
   |true=>
    simp only[s7,h1,if_true,Wb h1]
    cases hs:cM P loc σ o with
    |none=>rw[aa0 h1]
    |some p=>
     obtain⟨v,σ'⟩:=p
     have:=vY h1 hs
     subst this
     exact ih _ _ h2
def vI (P:Program) (loc:List Nat) (l:List Oper) (Bd:Nat→Nat→Bool) (Q:St→Prop) (pm:List Nat) (σ:St):Prop:=
 if pm.all (fun i=>eH P (jJ default l i).op)=true then gg P loc l.toArray Q (pm.map (jJ default l)) σ else lL P loc l Bd Q [] pm σ
theorem Oy {l:List Oper} {Q:St→Prop} {pm:List Nat}:vI P loc l Bd Q pm σ=if pm.all (fun i=>eH P (jJ default l i).op)=true then gg P loc l.toArray Q (pm.map (jJ default l)) σ else lL P loc l Bd Q [] pm σ:=rfl
theorem agN {l:List Oper} {Q:St→Prop} {pm:List Nat}:vI P loc l Bd Q pm σ=gC P loc l.toArray Bd Q [] (pV l.toArray pm) σ:=by
 have e:pV l.toArray pm=pm.map fun i=>(i,jJ default l i):=by simp only[pV,ZN]
 rw[vI,e];split
 ·rename_i h;exact(amk _ _ _ h).symm
 ·rfl
def pk (P:Program) (loc:List Nat) (l:List Oper) (Bd:Nat→Nat→Bool) (Q:St→Prop) (pms:List (List Nat)) (σ:St):Prop:=tA P loc l.toArray Bd Q pms σ
theorem uS {l:List Oper} {Q:St→Prop}:pk P loc l Bd Q [] σ=True:=rfl
theorem jA {l:List Oper} {Q:St→Prop} {pm:List Nat} {r:List (List Nat)}:pk P loc l Bd Q (pm::r) σ=(vI P loc l Bd Q pm σ∧pk P loc l Bd Q r σ):=by
 rw[agN];rfl
theorem Ul {l:List Oper} {Q Q':St→Prop} {pms:List (List Nat)} (hq:∀σ,Q σ→Q' σ) (h:pk P loc l Bd Q pms σ):pk P loc l Bd Q' pms σ:=Cq hq _ _ h
theorem wL {l:List Oper} {Q:Ex→St→Prop} {id:Nat} {pms:List (List Nat)} (M:St→Prop) (h1:pk P loc l Bd (fun σ=>M (σ.cut cfg id)) pms σ) (h2:∀σ',M σ'→Q .normal σ'):pk P loc l Bd (sS Q cfg id) pms σ:=
 Ul (fun _ h=>h2 _ h) h1
theorem QD {Q:Ex→St→Prop} (id:Nat) (l:List Oper):vc P cfg (.region id l.toArray true) Q σ=match(cfg.draw id).alts with
  |[]=>vI P cfg.loc l (cfg.draw id).B (sS Q cfg id) (cfg.draw id).perm (qD (mf P l.toArray (cfg.draw id)) σ)
  |a::r=>pk P cfg.loc l (cfg.draw id).B (sS Q cfg id) ((cfg.draw id).perm::a::r) (qD (mf P l.toArray (cfg.draw id)) σ):=by
 have e:vc P cfg (.region id l.toArray true) Q σ=pk P cfg.loc l (cfg.draw id).B (sS Q cfg id) ((cfg.draw id).perm::(cfg.draw id).alts) (qD (mf P l.toArray (cfg.draw id)) σ):=rfl;rw[e];cases (cfg.draw id).alts with
 |nil=>rw[jA,uS,and_true]
 |cons a r=>rfl
theorem af6 {i:Nat} {M:Mem}:mX Bd i [] M=True:=by simp[mX]
theorem af5 {i j:Nat} {f:Mem→Option Value} {v:Value} {hl:HL} {M:Mem}:mX Bd i ((j,f,v)::hl) M=((Bd i j=false→f M=some v)∧mX Bd i hl M):=by simp[mX]
theorem Yo {T:Fr} {o:Oper} {M:Mem}:gO P loc T o M=(cM P loc ⟨T,M⟩ o).map (·.1):=rfl
theorem agM (i:Nat):aL σ (.tmp i)=σ.t.get i:=rfl
theorem agK (v:Value):aL σ (.const v)=if dm v then some v else none:=rfl
theorem agL (f:FuncId):aL σ (.func f)=some (.func (.func f) #[] #[]):=rfl
theorem Rq (l:List UInt8):(⟨⟨l⟩⟩:ByteArray)=B l:=rfl
theorem jv {x:Int} (h:0≤x∧x≤18446744073709551615):IntKind.wrap .u64 x=x:=by
 have e:IntKind.wrap .u64 x=x % 18446744073709551616:=by simp[IntKind.wrap,IntKind.bits,IntKind.signed]
 rw[e];omega
theorem PR (x:Int):IntKind.wrap .u64 x=x % 18446744073709551616:=by simp[IntKind.wrap,IntKind.bits,IntKind.signed]
theorem bK {x:Int} (h: -9223372036854775808≤x∧x≤9223372036854775807):IntKind.wrap .i64 x=x:=by
 have e:IntKind.wrap .i64 x=if(x % 18446744073709551616:Int)≥9223372036854775808 then x % 18446744073709551616-18446744073709551616 else x % 18446744073709551616:=by
  simp[IntKind.wrap,IntKind.bits,IntKind.signed]
 rw[e];split<;>omega
theorem bU {i:Nat} (h:(i:Int)+1≤9223372036854775807):IntKind.wrap .i64 ((i:Int)+1)=((i+1:Nat):Int):=by rw[bK (by omega)];omega
end
attribute [simp] akd ajN akj aj4 ako ajM ajP ajQ ajR ajY ajX aj1 ajW aj7 aj6 akg aj9 akm ajV akf ake aj3 step_append ajU ajS ma oO
 ajO akp ajT aj0 akn akc akb pN
 VS Vt VJ Vo VM VC VP Vn Vq Vr Vs Vy Vx VA Vz Vw VF VE VL VH VN Vv VK Vp VQ Vu VO
 amv amw aap aao af6 af5 Yo eH po mf nF cf.B agM agK agL Rq
 Yv Ys get_nil tU aah aaj aak qF ef Yp gT NO Yq
 wy Rn Rm Rl wx
attribute [simp ↓] QE amo QD Oy BD aml Qz amm amp PN alr als UG UF UH Xz Xy aia zD GW JA Jz Vm Vl Qy Qx amg ame amf amj Qw amd ZM Nn
attribute [simp] zD GW JA Jz Qy Qx
attribute [simp] Fr.Jw yr Yt aai qD dj fX ya sI
attribute [simp] wJ rV mF Value.cells undef nK sJ sG sL sx sy St.newVar sD sC sE sB sH sF qT iL zq uV mc oK wP wO yC BC wU Ab Br vA St.cC St.cut pX vQ nO xd ahO UJ cu iY dm cA Mem.cells Mem.row? Mem.setRow key mW kR Bw one Value.oneCell'
end Go.Am
namespace Go.Am
open Go Go.RowKit
def IntsW (w:World) (a:Option Addr) (len cap:Nat) (zs:List Int):Prop:=
 (a=none∧len=0∧cap=0∧zs=[])∨
 ∃x,a=some x∧len≤cap∧zs.length=cap∧(∀i,i<zs.length→w.cell? (x.add i)=some (.int .i64 (zs.getD i 0)))
def qZ:aF:=fun _=>none
def h0:aa:=⟨1,0,fun _=>.dead⟩
def h1 (zs:List Int):aa:=⟨1,0,fun b=>if b=0 then .row false 3 (zs.map (Value.int .i64))else .dead⟩
theorem aaR (P:Program) (w:World) (h:aa) (hg:h.g=0):je P qZ ⟨bV.nil,h⟩ w:=
 ⟨fun k pl e=>by simp[qZ]at e,fun b pl e=>by simp[qZ]at e,fun k pl wr e cs q=>by simp[qZ]at q,fun b pl o q=>by simp[qZ]at q,
  fun k k' pl pl' _ q=>by simp[qZ]at q,fun i hi=>by rw[show(⟨bV.nil,h⟩:Mem).h.g=0 from hg]at hi;exact absurd hi (by omega)⟩
theorem add_add (x:Addr) (i:Nat):(x.add i).block=x.block:=by unfold Addr.add;split<;>rfl
end Go.Am
namespace Go.Am
open Go
section
variable {α:Type}
def cU (e:TypeId) (enc:α→List Value) (h:aa) (v:Value) (xs:List α):Prop:=∃ad c,v= .slice ad xs.length c∧(ad=none→c=0)∧
 (xs=[]∨∃b off w cells rest,ad=some ⟨b,off,none⟩∧h.f b= .row w e cells∧cells.drop off=xs.flatMap enc++rest∧off≤cells.length∧b<h.n)
def cL (e:TypeId) (enc:α→List Value) (h0 h:aa) (v:Value) (xs:List α):Prop:=∃ad,v= .slice ad xs.length xs.length∧
 ((ad=none∧xs=[])∨∃b,ad=some ⟨b,0,none⟩∧h.f b= .row true e (xs.flatMap enc)∧h0.n≤b∧b<h.n)
variable {e:TypeId} {enc:α→List Value} {h0 h h':aa} {v:Value} {xs:List α}
theorem cU.nil:cU e enc h (.slice none 0 0) []:=⟨none,0,rfl,fun _=>rfl,.inl rfl⟩
theorem cU.shape (H:cU e enc h v xs):∃ad c,v= .slice ad xs.length c:=by obtain⟨ad,c,q,_⟩:=H;exact⟨ad,c,q⟩
theorem cU.ext (H:cU e enc h v xs) (E:Ext h h'):cU e enc h' v xs:=by
 obtain⟨ad,c,q,n,z⟩:=H;refine⟨ad,c,q,n,?_⟩;rcases z with z|⟨b,off,w,cells,rest,z1,z2,z3,z4,z5⟩
 ·exact .inl z
 ·exact .inr ⟨b,off,w,cells,rest,z1,by rw[E.f b z5,z2],z3,z4,de z5 E.n⟩
theorem cL.sl (H:cL e enc h0 h v xs):cU e enc h v xs:=by
 obtain⟨ad,rfl,z⟩:=H;rcases z with⟨rfl,rfl⟩|⟨b,rfl,z2,z3,z4⟩
 ·exact⟨none,_,rfl,fun _=>rfl,.inl rfl⟩
 ·exact⟨_,_,rfl,fun q=>by simp at q,.inr ⟨b,0,true,_,[],rfl,z2,by simp,by simp,z4⟩⟩
theorem cL.ext (H:cL e enc h0 h v xs) (E:Ext h h'):cL e enc h0 h' v xs:=by
 obtain⟨ad,q,z⟩:=H;refine⟨ad,q,?_⟩;rcases z with z|⟨b,z1,z2,z3,z4⟩
 ·exact .inl z
 ·exact .inr ⟨b,z1,by rw[E.f b z4,z2],z3,de z4 E.n⟩
theorem cL.nil:cL e enc h0 h (.slice none 0 0) []:=⟨none,rfl,.inl ⟨rfl,rfl⟩⟩
theorem fg (k:Nat) (hk:∀x,(enc x).length=k) (xs:List α):(xs.flatMap enc).length=xs.length*k:=by
 induction xs with
 |nil=>simp
 |cons t r ih=>rw[gF,bF,ih,hk,eE,Nat.succ_mul];omega
theorem qH (k:Nat) (hk:∀x,(enc x).length=k) (xs:List α) (i:Nat):(xs.flatMap enc).drop (i*k)=(xs.drop i).flatMap enc:=by
 induction xs generalizing i with
 |nil=>simp
 |cons t r ih=>cases i with
  |zero=>simp
  |succ i=>
   rw[List.drop_succ_cons,←ih i,gF,List.drop_append]
   rw[List.drop_eq_nil_of_le (by rw[hk,Nat.succ_mul];omega),dA,hk]
   congr 1
   rw[Nat.succ_mul];omega
theorem cU.at (k:Nat) (hk:∀x,(enc x).length=k) {ad:Option Addr} {n c:Nat} (H:cU e enc h (.slice ad n c) xs) {i:Nat} {t:α} (hi:xs[i]? =some t):
  n=xs.length∧∃b off w cells rest,ad=some ⟨b,off,none⟩∧h.f b= .row w e cells∧cells.drop (off+i*k)=enc t++rest∧off+i*k+k≤cells.length∧b<h.n:=by
 obtain⟨ad',c',q,_,z⟩:=H;simp only[Value.slice.injEq]at q;obtain⟨rfl,rfl,rfl⟩:=q;have hlt:i<xs.length:=by rw[cY]at hi;exact hi.1
 refine⟨rfl,?_⟩;rcases z with rfl|⟨b,off,w,cells,rest,z1,z2,z3,z4,z5⟩
 ·simp at hlt
 ·have hd:xs.drop i=t::xs.drop (i+1):=by
   rw[cY]at hi;obtain⟨h1,h2⟩:=hi;rw[ie h1,h2]
  have sc:i*k≤xs.length*k:=Nat.mul_le_mul_right k (by omega)
  have e:cells.drop (off+i*k)=enc t++((xs.drop (i+1)).flatMap enc++rest):=by
   rw[←fx,z3,List.drop_append,qH k hk,hd,gF,fg k hk,eD];rw[show i*k-xs.length*k=0 by omega];rfl
  refine⟨b,off,w,cells,_,z1,z2,e,?_,z5⟩
  have hl:=congrArg List.length e
  rw[eN,bF,hk]at hl
  rcases Nat.eq_zero_or_pos k with rfl|hk0
  ·simp;omega
  ·omega
end
section
variable {P:Program} {loc:List Nat} {ops:Array Oper} {cfg:az}
theorem yK (c:Code) (Q Q':Ex→St→Prop) (hq:∀e σ,Q e σ→Q' e σ) (σ:St) (h:vc P cfg c Q σ):vc P cfg c Q' σ:=QF c hq σ h
def xS (M:St→Prop):Ex→St→Prop
 | .normal,σ=>M σ
 |_,_=>False
theorem abg {M:St→Prop} {σ:St}:xS M .normal σ=M σ:=rfl
theorem GV {a b:Code} {Q Q':Ex→St→Prop} {σ:St} {t:Bool} (hq:∀e σ,Q e σ→Q' e σ) (h:kW P cfg a b Q σ t):kW P cfg a b Q' σ t:=by
 cases t with
 |true=>exact yK a _ _ hq _ h
 |false=>exact yK b _ _ hq _ h
theorem wT {a b r:Code} {Q:Ex→St→Prop} {σ:St} {t:Bool} (M:St→Prop) (h1:kW P cfg a b (xS M) σ t) (h2:∀σ',M σ'→vc P cfg r Q σ'):kW P cfg a b (qj (vc P cfg r Q) Q) σ t:=by
 refine GV (fun e σ' h=>?_) h1;cases e with
 |normal=>exact h2 _ h
 |exit j=>exact h.elim
 |ret=>exact h.elim
theorem zC {a b r:Code} {Q:Ex→St→Prop} {σ:St} {t:Bool} {i:Nat} (M:St→Prop) (h1:kW P cfg a b (oc i (xS M)) σ t) (h2:∀σ',M σ'→vc P cfg r Q σ'):kW P cfg a b (oc i (qj (vc P cfg r Q) Q)) σ t:=by
 refine GV (fun e σ' h=>?_) h1;cases e with
 |normal=>exact h2 _ h
 |exit j=>
  simp only[oc]at h ⊢;split at h
  ·rename_i e;rw[if_pos e];exact h2 _ h
  ·exact h.elim
 |ret=>exact h.elim
def tQ:Nat→Code→Code
 |n+1,.seq a b=>.seq a (tQ n b)
 |_,_=>.skip
def uH:Nat→Code→Code
 |n+1,.seq a b=>uH n b
 |_,c=>c
theorem sa (n:Nat) (a b:Code):tQ (n+1) (.seq a b)= .seq a (tQ n b):=rfl
theorem rZ (c:Code):tQ 0 c= .skip:=rfl
theorem sZ (n:Nat) (a b:Code):uH (n+1) (.seq a b)=uH n b:=rfl
theorem qg (c:Code):uH 0 c=c:=by cases c<;>rfl
theorem QA (n:Nat) (M:St→Prop):∀{c:Code} {Q:Ex→St→Prop} {σ:St},vc P cfg (tQ n c) (xS M) σ→(∀σ',M σ'→vc P cfg (uH n c) Q σ')→vc P cfg c Q σ:=by
 induction n with
 |zero=>intro c Q σ h1 h2;have:=h2 σ h1;rw[qg]at this;exact this
 |succ n ih=>
  intro c Q σ h1 h2;cases c with
  |seq a b=>
   refine yK a _ _ (fun e σ' h=>?_) σ h1;cases e with
   |normal=>exact ih h h2
   |exit j=>exact h.elim
   |ret=>exact h.elim
  |_=>exact h2 σ h1
attribute [simp ↓] abg
end
end Go.Am
namespace Go.Proofs.Ybk
open Go Go.Am
noncomputable def PP:Program:=Tryz.prog
theorem mix:PP.follows .mixedOrders=true:=by kernel_rfl
theorem aD {n:FuncId} {f:Func} (h:Tryz.prog.funcs[n]? =some f):PP.funcs[n]? =some f:=h
@[simp] def aX (_:Nat):cf:=⟨[],[],[],[]⟩
def Mh (i:Nat):List Nat:=if i<13 then if i<6 then if i<3 then if i<1 then[0,1]else if i<2 then[0,1,16]else[4]else if i<4 then[0,1,5]else if i<5 then[0,1,5,20]else[4]else if i<9 then if i<7 then[0,1,5,6]else if i<8 then[0,1,5,6,24]else[0,1,5,6]else if i<11 then if i<10 then[0,1,5,6,7]else[0,1,5,6,7,8]else if i<12 then[0,1,5,6,7,8,9]else[0,1,5,6,7,8,9,11]else if i<19 then if i<16 then if i<14 then[0,1,5,6,11,72]else if i<15 then[4]else[0,1,5,6,11,12]else if i<17 then[0,1,5,6,11,12,13]else if i<18 then[0,1,5,6,11,12,13,76]else[0,1,5,6,11,12,13]else if i<22 then if i<20 then[0,1,5,6,11,12,13,126]else if i<21 then[4]else[0,1,5,6,11,12,13,132]else if i<24 then if i<23 then[0,1,5,6,11,12,13]else[0,1,5,6,139]else if i<25 then[4]else[4]
def FL:az:=⟨[7,9],Mh,aX⟩
theorem afh:aA PP FL Tryz.f3.ntmps (ai Tryz.f3)=true:=by kernel_rfl
def Mt (i:Nat):List Nat:=if i<6 then if i<3 then if i<1 then[0,1]else if i<2 then[0,1,13]else[4]else if i<4 then[0,1,5,6,7]else if i<5 then[0,1,5,6,7,27]else[4]else if i<9 then if i<7 then[0,1,5,6,7,8]else if i<8 then[0,1,5,6,7,8,31]else[0,1,5,6,7,8]else if i<11 then if i<10 then[0,1,5,6,7,8,9,10]else[0,1,5,6,7,8,71]else if i<12 then[4]else[4]
def FY:az:=⟨[9],Mt,aX⟩
theorem afs:aA PP FY Tryz.f4.ntmps (ai Tryz.f4)=true:=by kernel_rfl
def MF (i:Nat):List Nat:=if i<16 then if i<8 then if i<4 then if i<2 then if i<1 then[0,1,2]else[0,1,2,7,8]else if i<3 then[0,1,2,7,8,39]else[6]else if i<6 then if i<5 then[1,2,7,8,9]else[1,2,7,8,9]else if i<7 then[1,2,7,8]else[1,2,7,8,10]else if i<12 then if i<10 then if i<9 then[1,2,7,8,10,61]else[1,2,7,8,10]else if i<11 then[1,2,7,8,10,11]else[1,2,7,8,10,11]else if i<14 then if i<13 then[1,2,7,8,10]else[2,7,8,12,13]else if i<15 then[2,7,8,12,13,14]else[2,7,8,12,13,14,83]else if i<24 then if i<20 then if i<18 then if i<17 then[2,7,8,12,13,14]else[2,7,8,12,13,14,15]else if i<19 then[2,7,8,12,13,14,15,16]else[2,7,8,12,13,14,16]else if i<22 then if i<21 then[2,7,8,12,13,14,16,18]else[2,7,8,12,13,14,16,18,19]else if i<23 then[2,7,8,12,13,14,16,18,19,113]else[2,7,8,12,13,14,16,18,19]else if i<28 then if i<26 then if i<25 then[2,7,8,12,13,14,16,18,19,122]else[6]else if i<27 then[2,7,8,12,13,14,131]else[6]else if i<30 then if i<29 then[7,8,12,13,133]else[6]else if i<31 then[7,8,13,20]else[6]
def Iu (i:Nat):cf:=if i=19 then⟨[],[0,1,2,3,4,5,6,7,8],[(0,[]),(0,[]),(2,[]),(0,[]),(0,[]),(0,[4]),(0,[3,4,5]),(3,[]),(8,[])],[]⟩else⟨[],[],[],[]⟩
def Gc:az:=⟨[9,11,16,20],MF,Iu⟩
theorem afC:aA PP Gc Tryz.f5.ntmps (ai Tryz.f5)=true:=by kernel_rfl
def MH (i:Nat):List Nat:=if i<9 then if i<4 then if i<2 then if i<1 then[0,1]else[0,1,13]else if i<3 then[4]else[0,1,5,6]else if i<6 then if i<5 then[0,1,5,6,22]else[4]else if i<7 then[0,1,5,6,7]else if i<8 then[0,1,5,6,7,26]else[0,1,5,6,7]else if i<13 then if i<11 then if i<10 then[0,1,5,6,7,8]else[0,1,5,6,7,8,9,10]else if i<12 then[0,1,5,6,7,8,9,10,49]else[0,1,5,6,7]else if i<15 then if i<14 then[0,1,5,6,7,71]else[4]else if i<16 then[0,1,5,6,7,75]else if i<17 then[4]else[4]
def Ge:az:=⟨[8,9],MH,aX⟩
theorem afE:aA PP Ge Tryz.f6.ntmps (ai Tryz.f6)=true:=by kernel_rfl
def JO (i:Nat):List Nat:=if i<3 then if i<1 then[0,1]else if i<2 then[0,1,5]else[0,1,5,9]else if i<5 then if i<4 then[0,1,5]else[0,1,5,18]else if i<6 then[4]else[4]
def CU:az:=⟨[],JO,aX⟩
theorem acN:aA PP CU Tryz.f10.ntmps (ai Tryz.f10)=true:=by kernel_rfl
def JT (i:Nat):List Nat:=if i<11 then if i<5 then if i<2 then if i<1 then[]else[1]else if i<3 then[1,33]else if i<4 then[0]else[1,2,3]else if i<8 then if i<6 then[1,2,3,4,5]else if i<7 then[1,2,3,4,5,6]else[1,2,3,4,5,6,8,9]else if i<9 then[1,2,3,4,5,6,8,9,10]else if i<10 then[1,2,3,4,5,6,8,9,10,12]else[1,2,3,4,5,6,8,9,10,12,14]else if i<17 then if i<14 then if i<12 then[1,2,3,4,5,6,8,9,10,12,14,16]else if i<13 then[1,2,3,4,5,6,8,9,10,12,14,16,18]else[1,2,3,4,5,6,8,9,10,12,14,16,18,20]else if i<15 then[1,2,3,4,5,6,8,9,10,12,14,16,18,20,22]else if i<16 then[1,2,3,4,5,6,8,9,10,12,14,16,18,20,22,24]else[1,2,3,4,5,6,8,9,10,12,14,16,18,20,22,24,26]else if i<20 then if i<18 then[1,2,3,4,5,6,8,9,10,12,14,16,18,20,22,24,26,111]else if i<19 then[0]else[1,2,3,4,5,6,8,9,10,12,14,16,18,20,22,24,26,27]else if i<21 then[1,2,3,4,5,6,8,9,10,12,14,16,18,20,22,24,26,27,28]else if i<22 then[1,2,3,4,5,6,8,9,10,12,14,16,18,20,22,24,26,27,29]else[0]
def C6:az:=⟨[2,4,6,8,10,12,14,16,18,20,22,24,29],JT,aX⟩
theorem acS:aA PP C6 Tryz.f11.ntmps (ai Tryz.f11)=true:=by kernel_rfl
def J5 (i:Nat):List Nat:=if i<2 then if i<1 then[0]else[0,8]else if i<3 then[2]else[2]
def Dh:az:=⟨[],J5,aX⟩
theorem Ob:aA PP Dh Tryz.f12.ntmps (ai Tryz.f12)=true:=by kernel_rfl
def Kd (i:Nat):List Nat:=if i<7 then if i<3 then if i<1 then[1,2,3,6]else if i<2 then[1,2,3,6,9]else[6]else if i<5 then if i<4 then[2,3,6,15]else[6]else if i<6 then[2,3,6,7]else[2,3,6,7,25]else if i<10 then if i<8 then[3,6,7]else if i<9 then[3,6]else[3,6]else if i<12 then if i<11 then[3,6]else[3,6,56]else if i<13 then[3,6]else[6]
def Dr:az:=⟨[3,6],Kd,aX⟩
theorem ac9:aA PP Dr Tryz.f13.ntmps (ai Tryz.f13)=true:=by kernel_rfl
def Kh (i:Nat):List Nat:=if i<2 then if i<1 then[0]else[0,4]else if i<3 then[2]else[2]
def Dv:az:=⟨[],Kh,aX⟩
theorem adf:aA PP Dv Tryz.f14.ntmps (ai Tryz.f14)=true:=by kernel_rfl
def Kk (i:Nat):List Nat:=if i<4 then if i<2 then if i<1 then[0,3,4]else[0,3,4,9]else if i<3 then[4,5]else[0,3,4,6]else if i<6 then if i<5 then[0,3,4,6,7]else[0,3,4,6,7,18]else if i<7 then[4,5]else[4,5]
def Ho (i:Nat):cf:=if i=7 then⟨[],[0,1,2,3,4,5,6],[(0,[]),(0,[]),(0,[]),(0,[]),(0,[1,2,3]),(5,[]),(6,[])],[]⟩else⟨[],[],[],[]⟩
def Dy:az:=⟨[3,4,7],Kk,Ho⟩
theorem Oc:aA PP Dy Tryz.f15.ntmps (ai Tryz.f15)=true:=by kernel_rfl
def Kw (i:Nat):List Nat:=if i<1 then[0]else[2]
def DK:az:=⟨[],Kw,aX⟩
theorem adD:aA PP DK Tryz.f16.ntmps (ai Tryz.f16)=true:=by kernel_rfl
def KI (i:Nat):List Nat:=if i<8 then if i<4 then if i<2 then if i<1 then[0,1]else[0,1,10]else if i<3 then[4]else[0,1,5]else if i<6 then if i<5 then[0,1,5,23]else[4]else if i<7 then[0,1,5,6]else[0,6,28,29,30]else if i<12 then if i<10 then if i<9 then[0,6,28,29,30,31]else[0,6,8,28,29,30]else if i<11 then[0,6,28,29,30,37]else[4]else if i<14 then if i<13 then[0,6,28,29,30]else[0,6,41]else if i<15 then[4]else if i<16 then[]else[4]
def DV:az:=⟨[8],KI,aX⟩
theorem adO:aA PP DV Tryz.f17.ntmps (ai Tryz.f17)=true:=by kernel_rfl
def KQ (i:Nat):List Nat:=if i<1 then[0,1]else[4]
def HA (i:Nat):cf:=if i=1 then⟨[],[0,1,2,3,4,5,6,7,8,9,10,11,12,13,14,15,16,17,18,19,20,21,22,23,24,25,26,27,28,29,30,31,32,33,34,35,36,37,38,39,40,41,42,43,44,45,46,47,48,49,50],[(0,[]),(1,[]),(2,[]),(3,[]),(4,[]),(5,[]),(6,[]),(7,[]),(8,[]),(9,[]),(10,[]),(7,[]),(7,[11]),(7,[11,12]),(7,[11,12,13]),(15,[]),(16,[]),(17,[]),(18,[]),(19,[]),(20,[]),(21,[]),(18,[]),(18,[22]),(18,[22,23]),(18,[22,23,24]),(26,[]),(27,[]),(28,[]),(29,[]),(30,[]),(31,[]),(32,[]),(29,[]),(29,[33]),(29,[33,34]),(29,[33,34,35]),(37,[]),(38,[]),(39,[]),(40,[]),(41,[]),(42,[]),(43,[]),(40,[]),(40,[44]),(40,[44,45]),(40,[44,45,46]),(48,[]),(49,[]),(50,[])],[]⟩else⟨[],[],[],[]⟩
def Ed:az:=⟨[],KQ,HA⟩
theorem Oe:aA PP Ed Tryz.f18.ntmps (ai Tryz.f18)=true:=by kernel_rfl
def KY (i:Nat):List Nat:=if i<7 then if i<3 then if i<1 then[0]else if i<2 then[0,9]else[2]else if i<5 then if i<4 then[0,3]else[0,3,13]else if i<6 then[0,3,4]else[0,3]else if i<10 then if i<8 then[0,3]else if i<9 then[3,38,39,40]else[3,38,39,40,41]else if i<12 then if i<11 then[3,7,38,39,40]else[3,38,39,40]else if i<13 then[3,38,39,40]else[2]
def Em:az:=⟨[7],KY,aX⟩
theorem aec:aA PP Em Tryz.f19.ntmps (ai Tryz.f19)=true:=by kernel_rfl
def KZ (i:Nat):List Nat:=if i<4 then if i<2 then if i<1 then[0,1]else[0,1,10]else if i<3 then[4]else[0,1,5]else if i<6 then if i<5 then[0,1,5,14]else[0,1,5]else if i<7 then[0,1,5,25]else if i<8 then[4]else[4]
def HI (i:Nat):cf:=if i=6 then⟨[],[0,1,2,3,4,5,6,7,8],[(0,[]),(0,[]),(2,[]),(3,[]),(0,[]),(0,[]),(0,[4,5]),(0,[4,5,6]),(8,[])],[]⟩else⟨[],[],[],[]⟩
def En:az:=⟨[],KZ,HI⟩
theorem aed:aA PP En Tryz.f20.ntmps (ai Tryz.f20)=true:=by kernel_rfl
def Lk (i:Nat):List Nat:=if i<1 then[0]else if i<2 then[3]else[2]
def Ez:az:=⟨[],Lk,aX⟩
theorem aem:aA PP Ez Tryz.f21.ntmps (ai Tryz.f21)=true:=by kernel_rfl
def Lw (i:Nat):List Nat:=if i<2 then if i<1 then[0]else[0,4]else if i<3 then[2]else[2]
def ET:az:=⟨[],Lw,aX⟩
theorem aew:aA PP ET Tryz.f22.ntmps (ai Tryz.f22)=true:=by kernel_rfl
def LF (i:Nat):List Nat:=if i<4 then if i<2 then if i<1 then[0,1]else[0,1,10]else if i<3 then[4]else[0,1,5]else if i<6 then if i<5 then[0,1,5,14]else[0,1,5]else if i<7 then[0,1,5,25]else if i<8 then[4]else[4]
def HV (i:Nat):cf:=if i=6 then⟨[],[0,1,2,3,4,5,6,7,8],[(0,[]),(0,[]),(2,[]),(3,[]),(0,[]),(0,[]),(0,[4,5]),(0,[4,5,6]),(8,[])],[]⟩else⟨[],[],[],[]⟩
def Fc:az:=⟨[],LF,HV⟩
theorem aeD:aA PP Fc Tryz.f23.ntmps (ai Tryz.f23)=true:=by kernel_rfl
def Ml (i:Nat):List Nat:=if i<4 then if i<2 then if i<1 then[0,1]else[0,1,10]else if i<3 then[4]else[0,1,5]else if i<6 then if i<5 then[0,1,5,14]else[0,1,5]else if i<7 then[0,1,5,25]else if i<8 then[4]else[4]
def Ij (i:Nat):cf:=if i=6 then⟨[],[0,1,2,3,4,5,6,7,8],[(0,[]),(0,[]),(2,[]),(3,[]),(0,[]),(0,[]),(0,[4,5]),(0,[4,5,6]),(8,[])],[]⟩else⟨[],[],[],[]⟩
def FP:az:=⟨[],Ml,Ij⟩
theorem afl:aA PP FP Tryz.f33.ntmps (ai Tryz.f33)=true:=by kernel_rfl
def Mm (i:Nat):List Nat:=if i<2 then if i<1 then[0]else[0,4]else if i<3 then[2]else[2]
def FQ:az:=⟨[],Mm,aX⟩
theorem afm:aA PP FQ Tryz.f34.ntmps (ai Tryz.f34)=true:=by kernel_rfl
def Mo (i:Nat):List Nat:=if i<3 then if i<1 then[0]else if i<2 then[0,5]else[2]else if i<4 then[0,3]else if i<5 then[3]else[2]
def FT:az:=⟨[],Mo,aX⟩
theorem afn:aA PP FT Tryz.f35.ntmps (ai Tryz.f35)=true:=by kernel_rfl
def Mp (i:Nat):List Nat:=if i<10 then if i<5 then if i<2 then if i<1 then[0,3,4]else[0,3,4,5]else if i<3 then[4]else if i<4 then[0,3,4,15]else[4]else if i<7 then if i<6 then[0,3,4,22]else[4]else if i<8 then[0,3,4,30]else if i<9 then[4]else[0,3,4,38]else if i<15 then if i<12 then if i<11 then[0,3,4,38,39]else[4]else if i<13 then[0,3,4,38,44]else if i<14 then[4]else[0,3,4,38,49]else if i<18 then if i<16 then[4]else if i<17 then[0,3,4,38,55]else[4]else if i<19 then[0,4,61]else if i<20 then[4]else[4]
def FU:az:=⟨[3,4],Mp,aX⟩
theorem afo:aA PP FU Tryz.f36.ntmps (ai Tryz.f36)=true:=by kernel_rfl
def Mq (i:Nat):List Nat:=if i<8 then if i<4 then if i<2 then if i<1 then[0,1,5]else[0,1,5,7]else if i<3 then[0,1,5,7,11]else[0,1,5,7,11,12]else if i<6 then if i<5 then[0,1,7]else[0,1,7,20]else if i<7 then[0,1,7]else[1,7,33,34,35]else if i<12 then if i<10 then if i<9 then[1,7,33,34,35,36]else[1,7,8,9,33,34,35]else if i<11 then[1,7,9,33,34,35,57]else[1,7,33,34,35]else if i<14 then if i<13 then[1,7,33,34,35]else[7,66]else if i<15 then[6]else[6]
def Im (i:Nat):cf:=if i=10 then⟨[],[0,1,2,3,4,5,6,7,8,9,10,11,12,13,14,15,16,17],[(0,[]),(0,[]),(0,[1]),(0,[1,2]),(0,[1,2,3]),(0,[1,2,3,4]),(6,[]),(7,[]),(8,[]),(9,[]),(10,[]),(11,[]),(8,[]),(13,[]),(14,[]),(8,[]),(16,[]),(17,[])],[]⟩else⟨[],[],[],[]⟩
def FV:az:=⟨[5,9],Mq,Im⟩
theorem afp:aA PP FV Tryz.f37.ntmps (ai Tryz.f37)=true:=by kernel_rfl
def Mr (i:Nat):List Nat:=if i<6 then if i<3 then if i<1 then[0,1]else if i<2 then[0,1,5]else[0,1,5,12]else if i<4 then[4]else if i<5 then[0,1,5,6]else[0,1,5,6,19]else if i<9 then if i<7 then[0,1,5,6]else if i<8 then[0,1,5,6,7]else[0,1,5,6,7,29]else if i<11 then if i<10 then[0,1,5,6]else[0,1,5,6]else if i<12 then[0,5]else[4]
def FW:az:=⟨[7],Mr,aX⟩
theorem afq:aA PP FW Tryz.f38.ntmps (ai Tryz.f38)=true:=by kernel_rfl
def Ms (i:Nat):List Nat:=if i<1 then[1]else[2]
def FX:az:=⟨[1],Ms,aX⟩
theorem afr:aA PP FX Tryz.f39.ntmps (ai Tryz.f39)=true:=by kernel_rfl
def Mu (i:Nat):List Nat:=if i<3 then if i<1 then[1]else if i<2 then[4]else[4,5]else if i<4 then[7]else if i<5 then[2]else[2]
def FZ:az:=⟨[1],Mu,aX⟩
theorem afu:aA PP FZ Tryz.f40.ntmps (ai Tryz.f40)=true:=by kernel_rfl
def Mw (i:Nat):List Nat:=if i<10 then if i<5 then if i<2 then if i<1 then[0,3]else[0,3,11]else if i<3 then[4]else if i<4 then[0,3,13]else[0,3,13,14]else if i<7 then if i<6 then[0,5,6]else[6]else if i<8 then[4]else if i<9 then[0,3,13,31]else[0,3,7]else if i<15 then if i<12 then if i<11 then[7]else[4]else if i<13 then[0,3,46]else if i<14 then[0,3,8]else[0,3,8,51]else if i<18 then if i<16 then[0,3,8,60]else if i<17 then[4]else[0,3,8]else if i<19 then[]else if i<20 then[4]else[4]
def Io (i:Nat):cf:=if i=9 then⟨[],[0,1,2,3,4,5,6,7],[(0,[]),(1,[]),(0,[]),(0,[2]),(0,[2,3]),(0,[2,3,4]),(6,[]),(7,[])],[]⟩else if i=18 then⟨[],[0,1,2,3,4,5,6,7,8,9],[(0,[]),(1,[]),(2,[]),(3,[]),(0,[]),(0,[4]),(0,[]),(0,[6]),(8,[]),(9,[])],[]⟩else⟨[],[],[],[]⟩
def F0:az:=⟨[3,5],Mw,Io⟩
theorem afv:aA PP F0 Tryz.f41.ntmps (ai Tryz.f41)=true:=by kernel_rfl
def Mx (i:Nat):List Nat:=if i<5 then if i<2 then if i<1 then[0]else[0,11,12,13]else if i<3 then[0,11,12,13,14]else if i<4 then[0,4,11,12,13]else[0,11,12,13,20]else if i<8 then if i<6 then[2]else if i<7 then[0,11,12,13]else[0,5,6,7]else if i<9 then[0,5,6,7,30]else if i<10 then[2]else[2]
def F6:az:=⟨[4],Mx,aX⟩
theorem afw:aA PP F6 Tryz.f42.ntmps (ai Tryz.f42)=true:=by kernel_rfl
def My (i:Nat):List Nat:=if i<1 then[2,3]else[4]
def F7:az:=⟨[2,3],My,aX⟩
theorem afx:aA PP F7 Tryz.f43.ntmps (ai Tryz.f43)=true:=by kernel_rfl
def Mz (i:Nat):List Nat:=if i<5 then if i<2 then if i<1 then[0,1]else[0,1,10]else if i<3 then[4]else if i<4 then[0,1,12,13]else[0,1,12,13,14]else if i<7 then if i<6 then[0,1,5,12,13]else[0,1,12,13,24]else if i<8 then[4]else if i<9 then[0,1,12,13]else[4]
def Ip (i:Nat):cf:=if i=6 then⟨[],[0,1,2,3,4,5,6,7,8],[(0,[]),(0,[]),(2,[]),(3,[]),(0,[]),(0,[]),(0,[4,5]),(0,[4,5,6]),(8,[])],[]⟩else⟨[],[],[],[]⟩
def F8:az:=⟨[],Mz,Ip⟩
theorem afy:aA PP F8 Tryz.f44.ntmps (ai Tryz.f44)=true:=by kernel_rfl
def MA (i:Nat):List Nat:=if i<10 then if i<5 then if i<2 then if i<1 then[1]else[1,13]else if i<3 then[2,3]else if i<4 then[1,4]else[1,4,24,25,26]else if i<7 then if i<6 then[1,4,24,25,26,27]else[1,4,6,24,25,26]else if i<8 then[1,4,24,25,26]else if i<9 then[1,4,24,25,26]else[1,4,37,38,39]else if i<15 then if i<12 then if i<11 then[1,4,37,38,39,40]else[1,4,8,37,38,39]else if i<13 then[1,4,37,38,39]else if i<14 then[1,4,37,38,39]else[4,62,63,64]else if i<17 then if i<16 then[4,62,63,64,65]else[4,10,62,63,64]else if i<18 then[4,62,63,64]else if i<19 then[4,62,63,64]else[2,3]
def Iq (i:Nat):cf:=if i=3 then⟨[],[0,1,4,5,2,3,6,7,8,9],[(0,[]),(1,[]),(2,[]),(3,[]),(0,[]),(0,[4]),(0,[4,5]),(7,[]),(8,[]),(9,[])],[[0,1,4,5,2,6,3,7,8,9],[0,1,4,5,6,2,3,7,8,9]]⟩else if i=12 then⟨[],[0,1,2,3,4,5,6,7,8,9,10,11,12,13,14,15,16,17],[(0,[]),(0,[]),(0,[1]),(0,[]),(0,[1,2,3]),(0,[1,2,3,4]),(0,[1,2,3,4,5]),(0,[]),(0,[7]),(0,[]),(0,[7,8,9]),(0,[7,8,9,10]),(0,[7,8,9,10,11]),(0,[1,2,3,4,5,6,7,8,9,10,11,12]),(0,[1,2,3,4,5,6,7,8,9,10,11,12,13]),(0,[1,2,3,4,5,6,7,8,9,10,11,12,13,14]),(16,[]),(17,[])],[]⟩else⟨[],[],[],[]⟩
def F9:az:=⟨[1,6,10],MA,Iq⟩
theorem afz:aA PP F9 Tryz.f45.ntmps (ai Tryz.f45)=true:=by kernel_rfl
def MC (i:Nat):List Nat:=if i<9 then if i<4 then if i<2 then if i<1 then[1]else[1,12]else if i<3 then[2,3]else[1,4]else if i<6 then if i<5 then[1,4,5]else[1,4,5,27]else if i<7 then[1,4,5]else if i<8 then[1,4,5]else[1,4,6]else if i<14 then if i<11 then if i<10 then[1,4,6,43]else[1,4,6]else if i<12 then[1,4,6,7]else if i<13 then[1,4,6]else[1,4,8]else if i<16 then if i<15 then[1,4,8,71]else[1,4,8]else if i<17 then[1,4,8,9]else if i<18 then[1,4,8]else[2,3]
def It (i:Nat):cf:=if i=3 then⟨[],[0,1,5,6,2,3,4,7,8,9,10],[(0,[]),(1,[]),(2,[]),(3,[]),(4,[]),(0,[]),(0,[5]),(3,[5,6]),(8,[]),(9,[]),(10,[])],[]⟩else if i=11 then⟨[9],[0,1,2,3,4,5,6,7,8,10],[(0,[]),(1,[]),(0,[]),(0,[2]),(0,[]),(0,[2,3,4]),(0,[2,3,4,5]),(7,[]),(8,[]),(0,[]),(10,[])],[]⟩else if i=12 then⟨[],[0,1,2,3,7,8,4,5,6,9,10,11,12],[(0,[]),(1,[]),(0,[]),(0,[2]),(0,[2,3]),(5,[]),(6,[]),(0,[]),(0,[7]),(0,[2,3,4,7,8]),(10,[]),(11,[]),(12,[])],[]⟩else if i=17 then⟨[],[0,1,2,3,7,8,12,13,4,5,6,9,10,11,14,15,16,17],[(0,[]),(1,[]),(0,[]),(0,[2]),(0,[2,3]),(5,[]),(6,[]),(0,[]),(0,[7]),(0,[2,3,4,7,8]),(10,[]),(11,[]),(0,[]),(0,[12]),(0,[2,3,4,7,8,9,12,13]),(15,[]),(16,[]),(17,[])],[]⟩else⟨[],[],[],[]⟩
def Ga:az:=⟨[1,7,9],MC,It⟩
theorem afA:aA PP Ga Tryz.f46.ntmps (ai Tryz.f46)=true:=by kernel_rfl
def MD (i:Nat):List Nat:=if i<14 then if i<7 then if i<3 then if i<1 then[0,1,4]else if i<2 then[0,1,4,5]else[0,1,4,5,6,7]else if i<5 then if i<4 then[0,1,4,5,6,7,8]else[0,1,4,5,6,7,8,24]else if i<6 then[0,1,4,5,6,7,8]else[0,1,4,5,6,7,8,9]else if i<10 then if i<8 then[0,1,4,5,6,7,8,9]else if i<9 then[0,1,4,5,6,7,8,9,35]else[0,1,4,5,6,7,8,9,35,36]else if i<12 then if i<11 then[0,1,4,5,6,7,8,9]else[0,1,4,5,6,7,8,9,40]else if i<13 then[0,1,4,5,6,7,8,9]else[0,1,4,5,6,7,8,9,10]else if i<21 then if i<17 then if i<15 then[0,1,4,5,6,7,8,9,10,51]else if i<16 then[0,1,4,5,6,7,8,9,10,51,52]else[0,1,4,5,6,7,8,9,10]else if i<19 then if i<18 then[0,1,4,5,6,7,8,9,10,51,55]else[0,1,4,5,6,7,8,9,10,55]else if i<20 then[0,1,4,5,6,7,8,9,10]else[0,1,4,5,6,7,8,9]else if i<24 then if i<22 then[0,1,4,5,6,7,8,9,68]else if i<23 then[0,1,4,5,6,7,8,9]else[0,1,4,5,6,7,8,9,81]else if i<26 then if i<25 then[0,1,4,5,6,7,8,9]else[0,1,4,5,6,7,8,9,99]else if i<27 then[0,1,4,5,6,7,8]else[4]
def Gb:az:=⟨[4,5,10],MD,aX⟩
theorem afB:aA PP Gb Tryz.f47.ntmps (ai Tryz.f47)=true:=by kernel_rfl
def MG (i:Nat):List Nat:=if i<2 then if i<1 then[0]else[0,4]else if i<3 then[2]else[2]
def Gd:az:=⟨[],MG,aX⟩
theorem afD:aA PP Gd Tryz.f59.ntmps (ai Tryz.f59)=true:=by kernel_rfl
def MI (i:Nat):List Nat:=if i<2 then if i<1 then[0]else[0,4]else if i<3 then[2]else[2]
def Gf:az:=⟨[],MI,aX⟩
theorem afF:aA PP Gf Tryz.f60.ntmps (ai Tryz.f60)=true:=by kernel_rfl
def MJ (i:Nat):List Nat:=if i<2 then if i<1 then[0]else[0,4]else if i<3 then[2]else[2]
def Gg:az:=⟨[],MJ,aX⟩
theorem afG:aA PP Gg Tryz.f61.ntmps (ai Tryz.f61)=true:=by kernel_rfl
def MK (i:Nat):List Nat:=if i<4 then if i<2 then if i<1 then[0,3,4]else[0,3,4,10]else if i<3 then[4]else[0,3,4,5,6]else if i<6 then if i<5 then[0,3,4,5,6,19]else[4]else if i<7 then[0,4]else if i<8 then[0,4]else[4]
def Gh:az:=⟨[3,4,6],MK,aX⟩
theorem afH:aA PP Gh Tryz.f66.ntmps (ai Tryz.f66)=true:=by kernel_rfl
def ML (i:Nat):List Nat:=if i<6 then if i<3 then if i<1 then[0,1,4]else if i<2 then[0,1,4,22]else[4]else if i<4 then[0,4]else if i<5 then[0,4,5]else[0,4,5,35,36,37]else if i<9 then if i<7 then[0,4,5,35,36,37,38]else if i<8 then[0,4,5,6,7,35,36,37]else[0,4,5,6,35,36,37,53]else if i<11 then if i<10 then[0,4,5,35,36,37]else[0,4,5,35,36,37]else if i<12 then[0,4,5,35,36,37]else[4]
def Iv (i:Nat):cf:=if i=8 then⟨[],[0,1,2,3,4,5,6,7,8,9,10,11],[(0,[]),(1,[]),(2,[]),(3,[]),(4,[]),(5,[]),(4,[]),(4,[6]),(4,[6,7]),(4,[6,7,8]),(10,[]),(11,[])],[]⟩else⟨[],[],[],[]⟩
def Gi:az:=⟨[4,7],ML,Iv⟩
theorem afI:aA PP Gi Tryz.f67.ntmps (ai Tryz.f67)=true:=by kernel_rfl
def MM (i:Nat):List Nat:=if i<5 then if i<2 then if i<1 then[0,3,4]else[0,3,4,31]else if i<3 then[4]else if i<4 then[0,3,4,5,6]else[0,3,4,5,6,41]else if i<7 then if i<6 then[4]else[0,4,5,7]else if i<8 then[0,4,5,7]else if i<9 then[0,4,7]else[4]
def Iw (i:Nat):cf:=if i=1 then⟨[],[0,1,2,3,4,5,6,7,8,9,10,11,12,13,14,15,16,17,18,19,20,21,22,23],[(0,[]),(1,[]),(2,[]),(3,[]),(4,[]),(5,[]),(6,[]),(7,[]),(8,[]),(9,[]),(10,[]),(11,[]),(12,[]),(13,[]),(14,[]),(15,[]),(16,[]),(17,[]),(18,[]),(15,[]),(15,[19]),(21,[]),(22,[]),(23,[])],[]⟩else if i=6 then⟨[22],[0,1,2,3,4,5,6,7,8,9,10,11,12,13,14,15,16,17,18,19,20,21,23],[(0,[]),(1,[]),(2,[]),(3,[]),(4,[]),(5,[]),(0,[]),(0,[6]),(0,[]),(0,[8]),(0,[8,9]),(0,[8,9,10]),(0,[]),(0,[12]),(0,[8,9,10,11,12,13]),(0,[]),(0,[]),(0,[16]),(0,[16,17]),(0,[15,16,17,18]),(0,[15,16,17,18,19]),(21,[]),(0,[]),(23,[])],[]⟩else if i=7 then⟨[],[0,1,2,3,4,5,6,7,8,9,10],[(0,[]),(0,[]),(0,[1]),(0,[1,2]),(0,[1,2,3]),(0,[]),(0,[5]),(0,[1,2,3,4,5,6]),(8,[]),(9,[]),(10,[])],[]⟩else if i=9 then⟨[],[0,1,2,3,4,5,6],[(0,[]),(1,[]),(0,[]),(0,[]),(0,[2,3]),(5,[]),(6,[])],[]⟩else⟨[],[],[],[]⟩
def Gj:az:=⟨[3,4,7],MM,Iw⟩
theorem afJ:aA PP Gj Tryz.f68.ntmps (ai Tryz.f68)=true:=by kernel_rfl
def MN (i:Nat):List Nat:=if i<3 then if i<1 then[0,3,4]else if i<2 then[0,3,4,10]else[4]else if i<5 then if i<4 then[0,3,4,5,6]else[0,3,4,5,6,20]else if i<6 then[4]else[4]
def Ix (i:Nat):cf:=if i=6 then⟨[],[0,1,2,3,4,5,6,7,8,9,10,11,12],[(0,[]),(0,[]),(0,[1]),(0,[]),(0,[]),(0,[4]),(0,[4,5]),(0,[3,4,5,6]),(0,[3,4,5,6,7]),(0,[1,2,3,4,5,6,7,8]),(10,[]),(11,[]),(12,[])],[]⟩else⟨[],[],[],[]⟩
def Gk:az:=⟨[3,4],MN,Ix⟩
theorem afK:aA PP Gk Tryz.f69.ntmps (ai Tryz.f69)=true:=by kernel_rfl
def MO (i:Nat):List Nat:=if i<4 then if i<2 then if i<1 then[0,1,4]else[0,4,5,6]else if i<3 then[0,4,5,6,13]else[4]else if i<6 then if i<5 then[0,4,5,18]else[4]else if i<7 then[0,4,5]else[4]
def Gl:az:=⟨[4],MO,aX⟩
theorem afL:aA PP Gl Tryz.f70.ntmps (ai Tryz.f70)=true:=by kernel_rfl
def MP (i:Nat):List Nat:=if i<4 then if i<2 then if i<1 then[0,1,4]else[4,5,6]else if i<3 then[4,5,6,13]else[4]else if i<6 then if i<5 then[4,5,18]else[4]else if i<7 then[4]else[4]
def Gm:az:=⟨[4],MP,aX⟩
theorem afM:aA PP Gm Tryz.f71.ntmps (ai Tryz.f71)=true:=by kernel_rfl
def MQ (i:Nat):List Nat:=if i<4 then if i<2 then if i<1 then[0,2]else[0,2,3,4,5]else if i<3 then[0,2,4,6,7]else[0,2,4,6,7,29]else if i<6 then if i<5 then[2]else[0,2,4,6,34]else if i<7 then[2]else if i<8 then[2,4,6]else[2]
def Iy (i:Nat):cf:=if i=2 then⟨[15],[0,1,2,3,4,5,6,7,8,9,10,11,12,13,14,16,17],[(0,[]),(1,[]),(2,[]),(3,[]),(0,[]),(0,[]),(0,[]),(0,[]),(0,[7]),(0,[7,8]),(0,[7,8,9]),(11,[]),(12,[]),(13,[]),(13,[]),(0,[]),(14,[15]),(17,[])],[]⟩else⟨[],[],[],[]⟩
def Gn:az:=⟨[2,6],MQ,Iy⟩
theorem afN:aA PP Gn Tryz.f72.ntmps (ai Tryz.f72)=true:=by kernel_rfl
def MR (i:Nat):List Nat:=if i<8 then if i<4 then if i<2 then if i<1 then[0,2]else[0,2,3]else if i<3 then[0,2,3,21,22,23]else[0,2,3,21,22,23,24]else if i<6 then if i<5 then[0,2,3,5,21,22,23]else[0,2,3,21,22,23]else if i<7 then[0,2,3,21,22,23]else[0,2,3,32,33,34]else if i<12 then if i<10 then if i<9 then[0,2,3,32,33,34,35]else[0,2,3,7,32,33,34]else if i<11 then[0,2,3,7,32,33,34,40,41,42]else[0,2,3,7,32,33,34,40,41,42,43]else if i<14 then if i<13 then[0,2,3,7,9,32,33,34,40,41,42]else[0,2,3,7,32,33,34,40,41,42]else if i<15 then[0,2,3,7,32,33,34,40,41,42]else if i<16 then[0,2,3,32,33,34]else[2]
def Gp:az:=⟨[2,7],MR,aX⟩
theorem afO:aA PP Gp Tryz.f73.ntmps (ai Tryz.f73)=true:=by kernel_rfl
def MS (i:Nat):List Nat:=if i<4 then if i<2 then if i<1 then[0,1]else[0,1,7,8]else if i<3 then[0,1,7,8,9]else[0,1,5,7,8]else if i<6 then if i<5 then[0,1,5,7,8,16]else[4]else if i<7 then[0,1,7,8]else[4]
def Gq:az:=⟨[],MS,aX⟩
theorem afP:aA PP Gq Tryz.f74.ntmps (ai Tryz.f74)=true:=by kernel_rfl
def MT (i:Nat):List Nat:=if i<6 then if i<3 then if i<1 then[1]else if i<2 then[1,3]else[1,3,4]else if i<4 then[1,3,4,9]else if i<5 then[2]else[1,3,4,9,10]else if i<9 then if i<7 then[1,3,4]else if i<8 then[1,3,4,9,19]else[1,3,4]else if i<11 then if i<10 then[1,3,4,9,27]else[1,3,4]else if i<12 then[1,3,4,35]else[2]
def Iz (i:Nat):cf:=if i=6 then⟨[],[0,1,2,3,4,5,6,7,8],[(0,[]),(1,[]),(0,[]),(0,[2]),(0,[2,3]),(0,[2,3,4]),(2,[]),(2,[6]),(8,[])],[]⟩else if i=8 then⟨[],[0,1,2,3,5,4,6,7],[(0,[]),(1,[]),(0,[]),(0,[2]),(0,[2,3]),(2,[]),(6,[]),(7,[])],[]⟩else if i=10 then⟨[],[0,1,2,3,5,4,6,7],[(0,[]),(1,[]),(0,[]),(0,[2]),(0,[2,3]),(2,[]),(6,[]),(7,[])],[]⟩else⟨[],[],[],[]⟩
def Gr:az:=⟨[1,3],MT,Iz⟩
theorem afQ:aA PP Gr Tryz.f75.ntmps (ai Tryz.f75)=true:=by kernel_rfl
def MU (i:Nat):List Nat:=if i<9 then if i<4 then if i<2 then if i<1 then[0,2]else[2,4,5,6]else if i<3 then[2,4,5,6,18]else[2,4,5,6,18,19]else if i<6 then if i<5 then[2,3]else[2,4,5,6,24]else if i<7 then[2,3]else if i<8 then[2,4,5,7]else[2,5,7,8]else if i<13 then if i<11 then if i<10 then[2,5,7,8,37]else[2,3]else if i<12 then[2,5,7,9]else[2,5,7,9,43]else if i<15 then if i<14 then[2,3]else[2,5,10,11]else if i<16 then[2,5,10,55]else if i<17 then[2,3]else[2,3]
def Gs:az:=⟨[2,5,10],MU,aX⟩
theorem afR:aA PP Gs Tryz.f76.ntmps (ai Tryz.f76)=true:=by kernel_rfl
def MV (i:Nat):List Nat:=if i<3 then if i<1 then[0,3]else if i<2 then[0,3,6]else[0,3,6,7]else if i<5 then if i<4 then[4]else[3,16]else if i<6 then[4]else[4]
def IA (i:Nat):cf:=if i=3 then⟨[],[0,1,2,3,4,5,6,7],[(0,[]),(1,[]),(0,[]),(0,[2]),(0,[2,3]),(0,[2,3,4]),(6,[]),(7,[])],[]⟩else⟨[],[],[],[]⟩
def Gt:az:=⟨[3],MV,IA⟩
theorem afS:aA PP Gt Tryz.f77.ntmps (ai Tryz.f77)=true:=by kernel_rfl
def MW (i:Nat):List Nat:=if i<6 then if i<3 then if i<1 then[0]else if i<2 then[0,5]else[0,5,6]else if i<4 then[0,5,6,7]else if i<5 then[5,6,7,11,12,13]else[5,6,7,11,12,13,14]else if i<9 then if i<7 then[5,6,7,8,9,11,12,13]else if i<8 then[5,6,7,8,9,11,12,13]else[5,6,7,8,9,11,12,13,30]else if i<10 then[5,6,7,11,12,13]else if i<11 then[5,6,7,11,12,13]else[2,3,4]
def IB (i:Nat):cf:=if i=7 then⟨[],[0,1,2,5,6,7,3,4,8,9,10,11],[(0,[]),(0,[]),(0,[1]),(0,[1,2]),(4,[]),(0,[]),(0,[]),(0,[6]),(0,[6,7]),(9,[]),(10,[]),(11,[])],[[0,1,2,5,6,7,3,8,4,9,10,11],[0,1,2,5,6,7,8,3,4,9,10,11]]⟩else⟨[],[],[],[]⟩
def Gu:az:=⟨[9],MW,IB⟩
theorem afT:aA PP Gu Tryz.f78.ntmps (ai Tryz.f78)=true:=by kernel_rfl
def MX (i:Nat):List Nat:=if i<4 then if i<2 then if i<1 then[0,1]else[0,1,7,8,9]else if i<3 then[0,1,7,8,9,10]else[0,1,6,7,8,9]else if i<6 then if i<5 then[0,1,7,8,9,14]else[4]else if i<7 then[0,1,7,8,9]else[4]
def Gv:az:=⟨[],MX,aX⟩
theorem afU:aA PP Gv Tryz.f79.ntmps (ai Tryz.f79)=true:=by kernel_rfl
def MY (i:Nat):List Nat:=if i<1 then[1,2,3,4]else[8]
def Gw:az:=⟨[4],MY,aX⟩
theorem afV:aA PP Gw Tryz.f80.ntmps (ai Tryz.f80)=true:=by kernel_rfl
def MZ (i:Nat):List Nat:=if i<5 then if i<2 then if i<1 then[0,1]else[0,1,10]else if i<3 then[4]else if i<4 then[0,1,12,13]else[0,1,12,13,14]else if i<7 then if i<6 then[0,1,5,12,13]else[0,1,12,13,24]else if i<8 then[4]else if i<9 then[0,1,12,13]else[4]
def IC (i:Nat):cf:=if i=6 then⟨[],[0,1,2,3,4,5,6,7,8],[(0,[]),(0,[]),(2,[]),(3,[]),(0,[]),(0,[]),(0,[4,5]),(0,[4,5,6]),(8,[])],[]⟩else⟨[],[],[],[]⟩
def Gx:az:=⟨[],MZ,IC⟩
theorem afW:aA PP Gx Tryz.f81.ntmps (ai Tryz.f81)=true:=by kernel_rfl
def M0 (i:Nat):List Nat:=if i<5 then if i<2 then if i<1 then[0,1]else[0,1,10]else if i<3 then[4]else if i<4 then[0,1,12,13]else[0,1,12,13,14]else if i<7 then if i<6 then[0,1,5,12,13]else[0,1,12,13,24]else if i<8 then[4]else if i<9 then[0,1,12,13]else[4]
def ID (i:Nat):cf:=if i=6 then⟨[],[0,1,2,3,4,5,6,7,8],[(0,[]),(0,[]),(2,[]),(3,[]),(0,[]),(0,[]),(0,[4,5]),(0,[4,5,6]),(8,[])],[]⟩else⟨[],[],[],[]⟩
def Gy:az:=⟨[],M0,ID⟩
theorem afX:aA PP Gy Tryz.f82.ntmps (ai Tryz.f82)=true:=by kernel_rfl
def M6 (i:Nat):List Nat:=if i<5 then if i<2 then if i<1 then[0,1]else[0,1,10]else if i<3 then[4]else if i<4 then[0,1,12,13]else[0,1,12,13,14]else if i<7 then if i<6 then[0,1,5,12,13]else[0,1,12,13,24]else if i<8 then[4]else if i<9 then[0,1,12,13]else[4]
def IE (i:Nat):cf:=if i=6 then⟨[],[0,1,2,3,4,5,6,7,8],[(0,[]),(0,[]),(2,[]),(3,[]),(0,[]),(0,[]),(0,[4,5]),(0,[4,5,6]),(8,[])],[]⟩else⟨[],[],[],[]⟩
def Gz:az:=⟨[],M6,IE⟩
theorem afY:aA PP Gz Tryz.f83.ntmps (ai Tryz.f83)=true:=by kernel_rfl
def M7 (i:Nat):List Nat:=if i<1 then[1]else[2]
def GA:az:=⟨[1],M7,aX⟩
theorem afZ:aA PP GA Tryz.f84.ntmps (ai Tryz.f84)=true:=by kernel_rfl
def M8 (i:Nat):List Nat:=if i<3 then if i<1 then[0,1]else if i<2 then[0,7,8,9]else[0,7,8,9,10]else if i<5 then if i<4 then[0,6,7,8,9]else[0,7,8,9]else if i<6 then[0,7,8,9]else[4]
def GB:az:=⟨[],M8,aX⟩
theorem af0:aA PP GB Tryz.f85.ntmps (ai Tryz.f85)=true:=by kernel_rfl
def M9 (i:Nat):List Nat:=if i<5 then if i<2 then if i<1 then[1]else[1,3]else if i<3 then[1,3,5]else if i<4 then[1,3,5,6]else[1,3]else if i<7 then if i<6 then[1,3,5,8]else[1,3]else if i<8 then[1,3,10]else if i<9 then[1,3]else[2]
def GC:az:=⟨[1],M9,aX⟩
theorem af1:aA PP GC Tryz.f86.ntmps (ai Tryz.f86)=true:=by kernel_rfl
def Na (i:Nat):List Nat:=if i<1 then[1]else[2]
def GD:az:=⟨[1],Na,aX⟩
theorem af2:aA PP GD Tryz.f88.ntmps (ai Tryz.f88)=true:=by kernel_rfl
def Nb (i:Nat):List Nat:=if i<2 then if i<1 then[0]else[0,4]else if i<3 then[2]else[2]
def GF:az:=⟨[],Nb,aX⟩
theorem af3:aA PP GF Tryz.f89.ntmps (ai Tryz.f89)=true:=by kernel_rfl
def Nc (i:Nat):List Nat:=if i<1 then[1]else[2]
def IF (i:Nat):cf:=if i=1 then⟨[],[0,1,4,5,9,10,14,15,2,3,6,7,8,11,12,13,16,17,18],[(0,[]),(1,[]),(2,[]),(3,[]),(0,[]),(0,[4]),(3,[4,5]),(7,[]),(8,[]),(0,[]),(0,[9]),(3,[4,5,6,9,10]),(12,[]),(13,[]),(0,[]),(0,[14]),(3,[4,5,6,9,10,11,14,15]),(17,[]),(18,[])],[]⟩else⟨[],[],[],[]⟩
def GG:az:=⟨[1],Nc,IF⟩
theorem af4:aA PP GG Tryz.f90.ntmps (ai Tryz.f90)=true:=by kernel_rfl
def JP (i:Nat):List Nat:=if i<3 then if i<1 then[0,3]else if i<2 then[3,5]else[3,5,6]else if i<4 then[3,5,6,15]else if i<5 then[2,3]else[2,3]
def CV:az:=⟨[3,4],JP,aX⟩
theorem acO:aA PP CV Tryz.f106.ntmps (ai Tryz.f106)=true:=by kernel_rfl
def JQ (i:Nat):List Nat:=[]
def CW:az:=⟨[],JQ,aX⟩
theorem acP:aA PP CW Tryz.f107.ntmps (ai Tryz.f107)=true:=by kernel_rfl
def JR (i:Nat):List Nat:=if i<3 then if i<1 then[1]else if i<2 then[1,3]else[1,7]else if i<4 then[1,11]else if i<5 then[2]else[2]
def CY:az:=⟨[1],JR,aX⟩
theorem acQ:aA PP CY Tryz.f108.ntmps (ai Tryz.f108)=true:=by kernel_rfl
def JS (i:Nat):List Nat:=if i<6 then if i<3 then if i<1 then[0,3]else if i<2 then[0,3,14]else[4,5]else if i<4 then[0,3,6,7,8]else if i<5 then[0,6,7,8]else[6,9,10]else if i<9 then if i<7 then[6,9,10,43]else if i<8 then[4,5]else[9,47]else if i<11 then if i<10 then[4,5]else[54]else if i<12 then[4,5]else[4,5]
def Hf (i:Nat):cf:=if i=5 then⟨[15],[0,1,2,3,4,5,6,7,8,9,10,11,12,13,14,16,17],[(0,[]),(1,[]),(2,[]),(3,[]),(0,[]),(0,[]),(0,[]),(0,[]),(0,[7]),(0,[7,8]),(0,[7,8,9]),(11,[]),(12,[]),(13,[]),(13,[]),(0,[]),(14,[15]),(17,[])],[]⟩else⟨[],[],[],[]⟩
def CZ:az:=⟨[3,9],JS,Hf⟩
theorem acR:aA PP CZ Tryz.f109.ntmps (ai Tryz.f109)=true:=by kernel_rfl
def JU (i:Nat):List Nat:=if i<4 then if i<2 then if i<1 then[0,1,4]else[0,1,4,10,11,12]else if i<3 then[0,1,4,10,11,12,13]else[0,1,4,5,6,10,11,12]else if i<6 then if i<5 then[0,1,4,5,10,11,12,18]else[0,1,4,10,11,12]else if i<7 then[0,1,4,10,11,12]else[0,1,4,10,11,12]
def Hg (i:Nat):cf:=if i=5 then⟨[],[0,1,2,3,4,5,6,7,8,9,10,11],[(0,[]),(1,[]),(2,[]),(3,[]),(0,[]),(0,[]),(0,[]),(0,[5,6]),(0,[5,6,7]),(9,[]),(10,[]),(11,[])],[]⟩else⟨[],[],[],[]⟩
def C7:az:=⟨[6],JU,Hg⟩
theorem acT:aA PP C7 Tryz.f110.ntmps (ai Tryz.f110)=true:=by kernel_rfl
def JV (i:Nat):List Nat:=if i<1 then[0,3]else if i<2 then[5]else[4]
def Hi (i:Nat):cf:=if i=1 then⟨[],[0,1,2,3,4,5,6,7,8,9,10,11,12,13],[(0,[]),(1,[]),(2,[]),(3,[]),(0,[]),(0,[4]),(0,[]),(0,[6]),(8,[]),(9,[]),(10,[]),(10,[]),(11,[]),(13,[])],[]⟩else⟨[],[],[],[]⟩
def C8:az:=⟨[3],JV,Hi⟩
theorem acU:aA PP C8 Tryz.f111.ntmps (ai Tryz.f111)=true:=by kernel_rfl
def JW (i:Nat):List Nat:=if i<2 then if i<1 then[0,1]else[0,1,16]else if i<3 then[4,5]else[4,5]
def C9:az:=⟨[],JW,aX⟩
theorem acV:aA PP C9 Tryz.f112.ntmps (ai Tryz.f112)=true:=by kernel_rfl
def JX (i:Nat):List Nat:=if i<3 then if i<1 then[1,2,3,4,5,10]else if i<2 then[1,2,3,4,5,10,19]else[10,11]else if i<5 then if i<4 then[1,3,10,12,13]else[3,10,12,13,45]else if i<6 then[10,12,13]else[10,11]
def Da:az:=⟨[5,10,12],JX,aX⟩
theorem acW:aA PP Da Tryz.f113.ntmps (ai Tryz.f113)=true:=by kernel_rfl
def JY (i:Nat):List Nat:=if i<4 then if i<2 then if i<1 then[0,1]else[0,1,5]else if i<3 then[0,1,5,11,12]else[0,1,5,11,12,13]else if i<6 then if i<5 then[0,1,5,6,11,12]else[0,1,5,6,11,12,23]else if i<7 then[0,1,5,11,12]else if i<8 then[0,1,5,11,12]else[4]
def Hj (i:Nat):cf:=if i=5 then⟨[],[0,1,2,3,4,5,6,7,8],[(0,[]),(0,[]),(2,[]),(3,[]),(0,[]),(0,[]),(0,[4,5]),(0,[4,5,6]),(8,[])],[]⟩else⟨[],[],[],[]⟩
def Db:az:=⟨[],JY,Hj⟩
theorem acX:aA PP Db Tryz.f114.ntmps (ai Tryz.f114)=true:=by kernel_rfl
def JZ (i:Nat):List Nat:=if i<4 then if i<2 then if i<1 then[1]else[1,3]else if i<3 then[3,7,8,9]else[3,7,8,9,10]else if i<6 then if i<5 then[3,4,5,7,8,9]else[3,4,7,8,9,15]else if i<7 then[3,7,8,9]else if i<8 then[3,7,8,9]else[2]
def Dc:az:=⟨[1],JZ,aX⟩
theorem acY:aA PP Dc Tryz.f115.ntmps (ai Tryz.f115)=true:=by kernel_rfl
def J0 (i:Nat):List Nat:=if i<1 then[1]else[2]
def Dd:az:=⟨[1],J0,aX⟩
theorem acZ:aA PP Dd Tryz.f116.ntmps (ai Tryz.f116)=true:=by kernel_rfl
def J1 (i:Nat):List Nat:=if i<1 then[0,1,2]else[6]
def De:az:=⟨[],J1,aX⟩
theorem ac0:aA PP De Tryz.f117.ntmps (ai Tryz.f117)=true:=by kernel_rfl
def J2 (i:Nat):List Nat:=if i<6 then if i<3 then if i<1 then[0,3]else if i<2 then[0,3,14]else[2,3,4]else if i<4 then[0,3,5]else if i<5 then[0,3,5,6,7]else[0,3,5,7,8,9,10,11]else if i<9 then if i<7 then[0,3,5,7,8,9,10,11,26]else if i<8 then[2,3,4]else[0,3,5,7,8,9,10,11,26,30]else if i<10 then[0,3,5,6,7]else if i<11 then[3,5,10,11,38]else[2,3,4]
def Hk (i:Nat):cf:=if i=9 then⟨[],[0,1,4,5,2,3,6,7,8],[(0,[]),(0,[]),(0,[1]),(3,[]),(0,[]),(0,[]),(4,[]),(5,[6]),(8,[])],[]⟩else if i=11 then⟨[],[0,1,2,3,4],[(0,[]),(0,[]),(1,[]),(3,[]),(4,[])],[]⟩else if i=7 then⟨[],[0,1,2,3,4,5],[(0,[]),(0,[]),(0,[]),(1,[]),(2,[3]),(5,[])],[]⟩else⟨[],[],[],[]⟩
def Df:az:=⟨[3,7,8,10],J2,Hk⟩
theorem ac1:aA PP Df Tryz.f118.ntmps (ai Tryz.f118)=true:=by kernel_rfl
def J3 (i:Nat):List Nat:=if i<1 then[1]else[2]
def Dg:az:=⟨[1],J3,aX⟩
theorem ac2:aA PP Dg Tryz.f119.ntmps (ai Tryz.f119)=true:=by kernel_rfl
def J7 (i:Nat):List Nat:=if i<2 then if i<1 then[0,1,2]else[0,1,2,8]else if i<3 then[6]else[6]
def Di:az:=⟨[],J7,aX⟩
theorem ac3:aA PP Di Tryz.f120.ntmps (ai Tryz.f120)=true:=by kernel_rfl
def J8 (i:Nat):List Nat:=if i<7 then if i<3 then if i<1 then[0,1]else if i<2 then[0,1,5]else[0,1,5,14]else if i<5 then if i<4 then[0,1,5,6,7]else[0,1,5,6,7,8]else if i<6 then[0,1,5,6,7,8,31]else[0,1,6,7,8]else if i<11 then if i<9 then if i<8 then[0,1,5,6,8]else[0,1,5,6,8,43]else if i<10 then[0,1,5,6,9,10]else[0,1,5,6,9,10,51]else if i<13 then if i<12 then[4]else[0,1,5,6,57]else if i<14 then[4]else[4]
def Dj:az:=⟨[8],J8,aX⟩
theorem ac4:aA PP Dj Tryz.f121.ntmps (ai Tryz.f121)=true:=by kernel_rfl
def J9 (i:Nat):List Nat:=if i<7 then if i<3 then if i<1 then[0]else if i<2 then[0,21]else[2]else if i<5 then if i<4 then[0,30,31,32]else[0,30,31,32,33]else if i<6 then[0,4,30,31,32]else[0,4,5,6,30,31,32]else if i<10 then if i<8 then[0,4,5,30,31,32,46]else if i<9 then[2]else[0,4,5,30,31,32,52]else if i<12 then if i<11 then[2]else[0,30,31,32]else if i<13 then[0,30,31,32]else[2]
def Hm (i:Nat):cf:=if i=6 then⟨[],[0,1,2,3,4,5,6,7,8,9,10,11],[(0,[]),(1,[]),(2,[]),(3,[]),(0,[]),(0,[4]),(6,[]),(7,[]),(8,[]),(8,[]),(9,[]),(11,[])],[]⟩else⟨[],[],[],[]⟩
def Dk:az:=⟨[4],J9,Hm⟩
theorem ac5:aA PP Dk Tryz.f122.ntmps (ai Tryz.f122)=true:=by kernel_rfl
def Ka (i:Nat):List Nat:=if i<10 then if i<5 then if i<2 then if i<1 then[1,2]else[1,2,4]else if i<3 then[1,2,4,11,12,13]else if i<4 then[1,2,4,11,12,13,14]else[1,2,4,6,11,12,13]else if i<7 then if i<6 then[1,2,4,6,11,12,13,25]else[2,3]else if i<8 then[1,2,4,11,12,13]else if i<9 then[1,2,4,11,12,13]else[2,4,7]else if i<15 then if i<12 then if i<11 then[2,4,7]else[2,7,50,51,52]else if i<13 then[2,7,50,51,52,53]else if i<14 then[2,7,9,50,51,52]else[2,7,50,51,52]else if i<18 then if i<16 then[2,7,50,51,52]else if i<17 then[2,7]else[2,7]else if i<19 then[2,7,75]else if i<20 then[2,3]else[2,3]
def Hn (i:Nat):cf:=if i=9 then⟨[11],[0,1,3,4,5,6,7,8,2,9,10,12],[(0,[]),(1,[]),(2,[]),(0,[]),(0,[3]),(0,[]),(0,[5]),(0,[]),(0,[7]),(3,[7,8]),(10,[]),(0,[]),(12,[])],[]⟩else if i=14 then⟨[],[0,1,2,3,4,5,6,7,8,9],[(0,[]),(1,[]),(0,[]),(0,[2]),(0,[]),(0,[2,3,4]),(0,[2,3,4,5]),(7,[]),(8,[]),(9,[])],[]⟩else⟨[],[],[],[]⟩
def Dl:az:=⟨[1,2,7],Ka,Hn⟩
theorem ac6:aA PP Dl Tryz.f123.ntmps (ai Tryz.f123)=true:=by kernel_rfl
def Kb (i:Nat):List Nat:=if i<3 then if i<1 then[1,2,3,4]else if i<2 then[1,2,9,10]else[1,2,9,18]else if i<4 then[1,2,9,21]else if i<5 then[8]else[8]
def Dp:az:=⟨[4,9],Kb,aX⟩
theorem ac7:aA PP Dp Tryz.f124.ntmps (ai Tryz.f124)=true:=by kernel_rfl
def Kc (i:Nat):List Nat:=if i<6 then if i<3 then if i<1 then[1]else if i<2 then[1,3]else[2]else if i<4 then[1,8]else if i<5 then[2]else[1,13]else if i<9 then if i<7 then[2]else if i<8 then[1,18]else[2]else if i<10 then[26]else if i<11 then[2]else[2]
def Dq:az:=⟨[1],Kc,aX⟩
theorem ac8:aA PP Dq Tryz.f125.ntmps (ai Tryz.f125)=true:=by kernel_rfl
def Ke (i:Nat):List Nat:=if i<6 then if i<3 then if i<1 then[1]else if i<2 then[1,3]else[2]else if i<4 then[1,8]else if i<5 then[2]else[1,13]else if i<9 then if i<7 then[2]else if i<8 then[1,18]else[2]else if i<10 then[26]else if i<11 then[2]else[2]
def Ds:az:=⟨[1],Ke,aX⟩
theorem ada:aA PP Ds Tryz.f130.ntmps (ai Tryz.f130)=true:=by kernel_rfl
def Kf (i:Nat):List Nat:=if i<3 then if i<1 then[0]else if i<2 then[0,3]else[0,3,5]else if i<4 then[0,3]else if i<5 then[0,3]else[2]
def Dt:az:=⟨[],Kf,aX⟩
theorem adb:aA PP Dt Tryz.f131.ntmps (ai Tryz.f131)=true:=by kernel_rfl
def Kg (i:Nat):List Nat:=if i<4 then if i<2 then if i<1 then[0]else[3]else if i<3 then[3,4]else[2]else if i<6 then if i<5 then[3,6]else[2]else if i<7 then[8]else if i<8 then[2]else[2]
def Du:az:=⟨[],Kg,aX⟩
theorem ade:aA PP Du Tryz.f132.ntmps (ai Tryz.f132)=true:=by kernel_rfl
def Ki (i:Nat):List Nat:=if i<1 then[0]else[2]
def Dw:az:=⟨[],Ki,aX⟩
theorem adg:aA PP Dw Tryz.f148.ntmps (ai Tryz.f148)=true:=by kernel_rfl
def Kj (i:Nat):List Nat:=if i<4 then if i<2 then if i<1 then[0,2]else[2,6,7,8]else if i<3 then[2,6,7,8,9]else[2,4,6,7,8]else if i<6 then if i<5 then[2,4,6,7,8,17]else[2]else if i<7 then[2,6,7,8]else[2]
def Dx:az:=⟨[2],Kj,aX⟩
theorem adh:aA PP Dx Tryz.f149.ntmps (ai Tryz.f149)=true:=by kernel_rfl
def Kl (i:Nat):List Nat:=if i<1 then[0,1,5]else[6,7]
def Hq (i:Nat):cf:=if i=1 then⟨[],[0,2,5,1,3,4,6,7,8,9,10],[(0,[]),(1,[]),(0,[]),(0,[2]),(4,[]),(0,[]),(6,[]),(0,[]),(8,[]),(9,[]),(10,[])],[[0,2,5,1,3,4,7,6,8,9,10],[0,2,5,1,3,7,4,6,8,9,10],[0,2,5,1,7,3,4,6,8,9,10],[0,2,5,3,1,4,6,7,8,9,10],[0,2,5,3,1,4,7,6,8,9,10],[0,2,5,3,1,7,4,6,8,9,10],[0,2,5,3,7,1,4,6,8,9,10],[0,2,5,7,1,3,4,6,8,9,10],[0,2,5,7,3,1,4,6,8,9,10]]⟩else⟨[],[],[],[]⟩
def Dz:az:=⟨[5],Kl,Hq⟩
theorem adi:aA PP Dz Tryz.f150.ntmps (ai Tryz.f150)=true:=by kernel_rfl
def Km (i:Nat):List Nat:=if i<2 then if i<1 then[2,3,4]else[2,4,8,9]else if i<3 then[2,4,8,16]else if i<4 then[6,7]else[6,7]
def DA:az:=⟨[3,4,8],Km,aX⟩
theorem adj:aA PP DA Tryz.f151.ntmps (ai Tryz.f151)=true:=by kernel_rfl
def Kn (i:Nat):List Nat:=if i<6 then if i<3 then if i<1 then[1,2,3,4,8]else if i<2 then[1,2,3,4,8,10,11]else[1,2,3,4,8,10,31]else if i<4 then[8,9]else if i<5 then[1,3,8,10,12]else[1,8,13]else if i<9 then if i<7 then[1,8,13,14]else if i<8 then[8,13]else[1,8,13,53]else if i<11 then if i<10 then[8,13]else[8,13,60]else if i<12 then[8,13]else[8,9]
def DC:az:=⟨[4,8],Kn,aX⟩
theorem adm:aA PP DC Tryz.f152.ntmps (ai Tryz.f152)=true:=by kernel_rfl
def Ko (i:Nat):List Nat:=if i<5 then if i<2 then if i<1 then[0,1]else[0,1,17]else if i<3 then[4]else if i<4 then[0,1,5]else[0,5,18,19,20]else if i<8 then if i<6 then[0,5,18,19,20,21]else if i<7 then[0,5,6,7,18,19,20]else[0,5,6,18,19,20,26]else if i<9 then[0,5,18,19,20]else if i<10 then[0,5,18,19,20]else[4]
def DD:az:=⟨[],Ko,aX⟩
theorem adq:aA PP DD Tryz.f153.ntmps (ai Tryz.f153)=true:=by kernel_rfl
def Kq (i:Nat):List Nat:=if i<2 then if i<1 then[0]else[0,4]else if i<3 then[2]else[2]
def DE:az:=⟨[],Kq,aX⟩
theorem adu:aA PP DE Tryz.f154.ntmps (ai Tryz.f154)=true:=by kernel_rfl
def Kr (i:Nat):List Nat:=if i<5 then if i<2 then if i<1 then[1]else[1,7]else if i<3 then[2]else if i<4 then[1,3]else[1,3,13,14]else if i<7 then if i<6 then[1,3,13,14,15]else[1,3,4,13,14]else if i<8 then[1,3,13,14]else if i<9 then[1,3,13,14]else[2]
def DF:az:=⟨[1],Kr,aX⟩
theorem adv:aA PP DF Tryz.f155.ntmps (ai Tryz.f155)=true:=by kernel_rfl
def Ks (i:Nat):List Nat:=if i<13 then if i<6 then if i<3 then if i<1 then[0,4,5,6,8]else if i<2 then[0,4,5,6,8,22]else[6,7,8,9]else if i<4 then[0,4,5,6,8,10]else if i<5 then[0,4,5,6,8,10,11]else[0,4,5,6,8,10,11,33]else if i<9 then if i<7 then[6,7,8,9]else if i<8 then[0,4,5,6,8,10,11,12]else[0,4,5,6,8,10,11,12,13]else if i<11 then if i<10 then[0,4,5,6,8,10,11,12,13,50]else[0,4,5,6,8,10,11,12,13,50,51]else if i<12 then[0,4,6,8,10,11,12,13,50,53]else[0,4,6,8,10,11,12,13,50,55]else if i<19 then if i<16 then if i<14 then[0,4,6,8,10,11,12,13,57]else if i<15 then[5,6,8,10,12]else[6,7,8,9]else if i<17 then[0,4,6,8,10,11,12]else if i<18 then[0,4,6,8,10,11,12,13]else[0,4,6,8,10,11,12,13,14]else if i<22 then if i<20 then[0,4,6,8,10,11,12]else if i<21 then[0,4,6,8,10,11,12,13,14]else[0,4,6,8,10,11,12,13,14]else if i<24 then if i<23 then[0,4,6,8,10,11,12,13,99]else[6,7,8,9]else if i<25 then[6,8,11,12,13]else[6,7,8,9]
def Hr (i:Nat):cf:=if i=2 then⟨[],[0,1,2,3,4,5,6],[(0,[]),(0,[]),(0,[]),(1,[]),(2,[3]),(5,[]),(6,[])],[]⟩else if i=7 then⟨[7],[0,1,2,3,4,5,6,8],[(0,[]),(1,[]),(0,[]),(0,[]),(0,[2,3]),(0,[2,3,4]),(6,[]),(0,[]),(8,[])],[]⟩else if i=15 then⟨[],[0,1,2,3,4,5,6,7,8,9,10],[(0,[]),(0,[]),(0,[1]),(0,[]),(0,[3]),(0,[3,4]),(0,[3,4,5]),(1,[]),(3,[7]),(9,[]),(10,[])],[]⟩else if i=23 then⟨[],[0,1,2,3,4,5,6,7,8],[(0,[]),(0,[]),(0,[]),(0,[]),(0,[2,3]),(1,[2,3,4]),(6,[]),(7,[]),(8,[])],[]⟩else if i=25 then⟨[],[0,1,2,3,4,5,6,7,8],[(0,[]),(0,[]),(0,[]),(0,[]),(0,[2,3]),(1,[2,3,4]),(6,[]),(7,[]),(8,[])],[]⟩else⟨[],[],[],[]⟩
def DG:az:=⟨[6,8,12],Ks,Hr⟩
theorem adw:aA PP DG Tryz.f156.ntmps (ai Tryz.f156)=true:=by kernel_rfl
attribute [irreducible] PP
end Go.Proofs.Ybk

import Derived.Test.YtbcdmljanolkeaaGreatDoorMa
import Derived.Tactics
import Derived.Laws.Strings
import Derived.Laws.StructEq
import Derived.Below
import Derived.Test.YtbcdmljanolkeaaGreatDoorProg
import Derived.KernelRfl
set_option linter.unusedVariables false
set_option linter.unusedSimpArgs false
set_option linter.unusedSectionVars false
set_option linter.constructorNameAsVariable false
set_option maxRecDepth 20000
namespace Go.Am
open Go
section
variable {P:Program} {ρ0 ρ ρ':aw} {h0:aa} {w0 w:World} {m:Mem}
abbrev HL:=List (Nat×(Mem→Option Value)×Value)
def gO (P:Program) (loc:List Nat) (T:Fr) (o:Oper):Mem→Option Value:=fun M=>lR P loc ⟨T,M⟩ o
def fM (P:Program) (loc:List Nat) (ops:Array Oper) (hl:HL) (i:Nat) (o:Oper) (σ:St):Option (Value×HL):=
 match dU ops σ.t o with
 |none=>none
 |some false=>some (undef,hl)
 |some true=>match lR P loc σ o with
  |some v=>some (v,if lZ o.op then(i,gO P loc σ.t o,v)::hl else hl)
  |none=>none
def kc (B:Nat→Nat→Bool) (i:Nat) (hl:HL) (M:Mem):Prop:=∀e∈hl,B i e.1=false→e.2.1 M=some e.2.2
def eH (P:Program) (loc:List Nat) (ops:Array Oper) (B:Nat→Nat→Bool) (Q:St→Prop):HL→List (Nat×Oper)→St→Prop
 |_,[],σ=>Q σ
 |hl,(i,o)::r,σ=>
  if dj P o.op then match fM P loc ops hl i o σ with
   |some (v,hl')=>eH P loc ops B Q hl' r (σ.bN o.dst v)
   |none=>False
  else match dU ops σ.t o with
   |none=>False
   |some false=>eH P loc ops B Q hl r (σ.bN o.dst undef)
   |some true=>match cN σ o with
    |some (f,args)=>ai P f args σ.m.h fun v h'=>mC σ.m.h v h'→kc B i hl ⟨σ.m.x,h'⟩∧eH P loc ops B Q hl r (St.bN ⟨σ.t,⟨σ.m.x,h'⟩⟩ o.dst v)
    |none=>match bU P loc σ o with
     |some (v,σ')=>kc B i hl σ'.m∧eH P loc ops B Q hl r (σ'.bN o.dst v)
     |none=>False
theorem Z0 {loc:List Nat} {ops:Array Oper} {hl hl':HL} {i:Nat} {o:Oper} {σ:St} {v:Value} {k:HL} (hs:∀e∈hl',e∈hl) (h:fM P loc ops hl i o σ=some (v,k)):
  ∃k',fM P loc ops hl' i o σ=some (v,k')∧∀e∈k',e∈k:=by
 unfold fM at h ⊢
 split at h
 ·simp at h
 ·simp only[Option.some.injEq,Prod.mk.injEq]at h;obtain⟨rfl,rfl⟩:=h;exact⟨hl',rfl,hs⟩
 ·split at h
  ·simp only[Option.some.injEq,Prod.mk.injEq]at h
   obtain⟨rfl,rfl⟩:=h
   refine⟨_,rfl,?_⟩
   split
   ·intro e he;rcases List.mem_cons.1 he with q|q
    ·rw[q];simp
    ·exact List.mem_cons_of_mem _ (hs e q)
   ·exact hs
  ·simp at h
theorem aqf {loc:List Nat} {ops:Array Oper} {B:Nat→Nat→Bool} {Q:St→Prop}:∀(l:List (Nat×Oper)) (hl hl':HL) (σ:St),(∀e∈hl',e∈hl)→eH P loc ops B Q hl l σ→eH P loc ops B Q hl' l σ:=by
 intro l
 induction l with
 |nil=>intro hl hl' σ _ h;exact h
 |cons p r ih=>
  intro hl hl' σ hs h
  obtain⟨i,o⟩:=p
  simp only[eH]at h ⊢
  split at h
  ·rename_i hn
   rw[if_pos hn]
   split at h
   ·rename_i v k hk
    obtain⟨k',e1,e2⟩:=Z0 hs hk
    rw[e1]
    exact ih _ _ _ e2 h
   ·exact h.elim
  ·rename_i hn
   rw[if_neg hn]
   split at h
   ·exact h.elim
   ·rename_i hw;exact ih _ _ _ hs h
   ·rename_i hw
    split at h
    ·rename_i f args hc
     exact h.mono fun v h' q hn=>⟨fun e he=>(q hn).1 e (hs e he),ih _ _ _ hs (q hn).2⟩
    ·rename_i hc
     split at h
     ·rename_i v σ' hst;exact⟨fun e he=>h.1 e (hs e he),ih _ _ _ hs h.2⟩
     ·exact h.elim
theorem td {ops:Array Oper} {σ:St} {d:Option Nat} {o:Oper} (h:∀i,d=some i→i∉o.looksAt ops) (v:Value):∀x∈o.op.operands,aG (σ.bN d v) x=aG σ x:=by
 intro x hx
 cases d with
 |none=>rfl
 |some i=>
  cases x with
  |tmp t=>
   have:¬i=t:=fun e=>h i rfl (by
    subst e
    exact List.mem_append_left _ (List.mem_filterMap.2 ⟨.tmp i,by simpa using hx,rfl⟩))
   simp[aG,St.bN,Fr.get,Fr.put,this]
  |_=>rfl
theorem te {ops:Array Oper} {T:Fr} {m:Mem} {d:Option Nat} {o:Oper} (h:∀i,d=some i→i∉o.looksAt ops) (v:Value):dU ops (St.bN ⟨T,m⟩ d v).t o=dU ops T o:=by
 cases d with
 |none=>rfl
 |some i=>
  unfold dU
  cases hg:o.guard with
  |none=>rfl
  |some gw=>
   obtain⟨g,want⟩:=gw
   simp only
   cases ht:(ops[g]?).bind (·.dst)with
   |none=>rfl
   |some t=>
    have:¬i=t:=fun e=>h i rfl (by subst e;simp[Oper.looksAt,hg,ht])
    simp[St.bN,Fr.get,Fr.put,this]
theorem amq (σ:St) {d e:Option Nat} (v u:Value) (h:∀i,d=some i→e≠some i):(σ.bN d v).bN e u=(σ.bN e u).bN d v:=by
 cases d with
 |none=>rfl
 |some i=>
  cases e with
  |none=>rfl
  |some j=>
   have hne:¬i=j:=fun q=>h i rfl (by rw[q])
   simp only[St.bN]
   congr 1
   funext k
   simp only[Fr.put]
   by_cases h1:j=k
   ·subst h1;simp[hne]
   ·simp[h1]
theorem Ae (σ:St) (d:Option Nat) (v:Value):(σ.bN d v).m=σ.m:=by cases d<;>rfl
theorem Af (T:Fr) (M M':Mem) (d:Option Nat) (v:Value):(St.bN ⟨T,M⟩ d v).t=(St.bN ⟨T,M'⟩ d v).t:=by cases d<;>rfl
theorem sK {loc:List Nat} {ops:Array Oper} {hl:HL} {i:Nat} {o:Oper} (hn:dj P o.op=true) {σ τ:St} (hw:dU ops σ.t o=dU ops τ.t o)
  (ho:∀M,∀x∈o.op.operands,aG ⟨σ.t,M⟩ x=aG ⟨τ.t,M⟩ x) (hv:dU ops τ.t o=some true→lR P loc σ o=lR P loc τ o):
  fM P loc ops hl i o σ=fM P loc ops hl i o τ:=by
 unfold fM
 rw[hw]
 have hg:gO P loc σ.t o=gO P loc τ.t o:=by
  funext M
  exact pj hn (ho M) (fun _=>rfl)
 split
 ·rfl
 ·rfl
 ·rename_i hw'
  rw[hv hw',hg]
theorem aqg {loc:List Nat} {ops:Array Oper} {B:Nat→Nat→Bool} {Q:St→Prop} {i j:Nat} {oi oj:Oper} {r:List (Nat×Oper)} (hj:dj P oj.op=true) (hB:B i j=false)
  (a1:∀d,oj.dst=some d→d∉oi.looksAt ops) (a2:∀d,oj.dst=some d→oi.dst≠some d) (a3:∀d,oi.dst=some d→d∉oj.looksAt ops) (hnl:rE loc oi=true)
  {hl:HL} {σ:St} (h:eH P loc ops B Q hl ((j,oj)::(i,oi)::r) σ):eH P loc ops B Q hl ((i,oi)::(j,oj)::r) σ:=by
 obtain⟨T,M⟩:=σ
 simp only[eH]at h
 rw[if_pos hj]at h
 split at h
 rotate_left
 ·exact h.elim
 rename_i u hl1 hej
 have hopi:∀M',∀x∈oi.op.operands,aG (St.bN ⟨T,M'⟩ oj.dst u) x=aG ⟨T,M'⟩ x:=fun M'=>td a1 u
 have hwi:dU ops (St.bN ⟨T,M⟩ oj.dst u).t oi=dU ops T oi:=te (m:=M) a1 u
 have hst:∀M',St.bN ⟨T,M'⟩ oj.dst u=⟨(St.bN ⟨T,M⟩ oj.dst u).t,M'⟩:=fun M'=>by cases oj.dst<;>rfl
 have hl1s:∀e∈hl,e∈hl1:=by
  unfold fM at hej
  split at hej
  ·simp at hej
  ·simp only[Option.some.injEq,Prod.mk.injEq]at hej;rw[←hej.2];exact fun e he=>he
  ·split at hej
   ·simp only[Option.some.injEq,Prod.mk.injEq]at hej
    rw[←hej.2]
    split
    ·exact fun e he=>List.mem_cons_of_mem _ he
    ·exact fun e he=>he
   ·simp at hej
 have jafter:∀(vi:Value) (M':Mem),M'.h.g=M.h.g→kc B i hl1 M'→fM P loc ops hl j oj (St.bN ⟨T,M'⟩ oi.dst vi)=some (u,hl1):=by
  intro vi M' hg hok
  have hwj:dU ops (St.bN ⟨T,M'⟩ oi.dst vi).t oj=dU ops T oj:=te (m:=M') a3 vi
  have hoj:∀M1,∀x∈oj.op.operands,aG ⟨(St.bN ⟨T,M'⟩ oi.dst vi).t,M1⟩ x=aG ⟨T,M1⟩ x:=fun M1 x hx=>by
   have:=td (σ:=⟨T,M1⟩) a3 vi x hx
   rw[←this,Af T M' M1]
   cases oi.dst<;>rfl
  rw[←hej]
  refine sK hj hwj hoj fun hwt=>?_
  by_cases hr:lZ oj.op=true
  ·
   unfold fM at hej
   rw[hwt]at hej
   simp only[hr,if_true]at hej
   split at hej
   rotate_left
   ·simp at hej
   rename_i v hv
   simp only[Option.some.injEq,Prod.mk.injEq]at hej
   obtain⟨rfl,rfl⟩:=hej
   have:=hok (j,gO P loc T oj,v) (by simp) hB
   simp only[gO]at this
   rw[hv,←this]
   have hm:(St.bN ⟨T,M'⟩ oi.dst vi)=⟨(St.bN ⟨T,M'⟩ oi.dst vi).t,M'⟩:=by cases oi.dst<;>rfl
   rw[hm]
   exact pj hj (hoj M') (fun _=>rfl)
  ·have hm:(St.bN ⟨T,M'⟩ oi.dst vi)=⟨(St.bN ⟨T,M'⟩ oi.dst vi).t,M'⟩:=by cases oi.dst<;>rfl
   rw[hm]
   refine pj hj (fun x hx=>?_) (fun q=>absurd q hr)
   rw[hoj M' x hx]
   exact alm hg x
 have hcomm:∀(vi:Value) (M':Mem),St.bN (St.bN ⟨T,M'⟩ oi.dst vi) oj.dst u=St.bN ⟨(St.bN ⟨T,M⟩ oj.dst u).t,M'⟩ oi.dst vi:=fun vi M'=>by
  rw[←hst M']
  exact(amq _ u vi a2).symm
 simp only[eH]
 by_cases hi:dj P oi.op=true
 ·
  rw[if_pos hi]at h ⊢
  split at h
  rotate_left
  ·exact h.elim
  rename_i vi hl2 hei
  have hei':fM P loc ops hl1 i oi ⟨T,M⟩=some (vi,hl2):=by
   rw[←hei]
   refine(sK hi hwi (fun M1 x hx=>?_) fun _=>?_).symm
   ·have:=hopi M1 x hx;rw[hst M1]at this;exact this
   ·rw[hst M]
    exact pj hi (fun x hx=>by have:=hopi M x hx;rw[hst M]at this;exact this) (fun _=>rfl)
  have hcase:∃k,fM P loc ops hl i oi ⟨T,M⟩=some (vi,k)∧∃k2,fM P loc ops k j oj (St.bN ⟨T,M⟩ oi.dst vi)=some (u,k2)∧∀e∈k2,e∈hl2:=by
   have hwj:dU ops (St.bN ⟨T,M⟩ oi.dst vi).t oj=dU ops T oj:=te (m:=M) a3 vi
   have hoj:∀M1,∀x∈oj.op.operands,aG ⟨(St.bN ⟨T,M⟩ oi.dst vi).t,M1⟩ x=aG ⟨T,M1⟩ x:=fun M1 x hx=>by
    have:=td (σ:=⟨T,M1⟩) a3 vi x hx
    rw[←this,Af T M M1]
    cases oi.dst<;>rfl
   have hjv:∀k,fM P loc ops k j oj (St.bN ⟨T,M⟩ oi.dst vi)=fM P loc ops k j oj ⟨T,M⟩:=fun k=>by
    refine sK hj hwj hoj fun _=>?_
    have hm:(St.bN ⟨T,M⟩ oi.dst vi)=⟨(St.bN ⟨T,M⟩ oi.dst vi).t,M⟩:=by cases oi.dst<;>rfl
    rw[hm]
    exact pj hj (hoj M) (fun _=>rfl)
   simp only[hjv]
   unfold fM at hej hei' ⊢
   split at hej
   ·simp at hej
   ·simp only[Option.some.injEq,Prod.mk.injEq]at hej
    obtain⟨rfl,rfl⟩:=hej
    rename_i hwjf
    simp only at hwjf
    refine⟨hl2,hei',hl2,rfl,fun e he=>he⟩
   ·rename_i hwjt
    simp only at hwjt
    split at hej
    rotate_left
    ·simp at hej
    rename_i vj hvj
    simp only[Option.some.injEq,Prod.mk.injEq]at hej
    obtain⟨rfl,rfl⟩:=hej
    split at hei'
    ·simp at hei'
    ·simp only[Option.some.injEq,Prod.mk.injEq]at hei'
     obtain⟨rfl,rfl⟩:=hei'
     exact⟨hl,rfl,_,rfl,fun e he=>he⟩
    ·split at hei'
     rotate_left
     ·simp at hei'
     simp only[Option.some.injEq,Prod.mk.injEq]at hei'
     obtain⟨rfl,rfl⟩:=hei'
     refine⟨_,rfl,_,rfl,fun e he=>?_⟩
     by_cases r1:lZ oi.op=true<;>by_cases r2:lZ oj.op=true<;>simp only[r1,r2,if_true,if_false,Bool.false_eq_true]at he ⊢
     ·simp only[List.mem_cons]at he ⊢
      rcases he with q|q|q
      ·exact .inr (.inl q)
      ·exact .inl q
      ·exact .inr (.inr q)
     ·exact he
     ·exact he
     ·exact he
  obtain⟨k,e1,k2,e2,e3⟩:=hcase
  rw[e1]
  simp only
  rw[if_pos hj,e2]
  simp only
  rw[hcomm vi M,←hst M]
  exact aqf _ _ _ _ e3 h
 ·rw[if_neg hi]at h ⊢
  rw[hwi]at h
  split at h
  ·exact h.elim
  ·rename_i hw
   rw[if_pos hj]
   have hwj:dU ops (St.bN ⟨T,M⟩ oi.dst undef).t oj=dU ops T oj:=te (m:=M) a3 undef
   have hoj:∀M1,∀x∈oj.op.operands,aG ⟨(St.bN ⟨T,M⟩ oi.dst undef).t,M1⟩ x=aG ⟨T,M1⟩ x:=fun M1 x hx=>by
    have:=td (σ:=⟨T,M1⟩) a3 undef x hx
    rw[←this,Af T M M1]
    cases oi.dst<;>rfl
   have hjv:fM P loc ops hl j oj (St.bN ⟨T,M⟩ oi.dst undef)=some (u,hl1):=by
    rw[←hej]
    refine sK hj hwj hoj fun _=>?_
    have hm:(St.bN ⟨T,M⟩ oi.dst undef)=⟨(St.bN ⟨T,M⟩ oi.dst undef).t,M⟩:=by cases oi.dst<;>rfl
    rw[hm]
    exact pj hj (hoj M) (fun _=>rfl)
   rw[hjv]
   simp only
   rw[hcomm undef M,←hst M]
   exact h
  ·rename_i hw
   have hci:cN (St.bN ⟨T,M⟩ oj.dst u) oi=cN ⟨T,M⟩ oi:=by rw[hst M];exact BT fun x hx=>by have:=hopi M x hx;rw[hst M]at this;exact this
   rw[hci]at h
   split at h
   ·rename_i f args hc
    rw[Ae]at h
    refine h.mono fun v h' q hn=>?_
    obtain⟨q1,q2⟩:=q hn
    refine⟨fun e he=>q1 e (hl1s e he),?_⟩
    rw[if_pos hj,jafter v ⟨M.x,h'⟩ hn.1 q1]
    simp only
    rw[hcomm v]
    exact q2
   ·rename_i hc
    have hsi:=tY (P:=P) (loc:=loc) (T:=T) (T':=(St.bN ⟨T,M⟩ oj.dst u).t) (m:=M) hnl (fun x hx=>by have:=hopi M x hx;rw[hst M]at this;exact this)
    rw[hst M,hsi]at h
    split at h
    rotate_left
    ·exact h.elim
    rename_i v σ' hs
    cases hs2:bU P loc ⟨T,M⟩ oi with
    |none=>rw[hs2]at hs;simp at hs
    |some p=>
     obtain⟨v2,σ2⟩:=p
     rw[hs2]at hs
     simp only[Option.map_some,Option.some.injEq,Prod.mk.injEq]at hs
     obtain⟨rfl,rfl⟩:=hs
     have hg:=aoe hs2
     have ht:σ2.t=T:=by
      have:=tY (P:=P) (loc:=loc) (T:=T) (T':=T) (m:=M) hnl (fun x hx=>rfl)
      rw[hs2]at this
      simp only[Option.map_some,Option.some.injEq,Prod.mk.injEq,true_and]at this
      rw[this]
     obtain⟨T2,M2⟩:=σ2
     simp only at ht hg h ⊢
     subst ht
     refine⟨fun e he=>h.1 e (hl1s e he),?_⟩
     rw[if_pos hj,jafter v2 M2 hg h.1]
     simp only
     rw[hcomm v2]
     exact h.2
end
section
variable {P:Program} {ρ0 ρ ρ':aw} {h0:aa} {w0 w:World} {m:Mem}
def tq (P:Program) (ops:Array Oper) (p q:Nat×Oper):Prop:=
 dj P p.2.op=true∧(∀d,p.2.dst=some d→d∉q.2.looksAt ops)∧(∀d,p.2.dst=some d→q.2.dst≠some d)∧(∀d,q.2.dst=some d→d∉p.2.looksAt ops)
def Bg (P:Program) (ops:Array Oper) (B:Nat→Nat→Bool) (Wl:List Nat) (p q:Nat×Oper):Prop:=
 p.1≠q.1∧(B q.1 p.1=false→(dj P p.2.op=false∧dj P q.2.op=false)∨tq P ops p q∨∃r,r≠q.1∧B q.1 r=true∧[p.1,r].Sublist Wl)
theorem aoE {A S:List Nat} {p r:Nat} (hn:(A++S).Nodup) (hp:p∈S) (h:[p,r].Sublist (A++S)):r∈S:=by
 obtain⟨l1,l2,e,h1,h2⟩:=List.sublist_append_iff.1 h
 cases l1 with
 |nil=>rw[List.nil_append]at e;exact h2.subset (by rw[←e];simp)
 |cons a t=>
  rw[List.cons_append,List.cons.injEq]at e
  have:a∈A:=h1.subset (by simp)
  exact absurd e.1.symm ((List.nodup_append.1 hn).2.2 a this p hp)
theorem Q0 {loc:List Nat} {ops:Array Oper} {B:Nat→Nat→Bool} {Q:St→Prop} {hl:HL} {i:Nat} {o:Oper} {r:List (Nat×Oper)} {σ:St} (hn:dj P o.op=true):
  eH P loc ops B Q hl ((i,o)::r) σ↔∃v hl',fM P loc ops hl i o σ=some (v,hl')∧eH P loc ops B Q hl' r (σ.bN o.dst v):=by
 rw[eH,if_pos hn]
 constructor
 ·intro h
  split at h
  ·rename_i v k hk;exact⟨v,k,hk,h⟩
  ·exact h.elim
 ·rintro⟨v,k,h1,h2⟩
  rw[h1];exact h2
theorem aqe {loc:List Nat} {ops:Array Oper} {B:Nat→Nat→Bool} {Q:St→Prop} {q:Nat×Oper} {post:List (Nat×Oper)} (hnl:rE loc q.2=true):∀(pre:List (Nat×Oper)) (hl:HL) (σ:St),
  (∀p∈pre,tq P ops p q∧B q.1 p.1=false)→eH P loc ops B Q hl (pre++q::post) σ→eH P loc ops B Q hl (q::(pre++post)) σ:=by
 intro pre
 induction pre with
 |nil=>intro hl σ _ h;exact h
 |cons p r ih=>
  intro hl σ hp h
  obtain⟨j,oj⟩:=p
  obtain⟨i,oi⟩:=q
  obtain⟨⟨hj,a1,a2,a3⟩,hB⟩:=hp (j,oj) (by simp)
  refine aqg hj hB a1 a2 a3 hnl ?_
  simp only[List.cons_append]at h
  rw[Q0 hj]at h ⊢
  obtain⟨v,k,h1,h2⟩:=h
  exact⟨v,k,h1,ih _ _ (fun p hp'=>hp p (List.mem_cons_of_mem _ hp')) h2⟩
theorem aqJ {o:Oper} {f:FuncId} {args:List Value} {σ:St} {a:Act} {post:Value→aa→Prop} {K:Act→World→Prop} {Z:Exit→Act→World→Prop} (hc:cN σ o=some (f,args))
  (H:ai P f args σ.m.h post) (I:Inv P ρ0 h0 w0 ρ σ.m w) (F:dE ρ σ.t a.tmps)
  (hK:∀v h' ρ' v' w',post v h'→mC σ.m.h v h'→Inv P ρ0 h0 w0 ρ' ⟨σ.m.x,h'⟩ w'→(∀b pl,ρ (false,b)=some pl→ρ' (false,b)=some pl)→(∀s,ρ' (true,s)=ρ (true,s))→VR ρ' v v'→K (a.put o.dst v') w'):o.wp P a w K Z:=by
 obtain⟨args',hV,hrun⟩:=BU hc H.1 I F
 unfold Oper.wp
 rw[hrun]
 simp only[Oper.upon]
 have hcall:=H.2 (fE ρ) w args' (fun s=>zh ρ s) I.rel.fE ⟨hV.1,fun i v hi=>let ⟨v',q1,q2⟩:=hV.2 i v hi;⟨v',q1,q2.fE⟩⟩
 refine hcall.mono ?_
 rintro e w' ⟨v,v',h',ρ',rfl,hpost,hbox,hR,hT,hv⟩
 simp only
 obtain⟨J,j1,j2⟩:=I.call hR hT
 exact hK v h' _ v' w' hpost ⟨hT.hg,hv.KM,hT.hn⟩ J j1 j2 (hv.mono fun b pl q=>by simp only[aw.join,Bool.false_eq_true,if_false];exact q)
structure eY where
 i:Nat
 s:Nat
 e:TypeId
 z:List Value
def gA (pd:List eY) (T:Fr):Fr:=fun j=>if pd.any (fun p=>p.s==j)then none else T j
theorem ra {pd:List eY} {T:Fr} {j:Nat} (h:∃p∈pd,p.s=j):gA pd T j=none:=by
 unfold gA
 rw[if_pos]
 obtain⟨p,q1,q2⟩:=h
 exact List.any_eq_true.2 ⟨p,q1,by simp[q2]⟩
theorem mU {pd:List eY} {T:Fr} {j:Nat} (h:∀p∈pd,p.s≠j):gA pd T j=T j:=by
 unfold gA
 rw[if_neg]
 intro q
 obtain⟨p,q1,q2⟩:=List.any_eq_true.1 q
 exact h p q1 (by simpa using q2)
structure A6 (P:Program) (loc:List Nat) (ops:Array Oper) (p:eY):Prop where
 op:∃o,ops[p.i]? =some o∧o.op= .alloc p.e∧o.dst=some p.s∧o.guard=none
 zero:cT P p.e=some p.z
def uB (P:Program) (ρ0:aw) (h0:aa) (w0:World) (n:Nat) (pd:List eY) (σ:St) (a:Act) (w:World):Prop:=
 ∃ρ,Inv P ρ0 h0 w0 ρ σ.m w∧dE ρ (gA pd σ.t) a.tmps∧a.tmps.size=n∧a.defers=[]∧
  ∀p∈pd,ρ (true,p.s)=none∧σ.m.x p.s=some (p.e,p.z)∧σ.t p.s=some (.pointer (some ⟨p.s,0,some 0⟩))
theorem aen {pd:List eY} {T:Fr} {m:Mem} {d:Option Nat} (h:∀i,d=some i→∀p∈pd,p.s≠i) (v:Value):gA pd (St.bN ⟨T,m⟩ d v).t=(St.bN ⟨gA pd T,m⟩ d v).t:=by
 cases d with
 |none=>rfl
 |some i=>
  funext j
  simp only[St.bN]
  by_cases hj:∃p∈pd,p.s=j
  ·have hne:¬i=j:=fun q=>by obtain⟨p,q1,q2⟩:=hj;exact h i rfl p q1 (q2.trans q.symm)
   rw[ra hj]
   simp only[Fr.put,hne,if_false]
   rw[ra hj]
  ·have hj':∀p∈pd,p.s≠j:=fun p hp q=>hj ⟨p,hp,q⟩
   rw[mU hj']
   simp only[Fr.put]
   split
   ·rfl
   ·rw[mU hj']
theorem yH {n:Nat} {pd:List eY} {T:Fr} {M:Mem} {a:Act} {d:Option Nat} {v v':Value} (I:Inv P ρ0 h0 w0 ρ M w) (F:dE ρ (gA pd T) a.tmps) (hs:a.tmps.size=n) (hdf:a.defers=[])
  (hd:∀i,d=some i→i<n) (hdp:∀i,d=some i→∀p∈pd,p.s≠i) (hv:VT ρ v v')
  (hp:∀p∈pd,ρ (true,p.s)=none∧M.x p.s=some (p.e,p.z)∧T p.s=some (.pointer (some ⟨p.s,0,some 0⟩))):
  uB P ρ0 h0 w0 n pd (St.bN ⟨T,M⟩ d v) (a.put d v') w:=by
 refine⟨ρ,by rw[Ae];exact I,?_,by cases d<;>simp[Act.put,hs],by cases d<;>exact hdf,fun p hpp=>?_⟩
 ·rw[aen hdp]
  cases d with
  |none=>exact F
  |some i=>exact F.put (by rw[hs];exact hd i rfl) hv
 ·obtain⟨q1,q2,q3⟩:=hp p hpp
  refine⟨q1,by rw[Ae];exact q2,?_⟩
  cases d with
  |none=>exact q3
  |some i=>
   have:¬i=p.s:=fun e=>hdp i rfl p hpp e.symm
   simp only[St.bN,Fr.put,this,if_false]
   exact q3
structure Left (P:Program) (loc:List Nat) (ops:Array Oper) (B:Nat→Nat→Bool) (W:Nat→Bool) (Wl:List Nat) (n:Nat) (L:List Nat) (pd:List eY) (rem:List (Nat×Oper)):Prop where
 left:∀i,i∈L↔(∃p∈pd,p.i=i)∨∃q∈rem,q.1=i
 nodup:L.Nodup
 cons:L.Pairwise fun x y=>B x y=false
 ord:(rem.map (·.1)).filter W=L.filter W
 wr:∀q∈rem,W q.1= !dj P q.2.op
 wp:∀p∈pd,W p.i=false
 Qg:(L.filter W).IsSuffix Wl
 Rg:Wl.Nodup
 wW:∀x∈Wl,W x=true
 pair:rem.Pairwise (Bg P ops B Wl)
 PK:∀q∈rem,ops[q.1]? =some q.2∧rE loc q.2=true∧(∀i,q.2.dst=some i→i<n)∧
  ∀p∈pd,B q.1 p.i=false→p.s∉q.2.looksAt ops∧q.2.dst≠some p.s
 Pw:∀p∈pd,A6 P loc ops p∧p.s<n
 Px:pd.Pairwise fun p q=>p.i≠q.i∧p.s≠q.s
 sj:∀p∈pd,∀q∈rem,p.i≠q.1
theorem Left.next {loc:List Nat} {ops:Array Oper} {B:Nat→Nat→Bool} {W:Nat→Bool} {Wl:List Nat} {n:Nat} {i:Nat} {l:List Nat} {pd pd':List eY} {rem rem':List (Nat×Oper)} (L:Left P loc ops B W Wl n (i::l) pd rem)
  (hpd:pd'.Sublist pd) (hrem:rem'.Sublist rem)
  (hl:∀j,j≠i→((∃p∈pd,p.i=j)∨∃q∈rem,q.1=j)→((∃p∈pd',p.i=j)∨∃q∈rem',q.1=j)) (oe:¬((∃p∈pd',p.i=i)∨∃q∈rem',q.1=i))
  (ho:(rem'.map (·.1)).filter W=l.filter W):
  Left P loc ops B W Wl n l pd' rem':=by
 have hnd:=List.nodup_cons.1 L.nodup
 refine⟨fun j=>⟨fun hj=>hl j (fun e=>hnd.1 (e ▸ hj)) ((L.left j).1 (List.mem_cons_of_mem _ hj)),fun hj=>?_⟩,hnd.2,(List.pairwise_cons.1 L.cons).2,ho,fun q hq=>L.wr q (hrem.subset hq),fun p hp=>L.wp p (hpd.subset hp),?_,L.Rg,L.wW,L.pair.sublist hrem,fun q hq=>?_,
  fun p hp=>L.Pw p (hpd.subset hp),L.Px.sublist hpd,fun p hp q hq=>L.sj p (hpd.subset hp) q (hrem.subset hq)⟩
 ·have hji:j≠i:=fun e=>oe (e ▸ hj)
  have:j∈i::l:=(L.left j).2 (by
   rcases hj with⟨p,q1,q2⟩|⟨q,q1,q2⟩
   ·exact .inl ⟨p,hpd.subset q1,q2⟩
   ·exact .inr ⟨q,hrem.subset q1,q2⟩)
  rcases List.mem_cons.1 this with e|e
  ·exact absurd e hji
  ·exact e
 ·have:=L.Qg
  rw[List.filter_cons]at this
  split at this
  ·exact(List.suffix_cons _ _).trans this
  ·exact this
 ·obtain⟨q1,q2,q3,q4⟩:=L.PK q (hrem.subset hq)
  exact⟨q1,q2,q3,fun p hp=>q4 p (hpd.subset hp)⟩
theorem ZO {loc:List Nat} {ops:Array Oper} {B:Nat→Nat→Bool} {W:Nat→Bool} {Wl:List Nat} {Q:St→Prop} {Z:Exit→Act→World→Prop} {n:Nat} (hZ:∀σ' a' w',Q σ'→gX P ρ0 h0 w0 n σ' a' w'→Z .normal a' w'):
  ∀(l:List Nat) (pd:List eY) (rem:List (Nat×Oper)) (hl:HL) (σ:St) (a:Act) (w:World),Left P loc ops B W Wl n l pd rem→
   eH P loc ops B Q hl rem σ→uB P ρ0 h0 w0 n pd σ a w→wpOps P ops Z l a w:=by
 intro l
 induction l with
 |nil=>
  intro pd rem hl σ a w L h C
  have hpd:pd=[]:=List.eq_nil_iff_forall_not_mem.2 fun p hp=>by have:=(L.left p.i).2 (.inl ⟨p,hp,rfl⟩);simp at this
  have hrem:rem=[]:=List.eq_nil_iff_forall_not_mem.2 fun q hq=>by have:=(L.left q.1).2 (.inr ⟨q,hq,rfl⟩);simp at this
  subst hpd;subst hrem
  obtain⟨ρ,I,F,hs,hd,_⟩:=C
  exact hZ σ a w h ⟨ρ,I,F,hs,hd⟩
 |cons i l ih=>
  intro pd rem hl σ a w L h C
  rw[wpOps_cons]
  have hnd:=List.nodup_cons.1 L.nodup
  have hnl:∀k,((∃p∈pd,p.i=k)∨∃q∈rem,q.1=k)→k≠i→B i k=false:=fun k hk hki=>by
   rcases List.mem_cons.1 ((L.left k).2 hk)with e|e
   ·exact absurd e hki
   ·exact(List.pairwise_cons.1 L.cons).1 k e
  obtain⟨ρ,I,F,hs,hdf,hp⟩:=C
  rcases(L.left i).1 (by simp)with⟨p,hpm,hpi⟩|⟨q,hqm,hqi⟩
  ·
   subst hpi
   obtain⟨⟨⟨oi,hoi,c2,c3,c4⟩,hzero⟩,hsn⟩:=L.Pw p hpm
   obtain⟨zv,hzc,hzf,hzr⟩:=qy hzero
   obtain⟨l1,l2,hsplit⟩:=List.append_of_mem hpm
   have hdis:∀p'∈l1++l2,p'.i≠p.i∧p'.s≠p.s:=by
    intro p' hp'
    have hpw:=L.Px
    rw[hsplit,List.pairwise_append]at hpw
    rcases List.mem_append.1 hp' with q|q
    ·exact hpw.2.2 p' q p (by simp)
    ·have:=(List.pairwise_cons.1 hpw.2.1).1 p' q
     exact⟨fun e=>this.1 e.symm,fun e=>this.2 e.symm⟩
   have hsub:(l1++l2).Sublist pd:=by rw[hsplit];exact List.Sublist.append (List.Sublist.refl _) (List.sublist_cons_self _ _)
   obtain⟨hpn,hpx,hpt⟩:=hp p hpm
   have hfit:Fits P ρ (.row true p.e p.z) (.cells ⟨p.z⟩ p.e (0,0)) ⟨w.heap.size,0,(⟨p.z⟩:Array Value).size,P.cellsOf p.e⟩:=.row p.e p.e p.z ⟨p.z⟩ _ (by simp) (q7 hzf)
   have J:=I.fu p.s hfit rfl
   have hsame:(⟨σ.m.x.set p.s (p.e,p.z),σ.m.h⟩:Mem)=σ.m:=by
    obtain⟨T,x,hh⟩:=σ
    simp only at hpx ⊢
    congr 1
    funext j
    simp only[bI.set]
    split
    ·rename_i e;subst e;exact hpx.symm
    ·rfl
   rw[hsame]at J
   simp only[wpOp,hoi]
   rw[if_pos (by simp[Region.wanted,c4])]
   refine .inl ?_
   unfold Oper.wp
   have hrun:(execOp a.eval oi).run P w= .ok (.value (.pointer (some ⟨w.heap.size,0,none⟩))) (w.alloc (.cells ⟨p.z⟩ p.e)):=by
    simp[execOp,c2,Instr.alloc,hzr,newVar,newRow,hzc]
   rw[hrun]
   simp only[Oper.upon,c3]
   refine ih (l1++l2) rem hl σ _ _
    (L.next hsub (List.Sublist.refl _) (fun j hj hjl=>?_) (fun hj=>?_) (by rw[L.ord,List.filter_cons,if_neg (by rw[L.wp p hpm];simp)])) h ?_
   ·rcases hjl with⟨p',q1,q2⟩|q
    ·rw[hsplit]at q1
     simp only[List.mem_append,List.mem_cons]at q1
     rcases q1 with z|z|z
     ·exact .inl ⟨p',by simp[z],q2⟩
     ·subst z;exact absurd q2.symm hj
     ·exact .inl ⟨p',by simp[z],q2⟩
    ·exact .inr q
   ·rcases hj with⟨p',q1,q2⟩|⟨q,q1,q2⟩
    ·exact(hdis p' q1).1 q2
    ·exact L.sj p hpm q q1 q2.symm
   ·refine⟨_,J,?_,by simp[Act.put,hs],hdf,fun p' hp'=>?_⟩
    ·intro j u hj
     simp only[Fr.get]at hj
     by_cases hjs:j=p.s
     ·subst hjs
      rw[mU (fun p' hp'=>(hdis p' hp').2)]at hj
      rw[hpt]at hj
      obtain rfl:=Option.some.inj hj
      refine⟨.pointer (some ⟨w.heap.size,0,none⟩),by simp only[Act.put];rw[Array.getElem?_setIfInBounds_self_of_lt (by rw[hs];exact hsn)],?_⟩
      have:=VT.ql (ρ:=ρ.eg (true,p.s) ⟨w.heap.size,0,(⟨p.z⟩:Array Value).size,P.cellsOf p.e⟩) (ad:=⟨p.s,0,some 0⟩) (pl:=⟨w.heap.size,0,(⟨p.z⟩:Array Value).size,P.cellsOf p.e⟩) (by simp[key,aw.eg])
      simpa using this
     ·have hj':gA pd σ.t j=some u:=by
       rw[←hj]
       by_cases hex:∃p'∈l1++l2,p'.s=j
       ·rw[ra hex,ra]
        obtain⟨p',q1,q2⟩:=hex
        exact⟨p',hsub.subset q1,q2⟩
       ·have hno:∀p'∈l1++l2,p'.s≠j:=fun p' hp' e=>hex ⟨p',hp',e⟩
        rw[mU hno,mU]
        intro p' hp'
        rw[hsplit]at hp'
        simp only[List.mem_append,List.mem_cons]at hp'
        rcases hp' with z|z|z
        ·exact hno p' (by simp[z])
        ·subst z;exact fun e=>hjs e.symm
        ·exact hno p' (by simp[z])
      obtain⟨u',q1,q2⟩:=F j u hj'
      refine⟨u',by simp only[Act.put];rw[Array.getElem?_setIfInBounds_ne (Ne.symm hjs)];exact q1,?_⟩
      cases q2 with
      |val _ _ q2=>exact .val _ _ (q2.mono fun b pl z=>by rw[aw.b9 _ _ (by simp)];exact z)
      |loc s2 off x pl z=>
       have:s2≠p.s:=fun e=>by subst e;rw[hpn]at z;cases z
       exact .loc s2 off x pl (by rw[aw.b9 _ _ (by simpa using this)];exact z)
    ·obtain⟨q1,q2,q3⟩:=hp p' (hsub.subset hp')
     exact⟨by rw[aw.b9 _ _ (by simpa using(hdis p' hp').2)];exact q1,q2,q3⟩
  ·
   obtain⟨qi,oi⟩:=q
   simp only at hqi;subst hqi
   obtain⟨r1,r2,r3,r4⟩:=L.PK (qi,oi) hqm
   simp only at r1 r2 r3 r4
   have hoi:=r1
   obtain⟨pre,post,hsplit⟩:=List.append_of_mem hqm
   have hpair:=L.pair
   rw[hsplit,List.pairwise_append]at hpair
   have hord:=L.ord
   rw[hsplit,List.map_append,List.map_cons,List.filter_append,List.filter_cons]at hord
   have hwq:=L.wr (qi,oi) hqm
   simp only at hwq hord
   have hpreN:W qi=true→∀p∈pre,dj P p.2.op=true:=fun hw p hp'=>by
    rw[List.filter_cons,if_pos hw,if_pos hw]at hord
    have hpw:=L.wr p (by rw[hsplit];simp[hp'])
    cases hn:dj P p.2.op with
    |true=>rfl
    |false=>
     exfalso
     rw[hn]at hpw
     cases hf:(pre.map (·.1)).filter W with
     |nil=>
      have:p.1∈(pre.map (·.1)).filter W:=List.mem_filter.2 ⟨List.mem_map.2 ⟨p,hp',rfl⟩,hpw⟩
      rw[hf]at this;simp at this
     |cons y ys=>
      rw[hf,List.cons_append,List.cons.injEq]at hord
      have:y∈(pre.map (·.1)).filter W:=by rw[hf];simp
      obtain⟨p2,q1,q2⟩:=List.mem_map.1 (List.mem_filter.1 this).1
      have:=(hpair.2.2 p2 q1 (qi,oi) (by simp)).1
      exact this (by rw[q2];exact hord.1)
   have hpre:∀p∈pre,tq P ops p (qi,oi)∧B qi p.1=false:=fun p hp'=>by
    have ha:=hpair.2.2 p hp' (qi,oi) (by simp)
    have hB:=hnl p.1 (.inr ⟨p,by rw[hsplit];simp[hp'],rfl⟩) ha.1
    refine⟨?_,hB⟩
    rcases ha.2 hB with⟨z1,z2⟩|z|⟨r,z1,z2,z3⟩
    ·simp only at z2
     have:=hpreN (by rw[hwq,z2];rfl) p hp'
     rw[z1]at this;cases this
    ·exact z
    ·exfalso
     have hpL:p.1∈(qi::l).filter W:=List.mem_filter.2 ⟨(L.left p.1).2 (.inr ⟨p,by rw[hsplit];simp[hp'],rfl⟩),L.wW _ (z3.subset (by simp))⟩
     obtain⟨A,hA⟩:=L.Qg
     have hr:=aoE (by rw[hA];exact L.Rg) hpL (by rw[hA];exact z3)
     rcases List.mem_cons.1 (List.mem_filter.1 hr).1 with e|e
     ·exact z1 e
     ·have:=(List.pairwise_cons.1 L.cons).1 r e
      simp only at z2
      rw[z2]at this;cases this
   have hord':((pre++post).map (·.1)).filter W=l.filter W:=by
    rw[List.map_append,List.filter_append]
    by_cases hw:W qi=true
    ·have hnil:(pre.map (·.1)).filter W=[]:=List.eq_nil_iff_forall_not_mem.2 fun y hy=>by
      obtain⟨p2,q1,q2⟩:=List.mem_map.1 (List.mem_filter.1 hy).1
      have h1:=L.wr p2 (by rw[hsplit];simp[q1])
      rw[hpreN hw p2 q1,q2,(List.mem_filter.1 hy).2]at h1
      cases h1
     rw[List.filter_cons,if_pos hw,if_pos hw,hnil,List.nil_append,List.cons.injEq]at hord
     rw[hnil,List.nil_append];exact hord.2
    ·rw[List.filter_cons,if_neg hw,if_neg hw]at hord;exact hord
   rw[hsplit]at h
   replace h:=aqe r2 pre hl σ hpre h
   have hsub:(pre++post).Sublist rem:=by rw[hsplit];exact List.Sublist.append (List.Sublist.refl _) (List.sublist_cons_self _ _)
   have hne:∀q'∈pre++post,q'.1≠qi:=by
    intro q' hq'
    rcases List.mem_append.1 hq' with z|z
    ·exact(hpair.2.2 q' z (qi,oi) (by simp)).1
    ·exact fun e=>((List.pairwise_cons.1 hpair.2.1).1 q' z).1 e.symm
   have L':Left P loc ops B W Wl n l pd (pre++post):=L.next (List.Sublist.refl _) hsub
    (fun j hj hjl=>by
     rcases hjl with q|⟨q',q1,q2⟩
     ·exact .inl q
     ·rw[hsplit]at q1
      simp only[List.mem_append,List.mem_cons]at q1
      rcases q1 with z|z|z
      ·exact .inr ⟨q',by simp[z],q2⟩
      ·subst z;exact absurd q2.symm hj
      ·exact .inr ⟨q',by simp[z],q2⟩)
    (fun hj=>by
     rcases hj with⟨p,q1,q2⟩|⟨q',q1,q2⟩
     ·exact L.sj p q1 (qi,oi) hqm q2
     ·exact hne q' q1 q2)
    hord'
   have hpl:∀p∈pd,p.s∉oi.looksAt ops∧oi.dst≠some p.s:=fun p hpm=>r4 p hpm (hnl p.i (.inl ⟨p,hpm,rfl⟩) (L.sj p hpm (qi,oi) hqm))
   have hopnd:∀M,∀x∈oi.op.operands,aG ⟨gA pd σ.t,M⟩ x=aG ⟨σ.t,M⟩ x:=fun M x hx=>by
    cases x with
    |tmp t=>
     have:∀p∈pd,p.s≠t:=fun p hpm e=>(hpl p hpm).1 (by
      subst e
      exact List.mem_append_left _ (List.mem_filterMap.2 ⟨.tmp p.s,by simpa using hx,rfl⟩))
     simp only[aG,Fr.get]
     exact mU this
    |_=>rfl
   have hwant:dU ops (gA pd σ.t) oi=dU ops σ.t oi:=by
    unfold dU
    cases hg:oi.guard with
    |none=>rfl
    |some gw=>
     obtain⟨g,want⟩:=gw
     simp only
     cases ht:(ops[g]?).bind (·.dst)with
     |none=>rfl
     |some t=>
      have:∀p∈pd,p.s≠t:=fun p hpm e=>(hpl p hpm).1 (by subst e;simp[Oper.looksAt,hg,ht])
      simp only[Fr.get]
      rw[mU this]
   have hdp:∀i,oi.dst=some i→∀p∈pd,p.s≠i:=fun i hdi p hpm e=>(hpl p hpm).2 (by rw[hdi,e])
   obtain⟨T,M⟩:=σ
   simp only at I F hp h hopnd hwant
   have skip:∀(hl':HL),dU ops T oi=some false→eH P loc ops B Q hl' (pre++post) (St.bN ⟨T,M⟩ oi.dst undef)→wpOp P ops Z qi (wpOps P ops Z l) a w:=by
    intro hl' hw h'
    simp only[wpOp,hoi]
    rw[if_neg (by rw[rY (σ:=⟨gA pd T,M⟩) F (hwant.trans hw)];simp)]
    exact ih pd (pre++post) hl' _ _ _ L' h' (yH I F hs hdf r3 hdp (.eC rfl) hp)
   have act:∀(hl':HL) (v:Value) (M':Mem),dU ops T oi=some true→bU P loc ⟨T,M⟩ oi=some (v,⟨T,M'⟩)→eH P loc ops B Q hl' (pre++post) (St.bN ⟨T,M'⟩ oi.dst v)→
     wpOp P ops Z qi (wpOps P ops Z l) a w:=by
    intro hl' v M' hw hst h'
    have hst':bU P loc ⟨gA pd T,M⟩ oi=some (v,⟨gA pd T,M'⟩):=by
     rw[tY (T:=T) r2 (hopnd M),hst];rfl
    simp only[wpOp,hoi]
    rw[if_pos (rY (σ:=⟨gA pd T,M⟩) F (hwant.trans hw))]
    refine .inl ?_
    obtain⟨nx,v',w',ρ',c1,c2,c3,c4,c5,c6⟩:=Qc hst' ρ0 h0 w0 ρ a w I F
    unfold Oper.wp
    rw[c1]
    have hp':∀p∈pd,ρ' (true,p.s)=none∧M'.x p.s=some (p.e,p.z)∧T p.s=some (.pointer (some ⟨p.s,0,some 0⟩)):=fun p hpm=>by
     obtain⟨q1,q2,q3⟩:=hp p hpm
     obtain⟨z1,z2⟩:=c6 p.s (fun d hd=>fun e=>hdp d hd p hpm e.symm)
     exact⟨by rw[z1];exact q1,by rw[z2 q1];exact q2,q3⟩
    cases nx<;>simp only[oV,Option.some.injEq]at c2<;>first
     |(subst c2;exact ih pd (pre++post) hl' _ _ _ L' h' (yH c3 c4 hs hdf r3 hdp c5 hp'))
     |(exact absurd c2 (by simp))
   have tsame:∀{v:Value} {σ':St},bU P loc ⟨T,M⟩ oi=some (v,σ')→σ'.t=T:=fun{v σ'} hst=>by
    have:=tY (P:=P) (loc:=loc) (T:=T) (T':=T) (m:=M) r2 (fun x hx=>rfl)
    rw[hst]at this
    simp only[Option.map_some,Option.some.injEq,Prod.mk.injEq,true_and]at this
    rw[this]
   by_cases hn:dj P oi.op=true
   ·obtain⟨v,hl',h1,h2⟩:=(Q0 hn).1 h
    unfold fM at h1
    simp only at h1
    split at h1
    ·simp at h1
    ·rename_i hw
     simp only[Option.some.injEq,Prod.mk.injEq]at h1
     obtain⟨rfl,rfl⟩:=h1
     exact skip _ hw h2
    ·rename_i hw
     split at h1
     rotate_left
     ·simp at h1
     rename_i u hu
     simp only[Option.some.injEq,Prod.mk.injEq]at h1
     obtain⟨rfl,rfl⟩:=h1
     unfold lR at hu
     cases hst:bU P loc ⟨T,M⟩ oi with
     |none=>rw[hst]at hu;simp at hu
     |some pr=>
      obtain⟨u2,σ2⟩:=pr
      rw[hst]at hu
      simp only[Option.map_some,Option.some.injEq]at hu
      subst hu
      have e:=rU hn hst
      subst e
      exact act _ _ M hw hst h2
   ·rw[eH,if_neg hn]at h
    simp only at h
    split at h
    ·exact h.elim
    ·rename_i hw;exact skip _ hw h
    ·rename_i hw
     split at h
     ·rename_i f args hc
      have hc':cN ⟨gA pd T,M⟩ oi=some (f,args):=by rw[BT (hopnd M)];exact hc
      simp only[wpOp,hoi]
      rw[if_pos (rY (σ:=⟨gA pd T,M⟩) F (hwant.trans hw))]
      refine .inl (aqJ (σ:=⟨gA pd T,M⟩) hc' h I F fun v h' ρ' v' w' hpost hnice J j1 j2 hv=>?_)
      obtain⟨_,h2⟩:=hpost hnice
      exact ih pd (pre++post) hl _ _ _ L' h2 (yH J (F.mono j1 j2) hs hdf r3 hdp (.val _ _ hv) fun p hpm=>by
       obtain⟨q1,q2,q3⟩:=hp p hpm
       exact⟨by rw[j2];exact q1,q2,q3⟩)
     ·split at h
      rotate_left
      ·exact h.elim
      rename_i v σ' hst
      obtain⟨T',M'⟩:=σ'
      have ht:=tsame hst
      simp only at ht
      subst ht
      exact act _ v M' hw hst h.2
end
section
variable {P:Program} {ρ0 ρ ρ':aw} {h0:aa} {w0 w:World} {m:Mem}
structure ao where
 bx:List Nat
 perm:List Nat
 M:List (List Nat)
 alts:List (List Nat)
def ao.perms (d:ao):List (List Nat):=d.perm::d.alts
structure au where
 loc:List Nat
 keep:Nat→List Nat
 draw:Nat→ao
def ao.B (d:ao) (i j:Nat):Bool:=(d.M.getD i []).contains j
def kG (P:Program) (ops:Array Oper) (i:Nat):eY:=
 match ops[i]? with
 |some ⟨some s,.alloc e,_,_,_,_⟩=>⟨i,s,e,(cT P e).getD []⟩
 |_=>⟨i,0,0,[]⟩
def jE (P:Program) (ops:Array Oper) (d:ao):List eY:=d.bx.map (kG P ops)
def mo (ops:Array Oper) (pm:List Nat):List (Nat×Oper):=pm.map fun i=>(i,ops.getD i default)
def OL (P:Program) (ops:Array Oper) (p q:Nat×Oper):Bool:=dj P p.2.op&&
  (match p.2.dst with|some d=> !(q.2.looksAt ops).contains d&&q.2.dst != some d|none=>true)&&
  (match q.2.dst with|some d=> !(p.2.looksAt ops).contains d|none=>true)
def uO (P:Program) (ops:Array Oper) (B:Nat→Nat→Bool) (Wl:List Nat) (p q:Nat×Oper):Bool:=
 p.1 != q.1&&(B q.1 p.1 || (!dj P p.2.op&& !dj P q.2.op) || OL P ops p q || Wl.any fun r=>r != q.1&&B q.1 r&&[p.1,r].isSublist Wl)
theorem Ur {ops:Array Oper} {B:Nat→Nat→Bool} {Wl:List Nat} {p q:Nat×Oper} (h:uO P ops B Wl p q=true):Bg P ops B Wl p q:=by
 unfold uO at h
 rw[Bool.and_eq_true,bne_iff_ne]at h
 refine⟨h.1,fun hB=>?_⟩
 have h2:=h.2
 rw[hB,Bool.false_or,Bool.or_eq_true,Bool.or_eq_true]at h2
 rcases h2 with(h2|h2)|h2
 ·rw[Bool.and_eq_true,Bool.not_eq_true',Bool.not_eq_true']at h2
  exact .inl h2
 rotate_left
 ·obtain⟨r,_,hr⟩:=List.any_eq_true.1 h2
  rw[Bool.and_eq_true,Bool.and_eq_true,bne_iff_ne]at hr
  exact .inr (.inr ⟨r,hr.1.1,hr.1.2,List.isSublist_iff_sublist.1 hr.2⟩)
 refine .inr (.inl ?_)
 unfold OL at h2
 rw[Bool.and_eq_true,Bool.and_eq_true]at h2
 obtain⟨⟨a1,a2⟩,a3⟩:=h2
 refine⟨a1,fun d hd=>?_,fun d hd=>?_,fun d hd=>?_⟩
 ·rw[hd]at a2;simp only[Bool.and_eq_true,Bool.not_eq_true']at a2
  intro hm;have:=a2.1;rw[List.contains_eq_mem,decide_eq_false_iff_not]at this;exact this hm
 ·rw[hd]at a2;simp only[Bool.and_eq_true,bne_iff_ne]at a2;exact a2.2
 ·rw[hd]at a3;simp only[Bool.not_eq_true']at a3
  intro hm;rw[List.contains_eq_mem,decide_eq_false_iff_not]at a3;exact a3 hm
def qn {α:Type} (f:α→α→Bool):List α→Bool
 |[]=>true
 |x::r=>r.all (f x)&&qn f r
theorem Pr {α:Type} {f:α→α→Bool} {R:α→α→Prop} (hf:∀x y,f x y=true→R x y):∀l:List α,qn f l=true→l.Pairwise R:=by
 intro l
 induction l with
 |nil=>intro _;exact .nil
 |cons x r ih=>
  intro h
  rw[qn,Bool.and_eq_true]at h
  exact .cons (fun y hy=>hf x y (List.all_eq_true.1 h.1 y hy)) (ih h.2)
def zX (P:Program) (loc:List Nat) (ops:Array Oper) (n:Nat) (p:eY):Bool:=
 match ops[p.i]? with
 |some o=>(match o.op with| .alloc e=>e==p.e|_=>false)&&o.dst==some p.s&&o.guard.isNone&&loc.contains p.s&&decide (p.s<n)&&(cT P p.e).isSome
 |none=>false
def wB (P:Program) (ops:Array Oper) (d:ao) (i:Nat):Bool:= !d.bx.contains i&& !dj P (ops.getD i default).op
def exts (B:Nat→Nat→Bool):Nat→List Nat→List (List Nat)
 |0,_=>[[]]
 |n+1,X=>if X.isEmpty then[[]]else X.flatMap fun x=>if(X.erase x).all (fun y=> !B x y)then(exts B n (X.erase x)).map (x::·)else[]
def yM (ops:Array Oper) (d:ao):Bool:=
 (List.range ops.size).all (fun i=>match ops[i]? with
  |some o=>(d.M.getD i []).all (fun j=>decide (j<ops.size)&&o.after.toList.any fun e=>Region.binds .any e&&decide (e.on<ops.size)&&(e.on==j || d.B e.on j))&&
    o.after.toList.all (fun e=> !Region.binds .any e || decide (e.on<i))
  |none=>false)
def JK (P:Program) (loc:List Nat) (n:Nat) (ops:Array Oper) (d:ao) (pm:List Nat):Bool:=
 let pd:=jE P ops d
 let rem:=mo ops pm
 let N:=ops.size
 (List.range N).all (fun i=>d.bx.contains i || pm.contains i)&&d.bx.all (fun i=>decide (i<N))&&pm.all (fun i=>decide (i<N))&&
 qn (uO P ops d.B (pm.filter (wB P ops d))) rem&&
 rem.all (fun q=>rE loc q.2&&(match q.2.dst with|some i=>decide (i<n)|none=>true)&&
  pd.all (fun p=>d.B q.1 p.i || (!(q.2.looksAt ops).contains p.s&&q.2.dst != some p.s)))&&
 pd.all (zX P loc ops n)&&qn (fun p q=>p.i != q.i&&p.s != q.s) pd&&pd.all (fun p=>rem.all fun q=>p.i != q.1)
def yL (P:Program) (loc:List Nat) (n:Nat) (ops:Array Oper) (d:ao):Bool:=
 yM ops d&&d.perms.all (JK P loc n ops d)&&
 (exts d.B ops.size ((List.range ops.size).filter (wB P ops d))).all (fun e=>d.perms.any fun pm=>pm.filter (wB P ops d)==e)
theorem Ah {ops:Array Oper} {listed:Array Bool} {i:Nat}:i∈Region.ready .any ops listed↔
  i<ops.size∧listed.getD i true=false∧∃o,ops[i]? =some o∧∀e∈o.after,Region.binds .any e=true→listed.getD e.on false=true:=by
 unfold Region.ready
 rw[List.mem_filter,List.mem_range]
 constructor
 ·rintro⟨h1,h2⟩
  rw[Bool.and_eq_true]at h2
  obtain⟨h2,h3⟩:=h2
  refine⟨h1,by simpa using h2,ops[i],by simp[h1],?_⟩
  simp only[Array.getElem?_eq_getElem h1,Option.map_some,Option.getD_some]at h3
  rw[Array.all_eq_true_iff_forall_mem]at h3
  intro e he hb
  have:=h3 e he
  rw[hb]at this
  simpa using this
 ·rintro⟨h1,h2,o,h3,h4⟩
  refine⟨h1,?_⟩
  rw[Bool.and_eq_true]
  refine⟨by rw[h2];rfl,?_⟩
  rw[h3]
  simp only[Option.map_some,Option.getD_some]
  rw[Array.all_eq_true_iff_forall_mem]
  intro e he
  cases hb:Region.binds .any e with
  |false=>rfl
  |true=>rw[h4 e he hb];rfl
theorem q8 (l:Array Bool) (i j:Nat) (h:i<l.size):(l.setIfInBounds i true).getD j true=if i=j then true else l.getD j true:=by
 simp only[Array.getD_eq_getD_getElem?]
 by_cases hij:i=j
 ·subst hij;rw[Array.getElem?_setIfInBounds_self_of_lt h];simp
 ·rw[Array.getElem?_setIfInBounds_ne hij,if_neg hij]
structure uD (ops:Array Oper) (B:Nat→Nat→Bool):Prop where
 ZY:∀i j,B i j=true→i<ops.size→j<ops.size∧∃o,ops[i]? =some o∧∃e∈o.after,Region.binds .any e=true∧e.on<ops.size∧(e.on=j∨B e.on j=true)
 back:∀i o,ops[i]? =some o→∀e∈o.after,Region.binds .any e=true→e.on<i
theorem ZZ {ops:Array Oper} {d:ao} (h:yM ops d=true):uD ops d.B:=by
 unfold yM at h
 refine⟨fun i j hB hi=>?_,fun i o ho e he hb=>?_⟩
 ·have:=List.all_eq_true.1 h i (List.mem_range.2 hi)
  rw[Array.getElem?_eq_getElem hi]at this
  simp only[Bool.and_eq_true]at this
  have hj:=List.all_eq_true.1 this.1 j (by simpa[ao.B]using hB)
  rw[Bool.and_eq_true]at hj
  obtain⟨e,he,hb⟩:=List.any_eq_true.1 hj.2
  simp only[Bool.and_eq_true,Bool.or_eq_true,beq_iff_eq,decide_eq_true_eq]at hb
  exact⟨of_decide_eq_true hj.1,ops[i],by simp[hi],e,by simpa using he,hb.1.1,hb.1.2,hb.2⟩
 ·have hi:i<ops.size:=by rcases Nat.lt_or_ge i ops.size with z|z;exact z;rw[Array.getElem?_eq_none z]at ho;cases ho
  have:=List.all_eq_true.1 h i (List.mem_range.2 hi)
  rw[ho]at this
  simp only[Bool.and_eq_true]at this
  have h2:=List.all_eq_true.1 this.2 e (by simpa using he)
  rw[hb]at h2
  simpa using h2
theorem amu {ops:Array Oper} {B:Nat→Nat→Bool} {listed:Array Bool} (E:uD ops B) (hs:listed.size=ops.size):∀k i,i≤k→i<ops.size→listed.getD i true=false→∃i,i∈Region.ready .any ops listed:=by
 intro k
 induction k with
 |zero=>
  intro i hik hi hl
  have:i=0:=by omega
  subst this
  refine⟨0,Ah.2 ⟨hi,hl,ops[0],by simp[hi],fun e he hb=>?_⟩⟩
  exact absurd (E.back 0 _ (Array.getElem?_eq_getElem hi) e he hb) (Nat.not_lt_zero _)
 |succ k ihk=>
  intro i hik hi hl
  by_cases aL:∀e∈ops[i].after,Region.binds .any e=true→listed.getD e.on false=true
  ·exact⟨i,Ah.2 ⟨hi,hl,ops[i],by simp[hi],aL⟩⟩
  ·have:∃e,e∈ops[i].after∧Region.binds .any e=true∧listed.getD e.on false≠true:=by
    apply Classical.byContradiction
    intro hno
    exact aL fun e he hb=>Classical.byContradiction fun hne=>hno ⟨e,he,hb,hne⟩
   obtain⟨e,he,hb,hne⟩:=this
   have hlt:=E.back i _ (Array.getElem?_eq_getElem hi) e he hb
   have hes:e.on<listed.size:=by rw[hs];omega
   refine ihk e.on (by omega) (by omega) ?_
   simp only[Array.getD_eq_getD_getElem?,Array.getElem?_eq_getElem hes,Option.getD_some]at hne ⊢
   simpa using hne
theorem Zv {α:Type} {p q:α→Bool} {x:α} (hpq:∀y,p y=true→q y=true) (hq:q x=true) (hp:p x=false):∀l:List α,x∈l→l.countP p<l.countP q:=by
 intro l
 have hle:∀l:List α,l.countP p≤l.countP q:=by
  intro l
  induction l with
  |nil=>simp
  |cons y r ih=>
   rw[List.countP_cons,List.countP_cons]
   cases h:p y with
   |true=>rw[hpq y h];simp;exact ih
   |false=>simp;cases q y<;>simp<;>omega
 induction l with
 |nil=>intro h;simp at h
 |cons y r ih=>
  intro h
  rw[List.countP_cons,List.countP_cons]
  by_cases e:x=y
  ·subst e
   rw[hq,hp];simp;have:=hle r;omega
  ·have:=ih (by rcases List.mem_cons.1 h with z|z;exact absurd z e;exact z)
   cases h:p y with
   |true=>rw[hpq y h];simp;exact this
   |false=>simp;cases q y<;>simp<;>omega
def qF (ops:Array Oper) (listed:Array Bool):Nat:=(List.range ops.size).countP fun i=> !listed.getD i true
theorem afv {ops:Array Oper} {B:Nat→Nat→Bool} (E:uD ops B):∀(fuel t:Nat) (listed:Array Bool),listed.size=ops.size→qF ops listed≤fuel→
  (∀i j,listed.getD i true=true→B i j=true→j<ops.size→i<ops.size→listed.getD j true=true)→
  (∀i,i∈Region.linearise.go .any ops fuel t listed []↔i<ops.size∧listed.getD i true=false)∧(Region.linearise.go .any ops fuel t listed []).Nodup∧(Region.linearise.go .any ops fuel t listed []).Pairwise (fun x y=>B x y=false):=by
 intro fuel
 induction fuel with
 |zero=>
  intro t listed hs hu hc
  have hno:∀i,i<ops.size→listed.getD i true=true:=fun i hi=>by
   unfold qF at hu
   have:=List.countP_eq_zero.1 (Nat.le_zero.1 hu) i (List.mem_range.2 hi)
   simpa using this
  refine⟨fun i=>⟨fun h=>by simp[Region.linearise.go]at h,fun h=>?_⟩,by simp[Region.linearise.go],by simp[Region.linearise.go]⟩
  rw[hno i h.1]at h;cases h.2
 |succ fuel ih=>
  intro t listed hs hu hc
  have hgo:Region.linearise.go .any ops (fuel+1) t listed []=match(Region.ready .any ops listed)[t % (Region.ready .any ops listed).length]? with
   |some i=>Region.linearise.go .any ops fuel (t / (Region.ready .any ops listed).length) (listed.setIfInBounds i true) [i]
   |none=>[]:=by rfl
  rw[hgo]
  cases hi:(Region.ready .any ops listed)[t % (Region.ready .any ops listed).length]? with
  |none=>
   have hnil:Region.ready .any ops listed=[]:=by
    cases hr:Region.ready .any ops listed with
    |nil=>rfl
    |cons x xs=>
     rw[hr]at hi
     have hlt:t % (x::xs).length<(x::xs).length:=Nat.mod_lt _ (by simp)
     simp at hi
     simp at hlt
     omega
   refine⟨fun i=>⟨fun h=>by simp at h,fun h=>?_⟩,by simp,by simp⟩
   obtain⟨j,hj⟩:=amu E hs i i (Nat.le_refl _) h.1 h.2
   rw[hnil]at hj;simp at hj
  |some i=>
   simp only[]
   rw[linearise_go_acc,List.reverse_singleton,List.singleton_append]
   obtain⟨q1,q2,o,q3,q4⟩:=Ah.1 (List.mem_of_getElem? hi)
   have hil:i<listed.size:=by rw[hs];exact q1
   have hBi:∀j,B i j=true→listed.getD j true=true:=fun j hB=>by
    obtain⟨hj,o',ho',e,he,hb,hon,hor⟩:=E.ZY i j hB q1
    rw[q3]at ho'
    obtain rfl:=Option.some.inj ho'
    have h1:=q4 e he hb
    have hlt:e.on<listed.size:=by rw[hs];exact hon
    have h1':listed.getD e.on true=true:=by
     simp only[Array.getD_eq_getD_getElem?,Array.getElem?_eq_getElem hlt,Option.getD_some]at h1 ⊢
     exact h1
    rcases hor with q|q
    ·rw[←q];exact h1'
    ·exact hc e.on j h1' q hj hon
   obtain⟨r1,r2,r3⟩:=ih (t / (Region.ready .any ops listed).length) (listed.setIfInBounds i true) (by simpa using hs) (by
     have:qF ops (listed.setIfInBounds i true)<qF ops listed:=by
      unfold qF
      refine Zv (x:=i) (fun y hy=>?_) (by rw[q2];rfl) (by rw[q8 _ _ _ hil];simp) _ (List.mem_range.2 q1)
      rw[q8 _ _ _ hil]at hy
      split at hy
      ·simp at hy
      ·exact hy
     omega) (fun j k hj hB hk hj'=>by
     rw[q8 _ _ _ hil]at hj ⊢
     by_cases hik:i=k
     ·rw[if_pos hik]
     ·rw[if_neg hik]
      by_cases hij:i=j
      ·subst hij;exact hBi k hB
      ·rw[if_neg hij]at hj;exact hc j k hj hB hk hj')
   have hmem:∀j,j∈Region.linearise.go .any ops fuel (t / (Region.ready .any ops listed).length) (listed.setIfInBounds i true) []→j≠i∧listed.getD j true=false:=fun j hj=>by
    have:=((r1 j).1 hj).2
    rw[q8 _ _ _ hil]at this
    by_cases hij:i=j
    ·rw[if_pos hij]at this;cases this
    ·rw[if_neg hij]at this;exact⟨Ne.symm hij,this⟩
   refine⟨fun j=>?_,List.nodup_cons.2 ⟨fun h=>(hmem i h).1 rfl,r2⟩,List.pairwise_cons.2 ⟨fun j hj=>?_,r3⟩⟩
   ·rw[List.mem_cons,r1 j,q8 _ _ _ hil]
    by_cases hij:i=j
    ·subst hij;rw[if_pos rfl];exact⟨fun _=>⟨q1,q2⟩,fun _=>.inl rfl⟩
    ·rw[if_neg hij]
     exact⟨fun h=>by rcases h with h|h;exact absurd h.symm hij;exact h,fun h=>.inr h⟩
   ·cases hB:B i j with
    |false=>rfl
    |true=>have:=hBi j hB;rw[(hmem j hj).2]at this;cases this
theorem aaD {B:Nat→Nat→Bool}:∀(l:List Nat) (n:Nat) (X:List Nat),l.Perm X→X.length≤n→l.Pairwise (fun x y=>B x y=false)→l∈exts B n X:=by
 intro l
 induction l with
 |nil=>
  intro n X hp hn _
  have:X=[]:=hp.symm.eq_nil
  subst this
  cases n<;>simp[exts]
 |cons x r ih=>
  intro n X hp hn hw
  obtain⟨h1,h2⟩:=List.cons_perm_iff_perm_erase.1 hp
  have hX:X.isEmpty=false:=by cases X with|nil=>simp at h1|cons _ _=>rfl
  have hlen:=hp.length_eq
  cases n with
  |zero=>simp at hlen;omega
  |succ n=>
   rw[exts,hX]
   simp only[Bool.false_eq_true,if_false]
   obtain⟨w1,w2⟩:=List.pairwise_cons.1 hw
   refine List.mem_flatMap.2 ⟨x,h1,?_⟩
   rw[if_pos (List.all_eq_true.2 fun y hy=>by rw[w1 y (h2.symm.subset hy)];rfl)]
   refine List.mem_map.2 ⟨r,ih n _ h2 ?_ w2,rfl⟩
   have:=h2.length_eq
   simp at hlen
   omega
theorem qj (P:Program) (ops:Array Oper) (i:Nat):(kG P ops i).i=i:=by unfold kG;split<;>rfl
theorem af9 {P:Program} {loc:List Nat} {ops:Array Oper} {n i:Nat} (h:zX P loc ops n (kG P ops i)=true):A6 P loc ops (kG P ops i)∧(kG P ops i).s<n:=by
 unfold zX at h
 rw[qj]at h
 split at h
 rotate_left
 ·simp at h
 rename_i o ho
 simp only[Bool.and_eq_true,beq_iff_eq,Option.isNone_iff_eq_none,decide_eq_true_eq]at h
 obtain⟨⟨⟨⟨⟨h1,h2⟩,h3⟩,h4⟩,h5⟩,h6⟩:=h
 split at h1
 rotate_left
 ·simp at h1
 rename_i e he
 rw[beq_iff_eq]at h1
 refine⟨⟨⟨o,by rw[qj];exact ho,by rw[he,h1],h2,h3⟩,?_⟩,h5⟩
 obtain⟨dst,op,type,pos,after,guard⟩:=o
 simp only at he h2
 subst he
 cases dst with
 |none=>simp at h2
 |some s=>
  have:kG P ops i=⟨i,s,e,(cT P e).getD []⟩:=by simp only[kG,ho]
  rw[this]at h6 ⊢
  simp only at h6 ⊢
  cases hz:cT P e with
  |none=>rw[hz]at h6;simp at h6
  |some z=>rfl
theorem Py {ops:Array Oper} {d:ao} (h:qn (fun p q:eY=>p.i != q.i&&p.s != q.s) (jE P ops d)=true):(jE P ops d).Pairwise fun p q=>p.i≠q.i∧p.s≠q.s:=
 Pr (fun x y hxy=>by rw[Bool.and_eq_true,bne_iff_ne,bne_iff_ne]at hxy;exact hxy) _ h
theorem ZN {loc:List Nat} {n:Nat} {ops:Array Oper} {d:ao} (h:yL P loc n ops d=true) (t:Nat):
  (jE P ops d).Pairwise (fun p q=>p.i≠q.i∧p.s≠q.s)∧∃pm∈d.perms,Left P loc ops d.B (wB P ops d) (pm.filter (wB P ops d)) n (Region.linearise.go .any ops ops.size t (Array.replicate ops.size false) []) (jE P ops d) (mo ops pm):=by
 unfold yL at h
 simp only[Bool.and_eq_true]at h
 obtain⟨⟨e1,e2⟩,e3⟩:=h
 have hget:∀i,i<ops.size→(Array.replicate ops.size false).getD i true=false:=fun i hi=>by
  simp[Array.getD_eq_getD_getElem?,hi]
 obtain⟨l1,l2,l3⟩:=afv (ZZ e1) ops.size t (Array.replicate ops.size false) (by simp) (by
  unfold qF;have:=List.countP_le_length (p:=fun i=> !(Array.replicate ops.size false).getD i true) (l:=List.range ops.size);simpa using this)
  (fun i j hij _ _ hi=>by rw[hget i hi]at hij;cases hij)
 generalize hL:Region.linearise.go .any ops ops.size t (Array.replicate ops.size false) []=L at l1 l2 l3
 have hperm:(L.filter (wB P ops d)).Perm ((List.range ops.size).filter (wB P ops d)):=by
  refine(List.perm_ext_iff_of_nodup (l2.filter _) (List.nodup_range.filter _)).2 fun i=>?_
  rw[List.mem_filter,List.mem_filter,l1 i,List.mem_range]
  exact⟨fun z=>⟨z.1.1,z.2⟩,fun z=>⟨⟨z.1,hget i z.1⟩,z.2⟩⟩
 have hin:=aaD (B:=d.B) _ ops.size _ hperm (by have:=List.length_filter_le (wB P ops d) (List.range ops.size);simpa using this) (l3.filter _)
 obtain⟨pm,hpm,heq⟩:=List.any_eq_true.1 (List.all_eq_true.1 e3 _ hin)
 have heq':pm.filter (wB P ops d)=L.filter (wB P ops d):=eq_of_beq heq
 have ok1:=List.all_eq_true.1 e2 pm hpm
 unfold JK at ok1
 simp only[Bool.and_eq_true]at ok1
 obtain⟨⟨⟨⟨⟨⟨⟨c2,c3⟩,c4⟩,c6⟩,c7⟩,c8⟩,c9⟩,c10⟩:=ok1
 refine⟨Py c9,pm,hpm,fun i=>?_,l2,l3,?_,fun q hq=>?_,fun p hp=>?_,(by rw[heq'];exact List.suffix_rfl),(by rw[heq'];exact l2.filter _),(fun x hx=>(List.mem_filter.1 hx).2),Pr (fun x y=>Ur) _ c6,fun q hq=>?_,fun p hp=>?_,Py c9,fun p hp q hq=>?_⟩
 ·rw[l1 i]
  constructor
  ·rintro⟨hi,_⟩
   have:=List.all_eq_true.1 c2 i (List.mem_range.2 hi)
   rw[Bool.or_eq_true]at this
   rcases this with q|q
   ·exact .inl ⟨kG P ops i,List.mem_map.2 ⟨i,by simpa using q,rfl⟩,qj P ops i⟩
   ·exact .inr ⟨(i,ops.getD i default),List.mem_map.2 ⟨i,by simpa using q,rfl⟩,rfl⟩
  ·rintro(⟨p,q1,q2⟩|⟨q,q1,q2⟩)
   ·obtain⟨j,hj,rfl⟩:=List.mem_map.1 q1
    rw[qj]at q2;subst q2
    have:=of_decide_eq_true (List.all_eq_true.1 c3 j hj)
    exact⟨this,hget _ this⟩
   ·obtain⟨j,hj,rfl⟩:=List.mem_map.1 q1
    simp only at q2;subst q2
    have:=of_decide_eq_true (List.all_eq_true.1 c4 j hj)
    exact⟨this,hget _ this⟩
 ·rw[←heq',mo,List.map_map]
  congr 1
  exact(List.map_congr_left (fun a _=>rfl)).trans (List.map_id _)
 ·obtain⟨i,hi,rfl⟩:=List.mem_map.1 hq
  simp only[wB]
  have:d.bx.contains i=false:=by
   cases hb:d.bx.contains i with
   |false=>rfl
   |true=>
    have h1:kG P ops i∈jE P ops d:=List.mem_map.2 ⟨i,by simpa using hb,rfl⟩
    have:=List.all_eq_true.1 (List.all_eq_true.1 c10 _ h1) (i,ops.getD i default) hq
    rw[qj]at this
    simp at this
  rw[this];rfl
 ·obtain⟨i,hi,rfl⟩:=List.mem_map.1 hp
  rw[qj]
  have:d.bx.contains i=true:=by simpa using hi
  simp only[wB,this,Bool.not_true,Bool.false_and]
 ·have h1:=List.all_eq_true.1 c7 q hq
  simp only[Bool.and_eq_true]at h1
  obtain⟨⟨h1,h2⟩,h3⟩:=h1
  obtain⟨i,hi,rfl⟩:=List.mem_map.1 hq
  have hlt:=of_decide_eq_true (List.all_eq_true.1 c4 i hi)
  refine⟨by simp[Array.getD_eq_getD_getElem?,hlt],h1,fun k hk=>?_,fun p hp hB=>?_⟩
  ·simp only at hk h2;rw[hk]at h2;exact of_decide_eq_true h2
  ·have:=List.all_eq_true.1 h3 p hp
   simp only at this hB
   rw[hB,Bool.false_or,Bool.and_eq_true,bne_iff_ne]at this
   refine⟨fun hm=>?_,this.2⟩
   have:=this.1
   rw[Bool.not_eq_true',List.contains_eq_mem,decide_eq_false_iff_not]at this
   exact this hm
 ·have h1:=List.all_eq_true.1 c8 p hp
  obtain⟨i,hi,rfl⟩:=List.mem_map.1 hp
  exact af9 h1
 ·have:=List.all_eq_true.1 (List.all_eq_true.1 c10 p hp) q hq
  simpa using this
def qX (pd:List eY) (T:Fr):Fr:=fun j=>
 match pd.find? (fun p=>p.s==j)with
 |some p=>some (.pointer (some ⟨p.s,0,some 0⟩))
 |none=>match T j with
  |some v=>match fO v with
   |some s=>if pd.any (fun p=>p.s==s)then none else some v
   |none=>some v
  |none=>none
def qY (pd:List eY) (x:bI):bI:=fun j=>
 match pd.find? (fun p=>p.s==j)with
 |some p=>some (p.e,p.z)
 |none=>x j
def mN (pd:List eY) (σ:St):St:=match pd with
 |[]=>σ
 |p::r=>⟨qX (p::r) σ.t,⟨qY (p::r) σ.m.x,σ.m.h⟩⟩
theorem Kg {pd:List eY} {j:Nat} (h:∀p∈pd,p.s≠j):pd.find? (fun p=>p.s==j)=none:=by
 rw[List.find?_eq_none];intro p hp;simpa using h p hp
theorem Ki {pd:List eY} (hpw:pd.Pairwise fun p q=>p.i≠q.i∧p.s≠q.s) {p:eY} (hp:p∈pd):pd.find? (fun q=>q.s==p.s)=some p:=by
 induction pd with
 |nil=>simp at hp
 |cons q r ih=>
  rw[List.find?_cons]
  rcases List.mem_cons.1 hp with e|e
  ·subst e;simp
  ·have hne:=((List.pairwise_cons.1 hpw).1 p e).2
   have:(q.s==p.s)=false:=by simpa using hne
   rw[this]
   exact ih (List.pairwise_cons.1 hpw).2 e
theorem Inv.forget (I:Inv P ρ0 h0 w0 ρ m w) {ρ1:aw} {x1:bI} (hf:∀b,ρ1 (false,b)=ρ (false,b)) (hb:∀s pl,ρ1 (true,s)=some pl→ρ (true,s)=some pl∧(x1 s=m.x s∨x1 s=none)):
  Inv P ρ0 h0 w0 ρ1 ⟨x1,m.h⟩ w:=by
 have hback:∀{k pl},ρ1 k=some pl→ρ k=some pl:=fun{k pl} h=>by
  obtain⟨t,b⟩:=k
  cases t
  ·rw[←hf];exact h
  ·exact(hb b pl h).1
 have hmono:∀{v u},VR ρ v u→VR ρ1 v u:=fun{v u} h=>h.mono fun b pl q=>by rw[hf];exact q
 have hrow:∀{k pl r},ρ1 k=some pl→(Mem.mk x1 m.h).row? k=some r→m.row? k=some r:=fun{k pl r} h q=>by
  obtain⟨t,b⟩:=k
  cases t
  ·exact q
  ·simp only[Mem.row?,bI.look]at q ⊢
   rcases(hb b pl h).2 with z|z
   ·rw[z]at q;exact q
   ·rw[z]at q;simp at q
 have hlive:∀{k pl},ρ1 k=some pl→(Mem.mk x1 m.h).live k→m.live k:=fun{k pl} h q=>by
  obtain⟨t,b⟩:=k
  cases t
  ·exact q
  ·simp only[Mem.live,bI.look]at q ⊢
   rcases(hb b pl h).2 with z|z
   ·rw[z]at q;exact q
   ·rw[z]at q;simp at q
 have hwr:∀{k pl},ρ1 k=some pl→(Mem.mk x1 m.h).wr k→m.wr k:=fun{k pl} h q=>by
  obtain⟨t,b⟩:=k
  cases t
  ·exact q
  ·simp only[Mem.wr,bI.look]at q ⊢
   rcases(hb b pl h).2 with z|z
   ·rw[z]at q;exact q
   ·rw[z]at q;simp at q
 refine⟨⟨fun k pl h=>I.rel.bound k pl (hback h),fun b pl h=>I.rel.cU b pl (hback h),fun k pl wr e cs h hr=>?_,fun b pl o h ho=>⟨(I.rel.obj b pl o (hback h) ho).1.mono (fun b pl q=>by rw[hf];exact q),(I.rel.obj b pl o (hback h) ho).2⟩,
  fun k k' pl pl' hne h h' hw hl=>I.rel.sep k k' pl pl' hne (hback h) (hback h') (hwr h hw) (hlive h' hl),fun i hi=>let ⟨pl,q1,q2⟩:=I.rel.gM i hi;⟨pl,by rw[hf];exact q1,q2⟩⟩,
  ⟨I.tr.os,I.tr.tape,I.tr.output,I.tr.drawn,I.tr.size,fun b pl h=>by rw[hf];exact I.tr.ext b pl h,I.tr.hn,I.tr.hg,fun b pl h h'=>I.tr.new b pl (hback h) h',I.tr.dead,I.tr.jk,I.tr.frame⟩,
  fun s pl h=>I.box s pl (hback h),I.ky⟩
 obtain⟨C,e',fz,c1,c2,c3,c4,c5,c6⟩:=I.rel.row _ _ _ _ _ (hback h) (hrow h hr)
 exact⟨C,e',fz,c1,c2,c3,c4,c5,fun i v hi=>let ⟨v',q1,q2⟩:=c6 i v hi;⟨v',q1,hmono q2⟩⟩
theorem aam {n:Nat} {pd:List eY} (hpw:pd.Pairwise fun p q=>p.i≠q.i∧p.s≠q.s) {σ:St} {a:Act} (C:gX P ρ0 h0 w0 n σ a w):uB P ρ0 h0 w0 n pd (mN pd σ) a w:=by
 obtain⟨ρ,I,F,hs,hd⟩:=C
 cases hpd:pd with
 |nil=>exact⟨ρ,I,fun i v hi=>F i v (by have h2:gA [] σ.t i=some v:=hi;simp only[gA,List.any_nil,Bool.false_eq_true,if_false]at h2;exact h2),hs,hd,by simp⟩
 |cons p0 r0=>
  rw[←hpd]
  have he:mN pd σ=⟨qX pd σ.t,⟨qY pd σ.m.x,σ.m.h⟩⟩:=by rw[hpd];rfl
  rw[he]
  refine⟨fun k=>if k.1=true∧(pd.any fun p=>p.s==k.2)=true then none else ρ k,?_,?_,hs,hd,fun p hp=>⟨?_,?_,?_⟩⟩
  ·refine I.forget (fun b=>by simp) fun s pl h=>?_
   simp only[true_and]at h
   split at h
   ·simp at h
   ·rename_i hno
    refine⟨h,.inl ?_⟩
    have:∀p∈pd,p.s≠s:=fun p hp e=>hno (List.any_eq_true.2 ⟨p,hp,by simp[e]⟩)
    simp only[qY,Kg this]
  ·intro j v hj
   simp only[Fr.get]at hj
   by_cases hex:∃p∈pd,p.s=j
   ·rw[ra hex]at hj;simp at hj
   ·have hno:∀p∈pd,p.s≠j:=fun p hp e=>hex ⟨p,hp,e⟩
    rw[mU hno]at hj
    simp only[qX,Kg hno]at hj
    cases hT:σ.t j with
    |none=>rw[hT]at hj;simp at hj
    |some u=>
     rw[hT]at hj
     simp only at hj
     obtain⟨u',q1,q2⟩:=F j u hT
     have:u=v∧∀s,fO u=some s→(pd.any fun p=>p.s==s)=false:=by
      split at hj
      ·rename_i s hs'
       split at hj
       ·simp at hj
       ·rename_i hnn;exact⟨Option.some.inj hj,fun s2 hs2=>by rw[hs']at hs2;obtain rfl:=Option.some.inj hs2;simpa using hnn⟩
      ·rename_i hnone;exact⟨Option.some.inj hj,fun s hs'=>by rw[hnone]at hs';cases hs'⟩
     obtain⟨rfl,hloc⟩:=this
     refine⟨u',q1,?_⟩
     cases q2 with
     |val _ _ q=>exact .val _ _ (q.mono fun b pl z=>by simpa using z)
     |loc s off x pl z=>
      have:=hloc s rfl
      exact .loc s off x pl (by simp only[this];simpa using z)
  ·have:(pd.any fun q=>q.s==p.s)=true:=List.any_eq_true.2 ⟨p,hp,by simp⟩
   simp[this]
  ·simp only[qY,Ki hpw hp]
  ·simp only[qX,Ki hpw hp]
end
section
variable {P:Program} {ρ0 ρ ρ':aw} {h0:aa} {w0 w:World} {m:Mem}
inductive Ex
 |normal
 |exit (n:Nat)
 |ret
def St.cut (σ:St) (cfg:au) (id:Nat):St:=⟨σ.t.prune (cfg.keep id),⟨σ.m.x.prune cfg.loc,σ.m.h⟩⟩
def qH (vb:(Ex→St→Prop)→St→Prop) (Q:Ex→St→Prop):Nat→St→Prop
 |0,_=>False
 |n+1,σ=>vb (fun e σ'=>match e with
  | .normal=>qH vb Q n σ'
  |e=>Q e σ') σ
def mz (f:St→Prop) (Q:Ex→St→Prop):Ex→St→Prop
 | .normal,σ=>f σ
 |e,σ=>Q e σ
def k8 (i:Nat) (Q:Ex→St→Prop):Ex→St→Prop
 | .exit j,σ=>if j=i then Q .normal σ else Q (.exit j) σ
 |e,σ=>Q e σ
def pG (P:Program) (loc:List Nat) (ops:Array Oper) (B:Nat→Nat→Bool) (Q:St→Prop):List (List Nat)→St→Prop
 |[],_=>True
 |pm::r,σ=>eH P loc ops B Q [] (mo ops pm) σ∧pG P loc ops B Q r σ
theorem UC {loc:List Nat} {ops:Array Oper} {B:Nat→Nat→Bool} {Q:St→Prop} {σ:St} {pm:List Nat}:∀{l:List (List Nat)},pm∈l→pG P loc ops B Q l σ→eH P loc ops B Q [] (mo ops pm) σ:=by
 intro l
 induction l with
 |nil=>intro h;simp at h
 |cons x r ih=>
  intro h q
  rcases List.mem_cons.1 h with e|e
  ·subst e;exact q.1
  ·exact ih e q.2
def vc (P:Program) (cfg:au):Code→(Ex→St→Prop)→St→Prop
 | .skip,Q,σ=>Q .normal σ
 | .region id ops false,Q,σ=>eh P cfg.loc ops (fun σ=>Q .normal (σ.cut cfg id)) ops.toList σ
 | .region id ops true,Q,σ=>pG P cfg.loc ops (cfg.draw id).B (fun σ=>Q .normal (σ.cut cfg id)) (cfg.draw id).perms (mN (jE P ops (cfg.draw id)) σ)
 | .seq a b,Q,σ=>vc P cfg a (mz (vc P cfg b Q) Q) σ
 | .cond c a b,Q,σ=>match aG σ c with
  |some (.bool t)=>if t=true then vc P cfg a Q σ else vc P cfg b Q σ
  |_=>False
 | .block i b,Q,σ=>vc P cfg b (k8 i Q) σ
 | .loop b,Q,σ=>∃n,qH (vc P cfg b) Q n σ
 | .exit i,Q,σ=>Q (.exit i) σ
 | .ret,Q,σ=>Q .ret σ
 |_,_,_=>False
def av (P:Program) (cfg:au) (n:Nat):Code→Bool
 | .region id ops draw=>ops.toList.all (fun o=>match o.dst with|some i=>decide (i<n)|none=>true)&&(!draw || yL P cfg.loc n ops (cfg.draw id))
 | .seq a b=>av P cfg n a&&av P cfg n b
 | .cond _ a b=>av P cfg n a&&av P cfg n b
 | .block _ b=>av P cfg n b
 | .loop b=>av P cfg n b
 |_=>true
theorem afE {α:Type} (T:Nat→Option α) (i:Nat):∀l:List Nat,j4 (l.map fun i=>(i,T i)) i=T i∨j4 (l.map fun i=>(i,T i)) i=none:=by
 intro l
 induction l with
 |nil=>exact .inr rfl
 |cons j r ih=>
  simp only[List.map_cons,j4]
  split
  ·rename_i h;subst h;exact .inl rfl
  ·exact ih
theorem gX.cut {n:Nat} {σ:St} {a:Act} (C:gX P ρ0 h0 w0 n σ a w) (cfg:au) (id:Nat):gX P ρ0 h0 w0 n (σ.cut cfg id) a w:=by
 obtain⟨ρ,I,F,hs,hd⟩:=C
 exact⟨ρ,I.forget (ρ1:=ρ) (x1:=σ.m.x.prune cfg.loc) (fun _=>rfl) fun s pl h=>⟨h,afE σ.m.x.look s cfg.loc⟩,F.prune _,hs,hd⟩
def QC (P:Program) (ρ0:aw) (h0:aa) (w0:World) (n:Nat) (Q:Ex→St→Prop):Exit→Act→World→Prop
 | .normal,a,w=>∃σ,Q .normal σ∧gX P ρ0 h0 w0 n σ a w
 | .exit i,a,w=>∃σ,Q (.exit i) σ∧gX P ρ0 h0 w0 n σ a w
 | .ret,a,w=>∃σ,Q .ret σ∧gX P ρ0 h0 w0 n σ a w
 |_,_,_=>False
theorem aqK {c:Code} {Z:Exit→Act→World→Prop} (J:Nat→Act→World→Prop) (hJ:∀k a w,J (k+1) a w→c.wp P (Exit.then (fun a' w'=>J k a' w') Z) a w) (h0:∀a w,¬J 0 a w):
  ∀(k:Nat) (a:Act) (w:World),J k a w→(Code.loop c).wp P Z a w:=by
 intro k a w h b kk cs
 have key:∀(k:Nat) (a:Act) (w:World),J k a w→∃e a' w',Z e a' w'∧Arrives P (lone (b.at a (.code c:: .inLoop c::kk)) cs w) b kk cs e a' w':=by
  intro k
  induction k with
  |zero=>intro a w h;exact absurd h (h0 a w)
  |succ k ih=>
   intro a w h
   obtain⟨e,a₁,w₁,hq,harr⟩:=hJ k a w h b (.inLoop c::kk) cs
   cases e with
   |normal=>
    obtain⟨e₂,a₂,w₂,hq₂,harr₂⟩:=ih a₁ w₁ hq
    exact⟨e₂,a₂,w₂,hq₂,.of_steps (Steps.trans harr (.one step_inLoop)) harr₂⟩
   |exit id=>exact⟨_,a₁,w₁,hq,.pass (x:=.inLoop c) rfl (fun _ _=>.inl (by simp)) harr⟩
   |goto l=>exact⟨_,a₁,w₁,hq,.pass (x:=.inLoop c) rfl (fun _ _=>.inl (by simp)) harr⟩
   |ret=>exact⟨_,a₁,w₁,hq,.pass (x:=.inLoop c) rfl (fun _ _=>.inl (by simp)) harr⟩
   |panic ch=>exact⟨_,a₁,w₁,hq,.pass (x:=.inLoop c) rfl (fun _ _=>.inl (by simp)) harr⟩
   |outgrown=>exact⟨_,a₁,w₁,hq,.pass (x:=.inLoop c) rfl (fun _ _=>.inl (by simp)) harr⟩
 obtain⟨e,a',w',hq,harr⟩:=key k a w h
 exact⟨e,a',w',hq,.of_steps (.one step_loop) harr⟩
theorem aqw {cfg:au} {n:Nat} (hmix:P.follows .mixedOrders=true):∀(c:Code) (Q:Ex→St→Prop) (σ:St) (a:Act) (w:World),av P cfg n c=true→vc P cfg c Q σ→gX P ρ0 h0 w0 n σ a w→
  c.wp P (QC P ρ0 h0 w0 n Q) a w:=by
 intro c
 induction c with
 |skip=>intro Q σ a w _ h C;exact wp_skip ⟨σ,h,C⟩
 |region id ops draw=>
  intro Q σ a w hok h C
  simp only[av,Bool.and_eq_true]at hok
  obtain⟨h1,h2⟩:=hok
  have hdst:∀o∈ops.toList,∀i,o.dst=some i→i<n:=fun o ho i hi=>by
   have:=List.all_eq_true.1 h1 o ho
   rw[hi]at this
   exact of_decide_eq_true this
  cases draw with
  |false=>
   refine wp_region_list (aqn (Q:=fun σ=>Q .normal (σ.cut cfg id)) (fun σ' a' w' hq hc=>⟨_,hq,hc.cut cfg id⟩) ops.toList σ a w hdst h C)
  |true=>
   simp only[Bool.not_true,Bool.false_or]at h2
   refine wp_region_draw fun t=>?_
   simp only[Region.schedule,hmix,Bool.true_or,if_true]
   obtain⟨hpw,pm,hpm,L⟩:=ZN h2 t
   refine ZO (Q:=fun σ=>Q .normal (σ.cut cfg id)) (fun σ' a' w' hq hc=>⟨_,hq,hc.cut cfg id⟩) _ (jE P ops (cfg.draw id)) (mo ops pm) [] _ a _ L (UC hpm h) ?_
   have C':gX P ρ0 h0 w0 n σ a w.drew:=let ⟨ρ,I,F,z⟩:=C;⟨ρ,I.drew,F,z⟩
   exact aam hpw C'
 |seq x y ihx ihy=>
  intro Q σ a w hok h C
  simp only[av,Bool.and_eq_true]at hok
  refine wp_seq (Code.wp_mono (fun e a' w' hq=>?_) (ihx _ σ a w hok.1 h C))
  cases e with
  |normal=>obtain⟨σ',q1,q2⟩:=hq;exact ihy Q σ' a' w' hok.2 q1 q2
  |exit i=>exact hq
  |ret=>exact hq
  |goto l=>exact hq
  |panic ch=>exact hq
  |outgrown=>exact hq
 |cond c x y ihx ihy=>
  intro Q σ a w hok h C
  simp only[av,Bool.and_eq_true]at hok
  simp only[vc]at h
  split at h
  rotate_left
  ·exact h.elim
  rename_i t ht
  obtain⟨ρ,I,F,z⟩:=C
  have hc:=(cC I F ht).bM rfl
  refine wp_cond hc ?_
  cases t with
  |true=>simp only[if_true]at h ⊢;exact ihx Q σ a w hok.1 h ⟨ρ,I,F,z⟩
  |false=>simp only[Bool.false_eq_true,if_false]at h ⊢;exact ihy Q σ a w hok.2 h ⟨ρ,I,F,z⟩
 |block i b ih=>
  intro Q σ a w hok h C
  refine wp_block (Code.wp_mono (fun e a' w' hq=>?_) (ih _ σ a w hok h C))
  cases e with
  |normal=>exact hq
  |exit j=>
   obtain⟨σ',q1,q2⟩:=hq
   simp only[k8]at q1
   simp only[Exit.inBlock]
   by_cases hj:j=i
   ·rw[if_pos hj]at q1 ⊢;exact⟨σ',q1,q2⟩
   ·rw[if_neg hj]at q1 ⊢;exact⟨σ',q1,q2⟩
  |ret=>exact hq
  |goto l=>exact hq
  |panic ch=>exact hq
  |outgrown=>exact hq
 |loop b ih=>
  intro Q σ a w hok h C
  obtain⟨k,hk⟩:=h
  refine aqK (J:=fun k a w=>∃σ,qH (vc P cfg b) Q k σ∧gX P ρ0 h0 w0 n σ a w) (fun k a w hJ=>?_) (fun a w hJ=>?_) k a w ⟨σ,hk,C⟩
  ·obtain⟨σ',q1,q2⟩:=hJ
   refine Code.wp_mono (fun e a' w' hq=>?_) (ih _ σ' a w hok q1 q2)
   cases e with
   |normal=>exact hq
   |exit j=>exact hq
   |ret=>exact hq
   |goto l=>exact hq
   |panic ch=>exact hq
   |outgrown=>exact hq
  ·obtain⟨σ',q1,_⟩:=hJ;exact q1
 |exit i=>intro Q σ a w _ h C;exact wp_exit ⟨σ,h,C⟩
 |ret=>intro Q σ a w _ h C;exact wp_ret ⟨σ,h,C⟩
 |rangeFunc f ps x y=>intro Q σ a w _ h;exact h.elim
 |scope b=>intro Q σ a w _ h;exact h.elim
 |label l=>intro Q σ a w _ h;exact h.elim
 |goto l=>intro Q σ a w _ h;exact h.elim
 |refuse s=>intro Q σ a w _ h;exact h.elim
def rM (P:Program) (σ:St):ResultVar→Option Value
 | .tmp t=>match σ.t.get t with
  |some v=>if bL v then some v else none
  |none=>none
 | .cell t ty=>match σ.t.get t with
  |some (.pointer (some ad))=>match cW P ty,cf P ty with
   |some true,some n=>match σ.m.cells ad n with
    |some l=>some (.agg ⟨l⟩)
    |none=>none
   |some false,_=>match σ.m.cells ad 1 with
    |some [v]=>some v
    |_=>none
   |_,_=>none
  |_=>none
def mr (P:Program) (σ:St):List ResultVar→Option (List Value)
 |[]=>some []
 |r::l=>match rM P σ r,mr P σ l with
  |some v,some vs=>some (v::vs)
  |_,_=>none
def kR:List Value→Value
 |[v]=>v
 |l=>.tuple ⟨l⟩
def oE (tmps:Array Value):ResultVar→Sem Value
 | .tmp t=>pure (tmps.getD t undef)
 | .cell a t=>do loadVar t (←asAddr (tmps.getD a undef))
theorem amI (fn:Func) (tmps:Array Value):results fn tmps=(do
  let vs ←fn.results.mapM (oE tmps)
  pure (if h:vs.size=1 then vs[0]else .tuple vs)):=by
 unfold results
 congr 1
theorem amF {σ:St} {r:ResultVar} {v:Value} (h:rM P σ r=some v) (I:Inv P ρ0 h0 w0 ρ σ.m w) {tmps:Array Value} (F:dE ρ σ.t tmps):
  ∃v',(oE tmps r).run P w= .ok v' w∧VR ρ v v':=by
 cases r with
 |tmp t=>
  simp only[rM]at h
  split at h
  ·rename_i u hu
   split at h
   ·rename_i hnl
    obtain rfl:=Option.some.inj h
    obtain⟨v',q1,q2⟩:=F t _ hu
    exact⟨v',by simp[oE,Array.getD_eq_getD_getElem?,q1],q2.bL hnl⟩
   ·simp at h
  ·simp at h
 |cell t ty=>
  simp only[rM]at h
  split at h
  ·rename_i ad hx
   obtain⟨v',q1,q2⟩:=F t _ hx
   obtain⟨pl,hk,hv⟩:=q2.ptr
   have hg:tmps.getD t undef= .pointer (some ⟨pl.B,pl.o+ad.off,none⟩):=by simp[Array.getD_eq_getD_getElem?,q1,hv]
   split at h
   ·rename_i n hagg hsz
    split at h
    ·rename_i l hl
     obtain rfl:=Option.some.inj h
     obtain⟨p1,l',p2,p3,p4⟩:=nU I hk hl
     have hrun:=run_loadCells_list (P:=P) w ⟨pl.B,pl.o+ad.off,none⟩ l' p4
     rw[p2]at hrun
     exact⟨.agg ⟨l'⟩,by simp[hg,asAddr,loadVar,oE,qx hagg,run_sizeOf hsz,hrun],AG (p1.trans p2.symm) p3⟩
    ·simp at h
   ·rename_i hagg
    split at h
    ·rename_i v1 hl
     obtain rfl:=Option.some.inj h
     obtain⟨p1,l',p2,p3,p4⟩:=nU I hk hl
     obtain⟨v2,e1,e2⟩:=p3 0 v1 rfl
     have hc:=p4 0 v2 e1
     rw[Addr.add_zero']at hc
     exact⟨v2,by simp[hg,asAddr,loadVar,oE,qx hagg,hc],e2⟩
    ·simp at h
   ·simp at h
  ·simp at h
theorem amG {σ:St} (I:Inv P ρ0 h0 w0 ρ σ.m w) {tmps:Array Value} (F:dE ρ σ.t tmps):∀{l:List ResultVar} {vs:List Value},mr P σ l=some vs→
  ∃vs':List Value,(l.mapM (oE tmps)).run P w= .ok vs' w∧jP ρ vs vs':=by
 intro l
 induction l with
 |nil=>intro vs h;simp only[mr,Option.some.injEq]at h;subst h;exact⟨[],rfl,rfl,by simp⟩
 |cons r l ih=>
  intro vs h
  simp only[mr]at h
  split at h
  rotate_left
  ·simp at h
  rename_i v us hv hus
  obtain rfl:=Option.some.inj h
  obtain⟨v',q1,q2⟩:=amF hv I F
  obtain⟨vs',p1,p2,p3⟩:=ih hus
  refine⟨v'::vs',?_,by simp[p2],fun i u hi=>?_⟩
  ·rw[List.mapM_cons]
   simp only[Sem.run_bind,q1,Result.andThen_ok,p1,Sem.run_pure]
  ·cases i with
   |zero=>simp at hi;subst hi;exact⟨v',rfl,q2⟩
   |succ i=>exact p3 i u (by simpa using hi)
theorem amH {vs vs':List Value} (h:jP ρ vs vs'):VR ρ (kR vs) (kR vs'):=by
 obtain⟨hl,h2⟩:=h
 match vs,vs',hl with
 |[],[],_=>exact .tuple [] [] rfl (by simp)
 |[v],[v'],_=>obtain⟨u,q1,q2⟩:=h2 0 v rfl;simp at q1;subst q1;exact q2
 |v::v2::r,v'::v2'::r',hl=>exact .tuple _ _ hl ((lT hl).2 h2)
def yP (args:List Value):Fr:=Fr.ofList (args.zipIdx.map fun p=>(p.2,some p.1))
def sL (P:Program) (rs:List ResultVar) (post:Value→aa→Prop):Ex→St→Prop
 | .exit _,_=>False
 |_,σ=>match mr P σ rs with
  |some vs=>post (kR vs) σ.m.h
  |none=>False
theorem afF (l:List Value):∀(k i:Nat) (v:Value),j4 ((l.zipIdx k).map fun p=>(p.2,some p.1)) i=some v→k≤i∧l[i-k]? =some v:=by
 induction l with
 |nil=>intro k i v h;simp[j4]at h
 |cons x r ih=>
  intro k i v h
  rw[List.zipIdx_cons,List.map_cons]at h
  simp only[j4]at h
  split at h
  ·rename_i e;subst e;simp at h;subst h;simp
  ·rename_i hne
   obtain⟨q1,q2⟩:=ih (k+1) i v h
   refine⟨by omega,?_⟩
   rw[show i-k=(i-(k+1))+1 by omega,List.getElem?_cons_succ]
   exact q2
theorem az {f:FuncId} {fn:Func} {c:Code} {cfg:au} {args:List Value} {h:aa} {post:Value→aa→Prop} (hmix:P.follows .mixedOrders=true) (hf:P.funcs[f]? =some fn) (hb:fn.body=some c)
  (hname:(fn.name== "runtime.NumGoroutine")=false) (hn:args.length≤fn.ntmps) (hok:av P cfg fn.ntmps c=true)
  (hvc:vc P cfg c (sL P fn.results.toList post) ⟨yP args,⟨bI.nil,h⟩⟩):ai P f args h post:=by
 refine⟨⟨fn,hf,by simp[hb],hname⟩,fun ρ w args' hbox R V=>?_⟩
 refine calls_of_wp hf hb ?_
 have I:=Inv.start R hbox
 have hlen:args'.length≤fn.ntmps:=by rw[←V.1];exact hn
 have C:gX P ρ h w fn.ntmps ⟨yP args,⟨bI.nil,h⟩⟩ {tmps:=(⟨args'⟩:Array Value)++Array.replicate (fn.ntmps-(⟨args'⟩:Array Value).size) undef,defers:=[]} w:=by
  refine⟨ρ,I,fun i v hi=>?_,by simp;omega,rfl⟩
  obtain⟨_,q⟩:=afF args 0 i v hi
  obtain⟨v',q1,q2⟩:=V.2 i v (by simpa using q)
  refine⟨v',?_,.val _ _ q2⟩
  have hi':i<args'.length:=by rcases Nat.lt_or_ge i args'.length with z|z;exact z;rw[List.getElem?_eq_none z]at q1;cases q1
  rw[Array.getElem?_append_left (by simpa using hi')]
  simpa using q1
 refine Code.wp_mono (fun e a' w' hq=>?_) (aqw hmix c _ _ _ w hok hvc C)
 have fin:∀σ,(match mr P σ fn.results.toList with|some vs=>post (kR vs) σ.m.h|none=>False)→gX P ρ h w fn.ntmps σ a' w'→a'.defers=[]∧∃v,(results fn a'.tmps).run P w'= .ok v w'∧
   ∃v0 v' h' ρ',Ending.returned v= .returned v'∧post v0 h'∧(∀s,ρ' (true,s)=none)∧fW P ρ' ⟨bI.nil,h'⟩ w'∧Tr ρ h w ρ' h' w'∧VR ρ' v0 v':=by
  intro σ hp ⟨ρ1,I1,F1,hs,hd⟩
  refine⟨hd,?_⟩
  split at hp
  rotate_left
  ·exact hp.elim
  rename_i vs hvs
  obtain⟨vs',q1,q2⟩:=amG I1 F1 hvs
  refine⟨kR vs',?_,kR vs,kR vs',σ.m.h,fE ρ1,rfl,hp,fun s=>zh _ s,I1.rel.fE,?_,(amH q2).fE⟩
  ·have hm:(fn.results.mapM (oE a'.tmps)).run P w'= .ok ⟨vs'⟩ w':=by
    rw[Array.mapM_eq_mapM_toList,Sem.run_map,q1];rfl
   rw[amI,Sem.run_bind,hm]
   simp only[Result.andThen_ok,Sem.run_pure]
   congr 1
   match vs' with
   |[]=>rfl
   |[v]=>rfl
   |v::v2::r=>simp[kR]
  ·have t:=I1.tr
   exact⟨t.os,t.tape,t.output,t.drawn,t.size,fun b pl q=>by rw[kC];exact t.ext b pl q,t.hn,t.hg,fun b pl q q'=>by rw[kC]at q;exact t.new b pl q q',t.dead,t.jk,t.frame⟩
 cases e with
 |normal=>obtain⟨σ,q1,q2⟩:=hq;exact fin σ q1 q2
 |ret=>obtain⟨σ,q1,q2⟩:=hq;exact fin σ q1 q2
 |exit i=>obtain⟨σ,q1,q2⟩:=hq;exact q1
 |goto l=>exact hq
 |panic ch=>exact hq.elim
 |outgrown=>exact hq.elim
end
section
variable {P:Program} {loc:List Nat} {ops:Array Oper} {cfg:au}
theorem aqo {Q Q':St→Prop} (hq:∀σ,Q σ→Q' σ):∀(l:List Oper) (σ:St),eh P loc ops Q l σ→eh P loc ops Q' l σ:=by
 intro l
 induction l with
 |nil=>intro σ h;exact hq _ h
 |cons o r ih=>
  intro σ h
  simp only[eh]at h ⊢
  split at h
  ·exact h.elim
  ·exact ih _ h
  ·split at h
   ·exact h.mono fun v h' q n=>ih _ (q n)
   ·split at h
    ·exact ih _ h
    ·exact agt (fun v σ=>ih _) h
theorem aqh {Q Q':St→Prop} {B:Nat→Nat→Bool} (hq:∀σ,Q σ→Q' σ):∀(l:List (Nat×Oper)) (hl:HL) (σ:St),eH P loc ops B Q hl l σ→eH P loc ops B Q' hl l σ:=by
 intro l
 induction l with
 |nil=>intro hl σ h;exact hq _ h
 |cons p r ih=>
  intro hl σ h
  obtain⟨i,o⟩:=p
  simp only[eH]at h ⊢
  split at h
  ·rename_i hn
   rw[if_pos hn]
   split at h
   ·exact ih _ _ h
   ·exact h.elim
  ·rename_i hn
   rw[if_neg hn]
   split at h
   ·exact h.elim
   ·exact ih _ _ h
   ·split at h
    ·exact h.mono fun v h' q n=>⟨(q n).1,ih _ _ (q n).2⟩
    ·split at h
     ·exact⟨h.1,ih _ _ h.2⟩
     ·exact h.elim
theorem Bi {Q Q':St→Prop} {B:Nat→Nat→Bool} (hq:∀σ,Q σ→Q' σ):∀(l:List (List Nat)) (σ:St),pG P loc ops B Q l σ→pG P loc ops B Q' l σ:=by
 intro l
 induction l with
 |nil=>intro σ h;exact h
 |cons x r ih=>intro σ h;exact⟨aqh hq _ _ _ h.1,ih σ h.2⟩
theorem aqi {vb:(Ex→St→Prop)→St→Prop} (hvb:∀{Q Q':Ex→St→Prop},(∀e σ,Q e σ→Q' e σ)→∀σ,vb Q σ→vb Q' σ) {Q Q':Ex→St→Prop} (hq:∀e σ,Q e σ→Q' e σ):
  ∀n σ,qH vb Q n σ→qH vb Q' n σ:=by
 intro n
 induction n with
 |zero=>intro σ h;exact h
 |succ n ih=>
  intro σ h
  refine hvb (fun e σ' h'=>?_) σ h
  cases e with
  |normal=>exact ih _ h'
  |exit i=>exact hq _ _ h'
  |ret=>exact hq _ _ h'
theorem Q8:∀(c:Code) {Q Q':Ex→St→Prop},(∀e σ,Q e σ→Q' e σ)→∀σ,vc P cfg c Q σ→vc P cfg c Q' σ:=by
 intro c
 induction c with
 |skip=>intro Q Q' hq σ h;exact hq _ _ h
 |region id ops draw=>
  intro Q Q' hq σ h
  cases draw with
  |false=>exact aqo (fun σ=>hq _ _) _ _ h
  |true=>exact Bi (fun σ=>hq _ _) _ _ h
 |seq a b iha ihb=>
  intro Q Q' hq σ h
  refine iha (fun e σ' h'=>?_) σ h
  cases e with
  |normal=>exact ihb hq _ h'
  |exit i=>exact hq _ _ h'
  |ret=>exact hq _ _ h'
 |cond c a b iha ihb=>
  intro Q Q' hq σ h
  simp only[vc]at h ⊢
  split at h
  ·rename_i t ht
   cases t with
   |true=>rw[if_pos rfl]at h ⊢;exact iha hq _ h
   |false=>rw[if_neg (by simp)]at h ⊢;exact ihb hq _ h
  ·exact h.elim
 |block i b ih=>
  intro Q Q' hq σ h
  refine ih (fun e σ' h'=>?_) σ h
  cases e with
  |normal=>exact hq _ _ h'
  |ret=>exact hq _ _ h'
  |exit j=>
   simp only[k8]at h' ⊢
   by_cases e:j=i
   ·rw[if_pos e]at h' ⊢;exact hq _ _ h'
   ·rw[if_neg e]at h' ⊢;exact hq _ _ h'
 |loop b ih=>
  intro Q Q' hq σ h
  obtain⟨n,h⟩:=h
  exact⟨n,aqi (fun hq σ h=>ih hq σ h) hq n σ h⟩
 |exit i=>intro Q Q' hq σ h;exact hq _ _ h
 |ret=>intro Q Q' hq σ h;exact hq _ _ h
 |_=>intro Q Q' hq σ h;exact h.elim
theorem bD {b:Code} {Q:Ex→St→Prop} {σ:St} (J:Nat→St→Prop) (n:Nat) (h0:J n σ)
  (step:∀k σ,J k σ→vc P cfg b (mz (fun σ'=>∃j,j<k∧J j σ') Q) σ):vc P cfg (.loop b) Q σ:=by
 refine⟨n+1,?_⟩
 have key:∀m n σ,n<m→J n σ→qH (vc P cfg b) Q m σ:=by
  intro m
  induction m with
  |zero=>intro n σ h;omega
  |succ m ih=>
   intro n σ hn hJ
   refine Q8 b (fun e σ' h'=>?_) σ (step n σ hJ)
   cases e with
   |normal=>obtain⟨j,hj,h'⟩:=h';exact ih j σ' (by omega) h'
   |exit i=>exact h'
   |ret=>exact h'
 exact key (n+1) n σ (by omega) h0
theorem aea (T:Fr) (i j:Nat) (v:Value):(T.put i v).get j=if i=j then some v else T.get j:=rfl
theorem adX (i j:Nat) (v:Option Value) (l:List (Nat×Option Value)):(Fr.ofList ((i,v)::l)).get j=if i=j then v else(Fr.ofList l).get j:=rfl
theorem get_nil (j:Nat):(Fr.ofList []).get j=none:=rfl
theorem amk (T:Fr) (l:List Nat):T.prune l=Fr.ofList (l.map fun i=>(i,T.get i)):=rfl
theorem qg (x:bI) (i j:Nat) (v:TypeId×List Value):(x.set i v).look j=if i=j then some v else x.look j:=rfl
theorem afI (i j:Nat) (v:Option (TypeId×List Value)) (l:List (Nat×Option (TypeId×List Value))):(bI.ofList ((i,v)::l)).look j=if i=j then v else(bI.ofList l).look j:=rfl
theorem afK (j:Nat):(bI.ofList []).look j=none:=rfl
theorem afL (j:Nat):bI.nil.look j=none:=rfl
theorem XP (x:bI) (l:List Nat):x.prune l=bI.ofList (l.map fun i=>(i,x.look i)):=rfl
theorem mP (h:aa) (x:aO) (b:Nat):(h.new x).f b=if b=h.n then x else h.f b:=rfl
theorem cZ (h:aa) (x:aO):(h.new x).n=h.n+1:=rfl
theorem adU (h:aa) (x:aO):(h.new x).g=h.g:=rfl
theorem eT (h:aa) (a:Nat) (x:aO) (b:Nat):(h.set a x).f b=if b=a then x else h.f b:=rfl
theorem OM (h:aa) (a:Nat) (x:aO):(h.set a x).n=h.n:=rfl
theorem adV (h:aa) (a:Nat) (x:aO):(h.set a x).g=h.g:=rfl
theorem adY (p:eY) (pd:List eY) (T:Fr) (j:Nat):(qX (p::pd) T).get j=match(p::pd).find? (fun p=>p.s==j)with
 |some p=>some (.pointer (some ⟨p.s,0,some 0⟩))
 |none=>match T.get j with
  |some v=>match fO v with
   |some s=>if(p::pd).any (fun p=>p.s==s)then none else some v
   |none=>some v
  |none=>none:=rfl
theorem afJ (p:eY) (pd:List eY) (x:bI) (j:Nat):(qY (p::pd) x).look j=match(p::pd).find? (fun p=>p.s==j)with
 |some p=>some (p.e,p.z)
 |none=>x.look j:=rfl
structure Ext (h h':aa):Prop where
 g:h'.g=h.g
 n:h.n≤h'.n
 f:∀b,b<h.n→h'.f b=h.f b
theorem Ext.bu (h:aa):Ext h h:=⟨rfl,Nat.le_refl _,fun _ _=>rfl⟩
theorem Ext.trans {h h' h'':aa} (a:Ext h h') (b:Ext h' h''):Ext h h'':=
 ⟨b.g.trans a.g,Nat.le_trans a.n b.n,fun i hi=>(b.f i (Nat.lt_of_lt_of_le hi a.n)).trans (a.f i hi)⟩
theorem Ext.new (h:aa) (x:aO):Ext h (h.new x):=⟨rfl,Nat.le_succ _,fun i hi=>by rw[mP,if_neg (by omega)]⟩
theorem Ext.bA {h h':aa} (a:Ext h h') (x:aO):Ext h (h'.new x):=a.trans (Ext.new h' x)
theorem Ext.cq {h h':aa} (a:Ext h h') {b:Nat} (hb:h.n≤b) (x:aO):Ext h (h'.set b x):=
 ⟨a.g,a.n,fun i hi=>by rw[eT,if_neg (by omega)];exact a.f i hi⟩
def B (l:List UInt8):ByteArray:=⟨⟨l⟩⟩
theorem r7 (l:List UInt8):(B l).size=l.length:=rfl
theorem RO (l:List UInt8) (i:Nat):(B l)[i]? =l[i]? :=by
 by_cases h:i<l.length
 ·rw[List.getElem?_eq_getElem h,getElem?_pos (B l) i (by simpa[r7]using h)];rfl
 ·rw[List.getElem?_eq_none (by omega),getElem?_neg (B l) i (by simpa[r7]using h)]
theorem RN (l:List UInt8) (i j:Nat):(B l).extract i j=B ((l.take j).drop i):=by
 apply ByteArray.ext
 apply Array.ext'
 simp[B,List.take_drop]
 by_cases h:i≤j
 ·rw[show i+(j-i)=j by omega]
 ·rw[List.drop_eq_nil_of_le (by simp;omega),List.drop_eq_nil_of_le (by simp;omega)]
theorem RL (l k:List UInt8):B l++B k=B (l++k):=by
 apply ByteArray.ext
 simp[B]
theorem uq (l k:List UInt8):B l=B k↔l=k:=⟨fun h=>by simpa[B]using h,fun h=>by rw[h]⟩
end
section
variable {P:Program} {loc:List Nat} {σ:St}
def Bj (k:IntKind) (a b:Int):Int:=k.wrap ((BitVec.ofInt k.bits a &&& BitVec.ofInt k.bits b).toNat:Int)
def Pn (k:IntKind) (a b:Int):Int:=k.wrap ((BitVec.ofInt k.bits a ||| BitVec.ofInt k.bits b).toNat:Int)
def Rl (k:IntKind) (a b:Int):Int:=k.wrap ((BitVec.ofInt k.bits a ^^^ BitVec.ofInt k.bits b).toNat:Int)
def OY (k:IntKind) (a b:Int):Int:=k.wrap ((BitVec.ofInt k.bits a &&& ~~~BitVec.ofInt k.bits b).toNat:Int)
def P4 (k:IntKind) (a b:Int):Int:=k.wrap (a*2 ^ (min b.toNat k.bits))
def P5 (k:IntKind) (a b:Int):Int:=a.fdiv (2 ^ (min b.toNat k.bits))
def sn (op:BinOp) (k:IntKind) (a b:Int):Option Value:=match op with
 | .and=>some (.int k (Bj k a b))
 | .or=>some (.int k (Pn k a b))
 | .xor=>some (.int k (Rl k a b))
 | .andNot=>some (.int k (OY k a b))
 | .shl=>if b<0 then none else some (.int k (P4 k a b))
 | .shr=>if b<0 then none else some (.int k (P5 k a b))
 | .add=>some (.int k (k.wrap (a+b)))
 | .sub=>some (.int k (k.wrap (a-b)))
 | .mul=>some (.int k (k.wrap (a*b)))
 | .eql=>some (.bool (decide (a=b)))
 | .neq=>some (.bool (decide (a≠b)))
 | .lss=>some (.bool (decide (a<b)))
 | .leq=>some (.bool (decide (a≤b)))
 | .gtr=>some (.bool (decide (b<a)))
 | .geq=>some (.bool (decide (b≤a)))
 | .quo=>if b=0 then none else some (.int k (k.wrap (a.tdiv b)))
 | .rem=>if b=0 then none else some (.int k (a.tmod b))
def jU (P:Program):List Field→List Value→List Value→Option Bool
 |[],_,_=>some true
 |f::fs,xs,ys=>if f.name= "_" then none else match P.underlying f.type,xs[f.offset]?,ys[f.offset]? with
  |some (.int _),some (.int k a),some (.int k' b)=>if k=k' then(jU P fs xs ys).map (decide (a=b)&&·)else none
  |some .string,some (.string a),some (.string b)=>(jU P fs xs ys).map (decide (a=b)&&·)
  |some .bool,some (.bool a),some (.bool b)=>(jU P fs xs ys).map ((a==b)&&·)
  |_,_,_=>none
def nZ (P:Program) (t:TypeId) (u v:List Value):Option Bool:=
 if P.eqGuardType P.depth t=false∧P.stoodInHeld t=false∧u.all cA=true∧v.all cA=true then match P.underlying t with
  |some (.struct fs)=>jU P fs.toList u v
  |_=>none
 else none
def sg (P:Program) (op:BinOp) (t:TypeId) (u v:List Value):Option Value:=match op with
 | .eql=>(nZ P t u v).map fun r=>.bool r
 | .neq=>(nZ P t u v).map fun r=>.bool (!r)
 |_=>none
def tZ (op:BinOp) (a b:ByteArray):Option Value:=match op with
 | .add=>if a.size+b.size≤9223372036854775807 then some (.string (a++b))else none
 | .eql=>some (.bool (decide (a=b)))
 | .neq=>some (.bool (decide (a≠b)))
 |_=>none
def sC (op:BinOp) (a b:Bool):Option Value:=match op with
 | .eql=>some (.bool (a==b))
 | .neq=>some (.bool (!(a==b)))
 |_=>none
def qQ (P:Program) (σ:St) (o:Oper) (op:BinOp) (xt:TypeId) (x y:Operand):Option (Value×St):=match jC P σ op xt x y with
 |some r=>some r
 |none=>cu P σ o
def uV (P:Program) (σ:St) (o:Oper) (op:BinOp) (xt:TypeId) (x y:Operand):Option (Value×St):=match aG σ x,aG σ y with
 |some (.agg u),some (.agg v)=>(match sg P op xt u.toList v.toList with|some v=>some (v,σ)|none=>cu P σ o)
 |some (.int k a),some (.int k' b)=>if k=k' then(match sn op k a b with|some v=>some (v,σ)|none=>cu P σ o)else cu P σ o
 |some (.string a),some (.string b)=>(match tZ op a b with|some v=>some (v,σ)|none=>cu P σ o)
 |some (.bool a),some (.bool b)=>(match P.underlying xt,sC op a b with|some .bool,some v=>some (v,σ)|_,_=>cu P σ o)
 |_,_=>qQ P σ o op xt x y
theorem mw {o:Oper} {v:Value} (aL:o.op.operands.toList.all (lq σ)=true) (hsel:rh o.op=false) (hr:(execOp (iH σ) o).aJ P=some (.value v)) (hv:bM v=true):cu P σ o=some (v,σ):=by
 simp[cu,oY,aL,hsel,hr,hv]
theorem gZ {x:Operand} {v:Value} (h:aG σ x=some v) (hv:bM v=true):lq σ x=true:=by simp[lq,h,hv]
theorem iS {x:Operand} {v:Value} (h:aG σ x=some v):iH σ x=v:=by simp[iH,h]
theorem uT (a b:ByteArray):(a.toList==b.toList)=decide (a=b):=by
 rw[ByteArray.toList_eq,ByteArray.toList_eq,Bool.eq_iff_iff]
 simp only[beq_iff_eq,decide_eq_true_eq]
 constructor
 ·intro h;apply ByteArray.ext;exact Array.ext' h
 ·intro h;rw[h]
theorem UO (a b:ByteArray):(a==b)=decide (a=b):=by rw[beq_toListBytes,uT]
theorem nk {o:Oper} {op:BinOp} {xt yt:TypeId} {x y:Operand} {u v:Value} {r:Value} (ho:o.op= .binOp op xt x y yt) (hx:aG σ x=some u) (hy:aG σ y=some v) (hu:bM u=true) (hv:bM v=true)
  (hg:(eqGuard op xt x y u v).aJ P=some ()) (hr:(binOp op xt u v).aJ P=some r) (hf:bM r=true):cu P σ o=some (r,σ):=by
 refine mw (by rw[ho];simp[Op.operands,gZ hx hu,gZ hy hv]) (by rw[ho];rfl) ?_ hf
 simp only[execOp,ho,iS hx,iS hy]
 rw[bP,bP,hg]
 simp only[Option.bind_some,hr]
 rfl
theorem aei (op:BinOp) (xt:TypeId) (x y:Operand) (k k':IntKind) (a b:Int):(eqGuard op xt x y (.int k a) (.int k' b)).aJ P=some ():=by
 unfold eqGuard;split<;>rfl
theorem aej (op:BinOp) (xt:TypeId) (x y:Operand) (a b:ByteArray):(eqGuard op xt x y (.string a) (.string b)).aJ P=some ():=by
 unfold eqGuard;split<;>rfl
theorem Br {op:BinOp} {k:IntKind} {a b:Int} {v:Value} (h:sn op k a b=some v) (xt:TypeId):(binOp op xt (.int k a) (.int k b)).aJ P=some v∧bM v=true:=by
 cases op<;>simp only[sn,Option.some.injEq,reduceCtorEq,Option.ite_none_left_eq_some]at h<;>first
  |(subst h;refine⟨?_,rfl⟩;simp[binOp,Op.intArith,Op.intCmp,Sem.aJ,pure,Bool.beq_eq_decide_eq,bne];done)
  |(obtain⟨h0,h⟩:=h;subst h;refine⟨?_,rfl⟩;simp[binOp,Op.intDiv,h0,Sem.aJ,pure];done)
  |(subst h;refine⟨?_,rfl⟩;simp[binOp,Op.intBits,Bj,Pn,Rl,OY,Sem.aJ,pure];done)
  |(obtain⟨h0,h⟩:=h;subst h;refine⟨?_,rfl⟩;simp[binOp,Op.shift,P4,P5,h0,Sem.aJ,pure];done)
theorem qo {t:TypeId} {d:TypeDesc} {cs:List Value} {off:Nat} {v:Value} (hu:P.underlying t=some d) (hd:(match d with| .struct _| .array _ _=>false|_=>true)=true) (hv:cs[off]? =some v):(part t ⟨cs⟩ off).aJ P=some v:=by
 have:(isAgg t).aJ P=some false:=by
  simp only[isAgg,bP,underlying,ml,Option.bind_some,hu]
  cases d<;>simp_all [Sem.aJ,pure]
 simp[part,bP,this,Sem.aJ,pure,hv]
theorem lN {t:TypeId} {d:TypeDesc} (h:P.underlying t=some d):(underlying t).aJ P=some d:=by
 simp[underlying,bP,ml,h,Sem.aJ,pure]
theorem J8 (d:Nat):∀(fs:List Field) (xs ys:List Value) (r:Bool),jU P fs xs ys=some r→(Op.eqFields (d+1) ⟨xs⟩ ⟨ys⟩ fs).aJ P=some r:=by
 intro fs
 induction fs with
 |nil=>intro xs ys r h;simp only[jU,Option.some.injEq]at h;subst h;rfl
 |cons f fs ih=>
  intro xs ys r h
  rw[jU]at h
  split at h
  ·simp at h
  ·rename_i hn
   rw[Op.eqFields,if_pos hn]
   split at h
   ·rename_i k0 k a k' b hu hx hy
    split at h
    ·rename_i hk;subst hk
     obtain⟨r',h1,h2⟩:=Option.map_eq_some_iff.1 h
     rw[bP,qo hu rfl hx,Option.bind_some,bP,qo hu rfl hy,Option.bind_some,bP]
     simp only[Op.equalIn,bP,lN hu,Option.bind_some,if_true,Sem.aJ,pure]
     by_cases hab:a=b
     ·subst hab;simp only[beq_self_eq_true,Bool.not_true,Bool.false_eq_true,if_false,decide_true,Bool.true_and]at h2 ⊢;rw[←h2];exact ih xs ys r' h1
     ·have e:r=false:=by rw[←h2];simp[hab]
      subst e;simp[hab,Sem.aJ]
    ·simp at h
   ·rename_i a b hu hx hy
    obtain⟨r',h1,h2⟩:=Option.map_eq_some_iff.1 h
    rw[bP,qo hu rfl hx,Option.bind_some,bP,qo hu rfl hy,Option.bind_some,bP]
    simp only[Op.equalIn,bP,lN hu,Option.bind_some,Sem.aJ,pure,UO]
    by_cases hab:a=b
    ·subst hab
     have e:r=r':=by rw[←h2];simp
     rw[e];simpa using ih xs ys r' h1
    ·have e:r=false:=by rw[←h2];simp[hab]
     subst e;simp[hab,Sem.aJ]
   ·rename_i a b hu hx hy
    obtain⟨r',h1,h2⟩:=Option.map_eq_some_iff.1 h
    rw[bP,qo hu rfl hx,Option.bind_some,bP,qo hu rfl hy,Option.bind_some,bP]
    simp only[Op.equalIn,bP,lN hu,Option.bind_some,Sem.aJ,pure]
    by_cases hab:a=b
    ·subst hab
     have e:r=r':=by rw[←h2];simp
     rw[e];simpa using ih xs ys r' h1
    ·have e:r=false:=by rw[←h2];simp[hab]
     subst e;simp[hab,Sem.aJ]
   ·simp at h
theorem Ka (d:Nat) (t:TypeId) (xs ys:Array Value) (fs:Array Field) (ht:P.underlying t=some (.struct fs)) (hp:P.stoodInHeld t=false):
  (Op.equalIn (d+1) t (.agg xs) (.agg ys)).aJ P=(Op.eqFields d xs ys fs.toList).aJ P:=by
 simp only[Op.equalIn,bP,lN ht,Option.bind_some,ml,hp,Bool.false_eq_true,if_false]
 rw[←Array.forIn_toList]
 generalize fs.toList=fs
 induction fs with
 |nil=>rfl
 |cons f fs ih=>
  simp only[List.forIn_cons,Op.eqFields]
  by_cases hn:f.name≠ "_"
  ·simp only[if_pos hn,bP]
   generalize (part f.type xs f.offset).aJ P=r1
   cases r1 with
   |none=>rfl
   |some a=>
    simp only[Option.bind_some]
    generalize (part f.type ys f.offset).aJ P=r2
    cases r2 with
    |none=>rfl
    |some b=>
     simp only[Option.bind_some]
     generalize (Op.equalIn d f.type a b).aJ P=r3
     cases r3 with
     |none=>rfl
     |some r=>
      cases r
      ·rfl
      ·simpa[bP,Sem.aJ,pure]using ih
  ·simp only[if_neg hn]
   simpa[bP,Sem.aJ,pure]using ih
theorem yQ {t:TypeId} {u v:List Value} {r:Bool} (h:nZ P t u v=some r):(∀op x y,(eqGuard op t x y (.agg ⟨u⟩) (.agg ⟨v⟩)).aJ P=some ())∧(Op.equal t (.agg ⟨u⟩) (.agg ⟨v⟩)).aJ P=some r∧u.all cA=true∧v.all cA=true:=by
 unfold nZ at h
 split at h
 rotate_left
 ·simp at h
 rename_i hc
 obtain⟨c1,c2,c3,c4⟩:=hc
 split at h
 rotate_left
 ·simp at h
 rename_i fs hu
 refine⟨fun op x y=>?_,?_,c3,c4⟩
 ·cases op<;>first|rfl|simp[eqGuard,bP,ml,c1,Sem.aJ,pure]
 ·show(Op.equalIn (9999+1) t _ _).aJ P=_
  rw[Ka 9999 t _ _ fs hu c2]
  exact J8 9998 _ _ _ _ h
theorem Uq {op:BinOp} {t:TypeId} {u v:List Value} {r:Value} (h:sg P op t u v=some r):(∀x y,(eqGuard op t x y (.agg ⟨u⟩) (.agg ⟨v⟩)).aJ P=some ())∧(binOp op t (.agg ⟨u⟩) (.agg ⟨v⟩)).aJ P=some r∧bM r=true∧u.all cA=true∧v.all cA=true:=by
 cases op<;>simp only[sg,reduceCtorEq]at h
 ·obtain⟨b,h1,rfl⟩:=Option.map_eq_some_iff.1 h
  obtain⟨q1,q2,q3,q4⟩:=yQ h1
  exact⟨q1 _,by simp[binOp,bP,q2,Sem.aJ,pure],rfl,q3,q4⟩
 ·obtain⟨b,h1,rfl⟩:=Option.map_eq_some_iff.1 h
  obtain⟨q1,q2,q3,q4⟩:=yQ h1
  exact⟨q1 _,by simp[binOp,bP,q2,Sem.aJ,pure],rfl,q3,q4⟩
theorem Qf {op:BinOp} {a b:ByteArray} {v:Value} (h:tZ op a b=some v) (xt:TypeId):(binOp op xt (.string a) (.string b)).aJ P=some v∧bM v=true:=by
 unfold tZ at h
 split at h
 ·split at h
  ·rename_i hle
   obtain rfl:=Option.some.inj h
   have:¬(((a.size+b.size:Nat):Int)>IntKind.i64.max):=by
    have:IntKind.i64.max=9223372036854775807:=by decide
    rw[this];omega
   refine⟨?_,rfl⟩
   simp only[binOp,Op.stringOp,if_neg this];rfl
  ·simp at h
 ·obtain rfl:=Option.some.inj h;refine⟨?_,rfl⟩;simp[binOp,Op.stringOp,Sem.aJ,pure,uT]
 ·obtain rfl:=Option.some.inj h;refine⟨?_,rfl⟩;simp[binOp,Op.stringOp,Sem.aJ,pure,uT]
 ·simp at h
theorem BC {op:BinOp} {a b:Bool} {v:Value} {xt:TypeId} (ht:P.underlying xt=some .bool) (h:sC op a b=some v):(binOp op xt (.bool a) (.bool b)).aJ P=some v∧bM v=true:=by
 have key:∀n,(Op.equalIn (n+1) xt (.bool a) (.bool b)).aJ P=some (a==b):=by
  intro n
  simp[Op.equalIn,bP,lN ht,Sem.aJ,pure]
 have he:(Op.equal xt (.bool a) (.bool b)).aJ P=some (a==b):=key 9999
 clear key
 cases op<;>simp only[sC,Option.some.injEq,reduceCtorEq]at h
 ·subst h
  refine⟨?_,rfl⟩
  show(do pure (.bool (←Op.equal xt (.bool a) (.bool b))):Sem Value).aJ P=_
  rw[bP,he];simp[Sem.aJ,pure,Bool.beq_eq_decide_eq]
 ·subst h
  refine⟨?_,rfl⟩
  show(do pure (.bool (!(←Op.equal xt (.bool a) (.bool b)))):Sem Value).aJ P=_
  rw[bP,he];simp[Sem.aJ,pure,Bool.beq_eq_decide_eq]
theorem aeh (op:BinOp) (xt:TypeId) (x y:Operand) (a b:Bool):(eqGuard op xt x y (.bool a) (.bool b)).aJ P=some ():=by
 unfold eqGuard;split<;>rfl
theorem an3 (d:Option Nat) (op:BinOp) (xt yt ty:TypeId) (x y:Operand) (pos:String) (aft:Array Edge) (g:Option (Nat×Bool)):
  bU P loc σ ⟨d,.binOp op xt x y yt,ty,pos,aft,g⟩=uV P σ ⟨d,.binOp op xt x y yt,ty,pos,aft,g⟩ op xt x y:=by
 show qQ P σ ⟨d,.binOp op xt x y yt,ty,pos,aft,g⟩ op xt x y=_
 have hno:∀u v,aG σ x=some u→aG σ y=some v→(∀dd,lB dd u v=none)→qQ P σ ⟨d,.binOp op xt x y yt,ty,pos,aft,g⟩ op xt x y=cu P σ ⟨d,.binOp op xt x y yt,ty,pos,aft,g⟩:=by
  intro u v hx hy hn
  unfold qQ
  have:jC P σ op xt x y=none:=by
   unfold jC
   rw[hx,hy]
   cases P.underlying xt with
   |none=>rfl
   |some dd=>simp only[hn]
  rw[this]
 unfold uV
 split
 ·rename_i u v hx hy
  rw[hno _ _ hx hy (fun dd=>by unfold lB;split<;>first|rfl|simp_all)]
  obtain⟨u⟩:=u
  obtain⟨v⟩:=v
  split
  ·rename_i r hr
   obtain⟨q1,q2,q3,q4,q5⟩:=Uq hr
   exact nk (op:=op) (xt:=xt) (yt:=yt) rfl hx hy (by simpa[bM]using q4) (by simpa[bM]using q5) (q1 _ _) q2 q3
  ·rfl
 ·rename_i k a k' b hx hy
  rw[hno _ _ hx hy (fun dd=>by unfold lB;split<;>first|rfl|simp_all)]
  split
  ·rename_i hk;subst hk
   split
   ·rename_i v hv
    exact nk (op:=op) (xt:=xt) (yt:=yt) rfl hx hy rfl rfl (aei ..) (Br hv xt).1 (Br (P:=P) hv xt).2
   ·rfl
  ·rfl
 ·rename_i a b hx hy
  rw[hno _ _ hx hy (fun dd=>by unfold lB;split<;>first|rfl|simp_all)]
  split
  ·rename_i v hv
   exact nk (op:=op) (xt:=xt) (yt:=yt) rfl hx hy rfl rfl (aej ..) (Qf hv xt).1 (Qf (P:=P) hv xt).2
  ·rfl
 ·rename_i a b hx hy
  rw[hno _ _ hx hy (fun dd=>by unfold lB;split<;>first|rfl|simp_all)]
  split
  ·rename_i v ht hv
   exact nk (op:=op) (xt:=xt) (yt:=yt) rfl hx hy rfl rfl (aeh ..) (BC ht hv).1 (BC (P:=P) ht hv).2
  ·rfl
 ·rfl
def AE (P:Program) (σ:St) (o:Oper) (op:UnOp) (x:Operand):Option (Value×St):=match op,aG σ x with
 | .neg,some (.int k a)=>some (.int k (k.wrap (0-a)),σ)
 | .not,some (.bool b)=>some (.bool (!b),σ)
 |_,_=>cu P σ o
theorem PE {o:Oper} {op:UnOp} {t:TypeId} {x:Operand} {u r:Value} (ho:o.op= .unOp op t x) (hx:aG σ x=some u) (hu:bM u=true)
  (hr:(Op.unary op u).aJ P=some r) (hf:bM r=true):cu P σ o=some (r,σ):=by
 refine mw (by rw[ho];simp[Op.operands,gZ hx hu]) (by rw[ho];rfl) ?_ hf
 simp only[execOp,ho,iS hx]
 rw[bP,hr];rfl
theorem aoC (d:Option Nat) (op:UnOp) (t ty:TypeId) (x:Operand) (pos:String) (aft:Array Edge) (g:Option (Nat×Bool)):
  bU P loc σ ⟨d,.unOp op t x,ty,pos,aft,g⟩=AE P σ ⟨d,.unOp op t x,ty,pos,aft,g⟩ op x:=by
 show cu P σ _=_
 unfold AE
 split
 ·rename_i k a hx
  exact PE (op:=.neg) rfl hx rfl rfl rfl
 ·rename_i b hx
  exact PE (op:=.not) rfl hx rfl rfl rfl
 ·rfl
def sG (P:Program) (σ:St) (o:Oper) (s t:TypeId) (x:Operand):Option (Value×St):=match P.underlying s,P.underlying t,aG σ x with
 |some _,some (.int k),some (.int _ n)=>some (.int k (k.wrap n),σ)
 |_,_,_=>cu P σ o
theorem tK {t:TypeId} {d:TypeDesc} (h:P.underlying t=some d):(underlying t).aJ P=some d:=by
 simp[underlying,bP,ml,h,Sem.aJ,pure]
theorem an8 (d:Option Nat) (s t ty:TypeId) (x:Operand) (pos:String) (aft:Array Edge) (g:Option (Nat×Bool)):
  bU P loc σ ⟨d,.convert s t x,ty,pos,aft,g⟩=match jB P σ s t x with
   |some r=>some r
   |none=>sG P σ ⟨d,.convert s t x,ty,pos,aft,g⟩ s t x:=by
 have key:cu P σ ⟨d,.convert s t x,ty,pos,aft,g⟩=sG P σ ⟨d,.convert s t x,ty,pos,aft,g⟩ s t x:=?_
 ·rw[←key];rfl
 unfold sG
 split
 ·rename_i e k k' n hs ht hx
  refine mw (by simp[Op.operands,gZ hx rfl]) rfl ?_ rfl
  simp only[execOp,iS hx,convert]
  simp only[bP,tK hs,tK ht,Option.bind_some]
  cases e<;>rfl
 ·rfl
def zi (P:Program) (σ:St) (o:Oper) (t:TypeId) (x i:Operand):Option (Value×St):=match P.underlying t,aG σ x,aG σ i with
 |some .string,some (.string s),some (.int _ n)=>if 0≤n then(match s[n.toNat]? with|some b=>some (.int .u8 b.toNat,σ)|none=>cu P σ o)else cu P σ o
 |_,_,_=>cu P σ o
theorem aof (d:Option Nat) (t ty:TypeId) (x i:Operand) (pos:String) (aft:Array Edge) (g:Option (Nat×Bool)):
  bU P loc σ ⟨d,.index t x i,ty,pos,aft,g⟩=zi P σ ⟨d,.index t x i,ty,pos,aft,g⟩ t x i:=by
 show cu P σ _=_
 unfold zi
 split
 ·rename_i s k n ht hx hi
  split
  ·rename_i hn
   split
   ·rename_i b hb
    refine mw (by simp[Op.operands,gZ hx rfl,gZ hi rfl]) rfl ?_ rfl
    simp only[execOp,iS hx,iS hi,Instr.index]
    simp only[bP,tK ht,Option.bind_some,asIntOf,Sem.aJ,pure,hn,if_true,hb]
   ·rfl
  ·rfl
 ·rfl
def Aq (P:Program) (σ:St) (o:Oper) (t:TypeId) (x:Operand) (lo hi:Option Operand):Option (Value×St):=match P.underlying t,aG σ x with
 |some .string,some (.string s)=>(match fC σ lo 0,fC σ hi s.size with
  |some l,some h=>if l≤h∧h≤s.size then some (.string (s.extract l h),σ)else cu P σ o
  |_,_=>cu P σ o)
 |some .string,_=>cu P σ o
 |_,_=>ni P σ t x lo hi
theorem qt {y n dflt:Nat} {c:BoundsCode} {i:Operand} (h:fC σ (some i) dflt=some n) (hy:n≤y):lq σ i=true∧(Instr.sliceBound (iH σ i) y c).aJ P=some n:=by
 unfold fC at h
 split at h
 ·cases ‹some i=none›
 ·rename_i j hj
  obtain rfl:=Option.some.inj hj
  split at h
  ·rename_i k z hz
   split at h
   ·rename_i h0z
    obtain rfl:=Option.some.inj h
    have hzy:z≤(y:Int):=by omega
    refine⟨gZ hz rfl,?_⟩
    simp[Instr.sliceBound,iS hz,asIntOf,h0z,hzy,bP,Sem.aJ,pure]
   ·simp at h
  ·simp at h
theorem aoA (d:Option Nat) (t ty:TypeId) (x:Operand) (lo hi:Option Operand) (pos:String) (aft:Array Edge) (g:Option (Nat×Bool)):
  bU P loc σ ⟨d,.slice t x lo hi none,ty,pos,aft,g⟩=Aq P σ ⟨d,.slice t x lo hi none,ty,pos,aft,g⟩ t x lo hi:=by
 unfold Aq
 show(match P.underlying t with|some .string=>cu P σ _|_=>ni P σ t x lo hi)=_
 split
 ·rename_i ht
  split
  ·rename_i s ht' hx
   split
   ·rename_i l h hl hh
    split
    ·rename_i hb
     refine mw ?_ rfl ?_ rfl
     ·cases lo with
      |none=>cases hi with
       |none=>simp[Op.operands,gZ hx rfl]
       |some hi=>simp[Op.operands,gZ hx rfl,(qt (P:=P) (c:=.sliceB) hh (Nat.le_refl _)).1]
      |some lo=>cases hi with
       |none=>simp[Op.operands,gZ hx rfl,(qt (P:=P) (c:=.sliceB) hl (Nat.le_refl _)).1]
       |some hi=>simp[Op.operands,gZ hx rfl,(qt (P:=P) (c:=.sliceB) hh (Nat.le_refl _)).1,(qt (P:=P) (c:=.sliceB) hl (Nat.le_refl _)).1]
     ·simp only[execOp,iS hx,Instr.sliceAt,Instr.slice]
      simp only[bP,tK ht,Option.bind_some,Instr.sliceBounds,Option.map_none]
      have e1:∀i,lo=some i→(Instr.sliceBound (iH σ i) h .sliceB).aJ P=some l:=fun i e=>by subst e;exact(qt hl hb.1).2
      have e2:∀i,hi=some i→(Instr.sliceBound (iH σ i) s.size .sliceAlen).aJ P=some h:=fun i e=>by subst e;exact(qt hh hb.2).2
      cases lo with
      |none=>
       have:l=0:=by simpa[fC]using hl.symm
       subst this
       cases hi with
       |none=>
        have:h=s.size:=by simpa[fC]using hh.symm
        subst this
        simp[bP,Sem.aJ,pure]
       |some hi=>simp[bP,Sem.aJ,pure,e2 hi rfl]
      |some lo=>cases hi with
       |none=>
        have:h=s.size:=by simpa[fC]using hh.symm
        subst this
        simp[bP,Sem.aJ,pure,e1 lo rfl]
       |some hi=>simp[bP,Sem.aJ,pure,e1 lo rfl,e2 hi rfl]
    ·rfl
   ·rfl
  ·rfl
  ·rename_i hno hne
   exact(hno ht).elim
 ·rename_i hne
  split
  ·rename_i z _;exact absurd z hne
  ·rename_i z _;exact absurd z hne
  ·rfl
def rq (P:Program) (σ:St) (o:Oper) (mx:Bool) (x y:Operand):Option (Value×St):=match aG σ x,aG σ y with
 |some (.int k a),some (.int _ b)=>some (.int k (if mx then(if a<b then b else a)else(if b<a then b else a)),σ)
 |_,_=>cu P σ o
theorem aor (d:Option Nat) (x y:Operand) (ts:Array TypeId) (ty:TypeId) (pos:String) (aft:Array Edge) (g:Option (Nat×Bool)):
  bU P loc σ ⟨d,.call ⟨.builtin .min,#[x,y],ts⟩,ty,pos,aft,g⟩=rq P σ ⟨d,.call ⟨.builtin .min,#[x,y],ts⟩,ty,pos,aft,g⟩ false x y:=by
 show cu P σ _=_
 unfold rq
 split
 ·rename_i k a k' b hx hy
  refine mw (by simp[Op.operands,Call.operands,gZ hx rfl,gZ hy rfl]) rfl ?_ rfl
  simp[execOp,resolve,invoke,builtin,iS hx,iS hy,Builtin.min_,Builtin.min2,bP,Sem.aJ,pure]
 ·rfl
theorem aoq (d:Option Nat) (x y:Operand) (ts:Array TypeId) (ty:TypeId) (pos:String) (aft:Array Edge) (g:Option (Nat×Bool)):
  bU P loc σ ⟨d,.call ⟨.builtin .max,#[x,y],ts⟩,ty,pos,aft,g⟩=rq P σ ⟨d,.call ⟨.builtin .max,#[x,y],ts⟩,ty,pos,aft,g⟩ true x y:=by
 show cu P σ _=_
 unfold rq
 split
 ·rename_i k a k' b hx hy
  refine mw (by simp[Op.operands,Call.operands,gZ hx rfl,gZ hy rfl]) rfl ?_ rfl
  simp[execOp,resolve,invoke,builtin,iS hx,iS hy,Builtin.max_,Builtin.max2,bP,Sem.aJ,pure]
 ·rfl
end
section
variable {P:Program} {loc:List Nat} {σ:St} {cfg:au} {ops:Array Oper} {Bd:Nat→Nat→Bool}
variable (d:Option Nat) (ty:TypeId) (pos:String) (aft:Array Edge) (g:Option (Nat×Bool))
theorem aos (x:Operand):bU P loc σ ⟨d,.move x,ty,pos,aft,g⟩=kN σ x:=rfl
theorem an2 (x:Operand):bU P loc σ ⟨d,.assign x,ty,pos,aft,g⟩=kN σ x:=rfl
theorem aoy (c x y:Operand):bU P loc σ ⟨d,.pick c x y,ty,pos,aft,g⟩=oQ σ c x y:=rfl
theorem aoj (t:TypeId) (x:Operand):bU P loc σ ⟨d,.load t x,ty,pos,aft,g⟩=oN P σ t x:=rfl
theorem aoB (t:TypeId) (x y:Operand):bU P loc σ ⟨d,.store t x y,ty,pos,aft,g⟩=oS P σ t x y:=rfl
theorem an1 (t:TypeId):bU P loc σ ⟨d,.alloc t,ty,pos,aft,g⟩=oF P loc σ d t:=rfl
theorem an4 (t:TypeId) (x:Operand):bU P loc σ ⟨d,.box t x,ty,pos,aft,g⟩=oG loc σ d t x:=rfl
theorem an5 (t:TypeId) (ps:Array (Nat×Operand)):bU P loc σ ⟨d,.build t ps,ty,pos,aft,g⟩=cI P σ t ps:=rfl
theorem an6 (t:TypeId) (n:Nat) (ps:Array (Nat×Operand)):bU P loc σ ⟨d,.buildSlice t n ps,ty,pos,aft,g⟩=aI P σ t n ps:=rfl
theorem aod (s:TypeId) (x:Operand) (f:Nat):bU P loc σ ⟨d,.fieldAddr s x f,ty,pos,aft,g⟩=oK P σ s x f:=rfl
theorem aoc (s:TypeId) (x:Operand) (f:Nat):bU P loc σ ⟨d,.field s x f,ty,pos,aft,g⟩=oJ P σ s x f:=rfl
theorem aog (t:TypeId) (x i:Operand):bU P loc σ ⟨d,.indexAddr t x i,ty,pos,aft,g⟩=oL P σ t x i:=rfl
theorem aob (x:Operand) (k:Nat):bU P loc σ ⟨d,.extract x k,ty,pos,aft,g⟩=oI σ x k:=rfl
theorem aom (t:TypeId) (x:Operand):bU P loc σ ⟨d,.makeInterface t x,ty,pos,aft,g⟩=mh P σ t x:=rfl
theorem aol (fn:Fn) (a b:Array Operand):bU P loc σ ⟨d,.makeFunc fn a b,ty,pos,aft,g⟩=oO σ fn a b:=rfl
theorem aov (x:Operand):bU P loc σ ⟨d,.nilCheck x,ty,pos,aft,g⟩=oP σ x:=rfl
theorem aoo (t:TypeId) (a b:Operand):bU P loc σ ⟨d,.makeSlice t a b,ty,pos,aft,g⟩=lI P σ t a b:=rfl
theorem aoz (t:TypeId) (x:Operand):bU P loc σ ⟨d,.range t x,ty,pos,aft,g⟩=(match kg P σ t x with
  |some r=>some r
  |none=>oR P σ t x):=rfl
theorem aoa (x:Operand):bU P loc σ ⟨d,.entry x,ty,pos,aft,g⟩=oH σ x:=rfl
theorem aou (x:Operand):bU P loc σ ⟨d,.next x false,ty,pos,aft,g⟩=none:=rfl
theorem aot (x:Operand):bU P loc σ ⟨d,.next x true,ty,pos,aft,g⟩=nh σ x:=rfl
theorem aoi (x:Operand) (t:TypeId):bU P loc σ ⟨d,.call ⟨.builtin .len,#[x],#[t]⟩,ty,pos,aft,g⟩=oM P σ t x:=rfl
theorem step_append (s x:Operand) (t u:TypeId):bU P loc σ ⟨d,.call ⟨.builtin .append,#[s,x],#[t,u]⟩,ty,pos,aft,g⟩=cB P σ t u s x:=rfl
theorem an7 (x:Operand) (t:TypeId):bU P loc σ ⟨d,.call ⟨.builtin .clear,#[x],#[t]⟩,ty,pos,aft,g⟩=lF P σ t x:=rfl
theorem an9 (s x:Operand) (t u:TypeId):bU P loc σ ⟨d,.call ⟨.builtin .copy,#[s,x],#[t,u]⟩,ty,pos,aft,g⟩=lG P σ t s x:=rfl
theorem Y0 (f:Operand) (aS:Array Operand) (ts:Array TypeId):cN σ ⟨d,.call ⟨.value f,aS,ts⟩,ty,pos,aft,g⟩=(match aG σ f,aS.toList.mapM (aG σ)with
  |some (.func (.func fid) first cap),some l=>if l.all bL then some (fid,first.toList++l++cap.toList)else none
  |_,_=>none):=rfl
theorem YC (b:Builtin) (aS:Array Operand) (ts:Array TypeId):cN σ ⟨d,.call ⟨.builtin b,aS,ts⟩,ty,pos,aft,g⟩=none:=rfl
theorem YS (x:Operand):cN σ ⟨d,.move x,ty,pos,aft,g⟩=none:=rfl
theorem Yx (x:Operand):cN σ ⟨d,.assign x,ty,pos,aft,g⟩=none:=rfl
theorem YV (c x y:Operand):cN σ ⟨d,.pick c x y,ty,pos,aft,g⟩=none:=rfl
theorem YL (t:TypeId) (x:Operand):cN σ ⟨d,.load t x,ty,pos,aft,g⟩=none:=rfl
theorem YY (t:TypeId) (x y:Operand):cN σ ⟨d,.store t x y,ty,pos,aft,g⟩=none:=rfl
theorem Yw (t:TypeId):cN σ ⟨d,.alloc t,ty,pos,aft,g⟩=none:=rfl
theorem Yz (t:TypeId) (x:Operand):cN σ ⟨d,.box t x,ty,pos,aft,g⟩=none:=rfl
theorem YA (t:TypeId) (ps:Array (Nat×Operand)):cN σ ⟨d,.build t ps,ty,pos,aft,g⟩=none:=rfl
theorem YB (t:TypeId) (n:Nat) (ps:Array (Nat×Operand)):cN σ ⟨d,.buildSlice t n ps,ty,pos,aft,g⟩=none:=rfl
theorem YH (s:TypeId) (x:Operand) (f:Nat):cN σ ⟨d,.fieldAddr s x f,ty,pos,aft,g⟩=none:=rfl
theorem YG (s:TypeId) (x:Operand) (f:Nat):cN σ ⟨d,.field s x f,ty,pos,aft,g⟩=none:=rfl
theorem YJ (t:TypeId) (x i:Operand):cN σ ⟨d,.indexAddr t x i,ty,pos,aft,g⟩=none:=rfl
theorem YI (t:TypeId) (x i:Operand):cN σ ⟨d,.index t x i,ty,pos,aft,g⟩=none:=rfl
theorem YF (x:Operand) (k:Nat):cN σ ⟨d,.extract x k,ty,pos,aft,g⟩=none:=rfl
theorem YO (t:TypeId) (x:Operand):cN σ ⟨d,.makeInterface t x,ty,pos,aft,g⟩=none:=rfl
theorem YN (fn:Fn) (a b:Array Operand):cN σ ⟨d,.makeFunc fn a b,ty,pos,aft,g⟩=none:=rfl
theorem YU (x:Operand):cN σ ⟨d,.nilCheck x,ty,pos,aft,g⟩=none:=rfl
theorem YQ (t:TypeId) (a b:Operand):cN σ ⟨d,.makeSlice t a b,ty,pos,aft,g⟩=none:=rfl
theorem YW (t:TypeId) (x:Operand):cN σ ⟨d,.range t x,ty,pos,aft,g⟩=none:=rfl
theorem YE (x:Operand):cN σ ⟨d,.entry x,ty,pos,aft,g⟩=none:=rfl
theorem YT (x:Operand) (b:Bool):cN σ ⟨d,.next x b,ty,pos,aft,g⟩=none:=rfl
theorem Yy (op:BinOp) (s t:TypeId) (x y:Operand):cN σ ⟨d,.binOp op s x y t,ty,pos,aft,g⟩=none:=rfl
theorem YZ (op:UnOp) (t:TypeId) (x:Operand):cN σ ⟨d,.unOp op t x,ty,pos,aft,g⟩=none:=rfl
theorem YD (s t:TypeId) (x:Operand):cN σ ⟨d,.convert s t x,ty,pos,aft,g⟩=none:=rfl
theorem YX (t:TypeId) (x:Operand) (a b c:Option Operand):cN σ ⟨d,.slice t x a b c,ty,pos,aft,g⟩=none:=rfl
theorem aqB (T:Fr) (dd:Option Nat) (o:Op):dU ops T ⟨dd,o,ty,pos,aft,none⟩=some true:=rfl
theorem aqC (T:Fr) (dd:Option Nat) (o:Op) (j:Nat) (w:Bool):dU ops T ⟨dd,o,ty,pos,aft,some (j,w)⟩=(match(ops[j]?).bind (·.dst)with
  |some d=>match T.get d with
   |some (.bool b)=>some (b==w)
   |some _=>some false
   |none=>none
  |none=>some false):=rfl
def o0 (Q:Ex→St→Prop) (cfg:au) (id:Nat) (σ:St):Prop:=Q .normal (σ.cut cfg id)
theorem amA {Q:Ex→St→Prop} (id:Nat):o0 Q cfg id σ=Q .normal (σ.cut cfg id):=rfl
def jQ (P:Program) (cfg:au) (a b:Code) (Q:Ex→St→Prop) (σ:St) (t:Bool):Prop:=if t=true then vc P cfg a Q σ else vc P cfg b Q σ
theorem yJ {Q:Ex→St→Prop} (a b:Code):jQ P cfg a b Q σ true=vc P cfg a Q σ:=rfl
theorem FW {Q:Ex→St→Prop} (a b:Code):jQ P cfg a b Q σ false=vc P cfg b Q σ:=rfl
theorem bB {Q:Ex→St→Prop} {a b:Code} {t:Bool} (h1:t=true→jQ P cfg a b Q σ true) (h2:t=false→jQ P cfg a b Q σ false):jQ P cfg a b Q σ t:=by
 cases t
 ·exact h2 rfl
 ·exact h1 rfl
def ae (P:Program) (loc:List Nat) (ops:Array Oper) (Q:St→Prop) (r:List Oper) (d:Option Nat) (σ:St) (v:Value) (h':aa):Prop:=
 mC σ.m.h v h'→eh P loc ops Q r (St.bN ⟨σ.t,⟨σ.m.x,h'⟩⟩ d v)
theorem Yv {Q:St→Prop} {r:List Oper} {d:Option Nat} {v:Value} {h':aa}:ae P loc ops Q r d σ v h'=(mC σ.m.h v h'→eh P loc ops Q r (St.bN ⟨σ.t,⟨σ.m.x,h'⟩⟩ d v)):=rfl
def pW (P:Program) (loc:List Nat) (ops:Array Oper) (Q:St→Prop) (d:Option Nat) (o:Op) (ty:TypeId) (pos:String) (aft:Array Edge) (r:List Oper) (σ:St) (w:Bool):Prop:=
 if w=true then eh P loc ops Q (⟨d,o,ty,pos,aft,none⟩::r) σ else eh P loc ops Q r (σ.bN d undef)
theorem KD {Q:St→Prop} (d:Option Nat) (o:Op) (ty:TypeId) (pos:String) (aft:Array Edge) (r:List Oper):pW P loc ops Q d o ty pos aft r σ true=eh P loc ops Q (⟨d,o,ty,pos,aft,none⟩::r) σ:=rfl
theorem KC {Q:St→Prop} (d:Option Nat) (o:Op) (ty:TypeId) (pos:String) (aft:Array Edge) (r:List Oper):pW P loc ops Q d o ty pos aft r σ false=eh P loc ops Q r (σ.bN d undef):=rfl
theorem zf {Q:St→Prop} {d:Option Nat} {o:Op} {ty:TypeId} {pos:String} {aft:Array Edge} {r:List Oper} {w:Bool}
  (h1:w=true→pW P loc ops Q d o ty pos aft r σ true) (h2:w=false→pW P loc ops Q d o ty pos aft r σ false):pW P loc ops Q d o ty pos aft r σ w:=by
 cases w
 ·exact h2 rfl
 ·exact h1 rfl
theorem Q7 {Q:Ex→St→Prop}:vc P cfg .skip Q σ=Q .normal σ:=rfl
theorem aqu {Q:Ex→St→Prop} (id:Nat) (l:List Oper):vc P cfg (.region id l.toArray false) Q σ=eh P cfg.loc l.toArray (o0 Q cfg id) l σ:=rfl
theorem AF {Q:Ex→St→Prop} (a b:Code):vc P cfg (.seq a b) Q σ=vc P cfg a (mz (vc P cfg b Q) Q) σ:=rfl
theorem aqr {Q:Ex→St→Prop} (c:Operand) (a b:Code):vc P cfg (.cond c a b) Q σ=(match aG σ c with
  |some (.bool t)=>jQ P cfg a b Q σ t
  |_=>False):=rfl
theorem Q4 {Q:Ex→St→Prop} (i:Nat) (b:Code):vc P cfg (.block i b) Q σ=vc P cfg b (k8 i Q) σ:=rfl
theorem aqs {Q:Ex→St→Prop} (i:Nat):vc P cfg (.exit i) Q σ=Q (.exit i) σ:=rfl
theorem aqv {Q:Ex→St→Prop}:vc P cfg .ret Q σ=Q .ret σ:=rfl
theorem Qk {f:St→Prop} {Q:Ex→St→Prop}:mz f Q .normal σ=f σ:=rfl
theorem apB {f:St→Prop} {Q:Ex→St→Prop} (i:Nat):mz f Q (.exit i) σ=Q (.exit i) σ:=rfl
theorem apC {f:St→Prop} {Q:Ex→St→Prop}:mz f Q .ret σ=Q .ret σ:=rfl
theorem UW {Q:Ex→St→Prop} (i:Nat):k8 i Q .normal σ=Q .normal σ:=rfl
theorem UU {Q:Ex→St→Prop} (i j:Nat):k8 i Q (.exit j) σ=if j=i then Q .normal σ else Q (.exit j) σ:=rfl
theorem UX {Q:Ex→St→Prop} (i:Nat):k8 i Q .ret σ=Q .ret σ:=rfl
theorem aaj (rs:List ResultVar) (post:Value→aa→Prop):sL P rs post .ret σ=(match mr P σ rs with
 |some vs=>post (kR vs) σ.m.h
 |none=>False):=rfl
theorem aai (rs:List ResultVar) (post:Value→aa→Prop):sL P rs post .normal σ=(match mr P σ rs with
 |some vs=>post (kR vs) σ.m.h
 |none=>False):=rfl
theorem afR {f:Operand→Option Value}:List.mapM f []=some []:=rfl
theorem afQ {f:Operand→Option Value} (x:Operand) (l:List Operand):List.mapM f (x::l)=match f x,List.mapM f l with|some v,some r=>some (v::r)|_,_=>none:=by
 rw[List.mapM_cons]
 cases f x with
 |none=>rfl
 |some v=>cases List.mapM f l<;>rfl
theorem aqm {Q:St→Prop}:eh P loc ops Q [] σ=Q σ:=rfl
def OW (P:Program) (loc:List Nat) (ops:Array Oper) (Q:St→Prop) (r:List Oper) (d:Option Nat) (o:Op) (ty:TypeId) (pos:String) (aft:Array Edge) (σ:St):Prop:=
 lA σ ⟨d,o,ty,pos,aft,none⟩ fun v σ'=>eh P loc ops Q r (σ'.bN d v)
theorem aqk {Q:St→Prop} (d:Option Nat) (o:Op) (ty:TypeId) (pos:String) (aft:Array Edge) (r:List Oper):eh P loc ops Q (⟨d,o,ty,pos,aft,none⟩::r) σ=(match cN σ ⟨d,o,ty,pos,aft,none⟩with
   |some (f,args)=>ai P f args σ.m.h (ae P loc ops Q r d σ)
   |none=>match bU P loc σ ⟨d,o,ty,pos,aft,none⟩with
    |some (v,σ')=>eh P loc ops Q r (σ'.bN d v)
    |none=>OW P loc ops Q r d o ty pos aft σ):=rfl
theorem aql {Q:St→Prop} (d:Option Nat) (o:Op) (ty:TypeId) (pos:String) (aft:Array Edge) (g:Nat×Bool) (r:List Oper):eh P loc ops Q (⟨d,o,ty,pos,aft,some g⟩::r) σ=(match dU ops σ.t ⟨d,o,ty,pos,aft,some g⟩with
  |none=>False
  |some w=>pW P loc ops Q d o ty pos aft r σ w):=by
 rw[eh]
 cases dU ops σ.t ⟨d,o,ty,pos,aft,some g⟩with
 |none=>rfl
 |some w=>cases w<;>rfl
def gD (dd:Oper):List Oper→Nat→Oper
 |[],_=>dd
 |a::_,0=>a
 |_::l,n+1=>gD dd l n
theorem afr (dd a:Oper) (l:List Oper):gD dd (a::l) 0=a:=rfl
theorem Ol (dd a:Oper) (l:List Oper) (n:Nat):gD dd (a::l) (n+1)=gD dd l n:=rfl
theorem afs (dd:Oper) (l:List Oper) (n:Nat):(l.toArray).getD n dd=gD dd l n:=by
 induction l generalizing n with
 |nil=>rfl
 |cons a l ih=>cases n with
  |zero=>rfl
  |succ n=>rw[Ol,←ih];simp[Array.getD_eq_getD_getElem?]
def jg (P:Program) (loc:List Nat) (l:List Oper) (Bd:Nat→Nat→Bool) (Q:St→Prop) (hl:HL) (perm:List Nat) (σ:St):Prop:=
 eH P loc l.toArray Bd Q hl (perm.map fun i=>(i,gD default l i)) σ
def aC (P:Program) (loc:List Nat) (l:List Oper) (Bd:Nat→Nat→Bool) (Q:St→Prop) (hl:HL) (i:Nat) (r:List Nat) (d:Option Nat) (σ:St) (v:Value) (h':aa):Prop:=
 mC σ.m.h v h'→kc Bd i hl ⟨σ.m.x,h'⟩∧jg P loc l Bd Q hl r (St.bN ⟨σ.t,⟨σ.m.x,h'⟩⟩ d v)
theorem Yu {l:List Oper} {Q:St→Prop} {hl:HL} {i:Nat} {r:List Nat} {d:Option Nat} {v:Value} {h':aa}:aC P loc l Bd Q hl i r d σ v h'=(mC σ.m.h v h'→kc Bd i hl ⟨σ.m.x,h'⟩∧jg P loc l Bd Q hl r (St.bN ⟨σ.t,⟨σ.m.x,h'⟩⟩ d v)):=rfl
def pk (P:Program) (loc:List Nat) (l:List Oper) (Bd:Nat→Nat→Bool) (Q:St→Prop) (hl:HL) (i:Nat) (r:List Nat) (d:Option Nat) (o:Op) (ty:TypeId) (pos:String) (aft:Array Edge) (g:Option (Nat×Bool)) (σ:St) (w:Bool):Prop:=
 if w=true then(if dj P o then(match bU P loc σ ⟨d,o,ty,pos,aft,g⟩with
    |some (v,_)=>jg P loc l Bd Q (if lZ o then(i,gO P loc σ.t ⟨d,o,ty,pos,aft,g⟩,v)::hl else hl) r (σ.bN d v)
    |none=>False)
   else match cN σ ⟨d,o,ty,pos,aft,g⟩with
   |some (f,args)=>ai P f args σ.m.h (aC P loc l Bd Q hl i r d σ)
   |none=>match bU P loc σ ⟨d,o,ty,pos,aft,g⟩with
    |some (v,σ')=>kc Bd i hl σ'.m∧jg P loc l Bd Q hl r (σ'.bN d v)
    |none=>False)else jg P loc l Bd Q hl r (σ.bN d undef)
def uj (P:Program) (loc:List Nat) (l:List Oper) (Bd:Nat→Nat→Bool) (Q:St→Prop) (hl:HL) (i:Nat) (r:List Nat) (o:Oper) (σ:St):Prop:=
 match dU l.toArray σ.t o with
  |none=>False
  |some w=>pk P loc l Bd Q hl i r o.dst o.op o.type o.pos o.after o.guard σ w
theorem aqp {l:List Oper} {Q:St→Prop} {hl:HL}:jg P loc l Bd Q hl [] σ=Q σ:=rfl
theorem Q1 {l:List Oper} {Q:St→Prop} {hl:HL} (i:Nat) (r:List Nat):jg P loc l Bd Q hl (i::r) σ=uj P loc l Bd Q hl i r (gD default l i) σ:=by
 rw[jg,List.map_cons,eH,uj]
 generalize gD default l i=o
 cases hw:dU l.toArray σ.t o with
 |none=>cases hn:dj P o.op<;>simp[fM,hw]
 |some w=>cases w with
  |false=>cases hn:dj P o.op with
   |true=>simp only[fM,hw,if_true];rfl
   |false=>simp only[Bool.false_eq_true,if_false];rfl
  |true=>cases hn:dj P o.op with
   |true=>
    simp only[fM,hw,if_true,lR,pk,hn]
    cases hs:bU P loc σ o with
    |none=>rfl
    |some p=>rfl
   |false=>simp only[Bool.false_eq_true,if_false,pk,hn];rfl
section
variable {l:List Oper} {Q:St→Prop} {hl:HL} {i:Nat} {r:List Nat} (d:Option Nat) (o:Op) (ty:TypeId) (pos:String) (aft:Array Edge)
theorem aqj (g:Option (Nat×Bool)):uj P loc l Bd Q hl i r ⟨d,o,ty,pos,aft,g⟩ σ=(match dU l.toArray σ.t ⟨d,o,ty,pos,aft,g⟩with
  |none=>False
  |some w=>pk P loc l Bd Q hl i r d o ty pos aft g σ w):=rfl
theorem Q3 (g:Option (Nat×Bool)):pk P loc l Bd Q hl i r d o ty pos aft g σ true=(if dj P o then(match bU P loc σ ⟨d,o,ty,pos,aft,g⟩with
    |some (v,_)=>jg P loc l Bd Q (if lZ o then(i,gO P loc σ.t ⟨d,o,ty,pos,aft,g⟩,v)::hl else hl) r (σ.bN d v)
    |none=>False)
   else match cN σ ⟨d,o,ty,pos,aft,g⟩with
   |some (f,args)=>ai P f args σ.m.h (aC P loc l Bd Q hl i r d σ)
   |none=>match bU P loc σ ⟨d,o,ty,pos,aft,g⟩with
    |some (v,σ')=>kc Bd i hl σ'.m∧jg P loc l Bd Q hl r (σ'.bN d v)
    |none=>False):=rfl
theorem Q2 (g:Option (Nat×Bool)):pk P loc l Bd Q hl i r d o ty pos aft g σ false=jg P loc l Bd Q hl r (σ.bN d undef):=rfl
end
theorem Zc {o:Oper} (h:dj P o.op=true):cN σ o=none:=by
 obtain⟨d,op,ty,pos,aft,g⟩:=o
 unfold cN
 split
 ·rename_i f aS ts e
  simp only at e h
  subst e
  simp[dj]at h
 ·rfl
theorem agr {o:Oper} {K:Value→St→Prop} (h:dj P o.op=true):lA σ o K=False:=by
 unfold lA
 split
 ·rename_i p hp
  rw[(OV hp).1]at h
  simp[dj]at h
 ·rfl
theorem aqq {l:List Oper} {Q:St→Prop}:∀(perm:List Nat) (hl:HL) (σ:St),perm.all (fun i=>dj P (gD default l i).op)=true→jg P loc l Bd Q hl perm σ=eh P loc l.toArray Q (perm.map (gD default l)) σ:=by
 intro perm
 induction perm with
 |nil=>intro hl σ _;rfl
 |cons i r ih=>
  intro hl σ h
  rw[List.all_cons,Bool.and_eq_true]at h
  obtain⟨h1,h2⟩:=h
  rw[Q1,List.map_cons,uj,eh]
  generalize gD default l i=o at h1
  cases hw:dU l.toArray σ.t o with
  |none=>rfl
  |some w=>cases w with
   |false=>exact ih _ _ h2
   |true=>
    simp only[pk,h1,if_true,Zc h1]
    cases hs:bU P loc σ o with
    |none=>rw[agr h1]
    |some p=>
     obtain⟨v,σ'⟩:=p
     have:=rU h1 hs
     subst this
     exact ih _ _ h2
def rF (P:Program) (loc:List Nat) (l:List Oper) (Bd:Nat→Nat→Bool) (Q:St→Prop) (pm:List Nat) (σ:St):Prop:=
 if pm.all (fun i=>dj P (gD default l i).op)=true then eh P loc l.toArray Q (pm.map (gD default l)) σ else jg P loc l Bd Q [] pm σ
theorem Po {l:List Oper} {Q:St→Prop} {pm:List Nat}:rF P loc l Bd Q pm σ=if pm.all (fun i=>dj P (gD default l i).op)=true then eh P loc l.toArray Q (pm.map (gD default l)) σ else jg P loc l Bd Q [] pm σ:=rfl
theorem alq {l:List Oper} {Q:St→Prop} {pm:List Nat}:rF P loc l Bd Q pm σ=eH P loc l.toArray Bd Q [] (mo l.toArray pm) σ:=by
 have e:mo l.toArray pm=pm.map fun i=>(i,gD default l i):=by simp only[mo,afs]
 rw[rF,e]
 split
 ·rename_i h;exact(aqq _ _ _ h).symm
 ·rfl
def lW (P:Program) (loc:List Nat) (l:List Oper) (Bd:Nat→Nat→Bool) (Q:St→Prop) (pms:List (List Nat)) (σ:St):Prop:=pG P loc l.toArray Bd Q pms σ
theorem qN {l:List Oper} {Q:St→Prop}:lW P loc l Bd Q [] σ=True:=rfl
theorem gv {l:List Oper} {Q:St→Prop} {pm:List Nat} {r:List (List Nat)}:lW P loc l Bd Q (pm::r) σ=(rF P loc l Bd Q pm σ∧lW P loc l Bd Q r σ):=by
 rw[alq];rfl
theorem UD {l:List Oper} {Q Q':St→Prop} {pms:List (List Nat)} (hq:∀σ,Q σ→Q' σ) (h:lW P loc l Bd Q pms σ):lW P loc l Bd Q' pms σ:=Bi hq _ _ h
theorem si {l:List Oper} {Q:Ex→St→Prop} {id:Nat} {pms:List (List Nat)} (M:St→Prop) (h1:lW P loc l Bd (fun σ=>M (σ.cut cfg id)) pms σ) (h2:∀σ',M σ'→Q .normal σ'):lW P loc l Bd (o0 Q cfg id) pms σ:=
 UD (fun _ h=>h2 _ h) h1
theorem Q6 {Q:Ex→St→Prop} (id:Nat) (l:List Oper):vc P cfg (.region id l.toArray true) Q σ=match(cfg.draw id).alts with
  |[]=>rF P cfg.loc l (cfg.draw id).B (o0 Q cfg id) (cfg.draw id).perm (mN (jE P l.toArray (cfg.draw id)) σ)
  |a::r=>lW P cfg.loc l (cfg.draw id).B (o0 Q cfg id) ((cfg.draw id).perm::a::r) (mN (jE P l.toArray (cfg.draw id)) σ):=by
 have e:vc P cfg (.region id l.toArray true) Q σ=lW P cfg.loc l (cfg.draw id).B (o0 Q cfg id) ((cfg.draw id).perm::(cfg.draw id).alts) (mN (jE P l.toArray (cfg.draw id)) σ):=rfl
 rw[e]
 cases (cfg.draw id).alts with
 |nil=>rw[gv,qN,and_true]
 |cons a r=>rfl
theorem akI {i:Nat} {M:Mem}:kc Bd i [] M=True:=by simp[kc]
theorem akH {i j:Nat} {f:Mem→Option Value} {v:Value} {hl:HL} {M:Mem}:kc Bd i ((j,f,v)::hl) M=((Bd i j=false→f M=some v)∧kc Bd i hl M):=by simp[kc]
theorem adT {T:Fr} {o:Oper} {M:Mem}:gO P loc T o M=(bU P loc ⟨T,M⟩ o).map (·.1):=rfl
theorem alp (i:Nat):aG σ (.tmp i)=σ.t.get i:=rfl
theorem aln (v:Value):aG σ (.const v)=if cA v then some v else none:=rfl
theorem alo (f:FuncId):aG σ (.func f)=some (.func (.func f) #[] #[]):=rfl
theorem RQ (l:List UInt8):(⟨⟨l⟩⟩:ByteArray)=B l:=rfl
theorem gp {x:Int} (h:0≤x∧x≤18446744073709551615):IntKind.wrap .u64 x=x:=by
 have e:IntKind.wrap .u64 x=x % 18446744073709551616:=by simp[IntKind.wrap,IntKind.bits,IntKind.signed]
 rw[e];omega
theorem Qn (x:Int):IntKind.wrap .u64 x=x % 18446744073709551616:=by simp[IntKind.wrap,IntKind.bits,IntKind.signed]
theorem aA {x:Int} (h: -9223372036854775808≤x∧x≤9223372036854775807):IntKind.wrap .i64 x=x:=by
 have e:IntKind.wrap .i64 x=if(x % 18446744073709551616:Int)≥9223372036854775808 then x % 18446744073709551616-18446744073709551616 else x % 18446744073709551616:=by
  simp[IntKind.wrap,IntKind.bits,IntKind.signed]
 rw[e];split<;>omega
end
attribute [simp] aos an2 aoy aoj aoB an1 an4 an5 an6 aod aoc aog aob aom aol aov aoo aoz aoa aou aot aoi step_append an9 an7 jB lG
 an3 aoC an8 aof aoA aor aoq mh
 Y0 YC YS Yx YV YL YY Yw Yz YA YB YH YG YJ YI YF YO YN YU YQ YW YE YT Yy YZ YD YX
 aqB aqC afR afQ akI akH adT dj lZ jE kG ao.B alp aln alo RQ
 aea adX get_nil qg afI afK afL mP cZ adU eT OM adV
 r7 RO RN RL uq
attribute [simp ↓] Q7 aqu Q6 Po AF aqr Q4 aqs aqv Qk apB apC UW UU UX aaj aai amA yJ FW KD KC Yv Yu Q3 Q2 aqm aqk aql aqp Q1 aqj afr Ol
attribute [simp] yJ FW KD KC Q3 Q2
attribute [simp] Fr.KA tS adY afJ mN cz dZ tE oP
attribute [simp] sg nZ jU Value.cells undef kN oQ oN oS oF oG St.newVar oK oJ oL oI oO oM ni fC uV qQ jC lB sC sn tZ AE sG zi Aq rq St.bN St.cut mr rM kR yP amk XP bL fO cA bM Mem.cells Mem.row? Mem.setRow key kb iC Aw one Value.oneCell'
end Go.Am
namespace Go.Am
open Go Go.RowKit
def qJ (w:World) (a:Option Addr) (len cap:Nat) (zs:List Int):Prop:=
 (a=none∧len=0∧cap=0∧zs=[])∨
 ∃x,a=some x∧len≤cap∧zs.length=cap∧(∀i,i<zs.length→w.cell? (x.add i)=some (.int .i64 (zs.getD i 0)))
def nr:aw:=fun _=>none
def h0:aa:=⟨1,0,fun _=>.dead⟩
def h1 (zs:List Int):aa:=⟨1,0,fun b=>if b=0 then .row false 3 (zs.map (Value.int .i64))else .dead⟩
theorem agh (P:Program) (w:World) (h:aa) (hg:h.g=0):fW P nr ⟨bI.nil,h⟩ w:=
 ⟨fun k pl e=>by simp[nr]at e,fun b pl e=>by simp[nr]at e,fun k pl wr e cs q=>by simp[nr]at q,fun b pl o q=>by simp[nr]at q,
  fun k k' pl pl' _ q=>by simp[nr]at q,fun i hi=>by rw[show(⟨bI.nil,h⟩:Mem).h.g=0 from hg]at hi;exact absurd hi (by omega)⟩
theorem add_add (x:Addr) (i:Nat):(x.add i).block=x.block:=by unfold Addr.add;split<;>rfl
end Go.Am
namespace Go.Am
open Go
section
variable {α:Type}
def cm (e:TypeId) (enc:α→List Value) (h:aa) (v:Value) (xs:List α):Prop:=∃ad c,v= .slice ad xs.length c∧(ad=none→c=0)∧
 (xs=[]∨∃b off w cells rest,ad=some ⟨b,off,none⟩∧h.f b= .row w e cells∧cells.drop off=xs.flatMap enc++rest∧off≤cells.length∧b<h.n)
def bS (e:TypeId) (enc:α→List Value) (h0 h:aa) (v:Value) (xs:List α):Prop:=∃ad,v= .slice ad xs.length xs.length∧
 ((ad=none∧xs=[])∨∃b,ad=some ⟨b,0,none⟩∧h.f b= .row true e (xs.flatMap enc)∧h0.n≤b∧b<h.n)
variable {e:TypeId} {enc:α→List Value} {h0 h h':aa} {v:Value} {xs:List α}
theorem cm.nil:cm e enc h (.slice none 0 0) []:=⟨none,0,rfl,fun _=>rfl,.inl rfl⟩
theorem cm.shape (H:cm e enc h v xs):∃ad c,v= .slice ad xs.length c:=by obtain⟨ad,c,q,_⟩:=H;exact⟨ad,c,q⟩
theorem cm.ext (H:cm e enc h v xs) (E:Ext h h'):cm e enc h' v xs:=by
 obtain⟨ad,c,q,n,z⟩:=H
 refine⟨ad,c,q,n,?_⟩
 rcases z with z|⟨b,off,w,cells,rest,z1,z2,z3,z4,z5⟩
 ·exact .inl z
 ·exact .inr ⟨b,off,w,cells,rest,z1,by rw[E.f b z5,z2],z3,z4,Nat.lt_of_lt_of_le z5 E.n⟩
theorem bS.sl (H:bS e enc h0 h v xs):cm e enc h v xs:=by
 obtain⟨ad,rfl,z⟩:=H
 rcases z with⟨rfl,rfl⟩|⟨b,rfl,z2,z3,z4⟩
 ·exact⟨none,_,rfl,fun _=>rfl,.inl rfl⟩
 ·exact⟨_,_,rfl,fun q=>by simp at q,.inr ⟨b,0,true,_,[],rfl,z2,by simp,by simp,z4⟩⟩
theorem bS.ext (H:bS e enc h0 h v xs) (E:Ext h h'):bS e enc h0 h' v xs:=by
 obtain⟨ad,q,z⟩:=H
 refine⟨ad,q,?_⟩
 rcases z with z|⟨b,z1,z2,z3,z4⟩
 ·exact .inl z
 ·exact .inr ⟨b,z1,by rw[E.f b z4,z2],z3,Nat.lt_of_lt_of_le z4 E.n⟩
theorem bS.nil:bS e enc h0 h (.slice none 0 0) []:=⟨none,rfl,.inl ⟨rfl,rfl⟩⟩
theorem dA (k:Nat) (hk:∀x,(enc x).length=k) (xs:List α):(xs.flatMap enc).length=xs.length*k:=by
 induction xs with
 |nil=>simp
 |cons t r ih=>rw[List.flatMap_cons,List.length_append,ih,hk,List.length_cons,Nat.succ_mul];omega
theorem mR (k:Nat) (hk:∀x,(enc x).length=k) (xs:List α) (i:Nat):(xs.flatMap enc).drop (i*k)=(xs.drop i).flatMap enc:=by
 induction xs generalizing i with
 |nil=>simp
 |cons t r ih=>cases i with
  |zero=>simp
  |succ i=>
   rw[List.drop_succ_cons,←ih i,List.flatMap_cons,List.drop_append]
   rw[List.drop_eq_nil_of_le (by rw[hk,Nat.succ_mul];omega),List.nil_append,hk]
   congr 1
   rw[Nat.succ_mul];omega
theorem cm.at (k:Nat) (hk:∀x,(enc x).length=k) {ad:Option Addr} {n c:Nat} (H:cm e enc h (.slice ad n c) xs) {i:Nat} {t:α} (hi:xs[i]? =some t):
  n=xs.length∧∃b off w cells rest,ad=some ⟨b,off,none⟩∧h.f b= .row w e cells∧cells.drop (off+i*k)=enc t++rest∧off+i*k+k≤cells.length∧b<h.n:=by
 obtain⟨ad',c',q,_,z⟩:=H
 simp only[Value.slice.injEq]at q
 obtain⟨rfl,rfl,rfl⟩:=q
 have hlt:i<xs.length:=by rw[List.getElem?_eq_some_iff]at hi;exact hi.1
 refine⟨rfl,?_⟩
 rcases z with rfl|⟨b,off,w,cells,rest,z1,z2,z3,z4,z5⟩
 ·simp at hlt
 ·have hd:xs.drop i=t::xs.drop (i+1):=by
   rw[List.getElem?_eq_some_iff]at hi
   obtain⟨h1,h2⟩:=hi
   rw[List.drop_eq_getElem_cons h1,h2]
  have oe:i*k≤xs.length*k:=Nat.mul_le_mul_right k (by omega)
  have e:cells.drop (off+i*k)=enc t++((xs.drop (i+1)).flatMap enc++rest):=by
   rw[←List.drop_drop,z3,List.drop_append,mR k hk,hd,List.flatMap_cons,dA k hk,List.append_assoc]
   rw[show i*k-xs.length*k=0 by omega];rfl
  refine⟨b,off,w,cells,_,z1,z2,e,?_,z5⟩
  have hl:=congrArg List.length e
  rw[List.length_drop,List.length_append,hk]at hl
  rcases Nat.eq_zero_or_pos k with rfl|hk0
  ·simp;omega
  ·omega
end
section
variable {P:Program} {loc:List Nat} {ops:Array Oper} {cfg:au}
theorem uk (c:Code) (Q Q':Ex→St→Prop) (hq:∀e σ,Q e σ→Q' e σ) (σ:St) (h:vc P cfg c Q σ):vc P cfg c Q' σ:=Q8 c hq σ h
def tz (M:St→Prop):Ex→St→Prop
 | .normal,σ=>M σ
 |_,_=>False
theorem agB {M:St→Prop} {σ:St}:tz M .normal σ=M σ:=rfl
theorem FV {a b:Code} {Q Q':Ex→St→Prop} {σ:St} {t:Bool} (hq:∀e σ,Q e σ→Q' e σ) (h:jQ P cfg a b Q σ t):jQ P cfg a b Q' σ t:=by
 cases t with
 |true=>exact uk a _ _ hq _ h
 |false=>exact uk b _ _ hq _ h
theorem sF {a b r:Code} {Q:Ex→St→Prop} {σ:St} {t:Bool} (M:St→Prop) (h1:jQ P cfg a b (tz M) σ t) (h2:∀σ',M σ'→vc P cfg r Q σ'):jQ P cfg a b (mz (vc P cfg r Q) Q) σ t:=by
 refine FV (fun e σ' h=>?_) h1
 cases e with
 |normal=>exact h2 _ h
 |exit j=>exact h.elim
 |ret=>exact h.elim
theorem yI {a b r:Code} {Q:Ex→St→Prop} {σ:St} {t:Bool} {i:Nat} (M:St→Prop) (h1:jQ P cfg a b (k8 i (tz M)) σ t) (h2:∀σ',M σ'→vc P cfg r Q σ'):jQ P cfg a b (k8 i (mz (vc P cfg r Q) Q)) σ t:=by
 refine FV (fun e σ' h=>?_) h1
 cases e with
 |normal=>exact h2 _ h
 |exit j=>
  simp only[k8]at h ⊢
  split at h
  ·rename_i e;rw[if_pos e];exact h2 _ h
  ·exact h.elim
 |ret=>exact h.elim
def pY:Nat→Code→Code
 |n+1,.seq a b=>.seq a (pY n b)
 |_,_=>.skip
def qE:Nat→Code→Code
 |n+1,.seq a b=>qE n b
 |_,c=>c
theorem oc (n:Nat) (a b:Code):pY (n+1) (.seq a b)= .seq a (pY n b):=rfl
theorem oa (c:Code):pY 0 c= .skip:=rfl
theorem pg (n:Nat) (a b:Code):qE (n+1) (.seq a b)=qE n b:=rfl
theorem my (c:Code):qE 0 c=c:=by cases c<;>rfl
theorem Q5 (n:Nat) (M:St→Prop):∀{c:Code} {Q:Ex→St→Prop} {σ:St},vc P cfg (pY n c) (tz M) σ→(∀σ',M σ'→vc P cfg (qE n c) Q σ')→vc P cfg c Q σ:=by
 induction n with
 |zero=>intro c Q σ h1 h2;have:=h2 σ h1;rw[my]at this;exact this
 |succ n ih=>
  intro c Q σ h1 h2
  cases c with
  |seq a b=>
   refine uk a _ _ (fun e σ' h=>?_) σ h1
   cases e with
   |normal=>exact ih h h2
   |exit j=>exact h.elim
   |ret=>exact h.elim
  |_=>exact h2 σ h1
attribute [simp ↓] agB
end
end Go.Am
namespace Go.Proofs.Ybk
open Go Go.Am
noncomputable def PP:Program:=Tryz.prog
theorem mix:PP.follows .mixedOrders=true:=by kernel_rfl
noncomputable def aq3:Code:=match Tryz.f3.body with|some c=>c|none=>.skip
noncomputable def xV:Code:=match Tryz.f5.body with|some c=>c|none=>.skip
theorem ac4:PP.funcs[5]? =some Tryz.f5:=Tryz.func5
theorem Xm:Tryz.f5.body=some xV:=rfl
def NH (i:Nat):List Nat:=if i<16 then if i<8 then if i<4 then if i<2 then if i<1 then[0,1,2]else[0,1,2,7,8]else if i<3 then[0,1,2,7,8,39]else[6]else if i<6 then if i<5 then[1,2,7,8,9]else[1,2,7,8,9]else if i<7 then[1,2,7,8]else[1,2,7,8,10]else if i<12 then if i<10 then if i<9 then[1,2,7,8,10,61]else[1,2,7,8,10]else if i<11 then[1,2,7,8,10,11]else[1,2,7,8,10,11]else if i<14 then if i<13 then[1,2,7,8,10]else[2,7,8,12,13]else if i<15 then[2,7,8,12,13,14]else[2,7,8,12,13,14,83]else if i<24 then if i<20 then if i<18 then if i<17 then[2,7,8,12,13,14]else[2,7,8,12,13,14,15]else if i<19 then[2,7,8,12,13,14,15,16]else[2,7,8,12,13,14,16]else if i<22 then if i<21 then[2,7,8,12,13,14,16,18]else[2,7,8,12,13,14,16,18,19]else if i<23 then[2,7,8,12,13,14,16,18,19,113]else[2,7,8,12,13,14,16,18,19]else if i<28 then if i<26 then if i<25 then[2,7,8,12,13,14,16,18,19,122]else[6]else if i<27 then[2,7,8,12,13,14,131]else[6]else if i<30 then if i<29 then[7,8,12,13,133]else[6]else if i<31 then[7,8,13,20]else[6]
def Ji (i:Nat):ao:=if i=19 then⟨[],[0,1,2,3,4,5,6,7,8],[[],[],[0,1],[],[],[4],[3,4,5],[0,1,2],[0,1,2,3,4,5,6,7]],[]⟩else⟨[],[],[],[]⟩
def E8:au:=⟨[9,11,16,20],NH,Ji⟩
theorem akf:av PP E8 Tryz.f5.ntmps xV=true:=by kernel_rfl
noncomputable def u7:Code:=match Tryz.f11.body with|some c=>c|none=>.skip
theorem aaV:PP.funcs[11]? =some Tryz.f11:=Tryz.func11
theorem U2:Tryz.f11.body=some u7:=rfl
def KW (i:Nat):List Nat:=if i<11 then if i<5 then if i<2 then if i<1 then[]else[1]else if i<3 then[1,33]else if i<4 then[0]else[1,2,3]else if i<8 then if i<6 then[1,2,3,4,5]else if i<7 then[1,2,3,4,5,6]else[1,2,3,4,5,6,8,9]else if i<9 then[1,2,3,4,5,6,8,9,10]else if i<10 then[1,2,3,4,5,6,8,9,10,12]else[1,2,3,4,5,6,8,9,10,12,14]else if i<17 then if i<14 then if i<12 then[1,2,3,4,5,6,8,9,10,12,14,16]else if i<13 then[1,2,3,4,5,6,8,9,10,12,14,16,18]else[1,2,3,4,5,6,8,9,10,12,14,16,18,20]else if i<15 then[1,2,3,4,5,6,8,9,10,12,14,16,18,20,22]else if i<16 then[1,2,3,4,5,6,8,9,10,12,14,16,18,20,22,24]else[1,2,3,4,5,6,8,9,10,12,14,16,18,20,22,24,26]else if i<20 then if i<18 then[1,2,3,4,5,6,8,9,10,12,14,16,18,20,22,24,26,111]else if i<19 then[0]else[1,2,3,4,5,6,8,9,10,12,14,16,18,20,22,24,26,27]else if i<21 then[1,2,3,4,5,6,8,9,10,12,14,16,18,20,22,24,26,27,28]else if i<22 then[1,2,3,4,5,6,8,9,10,12,14,16,18,20,22,24,26,27,29]else[0]
def Gg (i:Nat):ao:=⟨[],[],[],[]⟩
def Cb:au:=⟨[2,4,6,8,10,12,14,16,18,20,22,24,29],KW,Gg⟩
theorem ah9:av PP Cb Tryz.f11.ntmps u7=true:=by kernel_rfl
noncomputable def sr:Code:=match Tryz.f12.body with|some c=>c|none=>.skip
theorem Kq:PP.funcs[12]? =some Tryz.f12:=Tryz.func12
theorem Bt:Tryz.f12.body=some sr:=rfl
def Lk (i:Nat):List Nat:=if i<2 then if i<1 then[0]else[0,8]else if i<3 then[2]else[2]
def Gs (i:Nat):ao:=⟨[],[],[],[]⟩
def Cn:au:=⟨[],Lk,Gs⟩
theorem O7:av PP Cn Tryz.f12.ntmps sr=true:=by kernel_rfl
noncomputable def vx:Code:=match Tryz.f14.body with|some c=>c|none=>.skip
theorem abf:PP.funcs[14]? =some Tryz.f14:=Tryz.func14
theorem Vn:Tryz.f14.body=some vx:=rfl
def Lw (i:Nat):List Nat:=if i<2 then if i<1 then[0]else[0,4]else if i<3 then[2]else[2]
def GC (i:Nat):ao:=⟨[],[],[],[]⟩
def Cx:au:=⟨[],Lw,GC⟩
theorem aiu:av PP Cx Tryz.f14.ntmps vx=true:=by kernel_rfl
noncomputable def su:Code:=match Tryz.f15.body with|some c=>c|none=>.skip
theorem Kr:PP.funcs[15]? =some Tryz.f15:=Tryz.func15
theorem Bu:Tryz.f15.body=some su:=rfl
def Lz (i:Nat):List Nat:=if i<4 then if i<2 then if i<1 then[0,3,4]else[0,3,4,9]else if i<3 then[4,5]else[0,3,4,6]else if i<6 then if i<5 then[0,3,4,6,7]else[0,3,4,6,7,18]else if i<7 then[4,5]else[4,5]
def GG (i:Nat):ao:=if i=7 then⟨[],[0,1,2,3,4,5,6],[[],[],[],[],[1,2,3],[0,1,2,3,4],[0,1,2,3,4,5]],[]⟩else⟨[],[],[],[]⟩
def CA:au:=⟨[3,4,7],Lz,GG⟩
theorem O8:av PP CA Tryz.f15.ntmps su=true:=by kernel_rfl
noncomputable def vK:Code:=match Tryz.f16.body with|some c=>c|none=>.skip
theorem abt:PP.funcs[16]? =some Tryz.f16:=Tryz.func16
theorem VA:Tryz.f16.body=some vK:=rfl
def LL (i:Nat):List Nat:=if i<1 then[0]else[2]
def GR (i:Nat):ao:=⟨[],[],[],[]⟩
def CN:au:=⟨[],LL,GR⟩
theorem aiH:av PP CN Tryz.f16.ntmps vK=true:=by kernel_rfl
noncomputable def vU:Code:=match Tryz.f17.body with|some c=>c|none=>.skip
theorem abD:PP.funcs[17]? =some Tryz.f17:=Tryz.func17
theorem VK:Tryz.f17.body=some vU:=rfl
def LY (i:Nat):List Nat:=if i<8 then if i<4 then if i<2 then if i<1 then[0,1]else[0,1,10]else if i<3 then[4]else[0,1,5]else if i<6 then if i<5 then[0,1,5,23]else[4]else if i<7 then[0,1,5,6]else[0,6,28,29,30]else if i<12 then if i<10 then if i<9 then[0,6,28,29,30,31]else[0,6,8,28,29,30]else if i<11 then[0,6,28,29,30,37]else[4]else if i<14 then if i<13 then[0,6,28,29,30]else[0,6,41]else if i<15 then[4]else if i<16 then[]else[4]
def Hd (i:Nat):ao:=⟨[],[],[],[]⟩
def C4:au:=⟨[8],LY,Hd⟩
theorem aiR:av PP C4 Tryz.f17.ntmps vU=true:=by kernel_rfl
noncomputable def sx:Code:=match Tryz.f18.body with|some c=>c|none=>.skip
theorem Kt:PP.funcs[18]? =some Tryz.f18:=Tryz.func18
theorem Bw:Tryz.f18.body=some sx:=rfl
def Mc (i:Nat):List Nat:=if i<1 then[0,1]else[4]
def Hn (i:Nat):ao:=if i=1 then⟨[],[0,1,2,3,4,5,6,7,8,9,10,11,12,13,14,15,16,17,18,19,20,21,22,23,24,25,26,27,28,29,30,31,32,33,34,35,36,37,38,39,40,41,42,43,44,45,46,47,48,49,50],[[],[0],[0,1],[0,1,2],[0,1,2,3],[0,1,2,3,4],[0,1,2,3,4,5],[0,1,2,3,4,5,6],[0,1,2,3,4,5,6,7],[0,1,2,3,4,5,6,7,8],[0,1,2,3,4,5,6,7,8,9],[0,1,2,3,4,5,6],[0,1,2,3,4,5,6,11],[0,1,2,3,4,5,6,11,12],[0,1,2,3,4,5,6,11,12,13],[0,1,2,3,4,5,6,7,8,9,10,11,12,13,14],[0,1,2,3,4,5,6,7,8,9,10,11,12,13,14,15],[0,1,2,3,4,5,6,7,8,9,10,11,12,13,14,15,16],[0,1,2,3,4,5,6,7,8,9,10,11,12,13,14,15,16,17],[0,1,2,3,4,5,6,7,8,9,10,11,12,13,14,15,16,17,18],[0,1,2,3,4,5,6,7,8,9,10,11,12,13,14,15,16,17,18,19],[0,1,2,3,4,5,6,7,8,9,10,11,12,13,14,15,16,17,18,19,20],[0,1,2,3,4,5,6,7,8,9,10,11,12,13,14,15,16,17],[0,1,2,3,4,5,6,7,8,9,10,11,12,13,14,15,16,17,22],[0,1,2,3,4,5,6,7,8,9,10,11,12,13,14,15,16,17,22,23],[0,1,2,3,4,5,6,7,8,9,10,11,12,13,14,15,16,17,22,23,24],[0,1,2,3,4,5,6,7,8,9,10,11,12,13,14,15,16,17,18,19,20,21,22,23,24,25],[0,1,2,3,4,5,6,7,8,9,10,11,12,13,14,15,16,17,18,19,20,21,22,23,24,25,26],[0,1,2,3,4,5,6,7,8,9,10,11,12,13,14,15,16,17,18,19,20,21,22,23,24,25,26,27],[0,1,2,3,4,5,6,7,8,9,10,11,12,13,14,15,16,17,18,19,20,21,22,23,24,25,26,27,28],[0,1,2,3,4,5,6,7,8,9,10,11,12,13,14,15,16,17,18,19,20,21,22,23,24,25,26,27,28,29],[0,1,2,3,4,5,6,7,8,9,10,11,12,13,14,15,16,17,18,19,20,21,22,23,24,25,26,27,28,29,30],[0,1,2,3,4,5,6,7,8,9,10,11,12,13,14,15,16,17,18,19,20,21,22,23,24,25,26,27,28,29,30,31],[0,1,2,3,4,5,6,7,8,9,10,11,12,13,14,15,16,17,18,19,20,21,22,23,24,25,26,27,28],[0,1,2,3,4,5,6,7,8,9,10,11,12,13,14,15,16,17,18,19,20,21,22,23,24,25,26,27,28,33],[0,1,2,3,4,5,6,7,8,9,10,11,12,13,14,15,16,17,18,19,20,21,22,23,24,25,26,27,28,33,34],[0,1,2,3,4,5,6,7,8,9,10,11,12,13,14,15,16,17,18,19,20,21,22,23,24,25,26,27,28,33,34,35],[0,1,2,3,4,5,6,7,8,9,10,11,12,13,14,15,16,17,18,19,20,21,22,23,24,25,26,27,28,29,30,31,32,33,34,35,36],[0,1,2,3,4,5,6,7,8,9,10,11,12,13,14,15,16,17,18,19,20,21,22,23,24,25,26,27,28,29,30,31,32,33,34,35,36,37],[0,1,2,3,4,5,6,7,8,9,10,11,12,13,14,15,16,17,18,19,20,21,22,23,24,25,26,27,28,29,30,31,32,33,34,35,36,37,38],[0,1,2,3,4,5,6,7,8,9,10,11,12,13,14,15,16,17,18,19,20,21,22,23,24,25,26,27,28,29,30,31,32,33,34,35,36,37,38,39],[0,1,2,3,4,5,6,7,8,9,10,11,12,13,14,15,16,17,18,19,20,21,22,23,24,25,26,27,28,29,30,31,32,33,34,35,36,37,38,39,40],[0,1,2,3,4,5,6,7,8,9,10,11,12,13,14,15,16,17,18,19,20,21,22,23,24,25,26,27,28,29,30,31,32,33,34,35,36,37,38,39,40,41],[0,1,2,3,4,5,6,7,8,9,10,11,12,13,14,15,16,17,18,19,20,21,22,23,24,25,26,27,28,29,30,31,32,33,34,35,36,37,38,39,40,41,42],[0,1,2,3,4,5,6,7,8,9,10,11,12,13,14,15,16,17,18,19,20,21,22,23,24,25,26,27,28,29,30,31,32,33,34,35,36,37,38,39],[0,1,2,3,4,5,6,7,8,9,10,11,12,13,14,15,16,17,18,19,20,21,22,23,24,25,26,27,28,29,30,31,32,33,34,35,36,37,38,39,44],[0,1,2,3,4,5,6,7,8,9,10,11,12,13,14,15,16,17,18,19,20,21,22,23,24,25,26,27,28,29,30,31,32,33,34,35,36,37,38,39,44,45],[0,1,2,3,4,5,6,7,8,9,10,11,12,13,14,15,16,17,18,19,20,21,22,23,24,25,26,27,28,29,30,31,32,33,34,35,36,37,38,39,44,45,46],[0,1,2,3,4,5,6,7,8,9,10,11,12,13,14,15,16,17,18,19,20,21,22,23,24,25,26,27,28,29,30,31,32,33,34,35,36,37,38,39,40,41,42,43,44,45,46,47],[0,1,2,3,4,5,6,7,8,9,10,11,12,13,14,15,16,17,18,19,20,21,22,23,24,25,26,27,28,29,30,31,32,33,34,35,36,37,38,39,40,41,42,43,44,45,46,47,48],[0,1,2,3,4,5,6,7,8,9,10,11,12,13,14,15,16,17,18,19,20,21,22,23,24,25,26,27,28,29,30,31,32,33,34,35,36,37,38,39,40,41,42,43,44,45,46,47,48,49]],[]⟩else⟨[],[],[],[]⟩
def Dd:au:=⟨[],Mc,Hn⟩
theorem Pa:av PP Dd Tryz.f18.ntmps sx=true:=by kernel_rfl
noncomputable def wu:Code:=match Tryz.f19.body with|some c=>c|none=>.skip
theorem abP:PP.funcs[19]? =some Tryz.f19:=Tryz.func19
theorem VY:Tryz.f19.body=some wu:=rfl
def Mi (i:Nat):List Nat:=if i<7 then if i<3 then if i<1 then[0]else if i<2 then[0,9]else[2]else if i<5 then if i<4 then[0,3]else[0,3,13]else if i<6 then[0,3,4]else[0,3]else if i<10 then if i<8 then[0,3]else if i<9 then[3,38,39,40]else[3,38,39,40,41]else if i<12 then if i<11 then[3,7,38,39,40]else[3,38,39,40]else if i<13 then[3,38,39,40]else[2]
def Hy (i:Nat):ao:=⟨[],[],[],[]⟩
def Dj:au:=⟨[7],Mi,Hy⟩
theorem ai3:av PP Dj Tryz.f19.ntmps wu=true:=by kernel_rfl
noncomputable def wG:Code:=match Tryz.f21.body with|some c=>c|none=>.skip
theorem abY:PP.funcs[21]? =some Tryz.f21:=Tryz.func21
theorem Wb:Tryz.f21.body=some wG:=rfl
def Ms (i:Nat):List Nat:=if i<1 then[0]else if i<2 then[3]else[2]
def HN (i:Nat):ao:=⟨[],[],[],[]⟩
def Dv:au:=⟨[],Ms,HN⟩
theorem ajc:av PP Dv Tryz.f21.ntmps wG=true:=by kernel_rfl
noncomputable def wR:Code:=match Tryz.f22.body with|some c=>c|none=>.skip
theorem ab8:PP.funcs[22]? =some Tryz.f22:=Tryz.func22
theorem Wn:Tryz.f22.body=some wR:=rfl
def MF (i:Nat):List Nat:=if i<2 then if i<1 then[0]else[0,4]else if i<3 then[2]else[2]
def Ia (i:Nat):ao:=⟨[],[],[],[]⟩
def DG:au:=⟨[],MF,Ia⟩
theorem ajm:av PP DG Tryz.f22.ntmps wR=true:=by kernel_rfl
noncomputable def wZ:Code:=match Tryz.f23.body with|some c=>c|none=>.skip
theorem acg:PP.funcs[23]? =some Tryz.f23:=Tryz.func23
theorem Wu:Tryz.f23.body=some wZ:=rfl
def MN (i:Nat):List Nat:=if i<4 then if i<2 then if i<1 then[0,1]else[0,1,10]else if i<3 then[4]else[0,1,5]else if i<6 then if i<5 then[0,1,5,14]else[0,1,5]else if i<7 then[0,1,5,25]else if i<8 then[4]else[4]
def Io (i:Nat):ao:=if i=6 then⟨[],[0,1,2,3,4,5,6,7,8],[[],[],[0,1],[0,1,2],[],[],[4,5],[4,5,6],[0,1,2,3,4,5,6,7]],[]⟩else⟨[],[],[],[]⟩
def DO:au:=⟨[],MN,Io⟩
theorem ajt:av PP DO Tryz.f23.ntmps wZ=true:=by kernel_rfl
noncomputable def xG:Code:=match Tryz.f33.body with|some c=>c|none=>.skip
theorem acP:PP.funcs[33]? =some Tryz.f33:=Tryz.func33
theorem W7:Tryz.f33.body=some xG:=rfl
def Nr (i:Nat):List Nat:=if i<4 then if i<2 then if i<1 then[0,1]else[0,1,10]else if i<3 then[4]else[0,1,5]else if i<6 then if i<5 then[0,1,5,14]else[0,1,5]else if i<7 then[0,1,5,25]else if i<8 then[4]else[4]
def IZ (i:Nat):ao:=if i=6 then⟨[],[0,1,2,3,4,5,6,7,8],[[],[],[0,1],[0,1,2],[],[],[4,5],[4,5,6],[0,1,2,3,4,5,6,7]],[]⟩else⟨[],[],[],[]⟩
def EI:au:=⟨[],Nr,IZ⟩
theorem aj0:av PP EI Tryz.f33.ntmps xG=true:=by kernel_rfl
noncomputable def xH:Code:=match Tryz.f34.body with|some c=>c|none=>.skip
theorem acQ:PP.funcs[34]? =some Tryz.f34:=Tryz.func34
theorem W8:Tryz.f34.body=some xH:=rfl
def Ns (i:Nat):List Nat:=if i<2 then if i<1 then[0]else[0,4]else if i<3 then[2]else[2]
def I0 (i:Nat):ao:=⟨[],[],[],[]⟩
def EJ:au:=⟨[],Ns,I0⟩
theorem aj1:av PP EJ Tryz.f34.ntmps xH=true:=by kernel_rfl
noncomputable def xI:Code:=match Tryz.f35.body with|some c=>c|none=>.skip
theorem acR:PP.funcs[35]? =some Tryz.f35:=Tryz.func35
theorem W9:Tryz.f35.body=some xI:=rfl
def Nt (i:Nat):List Nat:=if i<3 then if i<1 then[0]else if i<2 then[0,5]else[2]else if i<4 then[0,3]else if i<5 then[3]else[2]
def I5 (i:Nat):ao:=⟨[],[],[],[]⟩
def EK:au:=⟨[],Nt,I5⟩
theorem aj2:av PP EK Tryz.f35.ntmps xI=true:=by kernel_rfl
noncomputable def xJ:Code:=match Tryz.f36.body with|some c=>c|none=>.skip
theorem acS:PP.funcs[36]? =some Tryz.f36:=Tryz.func36
theorem Xa:Tryz.f36.body=some xJ:=rfl
def Nu (i:Nat):List Nat:=if i<10 then if i<5 then if i<2 then if i<1 then[0,3,4]else[0,3,4,5]else if i<3 then[4]else if i<4 then[0,3,4,15]else[4]else if i<7 then if i<6 then[0,3,4,22]else[4]else if i<8 then[0,3,4,30]else if i<9 then[4]else[0,3,4,38]else if i<15 then if i<12 then if i<11 then[0,3,4,38,39]else[4]else if i<13 then[0,3,4,38,44]else if i<14 then[4]else[0,3,4,38,49]else if i<18 then if i<16 then[4]else if i<17 then[0,3,4,38,55]else[4]else if i<19 then[0,4,61]else if i<20 then[4]else[4]
def I6 (i:Nat):ao:=⟨[],[],[],[]⟩
def EL:au:=⟨[3,4],Nu,I6⟩
theorem aj3:av PP EL Tryz.f36.ntmps xJ=true:=by kernel_rfl
noncomputable def xK:Code:=match Tryz.f37.body with|some c=>c|none=>.skip
theorem acT:PP.funcs[37]? =some Tryz.f37:=Tryz.func37
theorem Xb:Tryz.f37.body=some xK:=rfl
def Nv (i:Nat):List Nat:=if i<8 then if i<4 then if i<2 then if i<1 then[0,1,5]else[0,1,5,7]else if i<3 then[0,1,5,7,11]else[0,1,5,7,11,12]else if i<6 then if i<5 then[0,1,7]else[0,1,7,20]else if i<7 then[0,1,7]else[1,7,33,34,35]else if i<12 then if i<10 then if i<9 then[1,7,33,34,35,36]else[1,7,8,9,33,34,35]else if i<11 then[1,7,9,33,34,35,57]else[1,7,33,34,35]else if i<14 then if i<13 then[1,7,33,34,35]else[7,66]else if i<15 then[6]else[6]
def I7 (i:Nat):ao:=if i=10 then⟨[],[0,1,2,3,4,5,6,7,8,9,10,11,12,13,14,15,16,17],[[],[],[1],[1,2],[1,2,3],[1,2,3,4],[0,1,2,3,4,5],[0,1,2,3,4,5,6],[0,1,2,3,4,5,6,7],[0,1,2,3,4,5,6,7,8],[0,1,2,3,4,5,6,7,8,9],[0,1,2,3,4,5,6,7,8,9,10],[0,1,2,3,4,5,6,7],[0,1,2,3,4,5,6,7,8,9,10,11,12],[0,1,2,3,4,5,6,7,8,9,10,11,12,13],[0,1,2,3,4,5,6,7],[0,1,2,3,4,5,6,7,8,9,10,11,12,13,14,15],[0,1,2,3,4,5,6,7,8,9,10,11,12,13,14,15,16]],[]⟩else⟨[],[],[],[]⟩
def EO:au:=⟨[5,9],Nv,I7⟩
theorem aj4:av PP EO Tryz.f37.ntmps xK=true:=by kernel_rfl
noncomputable def xL:Code:=match Tryz.f38.body with|some c=>c|none=>.skip
theorem acU:PP.funcs[38]? =some Tryz.f38:=Tryz.func38
theorem Xc:Tryz.f38.body=some xL:=rfl
def Nw (i:Nat):List Nat:=if i<6 then if i<3 then if i<1 then[0,1]else if i<2 then[0,1,5]else[0,1,5,12]else if i<4 then[4]else if i<5 then[0,1,5,6]else[0,1,5,6,19]else if i<9 then if i<7 then[0,1,5,6]else if i<8 then[0,1,5,6,7]else[0,1,5,6,7,29]else if i<11 then if i<10 then[0,1,5,6]else[0,1,5,6]else if i<12 then[0,5]else[4]
def I8 (i:Nat):ao:=⟨[],[],[],[]⟩
def EP:au:=⟨[7],Nw,I8⟩
theorem aj5:av PP EP Tryz.f38.ntmps xL=true:=by kernel_rfl
noncomputable def xM:Code:=match Tryz.f39.body with|some c=>c|none=>.skip
theorem acV:PP.funcs[39]? =some Tryz.f39:=Tryz.func39
theorem Xd:Tryz.f39.body=some xM:=rfl
def Nx (i:Nat):List Nat:=if i<1 then[1]else[2]
def I9 (i:Nat):ao:=⟨[],[],[],[]⟩
def ER:au:=⟨[1],Nx,I9⟩
theorem aj6:av PP ER Tryz.f39.ntmps xM=true:=by kernel_rfl
noncomputable def xN:Code:=match Tryz.f40.body with|some c=>c|none=>.skip
theorem acW:PP.funcs[40]? =some Tryz.f40:=Tryz.func40
theorem Xe:Tryz.f40.body=some xN:=rfl
def Ny (i:Nat):List Nat:=if i<3 then if i<1 then[1]else if i<2 then[4]else[4,5]else if i<4 then[7]else if i<5 then[2]else[2]
def Ja (i:Nat):ao:=⟨[],[],[],[]⟩
def ES:au:=⟨[1],Ny,Ja⟩
theorem aj7:av PP ES Tryz.f40.ntmps xN=true:=by kernel_rfl
noncomputable def xO:Code:=match Tryz.f41.body with|some c=>c|none=>.skip
theorem acX:PP.funcs[41]? =some Tryz.f41:=Tryz.func41
theorem Xf:Tryz.f41.body=some xO:=rfl
def Nz (i:Nat):List Nat:=if i<10 then if i<5 then if i<2 then if i<1 then[0,3]else[0,3,11]else if i<3 then[4]else if i<4 then[0,3,13]else[0,3,13,14]else if i<7 then if i<6 then[0,5,6]else[6]else if i<8 then[4]else if i<9 then[0,3,13,31]else[0,3,7]else if i<15 then if i<12 then if i<11 then[7]else[4]else if i<13 then[0,3,46]else if i<14 then[0,3,8]else[0,3,8,51]else if i<18 then if i<16 then[0,3,8,60]else if i<17 then[4]else[0,3,8]else if i<19 then[]else if i<20 then[4]else[4]
def Jb (i:Nat):ao:=if i=9 then⟨[],[0,1,2,3,4,5,6,7],[[],[0],[],[2],[2,3],[2,3,4],[0,1,2,3,4,5],[0,1,2,3,4,5,6]],[]⟩else if i=18 then⟨[],[0,1,2,3,4,5,6,7,8,9],[[],[0],[0,1],[0,1,2],[],[4],[],[6],[0,1,2,3,4,5,6,7],[0,1,2,3,4,5,6,7,8]],[]⟩else⟨[],[],[],[]⟩
def ET:au:=⟨[3,5],Nz,Jb⟩
theorem aj8:av PP ET Tryz.f41.ntmps xO=true:=by kernel_rfl
noncomputable def xP:Code:=match Tryz.f42.body with|some c=>c|none=>.skip
theorem acY:PP.funcs[42]? =some Tryz.f42:=Tryz.func42
theorem Xg:Tryz.f42.body=some xP:=rfl
def NA (i:Nat):List Nat:=if i<5 then if i<2 then if i<1 then[0]else[0,11,12,13]else if i<3 then[0,11,12,13,14]else if i<4 then[0,4,11,12,13]else[0,11,12,13,20]else if i<8 then if i<6 then[2]else if i<7 then[0,11,12,13]else[0,5,6,7]else if i<9 then[0,5,6,7,30]else if i<10 then[2]else[2]
def Jc (i:Nat):ao:=⟨[],[],[],[]⟩
def EU:au:=⟨[4],NA,Jc⟩
theorem aj9:av PP EU Tryz.f42.ntmps xP=true:=by kernel_rfl
noncomputable def xQ:Code:=match Tryz.f43.body with|some c=>c|none=>.skip
theorem acZ:PP.funcs[43]? =some Tryz.f43:=Tryz.func43
theorem Xh:Tryz.f43.body=some xQ:=rfl
def NB (i:Nat):List Nat:=if i<1 then[2,3]else[4]
def Jd (i:Nat):ao:=⟨[],[],[],[]⟩
def EV:au:=⟨[2,3],NB,Jd⟩
theorem aka:av PP EV Tryz.f43.ntmps xQ=true:=by kernel_rfl
noncomputable def xR:Code:=match Tryz.f44.body with|some c=>c|none=>.skip
theorem ac0:PP.funcs[44]? =some Tryz.f44:=Tryz.func44
theorem Xi:Tryz.f44.body=some xR:=rfl
def NC (i:Nat):List Nat:=if i<5 then if i<2 then if i<1 then[0,1]else[0,1,10]else if i<3 then[4]else if i<4 then[0,1,12,13]else[0,1,12,13,14]else if i<7 then if i<6 then[0,1,5,12,13]else[0,1,12,13,24]else if i<8 then[4]else if i<9 then[0,1,12,13]else[4]
def Je (i:Nat):ao:=if i=6 then⟨[],[0,1,2,3,4,5,6,7,8],[[],[],[0,1],[0,1,2],[],[],[4,5],[4,5,6],[0,1,2,3,4,5,6,7]],[]⟩else⟨[],[],[],[]⟩
def EW:au:=⟨[],NC,Je⟩
theorem akb:av PP EW Tryz.f44.ntmps xR=true:=by kernel_rfl
noncomputable def xS:Code:=match Tryz.f45.body with|some c=>c|none=>.skip
theorem ac1:PP.funcs[45]? =some Tryz.f45:=Tryz.func45
theorem Xj:Tryz.f45.body=some xS:=rfl
def ND (i:Nat):List Nat:=if i<10 then if i<5 then if i<2 then if i<1 then[1]else[1,13]else if i<3 then[2,3]else if i<4 then[1,4]else[1,4,24,25,26]else if i<7 then if i<6 then[1,4,24,25,26,27]else[1,4,6,24,25,26]else if i<8 then[1,4,24,25,26]else if i<9 then[1,4,24,25,26]else[1,4,37,38,39]else if i<15 then if i<12 then if i<11 then[1,4,37,38,39,40]else[1,4,8,37,38,39]else if i<13 then[1,4,37,38,39]else if i<14 then[1,4,37,38,39]else[4,62,63,64]else if i<17 then if i<16 then[4,62,63,64,65]else[4,10,62,63,64]else if i<18 then[4,62,63,64]else if i<19 then[4,62,63,64]else[2,3]
def Jf (i:Nat):ao:=if i=3 then⟨[],[0,1,4,5,2,3,6,7,8,9],[[],[0],[0,1],[0,1,2],[],[4],[4,5],[0,1,2,3,4,5,6],[0,1,2,3,4,5,6,7],[0,1,2,3,4,5,6,7,8]],[[0,1,4,5,2,6,3,7,8,9],[0,1,4,5,6,2,3,7,8,9]]⟩else if i=12 then⟨[],[0,1,2,3,4,5,6,7,8,9,10,11,12,13,14,15,16,17],[[],[],[1],[],[1,2,3],[1,2,3,4],[1,2,3,4,5],[],[7],[],[7,8,9],[7,8,9,10],[7,8,9,10,11],[1,2,3,4,5,6,7,8,9,10,11,12],[1,2,3,4,5,6,7,8,9,10,11,12,13],[1,2,3,4,5,6,7,8,9,10,11,12,13,14],[0,1,2,3,4,5,6,7,8,9,10,11,12,13,14,15],[0,1,2,3,4,5,6,7,8,9,10,11,12,13,14,15,16]],[]⟩else⟨[],[],[],[]⟩
def EX:au:=⟨[1,6,10],ND,Jf⟩
theorem akc:av PP EX Tryz.f45.ntmps xS=true:=by kernel_rfl
noncomputable def xT:Code:=match Tryz.f46.body with|some c=>c|none=>.skip
theorem ac2:PP.funcs[46]? =some Tryz.f46:=Tryz.func46
theorem Xk:Tryz.f46.body=some xT:=rfl
def NF (i:Nat):List Nat:=if i<9 then if i<4 then if i<2 then if i<1 then[1]else[1,12]else if i<3 then[2,3]else[1,4]else if i<6 then if i<5 then[1,4,5]else[1,4,5,27]else if i<7 then[1,4,5]else if i<8 then[1,4,5]else[1,4,6]else if i<14 then if i<11 then if i<10 then[1,4,6,43]else[1,4,6]else if i<12 then[1,4,6,7]else if i<13 then[1,4,6]else[1,4,8]else if i<16 then if i<15 then[1,4,8,71]else[1,4,8]else if i<17 then[1,4,8,9]else if i<18 then[1,4,8]else[2,3]
def Jg (i:Nat):ao:=if i=3 then⟨[],[0,1,5,6,2,3,4,7,8,9,10],[[],[0],[0,1],[0,1,2],[0,1,2,3],[],[5],[0,1,2,5,6],[0,1,2,3,4,5,6,7],[0,1,2,3,4,5,6,7,8],[0,1,2,3,4,5,6,7,8,9]],[]⟩else if i=11 then⟨[9],[0,1,2,3,4,5,6,7,8,10],[[],[0],[],[2],[],[2,3,4],[2,3,4,5],[0,1,2,3,4,5,6],[0,1,2,3,4,5,6,7],[],[0,1,2,3,4,5,6,7,8,9]],[]⟩else if i=12 then⟨[],[0,1,2,3,7,8,4,5,6,9,10,11,12],[[],[0],[],[2],[2,3],[0,1,2,3,4],[0,1,2,3,4,5],[],[7],[2,3,4,7,8],[0,1,2,3,4,5,6,7,8,9],[0,1,2,3,4,5,6,7,8,9,10],[0,1,2,3,4,5,6,7,8,9,10,11]],[]⟩else if i=17 then⟨[],[0,1,2,3,7,8,12,13,4,5,6,9,10,11,14,15,16,17],[[],[0],[],[2],[2,3],[0,1,2,3,4],[0,1,2,3,4,5],[],[7],[2,3,4,7,8],[0,1,2,3,4,5,6,7,8,9],[0,1,2,3,4,5,6,7,8,9,10],[],[12],[2,3,4,7,8,9,12,13],[0,1,2,3,4,5,6,7,8,9,10,11,12,13,14],[0,1,2,3,4,5,6,7,8,9,10,11,12,13,14,15],[0,1,2,3,4,5,6,7,8,9,10,11,12,13,14,15,16]],[]⟩else⟨[],[],[],[]⟩
def EY:au:=⟨[1,7,9],NF,Jg⟩
theorem akd:av PP EY Tryz.f46.ntmps xT=true:=by kernel_rfl
noncomputable def xU:Code:=match Tryz.f47.body with|some c=>c|none=>.skip
theorem ac3:PP.funcs[47]? =some Tryz.f47:=Tryz.func47
theorem Xl:Tryz.f47.body=some xU:=rfl
def NG (i:Nat):List Nat:=if i<14 then if i<7 then if i<3 then if i<1 then[0,1,4]else if i<2 then[0,1,4,5]else[0,1,4,5,6,7]else if i<5 then if i<4 then[0,1,4,5,6,7,8]else[0,1,4,5,6,7,8,24]else if i<6 then[0,1,4,5,6,7,8]else[0,1,4,5,6,7,8,9]else if i<10 then if i<8 then[0,1,4,5,6,7,8,9]else if i<9 then[0,1,4,5,6,7,8,9,35]else[0,1,4,5,6,7,8,9,35,36]else if i<12 then if i<11 then[0,1,4,5,6,7,8,9]else[0,1,4,5,6,7,8,9,40]else if i<13 then[0,1,4,5,6,7,8,9]else[0,1,4,5,6,7,8,9,10]else if i<21 then if i<17 then if i<15 then[0,1,4,5,6,7,8,9,10,51]else if i<16 then[0,1,4,5,6,7,8,9,10,51,52]else[0,1,4,5,6,7,8,9,10]else if i<19 then if i<18 then[0,1,4,5,6,7,8,9,10,51,55]else[0,1,4,5,6,7,8,9,10,55]else if i<20 then[0,1,4,5,6,7,8,9,10]else[0,1,4,5,6,7,8,9]else if i<24 then if i<22 then[0,1,4,5,6,7,8,9,68]else if i<23 then[0,1,4,5,6,7,8,9]else[0,1,4,5,6,7,8,9,81]else if i<26 then if i<25 then[0,1,4,5,6,7,8,9]else[0,1,4,5,6,7,8,9,99]else if i<27 then[0,1,4,5,6,7,8]else[4]
def Jh (i:Nat):ao:=⟨[],[],[],[]⟩
def EZ:au:=⟨[4,5,10],NG,Jh⟩
theorem ake:av PP EZ Tryz.f47.ntmps xU=true:=by kernel_rfl
noncomputable def xW:Code:=match Tryz.f59.body with|some c=>c|none=>.skip
theorem ac5:PP.funcs[59]? =some Tryz.f59:=Tryz.func59
theorem Xn:Tryz.f59.body=some xW:=rfl
def NI (i:Nat):List Nat:=if i<2 then if i<1 then[0]else[0,4]else if i<3 then[2]else[2]
def Jj (i:Nat):ao:=⟨[],[],[],[]⟩
def E9:au:=⟨[],NI,Jj⟩
theorem akg:av PP E9 Tryz.f59.ntmps xW=true:=by kernel_rfl
noncomputable def xX:Code:=match Tryz.f60.body with|some c=>c|none=>.skip
theorem ac6:PP.funcs[60]? =some Tryz.f60:=Tryz.func60
theorem Xo:Tryz.f60.body=some xX:=rfl
def NJ (i:Nat):List Nat:=if i<2 then if i<1 then[0]else[0,4]else if i<3 then[2]else[2]
def Jk (i:Nat):ao:=⟨[],[],[],[]⟩
def Fb:au:=⟨[],NJ,Jk⟩
theorem akh:av PP Fb Tryz.f60.ntmps xX=true:=by kernel_rfl
noncomputable def xY:Code:=match Tryz.f61.body with|some c=>c|none=>.skip
theorem ac7:PP.funcs[61]? =some Tryz.f61:=Tryz.func61
theorem Xp:Tryz.f61.body=some xY:=rfl
def NK (i:Nat):List Nat:=if i<2 then if i<1 then[0]else[0,4]else if i<3 then[2]else[2]
def Jl (i:Nat):ao:=⟨[],[],[],[]⟩
def Fc:au:=⟨[],NK,Jl⟩
theorem aki:av PP Fc Tryz.f61.ntmps xY=true:=by kernel_rfl
noncomputable def xZ:Code:=match Tryz.f66.body with|some c=>c|none=>.skip
theorem ac8:PP.funcs[66]? =some Tryz.f66:=Tryz.func66
theorem Xq:Tryz.f66.body=some xZ:=rfl
def NL (i:Nat):List Nat:=if i<4 then if i<2 then if i<1 then[0,3,4]else[0,3,4,10]else if i<3 then[4]else[0,3,4,5,6]else if i<6 then if i<5 then[0,3,4,5,6,19]else[4]else if i<7 then[0,4]else if i<8 then[0,4]else[4]
def Jm (i:Nat):ao:=⟨[],[],[],[]⟩
def Fe:au:=⟨[3,4,6],NL,Jm⟩
theorem akj:av PP Fe Tryz.f66.ntmps xZ=true:=by kernel_rfl
noncomputable def ya:Code:=match Tryz.f67.body with|some c=>c|none=>.skip
theorem ac9:PP.funcs[67]? =some Tryz.f67:=Tryz.func67
theorem Xr:Tryz.f67.body=some ya:=rfl
def NM (i:Nat):List Nat:=if i<6 then if i<3 then if i<1 then[0,1,4]else if i<2 then[0,1,4,22]else[4]else if i<4 then[0,4]else if i<5 then[0,4,5]else[0,4,5,35,36,37]else if i<9 then if i<7 then[0,4,5,35,36,37,38]else if i<8 then[0,4,5,6,7,35,36,37]else[0,4,5,6,35,36,37,53]else if i<11 then if i<10 then[0,4,5,35,36,37]else[0,4,5,35,36,37]else if i<12 then[0,4,5,35,36,37]else[4]
def Jn (i:Nat):ao:=if i=8 then⟨[],[0,1,2,3,4,5,6,7,8,9,10,11],[[],[0],[0,1],[0,1,2],[0,1,2,3],[0,1,2,3,4],[0,1,2,3],[0,1,2,3,6],[0,1,2,3,6,7],[0,1,2,3,6,7,8],[0,1,2,3,4,5,6,7,8,9],[0,1,2,3,4,5,6,7,8,9,10]],[]⟩else⟨[],[],[],[]⟩
def Ff:au:=⟨[4,7],NM,Jn⟩
theorem akk:av PP Ff Tryz.f67.ntmps ya=true:=by kernel_rfl
noncomputable def yb:Code:=match Tryz.f68.body with|some c=>c|none=>.skip
theorem ada:PP.funcs[68]? =some Tryz.f68:=Tryz.func68
theorem Xs:Tryz.f68.body=some yb:=rfl
def NN (i:Nat):List Nat:=if i<5 then if i<2 then if i<1 then[0,3,4]else[0,3,4,31]else if i<3 then[4]else if i<4 then[0,3,4,5,6]else[0,3,4,5,6,41]else if i<7 then if i<6 then[4]else[0,4,5,7]else if i<8 then[0,4,5,7]else if i<9 then[0,4,7]else[4]
def Jo (i:Nat):ao:=if i=1 then⟨[],[0,1,2,3,4,5,6,7,8,9,10,11,12,13,14,15,16,17,18,19,20,21,22,23],[[],[0],[0,1],[0,1,2],[0,1,2,3],[0,1,2,3,4],[0,1,2,3,4,5],[0,1,2,3,4,5,6],[0,1,2,3,4,5,6,7],[0,1,2,3,4,5,6,7,8],[0,1,2,3,4,5,6,7,8,9],[0,1,2,3,4,5,6,7,8,9,10],[0,1,2,3,4,5,6,7,8,9,10,11],[0,1,2,3,4,5,6,7,8,9,10,11,12],[0,1,2,3,4,5,6,7,8,9,10,11,12,13],[0,1,2,3,4,5,6,7,8,9,10,11,12,13,14],[0,1,2,3,4,5,6,7,8,9,10,11,12,13,14,15],[0,1,2,3,4,5,6,7,8,9,10,11,12,13,14,15,16],[0,1,2,3,4,5,6,7,8,9,10,11,12,13,14,15,16,17],[0,1,2,3,4,5,6,7,8,9,10,11,12,13,14],[0,1,2,3,4,5,6,7,8,9,10,11,12,13,14,19],[0,1,2,3,4,5,6,7,8,9,10,11,12,13,14,15,16,17,18,19,20],[0,1,2,3,4,5,6,7,8,9,10,11,12,13,14,15,16,17,18,19,20,21],[0,1,2,3,4,5,6,7,8,9,10,11,12,13,14,15,16,17,18,19,20,21,22]],[]⟩else if i=6 then⟨[22],[0,1,2,3,4,5,6,7,8,9,10,11,12,13,14,15,16,17,18,19,20,21,23],[[],[0],[0,1],[0,1,2],[0,1,2,3],[0,1,2,3,4],[],[6],[],[8],[8,9],[8,9,10],[],[12],[8,9,10,11,12,13],[],[],[16],[16,17],[15,16,17,18],[15,16,17,18,19],[0,1,2,3,4,5,6,7,8,9,10,11,12,13,14,15,16,17,18,19,20],[],[0,1,2,3,4,5,6,7,8,9,10,11,12,13,14,15,16,17,18,19,20,21,22]],[]⟩else if i=7 then⟨[],[0,1,2,3,4,5,6,7,8,9,10],[[],[],[1],[1,2],[1,2,3],[],[5],[1,2,3,4,5,6],[0,1,2,3,4,5,6,7],[0,1,2,3,4,5,6,7,8],[0,1,2,3,4,5,6,7,8,9]],[]⟩else if i=9 then⟨[],[0,1,2,3,4,5,6],[[],[0],[],[],[2,3],[0,1,2,3,4],[0,1,2,3,4,5]],[]⟩else⟨[],[],[],[]⟩
def Fg:au:=⟨[3,4,7],NN,Jo⟩
theorem akl:av PP Fg Tryz.f68.ntmps yb=true:=by kernel_rfl
noncomputable def yc:Code:=match Tryz.f69.body with|some c=>c|none=>.skip
theorem adb:PP.funcs[69]? =some Tryz.f69:=Tryz.func69
theorem Xt:Tryz.f69.body=some yc:=rfl
def NO (i:Nat):List Nat:=if i<3 then if i<1 then[0,3,4]else if i<2 then[0,3,4,10]else[4]else if i<5 then if i<4 then[0,3,4,5,6]else[0,3,4,5,6,20]else if i<6 then[4]else[4]
def Jp (i:Nat):ao:=if i=6 then⟨[],[0,1,2,3,4,5,6,7,8,9,10,11,12],[[],[],[1],[],[],[4],[4,5],[3,4,5,6],[3,4,5,6,7],[1,2,3,4,5,6,7,8],[0,1,2,3,4,5,6,7,8,9],[0,1,2,3,4,5,6,7,8,9,10],[0,1,2,3,4,5,6,7,8,9,10,11]],[]⟩else⟨[],[],[],[]⟩
def Fh:au:=⟨[3,4],NO,Jp⟩
theorem akm:av PP Fh Tryz.f69.ntmps yc=true:=by kernel_rfl
noncomputable def yd:Code:=match Tryz.f70.body with|some c=>c|none=>.skip
theorem ade:PP.funcs[70]? =some Tryz.f70:=Tryz.func70
theorem Xu:Tryz.f70.body=some yd:=rfl
def NP (i:Nat):List Nat:=if i<4 then if i<2 then if i<1 then[0,1,4]else[0,4,5,6]else if i<3 then[0,4,5,6,13]else[4]else if i<6 then if i<5 then[0,4,5,18]else[4]else if i<7 then[0,4,5]else[4]
def Jq (i:Nat):ao:=⟨[],[],[],[]⟩
def Fi:au:=⟨[4],NP,Jq⟩
theorem akn:av PP Fi Tryz.f70.ntmps yd=true:=by kernel_rfl
noncomputable def ye:Code:=match Tryz.f71.body with|some c=>c|none=>.skip
theorem adf:PP.funcs[71]? =some Tryz.f71:=Tryz.func71
theorem Xv:Tryz.f71.body=some ye:=rfl
def NQ (i:Nat):List Nat:=if i<4 then if i<2 then if i<1 then[0,1,4]else[4,5,6]else if i<3 then[4,5,6,13]else[4]else if i<6 then if i<5 then[4,5,18]else[4]else if i<7 then[4]else[4]
def Jr (i:Nat):ao:=⟨[],[],[],[]⟩
def Fj:au:=⟨[4],NQ,Jr⟩
theorem ako:av PP Fj Tryz.f71.ntmps ye=true:=by kernel_rfl
noncomputable def yf:Code:=match Tryz.f72.body with|some c=>c|none=>.skip
theorem adg:PP.funcs[72]? =some Tryz.f72:=Tryz.func72
theorem Xw:Tryz.f72.body=some yf:=rfl
def NR (i:Nat):List Nat:=if i<4 then if i<2 then if i<1 then[0,2]else[0,2,3,4,5]else if i<3 then[0,2,4,6,7]else[0,2,4,6,7,29]else if i<6 then if i<5 then[2]else[0,2,4,6,34]else if i<7 then[2]else if i<8 then[2,4,6]else[2]
def Js (i:Nat):ao:=if i=2 then⟨[15],[0,1,2,3,4,5,6,7,8,9,10,11,12,13,14,16,17],[[],[0],[0,1],[0,1,2],[],[],[],[],[7],[7,8],[7,8,9],[0,1,2,3,4,5,6,7,8,9,10],[0,1,2,3,4,5,6,7,8,9,10,11],[0,1,2,3,4,5,6,7,8,9,10,11,12],[0,1,2,3,4,5,6,7,8,9,10,11,12],[],[0,1,2,3,4,5,6,7,8,9,10,11,12,13,15],[0,1,2,3,4,5,6,7,8,9,10,11,12,13,14,15,16]],[]⟩else⟨[],[],[],[]⟩
def Fk:au:=⟨[2,6],NR,Js⟩
theorem akp:av PP Fk Tryz.f72.ntmps yf=true:=by kernel_rfl
noncomputable def yg:Code:=match Tryz.f73.body with|some c=>c|none=>.skip
theorem adh:PP.funcs[73]? =some Tryz.f73:=Tryz.func73
theorem Xx:Tryz.f73.body=some yg:=rfl
def NS (i:Nat):List Nat:=if i<8 then if i<4 then if i<2 then if i<1 then[0,2]else[0,2,3]else if i<3 then[0,2,3,21,22,23]else[0,2,3,21,22,23,24]else if i<6 then if i<5 then[0,2,3,5,21,22,23]else[0,2,3,21,22,23]else if i<7 then[0,2,3,21,22,23]else[0,2,3,32,33,34]else if i<12 then if i<10 then if i<9 then[0,2,3,32,33,34,35]else[0,2,3,7,32,33,34]else if i<11 then[0,2,3,7,32,33,34,40,41,42]else[0,2,3,7,32,33,34,40,41,42,43]else if i<14 then if i<13 then[0,2,3,7,9,32,33,34,40,41,42]else[0,2,3,7,32,33,34,40,41,42]else if i<15 then[0,2,3,7,32,33,34,40,41,42]else if i<16 then[0,2,3,32,33,34]else[2]
def Jt (i:Nat):ao:=⟨[],[],[],[]⟩
def Fl:au:=⟨[2,7],NS,Jt⟩
theorem akq:av PP Fl Tryz.f73.ntmps yg=true:=by kernel_rfl
noncomputable def yh:Code:=match Tryz.f74.body with|some c=>c|none=>.skip
theorem adi:PP.funcs[74]? =some Tryz.f74:=Tryz.func74
theorem Xy:Tryz.f74.body=some yh:=rfl
def NT (i:Nat):List Nat:=if i<4 then if i<2 then if i<1 then[0,1]else[0,1,7,8]else if i<3 then[0,1,7,8,9]else[0,1,5,7,8]else if i<6 then if i<5 then[0,1,5,7,8,16]else[4]else if i<7 then[0,1,7,8]else[4]
def Ju (i:Nat):ao:=⟨[],[],[],[]⟩
def Fm:au:=⟨[],NT,Ju⟩
theorem akr:av PP Fm Tryz.f74.ntmps yh=true:=by kernel_rfl
noncomputable def yi:Code:=match Tryz.f75.body with|some c=>c|none=>.skip
theorem adj:PP.funcs[75]? =some Tryz.f75:=Tryz.func75
theorem Xz:Tryz.f75.body=some yi:=rfl
def NU (i:Nat):List Nat:=if i<6 then if i<3 then if i<1 then[1]else if i<2 then[1,3]else[1,3,4]else if i<4 then[1,3,4,9]else if i<5 then[2]else[1,3,4,9,10]else if i<9 then if i<7 then[1,3,4]else if i<8 then[1,3,4,9,19]else[1,3,4]else if i<11 then if i<10 then[1,3,4,9,27]else[1,3,4]else if i<12 then[1,3,4,35]else[2]
def Jv (i:Nat):ao:=if i=6 then⟨[],[0,1,2,3,4,5,6,7,8],[[],[0],[],[2],[2,3],[2,3,4],[0,1],[0,1,6],[0,1,2,3,4,5,6,7]],[]⟩else if i=8 then⟨[],[0,1,2,3,5,4,6,7],[[],[0],[],[2],[2,3],[0,1],[0,1,2,3,4,5],[0,1,2,3,4,5,6]],[]⟩else if i=10 then⟨[],[0,1,2,3,5,4,6,7],[[],[0],[],[2],[2,3],[0,1],[0,1,2,3,4,5],[0,1,2,3,4,5,6]],[]⟩else⟨[],[],[],[]⟩
def Fo:au:=⟨[1,3],NU,Jv⟩
theorem aks:av PP Fo Tryz.f75.ntmps yi=true:=by kernel_rfl
noncomputable def yj:Code:=match Tryz.f76.body with|some c=>c|none=>.skip
theorem adm:PP.funcs[76]? =some Tryz.f76:=Tryz.func76
theorem XA:Tryz.f76.body=some yj:=rfl
def NV (i:Nat):List Nat:=if i<9 then if i<4 then if i<2 then if i<1 then[0,2]else[2,4,5,6]else if i<3 then[2,4,5,6,18]else[2,4,5,6,18,19]else if i<6 then if i<5 then[2,3]else[2,4,5,6,24]else if i<7 then[2,3]else if i<8 then[2,4,5,7]else[2,5,7,8]else if i<13 then if i<11 then if i<10 then[2,5,7,8,37]else[2,3]else if i<12 then[2,5,7,9]else[2,5,7,9,43]else if i<15 then if i<14 then[2,3]else[2,5,10,11]else if i<16 then[2,5,10,55]else if i<17 then[2,3]else[2,3]
def Jw (i:Nat):ao:=⟨[],[],[],[]⟩
def Fp:au:=⟨[2,5,10],NV,Jw⟩
theorem akt:av PP Fp Tryz.f76.ntmps yj=true:=by kernel_rfl
noncomputable def yk:Code:=match Tryz.f77.body with|some c=>c|none=>.skip
theorem adq:PP.funcs[77]? =some Tryz.f77:=Tryz.func77
theorem XB:Tryz.f77.body=some yk:=rfl
def NW (i:Nat):List Nat:=if i<3 then if i<1 then[0,3]else if i<2 then[0,3,6]else[0,3,6,7]else if i<5 then if i<4 then[4]else[3,16]else if i<6 then[4]else[4]
def Jx (i:Nat):ao:=if i=3 then⟨[],[0,1,2,3,4,5,6,7],[[],[0],[],[2],[2,3],[2,3,4],[0,1,2,3,4,5],[0,1,2,3,4,5,6]],[]⟩else⟨[],[],[],[]⟩
def Fq:au:=⟨[3],NW,Jx⟩
theorem aku:av PP Fq Tryz.f77.ntmps yk=true:=by kernel_rfl
noncomputable def yl:Code:=match Tryz.f78.body with|some c=>c|none=>.skip
theorem adu:PP.funcs[78]? =some Tryz.f78:=Tryz.func78
theorem XC:Tryz.f78.body=some yl:=rfl
def NY (i:Nat):List Nat:=if i<6 then if i<3 then if i<1 then[0]else if i<2 then[0,5]else[0,5,6]else if i<4 then[0,5,6,7]else if i<5 then[5,6,7,11,12,13]else[5,6,7,11,12,13,14]else if i<9 then if i<7 then[5,6,7,8,9,11,12,13]else if i<8 then[5,6,7,8,9,11,12,13]else[5,6,7,8,9,11,12,13,30]else if i<10 then[5,6,7,11,12,13]else if i<11 then[5,6,7,11,12,13]else[2,3,4]
def Jy (i:Nat):ao:=if i=7 then⟨[],[0,1,2,5,6,7,3,4,8,9,10,11],[[],[],[1],[1,2],[0,1,2,3],[],[],[6],[6,7],[0,1,2,3,4,5,6,7,8],[0,1,2,3,4,5,6,7,8,9],[0,1,2,3,4,5,6,7,8,9,10]],[[0,1,2,5,6,7,3,8,4,9,10,11],[0,1,2,5,6,7,8,3,4,9,10,11]]⟩else⟨[],[],[],[]⟩
def Fs:au:=⟨[9],NY,Jy⟩
theorem akv:av PP Fs Tryz.f78.ntmps yl=true:=by kernel_rfl
noncomputable def ym:Code:=match Tryz.f79.body with|some c=>c|none=>.skip
theorem adv:PP.funcs[79]? =some Tryz.f79:=Tryz.func79
theorem XD:Tryz.f79.body=some ym:=rfl
def NZ (i:Nat):List Nat:=if i<4 then if i<2 then if i<1 then[0,1]else[0,1,7,8,9]else if i<3 then[0,1,7,8,9,10]else[0,1,6,7,8,9]else if i<6 then if i<5 then[0,1,7,8,9,14]else[4]else if i<7 then[0,1,7,8,9]else[4]
def Jz (i:Nat):ao:=⟨[],[],[],[]⟩
def Ft:au:=⟨[],NZ,Jz⟩
theorem akw:av PP Ft Tryz.f79.ntmps ym=true:=by kernel_rfl
noncomputable def yn:Code:=match Tryz.f80.body with|some c=>c|none=>.skip
theorem adw:PP.funcs[80]? =some Tryz.f80:=Tryz.func80
theorem XE:Tryz.f80.body=some yn:=rfl
def N0 (i:Nat):List Nat:=if i<1 then[1,2,3,4]else[8]
def JA (i:Nat):ao:=⟨[],[],[],[]⟩
def Fu:au:=⟨[4],N0,JA⟩
theorem akx:av PP Fu Tryz.f80.ntmps yn=true:=by kernel_rfl
noncomputable def yo:Code:=match Tryz.f81.body with|some c=>c|none=>.skip
theorem ady:PP.funcs[81]? =some Tryz.f81:=Tryz.func81
theorem XF:Tryz.f81.body=some yo:=rfl
def N5 (i:Nat):List Nat:=if i<5 then if i<2 then if i<1 then[0,1]else[0,1,10]else if i<3 then[4]else if i<4 then[0,1,12,13]else[0,1,12,13,14]else if i<7 then if i<6 then[0,1,5,12,13]else[0,1,12,13,24]else if i<8 then[4]else if i<9 then[0,1,12,13]else[4]
def JB (i:Nat):ao:=if i=6 then⟨[],[0,1,2,3,4,5,6,7,8],[[],[],[0,1],[0,1,2],[],[],[4,5],[4,5,6],[0,1,2,3,4,5,6,7]],[]⟩else⟨[],[],[],[]⟩
def Fv:au:=⟨[],N5,JB⟩
theorem aky:av PP Fv Tryz.f81.ntmps yo=true:=by kernel_rfl
noncomputable def yp:Code:=match Tryz.f82.body with|some c=>c|none=>.skip
theorem adz:PP.funcs[82]? =some Tryz.f82:=Tryz.func82
theorem XG:Tryz.f82.body=some yp:=rfl
def N6 (i:Nat):List Nat:=if i<5 then if i<2 then if i<1 then[0,1]else[0,1,10]else if i<3 then[4]else if i<4 then[0,1,12,13]else[0,1,12,13,14]else if i<7 then if i<6 then[0,1,5,12,13]else[0,1,12,13,24]else if i<8 then[4]else if i<9 then[0,1,12,13]else[4]
def JC (i:Nat):ao:=if i=6 then⟨[],[0,1,2,3,4,5,6,7,8],[[],[],[0,1],[0,1,2],[],[],[4,5],[4,5,6],[0,1,2,3,4,5,6,7]],[]⟩else⟨[],[],[],[]⟩
def Fw:au:=⟨[],N6,JC⟩
theorem akz:av PP Fw Tryz.f82.ntmps yp=true:=by kernel_rfl
noncomputable def yq:Code:=match Tryz.f83.body with|some c=>c|none=>.skip
theorem adC:PP.funcs[83]? =some Tryz.f83:=Tryz.func83
theorem XH:Tryz.f83.body=some yq:=rfl
def N7 (i:Nat):List Nat:=if i<5 then if i<2 then if i<1 then[0,1]else[0,1,10]else if i<3 then[4]else if i<4 then[0,1,12,13]else[0,1,12,13,14]else if i<7 then if i<6 then[0,1,5,12,13]else[0,1,12,13,24]else if i<8 then[4]else if i<9 then[0,1,12,13]else[4]
def JD (i:Nat):ao:=if i=6 then⟨[],[0,1,2,3,4,5,6,7,8],[[],[],[0,1],[0,1,2],[],[],[4,5],[4,5,6],[0,1,2,3,4,5,6,7]],[]⟩else⟨[],[],[],[]⟩
def Fx:au:=⟨[],N7,JD⟩
theorem akA:av PP Fx Tryz.f83.ntmps yq=true:=by kernel_rfl
noncomputable def yr:Code:=match Tryz.f84.body with|some c=>c|none=>.skip
theorem adD:PP.funcs[84]? =some Tryz.f84:=Tryz.func84
theorem XI:Tryz.f84.body=some yr:=rfl
def N8 (i:Nat):List Nat:=if i<1 then[1]else[2]
def JE (i:Nat):ao:=⟨[],[],[],[]⟩
def Fy:au:=⟨[1],N8,JE⟩
theorem akB:av PP Fy Tryz.f84.ntmps yr=true:=by kernel_rfl
noncomputable def yu:Code:=match Tryz.f85.body with|some c=>c|none=>.skip
theorem adE:PP.funcs[85]? =some Tryz.f85:=Tryz.func85
theorem XJ:Tryz.f85.body=some yu:=rfl
def N9 (i:Nat):List Nat:=if i<3 then if i<1 then[0,1]else if i<2 then[0,7,8,9]else[0,7,8,9,10]else if i<5 then if i<4 then[0,6,7,8,9]else[0,7,8,9]else if i<6 then[0,7,8,9]else[4]
def JF (i:Nat):ao:=⟨[],[],[],[]⟩
def Fz:au:=⟨[],N9,JF⟩
theorem akC:av PP Fz Tryz.f85.ntmps yu=true:=by kernel_rfl
noncomputable def yv:Code:=match Tryz.f86.body with|some c=>c|none=>.skip
theorem adF:PP.funcs[86]? =some Tryz.f86:=Tryz.func86
theorem XK:Tryz.f86.body=some yv:=rfl
def Oa (i:Nat):List Nat:=if i<5 then if i<2 then if i<1 then[1]else[1,3]else if i<3 then[1,3,5]else if i<4 then[1,3,5,6]else[1,3]else if i<7 then if i<6 then[1,3,5,8]else[1,3]else if i<8 then[1,3,10]else if i<9 then[1,3]else[2]
def JG (i:Nat):ao:=⟨[],[],[],[]⟩
def FA:au:=⟨[1],Oa,JG⟩
theorem akD:av PP FA Tryz.f86.ntmps yv=true:=by kernel_rfl
noncomputable def yw:Code:=match Tryz.f88.body with|some c=>c|none=>.skip
theorem adG:PP.funcs[88]? =some Tryz.f88:=Tryz.func88
theorem XL:Tryz.f88.body=some yw:=rfl
def Ob (i:Nat):List Nat:=if i<1 then[1]else[2]
def JH (i:Nat):ao:=⟨[],[],[],[]⟩
def FC:au:=⟨[1],Ob,JH⟩
theorem akE:av PP FC Tryz.f88.ntmps yw=true:=by kernel_rfl
noncomputable def yy:Code:=match Tryz.f89.body with|some c=>c|none=>.skip
theorem adH:PP.funcs[89]? =some Tryz.f89:=Tryz.func89
theorem XM:Tryz.f89.body=some yy:=rfl
def Oc (i:Nat):List Nat:=if i<2 then if i<1 then[0]else[0,4]else if i<3 then[2]else[2]
def JI (i:Nat):ao:=⟨[],[],[],[]⟩
def FD:au:=⟨[],Oc,JI⟩
theorem akF:av PP FD Tryz.f89.ntmps yy=true:=by kernel_rfl
noncomputable def yz:Code:=match Tryz.f90.body with|some c=>c|none=>.skip
theorem adI:PP.funcs[90]? =some Tryz.f90:=Tryz.func90
theorem XN:Tryz.f90.body=some yz:=rfl
def Od (i:Nat):List Nat:=if i<1 then[1]else[2]
def JJ (i:Nat):ao:=if i=1 then⟨[],[0,1,4,5,9,10,14,15,2,3,6,7,8,11,12,13,16,17,18],[[],[0],[0,1],[0,1,2],[],[4],[0,1,2,4,5],[0,1,2,3,4,5,6],[0,1,2,3,4,5,6,7],[],[9],[0,1,2,4,5,6,9,10],[0,1,2,3,4,5,6,7,8,9,10,11],[0,1,2,3,4,5,6,7,8,9,10,11,12],[],[14],[0,1,2,4,5,6,9,10,11,14,15],[0,1,2,3,4,5,6,7,8,9,10,11,12,13,14,15,16],[0,1,2,3,4,5,6,7,8,9,10,11,12,13,14,15,16,17]],[]⟩else⟨[],[],[],[]⟩
def FE:au:=⟨[1],Od,JJ⟩
theorem akG:av PP FE Tryz.f90.ntmps yz=true:=by kernel_rfl
noncomputable def uW:Code:=match Tryz.f106.body with|some c=>c|none=>.skip
theorem aaR:PP.funcs[106]? =some Tryz.f106:=Tryz.func106
theorem UY:Tryz.f106.body=some uW:=rfl
def KR (i:Nat):List Nat:=if i<3 then if i<1 then[0,3]else if i<2 then[3,5]else[3,5,6]else if i<4 then[3,5,6,15]else if i<5 then[2,3]else[2,3]
def Gc (i:Nat):ao:=⟨[],[],[],[]⟩
def BW:au:=⟨[3,4],KR,Gc⟩
theorem ah5:av PP BW Tryz.f106.ntmps uW=true:=by kernel_rfl
noncomputable def uX:Code:=match Tryz.f107.body with|some c=>c|none=>.skip
theorem aaS:PP.funcs[107]? =some Tryz.f107:=Tryz.func107
theorem UZ:Tryz.f107.body=some uX:=rfl
def KT (i:Nat):List Nat:=[]
def Gd (i:Nat):ao:=⟨[],[],[],[]⟩
def BY:au:=⟨[],KT,Gd⟩
theorem ah6:av PP BY Tryz.f107.ntmps uX=true:=by kernel_rfl
noncomputable def uY:Code:=match Tryz.f108.body with|some c=>c|none=>.skip
theorem aaT:PP.funcs[108]? =some Tryz.f108:=Tryz.func108
theorem U0:Tryz.f108.body=some uY:=rfl
def KU (i:Nat):List Nat:=if i<3 then if i<1 then[1]else if i<2 then[1,3]else[1,7]else if i<4 then[1,11]else if i<5 then[2]else[2]
def Ge (i:Nat):ao:=⟨[],[],[],[]⟩
def BZ:au:=⟨[1],KU,Ge⟩
theorem ah7:av PP BZ Tryz.f108.ntmps uY=true:=by kernel_rfl
noncomputable def uZ:Code:=match Tryz.f109.body with|some c=>c|none=>.skip
theorem aaU:PP.funcs[109]? =some Tryz.f109:=Tryz.func109
theorem U1:Tryz.f109.body=some uZ:=rfl
def KV (i:Nat):List Nat:=if i<6 then if i<3 then if i<1 then[0,3]else if i<2 then[0,3,14]else[4,5]else if i<4 then[0,3,6,7,8]else if i<5 then[0,6,7,8]else[6,9,10]else if i<9 then if i<7 then[6,9,10,43]else if i<8 then[4,5]else[9,47]else if i<11 then if i<10 then[4,5]else[54]else if i<12 then[4,5]else[4,5]
def Gf (i:Nat):ao:=if i=5 then⟨[15],[0,1,2,3,4,5,6,7,8,9,10,11,12,13,14,16,17],[[],[0],[0,1],[0,1,2],[],[],[],[],[7],[7,8],[7,8,9],[0,1,2,3,4,5,6,7,8,9,10],[0,1,2,3,4,5,6,7,8,9,10,11],[0,1,2,3,4,5,6,7,8,9,10,11,12],[0,1,2,3,4,5,6,7,8,9,10,11,12],[],[0,1,2,3,4,5,6,7,8,9,10,11,12,13,15],[0,1,2,3,4,5,6,7,8,9,10,11,12,13,14,15,16]],[]⟩else⟨[],[],[],[]⟩
def Ca:au:=⟨[3,9],KV,Gf⟩
theorem ah8:av PP Ca Tryz.f109.ntmps uZ=true:=by kernel_rfl
noncomputable def u9:Code:=match Tryz.f110.body with|some c=>c|none=>.skip
theorem aaW:PP.funcs[110]? =some Tryz.f110:=Tryz.func110
theorem U3:Tryz.f110.body=some u9:=rfl
def KY (i:Nat):List Nat:=if i<4 then if i<2 then if i<1 then[0,1,4]else[0,1,4,10,11,12]else if i<3 then[0,1,4,10,11,12,13]else[0,1,4,5,6,10,11,12]else if i<6 then if i<5 then[0,1,4,5,10,11,12,18]else[0,1,4,10,11,12]else if i<7 then[0,1,4,10,11,12]else[0,1,4,10,11,12]
def Gh (i:Nat):ao:=if i=5 then⟨[],[0,1,2,3,4,5,6,7,8,9,10,11],[[],[0],[0,1],[0,1,2],[],[],[],[5,6],[5,6,7],[0,1,2,3,4,5,6,7,8],[0,1,2,3,4,5,6,7,8,9],[0,1,2,3,4,5,6,7,8,9,10]],[]⟩else⟨[],[],[],[]⟩
def Cc:au:=⟨[6],KY,Gh⟩
theorem aia:av PP Cc Tryz.f110.ntmps u9=true:=by kernel_rfl
noncomputable def va:Code:=match Tryz.f111.body with|some c=>c|none=>.skip
theorem aaX:PP.funcs[111]? =some Tryz.f111:=Tryz.func111
theorem U4:Tryz.f111.body=some va:=rfl
def KZ (i:Nat):List Nat:=if i<1 then[0,3]else if i<2 then[5]else[4]
def Gi (i:Nat):ao:=if i=1 then⟨[],[0,1,2,3,4,5,6,7,8,9,10,11,12,13],[[],[0],[0,1],[0,1,2],[],[4],[],[6],[0,1,2,3,4,5,6,7],[0,1,2,3,4,5,6,7,8],[0,1,2,3,4,5,6,7,8,9],[0,1,2,3,4,5,6,7,8,9],[0,1,2,3,4,5,6,7,8,9,10],[0,1,2,3,4,5,6,7,8,9,10,11,12]],[]⟩else⟨[],[],[],[]⟩
def Cd:au:=⟨[3],KZ,Gi⟩
theorem aib:av PP Cd Tryz.f111.ntmps va=true:=by kernel_rfl
noncomputable def vd:Code:=match Tryz.f112.body with|some c=>c|none=>.skip
theorem aaY:PP.funcs[112]? =some Tryz.f112:=Tryz.func112
theorem U6:Tryz.f112.body=some vd:=rfl
def Lc (i:Nat):List Nat:=if i<2 then if i<1 then[0,1]else[0,1,16]else if i<3 then[4,5]else[4,5]
def Gj (i:Nat):ao:=⟨[],[],[],[]⟩
def Ce:au:=⟨[],Lc,Gj⟩
theorem aic:av PP Ce Tryz.f112.ntmps vd=true:=by kernel_rfl
noncomputable def ve:Code:=match Tryz.f113.body with|some c=>c|none=>.skip
theorem aaZ:PP.funcs[113]? =some Tryz.f113:=Tryz.func113
theorem U7:Tryz.f113.body=some ve:=rfl
def Ld (i:Nat):List Nat:=if i<3 then if i<1 then[1,2,3,4,5,10]else if i<2 then[1,2,3,4,5,10,19]else[10,11]else if i<5 then if i<4 then[1,3,10,12,13]else[3,10,12,13,45]else if i<6 then[10,12,13]else[10,11]
def Gk (i:Nat):ao:=⟨[],[],[],[]⟩
def Cf:au:=⟨[5,10,12],Ld,Gk⟩
theorem aid:av PP Cf Tryz.f113.ntmps ve=true:=by kernel_rfl
noncomputable def vf:Code:=match Tryz.f114.body with|some c=>c|none=>.skip
theorem aa0:PP.funcs[114]? =some Tryz.f114:=Tryz.func114
theorem U8:Tryz.f114.body=some vf:=rfl
def Le (i:Nat):List Nat:=if i<4 then if i<2 then if i<1 then[0,1]else[0,1,5]else if i<3 then[0,1,5,11,12]else[0,1,5,11,12,13]else if i<6 then if i<5 then[0,1,5,6,11,12]else[0,1,5,6,11,12,23]else if i<7 then[0,1,5,11,12]else if i<8 then[0,1,5,11,12]else[4]
def Gl (i:Nat):ao:=if i=5 then⟨[],[0,1,2,3,4,5,6,7,8],[[],[],[0,1],[0,1,2],[],[],[4,5],[4,5,6],[0,1,2,3,4,5,6,7]],[]⟩else⟨[],[],[],[]⟩
def Cg:au:=⟨[],Le,Gl⟩
theorem aie:av PP Cg Tryz.f114.ntmps vf=true:=by kernel_rfl
noncomputable def vg:Code:=match Tryz.f115.body with|some c=>c|none=>.skip
theorem aa1:PP.funcs[115]? =some Tryz.f115:=Tryz.func115
theorem U9:Tryz.f115.body=some vg:=rfl
def Lf (i:Nat):List Nat:=if i<4 then if i<2 then if i<1 then[1]else[1,3]else if i<3 then[3,7,8,9]else[3,7,8,9,10]else if i<6 then if i<5 then[3,4,5,7,8,9]else[3,4,7,8,9,15]else if i<7 then[3,7,8,9]else if i<8 then[3,7,8,9]else[2]
def Gm (i:Nat):ao:=⟨[],[],[],[]⟩
def Ch:au:=⟨[1],Lf,Gm⟩
theorem aif:av PP Ch Tryz.f115.ntmps vg=true:=by kernel_rfl
noncomputable def vh:Code:=match Tryz.f116.body with|some c=>c|none=>.skip
theorem aa2:PP.funcs[116]? =some Tryz.f116:=Tryz.func116
theorem Va:Tryz.f116.body=some vh:=rfl
def Lg (i:Nat):List Nat:=if i<1 then[1]else[2]
def Gn (i:Nat):ao:=⟨[],[],[],[]⟩
def Ci:au:=⟨[1],Lg,Gn⟩
theorem aih:av PP Ci Tryz.f116.ntmps vh=true:=by kernel_rfl
noncomputable def vk:Code:=match Tryz.f117.body with|some c=>c|none=>.skip
theorem aa3:PP.funcs[117]? =some Tryz.f117:=Tryz.func117
theorem Vb:Tryz.f117.body=some vk:=rfl
def Lh (i:Nat):List Nat:=if i<1 then[0,1,2]else[6]
def Gp (i:Nat):ao:=⟨[],[],[],[]⟩
def Cj:au:=⟨[],Lh,Gp⟩
theorem aii:av PP Cj Tryz.f117.ntmps vk=true:=by kernel_rfl
noncomputable def vl:Code:=match Tryz.f118.body with|some c=>c|none=>.skip
theorem aa4:PP.funcs[118]? =some Tryz.f118:=Tryz.func118
theorem Vc:Tryz.f118.body=some vl:=rfl
def Li (i:Nat):List Nat:=if i<6 then if i<3 then if i<1 then[0,3]else if i<2 then[0,3,14]else[2,3,4]else if i<4 then[0,3,5]else if i<5 then[0,3,5,6,7]else[0,3,5,7,8,9,10,11]else if i<9 then if i<7 then[0,3,5,7,8,9,10,11,26]else if i<8 then[2,3,4]else[0,3,5,7,8,9,10,11,26,30]else if i<10 then[0,3,5,6,7]else if i<11 then[3,5,10,11,38]else[2,3,4]
def Gq (i:Nat):ao:=if i=9 then⟨[],[0,1,4,5,2,3,6,7,8],[[],[],[1],[0,1,2],[],[],[0,1,2,3],[0,1,2,3,4,6],[0,1,2,3,4,5,6,7]],[]⟩else if i=11 then⟨[],[0,1,2,3,4],[[],[],[0],[0,1,2],[0,1,2,3]],[]⟩else if i=7 then⟨[],[0,1,2,3,4,5],[[],[],[],[0],[0,1,3],[0,1,2,3,4]],[]⟩else⟨[],[],[],[]⟩
def Ck:au:=⟨[3,7,8,10],Li,Gq⟩
theorem aij:av PP Ck Tryz.f118.ntmps vl=true:=by kernel_rfl
noncomputable def vm:Code:=match Tryz.f119.body with|some c=>c|none=>.skip
theorem aa5:PP.funcs[119]? =some Tryz.f119:=Tryz.func119
theorem Vd:Tryz.f119.body=some vm:=rfl
def Lj (i:Nat):List Nat:=if i<1 then[1]else[2]
def Gr (i:Nat):ao:=⟨[],[],[],[]⟩
def Cl:au:=⟨[1],Lj,Gr⟩
theorem aik:av PP Cl Tryz.f119.ntmps vm=true:=by kernel_rfl
noncomputable def vn:Code:=match Tryz.f120.body with|some c=>c|none=>.skip
theorem aa6:PP.funcs[120]? =some Tryz.f120:=Tryz.func120
theorem Ve:Tryz.f120.body=some vn:=rfl
def Ll (i:Nat):List Nat:=if i<2 then if i<1 then[0,1,2]else[0,1,2,8]else if i<3 then[6]else[6]
def Gt (i:Nat):ao:=⟨[],[],[],[]⟩
def Co:au:=⟨[],Ll,Gt⟩
theorem ail:av PP Co Tryz.f120.ntmps vn=true:=by kernel_rfl
noncomputable def vo:Code:=match Tryz.f121.body with|some c=>c|none=>.skip
theorem aa7:PP.funcs[121]? =some Tryz.f121:=Tryz.func121
theorem Vf:Tryz.f121.body=some vo:=rfl
def Lm (i:Nat):List Nat:=if i<7 then if i<3 then if i<1 then[0,1]else if i<2 then[0,1,5]else[0,1,5,14]else if i<5 then if i<4 then[0,1,5,6,7]else[0,1,5,6,7,8]else if i<6 then[0,1,5,6,7,8,31]else[0,1,6,7,8]else if i<11 then if i<9 then if i<8 then[0,1,5,6,8]else[0,1,5,6,8,43]else if i<10 then[0,1,5,6,9,10]else[0,1,5,6,9,10,51]else if i<13 then if i<12 then[4]else[0,1,5,6,57]else if i<14 then[4]else[4]
def Gu (i:Nat):ao:=⟨[],[],[],[]⟩
def Cp:au:=⟨[8],Lm,Gu⟩
theorem aim:av PP Cp Tryz.f121.ntmps vo=true:=by kernel_rfl
noncomputable def vp:Code:=match Tryz.f122.body with|some c=>c|none=>.skip
theorem aa8:PP.funcs[122]? =some Tryz.f122:=Tryz.func122
theorem Vg:Tryz.f122.body=some vp:=rfl
def Lp (i:Nat):List Nat:=if i<7 then if i<3 then if i<1 then[0]else if i<2 then[0,21]else[2]else if i<5 then if i<4 then[0,30,31,32]else[0,30,31,32,33]else if i<6 then[0,4,30,31,32]else[0,4,5,6,30,31,32]else if i<10 then if i<8 then[0,4,5,30,31,32,46]else if i<9 then[2]else[0,4,5,30,31,32,52]else if i<12 then if i<11 then[2]else[0,30,31,32]else if i<13 then[0,30,31,32]else[2]
def Gv (i:Nat):ao:=if i=6 then⟨[],[0,1,2,3,4,5,6,7,8,9,10,11],[[],[0],[0,1],[0,1,2],[],[4],[0,1,2,3,4,5],[0,1,2,3,4,5,6],[0,1,2,3,4,5,6,7],[0,1,2,3,4,5,6,7],[0,1,2,3,4,5,6,7,8],[0,1,2,3,4,5,6,7,8,9,10]],[]⟩else⟨[],[],[],[]⟩
def Cq:au:=⟨[4],Lp,Gv⟩
theorem ain:av PP Cq Tryz.f122.ntmps vp=true:=by kernel_rfl
noncomputable def vq:Code:=match Tryz.f123.body with|some c=>c|none=>.skip
theorem aa9:PP.funcs[123]? =some Tryz.f123:=Tryz.func123
theorem Vh:Tryz.f123.body=some vq:=rfl
def Lq (i:Nat):List Nat:=if i<10 then if i<5 then if i<2 then if i<1 then[1,2]else[1,2,4]else if i<3 then[1,2,4,11,12,13]else if i<4 then[1,2,4,11,12,13,14]else[1,2,4,6,11,12,13]else if i<7 then if i<6 then[1,2,4,6,11,12,13,25]else[2,3]else if i<8 then[1,2,4,11,12,13]else if i<9 then[1,2,4,11,12,13]else[2,4,7]else if i<15 then if i<12 then if i<11 then[2,4,7]else[2,7,50,51,52]else if i<13 then[2,7,50,51,52,53]else if i<14 then[2,7,9,50,51,52]else[2,7,50,51,52]else if i<18 then if i<16 then[2,7,50,51,52]else if i<17 then[2,7]else[2,7]else if i<19 then[2,7,75]else if i<20 then[2,3]else[2,3]
def Gw (i:Nat):ao:=if i=9 then⟨[11],[0,1,3,4,5,6,7,8,2,9,10,12],[[],[0],[0,1],[],[3],[],[5],[],[7],[0,1,2,7,8],[0,1,2,3,4,5,6,7,8,9],[],[0,1,2,3,4,5,6,7,8,9,10,11]],[]⟩else if i=14 then⟨[],[0,1,2,3,4,5,6,7,8,9],[[],[0],[],[2],[],[2,3,4],[2,3,4,5],[0,1,2,3,4,5,6],[0,1,2,3,4,5,6,7],[0,1,2,3,4,5,6,7,8]],[]⟩else⟨[],[],[],[]⟩
def Cr:au:=⟨[1,2,7],Lq,Gw⟩
theorem aio:av PP Cr Tryz.f123.ntmps vq=true:=by kernel_rfl
noncomputable def vr:Code:=match Tryz.f124.body with|some c=>c|none=>.skip
theorem aba:PP.funcs[124]? =some Tryz.f124:=Tryz.func124
theorem Vi:Tryz.f124.body=some vr:=rfl
def Lr (i:Nat):List Nat:=if i<3 then if i<1 then[1,2,3,4]else if i<2 then[1,2,9,10]else[1,2,9,18]else if i<4 then[1,2,9,21]else if i<5 then[8]else[8]
def Gx (i:Nat):ao:=⟨[],[],[],[]⟩
def Cs:au:=⟨[4,9],Lr,Gx⟩
theorem aip:av PP Cs Tryz.f124.ntmps vr=true:=by kernel_rfl
noncomputable def vt:Code:=match Tryz.f125.body with|some c=>c|none=>.skip
theorem abb:PP.funcs[125]? =some Tryz.f125:=Tryz.func125
theorem Vj:Tryz.f125.body=some vt:=rfl
def Ls (i:Nat):List Nat:=if i<6 then if i<3 then if i<1 then[1]else if i<2 then[1,3]else[2]else if i<4 then[1,8]else if i<5 then[2]else[1,13]else if i<9 then if i<7 then[2]else if i<8 then[1,18]else[2]else if i<10 then[26]else if i<11 then[2]else[2]
def Gy (i:Nat):ao:=⟨[],[],[],[]⟩
def Ct:au:=⟨[1],Ls,Gy⟩
theorem aiq:av PP Ct Tryz.f125.ntmps vt=true:=by kernel_rfl
noncomputable def vu:Code:=match Tryz.f130.body with|some c=>c|none=>.skip
theorem abc:PP.funcs[130]? =some Tryz.f130:=Tryz.func130
theorem Vk:Tryz.f130.body=some vu:=rfl
def Lt (i:Nat):List Nat:=if i<6 then if i<3 then if i<1 then[1]else if i<2 then[1,3]else[2]else if i<4 then[1,8]else if i<5 then[2]else[1,13]else if i<9 then if i<7 then[2]else if i<8 then[1,18]else[2]else if i<10 then[26]else if i<11 then[2]else[2]
def Gz (i:Nat):ao:=⟨[],[],[],[]⟩
def Cu:au:=⟨[1],Lt,Gz⟩
theorem air:av PP Cu Tryz.f130.ntmps vu=true:=by kernel_rfl
noncomputable def vv:Code:=match Tryz.f131.body with|some c=>c|none=>.skip
theorem abd:PP.funcs[131]? =some Tryz.f131:=Tryz.func131
theorem Vl:Tryz.f131.body=some vv:=rfl
def Lu (i:Nat):List Nat:=if i<3 then if i<1 then[0]else if i<2 then[0,3]else[0,3,5]else if i<4 then[0,3]else if i<5 then[0,3]else[2]
def GA (i:Nat):ao:=⟨[],[],[],[]⟩
def Cv:au:=⟨[],Lu,GA⟩
theorem ais:av PP Cv Tryz.f131.ntmps vv=true:=by kernel_rfl
noncomputable def vw:Code:=match Tryz.f132.body with|some c=>c|none=>.skip
theorem abe:PP.funcs[132]? =some Tryz.f132:=Tryz.func132
theorem Vm:Tryz.f132.body=some vw:=rfl
def Lv (i:Nat):List Nat:=if i<4 then if i<2 then if i<1 then[0]else[3]else if i<3 then[3,4]else[2]else if i<6 then if i<5 then[3,6]else[2]else if i<7 then[8]else if i<8 then[2]else[2]
def GB (i:Nat):ao:=⟨[],[],[],[]⟩
def Cw:au:=⟨[],Lv,GB⟩
theorem ait:av PP Cw Tryz.f132.ntmps vw=true:=by kernel_rfl
noncomputable def vy:Code:=match Tryz.f148.body with|some c=>c|none=>.skip
theorem abg:PP.funcs[148]? =some Tryz.f148:=Tryz.func148
theorem Vo:Tryz.f148.body=some vy:=rfl
def Lx (i:Nat):List Nat:=if i<1 then[0]else[2]
def GD (i:Nat):ao:=⟨[],[],[],[]⟩
def Cy:au:=⟨[],Lx,GD⟩
theorem aiv:av PP Cy Tryz.f148.ntmps vy=true:=by kernel_rfl
noncomputable def vz:Code:=match Tryz.f149.body with|some c=>c|none=>.skip
theorem abh:PP.funcs[149]? =some Tryz.f149:=Tryz.func149
theorem Vp:Tryz.f149.body=some vz:=rfl
def Ly (i:Nat):List Nat:=if i<4 then if i<2 then if i<1 then[0,2]else[2,6,7,8]else if i<3 then[2,6,7,8,9]else[2,4,6,7,8]else if i<6 then if i<5 then[2,4,6,7,8,17]else[2]else if i<7 then[2,6,7,8]else[2]
def GF (i:Nat):ao:=⟨[],[],[],[]⟩
def Cz:au:=⟨[2],Ly,GF⟩
theorem aiw:av PP Cz Tryz.f149.ntmps vz=true:=by kernel_rfl
noncomputable def vA:Code:=match Tryz.f150.body with|some c=>c|none=>.skip
theorem abi:PP.funcs[150]? =some Tryz.f150:=Tryz.func150
theorem Vq:Tryz.f150.body=some vA:=rfl
def LA (i:Nat):List Nat:=if i<1 then[0,1,5]else[6,7]
def GH (i:Nat):ao:=if i=1 then⟨[],[0,2,5,1,3,4,6,7,8,9,10],[[],[0],[],[2],[0,1,2,3],[],[0,1,2,3,4,5],[],[0,1,2,3,4,5,6,7],[0,1,2,3,4,5,6,7,8],[0,1,2,3,4,5,6,7,8,9]],[[0,2,5,1,3,4,7,6,8,9,10],[0,2,5,1,3,7,4,6,8,9,10],[0,2,5,1,7,3,4,6,8,9,10],[0,2,5,3,1,4,6,7,8,9,10],[0,2,5,3,1,4,7,6,8,9,10],[0,2,5,3,1,7,4,6,8,9,10],[0,2,5,3,7,1,4,6,8,9,10],[0,2,5,7,1,3,4,6,8,9,10],[0,2,5,7,3,1,4,6,8,9,10]]⟩else⟨[],[],[],[]⟩
def CC:au:=⟨[5],LA,GH⟩
theorem aix:av PP CC Tryz.f150.ntmps vA=true:=by kernel_rfl
noncomputable def vB:Code:=match Tryz.f151.body with|some c=>c|none=>.skip
theorem abj:PP.funcs[151]? =some Tryz.f151:=Tryz.func151
theorem Vr:Tryz.f151.body=some vB:=rfl
def LB (i:Nat):List Nat:=if i<2 then if i<1 then[2,3,4]else[2,4,8,9]else if i<3 then[2,4,8,16]else if i<4 then[6,7]else[6,7]
def GI (i:Nat):ao:=⟨[],[],[],[]⟩
def CD:au:=⟨[3,4,8],LB,GI⟩
theorem aiy:av PP CD Tryz.f151.ntmps vB=true:=by kernel_rfl
noncomputable def vC:Code:=match Tryz.f152.body with|some c=>c|none=>.skip
theorem abk:PP.funcs[152]? =some Tryz.f152:=Tryz.func152
theorem Vs:Tryz.f152.body=some vC:=rfl
def LC (i:Nat):List Nat:=if i<6 then if i<3 then if i<1 then[1,2,3,4,8]else if i<2 then[1,2,3,4,8,10,11]else[1,2,3,4,8,10,31]else if i<4 then[8,9]else if i<5 then[1,3,8,10,12]else[1,8,13]else if i<9 then if i<7 then[1,8,13,14]else if i<8 then[8,13]else[1,8,13,53]else if i<11 then if i<10 then[8,13]else[8,13,60]else if i<12 then[8,13]else[8,9]
def GJ (i:Nat):ao:=⟨[],[],[],[]⟩
def CE:au:=⟨[4,8],LC,GJ⟩
theorem aiz:av PP CE Tryz.f152.ntmps vC=true:=by kernel_rfl
noncomputable def vD:Code:=match Tryz.f153.body with|some c=>c|none=>.skip
theorem abl:PP.funcs[153]? =some Tryz.f153:=Tryz.func153
theorem Vt:Tryz.f153.body=some vD:=rfl
def LD (i:Nat):List Nat:=if i<5 then if i<2 then if i<1 then[0,1]else[0,1,17]else if i<3 then[4]else if i<4 then[0,1,5]else[0,5,18,19,20]else if i<8 then if i<6 then[0,5,18,19,20,21]else if i<7 then[0,5,6,7,18,19,20]else[0,5,6,18,19,20,26]else if i<9 then[0,5,18,19,20]else if i<10 then[0,5,18,19,20]else[4]
def GK (i:Nat):ao:=⟨[],[],[],[]⟩
def CF:au:=⟨[],LD,GK⟩
theorem aiA:av PP CF Tryz.f153.ntmps vD=true:=by kernel_rfl
noncomputable def vE:Code:=match Tryz.f154.body with|some c=>c|none=>.skip
theorem abm:PP.funcs[154]? =some Tryz.f154:=Tryz.func154
theorem Vu:Tryz.f154.body=some vE:=rfl
def LF (i:Nat):List Nat:=if i<2 then if i<1 then[0]else[0,4]else if i<3 then[2]else[2]
def GL (i:Nat):ao:=⟨[],[],[],[]⟩
def CH:au:=⟨[],LF,GL⟩
theorem aiB:av PP CH Tryz.f154.ntmps vE=true:=by kernel_rfl
noncomputable def vF:Code:=match Tryz.f155.body with|some c=>c|none=>.skip
theorem abn:PP.funcs[155]? =some Tryz.f155:=Tryz.func155
theorem Vv:Tryz.f155.body=some vF:=rfl
def LG (i:Nat):List Nat:=if i<5 then if i<2 then if i<1 then[1]else[1,7]else if i<3 then[2]else if i<4 then[1,3]else[1,3,13,14]else if i<7 then if i<6 then[1,3,13,14,15]else[1,3,4,13,14]else if i<8 then[1,3,13,14]else if i<9 then[1,3,13,14]else[2]
def GM (i:Nat):ao:=⟨[],[],[],[]⟩
def CI:au:=⟨[1],LG,GM⟩
theorem aiC:av PP CI Tryz.f155.ntmps vF=true:=by kernel_rfl
noncomputable def vG:Code:=match Tryz.f156.body with|some c=>c|none=>.skip
theorem abo:PP.funcs[156]? =some Tryz.f156:=Tryz.func156
theorem Vw:Tryz.f156.body=some vG:=rfl
def LH (i:Nat):List Nat:=if i<13 then if i<6 then if i<3 then if i<1 then[0,4,5,6,8]else if i<2 then[0,4,5,6,8,22]else[6,7,8,9]else if i<4 then[0,4,5,6,8,10]else if i<5 then[0,4,5,6,8,10,11]else[0,4,5,6,8,10,11,33]else if i<9 then if i<7 then[6,7,8,9]else if i<8 then[0,4,5,6,8,10,11,12]else[0,4,5,6,8,10,11,12,13]else if i<11 then if i<10 then[0,4,5,6,8,10,11,12,13,50]else[0,4,5,6,8,10,11,12,13,50,51]else if i<12 then[0,4,6,8,10,11,12,13,50,53]else[0,4,6,8,10,11,12,13,50,55]else if i<19 then if i<16 then if i<14 then[0,4,6,8,10,11,12,13,57]else if i<15 then[5,6,8,10,12]else[6,7,8,9]else if i<17 then[0,4,6,8,10,11,12]else if i<18 then[0,4,6,8,10,11,12,13]else[0,4,6,8,10,11,12,13,14]else if i<22 then if i<20 then[0,4,6,8,10,11,12]else if i<21 then[0,4,6,8,10,11,12,13,14]else[0,4,6,8,10,11,12,13,14]else if i<24 then if i<23 then[0,4,6,8,10,11,12,13,99]else[6,7,8,9]else if i<25 then[6,8,11,12,13]else[6,7,8,9]
def GN (i:Nat):ao:=if i=2 then⟨[],[0,1,2,3,4,5,6],[[],[],[],[0],[0,1,3],[0,1,2,3,4],[0,1,2,3,4,5]],[]⟩else if i=7 then⟨[7],[0,1,2,3,4,5,6,8],[[],[0],[],[],[2,3],[2,3,4],[0,1,2,3,4,5],[],[0,1,2,3,4,5,6,7]],[]⟩else if i=15 then⟨[],[0,1,2,3,4,5,6,7,8,9,10],[[],[],[1],[],[3],[3,4],[3,4,5],[0],[0,1,2,7],[0,1,2,3,4,5,6,7,8],[0,1,2,3,4,5,6,7,8,9]],[]⟩else if i=23 then⟨[],[0,1,2,3,4,5,6,7,8],[[],[],[],[],[2,3],[0,2,3,4],[0,1,2,3,4,5],[0,1,2,3,4,5,6],[0,1,2,3,4,5,6,7]],[]⟩else if i=25 then⟨[],[0,1,2,3,4,5,6,7,8],[[],[],[],[],[2,3],[0,2,3,4],[0,1,2,3,4,5],[0,1,2,3,4,5,6],[0,1,2,3,4,5,6,7]],[]⟩else⟨[],[],[],[]⟩
def CJ:au:=⟨[6,8,12],LH,GN⟩
theorem aiD:av PP CJ Tryz.f156.ntmps vG=true:=by kernel_rfl
attribute [irreducible] PP
end Go.Proofs.Ybk

import Derived.Test.YtbcdmljanolkeaaGreatDoorMg
import Derived.Test.YtbcdmljanolkeaaGreatDoorMh
import Derived.ChangeShapes
set_option linter.unusedVariables false
set_option linter.unusedSimpArgs false
set_option linter.unusedSectionVars false
set_option linter.constructorNameAsVariable false
set_option linter.defProp false
set_option maxRecDepth 20000
namespace Go.Proofs.Ybk.K
open Go Go.Am
set_option maxHeartbeats 4000000
open V (au aR ai aK aE fa kV Ri fj eL eZ)
open T (lI)
def Ca{v:ai}(M:fT v){k:Int}(hk:k∈v.aD):fQ v k∈v.ag/\v.ag[k.toNat]? =some (fQ v k):=by
 have hkb:=v7 M k hk;have hi:k.toNat<v.ag.length:=by omega
 have e:fQ v k=v.ag[k.toNat]:=by unfold fQ;rw[bu,aq hi];rfl
 rw[e];exact⟨fG hi,aq hi⟩
def Pz{v:ai}(M:fT v):∀l∈dN v,l.lu:=by
 have hg:=M.aV;have hr:=M.bA;intro l hx;unfold dN at hx;rcases eH.1 hx with hx|hx
 .simp only[cJ,List.not_mem_nil,or_false]at hx;rcases hx with rfl|rfl
  .exact hg
  .exact hr
 .rcases eH.1 hx with hx|hx
  .obtain⟨s,hs,rfl⟩:=dO.1 hx;obtain⟨i,hi,rfl⟩:=List.getElem_of_mem hs;have:=M.ef (aq hi);simp only[Ln.lu];omega
  .rcases eH.1 hx with hx|hx
   .obtain⟨k,hk,rfl⟩:=dO.1 hx;have:=M.ef (Ca M hk).2;simp only[Ln.lu];omega
   .obtain⟨p,hp,rfl⟩:=dO.1 hx;obtain⟨i,hi,rfl⟩:=List.getElem_of_mem hp;have:=M.gy (aq hi);simp only[Ln.lu];omega
def aa0{v:ai}(M:fT v):Ri v.aD:=by
 have h:=M.aD;unfold V.iw at h;simp only[bQ,cz]at h;have up:∀j a b,v.aD[j]? =some a->v.aD[j+1]? =some b->a<b:=by
  intro j a b ha hb;have hlt:=(cP.mp hb).1;have:=h.1 (j+1) (dF.2 hlt);unfold V.gT at this;rw[hb]at this;simp only[sd,ha,bQ,kY,de]at this;omega
 have key:∀(d j:Nat)(a b:Int),v.aD[j]? =some a->v.aD[j+d+1]? =some b->a<b:=by
  intro d;induction d with
  |zero=>exact up
  |succ d ih=>
   intro j a b q1 q2;have hlt:=(cP.mp q2).1;have q3:v.aD[j+d+1]? =some v.aD[j+d+1]:=aq (by omega);have r1:=ih j a _ q1 q3;have r2:=up _ _ _ q3 (by rw[show j+d+1+1=j+(d+1)+1 by omega];exact q2);omega
 unfold Ri;rw[List.pairwise_iff_getElem];intro a b ha hb hab;exact key (b-a-1) a _ _ (aq ha) (by rw[show a+(b-a-1)+1=b by omega];exact aq hb)
def ajq{l:List au}(h:l.Pairwise (λa b=>fa a b=true)):kV l:=by
 intro i j a b hij ha hb;obtain⟨hi,rfl⟩:=cP.mp ha;obtain⟨hj,rfl⟩:=cP.mp hb;have:=(List.pairwise_iff_getElem.1 h) i j hi hj hij;rw[<-mq,V.lp];rw[V.lp]at this;omega
def ajp{l:List au}(h:l.Pairwise (λa b=>fa a b=true)){a:Nat}{s:au}(ha:l[a]? =some s):eL (eZ s) l=a:=by
 refine V.xS ha (by simp[eZ]) (λj t hj ht=>?_);obtain⟨h1,rfl⟩:=cP.mp ha;obtain⟨h2,rfl⟩:=cP.mp ht;have:=(List.pairwise_iff_getElem.1 h) j a h2 h1 hj;rw[V.lp]at this;simp only[eZ,Bool.and_eq_false_iff,lP];omega
def aiO{v:ai}(hm:aK v=true):(fp (gW v)).1=none/\nI (fp (gW v)).2=v:=by
 have M:=jF hm;have hpw:=Rk (PB hm);obtain⟨l1,l2,l3⟩:=A9 M;have l0:=M.len.1;have hdist:v.ag.Pairwise (λa b=>¬(a.row=b.row/\a.x=b.x)):=hpw.imp (fun{a b} q=>by rw[V.lp]at q;omega);have hri:=aa0 M;have fk:∀k∈v.aD,eL (eZ (fQ v k)) v.ag=k:=λk hk=>by
  rw[ajp hpw (Ca M hk).2];have:=v7 M k hk;omega
 have G:tM (dN v):=⟨Pz M,by rw[Ky];exact aX _,by rw[QU];exact aX _,by rw[Cd];exact hdist,by rw[Cd];exact l1,by rw[O3,cf];exact l2,by rw[QK];exact l3⟩;have qn:lI []:=λc hc=>by cases hc
 have hbare:∀l:Ln,List.replicate 0 32++(l.bytes++[])=l.bytes:=λl=>by simp
 have hgood:∀b∈(dN v).map Ln.bytes,vT b:=by
  intro b hb;obtain⟨l,hl,rfl⟩:=dO.1 hb;have:=ZW 0 [] T.QS qn l (Pz M l hl);rwa[hbare]at this
 obtain⟨r,f1,R⟩:=ZH 0 [] T.QS (dN v) [] gH 1 ajU (by rw[dJ];exact G);rw[dJ]at R;have hfold:oe ((dN v).map Ln.bytes) 1 gH=(r,none):=by
  rw[<-f1];congr 1;exact List.map_congr_left (λl _=>(hbare l).symm)
 obtain⟨Z1,Z2,Z3,Z4,Z5,Z6⟩:=R;rw[Ky]at Z2;rw[QU]at Z4;rw[Cd]at Z1;rw[QK]at Z6;rw[O3]at Z5;have hsne:r.ag≠[]:=by
  intro q;rw[q]at Z1;rw[<-Z1]at l0;simp at l0
 have hgne:r.aV≠0:=by
  rw[Z2];show v.aV≠0;have:=M.aV;omega
 have hkd:(r.aD.map sw).Nodup:=by
  show(r.aD.map (λk=>(k.row,k.x))).Nodup;rw[Z5];refine List.pairwise_map.2 ?_;refine List.Pairwise.imp_of_mem (R:=λa b=>a<b) (fun{a b} ha hb hab q=>?_) hri;simp only[bM]at q;have ka:=fk a ha;have kb:=fk b hb;have e:eZ (fQ v a)=eZ (fQ v b):=by
   funext z;unfold eZ;rw[q.1,q.2]
  rw[e,kb]at ka;omega
 obtain⟨ks,e1,e2⟩:=aaV r.ag r.aD [] (λk hk=>by
   have hk2:(k.row,k.x)∈v.aD.map (λk=>((fQ v k).row,(fQ v k).x)):=(by rw[<-Z5];exact List.mem_map_of_mem (f:=λk:kU=>(k.row,k.x)) hk);obtain⟨a,ha,q⟩:=dO.1 hk2;refine⟨fQ v a,?_,by simp only[bM]at q;exact q⟩;rw[Z1];exact(Ca M ha).1) hkd (λk _ i hi=>by cases hi)
 have hw:∀el ec,iC r el ec=(ks,none):=by
  intro el ec;unfold iC;rw[if_neg (by rintro(q|q);exact hsne q;exact hgne q),e1];rfl
 have hpar:fp (gW v)=(none,kT r ks):=by
  show fp (gk ((dN v).map Ln.bytes))=_;rw[aiL _ hgood,hfold];simp only;rw[hw]
 rw[hpar];refine⟨rfl,PR ⟨?_,ajq hpw,hri,?_,?_,?_,?_,hm⟩⟩
 .show v.ag.Perm r.ag;rw[Z1]
 .intro z;have hfa:∀s:au,eL (eZ s) v.ag=eL (λt:au=>decide (t.row=(s.row,s.x).1)&&decide (t.x=(s.row,s.x).2)) v.ag:=λs=>rfl;obtain⟨fA,hfA⟩:∃fA:Int×Int->Int,∀c,fA c=eL (λt:au=>decide (t.row=c.1)&&decide (t.x=c.2)) v.ag:=⟨_,λ_=>rfl⟩;have l1:(fj (kT r ks)).map (λs=>eL (eZ s) v.ag)=(v.aD.map (λk=>((fQ v k).row,(fQ v k).x))).map fA:=by
   rw[<-Z5];show _=(r.aD.map sw).map fA;rw[<-e2];show(ks.map (λk=>r.ag.getD k.toNat default)).map _=_;rw[vx,vx];refine List.map_congr_left (λk _=>?_);simp only[Function.comp];rw[hfa,hfA];rfl
  have l2:(v.aD.map (λk=>((fQ v k).row,(fQ v k).x))).map fA=v.aD:=by
   rw[vx,List.map_congr_left (g:=id) (λa ha=>?_),List.map_id];simp only[Function.comp,id];rw[hfA];exact fk a ha
  rw[l1,l2]
 .show v.aV=r.aV;rw[Z2];rfl
 .show v.bA=r.bA;rw[Z4];rfl
 .show v.aG=r.aG;rw[Z6]
def aje{v:ai}(hm:aK v=true):(gW v).length<=1048576:=by
 have M:=jF hm;obtain⟨l1,l2,l3⟩:=A9 M;have:=KW ((dN v).map Ln.bytes) (Pd M);have e:((dN v).map Ln.bytes).length=2+(v.ag.length+(v.aD.length+v.aG.length)):=by unfold dN;simp;omega
 show(gk ((dN v).map Ln.bytes)).length<=_;omega
end Go.Proofs.Ybk.K
namespace Go.Proofs.Ybk.K
open Go Go.Am
open V (au aR ai aK aE)
def amT{b:aI}{o:aB}(hm:l7 o=true){P Q:List aB}(hl:b.l=P++Q)(hid:o.id=(P.length:Int)+1):kA b (gI o)=some {b with l:=P++o::Q.tail}:=by
 have hr:jo (gI o)=true:=by
  unfold jo;rw[if_neg (by show¬(2:Int)=1;decide),if_pos (by show(2:Int)=2;rfl)];have e:gI (gI o).order=gI o:=rfl;rw[e];have e2:(gI o).order=o:=rfl;rw[e2,hm];simp
 unfold kA;rw[if_neg (by rw[hr];decide),if_neg (by show¬(2:Int)=1;decide),if_neg (by show¬(2:Int)=3;decide),if_pos (by show(2:Int)=2;rfl)];have e2:(gI o).order=o:=rfl;rw[e2,hl,hid,bH];cases Q with
 |nil=>rw[if_neg (by simp),if_pos (by simp)];simp
 |cons a t=>
  rw[if_neg (by rw[eW];omega),if_neg (by rw[eW];omega)];rw[show((P.length:Int)+1).toNat-1=P.length by omega,List.set_append_right _ _ (aX _),oS,List.set_cons_zero];rfl
def RI:∀(ns os P:List aB)(b:aI),b.l=P++os->os.length<=ns.length->gV P.length ns->(∀o∈ns,l7 o=true)->gb (fZ ns os) b=some {b with l:=P++ns}:=by
 intro ns;induction ns with
 |nil=>
  intro os P b hl hlen _ _;have:os=[]:=mY.1 (by simpa using hlen);subst this;rw[fZ,gb,<-hl]
 |cons o r ih=>
  intro os P b hl hlen hok hm;obtain⟨h1,h2⟩:=hok;have hid:o.id=(P.length:Int)+1:=h1.1;have h2':gV (P++[o]).length r:=by rw[bH,jz];exact h2
  have hr:=λx hx=>hm x (eI _ hx);rw[fZ];by_cases q:os.head? =some o
  .rw[if_pos q,dJ];cases os with
   |nil=>simp at q
   |cons a t=>
    simp only[List.head?_cons,av]at q;subst q;rw[List.tail_cons,ih t (P++[a]) b (by rw[hl];simp) (by simpa using hlen) h2' hr];simp
  .rw[if_neg q];show gb (gI o::fZ r os.tail) b=_;rw[gb,amT (hm o dU) hl hid];show gb (fZ r os.tail) {b with l:=P++o::os.tail}=_;rw[ih os.tail (P++[o]) {b with l:=P++o::os.tail} (by simp) (by rw[List.length_tail];simp at hlen;omega) h2' hr];simp
def Yu{n N:Nat}{b:aI}(H:Good b)(OK:eF N b)(hN:N<=1000000)(hn:2*b.fuel.toNat+1<=n)(c:CmdR)(hc:c.text.length<=1048576)(h0:(bZ n b c).2.code=0):
  gb (kQ (bZ n b c).1 b c).dropLast b=some (bZ n b c).1:=by
 have G:=xX H OK hn c;have OK':=oY n c OK;have OM:=G.l7 (by have:=OK'.len;omega);have Q:=um n b c;have key:∃pre b1,gb pre b=some b1/\b1.l=b.l/\(bZ n b c).1={b1 with l:=(bZ n b c).1.l}/\
   (if c.kind=1 then[({kf with kind:=1,text:=c.text}:dW)]else if c.kind=5 then[{kf with kind:=3,time:=(bZ n b c).1.now}]else[])=pre:=by
  by_cases k1:c.kind=1
  .have e:bZ n b c=kJ b c.text:=(by unfold bZ;rw[if_neg (by omega),if_pos k1]);rw[e]at h0 ⊢;unfold kJ at h0 ⊢;split at h0
   .cases h0
   .rename_i hz;rw[if_neg hz];split at h0
    .cases h0
    .rename_i hp;refine⟨[gJ c.text],{b with v:=nI (fp c.text).2,has:=true},?_,rfl,?_,by rw[if_pos k1];rfl⟩
     .rw[gb];have hr:jo (gJ c.text)=true:=by
       unfold jo;rw[if_pos (by show(1:Int)=1;rfl)];have e:(gJ c.text).text=c.text:=rfl;rw[e];simp;exact hc
      unfold kA;rw[if_neg (by rw[hr];decide),if_pos (by show(1:Int)=1;rfl)];have e:(gJ c.text).text=c.text:=rfl;rw[e,hp];rfl
     .rfl
  by_cases k5:c.kind=5
  .have e:bZ n b c=iR b c.a:=(by unfold bZ;rw[if_neg (by omega),if_neg k1,if_pos k5]);rw[e]at h0 ⊢;by_cases hr:1<=c.a/\c.a<=1000000/\b.now+c.a<=1099511627776;rotate_left
   .unfold iR at h0;rw[if_pos (by omega)]at h0;cases h0
   .rw[Cs b c.a hr];have n0:=OK.n0;refine⟨[iP (b.now+c.a)],{b with now:=b.now+c.a},?_,rfl,rfl,by rw[if_neg k1,if_pos k5];rfl⟩;rw[gb];have hm:jo (iP (b.now+c.a))=true:=by
     unfold jo;rw[if_neg (by show¬(3:Int)=1;decide),if_neg (by show¬(3:Int)=2;decide),if_pos (by show(3:Int)=3;rfl)];have e:(iP (b.now+c.a)).time=b.now+c.a:=rfl;rw[e];unfold aE;simp;omega
    unfold kA;have e:(iP (b.now+c.a)).time=b.now+c.a:=rfl;rw[if_neg (by rw[hm];decide),if_neg (by show¬(3:Int)=1;decide),if_pos (by show(3:Int)=3;rfl),e,if_pos (by omega)];rfl
  .obtain⟨q1,q2,q3,q4⟩:=Q.rest k1 k5;refine⟨[],b,rfl,rfl,?_,by rw[if_neg k1,if_neg k5]⟩;rw[<-q1,<-q2,<-q3,<-q4]
 obtain⟨pre,b1,t1,t2,t3,t4⟩:=key;have hS:gb (pre++fZ (bZ n b c).1.l b.l) b=some (bZ n b c).1:=by
  rw[zm,t1,ep,RI _ b.l [] b1 (by rw[t2];rfl) Q.len G.ids OM,dJ,<-t3]
 by_cases hz:kQ (bZ n b c).1 b c=[]
 .rw[hz,BO n b c hz];rfl
 .unfold kQ at hz ⊢;simp only at hz ⊢;rw[t4]at hz ⊢;by_cases q:pre++fZ (bZ n b c).1.l b.l=[]
  .rw[if_pos q]at hz;exact absurd rfl hz
  .rw[if_neg q,List.dropLast_concat];exact hS
def akO{b was:aI}{c:CmdR}(h:kQ b was c≠[]):(kQ b was c).getLast? =some recC:=by
 unfold kQ at h ⊢;simp only at h ⊢;generalize (if c.kind=1 then[({kf with kind:=1,text:=c.text}:dW)]else if c.kind=5 then[{kf with kind:=3,time:=b.now}]else[])++fZ b.l was.l=out at h ⊢;by_cases q:out=[]
 .rw[if_pos q]at h;exact absurd rfl h
 .rw[if_neg q,List.getLast?_append];rfl
def Yr{n N:Nat}{b:aI}(H:Good b)(OK:eF N b)(hN:N<=1000000)(hn:2*b.fuel.toNat+1<=n)(c:CmdR)(hc:c.text.length<=1048576)(hr:j4 n b c≠[]):
  (bZ n b c).2.code=0/\oT b (j4 n b c)=((bZ n b c).1,0):=by
 unfold j4 at hr ⊢;by_cases h0:(bZ n b c).2.code=0
 .rw[if_neg (by rw[h0];decide)]at hr ⊢;refine⟨h0,?_⟩;unfold oT;rw[if_pos (akO hr),Yu H OK hN hn c hc h0];simp only;rw[(xX H OK hn c).may];rfl
 .rw[if_pos h0]at hr;exact absurd rfl hr
def Yt(n:Nat)(b:aI)(c:CmdR)(hr:j4 n b c=[]):(bZ n b c).1=b:=by
 unfold j4 at hr;by_cases h0:(bZ n b c).2.code=0
 .rw[if_neg (by rw[h0];decide)]at hr;exact BO n b c hr
 .exact((um n b c).bad h0).1
def bare(b:aI):Prop:=b.has=false->b.v=⟨[],0,0,[],[]⟩
def Wa(n:Nat)(b:aI)(c:CmdR)(h:bare b):bare (bZ n b c).1:=by
 unfold bare at h ⊢;by_cases k1:c.kind=1
 .have e:bZ n b c=kJ b c.text:=by unfold bZ;rw[if_neg (by omega),if_pos k1]
  rw[e];unfold kJ;split
  .exact h
  .split
   .exact h
   .intro q;cases q
 by_cases k5:c.kind=5
 .have e:bZ n b c=iR b c.a:=by unfold bZ;rw[if_neg (by omega),if_neg k1,if_pos k5]
  rw[e];unfold iR;split<;>exact h
 .obtain⟨q1,q2,q3,q4⟩:=(um n b c).rest k1 k5;rw[q2,q3];exact h
def akN:∀l:List aB,fZ l []=l.map gI:=by
 intro l;induction l with
 |nil=>rfl
 |cons o r ih=>rw[fZ,if_neg (by simp),List.tail_nil,ih];rfl
def ajB{N:Nat}{a:aI}(H:Good a)(OK:eF N a)(hN:N<=1000000)(hb:bare a):oT (eP a.fuel) (ku a)=(a,0):=by
 have OM:=H.l7 (by have:=OK.len;omega);have hR:ku a=((if a.has then[gJ (gW a.v)]else[])++(iP a.now::a.l.map gI))++[recC]:=by unfold ku;simp
 have hlast:(ku a).getLast? =some recC:=by rw[hR,List.getLast?_append];rfl
 have hdrop:(ku a).dropLast=(if a.has then[gJ (gW a.v)]else[])++(iP a.now::a.l.map gI):=by
  rw[hR,List.dropLast_concat]
 have h1:gb (if a.has then[gJ (gW a.v)]else[]) (eP a.fuel)=some {eP a.fuel with has:=a.has,v:=a.v}:=by
  cases hh:a.has with
  |false=>
   have:=hb hh;rw[this];rfl
  |true=>
   have hm:=OK.may hh;obtain⟨p1,p2⟩:=aiO hm;simp only[if_true];rw[gb];have hr:jo (gJ (gW a.v))=true:=by
    unfold jo;rw[if_pos (by show(1:Int)=1;rfl)];have e:(gJ (gW a.v)).text=gW a.v:=rfl;rw[e];simp;exact aje hm
   unfold kA;have e:(gJ (gW a.v)).text=gW a.v:=rfl;rw[if_neg (by rw[hr];decide),if_pos (by show(1:Int)=1;rfl),e,p1];simp only;rw[p2];rfl
 have h2:kA {eP a.fuel with has:=a.has,v:=a.v} (iP a.now)=some {eP a.fuel with has:=a.has,v:=a.v,now:=a.now}:=by
  have n0:=OK.n0;have n1:=OK.n1;have hm:jo (iP a.now)=true:=by
   unfold jo;rw[if_neg (by show¬(3:Int)=1;decide),if_neg (by show¬(3:Int)=2;decide),if_pos (by show(3:Int)=3;rfl)];have e:(iP a.now).time=a.now:=rfl;rw[e];unfold aE;simp;omega
  unfold kA;have e:(iP a.now).time=a.now:=rfl;rw[if_neg (by rw[hm];decide),if_neg (by show¬(3:Int)=1;decide),if_pos (by show(3:Int)=3;rfl),e,if_pos (by exact n0)]
 unfold oT;rw[if_pos hlast,hdrop,zm,h1,ep,gb,h2];have h3:=RI a.l [] [] {eP a.fuel with has:=a.has,v:=a.v,now:=a.now} rfl (Nat.zero_le _) H.ids OM;rw[akN,dJ]at h3;have e:({eP a.fuel with has:=a.has,v:=a.v,now:=a.now,l:=a.l}:aI)=a:=rfl;have h3':gb (a.l.map gI) {eP a.fuel with has:=a.has,v:=a.v,now:=a.now}=some a:=h3;simp only;rw[h3'];simp only;rw[H.may];rfl
end Go.Proofs.Ybk.K
namespace Go.Proofs.Ybk.K
open Go Go.Am
set_option maxHeartbeats 4000000
open V (au aR ai ao aZ ab bg aK aE cA cG a8 bL qH qI)
open F (cC)
def akq(s u:Value)(xs ys:List dW)(hl:xs.length<=1073741824)(h:aa)(Hs:dt 73 eD h s xs)(Hu:dt 73 eD h u ys):al PP 20 [s,u] h (λr h'=>h'=h/\r= .bool (decide (xs=ys))):=by
 refine aC Tryz.func20 af4 ?_;simp only[aA,Tryz.f20];obtain⟨ad1,c1,rfl⟩:=Hs.shape;obtain⟨ad2,c2,rfl⟩:=Hu.shape;by_cases q:(xs.length:Int)=ys.length;rotate_left
 .have:¬xs=ys:=λe=>q (by rw[e]);simp -implicitDefEqProofs[q,this]
 obtain⟨m,hm⟩:=nm xs.length;have hm2:ys.length=m:=by omega
 rw[<-hm]at Hs hl ⊢;rw[hm2]at Hu ⊢;clear q;obtain⟨D,hD⟩:=nm (decide (xs=ys));rw[<-hD];simp -implicitDefEqProofs;refine bG (CH (.slice ad1 m c1) (.slice ad2 m c2) xs ys m h) _ ⟨0,rfl,by omega,rfl,by simp⟩ ?_;rintro n ⟨T,⟨x,H⟩⟩ ⟨i,rfl,hi,hH,g0,g1,g5,ht⟩;simp at hH g0 g1 g5;subst hH;simp -implicitDefEqProofs[g0,g1,g5];refine bR (λhc=>?_) (λhc=>?_)
 .have him:i<m:=by omega
  have hA:xs[i]? =some xs[i]:=aq (by omega);have hB:ys[i]? =some ys[i]:=aq (by omega);obtain⟨_,b1,o1,wb1,cs1,r1,rfl,bD,hd1,hl1,_⟩:=Hs.at 9 wM hA;obtain⟨_,b2,o2,wb2,cs2,r2,rfl,bN,hd2,hl2,_⟩:=Hu.at 9 wM hB;obtain⟨a',hea⟩:∃z,z=xs[i]:=⟨_,rfl⟩;obtain⟨b',heb⟩:∃z,z=ys[i]:=⟨_,rfl⟩;rw[<-hea]at hd1 hA;rw[<-heb]at hd2 hB;have w1:=bO (i:=i) (by omega);obtain⟨kd,tx,⟨id,st,⟨sz,wh⟩,tl,fi⟩,tm⟩:=a';obtain⟨kd2,tx2,⟨id2,st2,⟨wX,wh2⟩,tl2,fi2⟩,tm2⟩:=b';simp -implicitDefEqProofs[g0,g1,g5,him,bD,bN,hd1,hd2,hl1,hl2,eD,PH];refine jk (λhq=>?_) (λhq=>?_)
  .have hne:¬xs=ys:=qH hA hB (λe=>by simp only[dW.mk.injEq,aB.mk.injEq,aQ.mk.injEq]at e;simp[e.1,e.2.1,e.2.2.1.1,e.2.2.1.2.1,e.2.2.1.2.2.1.1,e.2.2.1.2.2.1.2,e.2.2.1.2.2.2.1,e.2.2.1.2.2.2.2,e.2.2.2]at hq);simp -implicitDefEqProofs;rw[hD];simp[hne]
  .simp at hq;obtain⟨rfl,hq2,⟨rfl,rfl,⟨rfl,rfl⟩,rfl,rfl⟩,rfl⟩:=hq;have hq2:tx=tx2:=(by first|exact hq2|exact xe hq2);subst hq2;simp -implicitDefEqProofs[g0,g1,g5,w1];exact⟨m-(i+1),by omega,i+1,rfl,by omega,rfl,by simp[g0],by simp[g1],by simp,qI hA hB ht⟩
 .have e:i=m:=by omega
  subst e;have he:xs=ys:=by rw[b9 (by omega),b9 (by omega)]at ht;exact ht
  simp -implicitDefEqProofs;rw[hD];simp[he]
def akP:∀l was:List aB,(fZ l was).length<=l.length:=by
 intro l;induction l with
 |nil=>intro was;exact aX _
 |cons o r ih=>
  intro was;rw[fZ,bH,eW];have:=ih was.tail;split
  .simp;omega
  .simp;omega
def Yp(n:Nat)(b:aI)(c:CmdR):(j4 n b c).length<=(bZ n b c).1.l.length+2:=by
 unfold j4 kQ;split
 .exact Nat.zero_le _
 .simp only;have h:=akP (bZ n b c).1.l b.l;have hp:(if c.kind=1 then[({kf with kind:=1,text:=c.text}:dW)]else if c.kind=5 then[{kf with kind:=3,time:=(bZ n b c).1.now}]else[]).length<=1:=by
   split
   .exact aX _
   .split
    .exact aX _
    .exact Nat.zero_le _
  generalize (if c.kind=1 then[({kf with kind:=1,text:=c.text}:dW)]else if c.kind=5 then[{kf with kind:=3,time:=(bZ n b c).1.now}]else[])=pre at hp ⊢;split
  .exact Nat.zero_le _
  .rw[bH,bH,jz];omega
def jP(h0 h:aa)(a a2 a3:Nat)(b b2 b3:aI):Prop:=∃vc ov o vc2 ov2 o2 vc3 ov3 o3,bC h0 h a b vc ov o/\bC h0 h a2 b2 vc2 ov2 o2/\bC h0 h a3 b3 vc3 ov3 o3/\
 (∀x∈a::o.toList,x∉a2::o2.toList)/\(∀x∈a::o.toList,x∉a3::o3.toList)/\(∀x∈a2::o2.toList,x∉a3::o3.toList)
section
variable {h0 h h':aa} {a a2 a3:Nat} {b b2 b3:aI}
def jP.tA(T:jP h0 h a a2 a3 b b2 b3):jP h0 h a2 a3 a b2 b3 b:=by
 obtain⟨vc,ov,o,vc2,ov2,o2,vc3,ov3,o3,B,B2,B3,D1,D2,D3⟩:=T;exact⟨vc2,ov2,o2,vc3,ov3,o3,vc,ov,o,B2,B3,B,D3,λx hx z=>D1 x z hx,λx hx z=>D2 x z hx⟩
def jP.swap(T:jP h0 h a a2 a3 b b2 b3):jP h0 h a2 a a3 b2 b b3:=by
 obtain⟨vc,ov,o,vc2,ov2,o2,vc3,ov3,o3,B,B2,B3,D1,D2,D3⟩:=T;exact⟨vc2,ov2,o2,vc,ov,o,vc3,ov3,o3,B2,B,B3,λx hx z=>D1 x z hx,D3,D2⟩
def jP.ext(T:jP h0 h a a2 a3 b b2 b3)(E:Ext h h'):jP h0 h' a a2 a3 b b2 b3:=by
 obtain⟨vc,ov,o,vc2,ov2,o2,vc3,ov3,o3,B,B2,B3,D⟩:=T;exact⟨vc,ov,o,vc2,ov2,o2,vc3,ov3,o3,B.exts E,B2.exts E,B3.exts E,D⟩
def jP.step(T:jP h0 h a a2 a3 b b2 b3):∃vc ov o,bC h0 h a b vc ov o/\∀h' b',cN h0 h h' a o b'->jP h0 h' a a2 a3 b' b2 b3/\Kp h h':=by
 obtain⟨vc,ov,o,vc2,ov2,o2,vc3,ov3,o3,B,B2,B3,D1,D2,D3⟩:=T;refine⟨vc,ov,o,B,?_⟩;rintro h' b' ⟨vc',ov',o',B',C,D'⟩;have key:∀{a2:Nat}{b2:aI}{vc2:List Value}{ov2:Value}{o2:Option Nat},bC h0 h a2 b2 vc2 ov2 o2->(∀x∈a::o.toList,x∉a2::o2.toList)->∀x∈a::o'.toList,x∉a2::o2.toList:=by
  intro a2 b2 vc2 ov2 o2 B2 D x hx z;rcases cJ.1 hx with e|hx
  .exact D a dU (e ▸ z)
  .rcases D' x (by simpa using hx)with q|q
   .exact D x (eI _ (by simpa using q)) z
   .have:=(B2.own x z).2;omega
 exact⟨⟨vc',ov',o',vc2,ov2,o2,vc3,ov3,o3,B',B2.other B C (λx hx z=>D1 x z hx),B3.other B C (λx hx z=>D2 x z hx),key B2 D1,key B3 D2,D3⟩,C.kp B.iQ⟩
def jP.e(T:jP h0 h a a2 a3 b b2 b3):Ext h0 h:=by
 obtain⟨vc,ov,o,B,_⟩:=T.step;exact B.ext
def wZ(T:jP h0 h a a2 a3 b b b3)(hv:V.lz b.v)(hl:b.l.length<=1048576):al PP 18 [.pointer (some ⟨a,0,none⟩),.pointer (some ⟨a2,0,none⟩)] h (λr h'=>h'=h/\r= .bool true):=by
 obtain⟨vc,ov,o,B,_⟩:=T.step;obtain⟨vc2,ov2,o2,B2,_⟩:=T.tA.step;refine(zY hv hl B B2).mono ?_;rintro r h' ⟨e,rfl⟩;exact⟨e,by rw[Rh]⟩
end
def J4(h:aa)(a a2 a3:Nat)(cv lv:Value)(m n:Nat)(σ:St):Prop:=∃(i:Nat)(b:aI),n=m-i/\i<=m/\jP h σ.m.h a a2 a3 b b (eP 300)/\eF i b/\Good b/\bare b/\b.fuel=300/\V.lz b.v/\
 σ.t.get 0=some lv/\σ.t.get 1=some cv/\σ.t.get 5=some (.pointer (some ⟨a,0,none⟩))/\σ.t.get 6=some (.pointer (some ⟨a2,0,none⟩))/\σ.t.get 7=some (.pointer (some ⟨a3,0,none⟩))/\σ.t.get 8=some (.int .i64 (i:Nat))
def ajC(l:List Int)(cs:List CmdR)(lv cv:Value)(hl:l.length<=4611686018427387904)(hcl:cs.length<=9223372036854775807)(h:aa)(G:cC h)(Hl:a8 h lv l)(Hc:vo h cv cs):
  al PP 4 [lv,cv] h (λr h'=>Ext h h'/\r= .bool true):=by
 refine aC Tryz.func4 ahj ?_;simp only[aA,Tryz.f4];have hfew:=Av cv cs 25 hcl h Hc;obtain⟨ad1,c1,rfl⟩:=Hl.shape;obtain⟨ad2,c2,rfl⟩:=Hc.shape;simp -implicitDefEqProofs;refine hfew.mono ?_;clear hfew;rintro r H0 ⟨rfl,rfl⟩;simp -implicitDefEqProofs[af];intro _;by_cases q:pa cs 25=true;rotate_left
 .simp only[mq]at q;simp -implicitDefEqProofs[af,q];refine(vk H0 G).mono ?_;rintro r H2 ⟨E,rfl⟩;simp -implicitDefEqProofs[af];intro _;exact E
 simp -implicitDefEqProofs[af,q];refine(rz 300 (by decide) (by decide) H0).mono ?_;rintro r H1 ⟨a,vc,ov,rfl,B⟩;simp -implicitDefEqProofs[af];intro _;refine(rz 300 (by decide) (by decide) H1).mono ?_;rintro r H2 ⟨a2,vc2,ov2,rfl,B2⟩;simp -implicitDefEqProofs[af];intro _;refine(rz 300 (by decide) (by decide) H2).mono ?_;rintro r H3 ⟨a3,vc3,ov3,rfl,B3⟩;have T0:jP H0 H3 a a2 a3 (eP 300) (eP 300) (eP 300):=by
  have B1':=B.exts B2.ext;refine⟨vc,ov,none,vc2,ov2,none,vc3,ov3,none,B1'.exts B3.ext,(B2.low B.ext).exts B3.ext,(B3.low B2.ext).low B.ext,λx hx z=>?_,λx hx z=>?_,λx hx z=>?_⟩
  .have h1:=(B.own x hx).2;have h2:=(B2.own x z).1;omega
  .have h1:=(B1'.own x hx).2;have h2:=(B3.own x z).1;omega
  .have h1:=(B2.own x hx).2;have h2:=(B3.own x z).1;omega
 simp -implicitDefEqProofs[af];intro _;obtain⟨q1,q2⟩:(∀c∈cs,c.text.length<=300)/\cs.length<=25:=by
  unfold pa at q;simp at q;exact⟨q.1,by omega⟩
 obtain⟨m,hm⟩:=nm cs.length;rw[<-hm]at Hc q2 ⊢;refine bG (J4 H0 a a2 a3 (.slice ad2 m c2) (.slice ad1 l.length c1) m) _ ⟨0,eP 300,rfl,by omega,T0,wq 300 (by decide) (by decide),KC 300,λ_=>rfl,rfl,PM 300,by simp⟩ ?_;clear B vc ov B2 vc2 ov2 B3 vc3 ov3 q T0;rintro n0 ⟨T,⟨x,F⟩⟩ ⟨i,b,rfl,hi,TT,OKb,GDb,BRb,hfu,hsm,g0,g1,g5,g6,g7,g8⟩;simp at TT g0 g1 g5 g6 g7 g8;simp -implicitDefEqProofs[g0,g1,g5,g6,g7,g8];refine bR (λhc=>?_) (λhc=>?_);rotate_left
 .simp -implicitDefEqProofs[g5,g6,g7];refine(vk F (G.ext TT.e)).mono ?_;rintro r H4 ⟨E4,rfl⟩;have T4:=TT.ext E4;obtain⟨vc,ov,o,B,_⟩:=T4.step;simp -implicitDefEqProofs[af,g5,g6,g7];intro _;have hlen:=OKb.len;refine(yZ (by omega) OKb.may (G.ext (Ext.bJ H0)) B).mono ?_;rintro r H5 ⟨E5,S5⟩;obtain⟨ae,ce,rfl⟩:=S5.shape;have T5:=T4.ext E5;obtain⟨vc3,ov3,o3,B3,st3⟩:=T5.tA.tA.step;have hrl:(ku b).length<=40:=by unfold ku;cases b.has<;>simp<;>omega
  simp -implicitDefEqProofs[af,g5,g6,g7];intro _;refine(zV (N:=0) (wq 300 (by decide) (by decide)) (ku b) (by omega) _ S5 B3).mono ?_;rintro r6 H6 ⟨Q6,rfl⟩;have hap:=ajB GDb OKb (by omega) BRb;rw[hfu]at hap;rw[hap]at Q6 ⊢;obtain⟨T6,K6⟩:=st3 H6 b Q6;have T6':=T6.tA;simp -implicitDefEqProofs[af,g5,g6,g7];intro _;refine cE (wZ (a:=a3) (a2:=a) (a3:=a2) (b3:=b) T6 hsm (by omega)) ?_;simp -implicitDefEqProofs[af,g5,g6,g7];intro _;obtain⟨vc,ov,o,Bc,_⟩:=T6.step;refine(yZ (by omega) OKb.may G Bc).mono ?_;rintro r8 H8 ⟨E8,S8⟩;obtain⟨ae8,ce8,rfl⟩:=S8.shape;have T8:=T6'.ext E8;obtain⟨vc,ov,o,Ba,_⟩:=T8.step;simp -implicitDefEqProofs[af,g5,g6,g7];intro _;refine(yZ (by omega) OKb.may G Ba).mono ?_;rintro r9 H9 ⟨E9,S9⟩;obtain⟨ae9,ce9,rfl⟩:=S9.shape;simp -implicitDefEqProofs[af,g5,g6,g7];intro _;refine cE (akq _ _ (ku b) (ku b) (by omega) H9 (S8.ext E9).sl S9.sl) ?_;simp -implicitDefEqProofs[af];intro _;exact(T8.ext E9).e
 have hil:i<m:=by omega
 have hti:cs[i]? =some cs[i]:=aq (by omega);obtain⟨_,bb,oo,wb,cl,r,rfl,hb,hd,hlc,_⟩:=(Hc.ext TT.e).at 5 oV hti;obtain⟨t,ht⟩:=nm cs[i];rw[<-ht]at hd hti;have htx:=q1 t (dE hti);have hlc':oo+i*5+5<=cl.length:=by omega
 have hd5:List.take 5 (List.drop (oo+i*5) cl)=cmdC t:=by rw[hd];rfl
 have hfit:=AA t htx (i:Nat) l hl _ F (Hl.ext TT.e);simp only[cH]at hfit;simp -implicitDefEqProofs[g0,g1,g5,g6,g7,g8,hil,hb,hd5,hlc'];refine hfit.mono ?_;clear hfit;rintro r1 H2 ⟨E2,t',rfl,htx'⟩;have T2:=TT.ext E2;simp -implicitDefEqProofs[af,cH,cmdC];intro _;obtain⟨vc,ov,o,B,st1⟩:=T2.step;have hdo:=xK OKb (by omega) 601 (by rw[hfu];decide) t' (by omega) G B;simp only[cH,cmdC]at hdo;refine hdo.mono ?_;clear hdo;intro r3 H4 HD;obtain⟨Q4,ad4,n4,cc4,ad5,n5,c5,rfl,e4,S4,e5,S5⟩:=HD.r;have hn2:2*b.fuel.toNat+1<=601:=by rw[hfu];decide
 obtain⟨T4,K4⟩:=st1 H4 _ Q4;have OK4:=oY 601 t' OKb;have GD4:=xX GDb OKb hn2 t';have BR4:=Wa 601 b t' BRb;have F4:=Ak 601 b t';have SM4:=IF 601 b t' hsm;have hap:=Yr GDb OKb (by omega) hn2 t' (by omega);have hno:=Yt 601 b t';clear Q4 HD S4 e4;obtain⟨b',R,hbR⟩:∃b' R,bZ 601 b t'=(b',R):=⟨_,_,rfl⟩;obtain⟨rs,hrs⟩:=nm (j4 601 b t');have hrl:rs.length<=40:=by
  rw[hrs];have:=Yp 601 b t';have:=OK4.len;omega
 rw[hbR]at OK4 GD4 BR4 F4 SM4 T4 hap hno;rw[<-hrs]at hap hno e5 S5;simp only at OK4 GD4 BR4 F4 SM4 T4 hap hno;rw[hbR];clear hlc hlc' hd hd5 hb;have w3:=bO (i:=i) (by omega);have hlen4:=OK4.len;simp -implicitDefEqProofs[af];intro _;by_cases hA:rs=[]
 .have hb':=hno hA;subst hb';have k3:n5=0:=by rw[e5,hA];rfl
  subst k3;simp -implicitDefEqProofs;refine(wZ T4 SM4 (by omega)).mono ?_;rintro r6 H6 ⟨rfl,rfl⟩;simp -implicitDefEqProofs[af];intro _;have T4':jP H0 H6 a2 a a3 b' b' (eP 300):=T4.swap;refine(wZ T4' SM4 (by omega)).mono ?_;rintro r7 H7 ⟨rfl,rfl⟩;simp -implicitDefEqProofs[af];intro _;exact⟨m-(i+1),by omega,i+1,b',rfl,by omega,T4,OK4,GD4,BR4,by rw[F4,hfu],SM4,by simp[w3]⟩
 .obtain⟨k1,k2⟩:=hap hA;have k3:0<n5:=by rw[e5];exact sf.2 hA
  have k3':(0:Int)<n5:=by omega
  simp -implicitDefEqProofs[k1,k3,k3'];obtain⟨vc2,ov2,o2,B2,st2⟩:=T4.tA.step;refine(zV OKb rs (by omega) _ S5 B2).mono ?_;rintro r6 H6 ⟨Q6,rfl⟩;rw[k2]at Q6 ⊢;obtain⟨T6,K6⟩:=st2 H6 b' Q6;simp -implicitDefEqProofs[af];intro _;have T6a:jP H0 H6 a a2 a3 b' b' (eP 300):=T6.tA.tA;refine(wZ T6a SM4 (by omega)).mono ?_;rintro r6 H7 ⟨rfl,rfl⟩;simp -implicitDefEqProofs[af];intro _;have T6b:jP H0 H7 a2 a a3 b' b' (eP 300):=T6a.swap;refine cE (wZ T6b SM4 (by omega)) ?_;simp -implicitDefEqProofs[af];intro _;exact⟨m-(i+1),by omega,i+1,b',rfl,by omega,T6a,OK4,GD4,BR4,by rw[F4,hfu],SM4,by simp[w3]⟩
end Go.Proofs.Ybk.K
namespace Go.Proofs.YtbcdmljanolkeaaGreatDoor.AmBookRecords
open Go Go.Am Go.RowKit
def vN(l:List Int):l.flatMap Ybk.V.ab=l.map (Value.int .i64):=by
 induction l with
 |nil=>rfl
 |cons n r ih=>rw[ic,ih];rfl
def vW{h:aa}{v:Value}{len:Nat}{zs:List Int}(H:qP 3 h v len ((zs.map (Value.int .i64)).take (len*1)))(hl:len<=zs.length):Ybk.V.a8 h v (zs.take len):=by
 rw[Nat.mul_one]at H;obtain⟨ad,c,rfl,hc,z⟩:=H;have e:(zs.take len).length=len:=by rw[dh];omega
 refine⟨ad,c,by rw[e],hc,?_⟩;rcases z with z|⟨b,cs,rfl,h2,h3⟩
 .exact .inl (by rw[z];rfl)
 .exact .inr ⟨b,0,false,_,cs,rfl,h2,by rw[vN,List.map_take];rfl,Nat.zero_le _,h3⟩
def walk{W:World}(L:Ybk.K.isLaid W){a:Option Addr}{len cap:Nat}{zs:List Int}(w:IntsW W a len cap zs/\∀z∈zs,(Lit.int .i64 z).wf=true)(y:len*8<=140737488351232)
  {a':Option Addr} {len' cap':Nat} {l:List Ybk.K.CmdR} (w':l.length=cap'/\RowX W 5 a' len' cap' (l.flatMap Ybk.K.cmdC)/\len'<=maxLen):
  Calls Tryz.prog 4 #[.slice a len cap,.slice a' len' cap'] W (λe w'=>e= .returned (.bool true)/\Below W.heap.size W w'):=by
 obtain⟨h,ρ,L0,G⟩:=Ybk.K.start_of L;obtain⟨h1,v,ρ1,L1,E1,M1,V1,R1,N1⟩:=uD (e:=3) (sz:=1) Ybk.uh (by decide) L0 (RowX.Bk w.1);obtain⟨h2,u,ρ2,L2,E2,M2,V2,R2,N2⟩:=uD (e:=31) (sz:=5) (by rw[Ybk.K.im];kernel_rfl) (by decide) L1 w'.2.1;have l1:len<=zs.length:=by
  rcases w.1 with⟨_,h,_,_⟩|⟨_,_,h,h2,_⟩<;>omega
 have l2:len'<=l.length:=by
  rw[w'.1];rcases w'.2.1 with⟨_,h,_,_⟩|⟨_,_,h,_⟩<;>omega
 have hm:maxLen<=9223372036854775807:=by decide
 have l3:=w'.2.2;rw[<-Ybk.K.im];exact A0 L2 (Ybk.K.ajC (zs.take len) (l.take len') v u (by rw[dh];omega) (by rw[dh];omega) h2 ((G.ext E1).ext E2) (vW (R1.ext E2) l1) (Ybk.K.Af R2 l2)) ⟨rfl,λi y hi=>by
  match i,hi with
  |0,hi=>simp at hi;subst hi;exact⟨_,rfl,V1.mono λb pl q=>M2 _ _ q⟩
  |1,hi=>simp at hi;subst hi;exact⟨_,rfl,V2⟩
  |i+2,hi=>simp at hi⟩
end Go.Proofs.YtbcdmljanolkeaaGreatDoor.AmBookRecords

import Derived.Test.YtbcdmljanolkeaaGreatDoorMd
import Derived.Shelf.Slices.CompactI
set_option linter.unusedVariables false
set_option linter.unusedSimpArgs false
set_option linter.unusedSectionVars false
set_option linter.constructorNameAsVariable false
set_option linter.defProp false
set_option maxRecDepth 20000
namespace Go.Proofs.Ybk.V
open Go Go.Am
set_option maxHeartbeats 2000000
def bP{α:Type}(e:TypeId)(enc:α->List Value)(h0 h:aa)(o:Option Nat)(xs:List α)(v:Value):Prop:=
 v= .slice (o.map λb=>⟨b,0,none⟩) xs.length xs.length/\(match o with
  |none=>xs=[]
  |some b=>h.f b= .row true e (xs.flatMap enc)/\h0.n<=b/\b<h.n)
def bP.own{α:Type}{e:TypeId}{enc:α->List Value}{h0 h:aa}{o:Option Nat}{xs:List α}{v:Value}(H:bP e enc h0 h o xs v):cO e enc h0 h v xs:=by
 obtain⟨rfl,z⟩:=H;cases o with
 |none=>exact⟨none,rfl,.inl ⟨rfl,z⟩⟩
 |some b=>exact⟨_,rfl,.inr ⟨b,rfl,z.1,z.2.1,z.2.2⟩⟩
def bP.ext{α:Type}{e:TypeId}{enc:α->List Value}{h0 h h':aa}{o:Option Nat}{xs:List α}{v:Value}(H:bP e enc h0 h o xs v)(E:Ext h h'):bP e enc h0 h' o xs v:=by
 obtain⟨rfl,z⟩:=H;refine⟨rfl,?_⟩;cases o with
 |none=>exact z
 |some b=>exact⟨by rw[E.f b z.2.2];exact z.1,z.2.1,cV z.2.2 E.n⟩
def bP.nR{α:Type}{e:TypeId}{enc:α->List Value}{h0 h:aa}{o:Option Nat}{xs:List α}{v:Value}(H:bP e enc h0 h o xs v){b:Nat}(c:aW)(hb:o≠some b):bP e enc h0 (h.set b c) o xs v:=by
 obtain⟨rfl,z⟩:=H;refine⟨rfl,?_⟩;cases o with
 |none=>exact z
 |some b'=>exact⟨by rw[fI,if_neg (λq=>hb (by rw[q]))];exact z.1,z.2.1,z.2.2⟩
def bP.lt{α:Type}{e:TypeId}{enc:α->List Value}{h0 h:aa}{o:Option Nat}{xs:List α}{v:Value}(H:bP e enc h0 h o xs v){m:Nat}(hm:h.n<=m):o≠some m:=by
 intro q;subst q;have:=H.2.2.2;omega
def bP.nil{α:Type}{e:TypeId}{enc:α->List Value}{h0 h:aa}:bP e enc h0 h none ([]:List α) (.slice none 0 0):=⟨rfl,rfl⟩
def bP.keep{α:Type}{e:TypeId}{enc:α->List Value}{h0 h:aa}{o:Option Nat}{xs:List α}{v:Value}(H:bP e enc h0 h o xs v){b:Nat}(c0 c1:aW)(hb:o≠some b):bP e enc h0 (((h.new c0).set b .dead).new c1) o xs v:=
 ((H.ext (Ext.new _ _)).nR _ hb).ext (Ext.new _ _)
def bP.push{α:Type}{e:TypeId}{enc:α->List Value}{h0 h:aa}{b:Nat}{xs:List α}{v:Value}(H:bP e enc h0 h (some b) xs v)(c0:aW)(x:α){cells:List Value}(hc:cells=(xs++[x]).flatMap enc):
  bP e enc h0 (((h.new c0).set b .dead).new (.row true e cells)) (some (h.n+1)) (xs++[x]) (.slice (some ⟨h.n+1,0,none⟩) (xs.length+1) (xs.length+1)):=by
 obtain⟨_,_,h1,h2⟩:=H;refine⟨by simp,?_,?_,?_⟩
 .simp[hc]
 .omega
 .simp
def bP.yT{α:Type}{e:TypeId}{enc:α->List Value}{h0 h:aa}(hn:h0.n<=h.n)(c0:aW)(x:α){cells:List Value}(hc:cells=enc x):
  bP e enc h0 ((h.new c0).new (.row true e cells)) (some (h.n+1)) [x] (.slice (some ⟨h.n+1,0,none⟩) 1 1):=by
 refine⟨by simp,?_,?_,?_⟩
 .simp[hc]
 .omega
 .simp
def Au{h0 h:aa}(E:Ext h0 h){b:Nat}(hb:h0.n<=b)(c0 c1 c2:aW):Ext h0 (((h.new c0).set b c2).new c1):=((E.bI _).dp hb _).bI _
def Ap(a b:Option Nat):Prop:=∀n,a=some n->b≠some n
def zL(h0 h:aa)(v:ai)(a b c:Option Nat)(cs:List Value):Prop:=∃s k p,cs=[s,.int .i64 v.aV,.int .i64 v.bA,k,p]/\bP 99 ao h0 h a v.ag s/\bP 3 ab h0 h b v.aD k/\bP 103 aZ h0 h c v.aG p/\Ap a b/\Ap a c/\Ap b c
structure Made(i:Nat)(v:ai)(row x:Int):Prop where
 aV:v.aV=10
 bA:0<=v.bA/\v.bA<=24
 len:v.ag.length=i+1
 yj:v.aD.length<=i
 yP:v.aG.length<=i
 last:∃s,v.ag[i]? =some s/\s.row=row/\s.x=x
 Q5:0<=row/\row<=i
 xB:0<=x/\x<=15*i
 ef:∀s∈v.ag,0<=s.row/\s.row<=i/\0<=s.x/\s.x<=15*i/\s.y=10*s.row/\0<=s.kind/\s.kind<=2
 up:∀j s t,v.ag[j]? =some s->v.ag[j+1]? =some t->fa s t=true
 kill:∀a∈v.aD,1<=a/\a<=i
 AZ:∀j a b,v.aD[j]? =some a->v.aD[j+1]? =some b->a<b
 gy:∀p∈v.aG,0<=p.x/\p.x<=15*i/\0<=p.y/\p.y<=10*i/\1<=p.r/\p.r<=12
def tT(lv:Value)(cI:Int)(h:aa)(i:Nat)(v:ai)(row x:Int)(σ:St):Prop:=∃(a b c:Option Nat)(cs:List Value),Ext h σ.m.h/\zL h σ.m.h v a b c cs/\a≠none/\
 σ.t.get 0=some lv/\σ.t.get 1=some (.int .i64 cI)/\σ.t.get 4=some (.pointer (some ⟨4,0,some 0⟩))/\σ.t.get 5=some (.pointer (some ⟨5,0,some 0⟩))/\σ.t.get 6=some (.int .i64 row)/\σ.t.get 7=some (.int .i64 x)/\σ.t.get 8=some (.int .i64 (i:Nat))/\
 σ.m.x.look 4=some (63,jv)/\σ.m.x.look 5=some (63,cs)
def zF(lv:Value)(cI:Int)(h:aa)(n:Nat)(σ:St):Prop:=∃(i:Nat)(v:ai)(row x:Int),n=(cI-i).toNat/\(i:Int)<cI/\Made i v row x/\tT lv cI h i v row x σ
def Rz(row x row' x':Int):Prop:=(row'=row/\x<x'/\x'<=x+15)∨(row'=row+1/\x'=0)
def Sa{α:Type}{r:α->α->Prop}{l:List α}{z:α}(h:∀j s t,l[j]? =some s->l[j+1]? =some t->r s t)(hz:∀s,l.getLast? =some s->r s z):∀j s t,(l++[z])[j]? =some s->(l++[z])[j+1]? =some t->r s t:=by
 intro j s t h1 h2;rcases Nat.lt_trichotomy (j+1) l.length with q|q|q
 .rw[ji (by omega)]at h1 h2;exact h j s t h1 h2
 .rw[ji (by omega)]at h1;rw[iF (by omega),q]at h2;simp at h2;subst h2;refine hz s ?_;rw[List.getLast?_eq_getElem?,<-q];exact h1
 .rw[iT (by simp;omega)]at h2;cases h2
def abM{i:Nat}{v:ai}{row x:Int}(M:Made i v row x){row' x':Int}(hst:Rz row x row' x'){k:Int}(hk0:0<=k)(hk2:k<=2){ks:List Int}{ps:List aR}{r:Int}
  (hks:ks=v.aD∨ks=v.aD++[((i+1:Nat):Int)]) (hps:ps=v.aG∨∃r,1<=r/\r<=12/\ps=v.aG++[⟨x',10*row',r⟩]) (hr:r=v.bA∨0<=r/\r<=24):
  Made (i+1) ⟨v.ag++[⟨row',x',10*row',k⟩],v.aV,r,ks,ps⟩ row' x':=by
 have hrB:=M.Q5;have hxB:=M.xB;have hrow1:0<=row'/\row'<=i+1:=by rcases hst with h|h<;>omega
 have hx1:0<=x'/\x'<=15*(i+1):=by rcases hst with h|h<;>omega
 refine⟨M.aV,?_,by simp[M.len],?_,?_,⟨⟨row',x',10*row',k⟩,by rw[iF (by simp[M.len]),M.len];simp,rfl,rfl⟩,by omega,by omega,?_,?_,?_,?_,?_⟩
 .rcases hr with rfl|h
  .exact M.bA
  .exact h
 .have:=M.yj;rcases hks with rfl|rfl<;>simp<;>omega
 .have:=M.yP;rcases hps with rfl|⟨_,_,_,rfl⟩<;>simp<;>omega
 .intro s hs;rcases eH.1 hs with h|h
  .obtain⟨z1,z2,z3,z4,z5,z6⟩:=M.ef s h;exact⟨z1,by omega,z3,by omega,z5,z6⟩
  .obtain rfl:=dZ.1 h;exact⟨hrow1.1,by simp only;omega,hx1.1,by simp only;omega,rfl,hk0,hk2⟩
 .refine Sa M.up (λs hs=>?_);obtain⟨s0,e0,e1,e2⟩:=M.last;rw[List.getLast?_eq_getElem?,M.len,sd,e0]at hs;obtain rfl:=bU hs;rw[lp];simp only;rcases hst with h|h<;>omega
 .intro a ha;rcases hks with rfl|rfl
  .have:=M.kill a ha;omega
  .rcases eH.1 ha with h|h
   .have:=M.kill a h;omega
   .obtain rfl:=dZ.1 h;omega
 .rcases hks with rfl|rfl
  .exact M.AZ
  .refine Sa (r:=λa b=>a<b) M.AZ (λs hs=>?_);have:=M.kill s (List.mem_of_getLast? hs);omega
 .intro p hp;rcases hps with rfl|⟨r',h1,h2,rfl⟩
  .have:=M.gy p hp;omega
  .rcases eH.1 hp with h|h
   .have:=M.gy p h;omega
   .obtain rfl:=dZ.1 h;simp only;omega
def M1(lv:Value)(cI:Int)(h:aa)(i:Nat)(v:ai)(row x u:Int)(σ:St):Prop:=∃row' x',Rz row x row' x'/\tT lv cI h i v row' x' σ/\σ.t.get 9=some (.int .u64 u)
def M2(lv:Value)(cI:Int)(h:aa)(i:Nat)(v:ai)(row x u:Int)(σ:St):Prop:=∃k,0<=k/\k<=2/\tT lv cI h i v row x σ/\σ.t.get 9=some (.int .u64 u)/\σ.t.get 10=some (.pointer (some ⟨10,0,some 0⟩))/\σ.m.x.look 10=some (99,ao ⟨row,x,10*row,k⟩)
def M3(lv:Value)(cI:Int)(h:aa)(i:Nat)(v:ai)(row x u:Int)(σ:St):Prop:=∃ks,(ks=v.aD∨ks=v.aD++[((i+1:Nat):Int)])/\tT lv cI h i {v with aD:=ks} row x σ/\σ.t.get 9=some (.int .u64 u)
def M4(lv:Value)(cI:Int)(h:aa)(i:Nat)(v:ai)(row x u:Int)(σ:St):Prop:=∃ps,(ps=v.aG∨∃r,1<=r/\r<=12/\ps=v.aG++[⟨x,10*row,r⟩])/\tT lv cI h i {v with aG:=ps} row x σ/\σ.t.get 9=some (.int .u64 u)
def M5(lv:Value)(cI:Int)(h:aa)(i:Nat)(v:ai)(row x:Int)(σ:St):Prop:=∃r,(r=v.bA∨0<=r/\r<=24)/\tT lv cI h i {v with bA:=r} row x σ
def UP(cI:Int)(h:aa)(r:Value)(h':aa):Prop:=Ext h h'/\∃(i:Nat)(v:ai)(row x:Int)(a b c:Option Nat)(cs:List Value),(i:Int)<cI/\Made i v row x/\a≠none/\zL h h' v a b c cs/\r= .agg ⟨cs⟩
def abN(lv:Value)(l:List Int)(cI:Int)(hm:1<=cI/\cI<=100)(hl:l.length<=4611686018427387904)(h:aa)(hs:a8 h lv l):
  al PP 47 [lv,.int .i64 cI] h (UP cI h):=by
 refine aC Tryz.func47 ahr ?_;simp only[aA,Tryz.f47];have hr4:List.range 4=[0,1,2,3]:=rfl;obtain⟨ad,cap,rfl⟩:=hs.shape;simp -implicitDefEqProofs[aM,hr4];refine bG (zF (.slice ad l.length cap) cI h) _ ⟨0,⟨[⟨0,0,0,0⟩],10,0,[],[]⟩,0,0,rfl,by omega,?_,some h.n,none,none,_,Ext.new _ _,⟨_,_,_,rfl,⟨rfl,?_⟩,bP.nil,bP.nil,?_⟩,by simp[jv]⟩ ?_
 .exact⟨rfl,⟨by decide,by decide⟩,rfl,by simp,by simp,⟨_,rfl,rfl,rfl⟩,by simp,by simp,by simp,λj s t _ h2=>by simp at h2,by simp,λj a b h1=>by simp at h1,by simp⟩
 .simp[ao]
 .refine⟨?_,?_,?_⟩<;>(intro n;simp)
 rintro m ⟨T,⟨x,H⟩⟩ ⟨i,v,row,x',rfl,him,hM,a,b,c,cs,hE,hO,ha,g0,g1,g4,g5,g6,g7,g8,x4,x5⟩;simp at hE hO g0 g1 g4 g5 g6 g7 g8 x4 x5;obtain⟨bs,rfl⟩:∃bs,a=some bs:=by cases a with|none=>exact absurd rfl ha|some b=>exact⟨b,rfl⟩
 have hO':=hO;obtain⟨sv,kv,pv,rfl,⟨rfl,o1⟩,⟨rfl,o2⟩,⟨rfl,o3⟩,ap⟩:=hO;have hlen:=hM.len;by_cases q1:i<l.length;rotate_left
 .simp -implicitDefEqProofs[g0,g1,g4,g5,g6,g7,g8,x4,x5,q1];exact⟨hE,i,v,row,x',_,_,_,_,him,hM,ha,hO',rfl⟩
 by_cases q2:(v.ag.length:Int)<cI;rotate_left
 .simp -implicitDefEqProofs[g0,g1,g4,g5,g6,g7,g8,x4,x5,q1,q2];exact⟨hE,i,v,row,x',_,_,_,_,him,hM,ha,hO',rfl⟩
 have hti:l[i]? =some l[i]:=aq (by omega);obtain⟨_,b1,o1',wb1,cs1,r1,rfl,bD,hd1,hl1,_⟩:=(hs.ext hE).at 1 dY hti;obtain⟨t,ht⟩:=nm l[i];rw[<-ht]at hd1 hti;rw[Nat.mul_one]at hd1 hl1;obtain⟨u,hu⟩:=nm (t % 18446744073709551616);have e1:IntKind.wrap .u64 t=u:=by rw[RO,hu]
 have hu0:0<=u/\u<18446744073709551616:=by omega
 obtain⟨ua,hua⟩:∃z,z=u.tmod 7:=⟨_,rfl⟩;have e2:IntKind.wrap .u64 ua=ua:=jL (by rw[hua,Int.tmod_eq_emod_of_nonneg hu0.1];omega);have hrb:=hM.Q5;have hxb:=hM.xB;have e3:IntKind.wrap .i64 (x'+10)=x'+10:=bB (by omega);have e4:IntKind.wrap .i64 (row+1)=row+1:=bB (by omega);have e5:IntKind.wrap .i64 (x'+10+5)=x'+10+5:=bB (by omega);simp -implicitDefEqProofs[g0,g1,g4,g5,g6,g7,g8,x4,x5,q1,q2,bD,hd1,hl1,ab,e1,e2,e3,<-hua];refine Ah (M1 (.slice (some ⟨b1,o1',none⟩) l.length cap) cI h i v row x' u) ?_ ?_
 .refine jk (λhc=>?_) (λhc=>?_)
  .simp -implicitDefEqProofs[e4];exact⟨row+1,0,.inr ⟨rfl,rfl⟩,⟨some bs,b,c,_,hE,hO',ha,by simp⟩,by simp⟩
  .simp -implicitDefEqProofs;refine jk (λhc=>?_) (λhc=>?_)
   .simp -implicitDefEqProofs[e5];exact⟨row,x'+10+5,.inl ⟨rfl,by omega,by omega⟩,⟨some bs,b,c,_,hE,hO',ha,by simp⟩,by simp⟩
   .simp -implicitDefEqProofs;exact⟨row,x'+10,.inl ⟨rfl,by omega,by omega⟩,⟨some bs,b,c,_,hE,hO',ha,by simp⟩,by simp⟩
 clear g0 g1 g4 g5 g6 g7 g8 x4 x5 hE hO' o1 o2 o3 ap ha hs bD;rintro⟨T1,⟨X1,H1⟩⟩ ⟨row1,x1,hst,⟨a,b,c,cs,hE,hO,ha,g0,g1,g4,g5,g6,g7,g8,x4,x5⟩,g9⟩;simp at hE hO g0 g1 g4 g5 g6 g7 g8 x4 x5 g9;obtain⟨bs,rfl⟩:∃bs,a=some bs:=by cases a with|none=>exact absurd rfl ha|some b=>exact⟨b,rfl⟩
 have hO':=hO;obtain⟨sv,kv,pv,rfl,⟨rfl,o1⟩,⟨rfl,o2⟩,⟨rfl,o3⟩,ap⟩:=hO;have hrow1:0<=row1/\row1<=i+1:=by rcases hst with h|h<;>omega
 have hx1:0<=x1/\x1<=15*(i+1):=by rcases hst with h|h<;>omega
 have f1:IntKind.wrap .i64 (10*row1)=10*row1:=bB (by omega);obtain⟨ub,hub⟩:∃z,z=u.tdiv 7:=⟨_,rfl⟩;have hub0:0<=ub/\ub<18446744073709551616:=by rw[hub,Int.tdiv_eq_ediv_of_nonneg hu0.1];omega
 have f2:IntKind.wrap .u64 ub=ub:=jL (by omega);obtain⟨uc,huc⟩:∃z,z=ub.tmod 6:=⟨_,rfl⟩;have f3:IntKind.wrap .u64 uc=uc:=jL (by rw[huc,Int.tmod_eq_emod_of_nonneg hub0.1];omega);simp -implicitDefEqProofs[g0,g1,g4,g5,g6,g7,g8,g9,x4,x5,f1,<-hub,f2,<-huc,f3];refine Ah (M2 (.slice (some ⟨b1,o1',none⟩) l.length cap) cI h i v row1 x1 u) ?_ ?_
 .by_cases k0:uc=0
  .simp -implicitDefEqProofs[k0];exact⟨1,by decide,by decide,⟨some bs,b,c,_,hE,hO',ha,by simp⟩,by simp[ao]⟩
  .by_cases k1:uc=1
   .simp -implicitDefEqProofs[k1];exact⟨2,by decide,by decide,⟨some bs,b,c,_,hE,hO',ha,by simp⟩,by simp[ao]⟩
   .by_cases k2:uc=2
    .simp -implicitDefEqProofs[k2];exact⟨2,by decide,by decide,⟨some bs,b,c,_,hE,hO',ha,by simp⟩,by simp[ao]⟩
    .simp -implicitDefEqProofs[k0,k1,k2];exact⟨0,by decide,by decide,⟨some bs,b,c,_,hE,hO',ha,by simp⟩,by simp[ao]⟩
 clear g0 g1 g4 g5 g6 g7 g8 g9 x4 x5 hE hO' o1 o2 o3 ap ha;rintro⟨T2,⟨X2,H2⟩⟩ ⟨kd,hk0,hk2,⟨a,b,c,cs,hE,hO,ha,g0,g1,g4,g5,g6,g7,g8,x4,x5⟩,g9,g10,x10⟩;simp at hE hO g0 g1 g4 g5 g6 g7 g8 x4 x5 g9 g10 x10;obtain⟨bs,rfl⟩:∃bs,a=some bs:=by cases a with|none=>exact absurd rfl ha|some b=>exact⟨b,rfl⟩
 have hO':=hO;obtain⟨sv,kv,pv,rfl,⟨rfl,o1⟩,⟨rfl,o2⟩,⟨rfl,o3⟩,ap⟩:=hO;obtain⟨o11,o12,o13⟩:=o1;have hbn:¬bs=H2.n:=by omega
 obtain⟨F,hF⟩:=nm (v.ag.flatMap ao);have hFl:F.length=v.ag.length*4:=by rw[hF,fr 4 fD]
 rw[<-hF]at o11;have hmx:(v.ag.length+1)*32<=140737488355328:=by omega
 have e8:F.take (v.ag.length*4)=F:=b9 (by omega);obtain⟨uv,huv⟩:∃z,z=u.tdiv 42:=⟨_,rfl⟩;have huv0:0<=uv/\uv<18446744073709551616:=by rw[huv,Int.tdiv_eq_ediv_of_nonneg hu0.1];omega
 have p1:IntKind.wrap .u64 uv=uv:=jL (by omega);obtain⟨uw,huw⟩:∃z,z=uv.tmod 9:=⟨_,rfl⟩;have p2:IntKind.wrap .u64 uw=uw:=jL (by rw[huw,Int.tmod_eq_emod_of_nonneg huv0.1];omega);simp -implicitDefEqProofs[g0,g1,g4,g5,g6,g7,g8,g9,g10,x4,x5,x10,ao,dC,dS,aM,dH,hr4,hbn,o11,hFl,hmx,e8,<-huv,p1,<-huw,p2];obtain⟨G,hG⟩:=nm (((H2.new (aW.row true 99 [Value.int IntKind.i64 row1,Value.int IntKind.i64 x1,Value.int IntKind.i64 (10*row1),Value.int IntKind.i64 kd])).set bs aW.dead).new (aW.row true 99 (F++[Value.int IntKind.i64 row1,Value.int IntKind.i64 x1,Value.int IntKind.i64 (10*row1),Value.int IntKind.i64 kd])));rw[<-hG];obtain⟨v1,hv1⟩:=nm ({v with ag:=v.ag++[⟨row1,x1,10*row1,kd⟩]}:ai);have EG:Ext h G:=by rw[hG];exact Au hE o12 _ _ _
 have hOG:zL h G v1 (some (H2.n+1)) b c [.slice (some ⟨H2.n+1,0,none⟩) (v.ag.length+1) (v.ag.length+1),.int .i64 v.aV,.int .i64 v.bA,.slice (b.map λb=>⟨b,0,none⟩) v.aD.length v.aD.length,.slice (c.map λb=>⟨b,0,none⟩) v.aG.length v.aG.length]:=by
  obtain⟨p1,p2,p3⟩:=ap;have k2:bP 3 ab h H2 b v.aD (.slice (b.map λb=>⟨b,0,none⟩) v.aD.length v.aD.length):=⟨rfl,o2⟩;have k3:bP 103 aZ h H2 c v.aG (.slice (c.map λb=>⟨b,0,none⟩) v.aG.length v.aG.length):=⟨rfl,o3⟩;have k1:bP 99 ao h H2 (some bs) v.ag (.slice (some ⟨bs,0,none⟩) v.ag.length v.ag.length):=⟨rfl,by rw[<-hF];exact o11,o12,o13⟩;subst hv1;refine⟨_,_,_,rfl,?_,?_,?_,?_,?_,p3⟩
  .rw[hG];exact k1.push _ _ (by simp[hF,ao])
  .rw[hG];exact k2.keep _ _ (p1 bs rfl)
  .rw[hG];exact k3.keep _ _ (p2 bs rfl)
  .intro n hn;obtain rfl:=bU hn;exact k2.lt (by omega)
  .intro n hn;obtain rfl:=bU hn;exact k3.lt (by omega)
 have hl1v:v1.ag.length=i+2:=by rw[hv1];simp[hlen]
 have hk1v:v1.aD=v.aD:=by rw[hv1]
 have hp1v:v1.aG=v.aG:=by rw[hv1]
 have hg1v:v1.aV=v.aV:=by rw[hv1]
 have hr1v:v1.bA=v.bA:=by rw[hv1]
 have n1:G.n=H2.n+2:=by rw[hG];rfl
 have hr1:List.range 1=[0]:=rfl;clear g0 g1 g4 g5 g6 g7 g8 g9 g10 x4 x5 x10 hE hO';refine xE (M3 (.slice (some ⟨b1,o1',none⟩) l.length cap) cI h i v1 row1 x1 u) ?_ ?_
 .by_cases k0:uw=0
  .have r1:IntKind.wrap .i64 (v.ag.length:Int)=((i+1:Nat):Int):=(by rw[bB (by omega)];omega);have hOG':=hOG;obtain⟨_,_,_,ee,t1,t2,t3,a1,a2,a3⟩:=hOG;simp only[List.cons.injEq,and_true,true_and]at ee;obtain⟨rfl,_,_,rfl,rfl⟩:=ee;cases b with
   |none=>
    simp -implicitDefEqProofs[o2,dC,dS,aM,dH,hr1,k0,r1];have hk0:v1.aD=[]:=(by rw[hk1v,o2]);refine⟨[((i+1:Nat):Int)],.inr (by rw[hk0];rfl),⟨some (H2.n+1),some (G.n+1),c,_,(EG.bI _).bI _,⟨_,_,_,by rw[hg1v,hr1v],(t1.ext (Ext.new _ _)).ext (Ext.new _ _),bP.yT (by omega) _ _ (by simp[ab]),(t3.ext (Ext.new _ _)).ext (Ext.new _ _),λn hn=>?_,a2,λn hn=>?_⟩,by simp⟩,by simp⟩
    .obtain rfl:=bU hn;simp;omega
    .obtain rfl:=bU hn;exact t3.lt (by omega)
   |some bk=>
    obtain⟨o21,o22,o23⟩:=t2.2;have hbk:¬bk=G.n:=(by omega);obtain⟨FK,hFK⟩:∃F,F=v1.aD.flatMap ab:=⟨_,rfl⟩;have hFKl:FK.length=v.aD.length:=(by have:=fr 1 dY v1.aD;rw[<-hFK,hk1v]at this;omega);rw[<-hFK]at o21;have hkl:=hM.yj;have hmk:(v.aD.length+1)*8<=140737488355328:=(by omega);have e9:FK.take v.aD.length=FK:=b9 (by omega);simp -implicitDefEqProofs[dC,dS,aM,dH,hr1,k0,r1,hbk,o21,hFKl,hmk,e9];have k2:=t2.push (.row true 3 [.int .i64 ((i+1:Nat):Int)]) ((i+1:Nat):Int) (cells:=FK++[.int .i64 ((i+1:Nat):Int)]) (by simp[hFK,ab]);refine⟨v1.aD++[((i+1:Nat):Int)],.inr rfl,⟨some (H2.n+1),some (G.n+1),c,_,Au EG o22 _ _ _,⟨_,_,_,by rw[hg1v,hr1v],t1.keep _ _ (λq=>a1 _ rfl q.symm),by rw[hk1v]at k2 ⊢;exact k2,t3.keep _ _ (a3 _ rfl),λn hn=>?_,a2,λn hn=>?_⟩,by simp⟩,by simp⟩
    .obtain rfl:=bU hn;simp;omega
    .obtain rfl:=bU hn;exact t3.lt (by omega)
  .simp -implicitDefEqProofs[k0];refine⟨v1.aD,.inl rfl,⟨some (H2.n+1),b,c,_,EG,hOG,by simp⟩,by simp⟩
 clear hbn hF hFl o11 hmx e8 hG EG hOG n1 ha o2 o3 ap o12 o13;rintro⟨T3,⟨X3,H3⟩⟩ ⟨ks,hks,⟨a,b,c,cs,hE,hO,ha,g0,g1,g4,g5,g6,g7,g8,x4,x5⟩,g9⟩;simp at hE hO g0 g1 g4 g5 g6 g7 g8 x4 x5 g9;obtain⟨v2,hv2⟩:=nm ({v1 with aD:=ks}:ai);rw[<-hv2]at hO;have hO':=hO;obtain⟨sv,kv,pv,rfl,t1,t2,t3,a1,a2,a3⟩:=hO;obtain⟨ux,hux⟩:∃z,z=uv.tmod 11:=⟨_,rfl⟩;have p3:IntKind.wrap .u64 ux=ux:=jL (by rw[hux,Int.tmod_eq_emod_of_nonneg huv0.1];omega);obtain⟨uy,huy⟩:∃z,z=u.tdiv 500:=⟨_,rfl⟩;have huy0:0<=uy/\uy<18446744073709551616:=by rw[huy,Int.tdiv_eq_ediv_of_nonneg hu0.1];omega
 have p4:IntKind.wrap .u64 uy=uy:=jL (by omega);obtain⟨uz,huz⟩:∃z,z=uy.tmod 12:=⟨_,rfl⟩;have huz0:0<=uz/\uz<12:=by rw[huz,Int.tmod_eq_emod_of_nonneg huy0.1];omega
 have p5:IntKind.wrap .u64 uz=uz:=jL (by omega);have p6:IntKind.wrap .i64 uz=uz:=bB (by omega);have p7:IntKind.wrap .i64 (1+uz)=1+uz:=bB (by omega);simp -implicitDefEqProofs[g0,g1,g4,g5,g6,g7,g8,g9,x4,x5,<-huv,p1,<-hux,p3];have hr3:List.range 3=[0,1,2]:=rfl;have hp2v:v2.aG=v.aG:=by rw[hv2];exact hp1v
 refine xE (M4 (.slice (some ⟨b1,o1',none⟩) l.length cap) cI h i v2 row1 x1 u) ?_ ?_
 .by_cases k0:ux=1
  .cases c with
   |none=>
    obtain⟨rfl,t3'⟩:=t3;have hp0:v2.aG=[]:=t3';simp -implicitDefEqProofs[hp0,g0,g1,g4,g5,g6,g7,g8,g9,x4,x5,dC,dS,aM,dH,hr3,k0,f1,<-huy,p4,<-huz,p5,p6,p7];refine⟨[⟨x1,10*row1,1+uz⟩],.inr ⟨1+uz,by omega,by omega,by rw[hp0];rfl⟩,⟨a,b,some (H3.n+1),_,(hE.bI _).bI _,⟨_,_,_,rfl,(t1.ext (Ext.new _ _)).ext (Ext.new _ _),(t2.ext (Ext.new _ _)).ext (Ext.new _ _),bP.yT hE.n _ _ (by simp[aZ]),a1,λn hn=>?_,λn hn=>?_⟩,ha,by simp⟩,by simp⟩
    .subst hn;intro q;obtain rfl:=bU q;exact t1.lt (Nat.le_succ _) rfl
    .subst hn;intro q;obtain rfl:=bU q;exact t2.lt (Nat.le_succ _) rfl
   |some bk=>
    have t3'':=t3;obtain⟨rfl,o21,o22,o23⟩:=t3;have hbk:¬bk=H3.n:=(by omega);obtain⟨FK,hFK⟩:∃F,F=v2.aG.flatMap aZ:=⟨_,rfl⟩;have hFKl:FK.length=v2.aG.length*3:=(by rw[hFK];exact fr 3 pE v2.aG);rw[<-hFK]at o21;have hpl:=hM.yP;have hmk:(v2.aG.length+1)*24<=140737488355328:=(by rw[hp2v];omega);have e9:FK.take (v2.aG.length*3)=FK:=b9 (by omega);simp -implicitDefEqProofs[g0,g1,g4,g5,g6,g7,g8,g9,x4,x5,dC,dS,aM,dH,hr3,k0,hbk,o21,hFKl,hmk,e9,f1,<-huy,p4,<-huz,p5,p6,p7];have k2:=t3''.push (.row true 103 [.int .i64 x1,.int .i64 (10*row1),.int .i64 (1+uz)]) ⟨x1,10*row1,1+uz⟩ (cells:=FK++[.int .i64 x1,.int .i64 (10*row1),.int .i64 (1+uz)]) (by simp[hFK,aZ]);refine⟨v2.aG++[⟨x1,10*row1,1+uz⟩],.inr ⟨1+uz,by omega,by omega,rfl⟩,⟨a,b,some (H3.n+1),_,Au hE o22 _ _ _,⟨_,_,_,rfl,t1.keep _ _ (λq=>a2 _ q rfl),t2.keep _ _ (λq=>a3 _ q rfl),k2,a1,λn hn=>?_,λn hn=>?_⟩,ha,by simp⟩,by simp⟩
    .subst hn;intro q;obtain rfl:=bU q;exact t1.lt (Nat.le_succ _) rfl
    .subst hn;intro q;obtain rfl:=bU q;exact t2.lt (Nat.le_succ _) rfl
  .simp -implicitDefEqProofs[k0];exact⟨v2.aG,.inl rfl,⟨a,b,c,_,hE,hO',ha,by simp⟩,by simp⟩
 clear g0 g1 g4 g5 g6 g7 g8 g9 x4 x5 hE hO' t1 t2 t3 a1 a2 a3 ha;rintro⟨T4,⟨X4,H4⟩⟩ ⟨ps,hps,⟨a,b,c,cs,hE,hO,ha,g0,g1,g4,g5,g6,g7,g8,x4,x5⟩,g9⟩;simp at hE hO g0 g1 g4 g5 g6 g7 g8 x4 x5 g9;obtain⟨v3,hv3⟩:=nm ({v2 with aG:=ps}:ai);rw[<-hv3]at hO;have hO':=hO;obtain⟨sv,kv,pv,rfl,t1,t2,t3,ap⟩:=hO;obtain⟨ur,hur⟩:∃z,z=uv.tmod 5:=⟨_,rfl⟩;have p8:IntKind.wrap .u64 ur=ur:=jL (by rw[hur,Int.tmod_eq_emod_of_nonneg huv0.1];omega);obtain⟨us,hus⟩:∃z,z=u.tdiv 300:=⟨_,rfl⟩;have hus0:0<=us/\us<18446744073709551616:=by rw[hus,Int.tdiv_eq_ediv_of_nonneg hu0.1];omega
 have p9:IntKind.wrap .u64 us=us:=jL (by omega);obtain⟨ut,hut⟩:∃z,z=us.tmod 25:=⟨_,rfl⟩;have hut0:0<=ut/\ut<25:=by rw[hut,Int.tmod_eq_emod_of_nonneg hus0.1];omega
 have p10:IntKind.wrap .u64 ut=ut:=jL (by omega);have p11:IntKind.wrap .i64 ut=ut:=bB (by omega);simp -implicitDefEqProofs[g0,g1,g4,g5,g6,g7,g8,g9,x4,x5,<-huv,p1,<-hur,p8];refine Ah (M5 (.slice (some ⟨b1,o1',none⟩) l.length cap) cI h i v3 row1 x1) ?_ ?_
 .by_cases k0:ur=3
  .simp -implicitDefEqProofs[g0,g1,g4,g5,g6,g7,g8,g9,x4,x5,k0,<-hus,p9,<-hut,p10,p11];exact⟨ut,.inr ⟨by omega,by omega⟩,⟨a,b,c,_,hE,⟨_,_,_,rfl,t1,t2,t3,ap⟩,ha,by simp⟩⟩
  .simp -implicitDefEqProofs[k0];exact⟨v3.bA,.inl rfl,⟨a,b,c,_,hE,hO',ha,by simp⟩⟩
 clear g0 g1 g4 g5 g6 g7 g8 g9 x4 x5 hE hO' t1 t2 t3 ap ha;rintro⟨T5,⟨X5,H5⟩⟩ ⟨r,hr,⟨a,b,c,cs,hE,hO,ha,g0,g1,g4,g5,g6,g7,g8,x4,x5⟩⟩;simp at hE hO g0 g1 g4 g5 g6 g7 g8 x4 x5;have w1:=bO (i:=i) (by omega);have hMade:Made (i+1) {v3 with bA:=r} row1 x1:=by
  rw[hv3,hv2,hv1];refine abM hM hst hk0 hk2 ?_ ?_ ?_
  .rw[<-hk1v];exact hks
  .rw[<-hp2v];exact hps
  .rw[hv3]at hr;rw[<-hr1v];rw[hv2]at hr;exact hr
 simp -implicitDefEqProofs[g0,g1,g4,g5,g6,g7,g8,x4,x5,w1];refine⟨(cI-((i+1:Nat):Int)).toNat,by omega,i+1,_,_,_,rfl,by omega,hMade,a,b,c,_,hE,hO,ha,by simp⟩
def qH{α:Type}{xs ys:List α}{i:Nat}{a b:α}(h1:xs[i]? =some a)(h2:ys[i]? =some b)(h:a≠b):xs≠ys:=λe=>h (by rw[e,h2]at h1;exact(bU h1).symm)
def qI{α:Type}{xs ys:List α}{i:Nat}{a:α}(h1:xs[i]? =some a)(h2:ys[i]? =some a)(h:xs.take i=ys.take i):xs.take (i+1)=ys.take (i+1):=by
 rw[fL,fL,h,h1,h2]
def vd(a b:ai):Bool:=decide (a.aV=b.aV)&&(decide (a.bA=b.bA)&&(decide (a.ag=b.ag)&&(decide (a.aD=b.aD)&&decide (a.aG=b.aG))))
def aiV{xs ys:List au}(hx:xs.Pairwise (λa b=>fa a b=true))(hp:ys.Perm xs)(hs:kV ys):ys=xs:=by
 have hy:ys.Pairwise (λa b=>fa b a=false):=by
  rw[List.pairwise_iff_getElem];intro a b ha hb hab;exact hs a b _ _ hab (aq ha) (aq hb)
 induction xs generalizing ys with
 |nil=>exact List.perm_nil.1 hp
 |cons x r ih=>
  cases ys with
  |nil=>exact absurd hp.length_eq (by simp)
  |cons y z=>
   rw[jy]at hx hy;have e:y=x:=by
    rcases cJ.1 (hp.subset (dU))with e|e
    .exact e
    .have q1:=hx.1 y e;rcases cJ.1 (hp.symm.subset (dU))with e2|e2
     .exact e2.symm
     .have:=hy.1 x e2;rw[q1]at this;cases this
   subst e;rw[ih hx.2 ((List.perm_cons y).1 hp) (λi j a b hij hi hj=>hs (i+1) (j+1) a b (by omega) hi hj) hy.2]
def Pt{i:Nat}{v:ai}{row x:Int}(M:Made i v row x)(hi:i<=150):aK v=true:=by
 have hlen:=M.len;have hg:=M.aV;have hr:=M.bA;have hkl:=M.yj;have hpl:=M.yP;have h1:gL v.ag=true:=by
  unfold gL;rw[bQ];refine⟨?_,by simp;omega⟩;rw[cz];intro j hj;rw[dF]at hj;unfold fJ;have e:v.ag[j]? =some v.ag[j]:=aq hj;rw[e];have hs:=M.ef _ (fG hj);have h1:jW v.ag[j]=true:=by
   simp only[jW,aE,bQ,de];omega
  simp only[h1,qQ];by_cases h0:j=0
  .simp[h0]
  .have e2:v.ag[j-1]? =some v.ag[j-1]:=aq (by omega);rw[e2];have:=M.up (j-1) _ _ e2 (by rw[show j-1+1=j by omega];exact e);simp[this]
 have h2:aE v.aV 1 1048576=true:=by simp[aE,hg]
 have h3:aE v.bA 0 1048576=true:=by simp[aE];omega
 have h4:iw v.aD v.ag.length=true:=by
  unfold iw;rw[bQ];refine⟨?_,by simp;omega⟩;rw[cz];intro j hj;rw[dF]at hj;unfold gT;have e:v.aD[j]? =some v.aD[j]:=aq hj;rw[e];have hs:=M.kill _ (fG hj);simp only[bQ,kY,de];refine⟨by omega,by omega,?_⟩;by_cases h0:j=0
  .exact .inl h0
  .have e2:v.aD[j-1]? =some v.aD[j-1]:=aq (by omega);rw[e2];have:=M.AZ (j-1) _ _ e2 (by rw[show j-1+1=j by omega];exact e);exact .inr (by simpa using this)
 have h5:jr v.aG=true:=by
  unfold jr;rw[bQ];refine⟨?_,by simp;omega⟩;rw[cz];intro j hj;rw[dF]at hj;unfold iO;have e:v.aG[j]? =some v.aG[j]:=aq hj;rw[e];have hs:=M.gy _ (fG hj);simp only[kO,aE,bQ,de];omega
 unfold aK mQ;rw[h1,h2,h3,h4,h5];rfl
def ajV(a b:au)(h:aa):al PP 188 [bg a,bg b] h (λv h'=>h'=h/\v= .bool (fa a b)):=by
 refine aC Tryz.func188 afX ?_;simp only[aA,Tryz.f188];unfold fa;by_cases h1:a.row<b.row
 .simp -implicitDefEqProofs[bg,ao,h1]
 .by_cases h2:a.row=b.row
  .simp -implicitDefEqProofs[bg,ao,h1,h2]
  .simp -implicitDefEqProofs[bg,ao,h1,h2]
def qB(n lo hi:Int)(h:aa):al PP 181 [.int .i64 n,.int .i64 lo,.int .i64 hi] h (λv h'=>h'=h/\v= .bool (aE n lo hi)):=by
 refine aC Tryz.func181 P8 ?_;simp only[aA,Tryz.f181];unfold aE;by_cases h1:lo<=n
 .simp -implicitDefEqProofs[h1]
 .simp -implicitDefEqProofs[h1]
def tj(n:Int)(h:aa):al PP 229 [.int .i64 n] h (λv h'=>h'=h/\v= .bool (aE n (-1048576) 1048576)):=by
 refine aC Tryz.func229 Qa ?_;simp only[aA,Tryz.f229];simp -implicitDefEqProofs;refine cE (qB n (-1048576) 1048576 h) ?_;simp -implicitDefEqProofs[af]
def zG(s:Value)(l:List au)(m:Nat)(h:aa)(n:Nat)(σ:St):Prop:=∃i:Nat,n=m-i/\i<=m/\σ.m.h=h/\σ.t.get 0=some s/\σ.t.get 3=some (.int .i64 (i:Nat))/\(List.range i).all (fJ l)=true
def aka(s:Value)(l:List au)(hl:l.length<=1073741824)(h:aa)(hs:cA h s l):al PP 180 [s] h (λv h'=>h'=h/\v= .bool (gL l)):=by
 refine aC Tryz.func180 afU ?_;simp only[aA,Tryz.f180];obtain⟨ad,c,rfl⟩:=hs.shape;obtain⟨m,hm⟩:=nm l.length;rw[<-hm]at hs ⊢;simp -implicitDefEqProofs;refine bG (zG (.slice ad m c) l m h) _ ⟨0,rfl,by omega,rfl,by simp,by simp,rfl⟩ ?_;rintro n ⟨T,⟨x,H⟩⟩ ⟨i,rfl,hi,hH,g0,g3,aJ⟩;simp at hH g0 g3;subst hH;simp -implicitDefEqProofs[g0,g3];refine bR (λhc=>?_) (λhc=>?_)
 .have hil:i<m:=by omega
  have hti:l[i]? =some l[i]:=aq (by omega);obtain⟨_,b,o,wb,cs,r,rfl,hb,hd,hlc,_⟩:=hs.at 4 fD hti;obtain⟨t,ht⟩:=nm l[i];rw[<-ht]at hd hti;have w1:=bO (i:=i) (by omega);have hlc':o+i*4+4<=cs.length:=hlc;have fin:fJ l i=false->gL l=false:=λhp=>by unfold gL;rw[all_false (by omega) hp];rfl
  simp -implicitDefEqProofs[g0,g3,hil,hb,hd,hlc',ao];refine(qB t.row 0 999 H).mono ?_;rintro v h' ⟨rfl,rfl⟩;simp -implicitDefEqProofs[aF];intro _;by_cases q1:aE t.row 0 999=true;rotate_left
  .have hp:fJ l i=false:=(by simp[fJ,hti,jW,q1]);simp -implicitDefEqProofs[q1,fin hp]
  simp -implicitDefEqProofs[q1];refine(tj t.x h').mono ?_;rintro v h' ⟨rfl,rfl⟩;simp -implicitDefEqProofs[aF];intro _;by_cases q2:aE t.x (-1048576) 1048576=true;rotate_left
  .have hp:fJ l i=false:=(by simp[fJ,hti,jW,q2]);simp -implicitDefEqProofs[q2,fin hp]
  simp -implicitDefEqProofs[q2];refine(tj t.y h').mono ?_;rintro v h' ⟨rfl,rfl⟩;simp -implicitDefEqProofs[aF];intro _;by_cases q3:aE t.y (-1048576) 1048576=true;rotate_left
  .have hp:fJ l i=false:=(by simp[fJ,hti,jW,q3]);simp -implicitDefEqProofs[q3,fin hp]
  simp -implicitDefEqProofs[q3];refine(qB t.kind 0 2 h').mono ?_;rintro v h' ⟨rfl,rfl⟩;simp -implicitDefEqProofs[aF];intro _;by_cases q4:aE t.kind 0 2=true;rotate_left
  .have hp:fJ l i=false:=(by simp[fJ,hti,jW,q4]);simp -implicitDefEqProofs[q4,fin hp]
  have h1:jW t=true:=by simp[jW,q1,q2,q3,q4]
  by_cases h2:i=0
  .subst h2;have hp:fJ l 0=true:=(by simp[fJ,hti,h1]);simp -implicitDefEqProofs[q4,g0,g3];exact⟨m-1,by omega,1,rfl,by omega,rfl,by simp[g0],by simp[bB],all_succ aJ hp⟩
  .have fC:i-1<m:=(by omega);have htp:l[i-1]? =some l[i-1]:=aq (by omega);obtain⟨p,hp⟩:=nm l[i-1];rw[<-hp]at htp;obtain⟨_,b',o',wb',cs',r',e1,hb',hd',hlc2,_⟩:=hs.at 4 fD htp;simp only[av,Addr.mk.injEq,and_true]at e1;obtain⟨rfl,rfl⟩:=e1;rw[hb]at hb';simp only[aW.row.injEq,true_and]at hb';obtain⟨rfl,rfl⟩:=hb';obtain⟨j,hj⟩:=nm (i-1);rw[<-hj]at hd' hlc2 fC;have w2:IntKind.wrap .i64 ((i:Int)-1)=(j:Int):=(by rw[bB (by omega)];omega);have h0:(0:Int)<(i:Int):=(by omega);have hlc3:o+j*4+4<=cs.length:=hlc2;simp -implicitDefEqProofs[q4,h0,h2,w2,fC,hb,hd',hlc3,ao,show 0<i by omega,g0,g3];refine cE (ajV p t h') ?_;simp -implicitDefEqProofs[aF];intro _;by_cases h3:fa p t=true
   .have hp:fJ l i=true:=(by simp[fJ,hti,h1,htp,h3]);simp -implicitDefEqProofs[h3,g0,g3,w1];exact⟨m-(i+1),by omega,i+1,rfl,by omega,rfl,by simp[g0],by simp,all_succ aJ hp⟩
   .have hp:fJ l i=false:=(by simp[fJ,hti,h1,htp,h3,h2]);simp -implicitDefEqProofs[h3,fin hp]
 .have:i=m:=by omega
  subst this;rw[hm]at aJ;have he:gL l=(decide (0<l.length)&&decide (l.length<=4096)):=by unfold gL;rw[aJ];rfl
  rw[he,<-hm];by_cases h1:0<i
  .have h1':(1:Int)<=(i:Int):=(by omega);by_cases h2:(i:Int)<=4096
   .have h2':i<=4096:=(by omega);simp -implicitDefEqProofs[g0,h1,h1',h2,h2']
   .have h2':¬i<=4096:=(by omega);simp -implicitDefEqProofs[g0,h1,h1',h2,h2']
  .have:i=0:=(by omega);subst this;simp -implicitDefEqProofs[g0]
def zH(s:Value)(l:List Int)(k:Int)(m:Nat)(h:aa)(n:Nat)(σ:St):Prop:=∃i:Nat,n=m-i/\i<=m/\σ.m.h=h/\σ.t.get 0=some s/\σ.t.get 1=some (.int .i64 k)/\σ.t.get 5=some (.int .i64 (i:Nat))/\(List.range i).all (gT l k)=true
def ajT(s:Value)(l:List Int)(k:Int)(hk:0<=k/\k<=1073741824)(hl:l.length<=1073741824)(h:aa)(hs:a8 h s l):al PP 182 [s,.int .i64 k] h (λv h'=>h'=h/\v= .bool (iw l k)):=by
 refine aC Tryz.func182 afV ?_;simp only[aA,Tryz.f182];obtain⟨ad,c,rfl⟩:=hs.shape;obtain⟨m,hm⟩:=nm l.length;rw[<-hm]at hs ⊢;simp -implicitDefEqProofs;refine bG (zH (.slice ad m c) l k m h) _ ⟨0,rfl,by omega,rfl,by simp,by simp,by simp,rfl⟩ ?_;rintro n ⟨T,⟨x,H⟩⟩ ⟨i,rfl,hi,hH,g0,g1,g5,aJ⟩;simp at hH g0 g1 g5;subst hH;simp -implicitDefEqProofs[g0,g1,g5];refine bR (λhc=>?_) (λhc=>?_)
 .have hil:i<m:=by omega
  have hti:l[i]? =some l[i]:=aq (by omega);obtain⟨_,b,o,wb,cs,r,rfl,hb,hd,hlc,_⟩:=hs.at 1 dY hti;obtain⟨t,ht⟩:=nm l[i];rw[<-ht]at hd hti;have w1:=bO (i:=i) (by omega);have hlc':o+i+1<=cs.length:=by omega
  rw[Nat.mul_one]at hd;have fin:gT l k i=false->iw l k=false:=λhp=>by unfold iw;rw[all_false (by omega) hp];rfl
  have w3:IntKind.wrap .i64 (k-1)=k-1:=bB (by omega);simp -implicitDefEqProofs[g0,g1,g5,hil,hb,hd,hlc',ab,w3];refine cE (qB t 0 (k-1) H) ?_;simp -implicitDefEqProofs[aF];intro _;by_cases q1:aE t 0 (k-1)=true;rotate_left
  .have hp:gT l k i=false:=by
    simp only[aE,bQ,de]at q1;simp[gT,hti];omega
   simp -implicitDefEqProofs[q1,fin hp]
  have q1':=q1;simp only[aE,bQ,de]at q1';by_cases h3:i=0
  .subst h3;have hp:gT l k 0=true:=(by simp[gT,hti];omega);simp -implicitDefEqProofs[q1,g0,g1,g5];exact⟨m-1,by omega,1,rfl,by omega,rfl,by simp[g0],by simp[g1],by simp[bB],all_succ aJ hp⟩
  .have fC:i-1<m:=(by omega);have htp:l[i-1]? =some l[i-1]:=aq (by omega);obtain⟨p,hp⟩:=nm l[i-1];rw[<-hp]at htp;obtain⟨_,b',o',wb',cs',r',e1,hb',hd',hlc2,_⟩:=hs.at 1 dY htp;simp only[av,Addr.mk.injEq,and_true]at e1;obtain⟨rfl,rfl⟩:=e1;rw[hb]at hb';simp only[aW.row.injEq,true_and]at hb';obtain⟨rfl,rfl⟩:=hb';obtain⟨j,hj⟩:=nm (i-1);rw[<-hj,Nat.mul_one]at hd' hlc2;have hjm:j<m:=(by omega);have w2:IntKind.wrap .i64 ((i:Int)-1)=(j:Int):=(by rw[bB (by omega)];omega);have h0:(0:Int)<(i:Int):=(by omega);have h0':0<i:=(by omega);by_cases h4:t<=p
   .have hp:gT l k i=false:=(by simp[gT,hti,htp,h3];omega);simp -implicitDefEqProofs[q1,g0,g1,g5,hil,hb,hd,hlc',ab,h0,h0',h3,w2,hjm,hd',hlc2,h4,fin hp]
   .have hp:gT l k i=true:=(by simp[gT,hti,htp,h3];omega);simp -implicitDefEqProofs[q1,g0,g1,g5,hil,hb,hd,hlc',ab,h0,h0',h3,w2,hjm,hd',hlc2,h4,w1];exact⟨m-(i+1),by omega,i+1,rfl,by omega,rfl,by simp[g0],by simp[g1],by simp,all_succ aJ hp⟩
 .have:i=m:=by omega
  subst this;rw[hm]at aJ;have he:iw l k=decide (l.length<=200):=by unfold iw;rw[aJ];rfl
  rw[he,<-hm];by_cases h2:(i:Int)<=200
  .have h2':i<=200:=(by omega);simp -implicitDefEqProofs[g0,h2,h2']
  .have h2':¬i<=200:=(by omega);simp -implicitDefEqProofs[g0,h2,h2']
def Uk(s:Value)(l:List aR)(m:Nat)(h:aa)(n:Nat)(σ:St):Prop:=∃i:Nat,n=m-i/\i<=m/\σ.m.h=h/\σ.t.get 0=some s/\σ.t.get 3=some (.int .i64 (i:Nat))/\(List.range i).all (iO l)=true
def aj9(s:Value)(l:List aR)(hl:l.length<=1073741824)(h:aa)(hs:cG h s l):al PP 183 [s] h (λv h'=>h'=h/\v= .bool (jr l)):=by
 refine aC Tryz.func183 afW ?_;simp only[aA,Tryz.f183];obtain⟨ad,c,rfl⟩:=hs.shape;obtain⟨m,hm⟩:=nm l.length;rw[<-hm]at hs ⊢;simp -implicitDefEqProofs;refine bG (Uk (.slice ad m c) l m h) _ ⟨0,rfl,by omega,rfl,by simp,by simp,rfl⟩ ?_;rintro n ⟨T,⟨x,H⟩⟩ ⟨i,rfl,hi,hH,g0,g3,aJ⟩;simp at hH g0 g3;subst hH;simp -implicitDefEqProofs[g0,g3];refine bR (λhc=>?_) (λhc=>?_)
 .have hil:i<m:=by omega
  have hti:l[i]? =some l[i]:=aq (by omega);obtain⟨_,b,o,wb,cs,r,rfl,hb,hd,hlc,_⟩:=hs.at 3 pE hti;obtain⟨t,ht⟩:=nm l[i];rw[<-ht]at hd hti;have w1:=bO (i:=i) (by omega);have hlc':o+i*3+3<=cs.length:=hlc;have l1:o+i*3+1<=cs.length:=by omega
  have l2:o+i*3+1+1<=cs.length:=by omega
  have l3:o+i*3+2+1<=cs.length:=by omega
  have d1:(cs.drop (o+i*3)).take 1=[.int .i64 t.x]:=by rw[hd];rfl
  have d2:(cs.drop (o+i*3+1)).take 1=[.int .i64 t.y]:=by rw[<-eh,hd];rfl
  have d3:(cs.drop (o+i*3+2)).take 1=[.int .i64 t.r]:=by rw[<-eh,hd];rfl
  have fin:iO l i=false->jr l=false:=λhp=>by unfold jr;rw[all_false (by omega) hp];rfl
  simp -implicitDefEqProofs[g0,g3,hil,hb,d1,l1];refine(tj t.x H).mono ?_;rintro v h' ⟨rfl,rfl⟩;simp -implicitDefEqProofs[af];intro _;by_cases h1:aE t.x (-1048576) 1048576=true
  .simp -implicitDefEqProofs[h1,g0,g3,hil,hb,d2,l2];refine(tj t.y h').mono ?_;rintro v h2 ⟨rfl,rfl⟩;simp -implicitDefEqProofs[af];intro _;by_cases h3:aE t.y (-1048576) 1048576=true
   .simp -implicitDefEqProofs[h3,g0,g3,hil,hb,d3,l3];refine cE (qB t.r 1 1048576 h2) ?_;simp -implicitDefEqProofs[af];intro _;by_cases h5:aE t.r 1 1048576=true
    .have hp:iO l i=true:=(by simp[iO,hti,kO,h1,h3,h5]);simp -implicitDefEqProofs[h5,g0,g3,w1];exact⟨m-(i+1),by omega,i+1,rfl,by omega,rfl,by simp[g0],by simp,all_succ aJ hp⟩
    .have hp:iO l i=false:=(by simp[iO,hti,kO,h1,h3,h5]);simp -implicitDefEqProofs[h5,fin hp]
   .have hp:iO l i=false:=(by simp[iO,hti,kO,h1,h3]);simp -implicitDefEqProofs[h3,fin hp]
  .have hp:iO l i=false:=(by simp[iO,hti,kO,h1]);simp -implicitDefEqProofs[h1,fin hp]
 .have:i=m:=by omega
  subst this;rw[hm]at aJ;have he:jr l=decide (l.length<=200):=by unfold jr;rw[aJ];rfl
  rw[he,<-hm];by_cases h2:(i:Int)<=200
  .have h2':i<=200:=(by omega);simp -implicitDefEqProofs[g0,h2,h2']
  .have h2':¬i<=200:=(by omega);simp -implicitDefEqProofs[g0,h2,h2']
def BY(v:ai)(cs:List Value)(hv:lz v)(h:aa)(H:bL h v cs):al PP 130 [.agg ⟨cs⟩] h (λr h'=>h'=h/\r= .string (B (mQ v))):=by
 refine aC Tryz.func130 afg ?_;simp only[aA,Tryz.f130];obtain⟨s,k,p,rfl,h1,h2,h3⟩:=H;obtain⟨ad1,c1,e1⟩:=h1.shape;obtain⟨ad2,c2,e2⟩:=h2.shape;obtain⟨ad3,c3,e3⟩:=h3.shape;subst e1;subst e2;subst e3;unfold mQ;simp -implicitDefEqProofs;refine(aka _ v.ag hv.1 h h1).mono ?_;rintro r h' ⟨rfl,rfl⟩;simp -implicitDefEqProofs[af];intro _;by_cases q1:gL v.ag=true
 .simp -implicitDefEqProofs[q1];refine(qB v.aV 1 1048576 h').mono ?_;rintro r h' ⟨rfl,rfl⟩;simp -implicitDefEqProofs[af];intro _;by_cases q2:aE v.aV 1 1048576=true
  .simp -implicitDefEqProofs[q2];refine(qB v.bA 0 1048576 h').mono ?_;rintro r h' ⟨rfl,rfl⟩;simp -implicitDefEqProofs[af];intro _;by_cases q3:aE v.bA 0 1048576=true
   .simp -implicitDefEqProofs[q3];refine(ajT _ v.aD v.ag.length (by have:=hv.1;omega) hv.2.1 h' h2).mono ?_;rintro r h' ⟨rfl,rfl⟩;simp -implicitDefEqProofs[af];intro _;by_cases q4:iw v.aD v.ag.length=true
    .simp -implicitDefEqProofs[q4];refine cE (aj9 _ v.aG hv.2.2 h' h3) ?_;simp -implicitDefEqProofs[af];intro _;by_cases q5:jr v.aG=true
     .simp -implicitDefEqProofs[q5]
     .simp -implicitDefEqProofs[q5]
    .simp -implicitDefEqProofs[q4]
   .simp -implicitDefEqProofs[q3]
  .simp -implicitDefEqProofs[q2]
 .simp -implicitDefEqProofs[q1]
def BR(v:ai)(cs:List Value)(hv:lz v)(h:aa)(H:bL h v cs):al PP 88 [.agg ⟨cs⟩] h (λr h'=>h'=h/\r= .bool (aK v)):=by
 refine aC Tryz.func88 ahT ?_;simp only[aA,Tryz.f88];have hw:=BY v cs hv h H;obtain⟨s,k,p,rfl,h1,h2,h3⟩:=H;simp -implicitDefEqProofs;refine cE hw ?_;simp -implicitDefEqProofs[af,aK]
end Go.Proofs.Ybk.V
namespace Go.Proofs.Ybk.V
open Go Go.Am
set_option maxHeartbeats 4000000
def CT(xs:List au):Prop:=xs.Pairwise (λa b=>fa b a=false)
def CT.sorted{xs:List au}(h:CT xs):kV xs:=by
 intro i j a b hij ha hb;have h1:=(cP.mp ha);have h2:=(cP.mp hb);obtain⟨p1,rfl⟩:=h1;obtain⟨p2,rfl⟩:=h2;exact(List.pairwise_iff_getElem.1 h) i j p1 p2 hij
def Ri(ks:List Int):Prop:=ks.Pairwise (λa b=>a<b)
def ajQ{a b:List Int}(ha:Ri a)(hb:Ri b)(h:∀x,x∈a↔x∈b):a=b:=by
 have n1:a.Nodup:=ha.imp (fun{x y} hxy=>by omega);have n2:b.Nodup:=hb.imp (fun{x y} hxy=>by omega);have hp:a.Perm b:=(List.perm_ext_iff_of_nodup n1 n2).2 h;exact hp.eq_of_pairwise (λx y _ _ q1 q2=>by omega) ha hb
end Go.Proofs.Ybk.V
namespace Go.Proofs
open Go.Shelf Go.RowKit Go.Lib Go.Sort
def Tryz.X7:Go.Shelf.Ren:=⟨fun|20=>169|n=>n,fun|22=>22|3=>3|4=>4|0=>0|n=>n,fun|n=>n⟩
def Tryz.X6:Lays2.n20 Tryz.prog Tryz.X7:={
 mixed:=by kernel_rfl,
 f20:=Tryz.func169.trans (congrArg some (by kernel_rfl)),
 t0:=Tryz.underlying0,
 a0:=Tryz.isAgg0,
 z0:=Tryz.sizeOf0,
 v0:=Tryz.zeroValue0,
 t3:=Tryz.underlying3,
 a3:=Tryz.isAgg3,
 z3:=Tryz.sizeOf3,
 v3:=Tryz.zeroValue3,
 t4:=Tryz.underlying4,
 a4:=Tryz.isAgg4,
 z4:=Tryz.sizeOf4,
 v4:=Tryz.zeroValue4,
 t22:=Tryz.underlying22,
 a22:=Tryz.isAgg22,
 z22:=Tryz.sizeOf22,
 v22:=Tryz.zeroValue22,
 i3:=by kernel_rfl}
end Go.Proofs
namespace Go.Proofs.Ybk.V
open Go Go.Am
set_option maxHeartbeats 2000000
def Aj(xs:List Int):(Lib.compact xs).length<=xs.length:=by
 unfold Lib.compact Lib.compactUpTo;rw[cf];exact eY (List.length_filter_le _ _) (by simp)
def k8(xs:List Int):List Int:=Lib.compact xs++List.replicate (xs.length-(Lib.compact xs).length) 0
def Yg(xs:List Int):(k8 xs).length=xs.length:=by
 have:=Aj xs;unfold k8;simp;omega
def X0(b c:Nat)(xs:List Int)(hn:xs≠[])(hl:xs.length<=1073741824)(h:aa)(hb:h.f b= .row true 3 (xs.flatMap ab)):
  al PP 169 [.slice (some ⟨b,0,none⟩) xs.length c] h (λr h'=>r= .slice (some ⟨b,0,none⟩) (Lib.compact xs).length (Lib.compact xs).length/\h'=h.set b (.row true 3 ((k8 xs).flatMap ab))):=by
 rw[im];refine⟨⟨Tryz.f169,Tryz.func169,by kernel_rfl,by kernel_rfl⟩,λρ w args' hbx R V=>?_⟩;obtain⟨v0,hv0,V0⟩:=V.2 0 _ rfl;have hargs:args'=[v0]:=by
  have:=V.1;match args',hv0,this with
  |[p],h0,_=>simp at h0;rw[h0]
 subst hargs;have hlen:0<xs.length:=sf.2 hn;obtain⟨pl,cap,hk,hc1,hc2,e0⟩:∃pl cap,ρ (false,b)=some pl/\xs.length<=cap/\0+cap*pl.sz<=pl.n/\v0= .slice (some ⟨pl.B,pl.o,none⟩) xs.length cap:=by
  rcases V0.nS with⟨a',e,_⟩|⟨b',off,pl,cap,e,hk,hc,hn',rfl⟩
  .omega
  .simp only[Addr.mk.injEq,and_true]at e;obtain⟨rfl,rfl⟩:=e;exact⟨pl,cap,hk,hc,hn',by simp⟩
 subst e0;obtain⟨C,e',fz,c1,c2,c3,c4,c5,c6⟩:=R.row (false,b) pl true 3 (xs.flatMap ab) hk (by simp[Mem.row?,hb]);obtain rfl:=c2 rfl;have hblk:=R.bound _ _ hk;have hfl:(xs.flatMap ab).length=xs.length:=by have:=fr 1 dY xs;omega
 have hcell:∀j(hj:j<xs.length),C[pl.o+j]? =some (.int .i64 xs[j]):=by
  intro j hj;obtain⟨v',q1,q2⟩:=c6 j _ (yf xs j hj);rw[q1];congr 1;exact q2.dz rfl
 have hH:Go.Sort.Holds (Value.int .i64) w pl.B pl.o xs.toArray:=by
  intro j hj;have hj':j<xs.length:=by simpa using hj
  have e:xs.toArray[j]! =xs[j]:=by simp[hj']
  rw[e];constructor
  .unfold World.cell?;simp only[c1,Option.isSome_none];exact hcell j hj'
  .unfold World.frozen?;simp only[c1];simp
 have hcon':Calls Tryz.prog 169 ⟨[.slice (some ⟨pl.B,pl.o,none⟩) xs.length cap]⟩ w _:=Any.slices_Compact_int Tryz.X6 pl.B pl.o cap xs w hH (by omega) (by omega);refine hcon'.mono ?_;rintro e w' ⟨rfl,n,rfl⟩;have hd:(k8 xs).length=xs.length:=Yg xs;refine⟨.slice (some ⟨b,0,none⟩) (Lib.compact xs).length (Lib.compact xs).length,.slice (some ⟨pl.B,pl.o,none⟩) (Lib.compact xs).length cap,_,ρ,rfl,⟨rfl,rfl⟩,hbx,?_⟩;have hfl':((k8 xs).flatMap ab).length=xs.length:=by have:=fr 1 dY (k8 xs);omega
 have hheap:(Go.Sort.putRow (Value.int .i64) (Go.Sort.ahead w n) pl.B pl.o (k8 xs).toArray).heap=(w.heap.modify pl.B (Go.Sort.onCells (Go.Sort.putCells (Value.int .i64) pl.o (k8 xs).toArray))):=rfl;have hsz:(w.heap.modify pl.B (Go.Sort.onCells (Go.Sort.putCells (Value.int .i64) pl.o (k8 xs).toArray))).size=w.heap.size:=by simp
 obtain⟨q1,q2⟩:=rS R hk hb (cs':=(k8 xs).flatMap ab) (by rw[hfl',hfl]) (w':=Go.Sort.putRow (Value.int .i64) (Go.Sort.ahead w n) pl.B pl.o (k8 xs).toArray) rfl rfl rfl (Nat.le_add_right _ _) (by rw[hheap,hsz];omega)
  (λB hB hne=>by
   rw[hheap,Array.getElem?_modify,if_neg (Ne.symm hne)])
  (λC2 e2 fz2 hC2=>by
   rw[c1]at hC2;simp only[av,Obj.cells.injEq]at hC2;obtain⟨rfl,rfl,rfl⟩:=hC2;refine⟨Go.Sort.putCells (Value.int .i64) pl.o (k8 xs).toArray C,?_,by simp[Go.Sort.putCells],λi v hi=>?_⟩
   .rw[hheap,Array.getElem?_modify,if_pos rfl,c1];rfl
   .have hi':i<(k8 xs).length:=(by have:=(cP.mp hi).1;omega);rw[yf _ i hi']at hi;obtain rfl:=bU hi;have hin:pl.o+i<C.size:=(by omega);refine⟨.int .i64 (k8 xs)[i],?_,.int _ _⟩;unfold Go.Sort.putCells;rw[Array.getElem?_mapIdx,Array.getElem?_eq_getElem hin];simp only[fV];rw[if_pos ⟨by omega,by simp;omega⟩,Nat.add_sub_cancel_left];simp[hi'])
 have hz:(Lib.compact xs).length<=cap:=eY (Aj xs) (by omega);exact⟨q1,q2,by have:=VR.sl (ρ:=ρ) b 0 (Lib.compact xs).length (Lib.compact xs).length pl cap hk hz (by omega);simpa using this⟩
def Ya(xs:List Int)(hs:xs.Pairwise (λa b=>a<=b)):(Lib.compact xs).Pairwise (λa b=>a<b)/\∀x,x∈Lib.compact xs↔x∈xs:=by
 have key:∀m,m<=xs.length->(Lib.compactUpTo xs.toArray m).Pairwise (λa b=>a<b)/\(∀x,x∈Lib.compactUpTo xs.toArray m↔x∈xs.take m):=by
  intro m;induction m with
  |zero=>intro _;simp[Lib.compactUpTo]
  |succ m ih=>
   intro hm;obtain⟨i1,i2⟩:=ih (by omega);have e:xs.toArray[m]! =xs[m]:=(by simp[show m<xs.length by omega]);rw[Lib.compactUpTo_succ,e,fL,aq (by omega:m<xs.length)];cases hk:Lib.keeps xs.toArray m with
   |true=>
    rw[if_pos rfl];refine⟨?_,λx=>by rw[eH,i2,eH];simp⟩;rw[oR];refine⟨i1,by simp,λa ha b hb=>?_⟩;obtain rfl:=dZ.1 hb;obtain⟨j,hj⟩:=List.mem_iff_getElem?.1 ((i2 a).1 ha);rw[List.getElem?_take]at hj;split at hj;rotate_left
    .cases hj
    rename_i hjm;obtain⟨z1,rfl⟩:=cP.mp hj;have h1:=(List.pairwise_iff_getElem.1 hs) j (m-1) z1 (by omega);have h2:=(List.pairwise_iff_getElem.1 hs) (m-1) m (by omega) (by omega) (by omega);have h3:xs[j]<=xs[m-1]'(by omega):=by
     by_cases q:j=m-1
     .subst q;omega
     .exact h1 (by omega)
    have h4:xs[m]≠xs[m-1]'(by omega):=by
     unfold Lib.keeps at hk;rw[de]at hk;rcases hk with q|q
     .omega
     .rw[e]at q;have e2:xs.toArray[m-1]! =xs[m-1]'(by omega):=(by simp[show m-1<xs.length by omega]);rw[e2]at q;exact q
    omega
   |false=>
    rw[if_neg (by simp),pO];refine⟨i1,λx=>?_⟩;rw[i2,eH];constructor
    .intro q;exact .inl q
    .rintro(q|q)
     .exact q
     .simp at q;subst q;unfold Lib.keeps at hk;rw[lP]at hk;have hm0:m≠0:=λz=>hk (.inl z);have e2:xs.toArray[m-1]! =xs[m-1]'(by omega):=(by simp[show m-1<xs.length by omega]);have h4:xs[m]=xs[m-1]'(by omega):=by
       apply Classical.byContradiction;intro z;exact hk (.inr (by rw[e,e2];exact z))
      rw[h4];exact List.mem_take_iff_getElem.2 ⟨m-1,by omega,rfl⟩
 obtain⟨k1,k2⟩:=key xs.length (aX _);rw[jZ]at k2;exact⟨k1,k2⟩
end Go.Proofs.Ybk.V
namespace Go.Proofs.Ybk.V
open Go Go.Am
set_option maxHeartbeats 4000000
def jx{α:Type}(e:TypeId)(enc:α->List Value)(h0 h:aa)(v:Value)(xs:List α):Prop:=dt e enc h v xs/\∀b off n c,v= .slice (some ⟨b,off,none⟩) n c->h0.n<=b
section
variable {α:Type} {e:TypeId} {enc:α->List Value} {h0 h1 h h':aa} {v:Value} {xs:List α}
def jx.of(H:cO e enc h1 h v xs)(hn:h0.n<=h1.n):jx e enc h0 h v xs:=by
 refine⟨H.sl,?_⟩;obtain⟨ad,rfl,z⟩:=H;rintro b off n c q;simp only[Value.slice.injEq]at q;rcases z with⟨rfl,_⟩|⟨b',rfl,_,z3,_⟩
 .cases q.1
 .have:=q.1;simp only[av,Addr.mk.injEq]at this;omega
def jx.ext(H:jx e enc h0 h v xs)(E:Ext h h'):jx e enc h0 h' v xs:=⟨H.1.ext E,H.2⟩
def jx.low(H:jx e enc h1 h v xs)(hn:h0.n<=h1.n):jx e enc h0 h v xs:=⟨H.1,λb off n c q=>eY hn (H.2 b off n c q)⟩
end
def nW(h0 h:aa)(v:ai)(cs:List Value):Prop:=∃s k p,cs=[s,.int .i64 v.aV,.int .i64 v.bA,k,p]/\jx 99 ao h0 h s v.ag/\jx 3 ab h0 h k v.aD/\jx 103 aZ h0 h p v.aG
def nW.dv{h0 h:aa}{v:ai}{cs:List Value}(H:nW h0 h v cs):bL h v cs:=by
 obtain⟨s,k,p,rfl,h1,h2,h3⟩:=H;exact⟨s,k,p,rfl,h1.1,h2.1,h3.1⟩
def nW.low{h0 h1 h:aa}{v:ai}{cs:List Value}(H:nW h1 h v cs)(hn:h0.n<=h1.n):nW h0 h v cs:=by
 obtain⟨s,k,p,rfl,z1,z2,z3⟩:=H;exact⟨s,k,p,rfl,z1.low hn,z2.low hn,z3.low hn⟩
def CM(v:ai)(h:aa)(r:Value)(h':aa):Prop:=Ext h h'/\
 ((ph v=false/\r= .tuple #[.agg ⟨jv⟩,.bool false])∨
  (ph v=true/\∃ys ks,ys.Perm v.ag/\kV ys/\Ri ks/\(∀x,x∈ks↔x∈(fj v).map (λs=>eL (eZ s) ys))/\
   ((aK ⟨ys,v.aV,v.bA,ks,v.aG⟩=true/\∃co,nW h h' ⟨ys,v.aV,v.bA,ks,v.aG⟩ co/\r= .tuple #[.agg ⟨co⟩,.bool true])∨
   (aK ⟨ys,v.aV,v.bA,ks,v.aG⟩=false/\r= .tuple #[.agg ⟨jv⟩,.bool false]))))
def X9(v:Value)(xs:List Int)(h0 h:aa)(hl:xs.length<=1073741824)(ho:cO 3 ab h0 h v xs):
  al PP 169 [v] h (λr h'=>jx 3 ab h0 h' r (Lib.compact xs)/\(h'=h∨∃b cs,h0.n<=b/\b<h.n/\h'=h.set b (.row true 3 cs))):=by
 by_cases hx:xs=[]
 .subst hx;refine cE (X8 v [] hl (λi a b h1 _=>by simp at h1) h ho.sl) ?_;exact⟨jx.of ho (aX _),.inl rfl⟩
 .obtain⟨ad,rfl,z⟩:=ho;rcases z with⟨_,z⟩|⟨b,rfl,hb,bD,bN⟩
  .exact absurd z hx
  refine(X0 b xs.length xs hx hl h hb).mono ?_;rintro r h' ⟨rfl,rfl⟩;refine⟨⟨⟨_,_,rfl,λq=>by simp at q,.inr ⟨b,0,true,(k8 xs).flatMap ab,(List.replicate (xs.length-(Lib.compact xs).length) (0:Int)).flatMap ab,rfl,by simp,?_,by simp,?_⟩⟩,λb' o' n' c' q=>by
   simp only[Value.slice.injEq,av,Addr.mk.injEq]at q;omega⟩,.inr ⟨b,_,bD,bN,rfl⟩⟩
  .unfold k8;rw[List.drop_zero,List.flatMap_append]
  .exact bN
def acI(v:ai)(cs:List Value)(hv:lz v)(hk:v.aD.length<=1000000)(h:aa)(H:bL h v cs):
  al PP 123 [.agg ⟨cs⟩] h (CM v h):=by
 refine aC Tryz.func123 afc ?_;simp only[aA,Tryz.f123];obtain⟨s,k,p,rfl,h1,h2,h3⟩:=H;obtain⟨ad1,c1,e1⟩:=h1.shape;obtain⟨ad2,c2,e2⟩:=h2.shape;obtain⟨ad3,c3,e3⟩:=h3.shape;subst e1;subst e2;subst e3;obtain⟨m,hm⟩:=nm v.aD.length;have hm':=hm;rw[<-hm]at h2 hk ⊢;simp -implicitDefEqProofs;refine bG (Tq _ v (.slice ad2 m c2) h) _ ⟨0,.slice none 0 0,rfl,by omega,Ext.bJ h,by simpa using cO.nil,λj k hj=>by omega,by simp,by simp,by simp,by simp,by simp[hm],by simp,by simp;rfl,by simp[jv]⟩ ?_;rintro n ⟨T,⟨x,H⟩⟩ ⟨i,kv,rfl,hi,hE,hO,hin,g1,g2,g4,g11,g12,g13,x1,x2⟩;simp at hE hO g1 g2 g4 g11 g12 g13 x1 x2;rw[<-hm]at g12 hi;simp -implicitDefEqProofs[g1,g2,g4,g11,g12,g13,x1,x2];refine bR (λhc=>?_) (λhc=>?_)
 .have him:i<m:=by omega
  have hti:v.aD[i]? =some v.aD[i]:=aq (by omega);obtain⟨_,b1,o1,wb1,cs1,r1,rfl,bD,hd1,hl1,_⟩:=(h2.ext hE).at 1 dY hti;obtain⟨t,ht⟩:=nm v.aD[i];rw[<-ht]at hd1 hti;rw[Nat.mul_one]at hd1 hl1;have bad:(t<0∨(v.ag.length:Int)<=t)->ph v=false:=by
   intro hb;unfold ph;rw[Bool.eq_false_iff];intro q;rw[cz]at q;have:=q t (dE hti);simp at this;omega
  by_cases q1:t<0
  .simp -implicitDefEqProofs[g1,g2,g4,g11,g12,g13,x1,x2,him,bD,hd1,hl1,ab,q1];exact⟨hE,.inl ⟨bad (.inl q1),by simp[jv]⟩⟩
  .by_cases q2:(v.ag.length:Int)<=t
   .simp -implicitDefEqProofs[g1,g2,g4,g11,g12,g13,x1,x2,him,bD,hd1,hl1,ab,q1,q2];exact⟨hE,.inl ⟨bad (.inr q2),by simp[jv]⟩⟩
   .obtain⟨a,ha⟩:∃a:Nat,t=a:=⟨t.toNat,by omega⟩;subst ha;have hal:a<v.ag.length:=(by omega);have hsa:v.ag[a]? =some v.ag[a]:=aq hal;obtain⟨_,b2,o2,wb2,cs2,r2,rfl,bN,hd2,hl2,hbn2⟩:=(h1.ext hE).at 4 fD hsa;obtain⟨u,hu⟩:=nm v.ag[a];rw[<-hu]at hd2 hsa;have w1:=bO (i:=i) (by omega);have hkt:(fj v).take (i+1)=(fj v).take i++[u]:=by
     rw[fL];congr 1;simp[fj,hti,hsa]
    have hkl:((fj v).take i).length=i:=(by rw[dh];simp[fj];omega);have hin':∀j k,j<i+1->v.aD[j]? =some k->0<=k/\k<v.ag.length:=by
     intro j k hj hjk;rcases Nat.lt_or_ge j i with z|z
     .exact hin j k z hjk
     .have:j=i:=(by omega);subst this;rw[hti]at hjk;obtain rfl:=bU hjk;omega
    have hr4:List.range 4=[0,1,2,3]:=rfl;obtain⟨ad,ekv,hz⟩:=hO;rw[hkl]at ekv;subst ekv;rcases hz with⟨rfl,hz⟩|⟨b,rfl,hbb,hb3,hb4⟩
    .have hi0:i=0:=(by have:=congrArg List.length hz;rw[hkl]at this;simpa using this);have hsl:Value.slice none i i=Value.slice none 0 0:=(by rw[hi0]);simp only[hsl]at g4 ⊢;simp -implicitDefEqProofs[g1,g2,g4,g11,g12,g13,x1,x2,him,bD,hd1,hl1,ab,q1,q2,hal,bN,hd2,hl2,ao,dC,dS,aM,dH,hr4,w1];refine⟨m-(i+1),by omega,i+1,_,by rw[<-hm],by omega,(hE.bI _).bI _,⟨some ⟨H.n+1,0,none⟩,?_,.inr ⟨H.n+1,rfl,?_,?_,by simp⟩⟩,hin',by simp,by simp,by simp;rfl,by simp[g11,hm]⟩
     .rw[hkt,bH,hkl,hi0];rfl
     .simp[hkt,hz,ao]
     .have:=hE.n;omega
    .have hbn:¬b=H.n:=(by omega);have hmx:(i+1)*32<=140737488355328:=(by omega);obtain⟨F,hF⟩:=nm (((fj v).take i).flatMap ao);have hFl:F.length=i*4:=(by rw[hF,fr 4 fD,hkl]);rw[<-hF]at hbb;simp -implicitDefEqProofs[g1,g2,g4,g11,g12,g13,x1,x2,him,bD,hd1,hl1,ab,q1,q2,hal,bN,hd2,hl2,ao,dC,dS,aM,dH,hr4,w1,hbn,hbb,hFl,hmx];refine⟨m-(i+1),by omega,i+1,_,by rw[<-hm],by omega,((hE.bI _).dp hb3 _).bI _,⟨some ⟨H.n+1,0,none⟩,?_,.inr ⟨H.n+1,rfl,?_,?_,by simp⟩⟩,hin',by simp,by simp,by simp;rfl,by simp[g11,hm]⟩
     .rw[hkt,bH,hkl];rfl
     .have e8:List.take (i*4) (((fj v).take i).flatMap ao)=((fj v).take i).flatMap ao:=(by rw[<-hF];exact b9 (by omega));simp[hkt,ao,hF,e8]
     .have:=hE.n;omega
 .have hie:i=m:=by omega
  subst hie;have hki:ph v=true:=by
   unfold ph;rw[cz];intro k hk';obtain⟨j,hj,rfl⟩:=List.mem_iff_getElem.1 hk';have:=hin j _ (by omega) (aq hj);simp;omega
  have hkl:(fj v).take i=fj v:=b9 (by simp[fj];omega);rw[hkl]at hO;have hkll:(fj v).length=i:=by simp[fj];omega
  have hkv:∃ad,kv= .slice ad i i:=by obtain⟨ad,e,_⟩:=hO;exact⟨ad,by rw[e,hkll]⟩
  obtain⟨adK,eK⟩:=hkv;subst eK;simp -implicitDefEqProofs[g1,g2,g4,g11,g12,g13,x1,x2];refine(Ii _ v.ag hv.1 H (h1.ext hE)).mono ?_;rintro w1 hA ⟨EA,OA⟩;simp -implicitDefEqProofs[aF];intro _;have hwA:∃ad,w1= .slice ad v.ag.length v.ag.length:=by obtain⟨ad,e,_⟩:=OA;exact⟨ad,e⟩
  refine(Ih _ v.aG hv.2.2 hA ((h3.ext hE).ext EA)).mono ?_;rintro w2 hB ⟨EB,OB⟩;have OA2:=OA.ext EB;obtain⟨adA,eA⟩:=hwA;subst eA;have hwB:∃ad,w2= .slice ad v.aG.length v.aG.length:=by obtain⟨ad,e,_⟩:=OB;exact⟨ad,e⟩
  obtain⟨adB,eB⟩:=hwB;subst eB;simp -implicitDefEqProofs[aF];intro _;refine(ak4 _ v.ag H hB hv.1 OA2).mono ?_;rintro r hC ⟨rfl,ys,hperm,hsort,OS,hch⟩;have hys:ys.length=v.ag.length:=hperm.length_eq;have hbA:∀b n c,Value.slice adA v.ag.length v.ag.length= .slice (some ⟨b,0,none⟩) n c->b<hA.n:=by
   intro b n c e;obtain⟨ad,e2,z⟩:=OA;rw[e2]at e;simp only[Value.slice.injEq]at e;rcases z with⟨z,_⟩|⟨b',z,_,_,z4⟩
   .rw[z]at e;simp at e
   .rw[z]at e;simp at e;rw[<-e.1];exact z4
  have EHC:Ext H hC:=by
   rcases hch with rfl|⟨b,n,c,cs,e,bD,bN,rfl⟩
   .exact EA.trans EB
   .exact(EA.trans EB).dp bD _
  have OB2:cO 103 aZ hA hC (.slice adB v.aG.length v.aG.length) v.aG:=by
   rcases hch with rfl|⟨b,n,c,cs,e,bD,bN,rfl⟩
   .exact OB
   .exact cO.nR OB cs (hbA b n c e)
  have OK:=hO.ext EHC;obtain⟨K,hK⟩:=nm ((fj v).map (λs=>eL (eZ s) ys));have hKl:K.length=i:=by rw[hK,cf,hkll]
  simp -implicitDefEqProofs[af];intro _;refine bG (Ts (λkq=>[.slice adA v.ag.length v.ag.length,.int .i64 v.aV,.int .i64 v.bA,kq,.slice adB v.aG.length v.aG.length]) (.slice adK i i) K hC) _ ⟨0,.slice none 0 0,rfl,by omega,Ext.bJ hC,by simpa using cO.nil,by simp[hKl]⟩ ?_;clear g1 g2 g4 g11 g12 g13 x1 x2 hc;rintro n ⟨T,⟨x,D⟩⟩ ⟨j,kq,rfl,hj,ED,OQ,g2,g7,g50,g51,g52,x2,x7⟩;simp at ED OQ g2 g7 g50 g51 g52 x2 x7;rw[hKl]at g51 hj;simp -implicitDefEqProofs[g2,g7,g50,g51,g52,x2,x7];refine bR (λhc=>?_) (λhc=>?_)
  .have hji:j<i:=(by omega);have hua:(fj v)[j]? =some (fj v)[j]:=aq (by omega);have OKD:=OK.sl.ext ED;obtain⟨_,b1,o1,wb1,cs1,r1,e1,bD,hd1,hl1,hbn1⟩:=(hkll ▸ OKD:dt 99 ao D (.slice adK i i) (fj v)).at 4 fD hua;subst e1;obtain⟨u,hu⟩:=nm (fj v)[j];rw[<-hu]at hd1 hua;have hbD:¬b1=D.n:=(by omega);have w1:=bO (i:=j) (by omega);have hKj:K[j]? =some (eL (eZ u) ys):=(by rw[hK,fx,hua];rfl);have hKt:K.take (j+1)=K.take j++[eL (eZ u) ys]:=(by rw[fL,hKj];rfl);have hKjl:(K.take j).length=j:=(by rw[dh];omega);simp -implicitDefEqProofs[g2,g7,g50,g51,g52,x2,x7,hji,bD,hd1,hl1,ao];have ED2:Ext D ((D.new (aW.row true 99 [.int .i64 0,.int .i64 0,.int .i64 0,.int .i64 0])).set D.n (aW.row true 99 [.int .i64 u.row,.int .i64 u.x,.int .i64 u.y,.int .i64 u.kind])):=(Ext.new D _).dp (aX _) _;have hsD:cA ((D.new (aW.row true 99 [.int .i64 0,.int .i64 0,.int .i64 0,.int .i64 0])).set D.n (aW.row true 99 [.int .i64 u.row,.int .i64 u.x,.int .i64 u.y,.int .i64 u.kind])) (.slice adA v.ag.length v.ag.length) ys:=(OS.sl.ext ED).ext ED2;refine cE (aaw _ ys u D.n true (by have:=hv.1;omega) _ hsD (by simp[ao])) ?_;obtain⟨q,hq⟩:=nm (eL (eZ u) ys);rw[<-hq]at hKt ⊢;have hr1:List.range 1=[0]:=rfl;obtain⟨ad,ekq,hz⟩:=OQ;rw[hKjl]at ekq;subst ekq;have hGn:((D.new (aW.row true 99 [.int .i64 0,.int .i64 0,.int .i64 0,.int .i64 0])).set D.n (aW.row true 99 [.int .i64 u.row,.int .i64 u.x,.int .i64 u.y,.int .i64 u.kind])).n=D.n+1:=rfl;obtain⟨G,hG⟩:=nm ((D.new (aW.row true 99 [.int .i64 0,.int .i64 0,.int .i64 0,.int .i64 0])).set D.n (aW.row true 99 [.int .i64 u.row,.int .i64 u.x,.int .i64 u.y,.int .i64 u.kind]));rw[<-hG]at ED2 hGn ⊢;have EDG:Ext hC G:=ED.trans ED2;rcases hz with⟨rfl,hz⟩|⟨b,rfl,hbb,hb3,hb4⟩
   .have hj0:j=0:=(by have:=congrArg List.length hz;rw[hKjl]at this;simpa using this);have hsl:Value.slice none j j=Value.slice none 0 0:=(by rw[hj0]);simp only[hsl]at x7 ⊢;simp -implicitDefEqProofs[aF];intro _;simp -implicitDefEqProofs[dC,dS,aM,dH,hr1,g2,g7,g50,g51,g52,w1];refine⟨i-(j+1),by omega,j+1,_,by rw[hKl],by omega,(EDG.bI _).bI _,⟨some ⟨G.n+1,0,none⟩,?_,.inr ⟨G.n+1,rfl,?_,?_,by simp⟩⟩,by simp,by simp,by simp,by simp[hKl],by simp,by simp,by simp;rfl⟩
    .rw[hKt,bH,hKjl,hj0];rfl
    .simp[hKt,hz,ab]
    .have:=EDG.n;omega
   .have hbn:¬b=G.n:=(by omega);have hbG:G.f b= .row true 3 ((K.take j).flatMap ab):=(by rw[ED2.f b hb4,hbb]);have hmx:(j+1)*8<=140737488355328:=(by omega);obtain⟨F,hF⟩:=nm ((K.take j).flatMap ab);have hFl:F.length=j:=(by have:=fr 1 dY (K.take j);rw[<-hF,hKjl]at this;omega);rw[<-hF]at hbG;have e8:F.take j=F:=b9 (by omega);simp -implicitDefEqProofs[aF];intro _;simp -implicitDefEqProofs[dC,dS,aM,dH,hr1,g2,g7,g50,g51,g52,w1,hbn,hbG,hFl,hmx,e8];refine⟨i-(j+1),by omega,j+1,_,by rw[hKl],by omega,((EDG.bI _).dp hb3 _).bI _,⟨some ⟨G.n+1,0,none⟩,?_,.inr ⟨G.n+1,rfl,?_,?_,by simp⟩⟩,by simp,by simp,by simp,by simp[hKl],by simp,by simp,by simp;rfl⟩
    .rw[hKt,bH,hKjl];rfl
    .simp[hKt,ab,hF]
    .have:=EDG.n;omega
  .have hji:j=i:=(by omega);subst hji;have hKt:K.take j=K:=b9 (by omega);rw[hKt]at OQ;have hkq:∃ad,kq= .slice ad j j:=(by obtain⟨ad,e,_⟩:=OQ;exact⟨ad,by rw[e,hKl]⟩);obtain⟨adQ,eQ⟩:=hkq;subst eQ;simp -implicitDefEqProofs[g2,g7,g50,g51,g52,x2,x7];refine(ak7 _ K hC D (by omega) OQ).mono ?_;rintro r hD ⟨rfl,OD,hch2⟩;have ECD:Ext hC hD:=by
    rcases hch2 with rfl|⟨b,n,c,cs,e,bD,bN,rfl⟩
    .exact ED
    .exact ED.dp bD _
   simp -implicitDefEqProofs[af];intro _;have hsl:(js K).length=K.length:=List.length_mergeSort _;refine(X9 _ (js K) hC hD (by omega) OD).mono ?_;rintro r hE' ⟨OE,hch3⟩;have ECE:Ext hC hE':=by
    rcases hch3 with rfl|⟨b,cs,bD,bN,rfl⟩
    .exact ECD
    .exact ECD.dp bD _
   obtain⟨adR,cR,eR⟩:=OE.1.shape;subst eR;simp -implicitDefEqProofs[af];intro _;have hsrt:(js K).Pairwise (λa b=>a<=b):=by
    have:=List.pairwise_mergeSort (le:=λa b:Int=>decide (a<=b)) (λa b c h1 h2=>by simp at *;omega) (λa b=>by simp;omega) K;exact this.imp (λh=>by simpa using h)
   obtain⟨cr1,cr2⟩:=Ya (js K) hsrt;obtain⟨ks,hks⟩:=nm (Lib.compact (js K));have hkl2:=Aj (js K);rw[<-hks]at cr1 cr2 OE hkl2 ⊢;have hmem:∀x,x∈ks↔x∈(fj v).map (λs=>eL (eZ s) ys):=λx=>(by rw[cr2,<-hK];exact(List.mergeSort_perm K _).mem_iff);have hVN:nW h hE' ⟨ys,v.aV,v.bA,ks,v.aG⟩ [.slice adA v.ag.length v.ag.length,.int .i64 v.aV,.int .i64 v.bA,.slice adR ks.length cR,.slice adB v.aG.length v.aG.length]:=
    ⟨_,_,_,rfl,(jx.of OS hE.n).ext ECE,OE.low (hE.trans EHC).n,(jx.of OB2 (eY hE.n EA.n)).ext ECE⟩
   have hVC:=hVN.dv;have hsm:lz ⟨ys,v.aV,v.bA,ks,v.aG⟩:=⟨by show ys.length<=_;have:=hv.1;omega,by show ks.length<=_;omega,hv.2.2⟩;refine(nG _ _ hsm hE' hVC).mono ?_;rintro r hF ⟨rfl,rfl⟩;have EF:Ext h hF:=(hE.trans EHC).trans ECE;simp -implicitDefEqProofs[af];intro _;by_cases hmay:aK ⟨ys,v.aV,v.bA,ks,v.aG⟩=true
   .simp -implicitDefEqProofs[hmay,g2,g7,x2,x7];exact⟨EF,.inr ⟨hki,ys,ks,hperm,hsort,cr1,hmem,.inl ⟨hmay,_,hVN,rfl⟩⟩⟩
   .have hmay':aK ⟨ys,v.aV,v.bA,ks,v.aG⟩=false:=(by simpa using hmay);simp -implicitDefEqProofs[hmay',g2,g7,x2,x7];exact⟨EF,.inr ⟨hki,ys,ks,hperm,hsort,cr1,hmem,.inr ⟨hmay',by simp[jv]⟩⟩⟩
end Go.Proofs.Ybk.V
namespace Go.Proofs.Ybk
open Go Go.Am
set_option maxHeartbeats 4000000
open T (bF dm fq dI fU bX)
open V (au aR ai ao aZ ab aE a8 jW kO gL iw jr aK mQ fa kV Ri fj ph eL eZ)
open F (FR fb cC)
structure qN(r:Rd):Prop where
 ok:qx r
 ag:∀s∈r.ag,jW s=true
 pT:r.ag.Pairwise (λa b=>¬(a.row=b.row/\a.x=b.x))
 aV:r.aV=0∨aE r.aV 1 1048576=true
 bA:aE r.bA 0 1048576=true
 aG:∀p∈r.aG,kO p=true
def QV:qN gH:=⟨⟨by simp[gH],by simp[gH]⟩,by simp[gH],by simp[gH],.inl rfl,by decide,by simp[gH]⟩
def QH{row x:Int}{l:List au}{i:Nat}(h:mJ row x l i=none):∀s∈l,¬(s.row=row/\s.x=x):=by
 induction l generalizing i with
 |nil=>intro s hs;cases hs
 |cons a r ih=>
  rw[mJ]at h;split at h
  .cases h
  .rename_i hn;intro s hs;rcases cJ.1 hs with rfl|q
   .exact hn
   .exact ih h s q
def QI{row x:Int}{l:List au}{i n:Nat}(h:mJ row x l i=some n):i<=n/\n<i+l.length/\∃s,l[n-i]? =some s/\s.row=row/\s.x=x:=by
 induction l generalizing i with
 |nil=>cases h
 |cons a r ih=>
  rw[mJ]at h;split at h
  .rename_i hn;simp only[av]at h;subst h;exact⟨aX _,by simp,a,by simp,hn.1,hn.2⟩
  .obtain⟨q1,q2,s,q3,q4⟩:=ih h;refine⟨by omega,by simp;omega,s,?_,q4⟩;obtain⟨d,hd⟩:∃d,n-i=d+1:=⟨n-i-1,by omega⟩;rw[hd,List.getElem?_cons_succ,show d=n-(i+1) by omega];exact q3
def ai4{l:List au}{row x:Int}{n:Nat}(h:kr l row x=some n):n<l.length:=by
 have:=QI h;omega
def acP:∀{bs:List Nat}{rest:List bF},km bs rest=none->rest.length=bs.length->∀(i f:Nat)(t:bF),bs[i]? =some f->rest[i]? =some t->j5 f t.n=true:=by
 intro bs;induction bs with
 |nil=>intro rest _ _ i f t h;simp at h
 |cons b bs ih=>
  intro rest h hl i f t h1 h2;cases rest with
  |nil=>simp at hl
  |cons t' rest=>
   rw[km]at h;split at h
   .rename_i hm;cases i with
    |zero=>
     simp at h1 h2;subst h1;subst h2;exact hm
    |succ i=>
     simp at h1 h2 hl;exact ih h hl i f t h1 h2
   .cases h
def Pa{t0:bF}{rest:List bF}{bl bc:Int}(h:fc (t0::rest) bl bc=none):∃bs,ig t0.text=some bs/\rest.length=bs.length/\km bs rest=none:=by
 obtain⟨bs,h1,h2⟩:=Pb h;refine⟨bs,h1,h2,?_⟩;have hw:kc t0=some bs:=by
  unfold fc at h;simp only at h;cases hw:kc t0 with
  |none=>rw[hw]at h;cases h
  |some b2=>
   have:ig t0.text=some b2:=(by unfold kc at hw;split at hw;exact hw;cases hw);rw[h1]at this;exact this.symm
 simp only[fc,hw,mB]at h;cases hc:jG bl bc bs rest with
 |some e=>rw[hc]at h;cases h
 |none=>
  rw[hc]at h;simp only at h;rw[<-h2,List.drop_length]at h;exact h
def UY{r:Rd}{t0:bF}{rest:List bF}{bl bc:Int}(G:qN r)(hle:fc (t0::rest) bl bc=none)(ha:(di r t0 rest).2=true):qN (di r t0 rest).1:=by
 obtain⟨bs,hb,hl,hm⟩:=Pa hle;have hok:=CW G.ok ha;have aJ:=acP hm hl;rcases QZ hb hl with⟨hw,a,rfl⟩|⟨hw,a,b,rfl⟩|⟨hw,a,b,c,rfl⟩
 .rcases hw with hw|hw
  .have hbs:bs=[173]:=(by rw[hw]at hb;simpa[ig,fE,mP,mh,mg]using hb.symm);have h0:=aJ 0 173 a (by rw[hbs];rfl) rfl;by_cases hg:0<r.aV
   .have hres:di r t0 [a]=(r,false):=(by simp[di,hw,hg]);rw[hres]at ha;cases ha
   .have hres:di r t0 [a]=({r with aV:=a.n},true):=(by simp[di,hw,hg]);rw[hres]at hok ⊢;exact⟨hok,G.ag,G.pT,.inr (by simpa[j5]using h0),G.bA,G.aG⟩
  .have hbs:bs=[256]:=(by rw[hw]at hb;simpa[ig,gh,fE,mP,mh,mg]using hb.symm);have hw2:¬gh=fE:=(by decide);have h0:=aJ 0 256 a (by rw[hbs];rfl) rfl;cases hg:r.eT with
   |true=>
    have hres:di r t0 [a]=(r,false):=(by simp[di,hw,hg,hw2]);rw[hres]at ha;cases ha
   |false=>
    have hres:di r t0 [a]=({r with eT:=true,bA:=a.n},true):=(by simp[di,hw,hg,hw2]);rw[hres]at hok ⊢;refine⟨hok,G.ag,G.pT,G.aV,?_,G.aG⟩;simp[j5,aE]at h0;simp[aE];omega
 .have hw1:¬ft=fE:=by decide
  have hw2:¬ft=gh:=by decide
  have hres:di r t0 [a,b]=({r with aD:=r.aD++[⟨a.n,b.n,t0.line,t0.aj,a.line,a.aj⟩]},decide ((r.aD++[(⟨a.n,b.n,t0.line,t0.aj,a.line,a.aj⟩:kU)]).length<=200)):=by simp[di,hw,hw1,hw2]
  rw[hres]at hok ⊢;exact⟨hok,G.ag,G.pT,G.aV,G.bA,G.aG⟩
 .by_cases hwp:t0.text=gB
  .have hbs:bs=[225,225,173]:=(by rw[hwp]at hb;simpa[ig,gB,ft,gh,fE,mP,mh,mg]using hb.symm);have hw1:¬gB=fE:=(by decide);have hw2:¬gB=gh:=(by decide);have hw3:¬gB=ft:=(by decide);have h0:=aJ 0 225 a (by rw[hbs];rfl) rfl;have h1:=aJ 1 225 b (by rw[hbs];rfl) rfl;have h2:=aJ 2 173 c (by rw[hbs];rfl) rfl;have hres:di r t0 [a,b,c]=({r with aG:=r.aG++[⟨a.n,b.n,c.n⟩]},decide ((r.aG++[(⟨a.n,b.n,c.n⟩:aR)]).length<=200)):=(by simp[di,hwp,hw1,hw2,hw3]);rw[hres]at hok ⊢;refine⟨hok,G.ag,G.pT,G.aV,G.bA,λp hp=>?_⟩;rcases eH.1 hp with q|q
   .exact G.aG p q
   .obtain rfl:=dZ.1 q;simp[j5]at h0 h1 h2;simp[kO,h0,h1,h2]
  .have hws:t0.text=mP∨t0.text=mh∨t0.text=mg:=by
    rcases hw with q|q
    .exact absurd q hwp
    .exact q
   have z1:¬t0.text=fE:=by rcases hws with q|q|q<;>rw[q]<;>decide
   have z2:¬t0.text=gh:=by rcases hws with q|q|q<;>rw[q]<;>decide
   have z3:¬t0.text=ft:=by rcases hws with q|q|q<;>rw[q]<;>decide
   have hbs:bs=[257,225,225]:=by
    have e:ig t0.text=some [257,225,225]:=(by rw[ig,if_pos hws]);rw[e]at hb;simpa using hb.symm
   have h0:=aJ 0 257 a (by rw[hbs];rfl) rfl
   have h1:=aJ 1 225 b (by rw[hbs];rfl) rfl
   have h2:=aJ 2 225 c (by rw[hbs];rfl) rfl
   have hkd:aE (rn t0.text) 0 2=true:=by rcases hws with q|q|q<;>rw[q]<;>decide
   cases hp:kr r.ag a.n b.n with
   |some q=>
    have hres:di r t0 [a,b,c]=(r,false):=by simp[di,z1,z2,z3,hwp,hp]
    rw[hres]at ha;cases ha
   |none=>
    have hres:di r t0 [a,b,c]=({r with ag:=r.ag++[⟨a.n,b.n,c.n,rn t0.text⟩]},decide ((r.ag++[(⟨a.n,b.n,c.n,rn t0.text⟩:au)]).length<=4096)):=by simp[di,z1,z2,z3,hwp,hp]
    rw[hres]at hok ⊢
    refine⟨hok,λs hs=>?_,?_,G.aV,G.bA,G.aG⟩
    .rcases eH.1 hs with q|q
     .exact G.ag s q
     .obtain rfl:=dZ.1 q
      simp[j5]at h0 h1 h2
      simp[jW,h0,h1,h2,hkd]
    .show(r.ag++_).Pairwise _
     rw[oR]
     refine⟨G.pT,by simp,λs hs t ht=>?_⟩
     obtain rfl:=dZ.1 ht
     exact QH hp s hs
def Pc(ts:List bF)(el ec:Int):∀(f a:Nat)(r:Rd),qN r->(gU ts el ec f a r).2=none->qN (gU ts el ec f a r).1:=by
 intro f;induction f with
 |zero=>intro a r G _;exact G
 |succ f ih=>
  intro a r G h;by_cases ha:a<ts.length
  .cases hr:rowAt ts a with
   |nil=>
    rw[yr ha hr]at h ⊢;exact ih _ _ G h
   |cons t0 rest=>
    rw[yq ha hr]at h ⊢;cases hle:fc (t0::rest) (jA ts el ec (a+(rest.length+1))).1 (jA ts el ec (a+(rest.length+1))).2 with
    |some e=>rw[hle]at h;cases h
    |none=>
     rw[hle]at h;simp only at h ⊢;by_cases h2:(di r t0 rest).2=true
     .rw[if_pos h2]at h ⊢;exact ih _ _ (UY G hle h2) h
     .rw[if_neg h2]at h;cases h
  .rw[gU,if_neg ha];exact G
def aaX(ag:List au):∀(l:List kU)(acc:List Int),(∀k∈acc,0<=k/\k<ag.length)->(kl ag l acc).2=none->
  (∀k∈(kl ag l acc).1,0<=k/\k<ag.length)/\(kl ag l acc).1.length=acc.length+l.length:=by
 intro l;induction l with
 |nil=>intro acc h _;exact⟨h,rfl⟩
 |cons k r ih=>
  intro acc h h2;cases hp:kr ag k.row k.x with
  |none=>rw[AW hp]at h2;cases h2
  |some n=>
   have hlt:=ai4 hp;by_cases hm:(n:Int)∈acc
   .rw[AX hp hm]at h2;cases h2
   .rw[yg hp hm]at h2 ⊢;obtain⟨q1,q2⟩:=ih (acc++[(n:Int)]) (λk hk=>by
     rcases eH.1 hk with q|q
     .exact h k q
     .obtain rfl:=dZ.1 q;omega) h2
    exact⟨q1,by rw[q2];simp;omega⟩
def acH:∀(a b:List Int),a.Nodup->(∀x∈a,x∈b)->a.length<=b.length:=by
 intro a;induction a with
 |nil=>intro b _ _;simp
 |cons x r ih=>
  intro b hn hs;rw[List.nodup_cons]at hn;have hx:=hs x dU;have h1:=ih (b.erase x) hn.2 (λy hy=>(List.mem_erase_of_ne (by rintro rfl;exact hn.1 hy)).2 (hs y (eI _ hy)));rw[List.length_erase_of_mem hx]at h1;have:0<b.length:=List.length_pos_of_mem hx;simp;omega
def kT(r:Rd)(ks:List Int):ai:=⟨r.ag,r.aV,r.bA,ks,r.aG⟩
def KB{r:Rd}{K:List Int}(G:qN r)(hs:r.ag≠[])(hg:r.aV≠0)(hK:∀k∈K,0<=k/\k<r.ag.length)(hKl:K.length<=200){ys:List au}{ks:List Int}(hp:ys.Perm r.ag)(hso:kV ys)(hri:Ri ks)
  (hm:∀x,x∈ks↔x∈(fj (kT r K)).map (λs=>eL (eZ s) ys)):aK ⟨ys,r.aV,r.bA,ks,r.aG⟩=true:=by
 have hyl:=hp.length_eq;have hpos:0<r.ag.length:=sf.2 hs;have h1:gL ys=true:=by
  unfold gL;rw[bQ,bQ,cz];refine⟨λi hi=>?_,by simp;omega,by have:=G.ok.1;simp;omega⟩;rw[dF]at hi;have e:=aq hi;unfold V.fJ;rw[e];simp only[bQ,kY,de];refine⟨G.ag _ (hp.subset (fG hi)),?_⟩;by_cases hi0:i=0
  .exact .inl hi0
  .right;have fC:i-1<ys.length:=(by omega);rw[aq fC];simp only;have q1:=hso (i-1) i _ _ (by omega) (aq fC) e;have hd:ys.Pairwise (λa b=>¬(a.row=b.row/\a.x=b.x)):=by
    refine(hp.pairwise_iff (R:=λa b=>¬(a.row=b.row/\a.x=b.x)) (fun{a b} h q=>h ⟨q.1.symm,q.2.symm⟩)).2 G.pT
   have q2:=(List.pairwise_iff_getElem.1 hd) (i-1) i fC hi (by omega);rw[V.lp];rw[<-mq,V.lp]at q1;omega
 have h2:aE r.aV 1 1048576=true:=G.aV.resolve_left hg;have h4:iw ks ys.length=true:=by
  unfold iw;rw[bQ,cz];refine⟨λi hi=>?_,?_⟩
  .rw[dF]at hi;have e:=aq hi;unfold V.gT;rw[e];simp only[bQ,kY,de];have hx:=(hm ks[i]).1 (fG hi);rw[dO]at hx;obtain⟨s,hsm,hfx⟩:=hx;unfold fj kT at hsm;rw[dO]at hsm;obtain⟨k,hk,rfl⟩:=hsm;have hkb:=hK k hk;have hkn:k.toNat<r.ag.length:=(by omega);have hin:r.ag.getD k.toNat default∈ys:=by
    rw[bu,aq hkn,iH];exact hp.symm.subset (fG hkn)
   have hany:ys.any (eZ (r.ag.getD k.toNat default))=true:=lB.2 ⟨_,hin,by simp[eZ]⟩;have hfl:eL (eZ (r.ag.getD k.toNat default)) ys=(ys.findIdx (eZ (r.ag.getD k.toNat default)):Int):=(by unfold eL;rw[if_pos hany]);have hlt:ys.findIdx (eZ (r.ag.getD k.toNat default))<ys.length:=List.findIdx_lt_length_of_exists ⟨_,hin,by simp[eZ]⟩;rw[hfl]at hfx;refine⟨by omega,by omega,?_⟩;by_cases hi0:i=0
   .exact .inl hi0
   .right;have fC:i-1<ks.length:=(by omega);rw[aq fC];simp only[de];exact(List.pairwise_iff_getElem.1 hri) (i-1) i fC hi (by omega)
  .have hn:ks.Nodup:=hri.imp (fun{x y} hxy=>by omega);have:=acH ks _ hn (λx hx=>(hm x).1 hx);rw[cf]at this;unfold fj kT at this;rw[cf]at this;simp only at this;simp;omega
 have h5:jr r.aG=true:=by
  unfold jr;rw[bQ,cz];refine⟨λi hi=>?_,by have:=G.ok.2.2;simpa using this⟩;rw[dF]at hi;unfold V.iO;rw[aq hi];exact G.aG _ (fG hi)
 unfold aK mQ;rw[de];simp only;rw[if_neg (by rw[h1];decide),if_neg (by rw[h2];decide),if_neg (by rw[G.bA];decide),if_neg (by rw[h4];decide),if_neg (by rw[h5];decide)]
def fp(l:List UInt8):Option (Int×Int)×ai:=
 if(bX l).code≠0 then(some ((bX l).ln,(bX l).aj),⟨[],0,0,[],[]⟩)
 else match gU (bX l).ts (bX l).ln (bX l).aj ((bX l).ts.length+1) 0 gH with
  |(_,some e)=>(some e,⟨[],0,0,[],[]⟩)
  |(r,none)=>match iC r (bX l).ln (bX l).aj with
   |(_,some e)=>(some e,⟨[],0,0,[],[]⟩)
   |(ks,none)=>(none,kT r ks)
def vr(v w:ai):Prop:=w.ag.Perm v.ag/\kV w.ag/\Ri w.aD/\(∀x,x∈w.aD↔x∈(fj v).map (λs=>eL (eZ s) w.ag))/\w.aV=v.aV/\w.bA=v.bA/\w.aG=v.aG/\aK w=true
def Sr{r:Rd}{el ec:Int}(h:(iC r el ec).2=none)(hk:r.aD.length<=200):r.ag≠[]/\r.aV≠0/\(∀k∈(iC r el ec).1,0<=k/\k<r.ag.length)/\(iC r el ec).1.length<=200:=by
 unfold iC at h ⊢;by_cases hb:r.ag=[]∨r.aV=0
 .rw[if_pos hb]at h;cases h
 .rw[if_neg hb]at h ⊢;obtain⟨q1,q2⟩:=aaX r.ag r.aD [] (λk hk=>by cases hk) h;exact⟨λq=>hb (.inl q),λq=>hb (.inr q),q1,by rw[q2];simpa using hk⟩
end Go.Proofs.Ybk
namespace Go.Proofs.Ybk
open Go Go.Am
set_option maxHeartbeats 4000000
open T (bF dm fq dI fU bX eM bE)
open V (au aR ai ao aZ ab aE a8 jW kO gL iw jr aK mQ fa kV Ri fj ph eL eZ)
open F (FR fb cC)
def VI(l:List UInt8):∀(n a:Nat)(ln aj:Int),(eM l n a ln aj).code=0∨(eM l n a ln aj).code=2:=by
 intro n;induction n with
 |zero=>intro a ln aj;exact .inl rfl
 |succ n ih=>
  intro a ln aj;rw[eM];rcases T.acy l a ln aj with h|h|h<;>simp[h];exact ih _ _ _
def VO(l:List UInt8):(bX l).code=0∨(bX l).code=2:=VI l _ _ _ _
def VL(l:List UInt8):∀(n a:Nat)(ln aj:Int),(eM l n a ln aj).ts.length<=n:=by
 intro n;induction n with
 |zero=>intro a ln aj;simp[eM]
 |succ n ih=>
  intro a ln aj;rw[eM];split
  .have:=ih (bE l a ln aj).to (bE l a ln aj).ln (bE l a ln aj).aj;simp;omega
  .split<;>simp
def acJ{r:Rd}{ks:List Int}(G:qN r)(hs:r.ag≠[])(hg:r.aV≠0)(hK:∀k∈ks,0<=k/\k<r.ag.length)(hKl:ks.length<=200){h h':aa}{v:Value}(N:V.CM (kT r ks) h v h'):
  Ext h h'/\∃w co,vr (kT r ks) w/\V.nW h h' w co/\v= .tuple #[.agg ⟨co⟩,.bool true]:=by
 obtain⟨E,N⟩:=N;refine⟨E,?_⟩;have hin:ph (kT r ks)=true:=by
  unfold ph;rw[cz];intro k hk;have:=hK k hk;show(decide (0<=k)&&decide (k<(r.ag.length:Int)))=true;simp;omega
 rcases N with⟨q,_⟩|⟨_,ys,kz,p,so,ri,hm,N⟩
 .rw[hin]at q;cases q
 .have hmay:=KB G hs hg hK hKl p so ri hm;rcases N with⟨_,co,hc,rfl⟩|⟨q,_⟩
  .exact⟨⟨ys,r.aV,r.bA,kz,r.aG⟩,co,⟨p,so,ri,hm,rfl,rfl,rfl,hmay⟩,hc,rfl⟩
  .rw[show aK ⟨ys,(kT r ks).aV,(kT r ks).bA,kz,(kT r ks).aG⟩=true from hmay]at q;cases q
def zM(l:List UInt8)(h:aa)(v:Value)(h':aa):Prop:=Ext h h'/\match(fp l).1 with
 |some e=>∃E,v= .tuple #[.agg ⟨V.jv⟩,E]/\fb h' h'.n E (mw e.1 e.2)
 |none=>∃w co,vr (fp l).2 w/\V.nW h h' w co/\v= .tuple #[.agg ⟨co⟩,.nilIface]
def CU(l:List UInt8)(h:aa)(v:Value)(h':aa):Prop:=Ext h h'/\match(fp l).1 with
 |some e=>∃E,v= .tuple #[.agg ⟨V.jv⟩,E]/\fb h' h'.n E (mw e.1 e.2)
 |none=>∃w co,vr (fp l).2 w/\V.bL h' w co/\v= .tuple #[.agg ⟨co⟩,.nilIface]
def Sp(l:List UInt8)(hl:l.length<=1048576)(h:aa):al PP 76 [.string (B l)] h (zM l h):=by
 refine aC Tryz.func76 ahH ?_;simp only[aA,Tryz.f76];simp -implicitDefEqProofs;refine(T.zS l hl h).mono ?_;rintro v H1 ⟨E1,s,hs,rfl⟩;obtain⟨ad,rfl,_⟩:=id hs;have hp:fp l=if(bX l).code≠0 then(some ((bX l).ln,(bX l).aj),⟨[],0,0,[],[]⟩)else _:=rfl;simp -implicitDefEqProofs[af,dI];intro _;rcases VO l with hc|hc;rotate_left
 .rw[if_pos (by rw[hc];decide)]at hp;have wr:=mR (bX l).ln (bX l).aj H1;simp only[dI]at wr;simp -implicitDefEqProofs[hc];refine wr.mono ?_;intro E H2 hE;obtain⟨be,rfl⟩:=lh hE;simp -implicitDefEqProofs[af];intro _;refine⟨E1.trans hE.1,?_⟩;rw[hp];exact⟨_,by simp[V.jv],hE.2⟩
 .rw[if_neg (by rw[hc];decide)]at hp;simp -implicitDefEqProofs[hc];have htl:(bX l).ts.length<=1048577:=by have:=VL l (l.length+1) 0 1 1;show(eM l (l.length+1) 0 1 1).ts.length<=_;omega
  obtain⟨M,hM⟩:=nm ((H1.new (aW.obj (Obj.map #[] 0))).new (aW.row true 170 [Value.slice none 0 0,Value.int IntKind.i64 0,Value.int IntKind.i64 0,Value.slice none 0 0,Value.slice none 0 0,Value.int IntKind.i64 (bX l).ln,Value.int IntKind.i64 (bX l).aj,Value.map (some H1.n),Value.slice none 0 0,Value.bool false]));have EM:Ext H1 M:=by rw[hM];exact(Ext.new _ _).bI _
  have RM:mn H1 M gH (bX l).ln (bX l).aj (.slice none 0 0) (H1.n+1):=by
   rw[hM];exact⟨none,none,none,_,_,_,H1.n,by simp[gH],by omega,by simp,F.bP.nil,F.bP.nil,F.bP.nil,by simp[gH,o0,qX],aX _,by simp;omega⟩
  rw[<-hM];refine(abt (bX l).ts htl H1 M (bX l).ln (bX l).aj (.slice none 0 0) rfl (H1.n+1) gH ⟨by simp[gH],by simp[gH]⟩ _ hs.anf EM RM).mono ?_;rintro v H2 ⟨E2,R2,hL⟩;obtain⟨L,hLd⟩:=nm (gU (bX l).ts (bX l).ln (bX l).aj ((bX l).ts.length+1) 0 gH);rw[<-hLd]at R2 hL hp;obtain⟨r,re⟩:=L;cases re with
  |some e=>
   simp only at R2 hL hp;obtain⟨be,rfl⟩:=lh (h:=H2) (a:=e.1) (b:=e.2) ⟨Ext.bJ _,hL⟩;simp -implicitDefEqProofs[af];intro _;refine⟨E1.trans E2,?_⟩;rw[hp];exact⟨_,by simp[V.jv],hL⟩
  |none=>
   simp only at R2 hL hp;obtain⟨rfl,hok⟩:=hL;have G:qN r:=by
    have:=Pc (bX l).ts (bX l).ln (bX l).aj ((bX l).ts.length+1) 0 gH QV (by rw[<-hLd]);rw[<-hLd]at this;exact this
   simp -implicitDefEqProofs[af];intro _;refine(aol H1 H2 r (bX l).ln (bX l).aj (H1.n+1) E2 ⟨none,_,F.bP.nil,R2⟩ hok).mono ?_;rintro v H3 ⟨E3,hW⟩;obtain⟨W,hWd⟩:=nm (iC r (bX l).ln (bX l).aj);have hwn:=Sr (r:=r) (el:=(bX l).ln) (ec:=(bX l).aj);rw[<-hWd]at hW hp hwn;obtain⟨ks,we⟩:=W;cases we with
   |some e=>
    simp only at hW hp;obtain⟨be,rfl⟩:=lh (h:=H3) (a:=e.1) (b:=e.2) ⟨Ext.bJ _,hW⟩;simp -implicitDefEqProofs[af];intro _;refine⟨E1.trans E3,?_⟩;rw[hp];exact⟨_,by simp[V.jv],hW⟩
   |none=>
    simp only at hW hp hwn;obtain⟨rfl,R3⟩:=hW;obtain⟨n1,n2,n3,n4⟩:=hwn trivial hok.2.1;obtain⟨o3,kv,hk3,os,op,ok,ss,sp,sk,bm,hbr,hbr1,hbr2,hos,hop,hokk,_⟩:=R3;have hVC:V.bL H3 (kT r ks) [ss,.int .i64 r.aV,.int .i64 r.bA,kv,sp]:=⟨_,_,_,rfl,hos.own.sl,hk3.own.sl,hop.own.sl⟩;simp -implicitDefEqProofs[af,hbr];intro _;refine(V.acI (kT r ks) _ ⟨by have:=hok.1;show r.ag.length<=_;omega,by show ks.length<=_;omega,by have:=hok.2.2;show r.aG.length<=_;omega⟩ (by show ks.length<=_;omega) H3 hVC).mono ?_;intro v H4 hN;obtain⟨E4,w,co,hw,hc,rfl⟩:=acJ G n1 n2 n3 n4 hN;obtain⟨s',k',p',rfl,v1,v2,v3⟩:=id hc;obtain⟨ad1,cc1,rfl⟩:=v1.1.shape;obtain⟨ad2,cc2,rfl⟩:=v2.1.shape;obtain⟨ad3,cc3,rfl⟩:=v3.1.shape;simp -implicitDefEqProofs[af];intro _;refine⟨(E1.trans E3).trans E4,?_⟩;rw[hp];exact⟨w,_,hw,hc.low (E1.trans E3).n,rfl⟩
def zM.p{l:List UInt8}{h h':aa}{v:Value}(H:zM l h v h'):CU l h v h':=by
 obtain⟨E,H⟩:=H;refine⟨E,?_⟩;cases q:(fp l).1 with
 |some e=>rw[q]at H;exact H
 |none=>
  rw[q]at H;obtain⟨w,co,n1,n2,n3⟩:=H;exact⟨w,co,n1,n2.dv,n3⟩
def aof(l:List UInt8)(hl:l.length<=1048576)(h:aa):al PP 76 [.string (B l)] h (CU l h):=(Sp l hl h).mono λ_ _ H=>H.p
end Go.Proofs.Ybk
namespace Go.Proofs.Ybk
open Go Go.Am
set_option maxHeartbeats 4000000
open T (bF dm fq dI fU bX eM bE iy gx)
open V (au aR ai ao aZ ab aE a8)
open F (FR fb cC)
def me(t:bF):Prop:=1<=t.line/\1<=t.aj
def acD(l:List UInt8)(a:Nat)(ln aj:Int)(h1:1<=ln)(h2:1<=aj):1<=(bE l a ln aj).ln/\1<=(bE l a ln aj).aj/\((bE l a ln aj).code=0->me (bE l a ln aj).tok):=by
 unfold bE iy me;generalize hk:a+T.dL false (l.drop a)=k;have hak:a<=k:=by omega
 have hnv:=T.PV l k;cases hg:l[k]? with
 |none=>dsimp only;refine⟨by omega,by omega,by simp⟩
 |some c=>
  dsimp only;(repeat' split)<;>refine⟨by dsimp only;omega,by dsimp only;omega,?_⟩<;>intro q<;>first|(exfalso;revert q;dsimp only;omega)|exact⟨by dsimp only;omega,by dsimp only;omega⟩
def VM(l:List UInt8):∀(n a:Nat)(ln aj:Int),1<=ln->1<=aj->1<=(eM l n a ln aj).ln/\1<=(eM l n a ln aj).aj/\∀t∈(eM l n a ln aj).ts,me t:=by
 intro n;induction n with
 |zero=>intro a ln aj h1 h2;exact⟨h1,h2,λt ht=>by cases ht⟩
 |succ n ih=>
  intro a ln aj h1 h2;obtain⟨p1,p2,p3⟩:=acD l a ln aj h1 h2;rw[eM];by_cases h0:(bE l a ln aj).code=0
  .simp only[h0,if_true];obtain⟨q1,q2,q3⟩:=ih (bE l a ln aj).to _ _ p1 p2;refine⟨q1,q2,λt ht=>?_⟩;rcases cJ.1 ht with rfl|z
   .exact p3 h0
   .exact q3 t z
  .simp only[h0,if_false];split<;>exact⟨p1,p2,λt ht=>by cases ht⟩
def VP(l:List UInt8):1<=(bX l).ln/\1<=(bX l).aj/\∀t∈(bX l).ts,me t:=VM l _ _ _ _ (by omega) (by omega)
def kS(e:Int×Int):Prop:=1<=e.1/\1<=e.2
def acM{bl bc:Int}(hb:kS (bl,bc)):∀{bs:List Nat}{rest:List bF}{e:Int×Int},(∀t∈rest,me t)->jG bl bc bs rest=some e->kS e:=by
 intro bs;induction bs with
 |nil=>intro rest e _ h;cases h
 |cons b bs ih=>
  intro rest e hr h;cases rest with
  |nil=>rw[jG]at h;simp only[av]at h;rw[<-h];exact hb
  |cons t r=>
   rw[jG]at h;split at h
   .exact ih (λt ht=>hr t (eI _ ht)) h
   .simp only[av]at h;rw[<-h];exact hr t dU
def acQ:∀{bs:List Nat}{rest:List bF}{e:Int×Int},(∀t∈rest,me t)->km bs rest=some e->kS e:=by
 intro bs;induction bs with
 |nil=>intro rest e _ h;cases h
 |cons b bs ih=>
  intro rest e hr h;cases rest with
  |nil=>cases h
  |cons t r=>
   rw[km]at h;split at h
   .exact ih (λt ht=>hr t (eI _ ht)) h
   .simp only[av]at h;rw[<-h];exact hr t dU
def abn{ts:List bF}{bl bc:Int}{e:Int×Int}(hb:kS (bl,bc))(hr:∀t∈ts,me t)(h:fc ts bl bc=some e):kS e:=by
 cases ts with
 |nil=>cases h
 |cons t0 rest=>
  have hr':∀t∈rest,me t:=λt ht=>hr t (eI _ ht);simp only[fc]at h;cases hw:kc t0 with
  |none=>rw[hw]at h;simp only[av]at h;rw[<-h];exact hr t0 dU
  |some bs=>
   rw[hw]at h;simp only[mB]at h;cases hc:jG bl bc bs rest with
   |some e'=>rw[hc]at h;simp only[av]at h;rw[<-h];exact acM hb hr' hc
   |none=>
    rw[hc]at h;simp only at h;cases hd:rest.drop bs.length with
    |cons t q=>rw[hd]at h;simp only[av]at h;rw[<-h];exact hr' t (List.mem_of_mem_drop (hd ▸ dU))
    |nil=>rw[hd]at h;exact acQ hr' h
def yh(r:Rd):Prop:=∀k∈r.aD,kS (k.line,k.aj)/\kS (k.rL,k.rJ)
def UZ{r:Rd}{t0:bF}{rest:List bF}(H:yh r)(h0:me t0)(hr:∀t∈rest,me t)(hl:1<=rest.length):yh (di r t0 rest).1:=by
 unfold di;dsimp only;split
 .split<;>exact H
 split
 .split<;>exact H
 split
 .intro k hk;rcases eH.1 hk with q|q
  .exact H k q
  .obtain rfl:=dZ.1 q;cases rest with
   |nil=>simp at hl
   |cons t q=>exact⟨h0,hr t dU⟩
 split
 .exact H
 .split<;>exact H
def Wb{ts:List bF}{el ec:Int}(he:kS (el,ec))(hr:∀t∈ts,me t)(k:Nat):kS ((jA ts el ec k).1,(jA ts el ec k).2):=by
 unfold jA;cases hk:ts[k]? with
 |none=>exact he
 |some t=>exact hr t (dE hk)
def aj2{ts:List bF}{a:Nat}{t:bF}(h:t∈rowAt ts a):t∈ts:=by
 unfold rowAt at h;exact List.mem_of_mem_take (List.mem_of_mem_drop h)
def abr(ts:List bF)(el ec:Int)(he:kS (el,ec))(hts:∀t∈ts,me t):∀(f a:Nat)(r:Rd),yh r->yh (gU ts el ec f a r).1/\∀e,(gU ts el ec f a r).2=some e->kS e:=by
 intro f;induction f with
 |zero=>intro a r H;exact⟨H,λe h=>by cases h⟩
 |succ f ih=>
  intro a r H;by_cases ha:a<ts.length
  .cases hr:rowAt ts a with
   |nil=>rw[yr ha hr];exact ih _ _ H
   |cons t0 rest=>
    have hm:∀t∈t0::rest,me t:=λt ht=>hts t (aj2 (a:=a) (by rw[hr];exact ht));have hm':∀t∈rest,me t:=λt ht=>hm t (eI _ ht);rw[yq ha hr];cases hle:fc (t0::rest) (jA ts el ec (a+(rest.length+1))).1 (jA ts el ec (a+(rest.length+1))).2 with
    |some e=>
     refine⟨H,λe' h=>?_⟩;simp only[av]at h;rw[<-h];exact abn (Wb he hts _) hm hle
    |none=>
     obtain⟨bs,hb,hl,_⟩:=Pa hle;have h1:=(Df hb).2.1;have ha:=UZ H (hm t0 dU) hm' (by omega);simp only;split
     .exact ih _ _ ha
     .refine⟨ha,λe' h=>?_⟩;simp only[av]at h;rw[<-h];exact hm t0 dU
  .rw[gU,if_neg ha];exact⟨H,λe h=>by cases h⟩
def aaY(ag:List au):∀(l:List kU)(acc:List Int)(e:Int×Int),(∀k∈l,kS (k.line,k.aj)/\kS (k.rL,k.rJ))->(kl ag l acc).2=some e->kS e:=by
 intro l;induction l with
 |nil=>intro acc e _ h;cases h
 |cons k r ih=>
  intro acc e H h;have hk:=H k dU;cases hp:kr ag k.row k.x with
  |none=>rw[AW hp]at h;simp only[av]at h;rw[<-h];exact hk.2
  |some n=>
   by_cases hm:(n:Int)∈acc
   .rw[AX hp hm]at h;simp only[av]at h;rw[<-h];exact hk.1
   .rw[yg hp hm]at h;exact ih _ _ (λk hk=>H k (eI _ hk)) h
def aiM{l:List UInt8}{e:Int×Int}(h:(fp l).1=some e):kS e:=by
 obtain⟨p1,p2,p3⟩:=VP l;unfold fp at h;split at h
 .simp only[av]at h;rw[<-h];exact⟨p1,p2⟩
 .have hL:=abr (bX l).ts (bX l).ln (bX l).aj ⟨p1,p2⟩ p3 ((bX l).ts.length+1) 0 gH (λk hk=>by simp[gH]at hk);revert h hL;generalize gU (bX l).ts (bX l).ln (bX l).aj ((bX l).ts.length+1) 0 gH=L;intro h hL;obtain⟨r,re⟩:=L;cases re with
  |some e'=>simp only[av]at h;rw[<-h];exact hL.2 _ rfl
  |none=>
   simp only at h;have hw:∀e,(iC r (bX l).ln (bX l).aj).2=some e->kS e:=by
    intro e h;unfold iC at h;split at h
    .simp only[av]at h;rw[<-h];exact⟨p1,p2⟩
    .exact aaY _ _ _ _ hL.1 h
   revert h hw;generalize iC r (bX l).ln (bX l).aj=W;intro h hw;obtain⟨ks,we⟩:=W;cases we with
   |some e'=>simp only[av]at h;rw[<-h];exact hw _ rfl
   |none=>cases h
def vI(l:List UInt8):Int×Int×Int:=match(fp l).1 with
 |some e=>(2,e.1,e.2)
 |none=>(0,0,0)
def Tc(l:List UInt8)(h:aa)(v:Value)(h':aa):Prop:=Ext h h'/\v= .tuple #[.int .i64 (vI l).1,dI (vI l).2.1 (vI l).2.2]
def alf{e:Int×Int}(h:kS e):F.oN (mw e.1 e.2)=e:=by
 obtain⟨h1,h2⟩:=h;have a1:F.oD e.1=e.1:=by unfold F.oD;rw[if_neg (by omega)]
 have a2:F.oD e.2=e.2:=by unfold F.oD;rw[if_neg (by omega)]
 have hs:F.xZ ⟨2,e.1,e.2⟩=true:=by
  have:¬e.1=0:=by omega
  simp[F.xZ,this]
 simp only[mw,a1,a2,F.oN];rw[if_neg (by decide),if_pos hs]
def aiS(l:List UInt8)(hl:l.length<=1048576)(h:aa)(G:cC h):al PP 106 [.string (B l)] h (Tc l h):=by
 refine aC Tryz.func106 aeK ?_;simp only[aA,Tryz.f106];simp -implicitDefEqProofs;refine(aof l hl h).mono ?_;rintro v H1 ⟨E1,hV⟩;have hcv:vI l=match(fp l).1 with
  |some e=>(2,e.1,e.2)
  |none=>(0,0,0):=rfl
 have G1:=G.ext E1;cases hp:(fp l).1 with
 |none=>
  rw[hp]at hV hcv;obtain⟨w,co,hw,hc,rfl⟩:=hV;obtain⟨s',k',p',rfl,v1,v2,v3⟩:=id hc;obtain⟨ad1,cc1,rfl⟩:=v1.shape;obtain⟨ad2,cc2,rfl⟩:=v2.shape;obtain⟨ad3,cc3,rfl⟩:=v3.shape;simp -implicitDefEqProofs[af];intro _;refine cE (F.Dc _ _ (G1.ext (Ext.new H1 _))) ?_;simp -implicitDefEqProofs[af];intro _;refine⟨E1.bI _,?_⟩;rw[hcv];rfl
 |some e=>
  rw[hp]at hV hcv;obtain⟨E,rfl,hE⟩:=hV;have hpos:=aiM hp;have hE':=hE;rcases hE.shape with⟨_,q⟩|⟨b,f,E',r,rfl,q,k1,k2,k3⟩
  .cases q
  simp -implicitDefEqProofs[af,V.jv];intro _;have EN:Ext H1 (H1.new (.row true 207 [.pointer none])):=Ext.new H1 _;refine(F.Db b H1.n (.pointer none) _ (G1.ext EN) (by simp)).mono ?_;rintro r h' ⟨rfl,rfl⟩;have EN2:=EN.dp (aX H1.n) (.row true 207 [.pointer (some ⟨b,0,none⟩)]);obtain⟨M,hM⟩:=nm ((H1.new (.row true 207 [.pointer none])).set H1.n (.row true 207 [.pointer (some ⟨b,0,none⟩)]));have hMn:M.f H1.n= .row true 207 [.pointer (some ⟨b,0,none⟩)]:=by rw[hM];simp
  rw[<-hM]at EN2 ⊢;have hMb:M.f b= .row true 223 [.int .i64 f.code,.int .i64 f.line,.int .i64 f.aj,E']:=by rw[EN2.f b k2];exact k1
  simp -implicitDefEqProofs[af,hMn];intro _;refine cE (Zs b f E' M hMb) ?_;simp -implicitDefEqProofs[af];intro _;refine(F.pI _ _ (by simp[mw]) M (G1.ext EN2) (hE'.ext EN2)).mono ?_;rintro v H2 ⟨E3,rfl⟩;rw[alf hpos];simp -implicitDefEqProofs[af];intro _;refine⟨(E1.trans EN2).trans E3,?_⟩;have hfc:f.code=2:=by simp only[mw,List.cons.injEq]at q;rw[<-q.1]
  rw[hcv,hfc];rfl
end Go.Proofs.Ybk
namespace Go.Proofs.Ybk
open Go Go.Am
set_option maxHeartbeats 4000000
open T (bF dm fq dI fU bX eM bE)
open V (au aR ai ao aZ ab aE a8)
open F (FR fb cC)
end Go.Proofs.Ybk
namespace Go.Proofs.Ybk
open Go Go.Am
set_option maxHeartbeats 4000000
open T (bF dm fq dI fU bX eM bE)
open V (au aR ai ao aZ ab aE a8 fa lp kV Ri fj eL eZ aK mQ gL fJ iw)
open F (FR fb cC)
def PB{v:ai}(h:aK v=true):gL v.ag=true:=by
 cases q:gL v.ag with
 |true=>rfl
 |false=>unfold aK mQ at h;rw[if_pos q]at h;simp at h
def Rk{l:List au}(h:gL l=true):l.Pairwise (λa b=>fa a b=true):=by
 unfold gL at h;rw[bQ,cz]at h;have key:∀(d i:Nat)(a b:au),l[i]? =some a->l[i+d+1]? =some b->fa a b=true:=by
  have step:∀(i:Nat)(a b:au),l[i]? =some a->l[i+1]? =some b->fa a b=true:=by
   intro i a b h1 h2;have hlt:=(cP.mp h2).1;have:=h.1 (i+1) (dF.2 hlt);unfold fJ at this;rw[h2,show i+1-1=i by omega,h1]at this;simp at this;exact this.2
  intro d;induction d with
  |zero=>exact step
  |succ d ih=>
   intro i a b h1 h2;have hlt:=(cP.mp h2).1;have h3:l[i+d+1]? =some l[i+d+1]:=aq (by omega);have q1:=ih i a _ h1 h3;have q2:=step _ _ _ h3 (by rw[show i+d+1+1=i+(d+1)+1 by omega];exact h2);rw[lp]at *;omega
 rw[List.pairwise_iff_getElem];intro a b ha hb hab;exact key (b-a-1) a _ _ (aq ha) (by rw[show a+(b-a-1)+1=b by omega];exact aq hb)
end Go.Proofs.Ybk
namespace Go.Proofs.Ybk
open Go Go.Am
open V (au aR ai aE fa lp kV Ri fj eL eZ aK mQ gL fJ iw)
def sI(s:au):List au->List au
 |[]=>[s]
 |a::r=>if fa s a then s::a::r else a::sI s r
def qE(l:List au):List au:=l.foldr sI []
def nC(x:Int):List Int->List Int
 |[]=>[x]
 |a::r=>if x<a then x::a::r else if x=a then a::r else a::nC x r
def nI(v:ai):ai:=⟨qE v.ag,v.aV,v.bA,((fj v).map λs=>eL (eZ s) (qE v.ag)).foldr nC [],v.aG⟩
def KQ(s:au)(l:List au):(sI s l).Perm (s::l):=by
 induction l with
 |nil=>exact List.Perm.refl _
 |cons a r ih=>
  rw[sI];split
  .exact List.Perm.refl _
  .exact(List.Perm.cons a ih).trans (List.Perm.swap _ _ _)
def Ck(l:List au):(qE l).Perm l:=by
 induction l with
 |nil=>exact List.Perm.refl _
 |cons a r ih=>exact(KQ a (qE r)).trans (List.Perm.cons a ih)
def aaD(s:au){l:List au}(h:l.Pairwise λa b=>fa b a=false):(sI s l).Pairwise λa b=>fa b a=false:=by
 induction l with
 |nil=>simp[sI]
 |cons a r ih=>
  rw[jy]at h;rw[sI];by_cases q:fa s a=true
  .rw[if_pos q,jy];have q':=q;rw[lp]at q;refine⟨λb hb=>?_,jy.2 h⟩;rw[<-mq,lp];rcases cJ.1 hb with e|hb
   .subst e;omega
   .have:=h.1 b hb;rw[<-mq,lp]at this;omega
  .rw[if_neg q,jy];refine⟨λb hb=>?_,ih h.2⟩;rcases cJ.1 ((KQ s r).mem_iff.1 hb)with e|hb
   .subst e;exact Bool.eq_false_iff.2 q
   .exact h.1 b hb
def Cl(l:List au):kV (qE l):=by
 have h:(qE l).Pairwise λa b=>fa b a=false:=by
  induction l with
  |nil=>exact List.Pairwise.nil
  |cons a r ih=>exact aaD a ih
 intro i j a b hij ha hb;rw[List.pairwise_iff_getElem]at h;obtain⟨hi,rfl⟩:=cP.mp ha;obtain⟨hj,rfl⟩:=cP.mp hb;exact h i j hi hj hij
def KP(x y:Int)(l:List Int):y∈nC x l↔y=x∨y∈l:=by
 induction l with
 |nil=>simp[nC]
 |cons a r ih=>
  rw[nC];split
  .simp
  .split
   .rename_i e;subst e;simp
   .rw[cJ,ih,cJ];constructor
    .rintro(h|h|h)
     .exact .inr (.inl h)
     .exact .inl h
     .exact .inr (.inr h)
    .rintro(h|h|h)
     .exact .inr (.inl h)
     .exact .inl h
     .exact .inr (.inr h)
def Rw(y:Int)(l:List Int):y∈l.foldr nC []↔y∈l:=by
 induction l with
 |nil=>simp
 |cons a r ih=>rw[List.foldr_cons,KP,ih,cJ]
def aaC(x:Int){l:List Int}(h:l.Pairwise (· < ·)):(nC x l).Pairwise (· < ·):=by
 induction l with
 |nil=>simp[nC]
 |cons a r ih=>
  rw[jy]at h;rw[nC];split
  .rename_i q;rw[jy];refine⟨λb hb=>?_,jy.2 h⟩;rcases cJ.1 hb with e|hb
   .subst e;exact q
   .have:=h.1 b hb;omega
  .split
   .exact jy.2 h
   .rw[jy];refine⟨λb hb=>?_,ih h.2⟩;rcases(KP x b r).1 hb with e|hb
    .subst e;omega
    .exact h.1 b hb
def Cj(l:List Int):(l.foldr nC []).Pairwise (· < ·):=by
 induction l with
 |nil=>exact List.Pairwise.nil
 |cons a r ih=>exact aaC a ih
def BN{l:List Int}(h:l.Pairwise (· < ·)):Ri l:=h
def PR{v w:ai}(H:vr v w):nI v=w:=by
 obtain⟨p,s,r,m,g,a,q,y⟩:=H;have e:qE v.ag=w.ag:=V.aiV (Rk (PB y)) ((Ck v.ag).trans p.symm) (Cl v.ag);have e2:(nI v).aD=w.aD:=V.ajQ (BN (Cj _)) r (λx=>by
  show x∈List.foldr nC [] _↔_;rw[m,Rw,e])
 unfold nI at e2 ⊢;simp only at e2;cases w;simp only at *;rw[e2,e,g,a,q]
end Go.Proofs.Ybk
namespace Go.Proofs.Ybk.K
open Go Go.Am
open V (au aR ai aK aE)
structure aI where
 fuel:Int
 has:Bool
 v:ai
 l:List aB
 now:Int
def bT(o:aB):Bool:=decide (o.state=1) || decide (o.state=2)
def bV(b:aI):List aB:=b.l.filter bT
def cT:Nat->List aB->List (Int×Int)
 |_,[]=>[]
 |k,o::r=>if o.state=2 then((k:Int),o.first)::cT (k+1) r else cT (k+1) r
def aO(b:aI):List aQ×List Int×List (Int×Int):=((bV b).map (·.az),(bV b).map (·.first),cT 0 (bV b))
def eE:List aB->List Int->List aB
 |[],_=>[]
 |o::r,p=>if bT o then{o with first:=p.headD 0}::eE r p.tail else o::eE r p
def tD(b:aI)(p:List Int):aI:={b with l:=eE b.l p}
def il(b:aI)(o:aB):List Int:=if aK b.v then(cY b.v (bK b.v) o.az o.first).getD []else[]
def err(c:Int):jX:=⟨c,0,(0,0),[]⟩
def kJ(b:aI)(t:List UInt8):aI×jX:=if(bV b).length>0 then(b,err 12)else match(fp t).1 with
 |some e=>(b,⟨2,0,e,[]⟩)
 |none=>let v:=nI (fp t).2;({b with v:=v,has:=true},⟨0,v.ag.length,(0,0),[]⟩)
def gv(steps:Nat)(b:aI)(p:aQ):List Int×Int:=if 512<=(bV b).length then([],8)else
 let (l,old,pins):=aO b
 let r:=gj steps b.v (l++[p]) pins (old++[-1]) b.fuel
 if r.2≠0 then([],r.2)else if jD (l++[p]) r.1.aY then(r.1.aY,0)else if r.1.answer=3 then([],7)else([],6)
def kH(steps:Nat)(b:aI)(c:CmdR):aI×jX:=if !dK c.az || decide (c.a<1) || decide (1000000<c.a) || decide (1099511627776<b.now+c.a)then(b,err 1)else
 let r:=gv steps b c.az
 if r.2≠0 then(b,err r.2)else
  let o:aB:=⟨(b.l.length:Int)+1,1,c.az,b.now+c.a,r.1.getLastD 0⟩
  let b1:=tD {b with l:=b.l++[o]} r.1
  (b1,⟨0,o.id,(0,0),il b1 o⟩)
def lR(b:aI)(id:Int):aI×jX:=if id<1∨(b.l.length:Int)<id then(b,err 4)else
 let o:=b.l.getD (id.toNat-1) default
 if o.state≠1 then(b,err 5)else
  let o1:={o with state:=2,gX:=0}
  ({b with l:=b.l.set (id.toNat-1) o1},⟨0,0,(0,0),il b o1⟩)
def oa(o:aB):aB:={o with state:=3,first:=-1,gX:=0}
def lQ(b:aI)(id:Int):aI×jX:=if id<1∨(b.l.length:Int)<id then(b,err 4)else
 let o:=b.l.getD (id.toNat-1) default
 if o.state=3 then(b,err 5)else({b with l:=b.l.set (id.toNat-1) (oa o)},err 0)
def iR(b:aI)(n:Int):aI×jX:=if n<1∨1000000<n∨1099511627776<b.now+n then(b,err 1)else
 let now:=b.now+n
 let due:=λo:aB=>decide (o.state=1)&&decide (o.gX<=now)
 ({b with now:=now,l:=b.l.map λo=>if due o then oa o else o},⟨0,(b.l.filter due).length,(0,0),[]⟩)
def ma(steps:Nat)(b:aI):aI×jX:=
 let (l,old,pins):=aO b
 let r:=gj steps b.v l pins old b.fuel
 if r.2≠0 then(b,err r.2)else if r.1.answer=3 then(b,err 7)else
  (tD b r.1.aY,⟨0,((List.range (min old.length r.1.aY.length)).filter λk=>decide (old.getD k 0≠r.1.aY.getD k 0)).length,(0,0),[]⟩)
def ue(b:aI):jX:=
 let out:=(List.range b.v.ag.length).map λk:Nat=>if(iv b.v).contains (k:Int)then(-1:Int)else 0
 ⟨0,0,(0,0),(bV b).foldl (λout o=>(il b o).foldl (λout k=>out.set k.toNat o.id) out) out⟩
def bZ(steps:Nat)(b:aI)(c:CmdR):aI×jX:=
 if c.kind<1∨8<c.kind then(b,err 1)else if c.kind=1 then kJ b c.text else if c.kind=5 then iR b c.a else if !b.has then(b,err 11)
 else if c.kind=2 then kH steps b c else if c.kind=6 then(b,let r:=gv steps b c.az;if !dK c.az then err 1 else if r.2≠0 then err r.2 else⟨0,0,(0,0),il b ⟨0,0,c.az,0,r.1.getLastD 0⟩⟩)
 else if c.kind=3 then lR b c.a else if c.kind=4 then lQ b c.a else if c.kind=7 then ma steps b else(b,ue b)
def eP(fuel:Int):aI:=⟨fuel,false,⟨[],0,0,[],[]⟩,[],0⟩
def yB:List UInt8:=[103,97,112,32,49,48,10,115,101,97,116,32,48,32,48,32,48,10,115,101,97,116,32,48,32,49,48,32,48,10,115,101,97,116,32,48,32,50,48,32,48,10]
def cmd(k a s:Int)(t:List UInt8):CmdR:=⟨k,a,⟨s,0⟩,t⟩
def rC(i:Nat)(o:aB):Prop:=o.id=(i:Int)+1/\1<=o.state/\o.state<=3/\(o.state=3->o.first= -1/\o.gX=0)
def gV:Nat->List aB->Prop
 |_,[]=>True
 |i,o::r=>rC i o/\gV (i+1) r
def yJ:∀{l:List aB}{i k:Nat}{o:aB},gV i l->l[k]? =some o->rC (i+k) o:=by
 intro l;induction l with
 |nil=>intro i k o _ h;simp at h
 |cons a r ih=>
  intro i k o h hk;cases k with
  |zero=>
   simp at hk;subst hk;exact h.1
  |succ k=>
   rw[List.getElem?_cons_succ]at hk;have:=ih h.2 hk;rwa[show i+1+k=i+(k+1) by omega]at this
def Qb:∀{l:List aB}{i:Nat}{o:aB},gV i l->rC (i+l.length) o->gV i (l++[o]):=by
 intro l;induction l with
 |nil=>intro i o _ h;exact⟨by simpa using h,trivial⟩
 |cons a r ih=>
  intro i o h ho;refine⟨h.1,ih h.2 ?_⟩;rw[eW]at ho;rwa[show i+(r.length+1)=i+1+r.length by omega]at ho
def Qc:∀{l:List aB}{i k:Nat}{o:aB},gV i l->rC (i+k) o->gV i (l.set k o):=by
 intro l;induction l with
 |nil=>intro i k o _ _;trivial
 |cons a r ih=>
  intro i k o h ho;cases k with
  |zero=>exact⟨ho,h.2⟩
  |succ k=>
   refine⟨h.1,ih h.2 ?_⟩;rwa[show i+1+k=i+(k+1) by omega]
def ahZ{f:aB->aB}(hf:∀n o,rC n o->rC n (f o)):∀{l:List aB}{i:Nat},gV i l->gV i (l.map f):=by
 intro l;induction l with
 |nil=>intro i _;trivial
 |cons a r ih=>intro i h;exact⟨hf _ _ h.1,ih h.2⟩
def Bo:∀{l:List aB}{i:Nat}(p:List Int),gV i l->gV i (eE l p):=by
 intro l;induction l with
 |nil=>intro i p _;trivial
 |cons o r ih=>
  intro i p h;rw[eE];split
  .rename_i hl;refine⟨?_,ih _ h.2⟩;obtain⟨h1,h2,h3,h4⟩:=h.1;refine⟨h1,h2,h3,λq=>?_⟩;simp only at q;simp[bT]at hl;omega
  .exact⟨h.1,ih _ h.2⟩
def vf:∀(l:List aB)(p:List Int),(eE l p).length=l.length:=by
 intro l;induction l with
 |nil=>intro p;rfl
 |cons o r ih=>intro p;rw[eE];split<;>simp[ih]
def Kb{n:Nat}{o:aB}(h:rC n o):rC n (oa o):=⟨h.1,by show(1:Int)<=3;decide,by show(3:Int)<=3;decide,λ_=>⟨rfl,rfl⟩⟩
def qK(b:aI)(c:CmdR)(b':aI)(r:jX):Prop:=gV 0 b'.l/\(b'.l.length≠b.l.length->c.kind=2/\r.code=0/\b'.l.length=b.l.length+1/\r.n=(b.l.length:Int)+1)
def jT{b:aI}{c:CmdR}{b':aI}{r:jX}(h:gV 0 b'.l)(hl:b'.l.length=b.l.length):qK b c b' r:=⟨h,λq=>absurd hl q⟩
def sD{l:List aB}{k:Nat}(h:k<l.length):l[k]? =some (l.getD k default):=by
 rw[bu,aq h];rfl
def abx(b:aI)(c:CmdR)(t:List UInt8)(h:gV 0 b.l):qK b c (kJ b t).1 (kJ b t).2:=by
 unfold kJ;split
 .exact jT h rfl
 .split
  .exact jT h rfl
  .exact jT h rfl
def aak(n:Nat)(b:aI)(c:CmdR)(hc:c.kind=2)(h:gV 0 b.l):qK b c (kH n b c).1 (kH n b c).2:=by
 unfold kH;split
 .exact jT h rfl
 .simp only;split
  .exact jT h rfl
  .refine⟨?_,λ_=>⟨hc,rfl,?_,rfl⟩⟩
   .refine Bo _ (Qb h ?_);exact⟨by simp,by show(1:Int)<=1;decide,by show(1:Int)<=3;decide,λq=>by simp at q⟩
   .show(eE (b.l++[_]) _).length=_;rw[vf];simp
def Yc(b:aI)(c:CmdR)(id:Int)(h:gV 0 b.l):qK b c (lR b id).1 (lR b id).2:=by
 unfold lR;split
 .exact jT h rfl
 .rename_i hid;simp only;split
  .exact jT h rfl
  .have hk:id.toNat-1<b.l.length:=(by omega);have ho:=yJ h (sD hk);refine jT (Qc h ?_) (by simp);exact⟨ho.1,by show(1:Int)<=2;decide,by show(2:Int)<=3;decide,λq=>by simp at q⟩
def XE(b:aI)(c:CmdR)(id:Int)(h:gV 0 b.l):qK b c (lQ b id).1 (lQ b id).2:=by
 unfold lQ;split
 .exact jT h rfl
 .rename_i hid;simp only;split
  .exact jT h rfl
  .have hk:id.toNat-1<b.l.length:=(by omega);exact jT (Qc h (Kb (yJ h (sD hk)))) (by simp)
def ane(b:aI)(c:CmdR)(n:Int)(h:gV 0 b.l):qK b c (iR b n).1 (iR b n).2:=by
 unfold iR;split
 .exact jT h rfl
 .refine jT (ahZ (λm o ho=>?_) h) (by simp);split
  .exact Kb ho
  .exact ho
def ajK(n:Nat)(b:aI)(c:CmdR)(h:gV 0 b.l):qK b c (ma n b).1 (ma n b).2:=by
 unfold ma;simp only;split
 .exact jT h rfl
 .split
  .exact jT h rfl
  .exact jT (Bo _ h) (vf _ _)
def Ys(n:Nat)(b:aI)(c:CmdR)(h:gV 0 b.l):qK b c (bZ n b c).1 (bZ n b c).2:=by
 unfold bZ;split
 .exact jT h rfl
 split
 .exact abx b c c.text h
 split
 .exact ane b c c.a h
 split
 .exact jT h rfl
 split
 .rename_i hc;exact aak n b c hc h
 split
 .exact jT h rfl
 split
 .exact Yc b c c.a h
 split
 .exact XE b c c.a h
 split
 .exact ajK n b c h
 .exact jT h rfl
def kf:dW:=⟨0,[],nT,0⟩
def fZ:List aB->List aB->List dW
 |[],_=>[]
 |o::r,was=>(if was.head? =some o then[]else[{kf with kind:=2,order:=o}])++fZ r was.tail
def kQ(b was:aI)(c:CmdR):List dW:=
 let out:=(if c.kind=1 then[{kf with kind:=1,text:=c.text}]else if c.kind=5 then[{kf with kind:=3,time:=b.now}]else[])++fZ b.l was.l
 if out=[]then[]else out++[{kf with kind:=4}]
def akQ:∀{l was:List aB},fZ l was=[]->was.length<=l.length->l=was:=by
 intro l;induction l with
 |nil=>
  intro was _ h;cases was with
  |nil=>rfl
  |cons a r=>simp at h
 |cons o r ih=>
  intro was h hl;rw[fZ,List.append_eq_nil_iff]at h;obtain⟨h1,h2⟩:=h;cases was with
  |nil=>simp at h1
  |cons a s=>
   have e:a=o:=by
    rcases Decidable.em ((a::s).head? =some o)with q|q
    .simpa using q
    .rw[if_neg q]at h1;cases h1
   rw[e,ih h2 (by simpa using hl)];rfl
structure CQ(b:aI)(c:CmdR)(b':aI)(r:jX):Prop where
 bad:r.code≠0->b'=b/\r.n=0/\r.ag=[]
 len:b.l.length<=b'.l.length
 rest:c.kind≠1->c.kind≠5->b'.fuel=b.fuel/\b'.has=b.has/\b'.v=b.v/\b'.now=b.now
def lK{b:aI}{c:CmdR}{r:jX}(h:r.code≠0->r.n=0/\r.ag=[]):CQ b c b r:=⟨λq=>⟨rfl,h q⟩,aX _,λ_ _=>⟨rfl,rfl,rfl,rfl⟩⟩
def lU(k:Int):(err k).code≠0->(err k).n=0/\(err k).ag=[]:=λ_=>⟨rfl,rfl⟩
def um(n:Nat)(b:aI)(c:CmdR):CQ b c (bZ n b c).1 (bZ n b c).2:=by
 unfold bZ;split
 .exact lK (lU _)
 split
 .rename_i hk;unfold kJ;split
  .exact lK (lU _)
  .split
   .exact lK (λ_=>⟨rfl,rfl⟩)
   .exact⟨λq=>absurd rfl q,aX _,λq=>absurd hk q⟩
 split
 .rename_i hk;unfold iR;split
  .exact lK (lU _)
  .exact⟨λq=>absurd rfl q,by simp,λ_ q=>absurd hk q⟩
 split
 .exact lK (lU _)
 split
 .unfold kH;split
  .exact lK (lU _)
  .simp only;split
   .exact lK (lU _)
   .refine⟨λq=>absurd rfl q,?_,λ_ _=>⟨rfl,rfl,rfl,rfl⟩⟩;show _<=(eE (b.l++[_]) _).length;rw[vf];simp
 split
 .refine lK ?_;simp only;split
  .exact lU _
  .split
   .exact lU _
   .exact λq=>absurd rfl q
 split
 .unfold lR;split
  .exact lK (lU _)
  .simp only;split
   .exact lK (lU _)
   .exact⟨λq=>absurd rfl q,by simp,λ_ _=>⟨rfl,rfl,rfl,rfl⟩⟩
 split
 .unfold lQ;split
  .exact lK (lU _)
  .simp only;split
   .exact lK (lU _)
   .exact⟨λq=>absurd rfl q,by simp,λ_ _=>⟨rfl,rfl,rfl,rfl⟩⟩
 split
 .unfold ma;simp only;split
  .exact lK (lU _)
  .split
   .exact lK (lU _)
   .refine⟨λq=>absurd rfl q,?_,λ_ _=>⟨rfl,rfl,rfl,rfl⟩⟩;show _<=(eE b.l _).length;rw[vf];exact aX _
 .exact lK (λq=>absurd rfl q)
def BO(n:Nat)(b:aI)(c:CmdR)(h:kQ (bZ n b c).1 b c=[]):(bZ n b c).1=b:=by
 have Q:=um n b c;obtain⟨b',hb⟩:=nm (bZ n b c).1;rw[<-hb]at Q h ⊢;unfold kQ at h;simp only at h;obtain⟨out,hout⟩:=nm ((if c.kind=1 then[({kf with kind:=1,text:=c.text}:dW)]else if c.kind=5 then[{kf with kind:=3,time:=b'.now}]else[])++fZ b'.l b.l);rw[<-hout]at h;by_cases h0:out=[]
 .rw[hout,List.append_eq_nil_iff]at h0;obtain⟨h1,h2⟩:=h0;have k1:c.kind≠1:=by intro q;rw[if_pos q]at h1;cases h1
  have k5:c.kind≠5:=by intro q;rw[if_neg k1,if_pos q]at h1;cases h1
  obtain⟨q1,q2,q3,q4⟩:=Q.rest k1 k5;have ql:=akQ h2 Q.len;cases b';cases b;simp only at q1 q2 q3 q4 ql;subst q1;subst q2;subst q3;subst q4;subst ql;rfl
 .rw[if_neg h0]at h;simp at h
def kh(now:Int)(o:aB):Bool:=decide (o.state=1)&&decide (o.gX<=now)
def kF(now:Int)(o:aB):aB:=if kh now o then oa o else o
def Cs(b:aI)(n:Int)(h:1<=n/\n<=1000000/\b.now+n<=1099511627776):iR b n=({b with now:=b.now+n,l:=b.l.map (kF (b.now+n))},⟨0,(b.l.filter (kh (b.now+n))).length,(0,0),[]⟩):=by
 unfold iR;rw[if_neg (by omega)];rfl
def A4(l:List aQ)(pins:List (Int×Int)):(dQ l pins).length=l.length:=by
 unfold dQ;have:∀(pins:List (Int×Int))(p:List Int),(pins.foldl (λp q=>p.set q.1.toNat q.2) p).length=p.length:=by
  intro pins;induction pins with
  |nil=>intro p;rfl
  |cons q r ih=>intro p;rw[List.foldl_cons,ih];simp
 rw[this];simp
def Po(h:dA)(hl:h.aY.length=h.l.length):(cD h).1.aY.length=(cD h).1.l.length/\(cD h).1.l=h.l:=by
 unfold cD;split
 .exact⟨hl,rfl⟩
 .simp only;split
  .rename_i hd;split
   .exact⟨hd,rfl⟩
   .exact⟨hl,rfl⟩
  .split
   .exact⟨hl,rfl⟩
   .exact⟨hl,rfl⟩
def akm:∀(n:Nat)(h:dA)(g:Bool),h.aY.length=h.l.length->(dV n h g).1.aY.length=(dV n h g).1.l.length/\(dV n h g).1.l=h.l:=by
 intro n;induction n with
 |zero=>intro h g hl;exact⟨hl,rfl⟩
 |succ n ih=>
  intro h g hl;rw[dV];split
  .split
   .exact⟨hl,rfl⟩
   .split
    .exact ih _ _ hl
    .rename_i l a r hs q;obtain⟨e1,e2⟩:=Po {h with stack:=(l,a+1)::r,p:=fY h.p (l.getD a 0)} hl;obtain⟨i1,i2⟩:=ih _ (cD {h with stack:=(l,a+1)::r,p:=fY h.p (l.getD a 0)}).2 e1;exact⟨i1,i2.trans e2⟩
  .exact⟨hl,rfl⟩
def xu{steps:Nat}{v:ai}{l:List aQ}{pins:List (Int×Int)}{fuel:Int}{r:qO}(h:mZ steps v l pins fuel=some r):r.aY.length=l.length:=by
 unfold mZ at h;split at h
 .cases h
 .rename_i s hs;split at h
  .cases h
  .simp only[av]at h;subst h;simp only;obtain⟨e1,e2⟩:=Po ⟨fm s,l,dQ l pins,0,[],ff l (dQ l pins),fuel,[]⟩ (A4 l pins);obtain⟨i1,i2⟩:=akm steps _ (cD ⟨fm s,l,dQ l pins,0,[],ff l (dQ l pins),fuel,[]⟩).2 e1;rw[i1,i2,e2]
def zO{steps:Nat}{v:ai}{l:List aQ}{pins:List (Int×Int)}{old:List Int}{fuel:Int}(ho:old.length=l.length)(h:(gj steps v l pins old fuel).2=0):(gj steps v l pins old fuel).1.aY.length=l.length:=by
 unfold gj at h ⊢;split
 .rename_i q;rw[if_pos q]at h;simp at h
 .rename_i q;rw[if_neg q]at h;split
  .rename_i q2;rw[q2]at h;simp at h
  .rename_i r q2;split
   .exact ho
   .exact xu q2
structure CC(s:bS)(p:List Int)(d k:Nat)(f:Int):Prop where
 wE:∀x,eS s k=some x->f=x
 ag:(cY s.v s.us (s.l.getD k default) f).isSome=true
 apart:∀j,j<d->p.getD j 0≠-1->dM s.v (s.l.getD k default) f (s.l.getD j default) (p.getD j 0)=true
def Sx{s:bS}{p q:List Int}{k:Nat}(h:∀j,j<=k->p.getD j 0=q.getD j 0):ez s p k=ez s q k:=by
 unfold ez;simp only;rw[h k (aX _)];congr 3;have:∀j∈List.range k,(decide (p.getD j 0≠-1)&& !dM s.v (s.l.getD k default) (q.getD k 0) (s.l.getD j default) (p.getD j 0))=(decide (q.getD j 0≠-1)&& !dM s.v (s.l.getD k default) (q.getD k 0) (s.l.getD j default) (q.getD j 0)):=λj hj=>by
  rw[h j (Nat.le_of_lt (dF.1 hj))]
 rw[Bool.eq_iff_iff,lB,lB];constructor
 .rintro⟨j,hj,e⟩;exact⟨j,hj,by rw[<-this j hj];exact e⟩
 .rintro⟨j,hj,e⟩;exact⟨j,hj,by rw[this j hj];exact e⟩
def nz{p q:List Int}{j:Nat}(h:j<p.length):(p++q).getD j 0=p.getD j 0:=by
 rw[bu,bu,ji h]
def sC{p:List Int}{f:Int}:(p++[f]).getD p.length 0=f:=by
 rw[bu,iF (aX _)];simp
def vQ{p:List Int}{j:Nat}(h:j<p.length-1):p.dropLast.getD j 0=p.getD j 0:=by
 rw[bu,bu,List.getElem?_dropLast,if_pos h]
def aov{s:bS}{p:List Int}{f:Int}(D:CC s p p.length p.length f):ez s (p++[f]) p.length=false:=by
 unfold ez;simp only[sC];have h2:(cY s.v s.us (s.l.getD p.length default) f).isNone=false:=by
  have:=D.ag;cases q:cY s.v s.us (s.l.getD p.length default) f with
  |none=>rw[q]at this;cases this
  |some _=>rfl
 have h3:((List.range p.length).any λj=>decide ((p++[f]).getD j 0≠-1)&& !dM s.v (s.l.getD p.length default) f (s.l.getD j default) ((p++[f]).getD j 0))=false:=by
  rw[List.any_eq_false];intro j hj;have hj:=dF.1 hj;rw[nz hj];by_cases q:p.getD j 0= -1
  .rw[show decide (p.getD j 0≠-1)=false from by rw[q];rfl];simp
  .rw[D.apart j hj q];simp
 rw[h2,h3];cases q:eS s p.length with
 |none=>simp
 |some x=>simp[D.wE x q]
def aox{s:bS}{p:List Int}(h:eS s p.length=none):ez s (p++[-1]) p.length=false:=by
 unfold ez;simp only[sC,h];rfl
structure mV(p:cu):Prop where
 len:p.levels.length=p.p.length+1
 ok:∀k,k<p.p.length->ez p.s p.p k=false
 dX:∀d,d<=p.p.length->∀k,d<=k->∀f∈(p.levels.getD d []).getD k [],CC p.s p.p d k f
def yH{p:cu}(h:p.levels.length=p.p.length+1):cK p=p.levels.getD p.p.length []:=by
 unfold cK;rw[List.getLastD_eq_getLast?,List.getLast?_eq_getElem?,h,sd,bu]
def rG{p:cu}(P:mV p):mV (fK p):=by
 unfold fK;split
 .exact P
 .rename_i h0;have hl:=P.len;refine⟨by simp[hl];omega,λk hk=>?_,λd hd k hk f hf=>?_⟩
  .simp only[List.length_dropLast]at hk;rw[show ez p.s p.p.dropLast k=ez p.s p.p k from Sx (λj hj=>vQ (by omega))];exact P.ok k (by omega)
  .simp only[List.length_dropLast]at hd;simp only at hf;have e:p.levels.dropLast.getD d []=p.levels.getD d []:=by
    rw[bu,bu,List.getElem?_dropLast,if_pos (by omega)]
   rw[e]at hf;have D:=P.dX d (by omega) k hk f hf;refine⟨D.wE,D.ag,λj hj=>?_⟩;rw[vQ (show j<p.p.length-1 by omega)];exact D.apart j hj
def yU{p:cu}(P:mV p)(f:Int):mV (fY p f):=by
 unfold fY;simp only;split
 .exact P
 .rename_i hg;simp only[kY,bQ,not_or,not_and,Bool.not_eq_true',de,lP]at hg;obtain⟨⟨hk,hpin⟩,hdom⟩:=hg;have hk:p.p.length<p.s.l.length:=by simpa using hk
  have hnow:=yH P.len;refine⟨by simp[P.len],λk hk'=>?_,λd hd k hk' f' hf'=>?_⟩
  .simp only[bH,jz]at hk';rcases Nat.lt_or_ge k p.p.length with z|z
   .rw[show ez p.s (p.p++[f]) k=ez p.s p.p k from Sx (λj hj=>nz (by omega))];exact P.ok k z
   .obtain rfl:k=p.p.length:=(by omega);by_cases hf:f= -1
    .subst hf;refine aox ?_;have:=hpin rfl;unfold kN at this;simp[hk]at this;exact this
    .have hd:=hdom hf;have hmem:f∈(cK p).getD p.p.length []:=by
      unfold iY at hd;rw[if_pos hk]at hd;simpa using hd
     rw[hnow]at hmem;exact aov (P.dX _ (aX _) _ (aX _) f hmem)
  .simp only[bH,jz]at hd;simp only at hf';rcases Nat.lt_or_ge p.p.length d with z|z
   .obtain rfl:d=p.p.length+1:=(by omega);have e:(p.levels++[(List.range (cK p).length).map λj=>if j=p.p.length then(if f= -1 then[]else[f])else if f≠-1/\p.p.length<j then fB p.s ((cK p).getD j []) j p.p.length f else(cK p).getD j []]).getD (p.p.length+1) []=(List.range (cK p).length).map λj=>if j=p.p.length then(if f= -1 then[]else[f])else if f≠-1/\p.p.length<j then fB p.s ((cK p).getD j []) j p.p.length f else(cK p).getD j []:=by
     rw[bu,iF (by rw[P.len];omega),P.len];simp
    rw[e]at hf';rw[bu,fx]at hf';cases hr:(List.range (cK p).length)[k]? with
    |none=>rw[hr]at hf';simp at hf'
    |some k'=>
     have hk2:=cP.1 hr;obtain⟨hk3,hk4⟩:=hk2;rw[List.getElem_range]at hk4;subst hk4;rw[hr]at hf';simp only[fV,iH]at hf';rw[if_neg (by omega)]at hf';have key:f'∈(cK p).getD k []/\(f≠-1->dM p.s.v (p.s.l.getD k default) f' (p.s.l.getD p.p.length default) f=true):=by
      by_cases hf:f= -1
      .rw[if_neg (by simp[hf])]at hf';exact⟨hf',λq=>absurd hf q⟩
      .rw[if_pos ⟨hf,by omega⟩]at hf';unfold fB at hf';obtain⟨m1,m2⟩:=gS.1 hf';exact⟨m1,λ_=>m2⟩
     rw[hnow]at key;have D:=P.dX _ (aX _) k (by omega) f' key.1;refine⟨D.wE,D.ag,λj hj hne=>?_⟩;rcases Nat.lt_or_ge j p.p.length with y|y
     .simp only[nz y]at hne ⊢;exact D.apart j y hne
     .obtain rfl:j=p.p.length:=(by omega);simp only[sC]at hne ⊢;exact key.2 hne
   .have e:∀X:List (List Int),(p.levels++[X]).getD d []=p.levels.getD d []:=λX=>by
     rw[bu,bu,ji (by rw[P.len];omega)]
    rw[e]at hf'
    have D:=P.dX d z k hk' f' hf'
    refine⟨D.wE,D.ag,λj hj hne=>?_⟩
    simp only[nz (show j<p.p.length by omega)]at hne ⊢
    exact D.apart j hj hne
structure mU(v:ai)(us:List Bool)(l:List aQ)(a:List (Int×Int)):Prop where
 each:∀q∈a,0<=q.1/\q.1<(l.length:Int)/\(cY v us (l.getD q.1.toNat default) q.2).isSome=true
 pair:a.Pairwise (λx y=>x.1<y.1/\dM v (l.getD y.1.toNat default) y.2 (l.getD x.1.toNat default) x.2=true)
def aau(v:ai)(us:List Bool)(l:List aQ):∀(r acc out:List (Int×Int)),jE v us l acc r=some out->mU v us l acc->out=acc++r/\mU v us l out:=by
 intro r;induction r with
 |nil=>
  intro acc out h G;simp only[jE,av]at h;subst h;exact⟨by simp,G⟩
 |cons q r ih=>
  intro acc out h G;obtain⟨p,f⟩:=q;rw[jE]at h;by_cases h1:(lq acc p || decide (p<0) || decide ((l.length:Int)<=p))=true
  .rw[if_pos h1]at h;cases h
  .rw[if_neg h1]at h;by_cases h2:(cY v us (l.getD p.toNat default) f).isNone=true
   .rw[if_pos h2]at h;cases h
   .rw[if_neg h2]at h;by_cases h3:(acc.all λq=>dM v (l.getD p.toNat default) f (l.getD q.1.toNat default) q.2)=true
    .rw[if_pos h3]at h;simp only[kY,de,not_or]at h1;obtain⟨⟨hlast,hp0⟩,hpl⟩:=h1;have hsm:(cY v us (l.getD p.toNat default) f).isSome=true:=by
      cases z:cY v us (l.getD p.toNat default) f with
      |none=>rw[z]at h2;exact absurd rfl h2
      |some _=>rfl
     have aJ:∀x∈acc,x.1<p:=by
      intro x hx;cases hg:acc.getLast? with
      |none=>rw[List.getLast?_eq_none_iff]at hg;rw[hg]at hx;cases hx
      |some y=>
       have hlast:¬p<=y.1:=by
        intro q;apply hlast;unfold lq;rw[hg];simpa using q
       rcases Nat.lt_or_ge 0 acc.length with z|z
       .obtain⟨i,hi,rfl⟩:=List.getElem_of_mem hx;rw[List.getLast?_eq_getElem?,aq (by omega)]at hg;have hg:=bU hg;rcases Nat.lt_or_ge i (acc.length-1)with y1|y1
        .have:=(List.pairwise_iff_getElem.1 G.pair) i (acc.length-1) hi (by omega) y1;rw[hg]at this;omega
        .have e:i=acc.length-1:=(by omega);subst e;rw[hg];omega
       .have:acc=[]:=mY.1 (by omega);rw[this]at hx;cases hx
     have G2:mU v us l (acc++[(p,f)]):=by
      refine⟨λx hx=>?_,?_⟩
      .rcases eH.1 hx with z|z
       .exact G.each x z
       .obtain rfl:=dZ.1 z;exact⟨by simp only;omega,by simp only;omega,hsm⟩
      .rw[oR];refine⟨G.pair,by simp,λx hx y hy=>?_⟩;obtain rfl:=dZ.1 hy;refine⟨aJ x hx,?_⟩;exact cz.1 h3 x hx
     obtain⟨e1,e2⟩:=ih _ _ h G2;exact⟨by rw[e1];simp,e2⟩
    .rw[if_neg h3]at h;cases h
def pe{v:ai}{l:List aQ}{pins:List (Int×Int)}{s:bS}(h:fW v l pins=some s):s=⟨v,bK v,l,pins⟩/\mU v (bK v) l pins/\aK v=true/\fy l=true:=by
 unfold fW at h;split at h
 .rename_i hc;simp only[bQ]at hc;cases hg:jE v (bK v) l [] pins with
  |none=>rw[hg]at h;cases h
  |some out=>
   rw[hg]at h;simp only[fV,av]at h;obtain⟨e1,e2⟩:=aau v (bK v) l pins [] out hg ⟨λq hq=>(by cases hq),List.Pairwise.nil⟩;rw[dJ]at e1;subst e1;exact⟨h.symm,e2,hc.1,hc.2⟩
 .cases h
def wF{s:bS}{k x:Int}(h:eS s k=some x):(k,x)∈s.pins:=by
 unfold eS at h;cases hf:s.pins.find? (λp=>decide (p.1=k))with
 |none=>rw[hf]at h;cases h
 |some q=>
  rw[hf]at h;simp only[fV,av]at h;have h1:=List.find?_some hf;have h2:=List.mem_of_find?_eq_some hf;simp only[de]at h1;obtain⟨a,b⟩:=q;simp only at h h1;subst h;subst h1;exact h2
def ZI(s:bS)(k:Nat):∀(pins:List (Int×Int))(d:List Int)(f:Int),f∈pins.foldl (λd q=>fB s d k q.1.toNat q.2) d->f∈d:=by
 intro pins;induction pins with
 |nil=>intro d f h;exact h
 |cons q r ih=>
  intro d f h;rw[List.foldl_cons]at h;have:=ih _ _ h;unfold fB at this;exact(gS.1 this).1
def all_some{v:ai}{us:List Bool}{p:aQ}{f:Int}(h:f∈ir v us p):(cY v us p f).isSome=true:=by
 unfold ir at h;obtain⟨k,hk,rfl⟩:=dO.1 h;exact(gS.1 hk).2
def sL{v:ai}{l:List aQ}{pins:List (Int×Int)}(P:mU v (bK v) l pins):mV (fm ⟨v,bK v,l,pins⟩):=by
 obtain⟨s,hs⟩:=nm (⟨v,bK v,l,pins⟩:bS);rw[<-hs];refine⟨rfl,λk hk=>by simp[fm]at hk,λd hd k _ f hf=>?_⟩;have hd0:d=0:=by simp[fm]at hd;exact hd
 subst hd0;have hf':f∈((List.range s.l.length).map λk:Nat=>match eS s k with
  |some a=>[a]
  |none=>s.pins.foldl (λd q=>fB s d k q.1.toNat q.2) (ir s.v s.us (s.l.getD k default))).getD k []:=hf
 rw[bu,fx]at hf';cases hr:(List.range s.l.length)[k]? with
 |none=>rw[hr]at hf';simp at hf'
 |some k'=>
  obtain⟨hk3,hk4⟩:=cP.1 hr;rw[List.getElem_range]at hk4;subst hk4;rw[hr]at hf';simp only[fV,iH]at hf';have hap:∀j,j<0->([]:List Int).getD j 0≠-1->dM s.v (s.l.getD k default) f (s.l.getD j default) (([]:List Int).getD j 0)=true:=λj hj=>by omega
  cases hq:eS s k with
  |some a=>
   rw[hq]at hf';obtain rfl:=dZ.1 hf';have hm:=wF hq;refine⟨λx hx=>?_,?_,hap⟩
   .have e:(fm s).s=s:=rfl;rw[e,hq]at hx;exact bU hx
   .have:=(P.each (k,f) (by rw[hs]at hm;exact hm)).2.2;simp only[gR]at this;rw[hs];exact this
  |none=>
   rw[hq]at hf';have hm:=all_some (ZI s k _ _ f hf');refine⟨λx hx=>?_,hm,hap⟩;have e:(fm s).s=s:=rfl;rw[e,hq]at hx;cases hx
def zK(s:bS)(p:List Int):Prop:=∀k,k<p.length->ez s p k=false
structure vq(s:bS)(h:dA):Prop where
 prop:mV h.p
 set:h.p.s=s
 aY:zK s h.aY
def qt(p:cu):(fK p).s=p.s:=by unfold fK;split<;>rfl
def yV(p:cu)(f:Int):(fY p f).s=p.s:=by unfold fY;simp only;split<;>rfl
def Ps{s:bS}{h:dA}(H:vq s h):vq s (cD h).1:=by
 unfold cD;split
 .exact H
 .simp only;split
  .split
   .exact⟨rG H.prop,by simp only[qt];exact H.set,λk hk=>by have:=H.prop.ok k hk;rw[H.set]at this;exact this⟩
   .exact⟨rG H.prop,by simp only[qt];exact H.set,H.aY⟩
  .split
   .exact⟨H.prop,H.set,H.aY⟩
   .exact⟨rG H.prop,by simp only[qt];exact H.set,H.aY⟩
def za{s:bS}:∀(n:Nat)(h:dA)(g:Bool),vq s h->vq s (dV n h g).1:=by
 intro n;induction n with
 |zero=>intro h g H;exact H
 |succ n ih=>
  intro h g H;rw[dV];split
  .split
   .exact H
   .split
    .exact ih _ _ ⟨rG H.prop,by simp only[qt];exact H.set,H.aY⟩
    .exact ih _ _ (Ps ⟨yU H.prop _,by simp only[yV];exact H.set,H.aY⟩)
  .exact H
def aba:∀(pins:List (Int×Int))(p:List Int)(k:Nat),pins.Pairwise (λx y=>x.1<y.1)->(∀q∈pins,0<=q.1)->k<p.length->
  (pins.foldl (λp q=>p.set q.1.toNat q.2) p).getD k 0=match(pins.find? λq=>decide (q.1=(k:Int))).map (λq=>q.2)with
   |some x=>x
   |none=>p.getD k 0:=by
 intro pins;induction pins with
 |nil=>intro p k _ _ _;rfl
 |cons q r ih=>
  intro p k hp h0 hk;rw[jy]at hp;have hq0:=h0 q dU;rw[List.foldl_cons,ih _ k hp.2 (λx hx=>h0 x (eI _ hx)) (by simpa using hk),List.find?_cons];by_cases e:q.1=(k:Int)
  .have hn:r.find? (λq=>decide (q.1=(k:Int)))=none:=by
    rw[List.find?_eq_none];intro x hx;have:=hp.1 x hx;simp;omega
   rw[hn,show decide (q.1=(k:Int))=true from by simp[e]]
   simp only[Option.map_none,fV]
   rw[bu,show q.1.toNat=k by omega,List.getElem?_set_self hk];rfl
  .rw[show decide (q.1=(k:Int))=false from by simp[e]];simp only;have:(p.set q.1.toNat q.2).getD k 0=p.getD k 0:=by
    rw[bu,bu,List.getElem?_set_ne (by omega)]
   rw[this]
def abb{v:ai}{l:List aQ}{pins:List (Int×Int)}(P:mU v (bK v) l pins):zK ⟨v,bK v,l,pins⟩ (dQ l pins):=by
 obtain⟨s,hs⟩:=nm (⟨v,bK v,l,pins⟩:bS);rw[<-hs];intro k hk;rw[A4]at hk;have hg:∀j,j<l.length->(dQ l pins).getD j 0=match eS s j with
   |some x=>x
   |none=>-1:=by
  intro j hj;have:=aba pins (List.replicate l.length (-1)) j (P.pair.imp (λh=>h.1)) (λq hq=>(P.each q hq).1) (by simpa using hj);unfold dQ eS;rw[this,hs];have e:(List.replicate l.length (-1:Int)).getD j 0= -1:=by rw[bu,List.getElem?_replicate,if_pos hj];rfl
  rw[e]
 unfold ez;simp only;cases hq:eS s k with
 |none=>
  have e:=hg k hk;rw[hq]at e;simp only at e;rw[e];rfl
 |some x=>
  have e:=hg k hk;rw[hq]at e;simp only at e;rw[e];have hm:=wF hq;have he:=(P.each (k,x) (by rw[hs]at hm;exact hm)).2.2;simp only[gR]at he;have h2:(cY s.v s.us (s.l.getD k default) x).isNone=false:=by
   rw[hs];simp only;cases z:cY v (bK v) (l.getD k default) x with
   |none=>rw[z]at he;cases he
   |some _=>rfl
  have h3:((List.range k).any λj=>decide ((dQ l pins).getD j 0≠-1)&& !dM s.v (s.l.getD k default) x (s.l.getD j default) ((dQ l pins).getD j 0))=false:=by
   rw[List.any_eq_false];intro j hj;have hj:=dF.1 hj;have ej:=hg j (by omega);cases hqj:eS s j with
   |none=>rw[hqj]at ej;simp only at ej;rw[ej];simp
   |some y=>
    rw[hqj]at ej;simp only at ej;rw[ej];have hmj:=wF hqj;rw[hs]at hm hmj;obtain⟨ia,ha,ea⟩:=List.getElem_of_mem hmj;obtain⟨ib,hb,eb⟩:=List.getElem_of_mem hm;simp only at ha hb ea eb;have hlt:ia<ib:=by
     rcases Nat.lt_trichotomy ia ib with z|z|z
     .exact z
     .exfalso;subst z;rw[ea]at eb;simp only[bM]at eb;omega
     .exfalso;have:=(List.pairwise_iff_getElem.1 P.pair) ib ia hb ha z;rw[ea,eb]at this;simp only at this;omega
    have:=((List.pairwise_iff_getElem.1 P.pair) ia ib ha hb hlt).2;rw[ea,eb]at this;simp only[gR]at this;rw[hs];simp only;rw[this];simp
  rw[h2,h3];simp
def Wg{steps:Nat}{v:ai}{l:List aQ}{pins:List (Int×Int)}{fuel:Int}{r:qO}(h:mZ steps v l pins fuel=some r):ix v l r.aY pins=true:=by
 have hl:=xu h;unfold mZ at h;split at h
 .cases h
 .rename_i s hs;obtain⟨e,P,hm,ha⟩:=pe hs;split at h
  .cases h
  .simp only[av]at h;have H:vq s (dV steps (cD ⟨fm s,l,dQ l pins,0,[],ff l (dQ l pins),fuel,[]⟩).1 (cD ⟨fm s,l,dQ l pins,0,[],ff l (dQ l pins),fuel,[]⟩).2).1:=by
    refine za _ _ _ (Ps ⟨?_,rfl,?_⟩)
    .rw[e];exact sL P
    .rw[e];exact abb P
   have hp:zK s r.aY:=(by rw[<-h];exact H.aY);unfold ix;rw[hs];simp only;rw[if_pos hl];unfold pb;have:(List.range r.aY.length).find? (ez s r.aY)=none:=by
    rw[List.find?_eq_none];intro k hk;rw[hp k (dF.1 hk)];simp
   rw[this];rfl
def tW{steps:Nat}{v:ai}{l:List aQ}{pins:List (Int×Int)}{old:List Int}{fuel:Int}(h:(gj steps v l pins old fuel).2=0):ix v l (gj steps v l pins old fuel).1.aY pins=true:=by
 unfold gj at h ⊢;by_cases q:ix v l old pins=true
 .rw[q]at h ⊢;simp only[Bool.not_true,fw,if_false]at h ⊢;cases hb:mZ steps v l pins fuel with
  |none=>rw[hb]at h;simp at h
  |some r=>
   simp only;split
   .exact q
   .exact Wg hb
 .rw[if_pos (by simpa using q)]at h;simp at h
def kP(o:aB)(f:Int):aB:={o with first:=f}
def Pg:∀(l:List aB)(p:List Int),p.length=(l.filter bT).length->(eE l p).filter bT=List.zipWith kP (l.filter bT) p:=by
 intro l;induction l with
 |nil=>intro p _;rfl
 |cons o r ih=>
  intro p h;rw[eE];by_cases q:bT o=true
  .have e0:(o::r).filter bT=o::r.filter bT:=(by rw[iS,if_pos q]);rw[if_pos q];rw[e0]at h ⊢;cases p with
   |nil=>simp at h
   |cons f t=>
    have e:bT {o with first:=(f::t).headD 0}=true:=q;rw[iS,if_pos e,List.tail_cons,ih t (by simpa using h),List.zipWith_cons_cons];rfl
  .have e0:(o::r).filter bT=r.filter bT:=(by rw[iS,if_neg q]);rw[e0]at h ⊢;rw[if_neg q,iS,if_neg q];exact ih p h
def ai2:∀(l:List aB)(k i:Nat)(o:aB),l[i]? =some o->o.state=2->(((k+i:Nat):Int),o.first)∈cT k l:=by
 intro l;induction l with
 |nil=>intro k i o h _;simp at h
 |cons a r ih=>
  intro k i o h hs;rw[cT];cases i with
  |zero=>
   simp at h;subst h;rw[if_pos hs];exact dU
  |succ i=>
   rw[List.getElem?_cons_succ]at h;have:=ih (k+1) i o h hs;rw[show k+1+i=k+(i+1) by omega]at this;split
   .exact eI _ this
   .exact this
def BA:∀(l:List aB)(k:Nat),(∀q∈cT k l,(k:Int)<=q.1)/\(cT k l).Pairwise (λx y=>x.1<y.1):=by
 intro l;induction l with
 |nil=>intro k;exact⟨λq hq=>(by cases hq),List.Pairwise.nil⟩
 |cons o r ih=>
  intro k;obtain⟨i1,i2⟩:=ih (k+1);rw[cT];split
  .refine⟨λq hq=>?_,?_⟩
   .rcases cJ.1 hq with rfl|hq
    .exact kE _
    .have:=i1 q hq;omega
   .rw[jy];refine⟨λq hq=>?_,i2⟩;have:=i1 q hq;simp only;omega
  .exact⟨λq hq=>(by have:=i1 q hq;omega),i2⟩
end Go.Proofs.Ybk.K
namespace Go.Proofs.Ybk.K
open Go Go.Am
set_option maxHeartbeats 4000000
open V (au aR ai ao aZ ab bg aK aE cA cG a8 bL)
def oz(m:Nat)(pins:List (Int×Int))(i:Nat):List Int:=(pins.take i).foldl (λp q=>p.set q.1.toNat q.2) (List.replicate m (-1))
def O6(m:Nat)(pins:List (Int×Int))(i:Nat){t:Int×Int}(ht:pins[i]? =some t):oz m pins (i+1)=(oz m pins i).set t.1.toNat t.2:=by
 unfold oz;rw[fL,ht,Option.toList_some,List.foldl_append];rfl
def O5(m:Nat)(pins:List (Int×Int))(i:Nat):(oz m pins i).length=m:=by
 induction i with
 |zero=>simp[oz]
 |succ i ih=>
  cases q:pins[i]? with
  |none=>
   unfold oz at ih ⊢;rw[fL,q];simpa using ih
  |some t=>rw[O6 m pins i q,kW,ih]
def nr(m i:Nat):List Int:=List.replicate i (-1)++List.replicate (m-i) 0
def Ki(m i:Nat)(h:i<=m):(nr m i).length=m:=by simp[nr];omega
def Zu(m i:Nat)(h:i<m):(nr m i).set i (-1)=nr m (i+1):=by
 unfold nr;rw[List.set_append_right _ _ (by simp),List.length_replicate,oS,show m-i=(m-(i+1))+1 by omega,List.replicate_succ,List.set_cons_zero,List.replicate_succ' (n:=i),eG];rfl
def Zt(m:Nat):nr m m=List.replicate m (-1):=by simp[nr]
def TL(h:aa)(b:Nat)(pv:Value)(m n:Nat)(σ:St):Prop:=∃i:Nat,n=m-i/\i<=m/\Ext h σ.m.h/\σ.m.h.f b= .row true 3 ((nr m i).map (Value.int .i64))/\b<σ.m.h.n/\
 σ.t.get 2=some pv/\σ.t.get 7=some (.slice (some ⟨b,0,none⟩) m m)/\σ.t.get 20=some (.int .i64 (m:Nat))/\σ.t.get 21=some (.int .i64 (i:Nat))
def TM(h:aa)(b:Nat)(pv:Value)(pins:List (Int×Int))(m k n:Nat)(σ:St):Prop:=∃i:Nat,n=k-i/\i<=k/\Ext h σ.m.h/\σ.m.h.f b= .row true 3 ((oz m pins i).map (Value.int .i64))/\b<σ.m.h.n/\
 σ.t.get 7=some (.slice (some ⟨b,0,none⟩) m m)/\σ.t.get 28=some pv/\σ.t.get 29=some (.int .i64 (k:Nat))/\σ.t.get 30=some (.int .i64 (i:Nat))
def aa9(v:ai)(l:List aQ)(pins:List (Int×Int))(cs:List Value)(lv pv:Value)(h:aa)(H:lA h v l pins cs lv pv):
  al PP 207 [.agg ⟨cs⟩,lv,pv] h (λr h'=>Ext h h'/\aL 3 ab h' r (if(fW v l pins).isSome then dQ l pins else[])):=by
 refine al.jM (post:=λv' h'=>Ext h h'/\cO 3 ab h h' v' (if(fW v l pins).isSome then dQ l pins else[])) ?_ (λv h' ⟨E,W⟩=>by
  obtain⟨h'',w,E',S⟩:=W.dG E;exact⟨h'',w,E',S⟩)
 refine aC Tryz.func207 aga ?_;simp only[aA,Tryz.f207];have hin:=ajb v l pins cs lv pv h H;have hcl:=H.dv.len;have hct:cs.take 5=cs:=b9 (by omega);have hll:=H.ll;have hpl:=H.pl;have hps:=H.ps;obtain⟨ad2,c2,rfl⟩:=H.ls.shape;obtain⟨ad3,c3,rfl⟩:=H.ps.shape;simp -implicitDefEqProofs[hcl,hct];refine hin.mono ?_;rintro r G ⟨E,rfl⟩;cases q:fW v l pins with
 |none=>
  simp -implicitDefEqProofs[af];intro _;exact⟨E,cO.nil⟩
 |some s=>
  obtain⟨_,P,_,hal⟩:=pe q;obtain⟨m,hm⟩:=nm l.length;have hz:=xc (.int .i64 0) m;have hmx:m*8<=140737488355328:=by omega
  have h00:¬(m:Int)<0:=by omega
  have hu0:List.replicate m (Value.int .i64 0)=(nr m 0).map (Value.int .i64):=by simp[nr]
  rw[<-hm];simp -implicitDefEqProofs[af,oF,dH,hz,hmx,h00];intro _;rw[hu0];have hbn:=E.n;refine bG (TL h G.n (.slice ad3 pins.length c3) m) _ ⟨0,rfl,by omega,E.bI _,by simp⟩ ?_;obtain⟨b,hb⟩:=nm G.n;rw[<-hb]at hbn ⊢;rintro n ⟨T,⟨x,G⟩⟩ ⟨i,rfl,hi,E,hrow,hn,g2,g7,g20,g21⟩;simp at E hrow hn g2 g7 g20 g21;simp -implicitDefEqProofs[g2,g7,g20,g21];refine bR (λhc=>?_) (λhc=>?_)
  .have him:i<m:=(by omega);have w1:=bO (i:=i) (by omega);obtain⟨cells,hcells⟩:=nm ((nr m i).map (Value.int .i64));rw[<-hcells]at hrow;have hcl2:cells.length=m:=(by rw[hcells,cf,Ki m i hi]);have hil:i+1<=cells.length:=(by omega);have hts:=mO (Value.int .i64) (nr m i) i (-1) (by rw[Ki m i hi];exact him);rw[Zu m i him,<-hcells]at hts;simp -implicitDefEqProofs[g2,g7,g20,g21,him,hrow,hil,w1];refine⟨m-(i+1),by omega,i+1,rfl,by omega,E.dp hbn _,?_,hn,by simp⟩;rw[<-hts];simp
  .have e:i=m:=(by omega);subst e;simp -implicitDefEqProofs[g2,g7,g20,g21];rw[Zt]at hrow;refine bG (TM h b (.slice ad3 pins.length c3) pins i pins.length) _ ⟨0,rfl,by omega,E,hrow,hn,by simp⟩ ?_;clear E hrow hn g2 g7 g20 g21;rintro n ⟨T,⟨x,G⟩⟩ ⟨k,rfl,hk,E,hrow,hn,g7,g28,g29,g30⟩;simp at E hrow hn g7 g28 g29 g30;simp -implicitDefEqProofs[g7,g28,g29,g30];refine bR (λhc=>?_) (λhc=>?_)
   .have hkm:k<pins.length:=(by omega);have w1:=bO (i:=k) (by omega);have hti:pins[k]? =some pins[k]:=aq (by omega);obtain⟨_,b',o1,w0,cells',r,rfl,hb',hd',hlc,_⟩:=(hps.ext E).sl.at 2 qs hti;have he:=P.each pins[k] (fG _);obtain⟨⟨a,f⟩,ht⟩:∃t,t=pins[k]:=⟨_,rfl⟩;rw[<-ht]at hd' hti he;obtain⟨ha0,ha1,_⟩:=he;simp only at ha0 ha1;rw[<-hm]at ha1;obtain⟨j,rfl⟩:∃j:Nat,a=j:=⟨a.toNat,by omega⟩;have hji:j<i:=(by omega);have hsu:=O6 i pins k hti;have hll2:=O5 i pins k;obtain⟨cells,hcells⟩:=nm ((oz i pins k).map (Value.int .i64));rw[<-hcells]at hrow;have hcl2:cells.length=i:=(by rw[hcells,cf,hll2]);have hil:j+1<=cells.length:=(by omega);have hts:=mO (Value.int .i64) (oz i pins k) j f (by rw[hll2];exact hji);simp only[gR]at hsu;rw[<-hsu,<-hcells]at hts;simp -implicitDefEqProofs[g7,g28,g29,g30,hkm,hb',hd',hlc,ik,hji,hrow,hil,w1];refine⟨pins.length-(k+1),by omega,k+1,rfl,by omega,E.dp hbn _,?_,hn,by simp⟩;rw[<-hts];simp
   .have e:k=pins.length:=(by omega);subst e;have hlast:oz i pins pins.length=dQ l pins:=by
     unfold oz dQ;rw[jZ,hm]
    rw[hlast,abQ]at hrow;have hlen:(dQ l pins).length=i:=(by rw[<-hlast,O5]);simp -implicitDefEqProofs[g7,g28,g29,g30];exact⟨E,_,by rw[hlen],.inr ⟨_,rfl,hrow,hbn,hn⟩⟩
def jY.parts{h:aa}{s:bS}{cs:List Value}(H:jY h s cs):∃lv mb,cs.length=8/\cs.all cL=true/\jg h s.v s.us (cs.take 6)/\cs.drop 6=[lv,.map (some mb)]/\cs.drop 7=[.map (some mb)]/\aL 29 ah h lv s.l/\h.f mb= .obj (.map (fh s.pins 0).toArray s.pins.length)/\mb<h.n:=by
 have S:=H.shape;obtain⟨hc,lv,mb,rfl,⟨vc,uv,rfl,⟨sv,k,p,rfl,h1,h2,h3⟩,h4⟩,h5,h6,h7⟩:=H;exact⟨lv,mb,S.len,S.one,⟨[sv,.int .i64 s.v.aV,.int .i64 s.v.bA,k,p],uv,rfl,⟨sv,k,p,rfl,h1,h2,h3⟩,h4⟩,rfl,rfl,h5,h6,h7⟩
def VV(s:bS)(l:List Int)(k j:Nat)(a:Int)(i:Nat){t:Int}(ht:l[i]? =some t):
  fB s (l.take (i+1)) k j a=if dM s.v (s.l.getD k default) t (s.l.getD j default) a=true then fB s (l.take i) k j a++[t]else fB s (l.take i) k j a:=by
 unfold fB;rw[fL,ht,Option.toList_some,mo];obtain⟨g,hg⟩:=nm (λf=>dM s.v (s.l.getD k default) f (s.l.getD j default) a:Int->Bool);have e:dM s.v (s.l.getD k default) t (s.l.getD j default) a=g t:=by rw[hg]
 rw[<-hg,e];by_cases q:g t=true
 .simp[q]
 .simp[q]
def C9(s:bS)(l:List Int)(k j:Nat)(a:Int):(fB s l k j a).length<=l.length:=List.length_filter_le _ _
def TX(h:aa)(cs:List Value)(s:bS)(l:List Int)(k j:Nat)(a:Int)(lv:Value)(m n:Nat)(σ:St):Prop:=∃(i:Nat)(o:Option Nat)(w:Value),n=m-i/\i<=m/\Ext h σ.m.h/\Ow 3 ab h σ.m.h o (fB s (l.take i) k j a) w/\
 σ.t.get 2=some (.int .i64 (k:Nat))/\σ.t.get 3=some (.int .i64 (j:Nat))/\σ.t.get 4=some (.int .i64 a)/\σ.t.get 5=some (.pointer (some ⟨5,0,some 0⟩))/\σ.t.get 11=some w/\σ.t.get 14=some lv/\σ.t.get 15=some (.int .i64 (m:Nat))/\σ.t.get 16=some (.int .i64 (i:Nat))/\σ.m.x.look 5=some (242,cs)
def Da(s:bS)(M:vw s)(cs:List Value)(lv:Value)(l:List Int)(hll:l.length<=1073741824)(k j:Nat)(a:Int)(hk:k<s.l.length)(hj:j<s.l.length)(hsk:0<=(s.l.getD k default).size)(hsj:0<=(s.l.getD j default).size)
  (hin:∀f∈l,0<=f/\f+(s.l.getD k default).size<=s.v.ag.length) (ha:0<=a/\a+(s.l.getD j default).size<=s.v.ag.length) (h:aa) (H:jY h s cs) (hl:aL 3 ab h lv l):
  al PP 248 [.agg ⟨cs⟩,lv,.int .i64 (k:Nat),.int .i64 (j:Nat),.int .i64 a] h (λr h'=>Ext h h'/\aL 3 ab h' r (fB s l k j a)):=by
 refine al.jM (post:=λv' h'=>Ext h h'/\cO 3 ab h h' v' (fB s l k j a)) ?_ (λv h' ⟨E,W⟩=>by
  obtain⟨h'',w,E',S⟩:=W.dG E;exact⟨h'',w,E',S⟩)
 refine aC Tryz.func248 agC ?_;simp only[aA,Tryz.f248];obtain⟨pv,mb,hCl,hCo,hH,hdr,hdr7,hP,hmb,hmbn⟩:=H.parts;have hCt:cs.take 8=cs:=b9 (by omega);obtain⟨hc,hhc⟩:∃x,x=cs.take 6:=⟨_,rfl⟩;rw[<-hhc]at hH;have hhc':=hhc.symm;have hap:=λf(hf:0<=f/\f+(s.l.getD k default).size<=s.v.ag.length)(G:aa)(E:Ext h G)=>zT s.v s.us M.aJ hc (s.l.getD k default) f (s.l.getD j default) a hf ha hsk hsj G (hH.ext E);have hkt:s.l[k]? =some s.l[k]:=aq hk;have hjt:s.l[j]? =some s.l[j]:=aq hj;obtain⟨X,hX⟩:=nm s.l[k];obtain⟨Y,hY⟩:=nm s.l[j];rw[<-hX]at hkt;rw[<-hY]at hjt;have hgX:s.l.getD k default=X:=by rw[bu,hkt];rfl
 have hgY:s.l.getD j default=Y:=by rw[bu,hjt];rfl
 simp only[du,ah]at hap;have hr1:List.range 1=[0]:=rfl;obtain⟨adp,cp,rfl⟩:=hP.shape;obtain⟨ad,c,rfl⟩:=hl.shape;obtain⟨m,hm⟩:=nm l.length;rw[<-hm];have hts:=λi t(ht:l[i]? =some t)=>VV s l k j a i ht;rw[hgX,hgY]at hap hts;rw[hgX]at hin;simp -implicitDefEqProofs[hCl,hCt];refine bG (TX h cs s l k j a (.slice ad m c) m) _ ⟨0,none,_,rfl,by omega,Ext.bJ h,Ow.nil,by simp⟩ ?_;rintro n ⟨T,⟨x,G⟩⟩ ⟨i,o,w,rfl,hi,E,W,g2,g3,g4,g5,g11,g14,g15,g16,x5⟩;simp at E W g2 g3 g4 g5 g11 g14 g15 g16 x5;have hwn:cn w=true:=by rw[W.1];rfl
 simp only[cn,iM,Option.isNone_iff_eq_none]at hwn;simp -implicitDefEqProofs[g2,g3,g4,g5,g11,g14,g15,g16,x5,hwn];refine bR (λhc=>?_) (λhc=>?_)
 .have him:i<m:=by omega
  have w1:=bO (i:=i) (by omega);have hti:l[i]? =some l[i]:=aq (by omega);obtain⟨_,b,o1,cells,r,ead,hb,hd,hlc,_⟩:=(aL.ext hl E).at 1 V.dY hti;rw[Nat.mul_one]at hd;have hl1:o1+i+1<=cells.length:=by omega
  obtain⟨_,bk,ok,ck,rk,eap,hbk,hdk,hlk,_⟩:=(aL.ext hP E).at 2 ko hkt;obtain⟨_,bj,oj,cj,rj,eap2,hbj,hdj,hlj,_⟩:=(aL.ext hP E).at 2 ko hjt;rw[eap]at eap2;simp only[av,Addr.mk.injEq,and_true]at eap2;obtain⟨rfl,rfl⟩:=eap2;rw[hbk]at hbj;simp only[aW.row.injEq,true_and]at hbj;subst hbj;subst ead;subst eap;obtain⟨t,ht⟩:=nm l[i];rw[<-ht]at hd hti;have hkX:(ck.drop (ok+k*2)).take 2=[.int .i64 X.size,.int .i64 X.cS]:=by rw[hdk];rfl
  have hjY:(ck.drop (ok+j*2)).take 2=[.int .i64 Y.size,.int .i64 Y.cS]:=by rw[hdj];rfl
  simp -implicitDefEqProofs[g2,g3,g4,g5,g11,g14,g15,g16,x5,hwn,him,hb,hd,hl1,ab,hCl,hhc',hdr,hk,hj,hbk,hkX,hjY,hlk,hlj];refine(hap t (hin t (dE hti)) G E).mono ?_;rintro r G2 ⟨E2,rfl⟩;have hsu:=hts i t hti;have hle:=C9 s (l.take i) k j a;have hle2:(l.take i).length<=i:=by rw[dh];omega
  obtain⟨acc,hacc⟩:=nm (fB s (l.take i) k j a);rw[<-hacc]at W hsu hle;have W2:=W.ext E2;have hA:=iV ni W2 t (by omega);simp only[ab]at hA;obtain⟨rfl,_⟩:=id W;by_cases z:dM s.v X t Y a=true
  .rw[if_pos z]at hsu;simp -implicitDefEqProofs[af,g2,g3,g4,g5,g11,g14,g15,g16,x5,z,w1,aM,hr1,hA];intro _;refine⟨m-(i+1),by omega,i+1,some (G2.n+1),.slice (some ⟨G2.n+1,0,none⟩) (acc.length+1) (acc.length+1),rfl,by omega,iZ (E.trans E2) W2 _ _,?_,by simp[x5]⟩;rw[hsu];exact Ow.one W2 (E.trans E2).n _ t rfl
  .rw[if_neg z]at hsu;simp -implicitDefEqProofs[af,g2,g3,g4,g5,g11,g14,g15,g16,x5,z,w1];intro _;exact⟨m-(i+1),by omega,i+1,o,_,rfl,by omega,E.trans E2,by rw[hsu];exact W2,by simp[x5]⟩
 .have e:i=m:=by omega
  subst e;have hfin:=W.own;rw[hm,jZ]at hfin;simp -implicitDefEqProofs[g11,hwn];exact⟨E,hfin⟩
abbrev cZ:=Option Addr×Nat×Nat
def cm(x:cZ):Value:=.slice x.1 x.2.1 x.2.2
def fR(x:cZ):List Value:=[.slice x.1 x.2.1 x.2.2]
def wU(x:cZ):(fR x).length=1:=rfl
def Ao:lN 332 329 1 24 fR:=⟨J1,RZ,⟨_,SA,rfl⟩,Dl,Io,by decide,by decide,wU,λ_=>rfl⟩
def mj(h:aa)(w:cZ)(D:List (List Int)):Prop:=∃vs:List cZ,aL 22 fR h (cm w) vs/\vs.length=D.length/\∀(i:Nat)x d,vs[i]? =some x->D[i]? =some d->aL 3 ab h (cm x) d
def tS(h:aa)(ws:List cZ)(L:List (List (List Int))):Prop:=ws.length=L.length/\∀(i:Nat)w D,ws[i]? =some w->L[i]? =some D->mj h w D
def mj.kp{h h':aa}{w:cZ}{D:List (List Int)}(H:mj h w D)(K:Kp h h'):mj h' w D:=by
 obtain⟨vs,h1,h2,h3⟩:=H;exact⟨vs,h1.kp K,h2,λi x d a b=>(h3 i x d a b).kp K⟩
def tS.kp{h h':aa}{ws:List cZ}{L:List (List (List Int))}(H:tS h ws L)(K:Kp h h'):tS h' ws L:=⟨H.1,λi w D a b=>(H.2 i w D a b).kp K⟩
def tS.last{h:aa}{ws:List cZ}{L:List (List (List Int))}(H:tS h ws L){k:Nat}(hk:L.length=k+1):∃w,ws[k]? =some w/\mj h w (L.getLastD []):=by
 have h1:=H.1;have hw:k<ws.length:=by omega
 refine⟨ws[k],aq hw,H.2 k _ _ (aq hw) ?_⟩;rw[List.getLastD_eq_getLast?,List.getLast?_eq_getElem?,hk,sd,aq (show k<L.length by omega)];rfl
structure gP(h:aa)(b b1 b2:Nat)(p:cu)(cs:List Value)(c1 c2:Nat)(ws:List cZ)(r1 r2:List Value):Prop where
 hb:h.f b= .row true 334 (cs++[.slice (some ⟨b1,0,none⟩) p.levels.length c1,.slice (some ⟨b2,0,none⟩) p.p.length c2])
 set:jY h p.s cs
 bD:h.f b1= .row true 329 (ws.flatMap fR++r1)
 bN:h.f b2= .row true 3 (p.p.flatMap ab++r2)
 yl:p.levels.length<=c1
 ym:p.p.length<=c2
 n0:b<h.n
 n1:b1<h.n
 n2:b2<h.n
 qc:tS h ws p.levels
structure jh(p:cu):Prop where
 ok:mV p
 sm:vw p.s
 lens:∀D∈p.levels,D.length=p.s.l.length/\∀d∈D,d.length<=1048577
 dep:p.p.length<=p.s.l.length
 ll:p.s.l.length<=512
 may:∀q∈p.s.l,dK q=true
section
variable {h h':aa} {b b1 b2:Nat} {p:cu} {cs:List Value} {c1 c2:Nat} {ws:List cZ} {r1 r2:List Value}
def gP.ext(H:gP h b b1 b2 p cs c1 c2 ws r1 r2)(E:Ext h h'):gP h' b b1 b2 p cs c1 c2 ws r1 r2:=
 ⟨by rw[E.f _ H.n0];exact H.hb,H.set.ext E,by rw[E.f _ H.n1];exact H.bD,by rw[E.f _ H.n2];exact H.bN,H.yl,H.ym,cV H.n0 E.n,cV H.n1 E.n,cV H.n2 E.n,H.qc.kp E.kp⟩
def gP.er(H:gP h b b1 b2 p cs c1 c2 ws r1 r2){S:List Nat}(C:cX S h h')(hs:gZ S h)(m0:b∉S)(m1:b1∉S)(m2:b2∉S):gP h' b b1 b2 p cs c1 c2 ws r1 r2:=
 ⟨by rw[C.f _ H.n0 m0];exact H.hb,H.set.er C hs,by rw[C.f _ H.n1 m1];exact H.bD,by rw[C.f _ H.n2 m2];exact H.bN,H.yl,H.ym,cV H.n0 C.n,cV H.n1 C.n,cV H.n2 C.n,H.qc.kp (C.kp hs)⟩
end
def gP.cells{h:aa}{b b1 b2:Nat}{p:cu}{cs:List Value}{c1 c2:Nat}{ws:List cZ}{r1 r2:List Value}(H:gP h b b1 b2 p cs c1 c2 ws r1 r2):
  ∃C lv mb,h.f b= .row true 334 C/\C.length=10/\C.all cL=true/\C.take 8=cs/\C.drop 8=[.slice (some ⟨b1,0,none⟩) p.levels.length c1,.slice (some ⟨b2,0,none⟩) p.p.length c2]/\C.drop 9=[.slice (some ⟨b2,0,none⟩) p.p.length c2]/\
   (C.drop 6).take 1=[lv]/\(C.drop 7).take 1=[.map (some mb)]/\aL 29 ah h lv p.s.l/\h.f mb= .obj (.map (fh p.s.pins 0).toArray p.s.pins.length):=by
 obtain⟨lv,mb,h1,h2,_,h3,h4,h5,h6,_⟩:=H.set.parts;refine⟨_,lv,mb,H.hb,by simp[h1],?_,?_,?_,?_,?_,?_,h5,h6⟩
 .rw[List.all_append,h2];rfl
 .rw[List.take_append_of_le_length (by omega),b9 (by omega)]
 .rw[List.drop_append_of_le_length (by omega),List.drop_of_length_le (by omega)];rfl
 .rw[List.drop_append,List.drop_of_length_le (by omega),h1];rfl
 .rw[List.drop_append_of_le_length (by omega),h3];rfl
 .rw[List.drop_append_of_le_length (by omega),h4];rfl
def aj5{ws:List cZ}{r:List Value}{k:Nat}{w:cZ}(h:ws[k]? =some w):∃z,(ws.flatMap fR++r).drop k=cm w::z/\k+1<=(ws.flatMap fR++r).length:=by
 obtain⟨hk,e⟩:=cP.1 h;have h1:=q7 1 wU ws k;have h2:=fr 1 wU ws;rw[Nat.mul_one]at h1 h2;refine⟨(ws.drop (k+1)).flatMap fR++r,?_,?_⟩
 .rw[List.drop_append_of_le_length (by omega),h1,gQ hk,ic,e];rfl
 .rw[bH,h2];omega
def xI(p:cu)(h:aa){b b1 b2:Nat}{cs:List Value}{c1 c2:Nat}{ws:List cZ}{r1 r2:List Value}(H:gP h b b1 b2 p cs c1 c2 ws r1 r2):
  al PP 287 [.pointer (some ⟨b,0,none⟩)] h (λr h'=>h'=h/\r= .int .i64 (p.p.length:Nat)):=by
 refine aC Tryz.func287 agS ?_;simp only[aA,Tryz.f287];obtain⟨C,lv,mb,hb,hl,_,ht,h8,h9,h6,h7,_⟩:=H.cells;simp -implicitDefEqProofs[hb,hl,h9]
def Bh(p:cu)(I:jh p)(h:aa){b b1 b2:Nat}{cs:List Value}{c1 c2:Nat}{ws:List cZ}{r1 r2:List Value}(H:gP h b b1 b2 p cs c1 c2 ws r1 r2):
  al PP 293 [.pointer (some ⟨b,0,none⟩)] h (λr h'=>h'=h/\∃w,r=cm w/\mj h w (cK p)):=by
 refine aC Tryz.func293 agZ ?_;simp only[aA,Tryz.f293];obtain⟨C,lv,mb,hb,hl,_,ht,h8,h9,h6,h7,_⟩:=H.cells;have bD:=H.bD;have hlen:=I.ok.len;obtain⟨k,hk⟩:∃k,p.levels.length=k+1:=⟨_,hlen⟩;have hd:=I.dep;have hll:=I.ll;obtain⟨w,hw,hL⟩:=H.qc.last hk;rw[hk]at h8;obtain⟨R1,hR1⟩:=nm (ws.flatMap fR++r1);rw[<-hR1]at bD;obtain⟨r,hdr,hlc⟩:=aj5 (r:=r1) hw;rw[<-hR1]at hdr hlc;have w1:IntKind.wrap .i64 ((k:Int))=(k:Nat):=by rw[bB (by omega)]
 have hlt:(k:Int)<k+1:=by omega
 simp -implicitDefEqProofs[hb,hl,h8,bD,w1,hdr,hlc,hlt,cm];exact⟨_,_,_,⟨rfl,rfl,rfl⟩,hL⟩
def AM(p:cu)(k:Int)(h:aa){b b1 b2:Nat}{cs:List Value}{c1 c2:Nat}{ws:List cZ}{r1 r2:List Value}(H:gP h b b1 b2 p cs c1 c2 ws r1 r2):
  al PP 291 [.pointer (some ⟨b,0,none⟩),.int .i64 k] h (λr h'=>h'=h/\r= .bool (decide (0<=k)&&decide (k<p.s.l.length))):=by
 refine aC Tryz.func291 agX ?_;simp only[aA,Tryz.f291];obtain⟨C,lv,mb,hb,hl,_,ht,h8,h9,h6,h7,hP,_⟩:=H.cells;obtain⟨ad,c,rfl⟩:=hP.shape;by_cases q:k<0
 .have q2:¬0<=k:=by omega
  simp -implicitDefEqProofs[hb,hl,h6,q,q2]
 .have q2:0<=k:=by omega
  simp -implicitDefEqProofs[hb,hl,h6,q,q2]
def QD(p:cu)(k:Nat)(h:aa){b b1 b2:Nat}{cs:List Value}{c1 c2:Nat}{ws:List cZ}{r1 r2:List Value}(H:gP h b b1 b2 p cs c1 c2 ws r1 r2):
  al PP 292 [.pointer (some ⟨b,0,none⟩),.int .i64 (k:Nat)] h (λr h'=>h'=h/\r= .bool (kN p k)):=by
 refine aC Tryz.func292 agY ?_;simp only[aA,Tryz.f292];have hh:=AM p (k:Int) h H;obtain⟨C,lv,mb,hb,hl,_,ht,h8,h9,h6,h7,hP,hmb⟩:=H.cells;have hlook:(pV 3 3 (.int .i64 (k:Int)) (fh p.s.pins 0).toArray true).aU PP=some (.tuple #[.int .i64 ((eS p.s k).getD 0),.bool (eS p.s k).isSome]):=by
  rw[Aw,Bz,Option.isSome_map]
 unfold kN;simp -implicitDefEqProofs;refine cE hh ?_;have q0:(0:Int)<=k:=by omega
 by_cases q:k<p.s.l.length
 .have q2:(k:Int)<p.s.l.length:=by omega
  simp -implicitDefEqProofs[af,q,q2,q0,hb,hl,h7,hmb,hlook]
 .have q2:¬(k:Int)<p.s.l.length:=by omega
  simp -implicitDefEqProofs[af,q,q2]
def ai8(p:cu)(hp:p.p.length<=1073741824)(h:aa){b b1 b2:Nat}{cs:List Value}{c1 c2:Nat}{ws:List cZ}{r1 r2:List Value}(H:gP h b b1 b2 p cs c1 c2 ws r1 r2):
  al PP 289 [.pointer (some ⟨b,0,none⟩)] h (λr h'=>Ext h h'/\aL 3 ab h' r p.p):=by
 refine al.jM (post:=λv' h'=>Ext h h'/\cO 3 ab h h' v' p.p) ?_ (λv h' ⟨E,W⟩=>by
  obtain⟨h'',w,E',S⟩:=W.dG E;exact⟨h'',w,E',S⟩)
 refine aC Tryz.func289 agU ?_;simp only[aA,Tryz.f289];obtain⟨C,lv,mb,hb,hl,_,ht,h8,h9,h6,h7,hP,hmb⟩:=H.cells;have hS:dt 3 ab h (.slice (some ⟨b2,0,none⟩) p.p.length c2) p.p:=⟨_,_,rfl,λz=>(by cases z),.inr ⟨b2,0,true,_,r2,rfl,H.bN,rfl,by simp,H.n2⟩⟩;have hc:=Ad _ p.p hp h hS;simp -implicitDefEqProofs[hb,hl,h9];refine hc.mono ?_;rintro r G ⟨E,W⟩;have hw:=W;obtain⟨ad,rfl,_⟩:=id W;simp -implicitDefEqProofs[aF];intro _;exact⟨E,hw⟩
def XK(s:Value)(xs:List cZ)(hl:xs.length<=1073741824)(h:aa)(hs:dt 22 fR h s xs):al PP 294 [s] h (λv h'=>Ext h h'/\cO 22 fR h h' v xs):=by
 refine aC Tryz.func294 ag0 ?_;simp only[aA,Tryz.f294];obtain⟨ad,c,rfl,hn,hz⟩:=hs;cases ad with
 |none=>
  have:xs=[]:=by
   rcases hz with z|⟨b,off,w,cells,rest,z,_⟩
   .exact z
   .simp at z
  subst this;have:=hn rfl;subst this;simp -implicitDefEqProofs;exact⟨Ext.bJ h,cO.nil⟩
 |some ad=>
  by_cases h0:xs=[]
  .subst h0;simp -implicitDefEqProofs[aM,dC,dS,dH];exact⟨(Ext.new h _).dp (aX _) _ |>.bI _,_,rfl,.inr ⟨_,rfl,by simp⟩⟩
  .obtain⟨b,off,w,cells,rest,e,z2,z3,z4,z5⟩:∃b off w cells rest,some ad=some (⟨b,off,none⟩:Addr)/\h.f b= .row w 22 cells/\cells.drop off=xs.flatMap fR++rest/\off<=cells.length/\b<h.n:=by
    rcases hz with z|z
    .exact absurd z h0
    .exact z
   obtain rfl:=bU e
   obtain⟨m,hm⟩:=nm xs.length
   have hm0:¬m=0:=by rw[hm];simpa using h0
   obtain⟨F,hF⟩:=nm (xs.flatMap fR)
   have hFl:F.length=m:=by rw[hF,fr 1 wU,hm,Nat.mul_one]
   have hone:F.all cL=true:=by rw[hF];exact vO (λ_=>rfl) xs
   rw[<-hF]at z3
   have hlen:off+m<=cells.length:=by
    have:=congrArg List.length z3;rw[eX,bH,hFl]at this;omega
   have htk:(cells.drop off).take (m)=F:=by rw[z3,List.take_append_of_le_length (by omega),b9 (by omega)]
   have hbn:¬b=h.n:=by omega
   have hmx:m*24<=140737488355328:=by omega
   rw[<-hm]
   simp -implicitDefEqProofs[aM,dC,dS,dH,hm0,hbn,z2,hlen,htk,hone,hmx]
   exact⟨(Ext.new h _).dp (aX _) _ |>.bI _,_,by rw[hm],.inr ⟨_,rfl,by simp[hF]⟩⟩
def jh.now{p:cu}(I:jh p):(cK p).length=p.s.l.length/\∀d∈cK p,d.length<=1048577:=by
 have hl:=I.ok.len;have:cK p∈p.levels:=by
  rw[yH hl,bu,aq (show p.p.length<p.levels.length by omega)];exact fG _
 exact I.lens _ this
def mj.at{h:aa}{w:cZ}{D:List (List Int)}(H:mj h w D){k:Nat}{d:List Int}(hk:D[k]? =some d):
  ∃(b off c:Nat)(cells rest:List Value)(x:cZ),w=(some ⟨b,off,none⟩,D.length,c)/\h.f b= .row false 22 cells/\cells.drop (off+k)=cm x::rest/\off+k+1<=cells.length/\aL 3 ab h (cm x) d:=by
 obtain⟨vs,h1,h2,h3⟩:=H;obtain⟨ad,n,c⟩:=w;obtain⟨hlt,_⟩:=cP.1 hk;have hv:vs[k]? =some vs[k]:=aq (by omega);obtain⟨e,b,off,cells,rest,rfl,hb,hd,hlc,_⟩:=aL.at 1 wU h1 hv;rw[Nat.mul_one]at hd hlc;exact⟨b,off,c,cells,rest,vs[k],by rw[show n=vs.length from e,h2],hb,hd,hlc,h3 k _ _ hv hk⟩
def mj.shape{h:aa}{w:cZ}{D:List (List Int)}(H:mj h w D):∃ad c,w=(ad,D.length,c):=by
 obtain⟨vs,h1,h2,_⟩:=H;obtain⟨ad,n,c⟩:=w;obtain⟨ad',c',e⟩:=h1.shape;simp only[cm,Value.slice.injEq]at e;exact⟨ad,c,by rw[e.2.1,h2]⟩
def Yy(p:cu)(I:jh p)(k:Nat)(h:aa){b b1 b2:Nat}{cs:List Value}{c1 c2:Nat}{ws:List cZ}{r1 r2:List Value}(H:gP h b b1 b2 p cs c1 c2 ws r1 r2):
  al PP 312 [.pointer (some ⟨b,0,none⟩),.int .i64 (k:Nat)] h (λr h'=>Ext h h'/\cO 3 ab h h' r (iY p k)):=by
 refine aC Tryz.func312 ahb ?_;simp only[aA,Tryz.f312];have hh:=AM p (k:Int) h H;have hn:=Bh p I h H;have hnl:=I.now;have q0:(0:Int)<=k:=by omega
 simp -implicitDefEqProofs;refine cE hh ?_;unfold iY;by_cases q:k<p.s.l.length
 .have q2:(k:Int)<p.s.l.length:=by omega
  have hkD:(cK p)[k]? =some (cK p)[k]:=aq (by omega);obtain⟨d,hd⟩:=nm (cK p)[k];rw[<-hd]at hkD;have hgd:(cK p).getD k []=d:=by rw[bu,hkD];rfl
  have hdl:=hnl.2 d (dE hkD);rw[if_pos q,hgd];simp -implicitDefEqProofs[af,q,q2,q0];intro _;refine hn.mono ?_;rintro r h' ⟨e,w,rfl,hL⟩;replace e:=e.symm;subst e;obtain⟨bw,ow,cw,cells,rest,x,rfl,hb,hdr,hlc,hS⟩:=hL.at hkD;have hkn:k<(cK p).length:=by omega
  have hcl:=Ic (cm x) d (by omega) h hS.sl;simp only[cm]at hcl hdr;simp -implicitDefEqProofs[aF,cm,hnl.1,hkn,q,hb,hdr,hlc];intro _;refine hcl.mono ?_;rintro r G ⟨E,W⟩;have hw:=W;obtain⟨ad,rfl,_⟩:=id W;simp -implicitDefEqProofs[aF];intro _;exact⟨E,hw⟩
 .have q2:¬(k:Int)<p.s.l.length:=by omega
  rw[if_neg q];simp -implicitDefEqProofs[af,q,q2];intro _;exact⟨Ext.bJ h,cO.nil⟩
def sK(p:cu)(k:Nat):Int:=if((cK p).getD k []).length>0 then(p.s.l.getD k default).size else 0
def oC(p:cu)(k:Nat):Int:=((List.range k).map (sK p)).foldl (· + ·) 0
def PD(p:cu)(k:Nat):oC p (k+1)=oC p k+sK p k:=by
 unfold oC;rw[nX,kX,List.foldl_append];rfl
def abV{q:aQ}(h:dK q=true):1<=q.size/\q.size<=8:=by
 unfold dK at h;simp at h;omega
def jh.size{p:cu}(I:jh p){k:Nat}(hk:k<p.s.l.length):1<=(p.s.l.getD k default).size/\(p.s.l.getD k default).size<=8:=by
 rw[bu,aq hk];exact abV (I.may _ (fG _))
def PC{p:cu}(I:jh p):∀k,k<=p.s.l.length->0<=oC p k/\oC p k<=8*k:=by
 intro k;induction k with
 |zero=>intro _;simp[oC]
 |succ k ih=>
  intro hk;have h1:=ih (by omega);have h2:=I.size (show k<p.s.l.length by omega);rw[PD];unfold sK;split<;>omega
def ab9(p:cu):j6 p=oC p (cK p).length:=rfl
def Ud(h:aa)(b:Nat)(wv:Value)(p:cu)(m n:Nat)(σ:St):Prop:=∃k:Nat,n=m-k/\k<=m/\σ.m.h=h/\σ.t.get 0=some (.pointer (some ⟨b,0,none⟩))/\σ.t.get 3=some (.int .i64 (oC p k))/\σ.t.get 9=some wv/\σ.t.get 10=some (.int .i64 (m:Nat))/\σ.t.get 11=some (.int .i64 (k:Nat))
def acd(p:cu)(I:jh p)(h:aa){b b1 b2:Nat}{cs:List Value}{c1 c2:Nat}{ws:List cZ}{r1 r2:List Value}(H:gP h b b1 b2 p cs c1 c2 ws r1 r2):
  al PP 288 [.pointer (some ⟨b,0,none⟩)] h (λr h'=>h'=h/\r= .int .i64 (j6 p)):=by
 refine aC Tryz.func288 agT ?_;simp only[aA,Tryz.f288];have hn:=Bh p I h H;have hnl:=I.now;have hll:=I.ll;obtain⟨C,lv,mb,hb,hl,_,ht,h8,h9,h6,h7,hP,hmb⟩:=H.cells;rw[ab9];obtain⟨m,hm⟩:=nm (cK p).length;rw[<-hm]at hnl ⊢;simp -implicitDefEqProofs;refine hn.mono ?_;rintro r h' ⟨e,w,rfl,hL⟩;replace e:=e.symm;subst e;obtain⟨ad,c,rfl⟩:=hL.shape;rw[<-hm]at hL;simp -implicitDefEqProofs[af,cm,<-hm];intro _;refine bG (Ud h b (.slice ad m c) p m) _ ⟨0,rfl,by omega,rfl,by simp[oC]⟩ ?_;rintro n ⟨T,⟨x,G⟩⟩ ⟨k,rfl,hk,e,g0,g3,g9,g10,g11⟩;simp at e g0 g3 g9 g10 g11;subst e;simp -implicitDefEqProofs[g0,g3,g9,g10,g11];refine bR (λhc2=>?_) (λhc2=>?_)
 .have hkm:k<m:=by omega
  have w1:=bO (i:=k) (by omega);have hkD:(cK p)[k]? =some (cK p)[k]:=aq (by omega);obtain⟨d,hd⟩:=nm (cK p)[k];rw[<-hd]at hkD;have hgd:(cK p).getD k []=d:=by rw[bu,hkD];rfl
  obtain⟨bw,ow,cw,cells,rest,x',ew,hbw,hdr,hlc,hS⟩:=hL.at hkD;simp only[bM]at ew;obtain⟨rfl,_,rfl⟩:=ew;obtain⟨ax,cx,ex⟩:=hS.shape;rw[ex]at hdr;have hsu:=PD p k;have hle:=PC I (k+1) (by omega);have hle0:=PC I k (by omega);by_cases q:0<d.length
  .have hti:p.s.l[k]? =some p.s.l[k]:=aq (by omega);obtain⟨X,hX⟩:=nm p.s.l[k];rw[<-hX]at hti;have hgX:p.s.l.getD k default=X:=(by rw[bu,hti];rfl);obtain⟨adl,cl0,rfl⟩:=hP.shape;obtain⟨_,bl,ol,cl,rl,rfl,hbl,hdl,hlcl,hbln⟩:=hP.at 2 ko hti;have hdl':cl.drop (ol+k*2)= .int .i64 X.size:: .int .i64 X.cS::rl:=hdl;have hlcl':ol+k*2+1<=cl.length:=(by omega);have hma:sK p k=X.size:=(by unfold sK;rw[hgd,if_pos q,hgX]);rw[hma]at hsu;have w2:IntKind.wrap .i64 (oC p k+X.size)=oC p (k+1):=(by rw[hsu];exact bB (by omega));have hkl:k<p.s.l.length:=(by omega);simp -implicitDefEqProofs[g0,g3,g9,g10,g11,hkm,hbw,hdr,hlc,q,w1,w2,hb,hl,h6,hkl,hbl,hdl',hlcl'];exact⟨m-(k+1),by omega,k+1,rfl,by omega,rfl,by simp⟩
  .have hma:sK p k=0:=(by unfold sK;rw[hgd,if_neg q]);rw[hma,Int.add_zero]at hsu;simp -implicitDefEqProofs[g0,g3,g9,g10,g11,hkm,hbw,hdr,hlc,q,w1];exact⟨m-(k+1),by omega,k+1,rfl,by omega,rfl,by simp[hsu]⟩
 .have e:k=m:=by omega
  subst e;simp -implicitDefEqProofs[g3]
def aj4(p:cu)(I:jh p)(h:aa){b b1 b2:Nat}{cs:List Value}{c1 c2:Nat}{ws:List cZ}{r1 r2:List Value}(H:gP h b b1 b2 p cs c1 c2 ws r1 r2):
  al PP 290 [.pointer (some ⟨b,0,none⟩)] h (λr h'=>Ext h h'/\aL 3 ab h' r (iQ p)):=by
 refine al.jM (post:=λv' h'=>Ext h h'/\cO 3 ab h h' v' (iQ p)) ?_ (λv h' ⟨E,W⟩=>by
  obtain⟨h'',w,E',S⟩:=W.dG E;exact⟨h'',w,E',S⟩)
 refine aC Tryz.func290 agW ?_;simp only[aA,Tryz.f290];have hd:=xI p h H;have hdo:=Yy p I p.p.length h H;have hpi:=λG(E:Ext h G)=>QD p p.p.length G (H.ext E);have hnl:=I.now;have hr1:List.range 1=[0]:=rfl;simp -implicitDefEqProofs;refine cE hd ?_;simp -implicitDefEqProofs[af];intro _;refine hdo.mono ?_;rintro r G ⟨E,W⟩;obtain⟨o,W⟩:=Ow.iN W;obtain⟨rfl,_⟩:=id W;have hdl:(iY p p.p.length).length<=1048577:=by
  unfold iY;split
  .rename_i q;rw[bu,aq (show p.p.length<(cK p).length by omega)];exact hnl.2 _ (fG _)
  .simp
 simp -implicitDefEqProofs[af];intro _;refine cE (hpi G E) ?_;have hA:=iV ni W (-1) (by omega);simp only[ab]at hA;unfold iQ;by_cases q:kN p p.p.length=true
 .have hw:=W.own;simp only[q,if_true];simp -implicitDefEqProofs[af,q];intro _;exact⟨E,hw⟩
 .have hw:=(Ow.one W E.n (.row true 3 [.int .i64 (-1)]) (-1) (cells:=(iY p p.p.length).flatMap ab++[.int .i64 (-1)]) rfl).own;have q':kN p p.p.length=false:=by simpa using q
  simp only[q',fw,if_false];simp -implicitDefEqProofs[af,q',aM,hr1,hA];intro _;exact⟨iZ E W _ _,hw⟩
def jh.pop{p:cu}(I:jh p):jh (fK p):=by
 refine⟨rG I.ok,?_,?_,?_,?_,?_⟩<;>(unfold fK;split)
 .exact I.sm
 .exact I.sm
 .exact I.lens
 .exact λD hD=>I.lens D (List.dropLast_subset _ hD)
 .exact I.dep
 .have:=I.dep;simp only[List.length_dropLast];omega
 .exact I.ll
 .exact I.ll
 .exact I.may
 .exact I.may
def nB(h:aa)(b:Nat)(x y:aW):(h.set b x).set b y=h.set b y:=by
 unfold aa.set;congr 1;funext i;by_cases q:i=b<;>simp[q]
def lX(h:aa){b x:Nat}(v:aW)(hx:¬x=b):(h.set b v).f x=h.f x:=by simp[hx]
def JO{α:Type}{enc:α->List Value}{ws:List α}{k:Nat}(h:ws.length=k+1)(r:List Value):∃r',ws.flatMap enc++r=ws.dropLast.flatMap enc++r':=by
 rcases List.eq_nil_or_concat ws with e|⟨u,x,e⟩
 .subst e;simp at h
 .subst e;rw[List.concat_eq_append];exact⟨enc x++r,by simp⟩
def tV(h:aa)(b b1 b2:Nat)(p':cu)(cs:List Value)(h':aa):Prop:=cX [b,b1,b2] h h'/\∃b1' b2' c1' c2' ws' r1' r2',gP h' b b1' b2' p' cs c1' c2' ws' r1' r2'/\(b1'=b1∨h.n<=b1')/\(b2'=b2∨h.n<=b2')
def yQ(p:cu)(I:jh p)(h:aa){b b1 b2:Nat}{cs:List Value}{c1 c2:Nat}{ws:List cZ}{r1 r2:List Value}(H:gP h b b1 b2 p cs c1 c2 ws r1 r2):
  al PP 251 [.pointer (some ⟨b,0,none⟩)] h (λr h'=>r= .bool (decide (p.p.length≠0))/\tV h b b1 b2 (fK p) cs h'):=by
 refine aC Tryz.func251 agF ?_;simp only[aA,Tryz.f251];have hd:=xI p h H;have hlen:=I.ok.len;have hdep:=I.dep;have hll:=I.ll;simp -implicitDefEqProofs;refine cE hd ?_;by_cases q:p.p.length=0
 .have q2:(p.p.length:Int)=0:=by omega
  have e:fK p=p:=by unfold fK;rw[if_pos q]
  rw[e];simp -implicitDefEqProofs[af,q];intro _;exact⟨mY.1 q,cX.bJ _ h,b1,b2,c1,c2,ws,r1,r2,H,Or.inl rfl,Or.inl rfl⟩
 .obtain⟨k,hk⟩:∃k,p.p.length=k+1:=⟨p.p.length-1,by omega⟩;have hk2:p.levels.length=k+1+1:=by omega
  have e:fK p=⟨p.s,p.levels.dropLast,p.p.dropLast⟩:=by unfold fK;rw[if_neg q]
  have H0:=H;obtain⟨hb,hset,bD,bN,yl,ym,n0,n1,n2,qc⟩:=H;have hSC:=hset.shape;obtain⟨x1,x2,x3,x4,x5,x6,x7,x8,x9,x10,x11,x12,x13,x14,x15,x16,x17,x18,hcs⟩:=hSC;rw[hk,hk2]at hb;rw[hcs]at hb;have w1:IntKind.wrap .i64 ((k:Int))=(k:Nat):=by rw[bB (by omega)]
  have w2:=bO (i:=k) (by omega);have i6:(0:Int)<=(k:Int)+1:=by omega
  have i7:k+1<=k+1+1:=by omega
  have i8:k<=k+1:=by omega
  have i5:¬((k:Int)+1=0):=by omega
  obtain⟨R1,hR1⟩:=nm (ws.flatMap fR++r1);obtain⟨R2,hR2⟩:=nm (p.p.flatMap ab++r2);rw[<-hR1]at bD;rw[<-hR2]at bN;simp only[dB,dJ]at hb;have hne2:¬b2=b:=λe=>by rw[e,hb]at bN;cases bN
  have hne1:¬b1=b:=λe=>by rw[e,hb]at bD;cases bD
  simp -implicitDefEqProofs[af,hk,hb,bD,bN,w1,w2,i5,i6,i7,i8,hne1,hne2];intro _;rw[e];rw[nB];obtain⟨v,hv⟩:=nm (aW.row true 334 (cs++[.slice (some ⟨b1,0,none⟩) (k+1) (k+1),.slice (some ⟨b2,0,none⟩) k k]));have hv2:=hv;rw[hcs]at hv2;simp only[dB,dJ]at hv2;rw[<-hv2];obtain⟨r1',e1⟩:=JO (enc:=fR) (k:=k+1) (by rw[qc.1,hk2]) r1;obtain⟨r2',e2⟩:=JO (enc:=ab) hk r2;have C:cX [b,b1,b2] h (h.set b v):=⟨rfl,aX _,λx hx hs=>by
   have:¬x=b:=λe=>hs (by simp[e]);simp[this]⟩
  have RS:gZ [b,b1,b2] h:=by
   intro x hx;simp only[cJ,List.not_mem_nil,or_false]at hx;rcases hx with rfl|rfl|rfl
   .exact⟨_,_,hb⟩
   .exact⟨_,_,bD⟩
   .exact⟨_,_,bN⟩
  refine⟨λe=>by rw[e]at hk;simp at hk,C,b1,b2,k+1,k,ws.dropLast,r1',r2',⟨?_,hset.er C RS,?_,?_,by simp[hk2],by simp[hk],n0,n1,n2,?_⟩,Or.inl rfl,Or.inl rfl⟩
  .simp[hv,hk,hk2]
  .simp only[lX _ _ hne1,bD,hR1,e1]
  .simp only[lX _ _ hne2,bN,hR2,e2]
  .have L:=qc.kp (C.kp RS);have h1:=L.1;refine⟨by simp[h1],λi w D a c=>L.2 i w D ?_ ?_⟩
   .rw[List.getElem?_dropLast]at a;split at a
    .exact a
    .cases a
   .simp only at c;rw[List.getElem?_dropLast]at c;split at c
    .exact c
    .cases c
section
variable {α:Type} {t e sz by_:Nat} {enc:α->List Value} {G:aa} {xs:List α}
def sg(E:lN t e sz by_ enc){b1 c:Nat}{r:List Value}(bD:G.f b1= .row true e (xs.flatMap enc++r))(a:α){b:Nat}{w:Bool}(hb:G.f b= .row w e (enc a))(hl:(xs.length+1)*by_<=140737488355328)(T:Fr)(x:b8)(s y:Nat)
  (hs:Fr.get T s=some (.slice (some ⟨b1,0,none⟩) xs.length c)) (hy:Fr.get T y=some (.slice (some ⟨b,0,none⟩) 1 1)):
  dC PP ⟨T,⟨x,G⟩⟩ t t (.tmp s) (.tmp y)=some (.slice (some ⟨G.n,0,none⟩) (xs.length+1) (xs.length+1),⟨T,⟨x,(G.set b1 .dead).new (.row true e (xs.flatMap enc++enc a))⟩⟩):=by
 obtain⟨zl,hz,hzl⟩:=E.ze;have hlen:=E.len a;have htk:(enc a).take sz=enc a:=b9 (by omega);have hfl:=fr sz E.len xs;have htk2:(xs.flatMap enc++r).take (xs.length*sz)=xs.flatMap enc:=by rw[List.take_append_of_le_length (by omega),b9 (by omega)]
 have hone:=E.one a;have hlr:xs.length*sz<=(xs.flatMap enc++r).length:=by rw[bH];omega
 have hs0:=E.pos;have hb0:=E.b0;obtain⟨R,hR⟩:=nm (xs.flatMap enc++r);rw[<-hR]at bD htk2 hlr;simp[dC,dS,E.el,hz,E.Aa,E.un,hs,hy,hlen,htk,hb,bD,E.co,hone,hs0,hb0,hzl,htk2,hlr,hl,dH]
end
def oJ(p:cu)(f:Int):Bool:=decide (p.p.length<p.s.l.length)&&(!(decide (f= -1)&&kN p p.p.length)&& !(decide (f≠-1)&& !decide (f∈iY p p.p.length)))
def gF(p:cu)(f:Int)(k j:Nat):List (List Int):=(List.range (cK p).length).map λi=>if i=k then(if f= -1 then[]else[f])else if(f≠-1/\k<i)/\i<j then fB p.s ((cK p).getD i []) i k f else(cK p).getD i []
def BJ(p:cu)(f:Int):fY p f=if oJ p f=true then⟨p.s,p.levels++[gF p f p.p.length (cK p).length],p.p++[f]⟩else p:=by
 unfold fY oJ;simp only;have e:(!decide (p.p.length<p.s.l.length) || (decide (f= -1)&&kN p p.p.length) || (decide (f≠-1)&& !(iY p p.p.length).contains f))= !(decide (p.p.length<p.s.l.length)&&(!(decide (f= -1)&&kN p p.p.length)&& !(decide (f≠-1)&& !decide (f∈iY p p.p.length)))):=by
  rw[List.contains_eq_mem];cases decide (p.p.length<p.s.l.length)<;>cases (decide (f= -1)&&kN p p.p.length)<;>cases (decide (f≠-1)&& !decide (f∈iY p p.p.length))<;>rfl
 rw[e];cases (decide (p.p.length<p.s.l.length)&&(!(decide (f= -1)&&kN p p.p.length)&& !(decide (f≠-1)&& !decide (f∈iY p p.p.length))))with
 |false=>simp
 |true=>
  simp only[Bool.not_true,fw,if_false,if_true];congr 3;unfold gF;refine List.map_congr_left λi hi=>?_;rw[dF]at hi;simp[hi]
def yI(p:cu)(f:Int)(k j i:Nat){d:List Int}(h:(gF p f k j)[i]? =some d)(hk:i≠k):d=if(f≠-1/\k<i)/\i<j then fB p.s ((cK p).getD i []) i k f else(cK p).getD i []:=by
 unfold gF at h;rw[fx]at h;cases q:(List.range (cK p).length)[i]? with
 |none=>rw[q]at h;cases h
 |some x=>
  obtain⟨_,e⟩:=cP.1 q;rw[List.getElem_range]at e;subst e;rw[q]at h;simp only[fV,av]at h;rw[<-h,if_neg hk]
def nJ(p:cu)(f:Int)(k j:Nat):(gF p f k j).length=(cK p).length:=by simp[gF]
def A8(l:List cZ):l.map cm=l.flatMap fR:=by
 induction l with
 |nil=>rfl
 |cons a r ih=>rw[fg,ic,ih];rfl
def Td(h G:aa)(f:Int)(x:cZ):Prop:=(f= -1/\x=(none,0,0))∨(f≠-1/\∃bf,x=(some ⟨bf,0,none⟩,1,1)/\G.f bf= .row true 3 [.int .i64 f]/\h.n<=bf/\bf<G.n)
structure rW(h G:aa)(bn:Nat)(us:List cZ)(D:List (List Int))(k:Nat)(f:Int):Prop where
 row:G.f bn= .row true 22 (us.map cm)
 n0:h.n<=bn
 n1:bn<G.n
 len:us.length=D.length
 gC:∀(i:Nat)x d,i≠k->us[i]? =some x->D[i]? =some d->aL 3 ab G (cm x) d
 xN:∃x,us[k]? =some x/\Td h G f x
def nQ{G:aa}{b:Nat}{e:TypeId}{cs:List Value}(h:G.f b= .row true e cs):gZ [b] G:=gZ.cons h (gZ.nil G)
def aam{G:aa}{b:Nat}{x y:aW}(hb:¬b=G.n):(G.set b x).new y=(G.new y).set b x:=by
 unfold aa.set aa.new;congr 1;funext i;by_cases q:i=b
 .subst q;simp[hb]
 .simp[q]
def jC(G:aa)(b:Nat)(v:aW):cX [b] G (G.set b v):=⟨rfl,aX _,λx _ hs=>by
 have:¬x=b:=λe=>hs (by simp[e]);simp[this]⟩
def rW.step{h G G2:aa}{bn:Nat}{us:List cZ}{p:cu}{k j:Nat}{f:Int}(L:rW h G bn us (gF p f k j) k f)(hf:f≠-1)(hkj:k<j)(hj:j<(cK p).length)(E:Ext G G2){x':cZ}(S:aL 3 ab G2 (cm x') (fB p.s ((cK p).getD j []) j k f)):
  rW h (G2.set bn (.row true 22 ((us.set j x').map cm))) bn (us.set j x') (gF p f k (j+1)) k f:=by
 have hr2:G2.f bn= .row true 22 (us.map cm):=by rw[E.f _ L.n1];exact L.row
 have C:=jC G2 bn (.row true 22 ((us.set j x').map cm));have RS:=nQ hr2;have hul:=L.len;rw[nJ]at hul;refine⟨by simp,L.n0,cV L.n1 E.n,by simp[nJ,hul],λi x d hi hx hd=>?_,?_⟩
 .have hd':=yI p f k (j+1) i hd hi;by_cases q:i=j
  .subst q;rw[List.getElem?_set_self (by omega)]at hx;simp only[av]at hx;subst hx;rw[if_pos ⟨⟨hf,hkj⟩,by omega⟩]at hd';rw[hd'];exact S.er C RS
  .rw[List.getElem?_set_ne (λe=>q e.symm)]at hx;have hil:i<(cK p).length:=by
    have:=(cP.1 hd).1;rwa[nJ]at this
   have hji:i<(gF p f k j).length:=(by rw[nJ];exact hil);have hd2:(gF p f k j)[i]? =some (gF p f k j)[i]:=aq hji;have e2:=yI p f k j i hd2 hi;have e3:(gF p f k j)[i]=d:=by
    rw[e2,hd'];by_cases q2:i<j
    .have:i<j+1:=(by omega);simp only[q2,this]
    .have:¬i<j+1:=(by omega);simp only[q2,this]
   rw[e3]at hd2;exact((L.gC i x d hi hx hd2).ext E).er C RS
 .obtain⟨x,hx,he⟩:=L.xN;refine⟨x,by rw[List.getElem?_set_ne (by omega)];exact hx,?_⟩;rcases he with he|⟨h1,bf,h2,h3,h4,h5⟩
  .exact .inl he
  .refine .inr ⟨h1,bf,h2,?_,h4,cV h5 E.n⟩;have h6:G2.f bf= .row true 3 [.int .i64 f]:=(by rw[E.f _ h5];exact h3);have hne:¬bf=bn:=λe=>(by rw[e,hr2]at h6;cases h6);rw[lX _ _ hne];exact h6
def TZ(h:aa)(b bn:Nat)(p:cu)(k:Nat)(f:Int)(m n:Nat)(σ:St):Prop:=∃(j:Nat)(us:List cZ),n=m-j/\j<=m/\k<j/\Ext h σ.m.h/\rW h σ.m.h bn us (gF p f k j) k f/\
 σ.t.get 0=some (.pointer (some ⟨b,0,none⟩))/\σ.t.get 1=some (.int .i64 f)/\σ.t.get 5=some (.int .i64 (k:Nat))/\σ.t.get 6=some (.slice (some ⟨bn,0,none⟩) m m)/\σ.t.get 7=some (.int .i64 (j:Nat))
def UK(h:aa)(b:Nat)(p:cu)(k:Nat)(f:Int)(m:Nat)(σ:St):Prop:=∃(bn:Nat)(us:List cZ),Ext h σ.m.h/\rW h σ.m.h bn us (gF p f k m) k f/\
 σ.t.get 0=some (.pointer (some ⟨b,0,none⟩))/\σ.t.get 1=some (.int .i64 f)/\σ.t.get 6=some (.slice (some ⟨bn,0,none⟩) m m)
def PY(p:cu)(f:Int)(k i:Nat){d:List Int}(h:(gF p f k (k+1))[i]? =some d)(hk:i≠k):(cK p)[i]? =some d:=by
 have e:=yI p f k (k+1) i h hk;have hl:=(cP.1 h).1;rw[nJ]at hl;rw[if_neg (by omega)]at e;rw[e,bu,aq hl];rfl
def acY(p:cu)(k j j':Nat):gF p (-1) k j=gF p (-1) k j':=by
 unfold gF;refine List.map_congr_left λi _=>?_;simp
def xm(h:aa)(b b1 b2:Nat)(p:cu)(f:Int)(cs:List Value)(ws:List cZ)(k m:Nat)(h':aa):Prop:=tV h b b1 b2 (fY p f) cs h'∨
 (oJ p f=true/\cX [b,b1,b2] h h'/\∃bn us b1' b2',rW h h' bn us (gF p f k m) k f/\h'.f b= .row true 334 (cs++[.slice (some ⟨b1',0,none⟩) (p.levels.length+1) (p.levels.length+1),.slice (some ⟨b2',0,none⟩) (k+1) (k+1)])/\
  h'.f b1'= .row true 329 (ws.flatMap fR++fR (some ⟨bn,0,none⟩,m,m))/\h'.f b2'= .row true 3 (p.p.flatMap ab++ab f)/\h.n<=b1'/\b1'<h'.n/\h.n<=b2'/\b2'<h'.n/\∀x ad,us[k]? =some x->x.1=some ad->ad.block<b2')
def lW(h:aa){b x:Nat}(hx:¬x=b):(h.dG b).f x=h.f x:=by unfold aa.dG;simp[hx]
def xU{h:aa}{b:Nat}{e:TypeId}{w:Bool}{cs:List Value}(hb:h.f b= .row w e cs):(h.dG b).f b= .row false e cs:=by unfold aa.dG;simp[hb,aW.dG]
def ajm{h h':aa}{b b1 b2:Nat}{p:cu}{f:Int}{cs:List Value}{c1 c2:Nat}{ws:List cZ}{r1 r2:List Value}(H:gP h b b1 b2 p cs c1 c2 ws r1 r2){k m:Nat}(hk:k=p.p.length)(hm:m=(cK p).length)(Q:xm h b b1 b2 p f cs ws k m h'):
  ∃h'',Wk h' h''/\tV h b b1 b2 (fY p f) cs h'':=by
 rcases Q with Q|⟨ok,C,bn,us,b1',b2',L,g0,g1,g2,n1,m1,n2,m2,hbf2⟩
 .exact⟨h',Wk.refl _,Q⟩
 .have RS:gZ [b,b1,b2] h:=by
   intro x hx;simp only[cJ,List.not_mem_nil,or_false]at hx;rcases hx with rfl|rfl|rfl
   .exact⟨_,_,H.hb⟩
   .exact⟨_,_,H.bD⟩
   .exact⟨_,_,H.bN⟩
  have hul:=L.len
  rw[nJ]at hul
  have key:∃h'',Wk h' h''/\(∀x,x<h.n->h''.f x=h'.f x)/\mj h'' (some ⟨bn,0,none⟩,m,m) (gF p f k m)/\h''.f b=h'.f b/\h''.f b1'=h'.f b1'/\h''.f b2'=h'.f b2':=by
   have h0:¬b=bn:=(by have:=H.n0;have:=L.n0;omega);have h1:¬b1'=bn:=λe=>(by have:=L.row;rw[<-e,g1]at this;cases this);have h2:¬b2'=bn:=λe=>(by have:=L.row;rw[<-e,g2]at this;cases this);obtain⟨x,hx,he⟩:=L.xN;have hkm:k<(cK p).length:=by
    have:=(cP.1 hx).1;omega
   have hnk:(gF p f k m)[k]? =some (if f= -1 then[]else[f]):=by
    unfold gF;rw[fx,List.getElem?_range hkm];simp
   have mk:∀(F:aa),Wk h' F->F.f bn= .row false 22 (us.map cm)->aL 3 ab F (cm x) (if f= -1 then[]else[f])->mj F (some ⟨bn,0,none⟩,m,m) (gF p f k m):=λF W hF hS=>by
    refine⟨us,⟨some ⟨bn,0,none⟩,m,?_,λz=>(by cases z),.inr ⟨bn,0,_,[],rfl,hF,by rw[A8];simp,by simp,by rw[W.n];exact L.n1⟩⟩,by rw[hul,nJ],λi y d hy hd=>?_⟩
    .simp only[cm];rw[hul,hm]
    .by_cases q:i=k
     .subst q;rw[hx]at hy;rw[hnk]at hd;cases hy;cases hd;exact hS
     .exact(L.gC i y d q hy hd).wk W
   rcases he with⟨hf,ex⟩|⟨hf,bf,ex,hbf,f1,f2⟩
   .subst ex;refine⟨h'.dG bn,h'.pX bn,λy hy=>lW _ (by have:=L.n0;omega),mk _ (h'.pX bn) (xU L.row) ?_,lW _ h0,lW _ h1,lW _ h2⟩;rw[if_pos hf];exact aL.nil
   .subst ex;have hfn:¬bf=bn:=λe=>(by rw[e,L.row]at hbf;cases hbf);have hbn:(h'.dG bf).f bn= .row true 22 (us.map cm):=(by rw[lW _ (λe=>hfn e.symm)];exact L.row);have W:=(h'.pX bf).trans ((h'.dG bf).pX bn);have hf1:¬b1'=bf:=λe=>(by rw[<-e,g1]at hbf;cases hbf);have hf2:¬b2'=bf:=λe=>(by have:=hbf2 _ _ hx rfl;simp only at this;omega);have hfb:¬b=bf:=(by have:=H.n0;omega);refine⟨(h'.dG bf).dG bn,W,λy hy=>?_,mk _ W (xU hbn) ?_,?_,?_,?_⟩
    .rw[lW _ (by have:=L.n0;omega),lW _ (by omega)]
    .rw[if_neg hf];refine⟨some ⟨bf,0,none⟩,1,rfl,λz=>(by cases z),.inr ⟨bf,0,[.int .i64 f],[],rfl,?_,by simp[ab],by simp,by rw[W.n];exact f2⟩⟩;rw[lW _ hfn,xU hbf]
    .rw[lW _ h0,lW _ hfb]
    .rw[lW _ h1,lW _ hf1]
    .rw[lW _ h2,lW _ hf2]
  obtain⟨h'',W,hlt,hL,e0,e1,e2⟩:=key
  have C2:cX [b,b1,b2] h h'':=C.wk W (λy hy _=>hlt y hy)
  refine⟨h'',W,C2,b1',b2',p.levels.length+1,k+1,ws++[(some ⟨bn,0,none⟩,m,m)],[],[],?_,.inr n1,.inr n2⟩
  rw[BJ,if_pos ok,<-hk,<-hm]
  refine⟨?_,H.set.er C2 RS,?_,?_,by simp,by simp[hk],cV H.n0 C2.n,by rw[W.n];exact m1,by rw[W.n];exact m2,?_⟩
  .rw[e0,g0];simp[hk]
  .rw[e1,g1];simp
  .rw[e2,g2];simp
  .have Lo:=H.qc.kp (C2.kp RS)
   have hwl:=Lo.1
   refine⟨by simp[hwl],λi w D hw hD=>?_⟩
   simp only at hD
   rcases Nat.lt_trichotomy i ws.length with z|z|z
   .rw[ji z]at hw
    rw[ji (by omega)]at hD
    exact Lo.2 i w D hw hD
   .rw[z,iF (aX _),oS]at hw
    rw[z,hwl,iF (aX _),oS]at hD
    simp only[List.getElem?_cons_zero,av]at hw hD
    subst hw;subst hD
    exact hL
   .rw[iF (by omega)]at hw
    have:=(cP.1 hw).1
    simp at this
    omega
def BK{h G F:aa}{b b1 b2 bn b1' b2':Nat}{us:List cZ}{p:cu}{f:Int}{cs:List Value}{c1 c2:Nat}{ws:List cZ}{r1 r2:List Value}{k m:Nat}(H:gP h b b1 b2 p cs c1 c2 ws r1 r2)(ok:oJ p f=true)(E:Ext h G)(L:rW h G bn us (gF p f k m) k f)
  (hg:F.g=G.g) (hn:F.n=G.n+1+1+1+1) (ho:∀x,x<G.n->¬x=b->¬x=b1->¬x=b2->F.f x=G.f x)
  (g0:F.f b= .row true 334 (cs++[.slice (some ⟨b1',0,none⟩) (p.levels.length+1) (p.levels.length+1),.slice (some ⟨b2',0,none⟩) (k+1) (k+1)]))
  (g1:F.f b1'= .row true 329 (ws.flatMap fR++fR (some ⟨bn,0,none⟩,m,m))) (g2:F.f b2'= .row true 3 (p.p.flatMap ab++ab f)) (n1:G.n<=b1') (n1':b1'<G.n+1+1+1+1) (n2:G.n<=b2') (n2':b2'<G.n+1+1+1+1):
  xm h b b1 b2 p f cs ws k m F:=by
 have en:=E.n;have HG:=H.ext E;have C:cX [b,b1,b2] G F:=⟨hg,by omega,λx hx hs=>by
  simp only[cJ,List.not_mem_nil,or_false,not_or]at hs;exact ho x hx hs.1 hs.2.1 hs.2.2⟩
 have RS:gZ [b,b1,b2] G:=by
  intro x hx;simp only[cJ,List.not_mem_nil,or_false]at hx;rcases hx with rfl|rfl|rfl
  .exact⟨_,_,HG.hb⟩
  .exact⟨_,_,HG.bD⟩
  .exact⟨_,_,HG.bN⟩
 have q0:=H.n0;have q1:=H.n1;have q2:=H.n2;have l0:=L.n0;have l1:=L.n1;refine .inr ⟨ok,(cX.fP (S:=[b,b1,b2]) E).trans C (λi hi _=>hi),bn,us,b1',b2',⟨?_,l0,by omega,L.len,λi x d hi hx hd=>(L.gC i x d hi hx hd).er C RS,?_⟩,g0,g1,g2,by omega,by omega,by omega,by omega,?_⟩
 .rw[ho bn l1 (by omega) (by omega) (by omega)];exact L.row
 .obtain⟨x,hx,he⟩:=L.xN;refine⟨x,hx,?_⟩;rcases he with he|⟨a1,bf,a2,a3,a4,a5⟩
  .exact .inl he
  .exact .inr ⟨a1,bf,a2,by rw[ho bf a5 (by omega) (by omega) (by omega)];exact a3,a4,by omega⟩
 .intro y ad hy ha;obtain⟨x,hx,he⟩:=L.xN;rw[hx]at hy;cases hy;rcases he with⟨_,e⟩|⟨_,bf,e,_,_,a5⟩
  .rw[e]at ha;cases ha
  .rw[e]at ha;simp only[av]at ha;subst ha;simp only;omega
def CJ(h:aa)(b:Nat)(p:cu)(f:Int)(σ:St):Prop:=σ.m.h=h/\oJ p f=true/\σ.t.get 0=some (.pointer (some ⟨b,0,none⟩))/\σ.t.get 1=some (.int .i64 f)/\σ.t.get 5=some (.int .i64 (p.p.length:Nat))
def ajk(p:cu)(I:jh p)(f:Int)(h:aa){b b1 b2:Nat}{cs:List Value}{c1 c2:Nat}{ws:List cZ}{r1 r2:List Value}(H:gP h b b1 b2 p cs c1 c2 ws r1 r2):
  al PP 252 [.pointer (some ⟨b,0,none⟩),.int .i64 f] h (λr h'=>(∃v,r= .bool v)/\tV h b b1 b2 (fY p f) cs h'):=by
 refine al.jM (post:=λr h'=>(∃v,r= .bool v)/\xm h b b1 b2 p f cs ws p.p.length (cK p).length h') ?_ (λv h' ⟨a,Q⟩=>by
  obtain⟨h'',W,Z⟩:=ajm H rfl rfl Q;exact⟨h'',W,a,Z⟩)
 refine aC Tryz.func252 agG ?_;simp only[aA,Tryz.f252];have hd:=xI p h H;have hha:=AM p (p.p.length:Int) h H;have hpi:=QD p p.p.length h H;have hno:=Bh p I h H;have hnl:=I.now;have hdep:=I.dep;have hll:=I.ll;obtain⟨k,hk⟩:=nm p.p.length;rw[<-hk]at hd hha hpi hdep ⊢;have q0:(0:Int)<=k:=by omega
 refine w8 3 (CJ h b p f) ?_ ?_
 .simp only[sF,sE];simp -implicitDefEqProofs;refine cE hd ?_;simp -implicitDefEqProofs[af];intro _;refine cE hha ?_;have hno':oJ p f=false->(∃v,Value.bool false= .bool v)/\tV h b b1 b2 (fY p f) cs h:=λz=>by
   rw[BJ,z];exact⟨⟨_,rfl⟩,cX.bJ _ h,b1,b2,c1,c2,ws,r1,r2,H,.inl rfl,.inl rfl⟩
  unfold oJ at hno';unfold CJ oJ;rw[<-hk]at hno' ⊢;by_cases q:k<p.s.l.length
  .have q2:(k:Int)<p.s.l.length:=(by omega);by_cases qf:f= -1
   .subst qf;simp -implicitDefEqProofs[af,aF,q,q2,q0];intro _;refine cE hpi ?_;by_cases qp:kN p k=true
    .have:=hno' (by simp[q,qp]);simp -implicitDefEqProofs[af,aF,qp];intro _;exact Or.inl this.2
    .simp -implicitDefEqProofs[af,aF,q,qp]
   .have hkD:(cK p)[k]? =some (cK p)[k]:=aq (by omega);obtain⟨d,hd⟩:=nm (cK p)[k];rw[<-hd]at hkD;have hgd:iY p k=d:=(by unfold iY;rw[if_pos q,bu,hkD];rfl);have hdl:=hnl.2 d (dE hkD);rw[hgd]at hno' ⊢;simp -implicitDefEqProofs[af,aF,q,q2,q0,qf];intro _;refine hno.mono ?_;rintro r h' ⟨e,w,rfl,hL⟩;replace e:=e.symm;subst e;obtain⟨bw,ow,cw,cells,rest,x,rfl,hb,hdr,hlc,hS⟩:=hL.at hkD;have hco:=Iz (cm x) d f (by omega) h hS.sl;simp only[cm]at hco hdr;simp -implicitDefEqProofs[aF,af,cm,hnl.1,q,hb,hdr,hlc];intro _;refine cE hco ?_;by_cases qm:f∈d
    .simp -implicitDefEqProofs[aF,af,q,qf,qm]
    .have:=hno' (by simp[q,qf,qm]);simp -implicitDefEqProofs[aF,af,qm];intro _;exact Or.inl this.2
  .have q2:¬(k:Int)<p.s.l.length:=(by omega);have:=hno' (by simp[q]);simp -implicitDefEqProofs[af,aF,q,q2];intro _;exact Or.inl this.2
 .rintro⟨T,⟨x,G⟩⟩ ⟨e,ok,g0,g1,g5⟩;replace e:h=G:=e.symm;subst e;simp at g0 g1 g5;rw[<-hk]at g5;have hkl:k<p.s.l.length:=by unfold oJ at ok;rw[<-hk]at ok;simp at ok;exact ok.1
  have hmem:f≠-1->f∈(cK p).getD k []:=λhf=>by
   unfold oJ iY at ok;rw[<-hk]at ok;simp only[hkl,if_true]at ok;simp[hf]at ok;simpa using ok
  obtain⟨m,hm⟩:=nm (cK p).length;have hml:m=p.s.l.length:=hm.trans hnl.1;simp only[tF,qG];refine w8 2 (UK h b p k f m) ?_ ?_
  .simp only[sF,sE];simp -implicitDefEqProofs[g0,g1,g5];refine hno.mono ?_;rintro r h' ⟨e,w,rfl,vs,hvs,hvl,hve⟩;replace e:=e.symm;subst e;have hcl:=XK (cm w) vs (by omega) h hvs.sl;simp only[cm]at hcl;simp -implicitDefEqProofs[aF,cm];intro _;refine hcl.mono ?_;rintro r G ⟨E,W⟩;obtain⟨o,W⟩:=Ow.iN W;obtain⟨rfl,W2⟩:=id W;cases o with
   |none=>
    simp only at W2;subst W2;simp at hvl;omega
   |some bn=>
    obtain⟨hrow,hn0,hn1⟩:=W2;have hvm:vs.length=m:=hvl.trans hm.symm;rw[<-A8]at hrow;obtain⟨V,hV⟩:=nm (vs.map cm);rw[<-hV]at hrow;have hVl:k+1<=V.length:=(by rw[hV,cf];omega);have hkm:k<m:=(by omega);have hts:=mO cm vs k (none,0,0) (by omega);rw[<-hV]at hts;simp only[cm]at hts;simp -implicitDefEqProofs[aF,g0,g1,g5,hvm,hkm,hrow,hVl];intro _;refine jk (λhc=>?_) (λhc=>?_)
    .have hf:f≠-1:=(by simpa using hc);clear hc;obtain⟨V2,hV2⟩:=nm ((vs.set k (none,0,0)).map cm);rw[<-hV2]at hts;have hts':List.take k V++Value.slice none 0 0::List.drop (k+1) V=V2:=hts;have hV2l:k+1<=V2.length:=(by rw[hV2,cf,kW];omega);have hts2:=mO cm (vs.set k (none,0,0)) k (some ⟨G.n,0,none⟩,1,1) (by rw[kW];omega);rw[<-hV2]at hts2;simp only[cm]at hts2;have hbG:¬bn=G.n:=(by omega);have hr1:List.range 1=[0]:=rfl;have w1:=bO (i:=k) (by omega);have C0:=jC G bn (.row true 22 V2);have R0:=nQ hrow;simp -implicitDefEqProofs[g0,g1,g5,hvm,hkm,hts',hV2l,aM,hr1,hbG,w1];rw[aam hbG,nB];have hnx:=nJ p f k (k+1);refine bG (TZ h b bn p k f m) _ ⟨k+1,(vs.set k (none,0,0)).set k (some ⟨G.n,0,none⟩,1,1),rfl,by omega,by omega,(E.bI _).dp hn0 _,⟨?_,hn0,by show bn<G.n+1;omega,by simp[hnx,hvm,hm],λi x d hi hx hd=>?_,?_⟩,by simp⟩ ?_
     .simp only;rw[<-hts2];simp
     .rw[List.getElem?_set_ne (by omega),List.getElem?_set_ne (by omega)]at hx;have hS:=hve i x d hx (PY p f k i hd hi);have C1:=jC (G.new (.row true 3 [.int .i64 f])) bn (.row true 22 (List.take k V2++Value.slice (some {block:=G.n,off:=0}) 1 1::List.drop (k+1) V2));have R1:gZ [bn] (G.new (.row true 3 [.int .i64 f])):=nQ (by rw[(Ext.new G _).f _ hn1];exact hrow);exact(hS.ext (E.bI _)).er C1 R1
     .refine⟨_,List.getElem?_set_self (by rw[kW];omega),.inr ⟨hf,G.n,rfl,?_,E.n,by simp⟩⟩;rw[lX _ _ (λe=>hbG e.symm)];simp
     .rintro n ⟨T,⟨x,G3⟩⟩ ⟨j,us,rfl,hj,hkj,E3,L,g0,g1,g5,g6,g7⟩;simp at E3 L g0 g1 g5 g6 g7;simp -implicitDefEqProofs[g0,g1,g5,g6,g7];refine bR (λhc2=>?_) (λhc2=>?_)
      .have hjm:j<m:=(by omega);have H3:=H.ext E3;obtain⟨C,lv,mb,hb,hl,ho,ht,h8,h9,h6,h7,hP,_⟩:=H3.cells;have hln:=L.len;rw[nJ]at hln;have hrow3:=L.row;have hux:us[j]? =some us[j]:=aq (by omega);obtain⟨X,hX⟩:=nm us[j];rw[<-hX]at hux;have hjn:j<(gF p f k j).length:=(by rw[nJ];omega);have hdx:(gF p f k j)[j]? =some (gF p f k j)[j]:=aq hjn;have hS:=L.gC j X _ (by omega) hux hdx;have hdj:=yI p f k j j hdx (by omega);rw[if_neg (by omega)]at hdj;rw[hdj]at hS;have hjD:(cK p)[j]? =some (cK p)[j]:=aq (by omega);have hDj:(cK p).getD j []=(cK p)[j]:=(by rw[bu,hjD];rfl);have hdl:=hnl.2 _ (dE hjD);rw[<-hDj]at hdl;obtain⟨D,hD⟩:=nm ((cK p).getD j []);have hnow:=yH I.ok.len;rw[<-hk]at hnow;have hsj:=I.size (show j<p.s.l.length by omega);have hsk:=I.size hkl;have hin:∀z∈(cK p).getD j [],0<=z/\z+(p.s.l.getD j default).size<=p.s.v.ag.length:=λz hz=>by
        rw[hnow]at hz;have:=rM (I.ok.dX k (by omega) j (by omega) z hz).ag;exact⟨this.2.2.2.1,this.2.2.2.2⟩
       have hfa:0<=f/\f+(p.s.l.getD k default).size<=p.s.v.ag.length:=by
        have hz:=hmem hf;rw[hnow]at hz;have:=rM (I.ok.dX k (by omega) k (aX _) f hz).ag;exact⟨this.2.2.2.1,this.2.2.2.2⟩
       have hap:=Da p.s I.sm cs (cm X) _ (by omega) j k f (by omega) hkl (by omega) (by omega) hin hfa G3 H3.set hS;obtain⟨A,hA⟩:=nm (fB p.s ((cK p).getD j []) j k f);rw[<-hA]at hap;have hUd:(us.map cm).drop j=cm X::(us.drop (j+1)).map cm:=by
        rw[<-List.map_drop,gQ (show j<us.length by omega),fg,<-hX]
       obtain⟨U,hU⟩:=nm (us.map cm);have hUl:j+1<=U.length:=(by rw[hU,cf];omega);rw[<-hU]at hrow3 hUd;simp only[cm]at hap hUd;have hCt:C.take 8=cs:=ht;have w2:=bO (i:=j) (by omega);simp -implicitDefEqProofs[g0,g1,g5,g6,g7,hjm,hb,hl,hCt,hrow3,hUl,hUd];refine hap.mono ?_;rintro r G4 ⟨E4,hr⟩;obtain⟨ax,cx,rfl⟩:=hr.shape;have hrow4:G4.f bn= .row true 22 U:=(by rw[E4.f _ L.n1];exact hrow3);have hts3:=mO cm us j (ax,A.length,cx) (by omega);rw[<-hU]at hts3;simp only[cm]at hts3;simp -implicitDefEqProofs[aF,g0,g1,g5,g6,g7,hjm,hrow4,hUl,w2];intro _;rw[hts3];exact⟨m-(j+1),by omega,j+1,_,rfl,by omega,by omega,(E3.trans E4).dp hn0 _,L.step hf hkj (by omega) E4 (x':=(ax,A.length,cx)) (by rw[<-hA];exact hr),by simp⟩
      .have e:j=m:=(by omega);subst e;simp -implicitDefEqProofs[g0,g1,g6];exact⟨bn,us,E3,L,by simp⟩
    .have hf:f= -1:=(by simpa using hc);subst hf;simp -implicitDefEqProofs[g0,g1,g5];have hnx:=nJ p (-1) k m;refine⟨bn,vs.set k (none,0,0),E.dp hn0 _,⟨?_,hn0,hn1,by rw[hnx,kW];omega,λi x d hi hx hd=>?_,?_⟩,by simp⟩
     .simp only;rw[<-hts];simp
     .rw[List.getElem?_set_ne (by omega)]at hx;rw[acY p k m (k+1)]at hd;exact((hve i x d hx (PY p (-1) k i hd hi)).ext E).er (jC G bn _) (nQ hrow)
     .exact⟨_,List.getElem?_set_self (by omega),.inl ⟨rfl,rfl⟩⟩
  .rintro⟨T,⟨x,G⟩⟩ ⟨bn,us,E,L,g0,g1,g6⟩;simp at E L g0 g1 g6;have HG:=H.ext E;obtain⟨hb,hset,bD,bN,yl,ym,n0,n1,n2,qc⟩:=HG;have hne1:¬b1=b:=λe=>(by rw[e,hb]at bD;cases bD);have hne2:¬b2=b:=λe=>(by rw[e,hb]at bN;cases bN);have hne3:¬b2=b1:=λe=>(by rw[e,bD]at bN;cases bN);have hne1':¬b=b1:=λe=>hne1 e.symm;have hne2':¬b=b2:=λe=>hne2 e.symm;have hne3':¬b1=b2:=λe=>hne3 e.symm;have hbn1:¬bn=b1:=λe=>(by have:=L.row;rw[e,bD]at this;cases this);have hbn2:¬bn=b2:=λe=>(by have:=L.row;rw[e,bN]at this;cases this);have hbn0:¬bn=b:=λe=>(by have:=L.row;rw[e,hb]at this;cases this);have en:=E.n;rw[<-hk]at hb;obtain⟨y1,y2,y3,y4,y5,y6,y7,y8,y9,y10,y11,y12,y13,y14,y15,y16,y17,y18,hcs⟩:=hset.shape;rw[hcs]at hb;simp only[dB,dJ]at hb;obtain⟨a,ha⟩:=nm ((some ⟨bn,0,none⟩,m,m):cZ);have hlen:=I.ok.len;have hwl:=qc.1;have hr1:List.range 1=[0]:=rfl;have i0:¬b=G.n:=(by omega);have i1:¬b1=G.n:=(by omega);have i2:¬b2=G.n:=(by omega);have j0:¬b=G.n+1:=(by omega);have j1:¬b1=G.n+1:=(by omega);have j2:¬b2=G.n+1:=(by omega);have k0:¬b=G.n+1+1:=(by omega);have k1:¬b1=G.n+1+1:=(by omega);have k2:¬b2=G.n+1+1:=(by omega);have l0:¬b=G.n+1+1+1:=(by omega);have m1:¬G.n=b1:=(by omega);have m2:¬G.n+1=b1:=(by omega);have m3:¬G.n+1+1=b2:=(by omega);have m4:¬G.n+1=b2:=(by omega);have m5:¬G.n=b2:=(by omega);have m6:¬G.n=G.n+1+1:=(by omega);have m7:¬G.n+1=G.n+1+1+1:=(by omega);have m8:¬G.n+1=b:=(by omega);have m9:¬G.n+1+1=b:=(by omega);have m10:¬G.n+1+1+1=b:=(by omega);obtain⟨W1,hW1⟩:=nm (ws.flatMap fR++fR a);obtain⟨W2,hW2⟩:=nm (p.p.flatMap ab++ab f);simp only[tF,qG];simp -implicitDefEqProofs[g0,g1,g6];refine vy (λσ=>xm h b b1 b2 p f cs ws k m σ.m.h) ?_ ?_
   .rw[iU,iU,iU,tY];refine⟨?_,?_,?_,trivial⟩
    .have hA:=sg (G:=G.new (.row true 329 (fR a))) Ao (xs:=ws) (b1:=b1) (c:=c1) (r:=r1) (by simp[i1,j1,bD]) a (b:=G.n) (w:=true) (by simp) (by omega);rw[<-hW1]at hA;have hB:=sg (G:=(((G.new (.row true 329 (fR a))).set b1 .dead).new (.row true 329 W1)).new (.row true 3 (ab f))) lf (xs:=p.p) (b1:=b2) (c:=c2) (r:=r2) (by simp[i2,j2,k2,hne3,bN]) f (b:=G.n+1+1) (w:=true) (by simp[m1,m2,m6]) (by omega);rw[<-hW2]at hB;simp only[fR,ab,ha,hwl,<-hk]at hA hB;simp -implicitDefEqProofs[g0,g1,g6,hb,aM,hr1,hA,hB,i0,i1,i2,j0,j1,j2,k0,k1,k2,l0,hne1,hne2,hne3,hne1',hne2',hne3'];rw[nB];refine BK H ok E L (b1':=G.n+1) (b2':=G.n+1+1+1) rfl rfl (λx hx a0 a1 a2=>?_) ?_ ?_ ?_ (by omega) (by omega) (by omega) (by omega)
     .have z0:¬x=G.n:=(by omega);have z1:¬x=G.n+1:=(by omega);have z2:¬x=G.n+1+1:=(by omega);have z3:¬x=G.n+1+1+1:=(by omega);simp[a0,a1,a2,z0,z1,z2,z3]
     .simp[hcs]
     .rw[<-ha,<-hW1];simp[m1,m2,m3,m4,m5,m6,m7,m8,m9,m10]
     .rw[<-hW2];simp[m1,m2,m3,m4,m5,m6,m7,m8,m9,m10]
    .have hA:=sg (G:=(G.new (.row true 329 (fR a))).new (.row true 3 (ab f))) Ao (xs:=ws) (b1:=b1) (c:=c1) (r:=r1) (by simp[i1,j1,bD]) a (b:=G.n) (w:=true) (by simp) (by omega);rw[<-hW1]at hA;have hB:=sg (G:=(((G.new (.row true 329 (fR a))).new (.row true 3 (ab f))).set b1 .dead).new (.row true 329 W1)) lf (xs:=p.p) (b1:=b2) (c:=c2) (r:=r2) (by simp[i2,j2,k2,hne3,bN]) f (b:=G.n+1) (w:=true) (by simp[m1,m2,m6]) (by omega);rw[<-hW2]at hB;simp only[fR,ab,ha,hwl,<-hk]at hA hB;simp -implicitDefEqProofs[g0,g1,g6,hb,aM,hr1,hA,hB,i0,i1,i2,j0,j1,j2,k0,k1,k2,l0,hne1,hne2,hne3,hne1',hne2',hne3'];rw[nB];refine BK H ok E L (b1':=G.n+1+1) (b2':=G.n+1+1+1) rfl rfl (λx hx a0 a1 a2=>?_) ?_ ?_ ?_ (by omega) (by omega) (by omega) (by omega)
     .have z0:¬x=G.n:=(by omega);have z1:¬x=G.n+1:=(by omega);have z2:¬x=G.n+1+1:=(by omega);have z3:¬x=G.n+1+1+1:=(by omega);simp[a0,a1,a2,z0,z1,z2,z3]
     .simp[hcs]
     .rw[<-ha,<-hW1];simp[m1,m2,m3,m4,m5,m6,m7,m8,m9,m10]
     .rw[<-hW2];simp[m1,m2,m3,m4,m5,m6,m7,m8,m9,m10]
    .have hA:=sg (G:=(G.new (.row true 3 (ab f))).new (.row true 329 (fR a))) Ao (xs:=ws) (b1:=b1) (c:=c1) (r:=r1) (by simp[i1,j1,bD]) a (b:=G.n+1) (w:=true) (by simp) (by omega);rw[<-hW1]at hA;have hB:=sg (G:=(((G.new (.row true 3 (ab f))).new (.row true 329 (fR a))).set b1 .dead).new (.row true 329 W1)) lf (xs:=p.p) (b1:=b2) (c:=c2) (r:=r2) (by simp[i2,j2,k2,hne3,bN]) f (b:=G.n) (w:=true) (by simp[m1,m2,m6]) (by omega);rw[<-hW2]at hB;simp only[fR,ab,ha,hwl,<-hk]at hA hB;simp -implicitDefEqProofs[g0,g1,g6,hb,aM,hr1,hA,hB,i0,i1,i2,j0,j1,j2,k0,k1,k2,l0,hne1,hne2,hne3,hne1',hne2',hne3'];rw[nB];refine BK H ok E L (b1':=G.n+1+1) (b2':=G.n+1+1+1) rfl rfl (λx hx a0 a1 a2=>?_) ?_ ?_ ?_ (by omega) (by omega) (by omega) (by omega)
     .have z0:¬x=G.n:=(by omega);have z1:¬x=G.n+1:=(by omega);have z2:¬x=G.n+1+1:=(by omega);have z3:¬x=G.n+1+1+1:=(by omega);simp[a0,a1,a2,z0,z1,z2,z3]
     .simp[hcs]
     .rw[<-ha,<-hW1];simp[m1,m2,m3,m4,m5,m6,m7,m8,m9,m10]
     .rw[<-hW2];simp[m1,m2,m3,m4,m5,m6,m7,m8,m9,m10]
   .rintro⟨T,⟨x,G⟩⟩ Q;simp at Q;simp -implicitDefEqProofs;rw[<-hm];exact Q
def Kd(l:List (Int×Int))(i:Nat):∀e∈fh l i,∃j q,l[j]? =some q/\e=⟨.int .i64 q.1,.int .i64 q.2,i+j⟩:=by
 induction l generalizing i with
 |nil=>intro e h;cases h
 |cons a r ih=>
  intro e h;simp only[fh,cJ]at h;rcases h with rfl|h
  .exact⟨0,a,rfl,rfl⟩
  .obtain⟨j,q,h1,h2⟩:=ih (i+1) e h;exact⟨j+1,q,by simpa using h1,by rw[h2];congr 1;omega⟩
def Zb(l:List (Int×Int))(i j:Nat){q:Int×Int}(h:l[j]? =some q):(⟨.int .i64 q.1,.int .i64 q.2,i+j⟩:MapEntry)∈fh l i:=by
 induction l generalizing i j with
 |nil=>simp at h
 |cons a r ih=>
  cases j with
  |zero=>
   simp only[List.getElem?_cons_zero,av]at h;subst h;simp[fh]
  |succ j=>
   have:=ih (i+1) j (by simpa using h);rw[show i+1+j=i+(j+1) by omega]at this;simp[fh,this]
def uj(s:bS)(k i:Nat)(f:Int):Bool:=match s.pins[i]? with
 |some q=>dM s.v (s.l.getD k default) f (s.l.getD q.1.toNat default) q.2
 |none=>true
def lT(s:bS)(k:Nat)(seen:Array Nat):List Int:=(ir s.v s.us (s.l.getD k default)).filter λf=>(List.range s.pins.length).all λi=> !seen.contains i || uj s k i f
def Yw(s:bS)(k:Nat):lT s k #[]=ir s.v s.us (s.l.getD k default):=by
 unfold lT;rw[List.filter_eq_self];intro f _;rw[cz];intro i _;simp
def Yx(s:bS)(k:Nat)(seen:Array Nat){i:Nat}{q:Int×Int}(hq:s.pins[i]? =some q):lT s k (seen.push i)=fB s (lT s k seen) k q.1.toNat q.2:=by
 unfold lT fB;rw[List.filter_filter];refine List.filter_congr λf _=>?_;have hi:i<s.pins.length:=(cP.1 hq).1;rw[Bool.eq_iff_iff,bQ,cz,cz];have hc:uj s k i f=dM s.v (s.l.getD k default) f (s.l.getD q.1.toNat default) q.2:=by unfold uj;rw[hq]
 constructor
 .intro h;refine⟨?_,λj hj=>?_⟩
  .have:=h i (dF.2 hi);rw[hc]at this;simpa using this
  .have:=h j hj;simp only[kY,Bool.not_eq_true',Array.contains_push]at this ⊢;rcases this with z|z
   .simp only[Bool.or_eq_false_iff]at z;exact .inl z.1
   .exact .inr z
 .rintro⟨h1,h2⟩ j hj;have:=h2 j hj;simp only[kY,Bool.not_eq_true',Array.contains_push]at this ⊢;by_cases e:j=i
  .subst e;right;rw[hc];exact h1
  .rcases this with z|z
   .left;simp[e];simpa using z
   .exact .inr z
def Kw(s:bS)(k:Nat):∀(r:List (Int×Int))(A:List Int),r.foldl (λd q=>fB s d k q.1.toNat q.2) A=A.filter λf=>r.all λq=>dM s.v (s.l.getD k default) f (s.l.getD q.1.toNat default) q.2:=by
 intro r;induction r with
 |nil=>intro A;exact(List.filter_eq_self.2 (λ_ _=>rfl)).symm
 |cons q r ih=>
  intro A;rw[List.foldl_cons,ih];unfold fB;rw[List.filter_filter];refine List.filter_congr λf _=>?_;rw[List.all_cons,Bool.and_comm]
def Yv(s:bS)(k:Nat)(seen:Array Nat)(h:∀i,i<s.pins.length->seen.contains i=true):lT s k seen=s.pins.foldl (λd q=>fB s d k q.1.toNat q.2) (ir s.v s.us (s.l.getD k default)):=by
 rw[Kw];unfold lT;refine List.filter_congr λf _=>?_;rw[Bool.eq_iff_iff,cz,cz];constructor
 .intro z q hq;obtain⟨i,hi,e⟩:=List.getElem_of_mem hq;have:=z i (dF.2 hi);rw[h i hi]at this;unfold uj at this;rw[aq hi,e]at this;simpa using this
 .intro z i hi;have hi:=dF.1 hi;have:=z _ (fG hi);unfold uj;rw[aq hi];simp only[this,Bool.or_true]
def yn(n:Nat)(seen:Array Nat):Nat:=((List.range n).filter λi=> !seen.contains i).length
def abd(n:Nat)(seen:Array Nat){i:Nat}(hi:i<n)(hs:seen.contains i=false):yn n (seen.push i)<yn n seen:=by
 unfold yn;have e:((List.range n).filter λj=> !(seen.push i).contains j)=((List.range n).filter λj=> !seen.contains j).filter λj=>decide (j≠i):=by
  rw[List.filter_filter];refine List.filter_congr λj _=>?_;rw[Array.contains_push];by_cases q:j=i
  .subst q;simp
  .simp[q]
 rw[e,List.length_filter_lt_length_iff_exists];exact⟨i,gS.2 ⟨dF.2 hi,by rw[hs];rfl⟩,by simp⟩
def xT(e:TypeId):aW->aW
 | .row w e' cs=>if e'=e then .row false e' cs else .row w e' cs
 |c=>c
def aa.iJ(h:aa)(lo hi:Nat)(e:TypeId):aa:={h with f:=λx=>if lo<=x/\x<hi then xT e (h.f x)else h.f x}
def sB(h:aa){lo hi:Nat}{e:TypeId}{x:Nat}(hx:x<lo∨hi<=x):(aa.iJ h lo hi e).f x=h.f x:=by
 unfold aa.iJ;simp only;rw[if_neg (by omega)]
def uB(h:aa){lo hi:Nat}{e:TypeId}{x:Nat}(h1:lo<=x)(h2:x<hi){w:Bool}{cs:List Value}(hx:h.f x= .row w e cs):(aa.iJ h lo hi e).f x= .row false e cs:=by
 unfold aa.iJ;simp only;rw[if_pos ⟨h1,h2⟩,hx];simp[xT]
def pW(h:aa){lo hi:Nat}{e:TypeId}{x:Nat}(hx:∀w cs,h.f x≠.row w e cs):(aa.iJ h lo hi e).f x=h.f x:=by
 unfold aa.iJ;simp only;split
 .cases q:h.f x with
  |row w e' cs=>
   have:¬e'=e:=λz=>hx w cs (by rw[<-z];exact q);simp[xT,this]
  |_=>simp[xT]
 .rfl
def q8(h:aa)(lo hi:Nat)(e:TypeId):Wk h (aa.iJ h lo hi e):=by
 refine⟨rfl,rfl,λx=>?_⟩;cases q:h.f x with
 |row w e' cs=>
  by_cases r:lo<=x/\x<hi
  .by_cases z:e'=e
   .subst z;rw[uB h r.1 r.2 q];cases w with
    |false=>exact .inl rfl
    |true=>exact .inr ⟨_,_,rfl,rfl⟩
   .rw[pW h (λw' cs' a=>by rw[q]at a;cases a;exact z rfl),q];exact .inl rfl
  .rw[sB h (by omega),q];exact .inl rfl
 |_=>rw[pW h (λw' cs' a=>by rw[q]at a;cases a),q];exact .inl rfl
def jO(h G:aa)(v:Value)(d:List Int):Prop:=aL 3 ab G v d∨cO 3 ab h G v d
def jO.ext{h G G':aa}{v:Value}{d:List Int}(H:jO h G v d)(E:Ext G G'):jO h G' v d:=by
 rcases H with H|H
 .exact .inl (H.ext E)
 .exact .inr (H.ext E)
def jO.set{h G:aa}{v:Value}{d:List Int}(H:jO h G v d){b:Nat}(hb:∀w cs,G.f b≠.row w 3 cs)(x:aW):jO h (G.set b x) v d:=by
 rcases H with H|⟨ad,rfl,H⟩
 .obtain⟨ad,c,h1,h2,h3⟩:=H;refine .inl ⟨ad,c,h1,h2,?_⟩;rcases h3 with h3|⟨b',off,cells,rest,z1,z2,z3⟩
  .exact .inl h3
  .refine .inr ⟨b',off,cells,rest,z1,?_,z3⟩;rw[lX _ _ (λe=>hb _ _ (by rw[<-e];exact z2))];exact z2
 .refine .inr ⟨ad,rfl,?_⟩;rcases H with H|⟨b',z1,z2,z3⟩
  .exact .inl H
  .refine .inr ⟨b',z1,?_,z3⟩;rw[lX _ _ (λe=>hb _ _ (by rw[<-e];exact z2))];exact z2
def jO.iJ{h G F:aa}{v:Value}{d:List Int}(H:jO h G v d)(E:Ext G F):aL 3 ab (aa.iJ F h.n G.n 3) v d:=by
 rcases H with H|⟨ad,rfl,H⟩
 .exact(H.ext E).wk (q8 F _ _ _)
 .rcases H with⟨rfl,rfl⟩|⟨b',rfl,z2,z3,z4⟩
  .exact⟨none,0,rfl,λ_=>rfl,.inl rfl⟩
  .have hF:F.f b'= .row true 3 (d.flatMap ab):=(by rw[E.f _ z4];exact z2);exact⟨_,d.length,rfl,λz=>(by cases z),.inr ⟨b',0,_,[],rfl,uB F z3 z4 hF,by simp,by simp,cV z4 E.n⟩⟩
def jO.nil{h G:aa}:jO h G (.slice none 0 0) []:=.inl aL.nil
def jh.push{p:cu}(I:jh p)(f:Int):jh (fY p f):=by
 have hk:=yU I.ok f;rw[BJ]at hk ⊢;split
 .rename_i q;rw[if_pos q]at hk;have hkl:p.p.length<p.s.l.length:=by unfold oJ at q;simp at q;exact q.1
  have hn:=I.now;refine⟨hk,I.sm,λD hD=>?_,by simp;omega,I.ll,I.may⟩;simp only[eH,dZ]at hD;rcases hD with hD|rfl
  .exact I.lens D hD
  .refine⟨by rw[nJ];exact hn.1,λd hd=>?_⟩;have hget:∀i,((cK p).getD i []).length<=1048577:=λi=>by
    rw[bu];cases q:(cK p)[i]? with
    |none=>simp
    |some d=>exact hn.2 d (dE q)
   unfold gF at hd;obtain⟨i,_,e⟩:=dO.1 hd;rw[<-e];split
   .split<;>simp
   .split
    .exact eY (C9 _ _ _ _ _) (hget i)
    .exact hget i
 .exact I
def jh.new{v:ai}{l:List aQ}{pins:List (Int×Int)}{s:bS}(h:fW v l pins=some s):jh (fm s):=by
 have M:=AQ h;obtain⟨e,P,hm,ha⟩:=pe h;unfold fy at ha;rw[bQ]at ha;have hsl:s.l=l:=by rw[e]
 have hsv:s.v=v:=by rw[e]
 refine⟨by rw[e];exact sL P,M,λD hD=>?_,by simp[fm],?_,?_⟩
 .simp only[fm,dZ]at hD;subst hD;refine⟨by simp[fm],λd hd=>?_⟩;obtain⟨i,_,ed⟩:=dO.1 hd;rw[<-ed];have hal:(ir s.v s.us (s.l.getD i default)).length<=1048577:=by
   unfold ir;rw[cf];have h1:=List.length_filter_le (λk:Nat=>(cY s.v s.us (s.l.getD i default) k).isSome) (List.range s.v.ag.length);rw[pP]at h1;have h2:=M.aJ.may.len;omega
  split
  .simp
  .rw[Kw];exact eY (List.length_filter_le _ _) hal
 .show s.l.length<=512;rw[hsl];exact of_decide_eq_true ha.1
 .show∀q∈s.l,dK q=true;rw[hsl];intro q hq;exact cz.1 ha.2 q hq
end Go.Proofs.Ybk.K

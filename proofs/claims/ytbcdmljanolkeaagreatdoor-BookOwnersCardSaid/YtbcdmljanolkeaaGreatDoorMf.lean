import Derived.Test.YtbcdmljanolkeaaGreatDoorMe
set_option linter.unusedVariables false
set_option linter.unusedSimpArgs false
set_option linter.unusedSectionVars false
set_option linter.constructorNameAsVariable false
set_option linter.defProp false
set_option maxRecDepth 20000
namespace Go.Proofs.Ybk.K
open Go Go.Am
set_option maxHeartbeats 4000000
open V (au aR ai ao aZ ab bg aK aE cA cG a8 bL)
def oZ(s:bS)(k:Nat):List Int:=match eS s k with
 |some a=>[a]
 |none=>s.pins.foldl (λd q=>fB s d k q.1.toNat q.2) (ir s.v s.us (s.l.getD k default))
def PI(s:bS):fm s=⟨s,[(List.range s.l.length).map (oZ s)],[]⟩:=rfl
structure nU(h G:aa)(bl:Nat)(us:List cZ)(s:bS)(m k:Nat):Prop where
 row:G.f bl= .row true 22 (us.map cm)
 n0:h.n<=bl
 n1:bl<G.n
 len:us.length=m
 gC:∀(i:Nat)x,us[i]? =some x->i≠k->jO h G (cm x) (if i<k then oZ s i else[])
def nU.put{h G G2:aa}{bl:Nat}{us:List cZ}{s:bS}{m k:Nat}(L:nU h G bl us s m k)(E:Ext G G2)(x':cZ):
  nU h (G2.set bl (.row true 22 ((us.set k x').map cm))) bl (us.set k x') s m k:=by
 have hr2:G2.f bl= .row true 22 (us.map cm):=by rw[E.f _ L.n1];exact L.row
 refine⟨by simp,L.n0,cV L.n1 E.n,by simp[L.len],λi x hx hi=>?_⟩;rw[List.getElem?_set_ne (λe=>hi e.symm)]at hx;exact((L.gC i x hx hi).ext E).set (λw cs e=>by rw[hr2]at e;cases e) _
def nU.next{h G:aa}{bl:Nat}{us:List cZ}{s:bS}{m k:Nat}(L:nU h G bl us s m k){x':cZ}(hx:us[k]? =some x')(hd:jO h G (cm x') (oZ s k))(hz:∀x,us[k+1]? =some x->x=(none,0,0)):nU h G bl us s m (k+1)/\True:=by
 refine⟨⟨L.row,L.n0,L.n1,L.len,λi x hxi hi=>?_⟩,trivial⟩;by_cases q:i=k
 .subst q;rw[hx]at hxi;cases hxi;rw[if_pos (by omega)];exact hd
 .have:=L.gC i x hxi q;by_cases z:i<k
  .rw[if_pos z]at this;rw[if_pos (by omega)];exact this
  .rw[if_neg z]at this;rw[if_neg (by omega)];exact this
def TJ(h:aa)(cs:List Value)(s:bS)(bl:Nat)(lv:Value)(m n:Nat)(σ:St):Prop:=∃(k:Nat)(us:List cZ),n=m-k/\k<=m/\Ext h σ.m.h/\nU h σ.m.h bl us s m k/\(∀x,us[k]? =some x->x=(none,0,0))/\(∀i x,k<i->us[i]? =some x->x=(none,0,0))/\
 σ.t.get 1=some lv/\σ.t.get 8=some (.pointer (some ⟨8,0,some 0⟩))/\σ.t.get 10=some (.slice (some ⟨bl,0,none⟩) m m)/\σ.t.get 29=some (.int .i64 (m:Nat))/\σ.t.get 30=some (.int .i64 (k:Nat))/\σ.m.x.look 8=some (242,cs)
def Za(l:List (Int×Int))(i j:Nat){q:Int×Int}(h:l[j]? =some q):(fh l i).find? (λe=>e.born==i+j)=some ⟨.int .i64 q.1,.int .i64 q.2,i+j⟩:=by
 induction l generalizing i j with
 |nil=>simp at h
 |cons a r ih=>
  cases j with
  |zero=>
   simp only[List.getElem?_cons_zero,av]at h;subst h;simp[fh]
  |succ j=>
   have:=ih (i+1) j (by simpa using h);rw[show i+1+j=i+(j+1) by omega]at this;rw[fh,List.find?_cons];simp only[show(i==i+(j+1))=false from by simp];exact this
def TK(h:aa)(cs:List Value)(s:bS)(bl it mb:Nat)(lv:Value)(m k n:Nat)(σ:St):Prop:=∃(seen:Array Nat)(us:List cZ)(x':cZ),n=yn s.pins.length seen/\Ext h σ.m.h/\nU h σ.m.h bl us s m k/\(∀i x,k<i->us[i]? =some x->x=(none,0,0))/\us[k]? =some x'/\aL 3 ab σ.m.h (cm x') (lT s k seen)/\
 h.n<=it/\it<σ.m.h.n/\σ.m.h.f it= .obj (.mapIter (some mb) s.pins.length seen s.pins.length)/\
 σ.t.get 1=some lv/\σ.t.get 8=some (.pointer (some ⟨8,0,some 0⟩))/\σ.t.get 10=some (.slice (some ⟨bl,0,none⟩) m m)/\σ.t.get 11=some (.int .i64 (k:Nat))/\σ.t.get 29=some (.int .i64 (m:Nat))/\σ.t.get 30=some (.int .i64 (k:Nat))/\σ.t.get 58=some (.pointer (some ⟨it,0,none⟩))/\σ.m.x.look 8=some (242,cs)
def WN{C:List Value}(hC:sa C)(x y n1 n2:Value):List.take 9 (C++x::List.drop 9 (C++[n1,n2]))++y::List.drop 10 (C++x::List.drop 9 (C++[n1,n2]))=C++[x,y]:=by
 obtain⟨a1,m1,c1,g,r,a2,m2,c2,a3,m3,c3,a4,m4,c4,a5,m5,c5,mb,rfl⟩:=hC;rfl
def tU(h:aa)(r:Option bS)(v:Value)(h':aa):Prop:=Ext h h'/\match r with
 |none=>v= .tuple #[.pointer none,.int .i64 1]
 |some s=>∃b b1 b2 cs c1 c2 ws r1 r2,v= .tuple #[.pointer (some ⟨b,0,none⟩),.int .i64 0]/\gP h' b b1 b2 (fm s) cs c1 c2 ws r1 r2/\h.n<=b/\h.n<=b1/\h.n<=b2
def CK(h:aa)(s:bS)(v:Value)(h':aa):Prop:=∃(G0:aa)(us:List cZ)(bl:Nat)(cs:List Value),Ext h G0/\nU h G0 bl us s s.l.length s.l.length/\jY G0 s cs/\v= .tuple #[.pointer (some ⟨G0.n+1+1,0,none⟩),.int .i64 0]/\
 h'=(((G0.new (.row true 329 (fR (some ⟨bl,0,none⟩,s.l.length,s.l.length)))).new (.row true 3 [])).new (.row true 334 (cs++[.slice (some ⟨G0.n,0,none⟩) 1 1,.slice (some ⟨G0.n+1,0,none⟩) 0 0])))
def jY.wk{h h':aa}{s:bS}{cs:List Value}(H:jY h s cs)(W:Wk h h'):jY h' s cs:=by
 obtain⟨hc,lv,mb,rfl,h1,h2,h3,h4⟩:=H;refine⟨hc,lv,mb,rfl,h1.wk W,h2.wk W,?_,by rw[W.n];exact h4⟩;rcases W.f mb with e|⟨e,c,q,_⟩
 .rw[e];exact h3
 .rw[h3]at q;cases q
def acp{h h':aa}{s:bS}{v:Value}(Q:CK h s v h'):∃h'',Wk h' h''/\tU h (some s) v h'':=by
 obtain⟨G0,us,bl,cs,E,L,S,hv,hh⟩:=Q;obtain⟨m,hm⟩:=nm s.l.length;rw[<-hm]at L hh;have E2:Ext G0 h':=by rw[hh];exact(((Ext.new G0 _).bI _).bI _)
 have en:=E.n;have hn':h'.n=G0.n+1+1+1:=by rw[hh];rfl
 obtain⟨F,hF⟩:=nm (aa.iJ (aa.iJ h' h.n G0.n 3) h.n G0.n 22);have W:Wk h' F:=by rw[hF];exact(q8 h' _ _ _).trans (q8 _ _ _ _)
 have hout:∀x,(x<h.n∨G0.n<=x)->F.f x=h'.f x:=λx hx=>by
  rw[hF,sB _ (by omega),sB _ (by omega)]
 have l0:=L.n0;have l1:=L.n1;have hbl:F.f bl= .row false 22 (us.map cm):=by
  rw[hF];have:h'.f bl= .row true 22 (us.map cm):=by rw[E2.f _ l1];exact L.row
  refine uB _ l0 l1 (w:=true) ?_;rw[pW h' (λw cs' e=>by rw[this]at e;cases e)];exact this
 have hE:Ext h F:=⟨W.g.trans (E2.g.trans E.g),by rw[W.n,hn'];omega,λx hx=>by rw[hout x (.inl hx),E2.f _ (by omega),E.f _ hx]⟩;have hlv:mj F (some ⟨bl,0,none⟩,m,m) ((List.range m).map (oZ s)):=by
  refine⟨us,⟨some ⟨bl,0,none⟩,m,?_,λz=>(by cases z),.inr ⟨bl,0,_,[],rfl,hbl,by rw[A8];simp,by simp,by rw[W.n,hn'];omega⟩⟩,by simp[L.len],λi x d hx hd=>?_⟩
  .simp only[cm];rw[L.len]
  .have hil:i<m:=by
    have:=(cP.1 hx).1;rw[L.len]at this;exact this
   rw[fx,List.getElem?_range hil]at hd
   simp only[fV,av]at hd
   have:=L.gC i x hx (by omega)
   rw[if_pos hil,hd]at this
   rw[hF]
   exact(this.iJ E2).wk (q8 _ _ _ _)
 have g1:h'.f G0.n= .row true 329 (fR (some ⟨bl,0,none⟩,m,m)):=by rw[hh];simp[show¬G0.n=G0.n+1+1 by omega]
 have g2:h'.f (G0.n+1)= .row true 3 []:=by rw[hh];simp
 have g0:h'.f (G0.n+1+1)= .row true 334 (cs++[.slice (some ⟨G0.n,0,none⟩) 1 1,.slice (some ⟨G0.n+1,0,none⟩) 0 0]):=by rw[hh];simp
 refine⟨F,W,hE,G0.n+1+1,G0.n,G0.n+1,cs,1,0,[(some ⟨bl,0,none⟩,m,m)],[],[],hv,⟨?_,?_,?_,?_,aX _,aX _,by rw[W.n,hn'];omega,by rw[W.n,hn'];omega,by rw[W.n,hn'];omega,rfl,λi w D hw hD=>?_⟩,by omega,by omega,by omega⟩
 .rw[hout _ (by omega),g0];rfl
 .exact(S.ext E2).wk W
 .rw[hout _ (by omega),g1];rfl
 .rw[hout _ (by omega),g2];rfl
 .rw[PI]at hD;simp only at hD;cases i with
  |zero=>
   simp only[List.getElem?_cons_zero,av]at hw hD;subst hw;subst hD;rw[<-hm];exact hlv
  |succ i=>simp at hw
def aco(v:ai)(l:List aQ)(pins:List (Int×Int))(cs:List Value)(lv pv:Value)(h:aa)(H:lA h v l pins cs lv pv):
  al PP 206 [.agg ⟨cs⟩,lv,pv] h (tU h (fW v l pins)):=by
 refine al.jM (post:=λr h'=>match fW v l pins with
  |none=>tU h none r h'
  |some s=>CK h s r h') ?_ (λr h' Q=>by
  cases q:fW v l pins with
  |none=>rw[q]at Q;exact⟨h',Wk.refl _,Q⟩
  |some s=>rw[q]at Q;exact acp Q)
 refine aC Tryz.func206 af9 ?_;simp only[aA,Tryz.f206];have hin:=H.AR;have hcl:=H.dv.len;have hct:cs.take 5=cs:=b9 (by omega);have hls:=H.ls;have hll:=H.ll;obtain⟨ad2,c2,rfl⟩:=H.ls.shape;obtain⟨ad3,c3,rfl⟩:=H.ps.shape;simp -implicitDefEqProofs[hcl,hct];refine hin.mono ?_;rintro r G ⟨E,C,hC,rfl,hS⟩;have hCl:=hC.len;have hCo:=hC.one;have hCt:C.take 8=C:=b9 (by omega);cases q:fW v l pins with
 |none=>
  simp -implicitDefEqProofs[af,hCl,hCo];intro _;exact⟨E,rfl⟩
 |some s=>
  have hset:=hS s q;obtain⟨es,P,hmv,hal⟩:=pe q;have hsl:s.l=l:=by rw[es]
  have M:=AQ q;have I:=jh.new q;obtain⟨m,hm⟩:=nm l.length;have hz:=xc (.slice none 0 0) m;have hmx:m*24<=140737488355328:=by have:=I.ll;simp only[fm]at this;rw[hsl]at this;omega
  have h00:¬(m:Int)<0:=by omega
  have hu0:List.replicate m (Value.slice none 0 0)=(List.replicate m ((none,0,0):cZ)).map cm:=by simp[cm]
  rw[<-hm];simp -implicitDefEqProofs[af,hCl,hCo,hCt,oF,dH,hz,hmx,h00];intro _;rw[hu0];have hbn:=E.n;obtain⟨bl,hbl⟩:=nm G.n;have hsn:s.l.length=m:=by rw[hsl,hm]
  obtain⟨lvp,mb,_,_,hH,hdr6,hdr7,hP,hmb,hmbn⟩:=hset.parts;have hdr7':C.drop 7=[.map (some mb)]:=hdr7;obtain⟨hc,hhc⟩:∃x,x=C.take 6:=⟨_,rfl⟩;rw[<-hhc]at hH;have hhc':=hhc.symm;rw[<-hbl];refine bG (TJ G C s bl (.slice ad2 m c2) m) _ ⟨0,List.replicate m (none,0,0),rfl,by omega,Ext.new G _,⟨by simp[hbl],by omega,by simp[hbl],by simp,λi x hx hi=>?_⟩,λx hx=>?_,λi x _ hx=>?_,by simp⟩ ?_
  .rw[List.getElem?_replicate]at hx;split at hx
   .cases hx;exact jO.nil
   .cases hx
  .rw[List.getElem?_replicate]at hx;split at hx
   .cases hx;rfl
   .cases hx
  .rw[List.getElem?_replicate]at hx;split at hx
   .cases hx;rfl
   .cases hx
  rintro n ⟨T,⟨x,G1⟩⟩ ⟨k,us,rfl,hk,E1,L,hz0,hz1,g1,g8,g10,g29,g30,x8⟩;simp at E1 L g1 g8 g10 g29 g30 x8;simp -implicitDefEqProofs[g1,g8,g10,g29,g30,x8];refine bR (λhc2=>?_) (λhc2=>?_)
  .have hkm:k<m:=(by omega);have hlook:(pV 3 3 (.int .i64 (k:Int)) (fh s.pins 0).toArray true).aU PP=some (.tuple #[.int .i64 ((eS s k).getD 0),.bool (eS s k).isSome]):=by
    rw[Aw,Bz,Option.isSome_map]
   have hmb1:G1.f mb= .obj (.map (fh s.pins 0).toArray s.pins.length):=(by rw[E1.f _ hmbn];exact hmb);have w1:=bO (i:=k) (by omega);have hr1:List.range 1=[0]:=rfl;obtain⟨U,hU⟩:=nm (us.map cm);have hrow:=L.row;rw[<-hU]at hrow;have hul:=L.len;have hUl:k+1<=U.length:=(by rw[hU,cf];omega);have hblG:¬bl=G1.n:=(by have:=L.n1;omega);cases hpin:eS s k with
   |some a=>
    rw[hpin]at hlook;simp only[iH,Option.isSome_some]at hlook;have hts:=mO cm us k (some ⟨G1.n,0,none⟩,1,1) (by omega);rw[<-hU]at hts;simp only[cm]at hts;have hdn:oZ s k=[a]:=(by unfold oZ;rw[hpin]);simp -implicitDefEqProofs[g1,g8,g10,g29,g30,x8,hCl,hdr7',hmb1,hlook,aM,hr1,hkm,hblG,hrow,hUl,w1];rw[hts];have L2:=L.put (Ext.new G1 (.row true 3 [.int .i64 a])) (some ⟨G1.n,0,none⟩,1,1);have hx':(us.set k ((some ⟨G1.n,0,none⟩,1,1):cZ))[k]? =some (some ⟨G1.n,0,none⟩,1,1):=List.getElem?_set_self (by omega);have hz2:∀i x,k<i->(us.set k ((some ⟨G1.n,0,none⟩,1,1):cZ))[i]? =some x->x=(none,0,0):=λi x hi hx=>hz1 i x hi (by rw[List.getElem?_set_ne (by omega)]at hx;exact hx);have hen:jO G ((G1.new (.row true 3 [.int .i64 a])).set bl (.row true 22 ((us.set k (some ⟨G1.n,0,none⟩,1,1)).map cm))) (cm (some ⟨G1.n,0,none⟩,1,1)) (oZ s k):=by
     rw[hdn];refine .inr ⟨_,rfl,.inr ⟨G1.n,rfl,?_,E1.n,by simp⟩⟩;rw[lX _ _ (λe=>hblG e.symm)];simp[ab]
    exact⟨m-(k+1),by omega,k+1,us.set k (some ⟨G1.n,0,none⟩,1,1),rfl,by omega,(E1.bI _).dp L.n0 _,(L2.next hx' hen (λx hx=>hz2 _ x (by omega) hx)).1,λx hx=>hz2 _ x (by omega) hx,λi x hi hx=>hz2 i x (by omega) hx,by simp⟩
   |none=>
    rw[hpin]at hlook;simp only[Option.getD_none,Option.isSome_none]at hlook;have hdn:oZ s k=s.pins.foldl (λd q=>fB s d k q.1.toNat q.2) (ir s.v s.us (s.l.getD k default)):=(by unfold oZ;rw[hpin]);have hti:l[k]? =some l[k]:=aq (by omega);obtain⟨X,hX⟩:=nm l[k];rw[<-hX]at hti;have hgX:s.l.getD k default=X:=(by rw[hsl,bu,hti];rfl);rw[<-hm]at hls;obtain⟨_,bp,op,cp,rp,rfl,hbp,hdp,hlp,hbpn⟩:=hls.at 2 ko hti;have hbp1:G1.f bp= .row false 29 cp:=(by rw[E1.f _ (cV hbpn E.n),E.f _ hbpn];exact hbp);have hkX:(cp.drop (op+k*2)).take 2=[.int .i64 X.size,.int .i64 X.cS]:=(by rw[hdp];rfl);have aJ:=aad s.v s.us M.aJ hc X G1 (hH.ext E1);simp only[du,ah]at aJ;simp -implicitDefEqProofs[g1,g8,g10,g29,g30,x8,hCl,hdr7',hmb1,hlook,hkm,hhc',hbp1,hkX,hlp];refine aJ.mono ?_;rintro r G2 ⟨E2,hr⟩;obtain⟨ax,cx,rfl⟩:=hr.shape;obtain⟨A,hA⟩:=nm (ir s.v s.us X);rw[<-hA]at hr ⊢;have hrow2:G2.f bl= .row true 22 U:=(by rw[E2.f _ L.n1];exact hrow);have hts:=mO cm us k (ax,A.length,cx) (by omega);rw[<-hU]at hts;simp only[cm]at hts;have hmb2:G2.f mb= .obj (.map (fh s.pins 0).toArray s.pins.length):=(by rw[E2.f _ (cV hmbn E1.n)];exact hmb1);have hmbl:¬mb=bl:=λe=>(by rw[e,hrow2]at hmb2;cases hmb2);simp -implicitDefEqProofs[aF,g1,g8,g10,g29,g30,x8,hCl,hdr7',hmb2,hmbl,hkm,hrow2,hUl,nM,s7];intro _;have hts2:List.take k U++Value.slice ax A.length cx::List.drop (k+1) U=(us.set k (ax,A.length,cx)).map cm:=hts;rw[hts2];have L2:=L.put E2 (ax,A.length,cx);have E3:Ext G (G2.set bl (.row true 22 ((us.set k (ax,A.length,cx)).map cm))):=(E1.trans E2).dp L.n0 _;have C3:=jC G2 bl (.row true 22 ((us.set k (ax,A.length,cx)).map cm));have hz2:∀i x,k<i->(us.set k ((ax,A.length,cx):cZ))[i]? =some x->x=(none,0,0):=λi x hi hx=>hz1 i x hi (by rw[List.getElem?_set_ne (by omega)]at hx;exact hx);have hx':(us.set k ((ax,A.length,cx):cZ))[k]? =some (ax,A.length,cx):=List.getElem?_set_self (by omega);have hS2:aL 3 ab (G2.set bl (.row true 22 ((us.set k (ax,A.length,cx)).map cm))) (cm (ax,A.length,cx)) (lT s k #[]):=by
     rw[Yw,hgX,<-hA];exact hr.er C3 (nQ hrow2)
    obtain⟨G3,hG3⟩:=nm (G2.set bl (.row true 22 ((us.set k (ax,A.length,cx)).map cm)));have hn3:G3.n=G2.n:=(by rw[hG3];rfl);rw[<-hG3]at L2 E3 hS2 ⊢;rw[<-hn3];obtain⟨us2,hus2⟩:=nm (us.set k ((ax,A.length,cx):cZ));rw[<-hus2]at L2 hz2 hx';have LN:∀{G4:aa},Ext G3 G4->nU G G4 bl us2 s m k:=fun{G4} E4=>⟨by rw[E4.f _ L2.n1];exact L2.row,L2.n0,cV L2.n1 E4.n,L2.len,λi x hx hi=>(L2.gC i x hx hi).ext E4⟩;obtain⟨it,hit⟩:=nm G3.n;have hit0:G.n<=it:=(by rw[hit];exact E3.n);have hbit:¬bl=it:=(by have:=L2.n1;omega);have hmit:¬mb=it:=(by have:=hmbn;omega);rw[<-hit];refine bG (TK G C s bl it mb (.slice (some ⟨bp,op,none⟩) m c2) m k) _ ⟨#[],us2,(ax,A.length,cx),rfl,E3.bI _,LN (Ext.new G3 _),hz2,hx',hS2.ext (Ext.new G3 _),hit0,by rw[hit];exact Nat.lt_succ_self _,by simp[hit]⟩ ?_;rintro n ⟨T,⟨x,G5⟩⟩ ⟨seen,us5,x5,rfl,E5,L5,hz5,hx5,hS5,_,it1,hitf,g1,g8,g10,g11,g29,g30,g58,x8⟩;simp at E5 L5 hS5 it1 hitf g1 g8 g10 g11 g29 g30 g58 x8;have hmb5:G5.f mb= .obj (.map (fh s.pins 0).toArray s.pins.length):=(by rw[E5.f _ hmbn];exact hmb);simp -implicitDefEqProofs[g1,g8,g10,g11,g29,g30,g58,x8,hitf,hmb5,PO,pk,yF];refine⟨λe he=>?_,λhall2=>?_,λe he hne=>?_⟩
    .obtain⟨j,q,hj,rfl⟩:=Kd _ _ e he;have:=(cP.1 hj).1;simpa using this
    .have hd:lT s k seen=oZ s k:=by
      rw[hdn];refine Yv s k seen λi hi=>?_;have:=hall2 _ (Zb s.pins 0 i (aq hi));simpa using this
     rw[hd]at hS5
     rw[w1]
     exact⟨m-(k+1),by omega,k+1,us5,rfl,by omega,E5,(L5.next hx5 (.inl hS5) (λx hx=>hz5 _ x (by omega) hx)).1,λx hx=>hz5 _ x (by omega) hx,λi x hi hx=>hz5 i x (by omega) hx,by simp⟩
    .obtain⟨j,q,hj,rfl⟩:=Kd _ _ e he;rw[iG]at hne ⊢;simp only at hne;have hfind:=Za s.pins 0 j hj;rw[iG]at hfind;have hjl:=(cP.1 hj).1;have hpl:s.pins=pins:=(by rw[es]);have hqm:q∈pins:=(by rw[<-hpl];exact dE hj);obtain⟨qa,qf⟩:=q;obtain⟨e1,e2,e3⟩:=P.each _ hqm;simp only at e1 e2 e3;obtain⟨jn,rfl⟩:∃jn:Nat,qa=jn:=⟨qa.toNat,by omega⟩;have hsv:s.v=v:=(by rw[es]);have hsu:s.us=bK v:=(by rw[es]);simp only[gR]at e3;have hsit:=rM e3;have hk1:k<s.l.length:=(by omega);have hj1:jn<s.l.length:=(by omega);have sz1:=I.size (k:=k) hk1;have wX:=I.size (k:=jn) hj1;simp only[PI]at sz1 wX;have KS:Kp G5 (G5.set it (.obj (.mapIter (some mb) s.pins.length (seen.push j) s.pins.length))):=(Kp.refl G5).set (λe cs z=>by rw[hitf]at z;cases z) _;have E6:Ext G (G5.set it (.obj (.mapIter (some mb) s.pins.length (seen.push j) s.pins.length))):=E5.dp hit0 _;have L6:nU G (G5.set it (.obj (.mapIter (some mb) s.pins.length (seen.push j) s.pins.length))) bl us5 s m k:=
      ⟨by rw[lX _ _ hbit];exact L5.row,L5.n0,L5.n1,L5.len,λi x hx hi=>(L5.gC i x hx hi).set (λw cs z=>by rw[hitf]at z;cases z) _⟩
     have hap:=Da s M C (cm x5) (lT s k seen) (by
      have h1:=List.length_filter_le (λf=>(List.range s.pins.length).all λi=> !seen.contains i || uj s k i f) (ir s.v s.us (s.l.getD k default));have h2:=List.length_filter_le (λk':Nat=>(cY s.v s.us (s.l.getD k default) k').isSome) (List.range s.v.ag.length);have h3:=M.aJ.may.len;unfold lT;unfold ir at h1;rw[cf]at h1;rw[pP]at h2;unfold ir;omega) k jn qf hk1 hj1 (by omega) (by omega) (λf hf=>by
       unfold lT at hf;have hf:=(gS.1 hf).1;unfold ir at hf;obtain⟨k',hk',rfl⟩:=dO.1 hf;have:=rM (gS.1 hk').2;exact⟨this.2.2.2.1,this.2.2.2.2⟩) (by rw[hsl,hsv];exact⟨hsit.2.2.2.1,hsit.2.2.2.2⟩) _ (hset.ext E6) (hS5.kp KS)
     have hrow6:(G5.set it (.obj (.mapIter (some mb) s.pins.length (seen.push j) s.pins.length))).f bl= .row true 22 (us5.map cm):=L6.row;have hmb6:(G5.set it (.obj (.mapIter (some mb) s.pins.length (seen.push j) s.pins.length))).f mb= .obj (.map (fh s.pins 0).toArray s.pins.length):=(by rw[lX _ _ hmit];exact hmb5);obtain⟨G6,hG6⟩:=nm (G5.set it (.obj (.mapIter (some mb) s.pins.length (seen.push j) s.pins.length)));have hit6:G6.f it= .obj (.mapIter (some mb) s.pins.length (seen.push j) s.pins.length):=(by rw[hG6];simp);have hit61:it<G6.n:=(by rw[hG6];exact it1);rw[<-hG6]at E6 L6 hap hrow6 hmb6 ⊢;have hul5:=L5.len;have hUd:(us5.map cm).drop k=cm x5::(us5.drop (k+1)).map cm:=by
      obtain⟨hlt,ex⟩:=cP.1 hx5;rw[<-List.map_drop,gQ hlt,fg,ex]
     obtain⟨U5,hU5⟩:=nm (us5.map cm);have hU5l:k+1<=U5.length:=(by rw[hU5,cf];omega);rw[<-hU5]at hrow6 hUd;simp only[cm]at hap hUd;simp -implicitDefEqProofs[sS,hit6,hmb6,hfind,g1,g8,g10,g11,g29,g30,g58,x8,hCl,hCt,hkm,hrow6,hU5l,hUd];refine hap.mono ?_;rintro r G7 ⟨E7,hr7⟩;obtain⟨ay,cy,rfl⟩:=hr7.shape;have hd7:=Yx s k seen hj;simp only[gR]at hd7;rw[<-hd7]at hr7 ⊢;obtain⟨B,hB⟩:=nm (lT s k (seen.push j));rw[<-hB]at hr7 ⊢;have hrow7:G7.f bl= .row true 22 U5:=(by rw[E7.f _ L6.n1];exact hrow6);have hts7:=mO cm us5 k (ay,B.length,cy) (by omega);rw[<-hU5]at hts7;simp only[cm]at hts7;simp -implicitDefEqProofs[aF,g1,g8,g10,g11,g29,g30,g58,x8,hkm,hrow7,hU5l];intro _;have hts8:List.take k U5++Value.slice ay B.length cy::List.drop (k+1) U5=(us5.set k (ay,B.length,cy)).map cm:=hts7;rw[hts8];have hnc:seen.contains j=false:=(by simpa using hne);refine⟨_,abd s.pins.length seen hjl hnc,seen.push j,us5.set k (ay,B.length,cy),(ay,B.length,cy),rfl,(E6.trans E7).dp L5.n0 _,L6.put E7 _,λi x hi hx=>hz5 i x hi (by rw[List.getElem?_set_ne (by omega)]at hx;exact hx),List.getElem?_set_self (by omega),?_,hit0,cV hit61 E7.n,?_,by simp⟩
     .rw[<-hB];exact hr7.er (jC G7 bl _) (nQ hrow7)
     .simp only;rw[lX _ _ (λe=>hbit e.symm),E7.f _ hit61];exact hit6
  .have e:k=m:=(by omega);subst e;have hr1:List.range 1=[0]:=rfl;simp -implicitDefEqProofs[g1,g8,g10,g29,g30,x8,hCl,hCt,hCo,aM,hr1];rw[WN hC];refine⟨G1,us,bl,C,E.trans E1,?_,hset.ext E1,rfl,by rw[hsn];rfl⟩;rw[hsn];exact⟨L.row,by have:=L.n0;omega,L.n1,L.len,λi x hx hi=>by
    rcases L.gC i x hx hi with z|⟨ad,z1,z2⟩
    .exact .inl z
    .refine .inr ⟨ad,z1,?_⟩;rcases z2 with z2|⟨b',y1,y2,y3,y4⟩
     .exact .inl z2
     .exact .inr ⟨b',y1,y2,by omega,y4⟩⟩
abbrev mW:=cZ×Nat
def gK(x:mW):List Value:=[.slice x.1.1 x.1.2.1 x.1.2.2,.int .i64 (x.2:Nat)]
def Q7(x:mW):(gK x).length=2:=rfl
def YZ:lN 288 337 2 32 gK:=⟨JZ,RW,⟨_,SC,rfl⟩,Dp,Ip,by decide,by decide,Q7,λ_=>rfl⟩
def eV{α:Type}(e:TypeId)(enc:α->List Value)(h0 h:aa)(o:Option Nat)(xs:List α)(v:Value):Prop:=match o with
 |none=>v= .slice none 0 0/\xs=[]
 |some b=>(∃c r,v= .slice (some ⟨b,0,none⟩) xs.length c/\h.f b= .row true e (xs.flatMap enc++r))/\h0.n<=b/\b<h.n
section
variable {α:Type} {t e sz by_:Nat} {enc:α->List Value} {h0 h h':aa} {o:Option Nat} {xs:List α} {v:Value}
def eV.lt(H:eV e enc h0 h o xs v):∀b,o=some b->h0.n<=b/\b<h.n:=by
 rintro b rfl;exact H.2
def eV.row(H:eV e enc h0 h o xs v):∀b,o=some b->∃cs,h.f b= .row true e cs:=by
 rintro b rfl;obtain⟨⟨c,r,_,q⟩,_⟩:=H;exact⟨_,q⟩
def eV.keep(H:eV e enc h0 h o xs v)(hs:∀b,o=some b->h'.f b=h.f b)(hn:h.n<=h'.n):eV e enc h0 h' o xs v:=by
 cases o with
 |none=>exact H
 |some b=>
  obtain⟨⟨c,r,z,q⟩,n0,n1⟩:=H;exact⟨⟨c,r,z,by rw[hs b rfl];exact q⟩,n0,cV n1 hn⟩
def eV.ext(H:eV e enc h0 h o xs v)(E:Ext h h'):eV e enc h0 h' o xs v:=H.keep (λb hb=>E.f b (H.lt b hb).2) E.n
def eV.shape(H:eV e enc h0 h o xs v):∃ad c,v= .slice ad xs.length c:=by
 cases o with
 |none=>obtain⟨rfl,rfl⟩:=H;exact⟨_,_,rfl⟩
 |some b=>obtain⟨⟨c,r,rfl,_⟩,_⟩:=H;exact⟨_,_,rfl⟩
def vA(E:lN t e sz by_ enc)(W:eV e enc h0 h o xs v)(a:α)(hl:(xs.length+1)*by_<=140737488355328)(T:Fr)(x:b8)(s y:Nat)(hs:Fr.get T s=some v)(hy:Fr.get T y=some (.slice (some ⟨h.n,0,none⟩) 1 1)):
  dC PP ⟨T,⟨x,h.new (.row true e (enc a))⟩⟩ t t (.tmp s) (.tmp y)=some (.slice (some ⟨h.n+1,0,none⟩) (xs.length+1) (xs.length+1),⟨T,⟨x,bY (h.new (.row true e (enc a))) o (.row true e (xs.flatMap enc++enc a))⟩⟩):=by
 cases o with
 |none=>
  obtain⟨rfl,rfl⟩:=W;exact iV E (Ow.nil (h0:=h) (h:=h)) a hl T x s y hs hy
 |some b=>
  obtain⟨⟨c,r,rfl,q⟩,n0,n1⟩:=W;have hne:¬b=h.n:=by omega
  have:=sg (G:=h.new (.row true e (enc a))) E (xs:=xs) (b1:=b) (c:=c) (r:=r) (by simp[hne,q]) a (b:=h.n) (w:=true) (by simp) hl T x s y hs hy;rw[this];rfl
def eV.one(W:eV e enc h0 h o xs v)(hn:h0.n<=h.n)(c:aW)(a:α){cells:List Value}(hc:cells=xs.flatMap enc++enc a):eV e enc h0 (bY (h.new c) o (.row true e cells)) (some (h.n+1)) (xs++[a]) (.slice (some ⟨h.n+1,0,none⟩) (xs.length+1) (xs.length+1)):=by
 refine⟨⟨xs.length+1,[],by simp,?_⟩,by omega,by rw[cW,eu];omega⟩;rw[hc];have:=mr (h.new c) o (.row true e (xs.flatMap enc++enc a));rw[eu]at this;rw[this];simp
end
def sb(h:aa)(xs:List mW)(st:List (List Int×Nat)):Prop:=xs.length=st.length/\∀(i:Nat)x y,xs[i]? =some x->st[i]? =some y->x.2=y.2/\aL 3 ab h (cm x.1) y.1
def sb.kp{h h':aa}{xs:List mW}{st:List (List Int×Nat)}(H:sb h xs st)(K:Kp h h'):sb h' xs st:=⟨H.1,λi x y a b=>⟨(H.2 i x y a b).1,(H.2 i x y a b).2.kp K⟩⟩
def jb(b:Nat)(lv pv tv sv:Value)(H:dA):List Value:=[.pointer (some ⟨b,0,none⟩),lv,.int .i64 0,pv,.int .i64 H.nodes,tv,.int .i64 H.cI,.int .i64 H.fuel,sv]
structure iD(h0 h:aa)(a:Nat)(H:dA)(b b1 b2:Nat)(cs:List Value)(c1 c2:Nat)(ws:List cZ)(r1 r2:List Value)(lv pv tv sv:Value)(ot os:Option Nat)(xs:List mW):Prop where
 row:h.f a= .row true 290 (jb b lv pv tv sv H)
 a0:h0.n<=a
 a1:a<h.n
 g0:h0.n<=b
 g1:h0.n<=b1
 g2:h0.n<=b2
 ext:Ext h0 h
 prop:gP h b b1 b2 H.p cs c1 c2 ws r1 r2
 l:aL 29 ah h lv H.l
 aY:aL 3 ab h pv H.aY
 tree:eV 4 eJ h0 h ot H.tree tv
 iB:eV 337 gK h0 h os xs.reverse sv
 gC:sb h xs H.stack
structure tQ(h0 h:aa)(a:Nat)(H:dA)(b b1 b2:Nat)(cs:List Value)(c1 c2:Nat)(ws:List cZ)(r1 r2:List Value)(lv pv tv sv:Value)(ot os:Option Nat)(xs:List mW):Prop where
 row:∃C0,h.f a= .row true 290 C0
 a0:h0.n<=a
 a1:a<h.n
 g0:h0.n<=b
 g1:h0.n<=b1
 g2:h0.n<=b2
 ext:Ext h0 h
 prop:gP h b b1 b2 H.p cs c1 c2 ws r1 r2
 l:aL 29 ah h lv H.l
 aY:aL 3 ab h pv H.aY
 tree:eV 4 eJ h0 h ot H.tree tv
 iB:eV 337 gK h0 h os xs.reverse sv
 gC:sb h xs H.stack
def tR(h0 h:aa)(a:Nat)(H:dA):Prop:=∃b b1 b2 cs c1 c2 ws r1 r2 lv pv tv sv ot os xs,iD h0 h a H b b1 b2 cs c1 c2 ws r1 r2 lv pv tv sv ot os xs
structure gr(H:dA):Prop where
 prop:jh H.p
 ll:H.l.length=H.p.s.l.length
 oE:0<=H.nodes/\H.nodes<=H.fuel
 fuel:H.fuel<=1073741824
 tree:(H.tree.length:Int)<=H.nodes
 stack:(H.stack.length:Int)<=H.nodes
 rows:∀y∈H.stack,y.2<=y.1.length/\y.1.length<=1048578
 pl:H.aY.length<=512
section
variable {h0 h h':aa} {a:Nat} {H:dA} {b b1 b2:Nat} {cs:List Value} {c1 c2:Nat} {ws:List cZ} {r1 r2:List Value} {lv pv tv sv:Value} {ot os:Option Nat} {xs:List mW}
def iD.exts(X:iD h0 h a H b b1 b2 cs c1 c2 ws r1 r2 lv pv tv sv ot os xs)(E:Ext h h'):iD h0 h' a H b b1 b2 cs c1 c2 ws r1 r2 lv pv tv sv ot os xs:=
 ⟨by rw[E.f _ X.a1];exact X.row,X.a0,cV X.a1 E.n,X.g0,X.g1,X.g2,X.ext.trans E,X.prop.ext E,X.l.ext E,X.aY.ext E,X.tree.ext E,X.iB.ext E,X.gC.kp E.kp⟩
def gP.rows(P:gP h b b1 b2 H.p cs c1 c2 ws r1 r2):gZ [b,b1,b2] h:=by
 intro x hx;simp only[cJ,List.not_mem_nil,or_false]at hx;rcases hx with rfl|rfl|rfl
 .exact⟨_,_,P.hb⟩
 .exact⟨_,_,P.bD⟩
 .exact⟨_,_,P.bN⟩
def Kh{h0 h h':aa}{S:List Nat}(E:Ext h0 h)(C:cX S h h')(hs:∀b∈S,h0.n<=b):Ext h0 h':=
 ⟨C.g.trans E.g,eY E.n C.n,λx hx=>by
  have en:=E.n;rw[C.f x (by omega) (λz=>by have:=hs x z;omega),E.f x hx]⟩
def iD.wJ(X:iD h0 h a H b b1 b2 cs c1 c2 ws r1 r2 lv pv tv sv ot os xs){p':cu}(Q:tV h b b1 b2 p' cs h'):∃b1' b2' c1' c2' ws' r1' r2',iD h0 h' a {H with p:=p'} b b1' b2' cs c1' c2' ws' r1' r2' lv pv tv sv ot os xs:=by
 obtain⟨C,b1',b2',c1',c2',ws',r1',r2',P,n1,n2⟩:=Q;have RS:=X.prop.rows;have hrow:=X.row;have ha:a∉[b,b1,b2]:=λz=>by
  simp only[cJ,List.not_mem_nil,or_false]at z;rcases z with rfl|rfl|rfl
  .have:=X.prop.hb;rw[hrow]at this;cases this
  .have:=X.prop.bD;rw[hrow]at this;cases this
  .have:=X.prop.bN;rw[hrow]at this;cases this
 have ht:∀x,ot=some x->x∉[b,b1,b2]:=λx hx z=>by
  obtain⟨c,q⟩:=X.tree.row x hx;simp only[cJ,List.not_mem_nil,or_false]at z;rcases z with rfl|rfl|rfl
  .have:=X.prop.hb;rw[q]at this;cases this
  .have:=X.prop.bD;rw[q]at this;cases this
  .have:=X.prop.bN;rw[q]at this;cases this
 have hs:∀x,os=some x->x∉[b,b1,b2]:=λx hx z=>by
  obtain⟨c,q⟩:=X.iB.row x hx;simp only[cJ,List.not_mem_nil,or_false]at z;rcases z with rfl|rfl|rfl
  .have:=X.prop.hb;rw[q]at this;cases this
  .have:=X.prop.bD;rw[q]at this;cases this
  .have:=X.prop.bN;rw[q]at this;cases this
 have hn:=X.ext.n;have E':Ext h0 h':=Kh X.ext C (λx z=>by
  simp only[cJ,List.not_mem_nil,or_false]at z;rcases z with rfl|rfl|rfl
  .exact X.g0
  .exact X.g1
  .exact X.g2)
 refine⟨b1',b2',c1',c2',ws',r1',r2',⟨by rw[C.f _ X.a1 ha];exact hrow,X.a0,cV X.a1 C.n,X.g0,?_,?_,E',P,X.l.kp (C.kp RS),X.aY.kp (C.kp RS),X.tree.keep (λx hx=>C.f x (X.tree.lt x hx).2 (ht x hx)) C.n,X.iB.keep (λx hx=>C.f x (X.iB.lt x hx).2 (hs x hx)) C.n,X.gC.kp (C.kp RS)⟩⟩
 .rcases n1 with rfl|n1
  .exact X.g1
  .omega
 .rcases n2 with rfl|n2
  .exact X.g2
  .omega
def iD.bd(X:iD h0 h a H b b1 b2 cs c1 c2 ws r1 r2 lv pv tv sv ot os xs):tQ h0 h a H b b1 b2 cs c1 c2 ws r1 r2 lv pv tv sv ot os xs:=
 ⟨⟨_,X.row⟩,X.a0,X.a1,X.g0,X.g1,X.g2,X.ext,X.prop,X.l,X.aY,X.tree,X.iB,X.gC⟩
def tQ.put(X:tQ h0 h a H b b1 b2 cs c1 c2 ws r1 r2 lv pv tv sv ot os xs){H':dA}{pv':Value}(hp:H'.p=H.p)(hl:H'.l=H.l)(ht:H'.tree=H.tree)(hs:H'.stack=H.stack)(hpl:aL 3 ab h pv' H'.aY):
  iD h0 (h.set a (.row true 290 (jb b lv pv' tv sv H'))) a H' b b1 b2 cs c1 c2 ws r1 r2 lv pv' tv sv ot os xs:=by
 have C:=jC h a (.row true 290 (jb b lv pv' tv sv H'));obtain⟨C0,hrow⟩:=X.row;have RS:=nQ hrow;have nb:b∉[a]:=λz=>by
  simp only[cJ,List.not_mem_nil,or_false]at z;subst z;have:=X.prop.hb;rw[hrow]at this;cases this
 have nb1:b1∉[a]:=λz=>by
  simp only[cJ,List.not_mem_nil,or_false]at z;subst z;have:=X.prop.bD;rw[hrow]at this;cases this
 have nb2:b2∉[a]:=λz=>by
  simp only[cJ,List.not_mem_nil,or_false]at z;subst z;have:=X.prop.bN;rw[hrow]at this;cases this
 refine⟨by simp,X.a0,X.a1,X.g0,X.g1,X.g2,X.ext.dp X.a0 _,by rw[hp];exact X.prop.er C RS nb nb1 nb2,by rw[hl];exact X.l.er C RS,hpl.er C RS,ht ▸ X.tree.keep (λx hx=>lX _ _ λe=>?_) (aX _),X.iB.keep (λx hx=>lX _ _ λe=>?_) (aX _),by rw[hs];exact X.gC.kp (C.kp RS)⟩
 .obtain⟨c,q⟩:=X.tree.row x hx;rw[e,hrow]at q;cases q
 .obtain⟨c,q⟩:=X.iB.row x hx;rw[e,hrow]at q;cases q
end
def vz{α:Type}{e:TypeId}{enc:α->List Value}{h0 G:aa}{o:Option Nat}{xs:List α}{v:Value}(W:eV e enc h0 G o xs v)(c c':aW):cX o.toList G (bY (G.new c) o c')/\gZ o.toList G:=by
 refine⟨⟨by rw[zU];rfl,by rw[cW,eu];omega,λx hx hs=>?_⟩,λx hx=>?_⟩
 .rw[qS _ _ _ (by rw[eu];omega) (λz=>hs (by simp[z])),qY,if_neg (by omega)]
 .have:o=some x:=by simpa using hx
  obtain⟨cs,q⟩:=W.row x this;exact⟨_,_,q⟩
section
variable {h0 h:aa} {a:Nat} {H:dA} {b b1 b2:Nat} {cs:List Value} {c1 c2:Nat} {ws:List cZ} {r1 r2:List Value} {lv pv tv sv:Value} {ot os:Option Nat} {xs:List mW}
def iD.ug(X:iD h0 h a H b b1 b2 cs c1 c2 ws r1 r2 lv pv tv sv ot os xs){o:Option Nat}{h':aa}(C:cX o.toList h h')(RS:gZ o.toList h){e:TypeId}(ho:∀x,o=some x->(∃cs,h.f x= .row true e cs)/\h0.n<=x)(he:e=4∨e=337):
  h'.f a= .row true 290 (jb b lv pv tv sv H)/\a<h'.n/\Ext h0 h'/\gP h' b b1 b2 H.p cs c1 c2 ws r1 r2/\aL 29 ah h' lv H.l/\aL 3 ab h' pv H.aY/\sb h' xs H.stack/\Kp h h'/\
   (e=337->eV 4 eJ h0 h' ot H.tree tv)/\(e=4->eV 337 gK h0 h' os xs.reverse sv):=by
 have key:∀{y:Nat}{e':TypeId}{c:List Value},h.f y= .row true e' c->e'≠4->e'≠337->y∉o.toList:=fun{y e' c} hy n4 n337 z=>by
  have:o=some y:=by simpa using z
  obtain⟨⟨cs',q⟩,_⟩:=ho y this;rw[hy]at q;simp only[aW.row.injEq,true_and]at q;rcases he with rfl|rfl
  .exact n4 q.1
  .exact n337 q.1
 have na:=key X.row (by decide) (by decide);refine⟨by rw[C.f _ X.a1 na];exact X.row,cV X.a1 C.n,Kh X.ext C (λx z=>(ho x (by simpa using z)).2),X.prop.er C RS (key X.prop.hb (by decide) (by decide)) (key X.prop.bD (by decide) (by decide)) (key X.prop.bN (by decide) (by decide)),X.l.er C RS,X.aY.er C RS,X.gC.kp (C.kp RS),C.kp RS,λz=>?_,λz=>?_⟩
 .subst z;refine X.tree.keep (λx hx=>C.f x (X.tree.lt x hx).2 λw=>?_) C.n;have:o=some x:=by simpa using w
  obtain⟨⟨cs',q⟩,_⟩:=ho x this;obtain⟨cs2,q2⟩:=X.tree.row x hx;rw[q]at q2;cases q2
 .subst z;refine X.iB.keep (λx hx=>C.f x (X.iB.lt x hx).2 λw=>?_) C.n;have:o=some x:=by simpa using w
  obtain⟨⟨cs',q⟩,_⟩:=ho x this;obtain⟨cs2,q2⟩:=X.iB.row x hx;rw[q]at q2;cases q2
def iD.grow(X:iD h0 h a H b b1 b2 cs c1 c2 ws r1 r2 lv pv tv sv ot os xs)(z:Bool):
  iD h0 ((bY (h.new (.row true 4 (eJ z))) ot (.row true 4 (H.tree.flatMap eJ++eJ z))).set a (.row true 290 (jb b lv pv (.slice (some ⟨h.n+1,0,none⟩) (H.tree.length+1) (H.tree.length+1)) sv {H with tree:=H.tree++[z]}))) a {H with tree:=H.tree++[z]} b b1 b2 cs c1 c2 ws r1 r2 lv pv (.slice (some ⟨h.n+1,0,none⟩) (H.tree.length+1) (H.tree.length+1)) sv (some (h.n+1)) os xs:=by
 obtain⟨C,RS⟩:=vz X.tree (.row true 4 (eJ z)) (.row true 4 (H.tree.flatMap eJ++eJ z));obtain⟨y1,y2,y3,y4,y5,y6,y7,_,_,y8⟩:=X.ug C RS (e:=4) (λx hx=>⟨X.tree.row x hx,(X.tree.lt x hx).1⟩) (.inl rfl);have y8:=y8 rfl;have T:=eV.one X.tree X.ext.n (.row true 4 (eJ z)) z (cells:=H.tree.flatMap eJ++eJ z) rfl;obtain⟨F,hF⟩:=nm (bY (h.new (.row true 4 (eJ z))) ot (.row true 4 (H.tree.flatMap eJ++eJ z)));rw[<-hF]at y1 y2 y3 y4 y5 y6 y7 y8 T ⊢;have B:tQ h0 F a {H with tree:=H.tree++[z]} b b1 b2 cs c1 c2 ws r1 r2 lv pv (.slice (some ⟨h.n+1,0,none⟩) (H.tree.length+1) (H.tree.length+1)) sv (some (h.n+1)) os xs:=
  ⟨⟨_,y1⟩,X.a0,y2,X.g0,X.g1,X.g2,y3,y4,y5,y6,T,y8,y7⟩
 exact B.put rfl rfl rfl rfl y6
def iD.push(X:iD h0 h a H b b1 b2 cs c1 c2 ws r1 r2 lv pv tv sv ot os xs)(w:cZ)(l:List Int)(hw:aL 3 ab h (cm w) l):
  iD h0 ((bY (h.new (.row true 337 (gK (w,0)))) os (.row true 337 (xs.reverse.flatMap gK++gK (w,0)))).set a (.row true 290 (jb b lv pv tv (.slice (some ⟨h.n+1,0,none⟩) (xs.length+1) (xs.length+1)) {H with stack:=(l,0)::H.stack}))) a {H with stack:=(l,0)::H.stack} b b1 b2 cs c1 c2 ws r1 r2 lv pv tv (.slice (some ⟨h.n+1,0,none⟩) (xs.length+1) (xs.length+1)) ot (some (h.n+1)) ((w,0)::xs):=by
 obtain⟨C,RS⟩:=vz X.iB (.row true 337 (gK (w,0))) (.row true 337 (xs.reverse.flatMap gK++gK (w,0)));obtain⟨y1,y2,y3,y4,y5,y6,y7,kp,y8,_⟩:=X.ug C RS (e:=337) (λx hx=>⟨X.iB.row x hx,(X.iB.lt x hx).1⟩) (.inr rfl);have y8:=y8 rfl;have T:=eV.one X.iB X.ext.n (.row true 337 (gK (w,0))) (w,0) (cells:=xs.reverse.flatMap gK++gK (w,0)) rfl;rw[List.length_reverse]at T;obtain⟨F,hF⟩:=nm (bY (h.new (.row true 337 (gK (w,0)))) os (.row true 337 (xs.reverse.flatMap gK++gK (w,0))));rw[<-hF]at y1 y2 y3 y4 y5 y6 y7 y8 T kp ⊢;have gC:sb F ((w,0)::xs) ((l,0)::H.stack):=by
  refine⟨by simp[y7.1],λi x y hx hy=>?_⟩;cases i with
  |zero=>
   simp only[List.getElem?_cons_zero,av]at hx hy;subst hx;subst hy;exact⟨rfl,hw.kp kp⟩
  |succ i=>
   simp only[List.getElem?_cons_succ]at hx hy;exact y7.2 i x y hx hy
 have B:tQ h0 F a {H with stack:=(l,0)::H.stack} b b1 b2 cs c1 c2 ws r1 r2 lv pv tv (.slice (some ⟨h.n+1,0,none⟩) (xs.length+1) (xs.length+1)) ot (some (h.n+1)) ((w,0)::xs):=
  ⟨⟨_,y1⟩,X.a0,y2,X.g0,X.g1,X.g2,y3,y4,y5,y6,y8,by rw[List.reverse_cons];exact T,gC⟩
 exact B.put rfl rfl rfl rfl y6
end
def yw(h:dA):cD h=if h.fuel<=h.nodes then(h,false)else
  if h.p.p.length=h.l.length then
   if h.cI<j6 h.p then({h with nodes:=h.nodes+1,aY:=h.p.p,cI:=j6 h.p,p:=fK h.p},true)else({h with nodes:=h.nodes+1,p:=fK h.p},true)
  else if h.cI<j6 h.p then({h with nodes:=h.nodes+1,stack:=(iQ h.p,0)::h.stack,tree:=h.tree++[true]},true)
  else({h with nodes:=h.nodes+1,tree:=h.tree++[false],p:=fK h.p},true):=rfl
def gr.aj6{H:dA}(I:gr H):(iQ H.p).length<=1048578:=by
 have hn:=I.prop.now;have hd:(iY H.p H.p.p.length).length<=1048577:=by
  unfold iY;split
  .rename_i q;rw[bu,aq (show H.p.p.length<(cK H.p).length by omega)];exact hn.2 _ (fG _)
  .simp
 unfold iQ;simp only;split
 .omega
 .rw[bH];simp;omega
def gr.pop{H:dA}(I:gr H):gr {H with p:=fK H.p}:=⟨I.prop.pop,by simp only[qt];exact I.ll,I.oE,I.fuel,I.tree,I.stack,I.rows,I.pl⟩
def gr.look{H:dA}(I:gr H):gr (cD H).1:=by
 have n1:=I.oE;have n2:=I.tree;have n3:=I.stack;rw[yw];split
 .exact I
 .have J:gr {H with nodes:=H.nodes+1}:=⟨I.prop,I.ll,⟨by simp only;omega,by simp only;omega⟩,I.fuel,by simp only;omega,by simp only;omega,I.rows,I.pl⟩;split
  .split
   .exact(gr.pop (H:={H with nodes:=H.nodes+1,aY:=H.p.p,cI:=j6 H.p}) ⟨J.prop,J.ll,J.oE,J.fuel,J.tree,J.stack,J.rows,by have:=I.prop.dep;have:=I.prop.ll;simp only;omega⟩)
   .exact J.pop
  .split
   .refine⟨J.prop,J.ll,J.oE,J.fuel,?_,?_,?_,I.pl⟩
    .simp only[bH,jz];omega
    .simp only[eW];omega
    .intro y hy;simp only[cJ]at hy;rcases hy with rfl|hy
     .exact⟨Nat.zero_le _,I.aj6⟩
     .exact I.rows y hy
   .refine gr.pop (H:={H with nodes:=H.nodes+1,tree:=H.tree++[false]}) ⟨J.prop,J.ll,J.oE,J.fuel,?_,J.stack,J.rows,I.pl⟩;simp only[bH,jz];omega
def Pk(H:dA)(I:gr H)(h0 h:aa)(a:Nat)(X:tR h0 h a H):
  al PP 250 [.pointer (some ⟨a,0,none⟩)] h (λr h'=>r= .bool (cD H).2/\tR h0 h' a (cD H).1):=by
 obtain⟨b,b1,b2,cs,c1,c2,ws,r1,r2,lv,pv,tv,sv,ot,os,xs,X⟩:=X;refine aC Tryz.func250 agE ?_;simp only[aA,Tryz.f250];rw[yw];have hnod:=I.oE;have hfu:=I.fuel;have htr:=I.tree;have hst:=I.stack;have hr1:List.range 1=[0]:=rfl;have hr2:List.range 2=[0,1]:=rfl;obtain⟨adl,cl,elv⟩:=X.l.shape;obtain⟨adp,cp,epv⟩:=X.aY.shape;obtain⟨adt,ct,etv⟩:=X.tree.shape;obtain⟨ads,cst,esv⟩:=X.iB.shape;have hrow:=X.row;rw[List.length_reverse]at esv;subst elv;subst epv;subst etv;subst esv;simp only[jb]at hrow;by_cases q0:H.fuel<=H.nodes
 .rw[if_pos q0];simp -implicitDefEqProofs[hrow,q0];exact⟨b,b1,b2,cs,c1,c2,ws,r1,r2,_,_,_,_,ot,os,xs,X⟩
 .rw[if_neg q0];have w1:IntKind.wrap .i64 (H.nodes+1)=H.nodes+1:=bB (by omega);have X1:=X.bd.put (H':={H with nodes:=H.nodes+1}) rfl rfl rfl rfl X.aY;have J:gr {H with nodes:=H.nodes+1}:=⟨I.prop,I.ll,⟨by simp only;omega,by simp only;omega⟩,I.fuel,by simp only;omega,by simp only;omega,I.rows,I.pl⟩;simp only[jb]at X1;simp -implicitDefEqProofs[hrow,q0,w1];obtain⟨h1,hh1⟩:=nm (h.set a (.row true 290 [.pointer (some ⟨b,0,none⟩),.slice adl H.l.length cl,.int .i64 0,.slice adp H.aY.length cp,.int .i64 (H.nodes+1),.slice adt H.tree.length ct,.int .i64 H.cI,.int .i64 H.fuel,.slice ads xs.length cst]));rw[<-hh1]at X1 ⊢;have hrow1:=X1.row;simp only[jb]at hrow1;have hde:=xI H.p h1 X1.prop;have hmo:=acd H.p I.prop h1 X1.prop;have hpo:=yQ H.p I.prop h1 X1.prop;have hdep:=I.prop.dep;have hll:=I.prop.ll;refine cE hde ?_;by_cases q1:H.p.p.length=H.l.length
  .have q1':(H.p.p.length:Int)=(H.l.length:Int):=(by omega);rw[if_pos q1];simp -implicitDefEqProofs[aF,hrow1,q1,q1'];intro _;refine cE hmo ?_;by_cases q2:H.cI<j6 H.p
   .rw[if_pos q2];have hpl:=ai8 H.p (by omega) h1 X1.prop;simp -implicitDefEqProofs[aF,af,hrow1,q2];intro _;refine hpl.mono ?_;rintro r h2 ⟨E2,hr⟩;obtain⟨ad2,cp2,rfl⟩:=hr.shape;have X2:=X1.exts E2;have hrow2:=X2.row;simp only[jb]at hrow2;have X3:=X2.bd.put (H':={H with nodes:=H.nodes+1,aY:=H.p.p,cI:=j6 H.p}) rfl rfl rfl rfl hr;simp only[jb]at X3;simp -implicitDefEqProofs[aF,af,hrow2];intro _;rw[nB];refine(yQ H.p I.prop _ X3.prop).mono ?_;rintro r h3 ⟨rfl,Q⟩;obtain⟨b1',b2',c1',c2',ws',r1',r2',X4⟩:=X3.wJ Q;simp -implicitDefEqProofs[aF,af];intro _;exact⟨b,b1',b2',cs,c1',c2',ws',r1',r2',_,_,_,_,ot,os,xs,X4⟩
   .rw[if_neg q2];simp -implicitDefEqProofs[aF,af,hrow1,q2];intro _;refine hpo.mono ?_;rintro r h2 ⟨rfl,Q⟩;obtain⟨b1',b2',c1',c2',ws',r1',r2',X2⟩:=X1.wJ Q;simp -implicitDefEqProofs[aF,af];intro _;exact⟨b,b1',b2',cs,c1',c2',ws',r1',r2',_,_,_,_,ot,os,xs,X2⟩
  .have q1':¬(H.p.p.length:Int)=(H.l.length:Int):=(by omega);rw[if_neg q1];simp -implicitDefEqProofs[aF,hrow1,q1,q1'];intro _;refine cE hmo ?_;by_cases q2:H.cI<j6 H.p
   .rw[if_pos q2];have hro:=aj4 H.p I.prop h1 X1.prop;simp -implicitDefEqProofs[aF,af,hrow1,q2];intro _;refine hro.mono ?_;rintro r h2 ⟨E2,hr⟩;obtain⟨ad2,cp2,rfl⟩:=hr.shape;have X2:=X1.exts E2;have hrow2:=X2.row;simp only[jb]at hrow2;have hxl:=X2.gC.1;simp only at hxl;have hA:=vA YZ X2.iB ((ad2,(iQ H.p).length,cp2),0) (by rw[List.length_reverse];omega);rw[List.length_reverse]at hA;have X3:=X2.push (ad2,(iQ H.p).length,cp2) (iQ H.p) hr;obtain⟨W,hW⟩:=nm (xs.reverse.flatMap gK++gK ((ad2,(iQ H.p).length,cp2),0));rw[<-hW]at hA X3;simp only[gK,jb,Int.natCast_zero]at hA X3;have hrA:=(vz X2.iB (.row true 337 (gK ((ad2,(iQ H.p).length,cp2),0))) (.row true 337 W)).1.f a X2.a1 (λz=>by
     have:os=some a:=(by simpa using z);obtain⟨cs',q⟩:=X2.iB.row a this;rw[X2.row]at q;cases q)
    rw[X2.row]at hrA;simp only[gK,jb,Int.natCast_zero]at hrA;have hane:¬a=h2.n:=(by have:=X2.a1;omega);have hA2:=vA J7 X3.tree true (by simp only;omega);have X4:=X3.grow true;simp only at hA2 X4;obtain⟨W2,hW2⟩:=nm (H.tree.flatMap eJ++eJ true);rw[<-hW2]at hA2 X4;simp only[eJ,jb]at hA2 X4;have hrA2:=(vz X3.tree (.row true 4 (eJ true)) (.row true 4 W2)).1.f a X3.a1 (λz=>by
     have:ot=some a:=(by simpa using z);obtain⟨cs',q⟩:=X3.tree.row a this;rw[X3.row]at q;cases q)
    rw[X3.row]at hrA2;simp only[eJ,jb]at hrA2;simp -implicitDefEqProofs[aF,af,hrow2,aM,hr1,hr2,hA,hrA,hane,hA2,hrA2];intro _;exact⟨b,b1,b2,cs,c1,c2,ws,r1,r2,_,_,_,_,_,_,_,X4⟩
   .rw[if_neg q2];have hA:=vA J7 X1.tree false (by simp only;omega);have X3:=X1.grow false;simp only at hA X3;obtain⟨W,hW⟩:=nm (H.tree.flatMap eJ++eJ false);rw[<-hW]at hA X3;simp only[eJ,jb]at hA X3;have hrA:=(vz X1.tree (.row true 4 (eJ false)) (.row true 4 W)).1.f a X1.a1 (λz=>by
     have:ot=some a:=(by simpa using z);obtain⟨cs',q⟩:=X1.tree.row a this;rw[X1.row]at q;cases q)
    rw[X1.row]at hrA;simp only[eJ,jb]at hrA;simp -implicitDefEqProofs[aF,af,hrow1,q2,aM,hr1,hA,hrA];intro _;refine(yQ H.p I.prop _ X3.prop).mono ?_;rintro r h3 ⟨rfl,Q⟩;obtain⟨b1',b2',c1',c2',ws',r1',r2',X4⟩:=X3.wJ Q;simp -implicitDefEqProofs[aF,af];intro _;exact⟨b,b1',b2',cs,c1',c2',ws',r1',r2',_,_,_,_,_,os,xs,X4⟩
def akf(n:Nat)(h:dA):dV n h false=(h,false):=by cases n<;>rfl
def akh(n:Nat)(h:dA)(g:Bool)(hs:h.stack=[]):dV n h g=(h,g):=by
 cases n with
 |zero=>rfl
 |succ n=>
  rw[dV,hs];cases g<;>rfl
def ake{n:Nat}{h:dA}{l:List Int}{at_:Nat}{st:List (List Int×Nat)}(hs:h.stack=(l,at_)::st)(he:at_=l.length):dV (n+1) h true=dV n {h with stack:=st,p:=fK h.p} true:=by
 rw[dV,hs];simp[he]
def akg{n:Nat}{h:dA}{l:List Int}{at_:Nat}{st:List (List Int×Nat)}(hs:h.stack=(l,at_)::st)(he:¬at_=l.length):dV (n+1) h true=dV n (cD {h with stack:=(l,at_+1)::st,p:=fY h.p (l.getD at_ 0)}).1 (cD {h with stack:=(l,at_+1)::st,p:=fY h.p (l.getD at_ 0)}).2:=by
 rw[dV,hs];simp[he]
def qe(h:dA):Nat:=2*(h.fuel-h.nodes).toNat+h.stack.length
def Pr{h:dA}(I:gr h)(g:(cD h).2=true):qe (cD h).1+1<=qe h:=by
 have n1:=I.oE;rw[yw]at g ⊢;unfold qe;split
 .rename_i q;rw[if_pos q]at g;cases g
 .split
  .split<;>(simp only;omega)
  .split
   .simp only[eW];omega
   .simp only;omega
section
variable {h0 h:aa} {a:Nat} {H:dA} {b b1 b2:Nat} {cs:List Value} {c1 c2:Nat} {ws:List cZ} {r1 r2:List Value} {lv pv tv sv:Value} {ot os:Option Nat} {x:mW} {xs:List mW}
def iD.drop(X:iD h0 h a H b b1 b2 cs c1 c2 ws r1 r2 lv pv tv sv ot os (x::xs)){y:List Int×Nat}{st:List (List Int×Nat)}(hs:H.stack=y::st){b5:Nat}(ho:os=some b5)(c:Nat):
  iD h0 (h.set a (.row true 290 (jb b lv pv tv (.slice (some ⟨b5,0,none⟩) xs.length c) {H with stack:=st}))) a {H with stack:=st} b b1 b2 cs c1 c2 ws r1 r2 lv pv tv (.slice (some ⟨b5,0,none⟩) xs.length c) ot os xs:=by
 subst ho;obtain⟨⟨c',r,_,q⟩,n0,n1⟩:=X.iB;have gC:=X.gC;rw[hs]at gC;have B:tQ h0 h a {H with stack:=st} b b1 b2 cs c1 c2 ws r1 r2 lv pv tv (.slice (some ⟨b5,0,none⟩) xs.length c) ot (some b5) xs:=
  ⟨⟨_,X.row⟩,X.a0,X.a1,X.g0,X.g1,X.g2,X.ext,X.prop,X.l,X.aY,X.tree,⟨⟨c,gK x++r,by simp,by rw[q];simp⟩,n0,n1⟩,⟨by simpa using gC.1,λi u v hu hv=>gC.2 (i+1) u v (by simpa using hu) (by simpa using hv)⟩⟩
 exact B.put rfl rfl rfl rfl X.aY
def iD.step(X:iD h0 h a H b b1 b2 cs c1 c2 ws r1 r2 lv pv tv sv ot os (x::xs)){l:List Int}{k:Nat}{st:List (List Int×Nat)}(hs:H.stack=(l,k)::st){b5:Nat}(ho:os=some b5){r:List Value}(hx:x.2=k):
  iD h0 (h.set b5 (.row true 337 (((x.1,k+1)::xs).reverse.flatMap gK++r))) a {H with stack:=(l,k+1)::st} b b1 b2 cs c1 c2 ws r1 r2 lv pv tv sv ot os ((x.1,k+1)::xs):=by
 subst ho;obtain⟨⟨c',r',hv,q⟩,n0,n1⟩:=X.iB;have C:=jC h b5 (.row true 337 (((x.1,k+1)::xs).reverse.flatMap gK++r));have RS:=nQ q;obtain⟨y1,y2,y3,y4,y5,y6,y7,kp,y8,_⟩:=X.ug (o:=some b5) C RS (e:=337) (λz hz=>by cases hz;exact⟨⟨_,q⟩,n0⟩) (.inr rfl);refine⟨y1,X.a0,y2,X.g0,X.g1,X.g2,y3,y4,y5,y6,y8 rfl,⟨⟨c',r,by rw[hv];simp,by simp⟩,n0,n1⟩,⟨?_,λi u v hu hvv=>?_⟩⟩
 .have:=y7.1;rw[hs]at this;simpa using this
 .have e:=y7.2;rw[hs]at e;cases i with
  |zero=>
   simp only[List.getElem?_cons_zero,av]at hu hvv;subst hu;subst hvv;exact⟨rfl,(e 0 x (l,k) rfl rfl).2⟩
  |succ i=>exact e (i+1) u v (by simpa using hu) (by simpa using hvv)
end
def gr.drop{H:dA}(I:gr H){y:List Int×Nat}{st:List (List Int×Nat)}(hs:H.stack=y::st):gr {H with stack:=st}:=by
 have n3:=I.stack;rw[hs]at n3;simp only[eW]at n3;exact⟨I.prop,I.ll,I.oE,I.fuel,I.tree,by simp only;omega,λz hz=>I.rows z (by rw[hs];exact eI _ hz),I.pl⟩
def gr.step{H:dA}(I:gr H){l:List Int}{k:Nat}{st:List (List Int×Nat)}(hs:H.stack=(l,k)::st)(hk:¬k=l.length):gr {H with stack:=(l,k+1)::st}:=by
 have n3:=I.stack;rw[hs]at n3;have hr:=I.rows (l,k) (by rw[hs];exact dU);simp only at hr;refine⟨I.prop,I.ll,I.oE,I.fuel,I.tree,by simpa using n3,λz hz=>?_,I.pl⟩;simp only[cJ]at hz;rcases hz with rfl|hz
 .exact⟨by simp only;omega,hr.2⟩
 .exact I.rows z (by rw[hs];exact eI _ hz)
def gr.push{H:dA}(I:gr H)(f:Int):gr {H with p:=fY H.p f}:=⟨I.prop.push f,by simp only[yV];exact I.ll,I.oE,I.fuel,I.tree,I.stack,I.rows,I.pl⟩
def TN(h0:aa)(a:Nat)(R:dA×Bool)(n:Nat)(σ:St):Prop:=∃(H:dA)(g:Bool),tR h0 σ.m.h a H/\gr H/\dV n H g=R/\(g=true->qe H<=n)/\σ.t.get 0=some (.pointer (some ⟨a,0,none⟩))/\σ.t.get 3=some (.bool g)
def aki(steps:Nat)(H:dA)(I:gr H)(hn:qe H<=steps)(h0 h:aa)(a:Nat)(X:tR h0 h a H):
  al PP 208 [.pointer (some ⟨a,0,none⟩)] h (λr h'=>r= .bool (dV steps (cD H).1 (cD H).2).2/\tR h0 h' a (dV steps (cD H).1 (cD H).2).1/\gr (dV steps (cD H).1 (cD H).2).1):=by
 refine aC Tryz.func208 agb ?_;simp only[aA,Tryz.f208];have hlo:=Pk H I h0 h a X;have Il:=I.look;have hmu:=λg=>Pr I g;obtain⟨R,hR⟩:=nm (dV steps (cD H).1 (cD H).2);rw[<-hR];simp -implicitDefEqProofs;refine hlo.mono ?_;rintro r h1 ⟨rfl,X1⟩;simp -implicitDefEqProofs[af];intro _;refine bG (TN h0 a R) steps ⟨(cD H).1,(cD H).2,X1,Il,hR.symm,λg=>by have:=hmu g;omega,by simp⟩ ?_;rintro n ⟨T,⟨x,G⟩⟩ ⟨H,g,⟨b,b1,b2,cs,c1,c2,ws,r1,r2,lv,pv,tv,sv,ot,os,xs,X⟩,I,hR,hmu,g0,g3⟩;simp at X g0 g3;cases g with
 |false=>
  rw[akf]at hR;subst hR;simp -implicitDefEqProofs[g0,g3];exact⟨⟨b,b1,b2,cs,c1,c2,ws,r1,r2,_,_,_,_,_,_,_,X⟩,I⟩
 |true=>
  have hrow:=X.row;obtain⟨ads,cst,esv⟩:=X.iB.shape;rw[List.length_reverse]at esv;have hel:=X.gC.1;cases hst:H.stack with
  |nil=>
   rw[akh n H true hst]at hR;subst hR;rw[hst]at hel;have hx0:xs.length=0:=hel;rw[hx0]at esv;subst esv;simp only[jb]at hrow;simp -implicitDefEqProofs[g0,g3,hrow];exact⟨⟨b,b1,b2,cs,c1,c2,ws,r1,r2,_,_,_,_,_,_,_,X⟩,I⟩
  |cons y st=>
   obtain⟨l,k⟩:=y;rw[hst]at hel;cases xs with
   |nil=>simp at hel
   |cons x0 xs=>
    obtain⟨n',rfl⟩:∃n',n=n'+1:=⟨n-1,by have:=hmu rfl;unfold qe at this;rw[hst,eW]at this;omega⟩;have hmu:=hmu rfl;have hmx:2*(H.fuel-H.nodes).toNat+st.length<=n':=(by unfold qe at hmu;rw[hst,eW]at hmu;omega);have hnod:=I.oE;have hfu:=I.fuel;have hstk:=I.stack;rw[hst,eW]at hstk;have hrl:=I.rows (l,k) (by rw[hst];exact dU);simp only at hrl;have hxe:=X.gC.2;rw[hst]at hxe;obtain⟨ek,hSl⟩:=hxe 0 x0 (l,k) rfl rfl;simp only at ek hSl;obtain⟨⟨adx,nx,cx⟩,kx⟩:=x0;simp only at ek hSl;subst ek;obtain⟨adx',cx',exl⟩:=hSl.shape;simp only[cm,Value.slice.injEq]at exl;obtain⟨_,rfl,_⟩:=exl;obtain⟨K,hK⟩:=nm xs.length;have hKl:(((adx,l.length,cx),kx)::xs).length=K+1:=(by rw[hK];rfl);rw[hKl]at esv;cases hos:os with
    |none=>
     have hx:=X.iB;rw[hos]at hx;exact absurd hx.2 (by simp)
    |some b5=>
     have hstk5:=X.iB;rw[hos]at hstk5;obtain⟨⟨c5,r5,hv5,hrow5⟩,_,hb5n⟩:=hstk5;rw[esv]at hv5;simp only[Value.slice.injEq]at hv5;obtain⟨rfl,_,rfl⟩:=hv5;subst esv;have hba:¬b5=a:=λe=>(by rw[e,hrow]at hrow5;cases hrow5);have hab:¬a=b5:=λe=>hba e.symm;obtain⟨P,hP⟩:=nm (xs.reverse.flatMap gK);have hPl:P.length=K*2:=(by rw[hP,fr 2 Q7,List.length_reverse,hK]);have hcells:((((adx,l.length,cx),kx)::xs:List mW).reverse.flatMap gK++r5)=P++(.slice adx l.length cx:: .int .i64 (kx:Nat)::r5):=by
      rw[List.reverse_cons,List.flatMap_append,<-hP,eG];rfl
     rw[hcells]at hrow5;obtain⟨R5,hR5⟩:=nm (P++(.slice adx l.length cx:: .int .i64 (kx:Nat)::r5));rw[<-hR5]at hrow5;have hd0:R5.drop (K*2)= .slice adx l.length cx:: .int .i64 (kx:Nat)::r5:=(by rw[hR5,<-hPl,List.drop_left]);have hd1:R5.drop (K*2+1)= .int .i64 (kx:Nat)::r5:=(by rw[<-eh,hd0];rfl);have hRl:K*2+2<=R5.length:=(by rw[hR5,bH,hPl];simp);have hRl1:K*2+1<=R5.length:=(by omega);have hRl2:K*2+1+1<=R5.length:=(by omega);have hKs:K=st.length:=(by rw[hK];simpa using hel);have wK:IntKind.wrap .i64 ((K:Int))=(K:Nat):=(by rw[bB (by omega)]);have hKlt:(K:Int)<K+1:=(by omega);have hK0:(0:Int)<(K:Int)+1:=(by omega);simp only[jb]at hrow;by_cases q:kx=l.length
     .have q':(kx:Int)=(l.length:Int):=(by omega);rw[ake hst q]at hR;have X2:=X.drop hst hos K;rw[<-hK]at X2;have I2:=I.drop hst;have hpo:=yQ H.p I.prop _ X2.prop;simp -implicitDefEqProofs[g0,g3,hrow,hrow5,wK,hKlt,hK0,hd0,hd1,hRl,hRl1,hRl2,q,q'];refine hpo.mono ?_;rintro r h2 ⟨rfl,Q⟩;obtain⟨b1',b2',c1',c2',ws',r1',r2',X4⟩:=X2.wJ Q;simp -implicitDefEqProofs[af,g0,g3];intro _;exact⟨n',by omega,{H with stack:=st,p:=fK H.p},true,⟨b,b1',b2',cs,c1',c2',ws',r1',r2',_,_,_,_,_,_,_,X4⟩,I2.pop,hR,λ_=>hmx,by simp⟩
     .have q':¬(kx:Int)=(l.length:Int):=(by omega);rw[akg hst q]at hR;have wk:=bO (i:=kx) (by omega);have wk2:IntKind.wrap .i64 ((kx:Int))=(kx:Nat):=(by rw[bB (by omega)]);have hkl:kx<l.length:=(by omega);have hkl':(kx:Int)<(l.length:Int):=(by omega);have hlt:l[kx]? =some l[kx]:=aq hkl;obtain⟨f,hf⟩:=nm l[kx];rw[<-hf]at hlt;have hgf:l.getD kx 0=f:=(by rw[bu,hlt];rfl);rw[hgf]at hR;simp only[cm]at hSl;obtain⟨_,bl,ol,cl,rl,rfl,hbl,hdl,hlcl,_⟩:=hSl.at 1 V.dY hlt;rw[Nat.mul_one]at hdl hlcl;have hbl5:¬bl=b5:=λe=>(by rw[e,hrow5]at hbl;cases hbl);obtain⟨R6,hR6⟩:=nm (P++(.slice (some ⟨bl,ol,none⟩) l.length cx:: .int .i64 ((kx+1:Nat):Int)::r5));have hcells2:((((some ⟨bl,ol,none⟩,l.length,cx),kx+1)::xs:List mW).reverse.flatMap gK++r5)=R6:=by
       rw[hR6,List.reverse_cons,List.flatMap_append,<-hP,eG];rfl
      have hst6:List.take (K*2+1) R5++Value.int .i64 ((kx:Int)+1)::List.drop (K*2+1+1) R5=R6:=by
       have e1:R5=(P++[.slice (some ⟨bl,ol,none⟩) l.length cx])++(.int .i64 (kx:Nat)::r5):=(by rw[hR5];simp);have e2:R5=(P++[.slice (some ⟨bl,ol,none⟩) l.length cx,.int .i64 (kx:Nat)])++r5:=(by rw[hR5];simp);have t1:List.take (K*2+1) R5=P++[.slice (some ⟨bl,ol,none⟩) l.length cx]:=(by rw[e1,List.take_left' (by simp[hPl])]);have t2:List.drop (K*2+1+1) R5=r5:=(by rw[e2,List.drop_left' (by simp[hPl])]);rw[t1,t2,hR6];simp
      have hd6:R6.drop (K*2)= .slice (some ⟨bl,ol,none⟩) l.length cx:: .int .i64 ((kx+1:Nat):Int)::r5:=(by rw[hR6,<-hPl,List.drop_left]);have hd61:R6.drop (K*2+1)= .int .i64 ((kx+1:Nat):Int)::r5:=(by rw[<-eh,hd6];rfl);have hR6l:R6.length=R5.length:=(by rw[hR6,hR5];simp);have X2:=X.step hst hos (r:=r5) rfl;rw[hcells2]at X2;have I2:=I.step hst q;have hpu:=ajk H.p I.prop f _ X2.prop;simp only[Int.natCast_add,Int.cast_ofNat_Int]at hd6 hd61;simp -implicitDefEqProofs[g0,g3,hrow,hrow5,wK,hKlt,hK0,hd0,hd1,hRl,hRl1,hRl2,q,q',wk,wk2,hab,hba,hst6,hd6,hd61,hR6l,hbl,hdl,hlcl,hkl,hkl',hbl5,ab];refine hpu.mono ?_;rintro r h2 ⟨⟨v,rfl⟩,Q⟩;obtain⟨b1',b2',c1',c2',ws',r1',r2',X3⟩:=X2.wJ Q;have I3:=I2.push f;have hlo:=Pk _ I3 h0 h2 a ⟨b,b1',b2',cs,c1',c2',ws',r1',r2',_,_,_,_,_,_,_,X3⟩;have I4:=I3.look;have hm4:=λg=>Pr I3 g;obtain⟨L,hL⟩:=nm (cD {H with stack:=(l,kx+1)::st,p:=fY H.p f});rw[<-hL]at hR;simp only[<-hL]at hlo I4 hm4;simp -implicitDefEqProofs[aF,af,g0,g3];intro _;refine hlo.mono ?_;rintro r h3 ⟨rfl,X4⟩;simp -implicitDefEqProofs[aF,af,g0,g3];intro _;refine⟨n',by omega,L.1,L.2,X4,I4,hR,λg=>?_,by simp⟩;have:=hm4 g;have hmu3:qe {H with stack:=(l,kx+1)::st,p:=fY H.p f}=2*(H.fuel-H.nodes).toNat+(st.length+1):=rfl;omega
def jS(s:bS)(l:List aQ)(least:List Int)(fuel:Int):dA:=⟨fm s,l,least,0,[],ff l least,fuel,[]⟩
def Wd(steps:Nat)(v:ai)(l:List aQ)(pins:List (Int×Int))(fuel:Int):mZ steps v l pins fuel=match fW v l pins with
 |none=>none
 |some s=>if fuel<0∨1073741824<fuel then none else
  some ⟨if !(dV steps (cD (jS s l (dQ l pins) fuel)).1 (cD (jS s l (dQ l pins) fuel)).2).2 then 3 else if jD l (dV steps (cD (jS s l (dQ l pins) fuel)).1 (cD (jS s l (dQ l pins) fuel)).2).1.aY then 1 else 2,(dV steps (cD (jS s l (dQ l pins) fuel)).1 (cD (jS s l (dQ l pins) fuel)).2).1.aY,(dV steps (cD (jS s l (dQ l pins) fuel)).1 (cD (jS s l (dQ l pins) fuel)).2).1.nodes,(dV steps (cD (jS s l (dQ l pins) fuel)).1 (cD (jS s l (dQ l pins) fuel)).2).1.tree⟩:=rfl
def qz(r:qO)(pv tv:Value):List Value:=[.int .i64 r.answer,pv,.int .i64 r.nodes,tv]
def Ta(h:aa)(o:Option qO)(v:Value)(h':aa):Prop:=Ext h h'/\match o with
 |none=>v= .tuple #[.agg ⟨[.int .i64 0,.slice none 0 0,.int .i64 0,.slice none 0 0]⟩,.int .i64 1]
 |some r=>∃pv at_ nt ct,v= .tuple #[.agg ⟨qz r pv (.slice at_ nt ct)⟩,.int .i64 0]/\aL 3 ab h' pv r.aY
def gr.start{v:ai}{l:List aQ}{pins:List (Int×Int)}{s:bS}(h:fW v l pins=some s){fuel:Int}(h0:0<=fuel)(h1:fuel<=1073741824):gr (jS s l (dQ l pins) fuel):=by
 have I:=jh.new h;obtain⟨e,_⟩:=pe h;have hsl:s.l=l:=by rw[e]
 have hll:=I.ll;refine⟨I,?_,⟨kE 0,h0⟩,h1,kE 0,kE 0,λy hy=>(by cases hy),?_⟩
 .show l.length=s.l.length;rw[hsl]
 .show(dQ l pins).length<=512;rw[A4,<-hsl];exact hll
def Pn(h:dA):(cD h).1.l=h.l:=by
 rw[yw];split
 .rfl
 .split
  .split<;>rfl
  .split<;>rfl
def akl:∀(n:Nat)(h:dA)(g:Bool),(dV n h g).1.l=h.l:=by
 intro n;induction n with
 |zero=>intro h g;rfl
 |succ n ih=>
  intro h g;rw[dV];split
  .split
   .rfl
   .split
    .rw[ih]
    .rw[ih,Pn]
  .rfl
def We(steps:Nat)(v:ai)(l:List aQ)(pins:List (Int×Int))(fuel:Int)(hst:2*fuel.toNat<=steps)(cs:List Value)(lv pv:Value)(h:aa)(H:lA h v l pins cs lv pv):
  al PP 152 [.agg ⟨cs⟩,lv,pv,.int .i64 fuel] h (Ta h (mZ steps v l pins fuel)):=by
 refine aC Tryz.func152 afu ?_;simp only[aA,Tryz.f152];rw[Wd];have hnew:=aco v l pins cs lv pv h H;have hcl:=H.dv.len;have hct:cs.take 5=cs:=b9 (by omega);have hle:=λG(E:Ext h G)=>aa9 v l pins cs lv pv G (H.ext E);have hls:=H.ls;have hll:=H.ll;have hr1:List.range 1=[0]:=rfl;obtain⟨ad2,c2,rfl⟩:=H.ls.shape;obtain⟨ad3,c3,rfl⟩:=H.ps.shape;simp -implicitDefEqProofs[hcl,hct];refine hnew.mono ?_;rintro r h1 ⟨E1,hN⟩;cases q:fW v l pins with
 |none=>
  rw[q]at hN;subst hN;simp -implicitDefEqProofs[af];intro _;exact⟨E1,rfl⟩
 |some s=>
  rw[q]at hN;obtain⟨b,b1,b2,C,d1,d2,ws,r1,r2,rfl,hP,n0,n1,n2⟩:=hN;simp only;by_cases qf:fuel<0
  .rw[if_pos (.inl qf)];simp -implicitDefEqProofs[af,qf];intro _;exact⟨E1,rfl⟩
  .by_cases qf2:1073741824<fuel
   .rw[if_pos (.inr qf2)];simp -implicitDefEqProofs[af,qf,qf2];intro _;exact⟨E1,rfl⟩
   .rw[if_neg (by omega)];simp -implicitDefEqProofs[af,qf,qf2,hcl,hct];intro _;refine(hle h1 E1).mono ?_;rintro r h2 ⟨E2,hr⟩;rw[q]at hr;simp only[Option.isSome_some,if_true]at hr;obtain⟨adp,cp,rfl⟩:=hr.shape;obtain⟨least,hleast⟩:=nm (dQ l pins);have I:=gr.start q (fuel:=fuel) (by omega) (by omega);rw[<-hleast]at hr I ⊢;have hll2:least.length<=1073741824:=(by have:=I.pl;simp only[jS]at this;omega);have hse:=Cb l least (.slice ad2 l.length c2) (.slice adp least.length cp) hll2 hll h2 ((hls.ext E1).ext E2).sl hr.sl;simp -implicitDefEqProofs[af];intro _;refine cE hse ?_;simp -implicitDefEqProofs[af];intro _;have n2E:=E2.n;have n1E:=E1.n;have X:tR h (h2.new (.row true 290 [.pointer (some ⟨b,0,none⟩),.slice ad2 l.length c2,.int .i64 0,.slice adp least.length cp,.int .i64 0,.slice none 0 0,.int .i64 (ff l least),.int .i64 fuel,.slice none 0 0])) h2.n (jS s l least fuel):=
     ⟨b,b1,b2,C,d1,d2,ws,r1,r2,.slice ad2 l.length c2,.slice adp least.length cp,.slice none 0 0,.slice none 0 0,none,none,[],
      ⟨by simp[jb,jS],by omega,by simp,n0,n1,n2,(E1.trans E2).bI _,(hP.ext E2).ext (Ext.new _ _),((hls.ext E1).ext E2).ext (Ext.new _ _),hr.ext (Ext.new _ _),⟨rfl,rfl⟩,⟨rfl,rfl⟩,⟨rfl,λi x y hx _=>by simp at hx⟩⟩⟩
    have hrun:=aki steps (jS s l least fuel) I (by simp[qe,jS];omega) h _ h2.n X;have hlr:(dV steps (cD (jS s l least fuel)).1 (cD (jS s l least fuel)).2).1.l=l:=by
     rw[akl,Pn];rfl
    obtain⟨R,hR⟩:=nm (dV steps (cD (jS s l least fuel)).1 (cD (jS s l least fuel)).2);rw[<-hR]at hrun hlr ⊢;refine hrun.mono ?_;rintro r h4 ⟨rfl,⟨b',b1',b2',cs',c1',c2',ws',r1',r2',lv',pv',tv',sv',ot,os,xs,X4⟩,I4⟩;obtain⟨ad5,c5,rfl⟩:=X4.aY.shape;obtain⟨adt,ct,rfl⟩:=X4.tree.shape;obtain⟨ads,cst,rfl⟩:=X4.iB.shape;obtain⟨adl,cl4,rfl⟩:=X4.l.shape;have hrow4:=X4.row;simp only[jb]at hrow4;have fin:∀(v:Value),Ext h (h4.set h2.n (.row true 290 [.pointer (some ⟨b',0,none⟩),.slice adl R.1.l.length cl4,v,.slice ad5 R.1.aY.length c5,.int .i64 R.1.nodes,.slice adt R.1.tree.length ct,.int .i64 R.1.cI,.int .i64 R.1.fuel,.slice ads xs.reverse.length cst]))/\aL 3 ab (h4.set h2.n (.row true 290 [.pointer (some ⟨b',0,none⟩),.slice adl R.1.l.length cl4,v,.slice ad5 R.1.aY.length c5,.int .i64 R.1.nodes,.slice adt R.1.tree.length ct,.int .i64 R.1.cI,.int .i64 R.1.fuel,.slice ads xs.reverse.length cst])) (.slice ad5 R.1.aY.length c5) R.1.aY:=λv=>
     ⟨X4.ext.dp X4.a0 _,X4.aY.er (jC h4 h2.n _) (nQ X4.row)⟩
    rw[List.length_reverse]at fin hrow4;cases hg:R.2 with
    |false=>
     simp -implicitDefEqProofs[af,hg,hrow4];intro _;exact⟨(fin _).1,_,_,_,_,rfl,(fin _).2⟩
    |true=>
     have hpl:=I4.pl;have hfu:=AG l R.1.aY (.slice ad2 l.length c2) (.slice ad5 R.1.aY.length c5) (by omega) hll h4 (hls.ext X4.ext).sl X4.aY.sl;simp -implicitDefEqProofs[af,hg,hrow4];intro _;refine cE hfu ?_;by_cases qq:jD l R.1.aY=true
     .simp -implicitDefEqProofs[aF,af,qq,hrow4];intro _;exact⟨(fin _).1,_,_,_,_,rfl,(fin _).2⟩
     .simp -implicitDefEqProofs[aF,af,qq,hrow4];intro _;exact⟨(fin _).1,_,_,_,_,rfl,(fin _).2⟩
def SS(h:aa)(o:qO×Int)(v:Value)(h':aa):Prop:=Ext h h'/\∃pv at_ nt ct,v= .tuple #[.agg ⟨qz o.1 pv (.slice at_ nt ct)⟩,.int .i64 o.2]/\aL 3 ab h' pv o.1.aY
def jO.ZL{h h':aa}{v:Value}{d:List Int}(E:Ext h h')(H:jO h h' v d):∃h'',Wk h' h''/\Ext h h''/\aL 3 ab h'' v d:=by
 refine⟨aa.iJ h' h.n h'.n 3,q8 _ _ _ _,⟨E.g,E.n,λx hx=>by rw[sB _ (.inl hx),E.f _ hx]⟩,jO.iJ H (Ext.bJ h')⟩
def CY(steps:Nat)(v:ai)(l:List aQ)(pins:List (Int×Int))(old:List Int)(fuel:Int)(hst:2*fuel.toNat<=steps)(cs:List Value)(lv pv ov:Value)(hpf:∀x∈old,-4611686018427387904<=x/\x<=4611686018427387904)(hol:old.length<=1073741824)(h:aa)(H:lA h v l pins cs lv pv)(ho:a8 h ov old):
  al PP 113 [.agg ⟨cs⟩,lv,pv,ov,.int .i64 fuel] h (SS h (gj steps v l pins old fuel)):=by
 refine al.jM (post:=λr h'=>Ext h h'/\∃qv at_ nt ct,r= .tuple #[.agg ⟨qz (gj steps v l pins old fuel).1 qv (.slice at_ nt ct)⟩,.int .i64 (gj steps v l pins old fuel).2]/\jO h h' qv (gj steps v l pins old fuel).1.aY) ?_ (λr h' ⟨E,qv,a1,a2,a3,e,z⟩=>by
  obtain⟨h'',W,E',S⟩:=z.ZL E;exact⟨h'',W,E',qv,a1,a2,a3,e,S⟩)
 refine aC Tryz.func113 aeS ?_;simp only[aA,Tryz.f113];have hmay:=QJ v l pins old cs lv pv ov hpf h H ho;have hcl:=H.dv.len;have hct:cs.take 5=cs:=b9 (by omega);have hbe:=λG(E:Ext h G)=>We steps v l pins fuel hst cs lv pv G (H.ext E);have hls:=H.ls;have hll:=H.ll;obtain⟨ad2,c2,rfl⟩:=H.ls.shape;obtain⟨ad3,c3,rfl⟩:=H.ps.shape;obtain⟨ad4,c4,rfl⟩:=ho.shape;unfold gj;simp -implicitDefEqProofs[hcl,hct];refine hmay.mono ?_;rintro r h1 ⟨E1,rfl⟩;by_cases qm:ix v l old pins=true
 .simp -implicitDefEqProofs[af,qm,hcl,hct];intro _;refine(hbe h1 E1).mono ?_;rintro r h2 ⟨E2,hB⟩;cases qb:mZ steps v l pins fuel with
  |none=>
   rw[qb]at hB;subst hB;simp -implicitDefEqProofs[af,aF,qm];intro _;exact⟨E1.trans E2,.slice none 0 0,⟨none,0,0,rfl⟩,jO.nil⟩
  |some R=>
   rw[qb]at hB;obtain⟨qv,at_,nt,ct,rfl,hS⟩:=hB;obtain⟨ad5,c5,rfl⟩:=hS.shape;have hRl:=xu qb;have hse1:=Cb l R.aY (.slice ad2 l.length c2) (.slice ad5 R.aY.length c5) (by omega) hll h2 ((hls.ext E1).ext E2).sl hS.sl;have hse2:=Cb l old (.slice ad2 l.length c2) (.slice ad4 old.length c4) hol hll h2 ((hls.ext E1).ext E2).sl (dt.ext (dt.ext ho E1) E2);have hcl2:=Ad (.slice ad4 old.length c4) old hol h2 (dt.ext (dt.ext ho E1) E2);simp only[qz];by_cases q3:R.answer=3
   .simp -implicitDefEqProofs[af,aF,qm,q3];intro _;refine cE hse1 ?_;simp -implicitDefEqProofs[af,aF];intro _;refine cE hse2 ?_;by_cases q4:ff l R.aY<=ff l old
    .simp -implicitDefEqProofs[af,aF,q4];intro _;refine hcl2.mono ?_;rintro r h3 ⟨E3,W⟩;obtain⟨ad6,rfl,hw6⟩:=id W;simp -implicitDefEqProofs[af,aF];intro _;refine⟨(E1.trans E2).trans E3,.inr ?_⟩;have en:=(E1.trans E2).n;refine⟨ad6,rfl,?_⟩;rcases hw6 with z|⟨b',z1,z2,z3,z4⟩
     .exact .inl z
     .exact .inr ⟨b',z1,z2,by omega,z4⟩
    .simp -implicitDefEqProofs[af,aF,q4];intro _;exact⟨E1.trans E2,_,⟨q3.symm,rfl⟩,.inl hS⟩
   .simp -implicitDefEqProofs[af,aF,qm,q3];intro _;exact⟨E1.trans E2,.inl hS⟩
 .have qm':ix v l old pins=false:=by simpa using qm
  simp -implicitDefEqProofs[af,qm'];intro _;exact⟨E1,.slice none 0 0,⟨none,0,0,rfl⟩,jO.nil⟩
def jI(o:aB):Value:=.agg ⟨aP o⟩
abbrev UR:=dt 43 aP
def J9:lN 33 43 6 48 aP:=⟨J0,RY,⟨_,SF,rfl⟩,Dr,It,by decide,by decide,iA,λ_=>rfl⟩
def Ph(o:aB)(h:aa):al PP 40 [jI o] h (λv h'=>h'=h/\v= .bool (bT o)):=by
 refine aC Tryz.func40 ahk ?_;simp only[aA,Tryz.f40];unfold bT;by_cases h1:o.state=1
 .simp -implicitDefEqProofs[jI,aP,h1]
 .by_cases h2:o.state=2
  .simp -implicitDefEqProofs[jI,aP,h1,h2]
  .simp -implicitDefEqProofs[jI,aP,h1,h2]
def Pe(o:aB)(h:aa):al PP 39 [jI o] h (λv h'=>h'=h/\v= .bool (!bT o)):=by
 refine aC Tryz.func39 ahi ?_;simp only[aA,Tryz.f39];simp -implicitDefEqProofs[jI,aP];refine cE (Ph o h) ?_;simp -implicitDefEqProofs[af]
def Uv(s:Value)(l:List aB)(m:Nat)(h:aa)(n:Nat)(σ:St):Prop:=∃i:Nat,n=m-i/\i<=m/\σ.m.h=h/\σ.t.get 0=some s/\σ.t.get 1=some (.func (.func 39) #[] #[])/\σ.t.get 7=some (.int .i64 (m:Nat))/\σ.t.get 8=some (.int .i64 (i:Nat))/\∀j t,j<i->l[j]? =some t->(!bT t)=false
def aay(s:Value)(l:List aB)(hl:l.length<=1073741824)(h:aa)(hs:UR h s l):
  al PP 74 [s,.func (.func 39) #[] #[]] h (λv h'=>h'=h/\v= .int .i64 (V.eL (λp=> !bT p) l)):=by
 refine aC Tryz.func74 ahF ?_;simp only[aA,Tryz.f74];obtain⟨ad,c,rfl⟩:=hs.shape;obtain⟨m,hm⟩:=nm l.length;rw[<-hm]at hs ⊢;simp -implicitDefEqProofs;refine bG (Uv (.slice ad m c) l m h) _ ⟨0,rfl,by omega,rfl,by simp,by simp,by simp,by simp,by omega⟩ ?_;rintro n ⟨T,⟨x,H⟩⟩ ⟨i,rfl,hi,hH,g0,g1,g7,g8,aJ⟩;simp at hH g0 g1 g7 g8;subst hH;simp -implicitDefEqProofs[g0,g1,g7,g8];refine bR (λhc=>?_) (λhc=>?_)
 .have hil:i<m:=by omega
  have hti:l[i]? =some l[i]:=aq (by omega);obtain⟨_,b',o,wb,cs,r,rfl,hb',hd,hlc,_⟩:=hs.at 6 iA hti;obtain⟨u,hu⟩:=nm l[i];rw[<-hu]at hd hti;have w1:=bO (i:=i) (by omega);have hk6:(cs.drop (o+i*6)).take 6=aP u:=by rw[hd];rfl
  simp only[aP]at hk6;simp -implicitDefEqProofs[g0,g1,g7,g8,hil,hb',hk6,hlc];refine cE (Pe u H) ?_;simp -implicitDefEqProofs[af];intro _;by_cases h1:bT u=true
  .simp -implicitDefEqProofs[h1,g0,g1,g7,g8,w1];refine⟨m-(i+1),by omega,i+1,rfl,by omega,rfl,by simp[g0],by simp[g1],by simp[g7],by simp,λj z hj hz=>?_⟩;rcases Nat.lt_or_ge j i with q|q
   .exact aJ j z q hz
   .have:j=i:=(by omega);subst this;rw[hti]at hz;obtain rfl:=bU hz;simp[h1]
  .simp -implicitDefEqProofs[h1,g0,g1,g7,g8];exact(V.xS hti (by simp[h1]) aJ).symm
 .simp -implicitDefEqProofs[g0,g1,g7,g8];exact(V.Ax (λj z hj hz=>aJ j z (by omega) hz)).symm
def Kv{α:Type}{enc:α->List Value}{k:Nat}(hk:∀x,(enc x).length=k)(xs:List α)(i:Nat):(xs.flatMap enc).take (i*k)=(xs.take i).flatMap enc:=by
 induction xs generalizing i with
 |nil=>simp
 |cons a r ih=>
  cases i with
  |zero=>simp
  |succ i=>
   rw[ic,List.take_succ_cons,ic,<-ih i,List.take_append,hk a,b9 (by rw[hk,Nat.succ_mul];omega),Nat.succ_mul,sd]
def ZA{α:Type}{enc:α->List Value}{k:Nat}(hk:∀x,(enc x).length=k)(xs:List α)(i:Nat)(a:α)(hi:i<xs.length):(xs.flatMap enc).take (i*k)++enc a++(xs.flatMap enc).drop (i*k+k)=(xs.set i a).flatMap enc:=by
 have:=q7 k hk xs (i+1);rw[Nat.succ_mul]at this;rw[Kv hk,this,List.set_eq_take_append_cons_drop,if_pos hi,List.flatMap_append,ic,eG]
def xR{α:Type}(p:α->Bool)(l:List α)(j:Nat){t:α}(h:l[j]? =some t):(l.take (j+1)).filter p=(l.take j).filter p++(if p t=true then[t]else[]):=by
 rw[fL,h,Option.toList_some,mo];by_cases q:p t=true
 .simp[q]
 .simp[q]
def aal(G:aa)(b:Nat)(v:aW):(G.set b v).f b=v:=by simp
def zH(h0:aa)(b c:Nat)(xs:List aB)(m n:Nat)(σ:St):Prop:=∃(i j:Nat)(L:List aB),n=m-j/\j<=m/\i<j/\Ext h0 σ.m.h/\b<σ.m.h.n/\σ.m.h.f b= .row true 43 (L.flatMap aP)/\L.length=m/\L.take i=(xs.take j).filter bT/\L.drop j=xs.drop j/\
 σ.t.get 0=some (.slice (some ⟨b,0,none⟩) m c)/\σ.t.get 1=some (.func (.func 39) #[] #[])/\σ.t.get 5=some (.int .i64 (i:Nat))/\σ.t.get 6=some (.int .i64 (j:Nat))
def Yl(h0 h:aa)(E0:Ext h0 h)(o:Option Nat)(xs:List aB)(v:Value)(hl:xs.length<=1073741824)(W:Ow 43 aP h0 h o xs v):
  al PP 38 [v,.func (.func 39) #[] #[]] h (λr h'=>Ext h0 h'/\eV 43 aP h0 h' o (xs.filter bT) r):=by
 refine aC Tryz.func38 ahh ?_;simp only[aA,Tryz.f38];have hin:=aay v xs hl h W.sl;cases o with
 |none=>
  obtain⟨rfl,hx⟩:=W;simp only at hx;subst hx;have hf:V.eL (λp=> !bT p) ([]:List aB)= -1:=rfl;rw[hf]at hin;simp -implicitDefEqProofs;refine cE hin ?_;simp -implicitDefEqProofs[af];intro _;exact⟨E0,rfl,rfl⟩
 |some b=>
  obtain⟨rfl,hrow,hb0,bD⟩:=W;simp -implicitDefEqProofs;refine cE hin ?_;by_cases q:∃t∈xs,bT t=false
  .have hany:xs.any (λp=> !bT p)=true:=by
    obtain⟨t,ht,hz⟩:=q;exact lB.2 ⟨t,ht,by simp[hz]⟩
   have hfi:V.eL (λp=> !bT p) xs=(xs.findIdx (λp=> !bT p):Int):=by unfold V.eL;rw[if_pos hany]
   obtain⟨i0,hi0⟩:=nm (xs.findIdx (λp=> !bT p))
   have hil:i0<xs.length:=by
    rw[hi0,List.findIdx_lt_length];obtain⟨t,ht,hz⟩:=q;exact⟨t,ht,by simp[hz]⟩
   have hbef:∀j,j<i0->∀t,xs[j]? =some t->bT t=true:=λj hj t ht=>by
    have hjx:j<xs.findIdx (λp=> !bT p):=(by rw[<-hi0];exact hj);have:=List.not_of_lt_findIdx hjx;obtain⟨hjl,e⟩:=cP.1 ht;rw[e]at this;simpa using this
   have hat:∀t,xs[i0]? =some t->bT t=false:=λt ht=>by
    obtain⟨hjl,e⟩:=cP.1 ht;have:=List.findIdx_getElem (xs:=xs) (p:=λp=> !bT p) (w:=by rw[<-hi0];exact hil);simp only[<-hi0]at this;rw[e]at this;simpa using this
   rw[hfi,<-hi0]
   have hne:¬(i0:Int)= -1:=by omega
   have w1:=bO (i:=i0) (by omega)
   obtain⟨m,hm⟩:=nm xs.length
   rw[<-hm]
   simp -implicitDefEqProofs[af,hne,w1]
   intro _
   have hft:(xs.take (i0+1)).filter bT=xs.take i0:=by
    have ht:xs[i0]? =some xs[i0]:=aq hil;rw[xR bT xs i0 ht,hat _ ht];simp only[fw,if_false,pO];rw[List.filter_eq_self];intro t ht;obtain⟨j,hj,e⟩:=List.getElem_of_mem ht;rw[dh]at hj;refine hbef j (by omega) t ?_;rw[<-e,List.getElem_take];exact aq (by omega)
   refine bG (zH h0 b m xs m) _ ⟨i0,i0+1,xs,rfl,by omega,by omega,E0,bD,hrow,hm.symm,hft.symm,rfl,by simp⟩ ?_
   clear hft
   rintro n ⟨T,⟨x,G⟩⟩ ⟨i,j,L,rfl,hj,hij,E,hbn,hr,hLl,hLt,hLd,g0,g1,g5,g6⟩
   simp at E hbn hr g0 g1 g5 g6
   simp -implicitDefEqProofs[g0,g1,g5,g6]
   refine bR (λhc=>?_) (λhc=>?_)
   .have hjm:j<m:=by omega
    have w2:=bO (i:=j) (by omega)
    have w3:=bO (i:=i) (by omega)
    have hxj:xs[j]? =some xs[j]:=aq (by omega)
    obtain⟨u,hu⟩:=nm xs[j]
    rw[<-hu]at hxj
    have hLj:L[j]? =some u:=by
     have h1:(L.drop j)[0]? =(xs.drop j)[0]? :=(by rw[hLd]);rw[List.getElem?_drop,List.getElem?_drop,ie]at h1;rw[h1];exact hxj
    obtain⟨cells,hcells⟩:=nm (L.flatMap aP)
    rw[<-hcells]at hr
    have hcl:cells.length=m*6:=by rw[hcells,fr 6 iA,hLl]
    have hd6:(cells.drop (j*6)).take 6=aP u:=by
     obtain⟨hlt,e⟩:=cP.1 hLj;rw[hcells,q7 6 iA,gQ hlt,ic,e];rfl
    have hd6':=hd6
    simp only[aP]at hd6
    have hjl:j*6+6<=cells.length:=by omega
    have hil2:i*6+6<=cells.length:=by omega
    have him:i<m:=by omega
    simp -implicitDefEqProofs[g0,g1,g5,g6,hjm,hr,hd6,hjl]
    refine cE (Pe u G) ?_
    have hfs:=xR bT xs j hxj
    have hdd:L.drop (j+1)=xs.drop (j+1):=by
     have:=congrArg (List.drop 1) hLd;rwa[eh,eh]at this
    by_cases z:bT u=true
    .rw[if_pos z]at hfs
     have hset:=ZA iA L i u (by omega)
     rw[<-hcells]at hset
     simp only[aP,eG,dB,dJ]at hset
     simp -implicitDefEqProofs[af,z,g0,g1,g5,g6,w2,w3,him,hr,hil2]
     intro _
     rw[hset]
     refine⟨m-(j+1),by omega,i+1,j+1,L.set i u,rfl,by omega,by omega,E.dp hb0 _,hbn,by simp,by simp[hLl],?_,?_,by simp⟩
     .rw[hfs,<-hLt,fL,List.getElem?_set_self (by omega)]
      congr 1
      exact List.take_set_of_le (aX _)
     .rw[List.drop_set_of_lt (by omega),hdd]
    .rw[if_neg z,pO]at hfs
     simp -implicitDefEqProofs[af,z,g0,g1,g5,g6,w2]
     intro _
     exact⟨m-(j+1),by omega,i,j+1,L,rfl,by omega,by omega,E,hbn,by rw[hr,hcells],hLl,by rw[hfs];exact hLt,hdd,by simp⟩
   .have e:j=m:=by omega
    subst e
    have hcl:(L.flatMap aP).length=j*6:=by rw[fr 6 iA,hLl]
    have hlt:=Kv iA L i
    rw[hLt,b9 (show xs.length<=j by omega)]at hlt
    have hfl:(xs.filter bT).length=i:=by
     have:=congrArg List.length hLt;rw[dh,b9 (show xs.length<=j by omega)]at this;omega
    obtain⟨cells,hcells⟩:=nm (L.flatMap aP)
    rw[<-hcells]at hr hcl hlt
    have c1:i<=j:=by omega
    have c2:¬j-i=0:=by omega
    have c3:i*6+(j-i)*6<=cells.length:=by omega
    simp -implicitDefEqProofs[g0,g1,g5,g6,hr,c1,c2,c3,pz]
    rw[hlt]
    exact⟨E.dp hb0 _,⟨i,_,by rw[hfl],aal _ _ _⟩,hb0,hbn⟩
  .have aJ:∀t∈xs,bT t=true:=λt ht=>by
    cases z:bT t with
    |true=>rfl
    |false=>exact absurd ⟨t,ht,z⟩ q
   have hfi:V.eL (λp=> !bT p) xs= -1:=by
    unfold V.eL;rw[if_neg];intro z;obtain⟨t,ht,hz⟩:=lB.1 z;rw[aJ t ht]at hz;cases hz
   have hfl:xs.filter bT=xs:=List.filter_eq_self.2 aJ
   rw[hfi,hfl]
   simp -implicitDefEqProofs[af]
   intro _
   exact⟨E0,⟨_,[],rfl,by simpa using hrow⟩,hb0,bD⟩
def iI(b:aI)(vc:List Value)(ov:Value):List Value:=.int .i64 b.fuel:: .bool b.has::(vc++[ov,.int .i64 b.now])
structure bC(h0 h:aa)(a:Nat)(b:aI)(vc:List Value)(ov:Value)(o:Option Nat):Prop where
 row:h.f a= .row true 77 (iI b vc ov)
 a0:h0.n<=a
 a1:a<h.n
 ext:Ext h0 h
 dv:eC h b.v vc
 dR:eV 43 aP h0 h o b.l ov
section
variable {α:Type} {e:TypeId} {enc:α->List Value} {h0 h:aa} {o:Option Nat} {xs:List α} {v:Value}
def eV.sl(W:eV e enc h0 h o xs v):dt e enc h v xs:=by
 cases o with
 |none=>obtain⟨rfl,rfl⟩:=W;exact dt.nil
 |some b=>
  obtain⟨⟨c,r,rfl,q⟩,n0,n1⟩:=W;exact⟨_,_,rfl,λz=>(by cases z),.inr ⟨b,0,true,_,r,rfl,q,rfl,by simp,n1⟩⟩
def eV.dG(W:eV e enc h0 h o xs v)(E:Ext h0 h):∃h',Wk h h'/\Ext h0 h'/\aL e enc h' v xs:=by
 cases o with
 |none=>obtain⟨rfl,rfl⟩:=W;exact⟨h,Wk.refl h,E,aL.nil⟩
 |some b=>
  obtain⟨⟨c,r,rfl,q⟩,n0,n1⟩:=W;exact⟨h.dG b,h.pX b,E.dG n0,⟨_,_,rfl,λz=>(by cases z),.inr ⟨b,0,_,r,rfl,xU q,rfl,by simp,n1⟩⟩⟩
end
section
variable {h0 h h':aa} {a:Nat} {b:aI} {vc:List Value} {ov:Value} {o:Option Nat}
def bC.exts(B:bC h0 h a b vc ov o)(E:Ext h h'):bC h0 h' a b vc ov o:=
 ⟨by rw[E.f _ B.a1];exact B.row,B.a0,cV B.a1 E.n,B.ext.trans E,B.dv.ext E,B.dR.ext E⟩
def bC.cells(B:bC h0 h a b vc ov o):∃a1 n1 c1 g r a2 n2 c2 a3 n3 c3 a4 n4 c4,vc=[.slice a1 n1 c1,.int .i64 g,.int .i64 r,.slice a2 n2 c2,.slice a3 n3 c3]/\ov= .slice a4 n4 c4/\n4=b.l.length/\
  h.f a= .row true 77 [.int .i64 b.fuel,.bool b.has,.slice a1 n1 c1,.int .i64 g,.int .i64 r,.slice a2 n2 c2,.slice a3 n3 c3,.slice a4 n4 c4,.int .i64 b.now]:=by
 obtain⟨a1,n1,c1,g,r,a2,n2,c2,a3,n3,c3,rfl⟩:=B.dv.shape;obtain⟨a4,c4,rfl⟩:=B.dR.shape;exact⟨_,_,_,_,_,_,_,_,_,_,_,_,_,_,rfl,rfl,rfl,B.row⟩
def Qo(hl:b.l.length<=1073741824)(B:bC h0 h a b vc ov o):al PP 14 [.pointer (some ⟨a,0,none⟩)] h (λr h'=>Ext h h'/\cO 43 aP h h' r b.l):=by
 refine aC Tryz.func14 afj ?_;simp only[aA,Tryz.f14];have hc:=Ie ov b.l hl h B.dR.sl;obtain⟨a1,n1,c1,g,r,a2,n2,c2,a3,n3,c3,a4,n4,c4,rfl,rfl,rfl,hrow⟩:=B.cells;simp -implicitDefEqProofs[hrow];refine hc.mono ?_;rintro r G ⟨E,W⟩;have hw:=W;obtain⟨ad,rfl,_⟩:=id W;simp -implicitDefEqProofs[aF];intro _;exact⟨E,hw⟩
def uL(hl:b.l.length<=1073741824)(B:bC h0 h a b vc ov o):al PP 16 [.pointer (some ⟨a,0,none⟩)] h (λr h'=>Ext h h'/\aL 43 aP h' r (bV b)):=by
 refine al.jM (post:=λr h'=>Ext h h'/\∃o',eV 43 aP h h' o' (bV b) r) ?_ (λv h' ⟨E,o',W⟩=>by
  obtain⟨h'',w,E',S⟩:=W.dG E;exact⟨h'',w,E',S⟩)
 refine aC Tryz.func16 afC ?_;simp only[aA,Tryz.f16];have ho:=Qo hl B;simp -implicitDefEqProofs;refine ho.mono ?_;rintro r G ⟨E,W⟩;obtain⟨o1,W⟩:=Ow.iN W;obtain⟨rfl,_⟩:=id W;have hd:=Yl h G E o1 b.l _ hl W;simp -implicitDefEqProofs[aF];intro _;refine hd.mono ?_;rintro r G2 ⟨E2,W2⟩;obtain⟨ad,c,e⟩:=W2.shape;subst e;simp -implicitDefEqProofs[aF];intro _;exact⟨E2,o1,W2⟩
def PT(B:bC h0 h a b vc ov o):al PP 22 [.pointer (some ⟨a,0,none⟩)] h (λr h'=>h'=h/\r= .int .i64 b.now):=by
 refine aC Tryz.func22 ago ?_;simp only[aA,Tryz.f22];obtain⟨a1,n1,c1,g,r,a2,n2,c2,a3,n3,c3,a4,n4,c4,rfl,rfl,rfl,hrow⟩:=B.cells;simp -implicitDefEqProofs[hrow]
end
def rz(fuel:Int)(h0:0<=fuel)(h1:fuel<=1073741824)(h:aa):al PP 12 [.int .i64 fuel] h (λr h'=>∃a vc ov,r= .pointer (some ⟨a,0,none⟩)/\bC h h' a (eP fuel) vc ov none):=by
 refine aC Tryz.func12 P4 ?_;simp only[aA,Tryz.f12];have q1:¬fuel<0:=by omega
 have q2:¬1073741824<fuel:=by omega
 simp -implicitDefEqProofs[q1,q2];exact⟨[.slice none 0 0,.int .i64 0,.int .i64 0,.slice none 0 0,.slice none 0 0],.slice none 0 0,⟨by simp[iI,eP],aX _,by simp,Ext.new _ _,⟨_,_,_,rfl,aL.nil,aL.nil,aL.nil⟩,⟨rfl,rfl⟩⟩⟩
def Ow.ne{α β:Type}{e e':TypeId}{enc:α->List Value}{enc':β->List Value}{h0 h0' h:aa}{o o':Option Nat}{xs:List α}{ys:List β}{v u:Value}(W:Ow e enc h0 h o xs v)(W':Ow e' enc' h0' h o' ys u)(he:e≠e'):∀b,o=some b->o'≠some b:=by
 rintro b rfl z;subst z;have h1:=W.row;rw[W'.row]at h1;simp only[aW.row.injEq,true_and]at h1;exact he h1.1.symm
def ai1(k:Nat)(a b:List aB):cT k (a++b)=cT k a++cT (k+a.length) b:=by
 induction a generalizing k with
 |nil=>simp[cT]
 |cons o r ih=>
  rw[dB,cT,cT];split
  .rw[ih,dB,eW,show k+1+r.length=k+(r.length+1) by omega]
  .rw[ih,eW,show k+1+r.length=k+(r.length+1) by omega]
def QE(l:List aB)(i:Nat){t:aB}(h:l[i]? =some t):cT 0 (l.take (i+1))=cT 0 (l.take i)++(if t.state=2 then[((i:Int),t.first)]else[]):=by
 obtain⟨hl,_⟩:=cP.1 h;rw[fL,h,Option.toList_some,ai1,dh,Nat.min_eq_left (by omega),iG];congr 1
def wG(k:Nat)(l:List aB):(cT k l).length<=l.length:=by
 induction l generalizing k with
 |nil=>simp[cT]
 |cons o r ih=>
  rw[cT];split
  .simp only[eW];have:=ih (k+1);omega
  .simp only[eW];have:=ih (k+1);omega
def lJ(l:List aB)(i:Nat):List aQ:=(l.take i).map (·.az)
def lG(l:List aB)(i:Nat):List Int:=(l.take i).map (·.first)
def uT(l:List aB)(i:Nat){t:aB}(h:l[i]? =some t):lJ l (i+1)=lJ l i++[t.az]:=by unfold lJ;rw[fL,h,Option.toList_some,kX];rfl
def uA(l:List aB)(i:Nat){t:aB}(h:l[i]? =some t):lG l (i+1)=lG l i++[t.first]:=by unfold lG;rw[fL,h,Option.toList_some,kX];rfl
def Bx(l:List aB)(i:Nat)(h:i<=l.length):(lJ l i).length=i:=by simp[lJ];omega
def Az(l:List aB)(i:Nat)(h:i<=l.length):(lG l i).length=i:=by simp[lG];omega
def Uw(h:aa)(l:List aB)(lv:Value)(m n:Nat)(σ:St):Prop:=∃(i:Nat)(o1 o2 o3:Option Nat)(v1 v2 v3:Value),n=m-i/\i<=m/\Ext h σ.m.h/\aL 43 aP σ.m.h lv l/\Ow 29 ah h σ.m.h o1 (lJ l i) v1/\Ow 3 ab h σ.m.h o2 (lG l i) v2/\Ow 69 ik h σ.m.h o3 (cT 0 (l.take i)) v3/\
 σ.t.get 5=some v1/\σ.t.get 6=some v2/\σ.t.get 7=some v3/\σ.t.get 11=some lv/\σ.t.get 12=some (.int .i64 (m:Nat))/\σ.t.get 13=some (.int .i64 (i:Nat))
def UO(h:aa)(l:List aB)(lv:Value)(t:aB)(m i:Nat)(σ:St):Prop:=∃(o1 o2 o3:Option Nat)(v1 v2 v3:Value),Ext h σ.m.h/\aL 43 aP σ.m.h lv l/\Ow 29 ah h σ.m.h o1 (lJ l (i+1)) v1/\Ow 3 ab h σ.m.h o2 (lG l (i+1)) v2/\Ow 69 ik h σ.m.h o3 (cT 0 (l.take i)) v3/\
 σ.t.get 5=some v1/\σ.t.get 6=some v2/\σ.t.get 7=some v3/\σ.t.get 8=some (.int .i64 (i:Nat))/\σ.t.get 9=some (.pointer (some ⟨9,0,some 0⟩))/\σ.t.get 11=some lv/\σ.t.get 12=some (.int .i64 (m:Nat))/\σ.t.get 13=some (.int .i64 (i:Nat))/\σ.m.x.look 9=some (43,aP t)
def Bt{α:Type}{e:TypeId}{enc:α->List Value}{h h' F:aa}{o:Option Nat}{xs:List α}{v:Value}(W:Ow e enc h h' o xs v)(hn:F.n=h'.n)(hF:∀b cs,h.n<=b->b<h'.n->h'.f b= .row true e cs->F.f b= .row false e cs):aL e enc F v xs:=by
 obtain⟨rfl,z⟩:=W;cases o with
 |none=>
  simp only at z;subst z;exact aL.nil
 |some b=>
  obtain⟨z1,z2,z3⟩:=z;exact⟨_,xs.length,rfl,λq=>(by cases q),.inr ⟨b,0,_,[],rfl,hF b _ z2 z3 z1,by simp,by simp,by rw[hn];exact z3⟩⟩
def ZM{h h':aa}(E:Ext h h'){o1 o2 o3:Option Nat}{l1:List aQ}{l2:List Int}{l3:List (Int×Int)}{v1 v2 v3:Value}(W1:Ow 29 ah h h' o1 l1 v1)(W2:Ow 3 ab h h' o2 l2 v2)(W3:Ow 69 ik h h' o3 l3 v3):
  ∃F,Wk h' F/\Ext h F/\aL 29 ah F v1 l1/\aL 3 ab F v2 l2/\aL 69 ik F v3 l3:=by
 obtain⟨F,hF⟩:=nm (aa.iJ (aa.iJ (aa.iJ h' h.n h'.n 29) h.n h'.n 3) h.n h'.n 69);have W:Wk h' F:=by rw[hF];exact((q8 h' _ _ _).trans (q8 _ _ _ _)).trans (q8 _ _ _ _)
 refine⟨F,W,⟨W.g.trans E.g,by rw[W.n];exact E.n,λx hx=>?_⟩,Bt W1 W.n λb cs n0 n1 hb=>?_,Bt W2 W.n λb cs n0 n1 hb=>?_,Bt W3 W.n λb cs n0 n1 hb=>?_⟩
 .rw[hF,sB _ (.inl hx),sB _ (.inl hx),sB _ (.inl hx),E.f _ hx]
 .have q1:=uB h' n0 n1 hb;have q2:(aa.iJ (aa.iJ h' h.n h'.n 29) h.n h'.n 3).f b= .row false 29 cs:=by rw[pW _ (λw c z=>by rw[q1]at z;cases z)];exact q1
  rw[hF,pW _ (λw c z=>by rw[q2]at z;cases z)];exact q2
 .have q1:(aa.iJ h' h.n h'.n 29).f b= .row true 3 cs:=by rw[pW _ (λw c z=>by rw[hb]at z;cases z)];exact hb
  have q2:=uB (aa.iJ h' h.n h'.n 29) n0 n1 q1;rw[hF,pW _ (λw c z=>by rw[q2]at z;cases z)];exact q2
 .have q1:(aa.iJ h' h.n h'.n 29).f b= .row true 69 cs:=by rw[pW _ (λw c z=>by rw[hb]at z;cases z)];exact hb
  have q2:(aa.iJ (aa.iJ h' h.n h'.n 29) h.n h'.n 3).f b= .row true 69 cs:=by rw[pW _ (λw c z=>by rw[q1]at z;cases z)];exact q1
  rw[hF];exact uB _ n0 n1 q2
section
variable {h0 h h':aa} {a:Nat} {b:aI} {vc:List Value} {ov:Value} {o:Option Nat}
def BD(hl:b.l.length<=1048576)(B:bC h0 h a b vc ov o):al PP 78 [.pointer (some ⟨a,0,none⟩)] h (λr h'=>Ext h h'/\∃v1 v2 v3,r= .tuple #[v1,v2,v3]/\aL 29 ah h' v1 (aO b).1/\aL 3 ab h' v2 (aO b).2.1/\aL 69 ik h' v3 (aO b).2.2):=by
 refine al.jM (post:=λr h'=>Ext h h'/\∃o1 o2 o3 v1 v2 v3,r= .tuple #[v1,v2,v3]/\Ow 29 ah h h' o1 (aO b).1 v1/\Ow 3 ab h h' o2 (aO b).2.1 v2/\Ow 69 ik h h' o3 (aO b).2.2 v3) ?_ (λr h' ⟨E,o1,o2,o3,v1,v2,v3,e,W1,W2,W3⟩=>by
  obtain⟨F,W,EF,S1,S2,S3⟩:=ZM E W1 W2 W3;exact⟨F,W,EF,v1,v2,v3,e,S1,S2,S3⟩)
 refine aC Tryz.func78 ahJ ?_;simp only[aA,Tryz.f78];have hlive:=uL (by omega) B;have hr1:List.range 1=[0]:=rfl;have hr2:List.range 2=[0,1]:=rfl;have hll:(bV b).length<=1048576:=eY (List.length_filter_le _ _) hl;have hpl:aO b=((bV b).map (·.az),(bV b).map (·.first),cT 0 (bV b)):=rfl;rw[hpl];obtain⟨l,hlB⟩:=nm (bV b);rw[<-hlB]at hlive hll ⊢;obtain⟨m,hm⟩:=nm l.length;simp -implicitDefEqProofs;refine hlive.mono ?_;rintro r G ⟨E,S⟩;obtain⟨ad,c,rfl⟩:=S.shape;rw[<-hm]at S ⊢;simp -implicitDefEqProofs[aF,af];intro _;refine bG (Uw h l (.slice ad m c) m) _ ⟨0,none,none,none,_,_,_,rfl,by omega,E,S,Ow.nil,Ow.nil,Ow.nil,by simp⟩ ?_;rintro n ⟨T,⟨x,G⟩⟩ ⟨i,o1,o2,o3,v1,v2,v3,rfl,hi,E,S,W1,W2,W3,g5,g6,g7,g11,g12,g13⟩;simp at E S W1 W2 W3 g5 g6 g7 g11 g12 g13;obtain⟨rfl,_⟩:=id W1;obtain⟨rfl,_⟩:=id W2;obtain⟨rfl,_⟩:=id W3;have l1:=Bx l i (by omega);have l2:=Az l i (by omega);simp -implicitDefEqProofs[g5,g6,g7,g11,g12,g13];refine bR (λhc=>?_) (λhc=>?_)
 .have him:i<m:=by omega
  have w1:=bO (i:=i) (by omega);have hti:l[i]? =some l[i]:=aq (by omega);obtain⟨t,ht⟩:=nm l[i];rw[<-ht]at hti;obtain⟨_,bo,oo,co,ro,rfl,hbo,hdo,hlo,_⟩:=S.at 6 iA hti;have hk6:(co.drop (oo+i*6)).take 6=aP t:=by rw[hdo];rfl
  simp only[aP]at hk6;obtain⟨A1,hA1⟩:=nm ((lJ l i).flatMap ah++ah t.az);obtain⟨A2,hA2⟩:=nm ((lG l i).flatMap ab++ab t.first);simp -implicitDefEqProofs[g5,g6,g7,g11,g12,g13,him,hbo,hk6,hlo];refine vy (UO h l (.slice (some ⟨bo,oo,none⟩) m c) t m i) ?_ ?_
  .rw[iU,iU,iU,tY];refine⟨?_,?_,?_,trivial⟩
   .have W1k1:=W1.ext (Ext.new G (.row true 29 (ah t.az)));have W2k1:=W2.ext (Ext.new G (.row true 29 (ah t.az)));have W3k1:=W3.ext (Ext.new G (.row true 29 (ah t.az)));have Sk1:=S.ext (Ext.new G (.row true 29 (ah t.az)));have La:=fO G (.row true 29 (ah t.az));have E1:=Ext.bI E (.row true 29 (ah t.az));have hA:=fM k9 W1k1 t.az _ La.1 (by rw[l1];omega);rw[<-hA1]at hA;have N2:=Ow.ne W2k1 W1k1 (by decide);have N32:=Ow.ne W3k1 W1k1 (by decide);have W1n:=Ow.app W1k1 (E1).n [t.az] (cells:=A1) (by rw[hA1];simp) rfl;have W2k2:=Ow.other (β:=Int) (e':=3) (enc':=ab) (ys:=[]) (u:=.bool true) W2k1 N2 (.row true 29 A1);have W3k2:=Ow.other (β:=Int) (e':=3) (enc':=ab) (ys:=[]) (u:=.bool true) W3k1 N32 (.row true 29 A1);have Sk2:=Sk1.kp ((Kp.refl _).app (λb hb=>Ow.nf W1k1 b hb) (.row true 29 A1));have E2:=Ext.app E1 (o:=o1) (λb hb=>⟨(W1k1.lt b hb).1,(W1k1.lt b hb).2⟩) (.row true 29 A1);have W1k3:=W1n.ext (Ext.new (bY (G.new (.row true 29 (ah t.az))) o1 (.row true 29 A1)) (.row true 3 (ab t.first)));have W2k3:=W2k2.ext (Ext.new (bY (G.new (.row true 29 (ah t.az))) o1 (.row true 29 A1)) (.row true 3 (ab t.first)));have W3k3:=W3k2.ext (Ext.new (bY (G.new (.row true 29 (ah t.az))) o1 (.row true 29 A1)) (.row true 3 (ab t.first)));have Sk3:=Sk2.ext (Ext.new (bY (G.new (.row true 29 (ah t.az))) o1 (.row true 29 A1)) (.row true 3 (ab t.first)));have Lb:=fO (bY (G.new (.row true 29 (ah t.az))) o1 (.row true 29 A1)) (.row true 3 (ab t.first));have E3:=Ext.bI E2 (.row true 3 (ab t.first));have hB:=fM lf W2k3 t.first _ Lb.1 (by rw[l2];omega);rw[<-hA2]at hB;have N4:=Ow.ne W1k3 W2k3 (by decide);have N34:=Ow.ne W3k3 W2k3 (by decide);have W2n:=Ow.app W2k3 (E3).n [t.first] (cells:=A2) (by rw[hA2];simp) rfl;have W1k4:=Ow.other (β:=Int) (e':=3) (enc':=ab) (ys:=[]) (u:=.bool true) W1k3 N4 (.row true 3 A2);have W3k4:=Ow.other (β:=Int) (e':=3) (enc':=ab) (ys:=[]) (u:=.bool true) W3k3 N34 (.row true 3 A2);have Sk4:=Sk3.kp ((Kp.refl _).app (λb hb=>Ow.nf W2k3 b hb) (.row true 3 A2));have E4:=Ext.app E3 (o:=o2) (λb hb=>⟨(W2k3.lt b hb).1,(W2k3.lt b hb).2⟩) (.row true 3 A2);simp only[ah,V.ab]at hA hB;simp -implicitDefEqProofs[aF,g5,g6,g7,g11,g12,g13,aM,hr1,hr2,hA,hB];have P1:=W1k4;rw[<-uT l i hti]at P1;have P2:=W2n;rw[<-uA l i hti]at P2;exact⟨_,_,o3,_,_,_,E4,Sk4,P1,P2,W3k4,by simp[cW,aP]⟩
   .have W1k1:=W1.ext (Ext.new G (.row true 29 (ah t.az)));have W2k1:=W2.ext (Ext.new G (.row true 29 (ah t.az)));have W3k1:=W3.ext (Ext.new G (.row true 29 (ah t.az)));have Sk1:=S.ext (Ext.new G (.row true 29 (ah t.az)));have La:=fO G (.row true 29 (ah t.az));have E1:=Ext.bI E (.row true 29 (ah t.az));have W1k2:=W1k1.ext (Ext.new (G.new (.row true 29 (ah t.az))) (.row true 3 (ab t.first)));have W2k2:=W2k1.ext (Ext.new (G.new (.row true 29 (ah t.az))) (.row true 3 (ab t.first)));have W3k2:=W3k1.ext (Ext.new (G.new (.row true 29 (ah t.az))) (.row true 3 (ab t.first)));have Sk2:=Sk1.ext (Ext.new (G.new (.row true 29 (ah t.az))) (.row true 3 (ab t.first)));have Lak2:=fN La (Ext.new (G.new (.row true 29 (ah t.az))) (.row true 3 (ab t.first)));have Lb:=fO (G.new (.row true 29 (ah t.az))) (.row true 3 (ab t.first));have E2:=Ext.bI E1 (.row true 3 (ab t.first));have hA:=fM k9 W1k2 t.az _ Lak2.1 (by rw[l1];omega);rw[<-hA1]at hA;have N3:=Ow.ne W2k2 W1k2 (by decide);have N33:=Ow.ne W3k2 W1k2 (by decide);have W1n:=Ow.app W1k2 (E2).n [t.az] (cells:=A1) (by rw[hA1];simp) rfl;have W2k3:=Ow.other (β:=Int) (e':=3) (enc':=ab) (ys:=[]) (u:=.bool true) W2k2 N3 (.row true 29 A1);have W3k3:=Ow.other (β:=Int) (e':=3) (enc':=ab) (ys:=[]) (u:=.bool true) W3k2 N33 (.row true 29 A1);have Sk3:=Sk2.kp ((Kp.refl _).app (λb hb=>Ow.nf W1k2 b hb) (.row true 29 A1));have Lbk3:=lj (o:=o1) (c:=(.row true 29 A1)) Lb (λz=>by have q:=(W1.lt _ z).2;simp[cW]at q<;>omega);have E3:=Ext.app E2 (o:=o1) (λb hb=>⟨(W1k2.lt b hb).1,(W1k2.lt b hb).2⟩) (.row true 29 A1);have hB:=fM lf W2k3 t.first _ Lbk3.1 (by rw[l2];omega);rw[<-hA2]at hB;have N4:=Ow.ne W1n W2k3 (by decide);have N34:=Ow.ne W3k3 W2k3 (by decide);have W2n:=Ow.app W2k3 (E3).n [t.first] (cells:=A2) (by rw[hA2];simp) rfl;have W1k4:=Ow.other (β:=Int) (e':=3) (enc':=ab) (ys:=[]) (u:=.bool true) W1n N4 (.row true 3 A2);have W3k4:=Ow.other (β:=Int) (e':=3) (enc':=ab) (ys:=[]) (u:=.bool true) W3k3 N34 (.row true 3 A2);have Sk4:=Sk3.kp ((Kp.refl _).app (λb hb=>Ow.nf W2k3 b hb) (.row true 3 A2));have E4:=Ext.app E3 (o:=o2) (λb hb=>⟨(W2k3.lt b hb).1,(W2k3.lt b hb).2⟩) (.row true 3 A2);simp only[ah,V.ab]at hA hB;simp -implicitDefEqProofs[aF,g5,g6,g7,g11,g12,g13,aM,hr1,hr2,hA,hB];have P1:=W1k4;rw[<-uT l i hti]at P1;have P2:=W2n;rw[<-uA l i hti]at P2;exact⟨_,_,o3,_,_,_,E4,Sk4,P1,P2,W3k4,by simp[cW,aP]⟩
   .have W1k1:=W1.ext (Ext.new G (.row true 3 (ab t.first)));have W2k1:=W2.ext (Ext.new G (.row true 3 (ab t.first)));have W3k1:=W3.ext (Ext.new G (.row true 3 (ab t.first)));have Sk1:=S.ext (Ext.new G (.row true 3 (ab t.first)));have Lb:=fO G (.row true 3 (ab t.first));have E1:=Ext.bI E (.row true 3 (ab t.first));have W1k2:=W1k1.ext (Ext.new (G.new (.row true 3 (ab t.first))) (.row true 29 (ah t.az)));have W2k2:=W2k1.ext (Ext.new (G.new (.row true 3 (ab t.first))) (.row true 29 (ah t.az)));have W3k2:=W3k1.ext (Ext.new (G.new (.row true 3 (ab t.first))) (.row true 29 (ah t.az)));have Sk2:=Sk1.ext (Ext.new (G.new (.row true 3 (ab t.first))) (.row true 29 (ah t.az)));have Lbk2:=fN Lb (Ext.new (G.new (.row true 3 (ab t.first))) (.row true 29 (ah t.az)));have La:=fO (G.new (.row true 3 (ab t.first))) (.row true 29 (ah t.az));have E2:=Ext.bI E1 (.row true 29 (ah t.az));have hA:=fM k9 W1k2 t.az _ La.1 (by rw[l1];omega);rw[<-hA1]at hA;have N3:=Ow.ne W2k2 W1k2 (by decide);have N33:=Ow.ne W3k2 W1k2 (by decide);have W1n:=Ow.app W1k2 (E2).n [t.az] (cells:=A1) (by rw[hA1];simp) rfl;have W2k3:=Ow.other (β:=Int) (e':=3) (enc':=ab) (ys:=[]) (u:=.bool true) W2k2 N3 (.row true 29 A1);have W3k3:=Ow.other (β:=Int) (e':=3) (enc':=ab) (ys:=[]) (u:=.bool true) W3k2 N33 (.row true 29 A1);have Sk3:=Sk2.kp ((Kp.refl _).app (λb hb=>Ow.nf W1k2 b hb) (.row true 29 A1));have Lbk3:=lj (o:=o1) (c:=(.row true 29 A1)) Lbk2 (λz=>by have q:=(W1.lt _ z).2;simp[cW]at q<;>omega);have E3:=Ext.app E2 (o:=o1) (λb hb=>⟨(W1k2.lt b hb).1,(W1k2.lt b hb).2⟩) (.row true 29 A1);have hB:=fM lf W2k3 t.first _ Lbk3.1 (by rw[l2];omega);rw[<-hA2]at hB;have N4:=Ow.ne W1n W2k3 (by decide);have N34:=Ow.ne W3k3 W2k3 (by decide);have W2n:=Ow.app W2k3 (E3).n [t.first] (cells:=A2) (by rw[hA2];simp) rfl;have W1k4:=Ow.other (β:=Int) (e':=3) (enc':=ab) (ys:=[]) (u:=.bool true) W1n N4 (.row true 3 A2);have W3k4:=Ow.other (β:=Int) (e':=3) (enc':=ab) (ys:=[]) (u:=.bool true) W3k3 N34 (.row true 3 A2);have Sk4:=Sk3.kp ((Kp.refl _).app (λb hb=>Ow.nf W2k3 b hb) (.row true 3 A2));have E4:=Ext.app E3 (o:=o2) (λb hb=>⟨(W2k3.lt b hb).1,(W2k3.lt b hb).2⟩) (.row true 3 A2);simp only[ah,V.ab]at hA hB;simp -implicitDefEqProofs[aF,g5,g6,g7,g11,g12,g13,aM,hr1,hr2,hA,hB];have P1:=W1k4;rw[<-uT l i hti]at P1;have P2:=W2n;rw[<-uA l i hti]at P2;exact⟨_,_,o3,_,_,_,E4,Sk4,P1,P2,W3k4,by simp[cW,aP]⟩
  .rintro⟨T,⟨x,G⟩⟩ ⟨o1,o2,o3,v1,v2,v3,E,S,W1,W2,W3,g5,g6,g7,g8,g9,g11,g12,g13,x9⟩;simp at E S W1 W2 W3 g5 g6 g7 g8 g9 g11 g12 g13 x9;obtain⟨rfl,_⟩:=id W1;obtain⟨rfl,_⟩:=id W2;obtain⟨rfl,_⟩:=id W3;have hps:=QE l i hti;have hpl3:=wG 0 (l.take i);rw[dh]at hpl3;by_cases q:t.state=2
   .rw[if_pos q]at hps;have hA:=iV Ka W3 ((i:Int),t.first) (by omega);obtain⟨A3,hA3⟩:=nm ((cT 0 (l.take i)).flatMap ik++ik ((i:Int),t.first));rw[<-hA3]at hA;simp only[ik]at hA;simp only[aP]at x9;simp -implicitDefEqProofs[g5,g6,g7,g8,g9,g11,g12,g13,x9,q,w1,aM,hr1,hr2,hA];have N1:=Ow.ne W1 W3 (by decide);have N2:=Ow.ne W2 W3 (by decide);have P3:=Ow.one W3 E.n (.row true 69 (ik ((i:Int),t.first))) ((i:Int),t.first) (cells:=A3) hA3;rw[<-hps]at P3;have K:=aa8 W3 (.row true 69 (ik ((i:Int),t.first))) (.row true 69 A3);exact⟨m-(i+1),by omega,i+1,o1,o2,_,_,_,_,rfl,by omega,iZ E W3 _ _,S.kp K,
     Ow.other (β:=Int) (e':=3) (enc':=ab) (ys:=[]) (u:=.bool true) (W1.ext (Ext.new _ _)) N1 _,Ow.other (β:=Int) (e':=3) (enc':=ab) (ys:=[]) (u:=.bool true) (W2.ext (Ext.new _ _)) N2 _,P3,by simp⟩
   .rw[if_neg q,pO]at hps;simp only[aP]at x9;simp -implicitDefEqProofs[g5,g6,g7,g8,g9,g11,g12,g13,x9,q,w1];exact⟨m-(i+1),by omega,i+1,o1,o2,o3,_,_,_,rfl,by omega,E,S,W1,W2,by rw[hps];exact W3,by simp⟩
 .have e:i=m:=by omega
  subst e;have e1:lJ l i=l.map (·.az):=by unfold lJ;rw[hm,jZ]
  have e2:lG l i=l.map (·.first):=by unfold lG;rw[hm,jZ]
  have e3:l.take i=l:=by rw[hm,jZ]
  simp -implicitDefEqProofs[g5,g6,g7];exact⟨E,o1,o2,o3,_,_,_,⟨rfl,rfl,rfl⟩,by rw[<-e1];exact W1,by rw[<-e2];exact W2,by rw[e3]at W3 ⊢;exact W3⟩
end
section
variable {h0 h h':aa} {a:Nat} {b:aI} {vc:List Value} {ov:Value} {o:Option Nat}
def xy(B:bC h0 h a b vc ov o)(M:aK b.v=true)(x:aB)(hx: -4611686018427387904<=x.first/\x.first<=4611686018427387904):
  al PP 111 [.pointer (some ⟨a,0,none⟩),jI x] h (λr h'=>Ext h h'/\aL 3 ab h' r (il b x)):=by
 refine aC Tryz.func111 aeQ ?_;simp only[aA,Tryz.f111];have hp:=aji b.v M vc x.az x.first hx h B.dv;have hsb:il b x=(cY b.v (bK b.v) x.az x.first).getD []:=by unfold il;rw[if_pos M]
 rw[hsb];obtain⟨a1,n1,c1,g,r,a2,n2,c2,a3,n3,c3,a4,n4,c4,rfl,rfl,rfl,hrow⟩:=B.cells;simp only[du,ah]at hp;simp -implicitDefEqProofs[jI,aP,hrow];refine hp.mono ?_;unfold sc;obtain⟨R,hR⟩:=nm (cY b.v (bK b.v) x.az x.first);rw[<-hR];cases R with
 |none=>
  rintro r G2 ⟨E2,rfl⟩;simp -implicitDefEqProofs[aF];intro _;exact⟨E2,aL.nil⟩
 |some L=>
  rintro r G2 ⟨E2,sv,hsv,rfl⟩;obtain⟨ad,c,rfl⟩:=hsv.shape;simp -implicitDefEqProofs[aF];intro _;exact⟨E2,hsv⟩
def Di(B:bC h0 h a b vc ov o)(hl:b.l.length<=1073741824)(id:Int):
  al PP 112 [.pointer (some ⟨a,0,none⟩),.int .i64 id] h (λr h'=>h'=h/\if id<1∨(b.l.length:Int)<id then r= .tuple #[.pointer none,.int .i64 4]else∃bo,o=some bo/\r= .tuple #[.pointer (some ⟨bo,(id.toNat-1)*6,none⟩),.int .i64 0]):=by
 refine aC Tryz.func112 aeR ?_;simp only[aA,Tryz.f112];have hW:=B.dR;obtain⟨a1,n1,c1,g,r,a2,n2,c2,a3,n3,c3,a4,n4,c4,rfl,rfl,rfl,hrow⟩:=B.cells;by_cases q1:id<1
 .simp -implicitDefEqProofs[hrow,q1]
 .by_cases q2:(b.l.length:Int)<id
  .simp -implicitDefEqProofs[hrow,q1,q2]
  .obtain⟨k,rfl⟩:∃k:Nat,id=(k:Int)+1:=⟨id.toNat-1,by omega⟩;have hk:k<b.l.length:=(by omega);have wk:IntKind.wrap .i64 ((k:Int))=(k:Nat):=(by rw[bB (by omega)]);cases o with
   |none=>
    have:=hW.2;rw[this]at hk;simp at hk
   |some bo=>
    obtain⟨⟨c',r',e,q⟩,_⟩:=hW;simp only[Value.slice.injEq]at e;obtain⟨rfl,_,_⟩:=e;have q3:¬((k:Int)+1<1):=(by omega);have hk2:¬((k:Int)<0):=(by omega);simp -implicitDefEqProofs[hrow,q1,q2,wk,hk,q,hk2,q3];try omega
end
def s9{L:List aB}{k:Nat}{t:aB}(ht:L[k]? =some t)(r:List Value):∃P Q:List Value,P.length=k*6/\L.flatMap aP++r=P++(aP t++Q)/\∀t',(L.set k t').flatMap aP++r=P++(aP t'++Q):=by
 obtain⟨hk,e⟩:=cP.1 ht;refine⟨(L.take k).flatMap aP,(L.drop (k+1)).flatMap aP++r,?_,?_,λt'=>?_⟩
 .rw[fr 6 iA,dh,Nat.min_eq_left (by omega)]
 .have:L=L.take k++t::L.drop (k+1):=by rw[<-e,<-gQ hk,se]
  conv=>lhs;rw[this]
  simp
 .rw[List.set_eq_take_append_cons_drop,if_pos hk];simp
def tG{P X:List Value}{n i:Nat}(h:P.length=n):(P++X).take (n+i)=P++X.take i:=by
 rw[List.take_append,h,b9 (by omega),Nat.add_sub_cancel_left]
def nh{P X:List Value}{n i:Nat}(h:P.length=n):(P++X).drop (n+i)=X.drop i:=by
 rw[List.drop_append,h,List.drop_of_length_le (by omega),Nat.add_sub_cancel_left,dJ]
def Kc(h:aa)(bo k:Nat){L:List aB}{t:aB}(ht:L[k]? =some t)(r:List Value)(hb:h.f bo= .row true 43 (L.flatMap aP++r)):
  al PP 107 [.pointer (some ⟨bo,k*6,none⟩)] h (λ_ h'=>h'=h.set bo (.row true 43 ((L.set k (oa t)).flatMap aP++r))):=by
 refine aC Tryz.func107 aeL ?_;simp only[aA,Tryz.f107];obtain⟨P,Q,hP,e1,e2⟩:=s9 ht r;rw[e2 (oa t)];rw[e1]at hb;have hl:∀X:List Value,(P++X).length=k*6+X.length:=λX=>by rw[bH,hP]
 have t1:∀X:List Value,(P++X).take (k*6+1)=P++X.take 1:=λX=>tG hP;have t4:∀X:List Value,(P++X).take (k*6+4)=P++X.take 4:=λX=>tG hP;have t5:∀X:List Value,(P++X).take (k*6+5)=P++X.take 5:=λX=>tG hP;have d2:∀X:List Value,(P++X).drop (k*6+1+1)=X.drop 2:=λX=>nh (i:=2) hP;have d5:∀X:List Value,(P++X).drop (k*6+4+1)=X.drop 5:=λX=>nh (i:=5) hP;have d6:∀X:List Value,(P++X).drop (k*6+5+1)=X.drop 6:=λX=>nh (i:=6) hP;simp only[aP,oa,dB,dJ]at hb ⊢;have z1:k*6+1+1<=k*6+(Q.length+1+1+1+1+1+1):=by omega
 have z2:k*6+4+1<=k*6+(Q.length+1+1+1+1+1+1):=by omega
 have z3:k*6+5+1<=k*6+(Q.length+1+1+1+1+1+1):=by omega
 simp -implicitDefEqProofs[hb,hP,z1,z2,z3,t1,t4,t5,d2,d5,d6];rw[nB,nB]
end Go.Proofs.Ybk.K
namespace Go.Proofs.Ybk.K
open Go Go.Am
open V (au aR ai ao aZ ab bg aK aE cA cG a8 bL)
def akR(a b:List aB)(p:List Int):eE (a++b) p=eE a p++eE b (p.drop (a.filter bT).length):=by
 induction a generalizing p with
 |nil=>rfl
 |cons o r ih=>
  rw[dB,eE,eE];by_cases q:bT o=true
  .rw[if_pos q,if_pos q,ih,List.filter_cons_of_pos q,eW,dB,<-List.drop_one,eh,Nat.add_comm 1]
  .rw[if_neg q,if_neg q,ih,List.filter_cons_of_neg q,dB]
def wT(a:List aB)(p:List Int):(eE a p).length=a.length:=by
 induction a generalizing p with
 |nil=>rfl
 |cons o r ih=>
  rw[eE];split<;>simp[ih]
def ly(l:List aB)(p:List Int)(i:Nat):List aB:=eE (l.take i) p++l.drop i
def akT(l:List aB)(p:List Int)(i:Nat):(ly l p i)[i]? =l[i]? :=by
 unfold ly;by_cases h:i<=l.length
 .rw[iF (by rw[wT,dh];omega),wT,dh,Nat.min_eq_left h,oS,List.getElem?_drop,ie]
 .rw[iT (by rw[bH,wT,dh,eX];omega),iT (by omega)]
def akU(l:List aB)(p:List Int)(i:Nat){t:aB}(ht:l[i]? =some t):ly l p (i+1)=if bT t=true then(ly l p i).set i {t with first:=(p.drop ((l.take i).filter bT).length).headD 0}else ly l p i:=by
 obtain⟨hi,e⟩:=cP.1 ht;unfold ly;have hd:l.drop i=t::l.drop (i+1):=by rw[<-e];exact gQ hi
 have hl:(eE (l.take i) p).length=i:=by rw[wT,dh];omega
 rw[fL,ht,Option.toList_some,akR,hd,eE];split
 .rw[List.set_append_right _ _ (by omega),hl,oS,List.set_cons_zero,eE,eG];rfl
 .rw[eE,eG];rfl
def akS(l:List aB)(p:List Int):ly l p l.length=eE l p:=by unfold ly;simp
def Cg(l:List aB)(p:List Int)(i:Nat):(ly l p i).length=l.length:=by
 unfold ly;rw[bH,wT,dh,eX];omega
def bC.ve{h0 h:aa}{a:Nat}{b:aI}{vc:List Value}{ov:Value}{bo:Nat}(B:bC h0 h a b vc ov (some bo)){L:List aB}(hl:L.length=b.l.length)(r:List Value):
  bC h0 (h.set bo (.row true 43 (L.flatMap aP++r))) a {b with l:=L} vc ov (some bo)/\Kp h (h.set bo (.row true 43 (L.flatMap aP++r))):=by
 obtain⟨⟨c,r',e,q⟩,n0,n1⟩:=B.dR;have C:=jC h bo (.row true 43 (L.flatMap aP++r));have RS:=nQ q;have hne:¬a=bo:=λz=>by have:=B.row;rw[z,q]at this;cases this
 refine⟨⟨by rw[lX _ _ hne];exact B.row,B.a0,B.a1,B.ext.dp n0 _,B.dv.er C RS,⟨⟨c,r,by rw[e,<-hl],by simp⟩,n0,n1⟩⟩,C.kp RS⟩
end Go.Proofs.Ybk.K
namespace Go.Proofs.Ybk.K
open Go Go.Am
set_option maxHeartbeats 4000000
open V (au aR ai ao aZ ab bg aK aE cA cG a8 bL)
def oW(l:List aB)(i:Nat):Nat:=((l.take i).filter bT).length
def XT(l:List aB)(i:Nat){t:aB}(ht:l[i]? =some t):oW l (i+1)=if bT t=true then oW l i+1 else oW l i:=by
 unfold oW;rw[xR bT l i ht,bH];split<;>simp
def XS(l:List aB)(i:Nat):oW l i<=(l.filter bT).length:=by
 unfold oW;have:((l.take i).filter bT).Sublist (l.filter bT):=(List.take_sublist i l).filter _;exact this.length_le
def Tn(h0 h1:aa)(a:Nat)(b:aI)(p:List Int)(vc:List Value)(ov pv:Value)(o:Option Nat)(m n:Nat)(σ:St):Prop:=∃i:Nat,n=m-i/\i<=m/\bC h0 σ.m.h a {b with l:=ly b.l p i} vc ov o/\cX (a::o.toList) h1 σ.m.h/\aL 3 ab σ.m.h pv p/\
 σ.t.get 0=some (.pointer (some ⟨a,0,none⟩))/\σ.t.get 1=some pv/\σ.t.get 4=some (.int .i64 (oW b.l i:Nat))/\σ.t.get 10=some ov/\σ.t.get 11=some (.int .i64 (m:Nat))/\σ.t.get 12=some (.int .i64 (i:Nat))
def Rs{h0 h:aa}{a:Nat}{b:aI}{vc:List Value}{ov:Value}{o:Option Nat}(B:bC h0 h a b vc ov o)(hl:b.l.length<=1048576)(p:List Int)(pv:Value)(hp:aL 3 ab h pv p)(hpl:(bV b).length<=p.length):
  al PP 110 [.pointer (some ⟨a,0,none⟩),pv] h (λ_ h'=>bC h0 h' a (tD b p) vc ov o/\cX (a::o.toList) h h'):=by
 refine aC Tryz.func110 aeP ?_;simp only[aA,Tryz.f110];have hr1:List.range 1=[0]:=rfl;obtain⟨adp,cp,rfl⟩:=hp.shape;obtain⟨a1,n1,c1,g,r,a2,n2,c2,a3,n3,c3,a4,n4,c4,rfl,rfl,rfl,hrow⟩:=B.cells;simp -implicitDefEqProofs[hrow];obtain⟨m,hm⟩:=nm b.l.length;rw[<-hm]at B ⊢;have e0:ly b.l p 0=b.l:=by simp[ly,eE]
 refine bG (Tn h0 h a b p [.slice a1 n1 c1,.int .i64 g,.int .i64 r,.slice a2 n2 c2,.slice a3 n3 c3] (.slice a4 m c4) (.slice adp p.length cp) o m) _ ⟨0,rfl,by omega,by rw[e0];exact B,cX.bJ _ _,hp,by simp[oW]⟩ ?_;rintro n ⟨T,⟨x,G⟩⟩ ⟨i,rfl,hi,BG,CG,hpG,g0,g1,g4,g10,g11,g12⟩;simp at BG CG hpG g0 g1 g4 g10 g11 g12;simp -implicitDefEqProofs[g0,g1,g4,g10,g11,g12];refine bR (λhc=>?_) (λhc=>?_)
 .have him:i<m:=by omega
  have w1:=bO (i:=i) (by omega);have hti:b.l[i]? =some b.l[i]:=aq (by omega);obtain⟨t,ht⟩:=nm b.l[i];rw[<-ht]at hti;have hsi:=akT b.l p i;rw[hti]at hsi;have hss:=akU b.l p i hti;have hcs:=XT b.l i hti;have hrowG:=BG.row;simp only[iI,dB,dJ]at hrowG;cases o with
  |none=>
   have:=BG.dR.2;simp only at this;have hz:=Cg b.l p i;rw[this]at hz;simp at hz;omega
  |some bo=>
   have hO:=BG.dR;obtain⟨⟨c',r',e,q⟩,nn0,nn1⟩:=hO;simp only[Value.slice.injEq]at e q;obtain⟨rfl,_,_⟩:=e;obtain⟨P,Q,hP,e1,e2⟩:=s9 hsi r';rw[e1]at q;have hd6:(P++(aP t++Q)).drop (i*6)=aP t++Q:=nh (i:=0) hP;have hl6:i*6+6<=(P++(aP t++Q)).length:=(by rw[bH,hP,bH,iA];omega);have hl5:i*6+5+1<=(P++(aP t++Q)).length:=hl6;have t5:(P++(aP t++Q)).take (i*6+5)=P++(aP t++Q).take 5:=tG hP;have d6:(P++(aP t++Q)).drop (i*6+5+1)=Q:=nh (i:=6) hP;have hst:∀v:Int,(P++(aP t++Q)).take (i*6+5)++Value.int .i64 v::(P++(aP t++Q)).drop (i*6+5+1)=P++(aP {t with first:=v}++Q):=λv=>(by rw[t5,d6];simp[aP]);obtain⟨R,hR⟩:=nm (P++(aP t++Q));rw[<-hR]at q hd6 hl6 hl5 hst;simp only[aP,dB,dJ]at hd6;simp -implicitDefEqProofs[g0,g1,g4,g10,g11,g12,him,q,hd6,hl6];refine cE (Ph t G) ?_;by_cases z:bT t=true
   .rw[if_pos z]at hss hcs;have hjl:=XS b.l (i+1);have hlv:(bV b).length=(b.l.filter bT).length:=rfl;obtain⟨j,hj⟩:=nm (oW b.l i);have hjd:((b.l.take i).filter bT).length=j:=hj.symm;rw[hjd]at hss;have hji:j<=i:=(by rw[hj];unfold oW;exact eY (List.length_filter_le _ _) (by rw[dh];omega));rw[<-hj]at hcs g4 ⊢;have hjp:j<p.length:=(by omega);have hpj:p[j]? =some p[j]:=aq hjp;obtain⟨f,hf⟩:=nm p[j];rw[<-hf]at hpj;have hhd:(p.drop j).headD 0=f:=(by rw[gQ hjp,<-hf];rfl);rw[hhd]at hss;obtain⟨_,bp,op,cpl,rp,rfl,hbp,hdp,hlp,_⟩:=hpG.at 1 V.dY hpj;rw[Nat.mul_one]at hdp hlp;have wj:=bO (i:=j) (by omega);have hst':=hst f;obtain⟨BS,KS⟩:=BG.ve (L:=ly b.l p (i+1)) (by rw[Cg];exact(Cg b.l p i).symm) r';have hrow':(ly b.l p (i+1)).flatMap aP++r'=P++(aP {t with first:=f}++Q):=(by rw[hss];exact e2 _);rw[hrow']at BS KS;have CS:cX (a::(some bo).toList) h (G.set bo (.row true 43 (P++(aP {t with first:=f}++Q)))):=CG.trans (jC G bo _) (λx hx _=>by simp at hx;simp[hx]);simp -implicitDefEqProofs[af,z,g0,g1,g4,g10,g11,g12,w1,wj,hrowG,him,hjp,hbp,hdp,hlp,q,hl5,hst',ab];intro _;exact⟨m-(i+1),by omega,i+1,rfl,by omega,BS,CS,hpG.kp KS,by simp[hcs]⟩
   .rw[if_neg z]at hss hcs;simp -implicitDefEqProofs[af,z,g0,g1,g4,g10,g11,g12,w1];intro _;exact⟨m-(i+1),by omega,i+1,rfl,by omega,by rw[hss];exact BG,CG,hpG,by simp[hcs]⟩
 .have e:i=m:=by omega
  subst e;have ea:ly b.l p i=eE b.l p:=by rw[hm,akS]
  rw[ea]at BG;simp -implicitDefEqProofs[g0];exact⟨BG,CG⟩
end Go.Proofs.Ybk.K
namespace Go.Proofs.Ybk.K
open Go Go.Am
open V (au aR ai ao aZ ab bg aK aE cA cG a8 bL)
section
variable {α:Type} {e:TypeId} {enc:α->List Value} {h0 h1 h h':aa} {o:Option Nat} {xs:List α} {v:Value}
def akZ(H:dt e enc h v xs)(W:Wk h h'):dt e enc h' v xs:=by
 obtain⟨ad,c,q,n,z⟩:=H;refine⟨ad,c,q,n,?_⟩;rcases z with z|⟨b,off,w,cells,rest,z1,z2,z3,z4,z5⟩
 .exact .inl z
 .rcases W.f b with q|⟨e1,cs,q1,q2⟩
  .exact .inr ⟨b,off,w,cells,rest,z1,by rw[q,z2],z3,z4,by rw[W.n];exact z5⟩
  .rw[z2]at q1;simp only[aW.row.injEq]at q1;obtain⟨_,rfl,rfl⟩:=q1;exact .inr ⟨b,off,false,cells,rest,z1,q2,z3,z4,by rw[W.n];exact z5⟩
def Bq(H:V.jx e enc h0 h v xs)(E:Ext h0 h):∃h',Wk h h'/\Ext h0 h'/\aL e enc h' v xs:=by
 obtain⟨h',W,S,C⟩:=H.1.dG;refine⟨h',W,⟨W.g.trans E.g,by rw[W.n];exact E.n,λb hb=>?_⟩,S⟩;rw[<-E.f b hb];refine Classical.byContradiction λq=>?_;have:=H.2 b _ _ _ (C b q);omega
def Br(H:V.jx e enc h0 h v xs)(W:Wk h h'):V.jx e enc h0 h' v xs:=⟨akZ H.1 W,H.2⟩
def eV.low(H:eV e enc h1 h o xs v)(hn:h0.n<=h1.n):eV e enc h0 h o xs v:=by
 cases o with
 |none=>exact H
 |some b=>exact⟨H.1,eY hn H.2.1,H.2.2⟩
def aiH(H:Ow e enc h0 h o xs v):eV e enc h0 h o xs v:=by
 obtain⟨rfl,z⟩:=H;cases o with
 |none=>simp only at z;subst z;exact⟨rfl,rfl⟩
 |some b=>exact⟨⟨_,[],rfl,by rw[pO];exact z.1⟩,z.2.1,z.2.2⟩
end
def Sm{h0 h:aa}{v:ai}{cs:List Value}(H:V.nW h0 h v cs)(E:Ext h0 h):∃h',Wk h h'/\Ext h0 h'/\eC h' v cs:=by
 obtain⟨s,k,p,rfl,z1,z2,z3⟩:=H;obtain⟨F1,W1,E1,S1⟩:=Bq z1 E;obtain⟨F2,W2,E2,S2⟩:=Bq (Br z2 W1) E1;obtain⟨F3,W3,E3,S3⟩:=Bq (Br (Br z3 W1) W2) E2;exact⟨F3,(W1.trans W2).trans W3,E3,s,k,p,rfl,(S1.wk W2).wk W3,S2.wk W3,S3⟩
section
variable {h0 h1 h h' h'':aa} {a a2:Nat} {b b' b2:aI} {vc vc2:List Value} {ov ov2:Value} {o o1 o2:Option Nat}
def bC.low(B:bC h1 h a b vc ov o)(E:Ext h0 h1):bC h0 h a b vc ov o:=
 ⟨B.row,eY E.n B.a0,B.a1,E.trans B.ext,B.dv,B.dR.low E.n⟩
def bC.iQ(B:bC h0 h a b vc ov o):gZ (a::o.toList) h:=by
 refine gZ.cons B.row ?_;intro x hx;obtain⟨cs,q⟩:=B.dR.row x (by simpa using hx);exact⟨_,cs,q⟩
def bC.own(B:bC h0 h a b vc ov o):∀x∈a::o.toList,h0.n<=x/\x<h.n:=by
 intro x hx;rcases cJ.1 hx with rfl|hx
 .exact⟨B.a0,B.a1⟩
 .exact B.dR.lt x (by simpa using hx)
def bC.er(B:bC h0 h a b vc ov o){S:List Nat}(C:cX S h h')(hs:gZ S h)(h0S:∀x∈S,h0.n<=x)(hd:∀x∈a::o.toList,x∉S):bC h0 h' a b vc ov o where
 row:=by rw[C.f a B.a1 (hd a dU)];exact B.row
 a0:=B.a0
 a1:=cV B.a1 C.n
 ext:=⟨C.g.trans B.ext.g,eY B.ext.n C.n,λx hx=>by
  rw[C.f x (cV hx B.ext.n) (λz=>by have:=h0S x z;omega)];exact B.ext.f x hx⟩
 dv:=B.dv.er C hs
 dR:=B.dR.keep (λx hx=>C.f x (B.dR.lt x hx).2 (hd x (by simp[hx]))) C.n
def cN(h0 h h':aa)(a:Nat)(o:Option Nat)(b:aI):Prop:=∃vc ov o',bC h0 h' a b vc ov o'/\cX (a::o.toList) h h'/\∀x,o'=some x->o=some x∨h.n<=x
def cN.fP(B:bC h0 h a b vc ov o)(E:Ext h h'):cN h0 h h' a o b:=⟨vc,ov,o,B.exts E,cX.fP E,λ_ hx=>.inl hx⟩
def cN.px(B:bC h0 h' a b vc ov o)(C:cX (a::o.toList) h h'):cN h0 h h' a o b:=⟨vc,ov,o,B,C,λ_ hx=>.inl hx⟩
def cN.post(Q:cN h0 h h' a o b)(E:Ext h' h''):cN h0 h h'' a o b:=by
 obtain⟨vc,ov,o',B,C,D⟩:=Q;exact⟨vc,ov,o',B.exts E,C.trans (cX.fP (S:=[]) E) (λ_ hi=>by cases hi),D⟩
def cN.pre(E:Ext h h1)(Q:cN h0 h1 h' a o b):cN h0 h h' a o b:=by
 obtain⟨vc,ov,o',B,C,D⟩:=Q;refine⟨vc,ov,o',B,(cX.fP E).trans C (λ_ hi _=>hi),λx hx=>?_⟩;rcases D x hx with q|q
 .exact .inl q
 .exact .inr (eY E.n q)
def cN.trans(C1:cX (a::o.toList) h h1)(D1:∀x,o1=some x->o=some x∨h.n<=x)(Q:cN h0 h1 h' a o1 b):cN h0 h h' a o b:=by
 obtain⟨vc,ov,o',B,C,D⟩:=Q;refine⟨vc,ov,o',B,C1.trans C (λi hi hl=>?_),λx hx=>?_⟩
 .rcases cJ.1 hi with rfl|hi
  .exact dU
  .rcases D1 i (by simpa using hi)with q|q
   .exact eI _ (by simpa using q)
   .omega
 .rcases D x hx with q|q
  .exact D1 x q
  .exact .inr (eY C1.n q)
def bC.other(B2:bC h0 h a2 b2 vc2 ov2 o2)(B:bC h0 h a b vc ov o)(C:cX (a::o.toList) h h')(hd:∀x∈a2::o2.toList,x∉a::o.toList):bC h0 h' a2 b2 vc2 ov2 o2:=
 B2.er C B.iQ (λx hx=>(B.own x hx).1) hd
def sj{C0 cs:List Value}(ha:h.f a= .row true 77 C0)(a0:h0.n<=a)(a1:a<h.n)(E:Ext h0 h)(hv:eC h b.v vc)(W:eV 43 aP h0 h o b.l ov)(hc:cs=iI b vc ov):bC h0 (h.set a (.row true 77 cs)) a b vc ov o where
 row:=by rw[hc];simp
 a0:=a0
 a1:=a1
 ext:=E.dp a0 _
 dv:=hv.er (jC h a _) (nQ ha)
 dR:=W.keep (λx hx=>lX _ _ (λz=>by
  obtain⟨cs',q⟩:=W.row x hx;rw[z,ha]at q;simp only[aW.row.injEq]at q;exact absurd q.2.1 (by decide))) (aX _)
end
end Go.Proofs.Ybk.K
namespace Go.Am
open Go
section
variable {P:Program}
def pU(P:Program)(E:TypeId->List Value->List Value->Option Bool):List Field->List Value->List Value->Option Bool
 |[],_,_=>some true
 |f::fs,xs,ys=>if f.name= "_" then none else match P.underlying f.type,dj P f.type with
  |some (.struct _),some n=>(E f.type ((xs.drop f.offset).take n) ((ys.drop f.offset).take n)).bind λr=>(pU P E fs xs ys).map (r&&·)
  |some (.struct _),none=>none
  |_,_=>(nq P [f] xs ys).bind λr=>(pU P E fs xs ys).map (r&&·)
def oc(P:Program):Nat->TypeId->List Value->List Value->Option Bool
 |0,_,_,_=>none
 |n+1,t,u,v=>if P.stoodInHeld t=false then match P.underlying t with
  |some (.struct fs)=>pU P (oc P n) fs.toList u v
  |_=>none else none
def Zd(d:Nat)(xs ys:Array Value)(f:Field)(fs:List Field):(Op.eqFields d xs ys (f::fs)).aU P=((Op.eqFields d xs ys [f]).aU P).bind λr=>if r=true then(Op.eqFields d xs ys fs).aU P else some false:=by
 simp only[Op.eqFields];by_cases hn:f.name≠ "_"
 .simp only[if_pos hn,cM];generalize (part f.type xs f.offset).aU P=r1;cases r1 with
  |none=>rfl
  |some a=>
   simp only[ep];generalize (part f.type ys f.offset).aU P=r2;cases r2 with
   |none=>rfl
   |some b=>
    simp only[ep];generalize (Op.equalIn d f.type a b).aU P=r3;cases r3 with
    |none=>rfl
    |some r=>cases r<;>rfl
 .simp only[if_neg hn];simp[Sem.aU,pure]
def Qq{t:TypeId}{gs:Array Field}{n:Nat}(hu:P.underlying t=some (.struct gs))(hs:dj P t=some n)(cs:List Value)(off:Nat):(part t ⟨cs⟩ off).aU P=some (.agg ⟨(cs.drop off).take n⟩):=by
 have h1:(isAgg t).aU P=some true:=by
  simp only[isAgg,cM,underlying,qu,ep,hu];simp[Sem.aU,pure]
 have h2:(sizeOf t).aU P=some n:=by
  unfold dj at hs;cases hi:P.info? t with
  |none=>simp[hi]at hs
  |some i=>
   simp[hi]at hs;simp[sizeOf,typeInfo,cM,qu,hi,hs,Sem.aU,pure]
 simp only[part,cM,h1,ep,if_true,h2];simp[Sem.aU,pure]
def Zf(d:Nat)(E:TypeId->List Value->List Value->Option Bool)(hE:∀t u v r,E t u v=some r->(Op.equalIn (d+1) t (.agg ⟨u⟩) (.agg ⟨v⟩)).aU P=some r):
  ∀(fs:List Field)(xs ys:List Value)(r:Bool),pU P E fs xs ys=some r->(Op.eqFields (d+1) ⟨xs⟩ ⟨ys⟩ fs).aU P=some r:=by
 intro fs;induction fs with
 |nil=>intro xs ys r h;simp only[pU,av]at h;subst h;rfl
 |cons f fs ih=>
  intro xs ys r h;rw[pU]at h;split at h
  .cases h
  .rename_i hn;rw[Zd];have fin:∀(o:Option Bool),(∀r1,o=some r1->(Op.eqFields (d+1) ⟨xs⟩ ⟨ys⟩ [f]).aU P=some r1)->(o.bind λr=>(pU P E fs xs ys).map (r&&·))=some r->
     (((Op.eqFields (d+1) ⟨xs⟩ ⟨ys⟩ [f]).aU P).bind λr=>if r=true then(Op.eqFields (d+1) ⟨xs⟩ ⟨ys⟩ fs).aU P else some false)=some r:=by
    intro o ho hb;cases o with
    |none=>cases hb
    |some r1=>
     rw[ho r1 rfl,ep];rw[ep]at hb;obtain⟨r2,h1,h2⟩:=Option.map_eq_some_iff.1 hb;cases r1 with
     |true=>rw[if_pos rfl,ih xs ys r2 h1,<-h2];rfl
     |false=>rw[<-h2];rfl
   split at h
   .rename_i gs n hu hs;refine fin _ (λr1 h1=>?_) h;simp only[Op.eqFields];rw[if_pos hn,cM,Qq hu hs,ep,cM,Qq hu hs,ep,cM,hE _ _ _ _ h1,ep];cases r1<;>rfl
   .cases h
   .exact fin _ (λr1 h1=>Ke d [f] xs ys r1 h1) h
def Kf:∀(n d:Nat)(t:TypeId)(u v:List Value)(r:Bool),n+1<=d->oc P n t u v=some r->(Op.equalIn d t (.agg ⟨u⟩) (.agg ⟨v⟩)).aU P=some r:=by
 intro n;induction n with
 |zero=>intro d t u v r _ h;cases h
 |succ n ih=>
  intro d t u v r hd h;rw[oc]at h;split at h;rotate_left
  .cases h
  rename_i hp;split at h;rotate_left
  .cases h
  rename_i fs hu;obtain⟨d',rfl⟩:∃d',d=d'+1+1:=⟨d-2,by omega⟩;rw[Kg (d'+1) t _ _ fs hu hp];exact Zf d' (oc P n) (λt u v r h=>ih (d'+1) t u v r (by omega) h) _ _ _ _ h
variable {σ:St}
def alr{t yt ty:TypeId}{x y:Operand}{u v:List Value}{r:Bool}{d:Option Nat}{pos:String}{aft:Array Edge}{g:Option (Nat×Bool)}(hx:aN σ x=some (.agg ⟨u⟩))(hy:aN σ y=some (.agg ⟨v⟩))(hg:P.eqGuardType P.depth t=false)(hu:u.all dz=true)(hv:v.all dz=true)(h:oc P 5 t u v=some r):
  dq P σ ⟨d,.binOp .eql t x y yt,ty,pos,aft,g⟩=some (.bool r,σ):=by
 have hr:=Kf 5 10000 t u v r (by omega) h;refine rH (op:=.eql) (xt:=t) (yt:=yt) rfl hx hy (by simpa[cB]using hu) (by simpa[cB]using hv) ?_ ?_ rfl
 .simp[eqGuard,cM,qu,hg,Sem.aU,pure]
 .have hr':(Op.equal t (.agg ⟨u⟩) (.agg ⟨v⟩)).aU P=some r:=hr;simp[binOp,cM,hr',Sem.aU,pure]
def RA{t yt ty:TypeId}{x y:Operand}{u v:List Value}{r:Bool}{d:Option Nat}{pos:String}{aft:Array Edge}{g:Option (Nat×Bool)}(hx:aN σ x=some (.agg ⟨u⟩))(hy:aN σ y=some (.agg ⟨v⟩))(hg:P.eqGuardType P.depth t=false)(hu:u.all dz=true)(hv:v.all dz=true)(h:oc P 5 t u v=some r):
  dq P σ ⟨d,.binOp .neq t x y yt,ty,pos,aft,g⟩=some (.bool (!r),σ):=by
 have hr:=Kf 5 10000 t u v r (by omega) h;refine rH (op:=.neq) (xt:=t) (yt:=yt) rfl hx hy (by simpa[cB]using hu) (by simpa[cB]using hv) ?_ ?_ rfl
 .simp[eqGuard,cM,qu,hg,Sem.aU,pure]
 .have hr':(Op.equal t (.agg ⟨u⟩) (.agg ⟨v⟩)).aU P=some r:=hr;simp[binOp,cM,hr',Sem.aU,pure]
end
end Go.Am
namespace Go.Proofs.Ybk
open Go Go.Am
def YQ:PP.eqGuardType PP.depth 43=false:=by kernel_rfl
def JU:PP.eqGuardType PP.depth 73=false:=by kernel_rfl
def Ro:PP.stoodInHeld 43=false:=by kernel_rfl
def akI:PP.stoodInHeld 73=false:=by kernel_rfl
def Rn:PP.stoodInHeld 29=false:=by kernel_rfl
def Zg(a1 a2 a3 a4 a5 a6 b1 b2 b3 b4 b5 b6:Int):oc PP 5 43 [.int .i64 a1,.int .i64 a2,.int .i64 a3,.int .i64 a4,.int .i64 a5,.int .i64 a6] [.int .i64 b1,.int .i64 b2,.int .i64 b3,.int .i64 b4,.int .i64 b5,.int .i64 b6]=
  some (decide (a1=b1)&&(decide (a2=b2)&&((decide (a3=b3)&&decide (a4=b4))&&(decide (a5=b5)&&decide (a6=b6))))):=by
 simp[oc,pU,nq,Ro,Rn]
def Zh(a0 a1 a2 a3 a4 a5 a6 a7 b0 b1 b2 b3 b4 b5 b6 b7:Int)(s t:ByteArray):oc PP 5 73 [.int .i64 a0,.string s,.int .i64 a1,.int .i64 a2,.int .i64 a3,.int .i64 a4,.int .i64 a5,.int .i64 a6,.int .i64 a7] [.int .i64 b0,.string t,.int .i64 b1,.int .i64 b2,.int .i64 b3,.int .i64 b4,.int .i64 b5,.int .i64 b6,.int .i64 b7]=
  some (decide (a0=b0)&&(decide (s=t)&&((decide (a1=b1)&&(decide (a2=b2)&&((decide (a3=b3)&&decide (a4=b4))&&(decide (a5=b5)&&decide (a6=b6)))))&&decide (a7=b7)))):=by
 simp[oc,pU,nq,Ro,Rn,akI]
noncomputable def po(t:TypeId)(u v:List Value):Option Bool:=if u.all dz=true/\v.all dz=true then oc PP 5 t u v else none
def acW(a1 a2 a3 a4 a5 a6 b1 b2 b3 b4 b5 b6:Int):po 43 [.int .i64 a1,.int .i64 a2,.int .i64 a3,.int .i64 a4,.int .i64 a5,.int .i64 a6] [.int .i64 b1,.int .i64 b2,.int .i64 b3,.int .i64 b4,.int .i64 b5,.int .i64 b6]=
  some (decide (a1=b1)&&(decide (a2=b2)&&((decide (a3=b3)&&decide (a4=b4))&&(decide (a5=b5)&&decide (a6=b6))))):=by
 unfold po;rw[if_pos ⟨rfl,rfl⟩,Zg]
def acX(a0 a1 a2 a3 a4 a5 a6 a7 b0 b1 b2 b3 b4 b5 b6 b7:Int)(s t:ByteArray):po 73 [.int .i64 a0,.string s,.int .i64 a1,.int .i64 a2,.int .i64 a3,.int .i64 a4,.int .i64 a5,.int .i64 a6,.int .i64 a7] [.int .i64 b0,.string t,.int .i64 b1,.int .i64 b2,.int .i64 b3,.int .i64 b4,.int .i64 b5,.int .i64 b6,.int .i64 b7]=
  some (decide (a0=b0)&&(decide (s=t)&&((decide (a1=b1)&&(decide (a2=b2)&&((decide (a3=b3)&&decide (a4=b4))&&(decide (a5=b5)&&decide (a6=b6)))))&&decide (a7=b7)))):=by
 unfold po;rw[if_pos ⟨rfl,rfl⟩,Zh]
noncomputable def rP(σ:St)(o:Oper):Option (Value×St):=dq PP σ o
section
variable {σ:St} {ty yt:TypeId} {x y:Operand} {d:Option Nat} {pos:String} {aft:Array Edge} {g:Option (Nat×Bool)}
def PG:dq PP σ ⟨d,.binOp .neq 43 x y yt,ty,pos,aft,g⟩=match aN σ x,aN σ y with
  |some (.agg u),some (.agg v)=>(match po 43 u.toList v.toList with
   |some r=>some (.bool (!r),σ)
   |none=>rP σ ⟨d,.binOp .neq 43 x y yt,ty,pos,aft,g⟩)
  |_,_=>rP σ ⟨d,.binOp .neq 43 x y yt,ty,pos,aft,g⟩:=by
 split
 .rename_i u v hx hy;split
  .rename_i r hr;unfold po at hr;split at hr
   .rename_i hf;exact RA (u:=u.toList) (v:=v.toList) hx hy YQ hf.1 hf.2 hr
   .cases hr
  .rfl
 .rfl
def PH:dq PP σ ⟨d,.binOp .neq 73 x y yt,ty,pos,aft,g⟩=match aN σ x,aN σ y with
  |some (.agg u),some (.agg v)=>(match po 73 u.toList v.toList with
   |some r=>some (.bool (!r),σ)
   |none=>rP σ ⟨d,.binOp .neq 73 x y yt,ty,pos,aft,g⟩)
  |_,_=>rP σ ⟨d,.binOp .neq 73 x y yt,ty,pos,aft,g⟩:=by
 split
 .rename_i u v hx hy;split
  .rename_i r hr;unfold po at hr;split at hr
   .rename_i hf;exact RA (u:=u.toList) (v:=v.toList) hx hy JU hf.1 hf.2 hr
   .cases hr
  .rfl
 .rfl
def Zi:dq PP σ ⟨d,.binOp .eql 73 x y yt,ty,pos,aft,g⟩=match aN σ x,aN σ y with
  |some (.agg u),some (.agg v)=>(match po 73 u.toList v.toList with
   |some r=>some (.bool r,σ)
   |none=>rP σ ⟨d,.binOp .eql 73 x y yt,ty,pos,aft,g⟩)
  |_,_=>rP σ ⟨d,.binOp .eql 73 x y yt,ty,pos,aft,g⟩:=by
 split
 .rename_i u v hx hy;split
  .rename_i r hr;unfold po at hr;split at hr
   .rename_i hf;exact alr (u:=u.toList) (v:=v.toList) hx hy JU hf.1 hf.2 hr
   .cases hr
  .rfl
 .rfl
def aaQ(n:Nat):(Op.equalIn (n+1) 26 (.pointer none) (.pointer none)).aU PP=some true:=by
 simp only[Op.equalIn,cM,pG RV,ep];rfl
def KJ:(Op.equal 26 (.pointer none) (.pointer none)).aU PP=some true:=aaQ 9999
def Zj:dq PP σ ⟨d,.binOp .eql 26 x y yt,ty,pos,aft,g⟩=match aN σ x,aN σ y with
  |some (.pointer none),some (.pointer none)=>some (.bool true,σ)
  |_,_=>rP σ ⟨d,.binOp .eql 26 x y yt,ty,pos,aft,g⟩:=by
 split
 .rename_i hx hy;refine rH (op:=.eql) (xt:=26) (yt:=yt) rfl hx hy rfl rfl ?_ ?_ rfl
  .simp[eqGuard,Sem.aU,pure]
  .show(do pure (.bool (<-Op.equal 26 (.pointer none) (.pointer none))):Sem Value).aU PP=_;rw[cM,KJ];rfl
 .rfl
def ack:dq PP σ ⟨d,.binOp .neq 26 x y yt,ty,pos,aft,g⟩=match aN σ x,aN σ y with
  |some (.pointer none),some (.pointer none)=>some (.bool false,σ)
  |_,_=>rP σ ⟨d,.binOp .neq 26 x y yt,ty,pos,aft,g⟩:=by
 split
 .rename_i hx hy;refine rH (op:=.neq) (xt:=26) (yt:=yt) rfl hx hy rfl rfl ?_ ?_ rfl
  .simp[eqGuard,Sem.aU,pure]
  .show(do pure (.bool (!(<-Op.equal 26 (.pointer none) (.pointer none)))):Sem Value).aU PP=_;rw[cM,KJ];rfl
 .rfl
end
attribute [simp] Zj ack PG PH Zi acW acX
end Go.Proofs.Ybk
namespace Go.Proofs.Ybk.K
open Go Go.Am
set_option maxHeartbeats 4000000
open V (au aR ai ao aZ ab bg aK aE cA cG a8 bL qH qI)
def xk{α:Type}(s u:Value)(xs ys:List α)(m:Nat)(h:aa)(n:Nat)(σ:St):Prop:=∃i:Nat,n=m-i/\i<=m/\σ.m.h=h/\σ.t.get 0=some s/\σ.t.get 1=some u/\σ.t.get 12=some (.int .i64 (m:Nat))/\σ.t.get 13=some (.int .i64 (i:Nat))/\xs.take i=ys.take i
def Zl(s u:Value)(xs ys:List aB)(hl:xs.length<=1073741824)(h:aa)(Hs:dt 43 aP h s xs)(Hu:dt 43 aP h u ys):al PP 44 [s,u] h (λr h'=>h'=h/\r= .bool (decide (xs=ys))):=by
 refine aC Tryz.func44 aho ?_;simp only[aA,Tryz.f44];obtain⟨ad1,c1,rfl⟩:=Hs.shape;obtain⟨ad2,c2,rfl⟩:=Hu.shape;by_cases q:(xs.length:Int)=ys.length;rotate_left
 .have:¬xs=ys:=λe=>q (by rw[e]);simp -implicitDefEqProofs[q,this]
 obtain⟨m,hm⟩:=nm xs.length;have hm2:ys.length=m:=by omega
 rw[<-hm]at Hs hl ⊢;rw[hm2]at Hu ⊢;clear q;obtain⟨D,hD⟩:=nm (decide (xs=ys));rw[<-hD];simp -implicitDefEqProofs;refine bG (xk (.slice ad1 m c1) (.slice ad2 m c2) xs ys m h) _ ⟨0,rfl,by omega,rfl,by simp⟩ ?_;rintro n ⟨T,⟨x,H⟩⟩ ⟨i,rfl,hi,hH,g0,g1,g12,g13,ht⟩;simp at hH g0 g1 g12 g13;subst hH;simp -implicitDefEqProofs[g0,g1,g12,g13];refine bR (λhc=>?_) (λhc=>?_)
 .have him:i<m:=by omega
  have hA:xs[i]? =some xs[i]:=aq (by omega);have hB:ys[i]? =some ys[i]:=aq (by omega);obtain⟨_,b1,o1,wb1,cs1,r1,rfl,bD,hd1,hl1,_⟩:=Hs.at 6 iA hA;obtain⟨_,b2,o2,wb2,cs2,r2,rfl,bN,hd2,hl2,_⟩:=Hu.at 6 iA hB;obtain⟨a',hea⟩:∃z,z=xs[i]:=⟨_,rfl⟩;obtain⟨b',heb⟩:∃z,z=ys[i]:=⟨_,rfl⟩;rw[<-hea]at hd1 hA;rw[<-heb]at hd2 hB;have w1:=bO (i:=i) (by omega);obtain⟨id,st,⟨sz,wh⟩,tl,fi⟩:=a';obtain⟨id2,st2,⟨wX,wh2⟩,tl2,fi2⟩:=b';simp -implicitDefEqProofs[g0,g1,g12,g13,him,bD,bN,hd1,hd2,hl1,hl2,aP,PG];refine jk (λhq=>?_) (λhq=>?_)
  .have hne:¬xs=ys:=qH hA hB (λe=>by simp only[aB.mk.injEq,aQ.mk.injEq]at e;simp[e.1,e.2.1,e.2.2.1.1,e.2.2.1.2,e.2.2.2.1,e.2.2.2.2]at hq);simp -implicitDefEqProofs;rw[hD];simp[hne]
  .simp at hq;obtain⟨rfl,rfl,⟨rfl,rfl⟩,rfl,rfl⟩:=hq;simp -implicitDefEqProofs[g0,g1,g12,g13,w1];exact⟨m-(i+1),by omega,i+1,rfl,by omega,rfl,by simp[g0],by simp[g1],by simp[g12],by simp,qI hA hB ht⟩
 .have e:i=m:=by omega
  subst e;have he:xs=ys:=by rw[b9 (by omega),b9 (by omega)]at ht;exact ht
  simp -implicitDefEqProofs;rw[hD];simp[he]
def Zn(s u:Value)(xs ys:List au)(hl:xs.length<=1073741824)(h:aa)(Hs:dt 99 ao h s xs)(Hu:dt 99 ao h u ys):al PP 81 [s,u] h (λr h'=>h'=h/\r= .bool (decide (xs=ys))):=by
 refine aC Tryz.func81 ahN ?_;simp only[aA,Tryz.f81];obtain⟨ad1,c1,rfl⟩:=Hs.shape;obtain⟨ad2,c2,rfl⟩:=Hu.shape;by_cases q:(xs.length:Int)=ys.length;rotate_left
 .have:¬xs=ys:=λe=>q (by rw[e]);simp -implicitDefEqProofs[q,this]
 obtain⟨m,hm⟩:=nm xs.length;have hm2:ys.length=m:=by omega
 rw[<-hm]at Hs hl ⊢;rw[hm2]at Hu ⊢;clear q;obtain⟨D,hD⟩:=nm (decide (xs=ys));rw[<-hD];simp -implicitDefEqProofs;refine bG (xk (.slice ad1 m c1) (.slice ad2 m c2) xs ys m h) _ ⟨0,rfl,by omega,rfl,by simp⟩ ?_;rintro n ⟨T,⟨x,H⟩⟩ ⟨i,rfl,hi,hH,g0,g1,g12,g13,ht⟩;simp at hH g0 g1 g12 g13;subst hH;simp -implicitDefEqProofs[g0,g1,g12,g13];refine bR (λhc=>?_) (λhc=>?_)
 .have him:i<m:=by omega
  have hA:xs[i]? =some xs[i]:=aq (by omega);have hB:ys[i]? =some ys[i]:=aq (by omega);obtain⟨_,b1,o1,wb1,cs1,r1,rfl,bD,hd1,hl1,_⟩:=Hs.at 4 V.fD hA;obtain⟨_,b2,o2,wb2,cs2,r2,rfl,bN,hd2,hl2,_⟩:=Hu.at 4 V.fD hB;obtain⟨a',hea⟩:∃z,z=xs[i]:=⟨_,rfl⟩;obtain⟨b',heb⟩:∃z,z=ys[i]:=⟨_,rfl⟩;rw[<-hea]at hd1 hA;rw[<-heb]at hd2 hB;have w1:=bO (i:=i) (by omega);obtain⟨ar,ax,ay,ak⟩:=a';obtain⟨ar2,ax2,ay2,VG⟩:=b';simp -implicitDefEqProofs[g0,g1,g12,g13,him,bD,bN,hd1,hd2,hl1,hl2,ao];refine jk (λhq=>?_) (λhq=>?_)
  .have hne:¬xs=ys:=qH hA hB (λe=>by simp only[au.mk.injEq]at e;simp[e.1,e.2.1,e.2.2.1,e.2.2.2]at hq);simp -implicitDefEqProofs;rw[hD];simp[hne]
  .simp at hq;obtain⟨rfl,rfl,rfl,rfl⟩:=hq;simp -implicitDefEqProofs[g0,g1,g12,g13,w1];exact⟨m-(i+1),by omega,i+1,rfl,by omega,rfl,by simp[g0],by simp[g1],by simp[g12],by simp,qI hA hB ht⟩
 .have e:i=m:=by omega
  subst e;have he:xs=ys:=by rw[b9 (by omega),b9 (by omega)]at ht;exact ht
  simp -implicitDefEqProofs;rw[hD];simp[he]
def Zk(s u:Value)(xs ys:List Int)(hl:xs.length<=1073741824)(h:aa)(Hs:dt 3 ab h s xs)(Hu:dt 3 ab h u ys):al PP 82 [s,u] h (λr h'=>h'=h/\r= .bool (decide (xs=ys))):=by
 refine aC Tryz.func82 ahO ?_;simp only[aA,Tryz.f82];obtain⟨ad1,c1,rfl⟩:=Hs.shape;obtain⟨ad2,c2,rfl⟩:=Hu.shape;by_cases q:(xs.length:Int)=ys.length;rotate_left
 .have:¬xs=ys:=λe=>q (by rw[e]);simp -implicitDefEqProofs[q,this]
 obtain⟨m,hm⟩:=nm xs.length;have hm2:ys.length=m:=by omega
 rw[<-hm]at Hs hl ⊢;rw[hm2]at Hu ⊢;clear q;obtain⟨D,hD⟩:=nm (decide (xs=ys));rw[<-hD];simp -implicitDefEqProofs;refine bG (xk (.slice ad1 m c1) (.slice ad2 m c2) xs ys m h) _ ⟨0,rfl,by omega,rfl,by simp⟩ ?_;rintro n ⟨T,⟨x,H⟩⟩ ⟨i,rfl,hi,hH,g0,g1,g12,g13,ht⟩;simp at hH g0 g1 g12 g13;subst hH;simp -implicitDefEqProofs[g0,g1,g12,g13];refine bR (λhc=>?_) (λhc=>?_)
 .have him:i<m:=by omega
  have hA:xs[i]? =some xs[i]:=aq (by omega);have hB:ys[i]? =some ys[i]:=aq (by omega);obtain⟨_,b1,o1,wb1,cs1,r1,rfl,bD,hd1,hl1,_⟩:=Hs.at 1 V.dY hA;obtain⟨_,b2,o2,wb2,cs2,r2,rfl,bN,hd2,hl2,_⟩:=Hu.at 1 V.dY hB;obtain⟨a',hea⟩:∃z,z=xs[i]:=⟨_,rfl⟩;obtain⟨b',heb⟩:∃z,z=ys[i]:=⟨_,rfl⟩;rw[<-hea]at hd1 hA;rw[<-heb]at hd2 hB;have w1:=bO (i:=i) (by omega);rw[Nat.mul_one]at hd1 hd2 hl1 hl2;simp -implicitDefEqProofs[g0,g1,g12,g13,him,bD,bN,hd1,hd2,hl1,hl2,ab];refine jk (λhq=>?_) (λhq=>?_)
  .have hne:¬xs=ys:=qH hA hB (λe=>by simp[e]at hq);simp -implicitDefEqProofs;rw[hD];simp[hne]
  .simp at hq;subst hq;simp -implicitDefEqProofs[g0,g1,g12,g13,w1];exact⟨m-(i+1),by omega,i+1,rfl,by omega,rfl,by simp[g0],by simp[g1],by simp[g12],by simp,qI hA hB ht⟩
 .have e:i=m:=by omega
  subst e;have he:xs=ys:=by rw[b9 (by omega),b9 (by omega)]at ht;exact ht
  simp -implicitDefEqProofs;rw[hD];simp[he]
def Zm(s u:Value)(xs ys:List aR)(hl:xs.length<=1073741824)(h:aa)(Hs:dt 103 aZ h s xs)(Hu:dt 103 aZ h u ys):al PP 83 [s,u] h (λr h'=>h'=h/\r= .bool (decide (xs=ys))):=by
 refine aC Tryz.func83 ahP ?_;simp only[aA,Tryz.f83];obtain⟨ad1,c1,rfl⟩:=Hs.shape;obtain⟨ad2,c2,rfl⟩:=Hu.shape;by_cases q:(xs.length:Int)=ys.length;rotate_left
 .have:¬xs=ys:=λe=>q (by rw[e]);simp -implicitDefEqProofs[q,this]
 obtain⟨m,hm⟩:=nm xs.length;have hm2:ys.length=m:=by omega
 rw[<-hm]at Hs hl ⊢;rw[hm2]at Hu ⊢;clear q;obtain⟨D,hD⟩:=nm (decide (xs=ys));rw[<-hD];simp -implicitDefEqProofs;refine bG (xk (.slice ad1 m c1) (.slice ad2 m c2) xs ys m h) _ ⟨0,rfl,by omega,rfl,by simp⟩ ?_;rintro n ⟨T,⟨x,H⟩⟩ ⟨i,rfl,hi,hH,g0,g1,g12,g13,ht⟩;simp at hH g0 g1 g12 g13;subst hH;simp -implicitDefEqProofs[g0,g1,g12,g13];refine bR (λhc=>?_) (λhc=>?_)
 .have him:i<m:=by omega
  have hA:xs[i]? =some xs[i]:=aq (by omega);have hB:ys[i]? =some ys[i]:=aq (by omega);obtain⟨_,b1,o1,wb1,cs1,r1,rfl,bD,hd1,hl1,_⟩:=Hs.at 3 V.pE hA;obtain⟨_,b2,o2,wb2,cs2,r2,rfl,bN,hd2,hl2,_⟩:=Hu.at 3 V.pE hB;obtain⟨a',hea⟩:∃z,z=xs[i]:=⟨_,rfl⟩;obtain⟨b',heb⟩:∃z,z=ys[i]:=⟨_,rfl⟩;rw[<-hea]at hd1 hA;rw[<-heb]at hd2 hB;have w1:=bO (i:=i) (by omega);obtain⟨ax,ay,ar⟩:=a';obtain⟨ax2,ay2,ar2⟩:=b';simp -implicitDefEqProofs[g0,g1,g12,g13,him,bD,bN,hd1,hd2,hl1,hl2,aZ];refine jk (λhq=>?_) (λhq=>?_)
  .have hne:¬xs=ys:=qH hA hB (λe=>by simp only[aR.mk.injEq]at e;simp[e.1,e.2.1,e.2.2]at hq);simp -implicitDefEqProofs;rw[hD];simp[hne]
  .simp at hq;obtain⟨rfl,rfl,rfl⟩:=hq;simp -implicitDefEqProofs[g0,g1,g12,g13,w1];exact⟨m-(i+1),by omega,i+1,rfl,by omega,rfl,by simp[g0],by simp[g1],by simp[g12],by simp,qI hA hB ht⟩
 .have e:i=m:=by omega
  subst e;have he:xs=ys:=by rw[b9 (by omega),b9 (by omega)]at ht;exact ht
  simp -implicitDefEqProofs;rw[hD];simp[he]
end Go.Proofs.Ybk.K
namespace Go.Proofs.Ybk.K
open Go Go.Am
set_option maxHeartbeats 4000000
open V (au aR ai ao aZ ab bg aK aE cA cG a8 bL)
section
variable {h0 h h':aa} {a:Nat} {b:aI} {vc:List Value} {ov:Value} {o:Option Nat}
def IA(hl:b.l.length<=1073741824)(B:bC h0 h a b vc ov o):al PP 35 [.pointer (some ⟨a,0,none⟩)] h (λr h'=>Ext h h'/\∃a' ov' o',r= .pointer (some ⟨a',0,none⟩)/\bC h h' a' b vc ov' o'):=by
 refine aC Tryz.func35 ahe ?_;simp only[aA,Tryz.f35];obtain⟨a1,n1,c1,g,r,a2,n2,c2,a3,n3,c3,a4,n4,c4,rfl,rfl,rfl,hrow⟩:=B.cells;have hne:¬a=h.n:=by have:=B.a1;omega
 simp -implicitDefEqProofs[hrow,hne];obtain⟨G,hG⟩:=nm ((h.new (.row true 77 [.int .i64 0,.bool false,.slice none 0 0,.int .i64 0,.int .i64 0,.slice none 0 0,.slice none 0 0,.slice none 0 0,.int .i64 0])).set h.n (.row true 77 [.int .i64 b.fuel,.bool b.has,.slice a1 n1 c1,.int .i64 g,.int .i64 r,.slice a2 n2 c2,.slice a3 n3 c3,.slice a4 b.l.length c4,.int .i64 b.now]));rw[<-hG];have EG:Ext h G:=by rw[hG];exact(Ext.new h _).dp (aX _) _
 have hGn:G.n=h.n+1:=by rw[hG];rfl
 have hGf:G.f h.n= .row true 77 [.int .i64 b.fuel,.bool b.has,.slice a1 n1 c1,.int .i64 g,.int .i64 r,.slice a2 n2 c2,.slice a3 n3 c3,.slice a4 b.l.length c4,.int .i64 b.now]:=by rw[hG];simp
 have BG:=B.exts EG;refine(Ie _ b.l hl G BG.dR.sl).mono ?_;rintro w F ⟨EF,W⟩;obtain⟨o',W'⟩:=Ow.iN W;obtain⟨ad,rfl,_⟩:=id W;have hFf:F.f h.n=G.f h.n:=EF.f _ (by omega);rw[hGf]at hFf;simp -implicitDefEqProofs[af,hFf];intro _;have hF:Ext h F:=EG.trans EF;refine⟨hF.dp (aX _) _,_,o',sj hFf (aX _) (by have:=EF.n;omega) hF (B.dv.ext hF) ((aiH W').low EG.n) rfl⟩
def aoe(hm:b.has=true->aK b.v=true)(B:bC h0 h a b vc ov o):al PP 29 [.pointer (some ⟨a,0,none⟩)] h (λr h'=>Ext h h'/\if b.has then∃vc',eC h' b.v vc'/\r= .tuple #[.agg ⟨vc'⟩,.bool true]else r= .tuple #[.agg ⟨V.jv⟩,.bool false]):=by
 refine al.jM (post:=λr h'=>Ext h h'/\if b.has then∃vc',V.nW h h' b.v vc'/\r= .tuple #[.agg ⟨vc'⟩,.bool true]else r= .tuple #[.agg ⟨V.jv⟩,.bool false]) ?_ (λv h' ⟨E,z⟩=>by
  by_cases q:b.has=true
  .rw[if_pos q]at z;obtain⟨vc',N,e⟩:=z;obtain⟨F,W,EF,S⟩:=Sm N E;exact⟨F,W,EF,by rw[if_pos q];exact⟨vc',S,e⟩⟩
  .rw[if_neg q]at z;exact⟨h',Wk.refl _,E,by rw[if_neg q];exact z⟩)
 refine aC Tryz.func29 agV ?_;simp only[aA,Tryz.f29];have hv:=B.dv;obtain⟨a1,n1,c1,g,r,a2,n2,c2,a3,n3,c3,a4,n4,c4,rfl,rfl,rfl,hrow⟩:=B.cells;by_cases q:b.has=true;rotate_left
 .have q':b.has=false:=by simpa using q
  simp -implicitDefEqProofs[hrow,q',V.jv];exact Ext.bJ h
 .have M:=jF (hm q);obtain⟨s,k,p,e,h1,h2,h3⟩:=id hv;simp only[List.cons.injEq,Value.int.injEq,true_and,and_true]at e;obtain⟨rfl,rfl,rfl,rfl,rfl⟩:=e;have hl:=M.len;have hk:=M.vZ;have hp:=M.wH;simp -implicitDefEqProofs[hrow,q];refine(V.Ii _ b.v.ag (by omega) h h1.sl).mono ?_;rintro w1 F1 ⟨E1,W1⟩;obtain⟨ad1,rfl,_⟩:=id W1;simp -implicitDefEqProofs[aF];intro _;refine(Ic _ b.v.aD (by omega) F1 (h2.ext E1).sl).mono ?_;rintro w2 F2 ⟨E2,W2⟩;obtain⟨ad2,rfl,_⟩:=id W2;simp -implicitDefEqProofs[aF];intro _;refine(V.Ih _ b.v.aG (by omega) F2 ((h3.ext E1).ext E2).sl).mono ?_;rintro w3 F3 ⟨E3,W3⟩;obtain⟨ad3,rfl,_⟩:=id W3;simp -implicitDefEqProofs[aF];intro _;exact⟨(E1.trans E2).trans E3,⟨_,_,_,rfl,((V.jx.of W1 (aX _)).ext E2).ext E3,(V.jx.of W2 E1.n).ext E3,V.jx.of W3 (eY E1.n E2.n)⟩⟩
end
end Go.Proofs.Ybk.K
namespace Go.Proofs.Ybk.T
open Go Go.Am
set_option maxHeartbeats 2000000
def RH{α:Type}(l:List α)(a n m:Nat):((l.drop a).take n).drop m=(l.take (a+n)).drop (a+m):=by
 rw[<-eh (i:=m) (j:=a)];conv=>rhs;rw[List.drop_take,show a+n-a=n by omega]
def acS(l:List UInt8)(a k:Nat):gx l (a+k)=⟨(gx (l.drop a) k).n,a+(gx (l.drop a) k).to,(gx (l.drop a) k).ok⟩:=by
 have hg:∀j,l[a+j]? =(l.drop a)[j]? :=λj=>by rw[List.getElem?_drop]
 have hm:gq l (a+k)=gq (l.drop a) k:=by
  unfold gq;rw[bu,bu,hg]
 have ht:je l (a+k)=je (l.drop a) k:=by
  unfold je;rw[hm,eh,Nat.add_assoc]
 have hn:mC l (a+k)=mC (l.drop a) k:=by
  unfold mC;rw[hm,ht,eh,Nat.add_assoc]
 unfold gx j8;rw[hm,ht,hn];split
 .rfl
 .have e:a+k+gq (l.drop a) k+je (l.drop a) k=a+(k+gq (l.drop a) k+je (l.drop a) k):=by omega
  rw[e,hg]
def Y4(l:List UInt8)(a k:Nat):jQ l (a+k)=jQ (l.drop a) k:=by
 unfold jQ;rw[List.getElem?_drop]
def acA(l:List UInt8)(a:Nat)(ln aj:Int):bE l a ln aj=⟨(bE (l.drop a) 0 ln aj).tok,a+(bE (l.drop a) 0 ln aj).to,(bE (l.drop a) 0 ln aj).ln,(bE (l.drop a) 0 ln aj).aj,(bE (l.drop a) 0 ln aj).code⟩:=by
 unfold bE;rw[List.drop_zero,iG];generalize hk:dL false (l.drop a)=k;unfold iy;have hg:l[a+k]? =(l.drop a)[k]? :=by rw[List.getElem?_drop]
 have hc:∀j:Nat,aj+((a+j:Nat):Int)-(a:Int)=aj+(j:Int)-((0:Nat):Int):=λj=>by omega
 rw[hg];cases hx:(l.drop a)[k]? with
 |none=>simp only[hc]
 |some c=>
  dsimp only;by_cases h3:cQ c.toNat=3
  .simp only[h3,if_true,hc];rfl
  .simp only[h3,if_false];by_cases h4:cQ c.toNat=4
   .simp only[h4,if_true];have e1:eU 4 (l.drop (a+k))=eU 4 ((l.drop a).drop k):=(by rw[eh]);have e2:a+k+eU 4 ((l.drop a).drop k)=a+(k+eU 4 ((l.drop a).drop k)):=(by omega);rw[e1,e2,Y4];split
    .simp only[hc,<-RH]
    .simp only[hc,ie]
   .simp only[h4,if_false];by_cases h5:cQ c.toNat=6∨cQ c.toNat=5
    .simp only[h5,if_true];rw[acS];dsimp only;split
     .simp only[hc,<-RH]
     .simp only[hc,ie]
    .simp only[h5,if_false,hc,ie]
def zQ(l:List UInt8):∀(n a:Nat)(ln aj:Int),eM l n a ln aj=eM (l.drop a) n 0 ln aj:=by
 intro n;induction n generalizing l with
 |zero=>intro a ln aj;rfl
 |succ n ih=>
  intro a ln aj;rw[eM,eM,acA l a];dsimp only;have e:∀(ln' col':Int),eM l n (a+(bE (l.drop a) 0 ln aj).to) ln' col'=eM (l.drop a) n (bE (l.drop a) 0 ln aj).to ln' col':=λln' col'=>by
   rw[ih l,ih (l.drop a),eh]
  rw[e]
def PQ(l:List UInt8)(ln aj:Int):(bE l 0 ln aj).to=(bE l 0 1 1).to/\(bE l 0 ln aj).code=(bE l 0 1 1).code:=by
 unfold bE iy;generalize 0+dL false (l.drop 0)=k;cases l[k]? with
 |none=>exact⟨rfl,rfl⟩
 |some c=>
  dsimp only;(repeat' split)<;>exact⟨rfl,rfl⟩
def Be{l:List UInt8}{ln aj:Int}(hc:(bE l 0 ln aj).code=0):0<(bE l 0 ln aj).to/\(bE l 0 ln aj).to<=l.length:=by
 rw[(PQ l ln aj).2]at hc;rw[(PQ l ln aj).1];have:=Bb (l:=l) (a:=0) (ln:=1) (aj:=1) (by omega) (by omega) (by omega) hc;exact⟨this.1,this.2.1⟩
def VK:∀(n m:Nat)(t:List UInt8)(ln aj:Int),t.length<n->t.length<m->eM t n 0 ln aj=eM t m 0 ln aj:=by
 intro n;induction n with
 |zero=>intro m t ln aj h;omega
 |succ n ih=>
  intro m t ln aj h1 h2;cases m with
  |zero=>omega
  |succ m=>
   rw[eM,eM];by_cases hc:(bE t 0 ln aj).code=0
   .have hs:=Be hc;simp only[hc,if_true];have hl:(t.drop (bE t 0 ln aj).to).length=t.length-(bE t 0 ln aj).to:=eX;rw[zQ t n,zQ t m,ih m _ _ _ (by omega) (by omega)]
   .simp only[hc,if_false]
def eo(t:List UInt8)(ln aj:Int):zx:=eM t (t.length+1) 0 ln aj
def abg(l:List UInt8):bX l=eo l 1 1:=rfl
def yo(t:List UInt8)(ln aj:Int):eo t ln aj=
  if(bE t 0 ln aj).code=0 then⟨(bE t 0 ln aj).tok::(eo (t.drop (bE t 0 ln aj).to) (bE t 0 ln aj).ln (bE t 0 ln aj).aj).ts,(eo (t.drop (bE t 0 ln aj).to) (bE t 0 ln aj).ln (bE t 0 ln aj).aj).ln,
   (eo (t.drop (bE t 0 ln aj).to) (bE t 0 ln aj).ln (bE t 0 ln aj).aj).aj,(eo (t.drop (bE t 0 ln aj).to) (bE t 0 ln aj).ln (bE t 0 ln aj).aj).code⟩
  else if(bE t 0 ln aj).code=4 then⟨[],(bE t 0 ln aj).ln,(bE t 0 ln aj).aj,0⟩else⟨[],(bE t 0 ln aj).ln,(bE t 0 ln aj).aj,(bE t 0 ln aj).code⟩:=by
 unfold eo;rw[eM];by_cases hc:(bE t 0 ln aj).code=0
 .have hs:=Be hc;have hl:(t.drop (bE t 0 ln aj).to).length=t.length-(bE t 0 ln aj).to:=eX;simp only[hc,if_true];rw[zQ t,VK t.length ((t.drop (bE t 0 ln aj).to).length+1) _ _ _ (by omega) (by omega)]
 .simp only[hc,if_false]
def lI(b:List UInt8):Prop:=∀c∈b,c.toNat≠10
def acG{b:List UInt8}(h:lI b)(k:Nat):lI (b.drop k):=λc hc=>h c (List.mem_of_mem_drop hc)
def akX(post:List UInt8):∀(b:List UInt8)(f:Bool),lI b->dL f (b++10::post)=dL f b:=by
 intro b;induction b with
 |nil=>
  intro f _;cases f with
  |true=>rw[dJ,dL];rfl
  |false=>rw[dJ,dL];rfl
 |cons c r ih=>
  intro f h;have hr:lI r:=λx hx=>h x (eI _ hx);cases f with
  |true=>rw[dB,dL,dL,ih _ hr]
  |false=>rw[dB,dL,dL,ih _ hr,ih _ hr]
def Re(post:List UInt8)(k:Nat)(hk:k≠3):∀(b:List UInt8),eU k (b++10::post)=eU k b:=by
 intro b;induction b with
 |nil=>
  have h3:¬cQ (10:UInt8).toNat=k:=by show¬(3:Nat)=k;omega
  rw[dJ];show(if cQ (10:UInt8).toNat=k then eU k post+1 else 0)=0;rw[if_neg h3]
 |cons c r ih=>rw[dB,eU,eU,ih]
def xW{b post:List UInt8}{k:Nat}(h:k<b.length):(b++10::post)[k]? =b[k]? :=ji h
def AI{b post:List UInt8}:(b++10::post)[b.length]? =some 10:=by simp
def acR{b post:List UInt8}{k:Nat}(hk:k<b.length):gx (b++10::post) k=gx b k:=by
 have hm:gq (b++10::post) k=gq b k:=by
  unfold gq;rw[bu,bu,xW hk]
 have hm1:gq b k<=1:=by unfold gq;split<;>omega
 have hd:(b++10::post).drop (k+gq b k)=b.drop (k+gq b k)++10::post:=List.drop_append_of_le_length (by omega);have ht:je (b++10::post) k=je b k:=by
  unfold je;rw[hm,hd,Re post 5 (by decide)]
 have htl:je b k<=(b.drop (k+gq b k)).length:=u7 5 _;have hn:mC (b++10::post) k=mC b k:=by
  unfold mC;rw[hm,ht,hd,List.take_append_of_le_length htl]
 unfold gx j8;rw[hm,ht,hn];split
 .rfl
 .rw[eX]at htl;congr 1;rcases Nat.lt_or_ge (k+gq b k+je b k) b.length with z|z
  .rw[xW z]
  .have e:k+gq b k+je b k=b.length:=(by omega);rw[e,AI,iT (aX _)];rfl
def Y3{b post:List UInt8}{k:Nat}(hk:k<=b.length):jQ (b++10::post) k=jQ b k:=by
 unfold jQ;rcases Nat.lt_or_ge k b.length with z|z
 .rw[xW z]
 .have e:k=b.length:=by omega
  rw[e,AI,iT (aX _)];rfl
def RG{b post:List UInt8}{n:Nat}(h:n<=b.length):(b++10::post).take n=b.take n:=List.take_append_of_le_length h
def acx{b:List UInt8}(post:List UInt8)(hb:lI b)(ln aj:Int):
  ((bE b 0 ln aj).code≠4->bE (b++10::post) 0 ln aj=bE b 0 ln aj)/\
  ((bE b 0 ln aj).code=4->bE (b++10::post) 0 ln aj=⟨⟨3,0,ln,(bE b 0 ln aj).aj,[]⟩,b.length+1,ln+1,1,0⟩)/\(bE b 0 ln aj).ln=ln:=by
 unfold bE;rw[List.drop_zero,List.drop_zero,iG,iG,akX post b false hb];have hkl:=Rv false b;revert hkl;generalize dL false b=k;intro hkl;unfold iy;rcases Nat.lt_or_ge k b.length with z|z
 .rw[xW z];have hx:b[k]? =some b[k]:=aq z;have h10:=hb b[k] (fG z);generalize b[k]=c at hx h10;rw[hx];dsimp only;have h3:¬cQ c.toNat=3:=by
   intro q;unfold cQ at q;(repeat' split at q)<;>omega
  simp only[h3,if_false];by_cases h4:cQ c.toNat=4
  .simp only[h4,if_true];have e1:eU 4 ((b++10::post).drop k)=eU 4 (b.drop k):=(by rw[List.drop_append_of_le_length hkl,Re post 4 (by decide)]);have hle:k+eU 4 (b.drop k)<=b.length:=(by have:=u7 4 (b.drop k);rw[eX]at this;omega);rw[e1,Y3 hle,RG hle];split
   .exact⟨λ_=>rfl,λq=>by exfalso;revert q;dsimp only;omega,rfl⟩
   .exact⟨λ_=>rfl,λq=>by exfalso;revert q;dsimp only;omega,rfl⟩
  .simp only[h4,if_false];by_cases h5:cQ c.toNat=6∨cQ c.toNat=5
   .simp only[h5,if_true];rw[acR z];have hle:=Bi b k hkl;rw[RG hle];split
    .exact⟨λ_=>rfl,λq=>by exfalso;revert q;dsimp only;omega,rfl⟩
    .exact⟨λ_=>rfl,λq=>by exfalso;revert q;dsimp only;omega,rfl⟩
   .simp only[h5,if_false];exact⟨λ_=>trivial,λq=>by exfalso;revert q;omega,trivial⟩
 .have e:k=b.length:=by omega
  subst e;rw[AI,iT (aX _)];refine⟨λq=>absurd rfl q,λ_=>?_,rfl⟩;rfl
def O8(post:List UInt8):∀(n:Nat)(b:List UInt8)(ln aj:Int),b.length<n->lI b->
  eo (b++10::post) ln aj=(if(eo b ln aj).code=0 then⟨(eo b ln aj).ts++⟨3,0,ln,(eo b ln aj).aj,[]⟩::(eo post (ln+1) 1).ts,(eo post (ln+1) 1).ln,(eo post (ln+1) 1).aj,(eo post (ln+1) 1).code⟩else eo b ln aj)/\(eo b ln aj).ln=ln/\∀t∈(eo b ln aj).ts,t.kind≠3:=by
 intro n;induction n with
 |zero=>intro b ln aj h;omega
 |succ n ih=>
  intro b ln aj hn hb;obtain⟨c1,c2,c3⟩:=acx post hb ln aj;rw[yo (b++10::post),yo b];by_cases h0:(bE b 0 ln aj).code=0
  .have hs:=Be h0;rw[c1 (by rw[h0];decide)];simp only[h0,if_true];have hd:(b++10::post).drop (bE b 0 ln aj).to=b.drop (bE b 0 ln aj).to++10::post:=List.drop_append_of_le_length hs.2;have hl:(b.drop (bE b 0 ln aj).to).length=b.length-(bE b 0 ln aj).to:=eX;obtain⟨i1,i2,i3⟩:=ih (b.drop (bE b 0 ln aj).to) (bE b 0 ln aj).ln (bE b 0 ln aj).aj (by omega) (acG hb _);rw[hd,i1];refine⟨?_,by rw[i2,c3],λt ht=>?_⟩
   .split
    .rw[c3];rfl
    .rfl
   .rcases cJ.1 ht with rfl|q
    .revert h0;unfold bE iy;generalize 0+dL false (b.drop 0)=k;cases hx:b[k]? with
     |none=>intro q;exfalso;revert q;dsimp only;omega
     |some c=>
      have h10:=hb c (dE hx);have h3:¬cQ c.toNat=3:=by
       intro q;unfold cQ at q;(repeat' split at q)<;>omega
      dsimp only;simp only[h3,if_false];(repeat' split)<;>intro q<;>first|(exfalso;revert q;dsimp only;omega)|(dsimp only;omega)
    .exact i3 t q
  .by_cases h4:(bE b 0 ln aj).code=4
   .rw[c2 h4];simp only[h4,if_true,h0,if_false];have hd:(b++10::post).drop (b.length+1)=post:=by
     rw[<-eh];simp
    rw[hd];refine⟨by simp,c3,λt ht=>by cases ht⟩
   .rw[c1 h4];simp only[h0,h4,if_false];exact⟨trivial,c3,λt ht=>by cases ht⟩
end Go.Proofs.Ybk.T
namespace Go.Proofs.Ybk
open Go Go.Am
set_option maxHeartbeats 2000000
open T (bF eo lI bX)
open V (au aR ai)
def kI(r:Rd)(row:List bF)(bl bc:Int):Rd×Option (Int×Int):=match row with
 |[]=>(r,none)
 |t0::rest=>match fc (t0::rest) bl bc with
  |some e=>(r,some e)
  |none=>if(di r t0 rest).2 then((di r t0 rest).1,none)else((di r t0 rest).1,some (t0.line,t0.aj))
def j7(t:bF):Bool:=decide (t.kind≠3)
def pZ(el ec:Int):Nat->List bF->Rd->Rd×Option (Int×Int)
 |0,_,r=>(r,none)
 |f+1,ts,r=>if ts=[]then(r,none)else match kI r (ts.takeWhile j7) (jA (ts.dropWhile j7) el ec 0).1 (jA (ts.dropWhile j7) el ec 0).2 with
  |(r',some e)=>(r',some e)
  |(r',none)=>pZ el ec f (ts.dropWhile j7).tail r'
def anm(ts:List bF):ts=ts.takeWhile j7++ts.dropWhile j7:=(List.takeWhile_append_dropWhile).symm
def abq(ts:List bF)(el ec:Int):∀(f a:Nat)(r:Rd),gU ts el ec f a r=pZ el ec f (ts.drop a) r:=by
 intro f;induction f with
 |zero=>intro a r;rfl
 |succ f ih=>
  intro a r;by_cases ha:a<ts.length
  .have hne:ts.drop a≠[]:=by
    intro q;have:=congrArg List.length q;rw[eX]at this;simp at this;omega
   obtain⟨n,hn⟩:=nm (T.jd (ts.drop a))
   have hnl:n=((ts.drop a).takeWhile j7).length:=hn
   have hd:ts.drop a=(ts.drop a).takeWhile j7++(ts.drop a).dropWhile j7:=anm _
   have hrow:rowAt ts a=(ts.drop a).takeWhile j7:=by
    unfold rowAt;rw[<-hn,List.drop_take,show a+n-a=n by omega];conv=>lhs;rw[hd]
    rw[hnl,List.take_left]
   have hdw:ts.drop (a+n)=(ts.drop a).dropWhile j7:=by
    rw[<-eh];conv=>lhs;rw[hd]
    rw[hnl,List.drop_left]
   have hbeh:jA ts el ec (a+n)=jA ((ts.drop a).dropWhile j7) el ec 0:=by
    unfold jA;rw[<-hdw,List.getElem?_drop,ie]
   have hnext:ts.drop (pj ts a)=((ts.drop a).dropWhile j7).tail:=by
    unfold pj;rw[<-hn,<-hdw,List.tail_drop];split
    .rfl
    .rw[List.drop_length,List.drop_of_length_le (by omega)]
   rw[pZ,if_neg hne,<-hrow,<-hbeh,<-hnext]
   have hrl:(rowAt ts a).length=n:=by rw[hrow,hnl]
   cases hr:rowAt ts a with
   |nil=>rw[yr ha hr];exact ih _ _
   |cons t0 rest=>
    have hl:a+(rest.length+1)=a+n:=by rw[hr]at hrl;simp at hrl;omega
    rw[yq ha hr,hl]
    unfold kI
    simp only
    cases hle:fc (t0::rest) (jA ts el ec (a+n)).1 (jA ts el ec (a+n)).2 with
    |some e=>rfl
    |none=>
     simp only
     cases hok:(di r t0 rest).2 with
     |true=>simp only[if_true];exact ih _ _
     |false=>rfl
  .have hne:ts.drop a=[]:=List.drop_of_length_le (by omega);rw[gU,if_neg ha,pZ,if_pos hne]
def abp(el ec:Int)(f:Nat)(row more:List bF)(e:bF)(r:Rd)(hr:∀t∈row,t.kind≠3)(he:e.kind=3):pZ el ec (f+1) (row++e::more) r=match kI r row e.line e.aj with
  |(r',some e)=>(r',some e)
  |(r',none)=>pZ el ec f more r':=by
 have h1:∀t∈row,j7 t=true:=λt ht=>by unfold j7;simp[hr t ht]
 have h2:j7 e=false:=by unfold j7;simp[he]
 have htw:(row++e::more).takeWhile j7=row:=by
  rw[List.takeWhile_append_of_pos h1,List.takeWhile_cons,h2];simp
 have hdw:(row++e::more).dropWhile j7=e::more:=by
  rw[List.dropWhile_append_of_pos h1,List.dropWhile_cons,h2];simp
 rw[pZ,if_neg (by simp),htw,hdw];rfl
def gk(L:List (List UInt8)):List UInt8:=L.flatMap λb=>b++[10]
def vT(b:List UInt8):Prop:=lI b/\∀ln,(eo b ln 1).code=0
def pJ:List (List UInt8)->Int->List bF
 |[],_=>[]
 |b::bs,ln=>(eo b ln 1).ts++⟨3,0,ln,(eo b ln 1).aj,[]⟩::pJ bs (ln+1)
def oe:List (List UInt8)->Int->Rd->Rd×Option (Int×Int)
 |[],_,r=>(r,none)
 |b::bs,ln,r=>match kI r (eo b ln 1).ts ln (eo b ln 1).aj with
  |(r',some e)=>(r',some e)
  |(r',none)=>oe bs (ln+1) r'
def lex_nil(ln aj:Int):eo [] ln aj=⟨[],ln,aj,0⟩:=by
 unfold eo T.eM;simp[T.bE,T.iy,T.dL]
def abh:∀(L:List (List UInt8))(ln:Int),(∀b∈L,vT b)->eo (gk L) ln 1=⟨pJ L ln,ln+L.length,1,0⟩:=by
 intro L;induction L with
 |nil=>intro ln _;show eo [] ln 1=_;rw[lex_nil];simp[pJ]
 |cons b bs ih=>
  intro ln h;obtain⟨h1,h2⟩:=h b dU;have e:gk (b::bs)=b++10::gk bs:=by simp[gk]
  obtain⟨c1,_,_⟩:=T.O8 (gk bs) (b.length+1) b ln 1 (by omega) h1;rw[e,c1,if_pos (h2 ln),ih (ln+1) (λb hb=>h b (eI _ hb))];simp only[pJ,eW];congr 1;omega
def ZF(el ec:Int):∀(L:List (List UInt8))(ln:Int)(r:Rd)(f:Nat),(∀b∈L,vT b)->L.length<f->pZ el ec f (pJ L ln) r=oe L ln r:=by
 intro L;induction L with
 |nil=>
  intro ln r f _ hf;obtain⟨f,rfl⟩:∃k,f=k+1:=⟨f-1,by omega⟩;rw[pZ,if_pos (show pJ [] ln=[]from rfl),oe]
 |cons b bs ih=>
  intro ln r f h hf;obtain⟨f,rfl⟩:∃k,f=k+1:=⟨f-1,by omega⟩;obtain⟨h1,h2⟩:=h b dU;obtain⟨_,_,c3⟩:=T.O8 [] (b.length+1) b ln 1 (by omega) h1;rw[pJ,abp el ec f _ _ _ r c3 rfl,oe];simp only;cases hl:kI r (eo b ln 1).ts ln (eo b ln 1).aj with
  |mk r' o=>
   cases o with
   |some e=>rfl
   |none=>exact ih _ _ _ (λb hb=>h b (eI _ hb)) (by simp at hf;omega)
def anh:∀(L:List (List UInt8))(ln:Int),L.length<=(pJ L ln).length:=by
 intro L;induction L with
 |nil=>intro ln;simp
 |cons b bs ih=>intro ln;have:=ih (ln+1);simp[pJ];omega
def aiL(L:List (List UInt8))(h:∀b∈L,vT b):fp (gk L)=match oe L 1 gH with
  |(_,some e)=>(some e,⟨[],0,0,[],[]⟩)
  |(r,none)=>match iC r (1+L.length) 1 with
   |(_,some e)=>(some e,⟨[],0,0,[],[]⟩)
   |(ks,none)=>(none,kT r ks):=by
 have hx:bX (gk L)=⟨pJ L 1,1+L.length,1,0⟩:=by rw[T.abg,abh L 1 h]
 unfold fp;rw[hx];simp only;rw[if_neg (by simp),abq,List.drop_zero,ZF _ _ L 1 gH _ h (by have:=anh L 1;omega)];generalize oe L 1 gH=X;obtain⟨r,o⟩:=X;cases o with
 |some e=>rfl
 |none=>
  simp only;generalize iC r (1+L.length) 1=Y;obtain⟨ks,o⟩:=Y;cases o<;>rfl
def ZC{b:List UInt8}{bs:List (List UInt8)}{ln:Int}{r r':Rd}(h:kI r (eo b ln 1).ts ln (eo b ln 1).aj=(r',none)):oe (b::bs) ln r=oe bs (ln+1) r':=by rw[oe,h]
end Go.Proofs.Ybk
namespace Go.Proofs.Ybk
open Go Go.Am
set_option maxHeartbeats 2000000
open T (bF eo lI bX bE)
open V (au aR ai)
end Go.Proofs.Ybk
namespace Go.Proofs.Ybk.T
open Go Go.Am
set_option maxHeartbeats 2000000
def qD(d:List UInt8):Prop:=d=[]∨∃c r,d=c::r/\cQ c.toNat=1
def Ch(m:Nat)(l:List UInt8)(h:dL false l=0):dL false (List.replicate m 32++l)=m:=by
 induction m with
 |zero=>simpa using h
 |succ m ih=>rw[List.replicate_succ,dB,dL,if_pos (by decide),ih]
def BV(k:Nat)(hk1:k≠1):∀(w d:List UInt8),(∀c∈w,cQ c.toNat=k)->qD d->eU k (w++d)=w.length:=by
 intro w;induction w with
 |nil=>
  intro d _ hd;rcases hd with rfl|⟨c,r,rfl,hc⟩
  .rfl
  .rw[dJ,eU,if_neg (by omega)];rfl
 |cons a w ih=>
  intro d h hd;rw[dB,eU,if_pos (h a dU),ih d (λc hc=>h c (eI _ hc)) hd];rfl
def uW(m:Nat)(w d:List UInt8)(j:Nat):(List.replicate m (32:UInt8)++(w++d))[m+j]? =(w++d)[j]? :=by
 rw[iF (by simp)];simp
def tu(m:Nat)(l:List UInt8):(List.replicate m (32:UInt8)++l).drop m=l:=by
 rw[List.drop_append];simp
def BQ(m:Nat)(w d:List UInt8):((List.replicate m (32:UInt8)++(w++d)).take (m+w.length)).drop m=w:=by
 rw[List.drop_take,tu,show m+w.length-m=w.length by omega,List.take_left]
def Ce{w d:List UInt8}(hd:qD d):∀c,(w++d)[w.length]? =some c->cQ c.toNat=1:=by
 intro c hc;rcases hd with rfl|⟨x,y,rfl,hx⟩
 .rw[pO,iT (aX _)]at hc;cases hc
 .rw[iF (aX _)]at hc;simp at hc;subst hc;exact hx
def acE(m:Nat)(w d:List UInt8)(hw:w≠[])(hk:∀c∈w,cQ c.toNat=4)(hd:qD d)(ln aj:Int):
  bE (List.replicate m 32++(w++d)) 0 ln aj=⟨⟨1,0,ln,aj+m,w⟩,m+w.length,ln,aj+m+w.length,0⟩:=by
 obtain⟨c,r,hcr⟩:=List.exists_cons_of_ne_nil hw;have hc:=hk c (by rw[hcr];exact dU);have hr:=BV 4 (by decide) w d hk hd;have hsk:dL false (List.replicate m 32++(w++d))=m:=Ch m _ (by rw[hcr,dB,dL,if_neg (by omega),if_neg (by omega)]);have hg:(List.replicate m (32:UInt8)++(w++d))[m]? =some c:=by have:=uW m w d 0;rw[ie]at this;rw[this,hcr];rfl
 have he:jQ (List.replicate m (32:UInt8)++(w++d)) (m+w.length)=true:=by
  unfold jQ;rw[uW];cases hx:(w++d)[w.length]? with
  |none=>rfl
  |some x=>
   have:=Ce hd x hx;simp only;rw[this];rfl
 unfold bE iy;rw[List.drop_zero,hsk,iG,hg];dsimp only;rw[if_neg (by omega),if_pos hc,tu,hr,if_pos he,BQ];congr 1
 .congr 1;omega
 .omega
def xJ{m:Nat}(h:m<10):(UInt8.ofNat (48+m)).toNat=48+m:=by simp;omega
def xH(n:Nat):∀c∈Lib.decDigits n,cQ c.toNat=5:=by
 induction n using Nat.strongRecOn with
 |ind n ih=>
  intro c hc;by_cases h10:n<10
  .rw[F.vK h10]at hc;obtain rfl:=dZ.1 hc;rw[xJ h10,yi];omega
  .rw[F.vJ h10]at hc;rcases eH.mp hc with hc|hc
   .exact ih _ (by omega) c hc
   .obtain rfl:=dZ.1 hc;have hm:n % 10<10:=(by omega);rw[xJ hm,yi];omega
def IC(n:Nat):Lib.decDigits n≠[]:=by
 by_cases h10:n<10
 .rw[F.vK h10];simp
 .rw[F.vJ h10];simp
def acN(l:List UInt8)(c:UInt8):∀v,kM v (l++[c])=qU (kM v l) (c.toNat-48):=by
 induction l with
 |nil=>intro v;rw[dJ,uP,wC,wC]
 |cons a r ih=>intro v;rw[dB,uP,uP,ih]
def PU(n:Nat):n<=2147483647->kM 0 (Lib.decDigits n)=n:=by
 induction n using Nat.strongRecOn with
 |ind n ih=>
  intro hn;by_cases h10:n<10
  .rw[F.vK h10,uP,wC,vF,xJ h10];rw[if_neg (by omega)];omega
  .rw[F.vJ h10,acN,ih _ (by omega) (by omega),vF,xJ (by omega)];rw[if_neg (by omega)];omega
def acz(m n:Nat)(hn:n<=2147483647)(d:List UInt8)(hd:qD d)(ln aj:Int):
  bE (List.replicate m 32++(Lib.decDigits n++d)) 0 ln aj=⟨⟨2,n,ln,aj+m,Lib.decDigits n⟩,m+(Lib.decDigits n).length,ln,aj+m+(Lib.decDigits n).length,0⟩:=by
 obtain⟨w,hw⟩:=nm (Lib.decDigits n);have hne:=IC n;have hk:=xH n;have hnum:=PU n hn;rw[<-hw]at hne hk hnum ⊢;obtain⟨c,r,hcr⟩:=List.exists_cons_of_ne_nil hne;have hc:=hk c (by rw[hcr];exact dU);have hr:=BV 5 (by decide) w d hk hd;have hsk:dL false (List.replicate m 32++(w++d))=m:=Ch m _ (by rw[hcr,dB,dL,if_neg (by omega),if_neg (by omega)]);have hg:(List.replicate m (32:UInt8)++(w++d))[m]? =some c:=by have:=uW m w d 0;rw[ie]at this;rw[this,hcr];rfl
 obtain⟨l,hl⟩:=nm (List.replicate m (32:UInt8)++(w++d));have hM:gq l m=0:=by
  unfold gq;rw[hl,bu,hg,iH,if_neg];rw[yi]at hc;omega
 have hT:je l m=w.length:=by unfold je;rw[hM,ie,hl,tu,hr]
 have hN:mC l m=(n:Int):=by
  unfold mC;rw[hM,hT,ie,hl,tu,List.take_left,hnum];simp
 have hlen:0<w.length:=by rw[hcr];simp
 have hnumV:gx l m=⟨n,m+w.length,true⟩:=by
  unfold gx j8;rw[hM,hT,hN,if_neg (by omega),ie,hl,uW];cases hx:(w++d)[w.length]? with
  |none=>rfl
  |some x=>
   have:=Ce hd x hx;simp only;rw[this];rfl
 unfold bE iy;rw[List.drop_zero,hsk,iG,hg];dsimp only;rw[if_neg (by omega),if_neg (by omega),if_pos (Or.inr hc),<-hl,hnumV,if_pos rfl];dsimp only;rw[hl,BQ];congr 1
 .congr 1;omega
 .omega
def AS{n:Int}(h:0<=n):Lib.itoa n=Lib.decDigits n.toNat:=by unfold Lib.itoa;rw[if_neg (by omega)]
def acC(m n:Nat)(hn:n<=2147483647)(d:List UInt8)(hd:qD d)(ln aj:Int):
  bE (List.replicate m 32++((45::Lib.decDigits n)++d)) 0 ln aj=⟨⟨2,-(n:Int),ln,aj+m,45::Lib.decDigits n⟩,m+(45::Lib.decDigits n).length,ln,aj+m+(45::Lib.decDigits n).length,0⟩:=by
 obtain⟨w,hw⟩:=nm (Lib.decDigits n);have hne:=IC n;have hk:=xH n;have hnum:=PU n hn;rw[<-hw]at hne hk hnum ⊢;have hlen:0<w.length:=sf.2 hne;have hr:=BV 5 (by decide) w d hk hd;have hc:cQ (45:UInt8).toNat=6:=by decide
 have hsk:dL false (List.replicate m 32++((45::w)++d))=m:=Ch m _ (by rw[dB,dL,if_neg (by omega),if_neg (by omega)]);have hg:(List.replicate m (32:UInt8)++((45::w)++d))[m]? =some 45:=by have:=uW m (45::w) d 0;rw[ie]at this;rw[this];rfl
 obtain⟨l,hl⟩:=nm (List.replicate m (32:UInt8)++((45::w)++d));have hdr:l.drop (m+1)=w++d:=by rw[hl,<-eh,tu];rfl
 have hM:gq l m=1:=by
  unfold gq;rw[hl,bu,hg,iH,if_pos (by decide)]
 have hT:je l m=w.length:=by unfold je;rw[hM,hdr,hr]
 have hN:mC l m= -(n:Int):=by
  unfold mC;rw[hM,hT,hdr,List.take_left,hnum];simp
 have hnumV:gx l m=⟨-(n:Int),m+(45::w).length,true⟩:=by
  unfold gx j8;rw[hM,hT,hN,if_neg (by omega),hl,show m+1+w.length=m+(45::w).length by rw[eW];omega,uW];cases hx:((45::w)++d)[(45::w).length]? with
  |none=>rfl
  |some x=>
   have:=Ce hd x hx;simp only;rw[this];rfl
 unfold bE iy;rw[List.drop_zero,hsk,iG,hg];dsimp only;rw[if_neg (by omega),if_neg (by omega),if_pos (Or.inl hc),<-hl,hnumV,if_pos rfl];dsimp only;rw[hl,BQ];congr 1
 .congr 1;omega
 .omega
def itoa_neg{n:Int}(h:n<0):Lib.itoa n=45::Lib.decDigits (-n).toNat:=by unfold Lib.itoa;rw[if_pos h,show n.natAbs=(-n).toNat by omega]
def acB(m:Nat)(n:Int)(hn: -2147483647<=n/\n<=2147483647)(d:List UInt8)(hd:qD d)(ln aj:Int):
  bE (List.replicate m 32++(Lib.itoa n++d)) 0 ln aj=⟨⟨2,n,ln,aj+m,Lib.itoa n⟩,m+(Lib.itoa n).length,ln,aj+m+(Lib.itoa n).length,0⟩:=by
 by_cases h:0<=n
 .have:=acz m n.toNat (by omega) d hd ln aj;rw[Int.toNat_of_nonneg h]at this;rw[AS h,this]
 .have:=acC m (-n).toNat (by omega) d hd ln aj;rw[show -(((-n).toNat:Nat):Int)=n by omega]at this;rw[itoa_neg (by omega),this]
def dn:List Int->List UInt8
 |[]=>[]
 |n::r=>32::(Lib.itoa n++dn r)
def iz:List Int->Int->Int->List bF
 |[],_,_=>[]
 |n::r,ln,aj=>⟨2,n,ln,aj+1,Lib.itoa n⟩::iz r ln (aj+1+(Lib.itoa n).length)
def PX{ns:List Int}{d:List UInt8}(hd:qD d):qD (dn ns++d):=by
 cases ns with
 |nil=>exact hd
 |cons n r=>exact .inr ⟨32,_,rfl,by decide⟩
def quiet(d:List UInt8):Prop:=qD d/\∀ln aj,(eo d ln aj).ts=[]/\(eo d ln aj).code=0
def abi(d:List UInt8)(hq:quiet d):∀(ns:List Int)(ln aj:Int),(∀n∈ns,-2147483647<=n/\n<=2147483647)->
  (eo (dn ns++d) ln aj).ts=iz ns ln aj/\(eo (dn ns++d) ln aj).code=0:=by
 intro ns;induction ns with
 |nil=>intro ln aj _;exact hq.2 ln aj
 |cons n r ih=>
  intro ln aj h;have hn:=h n dU;have e:dn (n::r)++d=List.replicate 1 32++(Lib.itoa n++(dn r++d)):=by
   show 32::(Lib.itoa n++dn r)++d=_;simp
  have hx:=acB 1 n hn (dn r++d) (PX hq.1) ln aj;have hdr:(List.replicate 1 (32:UInt8)++(Lib.itoa n++(dn r++d))).drop (1+(Lib.itoa n).length)=dn r++d:=by
   rw[<-eh,tu,List.drop_left]
  obtain⟨i1,i2⟩:=ih ln (aj+1+(Lib.itoa n).length) (λn hn=>h n (eI _ hn));rw[e,yo,hx];dsimp only;rw[if_pos rfl,hdr];dsimp only;refine⟨?_,i2⟩;rw[show aj+((1:Nat):Int)=aj+1 from rfl,i1];rfl
def yp(m:Nat)(w:List UInt8)(ns:List Int)(d:List UInt8)(hw:w≠[])(hk:∀c∈w,cQ c.toNat=4)(hq:quiet d)(hn:∀n∈ns,-2147483647<=n/\n<=2147483647)(ln aj:Int):
  (eo (List.replicate m 32++(w++(dn ns++d))) ln aj).ts=⟨1,0,ln,aj+m,w⟩::iz ns ln (aj+m+w.length)/\(eo (List.replicate m 32++(w++(dn ns++d))) ln aj).code=0:=by
 have hx:=acE m w (dn ns++d) hw hk (PX hq.1) ln aj;have hdr:(List.replicate m (32:UInt8)++(w++(dn ns++d))).drop (m+w.length)=dn ns++d:=by
  rw[<-eh,tu,List.drop_left]
 obtain⟨i1,i2⟩:=abi d hq ns ln (aj+m+w.length) hn;rw[yo,hx];dsimp only;rw[if_pos rfl,hdr];dsimp only;exact⟨by rw[i1],i2⟩
def QS:quiet []:=⟨.inl rfl,λln aj=>by rw[lex_nil];exact⟨rfl,rfl⟩⟩
end Go.Proofs.Ybk.T
namespace Go.Proofs.Ybk
open Go Go.Am
set_option maxHeartbeats 4000000
open T (bF eo lI bX dn iz quiet yp)
open V (au aR ai jW kO aE fa kV Ri fj eL eZ aK)
inductive Ln where
 |aV (g:Int)
 |eT (g:Int)
 |ef (s:au)
 |kill (row x:Int)
 |gy (p:aR)
def jN(k:Int):List UInt8:=if k=0 then mP else if k=1 then mh else if k=2 then mg else[63]
def Ln.word:Ln->List UInt8
 | .aV _=>fE
 | .eT _=>gh
 | .ef s=>jN s.kind
 | .kill _ _=>ft
 | .gy _=>gB
def Ln.gD:Ln->List Int
 | .aV g=>[g]
 | .eT g=>[g]
 | .ef s=>[s.row,s.x,s.y]
 | .kill a b=>[a,b]
 | .gy p=>[p.x,p.y,p.r]
def Ln.bytes(l:Ln):List UInt8:=l.word++dn l.gD
def Ln.ok:Ln->Prop
 | .aV g=>1<=g/\g<=1048576
 | .eT g=>0<=g/\g<=1048576
 | .ef s=>0<=s.row/\s.row<=999/\0<=s.x/\s.x<=1048576/\0<=s.y/\s.y<=1048576/\0<=s.kind/\s.kind<=2
 | .kill a b=>0<=a/\a<=999/\0<=b/\b<=1048576
 | .gy p=>0<=p.x/\p.x<=1048576/\0<=p.y/\p.y<=1048576/\1<=p.r/\p.r<=1048576
def Ln.lu:Ln->Prop
 | .aV g=>1<=g/\g<=1048576
 | .eT g=>0<=g/\g<=1048576
 | .ef s=>0<=s.row/\s.row<=999/\-1048576<=s.x/\s.x<=1048576/\-1048576<=s.y/\s.y<=1048576/\0<=s.kind/\s.kind<=2
 | .kill a b=>0<=a/\a<=999/\-1048576<=b/\b<=1048576
 | .gy p=>-1048576<=p.x/\p.x<=1048576/\-1048576<=p.y/\p.y<=1048576/\1<=p.r/\p.r<=1048576
def Ln.ok.S{l:Ln}(h:l.ok):l.lu:=by cases l<;>simp only[Ln.ok,Ln.lu]at h ⊢<;>omega
def q9:Ln->Option Int
 | .aV g=>some g
 |_=>none
def qw:Ln->Option Int
 | .eT g=>some g
 |_=>none
def kP:Ln->Option au
 | .ef s=>some s
 |_=>none
def ou:Ln->Option (Int×Int)
 | .kill a b=>some (a,b)
 |_=>none
def oI:Ln->Option aR
 | .gy p=>some p
 |_=>none
def ny(L:List Ln):List Int:=L.filterMap q9
def l9(L:List Ln):List Int:=L.filterMap qw
def mN(L:List Ln):List au:=L.filterMap kP
def l5(L:List Ln):List (Int×Int):=L.filterMap ou
def nO(L:List Ln):List aR:=L.filterMap oI
structure RL(P:List Ln)(r:Rd):Prop where
 ag:r.ag=mN P
 aV:r.aV=(ny P).getD 0 0
 eT:r.eT=decide (l9 P≠[])
 bA:r.bA=(l9 P).getD 0 0
 aD:r.aD.map (λk=>(k.row,k.x))=l5 P
 aG:r.aG=nO P
structure tM(A:List Ln):Prop where
 ok:∀l∈A,l.lu
 Kx:(ny A).length<=1
 QT:(l9 A).length<=1
 pT:(mN A).Pairwise (λa b=>¬(a.row=b.row/\a.x=b.x))
 ag:(mN A).length<=4096
 aD:(l5 A).length<=200
 aG:(nO A).length<=200
def ajU:RL [] gH:=⟨rfl,rfl,rfl,rfl,rfl,rfl⟩
def aa6{k:Int}(h:0<=k/\k<=2):rn (jN k)=k/\(jN k=mP∨jN k=mh∨jN k=mg):=by
 rcases(by omega:k=0∨k=1∨k=2)with rfl|rfl|rfl<;>exact⟨by decide,by decide⟩
def Su(l:Ln)(h:l.lu):l.word≠[]/\∀c∈l.word,T.cQ c.toNat=4:=by
 cases l with
 |aV g=>exact⟨by simp[Ln.word,fE],by show∀c∈fE,_;decide⟩
 |eT g=>exact⟨by simp[Ln.word,gh],by show∀c∈gh,_;decide⟩
 |kill a b=>exact⟨by simp[Ln.word,ft],by show∀c∈ft,_;decide⟩
 |gy p=>exact⟨by simp[Ln.word,gB],by show∀c∈gB,_;decide⟩
 |ef s=>
  obtain⟨_,_,_,_,_,_,h1,h2⟩:=h;show jN s.kind≠[]/\∀c∈jN s.kind,_;rcases(by omega:s.kind=0∨s.kind=1∨s.kind=2)with q|q|q<;>rw[q]<;>exact⟨by decide,by decide⟩
def Bj(l:Ln)(h:l.lu):∀n∈l.gD,-2147483647<=n/\n<=2147483647:=by
 cases l<;>simp only[Ln.lu]at h<;>intro n hn<;>simp only[Ln.gD,cJ,List.not_mem_nil,or_false]at hn<;>omega
def Kz{α:Type}{l:List α}{a z:α}(h:l=[]):(l++[a]).getD 0 z=a:=by rw[h];rfl
def Pw{n:Int}(h:1<=n/\n<=1048576):j5 173 n=true:=by simp[j5,aE];omega
def abR{n:Int}(h:0<=n/\n<=1048576):j5 256 n=true:=by simp[j5,aE];omega
def Px{n:Int}(h:0<=n/\n<=999):j5 257 n=true:=by simp[j5,aE];omega
def wi{n:Int}(h: -1048576<=n/\n<=1048576):j5 225 n=true:=by simp[j5,aE];omega
def ai5{row x:Int}:∀{l:List au}{i:Nat},(∀s∈l,¬(s.row=row/\s.x=x))->mJ row x l i=none:=by
 intro l;induction l with
 |nil=>intro i _;rfl
 |cons a r ih=>
  intro i h;rw[mJ,if_neg (h a dU),ih (λs hs=>h s (eI _ hs))]
def xV(P:List Ln)(l:Ln)(h:q9 l=none):ny (P++[l])=ny P:=by
 unfold ny;rw[List.filterMap_append];simp[List.filterMap_cons,h]
def rI(P:List Ln)(l:Ln)(h:qw l=none):l9 (P++[l])=l9 P:=by
 unfold l9;rw[List.filterMap_append];simp[List.filterMap_cons,h]
def abo(P:List Ln)(r:Rd)(l:Ln)(R:RL P r)(G:tM (P++[l]))(m:Nat)(d:List UInt8)(hq:quiet d)(ln bl bc:Int):
  ∃r',kI r (eo (List.replicate m 32++(l.bytes++d)) ln 1).ts bl bc=(r',none)/\RL (P++[l]) r':=by
 have hl:=G.ok l (by simp);obtain⟨w1,w2⟩:=Su l hl;have hb:l.bytes++d=l.word++(dn l.gD++d):=by unfold Ln.bytes;rw[eG]
 rw[hb,(yp m l.word l.gD d w1 w2 hq (Bj l hl) ln 1).1];have hG1:=G.Kx;have hG2:=G.QT;have hG3:=G.pT;have hG4:=G.ag;have hG5:=G.aD;have hG6:=G.aG;obtain⟨R1,R2,R3,R4,R5,R6⟩:=R;cases l with
 |aV g=>
  simp only[Ln.lu]at hl;have hP:ny P=[]:=by simpa[ny,List.filterMap_append,q9]using hG1
  have hle:fc (⟨1,0,ln,1+m,fE⟩::iz [g] ln (1+m+fE.length)) bl bc=none:=by
   simp[fc,kc,iz,mB,jG,km,Pw hl,show ig fE=some [173]from by decide]
  have hg:¬0<r.aV:=by rw[R2,hP];decide
  refine⟨{r with aV:=g},?_,⟨?_,?_,?_,?_,?_,?_⟩⟩
  .show kI r (⟨1,0,ln,1+m,fE⟩::iz [g] ln (1+m+fE.length)) bl bc=_;unfold kI;simp only;rw[hle];simp[di,hg,iz]
  .simp[R1,mN,kP]
  .have:ny (P++[.aV g])=ny P++[g]:=(by simp[ny,q9]);rw[this,Kz hP]
  .rw[rI P _ rfl];exact R3
  .rw[rI P _ rfl];exact R4
  .simp[R5,l5,ou]
  .simp[R6,nO,oI]
 |eT g=>
  simp only[Ln.lu]at hl;have hP:l9 P=[]:=by simpa[l9,List.filterMap_append,qw]using hG2
  have hle:fc (⟨1,0,ln,1+m,gh⟩::iz [g] ln (1+m+gh.length)) bl bc=none:=by
   simp[fc,kc,iz,mB,jG,km,abR hl,show ig gh=some [256]from by decide]
  have hg:r.eT=false:=by rw[R3,hP];decide
  have hw:¬gh=fE:=by decide
  refine⟨{r with eT:=true,bA:=g},?_,⟨?_,?_,?_,?_,?_,?_⟩⟩
  .show kI r (⟨1,0,ln,1+m,gh⟩::iz [g] ln (1+m+gh.length)) bl bc=_;unfold kI;simp only;rw[hle];simp[di,hg,hw,iz]
  .simp[R1,mN,kP]
  .rw[xV P _ rfl];exact R2
  .simp[l9,qw]
  .have:l9 (P++[.eT g])=l9 P++[g]:=(by simp[l9,qw]);rw[this,Kz hP]
  .simp[R5,l5,ou]
  .simp[R6,nO,oI]
 |kill a b=>
  simp only[Ln.lu]at hl;have hle:fc (⟨1,0,ln,1+m,ft⟩::iz [a,b] ln (1+m+ft.length)) bl bc=none:=by
   simp[fc,kc,iz,mB,jG,km,Px (n:=a) (by omega),wi (n:=b) (by omega),show ig ft=some [257,225]from by decide]
  have hw1:¬ft=fE:=by decide
  have hw2:¬ft=gh:=by decide
  have hk:r.aD.length+1<=200:=by
   have e:l5 (P++[.kill a b])=l5 P++[(a,b)]:=(by simp[l5,ou]);rw[e,<-R5]at hG5;simpa using hG5
  refine⟨{r with aD:=r.aD++[⟨a,b,ln,1+m,ln,1+m+ft.length+1⟩]},?_,⟨?_,?_,?_,?_,?_,?_⟩⟩
  .show kI r (⟨1,0,ln,1+m,ft⟩::iz [a,b] ln (1+m+ft.length)) bl bc=_;unfold kI;simp only;rw[hle];simp[di,hw1,hw2,iz,hk]
  .simp[R1,mN,kP]
  .rw[xV P _ rfl];exact R2
  .rw[rI P _ rfl];exact R3
  .rw[rI P _ rfl];exact R4
  .have e:l5 (P++[.kill a b])=l5 P++[(a,b)]:=(by simp[l5,ou]);rw[e,<-R5];simp
  .simp[R6,nO,oI]
 |gy p=>
  simp only[Ln.lu]at hl;have hle:fc (⟨1,0,ln,1+m,gB⟩::iz [p.x,p.y,p.r] ln (1+m+gB.length)) bl bc=none:=by
   simp[fc,kc,iz,mB,jG,km,wi (n:=p.x) (by omega),wi (n:=p.y) (by omega),Pw (n:=p.r) (by omega),show ig gB=some [225,225,173]from by decide]
  have hw1:¬gB=fE:=by decide
  have hw2:¬gB=gh:=by decide
  have hw3:¬gB=ft:=by decide
  have hk:r.aG.length+1<=200:=by
   have e:nO (P++[.gy p])=nO P++[p]:=(by simp[nO,oI]);rw[e,<-R6]at hG6;simpa using hG6
  refine⟨{r with aG:=r.aG++[p]},?_,⟨?_,?_,?_,?_,?_,?_⟩⟩
  .show kI r (⟨1,0,ln,1+m,gB⟩::iz [p.x,p.y,p.r] ln (1+m+gB.length)) bl bc=_;unfold kI;simp only;rw[hle];simp[di,hw1,hw2,hw3,iz,hk]
  .simp[R1,mN,kP]
  .rw[xV P _ rfl];exact R2
  .rw[rI P _ rfl];exact R3
  .rw[rI P _ rfl];exact R4
  .simp[R5,l5,ou]
  .simp[R6,nO,oI]
 |ef s=>
  simp only[Ln.lu]at hl;obtain⟨k1,k2⟩:=aa6 (k:=s.kind) (by omega);obtain⟨w,hw⟩:=nm (jN s.kind);rw[<-hw]at k1 k2;have z1:¬w=fE:=by rcases k2 with q|q|q<;>rw[q]<;>decide
  have z2:¬w=gh:=by rcases k2 with q|q|q<;>rw[q]<;>decide
  have z3:¬w=ft:=by rcases k2 with q|q|q<;>rw[q]<;>decide
  have z4:¬w=gB:=by rcases k2 with q|q|q<;>rw[q]<;>decide
  have hbw:ig w=some [257,225,225]:=by rw[ig,if_pos k2]
  have hle:fc (⟨1,0,ln,1+m,w⟩::iz [s.row,s.x,s.y] ln (1+m+w.length)) bl bc=none:=by
   simp[fc,kc,iz,mB,jG,km,Px (n:=s.row) (by omega),wi (n:=s.x) (by omega),wi (n:=s.y) (by omega),hbw]
  have e:mN (P++[.ef s])=mN P++[s]:=by simp[mN,kP]
  have hk:r.ag.length+1<=4096:=by
   rw[e,<-R1]at hG4;simpa using hG4
  have hpl:kr r.ag s.row s.x=none:=by
   refine ai5 (λt ht q=>?_);rw[e,oR]at hG3;exact hG3.2.2 t (by rw[<-R1];exact ht) s (by simp) q
  refine⟨{r with ag:=r.ag++[s]},?_,⟨?_,?_,?_,?_,?_,?_⟩⟩
  .show kI r (⟨1,0,ln,1+m,jN s.kind⟩::iz [s.row,s.x,s.y] ln (1+m+(jN s.kind).length)) bl bc=_;rw[<-hw];unfold kI;simp only;rw[hle];simp[di,z1,z2,z3,z4,iz,hk,hpl,k1]
  .rw[e];simp[R1]
  .rw[xV P _ rfl];exact R2
  .rw[rI P _ rfl];exact R3
  .rw[rI P _ rfl];exact R4
  .simp[R5,l5,ou]
  .simp[R6,nO,oI]
def tM.aiW{A B:List Ln}(G:tM (A++B)):tM A:=by
 have f:∀{α:Type}(g:Ln->Option α),(A.filterMap g).length<=((A++B).filterMap g).length:=λg=>by rw[List.filterMap_append,bH];omega
 refine⟨λl hl=>G.ok l (List.mem_append_left _ hl),eY (f _) G.Kx,eY (f _) G.QT,?_,eY (f _) G.ag,eY (f _) G.aD,eY (f _) G.aG⟩;have:=G.pT;unfold mN at this ⊢;rw[List.filterMap_append,oR]at this;exact this.1
def ZH(m:Nat)(d:List UInt8)(hq:quiet d):∀(L P:List Ln)(r:Rd)(ln:Int),RL P r->tM (P++L)->
  ∃r',oe (L.map (λl=>List.replicate m 32++(l.bytes++d))) ln r=(r',none)/\RL (P++L) r':=by
 intro L;induction L with
 |nil=>intro P r ln R _;exact⟨r,rfl,by simpa using R⟩
 |cons l L ih=>
  intro P r ln R G;have e:P++l::L=(P++[l])++L:=by simp
  rw[e]at G;obtain⟨r1,h1,R1⟩:=abo P r l R G.aiW m d hq ln ln (eo (List.replicate m 32++(l.bytes++d)) ln 1).aj;obtain⟨r2,h2,R2⟩:=ih (P++[l]) r1 (ln+1) R1 G;refine⟨r2,?_,by rw[e];exact R2⟩;rw[fg,ZC h1,h2]
def ZW(m:Nat)(d:List UInt8)(hq:quiet d)(hd:lI d)(l:Ln)(h:l.lu):vT (List.replicate m 32++(l.bytes++d)):=by
 obtain⟨w1,w2⟩:=Su l h;have hb:l.bytes++d=l.word++(dn l.gD++d):=by unfold Ln.bytes;rw[eG]
 have hk10:∀k c,T.cQ c=k->(k=4∨k=5)->c≠10:=by
  intro k c hc hk q;subst q;have:T.cQ 10=3:=rfl;omega
 have hnb:∀ns:List Int,(∀n∈ns,-2147483647<=n/\n<=2147483647)->lI (dn ns):=by
  intro ns;induction ns with
  |nil=>intro _ c hc;cases hc
  |cons n r ih=>
   intro hn c hc;rcases cJ.1 hc with rfl|hc
   .decide
   .rcases eH.1 hc with hc|hc
    .by_cases z:0<=n
     .rw[T.AS z]at hc;exact hk10 5 _ (T.xH _ c hc) (.inr rfl)
     .rw[T.itoa_neg (by omega)]at hc;rcases cJ.1 hc with rfl|hc
      .decide
      .exact hk10 5 _ (T.xH _ c hc) (.inr rfl)
    .exact ih (λn h=>hn n (eI _ h)) c hc
 refine⟨λc hc=>?_,λln=>?_⟩
 .rw[hb]at hc;rcases eH.1 hc with hc|hc
  .obtain⟨_,rfl⟩:=List.mem_replicate.1 hc;decide
  .rcases eH.1 hc with hc|hc
   .exact hk10 4 _ (w2 c hc) (.inl rfl)
   .rcases eH.1 hc with hc|hc
    .exact hnb _ (Bj l h) c hc
    .exact hd c hc
 .rw[hb];exact(yp m l.word l.gD d w1 w2 hq (Bj l h) ln 1).2
end Go.Proofs.Ybk
namespace Go.Proofs.Ybk
open Go Go.Am
set_option maxHeartbeats 4000000
open T (bF eo lI bX dn iz quiet yp)
open V (au aR ai jW kO aE fa kV Ri fj eL eZ aK Made)
def fQ(v:ai)(k:Int):au:=v.ag.getD k.toNat default
def dN(v:ai):List Ln:=[.aV v.aV,.eT v.bA]++(v.ag.map Ln.ef++(v.aD.map (λk=>Ln.kill (fQ v k).row (fQ v k).x)++v.aG.map Ln.gy))
def nu{α β γ:Type}(l:List α)(f:α->β)(g:β->Option γ)(h:∀a,g (f a)=none):(l.map f).filterMap g=[]:=by
 induction l with
 |nil=>rfl
 |cons a r ih=>rw[fg,List.filterMap_cons,h,ih]
def AF{α β γ:Type}(l:List α)(f:α->β)(g:β->Option γ)(k:α->γ)(h:∀a,g (f a)=some (k a)):(l.map f).filterMap g=l.map k:=by
 induction l with
 |nil=>rfl
 |cons a r ih=>rw[fg,List.filterMap_cons,h];simp[ih]
def Cd(v:ai):mN (dN v)=v.ag:=by
 unfold mN dN;rw[List.filterMap_append,List.filterMap_append,List.filterMap_append,AF v.ag Ln.ef kP id (λ_=>rfl),nu v.aD _ kP (λ_=>rfl),nu v.aG _ kP (λ_=>rfl)];simp[List.filterMap_cons,kP]
def Ky(v:ai):ny (dN v)=[v.aV]:=by
 unfold ny dN;rw[List.filterMap_append,List.filterMap_append,List.filterMap_append,nu v.ag _ q9 (λ_=>rfl),nu v.aD _ q9 (λ_=>rfl),nu v.aG _ q9 (λ_=>rfl)];simp[List.filterMap_cons,q9]
def QU(v:ai):l9 (dN v)=[v.bA]:=by
 unfold l9 dN;rw[List.filterMap_append,List.filterMap_append,List.filterMap_append,nu v.ag _ qw (λ_=>rfl),nu v.aD _ qw (λ_=>rfl),nu v.aG _ qw (λ_=>rfl)];simp[List.filterMap_cons,qw]
def O3(v:ai):l5 (dN v)=v.aD.map (λk=>((fQ v k).row,(fQ v k).x)):=by
 unfold l5 dN;rw[List.filterMap_append,List.filterMap_append,List.filterMap_append,nu v.ag _ ou (λ_=>rfl),AF v.aD _ ou (λk=>((fQ v k).row,(fQ v k).x)) (λ_=>rfl),nu v.aG _ ou (λ_=>rfl)];simp[List.filterMap_cons,ou]
def QK(v:ai):nO (dN v)=v.aG:=by
 unfold nO dN;rw[List.filterMap_append,List.filterMap_append,List.filterMap_append,nu v.ag _ oI (λ_=>rfl),nu v.aD _ oI (λ_=>rfl),AF v.aG _ oI id (λ_=>rfl)];simp[List.filterMap_cons,oI]
def sw(k:kU):Int×Int:=(k.row,k.x)
def xD(S:List au)(i:Int):Int×Int:=((S.getD i.toNat default).row,(S.getD i.toNat default).x)
def aaV(S:List au):∀(K:List kU)(acc:List Int),(∀k∈K,∃s∈S,s.row=k.row/\s.x=k.x)->(K.map sw).Nodup->(∀k∈K,∀i∈acc,xD S i≠sw k)->
  ∃ks,kl S K acc=(acc++ks,none)/\ks.map (xD S)=K.map sw:=by
 intro K;induction K with
 |nil=>intro acc _ _ _;exact⟨[],by rw[aaW,pO],rfl⟩
 |cons k K ih=>
  intro acc h1 h2 h3;cases hp:kr S k.row k.x with
  |none=>
   obtain⟨s,hs,q⟩:=h1 k dU;exact absurd q (QH hp s hs)
  |some n=>
   obtain⟨q1,q2,s,q3,q4,q5⟩:=QI hp;rw[Nat.sub_zero]at q3;have hco:xD S (n:Int)=sw k:=by
    unfold xD sw;rw[gR,bu,q3,iH,q4,q5]
   have hm:(n:Int)∉acc:=λhm=>h3 k dU n hm hco;rw[fg,List.nodup_cons]at h2;obtain⟨ks,e1,e2⟩:=ih (acc++[(n:Int)]) (λk' hk=>h1 k' (eI _ hk)) h2.2 (λk' hk i hi=>by
    rcases eH.1 hi with q|q
    .exact h3 k' (eI _ hk) i q
    .obtain rfl:=dZ.1 q;rw[hco];intro q;exact h2.1 (by rw[q];exact List.mem_map_of_mem hk))
   refine⟨(n:Int)::ks,?_,?_⟩
   .rw[yg hp hm,e1];simp
   .rw[fg,fg,hco,e2]
def ra:List UInt8:=[35,32,97,32,118,101,110,117,101]
def abL{i:Nat}{v:ai}{row x:Int}(M:Made i v row x)(hi:i<=24):∀l∈dN v,l.ok:=by
 have hg:=M.aV;have hr:=M.bA;have hlen:=M.len;intro l hl;unfold dN at hl;rcases eH.1 hl with hl|hl
 .simp only[cJ,List.not_mem_nil,or_false]at hl;rcases hl with rfl|rfl
  .simp only[Ln.ok];omega
  .simp only[Ln.ok];omega
 .rcases eH.1 hl with hl|hl
  .obtain⟨s,hs,rfl⟩:=dO.1 hl;have:=M.ef s hs;simp only[Ln.ok];omega
  .rcases eH.1 hl with hl|hl
   .obtain⟨k,hk,rfl⟩:=dO.1 hl;have hkb:=M.kill k hk;have hmem:fQ v k∈v.ag:=by
     unfold fQ;rw[bu,aq (by omega),iH];exact fG _
    have:=M.ef _ hmem;simp only[Ln.ok];omega
   .obtain⟨p,hp,rfl⟩:=dO.1 hl;have:=M.gy p hp;simp only[Ln.ok];omega
end Go.Proofs.Ybk
namespace Go.Proofs.Ybk
open Go Go.Am
set_option maxHeartbeats 4000000
open T (dn)
open V (au aR ai ao aZ ab bg aK)
def aoo(k:Int)(h:aa):al PP 132 [.int .i64 k] h (λv h'=>h'=h/\v= .string (B (jN k))):=by
 refine aC Tryz.func132 afi ?_;simp only[aA,Tryz.f132];unfold jN mP mh mg;by_cases h0:k=0
 .simp -implicitDefEqProofs[h0]
 .by_cases h1:k=1
  .simp -implicitDefEqProofs[h1]
  .by_cases h2:k=2
   .simp -implicitDefEqProofs[h2]
   .simp -implicitDefEqProofs[h0,h1,h2]
def jU{n:Int}(h:0<=n/\n<=2147483647):(Lib.itoa n).length<=20:=by
 rw[T.AS h.1];exact F.uk (by omega)
def akt(s:au)(hs:(Ln.ef s).ok)(h:aa):al PP 90 [bg s] h (λv h'=>h'=h/\v= .string (B (Ln.ef s).bytes)):=by
 refine aC Tryz.func90 ahV ?_;simp only[aA,Tryz.f90];simp only[Ln.ok]at hs;have l1:=jU (n:=s.row) (by omega);have l2:=jU (n:=s.x) (by omega);have l3:=jU (n:=s.y) (by omega);have l0:(jN s.kind).length<=9:=by
  rcases(by omega:s.kind=0∨s.kind=1∨s.kind=2)with q|q|q<;>rw[q]<;>decide
 have d1:=λH=>F.oX s.row (by omega) H;have d2:=λH=>F.oX s.x (by omega) H;have d3:=λH=>F.oX s.y (by omega) H;have dw:=λH=>aoo s.kind H;have hb:(Ln.ef s).bytes=jN s.kind++(32::(Lib.itoa s.row++(32::(Lib.itoa s.x++(32::Lib.itoa s.y))))):=by
  simp[Ln.bytes,Ln.word,Ln.gD,dn]
 rw[hb];obtain⟨w0,hw0⟩:∃w,w=jN s.kind:=⟨_,rfl⟩;obtain⟨w1,hw1⟩:∃w,w=Lib.itoa s.row:=⟨_,rfl⟩;obtain⟨w2,hw2⟩:∃w,w=Lib.itoa s.x:=⟨_,rfl⟩;obtain⟨w3,hw3⟩:∃w,w=Lib.itoa s.y:=⟨_,rfl⟩;rw[<-hw0]at l0 dw ⊢;rw[<-hw1]at l1 d1 ⊢;rw[<-hw2]at l2 d2 ⊢;rw[<-hw3]at l3 d3 ⊢;have f0:w0.length<=9223372036854775806:=by omega
 simp -implicitDefEqProofs[bg,ao];refine(dw h).mono ?_;rintro v h1 ⟨rfl,rfl⟩;simp -implicitDefEqProofs[aF,f0];intro _;refine(d1 h1).mono ?_;rintro v h2 ⟨rfl,rfl⟩;have g1:w0.length+1+w1.length<=9223372036854775807:=by omega
 have g2:w0.length+(w1.length+1)<=9223372036854775806:=by omega
 simp -implicitDefEqProofs[aF,f0,g1,g2];intro _;refine(d2 h2).mono ?_;rintro v h3 ⟨rfl,rfl⟩;have g3:w0.length+(w1.length+1+1)+w2.length<=9223372036854775807:=by omega
 have g4:w0.length+(w1.length+(w2.length+1)+1)<=9223372036854775806:=by omega
 simp -implicitDefEqProofs[aF,f0,g1,g2,g3,g4];intro _;refine cE (d3 h3) ?_;have g5:w0.length+(w1.length+(w2.length+1+1)+1)+w3.length<=9223372036854775807:=by omega
 simp -implicitDefEqProofs[aF,f0,g1,g2,g3,g4,g5]
def iL(L:List Ln):List UInt8:=gk (L.map Ln.bytes)
def Dw(l:Ln)(h:l.ok):l.bytes.length<=99:=by
 cases l with
 |aV g=>
  simp only[Ln.ok]at h;have:=jU (n:=g) (by omega);simp[Ln.bytes,Ln.word,Ln.gD,dn,fE];omega
 |eT g=>
  simp only[Ln.ok]at h;have:=jU (n:=g) (by omega);simp[Ln.bytes,Ln.word,Ln.gD,dn,gh];omega
 |kill a b=>
  simp only[Ln.ok]at h;have h1:=jU (n:=a) (by omega);have h2:=jU (n:=b) (by omega);simp[Ln.bytes,Ln.word,Ln.gD,dn,ft];omega
 |gy p=>
  simp only[Ln.ok]at h;have h1:=jU (n:=p.x) (by omega);have h2:=jU (n:=p.y) (by omega);have h3:=jU (n:=p.r) (by omega);simp[Ln.bytes,Ln.word,Ln.gD,dn,gB];omega
 |ef s=>
  simp only[Ln.ok]at h;have h1:=jU (n:=s.row) (by omega);have h2:=jU (n:=s.x) (by omega);have h3:=jU (n:=s.y) (by omega);have l0:(jN s.kind).length<=9:=by
   rcases(by omega:s.kind=0∨s.kind=1∨s.kind=2)with q|q|q<;>rw[q]<;>decide
  simp[Ln.bytes,Ln.word,Ln.gD,dn];omega
def KV:∀(L:List Ln),(∀l∈L,l.ok)->(iL L).length<=100*L.length:=by
 intro L;induction L with
 |nil=>intro _;simp[iL,gk]
 |cons l L ih=>
  intro h;have h1:=Dw l (h l dU);have h2:=ih (λl hl=>h l (eI _ hl));have e:iL (l::L)=l.bytes++10::iL L:=by simp[iL,gk]
  rw[e];simp;omega
def aaK(A B:List Ln):iL (A++B)=iL A++iL B:=by simp[iL,gk]
def aaL(l:Ln):iL [l]=l.bytes++[10]:=by simp[iL,gk]
def AT{pre xs:List Ln}{i:Nat}{l:Ln}(h:xs[i]? =some l):iL (pre++xs.take (i+1))=iL (pre++xs.take i)++(l.bytes++[10]):=by
 rw[fL,h,<-eG,aaK,Option.toList_some,aaL]
def zI(ti:Nat)(cs:List Value)(pre xs:List Ln)(m:Nat)(h:aa)(n:Nat)(σ:St):Prop:=∃i:Nat,n=m-i/\i<=m/\σ.m.h=h/\σ.t.get 1=some (.pointer (some ⟨1,0,some 0⟩))/\σ.t.get 4=some (.string (B (iL (pre++xs.take i))))/\σ.t.get ti=some (.int .i64 (i:Nat))/\σ.m.x.look 1=some (63,cs)
def ajf(v:ai)(cs:List Value)(hv:v.ag.length<=1000/\v.aD.length<=1000/\v.aG.length<=1000)(hok:∀l∈dN v,l.ok)(hm:aK v=true)(hk:∀k∈v.aD,0<=k/\k<v.ag.length)(h:aa)(H:V.bL h v cs):
  al PP 46 [.agg ⟨cs⟩] h (λr h'=>h'=h/\r= .tuple #[.string (B (iL (dN v))),.int .i64 0]):=by
 refine aC Tryz.func46 ahq ?_;simp only[aA,Tryz.f46];have rm:=V.BR v cs ⟨by omega,by omega,by omega⟩ h H;rw[hm]at rm;obtain⟨s,k,p,rfl,h1,h2,h3⟩:=H;obtain⟨ad1,c1,e1⟩:=h1.shape;obtain⟨ad2,c2,e2⟩:=h2.shape;obtain⟨ad3,c3,e3⟩:=h3.shape;subst e1;subst e2;subst e3;obtain⟨ms,hms⟩:∃m,m=v.ag.length:=⟨_,rfl⟩;obtain⟨mk,hmk⟩:∃m,m=v.aD.length:=⟨_,rfl⟩;obtain⟨mp,hmp⟩:∃m,m=v.aG.length:=⟨_,rfl⟩;rw[<-hms]at h1 rm hk ⊢;rw[<-hmk]at h2 rm ⊢;rw[<-hmp]at h3 rm ⊢;obtain⟨g,hg⟩:=nm v.aV;obtain⟨r,hr⟩:=nm v.bA;have og:=hok (.aV v.aV) (by simp[dN]);have orr:=hok (.eT v.bA) (by simp[dN]);simp only[Ln.ok]at og orr;rw[<-hg]at og rm ⊢;rw[<-hr]at orr rm ⊢;have dg:=λH=>F.oX g (by omega) H;have dr:=λH=>F.oX r (by omega) H;have lg:=jU (n:=g) (by omega);have lr:=jU (n:=r) (by omega);obtain⟨wg,hwg⟩:∃w,w=Lib.itoa g:=⟨_,rfl⟩;obtain⟨wr,hwr⟩:∃w,w=Lib.itoa r:=⟨_,rfl⟩;rw[<-hwg]at dg lg;rw[<-hwr]at dr lr;have p1:4+wg.length<=9223372036854775807:=by omega
 have p2:wg.length<=9223372036854775795:=by omega
 simp -implicitDefEqProofs;refine rm.mono ?_;rintro v h0 ⟨rfl,rfl⟩;simp -implicitDefEqProofs[af];intro _;refine(dg h0).mono ?_;rintro v h1' ⟨rfl,rfl⟩;simp -implicitDefEqProofs[aF,p1,p2];intro _;refine(dr h1').mono ?_;rintro v2 h2' ⟨rfl,rfl⟩;have p3:wg.length+8+1+1+1+1+wr.length<=9223372036854775807:=by omega
 have p4:wg.length+(wr.length+8)<=9223372036854775802:=by omega
 have p5:wg.length+(wr.length+1+1+1+1+1+1+1+1)<=9223372036854775802:=by omega
 simp -implicitDefEqProofs[aF,p1,p2,p3,p4,p5];intro _;clear p1 p2 p3 p4 p5 dg dr rm;obtain⟨L0,hL0⟩:∃L,L=[Ln.aV g,Ln.eT r]:=⟨_,rfl⟩;have hpre:103::97::112::32::(wg++10::114::97::100::105::117::115::32::(wr++[10]))=iL L0:=by
  rw[hL0];simp[iL,gk,Ln.bytes,Ln.word,Ln.gD,dn,fE,gh,hwg,hwr]
 obtain⟨X1,hX1⟩:∃X,X=v.ag.map Ln.ef:=⟨_,rfl⟩;obtain⟨X2,hX2⟩:∃X,X=v.aD.map (λk=>Ln.kill (fQ v k).row (fQ v k).x):=⟨_,rfl⟩;obtain⟨X3,hX3⟩:∃X,X=v.aG.map Ln.gy:=⟨_,rfl⟩;have aJ:dN v=L0++(X1++(X2++X3)):=by rw[hL0,hX1,hX2,hX3,hg,hr];rfl
 have hlen:∀(A B:List Ln),dN v=A++B->(iL A).length<=310000:=λA B e=>by
  have h1:=KV A (λl hl=>hok l (by rw[e];exact List.mem_append_left _ hl));have h2:(dN v).length<=3002:=by rw[aJ,hL0,hX1,hX2,hX3];simp;omega
  rw[e,bH]at h2;omega
 have hl1:X1.length=ms:=by rw[hX1,hms];simp
 have hl2:X2.length=mk:=by rw[hX2,hmk];simp
 have hl3:X3.length=mp:=by rw[hX3,hmp];simp
 obtain⟨cs,hcs⟩:=nm [Value.slice ad1 ms c1,Value.int IntKind.i64 g,Value.int IntKind.i64 r,Value.slice ad2 mk c2,Value.slice ad3 mp c3];rw[hpre,<-hcs];refine bG (zI 5 cs L0 X1 ms h2') ms ⟨0,by omega,by omega,rfl,by simp⟩ ?_;rintro n0 ⟨T0,⟨x0',H0⟩⟩ ⟨i,rfl,hi,hH,g1,g4,gi,x1⟩;simp at hH g1 g4 gi x1;subst hH;rw[hcs]at x1;simp -implicitDefEqProofs[g1,g4,gi,x1];refine bR (λhc=>?_) (λhc=>?_)
 .have hil:i<ms:=by omega
  have hti:v.ag[i]? =some v.ag[i]:=aq (by omega);obtain⟨t,ht⟩:=nm v.ag[i];rw[<-ht]at hti;obtain⟨_,b,o,wb,cb,rb,rfl,hb,hd,hlc,_⟩:=h1.at 4 V.fD hti;have hlc':o+i*4+4<=cb.length:=hlc;have hxi:X1[i]? =some (Ln.ef t):=by rw[hX1,fx,hti];rfl
  have hnx:=AT (pre:=L0) hxi;have ok:=hok (Ln.ef t) (by rw[aJ];exact List.mem_append_right _ (List.mem_append_left _ (dE hxi)));have lS:=hlen (L0++X1.take i) (X1.drop i++(X2++X3)) (by rw[aJ,eG,<-eG (X1.take i),se]);have lb:=Dw _ ok;obtain⟨S,hS⟩:=nm (iL (L0++X1.take i));rw[<-hS]at lS g4 hnx ⊢;have st:=λH=>akt t ok H;obtain⟨w,hw⟩:=nm (Ln.ef t).bytes;rw[<-hw]at st lb hnx;obtain⟨i1,fC⟩:=nm (i+1);have w1:IntKind.wrap .i64 ((i:Int)+1)=(i1:Int):=by rw[bB (by omega)];omega
  have f1:S.length+w.length<=9223372036854775807:=by omega
  have f2:S.length+w.length<=9223372036854775806:=by omega
  simp -implicitDefEqProofs[g1,g4,gi,x1,hil,hb,hd,hlc',ao];refine cE (st H0) ?_;simp -implicitDefEqProofs[af,f1,f2,w1,g1,x1];intro _;exact⟨ms-i1,by omega,i1,rfl,by omega,rfl,by simp,by rw[fC,hnx];simp,by simp[hcs]⟩
 .have him:i=ms:=by omega
  rw[him,b9 (by omega)]at g4;rw[him,b9 (by omega)];simp -implicitDefEqProofs[g1,g4,x1];obtain⟨L1,hL1⟩:∃L,L=L0++X1:=⟨_,rfl⟩;rw[<-hL1,<-hcs];clear him gi hc hi g1 g4 x1;refine bG (zI 6 cs L1 X2 mk H0) mk ⟨0,by omega,by omega,rfl,by simp⟩ ?_;rintro n1 ⟨T1,⟨x1',H1⟩⟩ ⟨i,rfl,hi,hH,g1,g4,gi,x1⟩;simp at hH g1 g4 gi x1;subst hH;rw[hcs]at x1;simp -implicitDefEqProofs[g1,g4,gi,x1];refine bR (λhc=>?_) (λhc=>?_)
  .have hil:i<mk:=(by omega);have hki:v.aD[i]? =some v.aD[i]:=aq (by omega);obtain⟨k,hkk⟩:∃t,t=v.aD[i]:=⟨_,rfl⟩;rw[<-hkk]at hki;have hkb:=hk k (dE hki);obtain⟨kn,hkn⟩:∃kn:Nat,k=kn:=⟨k.toNat,by omega⟩;have hkms:kn<ms:=(by omega);have hti:v.ag[kn]? =some v.ag[kn]:=aq (by omega);obtain⟨t,ht⟩:=nm v.ag[kn];rw[<-ht]at hti;have hse:fQ v k=t:=(by unfold fQ;rw[hkn,gR,bu,hti];rfl);obtain⟨_,b,o,wb,cb,rb,rfl,hb,hd,hlc,_⟩:=h1.at 4 V.fD hti;have hlc':o+kn*4+4<=cb.length:=hlc;obtain⟨_,b2,o2,wb2,cb2,rb2,rfl,bN,hd2,hlc2,_⟩:=h2.at 1 V.dY hki;have hlc2':o2+i+1<=cb2.length:=(by omega);rw[Nat.mul_one,hkn]at hd2;have hxi:X2[i]? =some (Ln.kill t.row t.x):=(by rw[hX2,fx,hki,fV,hse]);have hnx:=AT (pre:=L1) hxi;have ok:=hok (Ln.kill t.row t.x) (by rw[aJ];exact List.mem_append_right _ (List.mem_append_right _ (List.mem_append_left _ (dE hxi))));have lS:=hlen (L1++X2.take i) (X2.drop i++X3) (by rw[aJ,hL1,eG,eG,<-eG (X2.take i),se]);simp only[Ln.ok]at ok;have la:=jU (n:=t.row) (by omega);have lb:=jU (n:=t.x) (by omega);have da:=λH=>F.oX t.row (by omega) H;have db:=λH=>F.oX t.x (by omega) H;obtain⟨S,hS⟩:=nm (iL (L1++X2.take i));rw[<-hS]at lS g4 hnx ⊢;have hby:(Ln.kill t.row t.x).bytes=[107,105,108,108,32]++(Lib.itoa t.row++32::Lib.itoa t.x):=(by simp[Ln.bytes,Ln.word,Ln.gD,dn,ft]);rw[hby]at hnx;obtain⟨wa,hwa⟩:∃w,w=Lib.itoa t.row:=⟨_,rfl⟩;obtain⟨wb,hwb⟩:∃w,w=Lib.itoa t.x:=⟨_,rfl⟩;rw[<-hwa]at la da hnx;rw[<-hwb]at lb db hnx;obtain⟨i1,fC⟩:=nm (i+1);have w1:IntKind.wrap .i64 ((i:Int)+1)=(i1:Int):=(by rw[bB (by omega)];omega);have f1:S.length<=9223372036854775802:=(by omega);have f2:S.length+5+wa.length<=9223372036854775807:=(by omega);have f3:S.length+(wa.length+5)<=9223372036854775806:=(by omega);simp -implicitDefEqProofs[g1,g4,gi,x1,hil,hb,hd,hlc',bN,hd2,hlc2',hkms,ao,ab,f1];refine(da H1).mono ?_;rintro v1 h1x ⟨rfl,rfl⟩;have f4:S.length+(wa.length+1+5)+wb.length<=9223372036854775807:=(by omega);have f5:S.length+(wa.length+(wb.length+1)+5)<=9223372036854775806:=(by omega);simp -implicitDefEqProofs[aF,f1,f2,f3,w1,g1,x1];intro _;refine cE (db h1x) ?_;simp -implicitDefEqProofs[aF,f1,f2,f3,f4,f5,w1,g1,x1];intro _;exact⟨mk-i1,by omega,i1,rfl,by omega,rfl,by simp,by rw[fC,hnx];simp,by simp[hcs]⟩
  .have him:i=mk:=(by omega);rw[him,b9 (by omega)]at g4;rw[him,b9 (by omega)];simp -implicitDefEqProofs[g1,g4,x1];obtain⟨L2,hL2⟩:∃L,L=L1++X2:=⟨_,rfl⟩;rw[<-hL2,<-hcs];clear him gi hc hi g1 g4 x1;refine bG (zI 8 cs L2 X3 mp H1) mp ⟨0,by omega,by omega,rfl,by simp⟩ ?_;rintro n2 ⟨T2,⟨x2',H2⟩⟩ ⟨i,rfl,hi,hH,g1,g4,gi,x1⟩;simp at hH g1 g4 gi x1;subst hH;rw[hcs]at x1;simp -implicitDefEqProofs[g1,g4,gi,x1];refine bR (λhc=>?_) (λhc=>?_)
   .have hil:i<mp:=(by omega);have hti:v.aG[i]? =some v.aG[i]:=aq (by omega);obtain⟨t,ht⟩:=nm v.aG[i];rw[<-ht]at hti;obtain⟨_,b,o,wb,cb,rb,rfl,hb,hd,hlc,_⟩:=h3.at 3 V.pE hti;have hlc':o+i*3+3<=cb.length:=hlc;have hxi:X3[i]? =some (Ln.gy t):=(by rw[hX3,fx,hti];rfl);have hnx:=AT (pre:=L2) hxi;have ok:=hok (Ln.gy t) (by rw[aJ];exact List.mem_append_right _ (List.mem_append_right _ (List.mem_append_right _ (dE hxi))));have lS:=hlen (L2++X3.take i) (X3.drop i) (by rw[aJ,hL2,hL1,eG,eG,eG,se]);simp only[Ln.ok]at ok;have la:=jU (n:=t.x) (by omega);have lb:=jU (n:=t.y) (by omega);have lc:=jU (n:=t.r) (by omega);have da:=λH=>F.oX t.x (by omega) H;have db:=λH=>F.oX t.y (by omega) H;have dc:=λH=>F.oX t.r (by omega) H;obtain⟨S,hS⟩:=nm (iL (L2++X3.take i));rw[<-hS]at lS g4 hnx ⊢;have hby:(Ln.gy t).bytes=[112,111,108,101,32]++(Lib.itoa t.x++32::(Lib.itoa t.y++32::Lib.itoa t.r)):=(by simp[Ln.bytes,Ln.word,Ln.gD,dn,gB]);rw[hby]at hnx;obtain⟨wa,hwa⟩:∃w,w=Lib.itoa t.x:=⟨_,rfl⟩;obtain⟨wb,hwb⟩:∃w,w=Lib.itoa t.y:=⟨_,rfl⟩;obtain⟨wc,hwc⟩:∃w,w=Lib.itoa t.r:=⟨_,rfl⟩;rw[<-hwa]at la da hnx;rw[<-hwb]at lb db hnx;rw[<-hwc]at lc dc hnx;obtain⟨i1,fC⟩:=nm (i+1);have w1:IntKind.wrap .i64 ((i:Int)+1)=(i1:Int):=(by rw[bB (by omega)];omega);have f1:S.length<=9223372036854775802:=(by omega);have f2:S.length+5+wa.length<=9223372036854775807:=(by omega);have f3:S.length+(wa.length+5)<=9223372036854775806:=(by omega);have f4:S.length+(wa.length+1+5)+wb.length<=9223372036854775807:=(by omega);have f5:S.length+(wa.length+(wb.length+1)+5)<=9223372036854775806:=(by omega);have f6:S.length+(wa.length+(wb.length+1+1)+5)+wc.length<=9223372036854775807:=(by omega);have f7:S.length+(wa.length+(wb.length+(wc.length+1)+1)+5)<=9223372036854775806:=(by omega);simp -implicitDefEqProofs[g1,g4,gi,x1,hil,hb,hd,hlc',aZ,f1];refine(da H2).mono ?_;rintro v1 h1x ⟨rfl,rfl⟩;simp -implicitDefEqProofs[aF,f1,f2,f3,w1,g1,x1];intro _;refine(db h1x).mono ?_;rintro v2 h2x ⟨rfl,rfl⟩;simp -implicitDefEqProofs[aF,f1,f2,f3,f4,f5,w1,g1,x1];intro _;refine cE (dc h2x) ?_;simp -implicitDefEqProofs[aF,f1,f2,f3,f4,f5,f6,f7,w1,g1,x1];intro _;exact⟨mp-i1,by omega,i1,rfl,by omega,rfl,by simp,by rw[fC,hnx];simp,by simp[hcs]⟩
   .have him:i=mp:=(by omega);rw[him,b9 (by omega)]at g4;rw[him,b9 (by omega)];have hfin:L2++X3=dN v:=(by rw[aJ,hL2,hL1];simp);rw[hfin]at g4 ⊢;simp -implicitDefEqProofs[g1,g4,x1]
end Go.Proofs.Ybk
namespace Go.Proofs.Ybk.K
open Go Go.Am
open V (au aR ai aK aE)
def gJ(t:List UInt8):dW:={kf with kind:=1,text:=t}
def gI(o:aB):dW:={kf with kind:=2,order:=o}
def iP(n:Int):dW:={kf with kind:=3,time:=n}
def recC:dW:={kf with kind:=4}
def gW(v:ai):List UInt8:=iL (dN v)
def ku(b:aI):List dW:=(if b.has then[gJ (gW b.v)]else[])++([iP b.now]++(b.l.map gI++[recC]))
def l7(o:aB):Bool:=aE o.id 1 2147483647&&(aE o.state 1 3&&(dK o.az&&(aE o.gX 0 1099511627776&&aE o.first (-1) 4095)))
def jo(r:dW):Bool:=if r.kind=1 then decide (r.text.length<=1048576)&&decide (r=gJ r.text)else if r.kind=2 then l7 r.order&&decide (r=gI r.order)else if r.kind=3 then aE r.time 0 1099511627776&&decide (r=iP r.time)else decide (r=recC)
def kA(b:aI)(r:dW):Option aI:=if jo r=false then none
 else if r.kind=1 then match(fp r.text).1 with
  |some _=>none
  |none=>some {b with v:=nI (fp r.text).2,has:=true}
 else if r.kind=3 then(if b.now<=r.time then some {b with now:=r.time}else none)
 else if r.kind=2 then(if(b.l.length:Int)+1<r.order.id then none else if r.order.id=(b.l.length:Int)+1 then some {b with l:=b.l++[r.order]}else some {b with l:=b.l.set (r.order.id.toNat-1) r.order})
 else none
def gb:List dW->aI->Option aI
 |[],b=>some b
 |r::l,b=>match kA b r with
  |some b'=>gb l b'
  |none=>none
def kR(b:aI)(o:aB):Bool:=if o.state=1 then decide (b.now<o.gX)else if o.state=3 then decide (o.gX=0)&&decide (o.first= -1)else decide (o.gX=0)
def nF(b:aI):Bool:=b.l.all (kR b)&&(decide ((aO b).1.length=0) || (b.has&&(decide ((aO b).1.length<=512)&&(jD (aO b).1 (aO b).2.1&&ix b.v (aO b).1 (aO b).2.1 (aO b).2.2))))
def oT(b:aI)(l:List dW):aI×Int:=if l.getLast? =some recC then match gb l.dropLast b with
  |some x=>if nF x then(x,0)else(b,10)
  |none=>(b,10)
 else(b,10)
def wQ(a b:aI):Bool:=decide (a.has=b.has)&&(decide (a.now=b.now)&&(V.vd a.v b.v&&decide (a.l=b.l)))
def yA:List UInt8:=[103,97,112,32,49,48,10,114,97,100,105,117,115,32,48,10,115,101,97,116,32,48,32,48,32,48,10,115,101,97,116,32,48,32,49,48,32,48,10,115,101,97,116,32,48,32,50,48,32,48,10]
def rT:ai:=⟨[⟨0,0,0,0⟩,⟨0,10,0,0⟩,⟨0,20,0,0⟩],10,0,[],[]⟩
def eN:aI:=⟨1000,true,rT,[⟨1,2,⟨1,0⟩,0,0⟩,⟨2,3,⟨2,0⟩,0,-1⟩],5⟩
def aaH(n:Nat)(h:n<10):Lib.itoa (n:Nat)=[UInt8.ofNat (48+n)]:=by
 unfold Lib.itoa;rw[if_neg (by omega),gR,Lib.decDigits,dif_pos h]
def KU(n:Nat)(h0:10<=n)(h:n<100):Lib.itoa (n:Nat)=[UInt8.ofNat (48+n / 10),UInt8.ofNat (48+n % 10)]:=by
 unfold Lib.itoa;rw[if_neg (by omega),gR,Lib.decDigits,dif_neg (by omega),Lib.decDigits,dif_pos (by omega)];rfl
def ank:gW rT=yA:=by
 have a0:=aaH 0 (by omega);have a10:=KU 10 (by omega) (by omega);have a20:=KU 20 (by omega) (by omega);unfold gW iL dN rT;simp[Ln.bytes,Ln.word,Ln.gD,T.dn,jN,gk,yA,fE,gh,mP];simp at a0 a10 a20;rw[a0,a10,a20];decide
def ani:oT (eP 1000) ([gJ yA,iP 5]++(eN.l.map gI++[recC]))=(eN,0):=by kernel_rfl
def Zr(a b:au):lk a b=lk b a:=by
 have e1:(b.x-a.x)*(b.x-a.x)=(a.x-b.x)*(a.x-b.x):=by rw[show b.x-a.x= -(a.x-b.x) by omega,Int.neg_mul_neg]
 have e2:(b.y-a.y)*(b.y-a.y)=(a.y-b.y)*(a.y-b.y):=by rw[show b.y-a.y= -(a.y-b.y) by omega,Int.neg_mul_neg]
 unfold lk;rw[e1,e2];cases fH a.x<;>cases fH a.y<;>cases fH b.x<;>cases fH b.y<;>rfl
def XM(a b:au)(r:Int):kg a b r=kg b a r:=by unfold kg;rw[Zr]
def VX{v:ai}{p q:aQ}{a b:Int}:dM v p a q b=true↔∀i,i<p.size.toNat->∀k,k<q.size.toNat->a+(i:Int)≠b+(k:Int)/\kg (fe v (a+(i:Int)).toNat) (fe v (b+(k:Int)).toNat) v.bA=false:=by
 unfold dM;rw[cz];constructor
 .intro h i hi k hk;have:=cz.1 (h i (dF.2 hi)) k (dF.2 hk);simpa using this
 .intro h i hi;rw[cz];intro k hk;have:=h i (dF.1 hi) k (dF.1 hk);simpa using this
def VY{v:ai}{p q:aQ}{a b:Int}(h:dM v p a q b=true):dM v q b p a=true:=by
 rw[VX]at h ⊢;intro i hi k hk;obtain⟨h1,h2⟩:=h k hk i hi;exact⟨λe=>h1 e.symm,by rw[XM];exact h2⟩
def zw{s:bS}{q:List Int}{k:Nat}(h:ez s q k=false){x:Int}(hx:eS s k=some x):q.getD k 0=x:=by
 unfold ez at h;simp only[hx]at h;by_cases e:q.getD k 0=x
 .exact e
 .rw[if_pos (by simpa using e)]at h;cases h
def vn{s:bS}{q:List Int}{k:Nat}(h:ez s q k=false)(hne:q.getD k 0≠-1):(cY s.v s.us (s.l.getD k default) (q.getD k 0)).isSome=true/\∀j,j<k->q.getD j 0≠-1->dM s.v (s.l.getD k default) (q.getD k 0) (s.l.getD j default) (q.getD j 0)=true:=by
 have key:∀B:Bool,(if B=true then true else if q.getD k 0= -1 then false else if(cY s.v s.us (s.l.getD k default) (q.getD k 0)).isNone then true
   else(List.range k).any λj=>decide (q.getD j 0≠-1)&& !dM s.v (s.l.getD k default) (q.getD k 0) (s.l.getD j default) (q.getD j 0))=false->
   (cY s.v s.us (s.l.getD k default) (q.getD k 0)).isSome=true/\∀j,j<k->q.getD j 0≠-1->dM s.v (s.l.getD k default) (q.getD k 0) (s.l.getD j default) (q.getD j 0)=true:=by
  intro B h;cases B with
  |true=>cases h
  |false=>
   rw[if_neg (by decide),if_neg hne]at h;cases hs:cY s.v s.us (s.l.getD k default) (q.getD k 0)with
   |none=>rw[hs]at h;cases h
   |some l=>
    rw[hs]at h;simp only[Option.isNone_some,fw,if_false]at h;rw[List.any_eq_false]at h;refine⟨rfl,λj hj hjn=>?_⟩;have:=h j (dF.2 hj);cases ha:dM s.v (s.l.getD k default) (q.getD k 0) (s.l.getD j default) (q.getD j 0)with
    |true=>rfl
    |false=>rw[ha]at this;exact absurd (by simp only[Bool.not_false,Bool.and_true,de];exact hjn) this
 exact key _ h
def zR{v:ai}{us:List Bool}{p:aQ}{f:Int}(h:(cY v us p f).isSome=true):f∈ir v us p:=by
 have hb:0<=f/\f<v.ag.length:=by
  unfold cY at h;split at h
  .cases ht:lM v us f p.size with
   |none=>rw[ht]at h;cases h
   |some l=>
    unfold lM at ht;split at ht
    .cases ht
    .rename_i hc;simp only[not_or]at hc;obtain⟨m,hm⟩:∃m,p.size.toNat=m+1:=⟨p.size.toNat-1,by omega⟩;have hl:=hc.2.2;rw[hm,jm]at hl;split at hl
     .rename_i hf;simp only[bQ]at hf;have:=hf.1;unfold nw at this;simp only[bQ,de]at this;omega
     .omega
  .cases h
 unfold ir;rw[dO];refine⟨f.toNat,gS.2 ⟨dF.2 (by omega),?_⟩,by omega⟩;rw[Int.toNat_of_nonneg hb.1];exact h
def oP(s:bS)(q:List Int):Prop:=q.length=s.l.length/\∀k,k<q.length->ez s q k=false
structure ml(p:cu):Prop where
 len:p.levels.length=p.p.length+1
 wid:∀d,d<=p.p.length->(p.levels.getD d []).length=p.s.l.length
 xY:∀d,d<=p.p.length->∀k,k<d->p.p.getD k 0≠-1->(p.levels.getD d []).getD k []≠[]
 all:∀q,oP p.s q->∀d,d<=p.p.length->(∀j,j<d->q.getD j 0=p.p.getD j 0)->∀k,d<=k->k<p.s.l.length->q.getD k 0= -1∨q.getD k 0∈(p.levels.getD d []).getD k []
def Dz{s:bS}{q:List Int}(C:oP s q){j k:Nat}(hj:j<s.l.length)(hk:k<s.l.length)(hne:j≠k)(nj:q.getD j 0≠-1)(nk:q.getD k 0≠-1):dM s.v (s.l.getD k default) (q.getD k 0) (s.l.getD j default) (q.getD j 0)=true:=by
 rcases Nat.lt_or_ge j k with z|z
 .exact(vn (C.2 k (by rw[C.1];exact hk)) nk).2 j z nj
 .exact VY ((vn (C.2 j (by rw[C.1];exact hj)) nj).2 k (by omega) nk)
def BI{p:cu}(P:ml p):ml (fK p):=by
 unfold fK;split
 .exact P
 .rename_i h0;have hl:=P.len;have e:∀d,d<=p.p.length-1->p.levels.dropLast.getD d []=p.levels.getD d []:=λd hd=>by
   rw[bu,bu,List.getElem?_dropLast,if_pos (by omega)]
  refine⟨by simp[hl];omega,λd hd=>?_,λd hd k hk hn=>?_,λq C d hd ha k hk hkl=>?_⟩
  .simp only[List.length_dropLast]at hd;simp only[e d hd];exact P.wid d (by omega)
  .simp only[List.length_dropLast]at hd;simp only[e d hd];simp only[vQ (show k<p.p.length-1 by omega)]at hn;exact P.xY d (by omega) k hk hn
  .simp only[List.length_dropLast]at hd;simp only[e d hd];refine P.all q C d (by omega) (λj hj=>?_) k hk hkl;have:=ha j hj;simp only[vQ (show j<p.p.length-1 by omega)]at this;exact this
end Go.Proofs.Ybk.K
namespace Go.Proofs.Ybk.K
open Go Go.Am
open V (au aR ai aK aE)
open T (bX)
def aiN{t:List UInt8}(h:(fp t).1=none):vr (fp t).2 (nI (fp t).2):=by
 unfold fp at h ⊢;by_cases hc:(bX t).code≠0
 .rw[if_pos hc]at h;cases h
 .rw[if_neg hc]at h ⊢;have G0:=Pc (bX t).ts (bX t).ln (bX t).aj ((bX t).ts.length+1) 0 gH QV;obtain⟨L,hL⟩:=nm (gU (bX t).ts (bX t).ln (bX t).aj ((bX t).ts.length+1) 0 gH);rw[<-hL]at h G0 ⊢;obtain⟨r,re⟩:=L;cases re with
  |some e=>simp only at h;cases h
  |none=>
   simp only at h G0 ⊢;have G:=G0 trivial;have hk:r.aD.length<=200:=G.ok.2.1;have hwn:=Sr (r:=r) (el:=(bX t).ln) (ec:=(bX t).aj);obtain⟨W,hW⟩:=nm (iC r (bX t).ln (bX t).aj);rw[<-hW]at h hwn ⊢;obtain⟨ks,we⟩:=W;cases we with
   |some e=>simp only at h;cases h
   |none=>
    simp only at h hwn ⊢;obtain⟨n1,n2,n3,n4⟩:=hwn trivial hk;have hm:∀x,x∈((V.fj (kT r ks)).map λs=>V.eL (V.eZ s) (qE r.ag)).foldr nC []↔x∈(V.fj (kT r ks)).map (λs=>V.eL (V.eZ s) (qE r.ag)):=λx=>Rw x _;exact⟨Ck _,Cl _,BN (Cj _),hm,rfl,rfl,rfl,KB G n1 n2 n3 n4 (Ck _) (Cl _) (BN (Cj _)) hm⟩
def Bw{t:List UInt8}(h:(fp t).1=none):aK (nI (fp t).2)=true:=(aiN h).2.2.2.2.2.2.2
def jq(x:Int):Prop:=-1<=x/\x<=4096
structure eF(N:Nat)(b:aI):Prop where
 f0:0<=b.fuel
 f1:b.fuel<=1073741824
 n0:0<=b.now
 n1:b.now<=1099511627776
 len:b.l.length<=N
 may:b.has=true->aK b.v=true
 fst:∀o∈b.l,jq o.first
def eF.mono{N M:Nat}{b:aI}(H:eF N b)(h:N<=M):eF M b:=⟨H.f0,H.f1,H.n0,H.n1,eY H.len h,H.may,H.fst⟩
def wq(fuel:Int)(h0:0<=fuel)(h1:fuel<=1073741824):eF 0 (eP fuel):=⟨h0,h1,by show(0:Int)<=0;decide,by show(0:Int)<=_;decide,aX _,λq=>(by cases q),λo ho=>(by cases ho)⟩
def Cc{v:ai}{us:List Bool}{p:aQ}{f:Int}(h:(cY v us p f).isSome=true):0<=f/\f<v.ag.length:=by
 have:=zR h;unfold ir at this;rw[dO]at this;obtain⟨k,hk,rfl⟩:=this;have:=dF.1 (gS.1 hk).1;omega
def yD{v:ai}{l:List aQ}{p:List Int}{pins:List (Int×Int)}(h:ix v l p pins=true):∃s,fW v l pins=some s/\p.length=l.length/\∀k,k<p.length->ez s p k=false:=by
 unfold ix at h;cases hs:fW v l pins with
 |none=>rw[hs]at h;simp only[de]at h;omega
 |some s=>
  rw[hs]at h;simp only at h;by_cases q:p.length=l.length
  .rw[if_pos q]at h;refine⟨s,rfl,q,λk hk=>?_⟩;simp only[de]at h;unfold pb at h;cases hf:(List.range p.length).find? (ez s p)with
   |some j=>rw[hf]at h;simp only at h;omega
   |none=>
    rw[List.find?_eq_none]at hf;have:=hf k (dF.2 hk);simpa using this
  .rw[if_neg q]at h;simp only[de]at h;omega
def PA{v:ai}{l:List aQ}{p:List Int}{pins:List (Int×Int)}(h:ix v l p pins=true)(M:aK v=true):∀x∈p,jq x:=by
 obtain⟨s,hs,hl,hw⟩:=yD h;obtain⟨e,_,_,_⟩:=pe hs;intro x hx;obtain⟨k,hk,rfl⟩:=List.getElem_of_mem hx;have hwk:=hw k hk;have hg:p.getD k 0=p[k]:=by rw[bu,aq hk];rfl
 by_cases q:p[k]= -1
 .rw[q];exact⟨by decide,by decide⟩
 .have:=(vn hwk (by rw[hg];exact q)).1;rw[hg]at this;have hb:=Cc this;have hsv:s.v=v:=by rw[e]
  rw[hsv]at hb;have hlen:=(jF M).len;exact⟨by omega,by omega⟩
def Rt:∀(l:List aB)(p:List Int),(∀o∈l,jq o.first)->(∀x∈p,jq x)->∀o∈eE l p,jq o.first:=by
 intro l;induction l with
 |nil=>intro p _ _ o ho;rw[eE]at ho;cases ho
 |cons a r ih=>
  intro p hl hp o ho;rw[eE]at ho;have hr:=λp hp=>ih p (λo ho=>hl o (eI _ ho)) hp;split at ho
  .rcases cJ.1 ho with rfl|ho
   .cases p with
    |nil=>exact⟨by show(-1:Int)<=0;decide,by show(0:Int)<=4096;decide⟩
    |cons x t=>exact hp x dU
   .exact hr p.tail (λx hx=>hp x (List.mem_of_mem_tail hx)) o ho
  .rcases cJ.1 ho with rfl|ho
   .exact hl _ dU
   .exact hr p hp o ho
def AH{p:List Int}(h:∀x∈p,jq x):jq (p.getLastD 0):=by
 rw[List.getLastD_eq_getLast?];cases q:p.getLast? with
 |none=>exact⟨by decide,by decide⟩
 |some x=>exact h x (List.mem_of_getLast? q)
def ZR{l:List aB}(h:∀o∈l,jq o.first)(k:Nat):jq (l.getD k default).first:=by
 rw[bu];cases q:l[k]? with
 |none=>exact⟨by decide,by decide⟩
 |some o=>exact h o (dE q)
def Cf{l:List aB}(h:∀o∈l,jq o.first)(k:Nat){o:aB}(ho:jq o.first):∀x∈l.set k o,jq x.first:=by
 intro x hx;rcases List.mem_or_eq_of_mem_set hx with q|q
 .exact h x q
 .rw[q];exact ho
def AD{n:Nat}{b:aI}{p:aQ}(M:aK b.v=true)(h:(gv n b p).2=0):∀x∈(gv n b p).1,jq x:=by
 unfold gv at h ⊢;split
 .intro x hx;cases hx
 .rename_i h1;rw[if_neg h1]at h;simp only at h ⊢;split
  .intro x hx;cases hx
  .rename_i h2;split
   .exact PA (tW (Classical.byContradiction λq=>h2 q)) M
   .split
    .intro x hx;cases hx
    .intro x hx;cases hx
def oY(n:Nat){N:Nat}{b:aI}(c:CmdR)(H:eF N b):eF (N+1) (bZ n b c).1:=by
 have H1:eF (N+1) b:=H.mono (by omega);unfold bZ;split
 .exact H1
 split
 .unfold kJ;split
  .exact H1
  .split
   .exact H1
   .rename_i hp;exact⟨H.f0,H.f1,H.n0,H.n1,H1.len,λ_=>Bw hp,H.fst⟩
 split
 .unfold iR;split
  .exact H1
  .rename_i hc;simp only[not_or,Int.not_lt]at hc;refine⟨H.f0,H.f1,by have:=H.n0;show 0<=b.now+c.a;omega,by show b.now+c.a<=_;omega,by show(b.l.map _).length<=_;rw[cf];exact H1.len,H.may,λo ho=>?_⟩;obtain⟨o',ho',rfl⟩:=dO.1 ho;split
   .exact⟨by show(-1:Int)<=-1;decide,by show(-1:Int)<=4096;decide⟩
   .exact H.fst o' ho'
 split
 .exact H1
 rename_i hhas;have M:aK b.v=true:=H.may (by simpa using hhas);split
 .unfold kH;split
  .exact H1
  .simp only;split
   .exact H1
   .rename_i h2;have hf:=AD M (Classical.byContradiction λq=>h2 q);refine⟨H.f0,H.f1,H.n0,H.n1,?_,H.may,?_⟩
    .show(eE (b.l++[_]) _).length<=_;rw[vf,bH,jz];have:=H.len;omega
    .refine Rt _ _ (λo ho=>?_) hf;rcases eH.1 ho with q|q
     .exact H.fst o q
     .rw[dZ]at q;subst q;exact AH hf
 split
 .exact H1
 split
 .unfold lR;split
  .exact H1
  .simp only;split
   .exact H1
   .exact⟨H.f0,H.f1,H.n0,H.n1,by show(b.l.set _ _).length<=_;rw[kW];exact H1.len,H.may,Cf H.fst _ (ZR H.fst _)⟩
 split
 .unfold lQ;split
  .exact H1
  .simp only;split
   .exact H1
   .exact⟨H.f0,H.f1,H.n0,H.n1,by show(b.l.set _ _).length<=_;rw[kW];exact H1.len,H.may,Cf H.fst _ ⟨by show(-1:Int)<=-1;decide,by show(-1:Int)<=4096;decide⟩⟩
 split
 .unfold ma;simp only;split
  .exact H1
  .rename_i h1;split
   .exact H1
   .refine⟨H.f0,H.f1,H.n0,H.n1,?_,H.may,Rt _ _ H.fst (PA (tW (Classical.byContradiction λq=>h1 q)) M)⟩;show(eE b.l _).length<=_;rw[vf];exact H1.len
 .exact H1
end Go.Proofs.Ybk.K
namespace Go.Proofs.Ybk.K
open Go Go.Am
open V (au aR ai aK aE)
def j4(n:Nat)(b:aI)(c:CmdR):List dW:=if(bZ n b c).2.code≠0 then[]else kQ (bZ n b c).1 b c
def vC:aI:=⟨1000,true,rT,[],0⟩
def tZ:aI:=⟨1000,true,rT,[⟨1,1,⟨1,0⟩,5,0⟩],0⟩
def pR:aI:=⟨1000,true,rT,[⟨1,1,⟨1,0⟩,5,0⟩,⟨2,1,⟨2,0⟩,5,1⟩],0⟩
def vD:aI:=⟨1000,true,rT,[⟨1,2,⟨1,0⟩,0,0⟩,⟨2,1,⟨2,0⟩,5,1⟩],0⟩
def YE:bZ 2000 (eP 1000) (cmd 2 0 0 [])=(eP 1000,err 11):=by kernel_rfl
def JP:bZ 2000 (eP 1000) (cmd 1 0 0 yB)=(vC,⟨0,3,(0,0),[]⟩):=by kernel_rfl
def JQ:bZ 2000 vC (cmd 2 5 1 [])=(tZ,⟨0,1,(0,0),[0]⟩):=by kernel_rfl
def JR:bZ 2000 tZ (cmd 2 5 2 [])=(pR,⟨0,2,(0,0),[1,2]⟩):=by kernel_rfl
def YH:bZ 2000 pR (cmd 2 5 1 [])=(pR,err 6):=by kernel_rfl
def JS:bZ 2000 pR (cmd 3 1 0 [])=(vD,⟨0,0,(0,0),[0]⟩):=by kernel_rfl
def JT:bZ 2000 vD (cmd 5 5 0 [])=(eN,⟨0,1,(0,0),[]⟩):=by kernel_rfl
def YI:bZ 2000 eN (cmd 8 0 0 [])=(eN,⟨0,0,(0,0),[1,0,0]⟩):=by kernel_rfl
def YJ:bZ 2000 eN (cmd 3 2 0 [])=(eN,err 5):=by kernel_rfl
def YK:bZ 2000 eN (cmd 4 9 0 [])=(eN,err 4):=by kernel_rfl
def YF:bZ 2000 eN (cmd 99 0 0 [])=(eN,err 1):=by kernel_rfl
def YG:bZ 2000 eN (cmd 1 0 0 [])=(eN,err 12):=by kernel_rfl
def Yz:j4 2000 (eP 1000) (cmd 2 0 0 [])=[]:=by kernel_rfl
def YA:(j4 2000 (eP 1000) (cmd 1 0 0 yB)).length=2:=by kernel_rfl
def YB:(j4 2000 tZ (cmd 2 5 2 [])).length=2:=by kernel_rfl
def RK:ku eN=[gJ yA,iP 5]++(eN.l.map gI++[recC]):=by
 show(if eN.has then[gJ (gW rT)]else[])++_=_;rw[ank];rfl
end Go.Proofs.Ybk.K
namespace Go.Proofs.Ybk.K
open Go Go.Am
set_option maxHeartbeats 4000000
open V (au aR ai ao aZ ab bg aK aE cA cG a8 bL)
open T (dI)
open F (cC)
def cmdC(c:CmdR):List Value:=[.int .i64 c.kind,.int .i64 c.a,.int .i64 c.az.size,.int .i64 c.az.cS,.string (B c.text)]
def cH(c:CmdR):Value:=.agg ⟨cmdC c⟩
def uX(r:jX)(sv:Value):List Value:=[.int .i64 r.code,.int .i64 r.n,.int .i64 r.spot.1,.int .i64 r.spot.2,sv]
def nV(h:aa)(R:jX)(v:Value):Prop:=∃sv,v= .agg ⟨uX R sv⟩/\aL 3 ab h sv R.ag
def jJ(h:aa)(k:Int):nV h (err k) (.agg ⟨[.int .i64 k,.int .i64 0,.int .i64 0,.int .i64 0,.slice none 0 0]⟩):=⟨_,rfl,aL.nil⟩
def Sn(l:List UInt8)(hl:l.length<=1048576)(h:aa):al PP 76 [.string (B l)] h (λv h'=>Ext h h'/\match(fp l).1 with
 |some _=>∃be,v= .tuple #[.agg ⟨V.jv⟩,.iface 207 (.pointer (some ⟨be,0,none⟩))]
 |none=>∃co,eC h' (nI (fp l).2) co/\v= .tuple #[.agg ⟨co⟩,.nilIface]):=by
 refine al.jM (Sp l hl h) (λv h' ⟨E,H⟩=>?_)
 cases q:(fp l).1 with
 |some e=>
  rw[q]at H
  obtain⟨E1,e1,C⟩:=H
  obtain⟨be,e2⟩:=lh (h:=h') (a:=e.1) (b:=e.2) ⟨Ext.bJ _,C⟩
  exact⟨h',Wk.refl _,E,be,by rw[e1,e2]⟩
 |none=>
  rw[q]at H
  obtain⟨w,co,n1,n2,n3⟩:=H
  obtain⟨F,W,EF,S⟩:=Sm n2 E
  exact⟨F,W,EF,co,by rw[PR n1];exact S,n3⟩
section
variable {h0 h h':aa} {a:Nat} {b:aI} {vc:List Value} {ov:Value} {o:Option Nat}
def aby(hl:b.l.length<=1048576)(c:CmdR)(hc:c.text.length<=1048576)(G0:cC h0)(B:bC h0 h a b vc ov o):
  al PP 66 [.pointer (some ⟨a,0,none⟩),cH c] h (λr h'=>cN h0 h h' a o (kJ b c.text).1/\nV h' (kJ b c.text).2 r):=by
 refine aC Tryz.func66 ahx ?_;simp only[aA,Tryz.f66];have hlive:=uL (by omega) B;unfold kJ;simp -implicitDefEqProofs[cH,cmdC];refine hlive.mono ?_;rintro r G1 ⟨E1,S1⟩;obtain⟨ad,cc,rfl⟩:=S1.shape;simp -implicitDefEqProofs[af];intro _;by_cases q:(bV b).length>0
 .have q':(0:Int)<(bV b).length:=by omega
  rw[if_pos q];simp -implicitDefEqProofs[q,q'];exact⟨cN.fP B E1,jJ _ 12⟩
 .have q':¬(0:Int)<(bV b).length:=by omega
  rw[if_neg q];simp -implicitDefEqProofs[q,q'];refine(aiS c.text hc G1 ((G0.ext B.ext).ext E1)).mono ?_;rintro r G2 ⟨E2,rfl⟩;unfold vI;cases qp:(fp c.text).1 with
  |some e=>
   simp -implicitDefEqProofs[af,dI];intro _;exact⟨cN.fP B (E1.trans E2),_,rfl,aL.nil⟩
  |none=>
   simp -implicitDefEqProofs[af,dI];intro _;refine(Sn c.text hc G2).mono ?_;rintro r G3 ⟨E3,H3⟩;rw[qp]at H3;obtain⟨co,hV,rfl⟩:=H3;have B3:=((B.exts E1).exts E2).exts E3;have hV':=hV;obtain⟨s,k,p,rfl,z1,z2,z3⟩:=hV';obtain⟨b1,d1,rfl⟩:=z1.shape;obtain⟨b2,d2,rfl⟩:=z2.shape;obtain⟨b3,d3,rfl⟩:=z3.shape;have hrow3:=B3.row;have hw:=B3.dR;obtain⟨a1,n1,c1,g,r,a2,n2,c2,a3,n3,c3,a4,n4,c4,rfl,rfl,rfl,hrow⟩:=B.cells;simp only[iI,dB,dJ]at hrow3;simp -implicitDefEqProofs[af,hrow3];intro _;rw[nB];refine⟨(cN.pre ((E1.trans E2).trans E3) (cN.px (sj (b:={b with v:=nI (fp c.text).2,has:=true}) hrow3 B3.a0 B3.a1 B3.ext hV hw rfl) ((jC G3 a _).mono (λx hx _=>?_)))),_,rfl,aL.nil⟩;rw[dZ]at hx;subst hx;exact dU
end
end Go.Proofs.Ybk.K

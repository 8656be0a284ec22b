import Derived.Test.YtbcdmljanolkeaaGreatDoorMf
set_option linter.unusedVariables false
set_option linter.unusedSimpArgs false
set_option linter.unusedSectionVars false
set_option linter.constructorNameAsVariable false
set_option linter.defProp false
set_option maxRecDepth 20000
namespace Go.Proofs.Ybk.T
open Go Go.Am
set_option maxHeartbeats 2000000
theorem PL {α:Type} (l:List α) (a n m:Nat):((l.drop a).take n).drop m=(l.take (a+n)).drop (a+m):=by
 rw[←fx (i:=m) (j:=a)];conv=>rhs;rw[List.drop_take,show a+n-a=n by omega]
theorem abo (l:List UInt8) (a k:Nat):fY l (a+k)=⟨(fY (l.drop a) k).n,a+(fY (l.drop a) k).to,(fY (l.drop a) k).ok⟩:=by
 have hg:∀j,l[a+j]? =(l.drop a)[j]? :=fun j=>by rw[List.getElem?_drop]
 have hm:fS l (a+k)=fS (l.drop a) k:=by
  unfold fS;rw[bB,bB,hg]
 have ht:iS l (a+k)=iS (l.drop a) k:=by
  unfold iS;rw[hm,fx,Nat.add_assoc]
 have hn:l8 l (a+k)=l8 (l.drop a) k:=by
  unfold l8;rw[hm,ht,fx,Nat.add_assoc]
 unfold fY jS;rw[hm,ht,hn];split
 ·rfl
 ·have e:a+k+fS (l.drop a) k+iS (l.drop a) k=a+(k+fS (l.drop a) k+iS (l.drop a) k):=by omega
  rw[e,hg]
theorem Xw (l:List UInt8) (a k:Nat):jC l (a+k)=jC (l.drop a) k:=by
 unfold jC;rw[List.getElem?_drop]
theorem aa6 (l:List UInt8) (a:Nat) (ln ah:Int):bu l a ln ah=⟨(bu (l.drop a) 0 ln ah).tok,a+(bu (l.drop a) 0 ln ah).to,(bu (l.drop a) 0 ln ah).ln,(bu (l.drop a) 0 ln ah).ah,(bu (l.drop a) 0 ln ah).code⟩:=by
 unfold bu;rw[List.drop_zero,jh];generalize hk:dE false (l.drop a)=k;unfold im;have hg:l[a+k]? =(l.drop a)[k]? :=by rw[List.getElem?_drop]
 have hc:∀j:Nat,ah+((a+j:Nat):Int)-(a:Int)=ah+(j:Int)-((0:Nat):Int):=fun j=>by omega
 rw[hg];cases hx:(l.drop a)[k]? with
 |none=>simp only[hc]
 |some c=>
  dsimp only;by_cases h3:cK c.toNat=3
  ·simp only[h3,if_true,hc];rfl
  ·simp only[h3,if_false];by_cases h4:cK c.toNat=4
   ·simp only[h4,if_true];have e1:eL 4 (l.drop (a+k))=eL 4 ((l.drop a).drop k):=(by rw[fx]);have e2:a+k+eL 4 ((l.drop a).drop k)=a+(k+eL 4 ((l.drop a).drop k)):=(by omega);rw[e1,e2,Xw];split
    ·simp only[hc,←PL]
    ·simp only[hc,gQ]
   ·simp only[h4,if_false];by_cases h5:cK c.toNat=6∨cK c.toNat=5
    ·simp only[h5,if_true];rw[abo];dsimp only;split
     ·simp only[hc,←PL]
     ·simp only[hc,gQ]
    ·simp only[h5,if_false,hc,gQ]
theorem zg (l:List UInt8):∀(n a:Nat) (ln ah:Int),eF l n a ln ah=eF (l.drop a) n 0 ln ah:=by
 intro n;induction n generalizing l with
 |zero=>intro a ln ah;rfl
 |succ n ih=>
  intro a ln ah;rw[eF,eF,aa6 l a];dsimp only;have e:∀(ln' col':Int),eF l n (a+(bu (l.drop a) 0 ln ah).to) ln' col'=eF (l.drop a) n (bu (l.drop a) 0 ln ah).to ln' col':=fun ln' col'=>by
   rw[ih l,ih (l.drop a),fx]
  rw[e]
theorem NW (l:List UInt8) (ln ah:Int):(bu l 0 ln ah).to=(bu l 0 1 1).to∧(bu l 0 ln ah).code=(bu l 0 1 1).code:=by
 unfold bu im;generalize 0+dE false (l.drop 0)=k;cases l[k]? with
 |none=>exact⟨rfl,rfl⟩
 |some c=>
  dsimp only;(repeat' split)<;>exact⟨rfl,rfl⟩
theorem AE {l:List UInt8} {ln ah:Int} (hc:(bu l 0 ln ah).code=0):0<(bu l 0 ln ah).to∧(bu l 0 ln ah).to≤l.length:=by
 rw[(NW l ln ah).2]at hc;rw[(NW l ln ah).1];have:=AD (l:=l) (a:=0) (ln:=1) (ah:=1) (by omega) (by omega) (by omega) hc;exact⟨this.1,this.2.1⟩
theorem Ue:∀(n m:Nat) (t:List UInt8) (ln ah:Int),t.length<n→t.length<m→eF t n 0 ln ah=eF t m 0 ln ah:=by
 intro n;induction n with
 |zero=>intro m t ln ah h;omega
 |succ n ih=>
  intro m t ln ah h1 h2;cases m with
  |zero=>omega
  |succ m=>
   rw[eF,eF];by_cases hc:(bu t 0 ln ah).code=0
   ·have hs:=AE hc;simp only[hc,if_true];have hl:(t.drop (bu t 0 ln ah).to).length=t.length-(bu t 0 ln ah).to:=eN;rw[zg t n,zg t m,ih m _ _ _ (by omega) (by omega)]
   ·simp only[hc,if_false]
def dW (t:List UInt8) (ln ah:Int):yN:=eF t (t.length+1) 0 ln ah
theorem ZJ (l:List UInt8):bT l=dW l 1 1:=rfl
theorem xE (t:List UInt8) (ln ah:Int):dW t ln ah=
  if(bu t 0 ln ah).code=0 then⟨(bu t 0 ln ah).tok::(dW (t.drop (bu t 0 ln ah).to) (bu t 0 ln ah).ln (bu t 0 ln ah).ah).ts,(dW (t.drop (bu t 0 ln ah).to) (bu t 0 ln ah).ln (bu t 0 ln ah).ah).ln,
   (dW (t.drop (bu t 0 ln ah).to) (bu t 0 ln ah).ln (bu t 0 ln ah).ah).ah,(dW (t.drop (bu t 0 ln ah).to) (bu t 0 ln ah).ln (bu t 0 ln ah).ah).code⟩
  else if(bu t 0 ln ah).code=4 then⟨[],(bu t 0 ln ah).ln,(bu t 0 ln ah).ah,0⟩else⟨[],(bu t 0 ln ah).ln,(bu t 0 ln ah).ah,(bu t 0 ln ah).code⟩:=by
 unfold dW;rw[eF];by_cases hc:(bu t 0 ln ah).code=0
 ·have hs:=AE hc;have hl:(t.drop (bu t 0 ln ah).to).length=t.length-(bu t 0 ln ah).to:=eN;simp only[hc,if_true];rw[zg t,Ue t.length ((t.drop (bu t 0 ln ah).to).length+1) _ _ _ (by omega) (by omega)]
 ·simp only[hc,if_false]
def k9 (b:List UInt8):Prop:=∀c∈b,c.toNat≠10
theorem abc {b:List UInt8} (h:k9 b) (k:Nat):k9 (b.drop k):=fun c hc=>h c (List.mem_of_mem_drop hc)
theorem ajk (post:List UInt8):∀(b:List UInt8) (f:Bool),k9 b→dE f (b++10::post)=dE f b:=by
 intro b;induction b with
 |nil=>
  intro f _;cases f with
  |true=>rw[dA,dE];rfl
  |false=>rw[dA,dE];rfl
 |cons c r ih=>
  intro f h;have hr:k9 r:=fun x hx=>h x (ep _ hx);cases f with
  |true=>rw[dp,dE,dE,ih _ hr]
  |false=>rw[dp,dE,dE,ih _ hr,ih _ hr]
theorem Pj (post:List UInt8) (k:Nat) (hk:k≠3):∀(b:List UInt8),eL k (b++10::post)=eL k b:=by
 intro b;induction b with
 |nil=>
  have h3:¬cK (10:UInt8).toNat=k:=by show¬(3:Nat)=k;omega
  rw[dA];show(if cK (10:UInt8).toNat=k then eL k post+1 else 0)=0;rw[if_neg h3]
 |cons c r ih=>rw[dp,eL,eL,ih]
theorem xk {b post:List UInt8} {k:Nat} (h:k<b.length):(b++10::post)[k]? =b[k]? :=jz h
theorem zW {b post:List UInt8}:(b++10::post)[b.length]? =some 10:=by simp
theorem abn {b post:List UInt8} {k:Nat} (hk:k<b.length):fY (b++10::post) k=fY b k:=by
 have hm:fS (b++10::post) k=fS b k:=by
  unfold fS;rw[bB,bB,xk hk]
 have hm1:fS b k≤1:=by unfold fS;split<;>omega
 have hd:(b++10::post).drop (k+fS b k)=b.drop (k+fS b k)++10::post:=List.drop_append_of_le_length (by omega);have ht:iS (b++10::post) k=iS b k:=by
  unfold iS;rw[hm,hd,Pj post 5 (by decide)]
 have htl:iS b k≤(b.drop (k+fS b k)).length:=uq 5 _;have hn:l8 (b++10::post) k=l8 b k:=by
  unfold l8;rw[hm,ht,hd,List.take_append_of_le_length htl]
 unfold fY jS;rw[hm,ht,hn];split
 ·rfl
 ·rw[eN]at htl;congr 1;rcases Nat.lt_or_ge (k+fS b k+iS b k) b.length with z|z
  ·rw[xk z]
  ·have e:k+fS b k+iS b k=b.length:=(by omega);rw[e,zW,iK (a8 _)];rfl
theorem Xv {b post:List UInt8} {k:Nat} (hk:k≤b.length):jC (b++10::post) k=jC b k:=by
 unfold jC;rcases Nat.lt_or_ge k b.length with z|z
 ·rw[xk z]
 ·have e:k=b.length:=by omega
  rw[e,zW,iK (a8 _)];rfl
theorem PK {b post:List UInt8} {n:Nat} (h:n≤b.length):(b++10::post).take n=b.take n:=List.take_append_of_le_length h
theorem aa3 {b:List UInt8} (post:List UInt8) (hb:k9 b) (ln ah:Int):
  ((bu b 0 ln ah).code≠4→bu (b++10::post) 0 ln ah=bu b 0 ln ah)∧
  ((bu b 0 ln ah).code=4→bu (b++10::post) 0 ln ah=⟨⟨3,0,ln,(bu b 0 ln ah).ah,[]⟩,b.length+1,ln+1,1,0⟩)∧(bu b 0 ln ah).ln=ln:=by
 unfold bu;rw[List.drop_zero,List.drop_zero,jh,jh,ajk post b false hb];have hkl:=PA false b;revert hkl;generalize dE false b=k;intro hkl;unfold im;rcases Nat.lt_or_ge k b.length with z|z
 ·rw[xk z];have hx:b[k]? =some b[k]:=av z;have h10:=hb b[k] (fy z);generalize b[k]=c at hx h10;rw[hx];dsimp only;have h3:¬cK c.toNat=3:=by
   intro q;unfold cK at q;(repeat' split at q)<;>omega
  simp only[h3,if_false];by_cases h4:cK c.toNat=4
  ·simp only[h4,if_true];have e1:eL 4 ((b++10::post).drop k)=eL 4 (b.drop k):=(by rw[List.drop_append_of_le_length hkl,Pj post 4 (by decide)]);have hle:k+eL 4 (b.drop k)≤b.length:=(by have:=uq 4 (b.drop k);rw[eN]at this;omega);rw[e1,Xv hle,PK hle];split
   ·exact⟨fun _=>rfl,fun q=>by exfalso;revert q;dsimp only;omega,rfl⟩
   ·exact⟨fun _=>rfl,fun q=>by exfalso;revert q;dsimp only;omega,rfl⟩
  ·simp only[h4,if_false];by_cases h5:cK c.toNat=6∨cK c.toNat=5
   ·simp only[h5,if_true];rw[abn z];have hle:=AH b k hkl;rw[PK hle];split
    ·exact⟨fun _=>rfl,fun q=>by exfalso;revert q;dsimp only;omega,rfl⟩
    ·exact⟨fun _=>rfl,fun q=>by exfalso;revert q;dsimp only;omega,rfl⟩
   ·simp only[h5,if_false];exact⟨fun _=>trivial,fun q=>by exfalso;revert q;omega,trivial⟩
 ·have e:k=b.length:=by omega
  subst e;rw[zW,iK (a8 _)];refine⟨fun q=>absurd rfl q,fun _=>?_,rfl⟩;rfl
theorem Nl (post:List UInt8):∀(n:Nat) (b:List UInt8) (ln ah:Int),b.length<n→k9 b→
  dW (b++10::post) ln ah=(if(dW b ln ah).code=0 then⟨(dW b ln ah).ts++⟨3,0,ln,(dW b ln ah).ah,[]⟩::(dW post (ln+1) 1).ts,(dW post (ln+1) 1).ln,(dW post (ln+1) 1).ah,(dW post (ln+1) 1).code⟩else dW b ln ah)∧(dW b ln ah).ln=ln∧∀t∈(dW b ln ah).ts,t.kind≠3:=by
 intro n;induction n with
 |zero=>intro b ln ah h;omega
 |succ n ih=>
  intro b ln ah hn hb;obtain⟨c1,c2,c3⟩:=aa3 post hb ln ah;rw[xE (b++10::post),xE b];by_cases h0:(bu b 0 ln ah).code=0
  ·have hs:=AE h0;rw[c1 (by rw[h0];decide)];simp only[h0,if_true];have hd:(b++10::post).drop (bu b 0 ln ah).to=b.drop (bu b 0 ln ah).to++10::post:=List.drop_append_of_le_length hs.2;have hl:(b.drop (bu b 0 ln ah).to).length=b.length-(bu b 0 ln ah).to:=eN;obtain⟨i1,i2,i3⟩:=ih (b.drop (bu b 0 ln ah).to) (bu b 0 ln ah).ln (bu b 0 ln ah).ah (by omega) (abc hb _);rw[hd,i1];refine⟨?_,by rw[i2,c3],fun t ht=>?_⟩
   ·split
    ·rw[c3];rfl
    ·rfl
   ·rcases cE.1 ht with rfl|q
    ·revert h0;unfold bu im;generalize 0+dE false (b.drop 0)=k;cases hx:b[k]? with
     |none=>intro q;exfalso;revert q;dsimp only;omega
     |some c=>
      have h10:=hb c (dY hx);have h3:¬cK c.toNat=3:=by
       intro q;unfold cK at q;(repeat' split at q)<;>omega
      dsimp only;simp only[h3,if_false];(repeat' split)<;>intro q<;>first|(exfalso;revert q;dsimp only;omega)|(dsimp only;omega)
    ·exact i3 t q
  ·by_cases h4:(bu b 0 ln ah).code=4
   ·rw[c2 h4];simp only[h4,if_true,h0,if_false];have hd:(b++10::post).drop (b.length+1)=post:=by
     rw[←fx];simp
    rw[hd];refine⟨by simp,c3,fun t ht=>by cases ht⟩
   ·rw[c1 h4];simp only[h0,h4,if_false];exact⟨trivial,c3,fun t ht=>by cases ht⟩
end Go.Proofs.Ybk.T
namespace Go.Proofs.Ybk
open Go Go.Am
set_option maxHeartbeats 2000000
open T (bA dW k9 bT)
open V (aq aU aj)
def ko (r:Rd) (row:List bA) (bl bc:Int):Rd×Option (Int×Int):=match row with
 |[]=>(r,none)
 |t0::rest=>match eU (t0::rest) bl bc with
  |some e=>(r,some e)
  |none=>if(cV r t0 rest).2 then((cV r t0 rest).1,none)else((cV r t0 rest).1,some (t0.line,t0.ah))
def jR (t:bA):Bool:=decide (t.kind≠3)
def pJ (el ec:Int):Nat→List bA→Rd→Rd×Option (Int×Int)
 |0,_,r=>(r,none)
 |f+1,ts,r=>if ts=[]then(r,none)else match ko r (ts.takeWhile jR) (jj (ts.dropWhile jR) el ec 0).1 (jj (ts.dropWhile jR) el ec 0).2 with
  |(r',some e)=>(r',some e)
  |(r',none)=>pJ el ec f (ts.dropWhile jR).tail r'
theorem alJ (ts:List bA):ts=ts.takeWhile jR++ts.dropWhile jR:=(List.takeWhile_append_dropWhile).symm
theorem ZT (ts:List bA) (el ec:Int):∀(f a:Nat) (r:Rd),gH ts el ec f a r=pJ el ec f (ts.drop a) r:=by
 intro f;induction f with
 |zero=>intro a r;rfl
 |succ f ih=>
  intro a r;by_cases ha:a<ts.length
  ·have hne:ts.drop a≠[]:=by
    intro q;have:=congrArg List.length q;rw[eN]at this;simp at this;omega
   obtain⟨n,hn⟩:∃n,n=T.iQ (ts.drop a):=⟨_,rfl⟩
   have hnl:n=((ts.drop a).takeWhile jR).length:=hn
   have hd:ts.drop a=(ts.drop a).takeWhile jR++(ts.drop a).dropWhile jR:=alJ _
   have hrow:rowAt ts a=(ts.drop a).takeWhile jR:=by
    unfold rowAt;rw[←hn,List.drop_take,show a+n-a=n by omega];conv=>lhs;rw[hd]
    rw[hnl,List.take_left]
   have hdw:ts.drop (a+n)=(ts.drop a).dropWhile jR:=by
    rw[←fx];conv=>lhs;rw[hd]
    rw[hnl,List.drop_left]
   have hbeh:jj ts el ec (a+n)=jj ((ts.drop a).dropWhile jR) el ec 0:=by
    unfold jj;rw[←hdw,List.getElem?_drop,gQ]
   have hnext:ts.drop (oI ts a)=((ts.drop a).dropWhile jR).tail:=by
    unfold oI;rw[←hn,←hdw,List.tail_drop];split
    ·rfl
    ·rw[List.drop_length,List.drop_of_length_le (by omega)]
   rw[pJ,if_neg hne,←hrow,←hbeh,←hnext]
   have hrl:(rowAt ts a).length=n:=by rw[hrow,hnl]
   cases hr:rowAt ts a with
   |nil=>rw[xH ha hr];exact ih _ _
   |cons t0 rest=>
    have hl:a+(rest.length+1)=a+n:=by rw[hr]at hrl;simp at hrl;omega
    rw[xG ha hr,hl]
    unfold ko
    simp only
    cases hle:eU (t0::rest) (jj ts el ec (a+n)).1 (jj ts el ec (a+n)).2 with
    |some e=>rfl
    |none=>
     simp only
     cases hok:(cV r t0 rest).2 with
     |true=>simp only[if_true];exact ih _ _
     |false=>rfl
  ·have hne:ts.drop a=[]:=List.drop_of_length_le (by omega);rw[gH,if_neg ha,pJ,if_pos hne]
theorem ZS (el ec:Int) (f:Nat) (row more:List bA) (e:bA) (r:Rd) (hr:∀t∈row,t.kind≠3) (he:e.kind=3):pJ el ec (f+1) (row++e::more) r=match ko r row e.line e.ah with
  |(r',some e)=>(r',some e)
  |(r',none)=>pJ el ec f more r':=by
 have h1:∀t∈row,jR t=true:=fun t ht=>by unfold jR;simp[hr t ht]
 have h2:jR e=false:=by unfold jR;simp[he]
 have htw:(row++e::more).takeWhile jR=row:=by
  rw[List.takeWhile_append_of_pos h1,List.takeWhile_cons,h2];simp
 have hdw:(row++e::more).dropWhile jR=e::more:=by
  rw[List.dropWhile_append_of_pos h1,List.dropWhile_cons,h2];simp
 rw[pJ,if_neg (by simp),htw,hdw];rfl
def fR (L:List (List UInt8)):List UInt8:=L.flatMap fun b=>b++[10]
def vt (b:List UInt8):Prop:=k9 b∧∀ln,(dW b ln 1).code=0
def pa:List (List UInt8)→Int→List bA
 |[],_=>[]
 |b::bs,ln=>(dW b ln 1).ts++⟨3,0,ln,(dW b ln 1).ah,[]⟩::pa bs (ln+1)
def nA:List (List UInt8)→Int→Rd→Rd×Option (Int×Int)
 |[],_,r=>(r,none)
 |b::bs,ln,r=>match ko r (dW b ln 1).ts ln (dW b ln 1).ah with
  |(r',some e)=>(r',some e)
  |(r',none)=>nA bs (ln+1) r'
theorem lex_nil (ln ah:Int):dW [] ln ah=⟨[],ln,ah,0⟩:=by
 unfold dW T.eF;simp[T.bu,T.im,T.dE]
theorem ZK:∀(L:List (List UInt8)) (ln:Int),(∀b∈L,vt b)→dW (fR L) ln 1=⟨pa L ln,ln+L.length,1,0⟩:=by
 intro L;induction L with
 |nil=>intro ln _;show dW [] ln 1=_;rw[lex_nil];simp[pa]
 |cons b bs ih=>
  intro ln h;obtain⟨h1,h2⟩:=h b dH;have e:fR (b::bs)=b++10::fR bs:=by simp[fR]
  obtain⟨c1,_,_⟩:=T.Nl (fR bs) (b.length+1) b ln 1 (by omega) h1;rw[e,c1,if_pos (h2 ln),ih (ln+1) (fun b hb=>h b (ep _ hb))];simp only[pa,eE];congr 1;omega
theorem Yf (el ec:Int):∀(L:List (List UInt8)) (ln:Int) (r:Rd) (f:Nat),(∀b∈L,vt b)→L.length<f→pJ el ec f (pa L ln) r=nA L ln r:=by
 intro L;induction L with
 |nil=>
  intro ln r f _ hf;obtain⟨f,rfl⟩:∃k,f=k+1:=⟨f-1,by omega⟩;rw[pJ,if_pos (show pa [] ln=[]from rfl),nA]
 |cons b bs ih=>
  intro ln r f h hf;obtain⟨f,rfl⟩:∃k,f=k+1:=⟨f-1,by omega⟩;obtain⟨h1,h2⟩:=h b dH;obtain⟨_,_,c3⟩:=T.Nl [] (b.length+1) b ln 1 (by omega) h1;rw[pa,ZS el ec f _ _ _ r c3 rfl,nA];simp only;cases hl:ko r (dW b ln 1).ts ln (dW b ln 1).ah with
  |mk r' o=>
   cases o with
   |some e=>rfl
   |none=>exact ih _ _ _ (fun b hb=>h b (ep _ hb)) (by simp at hf;omega)
theorem alE:∀(L:List (List UInt8)) (ln:Int),L.length≤(pa L ln).length:=by
 intro L;induction L with
 |nil=>intro ln;simp
 |cons b bs ih=>intro ln;have:=ih (ln+1);simp[pa];omega
theorem agS (L:List (List UInt8)) (h:∀b∈L,vt b):fc (fR L)=match nA L 1 gx with
  |(_,some e)=>(some e,⟨[],0,0,[],[]⟩)
  |(r,none)=>match iv r (1+L.length) 1 with
   |(_,some e)=>(some e,⟨[],0,0,[],[]⟩)
   |(ks,none)=>(none,kD r ks):=by
 have hx:bT (fR L)=⟨pa L 1,1+L.length,1,0⟩:=by rw[T.ZJ,ZK L 1 h]
 unfold fc;rw[hx];simp only;rw[if_neg (by simp),ZT,List.drop_zero,Yf _ _ L 1 gx _ h (by have:=alE L 1;omega)];generalize nA L 1 gx=X;obtain⟨r,o⟩:=X;cases o with
 |some e=>rfl
 |none=>
  simp only;generalize iv r (1+L.length) 1=Y;obtain⟨ks,o⟩:=Y;cases o<;>rfl
theorem Yc {b:List UInt8} {bs:List (List UInt8)} {ln:Int} {r r':Rd} (h:ko r (dW b ln 1).ts ln (dW b ln 1).ah=(r',none)):nA (b::bs) ln r=nA bs (ln+1) r':=by rw[nA,h]
end Go.Proofs.Ybk
namespace Go.Proofs.Ybk
open Go Go.Am
set_option maxHeartbeats 2000000
open T (bA dW k9 bT bu)
open V (aq aU aj)
end Go.Proofs.Ybk
namespace Go.Proofs.Ybk.T
open Go Go.Am
set_option maxHeartbeats 2000000
def qc (d:List UInt8):Prop:=d=[]∨∃c r,d=c::r∧cK c.toNat=1
theorem Bq (m:Nat) (l:List UInt8) (h:dE false l=0):dE false (List.replicate m 32++l)=m:=by
 induction m with
 |zero=>simpa using h
 |succ m ih=>rw[List.replicate_succ,dp,dE,if_pos (by decide),ih]
theorem Bf (k:Nat) (hk1:k≠1):∀(w d:List UInt8),(∀c∈w,cK c.toNat=k)→qc d→eL k (w++d)=w.length:=by
 intro w;induction w with
 |nil=>
  intro d _ hd;rcases hd with rfl|⟨c,r,rfl,hc⟩
  ·rfl
  ·rw[dA,eL,if_neg (by omega)];rfl
 |cons a w ih=>
  intro d h hd;rw[dp,eL,if_pos (h a dH),ih d (fun c hc=>h c (ep _ hc)) hd];rfl
theorem uk (m:Nat) (w d:List UInt8) (j:Nat):(List.replicate m (32:UInt8)++(w++d))[m+j]? =(w++d)[j]? :=by
 rw[iW (by simp)];simp
theorem sT (m:Nat) (l:List UInt8):(List.replicate m (32:UInt8)++l).drop m=l:=by
 rw[List.drop_append];simp
theorem Bb (m:Nat) (w d:List UInt8):((List.replicate m (32:UInt8)++(w++d)).take (m+w.length)).drop m=w:=by
 rw[List.drop_take,sT,show m+w.length-m=w.length by omega,List.take_left]
theorem Bl {w d:List UInt8} (hd:qc d):∀c,(w++d)[w.length]? =some c→cK c.toNat=1:=by
 intro c hc;rcases hd with rfl|⟨x,y,rfl,hx⟩
 ·rw[pj,iK (a8 _)]at hc;cases hc
 ·rw[iW (a8 _)]at hc;simp at hc;subst hc;exact hx
theorem aba (m:Nat) (w d:List UInt8) (hw:w≠[]) (hk:∀c∈w,cK c.toNat=4) (hd:qc d) (ln ah:Int):
  bu (List.replicate m 32++(w++d)) 0 ln ah=⟨⟨1,0,ln,ah+m,w⟩,m+w.length,ln,ah+m+w.length,0⟩:=by
 obtain⟨c,r,hcr⟩:=List.exists_cons_of_ne_nil hw;have hc:=hk c (by rw[hcr];exact dH);have hr:=Bf 4 (by decide) w d hk hd;have hsk:dE false (List.replicate m 32++(w++d))=m:=Bq m _ (by rw[hcr,dp,dE,if_neg (by omega),if_neg (by omega)]);have hg:(List.replicate m (32:UInt8)++(w++d))[m]? =some c:=by have:=uk m w d 0;rw[gQ]at this;rw[this,hcr];rfl
 have he:jC (List.replicate m (32:UInt8)++(w++d)) (m+w.length)=true:=by
  unfold jC;rw[uk];cases hx:(w++d)[w.length]? with
  |none=>rfl
  |some x=>
   have:=Bl hd x hx;simp only;rw[this];rfl
 unfold bu im;rw[List.drop_zero,hsk,jh,hg];dsimp only;rw[if_neg (by omega),if_pos hc,sT,hr,if_pos he,Bb];congr 1
 ·congr 1;omega
 ·omega
theorem wZ {m:Nat} (h:m<10):(UInt8.ofNat (48+m)).toNat=48+m:=by simp;omega
theorem wX (n:Nat):∀c∈Lib.decDigits n,cK c.toNat=5:=by
 induction n using Nat.strongRecOn with
 |ind n ih=>
  intro c hc;by_cases h10:n<10
  ·rw[F.vf h10]at hc;obtain rfl:=eo.1 hc;rw[wZ h10,xw];omega
  ·rw[F.ve h10]at hc;rcases ei.mp hc with hc|hc
   ·exact ih _ (by omega) c hc
   ·obtain rfl:=eo.1 hc;have hm:n % 10<10:=(by omega);rw[wZ hm,xw];omega
theorem G8 (n:Nat):Lib.decDigits n≠[]:=by
 by_cases h10:n<10
 ·rw[F.vf h10];simp
 ·rw[F.ve h10];simp
theorem abj (l:List UInt8) (c:UInt8):∀v,kr v (l++[c])=qB (kr v l) (c.toNat-48):=by
 induction l with
 |nil=>intro v;rw[dA,tY,vH,vH]
 |cons a r ih=>intro v;rw[dp,tY,tY,ih]
theorem N5 (n:Nat):n≤2147483647→kr 0 (Lib.decDigits n)=n:=by
 induction n using Nat.strongRecOn with
 |ind n ih=>
  intro hn;by_cases h10:n<10
  ·rw[F.vf h10,tY,vH,u7,wZ h10];rw[if_neg (by omega)];omega
  ·rw[F.ve h10,abj,ih _ (by omega) (by omega),u7,wZ (by omega)];rw[if_neg (by omega)];omega
theorem aa5 (m n:Nat) (hn:n≤2147483647) (d:List UInt8) (hd:qc d) (ln ah:Int):
  bu (List.replicate m 32++(Lib.decDigits n++d)) 0 ln ah=⟨⟨2,n,ln,ah+m,Lib.decDigits n⟩,m+(Lib.decDigits n).length,ln,ah+m+(Lib.decDigits n).length,0⟩:=by
 obtain⟨w,hw⟩:∃w,w=Lib.decDigits n:=⟨_,rfl⟩;have hne:=G8 n;have hk:=wX n;have hnum:=N5 n hn;rw[←hw]at hne hk hnum ⊢;obtain⟨c,r,hcr⟩:=List.exists_cons_of_ne_nil hne;have hc:=hk c (by rw[hcr];exact dH);have hr:=Bf 5 (by decide) w d hk hd;have hsk:dE false (List.replicate m 32++(w++d))=m:=Bq m _ (by rw[hcr,dp,dE,if_neg (by omega),if_neg (by omega)]);have hg:(List.replicate m (32:UInt8)++(w++d))[m]? =some c:=by have:=uk m w d 0;rw[gQ]at this;rw[this,hcr];rfl
 obtain⟨l,hl⟩:∃l,l=List.replicate m (32:UInt8)++(w++d):=⟨_,rfl⟩;have hM:fS l m=0:=by
  unfold fS;rw[hl,bB,hg,iJ,if_neg];rw[xw]at hc;omega
 have hT:iS l m=w.length:=by unfold iS;rw[hM,gQ,hl,sT,hr]
 have hN:l8 l m=(n:Int):=by
  unfold l8;rw[hM,hT,gQ,hl,sT,List.take_left,hnum];simp
 have hlen:0<w.length:=by rw[hcr];simp
 have hnumV:fY l m=⟨n,m+w.length,true⟩:=by
  unfold fY jS;rw[hM,hT,hN,if_neg (by omega),gQ,hl,uk];cases hx:(w++d)[w.length]? with
  |none=>rfl
  |some x=>
   have:=Bl hd x hx;simp only;rw[this];rfl
 unfold bu im;rw[List.drop_zero,hsk,jh,hg];dsimp only;rw[if_neg (by omega),if_neg (by omega),if_pos (Or.inr hc),←hl,hnumV,if_pos rfl];dsimp only;rw[hl,Bb];congr 1
 ·congr 1;omega
 ·omega
theorem Ae {n:Int} (h:0≤n):Lib.itoa n=Lib.decDigits n.toNat:=by unfold Lib.itoa;rw[if_neg (by omega)]
theorem aa8 (m n:Nat) (hn:n≤2147483647) (d:List UInt8) (hd:qc d) (ln ah:Int):
  bu (List.replicate m 32++((45::Lib.decDigits n)++d)) 0 ln ah=⟨⟨2,-(n:Int),ln,ah+m,45::Lib.decDigits n⟩,m+(45::Lib.decDigits n).length,ln,ah+m+(45::Lib.decDigits n).length,0⟩:=by
 obtain⟨w,hw⟩:∃w,w=Lib.decDigits n:=⟨_,rfl⟩;have hne:=G8 n;have hk:=wX n;have hnum:=N5 n hn;rw[←hw]at hne hk hnum ⊢;have hlen:0<w.length:=rJ.2 hne;have hr:=Bf 5 (by decide) w d hk hd;have hc:cK (45:UInt8).toNat=6:=by decide
 have hsk:dE false (List.replicate m 32++((45::w)++d))=m:=Bq m _ (by rw[dp,dE,if_neg (by omega),if_neg (by omega)]);have hg:(List.replicate m (32:UInt8)++((45::w)++d))[m]? =some 45:=by have:=uk m (45::w) d 0;rw[gQ]at this;rw[this];rfl
 obtain⟨l,hl⟩:∃l,l=List.replicate m (32:UInt8)++((45::w)++d):=⟨_,rfl⟩;have hdr:l.drop (m+1)=w++d:=by rw[hl,←fx,sT];rfl
 have hM:fS l m=1:=by
  unfold fS;rw[hl,bB,hg,iJ,if_pos (by decide)]
 have hT:iS l m=w.length:=by unfold iS;rw[hM,hdr,hr]
 have hN:l8 l m= -(n:Int):=by
  unfold l8;rw[hM,hT,hdr,List.take_left,hnum];simp
 have hnumV:fY l m=⟨-(n:Int),m+(45::w).length,true⟩:=by
  unfold fY jS;rw[hM,hT,hN,if_neg (by omega),hl,show m+1+w.length=m+(45::w).length by rw[eE];omega,uk];cases hx:((45::w)++d)[(45::w).length]? with
  |none=>rfl
  |some x=>
   have:=Bl hd x hx;simp only;rw[this];rfl
 unfold bu im;rw[List.drop_zero,hsk,jh,hg];dsimp only;rw[if_neg (by omega),if_neg (by omega),if_pos (Or.inl hc),←hl,hnumV,if_pos rfl];dsimp only;rw[hl,Bb];congr 1
 ·congr 1;omega
 ·omega
theorem itoa_neg {n:Int} (h:n<0):Lib.itoa n=45::Lib.decDigits (-n).toNat:=by unfold Lib.itoa;rw[if_pos h,show n.natAbs=(-n).toNat by omega]
theorem aa7 (m:Nat) (n:Int) (hn: -2147483647≤n∧n≤2147483647) (d:List UInt8) (hd:qc d) (ln ah:Int):
  bu (List.replicate m 32++(Lib.itoa n++d)) 0 ln ah=⟨⟨2,n,ln,ah+m,Lib.itoa n⟩,m+(Lib.itoa n).length,ln,ah+m+(Lib.itoa n).length,0⟩:=by
 by_cases h:0≤n
 ·have:=aa5 m n.toNat (by omega) d hd ln ah;rw[Int.toNat_of_nonneg h]at this;rw[Ae h,this]
 ·have:=aa8 m (-n).toNat (by omega) d hd ln ah;rw[show -(((-n).toNat:Nat):Int)=n by omega]at this;rw[itoa_neg (by omega),this]
def cZ:List Int→List UInt8
 |[]=>[]
 |n::r=>32::(Lib.itoa n++cZ r)
def iq:List Int→Int→Int→List bA
 |[],_,_=>[]
 |n::r,ln,ah=>⟨2,n,ln,ah+1,Lib.itoa n⟩::iq r ln (ah+1+(Lib.itoa n).length)
theorem N8 {ns:List Int} {d:List UInt8} (hd:qc d):qc (cZ ns++d):=by
 cases ns with
 |nil=>exact hd
 |cons n r=>exact .inr ⟨32,_,rfl,by decide⟩
def quiet (d:List UInt8):Prop:=qc d∧∀ln ah,(dW d ln ah).ts=[]∧(dW d ln ah).code=0
theorem ZL (d:List UInt8) (hq:quiet d):∀(ns:List Int) (ln ah:Int),(∀n∈ns,-2147483647≤n∧n≤2147483647)→
  (dW (cZ ns++d) ln ah).ts=iq ns ln ah∧(dW (cZ ns++d) ln ah).code=0:=by
 intro ns;induction ns with
 |nil=>intro ln ah _;exact hq.2 ln ah
 |cons n r ih=>
  intro ln ah h;have hn:=h n dH;have e:cZ (n::r)++d=List.replicate 1 32++(Lib.itoa n++(cZ r++d)):=by
   show 32::(Lib.itoa n++cZ r)++d=_;simp
  have hx:=aa7 1 n hn (cZ r++d) (N8 hq.1) ln ah;have hdr:(List.replicate 1 (32:UInt8)++(Lib.itoa n++(cZ r++d))).drop (1+(Lib.itoa n).length)=cZ r++d:=by
   rw[←fx,sT,List.drop_left]
  obtain⟨i1,i2⟩:=ih ln (ah+1+(Lib.itoa n).length) (fun n hn=>h n (ep _ hn));rw[e,xE,hx];dsimp only;rw[if_pos rfl,hdr];dsimp only;refine⟨?_,i2⟩;rw[show ah+((1:Nat):Int)=ah+1 from rfl,i1];rfl
theorem xF (m:Nat) (w:List UInt8) (ns:List Int) (d:List UInt8) (hw:w≠[]) (hk:∀c∈w,cK c.toNat=4) (hq:quiet d) (hn:∀n∈ns,-2147483647≤n∧n≤2147483647) (ln ah:Int):
  (dW (List.replicate m 32++(w++(cZ ns++d))) ln ah).ts=⟨1,0,ln,ah+m,w⟩::iq ns ln (ah+m+w.length)∧(dW (List.replicate m 32++(w++(cZ ns++d))) ln ah).code=0:=by
 have hx:=aba m w (cZ ns++d) hw hk (N8 hq.1) ln ah;have hdr:(List.replicate m (32:UInt8)++(w++(cZ ns++d))).drop (m+w.length)=cZ ns++d:=by
  rw[←fx,sT,List.drop_left]
 obtain⟨i1,i2⟩:=ZL d hq ns ln (ah+m+w.length) hn;rw[xE,hx];dsimp only;rw[if_pos rfl,hdr];dsimp only;exact⟨by rw[i1],i2⟩
theorem O4:quiet []:=⟨.inl rfl,fun ln ah=>by rw[lex_nil];exact⟨rfl,rfl⟩⟩
end Go.Proofs.Ybk.T
namespace Go.Proofs.Ybk
open Go Go.Am
set_option maxHeartbeats 4000000
open T (bA dW k9 bT cZ iq quiet xF)
open V (aq aU aj jK ky aB eP kF Ri fa ey eO aN)
inductive Ln where
 |aW (g:Int)
 |eJ (g:Int)
 |eu (s:aq)
 |kill (row x:Int)
 |gv (p:aU)
def jw (k:Int):List UInt8:=if k=0 then mn else if k=1 then lN else if k=2 then lM else[63]
def Ln.word:Ln→List UInt8
 | .aW _=>ft
 | .eJ _=>fP
 | .eu s=>jw s.kind
 | .kill _ _=>fj
 | .gv _=>gh
def Ln.gq:Ln→List Int
 | .aW g=>[g]
 | .eJ g=>[g]
 | .eu s=>[s.row,s.x,s.y]
 | .kill a b=>[a,b]
 | .gv p=>[p.x,p.y,p.r]
def Ln.bytes (l:Ln):List UInt8:=l.word++cZ l.gq
def Ln.ok:Ln→Prop
 | .aW g=>1≤g∧g≤1048576
 | .eJ g=>0≤g∧g≤1048576
 | .eu s=>0≤s.row∧s.row≤999∧0≤s.x∧s.x≤1048576∧0≤s.y∧s.y≤1048576∧0≤s.kind∧s.kind≤2
 | .kill a b=>0≤a∧a≤999∧0≤b∧b≤1048576
 | .gv p=>0≤p.x∧p.x≤1048576∧0≤p.y∧p.y≤1048576∧1≤p.r∧p.r≤1048576
def Ln.kP:Ln→Prop
 | .aW g=>1≤g∧g≤1048576
 | .eJ g=>0≤g∧g≤1048576
 | .eu s=>0≤s.row∧s.row≤999∧-1048576≤s.x∧s.x≤1048576∧-1048576≤s.y∧s.y≤1048576∧0≤s.kind∧s.kind≤2
 | .kill a b=>0≤a∧a≤999∧-1048576≤b∧b≤1048576
 | .gv p=>-1048576≤p.x∧p.x≤1048576∧-1048576≤p.y∧p.y≤1048576∧1≤p.r∧p.r≤1048576
theorem Ln.ok.S {l:Ln} (h:l.ok):l.kP:=by cases l<;>simp only[Ln.ok,Ln.kP]at h ⊢<;>omega
def qK:Ln→Option Int
 | .aW g=>some g
 |_=>none
def pT:Ln→Option Int
 | .eJ g=>some g
 |_=>none
def kA:Ln→Option aq
 | .eu s=>some s
 |_=>none
def nC:Ln→Option (Int×Int)
 | .kill a b=>some (a,b)
 |_=>none
def nL:Ln→Option aU
 | .gv p=>some p
 |_=>none
def mJ (L:List Ln):List Int:=L.filterMap qK
def lI (L:List Ln):List Int:=L.filterMap pT
def mj (L:List Ln):List aq:=L.filterMap kA
def lF (L:List Ln):List (Int×Int):=L.filterMap nC
def nc (L:List Ln):List aU:=L.filterMap nL
structure RL (P:List Ln) (r:Rd):Prop where
 ag:r.ag=mj P
 aW:r.aW=(mJ P).getD 0 0
 eJ:r.eJ=decide (lI P≠[])
 bC:r.bC=(lI P).getD 0 0
 aE:r.aE.map (fun k=>(k.row,k.x))=lF P
 aI:r.aI=nc P
structure s9 (A:List Ln):Prop where
 ok:∀l∈A,l.kP
 Jt:(mJ A).length≤1
 O5:(lI A).length≤1
 pz:(mj A).Pairwise (fun a b=>¬(a.row=b.row∧a.x=b.x))
 ag:(mj A).length≤4096
 aE:(lF A).length≤200
 aI:(nc A).length≤200
theorem aio:RL [] gx:=⟨rfl,rfl,rfl,rfl,rfl,rfl⟩
theorem Zz {k:Int} (h:0≤k∧k≤2):qN (jw k)=k∧(jw k=mn∨jw k=lN∨jw k=lM):=by
 rcases(by omega:k=0∨k=1∨k=2)with rfl|rfl|rfl<;>exact⟨by decide,by decide⟩
theorem QM (l:Ln) (h:l.kP):l.word≠[]∧∀c∈l.word,T.cK c.toNat=4:=by
 cases l with
 |aW g=>exact⟨by simp[Ln.word,ft],by show∀c∈ft,_;decide⟩
 |eJ g=>exact⟨by simp[Ln.word,fP],by show∀c∈fP,_;decide⟩
 |kill a b=>exact⟨by simp[Ln.word,fj],by show∀c∈fj,_;decide⟩
 |gv p=>exact⟨by simp[Ln.word,gh],by show∀c∈gh,_;decide⟩
 |eu s=>
  obtain⟨_,_,_,_,_,_,h1,h2⟩:=h;show jw s.kind≠[]∧∀c∈jw s.kind,_;rcases(by omega:s.kind=0∨s.kind=1∨s.kind=2)with q|q|q<;>rw[q]<;>exact⟨by decide,by decide⟩
theorem AI (l:Ln) (h:l.kP):∀n∈l.gq,-2147483647≤n∧n≤2147483647:=by
 cases l<;>simp only[Ln.kP]at h<;>intro n hn<;>simp only[Ln.gq,cE,List.not_mem_nil,or_false]at hn<;>omega
theorem Jv {α:Type} {l:List α} {a z:α} (h:l=[]):(l++[a]).getD 0 z=a:=by rw[h];rfl
theorem NF {n:Int} (h:1≤n∧n≤1048576):jP 173 n=true:=by simp[jP,aB];omega
theorem aas {n:Int} (h:0≤n∧n≤1048576):jP 256 n=true:=by simp[jP,aB];omega
theorem NG {n:Int} (h:0≤n∧n≤999):jP 257 n=true:=by simp[jP,aB];omega
theorem vz {n:Int} (h: -1048576≤n∧n≤1048576):jP 225 n=true:=by simp[jP,aB];omega
theorem ahD {row x:Int}:∀{l:List aq} {i:Nat},(∀s∈l,¬(s.row=row∧s.x=x))→mh row x l i=none:=by
 intro l;induction l with
 |nil=>intro i _;rfl
 |cons a r ih=>
  intro i h;rw[mh,if_neg (h a dH),ih (fun s hs=>h s (ep _ hs))]
theorem xj (P:List Ln) (l:Ln) (h:qK l=none):mJ (P++[l])=mJ P:=by
 unfold mJ;rw[List.filterMap_append];simp[List.filterMap_cons,h]
theorem qX (P:List Ln) (l:Ln) (h:pT l=none):lI (P++[l])=lI P:=by
 unfold lI;rw[List.filterMap_append];simp[List.filterMap_cons,h]
theorem ZR (P:List Ln) (r:Rd) (l:Ln) (R:RL P r) (G:s9 (P++[l])) (m:Nat) (d:List UInt8) (hq:quiet d) (ln bl bc:Int):
  ∃r',ko r (dW (List.replicate m 32++(l.bytes++d)) ln 1).ts bl bc=(r',none)∧RL (P++[l]) r':=by
 have hl:=G.ok l (by simp);obtain⟨w1,w2⟩:=QM l hl;have hb:l.bytes++d=l.word++(cZ l.gq++d):=by unfold Ln.bytes;rw[eD]
 rw[hb,(xF m l.word l.gq d w1 w2 hq (AI l hl) ln 1).1];have hG1:=G.Jt;have hG2:=G.O5;have hG3:=G.pz;have hG4:=G.ag;have hG5:=G.aE;have hG6:=G.aI;obtain⟨R1,R2,R3,R4,R5,R6⟩:=R;cases l with
 |aW g=>
  simp only[Ln.kP]at hl;have hP:mJ P=[]:=by simpa[mJ,List.filterMap_append,qK]using hG1
  have hle:eU (⟨1,0,ln,1+m,ft⟩::iq [g] ln (1+m+ft.length)) bl bc=none:=by
   simp[eU,jU,iq,l7,jq,j6,NF hl,show gS ft=some [173]from by decide]
  have hg:¬0<r.aW:=by rw[R2,hP];decide
  refine⟨{r with aW:=g},?_,⟨?_,?_,?_,?_,?_,?_⟩⟩
  ·show ko r (⟨1,0,ln,1+m,ft⟩::iq [g] ln (1+m+ft.length)) bl bc=_;unfold ko;simp only;rw[hle];simp[cV,hg,iq]
  ·simp[R1,mj,kA]
  ·have:mJ (P++[.aW g])=mJ P++[g]:=(by simp[mJ,qK]);rw[this,Jv hP]
  ·rw[qX P _ rfl];exact R3
  ·rw[qX P _ rfl];exact R4
  ·simp[R5,lF,nC]
  ·simp[R6,nc,nL]
 |eJ g=>
  simp only[Ln.kP]at hl;have hP:lI P=[]:=by simpa[lI,List.filterMap_append,pT]using hG2
  have hle:eU (⟨1,0,ln,1+m,fP⟩::iq [g] ln (1+m+fP.length)) bl bc=none:=by
   simp[eU,jU,iq,l7,jq,j6,aas hl,show gS fP=some [256]from by decide]
  have hg:r.eJ=false:=by rw[R3,hP];decide
  have hw:¬fP=ft:=by decide
  refine⟨{r with eJ:=true,bC:=g},?_,⟨?_,?_,?_,?_,?_,?_⟩⟩
  ·show ko r (⟨1,0,ln,1+m,fP⟩::iq [g] ln (1+m+fP.length)) bl bc=_;unfold ko;simp only;rw[hle];simp[cV,hg,hw,iq]
  ·simp[R1,mj,kA]
  ·rw[xj P _ rfl];exact R2
  ·simp[lI,pT]
  ·have:lI (P++[.eJ g])=lI P++[g]:=(by simp[lI,pT]);rw[this,Jv hP]
  ·simp[R5,lF,nC]
  ·simp[R6,nc,nL]
 |kill a b=>
  simp only[Ln.kP]at hl;have hle:eU (⟨1,0,ln,1+m,fj⟩::iq [a,b] ln (1+m+fj.length)) bl bc=none:=by
   simp[eU,jU,iq,l7,jq,j6,NG (n:=a) (by omega),vz (n:=b) (by omega),show gS fj=some [257,225]from by decide]
  have hw1:¬fj=ft:=by decide
  have hw2:¬fj=fP:=by decide
  have hk:r.aE.length+1≤200:=by
   have e:lF (P++[.kill a b])=lF P++[(a,b)]:=(by simp[lF,nC]);rw[e,←R5]at hG5;simpa using hG5
  refine⟨{r with aE:=r.aE++[⟨a,b,ln,1+m,ln,1+m+fj.length+1⟩]},?_,⟨?_,?_,?_,?_,?_,?_⟩⟩
  ·show ko r (⟨1,0,ln,1+m,fj⟩::iq [a,b] ln (1+m+fj.length)) bl bc=_;unfold ko;simp only;rw[hle];simp[cV,hw1,hw2,iq,hk]
  ·simp[R1,mj,kA]
  ·rw[xj P _ rfl];exact R2
  ·rw[qX P _ rfl];exact R3
  ·rw[qX P _ rfl];exact R4
  ·have e:lF (P++[.kill a b])=lF P++[(a,b)]:=(by simp[lF,nC]);rw[e,←R5];simp
  ·simp[R6,nc,nL]
 |gv p=>
  simp only[Ln.kP]at hl;have hle:eU (⟨1,0,ln,1+m,gh⟩::iq [p.x,p.y,p.r] ln (1+m+gh.length)) bl bc=none:=by
   simp[eU,jU,iq,l7,jq,j6,vz (n:=p.x) (by omega),vz (n:=p.y) (by omega),NF (n:=p.r) (by omega),show gS gh=some [225,225,173]from by decide]
  have hw1:¬gh=ft:=by decide
  have hw2:¬gh=fP:=by decide
  have hw3:¬gh=fj:=by decide
  have hk:r.aI.length+1≤200:=by
   have e:nc (P++[.gv p])=nc P++[p]:=(by simp[nc,nL]);rw[e,←R6]at hG6;simpa using hG6
  refine⟨{r with aI:=r.aI++[p]},?_,⟨?_,?_,?_,?_,?_,?_⟩⟩
  ·show ko r (⟨1,0,ln,1+m,gh⟩::iq [p.x,p.y,p.r] ln (1+m+gh.length)) bl bc=_;unfold ko;simp only;rw[hle];simp[cV,hw1,hw2,hw3,iq,hk]
  ·simp[R1,mj,kA]
  ·rw[xj P _ rfl];exact R2
  ·rw[qX P _ rfl];exact R3
  ·rw[qX P _ rfl];exact R4
  ·simp[R5,lF,nC]
  ·simp[R6,nc,nL]
 |eu s=>
  simp only[Ln.kP]at hl;obtain⟨k1,k2⟩:=Zz (k:=s.kind) (by omega);obtain⟨w,hw⟩:∃w,w=jw s.kind:=⟨_,rfl⟩;rw[←hw]at k1 k2;have z1:¬w=ft:=by rcases k2 with q|q|q<;>rw[q]<;>decide
  have z2:¬w=fP:=by rcases k2 with q|q|q<;>rw[q]<;>decide
  have z3:¬w=fj:=by rcases k2 with q|q|q<;>rw[q]<;>decide
  have z4:¬w=gh:=by rcases k2 with q|q|q<;>rw[q]<;>decide
  have hbw:gS w=some [257,225,225]:=by rw[gS,if_pos k2]
  have hle:eU (⟨1,0,ln,1+m,w⟩::iq [s.row,s.x,s.y] ln (1+m+w.length)) bl bc=none:=by
   simp[eU,jU,iq,l7,jq,j6,NG (n:=s.row) (by omega),vz (n:=s.x) (by omega),vz (n:=s.y) (by omega),hbw]
  have e:mj (P++[.eu s])=mj P++[s]:=by simp[mj,kA]
  have hk:r.ag.length+1≤4096:=by
   rw[e,←R1]at hG4;simpa using hG4
  have hpl:j7 r.ag s.row s.x=none:=by
   refine ahD (fun t ht q=>?_);rw[e,nZ]at hG3;exact hG3.2.2 t (by rw[←R1];exact ht) s (by simp) q
  refine⟨{r with ag:=r.ag++[s]},?_,⟨?_,?_,?_,?_,?_,?_⟩⟩
  ·show ko r (⟨1,0,ln,1+m,jw s.kind⟩::iq [s.row,s.x,s.y] ln (1+m+(jw s.kind).length)) bl bc=_;rw[←hw];unfold ko;simp only;rw[hle];simp[cV,z1,z2,z3,z4,iq,hk,hpl,k1]
  ·rw[e];simp[R1]
  ·rw[xj P _ rfl];exact R2
  ·rw[qX P _ rfl];exact R3
  ·rw[qX P _ rfl];exact R4
  ·simp[R5,lF,nC]
  ·simp[R6,nc,nL]
theorem s9.pfx {A B:List Ln} (G:s9 (A++B)):s9 A:=by
 have f:∀{α:Type} (g:Ln→Option α),(A.filterMap g).length≤((A++B).filterMap g).length:=fun g=>by rw[List.filterMap_append,bF];omega
 refine⟨fun l hl=>G.ok l (List.mem_append_left _ hl),eW (f _) G.Jt,eW (f _) G.O5,?_,eW (f _) G.ag,eW (f _) G.aE,eW (f _) G.aI⟩;have:=G.pz;unfold mj at this ⊢;rw[List.filterMap_append,nZ]at this;exact this.1
theorem Yh (m:Nat) (d:List UInt8) (hq:quiet d):∀(L P:List Ln) (r:Rd) (ln:Int),RL P r→s9 (P++L)→
  ∃r',nA (L.map (fun l=>List.replicate m 32++(l.bytes++d))) ln r=(r',none)∧RL (P++L) r':=by
 intro L;induction L with
 |nil=>intro P r ln R _;exact⟨r,rfl,by simpa using R⟩
 |cons l L ih=>
  intro P r ln R G;have e:P++l::L=(P++[l])++L:=by simp
  rw[e]at G;obtain⟨r1,h1,R1⟩:=ZR P r l R G.pfx m d hq ln ln (dW (List.replicate m 32++(l.bytes++d)) ln 1).ah;obtain⟨r2,h2,R2⟩:=ih (P++[l]) r1 (ln+1) R1 G;refine⟨r2,?_,by rw[e];exact R2⟩;rw[eT,Yc h1,h2]
theorem Yx (m:Nat) (d:List UInt8) (hq:quiet d) (hd:k9 d) (l:Ln) (h:l.kP):vt (List.replicate m 32++(l.bytes++d)):=by
 obtain⟨w1,w2⟩:=QM l h;have hb:l.bytes++d=l.word++(cZ l.gq++d):=by unfold Ln.bytes;rw[eD]
 have hk10:∀k c,T.cK c=k→(k=4∨k=5)→c≠10:=by
  intro k c hc hk q;subst q;have:T.cK 10=3:=rfl;omega
 have hnb:∀ns:List Int,(∀n∈ns,-2147483647≤n∧n≤2147483647)→k9 (cZ ns):=by
  intro ns;induction ns with
  |nil=>intro _ c hc;cases hc
  |cons n r ih=>
   intro hn c hc;rcases cE.1 hc with rfl|hc
   ·decide
   ·rcases ei.1 hc with hc|hc
    ·by_cases z:0≤n
     ·rw[T.Ae z]at hc;exact hk10 5 _ (T.wX _ c hc) (.inr rfl)
     ·rw[T.itoa_neg (by omega)]at hc;rcases cE.1 hc with rfl|hc
      ·decide
      ·exact hk10 5 _ (T.wX _ c hc) (.inr rfl)
    ·exact ih (fun n h=>hn n (ep _ h)) c hc
 refine⟨fun c hc=>?_,fun ln=>?_⟩
 ·rw[hb]at hc;rcases ei.1 hc with hc|hc
  ·obtain⟨_,rfl⟩:=List.mem_replicate.1 hc;decide
  ·rcases ei.1 hc with hc|hc
   ·exact hk10 4 _ (w2 c hc) (.inl rfl)
   ·rcases ei.1 hc with hc|hc
    ·exact hnb _ (AI l h) c hc
    ·exact hd c hc
 ·rw[hb];exact(xF m l.word l.gq d w1 w2 hq (AI l h) ln 1).2
end Go.Proofs.Ybk
namespace Go.Proofs.Ybk
open Go Go.Am
set_option maxHeartbeats 4000000
open T (bA dW k9 bT cZ iq quiet xF)
open V (aq aU aj jK ky aB eP kF Ri fa ey eO aN Made)
def fE (v:aj) (k:Int):aq:=v.ag.getD k.toNat default
def dG (v:aj):List Ln:=[.aW v.aW,.eJ v.bC]++(v.ag.map Ln.eu++(v.aE.map (fun k=>Ln.kill (fE v k).row (fE v k).x)++v.aI.map Ln.gv))
theorem mH {α β γ:Type} (l:List α) (f:α→β) (g:β→Option γ) (h:∀a,g (f a)=none):(l.map f).filterMap g=[]:=by
 induction l with
 |nil=>rfl
 |cons a r ih=>rw[eT,List.filterMap_cons,h,ih]
theorem zT {α β γ:Type} (l:List α) (f:α→β) (g:β→Option γ) (k:α→γ) (h:∀a,g (f a)=some (k a)):(l.map f).filterMap g=l.map k:=by
 induction l with
 |nil=>rfl
 |cons a r ih=>rw[eT,List.filterMap_cons,h];simp[ih]
theorem Bk (v:aj):mj (dG v)=v.ag:=by
 unfold mj dG;rw[List.filterMap_append,List.filterMap_append,List.filterMap_append,zT v.ag Ln.eu kA id (fun _=>rfl),mH v.aE _ kA (fun _=>rfl),mH v.aI _ kA (fun _=>rfl)];simp[List.filterMap_cons,kA]
theorem Ju (v:aj):mJ (dG v)=[v.aW]:=by
 unfold mJ dG;rw[List.filterMap_append,List.filterMap_append,List.filterMap_append,mH v.ag _ qK (fun _=>rfl),mH v.aE _ qK (fun _=>rfl),mH v.aI _ qK (fun _=>rfl)];simp[List.filterMap_cons,qK]
theorem O6 (v:aj):lI (dG v)=[v.bC]:=by
 unfold lI dG;rw[List.filterMap_append,List.filterMap_append,List.filterMap_append,mH v.ag _ pT (fun _=>rfl),mH v.aE _ pT (fun _=>rfl),mH v.aI _ pT (fun _=>rfl)];simp[List.filterMap_cons,pT]
theorem Nf (v:aj):lF (dG v)=v.aE.map (fun k=>((fE v k).row,(fE v k).x)):=by
 unfold lF dG;rw[List.filterMap_append,List.filterMap_append,List.filterMap_append,mH v.ag _ nC (fun _=>rfl),zT v.aE _ nC (fun k=>((fE v k).row,(fE v k).x)) (fun _=>rfl),mH v.aI _ nC (fun _=>rfl)];simp[List.filterMap_cons,nC]
theorem OX (v:aj):nc (dG v)=v.aI:=by
 unfold nc dG;rw[List.filterMap_append,List.filterMap_append,List.filterMap_append,mH v.ag _ nL (fun _=>rfl),mH v.aE _ nL (fun _=>rfl),zT v.aI _ nL id (fun _=>rfl)];simp[List.filterMap_cons,nL]
def rR (k:kE):Int×Int:=(k.row,k.x)
def wS (S:List aq) (i:Int):Int×Int:=((S.getD i.toNat default).row,(S.getD i.toNat default).x)
theorem Zp (S:List aq):∀(K:List kE) (acc:List Int),(∀k∈K,∃s∈S,s.row=k.row∧s.x=k.x)→(K.map rR).Nodup→(∀k∈K,∀i∈acc,wS S i≠rR k)→
  ∃ks,jZ S K acc=(acc++ks,none)∧ks.map (wS S)=K.map rR:=by
 intro K;induction K with
 |nil=>intro acc _ _ _;exact⟨[],by rw[Zq,pj],rfl⟩
 |cons k K ih=>
  intro acc h1 h2 h3;cases hp:j7 S k.row k.x with
  |none=>
   obtain⟨s,hs,q⟩:=h1 k dH;exact absurd q (OU hp s hs)
  |some n=>
   obtain⟨q1,q2,s,q3,q4,q5⟩:=OV hp;rw[Nat.sub_zero]at q3;have hco:wS S (n:Int)=rR k:=by
    unfold wS rR;rw[jN,bB,q3,iJ,q4,q5]
   have hm:(n:Int)∉acc:=fun hm=>h3 k dH n hm hco;rw[eT,List.nodup_cons]at h2;obtain⟨ks,e1,e2⟩:=ih (acc++[(n:Int)]) (fun k' hk=>h1 k' (ep _ hk)) h2.2 (fun k' hk i hi=>by
    rcases ei.1 hi with q|q
    ·exact h3 k' (ep _ hk) i q
    ·obtain rfl:=eo.1 q;rw[hco];intro q;exact h2.1 (by rw[q];exact List.mem_map_of_mem hk))
   refine⟨(n:Int)::ks,?_,?_⟩
   ·rw[xu hp hm,e1];simp
   ·rw[eT,eT,hco,e2]
def tP:List UInt8:=[35,32,97,32,118,101,110,117,101]
theorem aal {i:Nat} {v:aj} {row x:Int} (M:Made i v row x) (hi:i≤24):∀l∈dG v,l.ok:=by
 have hg:=M.aW;have hr:=M.bC;have hlen:=M.len;intro l hl;unfold dG at hl;rcases ei.1 hl with hl|hl
 ·simp only[cE,List.not_mem_nil,or_false]at hl;rcases hl with rfl|rfl
  ·simp only[Ln.ok];omega
  ·simp only[Ln.ok];omega
 ·rcases ei.1 hl with hl|hl
  ·obtain⟨s,hs,rfl⟩:=dI.1 hl;have:=M.eu s hs;simp only[Ln.ok];omega
  ·rcases ei.1 hl with hl|hl
   ·obtain⟨k,hk,rfl⟩:=dI.1 hl;have hkb:=M.kill k hk;have hmem:fE v k∈v.ag:=by
     unfold fE;rw[bB,av (by omega),iJ];exact fy _
    have:=M.eu _ hmem;simp only[Ln.ok];omega
   ·obtain⟨p,hp,rfl⟩:=dI.1 hl;have:=M.gv p hp;simp only[Ln.ok];omega
end Go.Proofs.Ybk
namespace Go.Proofs.Ybk
open Go Go.Am
set_option maxHeartbeats 4000000
open T (cZ)
open V (aq aU aj au bg ab bD aN)
theorem amC (k:Int) (h:aa):ao PP 132 [.int .i64 k] h (fun v h'=>h'=h∧v= .string (B (jw k))):=by
 refine aC mix (aD Tryz.func132) rfl rfl rfl ade ?_;simp only[ai,Tryz.f132];unfold jw mn lN lM;by_cases h0:k=0
 ·simp -implicitDefEqProofs[h0]
 ·by_cases h1:k=1
  ·simp -implicitDefEqProofs[h1]
  ·by_cases h2:k=2
   ·simp -implicitDefEqProofs[h2]
   ·simp -implicitDefEqProofs[h0,h1,h2]
theorem jI {n:Int} (h:0≤n∧n≤2147483647):(Lib.itoa n).length≤20:=by
 rw[T.Ae h.1];exact F.tI (by omega)
theorem aiT (s:aq) (hs:(Ln.eu s).ok) (h:aa):ao PP 90 [bD s] h (fun v h'=>h'=h∧v= .string (B (Ln.eu s).bytes)):=by
 refine aC mix (aD Tryz.func90) rfl rfl rfl af4 ?_;simp only[ai,Tryz.f90];simp only[Ln.ok]at hs;have l1:=jI (n:=s.row) (by omega);have l2:=jI (n:=s.x) (by omega);have l3:=jI (n:=s.y) (by omega);have l0:(jw s.kind).length≤9:=by
  rcases(by omega:s.kind=0∨s.kind=1∨s.kind=2)with q|q|q<;>rw[q]<;>decide
 have d1:=fun H=>F.oq s.row (by omega) H;have d2:=fun H=>F.oq s.x (by omega) H;have d3:=fun H=>F.oq s.y (by omega) H;have dw:=fun H=>amC s.kind H;have hb:(Ln.eu s).bytes=jw s.kind++(32::(Lib.itoa s.row++(32::(Lib.itoa s.x++(32::Lib.itoa s.y))))):=by
  simp[Ln.bytes,Ln.word,Ln.gq,cZ]
 rw[hb];obtain⟨w0,hw0⟩:∃w,w=jw s.kind:=⟨_,rfl⟩;obtain⟨w1,hw1⟩:∃w,w=Lib.itoa s.row:=⟨_,rfl⟩;obtain⟨w2,hw2⟩:∃w,w=Lib.itoa s.x:=⟨_,rfl⟩;obtain⟨w3,hw3⟩:∃w,w=Lib.itoa s.y:=⟨_,rfl⟩;rw[←hw0]at l0 dw ⊢;rw[←hw1]at l1 d1 ⊢;rw[←hw2]at l2 d2 ⊢;rw[←hw3]at l3 d3 ⊢;have f0:w0.length≤9223372036854775806:=by omega
 simp -implicitDefEqProofs[bD,au];refine(dw h).mono ?_;rintro v h1 ⟨rfl,rfl⟩;simp -implicitDefEqProofs[aJ,f0];intro _;refine(d1 h1).mono ?_;rintro v h2 ⟨rfl,rfl⟩;have g1:w0.length+1+w1.length≤9223372036854775807:=by omega
 have g2:w0.length+(w1.length+1)≤9223372036854775806:=by omega
 simp -implicitDefEqProofs[aJ,f0,g1,g2];intro _;refine(d2 h2).mono ?_;rintro v h3 ⟨rfl,rfl⟩;have g3:w0.length+(w1.length+1+1)+w2.length≤9223372036854775807:=by omega
 have g4:w0.length+(w1.length+(w2.length+1)+1)≤9223372036854775806:=by omega
 simp -implicitDefEqProofs[aJ,f0,g1,g2,g3,g4];intro _;refine(d3 h3).mono ?_;rintro v h4 ⟨rfl,rfl⟩;have g5:w0.length+(w1.length+(w2.length+1+1)+1)+w3.length≤9223372036854775807:=by omega
 simp -implicitDefEqProofs[aJ,f0,g1,g2,g3,g4,g5]
def iD (L:List Ln):List UInt8:=fR (L.map Ln.bytes)
theorem CM (l:Ln) (h:l.ok):l.bytes.length≤99:=by
 cases l with
 |aW g=>
  simp only[Ln.ok]at h;have:=jI (n:=g) (by omega);simp[Ln.bytes,Ln.word,Ln.gq,cZ,ft];omega
 |eJ g=>
  simp only[Ln.ok]at h;have:=jI (n:=g) (by omega);simp[Ln.bytes,Ln.word,Ln.gq,cZ,fP];omega
 |kill a b=>
  simp only[Ln.ok]at h;have h1:=jI (n:=a) (by omega);have h2:=jI (n:=b) (by omega);simp[Ln.bytes,Ln.word,Ln.gq,cZ,fj];omega
 |gv p=>
  simp only[Ln.ok]at h;have h1:=jI (n:=p.x) (by omega);have h2:=jI (n:=p.y) (by omega);have h3:=jI (n:=p.r) (by omega);simp[Ln.bytes,Ln.word,Ln.gq,cZ,gh];omega
 |eu s=>
  simp only[Ln.ok]at h;have h1:=jI (n:=s.row) (by omega);have h2:=jI (n:=s.x) (by omega);have h3:=jI (n:=s.y) (by omega);have l0:(jw s.kind).length≤9:=by
   rcases(by omega:s.kind=0∨s.kind=1∨s.kind=2)with q|q|q<;>rw[q]<;>decide
  simp[Ln.bytes,Ln.word,Ln.gq,cZ];omega
theorem JL:∀(L:List Ln),(∀l∈L,l.ok)→(iD L).length≤100*L.length:=by
 intro L;induction L with
 |nil=>intro _;simp[iD,fR]
 |cons l L ih=>
  intro h;have h1:=CM l (h l dH);have h2:=ih (fun l hl=>h l (ep _ hl));have e:iD (l::L)=l.bytes++10::iD L:=by simp[iD,fR]
  rw[e];simp;omega
theorem Zf (A B:List Ln):iD (A++B)=iD A++iD B:=by simp[iD,fR]
theorem Zg (l:Ln):iD [l]=l.bytes++[10]:=by simp[iD,fR]
theorem Af {pre xs:List Ln} {i:Nat} {l:Ln} (h:xs[i]? =some l):iD (pre++xs.take (i+1))=iD (pre++xs.take i)++(l.bytes++[10]):=by
 rw[fI,h,←eD,Zf,Option.toList_some,Zg]
def yY (ti:Nat) (cs:List Value) (pre xs:List Ln) (m:Nat) (h:aa) (n:Nat) (σ:St):Prop:=∃i:Nat,n=m-i∧i≤m∧σ.m.h=h∧σ.t.get 1=some (.pointer (some ⟨1,0,some 0⟩))∧σ.t.get 4=some (.string (B (iD (pre++xs.take i))))∧σ.t.get ti=some (.int .i64 (i:Nat))∧σ.m.x.look 1=some (63,cs)
theorem ahN (v:aj) (cs:List Value) (hv:v.ag.length≤1000∧v.aE.length≤1000∧v.aI.length≤1000) (hok:∀l∈dG v,l.ok) (hm:aN v=true) (hk:∀k∈v.aE,0≤k∧k<v.ag.length) (h:aa) (H:V.bR h v cs):
  ao PP 46 [.agg ⟨cs⟩] h (fun r h'=>h'=h∧r= .tuple #[.string (B (iD (dG v))),.int .i64 0]):=by
 refine aC mix (aD Tryz.func46) rfl rfl rfl afA ?_;simp only[ai,Tryz.f46];have rm:=V.air v cs ⟨by omega,by omega,by omega⟩ h H;rw[hm]at rm;obtain⟨s,k,p,rfl,h1,h2,h3⟩:=H;obtain⟨ad1,c1,e1⟩:=h1.shape;obtain⟨ad2,c2,e2⟩:=h2.shape;obtain⟨ad3,c3,e3⟩:=h3.shape;subst e1;subst e2;subst e3;obtain⟨ms,hms⟩:∃m,m=v.ag.length:=⟨_,rfl⟩;obtain⟨mk,hmk⟩:∃m,m=v.aE.length:=⟨_,rfl⟩;obtain⟨mp,hmp⟩:∃m,m=v.aI.length:=⟨_,rfl⟩;rw[←hms]at h1 rm hk ⊢;rw[←hmk]at h2 rm ⊢;rw[←hmp]at h3 rm ⊢;obtain⟨g,hg⟩:∃g,g=v.aW:=⟨_,rfl⟩;obtain⟨r,hr⟩:∃r,r=v.bC:=⟨_,rfl⟩;have og:=hok (.aW v.aW) (by simp[dG]);have orr:=hok (.eJ v.bC) (by simp[dG]);simp only[Ln.ok]at og orr;rw[←hg]at og rm ⊢;rw[←hr]at orr rm ⊢;have dg:=fun H=>F.oq g (by omega) H;have dr:=fun H=>F.oq r (by omega) H;have lg:=jI (n:=g) (by omega);have lr:=jI (n:=r) (by omega);obtain⟨wg,hwg⟩:∃w,w=Lib.itoa g:=⟨_,rfl⟩;obtain⟨wr,hwr⟩:∃w,w=Lib.itoa r:=⟨_,rfl⟩;rw[←hwg]at dg lg;rw[←hwr]at dr lr;have p1:4+wg.length≤9223372036854775807:=by omega
 have p2:wg.length≤9223372036854775795:=by omega
 simp -implicitDefEqProofs;refine rm.mono ?_;rintro v h0 ⟨rfl,rfl⟩;simp -implicitDefEqProofs[af];intro _;refine(dg h0).mono ?_;rintro v h1' ⟨rfl,rfl⟩;simp -implicitDefEqProofs[aJ,p1,p2];intro _;refine(dr h1').mono ?_;rintro v2 h2' ⟨rfl,rfl⟩;have p3:wg.length+8+1+1+1+1+wr.length≤9223372036854775807:=by omega
 have p4:wg.length+(wr.length+8)≤9223372036854775802:=by omega
 have p5:wg.length+(wr.length+1+1+1+1+1+1+1+1)≤9223372036854775802:=by omega
 simp -implicitDefEqProofs[aJ,p1,p2,p3,p4,p5];intro _;clear p1 p2 p3 p4 p5 dg dr rm;obtain⟨L0,hL0⟩:∃L,L=[Ln.aW g,Ln.eJ r]:=⟨_,rfl⟩;have hpre:103::97::112::32::(wg++10::114::97::100::105::117::115::32::(wr++[10]))=iD L0:=by
  rw[hL0];simp[iD,fR,Ln.bytes,Ln.word,Ln.gq,cZ,ft,fP,hwg,hwr]
 obtain⟨X1,hX1⟩:∃X,X=v.ag.map Ln.eu:=⟨_,rfl⟩;obtain⟨X2,hX2⟩:∃X,X=v.aE.map (fun k=>Ln.kill (fE v k).row (fE v k).x):=⟨_,rfl⟩;obtain⟨X3,hX3⟩:∃X,X=v.aI.map Ln.gv:=⟨_,rfl⟩;have aQ:dG v=L0++(X1++(X2++X3)):=by rw[hL0,hX1,hX2,hX3,hg,hr];rfl
 have hlen:∀(A B:List Ln),dG v=A++B→(iD A).length≤310000:=fun A B e=>by
  have h1:=JL A (fun l hl=>hok l (by rw[e];exact List.mem_append_left _ hl));have h2:(dG v).length≤3002:=by rw[aQ,hL0,hX1,hX2,hX3];simp;omega
  rw[e,bF]at h2;omega
 have hl1:X1.length=ms:=by rw[hX1,hms];simp
 have hl2:X2.length=mk:=by rw[hX2,hmk];simp
 have hl3:X3.length=mp:=by rw[hX3,hmp];simp
 obtain⟨cs,hcs⟩:∃cs,cs=[Value.slice ad1 ms c1,Value.int IntKind.i64 g,Value.int IntKind.i64 r,Value.slice ad2 mk c2,Value.slice ad3 mp c3]:=⟨_,rfl⟩;rw[hpre,←hcs];refine bL (yY 5 cs L0 X1 ms h2') ms ⟨0,by omega,by omega,rfl,by simp⟩ ?_;rintro n0 ⟨T0,⟨x0',H0⟩⟩ ⟨i,rfl,hi,hH,g1,g4,gi,x1⟩;simp at hH g1 g4 gi x1;subst hH;rw[hcs]at x1;simp -implicitDefEqProofs[g1,g4,gi,x1];refine bY (fun hc=>?_) (fun hc=>?_)
 ·have hil:i<ms:=by omega
  have hti:v.ag[i]? =some v.ag[i]:=av (by omega);obtain⟨t,ht⟩:∃t,t=v.ag[i]:=⟨_,rfl⟩;rw[←ht]at hti;obtain⟨_,b,o,wb,cb,rb,rfl,hb,hd,hlc,_⟩:=h1.at 4 V.gK hti;have hlc':o+i*4+4≤cb.length:=hlc;have hxi:X1[i]? =some (Ln.eu t):=by rw[hX1,ix,hti];rfl
  have hnx:=Af (pre:=L0) hxi;have ok:=hok (Ln.eu t) (by rw[aQ];exact List.mem_append_right _ (List.mem_append_left _ (dY hxi)));have lS:=hlen (L0++X1.take i) (X1.drop i++(X2++X3)) (by rw[aQ,eD,←eD (X1.take i),rI]);have lb:=CM _ ok;obtain⟨S,hS⟩:∃S,S=iD (L0++X1.take i):=⟨_,rfl⟩;rw[←hS]at lS g4 hnx ⊢;have st:=fun H=>aiT t ok H;obtain⟨w,hw⟩:∃w,w=(Ln.eu t).bytes:=⟨_,rfl⟩;rw[←hw]at st lb hnx;obtain⟨i1,fQ⟩:∃i1,i1=i+1:=⟨_,rfl⟩;have w1:IntKind.wrap .i64 ((i:Int)+1)=(i1:Int):=by rw[bK (by omega)];omega
  have f1:S.length+w.length≤9223372036854775807:=by omega
  have f2:S.length+w.length≤9223372036854775806:=by omega
  simp -implicitDefEqProofs[g1,g4,gi,x1,hil,hb,hd,hlc',au];refine(st H0).mono ?_;rintro v1 h1x ⟨rfl,rfl⟩;simp -implicitDefEqProofs[af,f1,f2,w1,g1,x1];intro _;exact⟨ms-i1,by omega,i1,rfl,by omega,rfl,by simp,by rw[fQ,hnx];simp,by simp[hcs]⟩
 ·have him:i=ms:=by omega
  rw[him,bZ (by omega)]at g4;rw[him,bZ (by omega)];simp -implicitDefEqProofs[g1,g4,x1];obtain⟨L1,hL1⟩:∃L,L=L0++X1:=⟨_,rfl⟩;rw[←hL1,←hcs];clear him gi hc hi g1 g4 x1;refine bL (yY 6 cs L1 X2 mk H0) mk ⟨0,by omega,by omega,rfl,by simp⟩ ?_;rintro n1 ⟨T1,⟨x1',H1⟩⟩ ⟨i,rfl,hi,hH,g1,g4,gi,x1⟩;simp at hH g1 g4 gi x1;subst hH;rw[hcs]at x1;simp -implicitDefEqProofs[g1,g4,gi,x1];refine bY (fun hc=>?_) (fun hc=>?_)
  ·have hil:i<mk:=(by omega);have hki:v.aE[i]? =some v.aE[i]:=av (by omega);obtain⟨k,hkk⟩:∃t,t=v.aE[i]:=⟨_,rfl⟩;rw[←hkk]at hki;have hkb:=hk k (dY hki);obtain⟨kn,hkn⟩:∃kn:Nat,k=kn:=⟨k.toNat,by omega⟩;have hkms:kn<ms:=(by omega);have hti:v.ag[kn]? =some v.ag[kn]:=av (by omega);obtain⟨t,ht⟩:∃t,t=v.ag[kn]:=⟨_,rfl⟩;rw[←ht]at hti;have hse:fE v k=t:=(by unfold fE;rw[hkn,jN,bB,hti];rfl);obtain⟨_,b,o,wb,cb,rb,rfl,hb,hd,hlc,_⟩:=h1.at 4 V.gK hti;have hlc':o+kn*4+4≤cb.length:=hlc;obtain⟨_,b2,o2,wb2,cb2,rb2,rfl,bQ,hd2,hlc2,_⟩:=h2.at 1 V.dV hki;have hlc2':o2+i+1≤cb2.length:=(by omega);rw[Nat.mul_one,hkn]at hd2;have hxi:X2[i]? =some (Ln.kill t.row t.x):=(by rw[hX2,ix,hki,fJ,hse]);have hnx:=Af (pre:=L1) hxi;have ok:=hok (Ln.kill t.row t.x) (by rw[aQ];exact List.mem_append_right _ (List.mem_append_right _ (List.mem_append_left _ (dY hxi))));have lS:=hlen (L1++X2.take i) (X2.drop i++X3) (by rw[aQ,hL1,eD,eD,←eD (X2.take i),rI]);simp only[Ln.ok]at ok;have la:=jI (n:=t.row) (by omega);have lb:=jI (n:=t.x) (by omega);have da:=fun H=>F.oq t.row (by omega) H;have db:=fun H=>F.oq t.x (by omega) H;obtain⟨S,hS⟩:∃S,S=iD (L1++X2.take i):=⟨_,rfl⟩;rw[←hS]at lS g4 hnx ⊢;have hby:(Ln.kill t.row t.x).bytes=[107,105,108,108,32]++(Lib.itoa t.row++32::Lib.itoa t.x):=(by simp[Ln.bytes,Ln.word,Ln.gq,cZ,fj]);rw[hby]at hnx;obtain⟨wa,hwa⟩:∃w,w=Lib.itoa t.row:=⟨_,rfl⟩;obtain⟨wb,hwb⟩:∃w,w=Lib.itoa t.x:=⟨_,rfl⟩;rw[←hwa]at la da hnx;rw[←hwb]at lb db hnx;obtain⟨i1,fQ⟩:∃i1,i1=i+1:=⟨_,rfl⟩;have w1:IntKind.wrap .i64 ((i:Int)+1)=(i1:Int):=(by rw[bK (by omega)];omega);have f1:S.length≤9223372036854775802:=(by omega);have f2:S.length+5+wa.length≤9223372036854775807:=(by omega);have f3:S.length+(wa.length+5)≤9223372036854775806:=(by omega);simp -implicitDefEqProofs[g1,g4,gi,x1,hil,hb,hd,hlc',bQ,hd2,hlc2',hkms,au,ab,f1];refine(da H1).mono ?_;rintro v1 h1x ⟨rfl,rfl⟩;have f4:S.length+(wa.length+1+5)+wb.length≤9223372036854775807:=(by omega);have f5:S.length+(wa.length+(wb.length+1)+5)≤9223372036854775806:=(by omega);simp -implicitDefEqProofs[aJ,f1,f2,f3,w1,g1,x1];intro _;refine(db h1x).mono ?_;rintro v2 h2x ⟨rfl,rfl⟩;simp -implicitDefEqProofs[aJ,f1,f2,f3,f4,f5,w1,g1,x1];intro _;exact⟨mk-i1,by omega,i1,rfl,by omega,rfl,by simp,by rw[fQ,hnx];simp,by simp[hcs]⟩
  ·have him:i=mk:=(by omega);rw[him,bZ (by omega)]at g4;rw[him,bZ (by omega)];simp -implicitDefEqProofs[g1,g4,x1];obtain⟨L2,hL2⟩:∃L,L=L1++X2:=⟨_,rfl⟩;rw[←hL2,←hcs];clear him gi hc hi g1 g4 x1;refine bL (yY 8 cs L2 X3 mp H1) mp ⟨0,by omega,by omega,rfl,by simp⟩ ?_;rintro n2 ⟨T2,⟨x2',H2⟩⟩ ⟨i,rfl,hi,hH,g1,g4,gi,x1⟩;simp at hH g1 g4 gi x1;subst hH;rw[hcs]at x1;simp -implicitDefEqProofs[g1,g4,gi,x1];refine bY (fun hc=>?_) (fun hc=>?_)
   ·have hil:i<mp:=(by omega);have hti:v.aI[i]? =some v.aI[i]:=av (by omega);obtain⟨t,ht⟩:∃t,t=v.aI[i]:=⟨_,rfl⟩;rw[←ht]at hti;obtain⟨_,b,o,wb,cb,rb,rfl,hb,hd,hlc,_⟩:=h3.at 3 V.pQ hti;have hlc':o+i*3+3≤cb.length:=hlc;have hxi:X3[i]? =some (Ln.gv t):=(by rw[hX3,ix,hti];rfl);have hnx:=Af (pre:=L2) hxi;have ok:=hok (Ln.gv t) (by rw[aQ];exact List.mem_append_right _ (List.mem_append_right _ (List.mem_append_right _ (dY hxi))));have lS:=hlen (L2++X3.take i) (X3.drop i) (by rw[aQ,hL2,hL1,eD,eD,eD,rI]);simp only[Ln.ok]at ok;have la:=jI (n:=t.x) (by omega);have lb:=jI (n:=t.y) (by omega);have lc:=jI (n:=t.r) (by omega);have da:=fun H=>F.oq t.x (by omega) H;have db:=fun H=>F.oq t.y (by omega) H;have dc:=fun H=>F.oq t.r (by omega) H;obtain⟨S,hS⟩:∃S,S=iD (L2++X3.take i):=⟨_,rfl⟩;rw[←hS]at lS g4 hnx ⊢;have hby:(Ln.gv t).bytes=[112,111,108,101,32]++(Lib.itoa t.x++32::(Lib.itoa t.y++32::Lib.itoa t.r)):=(by simp[Ln.bytes,Ln.word,Ln.gq,cZ,gh]);rw[hby]at hnx;obtain⟨wa,hwa⟩:∃w,w=Lib.itoa t.x:=⟨_,rfl⟩;obtain⟨wb,hwb⟩:∃w,w=Lib.itoa t.y:=⟨_,rfl⟩;obtain⟨wc,hwc⟩:∃w,w=Lib.itoa t.r:=⟨_,rfl⟩;rw[←hwa]at la da hnx;rw[←hwb]at lb db hnx;rw[←hwc]at lc dc hnx;obtain⟨i1,fQ⟩:∃i1,i1=i+1:=⟨_,rfl⟩;have w1:IntKind.wrap .i64 ((i:Int)+1)=(i1:Int):=(by rw[bK (by omega)];omega);have f1:S.length≤9223372036854775802:=(by omega);have f2:S.length+5+wa.length≤9223372036854775807:=(by omega);have f3:S.length+(wa.length+5)≤9223372036854775806:=(by omega);have f4:S.length+(wa.length+1+5)+wb.length≤9223372036854775807:=(by omega);have f5:S.length+(wa.length+(wb.length+1)+5)≤9223372036854775806:=(by omega);have f6:S.length+(wa.length+(wb.length+1+1)+5)+wc.length≤9223372036854775807:=(by omega);have f7:S.length+(wa.length+(wb.length+(wc.length+1)+1)+5)≤9223372036854775806:=(by omega);simp -implicitDefEqProofs[g1,g4,gi,x1,hil,hb,hd,hlc',bg,f1];refine(da H2).mono ?_;rintro v1 h1x ⟨rfl,rfl⟩;simp -implicitDefEqProofs[aJ,f1,f2,f3,w1,g1,x1];intro _;refine(db h1x).mono ?_;rintro v2 h2x ⟨rfl,rfl⟩;simp -implicitDefEqProofs[aJ,f1,f2,f3,f4,f5,w1,g1,x1];intro _;refine(dc h2x).mono ?_;rintro v2 h3x ⟨rfl,rfl⟩;simp -implicitDefEqProofs[aJ,f1,f2,f3,f4,f5,f6,f7,w1,g1,x1];intro _;exact⟨mp-i1,by omega,i1,rfl,by omega,rfl,by simp,by rw[fQ,hnx];simp,by simp[hcs]⟩
   ·have him:i=mp:=(by omega);rw[him,bZ (by omega)]at g4;rw[him,bZ (by omega)];have hfin:L2++X3=dG v:=(by rw[aQ,hL2,hL1];simp);rw[hfin]at g4 ⊢;simp -implicitDefEqProofs[g1,g4,x1]
end Go.Proofs.Ybk
namespace Go.Proofs.Ybk.K
open Go Go.Am
open V (aq aU aj aN aB)
def gz (t:List UInt8):dO:={jV with kind:=1,text:=t}
def gy (o:aH):dO:={jV with kind:=2,order:=o}
def iG (n:Int):dO:={jV with kind:=3,time:=n}
def recC:dO:={jV with kind:=4}
def gJ (v:aj):List UInt8:=iD (dG v)
def j8 (b:aG):List dO:=(if b.has then[gz (gJ b.v)]else[])++([iG b.now]++(b.l.map gy++[recC]))
def lG (o:aH):Bool:=aB o.id 1 2147483647&&(aB o.state 1 3&&(ez o.aO&&(aB o.fZ 0 1099511627776&&aB o.first (-1) 4095)))
def iZ (r:dO):Bool:=if r.kind=1 then decide (r.text.length≤1048576)&&decide (r=gz r.text)else if r.kind=2 then lG r.order&&decide (r=gy r.order)else if r.kind=3 then aB r.time 0 1099511627776&&decide (r=iG r.time)else decide (r=recC)
def j9 (b:aG) (r:dO):Option aG:=if iZ r=false then none
 else if r.kind=1 then match(fc r.text).1 with
  |some _=>none
  |none=>some {b with v:=mU (fc r.text).2,has:=true}
 else if r.kind=3 then(if b.now≤r.time then some {b with now:=r.time}else none)
 else if r.kind=2 then(if(b.l.length:Int)+1<r.order.id then none else if r.order.id=(b.l.length:Int)+1 then some {b with l:=b.l++[r.order]}else some {b with l:=b.l.set (r.order.id.toNat-1) r.order})
 else none
def fO:List dO→aG→Option aG
 |[],b=>some b
 |r::l,b=>match j9 b r with
  |some b'=>fO l b'
  |none=>none
def kT (b:aG) (o:aH):Bool:=if o.state=1 then decide (b.now<o.fZ)else if o.state=3 then decide (o.fZ=0)&&decide (o.first= -1)else decide (o.fZ=0)
def mR (b:aG):Bool:=b.l.all (kT b)&&(decide ((aT b).1.length=0) || (b.has&&(decide ((aT b).1.length≤512)&&(jE (aT b).1 (aT b).2.1&&iR b.v (aT b).1 (aT b).2.1 (aT b).2.2))))
def oa (b:aG) (l:List dO):aG×Int:=if l.getLast? =some recC then match fO l.dropLast b with
  |some x=>if mR x then(x,0)else(b,10)
  |none=>(b,10)
 else(b,10)
def vT (a b:aG):Bool:=decide (a.has=b.has)&&(decide (a.now=b.now)&&(V.uB a.v b.v&&decide (a.l=b.l)))
def xM:List UInt8:=[103,97,112,32,49,48,10,114,97,100,105,117,115,32,48,10,115,101,97,116,32,48,32,48,32,48,10,115,101,97,116,32,48,32,49,48,32,48,10,115,101,97,116,32,48,32,50,48,32,48,10]
def rn:aj:=⟨[⟨0,0,0,0⟩,⟨0,10,0,0⟩,⟨0,20,0,0⟩],10,0,[],[]⟩
def eG:aG:=⟨1000,true,rn,[⟨1,2,⟨1,0⟩,0,0⟩,⟨2,3,⟨2,0⟩,0,-1⟩],5⟩
theorem Zc (n:Nat) (h:n<10):Lib.itoa (n:Nat)=[UInt8.ofNat (48+n)]:=by
 unfold Lib.itoa;rw[if_neg (by omega),jN,Lib.decDigits,dif_pos h]
theorem JK (n:Nat) (h0:10≤n) (h:n<100):Lib.itoa (n:Nat)=[UInt8.ofNat (48+n / 10),UInt8.ofNat (48+n % 10)]:=by
 unfold Lib.itoa;rw[if_neg (by omega),jN,Lib.decDigits,dif_neg (by omega),Lib.decDigits,dif_pos (by omega)];rfl
theorem alH:gJ rn=xM:=by
 have a0:=Zc 0 (by omega);have a10:=JK 10 (by omega) (by omega);have a20:=JK 20 (by omega) (by omega);unfold gJ iD dG rn;simp[Ln.bytes,Ln.word,Ln.gq,T.cZ,jw,fR,xM,ft,fP,mn];simp at a0 a10 a20;rw[a0,a10,a20];decide
theorem alF:oa (dX 1000) ([gz xM,iG 5]++(eG.l.map gy++[recC]))=(eG,0):=by kernel_rfl
theorem XV (a b:aq):pB a b=pB b a:=by
 have e1:(b.x-a.x)*(b.x-a.x)=(a.x-b.x)*(a.x-b.x):=by rw[show b.x-a.x= -(a.x-b.x) by omega,Int.neg_mul_neg]
 have e2:(b.y-a.y)*(b.y-a.y)=(a.y-b.y)*(a.y-b.y):=by rw[show b.y-a.y= -(a.y-b.y) by omega,Int.neg_mul_neg]
 unfold pB;rw[e1,e2];cases jm a.x<;>cases jm a.y<;>cases jm b.x<;>cases jm b.y<;>rfl
theorem Wa (a b:aq) (r:Int):lu a b r=lu b a r:=by unfold lu;rw[XV]
theorem Uo {v:aj} {p q:aV} {a b:Int}:dS v p a q b=true↔∀i,i<p.size.toNat→∀k,k<q.size.toNat→a+(i:Int)≠b+(k:Int)∧lu (iT v (a+(i:Int)).toNat) (iT v (b+(k:Int)).toNat) v.bC=false:=by
 unfold dS;rw[cq];constructor
 ·intro h i hi k hk;have:=cq.1 (h i (dv.2 hi)) k (dv.2 hk);simpa using this
 ·intro h i hi;rw[cq];intro k hk;have:=h i (dv.1 hi) k (dv.1 hk);simpa using this
theorem Up {v:aj} {p q:aV} {a b:Int} (h:dS v p a q b=true):dS v q b p a=true:=by
 rw[Uo]at h ⊢;intro i hi k hk;obtain⟨h1,h2⟩:=h k hk i hi;exact⟨fun e=>h1 e.symm,by rw[Wa];exact h2⟩
theorem BJ {s:bO} {q:List Int} {k:Nat} (h:eg s q k=false) {x:Int} (hx:eI s k=some x):q.getD k 0=x:=by
 unfold eg at h;simp only[hx]at h;by_cases e:q.getD k 0=x
 ·exact e
 ·rw[if_pos (by simpa using e)]at h;cases h
theorem uM {s:bO} {q:List Int} {k:Nat} (h:eg s q k=false) (hne:q.getD k 0≠-1):(cS s.v s.us (s.l.getD k default) (q.getD k 0)).isSome=true∧∀j,j<k→q.getD j 0≠-1→dS s.v (s.l.getD k default) (q.getD k 0) (s.l.getD j default) (q.getD j 0)=true:=by
 have key:∀B:Bool,(if B=true then true else if q.getD k 0= -1 then false else if(cS s.v s.us (s.l.getD k default) (q.getD k 0)).isNone then true
   else(List.range k).any fun j=>decide (q.getD j 0≠-1)&& !dS s.v (s.l.getD k default) (q.getD k 0) (s.l.getD j default) (q.getD j 0))=false→
   (cS s.v s.us (s.l.getD k default) (q.getD k 0)).isSome=true∧∀j,j<k→q.getD j 0≠-1→dS s.v (s.l.getD k default) (q.getD k 0) (s.l.getD j default) (q.getD j 0)=true:=by
  intro B h;cases B with
  |true=>cases h
  |false=>
   rw[if_neg (by decide),if_neg hne]at h;cases hs:cS s.v s.us (s.l.getD k default) (q.getD k 0)with
   |none=>rw[hs]at h;cases h
   |some l=>
    rw[hs]at h;simp only[Option.isNone_some,ff,if_false]at h;rw[List.any_eq_false]at h;refine⟨rfl,fun j hj hjn=>?_⟩;have:=h j (dv.2 hj);cases ha:dS s.v (s.l.getD k default) (q.getD k 0) (s.l.getD j default) (q.getD j 0)with
    |true=>rfl
    |false=>rw[ha]at this;exact absurd (by simp only[Bool.not_false,Bool.and_true,dP];exact hjn) this
 exact key _ h
theorem zh {v:aj} {us:List Bool} {p:aV} {f:Int} (h:(cS v us p f).isSome=true):f∈ij v us p:=by
 have hb:0≤f∧f<v.ag.length:=by
  unfold cS at h;split at h
  ·cases ht:oY v us f p.size with
   |none=>rw[ht]at h;cases h
   |some l=>
    unfold oY at ht;split at ht
    ·cases ht
    ·rename_i hc;simp only[not_or]at hc;obtain⟨m,hm⟩:∃m,p.size.toNat=m+1:=⟨p.size.toNat-1,by omega⟩;have hl:=hc.2.2;rw[hm,kZ]at hl;split at hl
     ·rename_i hf;simp only[bX]at hf;have:=hf.1;unfold qI at this;simp only[bX,dP]at this;omega
     ·omega
  ·cases h
 unfold ij;rw[dI];refine⟨f.toNat,ig.2 ⟨dv.2 (by omega),?_⟩,by omega⟩;rw[Int.toNat_of_nonneg hb.1];exact h
def nV (s:bO) (q:List Int):Prop:=q.length=s.l.length∧∀k,k<q.length→eg s q k=false
structure lQ (p:cn):Prop where
 len:p.levels.length=p.p.length+1
 wid:∀d,d≤p.p.length→(p.levels.getD d []).length=p.s.l.length
 xl:∀d,d≤p.p.length→∀k,k<d→p.p.getD k 0≠-1→(p.levels.getD d []).getD k []≠[]
 all:∀q,nV p.s q→∀d,d≤p.p.length→(∀j,j<d→q.getD j 0=p.p.getD j 0)→∀k,d≤k→k<p.s.l.length→q.getD k 0= -1∨q.getD k 0∈(p.levels.getD d []).getD k []
theorem CR {s:bO} {q:List Int} (C:nV s q) {j k:Nat} (hj:j<s.l.length) (hk:k<s.l.length) (hne:j≠k) (nj:q.getD j 0≠-1) (nk:q.getD k 0≠-1):dS s.v (s.l.getD k default) (q.getD k 0) (s.l.getD j default) (q.getD j 0)=true:=by
 rcases Nat.lt_or_ge j k with z|z
 ·exact(uM (C.2 k (by rw[C.1];exact hk)) nk).2 j z nj
 ·exact Up ((uM (C.2 j (by rw[C.1];exact hj)) nj).2 k (by omega) nk)
theorem AZ {p:cn} (P:lQ p):lQ (fC p):=by
 unfold fC;split
 ·exact P
 ·rename_i h0;have hl:=P.len;have e:∀d,d≤p.p.length-1→p.levels.dropLast.getD d []=p.levels.getD d []:=fun d hd=>by
   rw[bB,bB,List.getElem?_dropLast,if_pos (by omega)]
  refine⟨by simp[hl];omega,fun d hd=>?_,fun d hd k hk hn=>?_,fun q C d hd ha k hk hkl=>?_⟩
  ·simp only[List.length_dropLast]at hd;simp only[e d hd];exact P.wid d (by omega)
  ·simp only[List.length_dropLast]at hd;simp only[e d hd];simp only[vp (show k<p.p.length-1 by omega)]at hn;exact P.xl d (by omega) k hk hn
  ·simp only[List.length_dropLast]at hd;simp only[e d hd];refine P.all q C d (by omega) (fun j hj=>?_) k hk hkl;have:=ha j hj;simp only[vp (show j<p.p.length-1 by omega)]at this;exact this
end Go.Proofs.Ybk.K
namespace Go.Proofs.Ybk.K
open Go Go.Am
open V (aq aU aj aN aB)
open T (bT)
theorem agU {t:List UInt8} (h:(fc t).1=none):uQ (fc t).2 (mU (fc t).2):=by
 unfold fc at h ⊢;by_cases hc:(bT t).code≠0
 ·rw[if_pos hc]at h;cases h
 ·rw[if_neg hc]at h ⊢;have G0:=Nq (bT t).ts (bT t).ln (bT t).ah ((bT t).ts.length+1) 0 gx O7;obtain⟨L,hL⟩:∃L,L=gH (bT t).ts (bT t).ln (bT t).ah ((bT t).ts.length+1) 0 gx:=⟨_,rfl⟩;rw[←hL]at h G0 ⊢;obtain⟨r,re⟩:=L;cases re with
  |some e=>simp only at h;cases h
  |none=>
   simp only at h G0 ⊢;have G:=G0 trivial;have hk:r.aE.length≤200:=G.ok.2.1;have hwn:=QJ (r:=r) (el:=(bT t).ln) (ec:=(bT t).ah);obtain⟨W,hW⟩:∃W,W=iv r (bT t).ln (bT t).ah:=⟨_,rfl⟩;rw[←hW]at h hwn ⊢;obtain⟨ks,we⟩:=W;cases we with
   |some e=>simp only at h;cases h
   |none=>
    simp only at h hwn ⊢;obtain⟨n1,n2,n3,n4⟩:=hwn trivial hk;have hm:∀x,x∈((V.fa (kD r ks)).map fun s=>V.ey (V.eO s) (qd r.ag)).foldr mO []↔x∈(V.fa (kD r ks)).map (fun s=>V.ey (V.eO s) (qd r.ag)):=fun x=>PB x _;exact⟨Bt _,Bu _,A7 (Bs _),hm,rfl,rfl,rfl,Jx G n1 n2 n3 n4 (Bt _) (Bu _) (A7 (Bs _)) hm⟩
theorem AR {t:List UInt8} (h:(fc t).1=none):aN (mU (fc t).2)=true:=(agU h).2.2.2.2.2.2.2
def ja (x:Int):Prop:=-1≤x∧x≤4096
structure eh (N:Nat) (b:aG):Prop where
 f0:0≤b.fuel
 f1:b.fuel≤1073741824
 n0:0≤b.now
 n1:b.now≤1099511627776
 len:b.l.length≤N
 may:b.has=true→aN b.v=true
 fst:∀o∈b.l,ja o.first
theorem eh.mono {N M:Nat} {b:aG} (H:eh N b) (h:N≤M):eh M b:=⟨H.f0,H.f1,H.n0,H.n1,eW H.len h,H.may,H.fst⟩
theorem tX (fuel:Int) (h0:0≤fuel) (h1:fuel≤1073741824):eh 0 (dX fuel):=⟨h0,h1,by show(0:Int)≤0;decide,by show(0:Int)≤_;decide,a8 _,fun q=>(by cases q),fun o ho=>(by cases ho)⟩
theorem Po {v:aj} {us:List Bool} {p:aV} {f:Int} (h:(cS v us p f).isSome=true):0≤f∧f<v.ag.length:=by
 have:=zh h;unfold ij at this;rw[dI]at this;obtain⟨k,hk,rfl⟩:=this;have:=dv.1 (ig.1 hk).1;omega
theorem Ay {v:aj} {l:List aV} {p:List Int} {pins:List (Int×Int)} (h:iR v l p pins=true):∃s,fL v l pins=some s∧p.length=l.length∧∀k,k<p.length→eg s p k=false:=by
 unfold iR at h;cases hs:fL v l pins with
 |none=>rw[hs]at h;simp only[dP]at h;omega
 |some s=>
  rw[hs]at h;simp only at h;by_cases q:p.length=l.length
  ·rw[if_pos q]at h;refine⟨s,rfl,q,fun k hk=>?_⟩;simp only[dP]at h;unfold oB at h;cases hf:(List.range p.length).find? (eg s p)with
   |some j=>rw[hf]at h;simp only at h;omega
   |none=>
    rw[List.find?_eq_none]at hf;have:=hf k (dv.2 hk);simpa using this
  ·rw[if_neg q]at h;simp only[dP]at h;omega
theorem NJ {v:aj} {l:List aV} {p:List Int} {pins:List (Int×Int)} (h:iR v l p pins=true) (M:aN v=true):∀x∈p,ja x:=by
 obtain⟨s,hs,hl,hw⟩:=Ay h;obtain⟨e,_,_,_⟩:=pH hs;intro x hx;obtain⟨k,hk,rfl⟩:=List.getElem_of_mem hx;have hwk:=hw k hk;have hg:p.getD k 0=p[k]:=by rw[bB,av hk];rfl
 by_cases q:p[k]= -1
 ·rw[q];exact⟨by decide,by decide⟩
 ·have:=(uM hwk (by rw[hg];exact q)).1;rw[hg]at this;have hb:=Po this;have hsv:s.v=v:=by rw[e]
  rw[hsv]at hb;have hlen:=(k8 M).len;exact⟨by omega,by omega⟩
theorem Py:∀(l:List aH) (p:List Int),(∀o∈l,ja o.first)→(∀x∈p,ja x)→∀o∈eC l p,ja o.first:=by
 intro l;induction l with
 |nil=>intro p _ _ o ho;rw[eC]at ho;cases ho
 |cons a r ih=>
  intro p hl hp o ho;rw[eC]at ho;have hr:=fun p hp=>ih p (fun o ho=>hl o (ep _ ho)) hp;split at ho
  ·rcases cE.1 ho with rfl|ho
   ·cases p with
    |nil=>exact⟨by show(-1:Int)≤0;decide,by show(0:Int)≤4096;decide⟩
    |cons x t=>exact hp x dH
   ·exact hr p.tail (fun x hx=>hp x (List.mem_of_mem_tail hx)) o ho
  ·rcases cE.1 ho with rfl|ho
   ·exact hl _ dH
   ·exact hr p hp o ho
theorem zV {p:List Int} (h:∀x∈p,ja x):ja (p.getLastD 0):=by
 rw[List.getLastD_eq_getLast?];cases q:p.getLast? with
 |none=>exact⟨by decide,by decide⟩
 |some x=>exact h x (List.mem_of_getLast? q)
theorem Yr {l:List aH} (h:∀o∈l,ja o.first) (k:Nat):ja (l.getD k default).first:=by
 rw[bB];cases q:l[k]? with
 |none=>exact⟨by decide,by decide⟩
 |some o=>exact h o (dY q)
theorem Bo {l:List aH} (h:∀o∈l,ja o.first) (k:Nat) {o:aH} (ho:ja o.first):∀x∈l.set k o,ja x.first:=by
 intro x hx;rcases List.mem_or_eq_of_mem_set hx with q|q
 ·exact h x q
 ·rw[q];exact ho
theorem zR {n:Nat} {b:aG} {p:aV} (M:aN b.v=true) (h:(gV n b p).2=0):∀x∈(gV n b p).1,ja x:=by
 unfold gV at h ⊢;split
 ·intro x hx;cases hx
 ·rename_i h1;rw[if_neg h1]at h;simp only at h ⊢;split
  ·intro x hx;cases hx
  ·rename_i h2;split
   ·exact NJ (wI (Classical.byContradiction fun q=>h2 q)) M
   ·split
    ·intro x hx;cases hx
    ·intro x hx;cases hx
theorem lX (n:Nat) {N:Nat} {b:aG} (c:CmdR) (H:eh N b):eh (N+1) (bG n b c).1:=by
 have H1:eh (N+1) b:=H.mono (by omega);unfold bG;split
 ·exact H1
 split
 ·unfold j5;split
  ·exact H1
  ·split
   ·exact H1
   ·rename_i hp;exact⟨H.f0,H.f1,H.n0,H.n1,H1.len,fun _=>AR hp,H.fst⟩
 split
 ·unfold iI;split
  ·exact H1
  ·rename_i hc;simp only[not_or,Int.not_lt]at hc;refine⟨H.f0,H.f1,by have:=H.n0;show 0≤b.now+c.a;omega,by show b.now+c.a≤_;omega,by show(b.l.map _).length≤_;rw[cN];exact H1.len,H.may,fun o ho=>?_⟩;obtain⟨o',ho',rfl⟩:=dI.1 ho;split
   ·exact⟨by show(-1:Int)≤-1;decide,by show(-1:Int)≤4096;decide⟩
   ·exact H.fst o' ho'
 split
 ·exact H1
 rename_i hhas;have M:aN b.v=true:=H.may (by simpa using hhas);split
 ·unfold jY;split
  ·exact H1
  ·simp only;split
   ·exact H1
   ·rename_i h2;have hf:=zR M (Classical.byContradiction fun q=>h2 q);refine⟨H.f0,H.f1,H.n0,H.n1,?_,H.may,?_⟩
    ·show(eC (b.l++[_]) _).length≤_;rw[uE,bF,ji];have:=H.len;omega
    ·refine Py _ _ (fun o ho=>?_) hf;rcases ei.1 ho with q|q
     ·exact H.fst o q
     ·rw[eo]at q;subst q;exact zV hf
 split
 ·exact H1
 split
 ·unfold lW;split
  ·exact H1
  ·simp only;split
   ·exact H1
   ·exact⟨H.f0,H.f1,H.n0,H.n1,by show(b.l.set _ _).length≤_;rw[lj];exact H1.len,H.may,Bo H.fst _ (Yr H.fst _)⟩
 split
 ·unfold lV;split
  ·exact H1
  ·simp only;split
   ·exact H1
   ·exact⟨H.f0,H.f1,H.n0,H.n1,by show(b.l.set _ _).length≤_;rw[lj];exact H1.len,H.may,Bo H.fst _ ⟨by show(-1:Int)≤-1;decide,by show(-1:Int)≤4096;decide⟩⟩
 split
 ·unfold mi;simp only;split
  ·exact H1
  ·rename_i h1;split
   ·exact H1
   ·refine⟨H.f0,H.f1,H.n0,H.n1,?_,H.may,Py _ _ H.fst (NJ (wI (Classical.byContradiction fun q=>h1 q)) M)⟩;show(eC b.l _).length≤_;rw[uE];exact H1.len
 ·exact H1
end Go.Proofs.Ybk.K
namespace Go.Proofs.Ybk.K
open Go Go.Am
open V (aq aU aj aN aB)
def jO (n:Nat) (b:aG) (c:CmdR):List dO:=if(bG n b c).2.code≠0 then[]else kB (bG n b c).1 b c
def uX:aG:=⟨1000,true,rn,[],0⟩
def tB:aG:=⟨1000,true,rn,[⟨1,1,⟨1,0⟩,5,0⟩],0⟩
def pn:aG:=⟨1000,true,rn,[⟨1,1,⟨1,0⟩,5,0⟩,⟨2,1,⟨2,0⟩,5,1⟩],0⟩
def uY:aG:=⟨1000,true,rn,[⟨1,2,⟨1,0⟩,0,0⟩,⟨2,1,⟨2,0⟩,5,1⟩],0⟩
theorem W4:bG 2000 (dX 1000) (cmd 2 0 0 [])=(dX 1000,err 11):=by kernel_rfl
theorem II:bG 2000 (dX 1000) (cmd 1 0 0 xN)=(uX,⟨0,3,(0,0),[]⟩):=by kernel_rfl
theorem IJ:bG 2000 uX (cmd 2 5 1 [])=(tB,⟨0,1,(0,0),[0]⟩):=by kernel_rfl
theorem IK:bG 2000 tB (cmd 2 5 2 [])=(pn,⟨0,2,(0,0),[1,2]⟩):=by kernel_rfl
theorem W8:bG 2000 pn (cmd 2 5 1 [])=(pn,err 6):=by kernel_rfl
theorem IL:bG 2000 pn (cmd 3 1 0 [])=(uY,⟨0,0,(0,0),[0]⟩):=by kernel_rfl
theorem IM:bG 2000 uY (cmd 5 5 0 [])=(eG,⟨0,1,(0,0),[]⟩):=by kernel_rfl
theorem W9:bG 2000 eG (cmd 8 0 0 [])=(eG,⟨0,0,(0,0),[1,0,0]⟩):=by kernel_rfl
theorem Xa:bG 2000 eG (cmd 3 2 0 [])=(eG,err 5):=by kernel_rfl
theorem Xb:bG 2000 eG (cmd 4 9 0 [])=(eG,err 4):=by kernel_rfl
theorem W6:bG 2000 eG (cmd 99 0 0 [])=(eG,err 1):=by kernel_rfl
theorem W7:bG 2000 eG (cmd 1 0 0 [])=(eG,err 12):=by kernel_rfl
theorem WV:jO 2000 (dX 1000) (cmd 2 0 0 [])=[]:=by kernel_rfl
theorem WW:(jO 2000 (dX 1000) (cmd 1 0 0 xN)).length=2:=by kernel_rfl
theorem WX:(jO 2000 tB (cmd 2 5 2 [])).length=2:=by kernel_rfl
theorem PO:j8 eG=[gz xM,iG 5]++(eG.l.map gy++[recC]):=by
 show(if eG.has then[gz (gJ rn)]else[])++_=_;rw[alH];rfl
end Go.Proofs.Ybk.K
namespace Go.Proofs.Ybk.K
open Go Go.Am
set_option maxHeartbeats 4000000
open V (aq aU aj au bg ab bD aN aB cF cJ bq bR)
open T (dz)
open F (cz)
def cmdC (c:CmdR):List Value:=[.int .i64 c.kind,.int .i64 c.a,.int .i64 c.aO.size,.int .i64 c.aO.du,.string (B c.text)]
def cm (c:CmdR):Value:=.agg ⟨cmdC c⟩
def um (r:jL) (sv:Value):List Value:=[.int .i64 r.code,.int .i64 r.n,.int .i64 r.spot.1,.int .i64 r.spot.2,sv]
def nq (h:aa) (R:jL) (v:Value):Prop:=∃sv,v= .agg ⟨um R sv⟩∧aK 3 ab h sv R.ag
theorem js (h:aa) (k:Int):nq h (err k) (.agg ⟨[.int .i64 k,.int .i64 0,.int .i64 0,.int .i64 0,.slice none 0 0]⟩):=⟨_,rfl,aK.nil⟩
theorem QG (l:List UInt8) (hl:l.length≤1048576) (h:aa):ao PP 76 [.string (B l)] h (fun v h'=>Ext h h'∧match(fc l).1 with
 |some _=>∃be,v= .tuple #[.agg ⟨V.kh⟩,.iface 207 (.pointer (some ⟨be,0,none⟩))]
 |none=>∃co,fw h' (mU (fc l).2) co∧v= .tuple #[.agg ⟨co⟩,.nilIface]):=by
 refine ao.jT (QH l hl h) (fun v h' ⟨E,H⟩=>?_)
 cases q:(fc l).1 with
 |some e=>
  rw[q]at H
  obtain⟨E1,e1,C⟩:=H
  obtain⟨be,e2⟩:=kM (h:=h') (a:=e.1) (b:=e.2) ⟨Ext.bJ _,C⟩
  exact⟨h',Wk.refl _,E,be,by rw[e1,e2]⟩
 |none=>
  rw[q]at H
  obtain⟨w,co,n1,n2,n3⟩:=H
  obtain⟨F,W,EF,S⟩:=amr n2 E
  exact⟨F,W,EF,co,by rw[NY n1];exact S,n3⟩
section
variable {h0 h h':aa} {a:Nat} {b:aG} {vc:List Value} {ov:Value} {o:Option Nat}
theorem Z9 (hl:b.l.length≤1048576) (c:CmdR) (hc:c.text.length≤1048576) (G0:cz h0) (B:bz h0 h a b vc ov o):
  ao PP 66 [.pointer (some ⟨a,0,none⟩),cm c] h (fun r h'=>cI h0 h h' a o (j5 b c.text).1∧nq h' (j5 b c.text).2 r):=by
 refine aC mix (aD Tryz.func66) rfl rfl rfl afH ?_;simp only[ai,Tryz.f66];have hlive:=pK (by omega) B;unfold j5;simp -implicitDefEqProofs[cm,cmdC];refine hlive.mono ?_;rintro r G1 ⟨E1,S1⟩;obtain⟨ad,cc,rfl⟩:=S1.shape;simp -implicitDefEqProofs[af];intro _;by_cases q:(b8 b).length>0
 ·have q':(0:Int)<(b8 b).length:=by omega
  rw[if_pos q];simp -implicitDefEqProofs[q,q'];exact⟨cI.fD B E1,js _ 12⟩
 ·have q':¬(0:Int)<(b8 b).length:=by omega
  rw[if_neg q];simp -implicitDefEqProofs[q,q'];refine(ag0 c.text hc G1 ((G0.ext B.ext).ext E1)).mono ?_;rintro r G2 ⟨E2,rfl⟩;unfold vd;cases qp:(fc c.text).1 with
  |some e=>
   simp -implicitDefEqProofs[af,dz];intro _;exact⟨cI.fD B (E1.trans E2),_,rfl,aK.nil⟩
  |none=>
   simp -implicitDefEqProofs[af,dz];intro _;refine(QG c.text hc G2).mono ?_;rintro r G3 ⟨E3,H3⟩;rw[qp]at H3;obtain⟨co,hV,rfl⟩:=H3;have B3:=((B.exts E1).exts E2).exts E3;have hV':=hV;obtain⟨s,k,p,rfl,z1,z2,z3⟩:=hV';obtain⟨b1,d1,rfl⟩:=z1.shape;obtain⟨b2,d2,rfl⟩:=z2.shape;obtain⟨b3,d3,rfl⟩:=z3.shape;have hrow3:=B3.row;have hw:=B3.dL;obtain⟨a1,n1,c1,g,r,a2,n2,c2,a3,n3,c3,a4,n4,c4,rfl,rfl,rfl,hrow⟩:=B.cells;simp only[iy,dp,dA]at hrow3;simp -implicitDefEqProofs[af,hrow3];intro _;rw[mN];refine⟨(cI.pre ((E1.trans E2).trans E3) (cI.oM (rO (b:={b with v:=mU (fc c.text).2,has:=true}) hrow3 B3.a0 B3.a1 B3.ext hV hw rfl) ((jl G3 a _).mono (fun x hx _=>?_)))),_,rfl,aK.nil⟩;rw[eo]at hx;subst hx;exact dH
end
end Go.Proofs.Ybk.K
namespace Go.Proofs.Ybk.K
open Go Go.Am
set_option maxHeartbeats 4000000
open V (aq aU aj au bg ab bD aN aB cF cJ bq bR)
def kc (now:Int) (l:List aH) (i:Nat):List aH:=(l.take i).map (fK now)++l.drop i
theorem alv (now:Int) (l:List aH) (i:Nat):(kc now l i)[i]? =l[i]? :=by
 unfold kc;by_cases h:i≤l.length
 ·rw[iW (by rw[cN,cQ];omega),cN,cQ,Nat.min_eq_left h,n9,List.getElem?_drop,gQ]
 ·rw[iK (by rw[bF,cN,cQ,eN];omega),iK (by omega)]
theorem alx (now:Int) (l:List aH) (i:Nat) {t:aH} (ht:l[i]? =some t):kc now l (i+1)=(kc now l i).set i (fK now t):=by
 obtain⟨hi,e⟩:=cY.1 ht;unfold kc;have hd:l.drop i=t::l.drop (i+1):=by rw[←e];exact ie hi
 have hl:((l.take i).map (fK now)).length=i:=by rw[cN,cQ];omega
 rw[fI,ht,Option.toList_some,lk,hd,List.set_append_right _ _ (by omega),hl,n9,List.set_cons_zero,eD];rfl
theorem alw (now:Int) (l:List aH) (i:Nat):(kc now l i).length=l.length:=by
 unfold kc;rw[bF,cN,cQ,eN];omega
theorem alu (now:Int) (l:List aH):kc now l l.length=l.map (fK now):=by unfold kc;simp
def ny (now:Int) (l:List aH) (i:Nat):Nat:=((l.take i).filter (fq now)).length
theorem Xd (now:Int) (l:List aH) (i:Nat) {t:aH} (ht:l[i]? =some t):ny now l (i+1)=if fq now t=true then ny now l i+1 else ny now l i:=by
 unfold ny;rw[xf (fq now) l i ht,bF];split<;>simp
theorem Xc (now:Int) (l:List aH) (i:Nat):ny now l i≤i:=by
 unfold ny;have:=List.length_filter_le (fq now) (l.take i);rw[cQ]at this;omega
def Sx (h0 h1:aa) (a:Nat) (b:aG) (now:Int) (vc:List Value) (ov:Value) (o:Option Nat) (m n:Nat) (σ:St):Prop:=∃i:Nat,n=m-i∧i≤m∧bz h0 σ.m.h a {b with now:=now,l:=kc now b.l i} vc ov o∧cP (a::o.toList) h1 σ.m.h∧
 σ.t.get 0=some (.pointer (some ⟨a,0,none⟩))∧σ.t.get 4=some (.pointer (some ⟨4,0,some 0⟩))∧σ.t.get 5=some (.int .i64 (ny now b.l i:Nat))∧σ.t.get 35=some ov∧σ.t.get 36=some (.int .i64 (m:Nat))∧σ.t.get 37=some (.int .i64 (i:Nat))∧σ.m.x.look 4=some (38,[.int .i64 0,.int .i64 0,.int .i64 0,.int .i64 0,.slice none 0 0])
theorem aly {h0 h:aa} {a:Nat} {b:aG} {vc:List Value} {ov:Value} {o:Option Nat} (hl:b.l.length≤1048576) (hn:0≤b.now∧b.now≤1099511627776) (n:Int) (B:bz h0 h a b vc ov o):
  ao PP 67 [.pointer (some ⟨a,0,none⟩),.int .i64 n] h (fun r h'=>cI h0 h h' a o (iI b n).1∧nq h' (iI b n).2 r):=by
 refine aC mix (aD Tryz.func67) rfl rfl rfl afI ?_;simp only[ai,Tryz.f67];have hrow0:=B.row;obtain⟨a1,n1,c1,g,r,a2,n2,c2,a3,n3,c3,a4,n4,c4,rfl,rfl,rfl,hrow⟩:=B.cells;by_cases q1:n<1
 ·have e:iI b n=(b,err 1):=by unfold iI;rw[if_pos (.inl q1)]
  rw[e];simp -implicitDefEqProofs[q1];exact⟨cI.fD B (Ext.bJ _),js _ 1⟩
 by_cases q2:1000000<n
 ·have e:iI b n=(b,err 1):=by unfold iI;rw[if_pos (.inr (.inl q2))]
  rw[e];simp -implicitDefEqProofs[q1,q2];exact⟨cI.fD B (Ext.bJ _),js _ 1⟩
 have w0:IntKind.wrap .i64 (b.now+n)=b.now+n:=bK (by omega);by_cases q3:1099511627776<b.now+n
 ·have e:iI b n=(b,err 1):=by unfold iI;rw[if_pos (.inr (.inr q3))]
  rw[e];simp -implicitDefEqProofs[q1,q2,hrow,w0,q3];exact⟨cI.fD B (Ext.bJ _),js _ 1⟩
 rw[yF b n ⟨by omega,by omega,by omega⟩];obtain⟨now,hnow⟩:∃z,z=b.now+n:=⟨_,rfl⟩;have q3':¬1099511627776<now:=by omega
 rw[←hnow]at w0 ⊢;simp -implicitDefEqProofs[q1,q2,hrow,←hnow,w0,q3'];have B1:=rO (b:={b with now:=now}) hrow0 B.a0 B.a1 B.ext B.dF B.dL rfl;simp only[iy,dp,dA]at B1;have C1:cP (a::o.toList) h (h.set a (.row true 77 [.int .i64 b.fuel,.bool b.has,.slice a1 n1 c1,.int .i64 g,.int .i64 r,.slice a2 n2 c2,.slice a3 n3 c3,.slice a4 b.l.length c4,.int .i64 now])):=(jl h a _).mono (fun x hx _=>by rw[eo]at hx;subst hx;exact dH);obtain⟨m,hm⟩:∃m,m=b.l.length:=⟨_,rfl⟩;rw[←hm]at B1 C1 ⊢;have e0:kc now b.l 0=b.l:=by simp[kc]
 refine bL (Sx h0 h a b now [.slice a1 n1 c1,.int .i64 g,.int .i64 r,.slice a2 n2 c2,.slice a3 n3 c3] (.slice a4 m c4) o m) _ ⟨0,rfl,by omega,by rw[e0];exact B1,C1,by simp[ny]⟩ ?_;rintro n' ⟨T,⟨x,G⟩⟩ ⟨i,rfl,hi,BG,CG,g0,g4,g5,g35,g36,g37,x4⟩;simp at BG CG g0 g4 g5 g35 g36 g37 x4;simp -implicitDefEqProofs[g0,g4,g5,g35,g36,g37,x4];refine bY (fun hc=>?_) (fun hc=>?_)
 ·have him:i<m:=by omega
  have w1:=bU (i:=i) (by omega);have hti:b.l[i]? =some b.l[i]:=av (by omega);obtain⟨t,ht⟩:∃t,t=b.l[i]:=⟨_,rfl⟩;rw[←ht]at hti;have hsi:=alv now b.l i;rw[hti]at hsi;have hss:=alx now b.l i hti;have hcs:=Xd now b.l i hti;have hcl:=Xc now b.l i;have hrowG:=BG.row;simp only[iy,dp,dA]at hrowG;cases o with
  |none=>
   have:=BG.dL.2;simp only at this;have hz:=alw now b.l i;rw[this]at hz;simp at hz;omega
  |some bo=>
   obtain⟨⟨c',r',e,q⟩,nn0,nn1⟩:=BG.dL;simp only[Value.slice.injEq]at e q;obtain⟨rfl,_,_⟩:=e;obtain⟨P,Q,hP,e1,e2⟩:=sM hsi r';have qq:=q;rw[e1]at q;have hd6:(P++(aM t++Q)).drop (i*6)=aM t++Q:=mD (i:=0) hP;have hl6:i*6+6≤(P++(aM t++Q)).length:=(by rw[bF,hP,bF,ir];omega);obtain⟨R,hR⟩:∃R,R=P++(aM t++Q):=⟨_,rfl⟩;rw[←hR]at q hd6 hl6;simp only[aM,dp,dA]at hd6;obtain⟨d,hd⟩:∃d,d=ny now b.l i:=⟨_,rfl⟩;rw[←hd]at g5 hcs hcl;have wd:=bU (i:=d) (by omega);have rest:∀(z:fq now t=false),fK now t=t:=fun z=>(by unfold fK;rw[z];rfl);have next:fq now t=false→bz h0 G a {b with now:=now,l:=kc now b.l (i+1)} [.slice a1 n1 c1,.int .i64 g,.int .i64 r,.slice a2 n2 c2,.slice a3 n3 c3] (.slice (some ⟨bo,0,none⟩) m c4) (some bo):=fun z=>by
    rw[hss,rest z];have:(kc now b.l i).set i t=kc now b.l i:=by
     obtain⟨hlt,e⟩:=cY.1 hsi;rw[←e];exact List.set_getElem_self hlt
    rw[this];exact BG
   by_cases z1:t.state=1
   ·by_cases z2:t.fZ≤now
    ·have z:fq now t=true:=(by unfold fq;simp[z1,z2]);have ze:fK now t=kX t:=(by unfold fK;rw[z];rfl);rw[ze]at hss;rw[if_pos z]at hcs;have hend:=I7 G bo i hsi r' qq;obtain⟨BS,KS⟩:=BG.uD (L:=(kc now b.l i).set i (kX t)) (by rw[lj]) r';have CS:cP (a::(some bo).toList) h (G.set bo (.row true 43 (((kc now b.l i).set i (kX t)).flatMap aM++r'))):=CG.trans (jl G bo _) (fun x hx _=>by simp at hx;simp[hx]);simp -implicitDefEqProofs[g0,g4,g5,g35,g36,g37,x4,him,q,hd6,hl6,z1,hrowG,z2];refine hend.mono ?_;rintro rr F rfl;simp -implicitDefEqProofs[af,g0,g4,g5,g35,g36,g37,x4,w1,wd];intro _;exact⟨m-(i+1),by omega,i+1,rfl,by omega,by rw[hss];exact BS,CS,by simp[hcs,←hd,wd,x4]⟩
    ·have z:fq now t=false:=(by unfold fq;simp[z1,z2]);rw[if_neg (by rw[z];decide)]at hcs;simp -implicitDefEqProofs[g0,g4,g5,g35,g36,g37,x4,him,q,hd6,hl6,z1,hrowG,z2,w1];exact⟨m-(i+1),by omega,i+1,rfl,by omega,next z,CG,by simp[hcs,←hd,wd,x4]⟩
   ·have z:fq now t=false:=(by unfold fq;simp[z1]);rw[if_neg (by rw[z];decide)]at hcs;simp -implicitDefEqProofs[g0,g4,g5,g35,g36,g37,x4,him,q,hd6,hl6,z1,hrowG,w1];exact⟨m-(i+1),by omega,i+1,rfl,by omega,next z,CG,by simp[hcs,←hd,wd,x4]⟩
 ·have e:i=m:=by omega
  subst e;have ea:kc now b.l i=b.l.map (fK now):=by rw[hm,alu]
  rw[ea]at BG;have ed:ny now b.l i=(b.l.filter (fq now)).length:=by unfold ny;rw[hm,kH]
  simp -implicitDefEqProofs[g0,g4,g5,x4];exact⟨cI.oM BG CG,_,by rw[ed];rfl,aK.nil⟩
theorem Jm (steps:Nat) (b:aG) (p:aV):gV steps b p=if 512≤(b8 b).length then([],8)else
  if(gj steps b.v ((aT b).1++[p]) (aT b).2.2 ((aT b).2.1++[-1]) b.fuel).2≠0 then([],(gj steps b.v ((aT b).1++[p]) (aT b).2.2 ((aT b).2.1++[-1]) b.fuel).2)
  else if jE ((aT b).1++[p]) (gj steps b.v ((aT b).1++[p]) (aT b).2.2 ((aT b).2.1++[-1]) b.fuel).1.aY then((gj steps b.v ((aT b).1++[p]) (aT b).2.2 ((aT b).2.1++[-1]) b.fuel).1.aY,0)
  else if(gj steps b.v ((aT b).1++[p]) (aT b).2.2 ((aT b).2.1++[-1]) b.fuel).1.answer=3 then([],7)else([],6):=rfl
theorem Jo {steps:Nat} {b:aG} {p:aV} (h:(gV steps b p).2=0):(gV steps b p).1.length=(b8 b).length+1:=by
 rw[Jm]at h ⊢;split
 ·rename_i h1;rw[if_pos h1]at h;simp at h
 ·rename_i h1;rw[if_neg h1]at h;split
  ·rename_i h2;rw[if_pos h2]at h;exact absurd h h2
  ·rename_i h2;rw[if_neg h2]at h;split
   ·rename_i h3;unfold jE at h3;simp only[bX,dP]at h3;rw[←h3.2,bF,ji];show((b8 b).map _).length+1=_;rw[cN]
   ·rename_i h3;rw[if_neg h3]at h;split
    ·rename_i h4;rw[if_pos h4]at h;simp at h
    ·rename_i h4;rw[if_neg h4]at h;simp at h
theorem ahf (l:List aH):∀(k:Nat),∀q∈fr k l,∃o∈l,q.2=o.first:=by
 induction l with
 |nil=>intro k q hq;cases hq
 |cons o r ih=>
  intro k q hq;rw[fr]at hq;split at hq
  ·rcases cE.1 hq with rfl|hq
   ·exact⟨o,dH,rfl⟩
   ·obtain⟨x,hx,e⟩:=ih _ q hq;exact⟨x,ep _ hx,e⟩
  ·obtain⟨x,hx,e⟩:=ih _ q hq;exact⟨x,ep _ hx,e⟩
theorem AX {N:Nat} {b:aG} (H:eh N b):(∀x∈(aT b).2.1,ja x)∧(∀q∈(aT b).2.2,ja q.2):=by
 have hl:∀o∈b8 b,ja o.first:=fun o ho=>H.fst o (ig.1 ho).1;refine⟨fun x hx=>?_,fun q hq=>?_⟩
 ·obtain⟨o,ho,rfl⟩:=dI.1 hx;exact hl o ho
 ·obtain⟨o,ho,e⟩:=ahf (b8 b) 0 q hq;rw[e];exact hl o ho
theorem ja.wide {x:Int} (h:ja x): -4611686018427387904≤x∧x≤4611686018427387904:=⟨by have:=h.1;omega,by have:=h.2;omega⟩
theorem qO (b:aG):(b8 b).length≤b.l.length:=List.length_filter_le _ _
section
variable {h0 h h':aa} {a:Nat} {b:aG} {vc:List Value} {ov:Value} {o:Option Nat}
theorem Jn {N:Nat} (OK:eh N b) (hN:N≤1048000) (hhas:b.has=true) (steps:Nat) (hst:2*b.fuel.toNat≤steps) (p:aV) (B:bz h0 h a b vc ov o):
  ao PP 109 [.pointer (some ⟨a,0,none⟩),fh p] h (fun r h'=>Ext h h'∧∃pv,r= .tuple #[pv,.int .i64 (gV steps b p).2]∧aK 3 ab h' pv (gV steps b p).1):=by
 refine aC mix (aD Tryz.func109) rfl rfl rfl acR ?_;simp only[ai,Tryz.f109];have hlen:=OK.len;have hll:=qO b;have hlive:=pK (by omega) B;obtain⟨FB,hFB⟩:∃F,F=gV steps b p:=⟨_,rfl⟩;rw[←hFB];rw[Jm]at hFB;simp -implicitDefEqProofs[fh,al];refine hlive.mono ?_;rintro r G1 ⟨E1,S1⟩;obtain⟨ad,cc,rfl⟩:=S1.shape;by_cases q:512≤(b8 b).length
 ·have q':(512:Int)≤(b8 b).length:=by omega
  rw[if_pos q]at hFB;subst hFB;simp -implicitDefEqProofs[af,q,q'];intro _;exact⟨E1,aK.nil⟩
 ·have q':¬(512:Int)≤(b8 b).length:=by omega
  rw[if_neg q]at hFB;have B1:=B.exts E1;have hpl:=AW (by omega) B1;have hw0:=fun v1 v2 G (H1:aK 29 al G v1 (aT b).1) (H2:aK 3 ab G v2 (aT b).2.1)=>amA (aT b).1 (aT b).2.1 p v1 v2 (by show((b8 b).map _).length≤_;rw[cN];omega) (by show((b8 b).map _).length≤_;rw[cN];omega) G H1.sl H2.sl;simp only[fh,al]at hw0;simp -implicitDefEqProofs[af,q,q'];intro _;refine hpl.mono ?_;rintro r G2 ⟨E2,v1,v2,v3,rfl,P1,P2,P3⟩;have hw:=hw0 v1 v2 G2 P1 P2;have B2:=B1.exts E2;obtain⟨x1,y1,e1⟩:=P1.shape;obtain⟨x2,y2,e2⟩:=P2.shape;obtain⟨x3,y3,e3⟩:=P3.shape;subst e1;subst e2;subst e3;simp -implicitDefEqProofs[af];intro _;refine hw.mono ?_;rintro r G3 ⟨E3,w1,w2,rfl,W1,W2⟩;have B3:=B2.exts E3;have P33:=P3.ext E3;obtain⟨hok1,hok2⟩:=AX OK;have hpf:∀x∈(aT b).2.1++[-1],-4611686018427387904≤x∧x≤4611686018427387904:=fun x hx=>by
   rcases ei.1 hx with z|z
   ·exact(hok1 x z).wide
   ·rw[eo]at z;subst z;decide
  have hP:kU G3 b.v ((aT b).1++[p]) (aT b).2.2 vc w1 (.slice x3 (aT b).2.2.length y3):=⟨OK.may hhas,by rw[bF];show((b8 b).map _).length+_≤_;rw[cN];simp;omega,by show(fr 0 (b8 b)).length≤_;have:=yd 0 (b8 b);omega,fun q hq=>(hok2 q hq).wide,B3.dF,W1,P33⟩;have hag:=Cl steps b.v ((aT b).1++[p]) (aT b).2.2 ((aT b).2.1++[-1]) b.fuel hst vc w1 (.slice x3 (aT b).2.2.length y3) w2 hpf (by rw[bF];show((b8 b).map _).length+_≤_;rw[cN];simp;omega) G3 hP W2.sl;obtain⟨R,hR⟩:∃R,R=gj steps b.v ((aT b).1++[p]) (aT b).2.2 ((aT b).2.1++[-1]) b.fuel:=⟨_,rfl⟩;have hRl:R.2=0→R.1.aY.length=((aT b).1++[p]).length:=fun z=>by
   rw[hR]at z ⊢;exact Cn (by rw[bF,bF];show((b8 b).map _).length+_=((b8 b).map _).length+_;rw[cN,cN];rfl) z
  rw[←hR]at hag hFB;obtain⟨L,hL⟩:∃L,L=(aT b).1++[p]:=⟨_,rfl⟩;have hLl:L.length≤1073741824:=by rw[hL];exact hP.ll
  rw[←hL]at W1 hRl hFB;obtain⟨O,hO⟩:∃O,O=(aT b).2.1++[-1]:=⟨_,rfl⟩;rw[←hO]at W2;obtain⟨x4,y4,e4⟩:=W1.shape;obtain⟨x5,y5,e5⟩:=W2.shape;subst e4;subst e5;have hrow3:=B3.row;obtain⟨a1,n1,c1,g,r,a2,n2,c2,a3,n3,c3,a4,n4,c4,rfl,rfl,rfl,hrow⟩:=B.cells;simp only[iy,dp,dA]at hrow3;simp -implicitDefEqProofs[af,hrow3];intro _;refine hag.mono ?_;rintro r G4 ⟨E4,pv,at_,nt,ct,rfl,S4⟩;obtain⟨x6,y6,e6⟩:=S4.shape;subst e6;have EE:Ext h G4:=((E1.trans E2).trans E3).trans E4;by_cases q2:R.2=0;rotate_left
  ·rw[if_pos q2]at hFB;subst hFB;simp -implicitDefEqProofs[aJ,pW,q2];intro _;exact⟨EE,aK.nil⟩
  ·rw[if_neg (by simpa using q2)]at hFB;have hfu:=zU L R.1.aY (.slice x4 L.length y4) (.slice x6 R.1.aY.length y6) (by rw[hRl q2];exact hLl) hLl G4 (W1.ext E4).sl S4.sl;simp -implicitDefEqProofs[aJ,pW,q2];intro _;refine hfu.mono ?_;rintro r h' ⟨e,rfl⟩;replace e:=e.symm;subst e;by_cases q3:jE L R.1.aY=true
   ·rw[if_pos q3]at hFB;subst hFB;simp -implicitDefEqProofs[af,q3];intro _;exact⟨EE,S4⟩
   ·rw[if_neg q3]at hFB;by_cases q4:R.1.answer=3
    ·rw[if_pos q4]at hFB;subst hFB;simp -implicitDefEqProofs[af,q3,q4];intro _;exact⟨EE,aK.nil⟩
    ·rw[if_neg q4]at hFB;subst hFB;simp -implicitDefEqProofs[af,q3,q4];intro _;exact⟨EE,aK.nil⟩
theorem Nh {p:List Int} {n:Nat} (h:p.length=n+1):p[n]? =some (p.getLastD 0):=by
 rw[List.getLastD_eq_getLast?,List.getLast?_eq_getElem?,h,rH];rw[av (by omega)];rfl
def ym (steps:Nat) (b:aG) (c:CmdR):jL:=if !ez c.aO then err 1 else if(gV steps b c.aO).2≠0 then err (gV steps b c.aO).2 else⟨0,0,(0,0),gX b ⟨0,0,c.aO,0,(gV steps b c.aO).1.getLastD 0⟩⟩
theorem ah1 {N:Nat} (OK:eh N b) (hN:N≤1048000) (hhas:b.has=true) (steps:Nat) (hst:2*b.fuel.toNat≤steps) (c:CmdR) (B:bz h0 h a b vc ov o):
  ao PP 69 [.pointer (some ⟨a,0,none⟩),cm c] h (fun r h'=>Ext h h'∧nq h' (ym steps b c) r):=by
 refine aC mix (aD Tryz.func69) rfl rfl rfl afK ?_;simp only[ai,Tryz.f69];have hm:=mS c.aO h;have hf:=Jn OK hN hhas steps hst c.aO B;simp only[fh,al]at hm hf;obtain⟨QB,hQB⟩:∃F,F=ym steps b c:=⟨_,rfl⟩;rw[←hQB];unfold ym at hQB;obtain⟨FB,hFB⟩:∃F,F=gV steps b c.aO:=⟨_,rfl⟩;have hfl:=fun z=>Jo (steps:=steps) (b:=b) (p:=c.aO) z;have hfF:=fun M z=>zR (n:=steps) (b:=b) (p:=c.aO) M z;rw[←hFB]at hf hQB hfl hfF;simp -implicitDefEqProofs[cm,cmdC];refine hm.mono ?_;rintro r h' ⟨e,rfl⟩;replace e:=e.symm;subst e;by_cases q:ez c.aO=true;rotate_left
 ·rw[if_pos (by simp[q])]at hQB;subst hQB;simp -implicitDefEqProofs[af,q];intro _;exact⟨Ext.bJ _,js _ 1⟩
 ·rw[if_neg (by simp[q])]at hQB;simp -implicitDefEqProofs[af,q];intro _;refine hf.mono ?_;rintro r G ⟨E,pv,rfl,S⟩;obtain⟨ad,cc,e⟩:=S.shape;subst e;by_cases q2:FB.2=0;rotate_left
  ·rw[if_pos q2]at hQB;subst hQB;simp -implicitDefEqProofs[af,q2];intro _;exact⟨E,js _ _⟩
  ·rw[if_neg (by simpa using q2)]at hQB;replace hfl:=hfl q2;replace hfF:=hfF (OK.may hhas) q2;obtain⟨n,hn⟩:∃n,n=(b8 b).length:=⟨_,rfl⟩;rw[←hn]at hfl;have hnl:n≤1048000:=(by rw[hn];have:=qO b;have:=OK.len;omega);have hlast:=Nh hfl;have hx:=(zV hfF).wide;obtain⟨pl,hpl⟩:∃pl,pl=FB.1:=⟨_,rfl⟩;rw[←hpl]at hfl hlast hx S hQB ⊢;obtain⟨la,hla⟩:∃la,la=pl.getLastD 0:=⟨_,rfl⟩;rw[←hla]at hlast hx hQB;subst hQB;obtain⟨_,b1,o1,cs1,r1,rfl,bI,hd1,hl1,_⟩:=S.at 1 V.dV hlast;rw[Nat.mul_one]at hd1 hl1;rw[hfl]at S ⊢;have w1:IntKind.wrap .i64 (((n:Int)+1)-1)=(n:Int):=(by rw[bK (by omega)];omega);have w2:IntKind.wrap .i64 (n:Int)=(n:Int):=bK (by omega);have hlt:(n:Int)<(n:Int)+1:=(by omega);have hse:=wQ (B.exts E) (OK.may hhas) ⟨0,0,c.aO,0,la⟩ hx;simp only[jr,aM]at hse;simp -implicitDefEqProofs[af,aJ,q2,w1,w2,hlt,bI,hd1,hl1,ab];intro _;refine hse.mono ?_;rintro r G2 ⟨E2,S2⟩;obtain⟨ad2,cc2,rfl⟩:=S2.shape;simp -implicitDefEqProofs[aJ,af];intro _;exact⟨E.trans E2,_,rfl,S2⟩
end
theorem V4 {h:aa} {a:Nat} {o:Option Nat} (c c':aZ):cP (a::o.toList) h (cg (h.new c) o c'):=by
 refine⟨zk _ _ _,by rw[df,ef];omega,fun i hi q=>?_⟩;rw[qz _ _ _ (by rw[ef];omega) (fun e=>q (by simp[e])),qF,if_neg (by omega)]
theorem Cz {h0 h:aa} {a:Nat} {b:aG} {vc:List Value} {ov:Value} {o:Option Nat} (B:bz h0 h a b vc ov o) (x:aH):
  (cg (h.new (.row true 43 (aM x))) o (.row true 43 (b.l.flatMap aM++aM x))).f a= .row true 77 (iy b vc ov)∧
  bz h0 ((cg (h.new (.row true 43 (aM x))) o (.row true 43 (b.l.flatMap aM++aM x))).set a (.row true 77 (iy {b with l:=b.l++[x]} vc (.slice (some ⟨h.n+1,0,none⟩) (b.l.length+1) (b.l.length+1))))) a {b with l:=b.l++[x]} vc (.slice (some ⟨h.n+1,0,none⟩) (b.l.length+1) (b.l.length+1)) (some (h.n+1))∧
  cP (a::o.toList) h ((cg (h.new (.row true 43 (aM x))) o (.row true 43 (b.l.flatMap aM++aM x))).set a (.row true 77 (iy {b with l:=b.l++[x]} vc (.slice (some ⟨h.n+1,0,none⟩) (b.l.length+1) (b.l.length+1))))):=by
 obtain⟨F,hF⟩:∃F,F=cg (h.new (.row true 43 (aM x))) o (.row true 43 (b.l.flatMap aM++aM x)):=⟨_,rfl⟩;have hoa:o≠some a:=fun e=>by
  obtain⟨cs,q⟩:=B.dL.row a e;rw[B.row]at q;simp only[aZ.row.injEq]at q;exact absurd q.2.1 (by decide)
 have hFa:F.f a= .row true 77 (iy b vc ov):=by
  rw[hF,qz _ _ _ (by rw[ef];have:=B.a1;omega) hoa,qF,if_neg (by have:=B.a1;omega)];exact B.row
 have hFn:F.n=h.n+2:=by rw[hF,df,ef]
 have EF:Ext h0 F:=by
  rw[hF];exact Ext.app (B.ext.bN _) (fun i hi=>⟨(B.dL.lt i hi).1,by rw[ef];have:=(B.dL.lt i hi).2;omega⟩) _
 have KF:Kp h F:=by
  rw[hF];refine((Kp.refl h).new _).app (fun i hi e' cs q=>?_) _;have hlt:=(B.dL.lt i hi).2;rw[qF,if_neg (by omega)]at q;obtain⟨cs',q'⟩:=B.dL.row i hi;rw[q']at q;cases q
 have W:eM 43 aM h0 F (some (h.n+1)) (b.l++[x]) (.slice (some ⟨h.n+1,0,none⟩) (b.l.length+1) (b.l.length+1)):=by
  rw[hF];exact B.dL.one B.ext.n _ x rfl
 have C:cP (a::o.toList) h F:=by rw[hF];exact V4 _ _
 rw[←hF];refine⟨hFa,rO (b:={b with l:=b.l++[x]}) hFa B.a0 (by have:=B.a1;omega) EF (B.dF.kp KF) W rfl,C.trans (jl F a _) (fun i hi _=>?_)⟩;rw[eo]at hi;subst hi;exact dH
theorem YL (steps:Nat) (b:aG) (c:CmdR) (h1:ez c.aO=true) (h2:¬c.a<1) (h3:¬1000000<c.a) (h4:¬1099511627776<b.now+c.a):jY steps b c=
  if(gV steps b c.aO).2≠0 then(b,err (gV steps b c.aO).2)else
   (sX {b with l:=b.l++[⟨(b.l.length:Int)+1,1,c.aO,b.now+c.a,(gV steps b c.aO).1.getLastD 0⟩]} (gV steps b c.aO).1,
    ⟨0,(b.l.length:Int)+1,(0,0),gX (sX {b with l:=b.l++[⟨(b.l.length:Int)+1,1,c.aO,b.now+c.a,(gV steps b c.aO).1.getLastD 0⟩]} (gV steps b c.aO).1) ⟨(b.l.length:Int)+1,1,c.aO,b.now+c.a,(gV steps b c.aO).1.getLastD 0⟩⟩):=by
 unfold jY;rw[if_neg (by simp[h1,h2,h3,h4])]
theorem xo (steps:Nat) (b:aG) (c:CmdR) (h:(!ez c.aO || decide (c.a<1) || decide (1000000<c.a) || decide (1099511627776<b.now+c.a))=true):jY steps b c=(b,err 1):=by
 unfold jY;rw[if_pos h]
theorem YM {h0 h:aa} {a:Nat} {b:aG} {vc:List Value} {ov:Value} {o:Option Nat} {N:Nat} (OK:eh N b) (hN:N≤1048000) (hhas:b.has=true) (steps:Nat) (hst:2*b.fuel.toNat≤steps) (c:CmdR) (B:bz h0 h a b vc ov o):
  ao PP 68 [.pointer (some ⟨a,0,none⟩),cm c] h (fun r h'=>cI h0 h h' a o (jY steps b c).1∧nq h' (jY steps b c).2 r):=by
 refine aC mix (aD Tryz.func68) rfl rfl rfl afJ ?_;simp only[ai,Tryz.f68];have hm:=mS c.aO h;have hf:=Jn OK hN hhas steps hst c.aO B;simp only[fh,al]at hm hf;have hrow:=B.row;have hbc:=hrow;obtain⟨a1,n1,c1,g,r,a2,n2,c2,a3,n3,c3,a4,n4,c4,hvc,hov,hn4,hrow'⟩:=B.cells;obtain⟨HB,hHB⟩:∃F,F=jY steps b c:=⟨_,rfl⟩;rw[←hHB];simp -implicitDefEqProofs[cm,cmdC];refine hm.mono ?_;rintro r h' ⟨e,rfl⟩;replace e:=e.symm;subst e;by_cases q1:ez c.aO=true;rotate_left
 ·rw[xo steps b c (by simp[q1])]at hHB;subst hHB;simp -implicitDefEqProofs[aJ,q1];intro _;exact⟨cI.fD B (Ext.bJ _),js _ 1⟩
 by_cases q2:c.a<1
 ·rw[xo steps b c (by simp[q2])]at hHB;subst hHB;simp -implicitDefEqProofs[aJ,q1,q2];intro _;exact⟨cI.fD B (Ext.bJ _),js _ 1⟩
 by_cases q3:1000000<c.a
 ·rw[xo steps b c (by simp[q3])]at hHB;subst hHB;simp -implicitDefEqProofs[aJ,q1,q2,q3];intro _;exact⟨cI.fD B (Ext.bJ _),js _ 1⟩
 have w0:IntKind.wrap .i64 (b.now+c.a)=b.now+c.a:=bK (by have:=OK.n0;have:=OK.n1;omega);by_cases q4:1099511627776<b.now+c.a
 ·rw[xo steps b c (by simp[q4])]at hHB;subst hHB;simp -implicitDefEqProofs[aJ,q1,q2,q3,hrow',w0,q4];intro _;exact⟨cI.fD B (Ext.bJ _),js _ 1⟩
 rw[YL steps b c q1 q2 q3 q4]at hHB;obtain⟨FB,hFB⟩:∃F,F=gV steps b c.aO:=⟨_,rfl⟩;have hfl:=fun z=>Jo (steps:=steps) (b:=b) (p:=c.aO) z;have hfF:=fun M z=>zR (n:=steps) (b:=b) (p:=c.aO) M z;rw[←hFB]at hf hHB hfl hfF;simp -implicitDefEqProofs[aJ,q1,q2,q3,hrow',w0,q4];intro _;refine hf.mono ?_;rintro r G ⟨E,pv,rfl,S⟩;obtain⟨ad,cc,e⟩:=S.shape;subst e;by_cases q5:FB.2=0;rotate_left
 ·rw[if_pos q5]at hHB;subst hHB;simp -implicitDefEqProofs[af,q5];intro _;exact⟨cI.fD B E,js _ _⟩
 rw[if_neg (by simpa using q5)]at hHB;replace hfl:=hfl q5;replace hfF:=hfF (OK.may hhas) q5;obtain⟨n,hn⟩:∃n,n=(b8 b).length:=⟨_,rfl⟩;rw[←hn]at hfl;have hlen:=OK.len;have hnl:n≤1048000:=by rw[hn];have:=qO b;omega
 have hlast:=Nh hfl;have hx:=(zV hfF).wide;obtain⟨pl,hpl⟩:∃pl,pl=FB.1:=⟨_,rfl⟩;rw[←hpl]at hfl hlast hx S hHB ⊢;obtain⟨la,hla⟩:∃la,la=pl.getLastD 0:=⟨_,rfl⟩;rw[←hla]at hlast hx hHB;have S0:=S;obtain⟨_,b1,o1,cs1,r1,rfl,bI,hd1,hl1,_⟩:=S.at 1 V.dV hlast;rw[Nat.mul_one]at hd1 hl1;rw[hfl]at S ⊢;have w1:IntKind.wrap .i64 (((n:Int)+1)-1)=(n:Int):=by rw[bK (by omega)];omega
 have w2:IntKind.wrap .i64 (n:Int)=(n:Int):=bK (by omega);have hlt:(n:Int)<(n:Int)+1:=by omega
 have w3:IntKind.wrap .i64 ((b.l.length:Int)+1)=(b.l.length:Int)+1:=bK (by omega);have BG:=B.exts E;obtain⟨x,hX⟩:∃x:aH,x=⟨(b.l.length:Int)+1,1,c.aO,b.now+c.a,la⟩:=⟨_,rfl⟩;rw[←hX]at hHB;have hxc:aM x=[Value.int .i64 ((b.l.length:Int)+1),.int .i64 1,.int .i64 c.aO.size,.int .i64 c.aO.du,.int .i64 (b.now+c.a),.int .i64 la]:=by rw[hX];rfl
 have hA:=uU I5 BG.dL x (by have:=OK.len;omega);obtain⟨p1,BX,CX⟩:=Cz BG x;have hrowG:=BG.row;subst hvc;subst hov;subst hn4;rw[hxc]at hA p1 BX CX;simp only[iy,dp,dA]at hrowG p1 BX CX;have KX:Kp G _:=CX.kp BG.iH;have hlive:(b8 {b with l:=b.l++[x]}).length=n+1:=by
  show((b.l++[x]).filter bS).length=_;rw[nr,bF,hn];have:bS x=true:=by rw[hX];rfl
  simp[this,b8]
 have hsit:=Px BX (by show(b.l++[x]).length≤_;rw[bF,ji];omega) pl _ (S.kp KX) (by rw[hlive,hfl];exact a8 _);have hr1:List.range 6=[0,1,2,3,4,5]:=rfl;have hneG:¬a=G.n:=by have:=BG.a1;omega
 simp -implicitDefEqProofs[af,q5,w0,w1,w2,hlt,w3,bI,hd1,hl1,ab,hrowG,aP,hr1,hA,p1,hneG];intro _;refine hsit.mono ?_;rintro rr G2 ⟨B2,C2⟩;have hse:=wQ B2 (OK.may hhas) x (by rw[hX];exact hx);simp only[jr]at hse;rw[hxc]at hse;simp -implicitDefEqProofs[af];intro _;refine hse.mono ?_;rintro rr G3 ⟨E3,S3⟩;obtain⟨ad3,cc3,rfl⟩:=S3.shape;simp -implicitDefEqProofs[aJ,af];intro _;subst hHB;exact⟨(cI.pre E (cI.trans CX (fun i hi=>.inr (by simp only[aw]at hi;omega)) (cI.oM B2 C2))).post E3,_,rfl,S3⟩
section
variable {h0 h h':aa} {a:Nat} {b:aG} {vc:List Value} {ov:Value} {o:Option Nat}
theorem bz.tF {bo:Nat} (B:bz h0 h a b vc ov (some bo)) (L:List aH) (hl:L.length=b.l.length) (r:List Value):
  cI h0 h (h.set bo (.row true 43 (L.flatMap aM++r))) a (some bo) {b with l:=L}:=by
 refine cI.oM (B.uD hl r).1 ((jl h bo _).mono fun x hx _=>?_);rw[eo]at hx;subst hx;simp
theorem Ww (hl:b.l.length≤1048576) (M:aN b.v=true) (hF:∀o∈b.l,ja o.first) (id:Int) (B:bz h0 h a b vc ov o):
  ao PP 70 [.pointer (some ⟨a,0,none⟩),.int .i64 id] h (fun r h'=>cI h0 h h' a o (lW b id).1∧nq h' (lW b id).2 r):=by
 refine aC mix (aD Tryz.func70) rfl rfl rfl afL ?_;simp only[ai,Tryz.f70];have hord:=CC B (by omega) id;obtain⟨CB,hCB⟩:∃F,F=lW b id:=⟨_,rfl⟩;rw[←hCB];unfold lW at hCB;simp -implicitDefEqProofs;refine hord.mono ?_;rintro r h' ⟨rfl,hr⟩;by_cases q:id<1∨(b.l.length:Int)<id
 ·rw[if_pos q]at hr hCB;subst hCB;subst hr;simp -implicitDefEqProofs[af];intro _;exact⟨cI.fD B (Ext.bJ _),js _ 4⟩
 ·rw[if_neg q]at hr hCB;obtain⟨bo,rfl,rfl⟩:=hr;obtain⟨k,hk⟩:∃k,k=id.toNat-1:=⟨_,rfl⟩;rw[←hk]at hCB;try rw[←hk]
  have hkl:k<b.l.length:=by omega
  have hti:=tM hkl;obtain⟨t,ht⟩:∃t,t=b.l.getD k default:=⟨_,rfl⟩;rw[←ht]at hti;simp only[←ht]at hCB;obtain⟨⟨c',r',e,qq⟩,nn0,nn1⟩:=B.dL;obtain⟨P,Q,hP,e1,e2⟩:=sM hti r';have B':=B;rw[e1]at qq;have hL:∀X:List Value,(P++X).length=k*6+X.length:=fun X=>by rw[bF,hP]
  have t1:∀X:List Value,(P++X).take (k*6+1)=P++X.take 1:=fun X=>s5 hP;have t4:∀X:List Value,(P++X).take (k*6+4)=P++X.take 4:=fun X=>s5 hP;have d1:∀X:List Value,(P++X).drop (k*6+1)=X.drop 1:=fun X=>mD (i:=1) hP;have d2:∀X:List Value,(P++X).drop (k*6+1+1)=X.drop 2:=fun X=>mD (i:=2) hP;have d5:∀X:List Value,(P++X).drop (k*6+4+1)=X.drop 5:=fun X=>mD (i:=5) hP;have d0:∀X:List Value,(P++X).drop (k*6)=X:=fun X=>mD (i:=0) hP;have z1:k*6+1+1≤k*6+(Q.length+1+1+1+1+1+1):=by omega
  have z2:k*6+4+1≤k*6+(Q.length+1+1+1+1+1+1):=by omega
  have z3:k*6+6≤k*6+(Q.length+1+1+1+1+1+1):=by omega
  simp only[aM,dp,dA]at qq;by_cases q2:t.state=1;rotate_left
  ·rw[if_pos q2]at hCB;subst hCB;simp -implicitDefEqProofs[af,qq,hL,z1,z2,z3,d1,q2];intro _;exact⟨cI.fD B (Ext.bJ _),js _ 5⟩
  ·rw[if_neg (by simpa using q2)]at hCB;obtain⟨t2,ht2⟩:∃t2:aH,t2={t with state:=2,fZ:=0}:=⟨_,rfl⟩;have hQ:=B.tF (b.l.set k t2) (by rw[lj]) r';have BS:=(B.uD (L:=b.l.set k t2) (by rw[lj]) r').1;rw[e2 t2]at hQ BS;have hfi:ja t2.first:=(by rw[ht2];exact hF t (dY hti));have hse:=wQ BS M t2 hfi.wide;have hc2:aM t2=[.int .i64 t.id,.int .i64 2,.int .i64 t.aO.size,.int .i64 t.aO.du,.int .i64 0,.int .i64 t.first]:=(by rw[ht2];rfl);simp only[jr]at hse;rw[hc2]at hse hQ;simp only[dp,dA]at hse hQ;rw[←ht2]at hCB;subst hCB;simp -implicitDefEqProofs[af,qq,hL,z1,z2,z3,d0,d1,d2,d5,t1,t4,q2];intro _;rw[mN];refine hse.mono ?_;rintro r G2 ⟨E2,S2⟩;obtain⟨ad2,cc2,rfl⟩:=S2.shape;simp -implicitDefEqProofs[af];intro _;exact⟨hQ.post E2,_,rfl,S2⟩
theorem VU (hl:b.l.length≤1048576) (id:Int) (B:bz h0 h a b vc ov o):
  ao PP 71 [.pointer (some ⟨a,0,none⟩),.int .i64 id] h (fun r h'=>cI h0 h h' a o (lV b id).1∧nq h' (lV b id).2 r):=by
 refine aC mix (aD Tryz.func71) rfl rfl rfl afM ?_;simp only[ai,Tryz.f71];have hord:=CC B (by omega) id;obtain⟨CB,hCB⟩:∃F,F=lV b id:=⟨_,rfl⟩;rw[←hCB];unfold lV at hCB;simp -implicitDefEqProofs;refine hord.mono ?_;rintro r h' ⟨rfl,hr⟩;by_cases q:id<1∨(b.l.length:Int)<id
 ·rw[if_pos q]at hr hCB;subst hCB;subst hr;simp -implicitDefEqProofs[af];intro _;exact⟨cI.fD B (Ext.bJ _),js _ 4⟩
 ·rw[if_neg q]at hr hCB;obtain⟨bo,rfl,rfl⟩:=hr;obtain⟨k,hk⟩:∃k,k=id.toNat-1:=⟨_,rfl⟩;rw[←hk]at hCB;try rw[←hk]
  have hkl:k<b.l.length:=by omega
  have hti:=tM hkl;obtain⟨t,ht⟩:∃t,t=b.l.getD k default:=⟨_,rfl⟩;rw[←ht]at hti;simp only[←ht]at hCB;obtain⟨⟨c',r',e,qq⟩,nn0,nn1⟩:=B.dL;have hend:=I7 h' bo k hti r' qq;obtain⟨P,Q,hP,e1,e2⟩:=sM hti r';rw[e1]at qq;have hL:∀X:List Value,(P++X).length=k*6+X.length:=fun X=>by rw[bF,hP]
  have d1:∀X:List Value,(P++X).drop (k*6+1)=X.drop 1:=fun X=>mD (i:=1) hP;have z1:k*6+1+1≤k*6+(Q.length+1+1+1+1+1+1):=by omega
  simp only[aM,dp,dA]at qq;by_cases q2:t.state=3
  ·rw[if_pos q2]at hCB;subst hCB;simp -implicitDefEqProofs[af,qq,hL,z1,d1,q2];intro _;exact⟨cI.fD B (Ext.bJ _),js _ 5⟩
  ·rw[if_neg q2]at hCB;subst hCB;have hQ:=B.tF (b.l.set k (kX t)) (by rw[lj]) r';simp -implicitDefEqProofs[af,qq,hL,z1,d1,q2];intro _;refine hend.mono ?_;rintro r G2 rfl;simp -implicitDefEqProofs[af];intro _;exact⟨hQ,js _ 0⟩
end
theorem aid (steps:Nat) (b:aG):mi steps b=
  if(gj steps b.v (aT b).1 (aT b).2.2 (aT b).2.1 b.fuel).2≠0 then(b,err (gj steps b.v (aT b).1 (aT b).2.2 (aT b).2.1 b.fuel).2)
  else if(gj steps b.v (aT b).1 (aT b).2.2 (aT b).2.1 b.fuel).1.answer=3 then(b,err 7)
  else(sX b (gj steps b.v (aT b).1 (aT b).2.2 (aT b).2.1 b.fuel).1.aY,⟨0,(mT (aT b).2.1 (gj steps b.v (aT b).1 (aT b).2.2 (aT b).2.1 b.fuel).1.aY (min (aT b).2.1.length (gj steps b.v (aT b).1 (aT b).2.2 (aT b).2.1 b.fuel).1.aY.length)).length,(0,0),[]⟩):=by
 unfold mT;rw[cN];rfl
section
variable {h0 h h':aa} {a:Nat} {b:aG} {vc:List Value} {ov:Value} {o:Option Nat}
theorem aie {N:Nat} (OK:eh N b) (hN:N≤1048000) (hhas:b.has=true) (steps:Nat) (hst:2*b.fuel.toNat≤steps) (B:bz h0 h a b vc ov o):
  ao PP 72 [.pointer (some ⟨a,0,none⟩)] h (fun r h'=>cI h0 h h' a o (mi steps b).1∧nq h' (mi steps b).2 r):=by
 refine aC mix (aD Tryz.func72) rfl rfl rfl afN ?_;simp only[ai,Tryz.f72];have hlen:=OK.len;have hll:=qO b;have hpl:=AW (by omega) B;obtain⟨RB,hRB⟩:∃F,F=mi steps b:=⟨_,rfl⟩;rw[←hRB];rw[aid]at hRB;simp -implicitDefEqProofs;refine hpl.mono ?_;rintro r G2 ⟨E2,v1,v2,v3,rfl,P1,P2,P3⟩;have B2:=B.exts E2;have l1:(aT b).1.length=(b8 b).length:=cN ..;have l2:(aT b).2.1.length=(b8 b).length:=cN ..;obtain⟨hok1,hok2⟩:=AX OK;have hP:kU G2 b.v (aT b).1 (aT b).2.2 vc v1 v3:=⟨OK.may hhas,by omega,by show(fr 0 (b8 b)).length≤_;have:=yd 0 (b8 b);omega,fun q hq=>(hok2 q hq).wide,B2.dF,P1,P3⟩;have hag:=Cl steps b.v (aT b).1 (aT b).2.2 (aT b).2.1 b.fuel hst vc v1 v3 v2 (fun x hx=>(hok1 x hx).wide) (by omega) G2 hP P2.sl;obtain⟨R,hR⟩:∃R,R=gj steps b.v (aT b).1 (aT b).2.2 (aT b).2.1 b.fuel:=⟨_,rfl⟩;have hRl:R.2=0→R.1.aY.length=(b8 b).length:=fun z=>by
  rw[hR]at z ⊢;rw[Cn (by omega) z];exact l1
 rw[←hR]at hag hRB;have hrow2:=B2.row;obtain⟨a1,n1,c1,g,r,a2,n2,c2,a3,n3,c3,a4,n4,c4,rfl,rfl,rfl,hrow⟩:=B.cells;simp only[iy,dp,dA]at hrow2;obtain⟨x1,y1,e1⟩:=P1.shape;obtain⟨x2,y2,e2⟩:=P2.shape;obtain⟨x3,y3,e3⟩:=P3.shape;subst e1;subst e2;subst e3;simp -implicitDefEqProofs[af,hrow2];intro _;refine hag.mono ?_;rintro r G4 ⟨E4,pv,at_,nt,ct,rfl,S4⟩;obtain⟨x6,y6,e6⟩:=S4.shape;subst e6;have EE:Ext h G4:=E2.trans E4;have B4:=B2.exts E4;by_cases q2:R.2=0;rotate_left
 ·rw[if_pos q2]at hRB;subst hRB;simp -implicitDefEqProofs[aJ,pW,q2];intro _;exact⟨cI.fD B EE,js _ _⟩
 rw[if_neg (by simpa using q2)]at hRB;by_cases q4:R.1.answer=3
 ·rw[if_pos q4]at hRB;subst hRB;simp -implicitDefEqProofs[aJ,pW,q2,q4];intro _;exact⟨cI.fD B EE,js _ 7⟩
 rw[if_neg q4]at hRB;subst hRB;have hRl':=hRl q2;have hsit:=Px B4 (by omega) R.1.aY _ S4 (by omega);simp -implicitDefEqProofs[aJ,pW,q2,q4];intro _;refine hsit.mono ?_;rintro r G5 ⟨B5,C5⟩;have K5:=C5.kp B4.iH;have hmo:=aaQ (aT b).2.1 R.1.aY _ _ (by omega) (by omega) G5 ((P2.ext E4).kp K5).sl (S4.kp K5).sl;simp -implicitDefEqProofs[af];intro _;refine hmo.mono ?_;rintro r G6 ⟨E6,S6⟩;obtain⟨x7,y7,e7⟩:=S6.shape;subst e7;simp -implicitDefEqProofs[af];intro _;exact⟨(cI.pre EE (cI.oM B5 C5)).post E6,_,rfl,aK.nil⟩
end
def ju (v:Int) (out ks:List Int):List Int:=ks.foldl (fun out k=>out.set k.toNat v) out
theorem vV (v:Int):∀(ks out:List Int),(ju v out ks).length=out.length:=by
 intro ks;induction ks with
 |nil=>intro out;rfl
 |cons k r ih=>intro out;show(ju v (out.set k.toNat v) r).length=_;rw[ih,lj]
theorem Pq (v:Int) (out ks:List Int) (j:Nat) {t:Int} (h:ks[j]? =some t):ju v out (ks.take (j+1))=(ju v out (ks.take j)).set t.toNat v:=by
 unfold ju;rw[fI,h,Option.toList_some,List.foldl_append];rfl
theorem ai1 (v:Int):∀(ks out:List Int) (j:Nat),(∀k∈ks,0≤k)→j<out.length→(ju v out ks).getD j 0=if(j:Int)∈ks then v else out.getD j 0:=by
 intro ks;induction ks with
 |nil=>intro out j _ _;rfl
 |cons k r ih=>
  intro out j hk hj;have hk0:=hk k dH;show(ju v (out.set k.toNat v) r).getD j 0=_;rw[ih _ _ (fun x hx=>hk x (ep _ hx)) (by rw[lj];exact hj)];by_cases q:(j:Int)∈r
  ·rw[if_pos q,if_pos (ep _ q)]
  ·rw[if_neg q];by_cases q2:(j:Int)=k
   ·rw[if_pos (by rw[q2];exact dH)];have e:k.toNat=j:=(by omega);rw[bB,e,List.getElem?_set_self hj];rfl
   ·rw[if_neg (fun z=>by rcases cE.1 z with z|z;exact q2 z;exact q z)];rw[bB,bB,List.getElem?_set_ne (by omega)]
theorem Nd (v:aj):∀k∈ik v,0≤k:=by
 intro k hk;unfold ik at hk;obtain⟨n,_,rfl⟩:=dI.1 hk;omega
theorem Zn {v:aj} (M:aN v=true):∀k∈ik v,k<v.ag.length:=by
 intro k hk;unfold ik at hk;obtain⟨n,hn,rfl⟩:=dI.1 hk;have:=dv.1 (ig.1 hn).1;rw[yI M]at this;omega
def kI (b:aG) (i:Nat):List Int:=((b8 b).take i).foldl (fun out o=>ju o.id out (gX b o)) (ju (-1) (List.replicate b.v.ag.length 0) (ik b.v))
theorem VY (b:aG) (i:Nat) {t:aH} (h:(b8 b)[i]? =some t):kI b (i+1)=ju t.id (kI b i) (gX b t):=by
 unfold kI;rw[fI,h,Option.toList_some,List.foldl_append];rfl
theorem Ye (f:aH→Int) (g:aH→List Int):∀(l:List aH) (out:List Int),(l.foldl (fun out o=>ju (f o) out (g o)) out).length=out.length:=by
 intro l;induction l with
 |nil=>intro out;rfl
 |cons o r ih=>intro out;rw[List.foldl_cons,ih,vV]
theorem GH (b:aG) (i:Nat):(kI b i).length=b.v.ag.length:=by
 unfold kI;rw[Ye (fun o=>o.id) (fun o=>gX b o),vV,List.length_replicate]
theorem VX (b:aG):tE b=⟨0,0,(0,0),kI b (b8 b).length⟩:=by
 unfold tE kI;rw[kH];have e:(List.range b.v.ag.length).map (fun k:Nat=>if(ik b.v).contains (k:Int)then(-1:Int)else 0)=ju (-1) (List.replicate b.v.ag.length 0) (ik b.v):=by
  refine List.ext_getElem (by rw[vV];simp) (fun j h1 h2=>?_);rw[cN,qy]at h1;have:=ai1 (-1) (ik b.v) (List.replicate b.v.ag.length 0) j (Nd b.v) (by simpa using h1);rw[bB,av h2,iJ]at this;rw[this,List.getElem_map,List.getElem_range];have e2:(List.replicate b.v.ag.length (0:Int)).getD j 0=0:=by
   rw[bB];cases q:(List.replicate b.v.ag.length (0:Int))[j]? with
   |none=>rfl
   |some x=>exact(List.mem_replicate.1 (dY q)).2
  rw[e2];by_cases q:(j:Int)∈ik b.v
  ·rw[if_pos q,if_pos (by simpa using q)]
  ·rw[if_neg q,if_neg (by simpa using q)]
 simp only[e];rfl
theorem aiX {b:aG} {o:aH}:∀x∈gX b o,0≤x∧x<b.v.ag.length:=by
 intro x hx;unfold gX at hx;split at hx
 ·unfold cS at hx;split at hx
  ·cases ht:oY b.v (cd b.v) o.first o.aO.size with
   |none=>rw[ht]at hx;cases hx
   |some l=>
    rw[ht]at hx;simp only at hx;split at hx
    ·simp only[iJ]at hx;obtain⟨e,t1,t2,t3⟩:=yE ht;rw[e]at hx;have:=OP hx;omega
    ·cases hx
  ·cases hx
 ·cases hx
theorem aiY {b:aG} {o:aH}:(gX b o).length≤b.v.ag.length:=by
 unfold gX;split
 ·unfold cS;split
  ·cases ht:oY b.v (cd b.v) o.first o.aO.size with
   |none=>simp
   |some l=>
    simp only;split
    ·simp only[iJ];obtain⟨e,t1,t2,t3⟩:=yE ht;rw[e,uh];omega
    ·simp
  ·simp
 ·simp
def wq:List Value:=[.int .i64 0,.int .i64 0,.int .i64 0,.int .i64 0,.slice none 0 0]
def Sy (h:aa) (a b1:Nat) (kv:Value) (ks:List Int) (n m k:Nat) (σ:St):Prop:=∃i:Nat,k=m-i∧i≤m∧Ext h σ.m.h∧σ.m.h.f b1= .row true 3 ((ju (-1) (List.replicate n 0) (ks.take i)).map (Value.int .i64))∧b1<σ.m.h.n∧aK 3 ab σ.m.h kv ks∧
 σ.t.get 0=some (.pointer (some ⟨a,0,none⟩))∧σ.t.get 2=some (.pointer (some ⟨2,0,some 0⟩))∧σ.t.get 3=some (.slice (some ⟨b1,0,none⟩) n n)∧σ.t.get 21=some kv∧σ.t.get 22=some (.int .i64 (m:Nat))∧σ.t.get 23=some (.int .i64 (i:Nat))∧σ.m.x.look 2=some (38,wq)
def Sz (h:aa) (a b1:Nat) (b:aG) (lv:Value) (n m k:Nat) (σ:St):Prop:=∃i:Nat,k=m-i∧i≤m∧Ext h σ.m.h∧σ.m.h.f b1= .row true 3 ((kI b i).map (Value.int .i64))∧b1<σ.m.h.n∧aK 43 aM σ.m.h lv (b8 b)∧
 σ.t.get 0=some (.pointer (some ⟨a,0,none⟩))∧σ.t.get 2=some (.pointer (some ⟨2,0,some 0⟩))∧σ.t.get 3=some (.slice (some ⟨b1,0,none⟩) n n)∧σ.t.get 32=some lv∧σ.t.get 33=some (.int .i64 (m:Nat))∧σ.t.get 34=some (.int .i64 (i:Nat))∧σ.m.x.look 2=some (38,wq)
def SA (h:aa) (a b1:Nat) (b:aG) (lv sv:Value) (t:aH) (i n m p k:Nat) (σ:St):Prop:=∃j:Nat,k=p-j∧j≤p∧Ext h σ.m.h∧σ.m.h.f b1= .row true 3 ((ju t.id (kI b i) ((gX b t).take j)).map (Value.int .i64))∧b1<σ.m.h.n∧aK 43 aM σ.m.h lv (b8 b)∧aK 3 ab σ.m.h sv (gX b t)∧
 σ.t.get 0=some (.pointer (some ⟨a,0,none⟩))∧σ.t.get 2=some (.pointer (some ⟨2,0,some 0⟩))∧σ.t.get 3=some (.slice (some ⟨b1,0,none⟩) n n)∧σ.t.get 7=some (.pointer (some ⟨7,0,some 0⟩))∧σ.t.get 32=some lv∧σ.t.get 33=some (.int .i64 (m:Nat))∧σ.t.get 34=some (.int .i64 (i:Nat))∧σ.t.get 40=some sv∧σ.t.get 41=some (.int .i64 (p:Nat))∧σ.t.get 42=some (.int .i64 (j:Nat))∧σ.m.x.look 2=some (38,wq)∧σ.m.x.look 7=some (43,aM t)
theorem VZ {h0 h:aa} {a:Nat} {b:aG} {vc:List Value} {ov:Value} {o:Option Nat} {N:Nat} (OK:eh N b) (hN:N≤1048000) (hhas:b.has=true) (B:bz h0 h a b vc ov o):
  ao PP 73 [.pointer (some ⟨a,0,none⟩)] h (fun r h'=>Ext h h'∧nq h' (tE b) r):=by
 refine ao.jT (post:=fun r h'=>Ext h h'∧∃sv,r= .agg ⟨um (tE b) sv⟩∧cL 3 ab h h' sv (tE b).ag) ?_ (fun v h' ⟨E,sv,e,W⟩=>by
  obtain⟨h'',w,E',S⟩:=W.dB E;exact⟨h'',w,E',sv,e,S⟩)
 refine aC mix (aD Tryz.func73) rfl rfl rfl afO ?_;simp only[ai,Tryz.f73];have M:=OK.may hhas;have hvl:=(k8 M).len;have hlen:=OK.len;have hll:=qO b;rw[VX];obtain⟨n,hn⟩:∃n,n=b.v.ag.length:=⟨_,rfl⟩;have hv:=B.dF;have hk:=fun G (E:Ext h G)=>Zo b.v M vc G (B.dF.ext E);have hlive:=fun G (E:Ext h G)=>pK (by omega) (B.exts E);have hse:=fun G (E:Ext h G) (t:aH) (ht:ja t.first)=>wQ (B.exts E) M t ht.wide;have hrow:=B.row;obtain⟨s,ke,p,rfl,z1,z2,z3⟩:=hv;obtain⟨b1,d1,rfl⟩:=z1.shape;obtain⟨b2,d2,rfl⟩:=z2.shape;obtain⟨b3,d3,rfl⟩:=z3.shape;obtain⟨b4,d4,hov⟩:=B.dL.shape;subst hov;simp only[iy,dp,dA]at hrow;have hz:=yM (.int .i64 0) n;have hmx:n*8≤140737488355328:=by omega
 have h00:¬(n:Int)<0:=by omega
 have hne:¬a=h.n:=by have:=B.a1;omega
 have hu0:List.replicate n (Value.int .i64 0)=(ju (-1) (List.replicate n 0) ((ik b.v).take 0)).map (Value.int .i64):=by simp[ju]
 rw[←hn]at hrow hk;simp -implicitDefEqProofs[hrow,oQ,dC,hz,hmx,h00,hne];rw[hu0];refine(hk _ (Ext.new h _)).mono ?_;rintro r G ⟨E,S⟩;have hGf:=E.f h.n (by simp);obtain⟨ad,cc,rfl⟩:=S.shape;have hkl:(ik b.v).length≤n:=by
  unfold ik;rw[cN];have:=List.length_filter_le (fun k=> !(cd b.v).getD k true) (List.range (cd b.v).length);rw[qy]at this;have h2:=yI M;omega
 obtain⟨m,hm⟩:∃m,m=(ik b.v).length:=⟨_,rfl⟩;rw[←hm]at S hkl ⊢;simp -implicitDefEqProofs[af];intro _;refine bL (Sy h a h.n (.slice ad m cc) (ik b.v) n m) _ ⟨0,rfl,by omega,(Ext.new h _).trans E,by rw[hGf];simp,by show h.n<G.n;have:=E.n;rw[ef]at this;omega,S,by simp[wq]⟩ ?_;clear S hGf E;rintro k0 ⟨T,⟨x,G⟩⟩ ⟨i,rfl,hi,E,hb,hbn,S,g0,g2,g3,g21,g22,g23,x2⟩;simp at E hb hbn S g0 g2 g3 g21 g22 g23 x2;simp -implicitDefEqProofs[g0,g2,g3,g21,g22,g23,x2];refine bY (fun hc=>?_) (fun hc=>?_)
 ·have him:i<m:=by omega
  have w1:=bU (i:=i) (by omega);have hti:(ik b.v)[i]? =some (ik b.v)[i]:=av (by omega);obtain⟨_,b',o1,cells',r,rfl,hb',hd',hlc,_⟩:=S.at 1 V.dV hti;obtain⟨t,ht⟩:∃t,t=(ik b.v)[i]:=⟨_,rfl⟩;rw[←ht]at hd' hti;have t0:=Nd b.v t (dY hti);have t1:=Zn M t (dY hti);obtain⟨q,rfl⟩:∃q:Nat,t=q:=⟨t.toNat,by omega⟩;have hqn:q<n:=by omega
  rw[Nat.mul_one]at hd' hlc;have hsu:=Pq (-1) (List.replicate n 0) (ik b.v) i hti;have hsl:=vV (-1) ((ik b.v).take i) (List.replicate n 0);rw[List.length_replicate]at hsl;obtain⟨L,hL⟩:∃L,L=ju (-1) (List.replicate n 0) ((ik b.v).take i):=⟨_,rfl⟩;rw[←hL]at hb hsu hsl;obtain⟨cells,hcells⟩:∃cells,cells=L.map (Value.int .i64):=⟨_,rfl⟩;rw[←hcells]at hb;have hcl2:cells.length=n:=by rw[hcells,cN,hsl]
  have hil:q+1≤cells.length:=by omega
  have hts:=nT (Value.int .i64) L q (-1) (by omega);simp only[jN]at hsu;rw[←hsu,←hcells]at hts;have hbf:∀e cs,G.f h.n≠.row false e cs:=fun e cs z=>by rw[hb]at z;cases z
  simp -implicitDefEqProofs[g0,g2,g3,g21,g22,g23,x2,him,hb',hd',hlc,ab,hqn,hb,hil,w1];refine⟨m-(i+1),by omega,i+1,rfl,by omega,E.dh (a8 _) _,?_,hbn,S.kp ((Kp.refl _).set hbf _),by simp[x2]⟩;rw[←hts];simp
 ·have e:i=m:=by omega
  subst e;have ec:ju (-1) (List.replicate n 0) ((ik b.v).take i)=kI b 0:=by
   rw[hm,kH];unfold kI;rw[List.take_zero,List.foldl_nil,←hn]
  rw[ec]at hb;simp -implicitDefEqProofs[g0,g2,g3,g21,g22,g23,x2];refine(hlive G E).mono ?_;rintro r G2 ⟨E2,S2⟩;obtain⟨ad2,cc2,rfl⟩:=S2.shape;obtain⟨m2,hm2⟩:∃m,m=(b8 b).length:=⟨_,rfl⟩;have bQ:=E2.f h.n hbn;rw[hb]at bQ;rw[←hm2]at S2 ⊢;simp -implicitDefEqProofs[af];intro _;refine bL (Sz h a h.n b (.slice ad2 m2 cc2) n m2) _ ⟨0,rfl,by omega,E.trans E2,bQ,by have:=E2.n;simp only;omega,S2,by simp[g0,g2,g3,x2]⟩ ?_;clear g0 g2 g3 g21 g22 g23 x2 hb hbn S bQ E2 S2 E hc;rintro k1 ⟨T,⟨x,G⟩⟩ ⟨i2,rfl,sc,E,hb,hbn,S,g0,g2,g3,g32,g33,g34,x2⟩;simp at E hb hbn S g0 g2 g3 g32 g33 g34 x2;simp -implicitDefEqProofs[g0,g2,g3,g32,g33,g34,x2];refine bY (fun hc=>?_) (fun hc=>?_)
  ·have him:i2<m2:=(by omega);have w1:=bU (i:=i2) (by omega);have hti:(b8 b)[i2]? =some (b8 b)[i2]:=av (by omega);obtain⟨_,b',o1,cells',r,rfl,hb',hd',hlc,_⟩:=S.at 6 ir hti;obtain⟨t,ht⟩:∃t,t=(b8 b)[i2]:=⟨_,rfl⟩;rw[←ht]at hd' hti;have htf:=OK.fst t (ig.1 (dY hti)).1;have hk6:(cells'.drop (o1+i2*6)).take 6=aM t:=(by rw[hd'];rfl);have hse':=hse G E t htf;have hcs:=VY b i2 hti;have hcl:=GH b i2;simp only[jr,aM]at hse' hk6;simp -implicitDefEqProofs[g0,g2,g3,g32,g33,g34,x2,him,hb',hk6,hlc];refine hse'.mono ?_;rintro r G2 ⟨E2,S2⟩;obtain⟨ad3,cc3,rfl⟩:=S2.shape;have bQ:=E2.f h.n hbn;rw[hb]at bQ;have hpl:=aiY (b:=b) (o:=t);obtain⟨p,hp⟩:∃p,p=(gX b t).length:=⟨_,rfl⟩;rw[←hp]at S2 hpl ⊢;simp -implicitDefEqProofs[af];intro _;refine bL (SA h a h.n b (.slice (some ⟨b',o1,none⟩) m2 cc2) (.slice ad3 p cc3) t i2 n m2 p) _ ⟨0,rfl,by omega,E.trans E2,by simpa[ju]using bQ,by have:=E2.n;simp only;omega,S.ext E2,S2,by simp[g0,g2,g3,g32,g33,g34,x2,aM]⟩ ?_;clear g0 g2 g3 g32 g33 g34 x2 hb hbn S bQ E2 S2 E hb' hd' hk6 hlc hse';rintro k2 ⟨T,⟨x,G⟩⟩ ⟨j,rfl,hj,E,hb,hbn,S,S2,g0,g2,g3,g7,g32,g33,g34,g40,g41,g42,x2,x7⟩;simp at E hb hbn S S2 g0 g2 g3 g7 g32 g33 g34 g40 g41 g42 x2 x7;simp only[aM]at x7;simp -implicitDefEqProofs[g0,g2,g3,g7,g32,g33,g34,g40,g41,g42,x2,x7];refine bY (fun hc=>?_) (fun hc=>?_)
   ·have hjp:j<p:=(by omega);have w2:=bU (i:=j) (by omega);have huj:(gX b t)[j]? =some (gX b t)[j]:=av (by omega);obtain⟨_,b5,o5,cells5,r5,rfl,hb5,hd5,hlc5,_⟩:=S2.at 1 V.dV huj;obtain⟨u,hu⟩:∃u,u=(gX b t)[j]:=⟨_,rfl⟩;rw[←hu]at hd5 huj;have hub:=aiX u (dY huj);obtain⟨q,rfl⟩:∃q:Nat,u=q:=⟨u.toNat,by omega⟩;have hqn:q<n:=(by omega);rw[Nat.mul_one]at hd5 hlc5;have hsu:=Pq t.id (kI b i2) (gX b t) j huj;have hsl:=vV t.id ((gX b t).take j) (kI b i2);obtain⟨L,hL⟩:∃L,L=ju t.id (kI b i2) ((gX b t).take j):=⟨_,rfl⟩;rw[←hL]at hb hsu hsl;obtain⟨cells,hcells⟩:∃cells,cells=L.map (Value.int .i64):=⟨_,rfl⟩;rw[←hcells]at hb;have hcl2:cells.length=n:=(by rw[hcells,cN,hsl,hcl,hn]);have hil:q+1≤cells.length:=(by omega);have hts:=nT (Value.int .i64) L q t.id (by omega);simp only[jN]at hsu;rw[←hsu,←hcells]at hts;have hbf:∀e cs,G.f h.n≠.row false e cs:=fun e cs z=>(by rw[hb]at z;cases z);simp -implicitDefEqProofs[g0,g2,g3,g7,g32,g33,g34,g40,g41,g42,x2,x7,hjp,hb5,hd5,hlc5,ab,hqn,hb,hil,w2];refine⟨p-(j+1),by omega,j+1,rfl,by omega,E.dh (a8 _) _,?_,hbn,S.kp ((Kp.refl _).set hbf _),S2.kp ((Kp.refl _).set hbf _),by simp[x2,x7,aM]⟩;rw[←hts];simp
   ·have e:j=p:=(by omega);subst e;have ec:ju t.id (kI b i2) ((gX b t).take j)=kI b (i2+1):=(by rw[hp,kH,hcs]);rw[ec]at hb;simp -implicitDefEqProofs[g0,g2,g3,g7,g32,g33,g34,g40,g41,g42,x2,x7,w1];exact⟨m2-(i2+1),by omega,i2+1,rfl,by omega,E,hb,hbn,S,by simp[g0,g2,g3,g32,g33,x2]⟩
  ·have e:i2=m2:=(by omega);subst e;simp -implicitDefEqProofs[g0,g2,g3,g32,g33,g34,x2,wq];refine⟨E,_,rfl,some ⟨h.n,0,none⟩,by rw[GH,hn],.inr ⟨h.n,rfl,?_,a8 _,hbn⟩⟩;rw[hb];have:∀l:List Int,l.map (Value.int .i64)=l.flatMap ab:=fun l=>(by induction l with|nil=>rfl|cons z r ih=>rw[eT,gF,ih];rfl);rw[this]
end Go.Proofs.Ybk.K
namespace Go.Proofs.Ybk.K
open Go Go.Am
set_option maxHeartbeats 4000000
open V (aq aU aj au bg ab bD aN aB cF cJ bq bR)
open F (cz)
def er (r:dO):List Value:=[.int .i64 r.kind,.string (B r.text),.int .i64 r.order.id,.int .i64 r.order.state,.int .i64 r.order.aO.size,.int .i64 r.order.aO.du,.int .i64 r.order.fZ,.int .i64 r.order.first,.int .i64 r.time]
theorem vP (r:dO):(er r).length=9:=rfl
theorem qC:lh 39 73 9 80 er:=⟨IX,Qk,⟨_,BP,rfl⟩,CK,GS,by decide,by decide,vP,fun _=>rfl⟩
theorem ai7:∀(l was:List aH) (t:aH),fN (l++[t]) was=fN l was++(if was[l.length]? =some t then[]else[gy t]):=by
 intro l;induction l with
 |nil=>
  intro was t;show(if was.head? =some t then[]else[gy t])++[]=[]++_;rw[pj,dA,List.head?_eq_getElem?];rfl
 |cons a r ih=>
  intro was t;rw[dp,fN,fN,ih,eD,eE];cases was with
  |nil=>rfl
  |cons b s=>rfl
def nQ (l was:List aH) (i:Nat):List dO:=fN (l.take i) was
theorem ai8 (l was:List aH) (i:Nat) {t:aH} (h:l[i]? =some t):nQ l was (i+1)=if was[i]? =some t then nQ l was i else nQ l was i++[gy t]:=by
 unfold nQ;have hl:(l.take i).length=i:=by
  have:=(cY.1 h).1;rw[cQ];omega
 rw[fI,h,Option.toList_some,ai7,hl];split
 ·rw[pj]
 ·rfl
theorem Pw:∀(l was:List aH),(fN l was).length≤l.length:=by
 intro l;induction l with
 |nil=>intro was;exact a8 _
 |cons a r ih=>
  intro was;rw[fN,bF,eE];have:=ih was.tail;split<;>simp<;>omega
def sP (b:aG) (c:CmdR):List dO:=if c.kind=1 then[gz c.text]else if c.kind=5 then[iG b.now]else[]
theorem ai6 (b was:aG) (c:CmdR):kB b was c=if sP b c++fN b.l was.l=[]then[]else(sP b c++fN b.l was.l)++[recC]:=rfl
theorem ahL (b:aG) (c:CmdR):(sP b c).length≤1:=by
 unfold sP;split
 ·exact a8 _
 ·split<;>simp
def yW (h:aa) (a2:Nat) (pre:List dO) (l was:List aH) (lv:Value) (C2:List Value) (m n:Nat) (σ:St):Prop:=∃(i:Nat) (o:Option Nat) (w:Value),n=m-i∧i≤m∧Ext h σ.m.h∧Ow 73 er h σ.m.h o (pre++nQ l was i) w∧
 σ.t.get 1=some (.pointer (some ⟨a2,0,none⟩))∧σ.t.get 7=some w∧σ.t.get 33=some lv∧σ.t.get 34=some (.int .i64 (m:Nat))∧σ.t.get 35=some (.int .i64 (i:Nat))
def SY (h:aa) (a a2:Nat) (pre:List dO) (σ:St):Prop:=∃(o:Option Nat) (w:Value),Ext h σ.m.h∧Ow 73 er h σ.m.h o pre w∧σ.t.get 0=some (.pointer (some ⟨a,0,none⟩))∧σ.t.get 1=some (.pointer (some ⟨a2,0,none⟩))∧σ.t.get 7=some w
section
variable {h0 h:aa} {a a2:Nat} {b was:aG} {vc vc2:List Value} {ov ov2:Value} {o o2:Option Nat}
theorem ai9 (hl:b.l.length≤1048576) (hl2:was.l.length≤1048576) (c:CmdR) (B1:bz h0 h a b vc ov o) (B2:bz h0 h a2 was vc2 ov2 o2):
  ao PP 37 [.pointer (some ⟨a,0,none⟩),.pointer (some ⟨a2,0,none⟩),cm c] h (fun r h'=>Ext h h'∧aK 73 er h' r (kB b was c)):=by
 refine ao.jT (post:=fun v' h'=>Ext h h'∧cL 73 er h h' v' (kB b was c)) ?_ (fun v h' ⟨E,W⟩=>by
  obtain⟨h'',w,E',S⟩:=W.dB E;exact⟨h'',w,E',S⟩)
 refine aC mix (aD Tryz.func37) rfl rfl rfl afp ?_;simp only[ai,Tryz.f37];obtain⟨SB,hSB⟩:∃F,F=kB b was c:=⟨_,rfl⟩;rw[←hSB];rw[ai6]at hSB;have hr1:List.range 9=[0,1,2,3,4,5,6,7,8]:=rfl;have hrow:=B1.row;have hrow2:=B2.row;have hS1:=B1.dL.sl;have hS2:=B2.dL.sl;obtain⟨x1,y1,m1,g1,r1,x2,m2,y2,x3,m3,y3,e1⟩:=B1.dF.shape;obtain⟨x4,y4,m4,g4,r4,x5,m5,y5,x6,m6,y6,e2⟩:=B2.dF.shape;obtain⟨x7,y7,e3⟩:=B1.dL.shape;obtain⟨x8,y8,e4⟩:=B2.dL.shape;subst e1;subst e2;subst e3;subst e4;simp only[iy,dp,dA]at hrow hrow2;refine wi 3 (SY h a a2 (sP b c)) ?_ ?_
 ·simp only[sa,rZ];have W0:Ow 73 er h h none ([]:List dO) (.slice none 0 0):=Ow.nil;have hA1:=jB qC W0 (gz c.text) (by decide);have hA3:=jB qC W0 (iG b.now) (by decide);have k1:[Value.int .i64 1,.string (B c.text),.int .i64 0,.int .i64 0,.int .i64 0,.int .i64 0,.int .i64 0,.int .i64 0,.int .i64 0]=er (gz c.text):=rfl;have k3:[Value.int .i64 3,.string (B []),.int .i64 0,.int .i64 0,.int .i64 0,.int .i64 0,.int .i64 0,.int .i64 0,.int .i64 b.now]=er (iG b.now):=rfl;simp only[List.flatMap_nil,dA,qx,jh]at hA1 hA3;rw[←k1]at hA1;rw[←k3]at hA3;unfold sP;by_cases q1:c.kind=1
  ·rw[if_pos q1];simp -implicitDefEqProofs[cm,cmdC,q1,aP,hr1,hA1];exact⟨_,_,jD (Ext.bJ h) W0 _ _,Ow.one W0 (a8 _) _ (gz c.text) rfl,by simp⟩
  ·by_cases q5:c.kind=5
   ·rw[if_neg q1,if_pos q5];simp -implicitDefEqProofs[cm,cmdC,q1,q5,hrow,aP,hr1,hA3];exact⟨_,_,jD (Ext.bJ h) W0 _ _,Ow.one W0 (a8 _) _ (iG b.now) rfl,by simp⟩
   ·rw[if_neg q1,if_neg q5];simp -implicitDefEqProofs[cm,cmdC,q1,q5];exact⟨none,_,Ext.bJ h,Ow.nil,by simp⟩
 ·simp only[sZ,qg];rintro⟨T,⟨x,G⟩⟩ ⟨oo,w,E,W,g0,g1,g7⟩;simp at E W g0 g1 g7;have hpl:=ahL b c;obtain⟨pre,hpre⟩:∃p,p=sP b c:=⟨_,rfl⟩;rw[←hpre]at W hpl hSB;have hrG:=hrow;rw[←E.f a B1.a1]at hrG;obtain⟨m,hm⟩:∃m,m=b.l.length:=⟨_,rfl⟩;rw[←hm]at hS1 hrG;simp -implicitDefEqProofs[g0,g1,g7,hrG];refine bL (yW h a2 pre b.l was.l (.slice x7 m y7) [] m) _ ⟨0,oo,w,rfl,by omega,E,by simpa[nQ,fN]using W,by simp[g1,g7]⟩ ?_;clear W g0 g1 g7 hrG E;rintro n ⟨T,⟨x,G⟩⟩ ⟨i,oo,w,rfl,hi,E,W,g1,g7,g33,g34,g35⟩;simp at E W g1 g7 g33 g34 g35;have hwn:cu w=true:=by rw[W.1];rfl
  simp only[cu,iY,Option.isNone_iff_eq_none]at hwn;simp -implicitDefEqProofs[g1,g7,g33,g34,g35,hwn];refine bY (fun hc=>?_) (fun hc=>?_)
  ·have him:i<m:=(by omega);have w1:=bU (i:=i) (by omega);have hti:b.l[i]? =some b.l[i]:=av (by omega);obtain⟨_,b',o1,w0,cells',r,rfl,hb',hd',hlc,_⟩:=(hS1.ext E).at 6 ir hti;obtain⟨t,ht⟩:∃t,t=b.l[i]:=⟨_,rfl⟩;rw[←ht]at hd' hti;have hk6:(cells'.drop (o1+i*6)).take 6=aM t:=(by rw[hd'];rfl);have hnx:=ai8 b.l was.l i hti;have hfl:(pre++nQ b.l was.l i).length≤1048577:=by
    rw[bF];have:=Pw (b.l.take i) was.l;rw[cQ]at this;show pre.length+(fN (b.l.take i) was.l).length≤_;omega
   have hr2:=hrow2;rw[←E.f a2 B2.a1]at hr2;obtain⟨acc,hacc⟩:∃acc,acc=pre++nQ b.l was.l i:=⟨_,rfl⟩;have hnx':pre++nQ b.l was.l (i+1)=if was.l[i]? =some t then acc else acc++[gy t]:=by
    rw[hnx,hacc];split
    ·rfl
    ·rw[eD]
   rw[←hacc]at W hfl;obtain⟨rfl,_⟩:=id W;have hA:=jB qC W (gy t) (by omega);obtain⟨ti,ts,⟨tp,tw⟩,tl,tf⟩:=t;have k2:[Value.int .i64 2,.string (B []),.int .i64 ti,.int .i64 ts,.int .i64 tp,.int .i64 tw,.int .i64 tl,.int .i64 tf,.int .i64 0]=er (gy ⟨ti,ts,⟨tp,tw⟩,tl,tf⟩):=rfl;rw[←k2]at hA;simp only[aM]at hk6;by_cases q:was.l.length≤i
   ·have q':(was.l.length:Int)≤i:=(by omega);rw[if_neg (by rw[iK q];simp)]at hnx';simp -implicitDefEqProofs[g1,g7,g33,g34,g35,him,hb',hk6,hlc,hr2,q,q',aP,hr1,hA,w1];refine⟨m-(i+1),by omega,i+1,some (G.n+1),.slice (some ⟨G.n+1,0,none⟩) (acc.length+1) (acc.length+1),rfl,by omega,jD E W _ _,?_,by simp⟩;rw[hnx'];exact Ow.one W E.n _ _ rfl
   ·have q':¬(was.l.length:Int)≤i:=(by omega);have hiw:i<was.l.length:=(by omega);have hui:was.l[i]? =some was.l[i]:=av hiw;obtain⟨_,b5,o5,w5,cells5,r5,rfl,hb5,hd5,hlc5,_⟩:=(hS2.ext E).at 6 ir hui;obtain⟨u,hu⟩:∃u,u=was.l[i]:=⟨_,rfl⟩;rw[←hu]at hd5 hui;have hk5:(cells5.drop (o5+i*6)).take 6=aM u:=(by rw[hd5];rfl);obtain⟨ui,us,⟨up,uw⟩,ul,uf⟩:=u;simp only[aM]at hk5;simp -implicitDefEqProofs[g1,g7,g33,g34,g35,him,hb',hk6,hlc,hr2,q,q',hiw,hb5,hk5,hlc5];refine iM (fun hq=>?_) (fun hq=>?_)
    ·rw[if_neg (by rw[hui];intro e;simp only[aw,aH.mk.injEq,aV.mk.injEq]at e;simp[e.1,e.2.1,e.2.2.1.1,e.2.2.1.2,e.2.2.2.1,e.2.2.2.2]at hq)]at hnx';simp -implicitDefEqProofs[g1,g7,g33,g34,g35,aP,hr1,hA,w1];refine⟨m-(i+1),by omega,i+1,some (G.n+1),.slice (some ⟨G.n+1,0,none⟩) (acc.length+1) (acc.length+1),rfl,by omega,jD E W _ _,?_,by simp⟩;rw[hnx'];exact Ow.one W E.n _ _ rfl
    ·simp at hq;obtain⟨rfl,rfl,⟨rfl,rfl⟩,rfl,rfl⟩:=hq;rw[if_pos hui]at hnx';simp -implicitDefEqProofs[g1,g7,g33,g34,g35,w1];exact⟨m-(i+1),by omega,i+1,oo,_,rfl,by omega,E,by rw[hnx'];exact W,by simp[g1,g7,g33,g34]⟩
  ·have e:i=m:=(by omega);subst e;have he:nQ b.l was.l i=fN b.l was.l:=(by unfold nQ;rw[hm,kH]);rw[he]at W;have hfl:(pre++fN b.l was.l).length≤1048577:=by
    rw[bF];have:=Pw b.l was.l;omega
   obtain⟨acc,hacc⟩:∃acc,acc=pre++fN b.l was.l:=⟨_,rfl⟩;rw[←hacc]at W hfl hSB;obtain⟨rfl,_⟩:=id W;by_cases q:acc=[]
   ·have q':acc.length=0:=(by rw[q];rfl);rw[if_pos q]at hSB;subst hSB;simp -implicitDefEqProofs[g7,q'];exact⟨E,cL.nil⟩
   ·have q':¬acc.length=0:=fun z=>q (nu.1 z);rw[if_neg q]at hSB;subst hSB;have hA:=jB qC W recC (by omega);have k4:[Value.int .i64 4,.string (B []),.int .i64 0,.int .i64 0,.int .i64 0,.int .i64 0,.int .i64 0,.int .i64 0,.int .i64 0]=er recC:=rfl;rw[←k4]at hA;simp -implicitDefEqProofs[g7,q',aP,hr1,hA];exact⟨jD E W _ _,(Ow.one W E.n _ recC rfl).own⟩
end
section
variable {h0 h:aa} {a:Nat} {b:aG} {vc:List Value} {ov:Value} {o:Option Nat}
theorem WM {N:Nat} (OK:eh N b) (hN:N≤1048000) (steps:Nat) (hst:2*b.fuel.toNat≤steps) (c:CmdR) (hc:c.text.length≤1048576) (G0:cz h0) (B:bz h0 h a b vc ov o):
  ao PP 36 [.pointer (some ⟨a,0,none⟩),cm c] h (fun r h'=>cI h0 h h' a o (bG steps b c).1∧nq h' (bG steps b c).2 r):=by
 refine aC mix (aD Tryz.func36) rfl rfl rfl afo ?_;simp only[ai,Tryz.f36];have hlen:=OK.len;have hload:=Z9 (by omega) c hc G0 B;have htick:=aly (by omega) ⟨OK.n0,OK.n1⟩ c.a B;have hrow:=B.row;have hrow':=hrow;obtain⟨a1,n1,c1,g,r,a2,n2,c2,a3,n3,c3,a4,n4,c4,e1,e2,e3,hr⟩:=B.cells;have fin:∀(R:jL) (v:Value) (G:aa),nq G R v→∃ad n cc,v= .agg ⟨[.int .i64 R.code,.int .i64 R.n,.int .i64 R.spot.1,.int .i64 R.spot.2,.slice ad n cc]⟩:=by
  rintro R v G ⟨sv,rfl,S⟩;obtain⟨ad,cc,rfl⟩:=S.shape;exact⟨_,_,_,rfl⟩
 obtain⟨DB,hDB⟩:∃F,F=bG steps b c:=⟨_,rfl⟩;rw[←hDB];unfold bG at hDB;simp only[cm,cmdC]at hload htick;by_cases q1:c.kind<1
 ·rw[if_pos (.inl q1)]at hDB;subst hDB;simp -implicitDefEqProofs[cm,cmdC,q1];exact⟨cI.fD B (Ext.bJ _),js _ 1⟩
 by_cases q2:8<c.kind
 ·rw[if_pos (.inr q2)]at hDB;subst hDB;simp -implicitDefEqProofs[cm,cmdC,q1,q2];exact⟨cI.fD B (Ext.bJ _),js _ 1⟩
 rw[if_neg (by omega)]at hDB;by_cases k1:c.kind=1
 ·rw[if_pos k1]at hDB;subst hDB;rw[k1]at hload;simp -implicitDefEqProofs[cm,cmdC,k1];refine hload.mono ?_;rintro r h' ⟨Q,P⟩;obtain⟨ad,n,cc,rfl⟩:=fin _ _ _ P;simp -implicitDefEqProofs[af];intro _;exact⟨Q,P⟩
 rw[if_neg k1]at hDB;by_cases k5:c.kind=5
 ·rw[if_pos k5]at hDB;subst hDB;simp -implicitDefEqProofs[cm,cmdC,k5];refine htick.mono ?_;rintro r h' ⟨Q,P⟩;obtain⟨ad,n,cc,rfl⟩:=fin _ _ _ P;simp -implicitDefEqProofs[af];intro _;exact⟨Q,P⟩
 rw[if_neg k5]at hDB;by_cases qh:b.has=true;rotate_left
 ·rw[if_pos (by simpa using qh)]at hDB;subst hDB;simp -implicitDefEqProofs[cm,cmdC,q1,q2,k1,k5,hr,qh];exact⟨cI.fD B (Ext.bJ _),js _ 11⟩
 rw[if_neg (by simpa using qh)]at hDB;have hhold:=YM OK hN qh steps hst c B;have hquote:=ah1 OK hN qh steps hst c B;have hconf:=Ww (by omega) (OK.may qh) OK.fst c.a B;have hcanc:=VU (by omega) c.a B;have hrepl:=aie OK hN qh steps hst B;have hchart:=VZ OK hN qh B;simp only[cm,cmdC]at hhold hquote;by_cases k2:c.kind=2
 ·rw[if_pos k2]at hDB;subst hDB;rw[k2]at hhold;simp -implicitDefEqProofs[cm,cmdC,k2,hr,qh];refine hhold.mono ?_;rintro r h' ⟨Q,P⟩;obtain⟨ad,n,cc,rfl⟩:=fin _ _ _ P;simp -implicitDefEqProofs[af];intro _;exact⟨Q,P⟩
 rw[if_neg k2]at hDB;by_cases k6:c.kind=6
 ·rw[if_pos k6]at hDB;have eq6:DB=(b,ym steps b c):=hDB;subst eq6;rw[k6]at hquote;simp -implicitDefEqProofs[cm,cmdC,k6,hr,qh];refine hquote.mono ?_;rintro r h' ⟨E,P⟩;obtain⟨ad,n,cc,rfl⟩:=fin _ _ _ P;simp -implicitDefEqProofs[af];intro _;exact⟨cI.fD B E,P⟩
 rw[if_neg k6]at hDB;by_cases k3:c.kind=3
 ·rw[if_pos k3]at hDB;subst hDB;simp -implicitDefEqProofs[cm,cmdC,k3,hr,qh];refine hconf.mono ?_;rintro r h' ⟨Q,P⟩;obtain⟨ad,n,cc,rfl⟩:=fin _ _ _ P;simp -implicitDefEqProofs[af];intro _;exact⟨Q,P⟩
 rw[if_neg k3]at hDB;by_cases k4:c.kind=4
 ·rw[if_pos k4]at hDB;subst hDB;simp -implicitDefEqProofs[cm,cmdC,k4,hr,qh];refine hcanc.mono ?_;rintro r h' ⟨Q,P⟩;obtain⟨ad,n,cc,rfl⟩:=fin _ _ _ P;simp -implicitDefEqProofs[af];intro _;exact⟨Q,P⟩
 rw[if_neg k4]at hDB;by_cases k7:c.kind=7
 ·rw[if_pos k7]at hDB;subst hDB;simp -implicitDefEqProofs[cm,cmdC,k7,hr,qh];refine hrepl.mono ?_;rintro r h' ⟨Q,P⟩;obtain⟨ad,n,cc,rfl⟩:=fin _ _ _ P;simp -implicitDefEqProofs[af];intro _;exact⟨Q,P⟩
 rw[if_neg k7]at hDB;subst hDB;simp -implicitDefEqProofs[cm,cmdC,q1,q2,k1,k2,k3,k4,k5,k6,k7,hr,qh];refine hchart.mono ?_;rintro r h' ⟨E,P⟩;obtain⟨ad,n,cc,rfl⟩:=fin _ _ _ P;simp -implicitDefEqProofs[af];intro _;exact⟨cI.fD B E,P⟩
theorem vg (steps:Nat) (b:aG) (c:CmdR):(bG steps b c).1.fuel=b.fuel:=by
 unfold bG;split
 ·rfl
 split
 ·unfold j5;split
  ·rfl
  ·split<;>rfl
 split
 ·unfold iI;split<;>rfl
 split
 ·rfl
 split
 ·unfold jY;split
  ·rfl
  ·simp only;split<;>rfl
 split
 ·rfl
 split
 ·unfold lW;split
  ·rfl
  ·simp only;split<;>rfl
 split
 ·unfold lV;split
  ·rfl
  ·simp only;split<;>rfl
 split
 ·unfold mi;simp only;split
  ·rfl
  ·split<;>rfl
 ·rfl
def yR (h0 h:aa) (a:Nat) (o:Option Nat) (steps:Nat) (b:aG) (c:CmdR) (r:Value) (h':aa):Prop:=cI h0 h h' a o (bG steps b c).1∧∃ad n cc w,r= .tuple #[.agg ⟨um (bG steps b c).2 (.slice ad n cc)⟩,w]∧aK 3 ab h' (.slice ad n cc) (bG steps b c).2.ag∧aK 73 er h' w (jO steps b c)
theorem w6 {N:Nat} (OK:eh N b) (hN:N≤1047000) (steps:Nat) (hst:2*b.fuel.toNat≤steps) (c:CmdR) (hc:c.text.length≤1048576) (G0:cz h0) (B:bz h0 h a b vc ov o):
  ao PP 15 [.pointer (some ⟨a,0,none⟩),cm c] h (yR h0 h a o steps b c):=by
 refine aC mix (aD Tryz.func15) rfl rfl rfl Oc ?_;simp only[ai,Tryz.f15];have hlen:=OK.len;have hcp:=GY (by omega) B;simp -implicitDefEqProofs[cm,cmdC];refine hcp.mono ?_;rintro r G1 ⟨E1,a',ov',o',rfl,B'⟩;have B1:=B.exts E1;have hdo:=WM OK (by omega) steps hst c hc G0 B1;simp only[cm,cmdC]at hdo;simp -implicitDefEqProofs[af];intro _;refine hdo.mono ?_;rintro r G2 ⟨⟨vc2,ov2,o2,B2,C2,D2⟩,sv,rfl,S⟩;obtain⟨ad,cc,rfl⟩:=S.shape;have hQ:cI h0 h G2 a o (bG steps b c).1:=cI.pre E1 ⟨vc2,ov2,o2,B2,C2,D2⟩;obtain⟨R,hR⟩:∃R,R=(bG steps b c).2:=⟨_,rfl⟩;have hdr:jO steps b c=if R.code≠0 then[]else kB (bG steps b c).1 b c:=by rw[hR];rfl
 rw[←hR]at S ⊢;by_cases q:R.code=0;rotate_left
 ·rw[if_pos q]at hdr;simp -implicitDefEqProofs[af,um,q];intro _;exact⟨hQ,ad,_,cc,_,by rw[←hR];rfl,by rw[←hR];exact S,by rw[hdr];exact aK.nil⟩
 ·rw[if_neg (by simpa using q)]at hdr;have B3:=(B'.low B.ext).other B1 C2 (fun x hx z=>by
   have h1:=(B'.own x hx).1;have h2:=(B.own x z).2;omega)
  have OK2:=lX steps c OK;have hsi:=ai9 (by have:=OK2.len;omega) (by omega) c B2 B3;simp only[cm,cmdC]at hsi;simp -implicitDefEqProofs[af,um,q];intro _;refine hsi.mono ?_;rintro r G3 ⟨E3,S3⟩;obtain⟨ad3,cc3,rfl⟩:=S3.shape;simp -implicitDefEqProofs[aJ];intro _;exact⟨hQ.post E3,ad,R.ag.length,cc,.slice ad3 (kB (bG steps b c).1 b c).length cc3,by rw[←hR];simp[um,q],by rw[←hR];exact S.ext E3,by rw[hdr];exact S3⟩
end
theorem vv (n lo hi:Int) (h:aa):ao PP 117 [.int .i64 n,.int .i64 lo,.int .i64 hi] h (fun v h'=>h'=h∧v= .bool (aB n lo hi)):=by
 refine aC mix (aD Tryz.func117) rfl rfl rfl ac0 ?_;simp only[ai,Tryz.f117];unfold aB;by_cases q:lo≤n
 ·simp -implicitDefEqProofs[q]
 ·simp -implicitDefEqProofs[q]
theorem agO (o:aH) (h:aa):ao PP 116 [jr o] h (fun v h'=>h'=h∧v= .bool (lG o)):=by
 refine aC mix (aD Tryz.func116) rfl rfl rfl acZ ?_;simp only[ai,Tryz.f116];have hp:=fun H=>mS o.aO H;simp only[fh,al]at hp;unfold lG;simp -implicitDefEqProofs[jr,aM];refine(vv _ _ _ h).mono ?_;rintro r h' ⟨e,rfl⟩;replace e:=e.symm;subst e;by_cases q1:aB o.id 1 2147483647=true;rotate_left
 ·simp -implicitDefEqProofs[af,q1]
 simp -implicitDefEqProofs[af,q1];intro _;refine(vv _ _ _ h).mono ?_;rintro r h' ⟨e,rfl⟩;replace e:=e.symm;subst e;by_cases q2:aB o.state 1 3=true;rotate_left
 ·simp -implicitDefEqProofs[af,q2]
 simp -implicitDefEqProofs[af,q2];intro _;refine(hp h).mono ?_;rintro r h' ⟨e,rfl⟩;replace e:=e.symm;subst e;by_cases q3:ez o.aO=true;rotate_left
 ·simp -implicitDefEqProofs[af,q3]
 simp -implicitDefEqProofs[af,q3];intro _;refine(vv _ _ _ h).mono ?_;rintro r h' ⟨e,rfl⟩;replace e:=e.symm;subst e;by_cases q4:aB o.fZ 0 1099511627776=true;rotate_left
 ·simp -implicitDefEqProofs[af,q4]
 simp -implicitDefEqProofs[af,q4];intro _;refine(vv _ _ _ h).mono ?_;rintro r h' ⟨e,rfl⟩;replace e:=e.symm;subst e;simp -implicitDefEqProofs[af]
def nN (r:dO):Value:=.agg ⟨er r⟩
theorem wx {a b:List UInt8} (h:B a=B b):a=b:=by
 have h1:∀x:List UInt8,(B x).data.toList=x:=fun _=>rfl;rw[←h1 a,←h1 b,h]
theorem ah4 (r:dO) (h:aa):ao PP 75 [nN r] h (fun v h'=>h'=h∧v= .bool (iZ r)):=by
 refine aC mix (aD Tryz.func75) rfl rfl rfl afQ ?_;simp only[ai,Tryz.f75];have hord:=agO r.order h;have hin:=vv r.time 0 1099511627776 h;obtain⟨MB,hMB⟩:∃F,F=iZ r:=⟨_,rfl⟩;rw[←hMB];unfold iZ at hMB;obtain⟨rk,rt,⟨oi,os,⟨op,ow⟩,ol,of_⟩,rm⟩:=r;simp only[jr,aM]at hord hin;simp only[gz,gy,iG,recC,jV,nm,dO.mk.injEq,aH.mk.injEq,aV.mk.injEq,true_and,and_true]at hMB;by_cases k1:rk=1
 ·subst k1;by_cases q:rt.length≤1048576
  ·have q':(rt.length:Int)≤1048576:=(by omega);simp -implicitDefEqProofs[nN,er,q'];rw[hMB];simp[q]
  ·have q':¬(rt.length:Int)≤1048576:=(by omega);simp -implicitDefEqProofs[nN,er,q'];rw[hMB];simp[q]
 by_cases k2:rk=2
 ·subst k2;simp -implicitDefEqProofs[nN,er];refine hord.mono ?_;rintro v h' ⟨e,rfl⟩;replace e:=e.symm;subst e;obtain⟨D,hD⟩:∃D,D=lG ⟨oi,os,⟨op,ow⟩,ol,of_⟩:=⟨_,rfl⟩;rw[←hD]at hMB ⊢;cases D
  ·simp -implicitDefEqProofs[aJ];rw[hMB];simp
  ·simp -implicitDefEqProofs[aJ];rw[hMB];simp
 by_cases k3:rk=3
 ·subst k3;simp -implicitDefEqProofs[nN,er];refine hin.mono ?_;rintro v h' ⟨e,rfl⟩;replace e:=e.symm;subst e;obtain⟨D,hD⟩:∃D,D=aB rm 0 1099511627776:=⟨_,rfl⟩;rw[←hD]at hMB ⊢;cases D
  ·simp -implicitDefEqProofs[aJ];rw[hMB];simp
  ·simp -implicitDefEqProofs[aJ];rw[hMB];simp
 by_cases k4:rk=4
 ·subst k4;simp -implicitDefEqProofs[nN,er];rw[hMB];simp
 ·simp -implicitDefEqProofs[nN,er,k1,k2,k3,k4];rw[hMB];simp[k1,k2,k3,k4]
theorem ajy {h0 h:aa} {a:Nat} {b:aG} {vc:List Value} {ov:Value} {o:Option Nat} (B:bz h0 h a b vc ov o) (x:aH):ao PP 77 [.pointer (some ⟨a,0,none⟩),jr x] h (fun r h'=>h'=h∧r= .bool (kT b x)):=by
 refine aC mix (aD Tryz.func77) rfl rfl rfl afS ?_;simp only[ai,Tryz.f77];obtain⟨a1,n1,c1,g,r,a2,n2,c2,a3,n3,c3,a4,n4,c4,rfl,rfl,rfl,hrow⟩:=B.cells;unfold kT;by_cases q1:x.state=1
 ·simp -implicitDefEqProofs[jr,aM,q1,hrow]
 ·by_cases q3:x.state=3
  ·by_cases q4:x.fZ=0
   ·simp -implicitDefEqProofs[jr,aM,q3,q4]
   ·simp -implicitDefEqProofs[jr,aM,q3,q4]
  ·simp -implicitDefEqProofs[jr,aM,q1,q3]
def Sm (h:aa) (a:Nat) (b:aG) (ov:Value) (m n:Nat) (σ:St):Prop:=∃i:Nat,n=m-i∧i≤m∧σ.m.h=h∧(∀j t,j<i→b.l[j]? =some t→kT b t=true)∧
 σ.t.get 0=some (.pointer (some ⟨a,0,none⟩))∧σ.t.get 11=some ov∧σ.t.get 12=some (.int .i64 (m:Nat))∧σ.t.get 13=some (.int .i64 (i:Nat))
theorem aau (b:aG) (hs:b.l.all (kT b)=true):mR b=(decide ((aT b).1.length=0) || (b.has&&(decide ((aT b).1.length≤512)&&(jE (aT b).1 (aT b).2.1&&iR b.v (aT b).1 (aT b).2.1 (aT b).2.2)))):=by
 unfold mR;rw[hs,tu]
theorem aat {h0 h:aa} {a:Nat} {b:aG} {vc:List Value} {ov:Value} {o:Option Nat} {N:Nat} (OK:eh N b) (hN:N≤1048000) (B:bz h0 h a b vc ov o):
  ao PP 42 [.pointer (some ⟨a,0,none⟩)] h (fun r h'=>Ext h h'∧r= .bool (mR b)):=by
 refine aC mix (aD Tryz.func42) rfl rfl rfl afw ?_;simp only[ai,Tryz.f42];have hlen:=OK.len;have hll:=qO b;have hsl:=B.dL.sl;have hrow:=B.row;have hvs:=B.dF.shape;obtain⟨x7,y7,e3⟩:=B.dL.shape;subst e3;obtain⟨x1,y1,m1,g1,r1,x2,m2,y2,x3,m3,y3,e1⟩:=hvs;subst e1;simp only[iy,dp,dA]at hrow;obtain⟨m,hm⟩:∃m,m=b.l.length:=⟨_,rfl⟩;have hrow':=hrow;rw[←hm]at hrow hsl;simp -implicitDefEqProofs[hrow];refine bL (Sm h a b (.slice x7 m y7) m) _ ⟨0,rfl,by omega,rfl,fun j t hj=>by omega,by simp⟩ ?_;rintro n ⟨T,⟨x,G⟩⟩ ⟨i,rfl,hi,hG,aQ,g0,g11,g12,g13⟩;simp at hG g0 g11 g12 g13;subst hG;simp -implicitDefEqProofs[g0,g11,g12,g13];refine bY (fun hc=>?_) (fun hc=>?_)
 ·have him:i<m:=by omega
  have w1:=bU (i:=i) (by omega);have hti:b.l[i]? =some b.l[i]:=av (by omega);obtain⟨_,b',o1,w0,cells',r,rfl,hb',hd',hlc,_⟩:=hsl.at 6 ir hti;obtain⟨t,ht⟩:∃t,t=b.l[i]:=⟨_,rfl⟩;rw[←ht]at hd' hti;have hk6:(cells'.drop (o1+i*6)).take 6=aM t:=by rw[hd'];rfl
  have hso:=ajy B t;simp only[jr,aM]at hso hk6;simp -implicitDefEqProofs[g0,g11,g12,g13,him,hb',hk6,hlc];refine hso.mono ?_;rintro rr h' ⟨e,rfl⟩;replace e:=e.symm;subst e;by_cases z:kT b t=true
  ·simp -implicitDefEqProofs[af,z,g0,g11,g12,g13,w1];intro _;refine⟨m-(i+1),by omega,i+1,rfl,by omega,rfl,fun j u hj hu=>?_,by simp[g0,g11,g12]⟩;rcases Nat.lt_or_ge j i with q|q
   ·exact aQ j u q hu
   ·have:j=i:=(by omega);subst this;rw[hti]at hu;obtain rfl:=bP hu;exact z
  ·have e:mR b=false:=by
    unfold mR;have:b.l.all (kT b)=false:=by
     rw[Bool.eq_false_iff];intro q;exact z (cq.1 q t (dY hti))
    rw[this,Bool.false_and]
   rw[e]
   simp -implicitDefEqProofs[af,z]
   intro _
   exact Ext.bJ _
 ·have e:i=m:=by omega
  subst e;have hs:b.l.all (kT b)=true:=by
   rw[cq];intro t ht;obtain⟨j,hj,e⟩:=List.getElem_of_mem ht;exact aQ j t (by omega) (by rw[←e];exact av hj)
  obtain⟨MB,hMB⟩:∃F,F=mR b:=⟨_,rfl⟩;rw[←hMB];rw[aau b hs]at hMB;have hpl:=AW (by omega) B;simp -implicitDefEqProofs[g0,g11,g12,g13];refine hpl.mono ?_;rintro r G2 ⟨E2,v1,v2,v3,rfl,P1,P2,P3⟩;have B2:=B.exts E2;have l1:(aT b).1.length=(b8 b).length:=cN ..;have l2:(aT b).2.1.length=(b8 b).length:=cN ..;obtain⟨hok1,hok2⟩:=AX OK;have hrow2:=B2.row;simp only[iy,dp,dA]at hrow2;obtain⟨x1',y1',e1⟩:=P1.shape;obtain⟨x2',y2',e2⟩:=P2.shape;obtain⟨x3',y3',e3⟩:=P3.shape;subst e1;subst e2;subst e3;have hfu:=zU (aT b).1 (aT b).2.1 _ _ (by omega) (by omega) G2 P1.sl P2.sl;have hmay:=fun hhas=>OW b.v (aT b).1 (aT b).2.2 (aT b).2.1 _ _ _ _ (fun x hx=>(hok1 x hx).wide) G2 (⟨OK.may hhas,by omega,by show(fr 0 (b8 b)).length≤_;have:=yd 0 (b8 b);omega,fun q hq=>(hok2 q hq).wide,B2.dF,P1,P3⟩:kU G2 b.v (aT b).1 (aT b).2.2 _ _ _) P2.sl;by_cases q0:(aT b).1.length=0
  ·have e:MB=true:=(by rw[hMB];simp[q0]);subst e;simp -implicitDefEqProofs[af,q0];intro _;exact E2
  have q0':¬((aT b).1.length:Int)=0:=by omega
  by_cases qh:b.has=true;rotate_left
  ·have e:MB=false:=(by rw[hMB];simp[q0,qh]);subst e;simp -implicitDefEqProofs[af,q0,q0',hrow2,qh];intro _;exact E2
  by_cases q5:(aT b).1.length≤512;rotate_left
  ·have e:MB=false:=(by rw[hMB];simp[q0,q5]);subst e;have q5':¬((aT b).1.length:Int)≤512:=(by omega);simp -implicitDefEqProofs[af,q0,q0',hrow2,qh,q5,q5'];intro _;exact E2
  have q5':((aT b).1.length:Int)≤512:=by omega
  have hmay':=hmay qh;simp -implicitDefEqProofs[af,q0,q0',hrow2,qh,q5,q5'];intro _;refine hfu.mono ?_;rintro r h' ⟨e,rfl⟩;replace e:=e.symm;subst e;by_cases q6:jE (aT b).1 (aT b).2.1=true;rotate_left
  ·have e:MB=false:=(by rw[hMB];simp[q0,q6]);subst e;simp -implicitDefEqProofs[af,q6];intro _;exact E2
  simp -implicitDefEqProofs[af,q6,hrow2];intro _;have e:MB=iR b.v (aT b).1 (aT b).2.1 (aT b).2.2:=by rw[hMB];simp[q0,qh,q5,q6]
  rw[←e]at hmay';refine hmay'.mono ?_;rintro r G3 ⟨E3,rfl⟩;simp -implicitDefEqProofs[af];intro _;exact E2.trans E3
end Go.Proofs.Ybk.K
namespace Go.Proofs.Ybk.K
open Go Go.Am
set_option maxHeartbeats 4000000
open V (aq aU aj au bg ab bD aN aB cF cJ bq bR)
open T (cZ)
open F (cz lJ)
theorem JJ {n:Int} (h: -2147483648≤n∧n≤2147483647):(Lib.itoa n).length≤21:=by
 unfold Lib.itoa;split
 ·have:=F.tI (u:=n.natAbs) (by omega);simp;omega
 ·have:=F.tI (u:=n.toNat) (by omega);omega
theorem abr (l:List Int) (n:Int):cZ (l++[n])=cZ l++32::Lib.itoa n:=by
 induction l with
 |nil=>simp[cZ]
 |cons a r ih=>rw[dp,cZ,ih,cZ];simp
theorem N7:∀(l:List Int),(∀n∈l,-2147483648≤n∧n≤2147483647)→(cZ l).length≤22*l.length:=by
 intro l;induction l with
 |nil=>intro _;simp[cZ]
 |cons n r ih=>
  intro h;have h1:=JJ (h n dH);have h2:=ih (fun x hx=>h x (ep _ hx));have e:cZ (n::r)=(32::Lib.itoa n)++cZ r:=rfl;rw[e,bF,eE,eE];omega
def SH (w:List UInt8) (l:List Int) (lv:Value) (h:aa) (m n:Nat) (σ:St):Prop:=∃i:Nat,n=m-i∧i≤m∧σ.m.h=h∧σ.t.get 0=some (.string (B (w++cZ (l.take i))))∧σ.t.get 7=some lv∧σ.t.get 8=some (.int .i64 (m:Nat))∧σ.t.get 9=some (.int .i64 (i:Nat))
theorem sg (w:List UInt8) (l:List Int) (hw:w.length≤100) (hl:l.length≤100) (hb:∀n∈l,-2147483648≤n∧n≤2147483647) (s:Value) (h:aa) (G:cz h) (H:bq h s l):
  ao PP 85 [.string (B w),s] h (fun r h'=>h'=h∧r= .string (B (w++cZ l))):=by
 refine aC mix (aD Tryz.func85) rfl rfl rfl af0 ?_;simp only[ai,Tryz.f85];obtain⟨ad,c,rfl⟩:=H.shape;obtain⟨m,hm⟩:∃m,m=l.length:=⟨_,rfl⟩;rw[←hm]at H hl ⊢;simp -implicitDefEqProofs;refine bL (SH w l (.slice ad m c) h m) _ ⟨0,rfl,by omega,rfl,by simp[cZ]⟩ ?_;rintro n ⟨T,⟨x,G'⟩⟩ ⟨i,rfl,hi,hG,g0,g7,g8,g9⟩;simp at hG g0 g7 g8 g9;subst hG;simp -implicitDefEqProofs[g0,g7,g8,g9];refine bY (fun hc=>?_) (fun hc=>?_)
 ·have him:i<m:=by omega
  have w1:=bU (i:=i) (by omega);have hti:l[i]? =some l[i]:=av (by omega);obtain⟨_,b',o1,w0,cells',r,rfl,hb',hd',hlc,_⟩:=H.at 1 V.dV hti;obtain⟨t,ht⟩:∃t,t=l[i]:=⟨_,rfl⟩;rw[←ht]at hd' hti;rw[Nat.mul_one]at hd' hlc;have htb:=hb t (dY hti);have hit:=F.Zd t (by omega) G' G;have hnl:=N7 (l.take i) (fun n hn=>hb n (List.mem_of_mem_take hn));rw[cQ]at hnl;have hnx:cZ (l.take (i+1))=cZ (l.take i)++32::Lib.itoa t:=by rw[fI,hti,Option.toList_some,abr]
  have hil:=JJ htb;obtain⟨S,hS⟩:∃S,S=cZ (l.take i):=⟨_,rfl⟩;rw[←hS]at hnl hnx g0 ⊢;obtain⟨u,hu⟩:∃u,u=Lib.itoa t:=⟨_,rfl⟩;rw[←hu]at hil hit hnx;have f0:u.length≤9223372036854775806:=by omega
  have f1:1+u.length≤9223372036854775807:=by omega
  have f2:w.length+S.length+(u.length+1)≤9223372036854775807:=by omega
  have f3:w.length+(S.length+(u.length+1))≤9223372036854775807:=by omega
  have f4:w.length+S.length+u.length≤9223372036854775806:=by omega
  have f5:w.length+(S.length+u.length)≤9223372036854775806:=by omega
  simp -implicitDefEqProofs[g0,g7,g8,g9,him,hb',hd',hlc,ab];refine hit.mono ?_;rintro r h' ⟨rfl,rfl⟩;simp -implicitDefEqProofs[af,g0,g7,g8,g9,f0,f1,f2,f3,f4,f5,w1];intro _;exact⟨m-(i+1),by omega,i+1,rfl,by omega,rfl,by rw[hnx];simp,by simp[g7,g8]⟩
 ·have e:i=m:=by omega
  have et:l.take i=l:=bZ (by omega);rw[et]at g0;simp -implicitDefEqProofs[g0,et]
theorem zI:lh 122 9 1 16 lJ:=⟨IQ,PU,⟨_,Re,rfl⟩,CL,GU,by decide,by decide,fun _=>rfl,fun _=>rfl⟩
theorem oF (h:aa) (l:List Int) (hne:l≠[]):bq (h.new (.row true 3 (l.map (Value.int .i64)))) (.slice (some ⟨h.n,0,none⟩) l.length l.length) l:=by
 have e:l.map (Value.int .i64)=l.flatMap ab:=by induction l with
  |nil=>rfl
  |cons z r ih=>
   cases r with
   |nil=>rfl
   |cons y t=>rw[eT,gF,ih (by simp)];rfl
 exact⟨_,_,rfl,fun z=>(by cases z),.inr ⟨h.n,0,true,l.map (Value.int .i64),[],rfl,by simp,by rw[e];simp,by simp⟩⟩
theorem Zh:∀(L:List (List UInt8)),L≠[]→Lib.join L [10]++[10]=fR L:=by
 intro L hL;cases L with
 |nil=>exact absurd rfl hL
 |cons x r=>
  rw[Lib.join_cons];have:∀r:List (List UInt8),Lib.joinTail [10] r++[10]=10::fR r:=by
   intro r;induction r with
   |nil=>rfl
   |cons y t ih=>
    have e:Lib.joinTail [10] (y::t)=([10]++y)++Lib.joinTail [10] t:=(by simp[Lib.joinTail]);have e2:fR (y::t)=y++10::fR t:=(by simp[fR]);rw[e,e2,eD,ih];simp
  have e2:fR (x::r)=x++10::fR r:=by simp[fR]
  rw[e2,eD,this]
theorem ahP (s:aq) (hk:0≤s.kind∧s.kind≤2) (hb:∀n∈[s.row,s.x,s.y],-2147483648≤n∧n≤2147483647) (h:aa) (G:cz h):ao PP 86 [bD s] h (fun v h'=>Ext h h'∧v= .string (B (Ln.eu s).bytes)):=by
 refine aC mix (aD Tryz.func86) rfl rfl rfl af1 ?_;simp only[ai,Tryz.f86];have hr3:List.range 3=[0,1,2]:=rfl;have hI:=oF h [s.row,s.x,s.y] (by simp);have E:=Ext.new h (.row true 3 ([s.row,s.x,s.y].map (Value.int .i64)));have hL:=fun w (hw:w.length≤100)=>sg w [s.row,s.x,s.y] hw (by simp) hb _ _ (G.ext E) hI;simp only[eT,List.map_nil,eE,qx]at hL E;have hby:(Ln.eu s).bytes=jw s.kind++cZ [s.row,s.x,s.y]:=rfl;rw[hby];unfold jw mn lN lM;have fin:∀w r h',(h'=h.new (.row true 3 [.int .i64 s.row,.int .i64 s.x,.int .i64 s.y])∧r=Value.string (B (w++cZ [s.row,s.x,s.y])))→Ext h h':=fun w r h' z=>by rw[z.1];exact E
 by_cases h0:s.kind=0
 ·have hL':=hL [115,101,97,116] (by decide);simp -implicitDefEqProofs[bD,au,h0,aP,hr3];refine hL'.mono ?_;rintro r h' ⟨rfl,rfl⟩;simp -implicitDefEqProofs[af];intro _;exact E
 ·by_cases h1:s.kind=1
  ·have hL':=hL [119,104,101,101,108] (by decide);simp -implicitDefEqProofs[bD,au,h1,aP,hr3];refine hL'.mono ?_;rintro r h' ⟨rfl,rfl⟩;simp -implicitDefEqProofs[af];intro _;exact E
  ·have h2:s.kind=2:=(by omega);have hL':=hL [99,111,109,112,97,110,105,111,110] (by decide);simp -implicitDefEqProofs[bD,au,h2,aP,hr3];refine hL'.mono ?_;rintro r h' ⟨rfl,rfl⟩;simp -implicitDefEqProofs[af];intro _;exact E
theorem vy {v:aj} (M:gY v):∀k∈v.aE,0≤k∧k<v.ag.length:=by
 have h:=M.aE;intro k hk;obtain⟨i,hi,rfl⟩:=List.getElem_of_mem hk;unfold V.il at h;simp only[bX,cq]at h;have:=h.1 i (dv.2 hi);unfold V.gG at this;rw[av hi]at this;simp only[bX,dP]at this;exact⟨this.1,this.2.1⟩
theorem JM:∀(L:List (List UInt8)),(∀l∈L,l.length≤99)→(fR L).length≤100*L.length:=by
 intro L;induction L with
 |nil=>intro _;simp[fR]
 |cons x r ih=>
  intro h;have e2:fR (x::r)=x++10::fR r:=by simp[fR]
  have h1:=h x dH;have h2:=ih (fun l hl=>h l (ep _ hl));rw[e2,bF,eE,eE];omega
theorem uZ (x:Ln) (hw:x.word.length≤9) (hn:∀n∈x.gq,-2147483648≤n∧n≤2147483647) (hl:x.gq.length≤3):x.bytes.length≤99:=by
 unfold Ln.bytes;rw[bF];have:=N7 x.gq hn;omega
theorem amB (k:Int):(jw k).length≤9:=by
 unfold jw;split
 ·decide
 ·split
  ·decide
  ·split<;>decide
theorem Nr {v:aj} (M:gY v):∀l∈(dG v).map Ln.bytes,l.length≤99:=by
 intro l hl;obtain⟨x,hx,rfl⟩:=dI.1 hl;have hg:=M.aW;have hr:=M.bC;unfold dG at hx;rcases ei.1 hx with hx|hx
 ·simp only[cE,List.not_mem_nil,or_false]at hx;rcases hx with rfl|rfl
  ·exact uZ _ (by show 3≤9;decide) (fun n hn=>by simp only[Ln.gq,eo]at hn;subst hn;omega) (by show 1≤3;decide)
  ·exact uZ _ (by show 6≤9;decide) (fun n hn=>by simp only[Ln.gq,eo]at hn;subst hn;omega) (by show 1≤3;decide)
 ·rcases ei.1 hx with hx|hx
  ·obtain⟨s,hs,rfl⟩:=dI.1 hx;obtain⟨i,hi,rfl⟩:=List.getElem_of_mem hs;have:=M.eu (av hi);exact uZ _ (amB _) (fun n hn=>by simp only[Ln.gq,cE,List.not_mem_nil,or_false]at hn;rcases hn with rfl|rfl|rfl<;>omega) (by show 3≤3;decide)
  ·rcases ei.1 hx with hx|hx
   ·obtain⟨k,hk,rfl⟩:=dI.1 hx;have hkb:=vy M k hk;have hi:k.toNat<v.ag.length:=(by omega);have e:fE v k=v.ag[k.toNat]:=(by unfold fE;rw[bB,av hi];rfl);have:=M.eu (av hi);rw[←e]at this;exact uZ _ (by show 4≤9;decide) (fun n hn=>by simp only[Ln.gq,cE,List.not_mem_nil,or_false]at hn;rcases hn with rfl|rfl<;>omega) (by show 2≤3;decide)
   ·obtain⟨p,hp,rfl⟩:=dI.1 hx;obtain⟨i,hi,rfl⟩:=List.getElem_of_mem hp;have:=M.gv (av hi);exact uZ _ (by show 4≤9;decide) (fun n hn=>by simp only[Ln.gq,cE,List.not_mem_nil,or_false]at hn;rcases hn with rfl|rfl|rfl<;>omega) (by show 3≤3;decide)
theorem Ax {v:aj} (M:gY v):v.ag.length≤4096∧v.aE.length≤200∧v.aI.length≤200:=⟨M.len.2,M.Ak,M.AY⟩
def SZ (h:aa) (cs:List Value) (pre:List (List UInt8)) (σ:St):Prop:=∃o w,Ext h σ.m.h∧Ow 9 lJ h σ.m.h o pre w∧σ.t.get 1=some (.pointer (some ⟨1,0,some 0⟩))∧σ.t.get 4=some w∧σ.m.x.look 1=some (63,cs)
def BW (s1 s2 s3:Nat) (cs:List Value) (sv:Value) (pre xs:List (List UInt8)) (m:Nat) (h:aa) (n:Nat) (σ:St):Prop:=∃(i:Nat) (o:Option Nat) (w:Value),n=m-i∧i≤m∧Ext h σ.m.h∧Ow 9 lJ h σ.m.h o (pre++xs.take i) w∧σ.t.get 1=some (.pointer (some ⟨1,0,some 0⟩))∧σ.t.get 4=some w∧σ.t.get s1=some sv∧σ.t.get s2=some (.int .i64 (m:Nat))∧σ.t.get s3=some (.int .i64 (i:Nat))∧σ.m.x.look 1=some (63,cs)
def SI (sv:Value) (pre xs:List (List UInt8)) (m:Nat) (h:aa) (n:Nat) (σ:St):Prop:=∃(i:Nat) (o:Option Nat) (w:Value),n=m-i∧i≤m∧Ext h σ.m.h∧Ow 9 lJ h σ.m.h o (pre++xs.take i) w∧σ.t.get 4=some w∧σ.t.get 62=some sv∧σ.t.get 63=some (.int .i64 (m:Nat))∧σ.t.get 64=some (.int .i64 (i:Nat))
theorem AP {h G:aa} (E:Ext h G) (l:List (List UInt8)) (hne:l≠[]) {cells:List Value} (hc:cells=l.flatMap lJ) {n:Nat} (hn:n=l.length):Ow 9 lJ h (G.new (.row true 9 cells)) (some G.n) l (.slice (some ⟨G.n,0,none⟩) n n):=by
 refine⟨by rw[hn];rfl,?_,E.n,by simp⟩;rw[hc];simp
theorem ahK (v:aj) (hm:aN v=true) (cs:List Value) (h:aa) (G:cz h) (H:fw h v cs):
  ao PP 45 [.agg ⟨cs⟩] h (fun r h'=>Ext h h'∧r= .tuple #[.string (B (gJ v)),.int .i64 0]):=by
 refine aC mix (aD Tryz.func45) rfl rfl rfl afz ?_;simp only[ai,Tryz.f45];have M:=k8 hm;obtain⟨hl1,hl2,hl3⟩:=Ax M;have hmay:=V.mS v cs M.small h H.dF;rw[hm]at hmay;have hgap:=M.aW;have hrad:=M.bC;obtain⟨s,k,p,rfl,z1,z2,z3⟩:=H;obtain⟨b1,d1,rfl⟩:=z1.shape;obtain⟨b2,d2,rfl⟩:=z2.shape;obtain⟨b3,d3,rfl⟩:=z3.shape;obtain⟨ms,hms⟩:∃m,m=v.ag.length:=⟨_,rfl⟩;obtain⟨mk,hmk⟩:∃m,m=v.aE.length:=⟨_,rfl⟩;obtain⟨mp,hmp⟩:∃m,m=v.aI.length:=⟨_,rfl⟩;have hr1:List.range 1=[0]:=rfl;have hr2:List.range 2=[0,1]:=rfl;have hr3:List.range 3=[0,1,2]:=rfl;obtain⟨g,hg⟩:∃g,g=v.aW:=⟨_,rfl⟩;obtain⟨r,hr⟩:∃r,r=v.bC:=⟨_,rfl⟩;obtain⟨cs,hcs⟩:∃cs,cs=[Value.slice b1 ms d1,Value.int IntKind.i64 g,Value.int IntKind.i64 r,Value.slice b2 mk d2,Value.slice b3 mp d3]:=⟨_,rfl⟩;rw[←hg,←hr,←hms,←hmk,←hmp]at hmay ⊢;rw[←hg]at hgap;rw[←hr]at hrad;have lg:=fun s H G I=>sg [103,97,112] [g] (by decide) (by simp) (fun n hn=>by rw[eo]at hn;subst hn;omega) s H G I;have lr:=fun s H G I=>sg [114,97,100,105,117,115] [r] (by decide) (by simp) (fun n hn=>by rw[eo]at hn;subst hn;omega) s H G I;have pre2:[(Ln.aW g).bytes,(Ln.eJ r).bytes].flatMap lJ=[.string (B ([103,97,112]++cZ [g])),.string (B ([114,97,100,105,117,115]++cZ [r]))]:=rfl;simp -implicitDefEqProofs;refine hmay.mono ?_;rintro rr h' ⟨e,rfl⟩;replace e:=e.symm;subst e;simp -implicitDefEqProofs[af];intro _;refine wL (SZ h cs [(Ln.aW g).bytes,(Ln.eJ r).bytes]) ?_ ?_
 ·rw[jA,jA,jA,uS];have Eg:=Ext.new h (.row true 3 ([g].map (Value.int .i64)));have Er:=Ext.new h (.row true 3 ([r].map (Value.int .i64)));have Egr:=Ext.new (h.new (.row true 3 ([g].map (Value.int .i64)))) (.row true 3 ([r].map (Value.int .i64)));have Erg:=Ext.new (h.new (.row true 3 ([r].map (Value.int .i64)))) (.row true 3 ([g].map (Value.int .i64)));have Ig:=oF h [g] (by simp);have Ir:=oF h [r] (by simp);have Igr:=oF (h.new (.row true 3 ([g].map (Value.int .i64)))) [r] (by simp);have Irg:=oF (h.new (.row true 3 ([r].map (Value.int .i64)))) [g] (by simp);refine⟨?_,?_,?_,trivial⟩
  ·simp -implicitDefEqProofs[aP,hr1,hr2];refine(lg _ _ (G.ext Eg) Ig).mono ?_;rintro rr h' ⟨rfl,rfl⟩;simp -implicitDefEqProofs[aJ,aP,hr1,hr2];intro _;refine(lr _ _ ((G.ext Eg).ext Egr) Igr).mono ?_;rintro rr h' ⟨rfl,rfl⟩;simp -implicitDefEqProofs[aJ,aP,hr1,hr2];intro _;exact⟨_,_,(Eg.trans Egr).bN _,AP (Eg.trans Egr) _ (by simp) pre2.symm rfl,by simp[hcs]⟩
  ·simp -implicitDefEqProofs[aP,hr1,hr2];refine(lg _ _ ((G.ext Eg).ext Egr) (Ig.ext Egr)).mono ?_;rintro rr h' ⟨rfl,rfl⟩;simp -implicitDefEqProofs[aJ,aP,hr1,hr2];intro _;refine(lr _ _ ((G.ext Eg).ext Egr) Igr).mono ?_;rintro rr h' ⟨rfl,rfl⟩;simp -implicitDefEqProofs[aJ,aP,hr1,hr2];intro _;exact⟨_,_,(Eg.trans Egr).bN _,AP (Eg.trans Egr) _ (by simp) pre2.symm rfl,by simp[hcs]⟩
  ·simp -implicitDefEqProofs[aP,hr1,hr2];refine(lg _ _ ((G.ext Er).ext Erg) Irg).mono ?_;rintro rr h' ⟨rfl,rfl⟩;simp -implicitDefEqProofs[aJ,aP,hr1,hr2];intro _;refine(lr _ _ ((G.ext Er).ext Erg) (Ir.ext Erg)).mono ?_;rintro rr h' ⟨rfl,rfl⟩;simp -implicitDefEqProofs[aJ,aP,hr1,hr2];intro _;exact⟨_,_,(Er.trans Erg).bN _,AP (Er.trans Erg) _ (by simp) pre2.symm rfl,by simp[hcs]⟩
 ·rintro⟨T,⟨x,G0⟩⟩ ⟨o,w,E,W,g1,g4,x1⟩;simp at E W g1 g4 x1;obtain⟨P0,hP0⟩:∃P,P=[(Ln.aW g).bytes,(Ln.eJ r).bytes]:=⟨_,rfl⟩;obtain⟨X1,hX1⟩:∃X,X=v.ag.map fun s=>(Ln.eu s).bytes:=⟨_,rfl⟩;obtain⟨X2,hX2⟩:∃X,X=v.aE.map fun k=>(Ln.kill (fE v k).row (fE v k).x).bytes:=⟨_,rfl⟩;obtain⟨X3,hX3⟩:∃X,X=v.aI.map fun p=>(Ln.gv p).bytes:=⟨_,rfl⟩;have aQ:(dG v).map Ln.bytes=P0++(X1++(X2++X3)):=by
   rw[hP0,hX1,hX2,hX3,hg,hr];simp[dG,Function.comp_def]
  have hX1l:X1.length=ms:=by rw[hX1,hms];simp
  have hX2l:X2.length=mk:=by rw[hX2,hmk];simp
  have hX3l:X3.length=mp:=by rw[hX3,hmp];simp
  have hP0l:P0.length=2:=by rw[hP0];rfl
  rw[←hP0]at W;have hwn:cu w=true:=by rw[W.1];rfl
  simp only[cu,iY,Option.isNone_iff_eq_none]at hwn;simp -implicitDefEqProofs[g1,g4,x1,hcs,hwn];rw[←hcs];refine bL (BW 24 25 26 cs (.slice b1 ms d1) P0 X1 ms h) _ ⟨0,o,_,rfl,by omega,E,by simpa using W,by simp[g1,g4,x1]⟩ ?_;clear W E g1 g4 x1;rintro n1 ⟨T,⟨x,H1⟩⟩ ⟨i,o,w,rfl,hi,E,W,g1,g4,gs,gm,gi,x1⟩;simp at E W g1 g4 gs gm gi x1;have hwn:cu w=true:=by rw[W.1];rfl
  simp only[cu,iY,Option.isNone_iff_eq_none]at hwn;rw[hcs]at x1;simp -implicitDefEqProofs[g1,g4,gs,gm,gi,x1,hwn];refine bY (fun hc=>?_) (fun hc=>?_)
  ·have him:i<ms:=(by omega);have w1:=bU (i:=i) (by omega);have hti:v.ag[i]? =some v.ag[i]:=av (by omega);obtain⟨t,ht⟩:∃t,t=v.ag[i]:=⟨_,rfl⟩;rw[←ht]at hti;have zz:=z1.ext E;rw[←hms]at zz;obtain⟨_,b',o1,cells',rr,rfl,hb',hd',hlc,_⟩:=zz.at 4 V.gK hti;have hse:=M.eu hti;have hps:=ahP t (by omega) (fun n hn=>by simp at hn;rcases hn with rfl|rfl|rfl<;>omega) H1 (G.ext E);have hxi:X1[i]? =some (Ln.eu t).bytes:=(by rw[hX1,ix,hti];rfl);have hnx:P0++X1.take (i+1)=(P0++X1.take i)++[(Ln.eu t).bytes]:=(by rw[fI,hxi,eD];rfl);have hal:(P0++X1.take i).length≤10000:=(by rw[bF,cQ,hP0l];omega);obtain⟨acc,hacc⟩:∃acc,acc=P0++X1.take i:=⟨_,rfl⟩;rw[←hacc]at W hal hnx;obtain⟨rfl,_⟩:=id W;obtain⟨by_,hby⟩:∃z,z=(Ln.eu t).bytes:=⟨_,rfl⟩;rw[←hby]at hnx hps;simp only[bD,au]at hps;simp -implicitDefEqProofs[g1,g4,gs,gm,gi,x1,him,hb',hd',hlc,au];refine hps.mono ?_;rintro rr H2 ⟨E2,rfl⟩;have W2:=W.ext E2;have hA:=jB zI W2 by_ (by omega);simp only[lJ]at hA;simp -implicitDefEqProofs[af,g1,g4,gs,gm,gi,x1,aP,hr1,hA,w1];intro _;refine⟨ms-(i+1),by omega,i+1,some (H2.n+1),.slice (some ⟨H2.n+1,0,none⟩) (acc.length+1) (acc.length+1),rfl,by omega,jD (E.trans E2) W2 _ _,?_,by simp[g1,gs,gm,x1,hcs]⟩;rw[hnx];exact Ow.one W2 (E.trans E2).n _ by_ rfl
  ·have him:i=ms:=(by omega);rw[him,bZ (by omega)]at W;obtain⟨P1,hP1⟩:∃P,P=P0++X1:=⟨_,rfl⟩;have hP1l:P1.length≤5000:=(by rw[hP1,bF];omega);rw[←hP1]at W;simp -implicitDefEqProofs[g1,g4,x1,hwn];rw[←hcs];refine bL (BW 37 38 39 cs (.slice b2 mk d2) P1 X2 mk h) _ ⟨0,o,_,rfl,by omega,E,by simpa using W,by simp[g1,g4,x1,hcs]⟩ ?_;clear W E g1 g4 x1 gs gm gi hc him hi;rintro n1 ⟨T,⟨x,H1⟩⟩ ⟨i,o,w,rfl,hi,E,W,g1,g4,gs,gm,gi,x1⟩;simp at E W g1 g4 gs gm gi x1;have hwn:cu w=true:=(by rw[W.1];rfl);simp only[cu,iY,Option.isNone_iff_eq_none]at hwn;rw[hcs]at x1;simp -implicitDefEqProofs[g1,g4,gs,gm,gi,x1,hwn];refine bY (fun hc=>?_) (fun hc=>?_)
   ·have him:i<mk:=(by omega);have w1:=bU (i:=i) (by omega);have hti:v.aE[i]? =some v.aE[i]:=av (by omega);obtain⟨t,ht⟩:∃t,t=v.aE[i]:=⟨_,rfl⟩;rw[←ht]at hti;have zz:=z2.ext E;rw[←hmk]at zz;obtain⟨_,b',o1,cells',rr,rfl,hb',hd',hlc,_⟩:=zz.at 1 V.dV hti;rw[Nat.mul_one]at hd' hlc;have hkb:=vy M t (dY hti);obtain⟨kn,rfl⟩:∃kn:Nat,t=kn:=⟨t.toNat,by omega⟩;have hkms:kn<ms:=(by omega);have huj:v.ag[kn]? =some v.ag[kn]:=av (by omega);obtain⟨u,hu⟩:∃u,u=v.ag[kn]:=⟨_,rfl⟩;rw[←hu]at huj;have zs:=z1.ext E;rw[←hms]at zs;obtain⟨_,b5,o5,cells5,rr5,rfl,hb5,hd5,hlc5,_⟩:=zs.at 4 V.gK huj;have hd5':cells5.drop (o5+kn*4+1)=[Value.int .i64 u.x,.int .i64 u.y,.int .i64 u.kind]++rr5:=(by rw[←fx,hd5];rfl);have q1:o5+kn*4+1≤cells5.length:=(by omega);have q2:o5+kn*4+1+1≤cells5.length:=(by omega);have q3:o5+kn*4+2≤cells5.length:=(by omega);have hsa:fE v (kn:Nat)=u:=(by unfold fE;rw[jN,bB,huj];rfl);have hse:=M.eu huj;have Ik:=oF H1 [u.row,u.x] (by simp);have Ek:=Ext.new H1 (.row true 3 ([u.row,u.x].map (Value.int .i64)));have hli:=sg [107,105,108,108] [u.row,u.x] (by decide) (by simp) (fun n hn=>by simp at hn;rcases hn with rfl|rfl<;>omega) _ _ ((G.ext E).ext Ek) Ik;have hxi:X2[i]? =some (Ln.kill u.row u.x).bytes:=(by rw[hX2,ix,hti,fJ,hsa]);have hnx:P1++X2.take (i+1)=(P1++X2.take i)++[(Ln.kill u.row u.x).bytes]:=(by rw[fI,hxi,eD];rfl);have hal:(P1++X2.take i).length≤10000:=(by rw[bF,cQ];omega);obtain⟨acc,hacc⟩:∃acc,acc=P1++X2.take i:=⟨_,rfl⟩;rw[←hacc]at W hal hnx;obtain⟨rfl,_⟩:=id W;have hby0:(Ln.kill u.row u.x).bytes=[107,105,108,108]++cZ [u.row,u.x]:=rfl;rw[hby0]at hnx;obtain⟨by_,hby⟩:∃z,z=[107,105,108,108]++cZ [u.row,u.x]:=⟨_,rfl⟩;rw[←hby]at hnx hli;have W2:=W.ext Ek;have hA:=jB zI W2 by_ (by omega);simp only[lJ]at hA;simp only[eT,List.map_nil,eE,qx,ef,jh,Nat.reduceAdd]at hli hA W2 Ek;simp -implicitDefEqProofs[g1,g4,gs,gm,gi,x1,him,hb',hd',hlc,ab,hkms,hb5,hd5,hd5',hlc5,q1,q2,q3,au,aP,hr1,hr2];refine hli.mono ?_;rintro rr h' ⟨rfl,rfl⟩;simp -implicitDefEqProofs[aJ,g1,g4,gs,gm,gi,x1,aP,hr1,hA,w1];intro _;refine⟨mk-(i+1),by omega,i+1,some (H1.n+1+1),.slice (some ⟨H1.n+1+1,0,none⟩) (acc.length+1) (acc.length+1),rfl,by omega,jD (E.trans Ek) W2 _ _,?_,by simp[g1,gs,gm,x1,hcs]⟩;rw[hnx];exact Ow.one W2 (E.trans Ek).n _ by_ rfl
   ·have him:i=mk:=(by omega);rw[him,bZ (by omega)]at W;obtain⟨P2,hP2⟩:∃P,P=P1++X2:=⟨_,rfl⟩;have hP2l:P2.length≤6000:=(by rw[hP2,bF];omega);rw[←hP2]at W;simp -implicitDefEqProofs[g1,g4,x1,hwn];refine bL (SI (.slice b3 mp d3) P2 X3 mp h) _ ⟨0,o,_,rfl,by omega,E,by simpa using W,by simp[g4]⟩ ?_;clear W E g1 g4 x1 gs gm gi hc him hi;rintro n1 ⟨T,⟨x,H1⟩⟩ ⟨i,o,w,rfl,hi,E,W,g4,gs,gm,gi⟩;simp at E W g4 gs gm gi;have hwn:cu w=true:=(by rw[W.1];rfl);simp only[cu,iY,Option.isNone_iff_eq_none]at hwn;simp -implicitDefEqProofs[g4,gs,gm,gi,hwn];refine bY (fun hc=>?_) (fun hc=>?_)
    ·have him:i<mp:=(by omega);have w1:=bU (i:=i) (by omega);have hti:v.aI[i]? =some v.aI[i]:=av (by omega);obtain⟨t,ht⟩:∃t,t=v.aI[i]:=⟨_,rfl⟩;rw[←ht]at hti;have zz:=z3.ext E;rw[←hmp]at zz;obtain⟨_,b',o1,cells',rr,rfl,hb',hd',hlc,_⟩:=zz.at 3 V.pQ hti;have hpo:=M.gv hti;have Ik:=oF H1 [t.x,t.y,t.r] (by simp);have Ek:=Ext.new H1 (.row true 3 ([t.x,t.y,t.r].map (Value.int .i64)));have hli:=sg [112,111,108,101] [t.x,t.y,t.r] (by decide) (by simp) (fun n hn=>by simp at hn;rcases hn with rfl|rfl|rfl<;>omega) _ _ ((G.ext E).ext Ek) Ik;have hxi:X3[i]? =some (Ln.gv t).bytes:=(by rw[hX3,ix,hti];rfl);have hnx:P2++X3.take (i+1)=(P2++X3.take i)++[(Ln.gv t).bytes]:=(by rw[fI,hxi,eD];rfl);have hal:(P2++X3.take i).length≤10000:=(by rw[bF,cQ];omega);obtain⟨acc,hacc⟩:∃acc,acc=P2++X3.take i:=⟨_,rfl⟩;rw[←hacc]at W hal hnx;obtain⟨rfl,_⟩:=id W;have hby0:(Ln.gv t).bytes=[112,111,108,101]++cZ [t.x,t.y,t.r]:=rfl;rw[hby0]at hnx;obtain⟨by_,hby⟩:∃z,z=[112,111,108,101]++cZ [t.x,t.y,t.r]:=⟨_,rfl⟩;rw[←hby]at hnx hli;have W2:=W.ext Ek;have hA:=jB zI W2 by_ (by omega);simp only[lJ]at hA;simp only[eT,List.map_nil,eE,qx,ef,jh,Nat.reduceAdd]at hli hA W2 Ek;simp -implicitDefEqProofs[g4,gs,gm,gi,him,hb',hd',hlc,bg,aP,hr1,hr3];refine hli.mono ?_;rintro rr h' ⟨rfl,rfl⟩;simp -implicitDefEqProofs[af,g4,gs,gm,gi,aP,hr1,hA,w1];intro _;refine⟨mp-(i+1),by omega,i+1,some (H1.n+1+1),.slice (some ⟨H1.n+1+1,0,none⟩) (acc.length+1) (acc.length+1),rfl,by omega,jD (E.trans Ek) W2 _ _,?_,by simp[gs,gm]⟩;rw[hnx];exact Ow.one W2 (E.trans Ek).n _ by_ rfl
    ·have him:i=mp:=(by omega);rw[him,bZ (by omega)]at W;have hfin:P2++X3=(dG v).map Ln.bytes:=(by rw[aQ,hP2,hP1];simp);rw[hfin]at W;have hne:(dG v).map Ln.bytes≠[]:=(by rw[aQ,hP0];simp);have hll:((dG v).map Ln.bytes).length≤6000:=(by rw[aQ];simp only[bF];omega);have hjj:=Zh ((dG v).map Ln.bytes) hne;have hjl:(Lib.join ((dG v).map Ln.bytes) [10]).length≤1000000000:=by
      have q:=JM _ (Nr M);have q2:=congrArg List.length hjj;rw[bF,ji]at q2;omega
     have hjo:=F.Zi _ ((dG v).map Ln.bytes) [10] (by omega) (by omega) h H1 (G.ext E) o W;have hpv:gJ v=fR ((dG v).map Ln.bytes):=rfl;rw[←hpv]at hjj;obtain⟨J,hJ⟩:∃J,J=Lib.join ((dG v).map Ln.bytes) [10]:=⟨_,rfl⟩;rw[←hJ]at hjl hjo hjj;have f1:J.length≤9223372036854775806:=(by omega);simp -implicitDefEqProofs[g4,hwn];refine hjo.mono ?_;rintro rr h' ⟨rfl,rfl⟩;simp -implicitDefEqProofs[af,f1];intro _;exact⟨E,by rw[←hjj]⟩
def ng (b:aG) (i:Nat):List dO:=(if b.has then[gz (gJ b.v)]else[])++([iG b.now]++(b.l.take i).map gy)
theorem ah8 (b:aG) (i:Nat) {t:aH} (h:b.l[i]? =some t):ng b (i+1)=ng b i++[gy t]:=by
 unfold ng;rw[fI,h,Option.toList_some,lk,←eD,←eD,←eD];rfl
theorem O9 (b:aG) (i:Nat):(ng b i).length≤i+2:=by
 unfold ng;rw[bF,bF,cN,cQ,ji];split<;>simp<;>omega
theorem ah5 (b:aG):j8 b=ng b b.l.length++[recC]:=by
 unfold j8 ng;rw[kH,eD,eD]
def SQ (h:aa) (a:Nat) (pre:List dO) (σ:St):Prop:=∃(o:Option Nat) (w:Value),Ext h σ.m.h∧Ow 73 er h σ.m.h o pre w∧σ.t.get 0=some (.pointer (some ⟨a,0,none⟩))∧σ.t.get 3=some w
def RI (h:aa) (b:aG) (lv:Value) (m n:Nat) (σ:St):Prop:=∃(i:Nat) (o:Option Nat) (w:Value),n=m-i∧i≤m∧Ext h σ.m.h∧Ow 73 er h σ.m.h o (ng b i) w∧σ.t.get 3=some w∧σ.t.get 38=some lv∧σ.t.get 39=some (.int .i64 (m:Nat))∧σ.t.get 40=some (.int .i64 (i:Nat))
theorem yo {h0 h:aa} {a:Nat} {b:aG} {vc:List Value} {ov:Value} {o:Option Nat} (hl:b.l.length≤1048576) (hm:b.has=true→aN b.v=true) (G0:cz h0) (B:bz h0 h a b vc ov o):
  ao PP 19 [.pointer (some ⟨a,0,none⟩)] h (fun r h'=>Ext h h'∧aK 73 er h' r (j8 b)):=by
 refine ao.jT (post:=fun v' h'=>Ext h h'∧cL 73 er h h' v' (j8 b)) ?_ (fun v h' ⟨E,W⟩=>by
  obtain⟨h'',w,E',S⟩:=W.dB E;exact⟨h'',w,E',S⟩)
 refine aC mix (aD Tryz.func19) rfl rfl rfl aec ?_;simp only[ai,Tryz.f19];rw[ah5];have hr1:List.range 9=[0,1,2,3,4,5,6,7,8]:=rfl;have hrow:=B.row;have hS:=B.dL.sl;have hpr:=fun q=>ahK b.v (hm q) vc h (G0.ext B.ext) B.dF;obtain⟨x1,y1,m1,g1,r1,x2,m2,y2,x3,m3,y3,e1⟩:=B.dF.shape;obtain⟨x7,y7,e3⟩:=B.dL.shape;subst e1;subst e3;simp only[iy,dp,dA]at hrow;refine wi 4 (SQ h a (if b.has then[gz (gJ b.v)]else[])) ?_ ?_
 ·simp only[sa,rZ];by_cases q:b.has=true
  ·rw[if_pos q];simp -implicitDefEqProofs[hrow,q];refine(hpr q).mono ?_;rintro r H ⟨E,rfl⟩;have W0:Ow 73 er h H none ([]:List dO) (.slice none 0 0):=Ow.nil;have hA:=jB qC W0 (gz (gJ b.v)) (by decide);have k1:[Value.int .i64 1,.string (Go.Am.B (gJ b.v)),.int .i64 0,.int .i64 0,.int .i64 0,.int .i64 0,.int .i64 0,.int .i64 0,.int .i64 0]=er (gz (gJ b.v)):=rfl;simp only[List.flatMap_nil,dA,qx,jh]at hA;rw[←k1]at hA;simp -implicitDefEqProofs[af,aP,hr1,hA];intro _;exact⟨_,_,jD E W0 _ _,Ow.one W0 E.n _ (gz (gJ b.v)) rfl,by simp⟩
  ·rw[if_neg q];simp -implicitDefEqProofs[hrow,q];exact⟨none,_,Ext.bJ h,Ow.nil,by simp⟩
 ·simp only[sZ,qg];rintro⟨T,⟨x,G⟩⟩ ⟨oo,w,E,W,g0,g3⟩;simp at E W g0 g3;have hpl:(if b.has then[gz (gJ b.v)]else[]).length≤1:=by split<;>simp
  have e0:ng b 0=(if b.has then[gz (gJ b.v)]else[])++[iG b.now]:=by unfold ng;simp
  obtain⟨pre,hpre⟩:∃p,p=(if b.has then[gz (gJ b.v)]else[]):=⟨_,rfl⟩;rw[←hpre]at W hpl e0;have hrG:=hrow;rw[←E.f a B.a1]at hrG;obtain⟨m,hm'⟩:∃m,m=b.l.length:=⟨_,rfl⟩;have hne:∀c c',(cg (G.new c) oo c').f a=G.f a:=fun c c'=>by
   rw[qz _ _ _ (by rw[ef];have:=E.n;have:=B.a1;omega) (fun e=>by have:=(W.lt a e).1;have:=B.a1;omega),qF,if_neg (by have:=E.n;have:=B.a1;omega)]
  rw[←hm']at hS hrG ⊢;obtain⟨rfl,_⟩:=id W;have hA:=jB qC W (iG b.now) (by omega);have k3:[Value.int .i64 3,.string (Go.Am.B []),.int .i64 0,.int .i64 0,.int .i64 0,.int .i64 0,.int .i64 0,.int .i64 0,.int .i64 b.now]=er (iG b.now):=rfl;rw[←k3]at hA;simp -implicitDefEqProofs[g0,g3,hrG,aP,hr1,hA,hne];refine bL (RI h b (.slice x7 m y7) m) _ ⟨0,some (G.n+1),.slice (some ⟨G.n+1,0,none⟩) (pre.length+1) (pre.length+1),rfl,by omega,jD E W _ _,by rw[e0];exact Ow.one W E.n _ (iG b.now) rfl,by simp⟩ ?_;clear W g0 g3 hrG E hA hne;rintro n ⟨T,⟨x,G⟩⟩ ⟨i,oo,w,rfl,hi,E,W,g3,g38,g39,g40⟩;simp at E W g3 g38 g39 g40;simp -implicitDefEqProofs[g3,g38,g39,g40];refine bY (fun hc=>?_) (fun hc=>?_)
  ·have him:i<m:=(by omega);have w1:=bU (i:=i) (by omega);have hti:b.l[i]? =some b.l[i]:=av (by omega);obtain⟨_,b',o1,w0,cells',r,rfl,hb',hd',hlc,_⟩:=(hS.ext E).at 6 ir hti;obtain⟨t,ht⟩:∃t,t=b.l[i]:=⟨_,rfl⟩;rw[←ht]at hd' hti;have hk6:(cells'.drop (o1+i*6)).take 6=aM t:=(by rw[hd'];rfl);have hnx:=ah8 b i hti;have hal:=O9 b i;obtain⟨acc,hacc⟩:∃acc,acc=ng b i:=⟨_,rfl⟩;rw[←hacc]at W hal hnx;obtain⟨rfl,_⟩:=id W;have hA:=jB qC W (gy t) (by omega);have k2:[Value.int .i64 2,.string (Go.Am.B []),.int .i64 t.id,.int .i64 t.state,.int .i64 t.aO.size,.int .i64 t.aO.du,.int .i64 t.fZ,.int .i64 t.first,.int .i64 0]=er (gy t):=rfl;rw[←k2]at hA;simp only[aM]at hk6;simp -implicitDefEqProofs[g3,g38,g39,g40,him,hb',hk6,hlc,aP,hr1,hA,w1];refine⟨m-(i+1),by omega,i+1,some (G.n+1),.slice (some ⟨G.n+1,0,none⟩) (acc.length+1) (acc.length+1),rfl,by omega,jD E W _ _,?_,by simp⟩;rw[hnx];exact Ow.one W E.n _ (gy t) rfl
  ·have e:i=m:=(by omega);subst e;have hal:=O9 b i;obtain⟨acc,hacc⟩:∃acc,acc=ng b i:=⟨_,rfl⟩;rw[←hacc]at W hal ⊢;obtain⟨rfl,_⟩:=id W;have hA:=jB qC W recC (by omega);have k4:[Value.int .i64 4,.string (Go.Am.B []),.int .i64 0,.int .i64 0,.int .i64 0,.int .i64 0,.int .i64 0,.int .i64 0,.int .i64 0]=er recC:=rfl;rw[←k4]at hA;simp -implicitDefEqProofs[g3,aP,hr1,hA];exact⟨jD E W _ _,(Ow.one W E.n _ recC rfl).own⟩
end Go.Proofs.Ybk.K
namespace Go.Proofs.Ybk.K
open Go Go.Am
set_option maxHeartbeats 4000000
open V (aq aU aj au bg ab bD aN aB cF cJ bq bR)
open F (cz)
theorem aay {r:dO} (h:iZ r=true) (k:r.kind=1):r.text.length≤1048576:=by
 unfold iZ at h;rw[if_pos k]at h;simp only[bX,dP]at h;exact h.1
theorem NH {r:dO} (h:iZ r=true) (k:r.kind=2):lG r.order=true:=by
 unfold iZ at h;rw[if_neg (by omega),if_pos k]at h;simp only[bX]at h;exact h.1
theorem aaz {r:dO} (h:iZ r=true) (k:r.kind=3):0≤r.time∧r.time≤1099511627776:=by
 unfold iZ at h;rw[if_neg (by omega),if_neg (by omega),if_pos k]at h;unfold aB at h;simp only[bX,dP]at h;omega
theorem Oz {o:aH} (h:lG o=true):(1≤o.id∧o.id≤2147483647)∧ja o.first:=by
 unfold lG aB at h;simp only[bX,dP]at h;exact⟨by omega,by omega,by omega⟩
theorem ala {N:Nat} {b b':aG} {r:dO} (H:eh N b) (h:j9 b r=some b'):eh (N+1) b':=by
 have H1:eh (N+1) b:=H.mono (by omega);unfold j9 at h;by_cases hm:iZ r=true;rotate_left
 ·rw[if_pos (by simpa using hm)]at h;cases h
 rw[if_neg (by rw[hm];decide)]at h;by_cases k1:r.kind=1
 ·rw[if_pos k1]at h;cases hp:(fc r.text).1 with
  |some e=>rw[hp]at h;cases h
  |none=>
   rw[hp]at h;simp only[aw]at h;subst h;exact⟨H.f0,H.f1,H.n0,H.n1,H1.len,fun _=>AR hp,H.fst⟩
 rw[if_neg k1]at h;by_cases k3:r.kind=3
 ·rw[if_pos k3]at h;split at h
  ·simp only[aw]at h;subst h;have:=aaz hm k3;exact⟨H.f0,H.f1,this.1,this.2,H1.len,H.may,H.fst⟩
  ·cases h
 rw[if_neg k3]at h;by_cases k2:r.kind=2
 ·rw[if_pos k2]at h;have ho:=(Oz (NH hm k2)).2;split at h
  ·cases h
  ·split at h
   ·simp only[aw]at h;subst h;refine⟨H.f0,H.f1,H.n0,H.n1,by show(b.l++[r.order]).length≤_;rw[bF,ji];have:=H.len;omega,H.may,fun o q=>?_⟩;rcases ei.1 q with q|q
    ·exact H.fst o q
    ·rw[eo]at q;subst q;exact ho
   ·simp only[aw]at h;subst h;exact⟨H.f0,H.f1,H.n0,H.n1,by show(b.l.set _ _).length≤_;rw[lj];exact H1.len,H.may,Bo H.fst _ ho⟩
 ·rw[if_neg k2]at h;cases h
theorem yD:∀(p q:List dO) (b:aG),fO (p++q) b=(fO p b).bind (fO q):=by
 intro p;induction p with
 |nil=>intro q b;rfl
 |cons r t ih=>
  intro q b;rw[dp,fO,fO];cases j9 b r with
  |none=>rfl
  |some b'=>exact ih q b'
def Th (h0 h:aa) (a:Nat) (o:Option Nat) (x:Option aG) (v:Value) (h':aa):Prop:=match x with
 |some b'=>v= .bool true∧cI h0 h h' a o b'
 |none=>v= .bool false∧cP (a::o.toList) h h'
theorem ak9 {h0 h:aa} {a:Nat} {b:aG} {vc:List Value} {ov:Value} {o:Option Nat} {N:Nat} (OK:eh N b) (hN:N≤1048000) (r:dO) (B:bz h0 h a b vc ov o):
  ao PP 41 [.pointer (some ⟨a,0,none⟩),nN r] h (Th h0 h a o (j9 b r)):=by
 refine aC mix (aD Tryz.func41) rfl rfl rfl afv ?_;simp only[ai,Tryz.f41];have hlen:=OK.len;have hmay:=ah4 r h;have hrow:=B.row;have hrow0:=B.row;have hW:=B.dL;obtain⟨a1,n1,c1,g,rr,a2,n2,c2,a3,n3,c3,a4,n4,c4,e1,e2,e3,hr⟩:=B.cells;subst e1;subst e2;subst e3;have cha:∀(F:aa) (x:aZ),Ext h F→cP (a::o.toList) h (F.set a x):=fun F x E=>(cP.fD E (S:=a::o.toList)).trans (jl F a x) (fun i hi _=>by rw[eo]at hi;subst hi;exact dH);simp only[iy,dp,dA]at hrow;simp only[nN,er]at hmay;have hr1:List.range 1=[0]:=rfl;unfold j9;simp -implicitDefEqProofs[nN,er];refine hmay.mono ?_;rintro v h' ⟨e,rfl⟩;replace e:=e.symm;subst e;by_cases hm:iZ r=true;rotate_left
 ·rw[if_pos (by simpa using hm)];simp -implicitDefEqProofs[af,hm];intro _;exact⟨rfl,cP.bJ _ _⟩
 rw[if_neg (by rw[hm];decide)];by_cases k1:r.kind=1
 ·rw[if_pos k1];simp -implicitDefEqProofs[af,hm,k1];intro _;refine(QG r.text (aay hm k1) h).mono ?_;rintro v G ⟨E,H⟩;have hrG:=hrow;rw[←E.f a B.a1]at hrG;have BG:=B.exts E;have hrG0:=BG.row;cases hp:(fc r.text).1 with
  |some e=>
   rw[hp]at H;obtain⟨be,rfl⟩:=H;simp -implicitDefEqProofs[af,V.kh,hrG];intro _;rw[mN];exact⟨rfl,cha _ _ E⟩
  |none=>
   rw[hp]at H;obtain⟨co,hV,rfl⟩:=H;have hV':=hV;obtain⟨s,k,p,rfl,z1,z2,z3⟩:=hV';obtain⟨b1,d1,rfl⟩:=z1.shape;obtain⟨b2,d2,rfl⟩:=z2.shape;obtain⟨b3,d3,rfl⟩:=z3.shape;simp -implicitDefEqProofs[af,hrG];intro _;rw[mN];exact⟨rfl,cI.oM (rO (b:={b with v:=mU (fc r.text).2,has:=true}) hrG0 BG.a0 BG.a1 BG.ext hV BG.dL rfl) (cha _ _ E)⟩
 rw[if_neg k1];by_cases k3:r.kind=3
 ·rw[if_pos k3];by_cases q:b.now≤r.time
  ·rw[if_pos q];simp -implicitDefEqProofs[af,hm,k1,k3,hrow,q];intro _;exact⟨rfl,cI.oM (rO (b:={b with now:=r.time}) hrow0 B.a0 B.a1 B.ext B.dF hW rfl) (cha _ _ (Ext.bJ h))⟩
  ·rw[if_neg q];simp -implicitDefEqProofs[af,hm,k1,k3,hrow,q];intro _;exact⟨rfl,cha _ _ (Ext.bJ h)⟩
 rw[if_neg k3];by_cases k2:r.kind=2;rotate_left
 ·rw[if_neg k2];simp -implicitDefEqProofs[af,hm,k1,k2,k3];intro _;exact⟨rfl,cP.bJ _ _⟩
 rw[if_pos k2];obtain⟨⟨i1,i2⟩,hf⟩:=Oz (NH hm k2);have wl:IntKind.wrap .i64 ((b.l.length:Int)+1)=(b.l.length:Int)+1:=bK (by omega);have hr6:List.range 6=[0,1,2,3,4,5]:=rfl;by_cases q1:(b.l.length:Int)+1<r.order.id
 ·rw[if_pos q1];simp -implicitDefEqProofs[af,hm,k1,k2,k3,hrow,wl,q1];intro _;exact⟨rfl,cP.bJ _ _⟩
 rw[if_neg q1];obtain⟨rk,rt,⟨oi,os,⟨op,ow⟩,ol,of_⟩,rm⟩:=r;simp only at k1 k2 k3 q1 i1 i2 hf;subst k2;obtain⟨X,hX⟩:∃X:aH,X=⟨oi,os,⟨op,ow⟩,ol,of_⟩:=⟨_,rfl⟩;have ro:aM X=[.int .i64 oi,.int .i64 os,.int .i64 op,.int .i64 ow,.int .i64 ol,.int .i64 of_]:=by rw[hX];rfl
 simp only;rw[←hX];rw[←hX]at hm;have key:∀(P Q:List Value) (t:aH) (k:Nat),P.length=k*6→(P++(aM t++Q)).take (k*6)++(aM X++(P++(aM t++Q)).drop (k*6+6))=P++(aM X++Q):=fun P Q t k hP=>by
  rw[show(P++(aM t++Q)).drop (k*6+6)=Q from mD (i:=6) hP];have:=s5 (X:=aM t++Q) (i:=0) hP;rw[gQ]at this;rw[this];simp
 by_cases q2:oi=(b.l.length:Int)+1
 ·rw[if_pos q2];subst q2;have hA:=uU I5 hW nm (by omega);obtain⟨p1,BX,CX⟩:=Cz B nm;have hz:aM nm=[Value.int .i64 0,.int .i64 0,.int .i64 0,.int .i64 0,.int .i64 0,.int .i64 0]:=rfl;obtain⟨F,hF⟩:∃F,F=cg (h.new (.row true 43 (aM nm))) o (.row true 43 (b.l.flatMap aM++aM nm)):=⟨_,rfl⟩;rw[←hF]at p1 BX CX hA;rw[hz]at hA;simp only[iy,dp,dA]at p1 BX CX;have hneG:¬a=h.n:=by have:=B.a1;omega
  obtain⟨⟨c',r',e,qq⟩,nn0,nn1⟩:=BX.dL;obtain⟨BS,KS⟩:=BX.uD (L:=b.l++[X]) (by simp) r';have hti:(b.l++[nm])[b.l.length]? =some nm:=by rw[iW (a8 _),n9];rfl
  obtain⟨P,Q,hP,s1,s2⟩:=sM hti r';have s3:=s2 X;rw[List.set_append_right _ _ (a8 _),n9,List.set_cons_zero]at s3;rw[s3]at BS;simp only at qq;rw[s1]at qq;have hst:=key P Q nm b.l.length hP;have hl6:b.l.length*6+6≤(P++(aM nm++Q)).length:=by rw[bF,hP,bF,ir];omega
  obtain⟨R,hR⟩:∃R,R=P++(aM nm++Q):=⟨_,rfl⟩;rw[←hR]at qq hst hl6;obtain⟨R2,hR2⟩:∃R,R=P++(aM X++Q):=⟨_,rfl⟩;rw[←hR2]at hst BS;rw[ro]at hst;simp only[dp,dA]at hst;have w1:IntKind.wrap .i64 (((b.l.length:Int)+1)-1)=(b.l.length:Int):=by rw[bK (by omega)];omega
  have w2:IntKind.wrap .i64 (b.l.length:Int)=(b.l.length:Int):=bK (by omega);have hlt:(b.l.length:Int)<(b.l.length:Int)+1:=by omega
  have hrF:(F.set a (.row true 77 [.int .i64 b.fuel,.bool b.has,.slice a1 n1 c1,.int .i64 g,.int .i64 rr,.slice a2 n2 c2,.slice a3 n3 c3,.slice (some ⟨h.n+1,0,none⟩) (b.l.length+1) (b.l.length+1),.int .i64 b.now])).f a= .row true 77 [.int .i64 b.fuel,.bool b.has,.slice a1 n1 c1,.int .i64 g,.int .i64 rr,.slice a2 n2 c2,.slice a3 n3 c3,.slice (some ⟨h.n+1,0,none⟩) (b.l.length+1) (b.l.length+1),.int .i64 b.now]:=by simp
  obtain⟨F2,hF2⟩:∃F2,F2=F.set a (.row true 77 [.int .i64 b.fuel,.bool b.has,.slice a1 n1 c1,.int .i64 g,.int .i64 rr,.slice a2 n2 c2,.slice a3 n3 c3,.slice (some ⟨h.n+1,0,none⟩) (b.l.length+1) (b.l.length+1),.int .i64 b.now]):=⟨_,rfl⟩;rw[←hF2]at hrF BS CX qq;have hF2':=hF2.symm;simp -implicitDefEqProofs[af,hm,hrow,wl,aP,hr6,hA,p1,hneG,hF2',hrF,w1,w2,hlt,qq,hl6,hst];intro _;exact⟨rfl,cI.trans CX (fun i hi=>.inr (by simp only[aw]at hi;omega)) (cI.oM BS ((jl F2 (h.n+1) _).mono fun x hx _=>by rw[eo]at hx;subst hx;simp))⟩
 ·rw[if_neg q2];obtain⟨k,rfl⟩:∃k:Nat,oi=(k:Int)+1:=⟨oi.toNat-1,by omega⟩;have hk:k<b.l.length:=by omega
  have ek:((k:Int)+1).toNat-1=k:=by omega
  rw[ek];have hti:b.l[k]? =some b.l[k]:=av hk;obtain⟨t,ht⟩:∃t,t=b.l[k]:=⟨_,rfl⟩;rw[←ht]at hti;cases o with
  |none=>
   have:=hW.2;rw[this]at hk;simp at hk
  |some bo=>
   obtain⟨⟨c',r',e,qq⟩,nn0,nn1⟩:=hW;simp only[Value.slice.injEq]at e;obtain⟨rfl,_,_⟩:=e;have BS:=(B.uD (L:=b.l.set k X) (by rw[lj]) r').1;obtain⟨P,Q,hP,s1,s2⟩:=sM hti r';rw[s2 X]at BS;rw[s1]at qq;have hst:=key P Q t k hP;have hl6:k*6+6≤(P++(aM t++Q)).length:=(by rw[bF,hP,bF,ir];omega);obtain⟨R,hR⟩:∃R,R=P++(aM t++Q):=⟨_,rfl⟩;rw[←hR]at qq hst hl6;obtain⟨R2,hR2⟩:∃R,R=P++(aM X++Q):=⟨_,rfl⟩;rw[←hR2]at hst BS;rw[ro]at hst;simp only[dp,dA]at hst;have w1:IntKind.wrap .i64 (((k:Int)+1)-1)=(k:Int):=(by rw[bK (by omega)];omega);have w2:IntKind.wrap .i64 (k:Int)=(k:Int):=bK (by omega);have q2':¬(k:Int)=(b.l.length:Int):=(by omega);have q2'':¬k=b.l.length:=(by omega);have q1':¬(b.l.length:Int)<(k:Int):=(by omega);have q1'':¬b.l.length<k:=(by omega);simp -implicitDefEqProofs[af,hm,hrow,wl,w1,w2,q1,q2,q2',q2'',q1',q1'',hk,qq,hl6,hst];intro _;exact⟨rfl,cI.oM BS ((jl h bo _).mono fun x hx _=>by rw[eo]at hx;subst hx;simp)⟩
def RD (h:aa) (a a':Nat) (b:aG) (l:List dO) (N:Nat) (lv:Value) (m n:Nat) (σ:St):Prop:=∃(i:Nat) (x:aG) (vc:List Value) (ov:Value) (o:Option Nat),n=m-i∧i≤m∧fO (l.take i) b=some x∧eh (N+i) x∧x.fuel=b.fuel∧bz h σ.m.h a' x vc ov o∧aK 73 er σ.m.h lv l∧
 σ.t.get 0=some (.pointer (some ⟨a,0,none⟩))∧σ.t.get 6=some (.pointer (some ⟨a',0,none⟩))∧σ.t.get 28=some lv∧σ.t.get 29=some (.int .i64 (m:Nat))∧σ.t.get 30=some (.int .i64 (i:Nat))
theorem ajn {α:Type} {e:TypeId} {enc:α→List Value} {h:aa} {ad:Addr} {n c:Nat} {xs:List α} (H:aK e enc h (.slice (some ad) n c) xs) (m:Nat) (hm:m≤xs.length):aK e enc h (.slice (some ad) m m) (xs.take m):=by
 obtain⟨ad',c1,q,nn,z⟩:=H;simp only[Value.slice.injEq]at q;obtain⟨rfl,rfl,rfl⟩:=q;have hl:(xs.take m).length=m:=by rw[cQ];omega
 refine⟨some ad,m,by rw[hl],fun z=>(by cases z),?_⟩;rcases z with rfl|⟨b,off,cells,rest,z1,z2,z3,z4,z5⟩
 ·exact .inl (by simp)
 ·exact .inr ⟨b,off,cells,(xs.drop m).flatMap enc++rest,z1,z2,by rw[z3,←eD,←List.flatMap_append,rI],z4,z5⟩
theorem ak8 {l:List dO} {i:Nat} {r:dO} {b x:aG} (h:fO (l.take i) b=some x) (hr:l[i]? =some r):fO (l.take (i+1)) b=j9 x r:=by
 rw[fI,hr,Option.toList_some,yD,h,dZ,fO];cases j9 x r<;>rfl
theorem ak7 {l:List dO} {i:Nat} {b:aG} (h:fO (l.take i) b=none):fO l b=none:=by
 have:=yD (l.take i) (l.drop i) b;rw[rI,h]at this;rw[this];rfl
theorem alb {b b':aG} {r:dO} (h:j9 b r=some b'):b'.fuel=b.fuel:=by
 unfold j9 at h;split at h
 ·cases h
 ·split at h
  ·split at h
   ·cases h
   ·simp only[aw]at h;subst h;rfl
  ·split at h
   ·split at h
    ·simp only[aw]at h;subst h;rfl
    ·cases h
   ·split at h
    ·split at h
     ·cases h
     ·split at h<;>(simp only[aw]at h;subst h;rfl)
    ·cases h
theorem zm {h0 h:aa} {a:Nat} {b:aG} {vc:List Value} {ov:Value} {o:Option Nat} {N:Nat} (OK:eh N b) (l:List dO) (hN:N+l.length≤1047000) (lv:Value) (S:aK 73 er h lv l) (B:bz h0 h a b vc ov o):
  ao PP 17 [.pointer (some ⟨a,0,none⟩),lv] h (fun v h'=>cI h0 h h' a o (oa b l).1∧v= .int .i64 (oa b l).2):=by
 refine aC mix (aD Tryz.func17) rfl rfl rfl adO ?_;simp only[ai,Tryz.f17];have hlen:=OK.len;have hcp:=GY (by omega) B;obtain⟨ad,cc,rfl⟩:=S.shape;rcases Nat.eq_zero_or_pos l.length with hz|hpos
 ·have hl:l=[]:=nu.1 hz;subst hl;have w0:IntKind.wrap .i64 (-1)= -1:=rfl;simp -implicitDefEqProofs[w0];exact⟨cI.fD B (Ext.bJ _),rfl⟩
 obtain⟨n,hn⟩:∃n,l.length=n+1:=⟨l.length-1,by omega⟩;have w1:IntKind.wrap .i64 (((n:Int)+1)-1)=(n:Int):=by rw[bK (by omega)];omega
 have w2:IntKind.wrap .i64 (n:Int)=(n:Int):=bK (by omega);have hnn:¬(n:Int)<0:=by omega
 have hlt:(n:Int)<(n:Int)+1:=by omega
 have hti:l[n]? =some l[n]:=av (by omega);obtain⟨t,ht⟩:∃t,t=l[n]:=⟨_,rfl⟩;rw[←ht]at hti;have S0:=S;obtain⟨_,b1,o1,cells,rr,rfl,hb,hd,hlc,hbn⟩:=S.at 9 vP hti;have hgl:l.getLast? =some t:=by rw[List.getLast?_eq_getElem?,hn,rH,hti]
 have hdl:l.dropLast=l.take n:=by rw[List.dropLast_eq_take,hn,rH]
 have hk9:(cells.drop (o1+n*9)).take 9=er t:=by rw[hd];rfl
 obtain⟨AB,hAB⟩:∃F,F=oa b l:=⟨_,rfl⟩;rw[←hAB];unfold oa at hAB;rw[hgl,hdl]at hAB;have eap1:t≠recC→AB=(b,10):=fun z=>by rw[hAB,if_neg (by simpa using z)]
 have eap2:t=recC→fO (l.take n) b=none→AB=(b,10):=fun z q=>by rw[hAB,if_pos (by rw[z]),q]
 have eap3:∀x,t=recC→fO (l.take n) b=some x→mR x=true→AB=(x,0):=fun x z q w=>by rw[hAB,if_pos (by rw[z]),q];simp[w]
 have eap4:∀x,t=recC→fO (l.take n) b=some x→mR x=false→AB=(b,10):=fun x z q w=>by rw[hAB,if_pos (by rw[z]),q];simp[w]
 clear hAB;rw[hn]at S hN ⊢;have k4:er recC=[Value.int .i64 4,.string (Go.Am.B []),.int .i64 0,.int .i64 0,.int .i64 0,.int .i64 0,.int .i64 0,.int .i64 0,.int .i64 0]:=rfl;by_cases hc:t=recC;rotate_left
 ·have e:=eap1 hc;subst e;obtain⟨tk,tt,⟨t1,t2,⟨t3,t4⟩,t5,t6⟩,tm⟩:=t;simp only[er]at hk9;simp -implicitDefEqProofs[w1,w2,hnn,hlt,hb,hk9,hlc];refine iM (fun hq=>?_) (fun hq=>?_)
  ·simp -implicitDefEqProofs;exact cI.fD B (Ext.bJ _)
  ·exact absurd (by
    simp at hq;obtain⟨rfl,e2,⟨rfl,rfl,⟨rfl,rfl⟩,rfl,rfl⟩,rfl⟩:=hq;first|(subst e2;rfl)|(rw[wx e2];rfl)) hc
 subst hc;rw[k4]at hk9;simp -implicitDefEqProofs[w1,w2,hnn,hlt,hb,hk9,hlc];refine hcp.mono ?_;rintro r G ⟨E,a',ov',o',rfl,B'⟩;have hbG:=E.f b1 hbn;rw[hb]at hbG;have SG:=S0.ext E;have hnn2:n≤n+1:=by omega
 have hn0:(0:Int)≤n:=by omega
 simp -implicitDefEqProofs[af,hbG,hnn,hnn2,hn0];intro _;have SL:=ajn SG n (by omega);obtain⟨L,hL⟩:∃L,L=l.take n:=⟨_,rfl⟩;have hLl:L.length=n:=by rw[hL,cQ];omega
 rw[←hL]at SL eap2 eap3 eap4;refine bL (RD h a a' b L N (.slice (some ⟨b1,o1,none⟩) n n) n) _ ⟨0,b,vc,ov',o',rfl,by omega,rfl,OK,rfl,B',SL,by simp⟩ ?_;clear SL SG hbG E B';rintro n' ⟨T,⟨x',F⟩⟩ ⟨i,x,vcx,ovx,ox,rfl,hi,htk,OKx,hfx,BX,SL,g0,g6,g28,g29,g30⟩;simp at BX SL g0 g6 g28 g29 g30;simp -implicitDefEqProofs[g0,g6,g28,g29,g30];refine bY (fun hc=>?_) (fun hc=>?_)
 ·have him:i<n:=by omega
  have w3:=bU (i:=i) (by omega);have hui:L[i]? =some L[i]:=av (by omega);obtain⟨u,hu⟩:∃u,u=L[i]:=⟨_,rfl⟩;rw[←hu]at hui;obtain⟨_,b2,o2,cells2,r2,e2,bQ,hd2,hlc2,_⟩:=SL.at 9 vP hui;simp only[aw,Addr.mk.injEq,and_true]at e2;obtain⟨rfl,rfl⟩:=e2;have hk2:(cells2.drop (o1+i*9)).take 9=er u:=by rw[hd2];rfl
  have htw:=ak9 OKx (by omega) u BX;have hst:=ak8 htk hui;simp only[nN,er]at htw hk2;simp -implicitDefEqProofs[g0,g6,g28,g29,g30,him,bQ,hk2,hlc2];refine htw.mono ?_;intro rr H HT;cases hq:j9 x u with
  |none=>
   rw[hq]at HT hst;obtain⟨rfl,CX⟩:=HT;have hno:fO L b=none:=ak7 hst;have e:=eap2 rfl hno;subst e;simp -implicitDefEqProofs[af];intro _;have BB:=(B.exts BX.ext).eY (h':=H) (CX) BX.iH (fun z hz=>eW B.ext.n (BX.own z hz).1) (fun z hz w=>by
    have h1:=(B.own z hz).2;have h2:=(BX.own z w).1;omega)
   exact cI.oM BB ((cP.fD BX.ext).trans CX (fun z hz hlt=>by have:=(BX.own z hz).1;omega))
  |some x2=>
   rw[hq]at HT hst;obtain⟨rfl,vc2,ov2,o2',BX2,CX2,DX2⟩:=HT;simp -implicitDefEqProofs[af,g0,g6,g28,g29,g30,w3];intro _;refine⟨n-(i+1),by omega,i+1,x2,vc2,ov2,o2',rfl,by omega,hst,ala OKx hq,by rw[alb hq,hfx],BX2,SL.kp (CX2.kp BX.iH),by simp⟩
 ·have e:i=n:=by omega
  rw[e,bZ (by omega)]at htk;have hmb:=aat OKx (by omega) BX;simp -implicitDefEqProofs[g0,g6,g28,g29,g30];refine hmb.mono ?_;rintro rr H ⟨EH,rfl⟩;cases hq:mR x with
  |false=>
   have e:=eap4 x rfl htk hq;subst e;simp -implicitDefEqProofs[af];intro _;exact cI.fD B (BX.ext.trans EH)
  |true=>
   have e:=eap3 x rfl htk hq;subst e;have BH:=BX.exts EH;have BBH:=B.exts (BX.ext.trans EH);have hrx:=BH.row;have hrb:=BBH.row;have hrb0:=BBH.row;obtain⟨y1,m1,d1,g1,r1,y2,m2,d2,y3,m3,d3,e1⟩:=BH.dF.shape;obtain⟨y4,m4,d4,g4,r4,y5,m5,d5,y6,m6,d6,e4⟩:=B.dF.shape;obtain⟨y7,d7,e7⟩:=BH.dL.shape;obtain⟨y8,d8,e8⟩:=B.dL.shape;subst e1;subst e4;subst e7;subst e8;simp only[iy,dp,dA]at hrx hrb;have fin:=rO (b:=x) hrb0 BBH.a0 BBH.a1 BBH.ext BH.dF (BH.dL.low B.ext.n) rfl;simp only[iy,dp,dA]at fin;simp -implicitDefEqProofs[af,hrx,hrb];intro _;refine⟨_,_,ox,fin,(cP.fD (BX.ext.trans EH)).trans (jl H a _) (fun z hz _=>by rw[eo]at hz;subst hz;exact dH),fun z hz=>.inr (BH.dL.lt z hz).1⟩
end Go.Proofs.Ybk.K
namespace Go.Proofs.Ybk.K
open Go Go.Am
set_option maxHeartbeats 4000000
open V (aq aU aj au bg ab bD aN aB cF cJ bq bR oZ o0)
def yZ {α:Type} (s u:Value) (xs ys:List α) (m:Nat) (h:aa) (n:Nat) (σ:St):Prop:=∃i:Nat,n=m-i∧i≤m∧σ.m.h=h∧σ.t.get 0=some s∧σ.t.get 1=some u∧σ.t.get 5=some (.int .i64 (i:Nat))∧xs.take i=ys.take i
theorem aiP (s u:Value) (xs ys:List aH) (hl:xs.length≤1073741824) (h:aa) (Hs:cU 43 aM h s xs) (Hu:cU 43 aM h u ys):ao PP 23 [s,u] h (fun r h'=>h'=h∧r= .bool (decide (xs=ys))):=by
 refine aC mix (aD Tryz.func23) rfl rfl rfl aeD ?_;simp only[ai,Tryz.f23];obtain⟨ad1,c1,rfl⟩:=Hs.shape;obtain⟨ad2,c2,rfl⟩:=Hu.shape;by_cases q:(xs.length:Int)=ys.length;rotate_left
 ·have:¬xs=ys:=fun e=>q (by rw[e]);simp -implicitDefEqProofs[q,this]
 obtain⟨m,hm⟩:∃m,m=xs.length:=⟨_,rfl⟩;have hm2:ys.length=m:=by omega
 rw[←hm]at Hs hl ⊢;rw[hm2]at Hu ⊢;clear q;obtain⟨D,hD⟩:∃D,D=decide (xs=ys):=⟨_,rfl⟩;rw[←hD];simp -implicitDefEqProofs;refine bL (yZ (.slice ad1 m c1) (.slice ad2 m c2) xs ys m h) _ ⟨0,rfl,by omega,rfl,by simp⟩ ?_;rintro n ⟨T,⟨x,H⟩⟩ ⟨i,rfl,hi,hH,g0,g1,g5,ht⟩;simp at hH g0 g1 g5;subst hH;simp -implicitDefEqProofs[g0,g1,g5];refine bY (fun hc=>?_) (fun hc=>?_)
 ·have him:i<m:=by omega
  have hA:xs[i]? =some xs[i]:=av (by omega);have hB:ys[i]? =some ys[i]:=av (by omega);obtain⟨_,b1,o1,wb1,cs1,r1,rfl,bI,hd1,hl1,_⟩:=Hs.at 6 ir hA;obtain⟨_,b2,o2,wb2,cs2,r2,rfl,bQ,hd2,hl2,_⟩:=Hu.at 6 ir hB;obtain⟨a',hea⟩:∃z,z=xs[i]:=⟨_,rfl⟩;obtain⟨b',heb⟩:∃z,z=ys[i]:=⟨_,rfl⟩;rw[←hea]at hd1 hA;rw[←heb]at hd2 hB;have w1:=bU (i:=i) (by omega);obtain⟨id,st,⟨sz,wh⟩,tl,fi⟩:=a';obtain⟨id2,st2,⟨uG,wh2⟩,tl2,fi2⟩:=b';simp -implicitDefEqProofs[g0,g1,g5,him,bI,bQ,hd1,hd2,hl1,hl2,aM,Az];refine iM (fun hq=>?_) (fun hq=>?_)
  ·have hne:¬xs=ys:=oZ hA hB (fun e=>by simp only[aH.mk.injEq,aV.mk.injEq]at e;simp[e.1,e.2.1,e.2.2.1.1,e.2.2.1.2,e.2.2.2.1,e.2.2.2.2]at hq);simp -implicitDefEqProofs;rw[hD];simp[hne]
  ·simp at hq;obtain⟨rfl,rfl,⟨rfl,rfl⟩,rfl,rfl⟩:=hq;simp -implicitDefEqProofs[g0,g1,g5,w1];exact⟨m-(i+1),by omega,i+1,rfl,by omega,rfl,by simp[g0],by simp[g1],by simp,o0 hA hB ht⟩
 ·have e:i=m:=by omega
  subst e;have he:xs=ys:=by rw[bZ (by omega),bZ (by omega)]at ht;exact ht
  simp -implicitDefEqProofs;rw[hD];simp[he]
theorem Bh (s u:Value) (xs ys:List Int) (hl:xs.length≤1073741824) (h:aa) (Hs:cU 3 ab h s xs) (Hu:cU 3 ab h u ys):ao PP 33 [s,u] h (fun r h'=>h'=h∧r= .bool (decide (xs=ys))):=by
 refine aC mix (aD Tryz.func33) rfl rfl rfl afl ?_;simp only[ai,Tryz.f33];obtain⟨ad1,c1,rfl⟩:=Hs.shape;obtain⟨ad2,c2,rfl⟩:=Hu.shape;by_cases q:(xs.length:Int)=ys.length;rotate_left
 ·have:¬xs=ys:=fun e=>q (by rw[e]);simp -implicitDefEqProofs[q,this]
 obtain⟨m,hm⟩:∃m,m=xs.length:=⟨_,rfl⟩;have hm2:ys.length=m:=by omega
 rw[←hm]at Hs hl ⊢;rw[hm2]at Hu ⊢;clear q;obtain⟨D,hD⟩:∃D,D=decide (xs=ys):=⟨_,rfl⟩;rw[←hD];simp -implicitDefEqProofs;refine bL (yZ (.slice ad1 m c1) (.slice ad2 m c2) xs ys m h) _ ⟨0,rfl,by omega,rfl,by simp⟩ ?_;rintro n ⟨T,⟨x,H⟩⟩ ⟨i,rfl,hi,hH,g0,g1,g5,ht⟩;simp at hH g0 g1 g5;subst hH;simp -implicitDefEqProofs[g0,g1,g5];refine bY (fun hc=>?_) (fun hc=>?_)
 ·have him:i<m:=by omega
  have hA:xs[i]? =some xs[i]:=av (by omega);have hB:ys[i]? =some ys[i]:=av (by omega);obtain⟨_,b1,o1,wb1,cs1,r1,rfl,bI,hd1,hl1,_⟩:=Hs.at 1 V.dV hA;obtain⟨_,b2,o2,wb2,cs2,r2,rfl,bQ,hd2,hl2,_⟩:=Hu.at 1 V.dV hB;obtain⟨a',hea⟩:∃z,z=xs[i]:=⟨_,rfl⟩;obtain⟨b',heb⟩:∃z,z=ys[i]:=⟨_,rfl⟩;rw[←hea]at hd1 hA;rw[←heb]at hd2 hB;have w1:=bU (i:=i) (by omega);rw[Nat.mul_one]at hd1 hd2 hl1 hl2;simp -implicitDefEqProofs[g0,g1,g5,him,bI,bQ,hd1,hd2,hl1,hl2,ab];refine iM (fun hq=>?_) (fun hq=>?_)
  ·have hne:¬xs=ys:=oZ hA hB (fun e=>by simp[e]at hq);simp -implicitDefEqProofs;rw[hD];simp[hne]
  ·simp at hq;subst hq;simp -implicitDefEqProofs[g0,g1,g5,w1];exact⟨m-(i+1),by omega,i+1,rfl,by omega,rfl,by simp[g0],by simp[g1],by simp,o0 hA hB ht⟩
 ·have e:i=m:=by omega
  subst e;have he:xs=ys:=by rw[bZ (by omega),bZ (by omega)]at ht;exact ht
  simp -implicitDefEqProofs;rw[hD];simp[he]
theorem ams (a b:aj) (ca cb:List Value) (ha:V.kf a) (h:aa) (Ha:bR h a ca) (Hb:bR h b cb):ao PP 43 [.agg ⟨ca⟩,.agg ⟨cb⟩] h (fun r h'=>h'=h∧r= .bool (V.uB a b)):=by
 refine aC mix (aD Tryz.func43) rfl rfl rfl afx ?_;simp only[ai,Tryz.f43];obtain⟨l1,l2,l3⟩:=ha;obtain⟨s,k,p,rfl,h1,h2,h3⟩:=Ha;obtain⟨s',k',p',rfl,h1',h2',h3'⟩:=Hb;have e1:=XS s s' a.ag b.ag (by omega) h h1 h1';have e2:=XP k k' a.aE b.aE (by omega) h h2 h2';have e3:=XR p p' a.aI b.aI (by omega) h h3 h3';obtain⟨x1,y1,rfl⟩:=h1.shape;obtain⟨x2,y2,rfl⟩:=h2.shape;obtain⟨x3,y3,rfl⟩:=h3.shape;obtain⟨x4,y4,rfl⟩:=h1'.shape;obtain⟨x5,y5,rfl⟩:=h2'.shape;obtain⟨x6,y6,rfl⟩:=h3'.shape;unfold V.uB;by_cases q1:a.aW=b.aW;rotate_left
 ·simp -implicitDefEqProofs[q1]
 by_cases q2:a.bC=b.bC;rotate_left
 ·simp -implicitDefEqProofs[q1,q2]
 obtain⟨D1,hD1⟩:∃D,D=decide (a.ag=b.ag):=⟨_,rfl⟩;obtain⟨D2,hD2⟩:∃D,D=decide (a.aE=b.aE):=⟨_,rfl⟩;obtain⟨D3,hD3⟩:∃D,D=decide (a.aI=b.aI):=⟨_,rfl⟩;rw[←hD1]at e1 ⊢;rw[←hD2]at e2 ⊢;rw[←hD3]at e3 ⊢;simp -implicitDefEqProofs[q1,q2];refine e1.mono ?_;rintro r h' ⟨e,rfl⟩;replace e:=e.symm;subst e;cases D1
 ·simp -implicitDefEqProofs[af]
 simp -implicitDefEqProofs[af];intro _;refine e2.mono ?_;rintro r h' ⟨e,rfl⟩;replace e:=e.symm;subst e;cases D2
 ·simp -implicitDefEqProofs[af]
 simp -implicitDefEqProofs[af];intro _;refine e3.mono ?_;rintro r h' ⟨e,rfl⟩;replace e:=e.symm;subst e;simp -implicitDefEqProofs[af]
section
variable {h0 h0' h:aa} {a a2:Nat} {b b2:aG} {vc vc2:List Value} {ov ov2:Value} {o o2:Option Nat}
theorem uW (hv:V.kf b.v) (hl:b.l.length≤1048576) (B1:bz h0 h a b vc ov o) (B2:bz h0' h a2 b2 vc2 ov2 o2):
  ao PP 18 [.pointer (some ⟨a,0,none⟩),.pointer (some ⟨a2,0,none⟩)] h (fun r h'=>h'=h∧r= .bool (vT b b2)):=by
 refine aC mix (aD Tryz.func18) rfl rfl rfl Oe ?_;simp only[ai,Tryz.f18];have hven:=ams b.v b2.v vc vc2 hv h B1.dF.dF B2.dF.dF;have hord:=XQ ov ov2 b.l b2.l (by omega) h B1.dL.sl B2.dL.sl;have hr1:=B1.row;have hr2:=B2.row;obtain⟨x1,y1,m1,g1,r1,x2,m2,y2,x3,m3,y3,e1⟩:=B1.dF.shape;obtain⟨x4,y4,m4,g4,r4,x5,m5,y5,x6,m6,y6,e2⟩:=B2.dF.shape;obtain⟨x7,y7,e3⟩:=B1.dL.shape;obtain⟨x8,y8,e4⟩:=B2.dL.shape;subst e1;subst e2;subst e3;subst e4;simp only[iy,dp,dA]at hr1 hr2;unfold vT;obtain⟨D2,hD2⟩:∃D,D=V.uB b.v b2.v:=⟨_,rfl⟩;obtain⟨D3,hD3⟩:∃D,D=decide (b.l=b2.l):=⟨_,rfl⟩;rw[←hD2]at hven ⊢;rw[←hD3]at hord ⊢;by_cases q1:b.has=b2.has;rotate_left
 ·have q1b:(b.has==b2.has)=false:=beq_eq_false_iff_ne.2 q1;simp -implicitDefEqProofs[hr1,hr2,q1,q1b]
 by_cases q2:b.now=b2.now;rotate_left
 ·simp -implicitDefEqProofs[hr1,hr2,q1,q2]
 simp -implicitDefEqProofs[hr1,hr2,q1,q2];refine hven.mono ?_;rintro r h' ⟨e,rfl⟩;replace e:=e.symm;subst e;cases D2
 ·simp -implicitDefEqProofs[aJ,af]
 simp -implicitDefEqProofs[aJ,af,hr1,hr2];intro _;refine hord.mono ?_;rintro r h' ⟨e,rfl⟩;replace e:=e.symm;subst e;simp -implicitDefEqProofs[aJ,af]
theorem UK (B1:bz h0 h a b vc ov o):ao PP 18 [.pointer (some ⟨a,0,none⟩),.pointer none] h (fun r h'=>h'=h∧r= .bool false):=by
 refine aC mix (aD Tryz.func18) rfl rfl rfl Oe ?_;simp only[ai,Tryz.f18];simp -implicitDefEqProofs
theorem aaX (h:aa):ao PP 12 [.int .i64 (-1)] h (fun r h'=>h'=h∧r= .pointer none):=by
 refine aC mix (aD Tryz.func12) rfl rfl rfl Ob ?_;simp only[ai,Tryz.f12];simp -implicitDefEqProofs
end
end Go.Proofs.Ybk.K
namespace Go.Proofs.Ybk.K
open Go Go.Am
set_option maxHeartbeats 4000000
open V (aq aU aj au bg ab bD aN aB cF cJ bq bR)
open F (cz)
def wz (H:aa) (R:jL) (recs:List dO) (r:Value):Prop:=∃ad n cc ad2 n2 c2,r= .tuple #[.agg ⟨[.int .i64 R.code,.int .i64 R.n,.int .i64 R.spot.1,.int .i64 R.spot.2,.slice ad n cc]⟩,.slice ad2 n2 c2]∧n=R.ag.length∧aK 3 ab H (.slice ad n cc) R.ag∧n2=recs.length∧aK 73 er H (.slice ad2 n2 c2) recs
section
variable {h0 h:aa} {a:Nat} {b:aG} {vc:List Value} {ov:Value} {o:Option Nat}
theorem yR.r {steps:Nat} {c:CmdR} {r:Value} {h':aa} (H:yR h0 h a o steps b c r h'):cI h0 h h' a o (bG steps b c).1∧wz h' (bG steps b c).2 (jO steps b c) r:=by
 obtain⟨Q,ad,n,cc,w,rfl,S,SR⟩:=H;obtain⟨ad2,c2,rfl⟩:=SR.shape;obtain⟨ad',c',e⟩:=S.shape;simp only[Value.slice.injEq]at e;exact⟨Q,ad,n,cc,ad2,_,c2,rfl,e.2.1,S,rfl,SR⟩
theorem mC {N:Nat} (OK:eh N b) (hN:N≤1047000) (steps:Nat) (hst:2*b.fuel.toNat≤steps) (c:CmdR) (hc:c.text.length≤1048576) (G0:cz h0) (B:bz h0 h a b vc ov o) {b':aG} {R:jL} (hd:bG steps b c=(b',R)):
  ao PP 15 [.pointer (some ⟨a,0,none⟩),cm c] h (fun r h'=>(∃vc' ov' o',bz h0 h' a b' vc' ov' o')∧Kp h h'∧wz h' R (jO steps b c) r):=by
 refine(w6 OK hN steps hst c hc G0 B).mono ?_;intro r h' H;obtain⟨⟨vc',ov',o',B',C,D⟩,HR⟩:=H.r;rw[hd]at B' HR;exact⟨⟨vc',ov',o',B'⟩,C.kp B.iH,HR⟩
theorem WK (c:CmdR) (h:aa):ao PP 15 [.pointer none,cm c] h (fun r h'=>h'=h∧r= .tuple #[.agg ⟨[.int .i64 1,.int .i64 0,.int .i64 0,.int .i64 0,.slice none 0 0]⟩,.slice none 0 0]):=by
 refine aC mix (aD Tryz.func15) rfl rfl rfl Oc ?_;simp only[ai,Tryz.f15];simp -implicitDefEqProofs[cm,cmdC]
theorem Ar (l:List Int) (hl:l.length≤4611686018427387904) (lv:Value) (h:aa) (hs:bq h lv l):ao PP 21 [lv] h (fun r h'=>Ext h h'∧∃t,r= .string (B t)∧t.length≤10000):=by
 refine aC mix (aD Tryz.func21) rfl rfl rfl aem ?_;simp only[ai,Tryz.f21];have hmk:=V.aan lv l 8 (by omega) hl h hs;obtain⟨ad,c,rfl⟩:=hs.shape;simp -implicitDefEqProofs;refine hmk.mono ?_;rintro r G ⟨E,i,v,row,x,a,b',c',cs,hi,M,ha,hV,rfl⟩;have M2:=k8 (V.ND M (by omega));have hok:=aal M (by omega);have hlen:=M.len;have hk:=M.xx;have hp:=M.ye;have hVC:V.bR G v cs:=by
  obtain⟨s,k,p,rfl,h1,h2,h3⟩:=hV;exact⟨s,k,p,rfl,h1.own.sl,h2.own.sl,h3.1.own.sl⟩
 have hpr:=ahN v cs (by omega) hok (V.ND M (by omega)) (fun k hk=>vy M2 k hk) G hVC;have hcs:∃x1 y1 m1 g1 r1 x2 m2 y2 x3 m3 y3,cs=[.slice x1 y1 m1,.int .i64 g1,.int .i64 r1,.slice x2 m2 y2,.slice x3 m3 y3]:=by
  obtain⟨s,k,p,rfl,h1,h2,h3⟩:=hVC;obtain⟨u1,u2,rfl⟩:=h1.shape;obtain⟨u3,u4,rfl⟩:=h2.shape;obtain⟨u5,u6,rfl⟩:=h3.shape;exact⟨_,_,_,_,_,_,_,_,_,_,_,rfl⟩
 obtain⟨x1,y1,m1,g1,r1,x2,m2,y2,x3,m3,y3,rfl⟩:=hcs;have hjl:=JL (dG v) hok;have hll:(dG v).length≤30:=by unfold dG;simp;omega
 obtain⟨t,ht⟩:∃t,t=iD (dG v):=⟨_,rfl⟩;rw[←ht]at hpr hjl;simp -implicitDefEqProofs[af];intro _;refine hpr.mono ?_;rintro r G2 ⟨rfl,rfl⟩;simp -implicitDefEqProofs[af];intro _;exact⟨E,by omega⟩
end
end Go.Proofs.Ybk.K

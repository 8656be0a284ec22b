import Derived.Test.YtbcdmljanolkeaaGreatDoorMe
set_option linter.unusedVariables false
set_option linter.unusedSimpArgs false
set_option linter.unusedSectionVars false
set_option linter.constructorNameAsVariable false
set_option maxRecDepth 20000
namespace Go.Proofs.Ybk
open Go Go.Am
set_option maxHeartbeats 4000000
open T (a8 cg dv cE dV bG)
open V (aq aP ah al aQ ab aB aZ gF ij eE ft fS aM jL dB iN Ri dF ly dL eo)
open F (FR dp bQ)
structure mF (r:Rd):Prop where
 ok:mn r
 af:∀s∈r.af,gF s=true
 pR:r.af.Pairwise (fun a b=>¬(a.row=b.row∧a.x=b.x))
 aV:r.aV=0∨aB r.aV 1 1048576=true
 bg:aB r.bg 0 1048576=true
 aE:∀p∈r.aE,ij p=true
theorem PH:mF fT:=⟨⟨by simp[fT],by simp[fT],by simp[fT]⟩,by simp[fT],by simp[fT],.inl rfl,by decide,by simp[fT]⟩
theorem ama {row x:Int} {l:List aq} {i:Nat} (h:kO row x l i=none):∀s∈l,¬(s.row=row∧s.x=x):=by
 induction l generalizing i with
 |nil=>intro s hs;cases hs
 |cons a r ih=>
  rw[kO]at h
  split at h
  ·cases h
  ·rename_i hn
   intro s hs
   rcases List.mem_cons.1 hs with rfl|q
   ·exact hn
   ·exact ih h s q
theorem amb {row x:Int} {l:List aq} {i n:Nat} (h:kO row x l i=some n):i≤n∧n<i+l.length∧∃s,l[n-i]? =some s∧s.row=row∧s.x=x:=by
 induction l generalizing i with
 |nil=>cases h
 |cons a r ih=>
  rw[kO]at h
  split at h
  ·rename_i hn
   simp only[Option.some.injEq]at h
   subst h
   exact⟨Nat.le_refl _,by simp,a,by simp,hn.1,hn.2⟩
  ·obtain⟨q1,q2,s,q3,q4⟩:=ih h
   refine⟨by omega,by simp;omega,s,?_,q4⟩
   obtain⟨d,hd⟩:∃d,n-i=d+1:=⟨n-i-1,by omega⟩
   rw[hd,List.getElem?_cons_succ,show d=n-(i+1) by omega]
   exact q3
theorem al8 {l:List aq} {row x:Int} {n:Nat} (h:iA l row x=some n):n<l.length:=by
 have:=amb h
 omega
theorem agF:∀{bs:List Nat} {rest:List a8},jz bs rest=none→rest.length=bs.length→∀(i f:Nat) (t:a8),bs[i]? =some f→rest[i]? =some t→kF f t.n=true:=by
 intro bs
 induction bs with
 |nil=>intro rest _ _ i f t h;simp at h
 |cons b bs ih=>
  intro rest h hl i f t h1 h2
  cases rest with
  |nil=>simp at hl
  |cons t' rest=>
   rw[jz]at h
   split at h
   ·rename_i hm
    cases i with
    |zero=>
     simp at h1 h2
     subst h1;subst h2
     exact hm
    |succ i=>
     simp at h1 h2 hl
     exact ih h hl i f t h1 h2
   ·cases h
theorem On {t0:a8} {rest:List a8} {bl bc:Int} (h:fc (t0::rest) bl bc=none):∃bs,gy t0.text=some bs∧rest.length=bs.length∧jz bs rest=none:=by
 obtain⟨bs,h1,h2⟩:=Oo h
 refine⟨bs,h1,h2,?_⟩
 have hw:jj t0=some bs:=by
  unfold fc at h
  simp only at h
  cases hw:jj t0 with
  |none=>rw[hw]at h;cases h
  |some b2=>
   have:gy t0.text=some b2:=by unfold jj at hw;split at hw;exact hw;cases hw
   rw[h1]at this
   exact this.symm
 simp only[fc,hw,nd]at h
 cases hc:iy bl bc bs rest with
 |some e=>rw[hc]at h;cases h
 |none=>
  rw[hc]at h
  simp only at h
  rw[←h2,List.drop_length]at h
  exact h
theorem TE {r:Rd} {t0:a8} {rest:List a8} {bl bc:Int} (G:mF r) (hle:fc (t0::rest) bl bc=none) (ha:(cF r t0 rest).2=true):mF (cF r t0 rest).1:=by
 obtain⟨bs,hb,hl,hm⟩:=On hle
 have hok:=Ba G.ok ha
 have aL:=agF hm hl
 rcases PL hb hl with⟨hw,a,rfl⟩|⟨hw,a,b,rfl⟩|⟨hw,a,b,c,rfl⟩
 ·rcases hw with hw|hw
  ·have hbs:bs=[173]:=by rw[hw]at hb;simpa[gy,fH,kl,jK,jJ]using hb.symm
   have h0:=aL 0 173 a (by rw[hbs];rfl) rfl
   by_cases hg:0<r.aV
   ·have hres:cF r t0 [a]=(r,false):=by simp[cF,hw,hg]
    rw[hres]at ha;cases ha
   ·have hres:cF r t0 [a]=({r with aV:=a.n},true):=by simp[cF,hw,hg]
    rw[hres]at hok ⊢
    exact⟨hok,G.af,G.pR,.inr (by simpa[kF]using h0),G.bg,G.aE⟩
  ·have hbs:bs=[256]:=by rw[hw]at hb;simpa[gy,gG,fH,kl,jK,jJ]using hb.symm
   have hw2:¬gG=fH:=by decide
   have h0:=aL 0 256 a (by rw[hbs];rfl) rfl
   cases hg:r.dX with
   |true=>
    have hres:cF r t0 [a]=(r,false):=by simp[cF,hw,hg,hw2]
    rw[hres]at ha;cases ha
   |false=>
    have hres:cF r t0 [a]=({r with dX:=true,bg:=a.n},true):=by simp[cF,hw,hg,hw2]
    rw[hres]at hok ⊢
    refine⟨hok,G.af,G.pR,G.aV,?_,G.aE⟩
    simp[kF,aB]at h0
    simp[aB]
    omega
 ·have hw1:¬fI=fH:=by decide
  have hw2:¬fI=gG:=by decide
  have hres:cF r t0 [a,b]=({r with aD:=r.aD++[⟨a.n,b.n,t0.line,t0.aj,a.line,a.aj⟩]},decide ((r.aD++[(⟨a.n,b.n,t0.line,t0.aj,a.line,a.aj⟩:jl)]).length≤200)):=by simp[cF,hw,hw1,hw2]
  rw[hres]at hok ⊢
  exact⟨hok,G.af,G.pR,G.aV,G.bg,G.aE⟩
 ·by_cases hwp:t0.text=gU
  ·have hbs:bs=[225,225,173]:=by rw[hwp]at hb;simpa[gy,gU,fI,gG,fH,kl,jK,jJ]using hb.symm
   have hw1:¬gU=fH:=by decide
   have hw2:¬gU=gG:=by decide
   have hw3:¬gU=fI:=by decide
   have h0:=aL 0 225 a (by rw[hbs];rfl) rfl
   have h1:=aL 1 225 b (by rw[hbs];rfl) rfl
   have h2:=aL 2 173 c (by rw[hbs];rfl) rfl
   have hres:cF r t0 [a,b,c]=({r with aE:=r.aE++[⟨a.n,b.n,c.n⟩]},decide ((r.aE++[(⟨a.n,b.n,c.n⟩:aP)]).length≤200)):=by simp[cF,hwp,hw1,hw2,hw3]
   rw[hres]at hok ⊢
   refine⟨hok,G.af,G.pR,G.aV,G.bg,fun p hp=>?_⟩
   rcases List.mem_append.1 hp with q|q
   ·exact G.aE p q
   ·obtain rfl:=List.mem_singleton.1 q
    simp[kF]at h0 h1 h2
    simp[ij,h0,h1,h2]
  ·have hws:t0.text=kl∨t0.text=jK∨t0.text=jJ:=by
    rcases hw with q|q
    ·exact absurd q hwp
    ·exact q
   have z1:¬t0.text=fH:=by rcases hws with q|q|q<;>rw[q]<;>decide
   have z2:¬t0.text=gG:=by rcases hws with q|q|q<;>rw[q]<;>decide
   have z3:¬t0.text=fI:=by rcases hws with q|q|q<;>rw[q]<;>decide
   have hbs:bs=[257,225,225]:=by
    have e:gy t0.text=some [257,225,225]:=by rw[gy,if_pos hws]
    rw[e]at hb;simpa using hb.symm
   have h0:=aL 0 257 a (by rw[hbs];rfl) rfl
   have h1:=aL 1 225 b (by rw[hbs];rfl) rfl
   have h2:=aL 2 225 c (by rw[hbs];rfl) rfl
   have hkd:aB (ou t0.text) 0 2=true:=by rcases hws with q|q|q<;>rw[q]<;>decide
   cases hp:iA r.af a.n b.n with
   |some q=>
    have hres:cF r t0 [a,b,c]=(r,false):=by simp[cF,z1,z2,z3,hwp,hp]
    rw[hres]at ha;cases ha
   |none=>
    have hres:cF r t0 [a,b,c]=({r with af:=r.af++[⟨a.n,b.n,c.n,ou t0.text⟩]},decide ((r.af++[(⟨a.n,b.n,c.n,ou t0.text⟩:aq)]).length≤4096)):=by simp[cF,z1,z2,z3,hwp,hp]
    rw[hres]at hok ⊢
    refine⟨hok,fun s hs=>?_,?_,G.aV,G.bg,G.aE⟩
    ·rcases List.mem_append.1 hs with q|q
     ·exact G.af s q
     ·obtain rfl:=List.mem_singleton.1 q
      simp[kF]at h0 h1 h2
      simp[gF,h0,h1,h2,hkd]
    ·show(r.af++_).Pairwise _
     rw[List.pairwise_append]
     refine⟨G.pR,by simp,fun s hs t ht=>?_⟩
     obtain rfl:=List.mem_singleton.1 ht
     exact ama hp s hs
theorem Oq (ts:List a8) (el ec:Int):∀(f a:Nat) (r:Rd),mF r→(fe ts el ec f a r).2=none→mF (fe ts el ec f a r).1:=by
 intro f
 induction f with
 |zero=>intro a r G _;exact G
 |succ f ih=>
  intro a r G h
  by_cases ha:a<ts.length
  ·cases hr:rowAt ts a with
   |nil=>
    rw[zE ha hr]at h ⊢
    exact ih _ _ G h
   |cons t0 rest=>
    rw[zD ha hr]at h ⊢
    cases hle:fc (t0::rest) (iO ts el ec (a+(rest.length+1))).1 (iO ts el ec (a+(rest.length+1))).2 with
    |some e=>rw[hle]at h;cases h
    |none=>
     rw[hle]at h
     simp only at h ⊢
     by_cases h2:(cF r t0 rest).2=true
     ·rw[if_pos h2]at h ⊢
      exact ih _ _ (TE G hle h2) h
     ·rw[if_neg h2]at h;cases h
  ·rw[fe,if_neg ha];exact G
theorem afa (af:List aq):∀(l:List jl) (acc:List Int),(∀k∈acc,0≤k∧k<af.length)→(iw af l acc).2=none→
  (∀k∈(iw af l acc).1,0≤k∧k<af.length)∧(iw af l acc).1.length=acc.length+l.length:=by
 intro l
 induction l with
 |nil=>intro acc h _;exact⟨h,rfl⟩
 |cons k r ih=>
  intro acc h h2
  cases hp:iA af k.row k.x with
  |none=>rw[zt hp]at h2;cases h2
  |some n=>
   have hlt:=al8 hp
   by_cases hm:(n:Int)∈acc
   ·rw[zu hp hm]at h2;cases h2
   ·rw[zr hp hm]at h2 ⊢
    obtain⟨q1,q2⟩:=ih (acc++[(n:Int)]) (fun k hk=>by
     rcases List.mem_append.1 hk with q|q
     ·exact h k q
     ·obtain rfl:=List.mem_singleton.1 q;omega) h2
    exact⟨q1,by rw[q2];simp;omega⟩
theorem agx:∀(a b:List Int),a.Nodup→(∀x∈a,x∈b)→a.length≤b.length:=by
 intro a
 induction a with
 |nil=>intro b _ _;simp
 |cons x r ih=>
  intro b hn hs
  rw[List.nodup_cons]at hn
  have hx:=hs x List.mem_cons_self
  have h1:=ih (b.erase x) hn.2 (fun y hy=>(List.mem_erase_of_ne (by rintro rfl;exact hn.1 hy)).2 (hs y (List.mem_cons_of_mem _ hy)))
  rw[List.length_erase_of_mem hx]at h1
  have:0<b.length:=List.length_pos_of_mem hx
  simp;omega
def jh (r:Rd) (ks:List Int):ah:=⟨r.af,r.aV,r.bg,ks,r.aE⟩
theorem KB {r:Rd} {K:List Int} (G:mF r) (hs:r.af≠[]) (hg:r.aV≠0) (hK:∀k∈K,0≤k∧k<r.af.length) (hKl:K.length≤200) {ys:List aq} {ks:List Int} (hp:ys.Perm r.af) (hso:iN ys) (hri:Ri ks)
  (hm:∀x,x∈ks↔x∈(dF (jh r K)).map (fun s=>dL (eo s) ys)):aM ⟨ys,r.aV,r.bg,ks,r.aE⟩=true:=by
 have hyl:=hp.length_eq
 have hpos:0<r.af.length:=List.length_pos_iff.2 hs
 have h1:eE ys=true:=by
  unfold eE
  rw[Bool.and_eq_true,Bool.and_eq_true,List.all_eq_true]
  refine⟨fun i hi=>?_,by simp;omega,by have:=G.ok.1;simp;omega⟩
  rw[List.mem_range]at hi
  have e:=List.getElem?_eq_getElem hi
  unfold V.dN
  rw[e]
  simp only[Bool.and_eq_true,Bool.or_eq_true,decide_eq_true_eq]
  refine⟨G.af _ (hp.subset (List.getElem_mem hi)),?_⟩
  by_cases hi0:i=0
  ·exact .inl hi0
  ·right
   have eJ:i-1<ys.length:=by omega
   rw[List.getElem?_eq_getElem eJ]
   simp only
   have q1:=hso (i-1) i _ _ (by omega) (List.getElem?_eq_getElem eJ) e
   have hd:ys.Pairwise (fun a b=>¬(a.row=b.row∧a.x=b.x)):=by
    refine(hp.pairwise_iff (R:=fun a b=>¬(a.row=b.row∧a.x=b.x)) (fun{a b} h q=>h ⟨q.1.symm,q.2.symm⟩)).2 G.pR
   have q2:=(List.pairwise_iff_getElem.1 hd) (i-1) i eJ hi (by omega)
   rw[V.j3]
   rw[←Bool.not_eq_true,V.j3]at q1
   omega
 have h2:aB r.aV 1 1048576=true:=G.aV.resolve_left hg
 have h4:ft ks ys.length=true:=by
  unfold ft
  rw[Bool.and_eq_true,List.all_eq_true]
  refine⟨fun i hi=>?_,?_⟩
  ·rw[List.mem_range]at hi
   have e:=List.getElem?_eq_getElem hi
   unfold V.eV
   rw[e]
   simp only[Bool.and_eq_true,Bool.or_eq_true,decide_eq_true_eq]
   have hx:=(hm ks[i]).1 (List.getElem_mem hi)
   rw[List.mem_map]at hx
   obtain⟨s,hsm,hfx⟩:=hx
   unfold dF jh at hsm
   rw[List.mem_map]at hsm
   obtain⟨k,hk,rfl⟩:=hsm
   have hkb:=hK k hk
   have hkn:k.toNat<r.af.length:=by omega
   have hin:r.af.getD k.toNat default∈ys:=by
    rw[List.getD_eq_getElem?_getD,List.getElem?_eq_getElem hkn,Option.getD_some]
    exact hp.symm.subset (List.getElem_mem hkn)
   have hany:ys.any (eo (r.af.getD k.toNat default))=true:=List.any_eq_true.2 ⟨_,hin,by simp[eo]⟩
   have hfl:dL (eo (r.af.getD k.toNat default)) ys=(ys.findIdx (eo (r.af.getD k.toNat default)):Int):=by unfold dL;rw[if_pos hany]
   have hlt:ys.findIdx (eo (r.af.getD k.toNat default))<ys.length:=List.findIdx_lt_length_of_exists ⟨_,hin,by simp[eo]⟩
   rw[hfl]at hfx
   refine⟨by omega,by omega,?_⟩
   by_cases hi0:i=0
   ·exact .inl hi0
   ·right
    have eJ:i-1<ks.length:=by omega
    rw[List.getElem?_eq_getElem eJ]
    simp only[decide_eq_true_eq]
    exact(List.pairwise_iff_getElem.1 hri) (i-1) i eJ hi (by omega)
  ·have hn:ks.Nodup:=hri.imp (fun{x y} hxy=>by omega)
   have:=agx ks _ hn (fun x hx=>(hm x).1 hx)
   rw[List.length_map]at this
   unfold dF jh at this
   rw[List.length_map]at this
   simp only at this
   simp;omega
 have h5:fS r.aE=true:=by
  unfold fS
  rw[Bool.and_eq_true,List.all_eq_true]
  refine⟨fun i hi=>?_,by have:=G.ok.2.2;simpa using this⟩
  rw[List.mem_range]at hi
  unfold V.fy
  rw[List.getElem?_eq_getElem hi]
  exact G.aE _ (List.getElem_mem hi)
 unfold aM jL
 rw[decide_eq_true_eq]
 simp only
 rw[if_neg (by rw[h1];decide),if_neg (by rw[h2];decide),if_neg (by rw[G.bg];decide),if_neg (by rw[h4];decide),if_neg (by rw[h5];decide)]
def ef (l:List UInt8):Option (Int×Int)×ah:=
 if(bG l).code≠0 then(some ((bG l).ln,(bG l).aj),⟨[],0,0,[],[]⟩)
 else match fe (bG l).ts (bG l).ln (bG l).aj ((bG l).ts.length+1) 0 fT with
  |(_,some e)=>(some e,⟨[],0,0,[],[]⟩)
  |(r,none)=>match gq r (bG l).ln (bG l).aj with
   |(_,some e)=>(some e,⟨[],0,0,[],[]⟩)
   |(ks,none)=>(none,jh r ks)
def qK (v w:ah):Prop:=w.af.Perm v.af∧iN w.af∧Ri w.aD∧(∀x,x∈w.aD↔x∈(dF v).map (fun s=>dL (eo s) w.af))∧w.aV=v.aV∧w.bg=v.bg∧w.aE=v.aE∧aM w=true
theorem Rf {r:Rd} {el ec:Int} (h:(gq r el ec).2=none) (hk:r.aD.length≤200):r.af≠[]∧r.aV≠0∧(∀k∈(gq r el ec).1,0≤k∧k<r.af.length)∧(gq r el ec).1.length≤200:=by
 unfold gq at h ⊢
 by_cases hb:r.af=[]∨r.aV=0
 ·rw[if_pos hb]at h;cases h
 ·rw[if_neg hb]at h ⊢
  obtain⟨q1,q2⟩:=afa r.af r.aD [] (fun k hk=>by cases hk) h
  exact⟨fun q=>hb (.inl q),fun q=>hb (.inr q),q1,by rw[q2];simpa using hk⟩
end Go.Proofs.Ybk
namespace Go.Proofs.Ybk
open Go Go.Am
set_option maxHeartbeats 4000000
open T (a8 cg dv cE dV bG eP dC)
open V (aq aP ah al aQ ab aB aZ gF ij eE ft fS aM jL dB iN Ri dF ly dL eo)
open F (FR dp bQ)
theorem Uu (l:List UInt8):∀(n a:Nat) (ln aj:Int),(eP l n a ln aj).code=0∨(eP l n a ln aj).code=2:=by
 intro n
 induction n with
 |zero=>intro a ln aj;exact .inl rfl
 |succ n ih=>
  intro a ln aj
  rw[eP]
  rcases T.agu l a ln aj with h|h|h<;>simp[h]
  exact ih _ _ _
theorem Uz (l:List UInt8):(bG l).code=0∨(bG l).code=2:=Uu l _ _ _ _
theorem Uw (l:List UInt8):∀(n a:Nat) (ln aj:Int),(eP l n a ln aj).ts.length≤n:=by
 intro n
 induction n with
 |zero=>intro a ln aj;simp[eP]
 |succ n ih=>
  intro a ln aj
  rw[eP]
  split
  ·have:=ih (dC l a ln aj).to (dC l a ln aj).ln (dC l a ln aj).aj;simp;omega
  ·split<;>simp
theorem agA {r:Rd} {ks:List Int} (G:mF r) (hs:r.af≠[]) (hg:r.aV≠0) (hK:∀k∈ks,0≤k∧k<r.af.length) (hKl:ks.length≤200) {h h':aa} {v:Value} (N:V.A0 (jh r ks) h v h'):
  Ext h h'∧∃w co,qK (jh r ks) w∧V.kZ h h' w co∧v= .tuple #[.agg ⟨co⟩,.bool true]:=by
 obtain⟨E,N⟩:=N
 refine⟨E,?_⟩
 have hin:ly (jh r ks)=true:=by
  unfold ly
  rw[List.all_eq_true]
  intro k hk
  have:=hK k hk
  show(decide (0≤k)&&decide (k<(r.af.length:Int)))=true
  simp;omega
 rcases N with⟨q,_⟩|⟨_,ys,kz,p,so,ri,hm,N⟩
 ·rw[hin]at q;cases q
 ·have hmay:=KB G hs hg hK hKl p so ri hm
  rcases N with⟨_,co,hc,rfl⟩|⟨q,_⟩
  ·exact⟨⟨ys,r.aV,r.bg,kz,r.aE⟩,co,⟨p,so,ri,hm,rfl,rfl,rfl,hmay⟩,hc,rfl⟩
  ·rw[show aM ⟨ys,(jh r ks).aV,(jh r ks).bg,kz,(jh r ks).aE⟩=true from hmay]at q;cases q
def uM (l:List UInt8) (h:aa) (v:Value) (h':aa):Prop:=Ext h h'∧match(ef l).1 with
 |some e=>∃E,v= .tuple #[.agg ⟨V.gW⟩,E]∧dp h' h'.n E (jv e.1 e.2)
 |none=>∃w co,qK (ef l).2 w∧V.kZ h h' w co∧v= .tuple #[.agg ⟨co⟩,.nilIface]
def A8 (l:List UInt8) (h:aa) (v:Value) (h':aa):Prop:=Ext h h'∧match(ef l).1 with
 |some e=>∃E,v= .tuple #[.agg ⟨V.gW⟩,E]∧dp h' h'.n E (jv e.1 e.2)
 |none=>∃w co,qK (ef l).2 w∧V.bF h' w co∧v= .tuple #[.agg ⟨co⟩,.nilIface]
theorem Rc (l:List UInt8) (hl:l.length≤1048576) (h:aa):ai PP 76 [.string (B l)] h (uM l h):=by
 refine az mix adm XA rfl (by show 1≤60;decide) akt ?_
 simp only[yj,Tryz.f76]
 simp -implicitDefEqProofs
 refine(T.uP l hl h).mono ?_
 rintro v H1 ⟨E1,s,hs,rfl⟩
 obtain⟨ad,rfl,_⟩:=id hs
 have hp:ef l=if(bG l).code≠0 then(some ((bG l).ln,(bG l).aj),⟨[],0,0,[],[]⟩)else _:=rfl
 simp -implicitDefEqProofs[ae,cE]
 intro _
 rcases Uz l with hc|hc
 rotate_left
 ·rw[if_pos (by rw[hc];decide)]at hp
  have wr:=jM (bG l).ln (bG l).aj H1
  simp only[cE]at wr
  simp -implicitDefEqProofs[hc]
  refine wr.mono ?_
  intro E H2 hE
  obtain⟨be,rfl⟩:=iv hE
  simp -implicitDefEqProofs[ae]
  intro _
  refine⟨E1.trans hE.1,?_⟩
  rw[hp]
  exact⟨_,by simp[V.gW],hE.2⟩
 ·rw[if_neg (by rw[hc];decide)]at hp
  simp -implicitDefEqProofs[hc]
  have htl:(bG l).ts.length≤1048577:=by have:=Uw l (l.length+1) 0 1 1;show(eP l (l.length+1) 0 1 1).ts.length≤_;omega
  obtain⟨M,hM⟩:∃M,M=(H1.new (aO.obj (Obj.map #[] 0))).new (aO.row true 170 [Value.slice none 0 0,Value.int IntKind.i64 0,Value.int IntKind.i64 0,Value.slice none 0 0,Value.slice none 0 0,Value.int IntKind.i64 (bG l).ln,Value.int IntKind.i64 (bG l).aj,Value.map (some H1.n),Value.slice none 0 0,Value.bool false]):=⟨_,rfl⟩
  have EM:Ext H1 M:=by rw[hM];exact(Ext.new _ _).bA _
  have RM:jo H1 M fT (bG l).ln (bG l).aj (.slice none 0 0) (H1.n+1):=by
   rw[hM]
   exact⟨none,none,none,_,_,_,H1.n,by simp[fT],by omega,by simp,F.bz.nil,F.bz.nil,F.bz.nil,by simp[fT,lk,mO],Nat.le_refl _,by simp;omega⟩
  rw[←hM]
  refine(afz (bG l).ts htl H1 M (bG l).ln (bG l).aj (.slice none 0 0) rfl (H1.n+1) fT ⟨by simp[fT],by simp[fT],by simp[fT]⟩ _ hs.apK EM RM).mono ?_
  rintro v H2 ⟨E2,R2,hL⟩
  obtain⟨L,hLd⟩:∃L,L=fe (bG l).ts (bG l).ln (bG l).aj ((bG l).ts.length+1) 0 fT:=⟨_,rfl⟩
  rw[←hLd]at R2 hL hp
  obtain⟨r,re⟩:=L
  cases re with
  |some e=>
   simp only at R2 hL hp
   obtain⟨be,rfl⟩:=iv (h:=H2) (a:=e.1) (b:=e.2) ⟨Ext.bu _,hL⟩
   simp -implicitDefEqProofs[ae]
   intro _
   refine⟨E1.trans E2,?_⟩
   rw[hp]
   exact⟨_,by simp[V.gW],hL⟩
  |none=>
   simp only at R2 hL hp
   obtain⟨rfl,hok⟩:=hL
   have G:mF r:=by
    have:=Oq (bG l).ts (bG l).ln (bG l).aj ((bG l).ts.length+1) 0 fT PH (by rw[←hLd])
    rw[←hLd]at this
    exact this
   simp -implicitDefEqProofs[ae]
   intro _
   refine(aqF H1 H2 r (bG l).ln (bG l).aj (H1.n+1) E2 ⟨none,_,F.bz.nil,R2⟩ hok).mono ?_
   rintro v H3 ⟨E3,hW⟩
   obtain⟨W,hWd⟩:∃W,W=gq r (bG l).ln (bG l).aj:=⟨_,rfl⟩
   have hwn:=Rf (r:=r) (el:=(bG l).ln) (ec:=(bG l).aj)
   rw[←hWd]at hW hp hwn
   obtain⟨ks,we⟩:=W
   cases we with
   |some e=>
    simp only at hW hp
    obtain⟨be,rfl⟩:=iv (h:=H3) (a:=e.1) (b:=e.2) ⟨Ext.bu _,hW⟩
    simp -implicitDefEqProofs[ae]
    intro _
    refine⟨E1.trans E3,?_⟩
    rw[hp]
    exact⟨_,by simp[V.gW],hW⟩
   |none=>
    simp only at hW hp hwn
    obtain⟨rfl,R3⟩:=hW
    obtain⟨n1,n2,n3,n4⟩:=hwn trivial hok.2.1
    obtain⟨o3,kv,hk3,os,op,ok,ss,sp,sk,bm,hbr,hbr1,hbr2,hos,hop,hokk,_⟩:=R3
    have hVC:V.bF H3 (jh r ks) [ss,.int .i64 r.aV,.int .i64 r.bg,kv,sp]:=⟨_,_,_,rfl,hos.own.sl,hk3.own.sl,hop.own.sl⟩
    simp -implicitDefEqProofs[ae,hbr]
    intro _
    refine(V.agy (jh r ks) _ ⟨by have:=hok.1;show r.af.length≤_;omega,by show ks.length≤_;omega,by have:=hok.2.2;show r.aE.length≤_;omega⟩ (by show ks.length≤_;omega) H3 hVC).mono ?_
    intro v H4 hN
    obtain⟨E4,w,co,hw,hc,rfl⟩:=agA G n1 n2 n3 n4 hN
    obtain⟨s',k',p',rfl,v1,v2,v3⟩:=id hc
    obtain⟨ad1,cc1,rfl⟩:=v1.1.shape
    obtain⟨ad2,cc2,rfl⟩:=v2.1.shape
    obtain⟨ad3,cc3,rfl⟩:=v3.1.shape
    simp -implicitDefEqProofs[ae]
    intro _
    refine⟨(E1.trans E3).trans E4,?_⟩
    rw[hp]
    exact⟨w,_,hw,hc.low (E1.trans E3).n,rfl⟩
theorem uM.p {l:List UInt8} {h h':aa} {v:Value} (H:uM l h v h'):A8 l h v h':=by
 obtain⟨E,H⟩:=H
 refine⟨E,?_⟩
 cases q:(ef l).1 with
 |some e=>rw[q]at H;exact H
 |none=>
  rw[q]at H
  obtain⟨w,co,n1,n2,n3⟩:=H
  exact⟨w,co,n1,n2.cK,n3⟩
theorem aqz (l:List UInt8) (hl:l.length≤1048576) (h:aa):ai PP 76 [.string (B l)] h (A8 l h):=(Rc l hl h).mono fun _ _ H=>H.p
end Go.Proofs.Ybk
namespace Go.Proofs.Ybk
open Go Go.Am
set_option maxHeartbeats 4000000
open T (a8 cg dv cE dV bG eP dC ie ig)
open V (aq aP ah al aQ ab aB aZ)
open F (FR dp bQ)
def je (t:a8):Prop:=1≤t.line∧1≤t.aj
theorem agv (l:List UInt8) (a:Nat) (ln aj:Int) (h1:1≤ln) (h2:1≤aj):1≤(dC l a ln aj).ln∧1≤(dC l a ln aj).aj∧((dC l a ln aj).code=0→je (dC l a ln aj).tok):=by
 unfold dC ie je
 generalize hk:a+T.eG false (l.drop a)=k
 have hak:a≤k:=by omega
 have hnv:=T.O2 l k
 cases hg:l[k]? with
 |none=>dsimp only;refine⟨by omega,by omega,by simp⟩
 |some c=>
  dsimp only
  (repeat' split)<;>refine⟨by dsimp only;omega,by dsimp only;omega,?_⟩<;>intro q<;>first|(exfalso;revert q;dsimp only;omega)|exact⟨by dsimp only;omega,by dsimp only;omega⟩
theorem Ux (l:List UInt8):∀(n a:Nat) (ln aj:Int),1≤ln→1≤aj→1≤(eP l n a ln aj).ln∧1≤(eP l n a ln aj).aj∧∀t∈(eP l n a ln aj).ts,je t:=by
 intro n
 induction n with
 |zero=>intro a ln aj h1 h2;exact⟨h1,h2,fun t ht=>by cases ht⟩
 |succ n ih=>
  intro a ln aj h1 h2
  obtain⟨p1,p2,p3⟩:=agv l a ln aj h1 h2
  rw[eP]
  by_cases h0:(dC l a ln aj).code=0
  ·simp only[h0,if_true]
   obtain⟨q1,q2,q3⟩:=ih (dC l a ln aj).to _ _ p1 p2
   refine⟨q1,q2,fun t ht=>?_⟩
   rcases List.mem_cons.1 ht with rfl|z
   ·exact p3 h0
   ·exact q3 t z
  ·simp only[h0,if_false]
   split<;>exact⟨p1,p2,fun t ht=>by cases ht⟩
theorem UA (l:List UInt8):1≤(bG l).ln∧1≤(bG l).aj∧∀t∈(bG l).ts,je t:=Ux l _ _ _ _ (by omega) (by omega)
def ik (e:Int×Int):Prop:=1≤e.1∧1≤e.2
theorem agD {bl bc:Int} (hb:ik (bl,bc)):∀{bs:List Nat} {rest:List a8} {e:Int×Int},(∀t∈rest,je t)→iy bl bc bs rest=some e→ik e:=by
 intro bs
 induction bs with
 |nil=>intro rest e _ h;cases h
 |cons b bs ih=>
  intro rest e hr h
  cases rest with
  |nil=>rw[iy]at h;simp only[Option.some.injEq]at h;rw[←h];exact hb
  |cons t r=>
   rw[iy]at h
   split at h
   ·exact ih (fun t ht=>hr t (List.mem_cons_of_mem _ ht)) h
   ·simp only[Option.some.injEq]at h;rw[←h];exact hr t List.mem_cons_self
theorem agG:∀{bs:List Nat} {rest:List a8} {e:Int×Int},(∀t∈rest,je t)→jz bs rest=some e→ik e:=by
 intro bs
 induction bs with
 |nil=>intro rest e _ h;cases h
 |cons b bs ih=>
  intro rest e hr h
  cases rest with
  |nil=>cases h
  |cons t r=>
   rw[jz]at h
   split at h
   ·exact ih (fun t ht=>hr t (List.mem_cons_of_mem _ ht)) h
   ·simp only[Option.some.injEq]at h;rw[←h];exact hr t List.mem_cons_self
theorem afw {ts:List a8} {bl bc:Int} {e:Int×Int} (hb:ik (bl,bc)) (hr:∀t∈ts,je t) (h:fc ts bl bc=some e):ik e:=by
 cases ts with
 |nil=>cases h
 |cons t0 rest=>
  have hr':∀t∈rest,je t:=fun t ht=>hr t (List.mem_cons_of_mem _ ht)
  simp only[fc]at h
  cases hw:jj t0 with
  |none=>rw[hw]at h;simp only[Option.some.injEq]at h;rw[←h];exact hr t0 List.mem_cons_self
  |some bs=>
   rw[hw]at h
   simp only[nd]at h
   cases hc:iy bl bc bs rest with
   |some e'=>rw[hc]at h;simp only[Option.some.injEq]at h;rw[←h];exact agD hb hr' hc
   |none=>
    rw[hc]at h
    simp only at h
    cases hd:rest.drop bs.length with
    |cons t q=>rw[hd]at h;simp only[Option.some.injEq]at h;rw[←h];exact hr' t (List.mem_of_mem_drop (hd ▸ List.mem_cons_self))
    |nil=>rw[hd]at h;exact agG hr' h
def sZ (r:Rd):Prop:=∀k∈r.aD,ik (k.line,k.aj)∧ik (k.ns,k.nm)
theorem TF {r:Rd} {t0:a8} {rest:List a8} (H:sZ r) (h0:je t0) (hr:∀t∈rest,je t) (hl:1≤rest.length):sZ (cF r t0 rest).1:=by
 unfold cF
 dsimp only
 split
 ·split<;>exact H
 split
 ·split<;>exact H
 split
 ·intro k hk
  rcases List.mem_append.1 hk with q|q
  ·exact H k q
  ·obtain rfl:=List.mem_singleton.1 q
   cases rest with
   |nil=>simp at hl
   |cons t q=>exact⟨h0,hr t List.mem_cons_self⟩
 split
 ·exact H
 ·split<;>exact H
theorem UP {ts:List a8} {el ec:Int} (he:ik (el,ec)) (hr:∀t∈ts,je t) (k:Nat):ik ((iO ts el ec k).1,(iO ts el ec k).2):=by
 unfold iO
 cases hk:ts[k]? with
 |none=>exact he
 |some t=>exact hr t (List.mem_of_getElem? hk)
theorem amQ {ts:List a8} {a:Nat} {t:a8} (h:t∈rowAt ts a):t∈ts:=by
 unfold rowAt at h
 exact List.mem_of_mem_take (List.mem_of_mem_drop h)
theorem afx (ts:List a8) (el ec:Int) (he:ik (el,ec)) (hts:∀t∈ts,je t):∀(f a:Nat) (r:Rd),sZ r→sZ (fe ts el ec f a r).1∧∀e,(fe ts el ec f a r).2=some e→ik e:=by
 intro f
 induction f with
 |zero=>intro a r H;exact⟨H,fun e h=>by cases h⟩
 |succ f ih=>
  intro a r H
  by_cases ha:a<ts.length
  ·cases hr:rowAt ts a with
   |nil=>rw[zE ha hr];exact ih _ _ H
   |cons t0 rest=>
    have hm:∀t∈t0::rest,je t:=fun t ht=>hts t (amQ (a:=a) (by rw[hr];exact ht))
    have hm':∀t∈rest,je t:=fun t ht=>hm t (List.mem_cons_of_mem _ ht)
    rw[zD ha hr]
    cases hle:fc (t0::rest) (iO ts el ec (a+(rest.length+1))).1 (iO ts el ec (a+(rest.length+1))).2 with
    |some e=>
     refine⟨H,fun e' h=>?_⟩
     simp only[Option.some.injEq]at h
     rw[←h]
     exact afw (UP he hts _) hm hle
    |none=>
     obtain⟨bs,hb,hl,_⟩:=On hle
     have h1:=(Bs hb).2.1
     have ha:=TF H (hm t0 List.mem_cons_self) hm' (by omega)
     simp only
     split
     ·exact ih _ _ ha
     ·refine⟨ha,fun e' h=>?_⟩
      simp only[Option.some.injEq]at h
      rw[←h]
      exact hm t0 List.mem_cons_self
  ·rw[fe,if_neg ha];exact⟨H,fun e h=>by cases h⟩
theorem afb (af:List aq):∀(l:List jl) (acc:List Int) (e:Int×Int),(∀k∈l,ik (k.line,k.aj)∧ik (k.ns,k.nm))→(iw af l acc).2=some e→ik e:=by
 intro l
 induction l with
 |nil=>intro acc e _ h;cases h
 |cons k r ih=>
  intro acc e H h
  have hk:=H k List.mem_cons_self
  cases hp:iA af k.row k.x with
  |none=>rw[zt hp]at h;simp only[Option.some.injEq]at h;rw[←h];exact hk.2
  |some n=>
   by_cases hm:(n:Int)∈acc
   ·rw[zu hp hm]at h;simp only[Option.some.injEq]at h;rw[←h];exact hk.1
   ·rw[zr hp hm]at h
    exact ih _ _ (fun k hk=>H k (List.mem_cons_of_mem _ hk)) h
theorem alw {l:List UInt8} {e:Int×Int} (h:(ef l).1=some e):ik e:=by
 obtain⟨p1,p2,p3⟩:=UA l
 unfold ef at h
 split at h
 ·simp only[Option.some.injEq]at h;rw[←h];exact⟨p1,p2⟩
 ·have hL:=afx (bG l).ts (bG l).ln (bG l).aj ⟨p1,p2⟩ p3 ((bG l).ts.length+1) 0 fT (fun k hk=>by simp[fT]at hk)
  revert h hL
  generalize fe (bG l).ts (bG l).ln (bG l).aj ((bG l).ts.length+1) 0 fT=L
  intro h hL
  obtain⟨r,re⟩:=L
  cases re with
  |some e'=>simp only[Option.some.injEq]at h;rw[←h];exact hL.2 _ rfl
  |none=>
   simp only at h
   have hw:∀e,(gq r (bG l).ln (bG l).aj).2=some e→ik e:=by
    intro e h
    unfold gq at h
    split at h
    ·simp only[Option.some.injEq]at h;rw[←h];exact⟨p1,p2⟩
    ·exact afb _ _ _ _ hL.1 h
   revert h hw
   generalize gq r (bG l).ln (bG l).aj=W
   intro h hw
   obtain⟨ks,we⟩:=W
   cases we with
   |some e'=>simp only[Option.some.injEq]at h;rw[←h];exact hw _ rfl
   |none=>cases h
def qW (l:List UInt8):Int×Int×Int:=match(ef l).1 with
 |some e=>(2,e.1,e.2)
 |none=>(0,0,0)
def RT (l:List UInt8) (h:aa) (v:Value) (h':aa):Prop:=Ext h h'∧v= .tuple #[.int .i64 (qW l).1,cE (qW l).2.1 (qW l).2.2]
theorem anQ {e:Int×Int} (h:ik e):F.kU (jv e.1 e.2)=e:=by
 obtain⟨h1,h2⟩:=h
 have a1:F.kI e.1=e.1:=by unfold F.kI;rw[if_neg (by omega)]
 have a2:F.kI e.2=e.2:=by unfold F.kI;rw[if_neg (by omega)]
 have hs:F.sT ⟨2,e.1,e.2⟩=true:=by
  have:¬e.1=0:=by omega
  simp[F.sT,this]
 simp only[jv,a1,a2,F.kU]
 rw[if_neg (by decide),if_pos hs]
theorem alC (l:List UInt8) (hl:l.length≤1048576) (h:aa) (G:bQ h):ai PP 106 [.string (B l)] h (RT l h):=by
 refine az mix aaR UY rfl (by show 1≤21;decide) ah5 ?_
 simp only[uW,Tryz.f106]
 simp -implicitDefEqProofs
 refine(aqz l hl h).mono ?_
 rintro v H1 ⟨E1,hV⟩
 have hcv:qW l=match(ef l).1 with
  |some e=>(2,e.1,e.2)
  |none=>(0,0,0):=rfl
 have G1:=G.ext E1
 cases hp:(ef l).1 with
 |none=>
  rw[hp]at hV hcv
  obtain⟨w,co,hw,hc,rfl⟩:=hV
  obtain⟨s',k',p',rfl,v1,v2,v3⟩:=id hc
  obtain⟨ad1,cc1,rfl⟩:=v1.shape
  obtain⟨ad2,cc2,rfl⟩:=v2.shape
  obtain⟨ad3,cc3,rfl⟩:=v3.shape
  simp -implicitDefEqProofs[ae]
  intro _
  refine(F.Bp _ _ (G1.ext (Ext.new H1 _))).mono ?_
  rintro v H2 ⟨rfl,rfl⟩
  simp -implicitDefEqProofs[ae]
  intro _
  refine⟨E1.bA _,?_⟩
  rw[hcv]
  rfl
 |some e=>
  rw[hp]at hV hcv
  obtain⟨E,rfl,hE⟩:=hV
  have hpos:=alw hp
  have hE':=hE
  rcases hE.shape with⟨_,q⟩|⟨b,f,E',r,rfl,q,k1,k2,k3⟩
  ·cases q
  simp -implicitDefEqProofs[ae,V.gW]
  intro _
  have EN:Ext H1 (H1.new (.row true 207 [.pointer none])):=Ext.new H1 _
  refine(F.Bo b H1.n (.pointer none) _ (G1.ext EN) (by simp)).mono ?_
  rintro v H2 ⟨rfl,rfl⟩
  have EN2:=EN.cq (Nat.le_refl H1.n) (.row true 207 [.pointer (some ⟨b,0,none⟩)])
  obtain⟨M,hM⟩:∃M,M=(H1.new (.row true 207 [.pointer none])).set H1.n (.row true 207 [.pointer (some ⟨b,0,none⟩)]):=⟨_,rfl⟩
  have hMn:M.f H1.n= .row true 207 [.pointer (some ⟨b,0,none⟩)]:=by rw[hM];simp
  rw[←hM]at EN2 ⊢
  have hMb:M.f b= .row true 223 [.int .i64 f.code,.int .i64 f.line,.int .i64 f.aj,E']:=by rw[EN2.f b k2];exact k1
  simp -implicitDefEqProofs[ae,hMn]
  intro _
  refine(aaF b f E' M hMb).mono ?_
  rintro v H2 ⟨e1,rfl⟩
  replace e1:=e1.symm
  subst e1
  simp -implicitDefEqProofs[ae]
  intro _
  refine(F.lP _ _ (by simp[jv]) M (G1.ext EN2) (hE'.ext EN2)).mono ?_
  rintro v H2 ⟨E3,rfl⟩
  rw[anQ hpos]
  simp -implicitDefEqProofs[ae]
  intro _
  refine⟨(E1.trans EN2).trans E3,?_⟩
  have hfc:f.code=2:=by simp only[jv,List.cons.injEq]at q;rw[←q.1]
  rw[hcv,hfc]
  rfl
end Go.Proofs.Ybk
namespace Go.Proofs.Ybk
open Go Go.Am
set_option maxHeartbeats 4000000
open T (a8 cg dv cE dV bG eP dC)
open V (aq aP ah al aQ ab aB aZ)
open F (FR dp bQ)
end Go.Proofs.Ybk
namespace Go.Proofs.Ybk
open Go Go.Am
set_option maxHeartbeats 4000000
open T (a8 cg dv cE dV bG eP dC)
open V (aq aP ah al aQ ab aB aZ dB j3 iN Ri dF dL eo aM jL eE dN ft)
open F (FR dp bQ)
theorem af2 {v:ah} (h:aM v=true):eE v.af=true:=by
 cases q:eE v.af with
 |true=>rfl
 |false=>unfold aM jL at h;rw[if_pos q]at h;simp at h
theorem ank {l:List aq} (h:eE l=true):l.Pairwise (fun a b=>dB a b=true):=by
 unfold eE at h
 rw[Bool.and_eq_true,List.all_eq_true]at h
 have key:∀(d i:Nat) (a b:aq),l[i]? =some a→l[i+d+1]? =some b→dB a b=true:=by
  have step:∀(i:Nat) (a b:aq),l[i]? =some a→l[i+1]? =some b→dB a b=true:=by
   intro i a b h1 h2
   have hlt:=(List.getElem?_eq_some_iff.mp h2).1
   have:=h.1 (i+1) (List.mem_range.2 hlt)
   unfold dN at this
   rw[h2,show i+1-1=i by omega,h1]at this
   simp at this
   exact this.2
  intro d
  induction d with
  |zero=>exact step
  |succ d ih=>
   intro i a b h1 h2
   have hlt:=(List.getElem?_eq_some_iff.mp h2).1
   have h3:l[i+d+1]? =some l[i+d+1]:=List.getElem?_eq_getElem (by omega)
   have q1:=ih i a _ h1 h3
   have q2:=step _ _ _ h3 (by rw[show i+d+1+1=i+(d+1)+1 by omega];exact h2)
   rw[j3]at *
   omega
 rw[List.pairwise_iff_getElem]
 intro a b ha hb hab
 exact key (b-a-1) a _ _ (List.getElem?_eq_getElem ha) (by rw[show a+(b-a-1)+1=b by omega];exact List.getElem?_eq_getElem hb)
end Go.Proofs.Ybk
namespace Go.Proofs.Ybk
open Go Go.Am
open V (aq aP ah aB dB j3 iN Ri dF dL eo aM jL eE dN ft)
def oq (s:aq):List aq→List aq
 |[]=>[s]
 |a::r=>if dB s a then s::a::r else a::oq s r
def mv (l:List aq):List aq:=l.foldr oq []
def jY (x:Int):List Int→List Int
 |[]=>[x]
 |a::r=>if x<a then x::a::r else if x=a then a::r else a::jY x r
def lC (v:ah):ah:=⟨mv v.af,v.aV,v.bg,((dF v).map fun s=>dL (eo s) (mv v.af)).foldr jY [],v.aE⟩
theorem KL (s:aq) (l:List aq):(oq s l).Perm (s::l):=by
 induction l with
 |nil=>exact List.Perm.refl _
 |cons a r ih=>
  rw[oq]
  split
  ·exact List.Perm.refl _
  ·exact(List.Perm.cons a ih).trans (List.Perm.swap _ _ _)
theorem Au (l:List aq):(mv l).Perm l:=by
 induction l with
 |nil=>exact List.Perm.refl _
 |cons a r ih=>exact(KL a (mv r)).trans (List.Perm.cons a ih)
theorem aeH (s:aq) {l:List aq} (h:l.Pairwise fun a b=>dB b a=false):(oq s l).Pairwise fun a b=>dB b a=false:=by
 induction l with
 |nil=>simp[oq]
 |cons a r ih=>
  rw[List.pairwise_cons]at h
  rw[oq]
  by_cases q:dB s a=true
  ·rw[if_pos q,List.pairwise_cons]
   have q':=q
   rw[j3]at q
   refine⟨fun b hb=>?_,List.pairwise_cons.2 h⟩
   rw[←Bool.not_eq_true,j3]
   rcases List.mem_cons.1 hb with e|hb
   ·subst e;omega
   ·have:=h.1 b hb
    rw[←Bool.not_eq_true,j3]at this
    omega
  ·rw[if_neg q,List.pairwise_cons]
   refine⟨fun b hb=>?_,ih h.2⟩
   rcases List.mem_cons.1 ((KL s r).mem_iff.1 hb)with e|hb
   ·subst e;exact Bool.eq_false_iff.2 q
   ·exact h.1 b hb
theorem Av (l:List aq):iN (mv l):=by
 have h:(mv l).Pairwise fun a b=>dB b a=false:=by
  induction l with
  |nil=>exact List.Pairwise.nil
  |cons a r ih=>exact aeH a ih
 intro i j a b hij ha hb
 rw[List.pairwise_iff_getElem]at h
 obtain⟨hi,rfl⟩:=List.getElem?_eq_some_iff.mp ha
 obtain⟨hj,rfl⟩:=List.getElem?_eq_some_iff.mp hb
 exact h i j hi hj hij
theorem KK (x y:Int) (l:List Int):y∈jY x l↔y=x∨y∈l:=by
 induction l with
 |nil=>simp[jY]
 |cons a r ih=>
  rw[jY]
  split
  ·simp
  ·split
   ·rename_i e;subst e;simp
   ·rw[List.mem_cons,ih,List.mem_cons]
    constructor
    ·rintro(h|h|h)
     ·exact .inr (.inl h)
     ·exact .inl h
     ·exact .inr (.inr h)
    ·rintro(h|h|h)
     ·exact .inr (.inl h)
     ·exact .inl h
     ·exact .inr (.inr h)
theorem Qa (y:Int) (l:List Int):y∈l.foldr jY []↔y∈l:=by
 induction l with
 |nil=>simp
 |cons a r ih=>rw[List.foldr_cons,KK,ih,List.mem_cons]
theorem aeG (x:Int) {l:List Int} (h:l.Pairwise (· < ·)):(jY x l).Pairwise (· < ·):=by
 induction l with
 |nil=>simp[jY]
 |cons a r ih=>
  rw[List.pairwise_cons]at h
  rw[jY]
  split
  ·rename_i q
   rw[List.pairwise_cons]
   refine⟨fun b hb=>?_,List.pairwise_cons.2 h⟩
   rcases List.mem_cons.1 hb with e|hb
   ·subst e;exact q
   ·have:=h.1 b hb;omega
  ·split
   ·exact List.pairwise_cons.2 h
   ·rw[List.pairwise_cons]
    refine⟨fun b hb=>?_,ih h.2⟩
    rcases(KK x b r).1 hb with e|hb
    ·subst e;omega
    ·exact h.1 b hb
theorem Ar (l:List Int):(l.foldr jY []).Pairwise (· < ·):=by
 induction l with
 |nil=>exact List.Pairwise.nil
 |cons a r ih=>exact aeG a ih
theorem Ag {l:List Int} (h:l.Pairwise (· < ·)):Ri l:=h
theorem agz {v w:ah} (H:qK v w):lC v=w:=by
 obtain⟨p,s,r,m,g,a,q,y⟩:=H
 have e:mv v.af=w.af:=V.alF (ank (af2 y)) ((Au v.af).trans p.symm) (Av v.af)
 have e2:(lC v).aD=w.aD:=V.amJ (Ag (Ar _)) r (fun x=>by
  show x∈List.foldr jY [] _↔_
  rw[m,Qa,e])
 unfold lC at e2 ⊢
 simp only at e2
 cases w
 simp only at *
 rw[e2,e,g,a,q]
end Go.Proofs.Ybk
namespace Go.Proofs.Ybk.K
open Go Go.Am
open V (aq aP ah aM aB)
structure aK where
 fuel:Int
 has:Bool
 v:ah
 l:List aN
 now:Int
def cS (o:aN):Bool:=decide (o.state=1) || decide (o.state=2)
def bW (b:aK):List aN:=b.l.filter cS
def fG:Nat→List aN→List (Int×Int)
 |_,[]=>[]
 |k,o::r=>if o.state=2 then((k:Int),o.first)::fG (k+1) r else fG (k+1) r
def aT (b:aK):List aU×List Int×List (Int×Int):=((bW b).map (·.aR),(bW b).map (·.first),fG 0 (bW b))
def eF:List aN→List Int→List aN
 |[],_=>[]
 |o::r,p=>if cS o then{o with first:=p.headD 0}::eF r p.tail else o::eF r p
def qC (b:aK) (p:List Int):aK:={b with l:=eF b.l p}
def eX (b:aK) (o:aN):List Int:=if aM b.v then(cD b.v (cJ b.v) o.aR o.first).getD []else[]
def err (c:Int):im:=⟨c,0,(0,0),[]⟩
def me (b:aK) (t:List UInt8):aK×im:=if(bW b).length>0 then(b,err 12)else match(ef t).1 with
 |some e=>(b,⟨2,0,e,[]⟩)
 |none=>let v:=lC (ef t).2;({b with v:=v,has:=true},⟨0,v.af.length,(0,0),[]⟩)
def fD (steps:Nat) (b:aK) (p:aU):List Int×Int:=if 512≤(bW b).length then([],8)else
 let (l,old,pins):=aT b
 let r:=eO steps b.v (l++[p]) pins (old++[-1]) b.fuel
 if r.2≠0 then([],r.2)else if jW (l++[p]) r.1.aW then(r.1.aW,0)else if r.1.answer=3 then([],7)else([],6)
def jw (steps:Nat) (b:aK) (c:dQ):aK×im:=if !dM c.aR || decide (c.a<1) || decide (1000000<c.a) || decide (1099511627776<b.now+c.a)then(b,err 1)else
 let r:=fD steps b c.aR
 if r.2≠0 then(b,err r.2)else
  let o:aN:=⟨(b.l.length:Int)+1,1,c.aR,b.now+c.a,r.1.getLastD 0⟩
  let b1:=qC {b with l:=b.l++[o]} r.1
  (b1,⟨0,o.id,(0,0),eX b1 o⟩)
def mJ (b:aK) (id:Int):aK×im:=if id<1∨(b.l.length:Int)<id then(b,err 4)else
 let o:=b.l.getD (id.toNat-1) default
 if o.state≠1 then(b,err 5)else
  let o1:={o with state:=2,gT:=0}
  ({b with l:=b.l.set (id.toNat-1) o1},⟨0,0,(0,0),eX b o1⟩)
def iR (o:aN):aN:={o with state:=3,first:=-1,gT:=0}
def mH (b:aK) (id:Int):aK×im:=if id<1∨(b.l.length:Int)<id then(b,err 4)else
 let o:=b.l.getD (id.toNat-1) default
 if o.state=3 then(b,err 5)else({b with l:=b.l.set (id.toNat-1) (iR o)},err 0)
def iL (b:aK) (n:Int):aK×im:=if n<1∨1000000<n∨1099511627776<b.now+n then(b,err 1)else
 let now:=b.now+n
 let due:=fun o:aN=>decide (o.state=1)&&decide (o.gT≤now)
 ({b with now:=now,l:=b.l.map fun o=>if due o then iR o else o},⟨0,(b.l.filter due).length,(0,0),[]⟩)
def nq (steps:Nat) (b:aK):aK×im:=
 let (l,old,pins):=aT b
 let r:=eO steps b.v l pins old b.fuel
 if r.2≠0 then(b,err r.2)else if r.1.answer=3 then(b,err 7)else
  (qC b r.1.aW,⟨0,((List.range (min old.length r.1.aW.length)).filter fun k=>decide (old.getD k 0≠r.1.aW.getD k 0)).length,(0,0),[]⟩)
def pL (b:aK):im:=
 let out:=(List.range b.v.af.length).map fun k:Nat=>if(fb b.v).contains (k:Int)then(-1:Int)else 0
 ⟨0,0,(0,0),(bW b).foldl (fun out o=>(eX b o).foldl (fun out k=>out.set k.toNat o.id) out) out⟩
def cv (steps:Nat) (b:aK) (c:dQ):aK×im:=
 if c.kind<1∨8<c.kind then(b,err 1)else if c.kind=1 then me b c.text else if c.kind=5 then iL b c.a else if !b.has then(b,err 11)
 else if c.kind=2 then jw steps b c else if c.kind=6 then(b,let r:=fD steps b c.aR;if !dM c.aR then err 1 else if r.2≠0 then err r.2 else⟨0,0,(0,0),eX b ⟨0,0,c.aR,0,r.1.getLastD 0⟩⟩)
 else if c.kind=3 then mJ b c.a else if c.kind=4 then mH b c.a else if c.kind=7 then nq steps b else(b,pL b)
def fu (fuel:Int):aK:=⟨fuel,false,⟨[],0,0,[],[]⟩,[],0⟩
def th:List UInt8:=[103,97,112,32,49,48,10,115,101,97,116,32,48,32,48,32,48,10,115,101,97,116,32,48,32,49,48,32,48,10,115,101,97,116,32,48,32,50,48,32,48,10]
def cmd (k a s:Int) (t:List UInt8):dQ:=⟨k,a,⟨s,0⟩,t⟩
theorem P7:∀(l:List aN) (p:List Int),(eF l p).length=l.length:=by
 intro l
 induction l with
 |nil=>intro p;rfl
 |cons o r ih=>intro p;rw[eF];split<;>simp[ih]
theorem Kz {l:List aN} {k:Nat} (h:k<l.length):l[k]? =some (l.getD k default):=by
 rw[List.getD_eq_getElem?_getD,List.getElem?_eq_getElem h];rfl
def mB:dh:=⟨0,[],ko,0⟩
def iD:List aN→List aN→List dh
 |[],_=>[]
 |o::r,was=>(if was.head? =some o then[]else[{mB with kind:=2,order:=o}])++iD r was.tail
def pc (b was:aK) (c:dQ):List dh:=
 let out:=(if c.kind=1 then[{mB with kind:=1,text:=c.text}]else if c.kind=5 then[{mB with kind:=3,time:=b.now}]else[])++iD b.l was.l
 if out=[]then[]else out++[{mB with kind:=4}]
structure aqZ (b:aK) (c:dQ) (b':aK) (r:im):Prop where
 bad:r.code≠0→b'=b∧r.n=0∧r.af=[]
 len:b.l.length≤b'.l.length
 rest:c.kind≠1→c.kind≠5→b'.fuel=b.fuel∧b'.has=b.has∧b'.v=b.v∧b'.now=b.now
def dW (now:Int) (o:aN):Bool:=decide (o.state=1)&&decide (o.gT≤now)
def fj (now:Int) (o:aN):aN:=if dW now o then iR o else o
theorem aah {m n:Int} (h:m≤n) (o:aN):fj n (fj m o)=fj n o:=by
 unfold fj
 by_cases q:dW m o=true
 ·have q2:dW n o=true:=by simp[dW]at q ⊢;omega
  have q3:dW n (iR o)=false:=by simp[dW,iR]
  rw[if_pos q,if_pos q2,q3];rfl
 ·rw[if_neg q]
theorem apJ (m n:Int) (h:m≤n) (l:List aN):(l.map (fj m)).map (fj n)=l.map (fj n):=by
 rw[List.map_map]
 exact List.map_congr_left (fun o _=>aah h o)
theorem apI (m n:Int) (h:m≤n):∀l:List aN,(l.filter (dW m)).length+((l.map (fj m)).filter (dW n)).length=(l.filter (dW n)).length:=by
 intro l
 induction l with
 |nil=>rfl
 |cons o r ih=>
  rw[List.map_cons,List.filter_cons,List.filter_cons,List.filter_cons]
  by_cases q:dW m o=true
  ·have q2:dW n o=true:=by simp[dW]at q ⊢;omega
   have q3:dW n (fj m o)=false:=by unfold fj;rw[if_pos q];simp[dW,iR]
   rw[if_pos q,if_pos q2,q3]
   simp only[Bool.false_eq_true,if_false,List.length_cons]
   omega
  ·have q3:fj m o=o:=by unfold fj;rw[if_neg q]
   rw[if_neg q,q3]
   split
   ·simp only[List.length_cons];omega
   ·exact ih
theorem Ql (b:aK) (n:Int) (h:1≤n∧n≤1000000∧b.now+n≤1099511627776):iL b n=({b with now:=b.now+n,l:=b.l.map (fj (b.now+n))},⟨0,(b.l.filter (dW (b.now+n))).length,(0,0),[]⟩):=by
 unfold iL
 rw[if_neg (by omega)]
 rfl
theorem zA (l:List aU) (pins:List (Int×Int)):(dG l pins).length=l.length:=by
 unfold dG
 have:∀(pins:List (Int×Int)) (p:List Int),(pins.foldl (fun p q=>p.set q.1.toNat q.2) p).length=p.length:=by
  intro pins
  induction pins with
  |nil=>intro p;rfl
  |cons q r ih=>intro p;rw[List.foldl_cons,ih];simp
 rw[this];simp
theorem Oy (h:df) (hl:h.aW.length=h.l.length):(cO h).1.aW.length=(cO h).1.l.length∧(cO h).1.l=h.l:=by
 unfold cO
 split
 ·exact⟨hl,rfl⟩
 ·simp only
  split
  ·rename_i hd
   split
   ·exact⟨hd,rfl⟩
   ·exact⟨hl,rfl⟩
  ·split
   ·exact⟨hl,rfl⟩
   ·exact⟨hl,rfl⟩
theorem am5:∀(n:Nat) (h:df) (g:Bool),h.aW.length=h.l.length→(dO n h g).1.aW.length=(dO n h g).1.l.length∧(dO n h g).1.l=h.l:=by
 intro n
 induction n with
 |zero=>intro h g hl;exact⟨hl,rfl⟩
 |succ n ih=>
  intro h g hl
  rw[dO]
  split
  ·split
   ·exact⟨hl,rfl⟩
   ·split
    ·exact ih _ _ hl
    ·rename_i l a r hs q
     obtain⟨e1,e2⟩:=Oy {h with stack:=(l,a+1)::r,p:=gJ h.p (l.getD a 0)} hl
     obtain⟨i1,i2⟩:=ih _ (cO {h with stack:=(l,a+1)::r,p:=gJ h.p (l.getD a 0)}).2 e1
     exact⟨i1,i2.trans e2⟩
  ·exact⟨hl,rfl⟩
theorem uU {steps:Nat} {v:ah} {l:List aU} {pins:List (Int×Int)} {fuel:Int} {r:nK} (h:lX steps v l pins fuel=some r):r.aW.length=l.length:=by
 unfold lX at h
 split at h
 ·cases h
 ·rename_i s hs
  split at h
  ·cases h
  ·simp only[Option.some.injEq]at h
   subst h
   simp only
   obtain⟨e1,e2⟩:=Oy ⟨gQ s,l,dG l pins,0,[],jH l (dG l pins),fuel,[]⟩ (zA l pins)
   obtain⟨i1,i2⟩:=am5 steps _ (cO ⟨gQ s,l,dG l pins,0,[],jH l (dG l pins),fuel,[]⟩).2 e1
   rw[i1,i2,e2]
theorem Be {steps:Nat} {v:ah} {l:List aU} {pins:List (Int×Int)} {old:List Int} {fuel:Int} (ho:old.length=l.length) (h:(eO steps v l pins old fuel).2=0):(eO steps v l pins old fuel).1.aW.length=l.length:=by
 unfold eO at h ⊢
 split
 ·rename_i q
  rw[if_pos q]at h;simp at h
 ·rename_i q
  rw[if_neg q]at h
  split
  ·rename_i q2
   rw[q2]at h;simp at h
  ·rename_i r q2
   split
   ·exact ho
   ·exact uU q2
structure AQ (s:bO) (p:List Int) (d k:Nat) (f:Int):Prop where
 tF:∀x,eW s k=some x→f=x
 af:(cD s.v s.us (s.l.getD k default) f).isSome=true
 apart:∀j,j<d→p.getD j 0≠-1→dK s.v (s.l.getD k default) f (s.l.getD j default) (p.getD j 0)=true
theorem Rk {s:bO} {p q:List Int} {k:Nat} (h:∀j,j≤k→p.getD j 0=q.getD j 0):dz s p k=dz s q k:=by
 unfold dz
 simp only
 rw[h k (Nat.le_refl _)]
 congr 3
 have:∀j∈List.range k,(decide (p.getD j 0≠-1)&& !dK s.v (s.l.getD k default) (q.getD k 0) (s.l.getD j default) (p.getD j 0))=(decide (q.getD j 0≠-1)&& !dK s.v (s.l.getD k default) (q.getD k 0) (s.l.getD j default) (q.getD j 0)):=fun j hj=>by
  rw[h j (Nat.le_of_lt (List.mem_range.1 hj))]
 rw[Bool.eq_iff_iff,List.any_eq_true,List.any_eq_true]
 constructor
 ·rintro⟨j,hj,e⟩;exact⟨j,hj,by rw[←this j hj];exact e⟩
 ·rintro⟨j,hj,e⟩;exact⟨j,hj,by rw[this j hj];exact e⟩
theorem sS {p q:List Int} {j:Nat} (h:j<p.length):(p++q).getD j 0=p.getD j 0:=by
 rw[List.getD_eq_getElem?_getD,List.getD_eq_getElem?_getD,List.getElem?_append_left h]
theorem za {p:List Int} {f:Int}:(p++[f]).getD p.length 0=f:=by
 rw[List.getD_eq_getElem?_getD,List.getElem?_append_right (Nat.le_refl _)];simp
theorem Ky {p:List Int} {j:Nat} (h:j<p.length-1):p.dropLast.getD j 0=p.getD j 0:=by
 rw[List.getD_eq_getElem?_getD,List.getD_eq_getElem?_getD,List.getElem?_dropLast,if_pos h]
theorem aqP {s:bO} {p:List Int} {f:Int} (D:AQ s p p.length p.length f):dz s (p++[f]) p.length=false:=by
 unfold dz
 simp only[za]
 have h2:(cD s.v s.us (s.l.getD p.length default) f).isNone=false:=by
  have:=D.af
  cases q:cD s.v s.us (s.l.getD p.length default) f with
  |none=>rw[q]at this;cases this
  |some _=>rfl
 have h3:((List.range p.length).any fun j=>decide ((p++[f]).getD j 0≠-1)&& !dK s.v (s.l.getD p.length default) f (s.l.getD j default) ((p++[f]).getD j 0))=false:=by
  rw[List.any_eq_false]
  intro j hj
  have hj:=List.mem_range.1 hj
  rw[sS hj]
  by_cases q:p.getD j 0= -1
  ·rw[show decide (p.getD j 0≠-1)=false from by rw[q];rfl];simp
  ·rw[D.apart j hj q];simp
 rw[h2,h3]
 cases q:eW s p.length with
 |none=>simp
 |some x=>simp[D.tF x q]
theorem aqQ {s:bO} {p:List Int} (h:eW s p.length=none):dz s (p++[-1]) p.length=false:=by
 unfold dz
 simp only[za,h]
 rfl
structure nJ (p:cd):Prop where
 len:p.levels.length=p.p.length+1
 ok:∀k,k<p.p.length→dz p.s p.p k=false
 cU:∀d,d≤p.p.length→∀k,d≤k→∀f∈(p.levels.getD d []).getD k [],AQ p.s p.p d k f
theorem zK {p:cd} (h:p.levels.length=p.p.length+1):bZ p=p.levels.getD p.p.length []:=by
 unfold bZ
 rw[List.getLastD_eq_getLast?,List.getLast?_eq_getElem?,h,Nat.add_sub_cancel,List.getD_eq_getElem?_getD]
theorem rH {p:cd} (P:nJ p):nJ (gf p):=by
 unfold gf
 split
 ·exact P
 ·rename_i h0
  have hl:=P.len
  refine⟨by simp[hl];omega,fun k hk=>?_,fun d hd k hk f hf=>?_⟩
  ·simp only[List.length_dropLast]at hk
   rw[show dz p.s p.p.dropLast k=dz p.s p.p k from Rk (fun j hj=>Ky (by omega))]
   exact P.ok k (by omega)
  ·simp only[List.length_dropLast]at hd
   simp only at hf
   have e:p.levels.dropLast.getD d []=p.levels.getD d []:=by
    rw[List.getD_eq_getElem?_getD,List.getD_eq_getElem?_getD,List.getElem?_dropLast,if_pos (by omega)]
   rw[e]at hf
   have D:=P.cU d (by omega) k hk f hf
   refine⟨D.tF,D.af,fun j hj=>?_⟩
   rw[Ky (show j<p.p.length-1 by omega)]
   exact D.apart j hj
theorem PF {p:cd} (P:nJ p) (f:Int):nJ (gJ p f):=by
 unfold gJ
 simp only
 split
 ·exact P
 ·rename_i hg
  simp only[Bool.or_eq_true,Bool.and_eq_true,not_or,not_and,Bool.not_eq_true',decide_eq_true_eq,decide_eq_false_iff_not]at hg
  obtain⟨⟨hk,hpin⟩,hdom⟩:=hg
  have hk:p.p.length<p.s.l.length:=by simpa using hk
  have hnow:=zK P.len
  refine⟨by simp[P.len],fun k hk'=>?_,fun d hd k hk' f' hf'=>?_⟩
  ·simp only[List.length_append,List.length_singleton]at hk'
   rcases Nat.lt_or_ge k p.p.length with z|z
   ·rw[show dz p.s (p.p++[f]) k=dz p.s p.p k from Rk (fun j hj=>sS (by omega))]
    exact P.ok k z
   ·obtain rfl:k=p.p.length:=by omega
    by_cases hf:f= -1
    ·subst hf
     refine aqQ ?_
     have:=hpin rfl
     unfold jG at this
     simp[hk]at this
     exact this
    ·have hd:=hdom hf
     have hmem:f∈(bZ p).getD p.p.length []:=by
      unfold gI at hd
      rw[if_pos hk]at hd
      simpa using hd
     rw[hnow]at hmem
     exact aqP (P.cU _ (Nat.le_refl _) _ (Nat.le_refl _) f hmem)
  ·simp only[List.length_append,List.length_singleton]at hd
   simp only at hf'
   rcases Nat.lt_or_ge p.p.length d with z|z
   ·obtain rfl:d=p.p.length+1:=by omega
    have e:(p.levels++[(List.range (bZ p).length).map fun j=>if j=p.p.length then(if f= -1 then[]else[f])else if f≠-1∧p.p.length<j then ei p.s ((bZ p).getD j []) j p.p.length f else(bZ p).getD j []]).getD (p.p.length+1) []=(List.range (bZ p).length).map fun j=>if j=p.p.length then(if f= -1 then[]else[f])else if f≠-1∧p.p.length<j then ei p.s ((bZ p).getD j []) j p.p.length f else(bZ p).getD j []:=by
     rw[List.getD_eq_getElem?_getD,List.getElem?_append_right (by rw[P.len];omega),P.len];simp
    rw[e]at hf'
    rw[List.getD_eq_getElem?_getD,List.getElem?_map]at hf'
    cases hr:(List.range (bZ p).length)[k]? with
    |none=>rw[hr]at hf';simp at hf'
    |some k'=>
     have hk2:=List.getElem?_eq_some_iff.1 hr
     obtain⟨hk3,hk4⟩:=hk2
     rw[List.getElem_range]at hk4
     subst hk4
     rw[hr]at hf'
     simp only[Option.map_some,Option.getD_some]at hf'
     rw[if_neg (by omega)]at hf'
     have key:f'∈(bZ p).getD k []∧(f≠-1→dK p.s.v (p.s.l.getD k default) f' (p.s.l.getD p.p.length default) f=true):=by
      by_cases hf:f= -1
      ·rw[if_neg (by simp[hf])]at hf'
       exact⟨hf',fun q=>absurd hf q⟩
      ·rw[if_pos ⟨hf,by omega⟩]at hf'
       unfold ei at hf'
       obtain⟨m1,m2⟩:=List.mem_filter.1 hf'
       exact⟨m1,fun _=>m2⟩
     rw[hnow]at key
     have D:=P.cU _ (Nat.le_refl _) k (by omega) f' key.1
     refine⟨D.tF,D.af,fun j hj hne=>?_⟩
     rcases Nat.lt_or_ge j p.p.length with y|y
     ·simp only[sS y]at hne ⊢
      exact D.apart j y hne
     ·obtain rfl:j=p.p.length:=by omega
      simp only[za]at hne ⊢
      exact key.2 hne
   ·have e:∀X:List (List Int),(p.levels++[X]).getD d []=p.levels.getD d []:=fun X=>by
     rw[List.getD_eq_getElem?_getD,List.getD_eq_getElem?_getD,List.getElem?_append_left (by rw[P.len];omega)]
    rw[e]at hf'
    have D:=P.cU d z k hk' f' hf'
    refine⟨D.tF,D.af,fun j hj hne=>?_⟩
    simp only[sS (show j<p.p.length by omega)]at hne ⊢
    exact D.apart j hj hne
structure pD (v:ah) (us:List Bool) (l:List aU) (a:List (Int×Int)):Prop where
 each:∀q∈a,0≤q.1∧q.1<(l.length:Int)∧(cD v us (l.getD q.1.toNat default) q.2).isSome=true
 pair:a.Pairwise (fun x y=>x.1<y.1∧dK v (l.getD y.1.toNat default) y.2 (l.getD x.1.toNat default) x.2=true)
theorem aez (v:ah) (us:List Bool) (l:List aU):∀(r acc out:List (Int×Int)),gP v us l acc r=some out→pD v us l acc→out=acc++r∧pD v us l out:=by
 intro r
 induction r with
 |nil=>
  intro acc out h G
  simp only[gP,Option.some.injEq]at h
  subst h
  exact⟨by simp,G⟩
 |cons q r ih=>
  intro acc out h G
  obtain⟨p,f⟩:=q
  rw[gP]at h
  by_cases h1:(iY acc p || decide (p<0) || decide ((l.length:Int)≤p))=true
  ·rw[if_pos h1]at h;cases h
  ·rw[if_neg h1]at h
   by_cases h2:(cD v us (l.getD p.toNat default) f).isNone=true
   ·rw[if_pos h2]at h;cases h
   ·rw[if_neg h2]at h
    by_cases h3:(acc.all fun q=>dK v (l.getD p.toNat default) f (l.getD q.1.toNat default) q.2)=true
    ·rw[if_pos h3]at h
     simp only[Bool.or_eq_true,decide_eq_true_eq,not_or]at h1
     obtain⟨⟨hlast,hp0⟩,hpl⟩:=h1
     have hsm:(cD v us (l.getD p.toNat default) f).isSome=true:=by
      cases z:cD v us (l.getD p.toNat default) f with
      |none=>rw[z]at h2;exact absurd rfl h2
      |some _=>rfl
     have aL:∀x∈acc,x.1<p:=by
      intro x hx
      cases hg:acc.getLast? with
      |none=>rw[List.getLast?_eq_none_iff]at hg;rw[hg]at hx;cases hx
      |some y=>
       have hlast:¬p≤y.1:=by
        intro q
        apply hlast
        unfold iY
        rw[hg]
        simpa using q
       rcases Nat.lt_or_ge 0 acc.length with z|z
       ·obtain⟨i,hi,rfl⟩:=List.getElem_of_mem hx
        rw[List.getLast?_eq_getElem?,List.getElem?_eq_getElem (by omega)]at hg
        have hg:=Option.some.inj hg
        rcases Nat.lt_or_ge i (acc.length-1)with y1|y1
        ·have:=(List.pairwise_iff_getElem.1 G.pair) i (acc.length-1) hi (by omega) y1
         rw[hg]at this
         omega
        ·have e:i=acc.length-1:=by omega
         subst e
         rw[hg];omega
       ·have:acc=[]:=List.length_eq_zero_iff.1 (by omega)
        rw[this]at hx;cases hx
     have G2:pD v us l (acc++[(p,f)]):=by
      refine⟨fun x hx=>?_,?_⟩
      ·rcases List.mem_append.1 hx with z|z
       ·exact G.each x z
       ·obtain rfl:=List.mem_singleton.1 z
        exact⟨by simp only;omega,by simp only;omega,hsm⟩
      ·rw[List.pairwise_append]
       refine⟨G.pair,by simp,fun x hx y hy=>?_⟩
       obtain rfl:=List.mem_singleton.1 hy
       refine⟨aL x hx,?_⟩
       exact List.all_eq_true.1 h3 x hx
     obtain⟨e1,e2⟩:=ih _ _ h G2
     exact⟨by rw[e1];simp,e2⟩
    ·rw[if_neg h3]at h;cases h
theorem qc {v:ah} {l:List aU} {pins:List (Int×Int)} {s:bO} (h:eu v l pins=some s):s=⟨v,cJ v,l,pins⟩∧pD v (cJ v) l pins∧aM v=true∧iG l=true:=by
 unfold eu at h
 split at h
 ·rename_i hc
  simp only[Bool.and_eq_true]at hc
  cases hg:gP v (cJ v) l [] pins with
  |none=>rw[hg]at h;cases h
  |some out=>
   rw[hg]at h
   simp only[Option.map_some,Option.some.injEq]at h
   obtain⟨e1,e2⟩:=aez v (cJ v) l pins [] out hg ⟨fun q hq=>(by cases hq),List.Pairwise.nil⟩
   rw[List.nil_append]at e1
   subst e1
   exact⟨h.symm,e2,hc.1,hc.2⟩
 ·cases h
theorem zZ {s:bO} {k x:Int} (h:eW s k=some x):(k,x)∈s.pins:=by
 unfold eW at h
 cases hf:s.pins.find? (fun p=>decide (p.1=k))with
 |none=>rw[hf]at h;cases h
 |some q=>
  rw[hf]at h
  simp only[Option.map_some,Option.some.injEq]at h
  have h1:=List.find?_some hf
  have h2:=List.mem_of_find?_eq_some hf
  simp only[decide_eq_true_eq]at h1
  obtain⟨a,b⟩:=q
  simp only at h h1
  subst h;subst h1
  exact h2
theorem adM (s:bO) (k:Nat):∀(pins:List (Int×Int)) (d:List Int) (f:Int),f∈pins.foldl (fun d q=>ei s d k q.1.toNat q.2) d→f∈d:=by
 intro pins
 induction pins with
 |nil=>intro d f h;exact h
 |cons q r ih=>
  intro d f h
  rw[List.foldl_cons]at h
  have:=ih _ _ h
  unfold ei at this
  exact(List.mem_filter.1 this).1
theorem all_some {v:ah} {us:List Bool} {p:aU} {f:Int} (h:f∈fB v us p):(cD v us p f).isSome=true:=by
 unfold fB at h
 obtain⟨k,hk,rfl⟩:=List.mem_map.1 h
 exact(List.mem_filter.1 hk).2
theorem ry {v:ah} {l:List aU} {pins:List (Int×Int)} (P:pD v (cJ v) l pins):nJ (gQ ⟨v,cJ v,l,pins⟩):=by
 obtain⟨s,hs⟩:∃s:bO,s=⟨v,cJ v,l,pins⟩:=⟨_,rfl⟩
 rw[←hs]
 refine⟨rfl,fun k hk=>by simp[gQ]at hk,fun d hd k _ f hf=>?_⟩
 have hd0:d=0:=by simp[gQ]at hd;exact hd
 subst hd0
 have hf':f∈((List.range s.l.length).map fun k:Nat=>match eW s k with
  |some a=>[a]
  |none=>s.pins.foldl (fun d q=>ei s d k q.1.toNat q.2) (fB s.v s.us (s.l.getD k default))).getD k []:=hf
 rw[List.getD_eq_getElem?_getD,List.getElem?_map]at hf'
 cases hr:(List.range s.l.length)[k]? with
 |none=>rw[hr]at hf';simp at hf'
 |some k'=>
  obtain⟨hk3,hk4⟩:=List.getElem?_eq_some_iff.1 hr
  rw[List.getElem_range]at hk4
  subst hk4
  rw[hr]at hf'
  simp only[Option.map_some,Option.getD_some]at hf'
  have hap:∀j,j<0→([]:List Int).getD j 0≠-1→dK s.v (s.l.getD k default) f (s.l.getD j default) (([]:List Int).getD j 0)=true:=fun j hj=>by omega
  cases hq:eW s k with
  |some a=>
   rw[hq]at hf'
   obtain rfl:=List.mem_singleton.1 hf'
   have hm:=zZ hq
   refine⟨fun x hx=>?_,?_,hap⟩
   ·have e:(gQ s).s=s:=rfl
    rw[e,hq]at hx
    exact Option.some.inj hx
   ·have:=(P.each (k,f) (by rw[hs]at hm;exact hm)).2.2
    simp only[Int.toNat_natCast]at this
    rw[hs];exact this
  |none=>
   rw[hq]at hf'
   have hm:=all_some (adM s k _ _ f hf')
   refine⟨fun x hx=>?_,hm,hap⟩
   have e:(gQ s).s=s:=rfl
   rw[e,hq]at hx
   cases hx
def uK (s:bO) (p:List Int):Prop:=∀k,k<p.length→dz s p k=false
structure qI (s:bO) (h:df):Prop where
 prop:nJ h.p
 set:h.p.s=s
 aW:uK s h.aW
theorem rI (p:cd):(gf p).s=p.s:=by unfold gf;split<;>rfl
theorem PG (p:cd) (f:Int):(gJ p f).s=p.s:=by unfold gJ;simp only;split<;>rfl
theorem OC {s:bO} {h:df} (H:qI s h):qI s (cO h).1:=by
 unfold cO
 split
 ·exact H
 ·simp only
  split
  ·split
   ·exact⟨rH H.prop,by simp only[rI];exact H.set,fun k hk=>by have:=H.prop.ok k hk;rw[H.set]at this;exact this⟩
   ·exact⟨rH H.prop,by simp only[rI];exact H.set,H.aW⟩
  ·split
   ·exact⟨H.prop,H.set,H.aW⟩
   ·exact⟨rH H.prop,by simp only[rI];exact H.set,H.aW⟩
theorem tR {s:bO}:∀(n:Nat) (h:df) (g:Bool),qI s h→qI s (dO n h g).1:=by
 intro n
 induction n with
 |zero=>intro h g H;exact H
 |succ n ih=>
  intro h g H
  rw[dO]
  split
  ·split
   ·exact H
   ·split
    ·exact ih _ _ ⟨rH H.prop,by simp only[rI];exact H.set,H.aW⟩
    ·exact ih _ _ (OC ⟨PF H.prop _,by simp only[PG];exact H.set,H.aW⟩)
  ·exact H
theorem afm:∀(pins:List (Int×Int)) (p:List Int) (k:Nat),pins.Pairwise (fun x y=>x.1<y.1)→(∀q∈pins,0≤q.1)→k<p.length→
  (pins.foldl (fun p q=>p.set q.1.toNat q.2) p).getD k 0=match(pins.find? fun q=>decide (q.1=(k:Int))).map (fun q=>q.2)with
   |some x=>x
   |none=>p.getD k 0:=by
 intro pins
 induction pins with
 |nil=>intro p k _ _ _;rfl
 |cons q r ih=>
  intro p k hp h0 hk
  rw[List.pairwise_cons]at hp
  have hq0:=h0 q List.mem_cons_self
  rw[List.foldl_cons,ih _ k hp.2 (fun x hx=>h0 x (List.mem_cons_of_mem _ hx)) (by simpa using hk),List.find?_cons]
  by_cases e:q.1=(k:Int)
  ·have hn:r.find? (fun q=>decide (q.1=(k:Int)))=none:=by
    rw[List.find?_eq_none]
    intro x hx
    have:=hp.1 x hx
    simp;omega
   rw[hn,show decide (q.1=(k:Int))=true from by simp[e]]
   simp only[Option.map_none,Option.map_some]
   rw[List.getD_eq_getElem?_getD,show q.1.toNat=k by omega,List.getElem?_set_self hk];rfl
  ·rw[show decide (q.1=(k:Int))=false from by simp[e]]
   simp only
   have:(p.set q.1.toNat q.2).getD k 0=p.getD k 0:=by
    rw[List.getD_eq_getElem?_getD,List.getD_eq_getElem?_getD,List.getElem?_set_ne (by omega)]
   rw[this]
theorem afn {v:ah} {l:List aU} {pins:List (Int×Int)} (P:pD v (cJ v) l pins):uK ⟨v,cJ v,l,pins⟩ (dG l pins):=by
 obtain⟨s,hs⟩:∃s:bO,s=⟨v,cJ v,l,pins⟩:=⟨_,rfl⟩
 rw[←hs]
 intro k hk
 rw[zA]at hk
 have hg:∀j,j<l.length→(dG l pins).getD j 0=match eW s j with
   |some x=>x
   |none=>-1:=by
  intro j hj
  have:=afm pins (List.replicate l.length (-1)) j (P.pair.imp (fun h=>h.1)) (fun q hq=>(P.each q hq).1) (by simpa using hj)
  unfold dG eW
  rw[this,hs]
  have e:(List.replicate l.length (-1:Int)).getD j 0= -1:=by rw[List.getD_eq_getElem?_getD,List.getElem?_replicate,if_pos hj];rfl
  rw[e]
 unfold dz
 simp only
 cases hq:eW s k with
 |none=>
  have e:=hg k hk
  rw[hq]at e
  simp only at e
  rw[e];rfl
 |some x=>
  have e:=hg k hk
  rw[hq]at e
  simp only at e
  rw[e]
  have hm:=zZ hq
  have he:=(P.each (k,x) (by rw[hs]at hm;exact hm)).2.2
  simp only[Int.toNat_natCast]at he
  have h2:(cD s.v s.us (s.l.getD k default) x).isNone=false:=by
   rw[hs];simp only
   cases z:cD v (cJ v) (l.getD k default) x with
   |none=>rw[z]at he;cases he
   |some _=>rfl
  have h3:((List.range k).any fun j=>decide ((dG l pins).getD j 0≠-1)&& !dK s.v (s.l.getD k default) x (s.l.getD j default) ((dG l pins).getD j 0))=false:=by
   rw[List.any_eq_false]
   intro j hj
   have hj:=List.mem_range.1 hj
   have ej:=hg j (by omega)
   cases hqj:eW s j with
   |none=>rw[hqj]at ej;simp only at ej;rw[ej];simp
   |some y=>
    rw[hqj]at ej
    simp only at ej
    rw[ej]
    have hmj:=zZ hqj
    rw[hs]at hm hmj
    obtain⟨ia,ha,ea⟩:=List.getElem_of_mem hmj
    obtain⟨ib,hb,eb⟩:=List.getElem_of_mem hm
    simp only at ha hb ea eb
    have hlt:ia<ib:=by
     rcases Nat.lt_trichotomy ia ib with z|z|z
     ·exact z
     ·exfalso
      subst z
      rw[ea]at eb
      simp only[Prod.mk.injEq]at eb
      omega
     ·exfalso
      have:=(List.pairwise_iff_getElem.1 P.pair) ib ia hb ha z
      rw[ea,eb]at this
      simp only at this
      omega
    have:=((List.pairwise_iff_getElem.1 P.pair) ia ib ha hb hlt).2
    rw[ea,eb]at this
    simp only[Int.toNat_natCast]at this
    rw[hs]
    simp only
    rw[this];simp
  rw[h2,h3]
  simp
theorem UT {steps:Nat} {v:ah} {l:List aU} {pins:List (Int×Int)} {fuel:Int} {r:nK} (h:lX steps v l pins fuel=some r):ix v l r.aW pins=true:=by
 have hl:=uU h
 unfold lX at h
 split at h
 ·cases h
 ·rename_i s hs
  obtain⟨e,P,hm,ha⟩:=qc hs
  split at h
  ·cases h
  ·simp only[Option.some.injEq]at h
   have H:qI s (dO steps (cO ⟨gQ s,l,dG l pins,0,[],jH l (dG l pins),fuel,[]⟩).1 (cO ⟨gQ s,l,dG l pins,0,[],jH l (dG l pins),fuel,[]⟩).2).1:=by
    refine tR _ _ _ (OC ⟨?_,rfl,?_⟩)
    ·rw[e];exact ry P
    ·rw[e];exact afn P
   have hp:uK s r.aW:=by rw[←h];exact H.aW
   unfold ix
   rw[hs]
   simp only
   rw[if_pos hl]
   unfold l8
   have:(List.range r.aW.length).find? (dz s r.aW)=none:=by
    rw[List.find?_eq_none]
    intro k hk
    rw[hp k (List.mem_range.1 hk)];simp
   rw[this];rfl
theorem Bf {steps:Nat} {v:ah} {l:List aU} {pins:List (Int×Int)} {old:List Int} {fuel:Int} (h:(eO steps v l pins old fuel).2=0):ix v l (eO steps v l pins old fuel).1.aW pins=true:=by
 unfold eO at h ⊢
 by_cases q:ix v l old pins=true
 ·rw[q]at h ⊢
  simp only[Bool.not_true,Bool.false_eq_true,if_false]at h ⊢
  cases hb:lX steps v l pins fuel with
  |none=>rw[hb]at h;simp at h
  |some r=>
   simp only
   split
   ·exact q
   ·exact UT hb
 ·rw[if_pos (by simpa using q)]at h
  simp at h
end Go.Proofs.Ybk.K
namespace Go.Proofs.Ybk.K
open Go Go.Am
set_option maxHeartbeats 4000000
open V (aq aP ah al aQ ab aX aM aB bT bX aZ bF)
def kE (m:Nat) (pins:List (Int×Int)) (i:Nat):List Int:=(pins.take i).foldl (fun p q=>p.set q.1.toNat q.2) (List.replicate m (-1))
theorem Oi (m:Nat) (pins:List (Int×Int)) (i:Nat) {t:Int×Int} (ht:pins[i]? =some t):kE m pins (i+1)=(kE m pins i).set t.1.toNat t.2:=by
 unfold kE
 rw[List.take_add_one,ht,Option.toList_some,List.foldl_append];rfl
theorem Oh (m:Nat) (pins:List (Int×Int)) (i:Nat):(kE m pins i).length=m:=by
 induction i with
 |zero=>simp[kE]
 |succ i ih=>
  cases q:pins[i]? with
  |none=>
   unfold kE at ih ⊢
   rw[List.take_add_one,q]
   simpa using ih
  |some t=>rw[Oi m pins i q,List.length_set,ih]
def jV (m i:Nat):List Int:=List.replicate i (-1)++List.replicate (m-i) 0
theorem Kc (m i:Nat) (h:i≤m):(jV m i).length=m:=by simp[jV];omega
theorem aaH (m i:Nat) (h:i<m):(jV m i).set i (-1)=jV m (i+1):=by
 unfold jV
 rw[List.set_append_right _ _ (by simp),List.length_replicate,Nat.sub_self,show m-i=(m-(i+1))+1 by omega,List.replicate_succ,List.set_cons_zero,List.replicate_succ' (n:=i),List.append_assoc];rfl
theorem aaG (m:Nat):jV m m=List.replicate m (-1):=by simp[jV]
def Si (h:aa) (b:Nat) (pv:Value) (m n:Nat) (σ:St):Prop:=∃i:Nat,n=m-i∧i≤m∧Ext h σ.m.h∧σ.m.h.f b= .row true 3 ((jV m i).map (Value.int .i64))∧b<σ.m.h.n∧
 σ.t.get 2=some pv∧σ.t.get 7=some (.slice (some ⟨b,0,none⟩) m m)∧σ.t.get 20=some (.int .i64 (m:Nat))∧σ.t.get 21=some (.int .i64 (i:Nat))
def Sj (h:aa) (b:Nat) (pv:Value) (pins:List (Int×Int)) (m k n:Nat) (σ:St):Prop:=∃i:Nat,n=k-i∧i≤k∧Ext h σ.m.h∧σ.m.h.f b= .row true 3 ((kE m pins i).map (Value.int .i64))∧b<σ.m.h.n∧
 σ.t.get 7=some (.slice (some ⟨b,0,none⟩) m m)∧σ.t.get 28=some pv∧σ.t.get 29=some (.int .i64 (k:Nat))∧σ.t.get 30=some (.int .i64 (i:Nat))
theorem afl (v:ah) (l:List aU) (pins:List (Int×Int)) (cs:List Value) (lv pv:Value) (h:aa) (H:iF h v l pins cs lv pv):
  ai PP 207 [.agg ⟨cs⟩,lv,pv] h (fun r h'=>Ext h h'∧aF 3 ab h' r (if(eu v l pins).isSome then dG l pins else[])):=by
 refine ai.gK (post:=fun v' h'=>Ext h h'∧bS 3 ab h h' v' (if(eu v l pins).isSome then dG l pins else[])) ?_ (fun v h' ⟨E,W⟩=>by
  obtain⟨h'',w,E',S⟩:=W.cG E
  exact⟨h'',w,E',S⟩)
 refine az mix abV V8 rfl (by show 3≤42;decide) ai9 ?_
 simp only[wD,Tryz.f207]
 have hin:=amg v l pins cs lv pv h H
 have hcl:=H.cK.len
 have hct:cs.take 5=cs:=List.take_of_length_le (by omega)
 have hll:=H.ll
 have hpl:=H.pl
 have hps:=H.ps
 obtain⟨ad2,c2,rfl⟩:=H.ls.shape
 obtain⟨ad3,c3,rfl⟩:=H.ps.shape
 simp -implicitDefEqProofs[hcl,hct]
 refine hin.mono ?_
 rintro r G ⟨E,rfl⟩
 cases q:eu v l pins with
 |none=>
  simp -implicitDefEqProofs[ae]
  intro _
  exact⟨E,bS.nil⟩
 |some s=>
  obtain⟨_,P,_,hal⟩:=qc q
  obtain⟨m,hm⟩:∃m,m=l.length:=⟨_,rfl⟩
  have hz:=uo (.int .i64 0) m
  have hmx:m*8≤140737488355328:=by omega
  have h00:¬(m:Int)<0:=by omega
  have hu0:List.replicate m (Value.int .i64 0)=(jV m 0).map (Value.int .i64):=by simp[jV]
  rw[←hm]
  simp -implicitDefEqProofs[ae,lI,cH,hz,hmx,h00]
  intro _
  rw[hu0]
  have hbn:=E.n
  refine bD (Si h G.n (.slice ad3 pins.length c3) m) _ ⟨0,rfl,by omega,E.bA _,by simp,by simp,by simp,by simp,by simp,by simp⟩ ?_
  obtain⟨b,hb⟩:∃b,b=G.n:=⟨_,rfl⟩
  rw[←hb]at hbn ⊢
  rintro n ⟨T,⟨x,G⟩⟩ ⟨i,rfl,hi,E,hrow,hn,g2,g7,g20,g21⟩
  simp at E hrow hn g2 g7 g20 g21
  simp -implicitDefEqProofs[g2,g7,g20,g21]
  refine bB (fun hc=>?_) (fun hc=>?_)<;>simp only[decide_eq_true_eq,decide_eq_false_iff_not]at hc
  ·have him:i<m:=by omega
   have w1:IntKind.wrap .i64 ((i:Int)+1)=((i+1:Nat):Int):=by rw[aA (by omega)];omega
   obtain⟨cells,hcells⟩:∃cells,cells=(jV m i).map (Value.int .i64):=⟨_,rfl⟩
   rw[←hcells]at hrow
   have hcl2:cells.length=m:=by rw[hcells,List.length_map,Kc m i hi]
   have hil:i+1≤cells.length:=by omega
   have hts:=kX (Value.int .i64) (jV m i) i (-1) (by rw[Kc m i hi];exact him)
   rw[aaH m i him,←hcells]at hts
   simp -implicitDefEqProofs[g2,g7,g20,g21,him,hrow,hil,w1]
   refine⟨m-(i+1),by omega,i+1,rfl,by omega,E.cq hbn _,?_,hn,by simp,by simp,by simp,by simp⟩
   rw[←hts]
   simp
  ·have e:i=m:=by omega
   subst e
   simp -implicitDefEqProofs[g2,g7,g20,g21]
   rw[aaG]at hrow
   refine bD (Sj h b (.slice ad3 pins.length c3) pins i pins.length) _ ⟨0,rfl,by omega,E,hrow,hn,by simp,by simp,by simp,by simp⟩ ?_
   clear E hrow hn g2 g7 g20 g21
   rintro n ⟨T,⟨x,G⟩⟩ ⟨k,rfl,hk,E,hrow,hn,g7,g28,g29,g30⟩
   simp at E hrow hn g7 g28 g29 g30
   simp -implicitDefEqProofs[g7,g28,g29,g30]
   refine bB (fun hc=>?_) (fun hc=>?_)<;>simp only[decide_eq_true_eq,decide_eq_false_iff_not]at hc
   ·have hkm:k<pins.length:=by omega
    have w1:IntKind.wrap .i64 ((k:Int)+1)=((k+1:Nat):Int):=by rw[aA (by omega)];omega
    have hti:pins[k]? =some pins[k]:=List.getElem?_eq_getElem (by omega)
    obtain⟨_,b',o1,w0,cells',r,rfl,hb',hd',hlc,_⟩:=(hps.ext E).sl.at 2 rG hti
    have he:=P.each pins[k] (List.getElem_mem _)
    obtain⟨⟨a,f⟩,ht⟩:∃t,t=pins[k]:=⟨_,rfl⟩
    rw[←ht]at hd' hti he
    obtain⟨ha0,ha1,_⟩:=he
    simp only at ha0 ha1
    rw[←hm]at ha1
    obtain⟨j,rfl⟩:∃j:Nat,a=j:=⟨a.toNat,by omega⟩
    have hji:j<i:=by omega
    have hsu:=Oi i pins k hti
    have hll2:=Oh i pins k
    obtain⟨cells,hcells⟩:∃cells,cells=(kE i pins k).map (Value.int .i64):=⟨_,rfl⟩
    rw[←hcells]at hrow
    have hcl2:cells.length=i:=by rw[hcells,List.length_map,hll2]
    have hil:j+1≤cells.length:=by omega
    have hts:=kX (Value.int .i64) (kE i pins k) j f (by rw[hll2];exact hji)
    simp only[Int.toNat_natCast]at hsu
    rw[←hsu,←hcells]at hts
    simp -implicitDefEqProofs[g7,g28,g29,g30,hkm,hb',hd',hlc,iz,hji,hrow,hil,w1]
    refine⟨pins.length-(k+1),by omega,k+1,rfl,by omega,E.cq hbn _,?_,hn,by simp,by simp,by simp,by simp⟩
    rw[←hts]
    simp
   ·have e:k=pins.length:=by omega
    subst e
    have hlast:kE i pins pins.length=dG l pins:=by
     unfold kE dG
     rw[List.take_length,hm]
    rw[hlast,afS]at hrow
    have hlen:(dG l pins).length=i:=by rw[←hlast,Oh]
    simp -implicitDefEqProofs[g7,g28,g29,g30]
    exact⟨E,_,by rw[hlen],.inr ⟨_,rfl,hrow,hbn,hn⟩⟩
theorem gH.parts {h:aa} {s:bO} {cs:List Value} (H:gH h s cs):∃lv mb,cs.length=8∧cs.all Go.Am.one=true∧fJ h s.v s.us (cs.take 6)∧cs.drop 6=[lv,.map (some mb)]∧cs.drop 7=[.map (some mb)]∧aF 29 ag h lv s.l∧h.f mb= .obj (.map (du s.pins 0).toArray s.pins.length)∧mb<h.n:=by
 have S:=H.shape
 obtain⟨hc,lv,mb,rfl,⟨vc,uv,rfl,⟨sv,k,p,rfl,h1,h2,h3⟩,h4⟩,h5,h6,h7⟩:=H
 exact⟨lv,mb,S.len,S.one,⟨[sv,.int .i64 s.v.aV,.int .i64 s.v.bg,k,p],uv,rfl,⟨sv,k,p,rfl,h1,h2,h3⟩,h4⟩,rfl,rfl,h5,h6,h7⟩
theorem UF (s:bO) (l:List Int) (k j:Nat) (a:Int) (i:Nat) {t:Int} (ht:l[i]? =some t):
  ei s (l.take (i+1)) k j a=if dK s.v (s.l.getD k default) t (s.l.getD j default) a=true then ei s (l.take i) k j a++[t]else ei s (l.take i) k j a:=by
 unfold ei
 rw[List.take_add_one,ht,Option.toList_some,List.filter_append]
 obtain⟨g,hg⟩:∃g:Int→Bool,g=fun f=>dK s.v (s.l.getD k default) f (s.l.getD j default) a:=⟨_,rfl⟩
 have e:dK s.v (s.l.getD k default) t (s.l.getD j default) a=g t:=by rw[hg]
 rw[←hg,e]
 by_cases q:g t=true
 ·simp[q]
 ·simp[q]
theorem Bk (s:bO) (l:List Int) (k j:Nat) (a:Int):(ei s l k j a).length≤l.length:=List.length_filter_le _ _
def Su (h:aa) (cs:List Value) (s:bO) (l:List Int) (k j:Nat) (a:Int) (lv:Value) (m n:Nat) (σ:St):Prop:=∃(i:Nat) (o:Option Nat) (w:Value),n=m-i∧i≤m∧Ext h σ.m.h∧Ow 3 ab h σ.m.h o (ei s (l.take i) k j a) w∧
 σ.t.get 2=some (.int .i64 (k:Nat))∧σ.t.get 3=some (.int .i64 (j:Nat))∧σ.t.get 4=some (.int .i64 a)∧σ.t.get 5=some (.pointer (some ⟨5,0,some 0⟩))∧σ.t.get 11=some w∧σ.t.get 14=some lv∧σ.t.get 15=some (.int .i64 (m:Nat))∧σ.t.get 16=some (.int .i64 (i:Nat))∧σ.m.x.look 5=some (242,cs)
theorem Bl (s:bO) (M:qM s) (cs:List Value) (lv:Value) (l:List Int) (hll:l.length≤1073741824) (k j:Nat) (a:Int) (hk:k<s.l.length) (hj:j<s.l.length) (hsk:0≤(s.l.getD k default).size) (hsj:0≤(s.l.getD j default).size)
  (hin:∀f∈l,0≤f∧f+(s.l.getD k default).size≤s.v.af.length) (ha:0≤a∧a+(s.l.getD j default).size≤s.v.af.length) (h:aa) (H:gH h s cs) (hl:aF 3 ab h lv l):
  ai PP 248 [.agg ⟨cs⟩,lv,.int .i64 (k:Nat),.int .i64 (j:Nat),.int .i64 a] h (fun r h'=>Ext h h'∧aF 3 ab h' r (ei s l k j a)):=by
 refine ai.gK (post:=fun v' h'=>Ext h h'∧bS 3 ab h h' v' (ei s l k j a)) ?_ (fun v h' ⟨E,W⟩=>by
  obtain⟨h'',w,E',S⟩:=W.cG E
  exact⟨h'',w,E',S⟩)
 refine az mix ack Wy rfl (by show 5≤41;decide) ajx ?_
 simp only[xa,Tryz.f248]
 obtain⟨pv,mb,hCl,hCo,hH,hdr,hdr7,hP,hmb,hmbn⟩:=H.parts
 have hCt:cs.take 8=cs:=List.take_of_length_le (by omega)
 obtain⟨hc,hhc⟩:∃x,x=cs.take 6:=⟨_,rfl⟩
 rw[←hhc]at hH
 have hhc':=hhc.symm
 have hap:=fun f (hf:0≤f∧f+(s.l.getD k default).size≤s.v.af.length) (G:aa) (E:Ext h G)=>uQ s.v s.us M.aL hc (s.l.getD k default) f (s.l.getD j default) a hf ha hsk hsj G (hH.ext E)
 have hkt:s.l[k]? =some s.l[k]:=List.getElem?_eq_getElem hk
 have hjt:s.l[j]? =some s.l[j]:=List.getElem?_eq_getElem hj
 obtain⟨X,hX⟩:∃X,X=s.l[k]:=⟨_,rfl⟩
 obtain⟨Y,hY⟩:∃Y,Y=s.l[j]:=⟨_,rfl⟩
 rw[←hX]at hkt
 rw[←hY]at hjt
 have hgX:s.l.getD k default=X:=by rw[List.getD_eq_getElem?_getD,hkt];rfl
 have hgY:s.l.getD j default=Y:=by rw[List.getD_eq_getElem?_getD,hjt];rfl
 simp only[dD,ag]at hap
 have hr1:List.range 1=[0]:=rfl
 obtain⟨adp,cp,rfl⟩:=hP.shape
 obtain⟨ad,c,rfl⟩:=hl.shape
 obtain⟨m,hm⟩:∃m,m=l.length:=⟨_,rfl⟩
 rw[←hm]
 have hts:=fun i t (ht:l[i]? =some t)=>UF s l k j a i ht
 rw[hgX,hgY]at hap hts
 rw[hgX]at hin
 simp -implicitDefEqProofs[hCl,hCt]
 refine bD (Su h cs s l k j a (.slice ad m c) m) _ ⟨0,none,_,rfl,by omega,Ext.bu h,Ow.nil,by simp,by simp,by simp,by simp,by simp,by simp,by simp,by simp,by simp⟩ ?_
 rintro n ⟨T,⟨x,G⟩⟩ ⟨i,o,w,rfl,hi,E,W,g2,g3,g4,g5,g11,g14,g15,g16,x5⟩
 simp at E W g2 g3 g4 g5 g11 g14 g15 g16 x5
 have hwn:bL w=true:=by rw[W.1];rfl
 simp only[bL,fO,Option.isNone_iff_eq_none]at hwn
 simp -implicitDefEqProofs[g2,g3,g4,g5,g11,g14,g15,g16,x5,hwn]
 refine bB (fun hc=>?_) (fun hc=>?_)<;>simp only[decide_eq_true_eq,decide_eq_false_iff_not]at hc
 ·have him:i<m:=by omega
  have w1:IntKind.wrap .i64 ((i:Int)+1)=((i+1:Nat):Int):=by rw[aA (by omega)];omega
  have hti:l[i]? =some l[i]:=List.getElem?_eq_getElem (by omega)
  obtain⟨_,b,o1,cells,r,ead,hb,hd,hlc,_⟩:=(aF.ext hl E).at 1 V.cY hti
  rw[Nat.mul_one]at hd
  have hl1:o1+i+1≤cells.length:=by omega
  obtain⟨_,bk,ok,ck,rk,eap,hbk,hdk,hlk,_⟩:=(aF.ext hP E).at 2 jD hkt
  obtain⟨_,bj,oj,cj,rj,eap2,hbj,hdj,hlj,_⟩:=(aF.ext hP E).at 2 jD hjt
  rw[eap]at eap2
  simp only[Option.some.injEq,Addr.mk.injEq,and_true]at eap2
  obtain⟨rfl,rfl⟩:=eap2
  rw[hbk]at hbj
  simp only[aO.row.injEq,true_and]at hbj
  subst hbj
  subst ead
  subst eap
  obtain⟨t,ht⟩:∃t,t=l[i]:=⟨_,rfl⟩
  rw[←ht]at hd hti
  have hkX:(ck.drop (ok+k*2)).take 2=[.int .i64 X.size,.int .i64 X.cL]:=by rw[hdk];rfl
  have hjY:(ck.drop (ok+j*2)).take 2=[.int .i64 Y.size,.int .i64 Y.cL]:=by rw[hdj];rfl
  simp -implicitDefEqProofs[g2,g3,g4,g5,g11,g14,g15,g16,x5,hwn,him,hb,hd,hl1,ab,hCl,hhc',hdr,hk,hj,hbk,hkX,hjY,hlk,hlj]
  refine(hap t (hin t (List.mem_of_getElem? hti)) G E).mono ?_
  rintro r G2 ⟨E2,rfl⟩
  have hsu:=hts i t hti
  have hle:=Bk s (l.take i) k j a
  have hle2:(l.take i).length≤i:=by rw[List.length_take];omega
  obtain⟨acc,hacc⟩:∃acc,acc=ei s (l.take i) k j a:=⟨_,rfl⟩
  rw[←hacc]at W hsu hle
  have W2:=W.ext E2
  have hA:=gx nX W2 t (by omega)
  simp only[ab]at hA
  obtain⟨rfl,_⟩:=id W
  by_cases z:dK s.v X t Y a=true
  ·rw[if_pos z]at hsu
   simp -implicitDefEqProofs[ae,g2,g3,g4,g5,g11,g14,g15,g16,x5,z,w1,aI,hr1,hA]
   intro _
   refine⟨m-(i+1),by omega,i+1,some (G2.n+1),.slice (some ⟨G2.n+1,0,none⟩) (acc.length+1) (acc.length+1),rfl,by omega,gz (E.trans E2) W2 _ _,?_,by simp,by simp,by simp,by simp,by simp,by simp,by simp,by simp,by simp[x5]⟩
   rw[hsu]
   exact Ow.one W2 (E.trans E2).n _ t rfl
  ·rw[if_neg z]at hsu
   simp -implicitDefEqProofs[ae,g2,g3,g4,g5,g11,g14,g15,g16,x5,z,w1]
   intro _
   exact⟨m-(i+1),by omega,i+1,o,_,rfl,by omega,E.trans E2,by rw[hsu];exact W2,by simp,by simp,by simp,by simp,by simp,by simp,by simp,by simp,by simp[x5]⟩
 ·have e:i=m:=by omega
  subst e
  have hfin:=W.own
  rw[hm,List.take_length]at hfin
  simp -implicitDefEqProofs[g11,hwn]
  exact⟨E,hfin⟩
abbrev bY:=Option Addr×Nat×Nat
def bH (x:bY):Value:=.slice x.1 x.2.1 x.2.2
def dS (x:bY):List Value:=[.slice x.1 x.2.1 x.2.2]
theorem rT (x:bY):(dS x).length=1:=rfl
theorem yN:iM 332 329 1 24 dS:=⟨JY,QJ,⟨_,Rx,rfl⟩,BI,FM,by decide,by decide,rT,fun _=>rfl⟩
def jm (h:aa) (w:bY) (D:List (List Int)):Prop:=∃vs:List bY,aF 22 dS h (bH w) vs∧vs.length=D.length∧∀(i:Nat) x d,vs[i]? =some x→D[i]? =some d→aF 3 ab h (bH x) d
def pz (h:aa) (ws:List bY) (L:List (List (List Int))):Prop:=ws.length=L.length∧∀(i:Nat) w D,ws[i]? =some w→L[i]? =some D→jm h w D
theorem jm.kp {h h':aa} {w:bY} {D:List (List Int)} (H:jm h w D) (K:Kp h h'):jm h' w D:=by
 obtain⟨vs,h1,h2,h3⟩:=H
 exact⟨vs,h1.kp K,h2,fun i x d a b=>(h3 i x d a b).kp K⟩
theorem pz.kp {h h':aa} {ws:List bY} {L:List (List (List Int))} (H:pz h ws L) (K:Kp h h'):pz h' ws L:=⟨H.1,fun i w D a b=>(H.2 i w D a b).kp K⟩
theorem pz.last {h:aa} {ws:List bY} {L:List (List (List Int))} (H:pz h ws L) {k:Nat} (hk:L.length=k+1):∃w,ws[k]? =some w∧jm h w (L.getLastD []):=by
 have h1:=H.1
 have hw:k<ws.length:=by omega
 refine⟨ws[k],List.getElem?_eq_getElem hw,H.2 k _ _ (List.getElem?_eq_getElem hw) ?_⟩
 rw[List.getLastD_eq_getLast?,List.getLast?_eq_getElem?,hk,Nat.add_sub_cancel,List.getElem?_eq_getElem (show k<L.length by omega)];rfl
structure eI (h:aa) (b b1 b2:Nat) (p:cd) (cs:List Value) (c1 c2:Nat) (ws:List bY) (r1 r2:List Value):Prop where
 hb:h.f b= .row true 334 (cs++[.slice (some ⟨b1,0,none⟩) p.levels.length c1,.slice (some ⟨b2,0,none⟩) p.p.length c2])
 set:gH h p.s cs
 bq:h.f b1= .row true 329 (ws.flatMap dS++r1)
 bC:h.f b2= .row true 3 (p.p.flatMap ab++r2)
 s7:p.levels.length≤c1
 s8:p.p.length≤c2
 n0:b<h.n
 n1:b1<h.n
 n2:b2<h.n
 mf:pz h ws p.levels
structure fL (p:cd):Prop where
 ok:nJ p
 sm:qM p.s
 lens:∀D∈p.levels,D.length=p.s.l.length∧∀d∈D,d.length≤1048577
 dep:p.p.length≤p.s.l.length
 ll:p.s.l.length≤512
 may:∀q∈p.s.l,dM q=true
section
variable {h h':aa} {b b1 b2:Nat} {p:cd} {cs:List Value} {c1 c2:Nat} {ws:List bY} {r1 r2:List Value}
theorem eI.ext (H:eI h b b1 b2 p cs c1 c2 ws r1 r2) (E:Ext h h'):eI h' b b1 b2 p cs c1 c2 ws r1 r2:=
 ⟨by rw[E.f _ H.n0];exact H.hb,H.set.ext E,by rw[E.f _ H.n1];exact H.bq,by rw[E.f _ H.n2];exact H.bC,H.s7,H.s8,Nat.lt_of_lt_of_le H.n0 E.n,Nat.lt_of_lt_of_le H.n1 E.n,Nat.lt_of_lt_of_le H.n2 E.n,H.mf.kp E.kp⟩
theorem eI.dt (H:eI h b b1 b2 p cs c1 c2 ws r1 r2) {S:List Nat} (C:b8 S h h') (hs:eZ S h) (m0:b∉S) (m1:b1∉S) (m2:b2∉S):eI h' b b1 b2 p cs c1 c2 ws r1 r2:=
 ⟨by rw[C.f _ H.n0 m0];exact H.hb,H.set.dt C hs,by rw[C.f _ H.n1 m1];exact H.bq,by rw[C.f _ H.n2 m2];exact H.bC,H.s7,H.s8,Nat.lt_of_lt_of_le H.n0 C.n,Nat.lt_of_lt_of_le H.n1 C.n,Nat.lt_of_lt_of_le H.n2 C.n,H.mf.kp (C.kp hs)⟩
end
theorem eI.cells {h:aa} {b b1 b2:Nat} {p:cd} {cs:List Value} {c1 c2:Nat} {ws:List bY} {r1 r2:List Value} (H:eI h b b1 b2 p cs c1 c2 ws r1 r2):
  ∃C lv mb,h.f b= .row true 334 C∧C.length=10∧C.all Go.Am.one=true∧C.take 8=cs∧C.drop 8=[.slice (some ⟨b1,0,none⟩) p.levels.length c1,.slice (some ⟨b2,0,none⟩) p.p.length c2]∧C.drop 9=[.slice (some ⟨b2,0,none⟩) p.p.length c2]∧
   (C.drop 6).take 1=[lv]∧(C.drop 7).take 1=[.map (some mb)]∧aF 29 ag h lv p.s.l∧h.f mb= .obj (.map (du p.s.pins 0).toArray p.s.pins.length):=by
 obtain⟨lv,mb,h1,h2,_,h3,h4,h5,h6,_⟩:=H.set.parts
 refine⟨_,lv,mb,H.hb,by simp[h1],?_,?_,?_,?_,?_,?_,h5,h6⟩
 ·rw[List.all_append,h2];rfl
 ·rw[List.take_append_of_le_length (by omega),List.take_of_length_le (by omega)]
 ·rw[List.drop_append_of_le_length (by omega),List.drop_of_length_le (by omega)];rfl
 ·rw[List.drop_append,List.drop_of_length_le (by omega),h1];rfl
 ·rw[List.drop_append_of_le_length (by omega),h3];rfl
 ·rw[List.drop_append_of_le_length (by omega),h4];rfl
theorem amS {ws:List bY} {r:List Value} {k:Nat} {w:bY} (h:ws[k]? =some w):∃z,(ws.flatMap dS++r).drop k=bH w::z∧k+1≤(ws.flatMap dS++r).length:=by
 obtain⟨hk,e⟩:=List.getElem?_eq_some_iff.1 h
 have h1:=mR 1 rT ws k
 have h2:=dA 1 rT ws
 rw[Nat.mul_one]at h1 h2
 refine⟨(ws.drop (k+1)).flatMap dS++r,?_,?_⟩
 ·rw[List.drop_append_of_le_length (by omega),h1,List.drop_eq_getElem_cons hk,List.flatMap_cons,e];rfl
 ·rw[List.length_append,h2];omega
theorem sI (p:cd) (h:aa) {b b1 b2:Nat} {cs:List Value} {c1 c2:Nat} {ws:List bY} {r1 r2:List Value} (H:eI h b b1 b2 p cs c1 c2 ws r1 r2):
  ai PP 287 [.pointer (some ⟨b,0,none⟩)] h (fun r h'=>h'=h∧r= .int .i64 (p.p.length:Nat)):=by
 refine az mix acC WQ rfl (by show 1≤10;decide) ajN ?_
 simp only[xq,Tryz.f287]
 obtain⟨C,lv,mb,hb,hl,_,ht,h8,h9,h6,h7,_⟩:=H.cells
 simp -implicitDefEqProofs[hb,hl,h9]
theorem zL (p:cd) (I:fL p) (h:aa) {b b1 b2:Nat} {cs:List Value} {c1 c2:Nat} {ws:List bY} {r1 r2:List Value} (H:eI h b b1 b2 p cs c1 c2 ws r1 r2):
  ai PP 293 [.pointer (some ⟨b,0,none⟩)] h (fun r h'=>h'=h∧∃w,r=bH w∧jm h w (bZ p)):=by
 refine az mix acI WW rfl (by show 1≤15;decide) ajT ?_
 simp only[xy,Tryz.f293]
 obtain⟨C,lv,mb,hb,hl,_,ht,h8,h9,h6,h7,_⟩:=H.cells
 have bq:=H.bq
 have hlen:=I.ok.len
 obtain⟨k,hk⟩:∃k,p.levels.length=k+1:=⟨_,hlen⟩
 have hd:=I.dep
 have hll:=I.ll
 obtain⟨w,hw,hL⟩:=H.mf.last hk
 rw[hk]at h8
 obtain⟨R1,hR1⟩:∃R1,R1=ws.flatMap dS++r1:=⟨_,rfl⟩
 rw[←hR1]at bq
 obtain⟨r,hdr,hlc⟩:=amS (r:=r1) hw
 rw[←hR1]at hdr hlc
 have w1:IntKind.wrap .i64 ((k:Int))=(k:Nat):=by rw[aA (by omega)]
 have hlt:(k:Int)<k+1:=by omega
 simp -implicitDefEqProofs[hb,hl,h8,bq,w1,hdr,hlc,hlt,bH]
 exact⟨_,_,_,⟨rfl,rfl,rfl⟩,hL⟩
theorem zg (p:cd) (k:Int) (h:aa) {b b1 b2:Nat} {cs:List Value} {c1 c2:Nat} {ws:List bY} {r1 r2:List Value} (H:eI h b b1 b2 p cs c1 c2 ws r1 r2):
  ai PP 291 [.pointer (some ⟨b,0,none⟩),.int .i64 k] h (fun r h'=>h'=h∧r= .bool (decide (0≤k)&&decide (k<p.s.l.length))):=by
 refine az mix acG WU rfl (by show 2≤19;decide) ajR ?_
 simp only[xw,Tryz.f291]
 obtain⟨C,lv,mb,hb,hl,_,ht,h8,h9,h6,h7,hP,_⟩:=H.cells
 obtain⟨ad,c,rfl⟩:=hP.shape
 by_cases q:k<0
 ·have q2:¬0≤k:=by omega
  simp -implicitDefEqProofs[hb,hl,h6,q,q2]
 ·have q2:0≤k:=by omega
  simp -implicitDefEqProofs[hb,hl,h6,q,q2]
theorem PA (p:cd) (k:Nat) (h:aa) {b b1 b2:Nat} {cs:List Value} {c1 c2:Nat} {ws:List bY} {r1 r2:List Value} (H:eI h b b1 b2 p cs c1 c2 ws r1 r2):
  ai PP 292 [.pointer (some ⟨b,0,none⟩),.int .i64 (k:Nat)] h (fun r h'=>h'=h∧r= .bool (jG p k)):=by
 refine az mix acH WV rfl (by show 2≤22;decide) ajS ?_
 simp only[xx,Tryz.f292]
 have hh:=zg p (k:Int) h H
 obtain⟨C,lv,mb,hb,hl,_,ht,h8,h9,h6,h7,hP,hmb⟩:=H.cells
 have hlook:(l7 3 3 (.int .i64 (k:Int)) (du p.s.pins 0).toArray true).aJ PP=some (.tuple #[.int .i64 ((eW p.s k).getD 0),.bool (eW p.s k).isSome]):=by
  rw[yS,zY,Option.isSome_map]
 unfold jG
 simp -implicitDefEqProofs
 refine hh.mono ?_
 rintro r h' ⟨e,rfl⟩
 replace e:=e.symm
 subst e
 have q0:(0:Int)≤k:=by omega
 by_cases q:k<p.s.l.length
 ·have q2:(k:Int)<p.s.l.length:=by omega
  simp -implicitDefEqProofs[ae,q,q2,q0,hb,hl,h7,hmb,hlook]
 ·have q2:¬(k:Int)<p.s.l.length:=by omega
  simp -implicitDefEqProofs[ae,q,q2]
theorem amd (p:cd) (hp:p.p.length≤1073741824) (h:aa) {b b1 b2:Nat} {cs:List Value} {c1 c2:Nat} {ws:List bY} {r1 r2:List Value} (H:eI h b b1 b2 p cs c1 c2 ws r1 r2):
  ai PP 289 [.pointer (some ⟨b,0,none⟩)] h (fun r h'=>Ext h h'∧aF 3 ab h' r p.p):=by
 refine ai.gK (post:=fun v' h'=>Ext h h'∧bS 3 ab h h' v' p.p) ?_ (fun v h' ⟨E,W⟩=>by
  obtain⟨h'',w,E',S⟩:=W.cG E
  exact⟨h'',w,E',S⟩)
 refine az mix acE WS rfl (by show 1≤10;decide) ajP ?_
 simp only[xu,Tryz.f289]
 obtain⟨C,lv,mb,hb,hl,_,ht,h8,h9,h6,h7,hP,hmb⟩:=H.cells
 have hS:cm 3 ab h (.slice (some ⟨b2,0,none⟩) p.p.length c2) p.p:=⟨_,_,rfl,fun z=>(by cases z),.inr ⟨b2,0,true,_,r2,rfl,H.bC,rfl,by simp,H.n2⟩⟩
 have hc:=yG _ p.p hp h hS
 simp -implicitDefEqProofs[hb,hl,h9]
 refine hc.mono ?_
 rintro r G ⟨E,W⟩
 have hw:=W
 obtain⟨ad,rfl,_⟩:=id W
 simp -implicitDefEqProofs[aC]
 intro _
 exact⟨E,hw⟩
theorem Y8 (s:Value) (xs:List bY) (hl:xs.length≤1073741824) (h:aa) (hs:cm 22 dS h s xs):ai PP 294 [s] h (fun v h'=>Ext h h'∧bS 22 dS h h' v xs):=by
 refine az mix acJ WX rfl (by show 1≤8;decide) ajU ?_
 simp only[xz,Tryz.f294]
 obtain⟨ad,c,rfl,hn,hz⟩:=hs
 cases ad with
 |none=>
  have:xs=[]:=by
   rcases hz with z|⟨b,off,w,cells,rest,z,_⟩
   ·exact z
   ·simp at z
  subst this
  have:=hn rfl
  subst this
  simp -implicitDefEqProofs
  exact⟨Ext.bu h,bS.nil⟩
 |some ad=>
  by_cases h0:xs=[]
  ·subst h0
   simp -implicitDefEqProofs[aI,cB,cQ,cH]
   exact⟨(Ext.new h _).cq (Nat.le_refl _) _ |>.bA _,_,rfl,.inr ⟨_,rfl,by simp,by simp,by simp⟩⟩
  ·obtain⟨b,off,w,cells,rest,e,z2,z3,z4,z5⟩:∃b off w cells rest,some ad=some (⟨b,off,none⟩:Addr)∧h.f b= .row w 22 cells∧cells.drop off=xs.flatMap dS++rest∧off≤cells.length∧b<h.n:=by
    rcases hz with z|z
    ·exact absurd z h0
    ·exact z
   obtain rfl:=Option.some.inj e
   obtain⟨m,hm⟩:∃m,m=xs.length:=⟨_,rfl⟩
   have hm0:¬m=0:=by rw[hm];simpa using h0
   obtain⟨F,hF⟩:∃F,F=xs.flatMap dS:=⟨_,rfl⟩
   have hFl:F.length=m:=by rw[hF,dA 1 rT,hm,Nat.mul_one]
   have hone:F.all Go.Am.one=true:=by rw[hF];exact qZ (fun _=>rfl) xs
   rw[←hF]at z3
   have hlen:off+m≤cells.length:=by
    have:=congrArg List.length z3
    rw[List.length_drop,List.length_append,hFl]at this;omega
   have htk:(cells.drop off).take (m)=F:=by rw[z3,List.take_append_of_le_length (by omega),List.take_of_length_le (by omega)]
   have hbn:¬b=h.n:=by omega
   have hmx:m*24≤140737488355328:=by omega
   rw[←hm]
   simp -implicitDefEqProofs[aI,cB,cQ,cH,hm0,hbn,z2,hlen,htk,hone,hmx]
   exact⟨(Ext.new h _).cq (Nat.le_refl _) _ |>.bA _,_,by rw[hm],.inr ⟨_,rfl,by simp[hF],by simp,by simp⟩⟩
theorem fL.now {p:cd} (I:fL p):(bZ p).length=p.s.l.length∧∀d∈bZ p,d.length≤1048577:=by
 have hl:=I.ok.len
 have:bZ p∈p.levels:=by
  rw[zK hl,List.getD_eq_getElem?_getD,List.getElem?_eq_getElem (show p.p.length<p.levels.length by omega)]
  exact List.getElem_mem _
 exact I.lens _ this
theorem jm.at {h:aa} {w:bY} {D:List (List Int)} (H:jm h w D) {k:Nat} {d:List Int} (hk:D[k]? =some d):
  ∃(b off:Nat) (c:Nat) (cells rest:List Value) (x:bY),w=(some ⟨b,off,none⟩,D.length,c)∧h.f b= .row false 22 cells∧cells.drop (off+k)=bH x::rest∧off+k+1≤cells.length∧aF 3 ab h (bH x) d:=by
 obtain⟨vs,h1,h2,h3⟩:=H
 obtain⟨ad,n,c⟩:=w
 obtain⟨hlt,_⟩:=List.getElem?_eq_some_iff.1 hk
 have hv:vs[k]? =some vs[k]:=List.getElem?_eq_getElem (by omega)
 obtain⟨e,b,off,cells,rest,rfl,hb,hd,hlc,_⟩:=aF.at 1 rT h1 hv
 rw[Nat.mul_one]at hd hlc
 exact⟨b,off,c,cells,rest,vs[k],by rw[show n=vs.length from e,h2],hb,hd,hlc,h3 k _ _ hv hk⟩
theorem jm.shape {h:aa} {w:bY} {D:List (List Int)} (H:jm h w D):∃ad c,w=(ad,D.length,c):=by
 obtain⟨vs,h1,h2,_⟩:=H
 obtain⟨ad,n,c⟩:=w
 obtain⟨ad',c',e⟩:=h1.shape
 simp only[bH,Value.slice.injEq]at e
 exact⟨ad,c,by rw[e.2.1,h2]⟩
theorem ZJ (p:cd) (I:fL p) (k:Nat) (h:aa) {b b1 b2:Nat} {cs:List Value} {c1 c2:Nat} {ws:List bY} {r1 r2:List Value} (H:eI h b b1 b2 p cs c1 c2 ws r1 r2):
  ai PP 312 [.pointer (some ⟨b,0,none⟩),.int .i64 (k:Nat)] h (fun r h'=>Ext h h'∧bS 3 ab h h' r (gI p k)):=by
 refine az mix acO W6 rfl (by show 2≤15;decide) ajZ ?_
 simp only[xF,Tryz.f312]
 have hh:=zg p (k:Int) h H
 have hn:=zL p I h H
 have hnl:=I.now
 have q0:(0:Int)≤k:=by omega
 simp -implicitDefEqProofs
 refine hh.mono ?_
 rintro r h' ⟨e,rfl⟩
 replace e:=e.symm
 subst e
 unfold gI
 by_cases q:k<p.s.l.length
 ·have q2:(k:Int)<p.s.l.length:=by omega
  have hkD:(bZ p)[k]? =some (bZ p)[k]:=List.getElem?_eq_getElem (by omega)
  obtain⟨d,hd⟩:∃d,d=(bZ p)[k]:=⟨_,rfl⟩
  rw[←hd]at hkD
  have hgd:(bZ p).getD k []=d:=by rw[List.getD_eq_getElem?_getD,hkD];rfl
  have hdl:=hnl.2 d (List.mem_of_getElem? hkD)
  rw[if_pos q,hgd]
  simp -implicitDefEqProofs[ae,q,q2,q0]
  intro _
  refine hn.mono ?_
  rintro r h' ⟨e,w,rfl,hL⟩
  replace e:=e.symm
  subst e
  obtain⟨bw,ow,cw,cells,rest,x,rfl,hb,hdr,hlc,hS⟩:=hL.at hkD
  have hkn:k<(bZ p).length:=by omega
  have hcl:=Y7 (bH x) d (by omega) h hS.sl
  simp only[bH]at hcl hdr
  simp -implicitDefEqProofs[aC,bH,hnl.1,hkn,q,hb,hdr,hlc]
  intro _
  refine hcl.mono ?_
  rintro r G ⟨E,W⟩
  have hw:=W
  obtain⟨ad,rfl,_⟩:=id W
  simp -implicitDefEqProofs[aC]
  intro _
  exact⟨E,hw⟩
 ·have q2:¬(k:Int)<p.s.l.length:=by omega
  rw[if_neg q]
  simp -implicitDefEqProofs[ae,q,q2]
  intro _
  exact⟨Ext.bu h,bS.nil⟩
def oB (p:cd) (k:Nat):Int:=if((bZ p).getD k []).length>0 then(p.s.l.getD k default).size else 0
def kH (p:cd) (k:Nat):Int:=((List.range k).map (oB p)).foldl (· + ·) 0
theorem OJ (p:cd) (k:Nat):kH p (k+1)=kH p k+oB p k:=by
 unfold kH
 rw[List.range_succ,List.map_append,List.foldl_append];rfl
theorem afW {q:aU} (h:dM q=true):1≤q.size∧q.size≤8:=by
 unfold dM at h
 simp at h
 omega
theorem fL.size {p:cd} (I:fL p) {k:Nat} (hk:k<p.s.l.length):1≤(p.s.l.getD k default).size∧(p.s.l.getD k default).size≤8:=by
 rw[List.getD_eq_getElem?_getD,List.getElem?_eq_getElem hk]
 exact afW (I.may _ (List.getElem_mem _))
theorem OI {p:cd} (I:fL p):∀k,k≤p.s.l.length→0≤kH p k∧kH p k≤8*k:=by
 intro k
 induction k with
 |zero=>intro _;simp[kH]
 |succ k ih=>
  intro hk
  have h1:=ih (by omega)
  have h2:=I.size (show k<p.s.l.length by omega)
  rw[OJ]
  unfold oB
  split<;>omega
theorem agb (p:cd):j8 p=kH p (bZ p).length:=rfl
def SD (h:aa) (b:Nat) (wv:Value) (p:cd) (m n:Nat) (σ:St):Prop:=∃k:Nat,n=m-k∧k≤m∧σ.m.h=h∧σ.t.get 0=some (.pointer (some ⟨b,0,none⟩))∧σ.t.get 3=some (.int .i64 (kH p k))∧σ.t.get 9=some wv∧σ.t.get 10=some (.int .i64 (m:Nat))∧σ.t.get 11=some (.int .i64 (k:Nat))
theorem agc (p:cd) (I:fL p) (h:aa) {b b1 b2:Nat} {cs:List Value} {c1 c2:Nat} {ws:List bY} {r1 r2:List Value} (H:eI h b b1 b2 p cs c1 c2 ws r1 r2):
  ai PP 288 [.pointer (some ⟨b,0,none⟩)] h (fun r h'=>h'=h∧r= .int .i64 (j8 p)):=by
 refine az mix acD WR rfl (by show 1≤32;decide) ajO ?_
 simp only[xr,Tryz.f288]
 have hn:=zL p I h H
 have hnl:=I.now
 have hll:=I.ll
 obtain⟨C,lv,mb,hb,hl,_,ht,h8,h9,h6,h7,hP,hmb⟩:=H.cells
 rw[agb]
 obtain⟨m,hm⟩:∃m,m=(bZ p).length:=⟨_,rfl⟩
 rw[←hm]at hnl ⊢
 simp -implicitDefEqProofs
 refine hn.mono ?_
 rintro r h' ⟨e,w,rfl,hL⟩
 replace e:=e.symm
 subst e
 obtain⟨ad,c,rfl⟩:=hL.shape
 rw[←hm]at hL
 simp -implicitDefEqProofs[ae,bH,←hm]
 intro _
 refine bD (SD h b (.slice ad m c) p m) _ ⟨0,rfl,by omega,rfl,by simp,by simp[kH],by simp,by simp,by simp⟩ ?_
 rintro n ⟨T,⟨x,G⟩⟩ ⟨k,rfl,hk,e,g0,g3,g9,g10,g11⟩
 simp at e g0 g3 g9 g10 g11
 subst e
 simp -implicitDefEqProofs[g0,g3,g9,g10,g11]
 refine bB (fun hc2=>?_) (fun hc2=>?_)<;>simp only[decide_eq_true_eq,decide_eq_false_iff_not]at hc2
 ·have hkm:k<m:=by omega
  have w1:IntKind.wrap .i64 ((k:Int)+1)=((k+1:Nat):Int):=by rw[aA (by omega)];omega
  have hkD:(bZ p)[k]? =some (bZ p)[k]:=List.getElem?_eq_getElem (by omega)
  obtain⟨d,hd⟩:∃d,d=(bZ p)[k]:=⟨_,rfl⟩
  rw[←hd]at hkD
  have hgd:(bZ p).getD k []=d:=by rw[List.getD_eq_getElem?_getD,hkD];rfl
  obtain⟨bw,ow,cw,cells,rest,x',ew,hbw,hdr,hlc,hS⟩:=hL.at hkD
  simp only[Prod.mk.injEq]at ew
  obtain⟨rfl,_,rfl⟩:=ew
  obtain⟨ax,cx,ex⟩:=hS.shape
  rw[ex]at hdr
  have hsu:=OJ p k
  have hle:=OI I (k+1) (by omega)
  have hle0:=OI I k (by omega)
  by_cases q:0<d.length
  ·have hti:p.s.l[k]? =some p.s.l[k]:=List.getElem?_eq_getElem (by omega)
   obtain⟨X,hX⟩:∃X,X=p.s.l[k]:=⟨_,rfl⟩
   rw[←hX]at hti
   have hgX:p.s.l.getD k default=X:=by rw[List.getD_eq_getElem?_getD,hti];rfl
   obtain⟨adl,cl0,rfl⟩:=hP.shape
   obtain⟨_,bl,ol,cl,rl,rfl,hbl,hdl,hlcl,hbln⟩:=hP.at 2 jD hti
   have hdl':cl.drop (ol+k*2)= .int .i64 X.size:: .int .i64 X.cL::rl:=hdl
   have hlcl':ol+k*2+1≤cl.length:=by omega
   have hma:oB p k=X.size:=by unfold oB;rw[hgd,if_pos q,hgX]
   rw[hma]at hsu
   have w2:IntKind.wrap .i64 (kH p k+X.size)=kH p (k+1):=by rw[hsu];exact aA (by omega)
   have hkl:k<p.s.l.length:=by omega
   simp -implicitDefEqProofs[g0,g3,g9,g10,g11,hkm,hbw,hdr,hlc,q,w1,w2,hb,hl,h6,hkl,hbl,hdl',hlcl']
   exact⟨m-(k+1),by omega,k+1,rfl,by omega,rfl,by simp,by simp,by simp,by simp,by simp⟩
  ·have hma:oB p k=0:=by unfold oB;rw[hgd,if_neg q]
   rw[hma,Int.add_zero]at hsu
   simp -implicitDefEqProofs[g0,g3,g9,g10,g11,hkm,hbw,hdr,hlc,q,w1]
   exact⟨m-(k+1),by omega,k+1,rfl,by omega,rfl,by simp,by simp[hsu],by simp,by simp,by simp⟩
 ·have e:k=m:=by omega
  subst e
  simp -implicitDefEqProofs[g3]
theorem amR (p:cd) (I:fL p) (h:aa) {b b1 b2:Nat} {cs:List Value} {c1 c2:Nat} {ws:List bY} {r1 r2:List Value} (H:eI h b b1 b2 p cs c1 c2 ws r1 r2):
  ai PP 290 [.pointer (some ⟨b,0,none⟩)] h (fun r h'=>Ext h h'∧aF 3 ab h' r (gh p)):=by
 refine ai.gK (post:=fun v' h'=>Ext h h'∧bS 3 ab h h' v' (gh p)) ?_ (fun v h' ⟨E,W⟩=>by
  obtain⟨h'',w,E',S⟩:=W.cG E
  exact⟨h'',w,E',S⟩)
 refine az mix acF WT rfl (by show 1≤18;decide) ajQ ?_
 simp only[xv,Tryz.f290]
 have hd:=sI p h H
 have hdo:=ZJ p I p.p.length h H
 have hpi:=fun G (E:Ext h G)=>PA p p.p.length G (H.ext E)
 have hnl:=I.now
 have hr1:List.range 1=[0]:=rfl
 simp -implicitDefEqProofs
 refine hd.mono ?_
 rintro r h' ⟨e,rfl⟩
 replace e:=e.symm
 subst e
 simp -implicitDefEqProofs[ae]
 intro _
 refine hdo.mono ?_
 rintro r G ⟨E,W⟩
 obtain⟨o,W⟩:=Ow.fw W
 obtain⟨rfl,_⟩:=id W
 have hdl:(gI p p.p.length).length≤1048577:=by
  unfold gI
  split
  ·rename_i q
   rw[List.getD_eq_getElem?_getD,List.getElem?_eq_getElem (show p.p.length<(bZ p).length by omega)]
   exact hnl.2 _ (List.getElem_mem _)
  ·simp
 simp -implicitDefEqProofs[ae]
 intro _
 refine(hpi G E).mono ?_
 rintro r h' ⟨e,rfl⟩
 replace e:=e.symm
 subst e
 have hA:=gx nX W (-1) (by omega)
 simp only[ab]at hA
 unfold gh
 by_cases q:jG p p.p.length=true
 ·have hw:=W.own
  simp only[q,if_true]
  simp -implicitDefEqProofs[ae,q]
  intro _
  exact⟨E,hw⟩
 ·have hw:=(Ow.one W E.n (.row true 3 [.int .i64 (-1)]) (-1) (cells:=(gI p p.p.length).flatMap ab++[.int .i64 (-1)]) rfl).own
  have q':jG p p.p.length=false:=by simpa using q
  simp only[q',Bool.false_eq_true,if_false]
  simp -implicitDefEqProofs[ae,q',aI,hr1,hA]
  intro _
  exact⟨gz E W _ _,hw⟩
theorem fL.pop {p:cd} (I:fL p):fL (gf p):=by
 refine⟨rH I.ok,?_,?_,?_,?_,?_⟩<;>(unfold gf;split)
 ·exact I.sm
 ·exact I.sm
 ·exact I.lens
 ·exact fun D hD=>I.lens D (List.dropLast_subset _ hD)
 ·exact I.dep
 ·have:=I.dep
  simp only[List.length_dropLast];omega
 ·exact I.ll
 ·exact I.ll
 ·exact I.may
 ·exact I.may
theorem jX (h:aa) (b:Nat) (x y:aO):(h.set b x).set b y=h.set b y:=by
 unfold aa.set
 congr 1
 funext i
 by_cases q:i=b<;>simp[q]
theorem iU (h:aa) {b x:Nat} (v:aO) (hx:¬x=b):(h.set b v).f x=h.f x:=by simp[hx]
theorem JL {α:Type} {enc:α→List Value} {ws:List α} {k:Nat} (h:ws.length=k+1) (r:List Value):∃r',ws.flatMap enc++r=ws.dropLast.flatMap enc++r':=by
 rcases List.eq_nil_or_concat ws with e|⟨u,x,e⟩
 ·subst e;simp at h
 ·subst e
  rw[List.concat_eq_append]
  exact⟨enc x++r,by simp⟩
def pE (h:aa) (b b1 b2:Nat) (p':cd) (cs:List Value) (h':aa):Prop:=b8 [b,b1,b2] h h'∧∃b1' b2' c1' c2' ws' r1' r2',eI h' b b1' b2' p' cs c1' c2' ws' r1' r2'∧(b1'=b1∨h.n≤b1')∧(b2'=b2∨h.n≤b2')
theorem tI (p:cd) (I:fL p) (h:aa) {b b1 b2:Nat} {cs:List Value} {c1 c2:Nat} {ws:List bY} {r1 r2:List Value} (H:eI h b b1 b2 p cs c1 c2 ws r1 r2):
  ai PP 251 [.pointer (some ⟨b,0,none⟩)] h (fun r h'=>r= .bool (decide (p.p.length≠0))∧pE h b b1 b2 (gf p) cs h'):=by
 refine az mix aco WB rfl (by show 1≤34;decide) ajA ?_
 simp only[xd,Tryz.f251]
 have hd:=sI p h H
 have hlen:=I.ok.len
 have hdep:=I.dep
 have hll:=I.ll
 simp -implicitDefEqProofs
 refine hd.mono ?_
 rintro r h' ⟨e,rfl⟩
 replace e:=e.symm
 subst e
 by_cases q:p.p.length=0
 ·have q2:(p.p.length:Int)=0:=by omega
  have e:gf p=p:=by unfold gf;rw[if_pos q]
  rw[e]
  simp -implicitDefEqProofs[ae,q]
  intro _
  exact⟨List.length_eq_zero_iff.1 q,b8.bu _ h,b1,b2,c1,c2,ws,r1,r2,H,Or.inl rfl,Or.inl rfl⟩
 ·obtain⟨k,hk⟩:∃k,p.p.length=k+1:=⟨p.p.length-1,by omega⟩
  have hk2:p.levels.length=k+1+1:=by omega
  have e:gf p=⟨p.s,p.levels.dropLast,p.p.dropLast⟩:=by unfold gf;rw[if_neg q]
  have H0:=H
  obtain⟨hb,hset,bq,bC,s7,s8,n0,n1,n2,mf⟩:=H
  have hSC:=hset.shape
  obtain⟨x1,x2,x3,x4,x5,x6,x7,x8,x9,x10,x11,x12,x13,x14,x15,x16,x17,x18,hcs⟩:=hSC
  rw[hk,hk2]at hb
  rw[hcs]at hb
  have w1:IntKind.wrap .i64 ((k:Int))=(k:Nat):=by rw[aA (by omega)]
  have w2:IntKind.wrap .i64 ((k:Int)+1)=((k+1:Nat):Int):=by rw[aA (by omega)];omega
  have i6:(0:Int)≤(k:Int)+1:=by omega
  have i7:k+1≤k+1+1:=by omega
  have i8:k≤k+1:=by omega
  have i5:¬((k:Int)+1=0):=by omega
  obtain⟨R1,hR1⟩:∃R1,R1=ws.flatMap dS++r1:=⟨_,rfl⟩
  obtain⟨R2,hR2⟩:∃R2,R2=p.p.flatMap ab++r2:=⟨_,rfl⟩
  rw[←hR1]at bq
  rw[←hR2]at bC
  simp only[List.cons_append,List.nil_append]at hb
  have hne2:¬b2=b:=fun e=>by rw[e,hb]at bC;cases bC
  have hne1:¬b1=b:=fun e=>by rw[e,hb]at bq;cases bq
  simp -implicitDefEqProofs[ae,hk,hb,bq,bC,w1,w2,i5,i6,i7,i8,hne1,hne2]
  intro _
  rw[e]
  rw[jX]
  obtain⟨v,hv⟩:∃v,v=aO.row true 334 (cs++[.slice (some ⟨b1,0,none⟩) (k+1) (k+1),.slice (some ⟨b2,0,none⟩) k k]):=⟨_,rfl⟩
  have hv2:=hv
  rw[hcs]at hv2
  simp only[List.cons_append,List.nil_append]at hv2
  rw[←hv2]
  obtain⟨r1',e1⟩:=JL (enc:=dS) (k:=k+1) (by rw[mf.1,hk2]) r1
  obtain⟨r2',e2⟩:=JL (enc:=ab) hk r2
  have C:b8 [b,b1,b2] h (h.set b v):=⟨rfl,Nat.le_refl _,fun x hx hs=>by
   have:¬x=b:=fun e=>hs (by simp[e])
   simp[this]⟩
  have RS:eZ [b,b1,b2] h:=by
   intro x hx
   simp only[List.mem_cons,List.not_mem_nil,or_false]at hx
   rcases hx with rfl|rfl|rfl
   ·exact⟨_,_,hb⟩
   ·exact⟨_,_,bq⟩
   ·exact⟨_,_,bC⟩
  refine⟨fun e=>by rw[e]at hk;simp at hk,C,b1,b2,k+1,k,ws.dropLast,r1',r2',⟨?_,hset.dt C RS,?_,?_,by simp[hk2],by simp[hk],n0,n1,n2,?_⟩,Or.inl rfl,Or.inl rfl⟩
  ·simp[hv,hk,hk2]
  ·simp only[iU _ _ hne1,bq,hR1,e1]
  ·simp only[iU _ _ hne2,bC,hR2,e2]
  ·have L:=mf.kp (C.kp RS)
   have h1:=L.1
   refine⟨by simp[h1],fun i w D a c=>L.2 i w D ?_ ?_⟩
   ·rw[List.getElem?_dropLast]at a
    split at a
    ·exact a
    ·cases a
   ·simp only at c
    rw[List.getElem?_dropLast]at c
    split at c
    ·exact c
    ·cases c
section
variable {α:Type} {t e sz by_:Nat} {enc:α→List Value} {G:aa} {xs:List α}
theorem nP (E:iM t e sz by_ enc) {b1 c:Nat} {r:List Value} (bq:G.f b1= .row true e (xs.flatMap enc++r)) (a:α) {b:Nat} {w:Bool} (hb:G.f b= .row w e (enc a)) (hl:(xs.length+1)*by_≤140737488355328) (T:Fr) (x:bI) (s y:Nat)
  (hs:Fr.get T s=some (.slice (some ⟨b1,0,none⟩) xs.length c)) (hy:Fr.get T y=some (.slice (some ⟨b,0,none⟩) 1 1)):
  cB PP ⟨T,⟨x,G⟩⟩ t t (.tmp s) (.tmp y)=some (.slice (some ⟨G.n,0,none⟩) (xs.length+1) (xs.length+1),⟨T,⟨x,(G.set b1 .dead).new (.row true e (xs.flatMap enc++enc a))⟩⟩):=by
 obtain⟨zl,hz,hzl⟩:=E.ze
 have hlen:=E.len a
 have htk:(enc a).take sz=enc a:=List.take_of_length_le (by omega)
 have hfl:=dA sz E.len xs
 have htk2:(xs.flatMap enc++r).take (xs.length*sz)=xs.flatMap enc:=by rw[List.take_append_of_le_length (by omega),List.take_of_length_le (by omega)]
 have hone:=E.one a
 have hlr:xs.length*sz≤(xs.flatMap enc++r).length:=by rw[List.length_append];omega
 have hs0:=E.pos
 have hb0:=E.b0
 obtain⟨R,hR⟩:∃R,R=xs.flatMap enc++r:=⟨_,rfl⟩
 rw[←hR]at bq htk2 hlr
 simp[cB,cQ,E.el,hz,E.yD,E.un,hs,hy,hlen,htk,hb,bq,E.co,hone,hs0,hb0,hzl,htk2,hlr,hl,cH]
end
def kP (p:cd) (f:Int):Bool:=decide (p.p.length<p.s.l.length)&&(!(decide (f= -1)&&jG p p.p.length)&& !(decide (f≠-1)&& !decide (f∈gI p p.p.length)))
def ez (p:cd) (f:Int) (k j:Nat):List (List Int):=(List.range (bZ p).length).map fun i=>if i=k then(if f= -1 then[]else[f])else if(f≠-1∧k<i)∧i<j then ei p.s ((bZ p).getD i []) i k f else(bZ p).getD i []
theorem Ac (p:cd) (f:Int):gJ p f=if kP p f=true then⟨p.s,p.levels++[ez p f p.p.length (bZ p).length],p.p++[f]⟩else p:=by
 unfold gJ kP
 simp only
 have e:(!decide (p.p.length<p.s.l.length) || (decide (f= -1)&&jG p p.p.length) || (decide (f≠-1)&& !(gI p p.p.length).contains f))= !(decide (p.p.length<p.s.l.length)&&(!(decide (f= -1)&&jG p p.p.length)&& !(decide (f≠-1)&& !decide (f∈gI p p.p.length)))):=by
  rw[List.contains_eq_mem]
  cases decide (p.p.length<p.s.l.length)<;>cases (decide (f= -1)&&jG p p.p.length)<;>cases (decide (f≠-1)&& !decide (f∈gI p p.p.length))<;>rfl
 rw[e]
 cases (decide (p.p.length<p.s.l.length)&&(!(decide (f= -1)&&jG p p.p.length)&& !(decide (f≠-1)&& !decide (f∈gI p p.p.length))))with
 |false=>simp
 |true=>
  simp only[Bool.not_true,Bool.false_eq_true,if_false,if_true]
  congr 3
  unfold ez
  refine List.map_congr_left fun i hi=>?_
  rw[List.mem_range]at hi
  simp[hi]
theorem tA (p:cd) (f:Int) (k j i:Nat) {d:List Int} (h:(ez p f k j)[i]? =some d) (hk:i≠k):d=if(f≠-1∧k<i)∧i<j then ei p.s ((bZ p).getD i []) i k f else(bZ p).getD i []:=by
 unfold ez at h
 rw[List.getElem?_map]at h
 cases q:(List.range (bZ p).length)[i]? with
 |none=>rw[q]at h;cases h
 |some x=>
  obtain⟨_,e⟩:=List.getElem?_eq_some_iff.1 q
  rw[List.getElem_range]at e
  subst e
  rw[q]at h
  simp only[Option.map_some,Option.some.injEq]at h
  rw[←h,if_neg hk]
theorem ka (p:cd) (f:Int) (k j:Nat):(ez p f k j).length=(bZ p).length:=by simp[ez]
theorem zH (l:List bY):l.map bH=l.flatMap dS:=by
 induction l with
 |nil=>rfl
 |cons a r ih=>rw[List.map_cons,List.flatMap_cons,ih];rfl
def RU (h G:aa) (f:Int) (x:bY):Prop:=(f= -1∧x=(none,0,0))∨(f≠-1∧∃bf,x=(some ⟨bf,0,none⟩,1,1)∧G.f bf= .row true 3 [.int .i64 f]∧h.n≤bf∧bf<G.n)
structure nH (h G:aa) (bn:Nat) (us:List bY) (D:List (List Int)) (k:Nat) (f:Int):Prop where
 row:G.f bn= .row true 22 (us.map bH)
 n0:h.n≤bn
 n1:bn<G.n
 len:us.length=D.length
 er:∀(i:Nat) x d,i≠k→us[i]? =some x→D[i]? =some d→aF 3 ab G (bH x) d
 sM:∃x,us[k]? =some x∧RU h G f x
theorem kS {G:aa} {b:Nat} {e:TypeId} {cs:List Value} (h:G.f b= .row true e cs):eZ [b] G:=eZ.cons h (eZ.nil G)
theorem aes {G:aa} {b:Nat} {x y:aO} (hb:¬b=G.n):(G.set b x).new y=(G.new y).set b x:=by
 unfold aa.set aa.new
 congr 1
 funext i
 by_cases q:i=b
 ·subst q;simp[hb]
 ·simp[q]
theorem fY (G:aa) (b:Nat) (v:aO):b8 [b] G (G.set b v):=⟨rfl,Nat.le_refl _,fun x _ hs=>by
 have:¬x=b:=fun e=>hs (by simp[e])
 simp[this]⟩
theorem nH.step {h G G2:aa} {bn:Nat} {us:List bY} {p:cd} {k j:Nat} {f:Int} (L:nH h G bn us (ez p f k j) k f) (hf:f≠-1) (hkj:k<j) (hj:j<(bZ p).length) (E:Ext G G2) {x':bY} (S:aF 3 ab G2 (bH x') (ei p.s ((bZ p).getD j []) j k f)):
  nH h (G2.set bn (.row true 22 ((us.set j x').map bH))) bn (us.set j x') (ez p f k (j+1)) k f:=by
 have hr2:G2.f bn= .row true 22 (us.map bH):=by rw[E.f _ L.n1];exact L.row
 have C:=fY G2 bn (.row true 22 ((us.set j x').map bH))
 have RS:=kS hr2
 have hul:=L.len
 rw[ka]at hul
 refine⟨by simp,L.n0,Nat.lt_of_lt_of_le L.n1 E.n,by simp[ka,hul],fun i x d hi hx hd=>?_,?_⟩
 ·have hd':=tA p f k (j+1) i hd hi
  by_cases q:i=j
  ·subst q
   rw[List.getElem?_set_self (by omega)]at hx
   simp only[Option.some.injEq]at hx
   subst hx
   rw[if_pos ⟨⟨hf,hkj⟩,by omega⟩]at hd'
   rw[hd']
   exact S.dt C RS
  ·rw[List.getElem?_set_ne (fun e=>q e.symm)]at hx
   have hil:i<(bZ p).length:=by
    have:=(List.getElem?_eq_some_iff.1 hd).1
    rwa[ka]at this
   have hji:i<(ez p f k j).length:=by rw[ka];exact hil
   have hd2:(ez p f k j)[i]? =some (ez p f k j)[i]:=List.getElem?_eq_getElem hji
   have e2:=tA p f k j i hd2 hi
   have e3:(ez p f k j)[i]=d:=by
    rw[e2,hd']
    by_cases q2:i<j
    ·have:i<j+1:=by omega
     simp only[q2,this]
    ·have:¬i<j+1:=by omega
     simp only[q2,this]
   rw[e3]at hd2
   exact((L.er i x d hi hx hd2).ext E).dt C RS
 ·obtain⟨x,hx,he⟩:=L.sM
  refine⟨x,by rw[List.getElem?_set_ne (by omega)];exact hx,?_⟩
  rcases he with he|⟨h1,bf,h2,h3,h4,h5⟩
  ·exact .inl he
  ·refine .inr ⟨h1,bf,h2,?_,h4,Nat.lt_of_lt_of_le h5 E.n⟩
   have h6:G2.f bf= .row true 3 [.int .i64 f]:=by rw[E.f _ h5];exact h3
   have hne:¬bf=bn:=fun e=>by rw[e,hr2]at h6;cases h6
   rw[iU _ _ hne];exact h6
def Sw (h:aa) (b bn:Nat) (p:cd) (k:Nat) (f:Int) (m n:Nat) (σ:St):Prop:=∃(j:Nat) (us:List bY),n=m-j∧j≤m∧k<j∧Ext h σ.m.h∧nH h σ.m.h bn us (ez p f k j) k f∧
 σ.t.get 0=some (.pointer (some ⟨b,0,none⟩))∧σ.t.get 1=some (.int .i64 f)∧σ.t.get 5=some (.int .i64 (k:Nat))∧σ.t.get 6=some (.slice (some ⟨bn,0,none⟩) m m)∧σ.t.get 7=some (.int .i64 (j:Nat))
def Tu (h:aa) (b:Nat) (p:cd) (k:Nat) (f:Int) (m:Nat) (σ:St):Prop:=∃(bn:Nat) (us:List bY),Ext h σ.m.h∧nH h σ.m.h bn us (ez p f k m) k f∧
 σ.t.get 0=some (.pointer (some ⟨b,0,none⟩))∧σ.t.get 1=some (.int .i64 f)∧σ.t.get 6=some (.slice (some ⟨bn,0,none⟩) m m)
theorem O5 (p:cd) (f:Int) (k i:Nat) {d:List Int} (h:(ez p f k (k+1))[i]? =some d) (hk:i≠k):(bZ p)[i]? =some d:=by
 have e:=tA p f k (k+1) i h hk
 have hl:=(List.getElem?_eq_some_iff.1 h).1
 rw[ka]at hl
 rw[if_neg (by omega)]at e
 rw[e,List.getD_eq_getElem?_getD,List.getElem?_eq_getElem hl];rfl
theorem agM (p:cd) (k j j':Nat):ez p (-1) k j=ez p (-1) k j':=by
 unfold ez
 refine List.map_congr_left fun i _=>?_
 simp
def se (h:aa) (b b1 b2:Nat) (p:cd) (f:Int) (cs:List Value) (ws:List bY) (k m:Nat) (h':aa):Prop:=pE h b b1 b2 (gJ p f) cs h'∨
 (kP p f=true∧b8 [b,b1,b2] h h'∧∃bn us b1' b2',nH h h' bn us (ez p f k m) k f∧h'.f b= .row true 334 (cs++[.slice (some ⟨b1',0,none⟩) (p.levels.length+1) (p.levels.length+1),.slice (some ⟨b2',0,none⟩) (k+1) (k+1)])∧
  h'.f b1'= .row true 329 (ws.flatMap dS++dS (some ⟨bn,0,none⟩,m,m))∧h'.f b2'= .row true 3 (p.p.flatMap ab++ab f)∧h.n≤b1'∧b1'<h'.n∧h.n≤b2'∧b2'<h'.n∧∀x ad,us[k]? =some x→x.1=some ad→ad.block<b2')
theorem iT (h:aa) {b x:Nat} (hx:¬x=b):(h.cG b).f x=h.f x:=by unfold aa.cG;simp[hx]
theorem sR {h:aa} {b:Nat} {e:TypeId} {w:Bool} {cs:List Value} (hb:h.f b= .row w e cs):(h.cG b).f b= .row false e cs:=by unfold aa.cG;simp[hb,aO.cG]
theorem amp {h h':aa} {b b1 b2:Nat} {p:cd} {f:Int} {cs:List Value} {c1 c2:Nat} {ws:List bY} {r1 r2:List Value} (H:eI h b b1 b2 p cs c1 c2 ws r1 r2) {k m:Nat} (hk:k=p.p.length) (hm:m=(bZ p).length) (Q:se h b b1 b2 p f cs ws k m h'):
  ∃h'',Wk h' h''∧pE h b b1 b2 (gJ p f) cs h'':=by
 rcases Q with Q|⟨ok,C,bn,us,b1',b2',L,g0,g1,g2,n1,m1,n2,m2,hbf2⟩
 ·exact⟨h',Wk.refl _,Q⟩
 ·have RS:eZ [b,b1,b2] h:=by
   intro x hx
   simp only[List.mem_cons,List.not_mem_nil,or_false]at hx
   rcases hx with rfl|rfl|rfl
   ·exact⟨_,_,H.hb⟩
   ·exact⟨_,_,H.bq⟩
   ·exact⟨_,_,H.bC⟩
  have hul:=L.len
  rw[ka]at hul
  have key:∃h'',Wk h' h''∧(∀x,x<h.n→h''.f x=h'.f x)∧jm h'' (some ⟨bn,0,none⟩,m,m) (ez p f k m)∧h''.f b=h'.f b∧h''.f b1'=h'.f b1'∧h''.f b2'=h'.f b2':=by
   have h0:¬b=bn:=by have:=H.n0;have:=L.n0;omega
   have h1:¬b1'=bn:=fun e=>by have:=L.row;rw[←e,g1]at this;cases this
   have h2:¬b2'=bn:=fun e=>by have:=L.row;rw[←e,g2]at this;cases this
   obtain⟨x,hx,he⟩:=L.sM
   have hkm:k<(bZ p).length:=by
    have:=(List.getElem?_eq_some_iff.1 hx).1
    omega
   have hnk:(ez p f k m)[k]? =some (if f= -1 then[]else[f]):=by
    unfold ez
    rw[List.getElem?_map,List.getElem?_range hkm]
    simp
   have mk:∀(F:aa),Wk h' F→F.f bn= .row false 22 (us.map bH)→aF 3 ab F (bH x) (if f= -1 then[]else[f])→jm F (some ⟨bn,0,none⟩,m,m) (ez p f k m):=fun F W hF hS=>by
    refine⟨us,⟨some ⟨bn,0,none⟩,m,?_,fun z=>(by cases z),.inr ⟨bn,0,_,[],rfl,hF,by rw[zH];simp,by simp,by rw[W.n];exact L.n1⟩⟩,by rw[hul,ka],fun i y d hy hd=>?_⟩
    ·simp only[bH];rw[hul,hm]
    ·by_cases q:i=k
     ·subst q
      rw[hx]at hy
      rw[hnk]at hd
      cases hy;cases hd
      exact hS
     ·exact(L.er i y d q hy hd).wk W
   rcases he with⟨hf,ex⟩|⟨hf,bf,ex,hbf,f1,f2⟩
   ·subst ex
    refine⟨h'.cG bn,h'.ma bn,fun y hy=>iT _ (by have:=L.n0;omega),mk _ (h'.ma bn) (sR L.row) ?_,iT _ h0,iT _ h1,iT _ h2⟩
    rw[if_pos hf]
    exact aF.nil
   ·subst ex
    have hfn:¬bf=bn:=fun e=>by rw[e,L.row]at hbf;cases hbf
    have hbn:(h'.cG bf).f bn= .row true 22 (us.map bH):=by rw[iT _ (fun e=>hfn e.symm)];exact L.row
    have W:=(h'.ma bf).trans ((h'.cG bf).ma bn)
    have hf1:¬b1'=bf:=fun e=>by rw[←e,g1]at hbf;cases hbf
    have hf2:¬b2'=bf:=fun e=>by have:=hbf2 _ _ hx rfl;simp only at this;omega
    have hfb:¬b=bf:=by have:=H.n0;omega
    refine⟨(h'.cG bf).cG bn,W,fun y hy=>?_,mk _ W (sR hbn) ?_,?_,?_,?_⟩
    ·rw[iT _ (by have:=L.n0;omega),iT _ (by omega)]
    ·rw[if_neg hf]
     refine⟨some ⟨bf,0,none⟩,1,rfl,fun z=>(by cases z),.inr ⟨bf,0,[.int .i64 f],[],rfl,?_,by simp[ab],by simp,by rw[W.n];exact f2⟩⟩
     rw[iT _ hfn,sR hbf]
    ·rw[iT _ h0,iT _ hfb]
    ·rw[iT _ h1,iT _ hf1]
    ·rw[iT _ h2,iT _ hf2]
  obtain⟨h'',W,hlt,hL,e0,e1,e2⟩:=key
  have C2:b8 [b,b1,b2] h h'':=C.wk W (fun y hy _=>hlt y hy)
  refine⟨h'',W,C2,b1',b2',p.levels.length+1,k+1,ws++[(some ⟨bn,0,none⟩,m,m)],[],[],?_,.inr n1,.inr n2⟩
  rw[Ac,if_pos ok,←hk,←hm]
  refine⟨?_,H.set.dt C2 RS,?_,?_,by simp,by simp[hk],Nat.lt_of_lt_of_le H.n0 C2.n,by rw[W.n];exact m1,by rw[W.n];exact m2,?_⟩
  ·rw[e0,g0];simp[hk]
  ·rw[e1,g1];simp
  ·rw[e2,g2];simp
  ·have Lo:=H.mf.kp (C2.kp RS)
   have hwl:=Lo.1
   refine⟨by simp[hwl],fun i w D hw hD=>?_⟩
   simp only at hD
   rcases Nat.lt_trichotomy i ws.length with z|z|z
   ·rw[List.getElem?_append_left z]at hw
    rw[List.getElem?_append_left (by omega)]at hD
    exact Lo.2 i w D hw hD
   ·rw[z,List.getElem?_append_right (Nat.le_refl _),Nat.sub_self]at hw
    rw[z,hwl,List.getElem?_append_right (Nat.le_refl _),Nat.sub_self]at hD
    simp only[List.getElem?_cons_zero,Option.some.injEq]at hw hD
    subst hw;subst hD
    exact hL
   ·rw[List.getElem?_append_right (by omega)]at hw
    have:=(List.getElem?_eq_some_iff.1 hw).1
    simp at this
    omega
theorem Ad {h G F:aa} {b b1 b2 bn b1' b2':Nat} {us:List bY} {p:cd} {f:Int} {cs:List Value} {c1 c2:Nat} {ws:List bY} {r1 r2:List Value} {k m:Nat} (H:eI h b b1 b2 p cs c1 c2 ws r1 r2) (ok:kP p f=true) (E:Ext h G) (L:nH h G bn us (ez p f k m) k f)
  (hg:F.g=G.g) (hn:F.n=G.n+1+1+1+1) (ho:∀x,x<G.n→¬x=b→¬x=b1→¬x=b2→F.f x=G.f x)
  (g0:F.f b= .row true 334 (cs++[.slice (some ⟨b1',0,none⟩) (p.levels.length+1) (p.levels.length+1),.slice (some ⟨b2',0,none⟩) (k+1) (k+1)]))
  (g1:F.f b1'= .row true 329 (ws.flatMap dS++dS (some ⟨bn,0,none⟩,m,m))) (g2:F.f b2'= .row true 3 (p.p.flatMap ab++ab f)) (n1:G.n≤b1') (n1':b1'<G.n+1+1+1+1) (n2:G.n≤b2') (n2':b2'<G.n+1+1+1+1):
  se h b b1 b2 p f cs ws k m F:=by
 have en:=E.n
 have HG:=H.ext E
 have C:b8 [b,b1,b2] G F:=⟨hg,by omega,fun x hx hs=>by
  simp only[List.mem_cons,List.not_mem_nil,or_false,not_or]at hs
  exact ho x hx hs.1 hs.2.1 hs.2.2⟩
 have RS:eZ [b,b1,b2] G:=by
  intro x hx
  simp only[List.mem_cons,List.not_mem_nil,or_false]at hx
  rcases hx with rfl|rfl|rfl
  ·exact⟨_,_,HG.hb⟩
  ·exact⟨_,_,HG.bq⟩
  ·exact⟨_,_,HG.bC⟩
 have q0:=H.n0
 have q1:=H.n1
 have q2:=H.n2
 have l0:=L.n0
 have l1:=L.n1
 refine .inr ⟨ok,(b8.dR (S:=[b,b1,b2]) E).trans C (fun i hi _=>hi),bn,us,b1',b2',⟨?_,l0,by omega,L.len,fun i x d hi hx hd=>(L.er i x d hi hx hd).dt C RS,?_⟩,g0,g1,g2,by omega,by omega,by omega,by omega,?_⟩
 ·rw[ho bn l1 (by omega) (by omega) (by omega)];exact L.row
 ·obtain⟨x,hx,he⟩:=L.sM
  refine⟨x,hx,?_⟩
  rcases he with he|⟨a1,bf,a2,a3,a4,a5⟩
  ·exact .inl he
  ·exact .inr ⟨a1,bf,a2,by rw[ho bf a5 (by omega) (by omega) (by omega)];exact a3,a4,by omega⟩
 ·intro y ad hy ha
  obtain⟨x,hx,he⟩:=L.sM
  rw[hx]at hy
  cases hy
  rcases he with⟨_,e⟩|⟨_,bf,e,_,_,a5⟩
  ·rw[e]at ha;cases ha
  ·rw[e]at ha
   simp only[Option.some.injEq]at ha
   subst ha
   simp only;omega
def AX (h:aa) (b:Nat) (p:cd) (f:Int) (σ:St):Prop:=σ.m.h=h∧kP p f=true∧σ.t.get 0=some (.pointer (some ⟨b,0,none⟩))∧σ.t.get 1=some (.int .i64 f)∧σ.t.get 5=some (.int .i64 (p.p.length:Nat))
theorem amo (p:cd) (I:fL p) (f:Int) (h:aa) {b b1 b2:Nat} {cs:List Value} {c1 c2:Nat} {ws:List bY} {r1 r2:List Value} (H:eI h b b1 b2 p cs c1 c2 ws r1 r2):
  ai PP 252 [.pointer (some ⟨b,0,none⟩),.int .i64 f] h (fun r h'=>(∃v,r= .bool v)∧pE h b b1 b2 (gJ p f) cs h'):=by
 refine ai.gK (post:=fun r h'=>(∃v,r= .bool v)∧se h b b1 b2 p f cs ws p.p.length (bZ p).length h') ?_ (fun v h' ⟨a,Q⟩=>by
  obtain⟨h'',W,Z⟩:=amp H rfl rfl Q
  exact⟨h'',W,a,Z⟩)
 refine az mix acp WC rfl (by show 2≤93;decide) ajB ?_
 simp only[xe,Tryz.f252]
 have hd:=sI p h H
 have hha:=zg p (p.p.length:Int) h H
 have hpi:=PA p p.p.length h H
 have hno:=zL p I h H
 have hnl:=I.now
 have hdep:=I.dep
 have hll:=I.ll
 obtain⟨k,hk⟩:∃k,k=p.p.length:=⟨_,rfl⟩
 rw[←hk]at hd hha hpi hdep ⊢
 have q0:(0:Int)≤k:=by omega
 refine rX 3 (AX h b p f) ?_ ?_
 ·simp only[oc,oa]
  simp -implicitDefEqProofs
  refine hd.mono ?_
  rintro r h' ⟨e,rfl⟩
  replace e:=e.symm
  subst e
  simp -implicitDefEqProofs[ae]
  intro _
  refine hha.mono ?_
  rintro r h' ⟨e,rfl⟩
  replace e:=e.symm
  subst e
  have hno':kP p f=false→(∃v,Value.bool false= .bool v)∧pE h b b1 b2 (gJ p f) cs h:=fun z=>by
   rw[Ac,z]
   exact⟨⟨_,rfl⟩,b8.bu _ h,b1,b2,c1,c2,ws,r1,r2,H,.inl rfl,.inl rfl⟩
  unfold kP at hno'
  unfold AX kP
  rw[←hk]at hno' ⊢
  by_cases q:k<p.s.l.length
  ·have q2:(k:Int)<p.s.l.length:=by omega
   by_cases qf:f= -1
   ·subst qf
    simp -implicitDefEqProofs[ae,aC,q,q2,q0]
    intro _
    refine hpi.mono ?_
    rintro r h' ⟨e,rfl⟩
    replace e:=e.symm
    subst e
    by_cases qp:jG p k=true
    ·have:=hno' (by simp[q,qp])
     simp -implicitDefEqProofs[ae,aC,qp]
     intro _
     exact Or.inl this.2
    ·simp -implicitDefEqProofs[ae,aC,q,qp]
   ·have hkD:(bZ p)[k]? =some (bZ p)[k]:=List.getElem?_eq_getElem (by omega)
    obtain⟨d,hd⟩:∃d,d=(bZ p)[k]:=⟨_,rfl⟩
    rw[←hd]at hkD
    have hgd:gI p k=d:=by unfold gI;rw[if_pos q,List.getD_eq_getElem?_getD,hkD];rfl
    have hdl:=hnl.2 d (List.mem_of_getElem? hkD)
    rw[hgd]at hno' ⊢
    simp -implicitDefEqProofs[ae,aC,q,q2,q0,qf]
    intro _
    refine hno.mono ?_
    rintro r h' ⟨e,w,rfl,hL⟩
    replace e:=e.symm
    subst e
    obtain⟨bw,ow,cw,cells,rest,x,rfl,hb,hdr,hlc,hS⟩:=hL.at hkD
    have hco:=FX (bH x) d f (by omega) h hS.sl
    simp only[bH]at hco hdr
    simp -implicitDefEqProofs[aC,ae,bH,hnl.1,q,hb,hdr,hlc]
    intro _
    refine hco.mono ?_
    rintro r h' ⟨e,rfl⟩
    replace e:=e.symm
    subst e
    by_cases qm:f∈d
    ·simp -implicitDefEqProofs[aC,ae,q,qf,qm]
    ·have:=hno' (by simp[q,qf,qm])
     simp -implicitDefEqProofs[aC,ae,qm]
     intro _
     exact Or.inl this.2
  ·have q2:¬(k:Int)<p.s.l.length:=by omega
   have:=hno' (by simp[q])
   simp -implicitDefEqProofs[ae,aC,q,q2]
   intro _
   exact Or.inl this.2
 ·rintro⟨T,⟨x,G⟩⟩ ⟨e,ok,g0,g1,g5⟩
  replace e:h=G:=e.symm
  subst e
  simp at g0 g1 g5
  rw[←hk]at g5
  have hkl:k<p.s.l.length:=by unfold kP at ok;rw[←hk]at ok;simp at ok;exact ok.1
  have hmem:f≠-1→f∈(bZ p).getD k []:=fun hf=>by
   unfold kP gI at ok
   rw[←hk]at ok
   simp only[hkl,if_true]at ok
   simp[hf]at ok
   simpa using ok
  obtain⟨m,hm⟩:∃m,m=(bZ p).length:=⟨_,rfl⟩
  have hml:m=p.s.l.length:=hm.trans hnl.1
  simp only[pg,my]
  refine rX 2 (Tu h b p k f m) ?_ ?_
  ·simp only[oc,oa]
   simp -implicitDefEqProofs[g0,g1,g5]
   refine hno.mono ?_
   rintro r h' ⟨e,w,rfl,vs,hvs,hvl,hve⟩
   replace e:=e.symm
   subst e
   have hcl:=Y8 (bH w) vs (by omega) h hvs.sl
   simp only[bH]at hcl
   simp -implicitDefEqProofs[aC,bH]
   intro _
   refine hcl.mono ?_
   rintro r G ⟨E,W⟩
   obtain⟨o,W⟩:=Ow.fw W
   obtain⟨rfl,W2⟩:=id W
   cases o with
   |none=>
    simp only at W2
    subst W2
    simp at hvl
    omega
   |some bn=>
    obtain⟨hrow,hn0,hn1⟩:=W2
    have hvm:vs.length=m:=hvl.trans hm.symm
    rw[←zH]at hrow
    obtain⟨V,hV⟩:∃V,V=vs.map bH:=⟨_,rfl⟩
    rw[←hV]at hrow
    have hVl:k+1≤V.length:=by rw[hV,List.length_map];omega
    have hkm:k<m:=by omega
    have hts:=kX bH vs k (none,0,0) (by omega)
    rw[←hV]at hts
    simp only[bH]at hts
    simp -implicitDefEqProofs[aC,g0,g1,g5,hvm,hkm,hrow,hVl]
    intro _
    refine bB (fun hc=>?_) (fun hc=>?_)
    ·have hf:f≠-1:=by simpa using hc
     clear hc
     obtain⟨V2,hV2⟩:∃V2,V2=(vs.set k (none,0,0)).map bH:=⟨_,rfl⟩
     rw[←hV2]at hts
     have hts':List.take k V++Value.slice none 0 0::List.drop (k+1) V=V2:=hts
     have hV2l:k+1≤V2.length:=by rw[hV2,List.length_map,List.length_set];omega
     have hts2:=kX bH (vs.set k (none,0,0)) k (some ⟨G.n,0,none⟩,1,1) (by rw[List.length_set];omega)
     rw[←hV2]at hts2
     simp only[bH]at hts2
     have hbG:¬bn=G.n:=by omega
     have hr1:List.range 1=[0]:=rfl
     have w1:IntKind.wrap .i64 ((k:Int)+1)=((k+1:Nat):Int):=by rw[aA (by omega)];omega
     have C0:=fY G bn (.row true 22 V2)
     have R0:=kS hrow
     simp -implicitDefEqProofs[g0,g1,g5,hvm,hkm,hts',hV2l,aI,hr1,hbG,w1]
     rw[aes hbG,jX]
     have hnx:=ka p f k (k+1)
     refine bD (Sw h b bn p k f m) _ ⟨k+1,(vs.set k (none,0,0)).set k (some ⟨G.n,0,none⟩,1,1),rfl,by omega,by omega,(E.bA _).cq hn0 _,⟨?_,hn0,by show bn<G.n+1;omega,by simp[hnx,hvm,hm],fun i x d hi hx hd=>?_,?_⟩,by simp,by simp,by simp,by simp,by simp⟩ ?_
     ·simp only
      rw[←hts2];simp
     ·rw[List.getElem?_set_ne (by omega),List.getElem?_set_ne (by omega)]at hx
      have hS:=hve i x d hx (O5 p f k i hd hi)
      have C1:=fY (G.new (.row true 3 [.int .i64 f])) bn (.row true 22 (List.take k V2++Value.slice (some {block:=G.n,off:=0}) 1 1::List.drop (k+1) V2))
      have R1:eZ [bn] (G.new (.row true 3 [.int .i64 f])):=kS (by rw[(Ext.new G _).f _ hn1];exact hrow)
      exact(hS.ext (E.bA _)).dt C1 R1
     ·refine⟨_,List.getElem?_set_self (by rw[List.length_set];omega),.inr ⟨hf,G.n,rfl,?_,E.n,by simp⟩⟩
      rw[iU _ _ (fun e=>hbG e.symm)];simp
     ·rintro n ⟨T,⟨x,G3⟩⟩ ⟨j,us,rfl,hj,hkj,E3,L,g0,g1,g5,g6,g7⟩
      simp at E3 L g0 g1 g5 g6 g7
      simp -implicitDefEqProofs[g0,g1,g5,g6,g7]
      refine bB (fun hc2=>?_) (fun hc2=>?_)<;>simp only[decide_eq_true_eq,decide_eq_false_iff_not]at hc2
      ·have hjm:j<m:=by omega
       have H3:=H.ext E3
       obtain⟨C,lv,mb,hb,hl,ho,ht,h8,h9,h6,h7,hP,_⟩:=H3.cells
       have hln:=L.len
       rw[ka]at hln
       have hrow3:=L.row
       have hux:us[j]? =some us[j]:=List.getElem?_eq_getElem (by omega)
       obtain⟨X,hX⟩:∃X,X=us[j]:=⟨_,rfl⟩
       rw[←hX]at hux
       have hjn:j<(ez p f k j).length:=by rw[ka];omega
       have hdx:(ez p f k j)[j]? =some (ez p f k j)[j]:=List.getElem?_eq_getElem hjn
       have hS:=L.er j X _ (by omega) hux hdx
       have hdj:=tA p f k j j hdx (by omega)
       rw[if_neg (by omega)]at hdj
       rw[hdj]at hS
       have hjD:(bZ p)[j]? =some (bZ p)[j]:=List.getElem?_eq_getElem (by omega)
       have hDj:(bZ p).getD j []=(bZ p)[j]:=by rw[List.getD_eq_getElem?_getD,hjD];rfl
       have hdl:=hnl.2 _ (List.mem_of_getElem? hjD)
       rw[←hDj]at hdl
       obtain⟨D,hD⟩:∃D,D=(bZ p).getD j []:=⟨_,rfl⟩
       have hnow:=zK I.ok.len
       rw[←hk]at hnow
       have hsj:=I.size (show j<p.s.l.length by omega)
       have hsk:=I.size hkl
       have hin:∀z∈(bZ p).getD j [],0≤z∧z+(p.s.l.getD j default).size≤p.s.v.af.length:=fun z hz=>by
        rw[hnow]at hz
        have:=nu (I.ok.cU k (by omega) j (by omega) z hz).af
        exact⟨this.2.2.2.1,this.2.2.2.2⟩
       have hfa:0≤f∧f+(p.s.l.getD k default).size≤p.s.v.af.length:=by
        have hz:=hmem hf
        rw[hnow]at hz
        have:=nu (I.ok.cU k (by omega) k (Nat.le_refl _) f hz).af
        exact⟨this.2.2.2.1,this.2.2.2.2⟩
       have hap:=Bl p.s I.sm cs (bH X) _ (by omega) j k f (by omega) hkl (by omega) (by omega) hin hfa G3 H3.set hS
       obtain⟨A,hA⟩:∃A,A=ei p.s ((bZ p).getD j []) j k f:=⟨_,rfl⟩
       rw[←hA]at hap
       have hUd:(us.map bH).drop j=bH X::(us.drop (j+1)).map bH:=by
        rw[←List.map_drop,List.drop_eq_getElem_cons (show j<us.length by omega),List.map_cons,←hX]
       obtain⟨U,hU⟩:∃U,U=us.map bH:=⟨_,rfl⟩
       have hUl:j+1≤U.length:=by rw[hU,List.length_map];omega
       rw[←hU]at hrow3 hUd
       simp only[bH]at hap hUd
       have hCt:C.take 8=cs:=ht
       have w2:IntKind.wrap .i64 ((j:Int)+1)=((j+1:Nat):Int):=by rw[aA (by omega)];omega
       simp -implicitDefEqProofs[g0,g1,g5,g6,g7,hjm,hb,hl,hCt,hrow3,hUl,hUd]
       refine hap.mono ?_
       rintro r G4 ⟨E4,hr⟩
       obtain⟨ax,cx,rfl⟩:=hr.shape
       have hrow4:G4.f bn= .row true 22 U:=by rw[E4.f _ L.n1];exact hrow3
       have hts3:=kX bH us j (ax,A.length,cx) (by omega)
       rw[←hU]at hts3
       simp only[bH]at hts3
       simp -implicitDefEqProofs[aC,g0,g1,g5,g6,g7,hjm,hrow4,hUl,w2]
       intro _
       rw[hts3]
       exact⟨m-(j+1),by omega,j+1,_,rfl,by omega,by omega,(E3.trans E4).cq hn0 _,L.step hf hkj (by omega) E4 (x':=(ax,A.length,cx)) (by rw[←hA];exact hr),by simp,by simp,by simp,by simp,by simp⟩
      ·have e:j=m:=by omega
       subst e
       simp -implicitDefEqProofs[g0,g1,g6]
       exact⟨bn,us,E3,L,by simp,by simp,by simp⟩
    ·have hf:f= -1:=by simpa using hc
     subst hf
     simp -implicitDefEqProofs[g0,g1,g5]
     have hnx:=ka p (-1) k m
     refine⟨bn,vs.set k (none,0,0),E.cq hn0 _,⟨?_,hn0,hn1,by rw[hnx,List.length_set];omega,fun i x d hi hx hd=>?_,?_⟩,by simp,by simp,by simp⟩
     ·simp only
      rw[←hts];simp
     ·rw[List.getElem?_set_ne (by omega)]at hx
      rw[agM p k m (k+1)]at hd
      exact((hve i x d hx (O5 p (-1) k i hd hi)).ext E).dt (fY G bn _) (kS hrow)
     ·exact⟨_,List.getElem?_set_self (by omega),.inl ⟨rfl,rfl⟩⟩
  ·rintro⟨T,⟨x,G⟩⟩ ⟨bn,us,E,L,g0,g1,g6⟩
   simp at E L g0 g1 g6
   have HG:=H.ext E
   obtain⟨hb,hset,bq,bC,s7,s8,n0,n1,n2,mf⟩:=HG
   have hne1:¬b1=b:=fun e=>by rw[e,hb]at bq;cases bq
   have hne2:¬b2=b:=fun e=>by rw[e,hb]at bC;cases bC
   have hne3:¬b2=b1:=fun e=>by rw[e,bq]at bC;cases bC
   have hne1':¬b=b1:=fun e=>hne1 e.symm
   have hne2':¬b=b2:=fun e=>hne2 e.symm
   have hne3':¬b1=b2:=fun e=>hne3 e.symm
   have hbn1:¬bn=b1:=fun e=>by have:=L.row;rw[e,bq]at this;cases this
   have hbn2:¬bn=b2:=fun e=>by have:=L.row;rw[e,bC]at this;cases this
   have hbn0:¬bn=b:=fun e=>by have:=L.row;rw[e,hb]at this;cases this
   have en:=E.n
   rw[←hk]at hb
   obtain⟨y1,y2,y3,y4,y5,y6,y7,y8,y9,y10,y11,y12,y13,y14,y15,y16,y17,y18,hcs⟩:=hset.shape
   rw[hcs]at hb
   simp only[List.cons_append,List.nil_append]at hb
   obtain⟨a,ha⟩:∃a:bY,a=(some ⟨bn,0,none⟩,m,m):=⟨_,rfl⟩
   have hlen:=I.ok.len
   have hwl:=mf.1
   have hr1:List.range 1=[0]:=rfl
   have i0:¬b=G.n:=by omega
   have i1:¬b1=G.n:=by omega
   have i2:¬b2=G.n:=by omega
   have j0:¬b=G.n+1:=by omega
   have j1:¬b1=G.n+1:=by omega
   have j2:¬b2=G.n+1:=by omega
   have k0:¬b=G.n+1+1:=by omega
   have k1:¬b1=G.n+1+1:=by omega
   have k2:¬b2=G.n+1+1:=by omega
   have l0:¬b=G.n+1+1+1:=by omega
   have m1:¬G.n=b1:=by omega
   have m2:¬G.n+1=b1:=by omega
   have m3:¬G.n+1+1=b2:=by omega
   have m4:¬G.n+1=b2:=by omega
   have m5:¬G.n=b2:=by omega
   have m6:¬G.n=G.n+1+1:=by omega
   have m7:¬G.n+1=G.n+1+1+1:=by omega
   have m8:¬G.n+1=b:=by omega
   have m9:¬G.n+1+1=b:=by omega
   have m10:¬G.n+1+1+1=b:=by omega
   obtain⟨W1,hW1⟩:∃W1,W1=ws.flatMap dS++dS a:=⟨_,rfl⟩
   obtain⟨W2,hW2⟩:∃W2,W2=p.p.flatMap ab++ab f:=⟨_,rfl⟩
   simp only[pg,my]
   simp -implicitDefEqProofs[g0,g1,g6]
   refine si (fun σ=>se h b b1 b2 p f cs ws k m σ.m.h) ?_ ?_
   ·rw[gv,gv,gv,qN]
    refine⟨?_,?_,?_,trivial⟩
    ·have hA:=nP (G:=G.new (.row true 329 (dS a))) yN (xs:=ws) (b1:=b1) (c:=c1) (r:=r1) (by simp[i1,j1,bq]) a (b:=G.n) (w:=true) (by simp) (by omega)
     rw[←hW1]at hA
     have hB:=nP (G:=(((G.new (.row true 329 (dS a))).set b1 .dead).new (.row true 329 W1)).new (.row true 3 (ab f))) iu (xs:=p.p) (b1:=b2) (c:=c2) (r:=r2) (by simp[i2,j2,k2,hne3,bC]) f (b:=G.n+1+1) (w:=true) (by simp[m1,m2,m6]) (by omega)
     rw[←hW2]at hB
     simp only[dS,ab,ha,hwl,←hk]at hA hB
     simp -implicitDefEqProofs[g0,g1,g6,hb,aI,hr1,hA,hB,i0,i1,i2,j0,j1,j2,k0,k1,k2,l0,hne1,hne2,hne3,hne1',hne2',hne3']
     rw[jX]
     refine Ad H ok E L (b1':=G.n+1) (b2':=G.n+1+1+1) rfl rfl (fun x hx a0 a1 a2=>?_) ?_ ?_ ?_ (by omega) (by omega) (by omega) (by omega)
     ·have z0:¬x=G.n:=by omega
      have z1:¬x=G.n+1:=by omega
      have z2:¬x=G.n+1+1:=by omega
      have z3:¬x=G.n+1+1+1:=by omega
      simp[a0,a1,a2,z0,z1,z2,z3]
     ·simp[hcs]
     ·rw[←ha,←hW1]
      simp[m1,m2,m3,m4,m5,m6,m7,m8,m9,m10]
     ·rw[←hW2]
      simp[m1,m2,m3,m4,m5,m6,m7,m8,m9,m10]
    ·have hA:=nP (G:=(G.new (.row true 329 (dS a))).new (.row true 3 (ab f))) yN (xs:=ws) (b1:=b1) (c:=c1) (r:=r1) (by simp[i1,j1,bq]) a (b:=G.n) (w:=true) (by simp) (by omega)
     rw[←hW1]at hA
     have hB:=nP (G:=(((G.new (.row true 329 (dS a))).new (.row true 3 (ab f))).set b1 .dead).new (.row true 329 W1)) iu (xs:=p.p) (b1:=b2) (c:=c2) (r:=r2) (by simp[i2,j2,k2,hne3,bC]) f (b:=G.n+1) (w:=true) (by simp[m1,m2,m6]) (by omega)
     rw[←hW2]at hB
     simp only[dS,ab,ha,hwl,←hk]at hA hB
     simp -implicitDefEqProofs[g0,g1,g6,hb,aI,hr1,hA,hB,i0,i1,i2,j0,j1,j2,k0,k1,k2,l0,hne1,hne2,hne3,hne1',hne2',hne3']
     rw[jX]
     refine Ad H ok E L (b1':=G.n+1+1) (b2':=G.n+1+1+1) rfl rfl (fun x hx a0 a1 a2=>?_) ?_ ?_ ?_ (by omega) (by omega) (by omega) (by omega)
     ·have z0:¬x=G.n:=by omega
      have z1:¬x=G.n+1:=by omega
      have z2:¬x=G.n+1+1:=by omega
      have z3:¬x=G.n+1+1+1:=by omega
      simp[a0,a1,a2,z0,z1,z2,z3]
     ·simp[hcs]
     ·rw[←ha,←hW1]
      simp[m1,m2,m3,m4,m5,m6,m7,m8,m9,m10]
     ·rw[←hW2]
      simp[m1,m2,m3,m4,m5,m6,m7,m8,m9,m10]
    ·have hA:=nP (G:=(G.new (.row true 3 (ab f))).new (.row true 329 (dS a))) yN (xs:=ws) (b1:=b1) (c:=c1) (r:=r1) (by simp[i1,j1,bq]) a (b:=G.n+1) (w:=true) (by simp) (by omega)
     rw[←hW1]at hA
     have hB:=nP (G:=(((G.new (.row true 3 (ab f))).new (.row true 329 (dS a))).set b1 .dead).new (.row true 329 W1)) iu (xs:=p.p) (b1:=b2) (c:=c2) (r:=r2) (by simp[i2,j2,k2,hne3,bC]) f (b:=G.n) (w:=true) (by simp[m1,m2,m6]) (by omega)
     rw[←hW2]at hB
     simp only[dS,ab,ha,hwl,←hk]at hA hB
     simp -implicitDefEqProofs[g0,g1,g6,hb,aI,hr1,hA,hB,i0,i1,i2,j0,j1,j2,k0,k1,k2,l0,hne1,hne2,hne3,hne1',hne2',hne3']
     rw[jX]
     refine Ad H ok E L (b1':=G.n+1+1) (b2':=G.n+1+1+1) rfl rfl (fun x hx a0 a1 a2=>?_) ?_ ?_ ?_ (by omega) (by omega) (by omega) (by omega)
     ·have z0:¬x=G.n:=by omega
      have z1:¬x=G.n+1:=by omega
      have z2:¬x=G.n+1+1:=by omega
      have z3:¬x=G.n+1+1+1:=by omega
      simp[a0,a1,a2,z0,z1,z2,z3]
     ·simp[hcs]
     ·rw[←ha,←hW1]
      simp[m1,m2,m3,m4,m5,m6,m7,m8,m9,m10]
     ·rw[←hW2]
      simp[m1,m2,m3,m4,m5,m6,m7,m8,m9,m10]
   ·rintro⟨T,⟨x,G⟩⟩ Q
    simp at Q
    simp -implicitDefEqProofs
    rw[←hm]
    exact Q
theorem J7 (l:List (Int×Int)) (i:Nat):∀e∈du l i,∃j q,l[j]? =some q∧e=⟨.int .i64 q.1,.int .i64 q.2,i+j⟩:=by
 induction l generalizing i with
 |nil=>intro e h;cases h
 |cons a r ih=>
  intro e h
  simp only[du,List.mem_cons]at h
  rcases h with rfl|h
  ·exact⟨0,a,rfl,rfl⟩
  ·obtain⟨j,q,h1,h2⟩:=ih (i+1) e h
   exact⟨j+1,q,by simpa using h1,by rw[h2];congr 1;omega⟩
theorem aaq (l:List (Int×Int)) (i j:Nat) {q:Int×Int} (h:l[j]? =some q):(⟨.int .i64 q.1,.int .i64 q.2,i+j⟩:MapEntry)∈du l i:=by
 induction l generalizing i j with
 |nil=>simp at h
 |cons a r ih=>
  cases j with
  |zero=>
   simp only[List.getElem?_cons_zero,Option.some.injEq]at h
   subst h
   simp[du]
  |succ j=>
   have:=ih (i+1) j (by simpa using h)
   rw[show i+1+j=i+(j+1) by omega]at this
   simp[du,this]
def pP (s:bO) (k i:Nat) (f:Int):Bool:=match s.pins[i]? with
 |some q=>dK s.v (s.l.getD k default) f (s.l.getD q.1.toNat default) q.2
 |none=>true
def iQ (s:bO) (k:Nat) (seen:Array Nat):List Int:=(fB s.v s.us (s.l.getD k default)).filter fun f=>(List.range s.pins.length).all fun i=> !seen.contains i || pP s k i f
theorem ZH (s:bO) (k:Nat):iQ s k #[]=fB s.v s.us (s.l.getD k default):=by
 unfold iQ
 rw[List.filter_eq_self]
 intro f _
 rw[List.all_eq_true]
 intro i _
 simp
theorem ZI (s:bO) (k:Nat) (seen:Array Nat) {i:Nat} {q:Int×Int} (hq:s.pins[i]? =some q):iQ s k (seen.push i)=ei s (iQ s k seen) k q.1.toNat q.2:=by
 unfold iQ ei
 rw[List.filter_filter]
 refine List.filter_congr fun f _=>?_
 have hi:i<s.pins.length:=(List.getElem?_eq_some_iff.1 hq).1
 rw[Bool.eq_iff_iff,Bool.and_eq_true,List.all_eq_true,List.all_eq_true]
 have hc:pP s k i f=dK s.v (s.l.getD k default) f (s.l.getD q.1.toNat default) q.2:=by unfold pP;rw[hq]
 constructor
 ·intro h
  refine⟨?_,fun j hj=>?_⟩
  ·have:=h i (List.mem_range.2 hi)
   rw[hc]at this
   simpa using this
  ·have:=h j hj
   simp only[Bool.or_eq_true,Bool.not_eq_true',Array.contains_push]at this ⊢
   rcases this with z|z
   ·simp only[Bool.or_eq_false_iff]at z
    exact .inl z.1
   ·exact .inr z
 ·rintro⟨h1,h2⟩ j hj
  have:=h2 j hj
  simp only[Bool.or_eq_true,Bool.not_eq_true',Array.contains_push]at this ⊢
  by_cases e:j=i
  ·subst e;right;rw[hc];exact h1
  ·rcases this with z|z
   ·left
    simp[e]
    simpa using z
   ·exact .inr z
theorem Kx (s:bO) (k:Nat):∀(r:List (Int×Int)) (A:List Int),r.foldl (fun d q=>ei s d k q.1.toNat q.2) A=A.filter fun f=>r.all fun q=>dK s.v (s.l.getD k default) f (s.l.getD q.1.toNat default) q.2:=by
 intro r
 induction r with
 |nil=>intro A;exact(List.filter_eq_self.2 (fun _ _=>rfl)).symm
 |cons q r ih=>
  intro A
  rw[List.foldl_cons,ih]
  unfold ei
  rw[List.filter_filter]
  refine List.filter_congr fun f _=>?_
  rw[List.all_cons,Bool.and_comm]
theorem ZG (s:bO) (k:Nat) (seen:Array Nat) (h:∀i,i<s.pins.length→seen.contains i=true):iQ s k seen=s.pins.foldl (fun d q=>ei s d k q.1.toNat q.2) (fB s.v s.us (s.l.getD k default)):=by
 rw[Kx]
 unfold iQ
 refine List.filter_congr fun f _=>?_
 rw[Bool.eq_iff_iff,List.all_eq_true,List.all_eq_true]
 constructor
 ·intro z q hq
  obtain⟨i,hi,e⟩:=List.getElem_of_mem hq
  have:=z i (List.mem_range.2 hi)
  rw[h i hi]at this
  unfold pP at this
  rw[List.getElem?_eq_getElem hi,e]at this
  simpa using this
 ·intro z i hi
  have hi:=List.mem_range.1 hi
  have:=z _ (List.getElem_mem hi)
  unfold pP
  rw[List.getElem?_eq_getElem hi]
  simp only[this,Bool.or_true]
def s9 (n:Nat) (seen:Array Nat):Nat:=((List.range n).filter fun i=> !seen.contains i).length
theorem afo (n:Nat) (seen:Array Nat) {i:Nat} (hi:i<n) (hs:seen.contains i=false):s9 n (seen.push i)<s9 n seen:=by
 unfold s9
 have e:((List.range n).filter fun j=> !(seen.push i).contains j)=((List.range n).filter fun j=> !seen.contains j).filter fun j=>decide (j≠i):=by
  rw[List.filter_filter]
  refine List.filter_congr fun j _=>?_
  rw[Array.contains_push]
  by_cases q:j=i
  ·subst q;simp
  ·simp[q]
 rw[e,List.length_filter_lt_length_iff_exists]
 exact⟨i,List.mem_filter.2 ⟨List.mem_range.2 hi,by rw[hs];rfl⟩,by simp⟩
def sQ (e:TypeId):aO→aO
 | .row w e' cs=>if e'=e then .row false e' cs else .row w e' cs
 |c=>c
def aa.fp (h:aa) (lo hi:Nat) (e:TypeId):aa:={h with f:=fun x=>if lo≤x∧x<hi then sQ e (h.f x)else h.f x}
theorem n9 (h:aa) {lo hi:Nat} {e:TypeId} {x:Nat} (hx:x<lo∨hi≤x):(aa.fp h lo hi e).f x=h.f x:=by
 unfold aa.fp
 simp only
 rw[if_neg (by omega)]
theorem pU (h:aa) {lo hi:Nat} {e:TypeId} {x:Nat} (h1:lo≤x) (h2:x<hi) {w:Bool} {cs:List Value} (hx:h.f x= .row w e cs):(aa.fp h lo hi e).f x= .row false e cs:=by
 unfold aa.fp
 simp only
 rw[if_pos ⟨h1,h2⟩,hx]
 simp[sQ]
theorem l9 (h:aa) {lo hi:Nat} {e:TypeId} {x:Nat} (hx:∀w cs,h.f x≠.row w e cs):(aa.fp h lo hi e).f x=h.f x:=by
 unfold aa.fp
 simp only
 split
 ·cases q:h.f x with
  |row w e' cs=>
   have:¬e'=e:=fun z=>hx w cs (by rw[←z];exact q)
   simp[sQ,this]
  |_=>simp[sQ]
 ·rfl
theorem mT (h:aa) (lo hi:Nat) (e:TypeId):Wk h (aa.fp h lo hi e):=by
 refine⟨rfl,rfl,fun x=>?_⟩
 cases q:h.f x with
 |row w e' cs=>
  by_cases r:lo≤x∧x<hi
  ·by_cases z:e'=e
   ·subst z
    rw[pU h r.1 r.2 q]
    cases w with
    |false=>exact .inl rfl
    |true=>exact .inr ⟨_,_,rfl,rfl⟩
   ·rw[l9 h (fun w' cs' a=>by rw[q]at a;cases a;exact z rfl),q];exact .inl rfl
  ·rw[n9 h (by omega),q];exact .inl rfl
 |_=>rw[l9 h (fun w' cs' a=>by rw[q]at a;cases a),q];exact .inl rfl
def gr (h G:aa) (v:Value) (d:List Int):Prop:=aF 3 ab G v d∨bS 3 ab h G v d
theorem gr.ext {h G G':aa} {v:Value} {d:List Int} (H:gr h G v d) (E:Ext G G'):gr h G' v d:=by
 rcases H with H|H
 ·exact .inl (H.ext E)
 ·exact .inr (H.ext E)
theorem gr.set {h G:aa} {v:Value} {d:List Int} (H:gr h G v d) {b:Nat} (hb:∀w cs,G.f b≠.row w 3 cs) (x:aO):gr h (G.set b x) v d:=by
 rcases H with H|⟨ad,rfl,H⟩
 ·obtain⟨ad,c,h1,h2,h3⟩:=H
  refine .inl ⟨ad,c,h1,h2,?_⟩
  rcases h3 with h3|⟨b',off,cells,rest,z1,z2,z3⟩
  ·exact .inl h3
  ·refine .inr ⟨b',off,cells,rest,z1,?_,z3⟩
   rw[iU _ _ (fun e=>hb _ _ (by rw[←e];exact z2))];exact z2
 ·refine .inr ⟨ad,rfl,?_⟩
  rcases H with H|⟨b',z1,z2,z3⟩
  ·exact .inl H
  ·refine .inr ⟨b',z1,?_,z3⟩
   rw[iU _ _ (fun e=>hb _ _ (by rw[←e];exact z2))];exact z2
theorem gr.fp {h G F:aa} {v:Value} {d:List Int} (H:gr h G v d) (E:Ext G F):aF 3 ab (aa.fp F h.n G.n 3) v d:=by
 rcases H with H|⟨ad,rfl,H⟩
 ·exact(H.ext E).wk (mT F _ _ _)
 ·rcases H with⟨rfl,rfl⟩|⟨b',rfl,z2,z3,z4⟩
  ·exact⟨none,0,rfl,fun _=>rfl,.inl rfl⟩
  ·have hF:F.f b'= .row true 3 (d.flatMap ab):=by rw[E.f _ z4];exact z2
   exact⟨_,d.length,rfl,fun z=>(by cases z),.inr ⟨b',0,_,[],rfl,pU F z3 z4 hF,by simp,by simp,Nat.lt_of_lt_of_le z4 E.n⟩⟩
theorem gr.nil {h G:aa}:gr h G (.slice none 0 0) []:=.inl aF.nil
theorem fL.push {p:cd} (I:fL p) (f:Int):fL (gJ p f):=by
 have hk:=PF I.ok f
 rw[Ac]at hk ⊢
 split
 ·rename_i q
  rw[if_pos q]at hk
  have hkl:p.p.length<p.s.l.length:=by unfold kP at q;simp at q;exact q.1
  have hn:=I.now
  refine⟨hk,I.sm,fun D hD=>?_,by simp;omega,I.ll,I.may⟩
  simp only[List.mem_append,List.mem_singleton]at hD
  rcases hD with hD|rfl
  ·exact I.lens D hD
  ·refine⟨by rw[ka];exact hn.1,fun d hd=>?_⟩
   have hget:∀i,((bZ p).getD i []).length≤1048577:=fun i=>by
    rw[List.getD_eq_getElem?_getD]
    cases q:(bZ p)[i]? with
    |none=>simp
    |some d=>exact hn.2 d (List.mem_of_getElem? q)
   unfold ez at hd
   obtain⟨i,_,e⟩:=List.mem_map.1 hd
   rw[←e]
   split
   ·split<;>simp
   ·split
    ·exact Nat.le_trans (Bk _ _ _ _ _) (hget i)
    ·exact hget i
 ·exact I
theorem fL.new {v:ah} {l:List aU} {pins:List (Int×Int)} {s:bO} (h:eu v l pins=some s):fL (gQ s):=by
 have M:=zj h
 obtain⟨e,P,hm,ha⟩:=qc h
 unfold iG at ha
 rw[Bool.and_eq_true]at ha
 have hsl:s.l=l:=by rw[e]
 have hsv:s.v=v:=by rw[e]
 refine⟨by rw[e];exact ry P,M,fun D hD=>?_,by simp[gQ],?_,?_⟩
 ·simp only[gQ,List.mem_singleton]at hD
  subst hD
  refine⟨by simp[gQ],fun d hd=>?_⟩
  obtain⟨i,_,ed⟩:=List.mem_map.1 hd
  rw[←ed]
  have hal:(fB s.v s.us (s.l.getD i default)).length≤1048577:=by
   unfold fB
   rw[List.length_map]
   have h1:=List.length_filter_le (fun k:Nat=>(cD s.v s.us (s.l.getD i default) k).isSome) (List.range s.v.af.length)
   rw[List.length_range]at h1
   have h2:=M.aL.may.len
   omega
  split
  ·simp
  ·rw[Kx]
   exact Nat.le_trans (List.length_filter_le _ _) hal
 ·show s.l.length≤512
  rw[hsl];exact of_decide_eq_true ha.1
 ·show∀q∈s.l,dM q=true
  rw[hsl]
  intro q hq
  exact List.all_eq_true.1 ha.2 q hq
def lj (s:bO) (k:Nat):List Int:=match eW s k with
 |some a=>[a]
 |none=>s.pins.foldl (fun d q=>ei s d k q.1.toNat q.2) (fB s.v s.us (s.l.getD k default))
theorem OO (s:bO):gQ s=⟨s,[(List.range s.l.length).map (lj s)],[]⟩:=rfl
structure kr (h G:aa) (bl:Nat) (us:List bY) (s:bO) (m k:Nat):Prop where
 row:G.f bl= .row true 22 (us.map bH)
 n0:h.n≤bl
 n1:bl<G.n
 len:us.length=m
 er:∀(i:Nat) x,us[i]? =some x→i≠k→gr h G (bH x) (if i<k then lj s i else[])
theorem kr.put {h G G2:aa} {bl:Nat} {us:List bY} {s:bO} {m k:Nat} (L:kr h G bl us s m k) (E:Ext G G2) (x':bY):
  kr h (G2.set bl (.row true 22 ((us.set k x').map bH))) bl (us.set k x') s m k:=by
 have hr2:G2.f bl= .row true 22 (us.map bH):=by rw[E.f _ L.n1];exact L.row
 refine⟨by simp,L.n0,Nat.lt_of_lt_of_le L.n1 E.n,by simp[L.len],fun i x hx hi=>?_⟩
 rw[List.getElem?_set_ne (fun e=>hi e.symm)]at hx
 exact((L.er i x hx hi).ext E).set (fun w cs e=>by rw[hr2]at e;cases e) _
theorem kr.next {h G:aa} {bl:Nat} {us:List bY} {s:bO} {m k:Nat} (L:kr h G bl us s m k) {x':bY} (hx:us[k]? =some x') (hd:gr h G (bH x') (lj s k)) (hz:∀x,us[k+1]? =some x→x=(none,0,0)):kr h G bl us s m (k+1)∧True:=by
 refine⟨⟨L.row,L.n0,L.n1,L.len,fun i x hxi hi=>?_⟩,trivial⟩
 by_cases q:i=k
 ·subst q
  rw[hx]at hxi
  cases hxi
  rw[if_pos (by omega)]
  exact hd
 ·have:=L.er i x hxi q
  by_cases z:i<k
  ·rw[if_pos z]at this
   rw[if_pos (by omega)]
   exact this
  ·rw[if_neg z]at this
   rw[if_neg (by omega)]
   exact this
def Sg (h:aa) (cs:List Value) (s:bO) (bl:Nat) (lv:Value) (m n:Nat) (σ:St):Prop:=∃(k:Nat) (us:List bY),n=m-k∧k≤m∧Ext h σ.m.h∧kr h σ.m.h bl us s m k∧(∀x,us[k]? =some x→x=(none,0,0))∧(∀i x,k<i→us[i]? =some x→x=(none,0,0))∧
 σ.t.get 1=some lv∧σ.t.get 8=some (.pointer (some ⟨8,0,some 0⟩))∧σ.t.get 10=some (.slice (some ⟨bl,0,none⟩) m m)∧σ.t.get 29=some (.int .i64 (m:Nat))∧σ.t.get 30=some (.int .i64 (k:Nat))∧σ.m.x.look 8=some (242,cs)
theorem aap (l:List (Int×Int)) (i j:Nat) {q:Int×Int} (h:l[j]? =some q):(du l i).find? (fun e=>e.born==i+j)=some ⟨.int .i64 q.1,.int .i64 q.2,i+j⟩:=by
 induction l generalizing i j with
 |nil=>simp at h
 |cons a r ih=>
  cases j with
  |zero=>
   simp only[List.getElem?_cons_zero,Option.some.injEq]at h
   subst h
   simp[du]
  |succ j=>
   have:=ih (i+1) j (by simpa using h)
   rw[show i+1+j=i+(j+1) by omega]at this
   rw[du,List.find?_cons]
   simp only[show(i==i+(j+1))=false from by simp]
   exact this
def Sh (h:aa) (cs:List Value) (s:bO) (bl it mb:Nat) (lv:Value) (m k n:Nat) (σ:St):Prop:=∃(seen:Array Nat) (us:List bY) (x':bY),n=s9 s.pins.length seen∧Ext h σ.m.h∧kr h σ.m.h bl us s m k∧(∀i x,k<i→us[i]? =some x→x=(none,0,0))∧us[k]? =some x'∧aF 3 ab σ.m.h (bH x') (iQ s k seen)∧
 h.n≤it∧it<σ.m.h.n∧σ.m.h.f it= .obj (.mapIter (some mb) s.pins.length seen s.pins.length)∧
 σ.t.get 1=some lv∧σ.t.get 8=some (.pointer (some ⟨8,0,some 0⟩))∧σ.t.get 10=some (.slice (some ⟨bl,0,none⟩) m m)∧σ.t.get 11=some (.int .i64 (k:Nat))∧σ.t.get 29=some (.int .i64 (m:Nat))∧σ.t.get 30=some (.int .i64 (k:Nat))∧σ.t.get 58=some (.pointer (some ⟨it,0,none⟩))∧σ.m.x.look 8=some (242,cs)
theorem Yi {C:List Value} (hC:nM C) (x y n1 n2:Value):List.take 9 (C++x::List.drop 9 (C++[n1,n2]))++y::List.drop 10 (C++x::List.drop 9 (C++[n1,n2]))=C++[x,y]:=by
 obtain⟨a1,m1,c1,g,r,a2,m2,c2,a3,m3,c3,a4,m4,c4,a5,m5,c5,mb,rfl⟩:=hC
 rfl
def pB (h:aa) (r:Option bO) (v:Value) (h':aa):Prop:=Ext h h'∧match r with
 |none=>v= .tuple #[.pointer none,.int .i64 1]
 |some s=>∃b b1 b2 cs c1 c2 ws r1 r2,v= .tuple #[.pointer (some ⟨b,0,none⟩),.int .i64 0]∧eI h' b b1 b2 (gQ s) cs c1 c2 ws r1 r2∧h.n≤b∧h.n≤b1∧h.n≤b2
def AY (h:aa) (s:bO) (v:Value) (h':aa):Prop:=∃(G0:aa) (us:List bY) (bl:Nat) (cs:List Value),Ext h G0∧kr h G0 bl us s s.l.length s.l.length∧gH G0 s cs∧v= .tuple #[.pointer (some ⟨G0.n+1+1,0,none⟩),.int .i64 0]∧
 h'=(((G0.new (.row true 329 (dS (some ⟨bl,0,none⟩,s.l.length,s.l.length)))).new (.row true 3 [])).new (.row true 334 (cs++[.slice (some ⟨G0.n,0,none⟩) 1 1,.slice (some ⟨G0.n+1,0,none⟩) 0 0])))
theorem gH.wk {h h':aa} {s:bO} {cs:List Value} (H:gH h s cs) (W:Wk h h'):gH h' s cs:=by
 obtain⟨hc,lv,mb,rfl,h1,h2,h3,h4⟩:=H
 refine⟨hc,lv,mb,rfl,h1.wk W,h2.wk W,?_,by rw[W.n];exact h4⟩
 rcases W.f mb with e|⟨e,c,q,_⟩
 ·rw[e];exact h3
 ·rw[h3]at q;cases q
theorem agn {h h':aa} {s:bO} {v:Value} (Q:AY h s v h'):∃h'',Wk h' h''∧pB h (some s) v h'':=by
 obtain⟨G0,us,bl,cs,E,L,S,hv,hh⟩:=Q
 obtain⟨m,hm⟩:∃m,m=s.l.length:=⟨_,rfl⟩
 rw[←hm]at L hh
 have E2:Ext G0 h':=by rw[hh];exact(((Ext.new G0 _).bA _).bA _)
 have en:=E.n
 have hn':h'.n=G0.n+1+1+1:=by rw[hh];rfl
 obtain⟨F,hF⟩:∃F,F=aa.fp (aa.fp h' h.n G0.n 3) h.n G0.n 22:=⟨_,rfl⟩
 have W:Wk h' F:=by rw[hF];exact(mT h' _ _ _).trans (mT _ _ _ _)
 have hout:∀x,(x<h.n∨G0.n≤x)→F.f x=h'.f x:=fun x hx=>by
  rw[hF,n9 _ (by omega),n9 _ (by omega)]
 have l0:=L.n0
 have l1:=L.n1
 have hbl:F.f bl= .row false 22 (us.map bH):=by
  rw[hF]
  have:h'.f bl= .row true 22 (us.map bH):=by rw[E2.f _ l1];exact L.row
  refine pU _ l0 l1 (w:=true) ?_
  rw[l9 h' (fun w cs' e=>by rw[this]at e;cases e)]
  exact this
 have hE:Ext h F:=⟨W.g.trans (E2.g.trans E.g),by rw[W.n,hn'];omega,fun x hx=>by rw[hout x (.inl hx),E2.f _ (by omega),E.f _ hx]⟩
 have hlv:jm F (some ⟨bl,0,none⟩,m,m) ((List.range m).map (lj s)):=by
  refine⟨us,⟨some ⟨bl,0,none⟩,m,?_,fun z=>(by cases z),.inr ⟨bl,0,_,[],rfl,hbl,by rw[zH];simp,by simp,by rw[W.n,hn'];omega⟩⟩,by simp[L.len],fun i x d hx hd=>?_⟩
  ·simp only[bH];rw[L.len]
  ·have hil:i<m:=by
    have:=(List.getElem?_eq_some_iff.1 hx).1
    rw[L.len]at this;exact this
   rw[List.getElem?_map,List.getElem?_range hil]at hd
   simp only[Option.map_some,Option.some.injEq]at hd
   have:=L.er i x hx (by omega)
   rw[if_pos hil,hd]at this
   rw[hF]
   exact(this.fp E2).wk (mT _ _ _ _)
 have g1:h'.f G0.n= .row true 329 (dS (some ⟨bl,0,none⟩,m,m)):=by rw[hh];simp[show¬G0.n=G0.n+1+1 by omega]
 have g2:h'.f (G0.n+1)= .row true 3 []:=by rw[hh];simp
 have g0:h'.f (G0.n+1+1)= .row true 334 (cs++[.slice (some ⟨G0.n,0,none⟩) 1 1,.slice (some ⟨G0.n+1,0,none⟩) 0 0]):=by rw[hh];simp
 refine⟨F,W,hE,G0.n+1+1,G0.n,G0.n+1,cs,1,0,[(some ⟨bl,0,none⟩,m,m)],[],[],hv,⟨?_,?_,?_,?_,Nat.le_refl _,Nat.le_refl _,by rw[W.n,hn'];omega,by rw[W.n,hn'];omega,by rw[W.n,hn'];omega,rfl,fun i w D hw hD=>?_⟩,by omega,by omega,by omega⟩
 ·rw[hout _ (by omega),g0];rfl
 ·exact(S.ext E2).wk W
 ·rw[hout _ (by omega),g1];rfl
 ·rw[hout _ (by omega),g2];rfl
 ·rw[OO]at hD
  simp only at hD
  cases i with
  |zero=>
   simp only[List.getElem?_cons_zero,Option.some.injEq]at hw hD
   subst hw;subst hD
   rw[←hm]
   exact hlv
  |succ i=>simp at hw
theorem agm (v:ah) (l:List aU) (pins:List (Int×Int)) (cs:List Value) (lv pv:Value) (h:aa) (H:iF h v l pins cs lv pv):
  ai PP 206 [.agg ⟨cs⟩,lv,pv] h (pB h (eu v l pins)):=by
 refine ai.gK (post:=fun r h'=>match eu v l pins with
  |none=>pB h none r h'
  |some s=>AY h s r h') ?_ (fun r h' Q=>by
  cases q:eu v l pins with
  |none=>rw[q]at Q;exact⟨h',Wk.refl _,Q⟩
  |some s=>rw[q]at Q;exact agn Q)
 refine az mix abU V7 rfl (by show 3≤83;decide) ai8 ?_
 simp only[wC,Tryz.f206]
 have hin:=H.zk
 have hcl:=H.cK.len
 have hct:cs.take 5=cs:=List.take_of_length_le (by omega)
 have hls:=H.ls
 have hll:=H.ll
 obtain⟨ad2,c2,rfl⟩:=H.ls.shape
 obtain⟨ad3,c3,rfl⟩:=H.ps.shape
 simp -implicitDefEqProofs[hcl,hct]
 refine hin.mono ?_
 rintro r G ⟨E,C,hC,rfl,hS⟩
 have hCl:=hC.len
 have hCo:=hC.one
 have hCt:C.take 8=C:=List.take_of_length_le (by omega)
 cases q:eu v l pins with
 |none=>
  simp -implicitDefEqProofs[ae,hCl,hCo]
  intro _
  exact⟨E,rfl⟩
 |some s=>
  have hset:=hS s q
  obtain⟨es,P,hmv,hal⟩:=qc q
  have hsl:s.l=l:=by rw[es]
  have M:=zj q
  have I:=fL.new q
  obtain⟨m,hm⟩:∃m,m=l.length:=⟨_,rfl⟩
  have hz:=uo (.slice none 0 0) m
  have hmx:m*24≤140737488355328:=by have:=I.ll;simp only[gQ]at this;rw[hsl]at this;omega
  have h00:¬(m:Int)<0:=by omega
  have hu0:List.replicate m (Value.slice none 0 0)=(List.replicate m ((none,0,0):bY)).map bH:=by simp[bH]
  rw[←hm]
  simp -implicitDefEqProofs[ae,hCl,hCo,hCt,lI,cH,hz,hmx,h00]
  intro _
  rw[hu0]
  have hbn:=E.n
  obtain⟨bl,hbl⟩:∃bl,bl=G.n:=⟨_,rfl⟩
  have hsn:s.l.length=m:=by rw[hsl,hm]
  obtain⟨lvp,mb,_,_,hH,hdr6,hdr7,hP,hmb,hmbn⟩:=hset.parts
  have hdr7':C.drop 7=[.map (some mb)]:=hdr7
  obtain⟨hc,hhc⟩:∃x,x=C.take 6:=⟨_,rfl⟩
  rw[←hhc]at hH
  have hhc':=hhc.symm
  rw[←hbl]
  refine bD (Sg G C s bl (.slice ad2 m c2) m) _ ⟨0,List.replicate m (none,0,0),rfl,by omega,Ext.new G _,⟨by simp[hbl],by omega,by simp[hbl],by simp,fun i x hx hi=>?_⟩,fun x hx=>?_,fun i x _ hx=>?_,by simp,by simp,by simp,by simp,by simp,by simp⟩ ?_
  ·rw[List.getElem?_replicate]at hx
   split at hx
   ·cases hx;exact gr.nil
   ·cases hx
  ·rw[List.getElem?_replicate]at hx
   split at hx
   ·cases hx;rfl
   ·cases hx
  ·rw[List.getElem?_replicate]at hx
   split at hx
   ·cases hx;rfl
   ·cases hx
  rintro n ⟨T,⟨x,G1⟩⟩ ⟨k,us,rfl,hk,E1,L,hz0,hz1,g1,g8,g10,g29,g30,x8⟩
  simp at E1 L g1 g8 g10 g29 g30 x8
  simp -implicitDefEqProofs[g1,g8,g10,g29,g30,x8]
  refine bB (fun hc2=>?_) (fun hc2=>?_)<;>simp only[decide_eq_true_eq,decide_eq_false_iff_not]at hc2
  ·have hkm:k<m:=by omega
   have hlook:(l7 3 3 (.int .i64 (k:Int)) (du s.pins 0).toArray true).aJ PP=some (.tuple #[.int .i64 ((eW s k).getD 0),.bool (eW s k).isSome]):=by
    rw[yS,zY,Option.isSome_map]
   have hmb1:G1.f mb= .obj (.map (du s.pins 0).toArray s.pins.length):=by rw[E1.f _ hmbn];exact hmb
   have w1:IntKind.wrap .i64 ((k:Int)+1)=((k+1:Nat):Int):=by rw[aA (by omega)];omega
   have hr1:List.range 1=[0]:=rfl
   obtain⟨U,hU⟩:∃U,U=us.map bH:=⟨_,rfl⟩
   have hrow:=L.row
   rw[←hU]at hrow
   have hul:=L.len
   have hUl:k+1≤U.length:=by rw[hU,List.length_map];omega
   have hblG:¬bl=G1.n:=by have:=L.n1;omega
   cases hpin:eW s k with
   |some a=>
    rw[hpin]at hlook
    simp only[Option.getD_some,Option.isSome_some]at hlook
    have hts:=kX bH us k (some ⟨G1.n,0,none⟩,1,1) (by omega)
    rw[←hU]at hts
    simp only[bH]at hts
    have hdn:lj s k=[a]:=by unfold lj;rw[hpin]
    simp -implicitDefEqProofs[g1,g8,g10,g29,g30,x8,hCl,hdr7',hmb1,hlook,aI,hr1,hkm,hblG,hrow,hUl,w1]
    rw[hts]
    have L2:=L.put (Ext.new G1 (.row true 3 [.int .i64 a])) (some ⟨G1.n,0,none⟩,1,1)
    have hx':(us.set k ((some ⟨G1.n,0,none⟩,1,1):bY))[k]? =some (some ⟨G1.n,0,none⟩,1,1):=List.getElem?_set_self (by omega)
    have hz2:∀i x,k<i→(us.set k ((some ⟨G1.n,0,none⟩,1,1):bY))[i]? =some x→x=(none,0,0):=fun i x hi hx=>hz1 i x hi (by rw[List.getElem?_set_ne (by omega)]at hx;exact hx)
    have hen:gr G ((G1.new (.row true 3 [.int .i64 a])).set bl (.row true 22 ((us.set k (some ⟨G1.n,0,none⟩,1,1)).map bH))) (bH (some ⟨G1.n,0,none⟩,1,1)) (lj s k):=by
     rw[hdn]
     refine .inr ⟨_,rfl,.inr ⟨G1.n,rfl,?_,E1.n,by simp⟩⟩
     rw[iU _ _ (fun e=>hblG e.symm)]
     simp[ab]
    exact⟨m-(k+1),by omega,k+1,us.set k (some ⟨G1.n,0,none⟩,1,1),rfl,by omega,(E1.bA _).cq L.n0 _,(L2.next hx' hen (fun x hx=>hz2 _ x (by omega) hx)).1,fun x hx=>hz2 _ x (by omega) hx,fun i x hi hx=>hz2 i x (by omega) hx,by simp,by simp,by simp,by simp,by simp,by simp⟩
   |none=>
    rw[hpin]at hlook
    simp only[Option.getD_none,Option.isSome_none]at hlook
    have hdn:lj s k=s.pins.foldl (fun d q=>ei s d k q.1.toNat q.2) (fB s.v s.us (s.l.getD k default)):=by unfold lj;rw[hpin]
    have hti:l[k]? =some l[k]:=List.getElem?_eq_getElem (by omega)
    obtain⟨X,hX⟩:∃X,X=l[k]:=⟨_,rfl⟩
    rw[←hX]at hti
    have hgX:s.l.getD k default=X:=by rw[hsl,List.getD_eq_getElem?_getD,hti];rfl
    rw[←hm]at hls
    obtain⟨_,bp,op,cp,rp,rfl,hbp,hdp,hlp,hbpn⟩:=hls.at 2 jD hti
    have hbp1:G1.f bp= .row false 29 cp:=by rw[E1.f _ (Nat.lt_of_lt_of_le hbpn E.n),E.f _ hbpn];exact hbp
    have hkX:(cp.drop (op+k*2)).take 2=[.int .i64 X.size,.int .i64 X.cL]:=by rw[hdp];rfl
    have aL:=aek s.v s.us M.aL hc X G1 (hH.ext E1)
    simp only[dD,ag]at aL
    simp -implicitDefEqProofs[g1,g8,g10,g29,g30,x8,hCl,hdr7',hmb1,hlook,hkm,hhc',hbp1,hkX,hlp]
    refine aL.mono ?_
    rintro r G2 ⟨E2,hr⟩
    obtain⟨ax,cx,rfl⟩:=hr.shape
    obtain⟨A,hA⟩:∃A,A=fB s.v s.us X:=⟨_,rfl⟩
    rw[←hA]at hr ⊢
    have hrow2:G2.f bl= .row true 22 U:=by rw[E2.f _ L.n1];exact hrow
    have hts:=kX bH us k (ax,A.length,cx) (by omega)
    rw[←hU]at hts
    simp only[bH]at hts
    have hmb2:G2.f mb= .obj (.map (du s.pins 0).toArray s.pins.length):=by rw[E2.f _ (Nat.lt_of_lt_of_le hmbn E1.n)];exact hmb1
    have hmbl:¬mb=bl:=fun e=>by rw[e,hrow2]at hmb2;cases hmb2
    simp -implicitDefEqProofs[aC,g1,g8,g10,g29,g30,x8,hCl,hdr7',hmb2,hmbl,hkm,hrow2,hUl,kg,oR]
    intro _
    have hts2:List.take k U++Value.slice ax A.length cx::List.drop (k+1) U=(us.set k (ax,A.length,cx)).map bH:=hts
    rw[hts2]
    have L2:=L.put E2 (ax,A.length,cx)
    have E3:Ext G (G2.set bl (.row true 22 ((us.set k (ax,A.length,cx)).map bH))):=(E1.trans E2).cq L.n0 _
    have C3:=fY G2 bl (.row true 22 ((us.set k (ax,A.length,cx)).map bH))
    have hz2:∀i x,k<i→(us.set k ((ax,A.length,cx):bY))[i]? =some x→x=(none,0,0):=fun i x hi hx=>hz1 i x hi (by rw[List.getElem?_set_ne (by omega)]at hx;exact hx)
    have hx':(us.set k ((ax,A.length,cx):bY))[k]? =some (ax,A.length,cx):=List.getElem?_set_self (by omega)
    have hS2:aF 3 ab (G2.set bl (.row true 22 ((us.set k (ax,A.length,cx)).map bH))) (bH (ax,A.length,cx)) (iQ s k #[]):=by
     rw[ZH,hgX,←hA]
     exact hr.dt C3 (kS hrow2)
    obtain⟨G3,hG3⟩:∃G3,G3=G2.set bl (.row true 22 ((us.set k (ax,A.length,cx)).map bH)):=⟨_,rfl⟩
    have hn3:G3.n=G2.n:=by rw[hG3];rfl
    rw[←hG3]at L2 E3 hS2 ⊢
    rw[←hn3]
    obtain⟨us2,hus2⟩:∃us2,us2=us.set k ((ax,A.length,cx):bY):=⟨_,rfl⟩
    rw[←hus2]at L2 hz2 hx'
    have LN:∀{G4:aa},Ext G3 G4→kr G G4 bl us2 s m k:=fun{G4} E4=>⟨by rw[E4.f _ L2.n1];exact L2.row,L2.n0,Nat.lt_of_lt_of_le L2.n1 E4.n,L2.len,fun i x hx hi=>(L2.er i x hx hi).ext E4⟩
    obtain⟨it,hit⟩:∃it,it=G3.n:=⟨_,rfl⟩
    have hit0:G.n≤it:=by rw[hit];exact E3.n
    have hbit:¬bl=it:=by have:=L2.n1;omega
    have hmit:¬mb=it:=by have:=hmbn;omega
    rw[←hit]
    refine bD (Sh G C s bl it mb (.slice (some ⟨bp,op,none⟩) m c2) m k) _ ⟨#[],us2,(ax,A.length,cx),rfl,E3.bA _,LN (Ext.new G3 _),hz2,hx',hS2.ext (Ext.new G3 _),hit0,by rw[hit];exact Nat.lt_succ_self _,by simp[hit],by simp,by simp,by simp,by simp,by simp,by simp,by simp,by simp⟩ ?_
    rintro n ⟨T,⟨x,G5⟩⟩ ⟨seen,us5,x5,rfl,E5,L5,hz5,hx5,hS5,_,it1,hitf,g1,g8,g10,g11,g29,g30,g58,x8⟩
    simp at E5 L5 hS5 it1 hitf g1 g8 g10 g11 g29 g30 g58 x8
    have hmb5:G5.f mb= .obj (.map (du s.pins 0).toArray s.pins.length):=by rw[E5.f _ hmbn];exact hmb
    simp -implicitDefEqProofs[g1,g8,g10,g11,g29,g30,g58,x8,hitf,hmb5,OW,lA,tx]
    refine⟨fun e he=>?_,fun hall2=>?_,fun e he hne=>?_⟩
    ·obtain⟨j,q,hj,rfl⟩:=J7 _ _ e he
     have:=(List.getElem?_eq_some_iff.1 hj).1
     simpa using this
    ·have hd:iQ s k seen=lj s k:=by
      rw[hdn]
      refine ZG s k seen fun i hi=>?_
      have:=hall2 _ (aaq s.pins 0 i (List.getElem?_eq_getElem hi))
      simpa using this
     rw[hd]at hS5
     rw[w1]
     exact⟨m-(k+1),by omega,k+1,us5,rfl,by omega,E5,(L5.next hx5 (.inl hS5) (fun x hx=>hz5 _ x (by omega) hx)).1,fun x hx=>hz5 _ x (by omega) hx,fun i x hi hx=>hz5 i x (by omega) hx,by simp,by simp,by simp,by simp,by simp,by simp⟩
    ·obtain⟨j,q,hj,rfl⟩:=J7 _ _ e he
     rw[Nat.zero_add]at hne ⊢
     simp only at hne
     have hfind:=aap s.pins 0 j hj
     rw[Nat.zero_add]at hfind
     have hjl:=(List.getElem?_eq_some_iff.1 hj).1
     have hpl:s.pins=pins:=by rw[es]
     have hqm:q∈pins:=by rw[←hpl];exact List.mem_of_getElem? hj
     obtain⟨qa,qf⟩:=q
     obtain⟨e1,e2,e3⟩:=P.each _ hqm
     simp only at e1 e2 e3
     obtain⟨jn,rfl⟩:∃jn:Nat,qa=jn:=⟨qa.toNat,by omega⟩
     have hsv:s.v=v:=by rw[es]
     have hsu:s.us=cJ v:=by rw[es]
     simp only[Int.toNat_natCast]at e3
     have hsit:=nu e3
     have hk1:k<s.l.length:=by omega
     have hj1:jn<s.l.length:=by omega
     have sz1:=I.size (k:=k) hk1
     have rV:=I.size (k:=jn) hj1
     simp only[OO]at sz1 rV
     have KS:Kp G5 (G5.set it (.obj (.mapIter (some mb) s.pins.length (seen.push j) s.pins.length))):=(Kp.refl G5).set (fun e cs z=>by rw[hitf]at z;cases z) _
     have E6:Ext G (G5.set it (.obj (.mapIter (some mb) s.pins.length (seen.push j) s.pins.length))):=E5.cq hit0 _
     have L6:kr G (G5.set it (.obj (.mapIter (some mb) s.pins.length (seen.push j) s.pins.length))) bl us5 s m k:=
      ⟨by rw[iU _ _ hbit];exact L5.row,L5.n0,L5.n1,L5.len,fun i x hx hi=>(L5.er i x hx hi).set (fun w cs z=>by rw[hitf]at z;cases z) _⟩
     have hap:=Bl s M C (bH x5) (iQ s k seen) (by
      have h1:=List.length_filter_le (fun f=>(List.range s.pins.length).all fun i=> !seen.contains i || pP s k i f) (fB s.v s.us (s.l.getD k default))
      have h2:=List.length_filter_le (fun k':Nat=>(cD s.v s.us (s.l.getD k default) k').isSome) (List.range s.v.af.length)
      have h3:=M.aL.may.len
      unfold iQ
      unfold fB at h1
      rw[List.length_map]at h1
      rw[List.length_range]at h2
      unfold fB
      omega) k jn qf hk1 hj1 (by omega) (by omega) (fun f hf=>by
       unfold iQ at hf
       have hf:=(List.mem_filter.1 hf).1
       unfold fB at hf
       obtain⟨k',hk',rfl⟩:=List.mem_map.1 hf
       have:=nu (List.mem_filter.1 hk').2
       exact⟨this.2.2.2.1,this.2.2.2.2⟩) (by rw[hsl,hsv];exact⟨hsit.2.2.2.1,hsit.2.2.2.2⟩) _ (hset.ext E6) (hS5.kp KS)
     have hrow6:(G5.set it (.obj (.mapIter (some mb) s.pins.length (seen.push j) s.pins.length))).f bl= .row true 22 (us5.map bH):=L6.row
     have hmb6:(G5.set it (.obj (.mapIter (some mb) s.pins.length (seen.push j) s.pins.length))).f mb= .obj (.map (du s.pins 0).toArray s.pins.length):=by rw[iU _ _ hmit];exact hmb5
     obtain⟨G6,hG6⟩:∃G6,G6=G5.set it (.obj (.mapIter (some mb) s.pins.length (seen.push j) s.pins.length)):=⟨_,rfl⟩
     have hit6:G6.f it= .obj (.mapIter (some mb) s.pins.length (seen.push j) s.pins.length):=by rw[hG6];simp
     have hit61:it<G6.n:=by rw[hG6];exact it1
     rw[←hG6]at E6 L6 hap hrow6 hmb6 ⊢
     have hul5:=L5.len
     have hUd:(us5.map bH).drop k=bH x5::(us5.drop (k+1)).map bH:=by
      obtain⟨hlt,ex⟩:=List.getElem?_eq_some_iff.1 hx5
      rw[←List.map_drop,List.drop_eq_getElem_cons hlt,List.map_cons,ex]
     obtain⟨U5,hU5⟩:∃U5,U5=us5.map bH:=⟨_,rfl⟩
     have hU5l:k+1≤U5.length:=by rw[hU5,List.length_map];omega
     rw[←hU5]at hrow6 hUd
     simp only[bH]at hap hUd
     simp -implicitDefEqProofs[oH,hit6,hmb6,hfind,g1,g8,g10,g11,g29,g30,g58,x8,hCl,hCt,hkm,hrow6,hU5l,hUd]
     refine hap.mono ?_
     rintro r G7 ⟨E7,hr7⟩
     obtain⟨ay,cy,rfl⟩:=hr7.shape
     have hd7:=ZI s k seen hj
     simp only[Int.toNat_natCast]at hd7
     rw[←hd7]at hr7 ⊢
     obtain⟨B,hB⟩:∃B,B=iQ s k (seen.push j):=⟨_,rfl⟩
     rw[←hB]at hr7 ⊢
     have hrow7:G7.f bl= .row true 22 U5:=by rw[E7.f _ L6.n1];exact hrow6
     have hts7:=kX bH us5 k (ay,B.length,cy) (by omega)
     rw[←hU5]at hts7
     simp only[bH]at hts7
     simp -implicitDefEqProofs[aC,g1,g8,g10,g11,g29,g30,g58,x8,hkm,hrow7,hU5l]
     intro _
     have hts8:List.take k U5++Value.slice ay B.length cy::List.drop (k+1) U5=(us5.set k (ay,B.length,cy)).map bH:=hts7
     rw[hts8]
     have hnc:seen.contains j=false:=by simpa using hne
     refine⟨_,afo s.pins.length seen hjl hnc,seen.push j,us5.set k (ay,B.length,cy),(ay,B.length,cy),rfl,(E6.trans E7).cq L5.n0 _,L6.put E7 _,fun i x hi hx=>hz5 i x hi (by rw[List.getElem?_set_ne (by omega)]at hx;exact hx),List.getElem?_set_self (by omega),?_,hit0,Nat.lt_of_lt_of_le hit61 E7.n,?_,by simp,by simp,by simp,by simp,by simp,by simp,by simp,by simp⟩
     ·rw[←hB]
      exact hr7.dt (fY G7 bl _) (kS hrow7)
     ·simp only
      rw[iU _ _ (fun e=>hbit e.symm),E7.f _ hit61];exact hit6
  ·have e:k=m:=by omega
   subst e
   have hr1:List.range 1=[0]:=rfl
   simp -implicitDefEqProofs[g1,g8,g10,g29,g30,x8,hCl,hCt,hCo,aI,hr1]
   rw[Yi hC]
   refine⟨G1,us,bl,C,E.trans E1,?_,hset.ext E1,rfl,by rw[hsn];rfl⟩
   rw[hsn]
   exact⟨L.row,by have:=L.n0;omega,L.n1,L.len,fun i x hx hi=>by
    rcases L.er i x hx hi with z|⟨ad,z1,z2⟩
    ·exact .inl z
    ·refine .inr ⟨ad,z1,?_⟩
     rcases z2 with z2|⟨b',y1,y2,y3,y4⟩
     ·exact .inl z2
     ·exact .inr ⟨b',y1,y2,by omega,y4⟩⟩
abbrev jO:=bY×Nat
def eD (x:jO):List Value:=[.slice x.1.1 x.1.2.1 x.1.2.2,.int .i64 (x.2:Nat)]
theorem PQ (x:jO):(eD x).length=2:=rfl
theorem aad:iM 288 337 2 32 eD:=⟨JW,QD,⟨_,AK,rfl⟩,BJ,FN,by decide,by decide,PQ,fun _=>rfl⟩
def dm {α:Type} (e:TypeId) (enc:α→List Value) (h0 h:aa) (o:Option Nat) (xs:List α) (v:Value):Prop:=match o with
 |none=>v= .slice none 0 0∧xs=[]
 |some b=>(∃c r,v= .slice (some ⟨b,0,none⟩) xs.length c∧h.f b= .row true e (xs.flatMap enc++r))∧h0.n≤b∧b<h.n
section
variable {α:Type} {t e sz by_:Nat} {enc:α→List Value} {h0 h h':aa} {o:Option Nat} {xs:List α} {v:Value}
theorem dm.lt (H:dm e enc h0 h o xs v):∀b,o=some b→h0.n≤b∧b<h.n:=by
 rintro b rfl
 exact H.2
theorem dm.row (H:dm e enc h0 h o xs v):∀b,o=some b→∃cs,h.f b= .row true e cs:=by
 rintro b rfl
 obtain⟨⟨c,r,_,q⟩,_⟩:=H
 exact⟨_,q⟩
theorem dm.keep (H:dm e enc h0 h o xs v) (hs:∀b,o=some b→h'.f b=h.f b) (hn:h.n≤h'.n):dm e enc h0 h' o xs v:=by
 cases o with
 |none=>exact H
 |some b=>
  obtain⟨⟨c,r,z,q⟩,n0,n1⟩:=H
  exact⟨⟨c,r,z,by rw[hs b rfl];exact q⟩,n0,Nat.lt_of_lt_of_le n1 hn⟩
theorem dm.ext (H:dm e enc h0 h o xs v) (E:Ext h h'):dm e enc h0 h' o xs v:=H.keep (fun b hb=>E.f b (H.lt b hb).2) E.n
theorem dm.shape (H:dm e enc h0 h o xs v):∃ad c,v= .slice ad xs.length c:=by
 cases o with
 |none=>obtain⟨rfl,rfl⟩:=H;exact⟨_,_,rfl⟩
 |some b=>obtain⟨⟨c,r,rfl,_⟩,_⟩:=H;exact⟨_,_,rfl⟩
theorem qP (E:iM t e sz by_ enc) (W:dm e enc h0 h o xs v) (a:α) (hl:(xs.length+1)*by_≤140737488355328) (T:Fr) (x:bI) (s y:Nat) (hs:Fr.get T s=some v) (hy:Fr.get T y=some (.slice (some ⟨h.n,0,none⟩) 1 1)):
  cB PP ⟨T,⟨x,h.new (.row true e (enc a))⟩⟩ t t (.tmp s) (.tmp y)=some (.slice (some ⟨h.n+1,0,none⟩) (xs.length+1) (xs.length+1),⟨T,⟨x,bK (h.new (.row true e (enc a))) o (.row true e (xs.flatMap enc++enc a))⟩⟩):=by
 cases o with
 |none=>
  obtain⟨rfl,rfl⟩:=W
  exact gx E (Ow.nil (h0:=h) (h:=h)) a hl T x s y hs hy
 |some b=>
  obtain⟨⟨c,r,rfl,q⟩,n0,n1⟩:=W
  have hne:¬b=h.n:=by omega
  have:=nP (G:=h.new (.row true e (enc a))) E (xs:=xs) (b1:=b) (c:=c) (r:=r) (by simp[hne,q]) a (b:=h.n) (w:=true) (by simp) hl T x s y hs hy
  rw[this]
  rfl
theorem dm.one (W:dm e enc h0 h o xs v) (hn:h0.n≤h.n) (c:aO) (a:α) {cells:List Value} (hc:cells=xs.flatMap enc++enc a):dm e enc h0 (bK (h.new c) o (.row true e cells)) (some (h.n+1)) (xs++[a]) (.slice (some ⟨h.n+1,0,none⟩) (xs.length+1) (xs.length+1)):=by
 refine⟨⟨xs.length+1,[],by simp,?_⟩,by omega,by rw[cn,cZ];omega⟩
 rw[hc]
 have:=jq (h.new c) o (.row true e (xs.flatMap enc++enc a))
 rw[cZ]at this
 rw[this];simp
end
def nN (h:aa) (xs:List jO) (st:List (List Int×Nat)):Prop:=xs.length=st.length∧∀(i:Nat) x y,xs[i]? =some x→st[i]? =some y→x.2=y.2∧aF 3 ab h (bH x.1) y.1
theorem nN.kp {h h':aa} {xs:List jO} {st:List (List Int×Nat)} (H:nN h xs st) (K:Kp h h'):nN h' xs st:=⟨H.1,fun i x y a b=>⟨(H.2 i x y a b).1,(H.2 i x y a b).2.kp K⟩⟩
def fF (b:Nat) (lv pv tv sv:Value) (H:df):List Value:=[.pointer (some ⟨b,0,none⟩),lv,.int .i64 0,pv,.int .i64 H.nodes,tv,.int .i64 H.cM,.int .i64 H.fuel,sv]
structure fg (h0 h:aa) (a:Nat) (H:df) (b b1 b2:Nat) (cs:List Value) (c1 c2:Nat) (ws:List bY) (r1 r2:List Value) (lv pv tv sv:Value) (ot os:Option Nat) (xs:List jO):Prop where
 row:h.f a= .row true 290 (fF b lv pv tv sv H)
 a0:h0.n≤a
 a1:a<h.n
 g0:h0.n≤b
 g1:h0.n≤b1
 g2:h0.n≤b2
 ext:Ext h0 h
 prop:eI h b b1 b2 H.p cs c1 c2 ws r1 r2
 l:aF 29 ag h lv H.l
 aW:aF 3 ab h pv H.aW
 tree:dm 4 dq h0 h ot H.tree tv
 ff:dm 337 eD h0 h os xs.reverse sv
 er:nN h xs H.stack
structure pw (h0 h:aa) (a:Nat) (H:df) (b b1 b2:Nat) (cs:List Value) (c1 c2:Nat) (ws:List bY) (r1 r2:List Value) (lv pv tv sv:Value) (ot os:Option Nat) (xs:List jO):Prop where
 row:∃C0,h.f a= .row true 290 C0
 a0:h0.n≤a
 a1:a<h.n
 g0:h0.n≤b
 g1:h0.n≤b1
 g2:h0.n≤b2
 ext:Ext h0 h
 prop:eI h b b1 b2 H.p cs c1 c2 ws r1 r2
 l:aF 29 ag h lv H.l
 aW:aF 3 ab h pv H.aW
 tree:dm 4 dq h0 h ot H.tree tv
 ff:dm 337 eD h0 h os xs.reverse sv
 er:nN h xs H.stack
def px (h0 h:aa) (a:Nat) (H:df):Prop:=∃b b1 b2 cs c1 c2 ws r1 r2 lv pv tv sv ot os xs,fg h0 h a H b b1 b2 cs c1 c2 ws r1 r2 lv pv tv sv ot os xs
structure dY (H:df):Prop where
 prop:fL H.p
 ll:H.l.length=H.p.s.l.length
 kJ:0≤H.nodes∧H.nodes≤H.fuel
 fuel:H.fuel≤1073741824
 tree:(H.tree.length:Int)≤H.nodes
 stack:(H.stack.length:Int)≤H.nodes
 rows:∀y∈H.stack,y.2≤y.1.length∧y.1.length≤1048578
 pl:H.aW.length≤512
section
variable {h0 h h':aa} {a:Nat} {H:df} {b b1 b2:Nat} {cs:List Value} {c1 c2:Nat} {ws:List bY} {r1 r2:List Value} {lv pv tv sv:Value} {ot os:Option Nat} {xs:List jO}
theorem fg.exts (X:fg h0 h a H b b1 b2 cs c1 c2 ws r1 r2 lv pv tv sv ot os xs) (E:Ext h h'):fg h0 h' a H b b1 b2 cs c1 c2 ws r1 r2 lv pv tv sv ot os xs:=
 ⟨by rw[E.f _ X.a1];exact X.row,X.a0,Nat.lt_of_lt_of_le X.a1 E.n,X.g0,X.g1,X.g2,X.ext.trans E,X.prop.ext E,X.l.ext E,X.aW.ext E,X.tree.ext E,X.ff.ext E,X.er.kp E.kp⟩
theorem eI.rows (P:eI h b b1 b2 H.p cs c1 c2 ws r1 r2):eZ [b,b1,b2] h:=by
 intro x hx
 simp only[List.mem_cons,List.not_mem_nil,or_false]at hx
 rcases hx with rfl|rfl|rfl
 ·exact⟨_,_,P.hb⟩
 ·exact⟨_,_,P.bq⟩
 ·exact⟨_,_,P.bC⟩
theorem Kb {h0 h h':aa} {S:List Nat} (E:Ext h0 h) (C:b8 S h h') (hs:∀b∈S,h0.n≤b):Ext h0 h':=
 ⟨C.g.trans E.g,Nat.le_trans E.n C.n,fun x hx=>by
  have en:=E.n
  rw[C.f x (by omega) (fun z=>by have:=hs x z;omega),E.f x hx]⟩
theorem fg.rJ (X:fg h0 h a H b b1 b2 cs c1 c2 ws r1 r2 lv pv tv sv ot os xs) {p':cd} (Q:pE h b b1 b2 p' cs h'):∃b1' b2' c1' c2' ws' r1' r2',fg h0 h' a {H with p:=p'} b b1' b2' cs c1' c2' ws' r1' r2' lv pv tv sv ot os xs:=by
 obtain⟨C,b1',b2',c1',c2',ws',r1',r2',P,n1,n2⟩:=Q
 have RS:=X.prop.rows
 have hrow:=X.row
 have ha:a∉[b,b1,b2]:=fun z=>by
  simp only[List.mem_cons,List.not_mem_nil,or_false]at z
  rcases z with rfl|rfl|rfl
  ·have:=X.prop.hb;rw[hrow]at this;cases this
  ·have:=X.prop.bq;rw[hrow]at this;cases this
  ·have:=X.prop.bC;rw[hrow]at this;cases this
 have ht:∀x,ot=some x→x∉[b,b1,b2]:=fun x hx z=>by
  obtain⟨c,q⟩:=X.tree.row x hx
  simp only[List.mem_cons,List.not_mem_nil,or_false]at z
  rcases z with rfl|rfl|rfl
  ·have:=X.prop.hb;rw[q]at this;cases this
  ·have:=X.prop.bq;rw[q]at this;cases this
  ·have:=X.prop.bC;rw[q]at this;cases this
 have hs:∀x,os=some x→x∉[b,b1,b2]:=fun x hx z=>by
  obtain⟨c,q⟩:=X.ff.row x hx
  simp only[List.mem_cons,List.not_mem_nil,or_false]at z
  rcases z with rfl|rfl|rfl
  ·have:=X.prop.hb;rw[q]at this;cases this
  ·have:=X.prop.bq;rw[q]at this;cases this
  ·have:=X.prop.bC;rw[q]at this;cases this
 have hn:=X.ext.n
 have E':Ext h0 h':=Kb X.ext C (fun x z=>by
  simp only[List.mem_cons,List.not_mem_nil,or_false]at z
  rcases z with rfl|rfl|rfl
  ·exact X.g0
  ·exact X.g1
  ·exact X.g2)
 refine⟨b1',b2',c1',c2',ws',r1',r2',⟨by rw[C.f _ X.a1 ha];exact hrow,X.a0,Nat.lt_of_lt_of_le X.a1 C.n,X.g0,?_,?_,E',P,X.l.kp (C.kp RS),X.aW.kp (C.kp RS),X.tree.keep (fun x hx=>C.f x (X.tree.lt x hx).2 (ht x hx)) C.n,X.ff.keep (fun x hx=>C.f x (X.ff.lt x hx).2 (hs x hx)) C.n,X.er.kp (C.kp RS)⟩⟩
 ·rcases n1 with rfl|n1
  ·exact X.g1
  ·omega
 ·rcases n2 with rfl|n2
  ·exact X.g2
  ·omega
theorem fg.bd (X:fg h0 h a H b b1 b2 cs c1 c2 ws r1 r2 lv pv tv sv ot os xs):pw h0 h a H b b1 b2 cs c1 c2 ws r1 r2 lv pv tv sv ot os xs:=
 ⟨⟨_,X.row⟩,X.a0,X.a1,X.g0,X.g1,X.g2,X.ext,X.prop,X.l,X.aW,X.tree,X.ff,X.er⟩
theorem pw.put (X:pw h0 h a H b b1 b2 cs c1 c2 ws r1 r2 lv pv tv sv ot os xs) {H':df} {pv':Value} (hp:H'.p=H.p) (hl:H'.l=H.l) (ht:H'.tree=H.tree) (hs:H'.stack=H.stack) (hpl:aF 3 ab h pv' H'.aW):
  fg h0 (h.set a (.row true 290 (fF b lv pv' tv sv H'))) a H' b b1 b2 cs c1 c2 ws r1 r2 lv pv' tv sv ot os xs:=by
 have C:=fY h a (.row true 290 (fF b lv pv' tv sv H'))
 obtain⟨C0,hrow⟩:=X.row
 have RS:=kS hrow
 have nb:b∉[a]:=fun z=>by
  simp only[List.mem_cons,List.not_mem_nil,or_false]at z
  subst z
  have:=X.prop.hb;rw[hrow]at this;cases this
 have nb1:b1∉[a]:=fun z=>by
  simp only[List.mem_cons,List.not_mem_nil,or_false]at z
  subst z
  have:=X.prop.bq;rw[hrow]at this;cases this
 have nb2:b2∉[a]:=fun z=>by
  simp only[List.mem_cons,List.not_mem_nil,or_false]at z
  subst z
  have:=X.prop.bC;rw[hrow]at this;cases this
 refine⟨by simp,X.a0,X.a1,X.g0,X.g1,X.g2,X.ext.cq X.a0 _,by rw[hp];exact X.prop.dt C RS nb nb1 nb2,by rw[hl];exact X.l.dt C RS,hpl.dt C RS,ht ▸ X.tree.keep (fun x hx=>iU _ _ fun e=>?_) (Nat.le_refl _),X.ff.keep (fun x hx=>iU _ _ fun e=>?_) (Nat.le_refl _),by rw[hs];exact X.er.kp (C.kp RS)⟩
 ·obtain⟨c,q⟩:=X.tree.row x hx
  rw[e,hrow]at q;cases q
 ·obtain⟨c,q⟩:=X.ff.row x hx
  rw[e,hrow]at q;cases q
end
theorem qO {α:Type} {e:TypeId} {enc:α→List Value} {h0 G:aa} {o:Option Nat} {xs:List α} {v:Value} (W:dm e enc h0 G o xs v) (c c':aO):b8 o.toList G (bK (G.new c) o c')∧eZ o.toList G:=by
 refine⟨⟨by rw[uR];rfl,by rw[cn,cZ];omega,fun x hx hs=>?_⟩,fun x hx=>?_⟩
 ·rw[mG _ _ _ (by rw[cZ];omega) (fun z=>hs (by simp[z])),mP,if_neg (by omega)]
 ·have:o=some x:=by simpa using hx
  obtain⟨cs,q⟩:=W.row x this
  exact⟨_,_,q⟩
section
variable {h0 h:aa} {a:Nat} {H:df} {b b1 b2:Nat} {cs:List Value} {c1 c2:Nat} {ws:List bY} {r1 r2:List Value} {lv pv tv sv:Value} {ot os:Option Nat} {xs:List jO}
theorem fg.pM (X:fg h0 h a H b b1 b2 cs c1 c2 ws r1 r2 lv pv tv sv ot os xs) {o:Option Nat} {h':aa} (C:b8 o.toList h h') (RS:eZ o.toList h) {e:TypeId} (ho:∀x,o=some x→(∃cs,h.f x= .row true e cs)∧h0.n≤x) (he:e=4∨e=337):
  h'.f a= .row true 290 (fF b lv pv tv sv H)∧a<h'.n∧Ext h0 h'∧eI h' b b1 b2 H.p cs c1 c2 ws r1 r2∧aF 29 ag h' lv H.l∧aF 3 ab h' pv H.aW∧nN h' xs H.stack∧Kp h h'∧
   (e=337→dm 4 dq h0 h' ot H.tree tv)∧(e=4→dm 337 eD h0 h' os xs.reverse sv):=by
 have key:∀{y:Nat} {e':TypeId} {c:List Value},h.f y= .row true e' c→e'≠4→e'≠337→y∉o.toList:=fun{y e' c} hy n4 n337 z=>by
  have:o=some y:=by simpa using z
  obtain⟨⟨cs',q⟩,_⟩:=ho y this
  rw[hy]at q
  simp only[aO.row.injEq,true_and]at q
  rcases he with rfl|rfl
  ·exact n4 q.1
  ·exact n337 q.1
 have na:=key X.row (by decide) (by decide)
 refine⟨by rw[C.f _ X.a1 na];exact X.row,Nat.lt_of_lt_of_le X.a1 C.n,Kb X.ext C (fun x z=>(ho x (by simpa using z)).2),X.prop.dt C RS (key X.prop.hb (by decide) (by decide)) (key X.prop.bq (by decide) (by decide)) (key X.prop.bC (by decide) (by decide)),X.l.dt C RS,X.aW.dt C RS,X.er.kp (C.kp RS),C.kp RS,fun z=>?_,fun z=>?_⟩
 ·subst z
  refine X.tree.keep (fun x hx=>C.f x (X.tree.lt x hx).2 fun w=>?_) C.n
  have:o=some x:=by simpa using w
  obtain⟨⟨cs',q⟩,_⟩:=ho x this
  obtain⟨cs2,q2⟩:=X.tree.row x hx
  rw[q]at q2;cases q2
 ·subst z
  refine X.ff.keep (fun x hx=>C.f x (X.ff.lt x hx).2 fun w=>?_) C.n
  have:o=some x:=by simpa using w
  obtain⟨⟨cs',q⟩,_⟩:=ho x this
  obtain⟨cs2,q2⟩:=X.ff.row x hx
  rw[q]at q2;cases q2
theorem fg.grow (X:fg h0 h a H b b1 b2 cs c1 c2 ws r1 r2 lv pv tv sv ot os xs) (z:Bool):
  fg h0 ((bK (h.new (.row true 4 (dq z))) ot (.row true 4 (H.tree.flatMap dq++dq z))).set a (.row true 290 (fF b lv pv (.slice (some ⟨h.n+1,0,none⟩) (H.tree.length+1) (H.tree.length+1)) sv {H with tree:=H.tree++[z]}))) a {H with tree:=H.tree++[z]} b b1 b2 cs c1 c2 ws r1 r2 lv pv (.slice (some ⟨h.n+1,0,none⟩) (H.tree.length+1) (H.tree.length+1)) sv (some (h.n+1)) os xs:=by
 obtain⟨C,RS⟩:=qO X.tree (.row true 4 (dq z)) (.row true 4 (H.tree.flatMap dq++dq z))
 obtain⟨y1,y2,y3,y4,y5,y6,y7,_,_,y8⟩:=X.pM C RS (e:=4) (fun x hx=>⟨X.tree.row x hx,(X.tree.lt x hx).1⟩) (.inl rfl)
 have y8:=y8 rfl
 have T:=dm.one X.tree X.ext.n (.row true 4 (dq z)) z (cells:=H.tree.flatMap dq++dq z) rfl
 obtain⟨F,hF⟩:∃F,F=bK (h.new (.row true 4 (dq z))) ot (.row true 4 (H.tree.flatMap dq++dq z)):=⟨_,rfl⟩
 rw[←hF]at y1 y2 y3 y4 y5 y6 y7 y8 T ⊢
 have B:pw h0 F a {H with tree:=H.tree++[z]} b b1 b2 cs c1 c2 ws r1 r2 lv pv (.slice (some ⟨h.n+1,0,none⟩) (H.tree.length+1) (H.tree.length+1)) sv (some (h.n+1)) os xs:=
  ⟨⟨_,y1⟩,X.a0,y2,X.g0,X.g1,X.g2,y3,y4,y5,y6,T,y8,y7⟩
 exact B.put rfl rfl rfl rfl y6
theorem fg.push (X:fg h0 h a H b b1 b2 cs c1 c2 ws r1 r2 lv pv tv sv ot os xs) (w:bY) (l:List Int) (hw:aF 3 ab h (bH w) l):
  fg h0 ((bK (h.new (.row true 337 (eD (w,0)))) os (.row true 337 (xs.reverse.flatMap eD++eD (w,0)))).set a (.row true 290 (fF b lv pv tv (.slice (some ⟨h.n+1,0,none⟩) (xs.length+1) (xs.length+1)) {H with stack:=(l,0)::H.stack}))) a {H with stack:=(l,0)::H.stack} b b1 b2 cs c1 c2 ws r1 r2 lv pv tv (.slice (some ⟨h.n+1,0,none⟩) (xs.length+1) (xs.length+1)) ot (some (h.n+1)) ((w,0)::xs):=by
 obtain⟨C,RS⟩:=qO X.ff (.row true 337 (eD (w,0))) (.row true 337 (xs.reverse.flatMap eD++eD (w,0)))
 obtain⟨y1,y2,y3,y4,y5,y6,y7,kp,y8,_⟩:=X.pM C RS (e:=337) (fun x hx=>⟨X.ff.row x hx,(X.ff.lt x hx).1⟩) (.inr rfl)
 have y8:=y8 rfl
 have T:=dm.one X.ff X.ext.n (.row true 337 (eD (w,0))) (w,0) (cells:=xs.reverse.flatMap eD++eD (w,0)) rfl
 rw[List.length_reverse]at T
 obtain⟨F,hF⟩:∃F,F=bK (h.new (.row true 337 (eD (w,0)))) os (.row true 337 (xs.reverse.flatMap eD++eD (w,0))):=⟨_,rfl⟩
 rw[←hF]at y1 y2 y3 y4 y5 y6 y7 y8 T kp ⊢
 have er:nN F ((w,0)::xs) ((l,0)::H.stack):=by
  refine⟨by simp[y7.1],fun i x y hx hy=>?_⟩
  cases i with
  |zero=>
   simp only[List.getElem?_cons_zero,Option.some.injEq]at hx hy
   subst hx;subst hy
   exact⟨rfl,hw.kp kp⟩
  |succ i=>
   simp only[List.getElem?_cons_succ]at hx hy
   exact y7.2 i x y hx hy
 have B:pw h0 F a {H with stack:=(l,0)::H.stack} b b1 b2 cs c1 c2 ws r1 r2 lv pv tv (.slice (some ⟨h.n+1,0,none⟩) (xs.length+1) (xs.length+1)) ot (some (h.n+1)) ((w,0)::xs):=
  ⟨⟨_,y1⟩,X.a0,y2,X.g0,X.g1,X.g2,y3,y4,y5,y6,y8,by rw[List.reverse_cons];exact T,er⟩
 exact B.put rfl rfl rfl rfl y6
end
theorem tc (h:df):cO h=if h.fuel≤h.nodes then(h,false)else
  if h.p.p.length=h.l.length then
   if h.cM<j8 h.p then({h with nodes:=h.nodes+1,aW:=h.p.p,cM:=j8 h.p,p:=gf h.p},true)else({h with nodes:=h.nodes+1,p:=gf h.p},true)
  else if h.cM<j8 h.p then({h with nodes:=h.nodes+1,stack:=(gh h.p,0)::h.stack,tree:=h.tree++[true]},true)
  else({h with nodes:=h.nodes+1,tree:=h.tree++[false],p:=gf h.p},true):=rfl
theorem dY.amT {H:df} (I:dY H):(gh H.p).length≤1048578:=by
 have hn:=I.prop.now
 have hd:(gI H.p H.p.p.length).length≤1048577:=by
  unfold gI
  split
  ·rename_i q
   rw[List.getD_eq_getElem?_getD,List.getElem?_eq_getElem (show H.p.p.length<(bZ H.p).length by omega)]
   exact hn.2 _ (List.getElem_mem _)
  ·simp
 unfold gh
 simp only
 split
 ·omega
 ·rw[List.length_append];simp;omega
theorem dY.pop {H:df} (I:dY H):dY {H with p:=gf H.p}:=⟨I.prop.pop,by simp only[rI];exact I.ll,I.kJ,I.fuel,I.tree,I.stack,I.rows,I.pl⟩
theorem dY.look {H:df} (I:dY H):dY (cO H).1:=by
 have n1:=I.kJ
 have n2:=I.tree
 have n3:=I.stack
 rw[tc]
 split
 ·exact I
 ·have J:dY {H with nodes:=H.nodes+1}:=⟨I.prop,I.ll,⟨by simp only;omega,by simp only;omega⟩,I.fuel,by simp only;omega,by simp only;omega,I.rows,I.pl⟩
  split
  ·split
   ·exact(dY.pop (H:={H with nodes:=H.nodes+1,aW:=H.p.p,cM:=j8 H.p}) ⟨J.prop,J.ll,J.kJ,J.fuel,J.tree,J.stack,J.rows,by have:=I.prop.dep;have:=I.prop.ll;simp only;omega⟩)
   ·exact J.pop
  ·split
   ·refine⟨J.prop,J.ll,J.kJ,J.fuel,?_,?_,?_,I.pl⟩
    ·simp only[List.length_append,List.length_singleton];omega
    ·simp only[List.length_cons];omega
    ·intro y hy
     simp only[List.mem_cons]at hy
     rcases hy with rfl|hy
     ·exact⟨Nat.zero_le _,I.amT⟩
     ·exact I.rows y hy
   ·refine dY.pop (H:={H with nodes:=H.nodes+1,tree:=H.tree++[false]}) ⟨J.prop,J.ll,J.kJ,J.fuel,?_,J.stack,J.rows,I.pl⟩
    simp only[List.length_append,List.length_singleton];omega
theorem Ov (H:df) (I:dY H) (h0 h:aa) (a:Nat) (X:px h0 h a H):
  ai PP 250 [.pointer (some ⟨a,0,none⟩)] h (fun r h'=>r= .bool (cO H).2∧px h0 h' a (cO H).1):=by
 obtain⟨b,b1,b2,cs,c1,c2,ws,r1,r2,lv,pv,tv,sv,ot,os,xs,X⟩:=X
 refine az mix acn WA rfl (by show 1≤117;decide) ajz ?_
 simp only[xc,Tryz.f250]
 rw[tc]
 have hnod:=I.kJ
 have hfu:=I.fuel
 have htr:=I.tree
 have hst:=I.stack
 have hr1:List.range 1=[0]:=rfl
 have hr2:List.range 2=[0,1]:=rfl
 obtain⟨adl,cl,elv⟩:=X.l.shape
 obtain⟨adp,cp,epv⟩:=X.aW.shape
 obtain⟨adt,ct,etv⟩:=X.tree.shape
 obtain⟨ads,cst,esv⟩:=X.ff.shape
 have hrow:=X.row
 rw[List.length_reverse]at esv
 subst elv;subst epv;subst etv;subst esv
 simp only[fF]at hrow
 by_cases q0:H.fuel≤H.nodes
 ·rw[if_pos q0]
  simp -implicitDefEqProofs[hrow,q0]
  exact⟨b,b1,b2,cs,c1,c2,ws,r1,r2,_,_,_,_,ot,os,xs,X⟩
 ·rw[if_neg q0]
  have w1:IntKind.wrap .i64 (H.nodes+1)=H.nodes+1:=aA (by omega)
  have X1:=X.bd.put (H':={H with nodes:=H.nodes+1}) rfl rfl rfl rfl X.aW
  have J:dY {H with nodes:=H.nodes+1}:=⟨I.prop,I.ll,⟨by simp only;omega,by simp only;omega⟩,I.fuel,by simp only;omega,by simp only;omega,I.rows,I.pl⟩
  simp only[fF]at X1
  simp -implicitDefEqProofs[hrow,q0,w1]
  obtain⟨h1,hh1⟩:∃h1,h1=h.set a (.row true 290 [.pointer (some ⟨b,0,none⟩),.slice adl H.l.length cl,.int .i64 0,.slice adp H.aW.length cp,.int .i64 (H.nodes+1),.slice adt H.tree.length ct,.int .i64 H.cM,.int .i64 H.fuel,.slice ads xs.length cst]):=⟨_,rfl⟩
  rw[←hh1]at X1 ⊢
  have hrow1:=X1.row
  simp only[fF]at hrow1
  have hde:=sI H.p h1 X1.prop
  have hmo:=agc H.p I.prop h1 X1.prop
  have hpo:=tI H.p I.prop h1 X1.prop
  have hdep:=I.prop.dep
  have hll:=I.prop.ll
  refine hde.mono ?_
  rintro r h' ⟨e,rfl⟩
  replace e:=e.symm
  subst e
  by_cases q1:H.p.p.length=H.l.length
  ·have q1':(H.p.p.length:Int)=(H.l.length:Int):=by omega
   rw[if_pos q1]
   simp -implicitDefEqProofs[aC,hrow1,q1,q1']
   intro _
   refine hmo.mono ?_
   rintro r h' ⟨e,rfl⟩
   replace e:=e.symm
   subst e
   by_cases q2:H.cM<j8 H.p
   ·rw[if_pos q2]
    have hpl:=amd H.p (by omega) h1 X1.prop
    simp -implicitDefEqProofs[aC,ae,hrow1,q2]
    intro _
    refine hpl.mono ?_
    rintro r h2 ⟨E2,hr⟩
    obtain⟨ad2,cp2,rfl⟩:=hr.shape
    have X2:=X1.exts E2
    have hrow2:=X2.row
    simp only[fF]at hrow2
    have X3:=X2.bd.put (H':={H with nodes:=H.nodes+1,aW:=H.p.p,cM:=j8 H.p}) rfl rfl rfl rfl hr
    simp only[fF]at X3
    simp -implicitDefEqProofs[aC,ae,hrow2]
    intro _
    rw[jX]
    refine(tI H.p I.prop _ X3.prop).mono ?_
    rintro r h3 ⟨rfl,Q⟩
    obtain⟨b1',b2',c1',c2',ws',r1',r2',X4⟩:=X3.rJ Q
    simp -implicitDefEqProofs[aC,ae]
    intro _
    exact⟨b,b1',b2',cs,c1',c2',ws',r1',r2',_,_,_,_,ot,os,xs,X4⟩
   ·rw[if_neg q2]
    simp -implicitDefEqProofs[aC,ae,hrow1,q2]
    intro _
    refine hpo.mono ?_
    rintro r h2 ⟨rfl,Q⟩
    obtain⟨b1',b2',c1',c2',ws',r1',r2',X2⟩:=X1.rJ Q
    simp -implicitDefEqProofs[aC,ae]
    intro _
    exact⟨b,b1',b2',cs,c1',c2',ws',r1',r2',_,_,_,_,ot,os,xs,X2⟩
  ·have q1':¬(H.p.p.length:Int)=(H.l.length:Int):=by omega
   rw[if_neg q1]
   simp -implicitDefEqProofs[aC,hrow1,q1,q1']
   intro _
   refine hmo.mono ?_
   rintro r h' ⟨e,rfl⟩
   replace e:=e.symm
   subst e
   by_cases q2:H.cM<j8 H.p
   ·rw[if_pos q2]
    have hro:=amR H.p I.prop h1 X1.prop
    simp -implicitDefEqProofs[aC,ae,hrow1,q2]
    intro _
    refine hro.mono ?_
    rintro r h2 ⟨E2,hr⟩
    obtain⟨ad2,cp2,rfl⟩:=hr.shape
    have X2:=X1.exts E2
    have hrow2:=X2.row
    simp only[fF]at hrow2
    have hxl:=X2.er.1
    simp only at hxl
    have hA:=qP aad X2.ff ((ad2,(gh H.p).length,cp2),0) (by rw[List.length_reverse];omega)
    rw[List.length_reverse]at hA
    have X3:=X2.push (ad2,(gh H.p).length,cp2) (gh H.p) hr
    obtain⟨W,hW⟩:∃W,W=xs.reverse.flatMap eD++eD ((ad2,(gh H.p).length,cp2),0):=⟨_,rfl⟩
    rw[←hW]at hA X3
    simp only[eD,fF,Int.natCast_zero]at hA X3
    have hrA:=(qO X2.ff (.row true 337 (eD ((ad2,(gh H.p).length,cp2),0))) (.row true 337 W)).1.f a X2.a1 (fun z=>by
     have:os=some a:=by simpa using z
     obtain⟨cs',q⟩:=X2.ff.row a this
     rw[X2.row]at q;cases q)
    rw[X2.row]at hrA
    simp only[eD,fF,Int.natCast_zero]at hrA
    have hane:¬a=h2.n:=by have:=X2.a1;omega
    have hA2:=qP J2 X3.tree true (by simp only;omega)
    have X4:=X3.grow true
    simp only at hA2 X4
    obtain⟨W2,hW2⟩:∃W2,W2=H.tree.flatMap dq++dq true:=⟨_,rfl⟩
    rw[←hW2]at hA2 X4
    simp only[dq,fF]at hA2 X4
    have hrA2:=(qO X3.tree (.row true 4 (dq true)) (.row true 4 W2)).1.f a X3.a1 (fun z=>by
     have:ot=some a:=by simpa using z
     obtain⟨cs',q⟩:=X3.tree.row a this
     rw[X3.row]at q;cases q)
    rw[X3.row]at hrA2
    simp only[dq,fF]at hrA2
    simp -implicitDefEqProofs[aC,ae,hrow2,aI,hr1,hr2,hA,hrA,hane,hA2,hrA2]
    intro _
    exact⟨b,b1,b2,cs,c1,c2,ws,r1,r2,_,_,_,_,_,_,_,X4⟩
   ·rw[if_neg q2]
    have hA:=qP J2 X1.tree false (by simp only;omega)
    have X3:=X1.grow false
    simp only at hA X3
    obtain⟨W,hW⟩:∃W,W=H.tree.flatMap dq++dq false:=⟨_,rfl⟩
    rw[←hW]at hA X3
    simp only[dq,fF]at hA X3
    have hrA:=(qO X1.tree (.row true 4 (dq false)) (.row true 4 W)).1.f a X1.a1 (fun z=>by
     have:ot=some a:=by simpa using z
     obtain⟨cs',q⟩:=X1.tree.row a this
     rw[X1.row]at q;cases q)
    rw[X1.row]at hrA
    simp only[dq,fF]at hrA
    simp -implicitDefEqProofs[aC,ae,hrow1,q2,aI,hr1,hA,hrA]
    intro _
    refine(tI H.p I.prop _ X3.prop).mono ?_
    rintro r h3 ⟨rfl,Q⟩
    obtain⟨b1',b2',c1',c2',ws',r1',r2',X4⟩:=X3.rJ Q
    simp -implicitDefEqProofs[aC,ae]
    intro _
    exact⟨b,b1',b2',cs,c1',c2',ws',r1',r2',_,_,_,_,_,os,xs,X4⟩
theorem am0 (n:Nat) (h:df):dO n h false=(h,false):=by cases n<;>rfl
theorem am2 (n:Nat) (h:df) (g:Bool) (hs:h.stack=[]):dO n h g=(h,g):=by
 cases n with
 |zero=>rfl
 |succ n=>
  rw[dO,hs]
  cases g<;>rfl
theorem amZ {n:Nat} {h:df} {l:List Int} {at_:Nat} {st:List (List Int×Nat)} (hs:h.stack=(l,at_)::st) (he:at_=l.length):dO (n+1) h true=dO n {h with stack:=st,p:=gf h.p} true:=by
 rw[dO,hs]
 simp[he]
theorem am1 {n:Nat} {h:df} {l:List Int} {at_:Nat} {st:List (List Int×Nat)} (hs:h.stack=(l,at_)::st) (he:¬at_=l.length):dO (n+1) h true=dO n (cO {h with stack:=(l,at_+1)::st,p:=gJ h.p (l.getD at_ 0)}).1 (cO {h with stack:=(l,at_+1)::st,p:=gJ h.p (l.getD at_ 0)}).2:=by
 rw[dO,hs]
 simp[he]
def mg (h:df):Nat:=2*(h.fuel-h.nodes).toNat+h.stack.length
theorem Oz {h:df} (I:dY h) (g:(cO h).2=true):mg (cO h).1+1≤mg h:=by
 have n1:=I.kJ
 rw[tc]at g ⊢
 unfold mg
 split
 ·rename_i q;rw[if_pos q]at g;cases g
 ·split
  ·split<;>(simp only;omega)
  ·split
   ·simp only[List.length_cons];omega
   ·simp only;omega
section
variable {h0 h:aa} {a:Nat} {H:df} {b b1 b2:Nat} {cs:List Value} {c1 c2:Nat} {ws:List bY} {r1 r2:List Value} {lv pv tv sv:Value} {ot os:Option Nat} {x:jO} {xs:List jO}
theorem fg.drop (X:fg h0 h a H b b1 b2 cs c1 c2 ws r1 r2 lv pv tv sv ot os (x::xs)) {y:List Int×Nat} {st:List (List Int×Nat)} (hs:H.stack=y::st) {b5:Nat} (ho:os=some b5) (c:Nat):
  fg h0 (h.set a (.row true 290 (fF b lv pv tv (.slice (some ⟨b5,0,none⟩) xs.length c) {H with stack:=st}))) a {H with stack:=st} b b1 b2 cs c1 c2 ws r1 r2 lv pv tv (.slice (some ⟨b5,0,none⟩) xs.length c) ot os xs:=by
 subst ho
 obtain⟨⟨c',r,_,q⟩,n0,n1⟩:=X.ff
 have er:=X.er
 rw[hs]at er
 have B:pw h0 h a {H with stack:=st} b b1 b2 cs c1 c2 ws r1 r2 lv pv tv (.slice (some ⟨b5,0,none⟩) xs.length c) ot (some b5) xs:=
  ⟨⟨_,X.row⟩,X.a0,X.a1,X.g0,X.g1,X.g2,X.ext,X.prop,X.l,X.aW,X.tree,⟨⟨c,eD x++r,by simp,by rw[q];simp⟩,n0,n1⟩,⟨by simpa using er.1,fun i u v hu hv=>er.2 (i+1) u v (by simpa using hu) (by simpa using hv)⟩⟩
 exact B.put rfl rfl rfl rfl X.aW
theorem fg.step (X:fg h0 h a H b b1 b2 cs c1 c2 ws r1 r2 lv pv tv sv ot os (x::xs)) {l:List Int} {k:Nat} {st:List (List Int×Nat)} (hs:H.stack=(l,k)::st) {b5:Nat} (ho:os=some b5) {r:List Value} (hx:x.2=k):
  fg h0 (h.set b5 (.row true 337 (((x.1,k+1)::xs).reverse.flatMap eD++r))) a {H with stack:=(l,k+1)::st} b b1 b2 cs c1 c2 ws r1 r2 lv pv tv sv ot os ((x.1,k+1)::xs):=by
 subst ho
 obtain⟨⟨c',r',hv,q⟩,n0,n1⟩:=X.ff
 have C:=fY h b5 (.row true 337 (((x.1,k+1)::xs).reverse.flatMap eD++r))
 have RS:=kS q
 obtain⟨y1,y2,y3,y4,y5,y6,y7,kp,y8,_⟩:=X.pM (o:=some b5) C RS (e:=337) (fun z hz=>by cases hz;exact⟨⟨_,q⟩,n0⟩) (.inr rfl)
 refine⟨y1,X.a0,y2,X.g0,X.g1,X.g2,y3,y4,y5,y6,y8 rfl,⟨⟨c',r,by rw[hv];simp,by simp⟩,n0,n1⟩,⟨?_,fun i u v hu hvv=>?_⟩⟩
 ·have:=y7.1
  rw[hs]at this
  simpa using this
 ·have e:=y7.2
  rw[hs]at e
  cases i with
  |zero=>
   simp only[List.getElem?_cons_zero,Option.some.injEq]at hu hvv
   subst hu;subst hvv
   exact⟨rfl,(e 0 x (l,k) rfl rfl).2⟩
  |succ i=>exact e (i+1) u v (by simpa using hu) (by simpa using hvv)
end
theorem dY.drop {H:df} (I:dY H) {y:List Int×Nat} {st:List (List Int×Nat)} (hs:H.stack=y::st):dY {H with stack:=st}:=by
 have n3:=I.stack
 rw[hs]at n3
 simp only[List.length_cons]at n3
 exact⟨I.prop,I.ll,I.kJ,I.fuel,I.tree,by simp only;omega,fun z hz=>I.rows z (by rw[hs];exact List.mem_cons_of_mem _ hz),I.pl⟩
theorem dY.step {H:df} (I:dY H) {l:List Int} {k:Nat} {st:List (List Int×Nat)} (hs:H.stack=(l,k)::st) (hk:¬k=l.length):dY {H with stack:=(l,k+1)::st}:=by
 have n3:=I.stack
 rw[hs]at n3
 have hr:=I.rows (l,k) (by rw[hs];exact List.mem_cons_self)
 simp only at hr
 refine⟨I.prop,I.ll,I.kJ,I.fuel,I.tree,by simpa using n3,fun z hz=>?_,I.pl⟩
 simp only[List.mem_cons]at hz
 rcases hz with rfl|hz
 ·exact⟨by simp only;omega,hr.2⟩
 ·exact I.rows z (by rw[hs];exact List.mem_cons_of_mem _ hz)
theorem dY.push {H:df} (I:dY H) (f:Int):dY {H with p:=gJ H.p f}:=⟨I.prop.push f,by simp only[PG];exact I.ll,I.kJ,I.fuel,I.tree,I.stack,I.rows,I.pl⟩
def Sk (h0:aa) (a:Nat) (R:df×Bool) (n:Nat) (σ:St):Prop:=∃(H:df) (g:Bool),px h0 σ.m.h a H∧dY H∧dO n H g=R∧(g=true→mg H≤n)∧σ.t.get 0=some (.pointer (some ⟨a,0,none⟩))∧σ.t.get 3=some (.bool g)
theorem am3 (steps:Nat) (H:df) (I:dY H) (hn:mg H≤steps) (h0 h:aa) (a:Nat) (X:px h0 h a H):
  ai PP 208 [.pointer (some ⟨a,0,none⟩)] h (fun r h'=>r= .bool (dO steps (cO H).1 (cO H).2).2∧px h0 h' a (dO steps (cO H).1 (cO H).2).1∧dY (dO steps (cO H).1 (cO H).2).1):=by
 refine az mix abW V9 rfl (by show 1≤82;decide) aja ?_
 simp only[wE,Tryz.f208]
 have hlo:=Ov H I h0 h a X
 have Il:=I.look
 have hmu:=fun g=>Oz I g
 obtain⟨R,hR⟩:∃R,R=dO steps (cO H).1 (cO H).2:=⟨_,rfl⟩
 rw[←hR]
 simp -implicitDefEqProofs
 refine hlo.mono ?_
 rintro r h1 ⟨rfl,X1⟩
 simp -implicitDefEqProofs[ae]
 intro _
 refine bD (Sk h0 a R) steps ⟨(cO H).1,(cO H).2,X1,Il,hR.symm,fun g=>by have:=hmu g;omega,by simp,by simp⟩ ?_
 rintro n ⟨T,⟨x,G⟩⟩ ⟨H,g,⟨b,b1,b2,cs,c1,c2,ws,r1,r2,lv,pv,tv,sv,ot,os,xs,X⟩,I,hR,hmu,g0,g3⟩
 simp at X g0 g3
 cases g with
 |false=>
  rw[am0]at hR
  subst hR
  simp -implicitDefEqProofs[g0,g3]
  exact⟨⟨b,b1,b2,cs,c1,c2,ws,r1,r2,_,_,_,_,_,_,_,X⟩,I⟩
 |true=>
  have hrow:=X.row
  obtain⟨ads,cst,esv⟩:=X.ff.shape
  rw[List.length_reverse]at esv
  have hel:=X.er.1
  cases hst:H.stack with
  |nil=>
   rw[am2 n H true hst]at hR
   subst hR
   rw[hst]at hel
   have hx0:xs.length=0:=hel
   rw[hx0]at esv
   subst esv
   simp only[fF]at hrow
   simp -implicitDefEqProofs[g0,g3,hrow]
   exact⟨⟨b,b1,b2,cs,c1,c2,ws,r1,r2,_,_,_,_,_,_,_,X⟩,I⟩
  |cons y st=>
   obtain⟨l,k⟩:=y
   rw[hst]at hel
   cases xs with
   |nil=>simp at hel
   |cons x0 xs=>
    obtain⟨n',rfl⟩:∃n',n=n'+1:=⟨n-1,by have:=hmu rfl;unfold mg at this;rw[hst,List.length_cons]at this;omega⟩
    have hmu:=hmu rfl
    have hmx:2*(H.fuel-H.nodes).toNat+st.length≤n':=by unfold mg at hmu;rw[hst,List.length_cons]at hmu;omega
    have hnod:=I.kJ
    have hfu:=I.fuel
    have hstk:=I.stack
    rw[hst,List.length_cons]at hstk
    have hrl:=I.rows (l,k) (by rw[hst];exact List.mem_cons_self)
    simp only at hrl
    have hxe:=X.er.2
    rw[hst]at hxe
    obtain⟨ek,hSl⟩:=hxe 0 x0 (l,k) rfl rfl
    simp only at ek hSl
    obtain⟨⟨adx,nx,cx⟩,kx⟩:=x0
    simp only at ek hSl
    subst ek
    obtain⟨adx',cx',exl⟩:=hSl.shape
    simp only[bH,Value.slice.injEq]at exl
    obtain⟨_,rfl,_⟩:=exl
    obtain⟨K,hK⟩:∃K,K=xs.length:=⟨_,rfl⟩
    have hKl:(((adx,l.length,cx),kx)::xs).length=K+1:=by rw[hK];rfl
    rw[hKl]at esv
    cases hos:os with
    |none=>
     have hx:=X.ff
     rw[hos]at hx
     exact absurd hx.2 (by simp)
    |some b5=>
     have hstk5:=X.ff
     rw[hos]at hstk5
     obtain⟨⟨c5,r5,hv5,hrow5⟩,_,hb5n⟩:=hstk5
     rw[esv]at hv5
     simp only[Value.slice.injEq]at hv5
     obtain⟨rfl,_,rfl⟩:=hv5
     subst esv
     have hba:¬b5=a:=fun e=>by rw[e,hrow]at hrow5;cases hrow5
     have hab:¬a=b5:=fun e=>hba e.symm
     obtain⟨P,hP⟩:∃P,P=xs.reverse.flatMap eD:=⟨_,rfl⟩
     have hPl:P.length=K*2:=by rw[hP,dA 2 PQ,List.length_reverse,hK]
     have hcells:((((adx,l.length,cx),kx)::xs:List jO).reverse.flatMap eD++r5)=P++(.slice adx l.length cx:: .int .i64 (kx:Nat)::r5):=by
      rw[List.reverse_cons,List.flatMap_append,←hP,List.append_assoc];rfl
     rw[hcells]at hrow5
     obtain⟨R5,hR5⟩:∃R5,R5=P++(.slice adx l.length cx:: .int .i64 (kx:Nat)::r5):=⟨_,rfl⟩
     rw[←hR5]at hrow5
     have hd0:R5.drop (K*2)= .slice adx l.length cx:: .int .i64 (kx:Nat)::r5:=by rw[hR5,←hPl,List.drop_left]
     have hd1:R5.drop (K*2+1)= .int .i64 (kx:Nat)::r5:=by rw[←List.drop_drop,hd0];rfl
     have hRl:K*2+2≤R5.length:=by rw[hR5,List.length_append,hPl];simp
     have hRl1:K*2+1≤R5.length:=by omega
     have hRl2:K*2+1+1≤R5.length:=by omega
     have hKs:K=st.length:=by rw[hK];simpa using hel
     have wK:IntKind.wrap .i64 ((K:Int))=(K:Nat):=by rw[aA (by omega)]
     have hKlt:(K:Int)<K+1:=by omega
     have hK0:(0:Int)<(K:Int)+1:=by omega
     simp only[fF]at hrow
     by_cases q:kx=l.length
     ·have q':(kx:Int)=(l.length:Int):=by omega
      rw[amZ hst q]at hR
      have X2:=X.drop hst hos K
      rw[←hK]at X2
      have I2:=I.drop hst
      have hpo:=tI H.p I.prop _ X2.prop
      simp -implicitDefEqProofs[g0,g3,hrow,hrow5,wK,hKlt,hK0,hd0,hd1,hRl,hRl1,hRl2,q,q']
      refine hpo.mono ?_
      rintro r h2 ⟨rfl,Q⟩
      obtain⟨b1',b2',c1',c2',ws',r1',r2',X4⟩:=X2.rJ Q
      simp -implicitDefEqProofs[ae,g0,g3]
      intro _
      exact⟨n',by omega,{H with stack:=st,p:=gf H.p},true,⟨b,b1',b2',cs,c1',c2',ws',r1',r2',_,_,_,_,_,_,_,X4⟩,I2.pop,hR,fun _=>hmx,by simp,by simp⟩
     ·have q':¬(kx:Int)=(l.length:Int):=by omega
      rw[am1 hst q]at hR
      have wk:IntKind.wrap .i64 ((kx:Int)+1)=((kx+1:Nat):Int):=by rw[aA (by omega)];omega
      have wk2:IntKind.wrap .i64 ((kx:Int))=(kx:Nat):=by rw[aA (by omega)]
      have hkl:kx<l.length:=by omega
      have hkl':(kx:Int)<(l.length:Int):=by omega
      have hlt:l[kx]? =some l[kx]:=List.getElem?_eq_getElem hkl
      obtain⟨f,hf⟩:∃f,f=l[kx]:=⟨_,rfl⟩
      rw[←hf]at hlt
      have hgf:l.getD kx 0=f:=by rw[List.getD_eq_getElem?_getD,hlt];rfl
      rw[hgf]at hR
      simp only[bH]at hSl
      obtain⟨_,bl,ol,cl,rl,rfl,hbl,hdl,hlcl,_⟩:=hSl.at 1 V.cY hlt
      rw[Nat.mul_one]at hdl hlcl
      have hbl5:¬bl=b5:=fun e=>by rw[e,hrow5]at hbl;cases hbl
      obtain⟨R6,hR6⟩:∃R6,R6=P++(.slice (some ⟨bl,ol,none⟩) l.length cx:: .int .i64 ((kx+1:Nat):Int)::r5):=⟨_,rfl⟩
      have hcells2:((((some ⟨bl,ol,none⟩,l.length,cx),kx+1)::xs:List jO).reverse.flatMap eD++r5)=R6:=by
       rw[hR6,List.reverse_cons,List.flatMap_append,←hP,List.append_assoc];rfl
      have hst6:List.take (K*2+1) R5++Value.int .i64 ((kx:Int)+1)::List.drop (K*2+1+1) R5=R6:=by
       have e1:R5=(P++[.slice (some ⟨bl,ol,none⟩) l.length cx])++(.int .i64 (kx:Nat)::r5):=by rw[hR5];simp
       have e2:R5=(P++[.slice (some ⟨bl,ol,none⟩) l.length cx,.int .i64 (kx:Nat)])++r5:=by rw[hR5];simp
       have t1:List.take (K*2+1) R5=P++[.slice (some ⟨bl,ol,none⟩) l.length cx]:=by rw[e1,List.take_left' (by simp[hPl])]
       have t2:List.drop (K*2+1+1) R5=r5:=by rw[e2,List.drop_left' (by simp[hPl])]
       rw[t1,t2,hR6]
       simp
      have hd6:R6.drop (K*2)= .slice (some ⟨bl,ol,none⟩) l.length cx:: .int .i64 ((kx+1:Nat):Int)::r5:=by rw[hR6,←hPl,List.drop_left]
      have hd61:R6.drop (K*2+1)= .int .i64 ((kx+1:Nat):Int)::r5:=by rw[←List.drop_drop,hd6];rfl
      have hR6l:R6.length=R5.length:=by rw[hR6,hR5];simp
      have X2:=X.step hst hos (r:=r5) rfl
      rw[hcells2]at X2
      have I2:=I.step hst q
      have hpu:=amo H.p I.prop f _ X2.prop
      simp only[Int.natCast_add,Int.cast_ofNat_Int]at hd6 hd61
      simp -implicitDefEqProofs[g0,g3,hrow,hrow5,wK,hKlt,hK0,hd0,hd1,hRl,hRl1,hRl2,q,q',wk,wk2,hab,hba,hst6,hd6,hd61,hR6l,hbl,hdl,hlcl,hkl,hkl',hbl5,ab]
      refine hpu.mono ?_
      rintro r h2 ⟨⟨v,rfl⟩,Q⟩
      obtain⟨b1',b2',c1',c2',ws',r1',r2',X3⟩:=X2.rJ Q
      have I3:=I2.push f
      have hlo:=Ov _ I3 h0 h2 a ⟨b,b1',b2',cs,c1',c2',ws',r1',r2',_,_,_,_,_,_,_,X3⟩
      have I4:=I3.look
      have hm4:=fun g=>Oz I3 g
      obtain⟨L,hL⟩:∃L,L=cO {H with stack:=(l,kx+1)::st,p:=gJ H.p f}:=⟨_,rfl⟩
      rw[←hL]at hR
      simp only[←hL]at hlo I4 hm4
      simp -implicitDefEqProofs[aC,ae,g0,g3]
      intro _
      refine hlo.mono ?_
      rintro r h3 ⟨rfl,X4⟩
      simp -implicitDefEqProofs[aC,ae,g0,g3]
      intro _
      refine⟨n',by omega,L.1,L.2,X4,I4,hR,fun g=>?_,by simp,by simp⟩
      have:=hm4 g
      have hmu3:mg {H with stack:=(l,kx+1)::st,p:=gJ H.p f}=2*(H.fuel-H.nodes).toNat+(st.length+1):=rfl
      omega
def gB (s:bO) (l:List aU) (least:List Int) (fuel:Int):df:=⟨gQ s,l,least,0,[],jH l least,fuel,[]⟩
theorem UR (steps:Nat) (v:ah) (l:List aU) (pins:List (Int×Int)) (fuel:Int):lX steps v l pins fuel=match eu v l pins with
 |none=>none
 |some s=>if fuel<0∨1073741824<fuel then none else
  some ⟨if !(dO steps (cO (gB s l (dG l pins) fuel)).1 (cO (gB s l (dG l pins) fuel)).2).2 then 3 else if jW l (dO steps (cO (gB s l (dG l pins) fuel)).1 (cO (gB s l (dG l pins) fuel)).2).1.aW then 1 else 2,(dO steps (cO (gB s l (dG l pins) fuel)).1 (cO (gB s l (dG l pins) fuel)).2).1.aW,(dO steps (cO (gB s l (dG l pins) fuel)).1 (cO (gB s l (dG l pins) fuel)).2).1.nodes,(dO steps (cO (gB s l (dG l pins) fuel)).1 (cO (gB s l (dG l pins) fuel)).2).1.tree⟩:=rfl
def mq (r:nK) (pv tv:Value):List Value:=[.int .i64 r.answer,pv,.int .i64 r.nodes,tv]
def RP (h:aa) (o:Option nK) (v:Value) (h':aa):Prop:=Ext h h'∧match o with
 |none=>v= .tuple #[.agg ⟨[.int .i64 0,.slice none 0 0,.int .i64 0,.slice none 0 0]⟩,.int .i64 1]
 |some r=>∃pv at_ nt ct,v= .tuple #[.agg ⟨mq r pv (.slice at_ nt ct)⟩,.int .i64 0]∧aF 3 ab h' pv r.aW
theorem dY.start {v:ah} {l:List aU} {pins:List (Int×Int)} {s:bO} (h:eu v l pins=some s) {fuel:Int} (h0:0≤fuel) (h1:fuel≤1073741824):dY (gB s l (dG l pins) fuel):=by
 have I:=fL.new h
 obtain⟨e,_⟩:=qc h
 have hsl:s.l=l:=by rw[e]
 have hll:=I.ll
 refine⟨I,?_,⟨Int.le_refl 0,h0⟩,h1,Int.le_refl 0,Int.le_refl 0,fun y hy=>(by cases hy),?_⟩
 ·show l.length=s.l.length
  rw[hsl]
 ·show(dG l pins).length≤512
  rw[zA,←hsl];exact hll
theorem Ox (h:df):(cO h).1.l=h.l:=by
 rw[tc]
 split
 ·rfl
 ·split
  ·split<;>rfl
  ·split<;>rfl
theorem am4:∀(n:Nat) (h:df) (g:Bool),(dO n h g).1.l=h.l:=by
 intro n
 induction n with
 |zero=>intro h g;rfl
 |succ n ih=>
  intro h g
  rw[dO]
  split
  ·split
   ·rfl
   ·split
    ·rw[ih]
    ·rw[ih,Ox]
  ·rfl
theorem US (steps:Nat) (v:ah) (l:List aU) (pins:List (Int×Int)) (fuel:Int) (hst:2*fuel.toNat≤steps) (cs:List Value) (lv pv:Value) (h:aa) (H:iF h v l pins cs lv pv):
  ai PP 152 [.agg ⟨cs⟩,lv,pv,.int .i64 fuel] h (RP h (lX steps v l pins fuel)):=by
 refine az mix abk Vs rfl (by show 4≤76;decide) aiz ?_
 simp only[vC,Tryz.f152]
 rw[UR]
 have hnew:=agm v l pins cs lv pv h H
 have hcl:=H.cK.len
 have hct:cs.take 5=cs:=List.take_of_length_le (by omega)
 have hle:=fun G (E:Ext h G)=>afl v l pins cs lv pv G (H.ext E)
 have hls:=H.ls
 have hll:=H.ll
 have hr1:List.range 1=[0]:=rfl
 obtain⟨ad2,c2,rfl⟩:=H.ls.shape
 obtain⟨ad3,c3,rfl⟩:=H.ps.shape
 simp -implicitDefEqProofs[hcl,hct]
 refine hnew.mono ?_
 rintro r h1 ⟨E1,hN⟩
 cases q:eu v l pins with
 |none=>
  rw[q]at hN
  subst hN
  simp -implicitDefEqProofs[ae]
  intro _
  exact⟨E1,rfl⟩
 |some s=>
  rw[q]at hN
  obtain⟨b,b1,b2,C,d1,d2,ws,r1,r2,rfl,hP,n0,n1,n2⟩:=hN
  simp only
  by_cases qf:fuel<0
  ·rw[if_pos (.inl qf)]
   simp -implicitDefEqProofs[ae,qf]
   intro _
   exact⟨E1,rfl⟩
  ·by_cases qf2:1073741824<fuel
   ·rw[if_pos (.inr qf2)]
    simp -implicitDefEqProofs[ae,qf,qf2]
    intro _
    exact⟨E1,rfl⟩
   ·rw[if_neg (by omega)]
    simp -implicitDefEqProofs[ae,qf,qf2,hcl,hct]
    intro _
    refine(hle h1 E1).mono ?_
    rintro r h2 ⟨E2,hr⟩
    rw[q]at hr
    simp only[Option.isSome_some,if_true]at hr
    obtain⟨adp,cp,rfl⟩:=hr.shape
    obtain⟨least,hleast⟩:∃least,least=dG l pins:=⟨_,rfl⟩
    have I:=dY.start q (fuel:=fuel) (by omega) (by omega)
    rw[←hleast]at hr I ⊢
    have hll2:least.length≤1073741824:=by have:=I.pl;simp only[gB]at this;omega
    have hse:=Al l least (.slice ad2 l.length c2) (.slice adp least.length cp) hll2 hll h2 ((hls.ext E1).ext E2).sl hr.sl
    simp -implicitDefEqProofs[ae]
    intro _
    refine hse.mono ?_
    rintro r h' ⟨e,rfl⟩
    replace e:=e.symm
    subst e
    simp -implicitDefEqProofs[ae]
    intro _
    have n2E:=E2.n
    have n1E:=E1.n
    have X:px h (h2.new (.row true 290 [.pointer (some ⟨b,0,none⟩),.slice ad2 l.length c2,.int .i64 0,.slice adp least.length cp,.int .i64 0,.slice none 0 0,.int .i64 (jH l least),.int .i64 fuel,.slice none 0 0])) h2.n (gB s l least fuel):=
     ⟨b,b1,b2,C,d1,d2,ws,r1,r2,.slice ad2 l.length c2,.slice adp least.length cp,.slice none 0 0,.slice none 0 0,none,none,[],
      ⟨by simp[fF,gB],by omega,by simp,n0,n1,n2,(E1.trans E2).bA _,(hP.ext E2).ext (Ext.new _ _),((hls.ext E1).ext E2).ext (Ext.new _ _),hr.ext (Ext.new _ _),⟨rfl,rfl⟩,⟨rfl,rfl⟩,⟨rfl,fun i x y hx _=>by simp at hx⟩⟩⟩
    have hrun:=am3 steps (gB s l least fuel) I (by simp[mg,gB];omega) h _ h2.n X
    have hlr:(dO steps (cO (gB s l least fuel)).1 (cO (gB s l least fuel)).2).1.l=l:=by
     rw[am4,Ox];rfl
    obtain⟨R,hR⟩:∃R,R=dO steps (cO (gB s l least fuel)).1 (cO (gB s l least fuel)).2:=⟨_,rfl⟩
    rw[←hR]at hrun hlr ⊢
    refine hrun.mono ?_
    rintro r h4 ⟨rfl,⟨b',b1',b2',cs',c1',c2',ws',r1',r2',lv',pv',tv',sv',ot,os,xs,X4⟩,I4⟩
    obtain⟨ad5,c5,rfl⟩:=X4.aW.shape
    obtain⟨adt,ct,rfl⟩:=X4.tree.shape
    obtain⟨ads,cst,rfl⟩:=X4.ff.shape
    obtain⟨adl,cl4,rfl⟩:=X4.l.shape
    have hrow4:=X4.row
    simp only[fF]at hrow4
    have fin:∀(v:Value),Ext h (h4.set h2.n (.row true 290 [.pointer (some ⟨b',0,none⟩),.slice adl R.1.l.length cl4,v,.slice ad5 R.1.aW.length c5,.int .i64 R.1.nodes,.slice adt R.1.tree.length ct,.int .i64 R.1.cM,.int .i64 R.1.fuel,.slice ads xs.reverse.length cst]))∧aF 3 ab (h4.set h2.n (.row true 290 [.pointer (some ⟨b',0,none⟩),.slice adl R.1.l.length cl4,v,.slice ad5 R.1.aW.length c5,.int .i64 R.1.nodes,.slice adt R.1.tree.length ct,.int .i64 R.1.cM,.int .i64 R.1.fuel,.slice ads xs.reverse.length cst])) (.slice ad5 R.1.aW.length c5) R.1.aW:=fun v=>
     ⟨X4.ext.cq X4.a0 _,X4.aW.dt (fY h4 h2.n _) (kS X4.row)⟩
    rw[List.length_reverse]at fin hrow4
    cases hg:R.2 with
    |false=>
     simp -implicitDefEqProofs[ae,hg,hrow4]
     intro _
     exact⟨(fin _).1,_,_,_,_,rfl,(fin _).2⟩
    |true=>
     have hpl:=I4.pl
     have hfu:=yZ l R.1.aW (.slice ad2 l.length c2) (.slice ad5 R.1.aW.length c5) (by omega) hll h4 (hls.ext X4.ext).sl X4.aW.sl
     simp -implicitDefEqProofs[ae,hg,hrow4]
     intro _
     refine hfu.mono ?_
     rintro r h' ⟨e,rfl⟩
     replace e:=e.symm
     subst e
     by_cases qq:jW l R.1.aW=true
     ·simp -implicitDefEqProofs[aC,ae,qq,hrow4]
      intro _
      exact⟨(fin _).1,_,_,_,_,rfl,(fin _).2⟩
     ·simp -implicitDefEqProofs[aC,ae,qq,hrow4]
      intro _
      exact⟨(fin _).1,_,_,_,_,rfl,(fin _).2⟩
def RJ (h:aa) (o:nK×Int) (v:Value) (h':aa):Prop:=Ext h h'∧∃pv at_ nt ct,v= .tuple #[.agg ⟨mq o.1 pv (.slice at_ nt ct)⟩,.int .i64 o.2]∧aF 3 ab h' pv o.1.aW
theorem gr.adP {h h':aa} {v:Value} {d:List Int} (E:Ext h h') (H:gr h h' v d):∃h'',Wk h' h''∧Ext h h''∧aF 3 ab h'' v d:=by
 refine⟨aa.fp h' h.n h'.n 3,mT _ _ _ _,⟨E.g,E.n,fun x hx=>by rw[n9 _ (.inl hx),E.f _ hx]⟩,gr.fp H (Ext.bu h')⟩
theorem Bb (steps:Nat) (v:ah) (l:List aU) (pins:List (Int×Int)) (old:List Int) (fuel:Int) (hst:2*fuel.toNat≤steps) (cs:List Value) (lv pv ov:Value) (hpf:∀x∈old,-4611686018427387904≤x∧x≤4611686018427387904) (hol:old.length≤1073741824) (h:aa) (H:iF h v l pins cs lv pv) (ho:aZ h ov old):
  ai PP 113 [.agg ⟨cs⟩,lv,pv,ov,.int .i64 fuel] h (RJ h (eO steps v l pins old fuel)):=by
 refine ai.gK (post:=fun r h'=>Ext h h'∧∃qv at_ nt ct,r= .tuple #[.agg ⟨mq (eO steps v l pins old fuel).1 qv (.slice at_ nt ct)⟩,.int .i64 (eO steps v l pins old fuel).2]∧gr h h' qv (eO steps v l pins old fuel).1.aW) ?_ (fun r h' ⟨E,qv,a1,a2,a3,e,z⟩=>by
  obtain⟨h'',W,E',S⟩:=z.adP E
  exact⟨h'',W,E',qv,a1,a2,a3,e,S⟩)
 refine az mix aaZ U7 rfl (by show 5≤51;decide) aid ?_
 simp only[ve,Tryz.f113]
 have hmay:=PC v l pins old cs lv pv ov hpf h H ho
 have hcl:=H.cK.len
 have hct:cs.take 5=cs:=List.take_of_length_le (by omega)
 have hbe:=fun G (E:Ext h G)=>US steps v l pins fuel hst cs lv pv G (H.ext E)
 have hls:=H.ls
 have hll:=H.ll
 obtain⟨ad2,c2,rfl⟩:=H.ls.shape
 obtain⟨ad3,c3,rfl⟩:=H.ps.shape
 obtain⟨ad4,c4,rfl⟩:=ho.shape
 unfold eO
 simp -implicitDefEqProofs[hcl,hct]
 refine hmay.mono ?_
 rintro r h1 ⟨E1,rfl⟩
 by_cases qm:ix v l old pins=true
 ·simp -implicitDefEqProofs[ae,qm,hcl,hct]
  intro _
  refine(hbe h1 E1).mono ?_
  rintro r h2 ⟨E2,hB⟩
  cases qb:lX steps v l pins fuel with
  |none=>
   rw[qb]at hB
   subst hB
   simp -implicitDefEqProofs[ae,aC,qm]
   intro _
   exact⟨E1.trans E2,.slice none 0 0,⟨none,0,0,rfl⟩,gr.nil⟩
  |some R=>
   rw[qb]at hB
   obtain⟨qv,at_,nt,ct,rfl,hS⟩:=hB
   obtain⟨ad5,c5,rfl⟩:=hS.shape
   have hRl:=uU qb
   have hse1:=Al l R.aW (.slice ad2 l.length c2) (.slice ad5 R.aW.length c5) (by omega) hll h2 ((hls.ext E1).ext E2).sl hS.sl
   have hse2:=Al l old (.slice ad2 l.length c2) (.slice ad4 old.length c4) hol hll h2 ((hls.ext E1).ext E2).sl (cm.ext (cm.ext ho E1) E2)
   have hcl2:=yG (.slice ad4 old.length c4) old hol h2 (cm.ext (cm.ext ho E1) E2)
   simp only[mq]
   by_cases q3:R.answer=3
   ·simp -implicitDefEqProofs[ae,aC,qm,q3]
    intro _
    refine hse1.mono ?_
    rintro r h' ⟨e,rfl⟩
    replace e:=e.symm
    subst e
    simp -implicitDefEqProofs[ae,aC]
    intro _
    refine hse2.mono ?_
    rintro r h' ⟨e,rfl⟩
    replace e:=e.symm
    subst e
    by_cases q4:jH l R.aW≤jH l old
    ·simp -implicitDefEqProofs[ae,aC,q4]
     intro _
     refine hcl2.mono ?_
     rintro r h3 ⟨E3,W⟩
     obtain⟨ad6,rfl,hw6⟩:=id W
     simp -implicitDefEqProofs[ae,aC]
     intro _
     refine⟨(E1.trans E2).trans E3,.inr ?_⟩
     have en:=(E1.trans E2).n
     refine⟨ad6,rfl,?_⟩
     rcases hw6 with z|⟨b',z1,z2,z3,z4⟩
     ·exact .inl z
     ·exact .inr ⟨b',z1,z2,by omega,z4⟩
    ·simp -implicitDefEqProofs[ae,aC,q4]
     intro _
     exact⟨E1.trans E2,_,⟨q3.symm,rfl⟩,.inl hS⟩
   ·simp -implicitDefEqProofs[ae,aC,qm,q3]
    intro _
    exact⟨E1.trans E2,.inl hS⟩
 ·have qm':ix v l old pins=false:=by simpa using qm
  simp -implicitDefEqProofs[ae,qm']
  intro _
  exact⟨E1,.slice none 0 0,⟨none,0,0,rfl⟩,gr.nil⟩
end Go.Proofs.Ybk.K

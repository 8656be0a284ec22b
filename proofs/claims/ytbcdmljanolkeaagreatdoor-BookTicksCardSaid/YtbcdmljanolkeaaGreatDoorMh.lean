import Derived.Test.YtbcdmljanolkeaaGreatDoorMg
import Derived.ChangeShapes
set_option linter.unusedVariables false
set_option linter.unusedSimpArgs false
set_option linter.unusedSectionVars false
set_option linter.constructorNameAsVariable false
set_option maxRecDepth 20000
namespace Go.Proofs.Ybk.K
open Go Go.Am
set_option maxHeartbeats 4000000
open V (aq aP ah al aQ ab aX aM aB bT bX aZ bF)
open T (de)
open F (bQ jd)
theorem KN {n:Int} (h: -2147483648≤n∧n≤2147483647):(Lib.itoa n).length≤21:=by
 unfold Lib.itoa
 split
 ·have:=F.pQ (u:=n.natAbs) (by omega)
  simp;omega
 ·have:=F.pQ (u:=n.toNat) (by omega)
  omega
theorem agJ (l:List Int) (n:Int):de (l++[n])=de l++32::Lib.itoa n:=by
 induction l with
 |nil=>simp[de]
 |cons a r ih=>rw[List.cons_append,de,ih,de];simp
theorem O4:∀(l:List Int),(∀n∈l,-2147483648≤n∧n≤2147483647)→(de l).length≤22*l.length:=by
 intro l
 induction l with
 |nil=>intro _;simp[de]
 |cons n r ih=>
  intro h
  have h1:=KN (h n List.mem_cons_self)
  have h2:=ih (fun x hx=>h x (List.mem_cons_of_mem _ hx))
  have e:de (n::r)=(32::Lib.itoa n)++de r:=rfl
  rw[e,List.length_append,List.length_cons,List.length_cons];omega
def Tk (w:List UInt8) (l:List Int) (lv:Value) (h:aa) (m n:Nat) (σ:St):Prop:=∃i:Nat,n=m-i∧i≤m∧σ.m.h=h∧σ.t.get 0=some (.string (B (w++de (l.take i))))∧σ.t.get 7=some lv∧σ.t.get 8=some (.int .i64 (m:Nat))∧σ.t.get 9=some (.int .i64 (i:Nat))
theorem oz (w:List UInt8) (l:List Int) (hw:w.length≤100) (hl:l.length≤100) (hb:∀n∈l,-2147483648≤n∧n≤2147483647) (s:Value) (h:aa) (G:bQ h) (H:aZ h s l):
  ai PP 85 [.string (B w),s] h (fun r h'=>h'=h∧r= .string (B (w++de l))):=by
 refine az mix adE XJ rfl (by show 2≤20;decide) akC ?_
 simp only[yu,Tryz.f85]
 obtain⟨ad,c,rfl⟩:=H.shape
 obtain⟨m,hm⟩:∃m,m=l.length:=⟨_,rfl⟩
 rw[←hm]at H hl ⊢
 simp -implicitDefEqProofs
 refine bD (Tk w l (.slice ad m c) h m) _ ⟨0,rfl,by omega,rfl,by simp[de],by simp,by simp,by simp⟩ ?_
 rintro n ⟨T,⟨x,G'⟩⟩ ⟨i,rfl,hi,hG,g0,g7,g8,g9⟩
 simp at hG g0 g7 g8 g9
 subst hG
 simp -implicitDefEqProofs[g0,g7,g8,g9]
 refine bB (fun hc=>?_) (fun hc=>?_)<;>simp only[decide_eq_true_eq,decide_eq_false_iff_not]at hc
 ·have him:i<m:=by omega
  have w1:IntKind.wrap .i64 ((i:Int)+1)=((i+1:Nat):Int):=by rw[aA (by omega)];omega
  have hti:l[i]? =some l[i]:=List.getElem?_eq_getElem (by omega)
  obtain⟨_,b',o1,w0,cells',r,rfl,hb',hd',hlc,_⟩:=H.at 1 V.cY hti
  obtain⟨t,ht⟩:∃t,t=l[i]:=⟨_,rfl⟩
  rw[←ht]at hd' hti
  rw[Nat.mul_one]at hd' hlc
  have htb:=hb t (List.mem_of_getElem? hti)
  have hit:=F.aeN t (by omega) G' G
  have hnl:=O4 (l.take i) (fun n hn=>hb n (List.mem_of_mem_take hn))
  rw[List.length_take]at hnl
  have hnx:de (l.take (i+1))=de (l.take i)++32::Lib.itoa t:=by rw[List.take_add_one,hti,Option.toList_some,agJ]
  have hil:=KN htb
  obtain⟨S,hS⟩:∃S,S=de (l.take i):=⟨_,rfl⟩
  rw[←hS]at hnl hnx g0 ⊢
  obtain⟨u,hu⟩:∃u,u=Lib.itoa t:=⟨_,rfl⟩
  rw[←hu]at hil hit hnx
  have f0:u.length≤9223372036854775806:=by omega
  have f1:1+u.length≤9223372036854775807:=by omega
  have f2:w.length+S.length+(u.length+1)≤9223372036854775807:=by omega
  have f3:w.length+(S.length+(u.length+1))≤9223372036854775807:=by omega
  have f4:w.length+S.length+u.length≤9223372036854775806:=by omega
  have f5:w.length+(S.length+u.length)≤9223372036854775806:=by omega
  simp -implicitDefEqProofs[g0,g7,g8,g9,him,hb',hd',hlc,ab]
  refine hit.mono ?_
  rintro r h' ⟨rfl,rfl⟩
  simp -implicitDefEqProofs[ae,g0,g7,g8,g9,f0,f1,f2,f3,f4,f5,w1]
  intro _
  exact⟨m-(i+1),by omega,i+1,rfl,by omega,rfl,by rw[hnx];simp,by simp[g7],by simp[g8],by simp⟩
 ·have e:i=m:=by omega
  have et:l.take i=l:=List.take_of_length_le (by omega)
  rw[et]at g0
  simp -implicitDefEqProofs[g0,et]
theorem yO:iM 122 9 1 16 jd:=⟨JT,Qq,⟨_,RF,rfl⟩,BO,FU,by decide,by decide,fun _=>rfl,fun _=>rfl⟩
theorem lx (h:aa) (l:List Int) (hne:l≠[]):aZ (h.new (.row true 3 (l.map (Value.int .i64)))) (.slice (some ⟨h.n,0,none⟩) l.length l.length) l:=by
 have e:l.map (Value.int .i64)=l.flatMap ab:=by induction l with
  |nil=>rfl
  |cons z r ih=>
   cases r with
   |nil=>rfl
   |cons y t=>rw[List.map_cons,List.flatMap_cons,ih (by simp)];rfl
 exact⟨_,_,rfl,fun z=>(by cases z),.inr ⟨h.n,0,true,l.map (Value.int .i64),[],rfl,by simp,by rw[e];simp,by simp,by simp⟩⟩
theorem aeR:∀(L:List (List UInt8)),L≠[]→Lib.join L [10]++[10]=fZ L:=by
 intro L hL
 cases L with
 |nil=>exact absurd rfl hL
 |cons x r=>
  rw[Lib.join_cons]
  have:∀r:List (List UInt8),Lib.joinTail [10] r++[10]=10::fZ r:=by
   intro r
   induction r with
   |nil=>rfl
   |cons y t ih=>
    have e:Lib.joinTail [10] (y::t)=([10]++y)++Lib.joinTail [10] t:=by simp[Lib.joinTail]
    have e2:fZ (y::t)=y++10::fZ t:=by simp[fZ]
    rw[e,e2,List.append_assoc,ih];simp
  have e2:fZ (x::r)=x++10::fZ r:=by simp[fZ]
  rw[e2,List.append_assoc,this]
theorem aml (s:aq) (hk:0≤s.kind∧s.kind≤2) (hb:∀n∈[s.row,s.x,s.y],-2147483648≤n∧n≤2147483647) (h:aa) (G:bQ h):ai PP 86 [aX s] h (fun v h'=>Ext h h'∧v= .string (B (Ln.dP s).bytes)):=by
 refine az mix adF XK rfl (by show 1≤21;decide) akD ?_
 simp only[yv,Tryz.f86]
 have hr3:List.range 3=[0,1,2]:=rfl
 have hI:=lx h [s.row,s.x,s.y] (by simp)
 have E:=Ext.new h (.row true 3 ([s.row,s.x,s.y].map (Value.int .i64)))
 have hL:=fun w (hw:w.length≤100)=>oz w [s.row,s.x,s.y] hw (by simp) hb _ _ (G.ext E) hI
 simp only[List.map_cons,List.map_nil,List.length_cons,List.length_nil]at hL E
 have hby:(Ln.dP s).bytes=km s.kind++de [s.row,s.x,s.y]:=rfl
 rw[hby]
 unfold km kl jK jJ
 have fin:∀w r h',(h'=h.new (.row true 3 [.int .i64 s.row,.int .i64 s.x,.int .i64 s.y])∧r=Value.string (B (w++de [s.row,s.x,s.y])))→Ext h h':=fun w r h' z=>by rw[z.1];exact E
 by_cases h0:s.kind=0
 ·have hL':=hL [115,101,97,116] (by decide)
  simp -implicitDefEqProofs[aX,al,h0,aI,hr3]
  refine hL'.mono ?_
  rintro r h' ⟨rfl,rfl⟩
  simp -implicitDefEqProofs[ae]
  intro _
  exact E
 ·by_cases h1:s.kind=1
  ·have hL':=hL [119,104,101,101,108] (by decide)
   simp -implicitDefEqProofs[aX,al,h1,aI,hr3]
   refine hL'.mono ?_
   rintro r h' ⟨rfl,rfl⟩
   simp -implicitDefEqProofs[ae]
   intro _
   exact E
  ·have h2:s.kind=2:=by omega
   have hL':=hL [99,111,109,112,97,110,105,111,110] (by decide)
   simp -implicitDefEqProofs[aX,al,h2,aI,hr3]
   refine hL'.mono ?_
   rintro r h' ⟨rfl,rfl⟩
   simp -implicitDefEqProofs[ae]
   intro _
   exact E
theorem zx {v:ah} (M:fK v):∀k∈v.aD,0≤k∧k<v.af.length:=by
 have h:=M.aD
 intro k hk
 obtain⟨i,hi,rfl⟩:=List.getElem_of_mem hk
 unfold V.ft at h
 simp only[Bool.and_eq_true,List.all_eq_true]at h
 have:=h.1 i (List.mem_range.2 hi)
 unfold V.eV at this
 rw[List.getElem?_eq_getElem hi]at this
 simp only[Bool.and_eq_true,decide_eq_true_eq]at this
 exact⟨this.1,this.2.1⟩
theorem aeS:∀(L:List (List UInt8)),(∀l∈L,l.length≤99)→(fZ L).length≤100*L.length:=by
 intro L
 induction L with
 |nil=>intro _;simp[fZ]
 |cons x r ih=>
  intro h
  have e2:fZ (x::r)=x++10::fZ r:=by simp[fZ]
  have h1:=h x List.mem_cons_self
  have h2:=ih (fun l hl=>h l (List.mem_cons_of_mem _ hl))
  rw[e2,List.length_append,List.length_cons,List.length_cons];omega
theorem qT (x:Ln) (hw:x.word.length≤9) (hn:∀n∈x.fP,-2147483648≤n∧n≤2147483647) (hl:x.fP.length≤3):x.bytes.length≤99:=by
 unfold Ln.bytes
 rw[List.length_append]
 have:=O4 x.fP hn
 omega
theorem aqH (k:Int):(km k).length≤9:=by
 unfold km
 split
 ·decide
 ·split
  ·decide
  ·split<;>decide
theorem afy {v:ah} (M:fK v):∀l∈(ey v).map Ln.bytes,l.length≤99:=by
 intro l hl
 obtain⟨x,hx,rfl⟩:=List.mem_map.1 hl
 have hg:=M.aV
 have hr:=M.bg
 unfold ey at hx
 rcases List.mem_append.1 hx with hx|hx
 ·simp only[List.mem_cons,List.not_mem_nil,or_false]at hx
  rcases hx with rfl|rfl
  ·exact qT _ (by show 3≤9;decide) (fun n hn=>by simp only[Ln.fP,List.mem_singleton]at hn;subst hn;omega) (by show 1≤3;decide)
  ·exact qT _ (by show 6≤9;decide) (fun n hn=>by simp only[Ln.fP,List.mem_singleton]at hn;subst hn;omega) (by show 1≤3;decide)
 ·rcases List.mem_append.1 hx with hx|hx
  ·obtain⟨s,hs,rfl⟩:=List.mem_map.1 hx
   obtain⟨i,hi,rfl⟩:=List.getElem_of_mem hs
   have:=M.dP (List.getElem?_eq_getElem hi)
   exact qT _ (aqH _) (fun n hn=>by simp only[Ln.fP,List.mem_cons,List.not_mem_nil,or_false]at hn;rcases hn with rfl|rfl|rfl<;>omega) (by show 3≤3;decide)
  ·rcases List.mem_append.1 hx with hx|hx
   ·obtain⟨k,hk,rfl⟩:=List.mem_map.1 hx
    have hkb:=zx M k hk
    have hi:k.toNat<v.af.length:=by omega
    have e:jc v k=v.af[k.toNat]:=by unfold jc;rw[List.getD_eq_getElem?_getD,List.getElem?_eq_getElem hi];rfl
    have:=M.dP (List.getElem?_eq_getElem hi)
    rw[←e]at this
    exact qT _ (by show 4≤9;decide) (fun n hn=>by simp only[Ln.fP,List.mem_cons,List.not_mem_nil,or_false]at hn;rcases hn with rfl|rfl<;>omega) (by show 2≤3;decide)
   ·obtain⟨p,hp,rfl⟩:=List.mem_map.1 hx
    obtain⟨i,hi,rfl⟩:=List.getElem_of_mem hp
    have:=M.fR (List.getElem?_eq_getElem hi)
    exact qT _ (by show 4≤9;decide) (fun n hn=>by simp only[Ln.fP,List.mem_cons,List.not_mem_nil,or_false]at hn;rcases hn with rfl|rfl|rfl<;>omega) (by show 3≤3;decide)
theorem af1 {v:ah} (M:fK v):v.af.length≤4096∧v.aD.length≤200∧v.aE.length≤200:=⟨M.len.2,M.zw,M.Ab⟩
def Tx (h:aa) (cs:List Value) (pre:List (List UInt8)) (σ:St):Prop:=∃o w,Ext h σ.m.h∧Ow 9 jd h σ.m.h o pre w∧σ.t.get 1=some (.pointer (some ⟨1,0,some 0⟩))∧σ.t.get 4=some w∧σ.m.x.look 1=some (63,cs)
def AU (s1 s2 s3:Nat) (cs:List Value) (sv:Value) (pre xs:List (List UInt8)) (m:Nat) (h:aa) (n:Nat) (σ:St):Prop:=∃(i:Nat) (o:Option Nat) (w:Value),n=m-i∧i≤m∧Ext h σ.m.h∧Ow 9 jd h σ.m.h o (pre++xs.take i) w∧σ.t.get 1=some (.pointer (some ⟨1,0,some 0⟩))∧σ.t.get 4=some w∧σ.t.get s1=some sv∧σ.t.get s2=some (.int .i64 (m:Nat))∧σ.t.get s3=some (.int .i64 (i:Nat))∧σ.m.x.look 1=some (63,cs)
def Tl (sv:Value) (pre xs:List (List UInt8)) (m:Nat) (h:aa) (n:Nat) (σ:St):Prop:=∃(i:Nat) (o:Option Nat) (w:Value),n=m-i∧i≤m∧Ext h σ.m.h∧Ow 9 jd h σ.m.h o (pre++xs.take i) w∧σ.t.get 4=some w∧σ.t.get 62=some sv∧σ.t.get 63=some (.int .i64 (m:Nat))∧σ.t.get 64=some (.int .i64 (i:Nat))
theorem zT {h G:aa} (E:Ext h G) (l:List (List UInt8)) (hne:l≠[]) {cells:List Value} (hc:cells=l.flatMap jd) {n:Nat} (hn:n=l.length):Ow 9 jd h (G.new (.row true 9 cells)) (some G.n) l (.slice (some ⟨G.n,0,none⟩) n n):=by
 refine⟨by rw[hn];rfl,?_,E.n,by simp⟩
 rw[hc];simp
theorem amh (v:ah) (hm:aM v=true) (cs:List Value) (h:aa) (G:bQ h) (H:dJ h v cs):
  ai PP 45 [.agg ⟨cs⟩] h (fun r h'=>Ext h h'∧r= .tuple #[.string (B (iK v)),.int .i64 0]):=by
 refine az mix ac1 Xj rfl (by show 1≤83;decide) akc ?_
 simp only[xS,Tryz.f45]
 have M:=j6 hm
 obtain⟨hl1,hl2,hl3⟩:=af1 M
 have hmay:=V.j7 v cs M.small h H.cK
 rw[hm]at hmay
 have hgap:=M.aV
 have hrad:=M.bg
 obtain⟨s,k,p,rfl,z1,z2,z3⟩:=H
 obtain⟨b1,d1,rfl⟩:=z1.shape
 obtain⟨b2,d2,rfl⟩:=z2.shape
 obtain⟨b3,d3,rfl⟩:=z3.shape
 obtain⟨ms,hms⟩:∃m,m=v.af.length:=⟨_,rfl⟩
 obtain⟨mk,hmk⟩:∃m,m=v.aD.length:=⟨_,rfl⟩
 obtain⟨mp,hmp⟩:∃m,m=v.aE.length:=⟨_,rfl⟩
 have hr1:List.range 1=[0]:=rfl
 have hr2:List.range 2=[0,1]:=rfl
 have hr3:List.range 3=[0,1,2]:=rfl
 obtain⟨g,hg⟩:∃g,g=v.aV:=⟨_,rfl⟩
 obtain⟨r,hr⟩:∃r,r=v.bg:=⟨_,rfl⟩
 obtain⟨cs,hcs⟩:∃cs,cs=[Value.slice b1 ms d1,Value.int IntKind.i64 g,Value.int IntKind.i64 r,Value.slice b2 mk d2,Value.slice b3 mp d3]:=⟨_,rfl⟩
 rw[←hg,←hr,←hms,←hmk,←hmp]at hmay ⊢
 rw[←hg]at hgap
 rw[←hr]at hrad
 have lg:=fun s H G I=>oz [103,97,112] [g] (by decide) (by simp) (fun n hn=>by rw[List.mem_singleton]at hn;subst hn;omega) s H G I
 have lr:=fun s H G I=>oz [114,97,100,105,117,115] [r] (by decide) (by simp) (fun n hn=>by rw[List.mem_singleton]at hn;subst hn;omega) s H G I
 have pre2:[(Ln.aV g).bytes,(Ln.dX r).bytes].flatMap jd=[.string (B ([103,97,112]++de [g])),.string (B ([114,97,100,105,117,115]++de [r]))]:=rfl
 simp -implicitDefEqProofs
 refine hmay.mono ?_
 rintro rr h' ⟨e,rfl⟩
 replace e:=e.symm
 subst e
 simp -implicitDefEqProofs[ae]
 intro _
 refine si (Tx h cs [(Ln.aV g).bytes,(Ln.dX r).bytes]) ?_ ?_
 ·rw[gv,gv,gv,qN]
  have Eg:=Ext.new h (.row true 3 ([g].map (Value.int .i64)))
  have Er:=Ext.new h (.row true 3 ([r].map (Value.int .i64)))
  have Egr:=Ext.new (h.new (.row true 3 ([g].map (Value.int .i64)))) (.row true 3 ([r].map (Value.int .i64)))
  have Erg:=Ext.new (h.new (.row true 3 ([r].map (Value.int .i64)))) (.row true 3 ([g].map (Value.int .i64)))
  have Ig:=lx h [g] (by simp)
  have Ir:=lx h [r] (by simp)
  have Igr:=lx (h.new (.row true 3 ([g].map (Value.int .i64)))) [r] (by simp)
  have Irg:=lx (h.new (.row true 3 ([r].map (Value.int .i64)))) [g] (by simp)
  refine⟨?_,?_,?_,trivial⟩
  ·simp -implicitDefEqProofs[aI,hr1,hr2]
   refine(lg _ _ (G.ext Eg) Ig).mono ?_
   rintro rr h' ⟨rfl,rfl⟩
   simp -implicitDefEqProofs[aC,aI,hr1,hr2]
   intro _
   refine(lr _ _ ((G.ext Eg).ext Egr) Igr).mono ?_
   rintro rr h' ⟨rfl,rfl⟩
   simp -implicitDefEqProofs[aC,aI,hr1,hr2]
   intro _
   exact⟨_,_,(Eg.trans Egr).bA _,zT (Eg.trans Egr) _ (by simp) pre2.symm rfl,by simp,by simp,by simp[hcs]⟩
  ·simp -implicitDefEqProofs[aI,hr1,hr2]
   refine(lg _ _ ((G.ext Eg).ext Egr) (Ig.ext Egr)).mono ?_
   rintro rr h' ⟨rfl,rfl⟩
   simp -implicitDefEqProofs[aC,aI,hr1,hr2]
   intro _
   refine(lr _ _ ((G.ext Eg).ext Egr) Igr).mono ?_
   rintro rr h' ⟨rfl,rfl⟩
   simp -implicitDefEqProofs[aC,aI,hr1,hr2]
   intro _
   exact⟨_,_,(Eg.trans Egr).bA _,zT (Eg.trans Egr) _ (by simp) pre2.symm rfl,by simp,by simp,by simp[hcs]⟩
  ·simp -implicitDefEqProofs[aI,hr1,hr2]
   refine(lg _ _ ((G.ext Er).ext Erg) Irg).mono ?_
   rintro rr h' ⟨rfl,rfl⟩
   simp -implicitDefEqProofs[aC,aI,hr1,hr2]
   intro _
   refine(lr _ _ ((G.ext Er).ext Erg) (Ir.ext Erg)).mono ?_
   rintro rr h' ⟨rfl,rfl⟩
   simp -implicitDefEqProofs[aC,aI,hr1,hr2]
   intro _
   exact⟨_,_,(Er.trans Erg).bA _,zT (Er.trans Erg) _ (by simp) pre2.symm rfl,by simp,by simp,by simp[hcs]⟩
 ·rintro⟨T,⟨x,G0⟩⟩ ⟨o,w,E,W,g1,g4,x1⟩
  simp at E W g1 g4 x1
  obtain⟨P0,hP0⟩:∃P,P=[(Ln.aV g).bytes,(Ln.dX r).bytes]:=⟨_,rfl⟩
  obtain⟨X1,hX1⟩:∃X,X=v.af.map fun s=>(Ln.dP s).bytes:=⟨_,rfl⟩
  obtain⟨X2,hX2⟩:∃X,X=v.aD.map fun k=>(Ln.kill (jc v k).row (jc v k).x).bytes:=⟨_,rfl⟩
  obtain⟨X3,hX3⟩:∃X,X=v.aE.map fun p=>(Ln.fR p).bytes:=⟨_,rfl⟩
  have aL:(ey v).map Ln.bytes=P0++(X1++(X2++X3)):=by
   rw[hP0,hX1,hX2,hX3,hg,hr];simp[ey,Function.comp_def]
  have hX1l:X1.length=ms:=by rw[hX1,hms];simp
  have hX2l:X2.length=mk:=by rw[hX2,hmk];simp
  have hX3l:X3.length=mp:=by rw[hX3,hmp];simp
  have hP0l:P0.length=2:=by rw[hP0];rfl
  rw[←hP0]at W
  have hwn:bL w=true:=by rw[W.1];rfl
  simp only[bL,fO,Option.isNone_iff_eq_none]at hwn
  simp -implicitDefEqProofs[g1,g4,x1,hcs,hwn]
  rw[←hcs]
  refine bD (AU 24 25 26 cs (.slice b1 ms d1) P0 X1 ms h) _ ⟨0,o,_,rfl,by omega,E,by simpa using W,by simp[g1],by simp[g4],by simp,by simp,by simp,by simp[x1]⟩ ?_
  clear W E g1 g4 x1
  rintro n1 ⟨T,⟨x,H1⟩⟩ ⟨i,o,w,rfl,hi,E,W,g1,g4,gs,gm,gi,x1⟩
  simp at E W g1 g4 gs gm gi x1
  have hwn:bL w=true:=by rw[W.1];rfl
  simp only[bL,fO,Option.isNone_iff_eq_none]at hwn
  rw[hcs]at x1
  simp -implicitDefEqProofs[g1,g4,gs,gm,gi,x1,hwn]
  refine bB (fun hc=>?_) (fun hc=>?_)<;>simp only[decide_eq_true_eq,decide_eq_false_iff_not]at hc
  ·have him:i<ms:=by omega
   have w1:IntKind.wrap .i64 ((i:Int)+1)=((i+1:Nat):Int):=by rw[aA (by omega)];omega
   have hti:v.af[i]? =some v.af[i]:=List.getElem?_eq_getElem (by omega)
   obtain⟨t,ht⟩:∃t,t=v.af[i]:=⟨_,rfl⟩
   rw[←ht]at hti
   have zz:=z1.ext E
   rw[←hms]at zz
   obtain⟨_,b',o1,cells',rr,rfl,hb',hd',hlc,_⟩:=zz.at 4 V.eM hti
   have hse:=M.dP hti
   have hps:=aml t (by omega) (fun n hn=>by simp at hn;rcases hn with rfl|rfl|rfl<;>omega) H1 (G.ext E)
   have hxi:X1[i]? =some (Ln.dP t).bytes:=by rw[hX1,List.getElem?_map,hti];rfl
   have hnx:P0++X1.take (i+1)=(P0++X1.take i)++[(Ln.dP t).bytes]:=by rw[List.take_add_one,hxi,List.append_assoc];rfl
   have hal:(P0++X1.take i).length≤10000:=by rw[List.length_append,List.length_take,hP0l];omega
   obtain⟨acc,hacc⟩:∃acc,acc=P0++X1.take i:=⟨_,rfl⟩
   rw[←hacc]at W hal hnx
   obtain⟨rfl,_⟩:=id W
   obtain⟨by_,hby⟩:∃z,z=(Ln.dP t).bytes:=⟨_,rfl⟩
   rw[←hby]at hnx hps
   simp only[aX,al]at hps
   simp -implicitDefEqProofs[g1,g4,gs,gm,gi,x1,him,hb',hd',hlc,al]
   refine hps.mono ?_
   rintro rr H2 ⟨E2,rfl⟩
   have W2:=W.ext E2
   have hA:=gx yO W2 by_ (by omega)
   simp only[jd]at hA
   simp -implicitDefEqProofs[ae,g1,g4,gs,gm,gi,x1,aI,hr1,hA,w1]
   intro _
   refine⟨ms-(i+1),by omega,i+1,some (H2.n+1),.slice (some ⟨H2.n+1,0,none⟩) (acc.length+1) (acc.length+1),rfl,by omega,gz (E.trans E2) W2 _ _,?_,by simp[g1],by simp,by simp[gs],by simp[gm],by simp,by simp[x1,hcs]⟩
   rw[hnx]
   exact Ow.one W2 (E.trans E2).n _ by_ rfl
  ·have him:i=ms:=by omega
   rw[him,List.take_of_length_le (by omega)]at W
   obtain⟨P1,hP1⟩:∃P,P=P0++X1:=⟨_,rfl⟩
   have hP1l:P1.length≤5000:=by rw[hP1,List.length_append];omega
   rw[←hP1]at W
   simp -implicitDefEqProofs[g1,g4,x1,hwn]
   rw[←hcs]
   refine bD (AU 37 38 39 cs (.slice b2 mk d2) P1 X2 mk h) _ ⟨0,o,_,rfl,by omega,E,by simpa using W,by simp[g1],by simp[g4],by simp,by simp,by simp,by simp[x1,hcs]⟩ ?_
   clear W E g1 g4 x1 gs gm gi hc him hi
   rintro n1 ⟨T,⟨x,H1⟩⟩ ⟨i,o,w,rfl,hi,E,W,g1,g4,gs,gm,gi,x1⟩
   simp at E W g1 g4 gs gm gi x1
   have hwn:bL w=true:=by rw[W.1];rfl
   simp only[bL,fO,Option.isNone_iff_eq_none]at hwn
   rw[hcs]at x1
   simp -implicitDefEqProofs[g1,g4,gs,gm,gi,x1,hwn]
   refine bB (fun hc=>?_) (fun hc=>?_)<;>simp only[decide_eq_true_eq,decide_eq_false_iff_not]at hc
   ·have him:i<mk:=by omega
    have w1:IntKind.wrap .i64 ((i:Int)+1)=((i+1:Nat):Int):=by rw[aA (by omega)];omega
    have hti:v.aD[i]? =some v.aD[i]:=List.getElem?_eq_getElem (by omega)
    obtain⟨t,ht⟩:∃t,t=v.aD[i]:=⟨_,rfl⟩
    rw[←ht]at hti
    have zz:=z2.ext E
    rw[←hmk]at zz
    obtain⟨_,b',o1,cells',rr,rfl,hb',hd',hlc,_⟩:=zz.at 1 V.cY hti
    rw[Nat.mul_one]at hd' hlc
    have hkb:=zx M t (List.mem_of_getElem? hti)
    obtain⟨kn,rfl⟩:∃kn:Nat,t=kn:=⟨t.toNat,by omega⟩
    have hkms:kn<ms:=by omega
    have huj:v.af[kn]? =some v.af[kn]:=List.getElem?_eq_getElem (by omega)
    obtain⟨u,hu⟩:∃u,u=v.af[kn]:=⟨_,rfl⟩
    rw[←hu]at huj
    have zs:=z1.ext E
    rw[←hms]at zs
    obtain⟨_,b5,o5,cells5,rr5,rfl,hb5,hd5,hlc5,_⟩:=zs.at 4 V.eM huj
    have hd5':cells5.drop (o5+kn*4+1)=[Value.int .i64 u.x,.int .i64 u.y,.int .i64 u.kind]++rr5:=by rw[←List.drop_drop,hd5];rfl
    have q1:o5+kn*4+1≤cells5.length:=by omega
    have q2:o5+kn*4+1+1≤cells5.length:=by omega
    have q3:o5+kn*4+2≤cells5.length:=by omega
    have hsa:jc v (kn:Nat)=u:=by unfold jc;rw[Int.toNat_natCast,List.getD_eq_getElem?_getD,huj];rfl
    have hse:=M.dP huj
    have Ik:=lx H1 [u.row,u.x] (by simp)
    have Ek:=Ext.new H1 (.row true 3 ([u.row,u.x].map (Value.int .i64)))
    have hli:=oz [107,105,108,108] [u.row,u.x] (by decide) (by simp) (fun n hn=>by simp at hn;rcases hn with rfl|rfl<;>omega) _ _ ((G.ext E).ext Ek) Ik
    have hxi:X2[i]? =some (Ln.kill u.row u.x).bytes:=by rw[hX2,List.getElem?_map,hti,Option.map_some,hsa]
    have hnx:P1++X2.take (i+1)=(P1++X2.take i)++[(Ln.kill u.row u.x).bytes]:=by rw[List.take_add_one,hxi,List.append_assoc];rfl
    have hal:(P1++X2.take i).length≤10000:=by rw[List.length_append,List.length_take];omega
    obtain⟨acc,hacc⟩:∃acc,acc=P1++X2.take i:=⟨_,rfl⟩
    rw[←hacc]at W hal hnx
    obtain⟨rfl,_⟩:=id W
    have hby0:(Ln.kill u.row u.x).bytes=[107,105,108,108]++de [u.row,u.x]:=rfl
    rw[hby0]at hnx
    obtain⟨by_,hby⟩:∃z,z=[107,105,108,108]++de [u.row,u.x]:=⟨_,rfl⟩
    rw[←hby]at hnx hli
    have W2:=W.ext Ek
    have hA:=gx yO W2 by_ (by omega)
    simp only[jd]at hA
    simp only[List.map_cons,List.map_nil,List.length_cons,List.length_nil,cZ,Nat.zero_add,Nat.reduceAdd]at hli hA W2 Ek
    simp -implicitDefEqProofs[g1,g4,gs,gm,gi,x1,him,hb',hd',hlc,ab,hkms,hb5,hd5,hd5',hlc5,q1,q2,q3,al,aI,hr1,hr2]
    refine hli.mono ?_
    rintro rr h' ⟨rfl,rfl⟩
    simp -implicitDefEqProofs[aC,g1,g4,gs,gm,gi,x1,aI,hr1,hA,w1]
    intro _
    refine⟨mk-(i+1),by omega,i+1,some (H1.n+1+1),.slice (some ⟨H1.n+1+1,0,none⟩) (acc.length+1) (acc.length+1),rfl,by omega,gz (E.trans Ek) W2 _ _,?_,by simp[g1],by simp,by simp[gs],by simp[gm],by simp,by simp[x1,hcs]⟩
    rw[hnx]
    exact Ow.one W2 (E.trans Ek).n _ by_ rfl
   ·have him:i=mk:=by omega
    rw[him,List.take_of_length_le (by omega)]at W
    obtain⟨P2,hP2⟩:∃P,P=P1++X2:=⟨_,rfl⟩
    have hP2l:P2.length≤6000:=by rw[hP2,List.length_append];omega
    rw[←hP2]at W
    simp -implicitDefEqProofs[g1,g4,x1,hwn]
    refine bD (Tl (.slice b3 mp d3) P2 X3 mp h) _ ⟨0,o,_,rfl,by omega,E,by simpa using W,by simp[g4],by simp,by simp,by simp⟩ ?_
    clear W E g1 g4 x1 gs gm gi hc him hi
    rintro n1 ⟨T,⟨x,H1⟩⟩ ⟨i,o,w,rfl,hi,E,W,g4,gs,gm,gi⟩
    simp at E W g4 gs gm gi
    have hwn:bL w=true:=by rw[W.1];rfl
    simp only[bL,fO,Option.isNone_iff_eq_none]at hwn
    simp -implicitDefEqProofs[g4,gs,gm,gi,hwn]
    refine bB (fun hc=>?_) (fun hc=>?_)<;>simp only[decide_eq_true_eq,decide_eq_false_iff_not]at hc
    ·have him:i<mp:=by omega
     have w1:IntKind.wrap .i64 ((i:Int)+1)=((i+1:Nat):Int):=by rw[aA (by omega)];omega
     have hti:v.aE[i]? =some v.aE[i]:=List.getElem?_eq_getElem (by omega)
     obtain⟨t,ht⟩:∃t,t=v.aE[i]:=⟨_,rfl⟩
     rw[←ht]at hti
     have zz:=z3.ext E
     rw[←hmp]at zz
     obtain⟨_,b',o1,cells',rr,rfl,hb',hd',hlc,_⟩:=zz.at 3 V.mj hti
     have hpo:=M.fR hti
     have Ik:=lx H1 [t.x,t.y,t.r] (by simp)
     have Ek:=Ext.new H1 (.row true 3 ([t.x,t.y,t.r].map (Value.int .i64)))
     have hli:=oz [112,111,108,101] [t.x,t.y,t.r] (by decide) (by simp) (fun n hn=>by simp at hn;rcases hn with rfl|rfl|rfl<;>omega) _ _ ((G.ext E).ext Ek) Ik
     have hxi:X3[i]? =some (Ln.fR t).bytes:=by rw[hX3,List.getElem?_map,hti];rfl
     have hnx:P2++X3.take (i+1)=(P2++X3.take i)++[(Ln.fR t).bytes]:=by rw[List.take_add_one,hxi,List.append_assoc];rfl
     have hal:(P2++X3.take i).length≤10000:=by rw[List.length_append,List.length_take];omega
     obtain⟨acc,hacc⟩:∃acc,acc=P2++X3.take i:=⟨_,rfl⟩
     rw[←hacc]at W hal hnx
     obtain⟨rfl,_⟩:=id W
     have hby0:(Ln.fR t).bytes=[112,111,108,101]++de [t.x,t.y,t.r]:=rfl
     rw[hby0]at hnx
     obtain⟨by_,hby⟩:∃z,z=[112,111,108,101]++de [t.x,t.y,t.r]:=⟨_,rfl⟩
     rw[←hby]at hnx hli
     have W2:=W.ext Ek
     have hA:=gx yO W2 by_ (by omega)
     simp only[jd]at hA
     simp only[List.map_cons,List.map_nil,List.length_cons,List.length_nil,cZ,Nat.zero_add,Nat.reduceAdd]at hli hA W2 Ek
     simp -implicitDefEqProofs[g4,gs,gm,gi,him,hb',hd',hlc,aQ,aI,hr1,hr3]
     refine hli.mono ?_
     rintro rr h' ⟨rfl,rfl⟩
     simp -implicitDefEqProofs[ae,g4,gs,gm,gi,aI,hr1,hA,w1]
     intro _
     refine⟨mp-(i+1),by omega,i+1,some (H1.n+1+1),.slice (some ⟨H1.n+1+1,0,none⟩) (acc.length+1) (acc.length+1),rfl,by omega,gz (E.trans Ek) W2 _ _,?_,by simp,by simp[gs],by simp[gm],by simp⟩
     rw[hnx]
     exact Ow.one W2 (E.trans Ek).n _ by_ rfl
    ·have him:i=mp:=by omega
     rw[him,List.take_of_length_le (by omega)]at W
     have hfin:P2++X3=(ey v).map Ln.bytes:=by rw[aL,hP2,hP1];simp
     rw[hfin]at W
     have hne:(ey v).map Ln.bytes≠[]:=by rw[aL,hP0];simp
     have hll:((ey v).map Ln.bytes).length≤6000:=by rw[aL];simp only[List.length_append];omega
     have hjj:=aeR ((ey v).map Ln.bytes) hne
     have hjl:(Lib.join ((ey v).map Ln.bytes) [10]).length≤1000000000:=by
      have q:=aeS _ (afy M)
      have q2:=congrArg List.length hjj
      rw[List.length_append,List.length_singleton]at q2
      omega
     have hjo:=F.aeT _ ((ey v).map Ln.bytes) [10] (by omega) (by omega) h H1 (G.ext E) o W
     have hpv:iK v=fZ ((ey v).map Ln.bytes):=rfl
     rw[←hpv]at hjj
     obtain⟨J,hJ⟩:∃J,J=Lib.join ((ey v).map Ln.bytes) [10]:=⟨_,rfl⟩
     rw[←hJ]at hjl hjo hjj
     have f1:J.length≤9223372036854775806:=by omega
     simp -implicitDefEqProofs[g4,hwn]
     refine hjo.mono ?_
     rintro rr h' ⟨rfl,rfl⟩
     simp -implicitDefEqProofs[ae,f1]
     intro _
     exact⟨E,by rw[←hjj]⟩
def kh (b:aK) (i:Nat):List dh:=(if b.has then[gR (iK b.v)]else[])++([jb b.now]++(b.l.take i).map iB)
theorem amy (b:aK) (i:Nat) {t:aN} (h:b.l[i]? =some t):kh b (i+1)=kh b i++[iB t]:=by
 unfold kh
 rw[List.take_add_one,h,Option.toList_some,List.map_append,←List.append_assoc,←List.append_assoc,←List.append_assoc];rfl
theorem PJ (b:aK) (i:Nat):(kh b i).length≤i+2:=by
 unfold kh
 rw[List.length_append,List.length_append,List.length_map,List.length_take,List.length_singleton]
 split<;>simp<;>omega
theorem amw (b:aK):np b=kh b b.l.length++[recC]:=by
 unfold np kh
 rw[List.take_length,List.append_assoc,List.append_assoc]
def Tq (h:aa) (a:Nat) (pre:List dh) (σ:St):Prop:=∃(o:Option Nat) (w:Value),Ext h σ.m.h∧Ow 73 dn h σ.m.h o pre w∧σ.t.get 0=some (.pointer (some ⟨a,0,none⟩))∧σ.t.get 3=some w
def Sf (h:aa) (b:aK) (lv:Value) (m n:Nat) (σ:St):Prop:=∃(i:Nat) (o:Option Nat) (w:Value),n=m-i∧i≤m∧Ext h σ.m.h∧Ow 73 dn h σ.m.h o (kh b i) w∧σ.t.get 3=some w∧σ.t.get 38=some lv∧σ.t.get 39=some (.int .i64 (m:Nat))∧σ.t.get 40=some (.int .i64 (i:Nat))
theorem amx {h0 h:aa} {a:Nat} {b:aK} {vc:List Value} {ov:Value} {o:Option Nat} (hl:b.l.length≤1048576) (hm:b.has=true→aM b.v=true) (G0:bQ h0) (B:aY h0 h a b vc ov o):
  ai PP 19 [.pointer (some ⟨a,0,none⟩)] h (fun r h'=>Ext h h'∧aF 73 dn h' r (np b)):=by
 refine ai.gK (post:=fun v' h'=>Ext h h'∧bS 73 dn h h' v' (np b)) ?_ (fun v h' ⟨E,W⟩=>by
  obtain⟨h'',w,E',S⟩:=W.cG E
  exact⟨h'',w,E',S⟩)
 refine az mix abP VY rfl (by show 1≤54;decide) ai3 ?_
 simp only[wu,Tryz.f19]
 rw[amw]
 have hr1:List.range 9=[0,1,2,3,4,5,6,7,8]:=rfl
 have hrow:=B.row
 have hS:=B.cP.sl
 have hpr:=fun q=>amh b.v (hm q) vc h (G0.ext B.ext) B.cK
 obtain⟨x1,y1,m1,g1,r1,x2,m2,y2,x3,m3,y3,e1⟩:=B.cK.shape
 obtain⟨x7,y7,e3⟩:=B.cP.shape
 subst e1;subst e3
 simp only[fh,List.cons_append,List.nil_append]at hrow
 refine rX 4 (Tq h a (if b.has then[gR (iK b.v)]else[])) ?_ ?_
 ·simp only[oc,oa]
  by_cases q:b.has=true
  ·rw[if_pos q]
   simp -implicitDefEqProofs[hrow,q]
   refine(hpr q).mono ?_
   rintro r H ⟨E,rfl⟩
   have W0:Ow 73 dn h H none ([]:List dh) (.slice none 0 0):=Ow.nil
   have hA:=gx mM W0 (gR (iK b.v)) (by decide)
   have k1:[Value.int .i64 1,.string (Go.Am.B (iK b.v)),.int .i64 0,.int .i64 0,.int .i64 0,.int .i64 0,.int .i64 0,.int .i64 0,.int .i64 0]=dn (gR (iK b.v)):=rfl
   simp only[List.flatMap_nil,List.nil_append,List.length_nil,Nat.zero_add]at hA
   rw[←k1]at hA
   simp -implicitDefEqProofs[ae,aI,hr1,hA]
   intro _
   exact⟨_,_,gz E W0 _ _,Ow.one W0 E.n _ (gR (iK b.v)) rfl,by simp,by simp⟩
  ·rw[if_neg q]
   simp -implicitDefEqProofs[hrow,q]
   exact⟨none,_,Ext.bu h,Ow.nil,by simp,by simp⟩
 ·simp only[pg,my]
  rintro⟨T,⟨x,G⟩⟩ ⟨oo,w,E,W,g0,g3⟩
  simp at E W g0 g3
  have hpl:(if b.has then[gR (iK b.v)]else[]).length≤1:=by split<;>simp
  have e0:kh b 0=(if b.has then[gR (iK b.v)]else[])++[jb b.now]:=by unfold kh;simp
  obtain⟨pre,hpre⟩:∃p,p=(if b.has then[gR (iK b.v)]else[]):=⟨_,rfl⟩
  rw[←hpre]at W hpl e0
  have hrG:=hrow
  rw[←E.f a B.a1]at hrG
  obtain⟨m,hm'⟩:∃m,m=b.l.length:=⟨_,rfl⟩
  have hne:∀c c',(bK (G.new c) oo c').f a=G.f a:=fun c c'=>by
   rw[mG _ _ _ (by rw[cZ];have:=E.n;have:=B.a1;omega) (fun e=>by have:=(W.lt a e).1;have:=B.a1;omega),mP,if_neg (by have:=E.n;have:=B.a1;omega)]
  rw[←hm']at hS hrG ⊢
  obtain⟨rfl,_⟩:=id W
  have hA:=gx mM W (jb b.now) (by omega)
  have k3:[Value.int .i64 3,.string (Go.Am.B []),.int .i64 0,.int .i64 0,.int .i64 0,.int .i64 0,.int .i64 0,.int .i64 0,.int .i64 b.now]=dn (jb b.now):=rfl
  rw[←k3]at hA
  simp -implicitDefEqProofs[g0,g3,hrG,aI,hr1,hA,hne]
  refine bD (Sf h b (.slice x7 m y7) m) _ ⟨0,some (G.n+1),.slice (some ⟨G.n+1,0,none⟩) (pre.length+1) (pre.length+1),rfl,by omega,gz E W _ _,by rw[e0];exact Ow.one W E.n _ (jb b.now) rfl,by simp,by simp,by simp,by simp⟩ ?_
  clear W g0 g3 hrG E hA hne
  rintro n ⟨T,⟨x,G⟩⟩ ⟨i,oo,w,rfl,hi,E,W,g3,g38,g39,g40⟩
  simp at E W g3 g38 g39 g40
  simp -implicitDefEqProofs[g3,g38,g39,g40]
  refine bB (fun hc=>?_) (fun hc=>?_)<;>simp only[decide_eq_true_eq,decide_eq_false_iff_not]at hc
  ·have him:i<m:=by omega
   have w1:IntKind.wrap .i64 ((i:Int)+1)=((i+1:Nat):Int):=by rw[aA (by omega)];omega
   have hti:b.l[i]? =some b.l[i]:=List.getElem?_eq_getElem (by omega)
   obtain⟨_,b',o1,w0,cells',r,rfl,hb',hd',hlc,_⟩:=(hS.ext E).at 6 fx hti
   obtain⟨t,ht⟩:∃t,t=b.l[i]:=⟨_,rfl⟩
   rw[←ht]at hd' hti
   have hk6:(cells'.drop (o1+i*6)).take 6=aH t:=by rw[hd'];rfl
   have hnx:=amy b i hti
   have hal:=PJ b i
   obtain⟨acc,hacc⟩:∃acc,acc=kh b i:=⟨_,rfl⟩
   rw[←hacc]at W hal hnx
   obtain⟨rfl,_⟩:=id W
   have hA:=gx mM W (iB t) (by omega)
   have k2:[Value.int .i64 2,.string (Go.Am.B []),.int .i64 t.id,.int .i64 t.state,.int .i64 t.aR.size,.int .i64 t.aR.cL,.int .i64 t.gT,.int .i64 t.first,.int .i64 0]=dn (iB t):=rfl
   rw[←k2]at hA
   simp only[aH]at hk6
   simp -implicitDefEqProofs[g3,g38,g39,g40,him,hb',hk6,hlc,aI,hr1,hA,w1]
   refine⟨m-(i+1),by omega,i+1,some (G.n+1),.slice (some ⟨G.n+1,0,none⟩) (acc.length+1) (acc.length+1),rfl,by omega,gz E W _ _,?_,by simp,by simp,by simp,by simp⟩
   rw[hnx]
   exact Ow.one W E.n _ (iB t) rfl
  ·have e:i=m:=by omega
   subst e
   have hal:=PJ b i
   obtain⟨acc,hacc⟩:∃acc,acc=kh b i:=⟨_,rfl⟩
   rw[←hacc]at W hal ⊢
   obtain⟨rfl,_⟩:=id W
   have hA:=gx mM W recC (by omega)
   have k4:[Value.int .i64 4,.string (Go.Am.B []),.int .i64 0,.int .i64 0,.int .i64 0,.int .i64 0,.int .i64 0,.int .i64 0,.int .i64 0]=dn recC:=rfl
   rw[←k4]at hA
   simp -implicitDefEqProofs[g3,aI,hr1,hA]
   exact⟨gz E W _ _,(Ow.one W E.n _ recC rfl).own⟩
end Go.Proofs.Ybk.K
namespace Go.Proofs.Ybk.K
open Go Go.Am
set_option maxHeartbeats 4000000
open V (aq aP ah al aQ ab aX aM aB bT bX aZ bF)
open F (bQ)
theorem afY {r:dh} (h:j5 r=true) (k:r.kind=1):r.text.length≤1048576:=by
 unfold j5 at h
 rw[if_pos k]at h
 simp only[Bool.and_eq_true,decide_eq_true_eq]at h
 exact h.1
theorem OG {r:dh} (h:j5 r=true) (k:r.kind=2):oT r.order=true:=by
 unfold j5 at h
 rw[if_neg (by omega),if_pos k]at h
 simp only[Bool.and_eq_true]at h
 exact h.1
theorem afZ {r:dh} (h:j5 r=true) (k:r.kind=3):0≤r.time∧r.time≤1099511627776:=by
 unfold j5 at h
 rw[if_neg (by omega),if_neg (by omega),if_pos k]at h
 unfold aB at h
 simp only[Bool.and_eq_true,decide_eq_true_eq]at h
 omega
theorem Pp {o:aN} (h:oT o=true):(1≤o.id∧o.id≤2147483647)∧fQ o.first:=by
 unfold oT aB at h
 simp only[Bool.and_eq_true,decide_eq_true_eq]at h
 exact⟨by omega,by omega,by omega⟩
theorem apl {N:Nat} {b b':aK} {r:dh} (H:dH N b) (h:kW b r=some b'):dH (N+1) b':=by
 have H1:dH (N+1) b:=H.mono (by omega)
 unfold kW at h
 by_cases hm:j5 r=true
 rotate_left
 ·rw[if_pos (by simpa using hm)]at h;cases h
 rw[if_neg (by rw[hm];decide)]at h
 by_cases k1:r.kind=1
 ·rw[if_pos k1]at h
  cases hp:(ef r.text).1 with
  |some e=>rw[hp]at h;cases h
  |none=>
   rw[hp]at h
   simp only[Option.some.injEq]at h
   subst h
   exact⟨H.f0,H.f1,H.n0,H.n1,H1.len,fun _=>zV hp,H.fst⟩
 rw[if_neg k1]at h
 by_cases k3:r.kind=3
 ·rw[if_pos k3]at h
  split at h
  ·simp only[Option.some.injEq]at h
   subst h
   have:=afZ hm k3
   exact⟨H.f0,H.f1,this.1,this.2,H1.len,H.may,H.fst⟩
  ·cases h
 rw[if_neg k3]at h
 by_cases k2:r.kind=2
 ·rw[if_pos k2]at h
  have ho:=(Pp (OG hm k2)).2
  split at h
  ·cases h
  ·split at h
   ·simp only[Option.some.injEq]at h
    subst h
    refine⟨H.f0,H.f1,H.n0,H.n1,by show(b.l++[r.order]).length≤_;rw[List.length_append,List.length_singleton];have:=H.len;omega,H.may,fun o q=>?_⟩
    rcases List.mem_append.1 q with q|q
    ·exact H.fst o q
    ·rw[List.mem_singleton]at q;subst q;exact ho
   ·simp only[Option.some.injEq]at h
    subst h
    exact⟨H.f0,H.f1,H.n0,H.n1,by show(b.l.set _ _).length≤_;rw[List.length_set];exact H1.len,H.may,An H.fst _ ho⟩
 ·rw[if_neg k2]at h;cases h
theorem Qj:∀(p q:List dh) (b:aK),il (p++q) b=(il p b).bind (il q):=by
 intro p
 induction p with
 |nil=>intro q b;rfl
 |cons r t ih=>
  intro q b
  rw[List.cons_append,il,il]
  cases kW b r with
  |none=>rfl
  |some b'=>exact ih q b'
def TD (h0 h:aa) (a:Nat) (o:Option Nat) (x:Option aK) (v:Value) (h':aa):Prop:=match x with
 |some b'=>v= .bool true∧bR h0 h h' a o b'
 |none=>v= .bool false∧b8 (a::o.toList) h h'
theorem apk {h0 h:aa} {a:Nat} {b:aK} {vc:List Value} {ov:Value} {o:Option Nat} {N:Nat} (OK:dH N b) (hN:N≤1048000) (r:dh) (B:aY h0 h a b vc ov o):
  ai PP 41 [.pointer (some ⟨a,0,none⟩),kQ r] h (TD h0 h a o (kW b r)):=by
 refine az mix acX Xf rfl (by show 2≤88;decide) aj8 ?_
 simp only[xO,Tryz.f41]
 have hlen:=OK.len
 have hmay:=amv r h
 have hrow:=B.row
 have hrow0:=B.row
 have hW:=B.cP
 obtain⟨a1,n1,c1,g,rr,a2,n2,c2,a3,n3,c3,a4,n4,c4,e1,e2,e3,hr⟩:=B.cells
 subst e1;subst e2;subst e3
 have cha:∀(F:aa) (x:aO),Ext h F→b8 (a::o.toList) h (F.set a x):=fun F x E=>(b8.dR E (S:=a::o.toList)).trans (fY F a x) (fun i hi _=>by rw[List.mem_singleton]at hi;subst hi;exact List.mem_cons_self)
 simp only[fh,List.cons_append,List.nil_append]at hrow
 simp only[kQ,dn]at hmay
 have hr1:List.range 1=[0]:=rfl
 unfold kW
 simp -implicitDefEqProofs[kQ,dn]
 refine hmay.mono ?_
 rintro v h' ⟨e,rfl⟩
 replace e:=e.symm
 subst e
 by_cases hm:j5 r=true
 rotate_left
 ·rw[if_pos (by simpa using hm)]
  simp -implicitDefEqProofs[ae,hm]
  intro _
  exact⟨rfl,b8.bu _ _⟩
 rw[if_neg (by rw[hm];decide)]
 by_cases k1:r.kind=1
 ·rw[if_pos k1]
  simp -implicitDefEqProofs[ae,hm,k1]
  intro _
  refine(Q9 r.text (afY hm k1) h).mono ?_
  rintro v G ⟨E,H⟩
  have hrG:=hrow
  rw[←E.f a B.a1]at hrG
  have BG:=B.exts E
  have hrG0:=BG.row
  cases hp:(ef r.text).1 with
  |some e=>
   rw[hp]at H
   obtain⟨be,rfl⟩:=H
   simp -implicitDefEqProofs[ae,V.gW,hrG]
   intro _
   rw[jX]
   exact⟨rfl,cha _ _ E⟩
  |none=>
   rw[hp]at H
   obtain⟨co,hV,rfl⟩:=H
   have hV':=hV
   obtain⟨s,k,p,rfl,z1,z2,z3⟩:=hV'
   obtain⟨b1,d1,rfl⟩:=z1.shape
   obtain⟨b2,d2,rfl⟩:=z2.shape
   obtain⟨b3,d3,rfl⟩:=z3.shape
   simp -implicitDefEqProofs[ae,hrG]
   intro _
   rw[jX]
   exact⟨rfl,bR.lE (nS (b:={b with v:=lC (ef r.text).2,has:=true}) hrG0 BG.a0 BG.a1 BG.ext hV BG.cP rfl) (cha _ _ E)⟩
 rw[if_neg k1]
 by_cases k3:r.kind=3
 ·rw[if_pos k3]
  by_cases q:b.now≤r.time
  ·rw[if_pos q]
   simp -implicitDefEqProofs[ae,hm,k1,k3,hrow,q]
   intro _
   exact⟨rfl,bR.lE (nS (b:={b with now:=r.time}) hrow0 B.a0 B.a1 B.ext B.cK hW rfl) (cha _ _ (Ext.bu h))⟩
  ·rw[if_neg q]
   simp -implicitDefEqProofs[ae,hm,k1,k3,hrow,q]
   intro _
   exact⟨rfl,cha _ _ (Ext.bu h)⟩
 rw[if_neg k3]
 by_cases k2:r.kind=2
 rotate_left
 ·rw[if_neg k2]
  simp -implicitDefEqProofs[ae,hm,k1,k2,k3]
  intro _
  exact⟨rfl,b8.bu _ _⟩
 rw[if_pos k2]
 obtain⟨⟨i1,i2⟩,hf⟩:=Pp (OG hm k2)
 have wl:IntKind.wrap .i64 ((b.l.length:Int)+1)=(b.l.length:Int)+1:=aA (by omega)
 have hr6:List.range 6=[0,1,2,3,4,5]:=rfl
 by_cases q1:(b.l.length:Int)+1<r.order.id
 ·rw[if_pos q1]
  simp -implicitDefEqProofs[ae,hm,k1,k2,k3,hrow,wl,q1]
  intro _
  exact⟨rfl,b8.bu _ _⟩
 rw[if_neg q1]
 obtain⟨rk,rt,⟨oi,os,⟨op,ow⟩,ol,of_⟩,rm⟩:=r
 simp only at k1 k2 k3 q1 i1 i2 hf
 subst k2
 obtain⟨X,hX⟩:∃X:aN,X=⟨oi,os,⟨op,ow⟩,ol,of_⟩:=⟨_,rfl⟩
 have ro:aH X=[.int .i64 oi,.int .i64 os,.int .i64 op,.int .i64 ow,.int .i64 ol,.int .i64 of_]:=by rw[hX];rfl
 simp only
 rw[←hX]
 rw[←hX]at hm
 have key:∀(P Q:List Value) (t:aN) (k:Nat),P.length=k*6→(P++(aH t++Q)).take (k*6)++(aH X++(P++(aH t++Q)).drop (k*6+6))=P++(aH X++Q):=fun P Q t k hP=>by
  rw[show(P++(aH t++Q)).drop (k*6+6)=Q from jS (i:=6) hP]
  have:=ph (X:=aH t++Q) (i:=0) hP
  rw[Nat.add_zero]at this
  rw[this];simp
 by_cases q2:oi=(b.l.length:Int)+1
 ·rw[if_pos q2]
  subst q2
  have hA:=qP J3 hW ko (by omega)
  obtain⟨p1,BX,CX⟩:=BA B ko
  have hz:aH ko=[Value.int .i64 0,.int .i64 0,.int .i64 0,.int .i64 0,.int .i64 0,.int .i64 0]:=rfl
  obtain⟨F,hF⟩:∃F,F=bK (h.new (.row true 43 (aH ko))) o (.row true 43 (b.l.flatMap aH++aH ko)):=⟨_,rfl⟩
  rw[←hF]at p1 BX CX hA
  rw[hz]at hA
  simp only[fh,List.cons_append,List.nil_append]at p1 BX CX
  have hneG:¬a=h.n:=by have:=B.a1;omega
  obtain⟨⟨c',r',e,qq⟩,nn0,nn1⟩:=BX.cP
  obtain⟨BS,KS⟩:=BX.qB (L:=b.l++[X]) (by simp) r'
  have hti:(b.l++[ko])[b.l.length]? =some ko:=by rw[List.getElem?_append_right (Nat.le_refl _),Nat.sub_self];rfl
  obtain⟨P,Q,hP,s1,s2⟩:=oU hti r'
  have s3:=s2 X
  rw[List.set_append_right _ _ (Nat.le_refl _),Nat.sub_self,List.set_cons_zero]at s3
  rw[s3]at BS
  simp only at qq
  rw[s1]at qq
  have hst:=key P Q ko b.l.length hP
  have hl6:b.l.length*6+6≤(P++(aH ko++Q)).length:=by rw[List.length_append,hP,List.length_append,fx];omega
  obtain⟨R,hR⟩:∃R,R=P++(aH ko++Q):=⟨_,rfl⟩
  rw[←hR]at qq hst hl6
  obtain⟨R2,hR2⟩:∃R,R=P++(aH X++Q):=⟨_,rfl⟩
  rw[←hR2]at hst BS
  rw[ro]at hst
  simp only[List.cons_append,List.nil_append]at hst
  have w1:IntKind.wrap .i64 (((b.l.length:Int)+1)-1)=(b.l.length:Int):=by rw[aA (by omega)];omega
  have w2:IntKind.wrap .i64 (b.l.length:Int)=(b.l.length:Int):=aA (by omega)
  have hlt:(b.l.length:Int)<(b.l.length:Int)+1:=by omega
  have hrF:(F.set a (.row true 77 [.int .i64 b.fuel,.bool b.has,.slice a1 n1 c1,.int .i64 g,.int .i64 rr,.slice a2 n2 c2,.slice a3 n3 c3,.slice (some ⟨h.n+1,0,none⟩) (b.l.length+1) (b.l.length+1),.int .i64 b.now])).f a= .row true 77 [.int .i64 b.fuel,.bool b.has,.slice a1 n1 c1,.int .i64 g,.int .i64 rr,.slice a2 n2 c2,.slice a3 n3 c3,.slice (some ⟨h.n+1,0,none⟩) (b.l.length+1) (b.l.length+1),.int .i64 b.now]:=by simp
  obtain⟨F2,hF2⟩:∃F2,F2=F.set a (.row true 77 [.int .i64 b.fuel,.bool b.has,.slice a1 n1 c1,.int .i64 g,.int .i64 rr,.slice a2 n2 c2,.slice a3 n3 c3,.slice (some ⟨h.n+1,0,none⟩) (b.l.length+1) (b.l.length+1),.int .i64 b.now]):=⟨_,rfl⟩
  rw[←hF2]at hrF BS CX qq
  have hF2':=hF2.symm
  simp -implicitDefEqProofs[ae,hm,hrow,wl,aI,hr6,hA,p1,hneG,hF2',hrF,w1,w2,hlt,qq,hl6,hst]
  intro _
  exact⟨rfl,bR.trans CX (fun i hi=>.inr (by simp only[Option.some.injEq]at hi;omega)) (bR.lE BS ((fY F2 (h.n+1) _).mono fun x hx _=>by rw[List.mem_singleton]at hx;subst hx;simp))⟩
 ·rw[if_neg q2]
  obtain⟨k,rfl⟩:∃k:Nat,oi=(k:Int)+1:=⟨oi.toNat-1,by omega⟩
  have hk:k<b.l.length:=by omega
  have ek:((k:Int)+1).toNat-1=k:=by omega
  rw[ek]
  have hti:b.l[k]? =some b.l[k]:=List.getElem?_eq_getElem hk
  obtain⟨t,ht⟩:∃t,t=b.l[k]:=⟨_,rfl⟩
  rw[←ht]at hti
  cases o with
  |none=>
   have:=hW.2
   rw[this]at hk
   simp at hk
  |some bo=>
   obtain⟨⟨c',r',e,qq⟩,nn0,nn1⟩:=hW
   simp only[Value.slice.injEq]at e
   obtain⟨rfl,_,_⟩:=e
   have BS:=(B.qB (L:=b.l.set k X) (by rw[List.length_set]) r').1
   obtain⟨P,Q,hP,s1,s2⟩:=oU hti r'
   rw[s2 X]at BS
   rw[s1]at qq
   have hst:=key P Q t k hP
   have hl6:k*6+6≤(P++(aH t++Q)).length:=by rw[List.length_append,hP,List.length_append,fx];omega
   obtain⟨R,hR⟩:∃R,R=P++(aH t++Q):=⟨_,rfl⟩
   rw[←hR]at qq hst hl6
   obtain⟨R2,hR2⟩:∃R,R=P++(aH X++Q):=⟨_,rfl⟩
   rw[←hR2]at hst BS
   rw[ro]at hst
   simp only[List.cons_append,List.nil_append]at hst
   have w1:IntKind.wrap .i64 (((k:Int)+1)-1)=(k:Int):=by rw[aA (by omega)];omega
   have w2:IntKind.wrap .i64 (k:Int)=(k:Int):=aA (by omega)
   have q2':¬(k:Int)=(b.l.length:Int):=by omega
   have q2'':¬k=b.l.length:=by omega
   have q1':¬(b.l.length:Int)<(k:Int):=by omega
   have q1'':¬b.l.length<k:=by omega
   simp -implicitDefEqProofs[ae,hm,hrow,wl,w1,w2,q1,q2,q2',q2'',q1',q1'',hk,qq,hl6,hst]
   intro _
   exact⟨rfl,bR.lE BS ((fY h bo _).mono fun x hx _=>by rw[List.mem_singleton]at hx;subst hx;simp)⟩
def Sa (h:aa) (a a':Nat) (b:aK) (l:List dh) (N:Nat) (lv:Value) (m n:Nat) (σ:St):Prop:=∃(i:Nat) (x:aK) (vc:List Value) (ov:Value) (o:Option Nat),n=m-i∧i≤m∧il (l.take i) b=some x∧dH (N+i) x∧x.fuel=b.fuel∧aY h σ.m.h a' x vc ov o∧aF 73 dn σ.m.h lv l∧
 σ.t.get 0=some (.pointer (some ⟨a,0,none⟩))∧σ.t.get 6=some (.pointer (some ⟨a',0,none⟩))∧σ.t.get 28=some lv∧σ.t.get 29=some (.int .i64 (m:Nat))∧σ.t.get 30=some (.int .i64 (i:Nat))
theorem anE {α:Type} {e:TypeId} {enc:α→List Value} {h:aa} {ad:Addr} {n c:Nat} {xs:List α} (H:aF e enc h (.slice (some ad) n c) xs) (m:Nat) (hm:m≤xs.length):aF e enc h (.slice (some ad) m m) (xs.take m):=by
 obtain⟨ad',c1,q,nn,z⟩:=H
 simp only[Value.slice.injEq]at q
 obtain⟨rfl,rfl,rfl⟩:=q
 have hl:(xs.take m).length=m:=by rw[List.length_take];omega
 refine⟨some ad,m,by rw[hl],fun z=>(by cases z),?_⟩
 rcases z with rfl|⟨b,off,cells,rest,z1,z2,z3,z4,z5⟩
 ·exact .inl (by simp)
 ·exact .inr ⟨b,off,cells,(xs.drop m).flatMap enc++rest,z1,z2,by rw[z3,←List.append_assoc,←List.flatMap_append,List.take_append_drop],z4,z5⟩
theorem apj {l:List dh} {i:Nat} {r:dh} {b x:aK} (h:il (l.take i) b=some x) (hr:l[i]? =some r):il (l.take (i+1)) b=kW x r:=by
 rw[List.take_add_one,hr,Option.toList_some,Qj,h,Option.bind_some,il]
 cases kW x r<;>rfl
theorem aph {l:List dh} {i:Nat} {b:aK} (h:il (l.take i) b=none):il l b=none:=by
 have:=Qj (l.take i) (l.drop i) b
 rw[List.take_append_drop,h]at this
 rw[this];rfl
theorem apm {b b':aK} {r:dh} (h:kW b r=some b'):b'.fuel=b.fuel:=by
 unfold kW at h
 split at h
 ·cases h
 ·split at h
  ·split at h
   ·cases h
   ·simp only[Option.some.injEq]at h;subst h;rfl
  ·split at h
   ·split at h
    ·simp only[Option.some.injEq]at h;subst h;rfl
    ·cases h
   ·split at h
    ·split at h
     ·cases h
     ·split at h<;>(simp only[Option.some.injEq]at h;subst h;rfl)
    ·cases h
theorem UG {h0 h:aa} {a:Nat} {b:aK} {vc:List Value} {ov:Value} {o:Option Nat} {N:Nat} (OK:dH N b) (l:List dh) (hN:N+l.length≤1047000) (lv:Value) (S:aF 73 dn h lv l) (B:aY h0 h a b vc ov o):
  ai PP 17 [.pointer (some ⟨a,0,none⟩),lv] h (fun v h'=>bR h0 h h' a o (pH b l).1∧v= .int .i64 (pH b l).2):=by
 refine az mix abD VK rfl (by show 2≤47;decide) aiR ?_
 simp only[vU,Tryz.f17]
 have hlen:=OK.len
 have hcp:=FY (by omega) B
 obtain⟨ad,cc,rfl⟩:=S.shape
 rcases Nat.eq_zero_or_pos l.length with hz|hpos
 ·have hl:l=[]:=List.length_eq_zero_iff.1 hz
  subst hl
  have w0:IntKind.wrap .i64 (-1)= -1:=rfl
  simp -implicitDefEqProofs[w0]
  exact⟨bR.dR B (Ext.bu _),rfl⟩
 obtain⟨n,hn⟩:∃n,l.length=n+1:=⟨l.length-1,by omega⟩
 have w1:IntKind.wrap .i64 (((n:Int)+1)-1)=(n:Int):=by rw[aA (by omega)];omega
 have w2:IntKind.wrap .i64 (n:Int)=(n:Int):=aA (by omega)
 have hnn:¬(n:Int)<0:=by omega
 have hlt:(n:Int)<(n:Int)+1:=by omega
 have hti:l[n]? =some l[n]:=List.getElem?_eq_getElem (by omega)
 obtain⟨t,ht⟩:∃t,t=l[n]:=⟨_,rfl⟩
 rw[←ht]at hti
 have S0:=S
 obtain⟨_,b1,o1,cells,rr,rfl,hb,hd,hlc,hbn⟩:=S.at 9 Ai hti
 have hgl:l.getLast? =some t:=by rw[List.getLast?_eq_getElem?,hn,Nat.add_sub_cancel,hti]
 have hdl:l.dropLast=l.take n:=by rw[List.dropLast_eq_take,hn,Nat.add_sub_cancel]
 have hk9:(cells.drop (o1+n*9)).take 9=dn t:=by rw[hd];rfl
 obtain⟨AB,hAB⟩:∃F,F=pH b l:=⟨_,rfl⟩
 rw[←hAB]
 unfold pH at hAB
 rw[hgl,hdl]at hAB
 have eap1:t≠recC→AB=(b,10):=fun z=>by rw[hAB,if_neg (by simpa using z)]
 have eap2:t=recC→il (l.take n) b=none→AB=(b,10):=fun z q=>by rw[hAB,if_pos (by rw[z]),q]
 have eap3:∀x,t=recC→il (l.take n) b=some x→lz x=true→AB=(x,0):=fun x z q w=>by rw[hAB,if_pos (by rw[z]),q];simp[w]
 have eap4:∀x,t=recC→il (l.take n) b=some x→lz x=false→AB=(b,10):=fun x z q w=>by rw[hAB,if_pos (by rw[z]),q];simp[w]
 clear hAB
 rw[hn]at S hN ⊢
 have k4:dn recC=[Value.int .i64 4,.string (Go.Am.B []),.int .i64 0,.int .i64 0,.int .i64 0,.int .i64 0,.int .i64 0,.int .i64 0,.int .i64 0]:=rfl
 by_cases hc:t=recC
 rotate_left
 ·have e:=eap1 hc
  subst e
  obtain⟨tk,tt,⟨t1,t2,⟨t3,t4⟩,t5,t6⟩,tm⟩:=t
  simp only[dn]at hk9
  simp -implicitDefEqProofs[w1,w2,hnn,hlt,hb,hk9,hlc]
  refine bB (fun hq=>?_) (fun hq=>?_)
  ·simp -implicitDefEqProofs
   exact bR.dR B (Ext.bu _)
  ·exact absurd (by
    simp at hq
    obtain⟨rfl,e2,⟨rfl,rfl,⟨rfl,rfl⟩,rfl,rfl⟩,rfl⟩:=hq
    first|(subst e2;rfl)|(rw[uq e2];rfl)) hc
 subst hc
 rw[k4]at hk9
 simp -implicitDefEqProofs[w1,w2,hnn,hlt,hb,hk9,hlc]
 refine hcp.mono ?_
 rintro r G ⟨E,a',ov',o',rfl,B'⟩
 have hbG:=E.f b1 hbn
 rw[hb]at hbG
 have SG:=S0.ext E
 have hnn2:n≤n+1:=by omega
 have hn0:(0:Int)≤n:=by omega
 simp -implicitDefEqProofs[ae,hbG,hnn,hnn2,hn0]
 intro _
 have SL:=anE SG n (by omega)
 obtain⟨L,hL⟩:∃L,L=l.take n:=⟨_,rfl⟩
 have hLl:L.length=n:=by rw[hL,List.length_take];omega
 rw[←hL]at SL eap2 eap3 eap4
 refine bD (Sa h a a' b L N (.slice (some ⟨b1,o1,none⟩) n n) n) _ ⟨0,b,vc,ov',o',rfl,by omega,rfl,OK,rfl,B',SL,by simp,by simp,by simp,by simp,by simp⟩ ?_
 clear SL SG hbG E B'
 rintro n' ⟨T,⟨x',F⟩⟩ ⟨i,x,vcx,ovx,ox,rfl,hi,htk,OKx,hfx,BX,SL,g0,g6,g28,g29,g30⟩
 simp at BX SL g0 g6 g28 g29 g30
 simp -implicitDefEqProofs[g0,g6,g28,g29,g30]
 refine bB (fun hc=>?_) (fun hc=>?_)<;>simp only[decide_eq_true_eq,decide_eq_false_iff_not]at hc
 ·have him:i<n:=by omega
  have w3:IntKind.wrap .i64 ((i:Int)+1)=((i+1:Nat):Int):=by rw[aA (by omega)];omega
  have hui:L[i]? =some L[i]:=List.getElem?_eq_getElem (by omega)
  obtain⟨u,hu⟩:∃u,u=L[i]:=⟨_,rfl⟩
  rw[←hu]at hui
  obtain⟨_,b2,o2,cells2,r2,e2,bC,hd2,hlc2,_⟩:=SL.at 9 Ai hui
  simp only[Option.some.injEq,Addr.mk.injEq,and_true]at e2
  obtain⟨rfl,rfl⟩:=e2
  have hk2:(cells2.drop (o1+i*9)).take 9=dn u:=by rw[hd2];rfl
  have htw:=apk OKx (by omega) u BX
  have hst:=apj htk hui
  simp only[kQ,dn]at htw hk2
  simp -implicitDefEqProofs[g0,g6,g28,g29,g30,him,bC,hk2,hlc2]
  refine htw.mono ?_
  intro rr H HT
  cases hq:kW x u with
  |none=>
   rw[hq]at HT hst
   obtain⟨rfl,CX⟩:=HT
   have hno:il L b=none:=aph hst
   have e:=eap2 rfl hno
   subst e
   simp -implicitDefEqProofs[ae]
   intro _
   have BB:=(B.exts BX.ext).dt (h':=H) (CX) BX.gh (fun z hz=>Nat.le_trans B.ext.n (BX.own z hz).1) (fun z hz w=>by
    have h1:=(B.own z hz).2
    have h2:=(BX.own z w).1
    omega)
   exact bR.lE BB ((b8.dR BX.ext).trans CX (fun z hz hlt=>by have:=(BX.own z hz).1;omega))
  |some x2=>
   rw[hq]at HT hst
   obtain⟨rfl,vc2,ov2,o2',BX2,CX2,DX2⟩:=HT
   simp -implicitDefEqProofs[ae,g0,g6,g28,g29,g30,w3]
   intro _
   refine⟨n-(i+1),by omega,i+1,x2,vc2,ov2,o2',rfl,by omega,hst,apl OKx hq,by rw[apm hq,hfx],BX2,SL.kp (CX2.kp BX.gh),by simp,by simp,by simp,by simp,by simp⟩
 ·have e:i=n:=by omega
  rw[e,List.take_of_length_le (by omega)]at htk
  have hmb:=afU OKx (by omega) BX
  simp -implicitDefEqProofs[g0,g6,g28,g29,g30]
  refine hmb.mono ?_
  rintro rr H ⟨EH,rfl⟩
  cases hq:lz x with
  |false=>
   have e:=eap4 x rfl htk hq
   subst e
   simp -implicitDefEqProofs[ae]
   intro _
   exact bR.dR B (BX.ext.trans EH)
  |true=>
   have e:=eap3 x rfl htk hq
   subst e
   have BH:=BX.exts EH
   have BBH:=B.exts (BX.ext.trans EH)
   have hrx:=BH.row
   have hrb:=BBH.row
   have hrb0:=BBH.row
   obtain⟨y1,m1,d1,g1,r1,y2,m2,d2,y3,m3,d3,e1⟩:=BH.cK.shape
   obtain⟨y4,m4,d4,g4,r4,y5,m5,d5,y6,m6,d6,e4⟩:=B.cK.shape
   obtain⟨y7,d7,e7⟩:=BH.cP.shape
   obtain⟨y8,d8,e8⟩:=B.cP.shape
   subst e1;subst e4;subst e7;subst e8
   simp only[fh,List.cons_append,List.nil_append]at hrx hrb
   have fin:=nS (b:=x) hrb0 BBH.a0 BBH.a1 BBH.ext BH.cK (BH.cP.low B.ext.n) rfl
   simp only[fh,List.cons_append,List.nil_append]at fin
   simp -implicitDefEqProofs[ae,hrx,hrb]
   intro _
   refine⟨_,_,ox,fin,(b8.dR (BX.ext.trans EH)).trans (fY H a _) (fun z hz _=>by rw[List.mem_singleton]at hz;subst hz;exact List.mem_cons_self),fun z hz=>.inr (BH.cP.lt z hz).1⟩
end Go.Proofs.Ybk.K
namespace Go.Proofs.Ybk.K
open Go Go.Am
set_option maxHeartbeats 4000000
open V (aq aP ah al aQ ab aX aM aB bT bX aZ bF nA nB)
def AV {α:Type} (s u:Value) (xs ys:List α) (m:Nat) (h:aa) (n:Nat) (σ:St):Prop:=∃i:Nat,n=m-i∧i≤m∧σ.m.h=h∧σ.t.get 0=some s∧σ.t.get 1=some u∧σ.t.get 5=some (.int .i64 (i:Nat))∧xs.take i=ys.take i
theorem am8 (s u:Value) (xs ys:List aN) (hl:xs.length≤1073741824) (h:aa) (Hs:cm 43 aH h s xs) (Hu:cm 43 aH h u ys):ai PP 23 [s,u] h (fun r h'=>h'=h∧r= .bool (decide (xs=ys))):=by
 refine az mix acg Wu rfl (by show 2≤26;decide) ajt ?_
 simp only[wZ,Tryz.f23]
 obtain⟨ad1,c1,rfl⟩:=Hs.shape
 obtain⟨ad2,c2,rfl⟩:=Hu.shape
 by_cases q:(xs.length:Int)=ys.length
 rotate_left
 ·have:¬xs=ys:=fun e=>q (by rw[e])
  simp -implicitDefEqProofs[q,this]
 obtain⟨m,hm⟩:∃m,m=xs.length:=⟨_,rfl⟩
 have hm2:ys.length=m:=by omega
 rw[←hm]at Hs hl ⊢
 rw[hm2]at Hu ⊢
 clear q
 obtain⟨D,hD⟩:∃D,D=decide (xs=ys):=⟨_,rfl⟩
 rw[←hD]
 simp -implicitDefEqProofs
 refine bD (AV (.slice ad1 m c1) (.slice ad2 m c2) xs ys m h) _ ⟨0,rfl,by omega,rfl,by simp,by simp,by simp,by simp⟩ ?_
 rintro n ⟨T,⟨x,H⟩⟩ ⟨i,rfl,hi,hH,g0,g1,g5,ht⟩
 simp at hH g0 g1 g5
 subst hH
 simp -implicitDefEqProofs[g0,g1,g5]
 refine bB (fun hc=>?_) (fun hc=>?_)<;>simp only[decide_eq_true_eq,decide_eq_false_iff_not]at hc
 ·have him:i<m:=by omega
  have hA:xs[i]? =some xs[i]:=List.getElem?_eq_getElem (by omega)
  have hB:ys[i]? =some ys[i]:=List.getElem?_eq_getElem (by omega)
  obtain⟨_,b1,o1,wb1,cs1,r1,rfl,bq,hd1,hl1,_⟩:=Hs.at 6 fx hA
  obtain⟨_,b2,o2,wb2,cs2,r2,rfl,bC,hd2,hl2,_⟩:=Hu.at 6 fx hB
  obtain⟨a',hea⟩:∃z,z=xs[i]:=⟨_,rfl⟩
  obtain⟨b',heb⟩:∃z,z=ys[i]:=⟨_,rfl⟩
  rw[←hea]at hd1 hA
  rw[←heb]at hd2 hB
  have w1:IntKind.wrap .i64 ((i:Int)+1)=((i+1:Nat):Int):=by rw[aA (by omega)];omega
  obtain⟨id,st,⟨sz,wh⟩,tl,fi⟩:=a'
  obtain⟨id2,st2,⟨rV,wh2⟩,tl2,fi2⟩:=b'
  simp -implicitDefEqProofs[g0,g1,g5,him,bq,bC,hd1,hd2,hl1,hl2,aH,zI]
  refine bB (fun hq=>?_) (fun hq=>?_)
  ·have hne:¬xs=ys:=nA hA hB (fun e=>by simp only[aN.mk.injEq,aU.mk.injEq]at e;simp[e.1,e.2.1,e.2.2.1.1,e.2.2.1.2,e.2.2.2.1,e.2.2.2.2]at hq)
   simp -implicitDefEqProofs
   rw[hD];simp[hne]
  ·simp at hq
   obtain⟨rfl,rfl,⟨rfl,rfl⟩,rfl,rfl⟩:=hq
   simp -implicitDefEqProofs[g0,g1,g5,w1]
   exact⟨m-(i+1),by omega,i+1,rfl,by omega,rfl,by simp[g0],by simp[g1],by simp,nB hA hB ht⟩
 ·have e:i=m:=by omega
  subst e
  have he:xs=ys:=by rw[List.take_of_length_le (by omega),List.take_of_length_le (by omega)]at ht;exact ht
  simp -implicitDefEqProofs
  rw[hD];simp[he]
theorem Ak (s u:Value) (xs ys:List Int) (hl:xs.length≤1073741824) (h:aa) (Hs:cm 3 ab h s xs) (Hu:cm 3 ab h u ys):ai PP 33 [s,u] h (fun r h'=>h'=h∧r= .bool (decide (xs=ys))):=by
 refine az mix acP W7 rfl (by show 2≤26;decide) aj0 ?_
 simp only[xG,Tryz.f33]
 obtain⟨ad1,c1,rfl⟩:=Hs.shape
 obtain⟨ad2,c2,rfl⟩:=Hu.shape
 by_cases q:(xs.length:Int)=ys.length
 rotate_left
 ·have:¬xs=ys:=fun e=>q (by rw[e])
  simp -implicitDefEqProofs[q,this]
 obtain⟨m,hm⟩:∃m,m=xs.length:=⟨_,rfl⟩
 have hm2:ys.length=m:=by omega
 rw[←hm]at Hs hl ⊢
 rw[hm2]at Hu ⊢
 clear q
 obtain⟨D,hD⟩:∃D,D=decide (xs=ys):=⟨_,rfl⟩
 rw[←hD]
 simp -implicitDefEqProofs
 refine bD (AV (.slice ad1 m c1) (.slice ad2 m c2) xs ys m h) _ ⟨0,rfl,by omega,rfl,by simp,by simp,by simp,by simp⟩ ?_
 rintro n ⟨T,⟨x,H⟩⟩ ⟨i,rfl,hi,hH,g0,g1,g5,ht⟩
 simp at hH g0 g1 g5
 subst hH
 simp -implicitDefEqProofs[g0,g1,g5]
 refine bB (fun hc=>?_) (fun hc=>?_)<;>simp only[decide_eq_true_eq,decide_eq_false_iff_not]at hc
 ·have him:i<m:=by omega
  have hA:xs[i]? =some xs[i]:=List.getElem?_eq_getElem (by omega)
  have hB:ys[i]? =some ys[i]:=List.getElem?_eq_getElem (by omega)
  obtain⟨_,b1,o1,wb1,cs1,r1,rfl,bq,hd1,hl1,_⟩:=Hs.at 1 V.cY hA
  obtain⟨_,b2,o2,wb2,cs2,r2,rfl,bC,hd2,hl2,_⟩:=Hu.at 1 V.cY hB
  obtain⟨a',hea⟩:∃z,z=xs[i]:=⟨_,rfl⟩
  obtain⟨b',heb⟩:∃z,z=ys[i]:=⟨_,rfl⟩
  rw[←hea]at hd1 hA
  rw[←heb]at hd2 hB
  have w1:IntKind.wrap .i64 ((i:Int)+1)=((i+1:Nat):Int):=by rw[aA (by omega)];omega
  rw[Nat.mul_one]at hd1 hd2 hl1 hl2
  simp -implicitDefEqProofs[g0,g1,g5,him,bq,bC,hd1,hd2,hl1,hl2,ab]
  refine bB (fun hq=>?_) (fun hq=>?_)
  ·have hne:¬xs=ys:=nA hA hB (fun e=>by simp[e]at hq)
   simp -implicitDefEqProofs
   rw[hD];simp[hne]
  ·simp at hq
   subst hq
   simp -implicitDefEqProofs[g0,g1,g5,w1]
   exact⟨m-(i+1),by omega,i+1,rfl,by omega,rfl,by simp[g0],by simp[g1],by simp,nB hA hB ht⟩
 ·have e:i=m:=by omega
  subst e
  have he:xs=ys:=by rw[List.take_of_length_le (by omega),List.take_of_length_le (by omega)]at ht;exact ht
  simp -implicitDefEqProofs
  rw[hD];simp[he]
theorem aqy (a b:ah) (ca cb:List Value) (ha:V.ji a) (h:aa) (Ha:bF h a ca) (Hb:bF h b cb):ai PP 43 [.agg ⟨ca⟩,.agg ⟨cb⟩] h (fun r h'=>h'=h∧r= .bool (V.qz a b)):=by
 refine az mix acZ Xh rfl (by show 2≤38;decide) aka ?_
 simp only[xQ,Tryz.f43]
 obtain⟨l1,l2,l3⟩:=ha
 obtain⟨s,k,p,rfl,h1,h2,h3⟩:=Ha
 obtain⟨s',k',p',rfl,h1',h2',h3'⟩:=Hb
 have e1:=aaC s s' a.af b.af (by omega) h h1 h1'
 have e2:=aaz k k' a.aD b.aD (by omega) h h2 h2'
 have e3:=aaB p p' a.aE b.aE (by omega) h h3 h3'
 obtain⟨x1,y1,rfl⟩:=h1.shape
 obtain⟨x2,y2,rfl⟩:=h2.shape
 obtain⟨x3,y3,rfl⟩:=h3.shape
 obtain⟨x4,y4,rfl⟩:=h1'.shape
 obtain⟨x5,y5,rfl⟩:=h2'.shape
 obtain⟨x6,y6,rfl⟩:=h3'.shape
 unfold V.qz
 by_cases q1:a.aV=b.aV
 rotate_left
 ·simp -implicitDefEqProofs[q1]
 by_cases q2:a.bg=b.bg
 rotate_left
 ·simp -implicitDefEqProofs[q1,q2]
 obtain⟨D1,hD1⟩:∃D,D=decide (a.af=b.af):=⟨_,rfl⟩
 obtain⟨D2,hD2⟩:∃D,D=decide (a.aD=b.aD):=⟨_,rfl⟩
 obtain⟨D3,hD3⟩:∃D,D=decide (a.aE=b.aE):=⟨_,rfl⟩
 rw[←hD1]at e1 ⊢
 rw[←hD2]at e2 ⊢
 rw[←hD3]at e3 ⊢
 simp -implicitDefEqProofs[q1,q2]
 refine e1.mono ?_
 rintro r h' ⟨e,rfl⟩
 replace e:=e.symm
 subst e
 cases D1
 ·simp -implicitDefEqProofs[ae]
 simp -implicitDefEqProofs[ae]
 intro _
 refine e2.mono ?_
 rintro r h' ⟨e,rfl⟩
 replace e:=e.symm
 subst e
 cases D2
 ·simp -implicitDefEqProofs[ae]
 simp -implicitDefEqProofs[ae]
 intro _
 refine e3.mono ?_
 rintro r h' ⟨e,rfl⟩
 replace e:=e.symm
 subst e
 simp -implicitDefEqProofs[ae]
section
variable {h0 h0' h:aa} {a a2:Nat} {b b2:aK} {vc vc2:List Value} {ov ov2:Value} {o o2:Option Nat}
theorem yB (hv:V.ji b.v) (hl:b.l.length≤1048576) (B1:aY h0 h a b vc ov o) (B2:aY h0' h a2 b2 vc2 ov2 o2):
  ai PP 18 [.pointer (some ⟨a,0,none⟩),.pointer (some ⟨a2,0,none⟩)] h (fun r h'=>h'=h∧r= .bool (rP b b2)):=by
 refine az mix Kt Bw rfl (by show 2≤55;decide) Pa ?_
 simp only[sx,Tryz.f18]
 have hven:=aqy b.v b2.v vc vc2 hv h B1.cK.cK B2.cK.cK
 have hord:=aaA ov ov2 b.l b2.l (by omega) h B1.cP.sl B2.cP.sl
 have hr1:=B1.row
 have hr2:=B2.row
 obtain⟨x1,y1,m1,g1,r1,x2,m2,y2,x3,m3,y3,e1⟩:=B1.cK.shape
 obtain⟨x4,y4,m4,g4,r4,x5,m5,y5,x6,m6,y6,e2⟩:=B2.cK.shape
 obtain⟨x7,y7,e3⟩:=B1.cP.shape
 obtain⟨x8,y8,e4⟩:=B2.cP.shape
 subst e1;subst e2;subst e3;subst e4
 simp only[fh,List.cons_append,List.nil_append]at hr1 hr2
 unfold rP
 obtain⟨D2,hD2⟩:∃D,D=V.qz b.v b2.v:=⟨_,rfl⟩
 obtain⟨D3,hD3⟩:∃D,D=decide (b.l=b2.l):=⟨_,rfl⟩
 rw[←hD2]at hven ⊢
 rw[←hD3]at hord ⊢
 by_cases q1:b.has=b2.has
 rotate_left
 ·have q1b:(b.has==b2.has)=false:=beq_eq_false_iff_ne.2 q1
  simp -implicitDefEqProofs[hr1,hr2,q1,q1b]
 by_cases q2:b.now=b2.now
 rotate_left
 ·simp -implicitDefEqProofs[hr1,hr2,q1,q2]
 simp -implicitDefEqProofs[hr1,hr2,q1,q2]
 refine hven.mono ?_
 rintro r h' ⟨e,rfl⟩
 replace e:=e.symm
 subst e
 cases D2
 ·simp -implicitDefEqProofs[aC,ae]
 simp -implicitDefEqProofs[aC,ae,hr1,hr2]
 intro _
 refine hord.mono ?_
 rintro r h' ⟨e,rfl⟩
 replace e:=e.symm
 subst e
 simp -implicitDefEqProofs[aC,ae]
theorem XQ (B1:aY h0 h a b vc ov o):ai PP 18 [.pointer (some ⟨a,0,none⟩),.pointer none] h (fun r h'=>h'=h∧r= .bool false):=by
 refine az mix Kt Bw rfl (by show 2≤55;decide) Pa ?_
 simp only[sx,Tryz.f18]
 simp -implicitDefEqProofs
theorem ago (h:aa):ai PP 12 [.int .i64 (-1)] h (fun r h'=>h'=h∧r= .pointer none):=by
 refine az mix Kq Bt rfl (by show 1≤12;decide) O7 ?_
 simp only[sr,Tryz.f12]
 simp -implicitDefEqProofs
end
end Go.Proofs.Ybk.K
namespace Go.Proofs.Ybk.K
open Go Go.Am
set_option maxHeartbeats 4000000
open V (aq aP ah al aQ ab aX aM aB bT bX aZ bF)
open F (bQ)
def r8 (H:aa) (R:im) (recs:List dh) (r:Value):Prop:=∃ad n cc ad2 n2 c2,r= .tuple #[.agg ⟨[.int .i64 R.code,.int .i64 R.n,.int .i64 R.spot.1,.int .i64 R.spot.2,.slice ad n cc]⟩,.slice ad2 n2 c2]∧n=R.af.length∧aF 3 ab H (.slice ad n cc) R.af∧n2=recs.length∧aF 73 dn H (.slice ad2 n2 c2) recs
section
variable {h0 h:aa} {a:Nat} {b:aK} {vc:List Value} {ov:Value} {o:Option Nat}
theorem uC.r {steps:Nat} {c:dQ} {r:Value} {h':aa} (H:uC h0 h a o steps b c r h'):bR h0 h h' a o (cv steps b c).1∧r8 h' (cv steps b c).2 (l4 steps b c) r:=by
 obtain⟨Q,ad,n,cc,w,rfl,S,SR⟩:=H
 obtain⟨ad2,c2,rfl⟩:=SR.shape
 obtain⟨ad',c',e⟩:=S.shape
 simp only[Value.slice.injEq]at e
 exact⟨Q,ad,n,cc,ad2,_,c2,rfl,e.2.1,S,rfl,SR⟩
theorem jR {N:Nat} (OK:dH N b) (hN:N≤1047000) (steps:Nat) (hst:2*b.fuel.toNat≤steps) (c:dQ) (hc:c.text.length≤1048576) (G0:bQ h0) (B:aY h0 h a b vc ov o) {b':aK} {R:im} (hd:cv steps b c=(b',R)):
  ai PP 15 [.pointer (some ⟨a,0,none⟩),bV c] h (fun r h'=>(∃vc' ov' o',aY h0 h' a b' vc' ov' o')∧Kp h h'∧r8 h' R (l4 steps b c) r):=by
 refine(F9 OK hN steps hst c hc G0 B).mono ?_
 intro r h' H
 obtain⟨⟨vc',ov',o',B',C,D⟩,HR⟩:=H.r
 rw[hd]at B' HR
 exact⟨⟨vc',ov',o',B'⟩,C.kp B.gh,HR⟩
theorem ZE (c:dQ) (h:aa):ai PP 15 [.pointer none,bV c] h (fun r h'=>h'=h∧r= .tuple #[.agg ⟨[.int .i64 1,.int .i64 0,.int .i64 0,.int .i64 0,.slice none 0 0]⟩,.slice none 0 0]):=by
 refine az mix Kr Bu rfl (by show 2≤25;decide) O8 ?_
 simp only[su,Tryz.f15]
 simp -implicitDefEqProofs[bV,cX]
theorem afP (l:List Int) (hl:l.length≤4611686018427387904) (lv:Value) (h:aa) (hs:aZ h lv l):ai PP 21 [lv] h (fun r h'=>Ext h h'∧∃t,r= .string (B t)∧t.length≤10000):=by
 refine az mix abY Wb rfl (by show 1≤12;decide) ajc ?_
 simp only[wG,Tryz.f21]
 have hmk:=V.afO lv l 8 (by omega) hl h hs
 obtain⟨ad,c,rfl⟩:=hs.shape
 simp -implicitDefEqProofs
 refine hmk.mono ?_
 rintro r G ⟨E,i,v,row,x,a,b',c',cs,hi,M,ha,hV,rfl⟩
 have M2:=j6 (V.OF M (by omega))
 have hok:=afM M (by omega)
 have hlen:=M.len
 have hk:=M.s5
 have hp:=M.tH
 have hVC:V.bF G v cs:=by
  obtain⟨s,k,p,rfl,h1,h2,h3⟩:=hV
  exact⟨s,k,p,rfl,h1.own.sl,h2.own.sl,h3.1.own.sl⟩
 have hpr:=amj v cs (by omega) hok (V.OF M (by omega)) (fun k hk=>zx M2 k hk) G hVC
 have hcs:∃x1 y1 m1 g1 r1 x2 m2 y2 x3 m3 y3,cs=[.slice x1 y1 m1,.int .i64 g1,.int .i64 r1,.slice x2 m2 y2,.slice x3 m3 y3]:=by
  obtain⟨s,k,p,rfl,h1,h2,h3⟩:=hVC
  obtain⟨u1,u2,rfl⟩:=h1.shape
  obtain⟨u3,u4,rfl⟩:=h2.shape
  obtain⟨u5,u6,rfl⟩:=h3.shape
  exact⟨_,_,_,_,_,_,_,_,_,_,_,rfl⟩
 obtain⟨x1,y1,m1,g1,r1,x2,m2,y2,x3,m3,y3,rfl⟩:=hcs
 have hjl:=KP (ey v) hok
 have hll:(ey v).length≤30:=by unfold ey;simp;omega
 obtain⟨t,ht⟩:∃t,t=fr (ey v):=⟨_,rfl⟩
 rw[←ht]at hpr hjl
 simp -implicitDefEqProofs[ae]
 intro _
 refine hpr.mono ?_
 rintro r G2 ⟨rfl,rfl⟩
 simp -implicitDefEqProofs[ae]
 intro _
 exact⟨E,by omega⟩
end
end Go.Proofs.Ybk.K
namespace Go.Proofs.Ybk.K
open Go Go.Am
set_option maxHeartbeats 8000000
open V (aq aP ah al aQ ab aX aM aB bT bX aZ bF)
open F (bQ)
theorem tB:dH 0 (fu 1000):=OU 1000 (by decide) (by decide)
theorem Pe:dH 3 qR:=by have:=l5 2000 (cmd 1 0 0 th) tB;rw[JM]at this;exact this.mono (by decide)
theorem Pf:dH 3 pI:=by have:=l5 2000 (cmd 2 5 1 []) (Pe);rw[JN]at this;exact⟨this.f0,this.f1,this.n0,this.n1,by decide,this.may,this.fst⟩
theorem zP:dH 3 lY:=by have:=l5 2000 (cmd 2 5 2 []) (Pf);rw[JO]at this;exact⟨this.f0,this.f1,this.n0,this.n1,by decide,this.may,this.fst⟩
theorem Pg:dH 3 qS:=by have:=l5 2000 (cmd 3 1 0 []) (zP);rw[JP]at this;exact⟨this.f0,this.f1,this.n0,this.n1,by decide,this.may,this.fst⟩
theorem oD:dH 3 di:=by have:=l5 2000 (cmd 5 5 0 []) (Pg);rw[JQ]at this;exact⟨this.f0,this.f1,this.n0,this.n1,by decide,this.may,this.fst⟩
theorem apo {h0 h:aa} {a:Nat} {vc:List Value} {ov:Value} {o:Option Nat} (G0:bQ h0) (B:aY h0 h a (fu 1000) vc ov o):ai PP 15 [.pointer (some ⟨a,0,none⟩),bV (cmd 2 0 0 [])] h (fun r h'=>(∃vc' ov' o',aY h0 h' a (fu 1000) vc' ov' o')∧Kp h h'∧
  ∃ad cc ad2 c2,r= .tuple #[.agg ⟨[.int .i64 11,.int .i64 0,.int .i64 0,.int .i64 0,.slice ad 0 cc]⟩,.slice ad2 0 c2]∧aF 3 ab h' (.slice ad 0 cc) []):=by
 refine(jR (N:=3) (tB.mono (by decide)) (by decide) 2000 (by decide) _ (by decide) G0 B ZP).mono ?_
 rintro r h' ⟨q1,q2,ad,n,cc,ad2,n2,c2,rfl,q3,S,q4,_⟩
 replace q4:n2=0:=by rw[ZK]at q4;exact q4
 subst q4
 replace q3:n=0:=q3
 subst q3
 exact⟨q1,q2,ad,cc,ad2,c2,rfl,S⟩
theorem apq {h0 h:aa} {a:Nat} {vc:List Value} {ov:Value} {o:Option Nat} (G0:bQ h0) (B:aY h0 h a (fu 1000) vc ov o):ai PP 15 [.pointer (some ⟨a,0,none⟩),bV (cmd 1 0 0 th)] h (fun r h'=>(∃vc' ov' o',aY h0 h' a qR vc' ov' o')∧Kp h h'∧
  ∃ad cc ad2 c2,r= .tuple #[.agg ⟨[.int .i64 0,.int .i64 3,.int .i64 0,.int .i64 0,.slice ad 0 cc]⟩,.slice ad2 2 c2]∧aF 3 ab h' (.slice ad 0 cc) []):=by
 refine(jR (N:=3) (tB.mono (by decide)) (by decide) 2000 (by decide) _ (by decide) G0 B JM).mono ?_
 rintro r h' ⟨q1,q2,ad,n,cc,ad2,n2,c2,rfl,q3,S,q4,_⟩
 replace q4:n2=2:=by rw[ZL]at q4;exact q4
 subst q4
 replace q3:n=0:=q3
 subst q3
 exact⟨q1,q2,ad,cc,ad2,c2,rfl,S⟩
theorem apt {h0 h:aa} {a:Nat} {vc:List Value} {ov:Value} {o:Option Nat} (G0:bQ h0) (B:aY h0 h a qR vc ov o):ai PP 15 [.pointer (some ⟨a,0,none⟩),bV (cmd 2 5 1 [])] h (fun r h'=>(∃vc' ov' o',aY h0 h' a pI vc' ov' o')∧Kp h h'∧
  ∃ad cc ad2 n2 c2,r= .tuple #[.agg ⟨[.int .i64 0,.int .i64 1,.int .i64 0,.int .i64 0,.slice ad 1 cc]⟩,.slice ad2 n2 c2]∧aF 3 ab h' (.slice ad 1 cc) [0]):=by
 refine(jR (N:=3) Pe (by decide) 2000 (by decide) _ (by decide) G0 B JN).mono ?_
 rintro r h' ⟨q1,q2,ad,n,cc,ad2,n2,c2,rfl,q3,S,q4,_⟩
 clear q4
 replace q3:n=1:=q3
 subst q3
 exact⟨q1,q2,ad,cc,ad2,n2,c2,rfl,S⟩
theorem apu {h0 h:aa} {a:Nat} {vc:List Value} {ov:Value} {o:Option Nat} (G0:bQ h0) (B:aY h0 h a pI vc ov o):ai PP 15 [.pointer (some ⟨a,0,none⟩),bV (cmd 2 5 2 [])] h (fun r h'=>(∃vc' ov' o',aY h0 h' a lY vc' ov' o')∧Kp h h'∧
  ∃ad cc ad2 c2,r= .tuple #[.agg ⟨[.int .i64 0,.int .i64 2,.int .i64 0,.int .i64 0,.slice ad 2 cc]⟩,.slice ad2 2 c2]∧aF 3 ab h' (.slice ad 2 cc) [1,2]):=by
 refine(jR (N:=3) Pf (by decide) 2000 (by decide) _ (by decide) G0 B JO).mono ?_
 rintro r h' ⟨q1,q2,ad,n,cc,ad2,n2,c2,rfl,q3,S,q4,_⟩
 replace q4:n2=2:=by rw[ZM]at q4;exact q4
 subst q4
 replace q3:n=2:=q3
 subst q3
 exact⟨q1,q2,ad,cc,ad2,c2,rfl,S⟩
theorem apv {h0 h:aa} {a:Nat} {vc:List Value} {ov:Value} {o:Option Nat} (G0:bQ h0) (B:aY h0 h a lY vc ov o):ai PP 15 [.pointer (some ⟨a,0,none⟩),bV (cmd 2 5 1 [])] h (fun r h'=>(∃vc' ov' o',aY h0 h' a lY vc' ov' o')∧Kp h h'∧
  ∃ad cc ad2 n2 c2,r= .tuple #[.agg ⟨[.int .i64 6,.int .i64 0,.int .i64 0,.int .i64 0,.slice ad 0 cc]⟩,.slice ad2 n2 c2]∧aF 3 ab h' (.slice ad 0 cc) []):=by
 refine(jR (N:=3) zP (by decide) 2000 (by decide) _ (by decide) G0 B ZS).mono ?_
 rintro r h' ⟨q1,q2,ad,n,cc,ad2,n2,c2,rfl,q3,S,q4,_⟩
 clear q4
 replace q3:n=0:=q3
 subst q3
 exact⟨q1,q2,ad,cc,ad2,n2,c2,rfl,S⟩
theorem apw {h0 h:aa} {a:Nat} {vc:List Value} {ov:Value} {o:Option Nat} (G0:bQ h0) (B:aY h0 h a lY vc ov o):ai PP 15 [.pointer (some ⟨a,0,none⟩),bV (cmd 3 1 0 [])] h (fun r h'=>(∃vc' ov' o',aY h0 h' a qS vc' ov' o')∧Kp h h'∧
  ∃ad cc ad2 n2 c2,r= .tuple #[.agg ⟨[.int .i64 0,.int .i64 0,.int .i64 0,.int .i64 0,.slice ad 1 cc]⟩,.slice ad2 n2 c2]∧aF 3 ab h' (.slice ad 1 cc) [0]):=by
 refine(jR (N:=3) zP (by decide) 2000 (by decide) _ (by decide) G0 B JP).mono ?_
 rintro r h' ⟨q1,q2,ad,n,cc,ad2,n2,c2,rfl,q3,S,q4,_⟩
 clear q4
 replace q3:n=1:=q3
 subst q3
 exact⟨q1,q2,ad,cc,ad2,n2,c2,rfl,S⟩
theorem apx {h0 h:aa} {a:Nat} {vc:List Value} {ov:Value} {o:Option Nat} (G0:bQ h0) (B:aY h0 h a qS vc ov o):ai PP 15 [.pointer (some ⟨a,0,none⟩),bV (cmd 5 5 0 [])] h (fun r h'=>(∃vc' ov' o',aY h0 h' a di vc' ov' o')∧Kp h h'∧
  ∃ad cc ad2 n2 c2,r= .tuple #[.agg ⟨[.int .i64 0,.int .i64 1,.int .i64 0,.int .i64 0,.slice ad 0 cc]⟩,.slice ad2 n2 c2]∧aF 3 ab h' (.slice ad 0 cc) []):=by
 refine(jR (N:=3) Pg (by decide) 2000 (by decide) _ (by decide) G0 B JQ).mono ?_
 rintro r h' ⟨q1,q2,ad,n,cc,ad2,n2,c2,rfl,q3,S,q4,_⟩
 clear q4
 replace q3:n=0:=q3
 subst q3
 exact⟨q1,q2,ad,cc,ad2,n2,c2,rfl,S⟩
theorem apy {h0 h:aa} {a:Nat} {vc:List Value} {ov:Value} {o:Option Nat} (G0:bQ h0) (B:aY h0 h a di vc ov o):ai PP 15 [.pointer (some ⟨a,0,none⟩),bV (cmd 8 0 0 [])] h (fun r h'=>(∃vc' ov' o',aY h0 h' a di vc' ov' o')∧Kp h h'∧
  ∃ad cc ad2 n2 c2,r= .tuple #[.agg ⟨[.int .i64 0,.int .i64 0,.int .i64 0,.int .i64 0,.slice ad 3 cc]⟩,.slice ad2 n2 c2]∧aF 3 ab h' (.slice ad 3 cc) [1,0,0]):=by
 refine(jR (N:=3) oD (by decide) 2000 (by decide) _ (by decide) G0 B ZT).mono ?_
 rintro r h' ⟨q1,q2,ad,n,cc,ad2,n2,c2,rfl,q3,S,q4,_⟩
 clear q4
 replace q3:n=3:=q3
 subst q3
 exact⟨q1,q2,ad,cc,ad2,n2,c2,rfl,S⟩
theorem apz {h0 h:aa} {a:Nat} {vc:List Value} {ov:Value} {o:Option Nat} (G0:bQ h0) (B:aY h0 h a di vc ov o):ai PP 15 [.pointer (some ⟨a,0,none⟩),bV (cmd 3 2 0 [])] h (fun r h'=>(∃vc' ov' o',aY h0 h' a di vc' ov' o')∧Kp h h'∧
  ∃ad cc ad2 n2 c2,r= .tuple #[.agg ⟨[.int .i64 5,.int .i64 0,.int .i64 0,.int .i64 0,.slice ad 0 cc]⟩,.slice ad2 n2 c2]∧aF 3 ab h' (.slice ad 0 cc) []):=by
 refine(jR (N:=3) oD (by decide) 2000 (by decide) _ (by decide) G0 B ZU).mono ?_
 rintro r h' ⟨q1,q2,ad,n,cc,ad2,n2,c2,rfl,q3,S,q4,_⟩
 clear q4
 replace q3:n=0:=q3
 subst q3
 exact⟨q1,q2,ad,cc,ad2,n2,c2,rfl,S⟩
theorem apA {h0 h:aa} {a:Nat} {vc:List Value} {ov:Value} {o:Option Nat} (G0:bQ h0) (B:aY h0 h a di vc ov o):ai PP 15 [.pointer (some ⟨a,0,none⟩),bV (cmd 4 9 0 [])] h (fun r h'=>(∃vc' ov' o',aY h0 h' a di vc' ov' o')∧Kp h h'∧
  ∃ad cc ad2 n2 c2,r= .tuple #[.agg ⟨[.int .i64 4,.int .i64 0,.int .i64 0,.int .i64 0,.slice ad 0 cc]⟩,.slice ad2 n2 c2]∧aF 3 ab h' (.slice ad 0 cc) []):=by
 refine(jR (N:=3) oD (by decide) 2000 (by decide) _ (by decide) G0 B ZV).mono ?_
 rintro r h' ⟨q1,q2,ad,n,cc,ad2,n2,c2,rfl,q3,S,q4,_⟩
 clear q4
 replace q3:n=0:=q3
 subst q3
 exact⟨q1,q2,ad,cc,ad2,n2,c2,rfl,S⟩
theorem apr {h0 h:aa} {a:Nat} {vc:List Value} {ov:Value} {o:Option Nat} (G0:bQ h0) (B:aY h0 h a di vc ov o):ai PP 15 [.pointer (some ⟨a,0,none⟩),bV (cmd 99 0 0 [])] h (fun r h'=>(∃vc' ov' o',aY h0 h' a di vc' ov' o')∧Kp h h'∧
  ∃ad cc ad2 n2 c2,r= .tuple #[.agg ⟨[.int .i64 1,.int .i64 0,.int .i64 0,.int .i64 0,.slice ad 0 cc]⟩,.slice ad2 n2 c2]∧aF 3 ab h' (.slice ad 0 cc) []):=by
 refine(jR (N:=3) oD (by decide) 2000 (by decide) _ (by decide) G0 B ZQ).mono ?_
 rintro r h' ⟨q1,q2,ad,n,cc,ad2,n2,c2,rfl,q3,S,q4,_⟩
 clear q4
 replace q3:n=0:=q3
 subst q3
 exact⟨q1,q2,ad,cc,ad2,n2,c2,rfl,S⟩
theorem aps {h0 h:aa} {a:Nat} {vc:List Value} {ov:Value} {o:Option Nat} (G0:bQ h0) (B:aY h0 h a di vc ov o):ai PP 15 [.pointer (some ⟨a,0,none⟩),bV (cmd 1 0 0 [])] h (fun r h'=>(∃vc' ov' o',aY h0 h' a di vc' ov' o')∧Kp h h'∧
  ∃ad cc ad2 n2 c2,r= .tuple #[.agg ⟨[.int .i64 12,.int .i64 0,.int .i64 0,.int .i64 0,.slice ad 0 cc]⟩,.slice ad2 n2 c2]∧aF 3 ab h' (.slice ad 0 cc) []):=by
 refine(jR (N:=3) oD (by decide) 2000 (by decide) _ (by decide) G0 B ZR).mono ?_
 rintro r h' ⟨q1,q2,ad,n,cc,ad2,n2,c2,rfl,q3,S,q4,_⟩
 clear q4
 replace q3:n=0:=q3
 subst q3
 exact⟨q1,q2,ad,cc,ad2,n2,c2,rfl,S⟩
theorem afq:(bW di).length=1:=by decide
theorem am9:rP di di=true:=by decide
theorem af0:di.has=true→aM di.v=true:=oD.may
theorem amz:(np di).length=5:=by rw[Qm];rfl
theorem apN:pH (fu 1000) (np di)=(di,0):=by rw[Qm];exact apM
theorem Ay (h:aa) (G:bQ h):ai PP 11 [] h (fun r h'=>Ext h h'∧r= .bool true):=by
 refine az mix aaV U2 rfl (by show 0≤258;decide) ah9 ?_
 simp only[u7,Tryz.f11]
 have hr1:List.range 1=[0]:=rfl
 have hr2:List.range 2=[0,1]:=rfl
 have hr3:List.range 3=[0,1,2]:=rfl
 simp -implicitDefEqProofs
 refine(tu 1000 (by decide) (by decide) h).mono ?_
 rintro r H0 ⟨a,vc0,ov0,rfl,B0⟩
 simp -implicitDefEqProofs[ae]
 intro _
 have D0:=apo G B0
 simp only[bV,cX,cmd]at D0
 refine D0.mono ?_
 clear D0
 rintro r H1 ⟨⟨vc1,ov1,o1,B1⟩,K0,ad0,cc0,ae0,ce0,rfl,S0⟩
 simp -implicitDefEqProofs[ae]
 intro _
 have D1:=apq G B1
 simp only[bV,cX,cmd]at D1
 refine D1.mono ?_
 clear D1
 rintro r H2 ⟨⟨vc2,ov2,o2,B2⟩,K1,ad1,cc1,ae1,ce1,rfl,S1⟩
 simp -implicitDefEqProofs[ae]
 intro _
 have D2:=apt G B2
 simp only[bV,cX,cmd]at D2
 refine D2.mono ?_
 clear D2
 rintro r H3 ⟨⟨vc3,ov3,o3,B3⟩,K2,ad2,cc2,ae2,ne2,ce2,rfl,S2⟩
 simp -implicitDefEqProofs[ae]
 intro _
 have D3:=apu G B3
 simp only[bV,cX,cmd]at D3
 refine D3.mono ?_
 clear D3
 rintro r H4 ⟨⟨vc4,ov4,o4,B4⟩,K3,ad3,cc3,ae3,ce3,rfl,S3⟩
 simp -implicitDefEqProofs[ae]
 intro _
 have D4:=apv G B4
 simp only[bV,cX,cmd]at D4
 refine D4.mono ?_
 clear D4
 rintro r H5 ⟨⟨vc5,ov5,o5,B5⟩,K4,ad4,cc4,ae4,ne4,ce4,rfl,S4⟩
 simp -implicitDefEqProofs[ae]
 intro _
 have D5:=apw G B5
 simp only[bV,cX,cmd]at D5
 refine D5.mono ?_
 clear D5
 rintro r H6 ⟨⟨vc6,ov6,o6,B6⟩,K5,ad5,cc5,ae5,ne5,ce5,rfl,S5⟩
 simp -implicitDefEqProofs[ae]
 intro _
 have D6:=apx G B6
 simp only[bV,cX,cmd]at D6
 refine D6.mono ?_
 clear D6
 rintro r H7 ⟨⟨vc7,ov7,o7,B7⟩,K6,ad6,cc6,ae6,ne6,ce6,rfl,S6⟩
 simp -implicitDefEqProofs[ae]
 intro _
 have D7:=apy G B7
 simp only[bV,cX,cmd]at D7
 refine D7.mono ?_
 clear D7
 rintro r H8 ⟨⟨vc8,ov8,o8,B8⟩,K7,ad7,cc7,ae7,ne7,ce7,rfl,S7⟩
 simp -implicitDefEqProofs[ae]
 intro _
 have D8:=apz G B8
 simp only[bV,cX,cmd]at D8
 refine D8.mono ?_
 clear D8
 rintro r H9 ⟨⟨vc9,ov9,o9,B9⟩,K8,ad8,cc8,ae8,ne8,ce8,rfl,S8⟩
 simp -implicitDefEqProofs[ae]
 intro _
 have D9:=apA G B9
 simp only[bV,cX,cmd]at D9
 refine D9.mono ?_
 clear D9
 rintro r H10 ⟨⟨vc10,ov10,o10,B10⟩,K9,ad9,cc9,ae9,ne9,ce9,rfl,S9⟩
 simp -implicitDefEqProofs[ae]
 intro _
 have D10:=apr G B10
 simp only[bV,cX,cmd]at D10
 refine D10.mono ?_
 clear D10
 rintro r H11 ⟨⟨vc11,ov11,o11,B11⟩,sd,ad10,cc10,ae10,ne10,ce10,rfl,S10⟩
 simp -implicitDefEqProofs[ae]
 intro _
 have D11:=aps G B11
 simp only[bV,cX,cmd]at D11
 refine D11.mono ?_
 clear D11
 rintro r H12 ⟨⟨vc12,ov12,o12,B12⟩,K11,ad11,cc11,ae11,ne11,ce11,rfl,S11⟩
 simp -implicitDefEqProofs[ae]
 intro _
 refine(tu 1000 (by decide) (by decide) H12).mono ?_
 rintro r H13 ⟨a2,vcn,ovn,rfl,Bn⟩
 simp -implicitDefEqProofs[ae]
 intro _
 have B13:=B12.exts Bn.ext
 refine(amx (by decide) af0 G B13).mono ?_
 rintro r H14 ⟨E14,SR⟩
 obtain⟨adr,cr,rfl⟩:=SR.shape
 have B14:=B13.exts E14
 have Bn14:=Bn.exts E14
 have ha:=UG (N:=0) tB (np di) (by rw[amz];decide) _ SR Bn14
 rw[apN]at ha
 simp -implicitDefEqProofs[ae]
 intro _
 refine ha.mono ?_
 rintro r H15 ⟨⟨vcm,ovm,om,Bm,Cm,Dm⟩,rfl⟩
 have C15:=Cm.kp Bn14.gh
 have B15:=B14.dt Cm Bn14.gh (fun x hx=>Nat.le_trans B12.ext.n (Bn14.own x hx).1) (fun x hx z=>by
  have h1:=(B12.own x hx).2
  have h2:=(Bn14.own x z).1
  omega)
 simp -implicitDefEqProofs[ae]
 intro _
 have Dn:=ZE ⟨0,0,⟨0,0⟩,[]⟩ H15
 simp only[bV,cX]at Dn
 refine Dn.mono ?_
 rintro r h' ⟨e,rfl⟩
 replace e:=e.symm
 subst e
 have Z2:=((((((((((((S2.kp K3).kp K4).kp K5).kp K6).kp K7).kp K8).kp K9).kp sd).kp K11)).kp Bn.ext.kp).kp E14.kp).kp C15
 have Z3:=(((((((((((S3.kp K4).kp K5).kp K6).kp K7).kp K8).kp K9).kp sd).kp K11)).kp Bn.ext.kp).kp E14.kp).kp C15
 have Z7:=(((((((S7.kp K8).kp K9).kp sd).kp K11)).kp Bn.ext.kp).kp E14.kp).kp C15
 have X1:=Ext.new H15 (.row true 3 ([(0:Int)].map (Value.int .i64)))
 have I1:=lx H15 [0] (by simp)
 obtain⟨F1,hF1⟩:∃F,F=H15.new (.row true 3 ([(0:Int)].map (Value.int .i64))):=⟨_,rfl⟩
 rw[←hF1]at X1 I1
 have X2:=Ext.new F1 (.row true 3 ([(1:Int),2].map (Value.int .i64)))
 have I2:=lx F1 [1,2] (by simp)
 obtain⟨F2,hF2⟩:∃F,F=F1.new (.row true 3 ([(1:Int),2].map (Value.int .i64))):=⟨_,rfl⟩
 rw[←hF2]at X2 I2
 have X3:=Ext.new F2 (.row true 3 ([(1:Int),0,0].map (Value.int .i64)))
 have I3:=lx F2 [1,0,0] (by simp)
 obtain⟨F3,hF3⟩:∃F,F=F2.new (.row true 3 ([(1:Int),0,0].map (Value.int .i64))):=⟨_,rfl⟩
 rw[←hF3]at X3 I3
 have BF:=((B15.exts X1).exts X2).exts X3
 have BmF:=((Bm.exts X1).exts X2).exts X3
 have e1:=Ak _ _ [0] [0] (by decide) F1 (Z2.ext X1).sl I1
 have e2:=Ak _ _ [1,2] [1,2] (by decide) F2 ((Z3.ext X1).ext X2).sl I2
 have e3:=Ak _ _ [1,0,0] [1,0,0] (by decide) F3 (((Z7.ext X1).ext X2).ext X3).sl I3
 simp only[List.length_cons,List.length_nil,Nat.zero_add,Nat.reduceAdd]at e1 e2 e3
 simp only[List.map_cons,List.map_nil]at hF1 hF2 hF3
 have hF1':=hF1.symm
 have hF2':=hF2.symm
 have hF3':=hF3.symm
 simp -implicitDefEqProofs[ae,aI,hr1,hr2,hr3,hF1']
 intro _
 refine e1.mono ?_
 rintro r h' ⟨e,rfl⟩
 replace e:=e.symm
 subst e
 simp -implicitDefEqProofs[ae,aI,hr1,hr2,hr3,hF2']
 intro _
 refine e2.mono ?_
 rintro r h' ⟨e,rfl⟩
 replace e:=e.symm
 subst e
 simp -implicitDefEqProofs[ae,aI,hr1,hr2,hr3,hF3']
 intro _
 refine e3.mono ?_
 rintro r h' ⟨e,rfl⟩
 replace e:=e.symm
 subst e
 simp -implicitDefEqProofs[ae]
 intro _
 have hnow:di.now=5:=rfl
 refine(OZ BF).mono ?_
 rintro r h' ⟨e,rfl⟩
 replace e:=e.symm
 subst e
 rw[hnow]
 simp -implicitDefEqProofs[ae]
 intro _
 refine(mX (by decide) BF).mono ?_
 rintro r F4 ⟨X4,SL⟩
 obtain⟨adl,cl,rfl⟩:=SL.shape
 rw[afq]
 simp -implicitDefEqProofs[ae]
 intro _
 have B4:=BF.exts X4
 have hlen2:di.l.length=2:=rfl
 refine(Pq (by decide) B4).mono ?_
 rintro r F5 ⟨X5,SO⟩
 obtain⟨ado,rfl,_⟩:=SO
 rw[hlen2]
 simp -implicitDefEqProofs[ae]
 intro _
 have B5:=B4.exts X5
 have Bm5:=(BmF.exts X4).exts X5
 have hsm:=yB (j6 (oD.may rfl)).small (by decide) Bm5 B5
 rw[am9]at hsm
 refine hsm.mono ?_
 rintro r h' ⟨e,rfl⟩
 replace e:=e.symm
 subst e
 simp -implicitDefEqProofs[ae]
 intro _
 refine(XQ Bm5).mono ?_
 rintro r h' ⟨e,rfl⟩
 replace e:=e.symm
 subst e
 simp -implicitDefEqProofs[ae]
 intro _
 refine(ago F5).mono ?_
 rintro r h' ⟨e,rfl⟩
 replace e:=e.symm
 subst e
 simp -implicitDefEqProofs[ae]
 intro _
 exact B5.ext
end Go.Proofs.Ybk.K
namespace Go.Proofs.Ybk.K
open Go Go.Am
open V (aq aP ah al aQ ab aX aM aB bT bX aZ bF)
open F (bQ)
def fa (h0 h:aa) (a a2:Nat) (b b2:aK):Prop:=∃vc ov o vc2 ov2 o2,aY h0 h a b vc ov o∧aY h0 h a2 b2 vc2 ov2 o2∧∀x∈a::o.toList,x∉a2::o2.toList
section
variable {h0 h h':aa} {a a2:Nat} {b b2:aK}
theorem fa.swap (T:fa h0 h a a2 b b2):fa h0 h a2 a b2 b:=by
 obtain⟨vc,ov,o,vc2,ov2,o2,B,B2,D⟩:=T
 exact⟨vc2,ov2,o2,vc,ov,o,B2,B,fun x hx z=>D x z hx⟩
theorem fa.fst (T:fa h0 h a a2 b b2):∃vc ov o,aY h0 h a b vc ov o:=by
 obtain⟨vc,ov,o,vc2,ov2,o2,B,B2,D⟩:=T
 exact⟨vc,ov,o,B⟩
theorem fa.ext (T:fa h0 h a a2 b b2) (E:Ext h h'):fa h0 h' a a2 b b2:=by
 obtain⟨vc,ov,o,vc2,ov2,o2,B,B2,D⟩:=T
 exact⟨vc,ov,o,vc2,ov2,o2,B.exts E,B2.exts E,D⟩
theorem fa.e (T:fa h0 h a a2 b b2):Ext h0 h:=by
 obtain⟨vc,ov,o,B⟩:=T.fst
 exact B.ext
theorem apQ {vc:List Value} {ov:Value} {o:Option Nat} (B:aY h0 h a b vc ov o) {vc2:List Value} {ov2:Value} {o2:Option Nat} (B2:aY h h' a2 b2 vc2 ov2 o2):fa h0 h' a a2 b b2:=
 ⟨vc,ov,o,vc2,ov2,o2,B.exts B2.ext,B2.low B.ext,fun x hx z=>by
  have h1:=(B.own x hx).2
  have h2:=(B2.own x z).1
  omega⟩
theorem ug {N:Nat} (OK:dH N b) (hN:N≤1047000) (steps:Nat) (hst:2*b.fuel.toNat≤steps) (c:dQ) (hc:c.text.length≤1048576) (G0:bQ h0) (T:fa h0 h a a2 b b2):
  ai PP 15 [.pointer (some ⟨a,0,none⟩),bV c] h (fun r h'=>fa h0 h' a a2 (cv steps b c).1 b2∧r8 h' (cv steps b c).2 (l4 steps b c) r):=by
 obtain⟨vc,ov,o,vc2,ov2,o2,B,B2,D⟩:=T
 refine(F9 OK hN steps hst c hc G0 B).mono ?_
 intro r h' H
 obtain⟨⟨vc',ov',o',B',C,D'⟩,HR⟩:=H.r
 refine⟨⟨vc',ov',o',vc2,ov2,o2,B',B2.other B C (fun x hx z=>D x z hx),fun x hx z=>?_⟩,HR⟩
 rcases List.mem_cons.1 hx with e|hx
 ·exact D a List.mem_cons_self (e ▸ z)
 ·rcases D' x (by simpa using hx)with q|q
  ·exact D x (List.mem_cons_of_mem _ (by simpa using q)) z
  ·have:=(B2.own x z).2
   omega
theorem Az {N:Nat} (OK:dH N b2) (hN:N≤1047000) (steps:Nat) (hst:2*b2.fuel.toNat≤steps) (c:dQ) (hc:c.text.length≤1048576) (G0:bQ h0) (T:fa h0 h a a2 b b2):
  ai PP 15 [.pointer (some ⟨a2,0,none⟩),bV c] h (fun r h'=>fa h0 h' a a2 b (cv steps b2 c).1∧r8 h' (cv steps b2 c).2 (l4 steps b2 c) r):=by
 refine(ug OK hN steps hst c hc G0 T.swap).mono ?_
 rintro r h' ⟨T',HR⟩
 exact⟨T'.swap,HR⟩
end
theorem ana (v:ah):V.qz v v=true:=by unfold V.qz;simp
theorem PU (b:aK):rP b b=true:=by unfold rP;rw[ana];simp
theorem Gb (n:Nat) (b:aK) (c:dQ) (h:V.ji b.v):V.ji (cv n b c).1.v:=by
 unfold cv
 split
 ·exact h
 split
 ·unfold me
  split
  ·exact h
  ·split
   ·exact h
   ·rename_i hp
    exact(j6 (zV hp)).small
 split
 ·unfold iL
  split<;>exact h
 split
 ·exact h
 split
 ·unfold jw
  split
  ·exact h
  ·simp only
   split<;>exact h
 split
 ·exact h
 split
 ·unfold mJ
  split
  ·exact h
  ·simp only
   split<;>exact h
 split
 ·unfold mH
  split
  ·exact h
  ·simp only
   split<;>exact h
 split
 ·unfold nq
  simp only
  split
  ·exact h
  ·split<;>exact h
 ·exact h
theorem agp (f:Int):V.ji (fu f).v:=⟨Nat.zero_le _,Nat.zero_le _,Nat.zero_le _⟩
def tX (b:aK):Prop:=∀o∈b.l,o.state=1∨o.state=3
theorem anA:∀(l:List aN) (p:List Int),∀o∈eF l p,∃x∈l,o.state=x.state:=by
 intro l
 induction l with
 |nil=>intro p o ho;rw[eF]at ho;cases ho
 |cons a r ih=>
  intro p o ho
  rw[eF]at ho
  split at ho
  ·rcases List.mem_cons.1 ho with rfl|ho
   ·exact⟨a,List.mem_cons_self,rfl⟩
   ·obtain⟨x,hx,e⟩:=ih _ o ho
    exact⟨x,List.mem_cons_of_mem _ hx,e⟩
  ·rcases List.mem_cons.1 ho with rfl|ho
   ·exact⟨o,List.mem_cons_self,rfl⟩
   ·obtain⟨x,hx,e⟩:=ih _ o ho
    exact⟨x,List.mem_cons_of_mem _ hx,e⟩
def jx (t:List UInt8):dQ:=⟨1,0,⟨0,0⟩,t⟩
def lu (k:Int):dQ:=⟨2,k,⟨1,0⟩,[]⟩
def kY (n:Int):dQ:=⟨5,n,⟨0,0⟩,[]⟩
theorem aew (s:Nat) (b:aK) (t:List UInt8):(cv s b (jx t)).1.l=b.l∧(cv s b (jx t)).1.now=b.now:=by
 have e:cv s b (jx t)=me b t:=rfl
 rw[e]
 unfold me
 split
 ·exact⟨rfl,rfl⟩
 ·split<;>exact⟨rfl,rfl⟩
theorem aeq (s:Nat) (b:aK) (k:Int) (h:tX b):tX (cv s b (lu k)).1∧(cv s b (lu k)).1.now=b.now:=by
 have e:cv s b (lu k)=if !b.has then(b,err 11)else jw s b (lu k):=rfl
 rw[e]
 split
 ·exact⟨h,rfl⟩
 ·unfold jw
  split
  ·exact⟨h,rfl⟩
  ·simp only
   split
   ·exact⟨h,rfl⟩
   ·refine⟨fun o ho=>?_,rfl⟩
    obtain⟨x,hx,e⟩:=anA _ _ o ho
    rw[e]
    rcases List.mem_append.1 hx with q|q
    ·exact h x q
    ·rw[List.mem_singleton]at q;subst q;exact .inl rfl
def fk (b:aK) (s:Int):aK:=if s=0 then b else{b with now:=s,l:=b.l.map (fj s)}
def js (b:aK) (s:Int):Nat:=if s=0 then 0 else(b.l.filter (dW s)).length
theorem J5 {b:aK} (h:b.now=0) (s:Int):(fk b s).now=s:=by
 unfold fk
 split
 ·rename_i e;rw[h,e]
 ·rfl
theorem aak (b:aK) (s:Int):(fk b s).fuel=b.fuel:=by unfold fk;split<;>rfl
theorem J6 (k:Nat) {b:aK} (hb:b.now=0) {s n:Int} (hs:0≤s) (h1:1≤n) (h2:n≤1000000) (h3:s+n≤1099511627776):
  (cv k (fk b s) (kY n)).1=fk b (s+n)∧(cv k (fk b s) (kY n)).2.code=0∧(js b s:Int)+(cv k (fk b s) (kY n)).2.n=js b (s+n):=by
 have e:cv k (fk b s) (kY n)=iL (fk b s) n:=rfl
 have hnow:=J5 hb s
 rw[e,Ql _ n ⟨h1,h2,by rw[hnow];exact h3⟩,hnow]
 have hne:¬s+n=0:=by omega
 by_cases q:s=0
 ·subst q
  unfold fk js
  rw[if_pos rfl,if_neg hne,if_pos rfl,if_neg hne]
  exact⟨rfl,rfl,by simp⟩
 ·unfold fk js
  rw[if_neg q,if_neg hne,if_neg q,if_neg hne]
  refine⟨?_,rfl,?_⟩
  ·simp only
   rw[apJ s (s+n) (by omega)]
  ·simp only
   have:=apI s (s+n) (by omega) b.l
   omega
theorem aal {b:aK} (h:tX b) {s:Int} (hs:0<s):∀o∈bW (fk b s),s<o.gT:=by
 intro o ho
 unfold fk at ho
 rw[if_neg (by omega)]at ho
 obtain⟨h1,h2⟩:=List.mem_filter.1 ho
 obtain⟨x,hx,rfl⟩:=List.mem_map.1 h1
 unfold fj at h2 ⊢
 split at h2
 ·exact absurd h2 (by simp[cS,iR])
 ·rename_i hd
  rw[if_neg hd]
  rcases h x hx with e|e
  ·unfold dW at hd
   simp[e]at hd
   omega
  ·unfold cS at h2
   simp[e]at h2
end Go.Proofs.Ybk.K
namespace Go.Proofs.Ybk.K
open Go Go.Am
set_option maxHeartbeats 4000000
open V (aq aP ah al aQ ab aX aM aB bT bX aZ bF)
open F (bQ)
theorem QX (n:Int) (m:Nat) (hm:0<m) (hm2:m≤100):∃k:Nat,k<m∧(IntKind.wrap .u64 n).tmod m=(k:Int)∧IntKind.wrap .u64 ((k:Int))=k∧IntKind.wrap .i64 ((k:Int))=k∧IntKind.wrap .i64 (1+(k:Int))=1+(k:Int):=by
 have h0:0≤IntKind.wrap .u64 n:=by rw[Qn];omega
 refine⟨((IntKind.wrap .u64 n) % m).toNat,?_,?_,?_,?_,?_⟩
 ·have:=Int.emod_lt_of_pos (IntKind.wrap .u64 n) (show(0:Int)<m by omega)
  have:=Int.emod_nonneg (IntKind.wrap .u64 n) (show(m:Int)≠0 by omega)
  omega
 ·rw[Int.tmod_eq_emod_of_nonneg h0]
  have:=Int.emod_nonneg (IntKind.wrap .u64 n) (show(m:Int)≠0 by omega)
  omega
 all_goals
  have h1:=Int.emod_lt_of_pos (IntKind.wrap .u64 n) (show(0:Int)<m by omega)
  have h2:=Int.emod_nonneg (IntKind.wrap .u64 n) (show(m:Int)≠0 by omega)
 ·exact gp (by omega)
 ·exact aA (by omega)
 ·exact aA (by omega)
def SX (h:aa) (a a2:Nat) (sh st:Value) (m n:Nat) (σ:St):Prop:=∃(i:Nat) (b:aK),n=m-i∧i≤m∧fa h σ.m.h a a2 b b∧dH (1+i) b∧b.fuel=400∧b.now=0∧tX b∧V.ji b.v∧
 σ.t.get 1=some sh∧σ.t.get 2=some st∧σ.t.get 7=some (.pointer (some ⟨a,0,none⟩))∧σ.t.get 8=some (.pointer (some ⟨a2,0,none⟩))∧σ.t.get 10=some (.int .i64 (i:Nat))
def SY (h:aa) (a a2:Nat) (b:aK) (st:Value) (m n:Nat) (σ:St):Prop:=∃(i:Nat) (s:Nat),n=m-i∧i≤m∧i≤s∧s≤6*i∧fa h σ.m.h a a2 (fk b s) b∧dH (6+i) (fk b s)∧
 σ.t.get 2=some st∧σ.t.get 7=some (.pointer (some ⟨a,0,none⟩))∧σ.t.get 8=some (.pointer (some ⟨a2,0,none⟩))∧σ.t.get 12=some (.int .i64 (s:Nat))∧σ.t.get 13=some (.int .i64 (js b s:Nat))∧σ.t.get 14=some (.int .i64 (i:Nat))
def SZ (h:aa) (a a2:Nat) (b b1:aK) (st lv:Value) (s d i:Nat) (R:List Value) (m n:Nat) (σ:St):Prop:=∃(j:Nat),n=m-j∧j≤m∧fa h σ.m.h a a2 b1 b∧aF 43 aH σ.m.h lv (bW b1)∧
 σ.t.get 2=some st∧σ.t.get 7=some (.pointer (some ⟨a,0,none⟩))∧σ.t.get 8=some (.pointer (some ⟨a2,0,none⟩))∧σ.t.get 12=some (.int .i64 (s:Nat))∧σ.t.get 13=some (.int .i64 (d:Nat))∧σ.t.get 14=some (.int .i64 (i:Nat))∧σ.t.get 16=some (.pointer (some ⟨16,0,some 0⟩))∧σ.t.get 18=some lv∧σ.t.get 19=some (.int .i64 (j:Nat))∧σ.m.x.look 16=some (38,R)
theorem ticks_ok (v holds ticks:List Int) (sv sh st:Value) (hvl:v.length≤4611686018427387904) (hhl:holds.length≤4611686018427387904) (htl:ticks.length≤4611686018427387904) (h:aa) (G:bQ h) (Hv:aZ h sv v) (Hh:aZ h sh holds) (Ht:aZ h st ticks):
  ai PP 5 [sv,sh,st] h (fun r h'=>Ext h h'∧r= .bool true):=by
 refine az mix ac4 Xm rfl (by show 3≤166;decide) akf ?_
 simp only[xV,Tryz.f5]
 obtain⟨ad1,c1,rfl⟩:=Hv.shape
 obtain⟨ad2,c2,rfl⟩:=Hh.shape
 obtain⟨ad3,c3,rfl⟩:=Ht.shape
 simp -implicitDefEqProofs
 refine(tu 400 (by decide) (by decide) h).mono ?_
 rintro r H0 ⟨a,vc,ov,rfl,B⟩
 simp -implicitDefEqProofs[ae]
 intro _
 refine(tu 400 (by decide) (by decide) H0).mono ?_
 rintro r H1 ⟨a2,vc2,ov2,rfl,B2⟩
 have T:=apQ B B2
 simp -implicitDefEqProofs[ae]
 intro _
 by_cases q:holds.length≤4∧ticks.length≤8
 rotate_left
 ·have fin:ai PP 11 [] H1 (fun r h'=>Ext H1 h'∧r= .bool true):=Ay H1 (G.ext T.e)
  have hE:=T.e
  by_cases q1:4<holds.length
  ·have q1':(4:Int)<holds.length:=by omega
   simp -implicitDefEqProofs[ae,q1,q1']
   refine fin.mono ?_
   rintro r H2 ⟨E,rfl⟩
   simp -implicitDefEqProofs[ae]
   intro _
   exact hE.trans E
  ·have q1':¬(4:Int)<holds.length:=by omega
   have q2:8<ticks.length:=by omega
   have q2':(8:Int)<ticks.length:=by omega
   simp -implicitDefEqProofs[ae,q1,q1',q2,q2']
   refine fin.mono ?_
   rintro r H2 ⟨E,rfl⟩
   simp -implicitDefEqProofs[ae]
   intro _
   exact hE.trans E
 obtain⟨q1,q2⟩:=q
 have q1':¬(4:Int)<holds.length:=by omega
 have q2':¬(8:Int)<ticks.length:=by omega
 have q1'':¬4<holds.length:=by omega
 have q2'':¬8<ticks.length:=by omega
 simp -implicitDefEqProofs[ae,q1',q2',q1'',q2'']
 refine(afP v hvl _ H1 (cm.ext Hv T.e)).mono ?_
 rintro r H2 ⟨E2,t,rfl,htl2⟩
 have T2:=T.ext E2
 simp -implicitDefEqProofs[ae]
 intro _
 have OK0:=OU 400 (by decide) (by decide)
 have D1:=ug OK0 (by decide) 800 (by decide) (jx t) (by show t.length≤_;omega) G T2
 simp only[bV,cX,jx]at D1
 refine D1.mono ?_
 clear D1
 rintro r H3 ⟨T3,ad,n,cc,ad',n',c',rfl,_⟩
 simp -implicitDefEqProofs[ae]
 intro _
 have D2:=Az OK0 (by decide) 800 (by decide) (jx t) (by show t.length≤_;omega) G T3
 simp only[bV,cX,jx]at D2
 refine D2.mono ?_
 clear D2
 rintro r H4 ⟨T4,ad,n,cc,ad',n',c',rfl,_⟩
 simp -implicitDefEqProofs[ae]
 intro _
 have OK1:=l5 800 (jx t) OK0
 have SM:=Gb 800 (fu 400) (jx t) (agp 400)
 have K1:=aew 800 (fu 400) t
 have F1:=Ga 800 (fu 400) (jx t)
 have T5:fa h H4 a a2 (cv 800 (fu 400) (jx t)).1 (cv 800 (fu 400) (jx t)).1:=T4
 obtain⟨b,hb⟩:∃b,b=(cv 800 (fu 400) (jx t)).1:=⟨_,rfl⟩
 rw[←hb]at T5 OK1 K1 F1 SM
 obtain⟨m,hm⟩:∃m,m=holds.length:=⟨_,rfl⟩
 obtain⟨m2,hm2⟩:∃m,m=ticks.length:=⟨_,rfl⟩
 rw[←hm]at Hh q1 ⊢
 rw[←hm2]at Ht q2 ⊢
 refine bD (SX h a a2 (.slice ad2 m c2) (.slice ad3 m2 c3) m) _ ⟨0,b,rfl,by omega,T5,OK1,F1,K1.2,fun o ho=>(by rw[K1.1]at ho;cases ho),SM,by simp,by simp,by simp,by simp,by simp⟩ ?_
 clear T T2 T3 T4 T5 OK0 OK1 K1 F1 SM hb b E2 q1' q2' q1'' q2''
 rintro n0 ⟨T,⟨x,F⟩⟩ ⟨i,b,rfl,hi,TT,OKb,hfu,hno,hst,hsm,g1,g2,g7,g8,g10⟩
 simp at TT g1 g2 g7 g8 g10
 simp -implicitDefEqProofs[g1,g2,g7,g8,g10]
 refine bB (fun hc=>?_) (fun hc=>?_)<;>simp only[decide_eq_true_eq,decide_eq_false_iff_not]at hc
 ·have him:i<m:=by omega
  have w1:IntKind.wrap .i64 ((i:Int)+1)=((i+1:Nat):Int):=by rw[aA (by omega)];omega
  have hti:holds[i]? =some holds[i]:=List.getElem?_eq_getElem (by omega)
  obtain⟨_,b',o1,w0,cells',r,rfl,hb',hd',hlc,_⟩:=(cm.ext Hh TT.e).at 1 V.cY hti
  obtain⟨z,hz⟩:∃z,z=holds[i]:=⟨_,rfl⟩
  rw[←hz]at hd' hti
  rw[Nat.mul_one]at hd' hlc
  obtain⟨k,hk,u1,u2,u3,u4⟩:=QX z 20 (by decide) (by decide)
  replace u1:(IntKind.wrap .u64 z).tmod 20=(k:Int):=u1
  have D1:=ug OKb (by omega) 800 (by rw[hfu];decide) (lu (1+(k:Int))) (Nat.zero_le _) G TT
  simp only[bV,cX,lu]at D1
  simp -implicitDefEqProofs[g1,g2,g7,g8,g10,him,hb',hd',hlc,ab,u1,u2,u3,u4]
  refine D1.mono ?_
  clear D1
  rintro r H3 ⟨T3,ad,n,cc,ad',n',c',rfl,_⟩
  simp -implicitDefEqProofs[ae]
  intro _
  have D2:=Az OKb (by omega) 800 (by rw[hfu];decide) (lu (1+(k:Int))) (Nat.zero_le _) G T3
  simp only[bV,cX,lu]at D2
  refine D2.mono ?_
  clear D2
  rintro r H4 ⟨T4,ad,n,cc,ad',n',c',rfl,_⟩
  simp -implicitDefEqProofs[ae,w1]
  intro _
  obtain⟨y1,y2⟩:=aeq 800 b (1+(k:Int)) hst
  exact⟨m-(i+1),by omega,i+1,(cv 800 b (lu (1+(k:Int)))).1,rfl,by omega,T4,by have:=l5 800 (lu (1+(k:Int))) OKb;exact this.mono (by omega),by rw[Ga];exact hfu,by rw[y2];exact hno,y1,Gb _ _ _ hsm,by simp[g1],by simp[g2],by simp[g7],by simp[g8],by simp⟩
 ·have e:i=m:=by omega
  subst e
  simp -implicitDefEqProofs[g1,g2,g7,g8,g10]
  have e0:fk b ((0:Nat):Int)=b:=rfl
  refine bD (SY h a a2 b (.slice ad3 m2 c3) m2) _ ⟨0,0,rfl,by omega,by omega,by omega,by rw[e0];exact TT,by rw[e0];exact OKb.mono (by omega),by simp[g2],by simp[g7],by simp[g8],by simp,by simp[js],by simp⟩ ?_
  clear TT g1 g2 g7 g8 g10 hc
  rintro n0 ⟨T,⟨x,F⟩⟩ ⟨j,s,rfl,hj,hjs,hsj,TT,OKs,g2,g7,g8,g12,g13,g14⟩
  simp at TT OKs g2 g7 g8 g12 g13 g14
  simp -implicitDefEqProofs[g2,g7,g8,g12,g13,g14]
  refine bB (fun hc=>?_) (fun hc=>?_)<;>simp only[decide_eq_true_eq,decide_eq_false_iff_not]at hc
  ·have hjm:j<m2:=by omega
   have w1:IntKind.wrap .i64 ((j:Int)+1)=((j+1:Nat):Int):=by rw[aA (by omega)];omega
   have hti:ticks[j]? =some ticks[j]:=List.getElem?_eq_getElem (by omega)
   obtain⟨_,b',o1,w0,cells',r,rfl,hb',hd',hlc,_⟩:=(cm.ext Ht TT.e).at 1 V.cY hti
   obtain⟨z,hz⟩:∃z,z=ticks[j]:=⟨_,rfl⟩
   rw[←hz]at hd' hti
   rw[Nat.mul_one]at hd' hlc
   obtain⟨k,hk,u1,u2,u3,u4⟩:=QX z 6 (by decide) (by decide)
   replace u1:(IntKind.wrap .u64 z).tmod 6=(k:Int):=u1
   obtain⟨e1,e2,e3⟩:=J6 800 (b:=b) hno (s:=(s:Int)) (n:=1+(k:Int)) (by omega) (by omega) (by omega) (by omega)
   have D1:=ug OKs (by omega) 800 (by rw[aak,hfu];decide) (kY (1+(k:Int))) (Nat.zero_le _) G TT
   have OKn:=l5 800 (kY (1+(k:Int))) OKs
   rw[e1]at D1 OKn
   obtain⟨s2,hs2⟩:∃s2:Nat,s2=s+1+k:=⟨_,rfl⟩
   have es:(s:Int)+(1+(k:Int))=(s2:Int):=by omega
   rw[es]at D1 OKn e3
   obtain⟨R,hR⟩:∃R,R=(cv 800 (fk b (s:Int)) (kY (1+(k:Int)))).2:=⟨_,rfl⟩
   rw[←hR]at e2 e3 D1
   simp only[bV,cX,kY]at D1
   have ws:IntKind.wrap .i64 ((s:Int)+(1+(k:Int)))=(s2:Int):=by rw[aA (by omega)];omega
   have hdl:js b (s2:Int)≤1048576:=by
    unfold js
    split
    ·omega
    ·have h1:=List.length_filter_le (dW (s2:Int)) b.l
     have h2:=OKb.len
     omega
   have wd:IntKind.wrap .i64 ((js b (s:Int):Int)+R.n)=(js b (s2:Int):Int):=by rw[e3];exact aA (by omega)
   obtain⟨d2,hd2⟩:∃d,d=js b (s2:Int):=⟨_,rfl⟩
   rw[←hd2]at wd
   simp -implicitDefEqProofs[g2,g7,g8,g12,g13,g14,hjm,hb',hd',hlc,ab,u1,u2,u3,u4]
   refine D1.mono ?_
   clear D1
   rintro r H3 ⟨T3,ad,n,cc,ad',n',c',rfl,_⟩
   simp -implicitDefEqProofs[ae,ws,wd,g2,g7,g8,g12,g13,g14]
   intro _
   obtain⟨vc3,ov3,o3,B3⟩:=T3.fst
   refine(mX (by have:=OKn.len;omega) B3).mono ?_
   rintro r H4 ⟨E4,SL⟩
   have T4:=T3.ext E4
   obtain⟨adl,cl,rfl⟩:=SL.shape
   obtain⟨mL,hmL⟩:∃m,m=(bW (fk b (s2:Int))).length:=⟨_,rfl⟩
   have hmLb:mL≤1048576:=by rw[hmL];have h1:=mW (fk b (s2:Int));have h2:=OKn.len;omega
   have hel:=aal hst (s:=(s2:Int)) (by omega)
   have hen:=J5 hno (s2:Int)
   obtain⟨bE,hbE⟩:∃x,x=fk b (s2:Int):=⟨_,rfl⟩
   rw[←hbE]at SL T4 hmL hel hen OKn
   try rw[←hbE]
   rw[←hmL]at SL ⊢
   simp -implicitDefEqProofs[ae,g2,g7,g8,g12,g13,g14]
   intro _
   refine bD (SZ h a a2 b bE (.slice (some ⟨b',o1,none⟩) m2 c3) (.slice adl mL cl) s2 d2 j [.int .i64 R.code,.int .i64 R.n,.int .i64 R.spot.1,.int .i64 R.spot.2,.slice ad n cc] mL) _ ⟨0,rfl,by omega,T4,SL,by simp,by simp,by simp,by simp,by simp,by simp,by simp,by simp,by simp,by simp⟩ ?_
   clear T3 T4 SL E4 TT g2 g7 g8 g12 g13 g14 hb' hd' hlc B3
   rintro n1 ⟨T,⟨x,F⟩⟩ ⟨i2,rfl,oe,TT,SL,g2,g7,g8,g12,g13,g14,g16,g18,g19,x16⟩
   simp at TT SL g2 g7 g8 g12 g13 g14 g16 g18 g19 x16
   simp -implicitDefEqProofs[g2,g7,g8,g12,g13,g14,g16,g18,g19,x16]
   refine bB (fun hc=>?_) (fun hc=>?_)<;>simp only[decide_eq_true_eq,decide_eq_false_iff_not]at hc
   ·have hi2m:i2<mL:=by omega
    have w2:IntKind.wrap .i64 ((i2:Int)+1)=((i2+1:Nat):Int):=by rw[aA (by omega)];omega
    have hui:(bW bE)[i2]? =some (bW bE)[i2]:=List.getElem?_eq_getElem (by omega)
    obtain⟨_,b5,o5,cells5,r5,rfl,hb5,hd5,hlc5,_⟩:=SL.at 6 fx hui
    obtain⟨u,hu⟩:∃u,u=(bW bE)[i2]:=⟨_,rfl⟩
    rw[←hu]at hd5 hui
    have hut:=hel u (List.mem_of_getElem? hui)
    have hd6:cells5.drop (o5+i2*6+4)=[Value.int .i64 u.gT,.int .i64 u.first]++r5:=by rw[←List.drop_drop,hd5];rfl
    have hl5:o5+i2*6+4+1≤cells5.length:=by omega
    have hl6:o5+i2*6+5≤cells5.length:=by omega
    have hno2:¬u.gT≤(s2:Int):=by omega
    simp -implicitDefEqProofs[g2,g7,g8,g12,g13,g14,g16,g18,g19,x16,hi2m,hb5,hd6,hl5,hl6,hno2,w2]
    exact⟨mL-(i2+1),by omega,i2+1,rfl,by omega,TT,SL,by simp[g2],by simp[g7],by simp[g8],by simp[g12],by simp[g13],by simp[g14],by simp[g16],by simp[g18],by simp,by simp[x16]⟩
   ·obtain⟨vc4,ov4,o4,B4⟩:=TT.fst
    simp -implicitDefEqProofs[g2,g7,g8,g12,g13,g14,g16,g18,g19,x16,e2]
    refine(OZ B4).mono ?_
    rintro r h' ⟨e,rfl⟩
    replace e:=e.symm
    subst e
    simp -implicitDefEqProofs[ae,hen,g2,g7,g8,g12,g13,g14,w1]
    intro _
    exact⟨m2-(j+1),by omega,j+1,s2,rfl,by omega,by omega,by omega,by rw[hbE]at TT;exact TT,by rw[hbE]at OKn;exact OKn.mono (by omega),by simp[g2],by simp[g7],by simp[g8],by simp[g12],by simp[g13,hd2],by simp⟩
  ·have e:j=m2:=by omega
   subst e
   have hE:=TT.e
   by_cases q:s=0
   ·subst q
    have T0:fa h F a a2 b b:=TT
    simp -implicitDefEqProofs[g2,g7,g8,g12,g13,g14]
    refine(Ay F (G.ext hE)).mono ?_
    rintro r H2 ⟨E2,rfl⟩
    have T2:=T0.ext E2
    obtain⟨vc5,ov5,o5,vc6,ov6,o6,B5,B6,_⟩:=T2
    simp -implicitDefEqProofs[ae]
    intro _
    have hsa:=yB hsm (by have:=OKb.len;omega) B5 B6
    rw[PU]at hsa
    refine hsa.mono ?_
    rintro r h' ⟨e,rfl⟩
    replace e:=e.symm
    subst e
    simp -implicitDefEqProofs[ae]
    intro _
    exact B5.ext
   ·have qi:¬(s:Int)=0:=by omega
    obtain⟨e1,e2,e3⟩:=J6 800 (b:=b) hno (s:=0) (n:=(s:Int)) (by omega) (by omega) (by omega) (by omega)
    have eb0:fk b 0=b:=rfl
    rw[eb0]at e1 e2 e3
    rw[Int.zero_add]at e1 e3
    have D2:=Az OKb (by omega) 800 (by rw[hfu];decide) (kY (s:Int)) (Nat.zero_le _) G TT
    obtain⟨R,hR⟩:∃R,R=(cv 800 b (kY (s:Int))).2:=⟨_,rfl⟩
    rw[←hR]at e2 e3 D2
    rw[e1]at D2
    have e3':R.n=(js b (s:Int):Int):=by
     have:js b 0=0:=rfl
     rw[this]at e3;simpa using e3
    simp only[bV,cX,kY]at D2
    simp -implicitDefEqProofs[g2,g7,g8,g12,g13,g14,q,qi]
    refine D2.mono ?_
    clear D2
    rintro r H3 ⟨T3,ad,n,cc,ad',n',c',rfl,_⟩
    obtain⟨bE,hbE⟩:∃x,x=fk b (s:Int):=⟨_,rfl⟩
    have hsmE:V.ji bE.v:=by rw[hbE];unfold fk;split<;>exact hsm
    rw[←hbE]at T3 OKs
    rw[e3']
    simp -implicitDefEqProofs[ae,g7,g8,g13]
    intro _
    refine(Ay H3 (G.ext T3.e)).mono ?_
    rintro r H4 ⟨E4,rfl⟩
    have T4:=T3.ext E4
    simp -implicitDefEqProofs[ae]
    intro _
    obtain⟨vc5,ov5,o5,vc6,ov6,o6,B5,B6,_⟩:=id T4
    have hsa:=yB hsmE (by have:=OKs.len;omega) B5 B6
    rw[PU]at hsa
    refine hsa.mono ?_
    rintro r h' ⟨e,rfl⟩
    replace e:=e.symm
    subst e
    simp -implicitDefEqProofs[ae]
    intro _
    refine(mX (by have:=OKs.len;omega) B5).mono ?_
    rintro r H5 ⟨E5,SL⟩
    obtain⟨adl,cl,rfl⟩:=SL.shape
    simp -implicitDefEqProofs[ae]
    intro _
    refine(mX (by have:=OKs.len;omega) (B6.exts E5)).mono ?_
    rintro r H6 ⟨E6,SL2⟩
    have hso:=am8 _ _ _ _ (by have h1:=mW bE;have h2:=OKs.len;omega) H6 (SL.ext E6).sl SL2.sl
    obtain⟨adl2,cl2,rfl⟩:=SL2.shape
    rw[decide_eq_true rfl]at hso
    simp -implicitDefEqProofs[ae]
    intro _
    refine hso.mono ?_
    rintro r h' ⟨e,rfl⟩
    replace e:=e.symm
    subst e
    simp -implicitDefEqProofs[ae]
    intro _
    exact((B5.ext).trans E5).trans E6
end Go.Proofs.Ybk.K
namespace Go.Proofs.YtbcdmljanolkeaaGreatDoor.AmBookTicks
open Go Go.Am Go.RowKit
theorem aaO (l:List Int):l.flatMap Ybk.V.ab=l.map (Value.int .i64):=by
 induction l with
 |nil=>rfl
 |cons n r ih=>rw[List.flatMap_cons,ih];rfl
theorem zm {h:aa} {v:Value} {len:Nat} {zs:List Int} (H:qL 3 h v len ((zs.map (Value.int .i64)).take (len*1))) (hl:len≤zs.length):Ybk.V.aZ h v (zs.take len):=by
 rw[Nat.mul_one]at H
 obtain⟨ad,c,rfl,hc,z⟩:=H
 have e:(zs.take len).length=len:=by rw[List.length_take];omega
 refine⟨ad,c,by rw[e],hc,?_⟩
 rcases z with z|⟨b,cs,rfl,h2,h3⟩
 ·exact .inl (by rw[z];rfl)
 ·exact .inr ⟨b,0,false,_,cs,rfl,h2,by rw[aaO,List.map_take];rfl,Nat.zero_le _,h3⟩
theorem zB {W:World} {a:Option Addr} {len cap:Nat} {zs:List Int} (w:qJ W a len cap zs):len≤zs.length:=by
 rcases w with⟨_,h,_,_⟩|⟨_,_,h,h2,_⟩
 ·omega
 ·omega
theorem walk {W:World} (L:Ybk.K.isLaid W) {a:Option Addr} {len cap:Nat} {zs:List Int} (w:qJ W a len cap zs∧∀z∈zs,(Lit.int .i64 z).wf=true) (y:len*8≤140737488351232)
  {a':Option Addr} {len' cap':Nat} {zs':List Int} (w':qJ W a' len' cap' zs'∧∀z∈zs',(Lit.int .i64 z).wf=true) (y':len'*8≤140737488351232)
  {a2:Option Addr} {len2 cap2:Nat} {zs2:List Int} (w2:qJ W a2 len2 cap2 zs2∧∀z∈zs2,(Lit.int .i64 z).wf=true) (y2:len2*8≤140737488351232):
  Calls Tryz.prog 5 #[.slice a len cap,.slice a' len' cap',.slice a2 len2 cap2] W (fun e w'=>e= .returned (.bool true)∧Below W.heap.size W w'):=by
 obtain⟨h,ρ,L0,G⟩:=Ybk.K.start_of L
 obtain⟨h1,v,ρ1,L1,E1,M1,V1,R1,N1⟩:=zc (e:=3) (sz:=1) Ybk.pO (by decide) L0 (pF.zN w.1)
 obtain⟨h2,u,ρ2,L2,E2,M2,V2,R2,N2⟩:=zc (e:=3) (sz:=1) Ybk.pO (by decide) L1 (pF.zN w'.1)
 obtain⟨h3,x,ρ3,L3,E3,M3,V3,R3,N3⟩:=zc (e:=3) (sz:=1) Ybk.pO (by decide) L2 (pF.zN w2.1)
 have l1:=zB w.1
 have l2:=zB w'.1
 have l3:=zB w2.1
 have k:∀(l:List Int) (n:Nat),n*8≤140737488351232→(l.take n).length≤4611686018427387904:=fun l n z=>by rw[List.length_take];omega
 rw[←Ybk.K.gu]
 exact afk L3 (Ybk.K.ticks_ok _ _ _ v u x (k _ _ y) (k _ _ y') (k _ _ y2) h3 (((G.ext E1).ext E2).ext E3) ((zm ((R1.ext E2).ext E3) l1)) (zm (R2.ext E3) l2) (zm R3 l3)) ⟨rfl,fun i y hi=>by
  match i,hi with
  |0,hi=>simp at hi;subst hi;exact⟨_,rfl,(V1.mono fun b pl q=>M2 _ _ q).mono fun b pl q=>M3 _ _ q⟩
  |1,hi=>simp at hi;subst hi;exact⟨_,rfl,V2.mono fun b pl q=>M3 _ _ q⟩
  |2,hi=>simp at hi;subst hi;exact⟨_,rfl,V3⟩
  |i+3,hi=>simp at hi⟩
end Go.Proofs.YtbcdmljanolkeaaGreatDoor.AmBookTicks

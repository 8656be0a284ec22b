import Derived.Test.YtbcdmljanolkeaaGreatDoorMg
import Derived.ChangeShapes
import Derived.ChangeSame
import Derived.WideShapes
import Derived.Deep.Slices
import Derived.Deep.Fields
set_option linter.unusedVariables false
set_option linter.unusedSimpArgs false
set_option linter.unusedSectionVars false
set_option linter.constructorNameAsVariable false
set_option linter.defProp false
set_option maxRecDepth 20000
namespace Go.Proofs.Ybk.K
open Go Go.Am
set_option maxHeartbeats 8000000
open V (aq aU aj au bg ab bD aN aB cF cJ bq bR)
open F (cz)
theorem xW:eh 0 (dX 1000):=tX 1000 (by decide) (by decide)
theorem Ol:eh 3 uX:=by have:=lX 2000 (cmd 1 0 0 xN) xW;rw[II]at this;exact this.mono (by decide)
theorem On:eh 3 tB:=by have:=lX 2000 (cmd 2 5 1 []) (Ol);rw[IJ]at this;exact⟨this.f0,this.f1,this.n0,this.n1,by decide,this.may,this.fst⟩
theorem AL:eh 3 pn:=by have:=lX 2000 (cmd 2 5 2 []) (On);rw[IK]at this;exact⟨this.f0,this.f1,this.n0,this.n1,by decide,this.may,this.fst⟩
theorem Oo:eh 3 uY:=by have:=lX 2000 (cmd 3 1 0 []) (AL);rw[IL]at this;exact⟨this.f0,this.f1,this.n0,this.n1,by decide,this.may,this.fst⟩
theorem su:eh 3 eG:=by have:=lX 2000 (cmd 5 5 0 []) (Oo);rw[IM]at this;exact⟨this.f0,this.f1,this.n0,this.n1,by decide,this.may,this.fst⟩
theorem ale {h0 h:aa} {a:Nat} {vc:List Value} {ov:Value} {o:Option Nat} (G0:cz h0) (B:bz h0 h a (dX 1000) vc ov o):ao PP 15 [.pointer (some ⟨a,0,none⟩),cm (cmd 2 0 0 [])] h (fun r h'=>(∃vc' ov' o',bz h0 h' a (dX 1000) vc' ov' o')∧Kp h h'∧
  ∃ad cc ad2 c2,r= .tuple #[.agg ⟨[.int .i64 11,.int .i64 0,.int .i64 0,.int .i64 0,.slice ad 0 cc]⟩,.slice ad2 0 c2]∧aK 3 ab h' (.slice ad 0 cc) []):=by
 refine(mC (N:=3) (xW.mono (by decide)) (by decide) 2000 (by decide) _ (by decide) G0 B W4).mono ?_;rintro r h' ⟨q1,q2,ad,n,cc,ad2,n2,c2,rfl,q3,S,q4,_⟩;replace q4:n2=0:=by rw[WV]at q4;exact q4
 subst q4;replace q3:n=0:=q3;subst q3;exact⟨q1,q2,ad,cc,ad2,c2,rfl,S⟩
theorem alf {h0 h:aa} {a:Nat} {vc:List Value} {ov:Value} {o:Option Nat} (G0:cz h0) (B:bz h0 h a (dX 1000) vc ov o):ao PP 15 [.pointer (some ⟨a,0,none⟩),cm (cmd 1 0 0 xN)] h (fun r h'=>(∃vc' ov' o',bz h0 h' a uX vc' ov' o')∧Kp h h'∧
  ∃ad cc ad2 c2,r= .tuple #[.agg ⟨[.int .i64 0,.int .i64 3,.int .i64 0,.int .i64 0,.slice ad 0 cc]⟩,.slice ad2 2 c2]∧aK 3 ab h' (.slice ad 0 cc) []):=by
 refine(mC (N:=3) (xW.mono (by decide)) (by decide) 2000 (by decide) _ (by decide) G0 B II).mono ?_;rintro r h' ⟨q1,q2,ad,n,cc,ad2,n2,c2,rfl,q3,S,q4,_⟩;replace q4:n2=2:=by rw[WW]at q4;exact q4
 subst q4;replace q3:n=0:=q3;subst q3;exact⟨q1,q2,ad,cc,ad2,c2,rfl,S⟩
theorem ali {h0 h:aa} {a:Nat} {vc:List Value} {ov:Value} {o:Option Nat} (G0:cz h0) (B:bz h0 h a uX vc ov o):ao PP 15 [.pointer (some ⟨a,0,none⟩),cm (cmd 2 5 1 [])] h (fun r h'=>(∃vc' ov' o',bz h0 h' a tB vc' ov' o')∧Kp h h'∧
  ∃ad cc ad2 n2 c2,r= .tuple #[.agg ⟨[.int .i64 0,.int .i64 1,.int .i64 0,.int .i64 0,.slice ad 1 cc]⟩,.slice ad2 n2 c2]∧aK 3 ab h' (.slice ad 1 cc) [0]):=by
 refine(mC (N:=3) Ol (by decide) 2000 (by decide) _ (by decide) G0 B IJ).mono ?_;rintro r h' ⟨q1,q2,ad,n,cc,ad2,n2,c2,rfl,q3,S,q4,_⟩;clear q4;replace q3:n=1:=q3;subst q3;exact⟨q1,q2,ad,cc,ad2,n2,c2,rfl,S⟩
theorem alj {h0 h:aa} {a:Nat} {vc:List Value} {ov:Value} {o:Option Nat} (G0:cz h0) (B:bz h0 h a tB vc ov o):ao PP 15 [.pointer (some ⟨a,0,none⟩),cm (cmd 2 5 2 [])] h (fun r h'=>(∃vc' ov' o',bz h0 h' a pn vc' ov' o')∧Kp h h'∧
  ∃ad cc ad2 c2,r= .tuple #[.agg ⟨[.int .i64 0,.int .i64 2,.int .i64 0,.int .i64 0,.slice ad 2 cc]⟩,.slice ad2 2 c2]∧aK 3 ab h' (.slice ad 2 cc) [1,2]):=by
 refine(mC (N:=3) On (by decide) 2000 (by decide) _ (by decide) G0 B IK).mono ?_;rintro r h' ⟨q1,q2,ad,n,cc,ad2,n2,c2,rfl,q3,S,q4,_⟩;replace q4:n2=2:=by rw[WX]at q4;exact q4
 subst q4;replace q3:n=2:=q3;subst q3;exact⟨q1,q2,ad,cc,ad2,c2,rfl,S⟩
theorem alk {h0 h:aa} {a:Nat} {vc:List Value} {ov:Value} {o:Option Nat} (G0:cz h0) (B:bz h0 h a pn vc ov o):ao PP 15 [.pointer (some ⟨a,0,none⟩),cm (cmd 2 5 1 [])] h (fun r h'=>(∃vc' ov' o',bz h0 h' a pn vc' ov' o')∧Kp h h'∧
  ∃ad cc ad2 n2 c2,r= .tuple #[.agg ⟨[.int .i64 6,.int .i64 0,.int .i64 0,.int .i64 0,.slice ad 0 cc]⟩,.slice ad2 n2 c2]∧aK 3 ab h' (.slice ad 0 cc) []):=by
 refine(mC (N:=3) AL (by decide) 2000 (by decide) _ (by decide) G0 B W8).mono ?_;rintro r h' ⟨q1,q2,ad,n,cc,ad2,n2,c2,rfl,q3,S,q4,_⟩;clear q4;replace q3:n=0:=q3;subst q3;exact⟨q1,q2,ad,cc,ad2,n2,c2,rfl,S⟩
theorem alm {h0 h:aa} {a:Nat} {vc:List Value} {ov:Value} {o:Option Nat} (G0:cz h0) (B:bz h0 h a pn vc ov o):ao PP 15 [.pointer (some ⟨a,0,none⟩),cm (cmd 3 1 0 [])] h (fun r h'=>(∃vc' ov' o',bz h0 h' a uY vc' ov' o')∧Kp h h'∧
  ∃ad cc ad2 n2 c2,r= .tuple #[.agg ⟨[.int .i64 0,.int .i64 0,.int .i64 0,.int .i64 0,.slice ad 1 cc]⟩,.slice ad2 n2 c2]∧aK 3 ab h' (.slice ad 1 cc) [0]):=by
 refine(mC (N:=3) AL (by decide) 2000 (by decide) _ (by decide) G0 B IL).mono ?_;rintro r h' ⟨q1,q2,ad,n,cc,ad2,n2,c2,rfl,q3,S,q4,_⟩;clear q4;replace q3:n=1:=q3;subst q3;exact⟨q1,q2,ad,cc,ad2,n2,c2,rfl,S⟩
theorem aln {h0 h:aa} {a:Nat} {vc:List Value} {ov:Value} {o:Option Nat} (G0:cz h0) (B:bz h0 h a uY vc ov o):ao PP 15 [.pointer (some ⟨a,0,none⟩),cm (cmd 5 5 0 [])] h (fun r h'=>(∃vc' ov' o',bz h0 h' a eG vc' ov' o')∧Kp h h'∧
  ∃ad cc ad2 n2 c2,r= .tuple #[.agg ⟨[.int .i64 0,.int .i64 1,.int .i64 0,.int .i64 0,.slice ad 0 cc]⟩,.slice ad2 n2 c2]∧aK 3 ab h' (.slice ad 0 cc) []):=by
 refine(mC (N:=3) Oo (by decide) 2000 (by decide) _ (by decide) G0 B IM).mono ?_;rintro r h' ⟨q1,q2,ad,n,cc,ad2,n2,c2,rfl,q3,S,q4,_⟩;clear q4;replace q3:n=0:=q3;subst q3;exact⟨q1,q2,ad,cc,ad2,n2,c2,rfl,S⟩
theorem alo {h0 h:aa} {a:Nat} {vc:List Value} {ov:Value} {o:Option Nat} (G0:cz h0) (B:bz h0 h a eG vc ov o):ao PP 15 [.pointer (some ⟨a,0,none⟩),cm (cmd 8 0 0 [])] h (fun r h'=>(∃vc' ov' o',bz h0 h' a eG vc' ov' o')∧Kp h h'∧
  ∃ad cc ad2 n2 c2,r= .tuple #[.agg ⟨[.int .i64 0,.int .i64 0,.int .i64 0,.int .i64 0,.slice ad 3 cc]⟩,.slice ad2 n2 c2]∧aK 3 ab h' (.slice ad 3 cc) [1,0,0]):=by
 refine(mC (N:=3) su (by decide) 2000 (by decide) _ (by decide) G0 B W9).mono ?_;rintro r h' ⟨q1,q2,ad,n,cc,ad2,n2,c2,rfl,q3,S,q4,_⟩;clear q4;replace q3:n=3:=q3;subst q3;exact⟨q1,q2,ad,cc,ad2,n2,c2,rfl,S⟩
theorem alp {h0 h:aa} {a:Nat} {vc:List Value} {ov:Value} {o:Option Nat} (G0:cz h0) (B:bz h0 h a eG vc ov o):ao PP 15 [.pointer (some ⟨a,0,none⟩),cm (cmd 3 2 0 [])] h (fun r h'=>(∃vc' ov' o',bz h0 h' a eG vc' ov' o')∧Kp h h'∧
  ∃ad cc ad2 n2 c2,r= .tuple #[.agg ⟨[.int .i64 5,.int .i64 0,.int .i64 0,.int .i64 0,.slice ad 0 cc]⟩,.slice ad2 n2 c2]∧aK 3 ab h' (.slice ad 0 cc) []):=by
 refine(mC (N:=3) su (by decide) 2000 (by decide) _ (by decide) G0 B Xa).mono ?_;rintro r h' ⟨q1,q2,ad,n,cc,ad2,n2,c2,rfl,q3,S,q4,_⟩;clear q4;replace q3:n=0:=q3;subst q3;exact⟨q1,q2,ad,cc,ad2,n2,c2,rfl,S⟩
theorem alq {h0 h:aa} {a:Nat} {vc:List Value} {ov:Value} {o:Option Nat} (G0:cz h0) (B:bz h0 h a eG vc ov o):ao PP 15 [.pointer (some ⟨a,0,none⟩),cm (cmd 4 9 0 [])] h (fun r h'=>(∃vc' ov' o',bz h0 h' a eG vc' ov' o')∧Kp h h'∧
  ∃ad cc ad2 n2 c2,r= .tuple #[.agg ⟨[.int .i64 4,.int .i64 0,.int .i64 0,.int .i64 0,.slice ad 0 cc]⟩,.slice ad2 n2 c2]∧aK 3 ab h' (.slice ad 0 cc) []):=by
 refine(mC (N:=3) su (by decide) 2000 (by decide) _ (by decide) G0 B Xb).mono ?_;rintro r h' ⟨q1,q2,ad,n,cc,ad2,n2,c2,rfl,q3,S,q4,_⟩;clear q4;replace q3:n=0:=q3;subst q3;exact⟨q1,q2,ad,cc,ad2,n2,c2,rfl,S⟩
theorem alg {h0 h:aa} {a:Nat} {vc:List Value} {ov:Value} {o:Option Nat} (G0:cz h0) (B:bz h0 h a eG vc ov o):ao PP 15 [.pointer (some ⟨a,0,none⟩),cm (cmd 99 0 0 [])] h (fun r h'=>(∃vc' ov' o',bz h0 h' a eG vc' ov' o')∧Kp h h'∧
  ∃ad cc ad2 n2 c2,r= .tuple #[.agg ⟨[.int .i64 1,.int .i64 0,.int .i64 0,.int .i64 0,.slice ad 0 cc]⟩,.slice ad2 n2 c2]∧aK 3 ab h' (.slice ad 0 cc) []):=by
 refine(mC (N:=3) su (by decide) 2000 (by decide) _ (by decide) G0 B W6).mono ?_;rintro r h' ⟨q1,q2,ad,n,cc,ad2,n2,c2,rfl,q3,S,q4,_⟩;clear q4;replace q3:n=0:=q3;subst q3;exact⟨q1,q2,ad,cc,ad2,n2,c2,rfl,S⟩
theorem alh {h0 h:aa} {a:Nat} {vc:List Value} {ov:Value} {o:Option Nat} (G0:cz h0) (B:bz h0 h a eG vc ov o):ao PP 15 [.pointer (some ⟨a,0,none⟩),cm (cmd 1 0 0 [])] h (fun r h'=>(∃vc' ov' o',bz h0 h' a eG vc' ov' o')∧Kp h h'∧
  ∃ad cc ad2 n2 c2,r= .tuple #[.agg ⟨[.int .i64 12,.int .i64 0,.int .i64 0,.int .i64 0,.slice ad 0 cc]⟩,.slice ad2 n2 c2]∧aK 3 ab h' (.slice ad 0 cc) []):=by
 refine(mC (N:=3) su (by decide) 2000 (by decide) _ (by decide) G0 B W7).mono ?_;rintro r h' ⟨q1,q2,ad,n,cc,ad2,n2,c2,rfl,q3,S,q4,_⟩;clear q4;replace q3:n=0:=q3;subst q3;exact⟨q1,q2,ad,cc,ad2,n2,c2,rfl,S⟩
theorem ZI:(b8 eG).length=1:=by decide
theorem aiR:vT eG eG=true:=by decide
theorem aaA:eG.has=true→aN eG.v=true:=su.may
theorem ah9:(j8 eG).length=5:=by rw[PO];rfl
theorem alG:oa (dX 1000) (j8 eG)=(eG,0):=by rw[PO];exact alF
theorem qk (h:aa) (G:cz h):ao PP 11 [] h (fun r h'=>Ext h h'∧r= .bool true):=by
 refine aC mix (aD Tryz.func11) rfl rfl rfl acS ?_;simp only[ai,Tryz.f11];have hr1:List.range 1=[0]:=rfl;have hr2:List.range 2=[0,1]:=rfl;have hr3:List.range 3=[0,1,2]:=rfl;simp -implicitDefEqProofs;refine(oH 1000 (by decide) (by decide) h).mono ?_;rintro r H0 ⟨a,vc0,ov0,rfl,B0⟩;simp -implicitDefEqProofs[af];intro _;have D0:=ale G B0;simp only[cm,cmdC,cmd]at D0;refine D0.mono ?_;clear D0;rintro r H1 ⟨⟨vc1,ov1,o1,B1⟩,K0,ad0,cc0,ae0,ce0,rfl,S0⟩;simp -implicitDefEqProofs[af];intro _;have D1:=alf G B1;simp only[cm,cmdC,cmd]at D1;refine D1.mono ?_;clear D1;rintro r H2 ⟨⟨vc2,ov2,o2,B2⟩,K1,ad1,cc1,ae1,ce1,rfl,S1⟩;simp -implicitDefEqProofs[af];intro _;have D2:=ali G B2;simp only[cm,cmdC,cmd]at D2;refine D2.mono ?_;clear D2;rintro r H3 ⟨⟨vc3,ov3,o3,B3⟩,K2,ad2,cc2,ae2,ne2,ce2,rfl,S2⟩;simp -implicitDefEqProofs[af];intro _;have D3:=alj G B3;simp only[cm,cmdC,cmd]at D3;refine D3.mono ?_;clear D3;rintro r H4 ⟨⟨vc4,ov4,o4,B4⟩,K3,ad3,cc3,ae3,ce3,rfl,S3⟩;simp -implicitDefEqProofs[af];intro _;have D4:=alk G B4;simp only[cm,cmdC,cmd]at D4;refine D4.mono ?_;clear D4;rintro r H5 ⟨⟨vc5,ov5,o5,B5⟩,K4,ad4,cc4,ae4,ne4,ce4,rfl,S4⟩;simp -implicitDefEqProofs[af];intro _;have D5:=alm G B5;simp only[cm,cmdC,cmd]at D5;refine D5.mono ?_;clear D5;rintro r H6 ⟨⟨vc6,ov6,o6,B6⟩,K5,ad5,cc5,ae5,ne5,ce5,rfl,S5⟩;simp -implicitDefEqProofs[af];intro _;have D6:=aln G B6;simp only[cm,cmdC,cmd]at D6;refine D6.mono ?_;clear D6;rintro r H7 ⟨⟨vc7,ov7,o7,B7⟩,K6,ad6,cc6,ae6,ne6,ce6,rfl,S6⟩;simp -implicitDefEqProofs[af];intro _;have D7:=alo G B7;simp only[cm,cmdC,cmd]at D7;refine D7.mono ?_;clear D7;rintro r H8 ⟨⟨vc8,ov8,o8,B8⟩,K7,ad7,cc7,ae7,ne7,ce7,rfl,S7⟩;simp -implicitDefEqProofs[af];intro _;have D8:=alp G B8;simp only[cm,cmdC,cmd]at D8;refine D8.mono ?_;clear D8;rintro r H9 ⟨⟨vc9,ov9,o9,B9⟩,K8,ad8,cc8,ae8,ne8,ce8,rfl,S8⟩;simp -implicitDefEqProofs[af];intro _;have D9:=alq G B9;simp only[cm,cmdC,cmd]at D9;refine D9.mono ?_;clear D9;rintro r H10 ⟨⟨vc10,ov10,o10,B10⟩,K9,ad9,cc9,ae9,ne9,ce9,rfl,S9⟩;simp -implicitDefEqProofs[af];intro _;have D10:=alg G B10;simp only[cm,cmdC,cmd]at D10;refine D10.mono ?_;clear D10;rintro r H11 ⟨⟨vc11,ov11,o11,B11⟩,wF,ad10,cc10,ae10,ne10,ce10,rfl,S10⟩;simp -implicitDefEqProofs[af];intro _;have D11:=alh G B11;simp only[cm,cmdC,cmd]at D11;refine D11.mono ?_;clear D11;rintro r H12 ⟨⟨vc12,ov12,o12,B12⟩,K11,ad11,cc11,ae11,ne11,ce11,rfl,S11⟩;simp -implicitDefEqProofs[af];intro _;refine(oH 1000 (by decide) (by decide) H12).mono ?_;rintro r H13 ⟨a2,vcn,ovn,rfl,Bn⟩;simp -implicitDefEqProofs[af];intro _;have B13:=B12.exts Bn.ext;refine(yo (by decide) aaA G B13).mono ?_;rintro r H14 ⟨E14,SR⟩;obtain⟨adr,cr,rfl⟩:=SR.shape;have B14:=B13.exts E14;have Bn14:=Bn.exts E14;have ha:=zm (N:=0) xW (j8 eG) (by rw[ah9];decide) _ SR Bn14;rw[alG]at ha;simp -implicitDefEqProofs[af];intro _;refine ha.mono ?_;rintro r H15 ⟨⟨vcm,ovm,om,Bm,Cm,Dm⟩,rfl⟩;have C15:=Cm.kp Bn14.iH;have B15:=B14.eY Cm Bn14.iH (fun x hx=>eW B12.ext.n (Bn14.own x hx).1) (fun x hx z=>by
  have h1:=(B12.own x hx).2;have h2:=(Bn14.own x z).1;omega)
 simp -implicitDefEqProofs[af];intro _;have Dn:=WK ⟨0,0,⟨0,0⟩,[]⟩ H15;simp only[cm,cmdC]at Dn;refine Dn.mono ?_;rintro r h' ⟨e,rfl⟩;replace e:=e.symm;subst e;have Z2:=((((((((((((S2.kp K3).kp K4).kp K5).kp K6).kp K7).kp K8).kp K9).kp wF).kp K11)).kp Bn.ext.kp).kp E14.kp).kp C15;have Z3:=(((((((((((S3.kp K4).kp K5).kp K6).kp K7).kp K8).kp K9).kp wF).kp K11)).kp Bn.ext.kp).kp E14.kp).kp C15;have Z7:=(((((((S7.kp K8).kp K9).kp wF).kp K11)).kp Bn.ext.kp).kp E14.kp).kp C15;have X1:=Ext.new H15 (.row true 3 ([(0:Int)].map (Value.int .i64)));have I1:=oF H15 [0] (by simp);obtain⟨F1,hF1⟩:∃F,F=H15.new (.row true 3 ([(0:Int)].map (Value.int .i64))):=⟨_,rfl⟩;rw[←hF1]at X1 I1;have X2:=Ext.new F1 (.row true 3 ([(1:Int),2].map (Value.int .i64)));have I2:=oF F1 [1,2] (by simp);obtain⟨F2,hF2⟩:∃F,F=F1.new (.row true 3 ([(1:Int),2].map (Value.int .i64))):=⟨_,rfl⟩;rw[←hF2]at X2 I2;have X3:=Ext.new F2 (.row true 3 ([(1:Int),0,0].map (Value.int .i64)));have I3:=oF F2 [1,0,0] (by simp);obtain⟨F3,hF3⟩:∃F,F=F2.new (.row true 3 ([(1:Int),0,0].map (Value.int .i64))):=⟨_,rfl⟩;rw[←hF3]at X3 I3;have BF:=((B15.exts X1).exts X2).exts X3;have BmF:=((Bm.exts X1).exts X2).exts X3;have e1:=Bh _ _ [0] [0] (by decide) F1 (Z2.ext X1).sl I1;have e2:=Bh _ _ [1,2] [1,2] (by decide) F2 ((Z3.ext X1).ext X2).sl I2;have e3:=Bh _ _ [1,0,0] [1,0,0] (by decide) F3 (((Z7.ext X1).ext X2).ext X3).sl I3;simp only[eE,qx,jh,Nat.reduceAdd]at e1 e2 e3;simp only[eT,List.map_nil]at hF1 hF2 hF3;have hF1':=hF1.symm;have hF2':=hF2.symm;have hF3':=hF3.symm;simp -implicitDefEqProofs[af,aP,hr1,hr2,hr3,hF1'];intro _;refine e1.mono ?_;rintro r h' ⟨e,rfl⟩;replace e:=e.symm;subst e;simp -implicitDefEqProofs[af,aP,hr1,hr2,hr3,hF2'];intro _;refine e2.mono ?_;rintro r h' ⟨e,rfl⟩;replace e:=e.symm;subst e;simp -implicitDefEqProofs[af,aP,hr1,hr2,hr3,hF3'];intro _;refine e3.mono ?_;rintro r h' ⟨e,rfl⟩;replace e:=e.symm;subst e;simp -implicitDefEqProofs[af];intro _;have hnow:eG.now=5:=rfl;refine(N0 BF).mono ?_;rintro r h' ⟨e,rfl⟩;replace e:=e.symm;subst e;rw[hnow];simp -implicitDefEqProofs[af];intro _;refine(pK (by decide) BF).mono ?_;rintro r F4 ⟨X4,SL⟩;obtain⟨adl,cl,rfl⟩:=SL.shape;rw[ZI];simp -implicitDefEqProofs[af];intro _;have B4:=BF.exts X4;have hlen2:eG.l.length=2:=rfl;refine(xX (by decide) B4).mono ?_;rintro r F5 ⟨X5,SO⟩;obtain⟨ado,rfl,_⟩:=SO;rw[hlen2];simp -implicitDefEqProofs[af];intro _;have B5:=B4.exts X5;have Bm5:=(BmF.exts X4).exts X5;have hsm:=uW (k8 (su.may rfl)).small (by decide) Bm5 B5;rw[aiR]at hsm;refine hsm.mono ?_;rintro r h' ⟨e,rfl⟩;replace e:=e.symm;subst e;simp -implicitDefEqProofs[af];intro _;refine(UK Bm5).mono ?_;rintro r h' ⟨e,rfl⟩;replace e:=e.symm;subst e;simp -implicitDefEqProofs[af];intro _;refine(aaX F5).mono ?_;rintro r h' ⟨e,rfl⟩;replace e:=e.symm;subst e;simp -implicitDefEqProofs[af];intro _;exact B5.ext
end Go.Proofs.Ybk.K
namespace Go.Proofs.Ybk.K
open Go Go.Am
open V (aq aU aj au bg ab bD aN aB cF cJ bq bR)
open F (cz)
def fU (h0 h:aa) (a a2:Nat) (b b2:aG):Prop:=∃vc ov o vc2 ov2 o2,bz h0 h a b vc ov o∧bz h0 h a2 b2 vc2 ov2 o2∧∀x∈a::o.toList,x∉a2::o2.toList
section
variable {h0 h h':aa} {a a2:Nat} {b b2:aG}
theorem fU.swap (T:fU h0 h a a2 b b2):fU h0 h a2 a b2 b:=by
 obtain⟨vc,ov,o,vc2,ov2,o2,B,B2,D⟩:=T;exact⟨vc2,ov2,o2,vc,ov,o,B2,B,fun x hx z=>D x z hx⟩
theorem fU.fst (T:fU h0 h a a2 b b2):∃vc ov o,bz h0 h a b vc ov o:=by
 obtain⟨vc,ov,o,vc2,ov2,o2,B,B2,D⟩:=T;exact⟨vc,ov,o,B⟩
theorem fU.snd (T:fU h0 h a a2 b b2):∃vc ov o,bz h0 h a2 b2 vc ov o:=T.swap.fst
theorem fU.ext (T:fU h0 h a a2 b b2) (E:Ext h h'):fU h0 h' a a2 b b2:=by
 obtain⟨vc,ov,o,vc2,ov2,o2,B,B2,D⟩:=T;exact⟨vc,ov,o,vc2,ov2,o2,B.exts E,B2.exts E,D⟩
theorem fU.e (T:fU h0 h a a2 b b2):Ext h0 h:=by
 obtain⟨vc,ov,o,B⟩:=T.fst;exact B.ext
theorem PQ {vc:List Value} {ov:Value} {o:Option Nat} (B:bz h0 h a b vc ov o) {vc2:List Value} {ov2:Value} {o2:Option Nat} (B2:bz h h' a2 b2 vc2 ov2 o2):fU h0 h' a a2 b b2:=
 ⟨vc,ov,o,vc2,ov2,o2,B.exts B2.ext,B2.low B.ext,fun x hx z=>by
  have h1:=(B.own x hx).2;have h2:=(B2.own x z).1;omega⟩
theorem v7 {N:Nat} (OK:eh N b) (hN:N≤1047000) (steps:Nat) (hst:2*b.fuel.toNat≤steps) (c:CmdR) (hc:c.text.length≤1048576) (G0:cz h0) (T:fU h0 h a a2 b b2):
  ao PP 15 [.pointer (some ⟨a,0,none⟩),cm c] h (fun r h'=>fU h0 h' a a2 (bG steps b c).1 b2∧wz h' (bG steps b c).2 (jO steps b c) r):=by
 obtain⟨vc,ov,o,vc2,ov2,o2,B,B2,D⟩:=T;refine(w6 OK hN steps hst c hc G0 B).mono ?_;intro r h' H;obtain⟨⟨vc',ov',o',B',C,D'⟩,HR⟩:=H.r;refine⟨⟨vc',ov',o',vc2,ov2,o2,B',B2.other B C (fun x hx z=>D x z hx),fun x hx z=>?_⟩,HR⟩;rcases cE.1 hx with e|hx
 ·exact D a dH (e ▸ z)
 ·rcases D' x (by simpa using hx)with q|q
  ·exact D x (ep _ (by simpa using q)) z
  ·have:=(B2.own x z).2;omega
theorem yH {N:Nat} (OK:eh N b2) (hN:N≤1047000) (steps:Nat) (hst:2*b2.fuel.toNat≤steps) (c:CmdR) (hc:c.text.length≤1048576) (G0:cz h0) (T:fU h0 h a a2 b b2):
  ao PP 15 [.pointer (some ⟨a2,0,none⟩),cm c] h (fun r h'=>fU h0 h' a a2 b (bG steps b2 c).1∧wz h' (bG steps b2 c).2 (jO steps b2 c) r):=by
 refine(v7 OK hN steps hst c hc G0 T.swap).mono ?_;rintro r h' ⟨T',HR⟩;exact⟨T'.swap,HR⟩
end
theorem aiS (v:aj):V.uB v v=true:=by unfold V.uB;simp
theorem yq (b:aG):vT b b=true:=by unfold vT;rw[aiS];simp
theorem w7 (n:Nat) (b:aG) (c:CmdR) (h:V.kf b.v):V.kf (bG n b c).1.v:=by
 unfold bG;split
 ·exact h
 split
 ·unfold j5;split
  ·exact h
  ·split
   ·exact h
   ·rename_i hp;exact(k8 (AR hp)).small
 split
 ·unfold iI;split<;>exact h
 split
 ·exact h
 split
 ·unfold jY;split
  ·exact h
  ·simp only;split<;>exact h
 split
 ·exact h
 split
 ·unfold lW;split
  ·exact h
  ·simp only;split<;>exact h
 split
 ·unfold lV;split
  ·exact h
  ·simp only;split<;>exact h
 split
 ·unfold mi;simp only;split
  ·exact h
  ·split<;>exact h
 ·exact h
theorem AA (f:Int):V.kf (dX f).v:=⟨Nat.zero_le _,Nat.zero_le _,Nat.zero_le _⟩
def yA (b:aG):Prop:=∀o∈b.l,o.state=1∨o.state=3
theorem ajj:∀(l:List aH) (p:List Int),∀o∈eC l p,∃x∈l,o.state=x.state:=by
 intro l;induction l with
 |nil=>intro p o ho;rw[eC]at ho;cases ho
 |cons a r ih=>
  intro p o ho;rw[eC]at ho;split at ho
  ·rcases cE.1 ho with rfl|ho
   ·exact⟨a,dH,rfl⟩
   ·obtain⟨x,hx,e⟩:=ih _ o ho;exact⟨x,ep _ hx,e⟩
  ·rcases cE.1 ho with rfl|ho
   ·exact⟨o,dH,rfl⟩
   ·obtain⟨x,hx,e⟩:=ih _ o ho;exact⟨x,ep _ hx,e⟩
def l5 (t:List UInt8):CmdR:=⟨1,0,⟨0,0⟩,t⟩
def oE (k:Int):CmdR:=⟨2,k,⟨1,0⟩,[]⟩
def nU (n:Int):CmdR:=⟨5,n,⟨0,0⟩,[]⟩
theorem YW (s:Nat) (b:aG) (t:List UInt8):(bG s b (l5 t)).1.l=b.l∧(bG s b (l5 t)).1.now=b.now:=by
 have e:bG s b (l5 t)=j5 b t:=rfl;rw[e];unfold j5;split
 ·exact⟨rfl,rfl⟩
 ·split<;>exact⟨rfl,rfl⟩
theorem YO (s:Nat) (b:aG) (k:Int) (h:yA b):yA (bG s b (oE k)).1∧(bG s b (oE k)).1.now=b.now:=by
 have e:bG s b (oE k)=if !b.has then(b,err 11)else jY s b (oE k):=rfl;rw[e];split
 ·exact⟨h,rfl⟩
 ·unfold jY;split
  ·exact⟨h,rfl⟩
  ·simp only;split
   ·exact⟨h,rfl⟩
   ·refine⟨fun o ho=>?_,rfl⟩;obtain⟨x,hx,e⟩:=ajj _ _ o ho;rw[e];rcases ei.1 hx with q|q
    ·exact h x q
    ·rw[eo]at q;subst q;exact .inl rfl
def iz (b:aG) (s:Int):aG:=if s=0 then b else{b with now:=s,l:=b.l.map (fK s)}
def lY (b:aG) (s:Int):Nat:=if s=0 then 0 else(b.l.filter (fq s)).length
theorem I8 {b:aG} (h:b.now=0) (s:Int):(iz b s).now=s:=by
 unfold iz;split
 ·rename_i e;rw[h,e]
 ·rfl
theorem XA (b:aG) (s:Int):(iz b s).fuel=b.fuel:=by unfold iz;split<;>rfl
theorem I9 (k:Nat) {b:aG} (hb:b.now=0) {s n:Int} (hs:0≤s) (h1:1≤n) (h2:n≤1000000) (h3:s+n≤1099511627776):
  (bG k (iz b s) (nU n)).1=iz b (s+n)∧(bG k (iz b s) (nU n)).2.code=0∧(lY b s:Int)+(bG k (iz b s) (nU n)).2.n=lY b (s+n):=by
 have e:bG k (iz b s) (nU n)=iI (iz b s) n:=rfl;have hnow:=I8 hb s;rw[e,yF _ n ⟨h1,h2,by rw[hnow];exact h3⟩,hnow];have hne:¬s+n=0:=by omega
 by_cases q:s=0
 ·subst q;unfold iz lY;rw[if_pos rfl,if_neg hne,if_pos rfl,if_neg hne];exact⟨rfl,rfl,by simp⟩
 ·unfold iz lY;rw[if_neg q,if_neg hne,if_neg q,if_neg hne];refine⟨?_,rfl,?_⟩
  ·simp only;rw[alB s (s+n) (by omega)]
  ·simp only;have:=alz s (s+n) (by omega) b.l;omega
theorem XB {b:aG} (h:yA b) {s:Int} (hs:0<s):∀o∈b8 (iz b s),s<o.fZ:=by
 intro o ho;unfold iz at ho;rw[if_neg (by omega)]at ho;obtain⟨h1,h2⟩:=ig.1 ho;obtain⟨x,hx,rfl⟩:=dI.1 h1;unfold fK at h2 ⊢;split at h2
 ·exact absurd h2 (by simp[bS,kX])
 ·rename_i hd;rw[if_neg hd];rcases h x hx with e|e
  ·unfold fq at hd;simp[e]at hd;omega
  ·unfold bS at h2;simp[e]at h2
end Go.Proofs.Ybk.K
namespace Go.Proofs.Ybk.K
open Go Go.Am
set_option maxHeartbeats 4000000
open V (aq aU aj au bg ab bD aN aB cF cJ bq bR)
open F (cz)
theorem uI (n:Int) (m:Nat) (hm:0<m) (hm2:m≤100):∃k:Nat,k<m∧(IntKind.wrap .u64 n).tmod m=(k:Int)∧IntKind.wrap .u64 ((k:Int))=k∧IntKind.wrap .i64 ((k:Int))=k∧IntKind.wrap .i64 (1+(k:Int))=1+(k:Int):=by
 have h0:0≤IntKind.wrap .u64 n:=by rw[PR];omega
 refine⟨((IntKind.wrap .u64 n) % m).toNat,?_,?_,?_,?_,?_⟩
 ·have:=Int.emod_lt_of_pos (IntKind.wrap .u64 n) (show(0:Int)<m by omega);have:=Int.emod_nonneg (IntKind.wrap .u64 n) (show(m:Int)≠0 by omega);omega
 ·rw[Int.tmod_eq_emod_of_nonneg h0];have:=Int.emod_nonneg (IntKind.wrap .u64 n) (show(m:Int)≠0 by omega);omega
 all_goals
  have h1:=Int.emod_lt_of_pos (IntKind.wrap .u64 n) (show(0:Int)<m by omega)
  have h2:=Int.emod_nonneg (IntKind.wrap .u64 n) (show(m:Int)≠0 by omega)
 ·exact jv (by omega)
 ·exact bK (by omega)
 ·exact bK (by omega)
def Su (h:aa) (a a2:Nat) (sh st:Value) (m n:Nat) (σ:St):Prop:=∃(i:Nat) (b:aG),n=m-i∧i≤m∧fU h σ.m.h a a2 b b∧eh (1+i) b∧b.fuel=400∧b.now=0∧yA b∧V.kf b.v∧
 σ.t.get 1=some sh∧σ.t.get 2=some st∧σ.t.get 7=some (.pointer (some ⟨a,0,none⟩))∧σ.t.get 8=some (.pointer (some ⟨a2,0,none⟩))∧σ.t.get 10=some (.int .i64 (i:Nat))
def Sv (h:aa) (a a2:Nat) (b:aG) (st:Value) (m n:Nat) (σ:St):Prop:=∃(i:Nat) (s:Nat),n=m-i∧i≤m∧i≤s∧s≤6*i∧fU h σ.m.h a a2 (iz b s) b∧eh (6+i) (iz b s)∧
 σ.t.get 2=some st∧σ.t.get 7=some (.pointer (some ⟨a,0,none⟩))∧σ.t.get 8=some (.pointer (some ⟨a2,0,none⟩))∧σ.t.get 12=some (.int .i64 (s:Nat))∧σ.t.get 13=some (.int .i64 (lY b s:Nat))∧σ.t.get 14=some (.int .i64 (i:Nat))
def Sw (h:aa) (a a2:Nat) (b b1:aG) (st lv:Value) (s d i:Nat) (R:List Value) (m n:Nat) (σ:St):Prop:=∃(j:Nat),n=m-j∧j≤m∧fU h σ.m.h a a2 b1 b∧aK 43 aM σ.m.h lv (b8 b1)∧
 σ.t.get 2=some st∧σ.t.get 7=some (.pointer (some ⟨a,0,none⟩))∧σ.t.get 8=some (.pointer (some ⟨a2,0,none⟩))∧σ.t.get 12=some (.int .i64 (s:Nat))∧σ.t.get 13=some (.int .i64 (d:Nat))∧σ.t.get 14=some (.int .i64 (i:Nat))∧σ.t.get 16=some (.pointer (some ⟨16,0,some 0⟩))∧σ.t.get 18=some lv∧σ.t.get 19=some (.int .i64 (j:Nat))∧σ.m.x.look 16=some (38,R)
theorem ticks_ok (v holds ticks:List Int) (sv sh st:Value) (hvl:v.length≤4611686018427387904) (hhl:holds.length≤4611686018427387904) (htl:ticks.length≤4611686018427387904) (h:aa) (G:cz h) (Hv:bq h sv v) (Hh:bq h sh holds) (Ht:bq h st ticks):
  ao PP 5 [sv,sh,st] h (fun r h'=>Ext h h'∧r= .bool true):=by
 refine aC mix (aD Tryz.func5) rfl rfl rfl afC ?_;simp only[ai,Tryz.f5];obtain⟨ad1,c1,rfl⟩:=Hv.shape;obtain⟨ad2,c2,rfl⟩:=Hh.shape;obtain⟨ad3,c3,rfl⟩:=Ht.shape;simp -implicitDefEqProofs;refine(oH 400 (by decide) (by decide) h).mono ?_;rintro r H0 ⟨a,vc,ov,rfl,B⟩;simp -implicitDefEqProofs[af];intro _;refine(oH 400 (by decide) (by decide) H0).mono ?_;rintro r H1 ⟨a2,vc2,ov2,rfl,B2⟩;have T:=PQ B B2;simp -implicitDefEqProofs[af];intro _;by_cases q:holds.length≤4∧ticks.length≤8;rotate_left
 ·have fin:ao PP 11 [] H1 (fun r h'=>Ext H1 h'∧r= .bool true):=qk H1 (G.ext T.e);have hE:=T.e;by_cases q1:4<holds.length
  ·have q1':(4:Int)<holds.length:=(by omega);simp -implicitDefEqProofs[af,q1,q1'];refine fin.mono ?_;rintro r H2 ⟨E,rfl⟩;simp -implicitDefEqProofs[af];intro _;exact hE.trans E
  ·have q1':¬(4:Int)<holds.length:=(by omega);have q2:8<ticks.length:=(by omega);have q2':(8:Int)<ticks.length:=(by omega);simp -implicitDefEqProofs[af,q1,q1',q2,q2'];refine fin.mono ?_;rintro r H2 ⟨E,rfl⟩;simp -implicitDefEqProofs[af];intro _;exact hE.trans E
 obtain⟨q1,q2⟩:=q;have q1':¬(4:Int)<holds.length:=by omega
 have q2':¬(8:Int)<ticks.length:=by omega
 have q1'':¬4<holds.length:=by omega
 have q2'':¬8<ticks.length:=by omega
 simp -implicitDefEqProofs[af,q1',q2',q1'',q2''];refine(Ar v hvl _ H1 (cU.ext Hv T.e)).mono ?_;rintro r H2 ⟨E2,t,rfl,htl2⟩;have T2:=T.ext E2;simp -implicitDefEqProofs[af];intro _;have OK0:=tX 400 (by decide) (by decide);have D1:=v7 OK0 (by decide) 800 (by decide) (l5 t) (by show t.length≤_;omega) G T2;simp only[cm,cmdC,l5]at D1;refine D1.mono ?_;clear D1;rintro r H3 ⟨T3,ad,n,cc,ad',n',c',rfl,_⟩;simp -implicitDefEqProofs[af];intro _;have D2:=yH OK0 (by decide) 800 (by decide) (l5 t) (by show t.length≤_;omega) G T3;simp only[cm,cmdC,l5]at D2;refine D2.mono ?_;clear D2;rintro r H4 ⟨T4,ad,n,cc,ad',n',c',rfl,_⟩;simp -implicitDefEqProofs[af];intro _;have OK1:=lX 800 (l5 t) OK0;have SM:=w7 800 (dX 400) (l5 t) (AA 400);have K1:=YW 800 (dX 400) t;have F1:=vg 800 (dX 400) (l5 t);have T5:fU h H4 a a2 (bG 800 (dX 400) (l5 t)).1 (bG 800 (dX 400) (l5 t)).1:=T4;obtain⟨b,hb⟩:∃b,b=(bG 800 (dX 400) (l5 t)).1:=⟨_,rfl⟩;rw[←hb]at T5 OK1 K1 F1 SM;obtain⟨m,hm⟩:∃m,m=holds.length:=⟨_,rfl⟩;obtain⟨m2,hm2⟩:∃m,m=ticks.length:=⟨_,rfl⟩;rw[←hm]at Hh q1 ⊢;rw[←hm2]at Ht q2 ⊢;refine bL (Su h a a2 (.slice ad2 m c2) (.slice ad3 m2 c3) m) _ ⟨0,b,rfl,by omega,T5,OK1,F1,K1.2,fun o ho=>(by rw[K1.1]at ho;cases ho),SM,by simp⟩ ?_;clear T T2 T3 T4 T5 OK0 OK1 K1 F1 SM hb b E2 q1' q2' q1'' q2'';rintro n0 ⟨T,⟨x,F⟩⟩ ⟨i,b,rfl,hi,TT,OKb,hfu,hno,hst,hsm,g1,g2,g7,g8,g10⟩;simp at TT g1 g2 g7 g8 g10;simp -implicitDefEqProofs[g1,g2,g7,g8,g10];refine bY (fun hc=>?_) (fun hc=>?_)
 ·have him:i<m:=by omega
  have w1:=bU (i:=i) (by omega);have hti:holds[i]? =some holds[i]:=av (by omega);obtain⟨_,b',o1,w0,cells',r,rfl,hb',hd',hlc,_⟩:=(cU.ext Hh TT.e).at 1 V.dV hti;obtain⟨z,hz⟩:∃z,z=holds[i]:=⟨_,rfl⟩;rw[←hz]at hd' hti;rw[Nat.mul_one]at hd' hlc;obtain⟨k,hk,u1,u2,u3,u4⟩:=uI z 20 (by decide) (by decide);replace u1:(IntKind.wrap .u64 z).tmod 20=(k:Int):=u1;have D1:=v7 OKb (by omega) 800 (by rw[hfu];decide) (oE (1+(k:Int))) (Nat.zero_le _) G TT;simp only[cm,cmdC,oE]at D1;simp -implicitDefEqProofs[g1,g2,g7,g8,g10,him,hb',hd',hlc,ab,u1,u2,u3,u4];refine D1.mono ?_;clear D1;rintro r H3 ⟨T3,ad,n,cc,ad',n',c',rfl,_⟩;simp -implicitDefEqProofs[af];intro _;have D2:=yH OKb (by omega) 800 (by rw[hfu];decide) (oE (1+(k:Int))) (Nat.zero_le _) G T3;simp only[cm,cmdC,oE]at D2;refine D2.mono ?_;clear D2;rintro r H4 ⟨T4,ad,n,cc,ad',n',c',rfl,_⟩;simp -implicitDefEqProofs[af,w1];intro _;obtain⟨y1,y2⟩:=YO 800 b (1+(k:Int)) hst;exact⟨m-(i+1),by omega,i+1,(bG 800 b (oE (1+(k:Int)))).1,rfl,by omega,T4,by have:=lX 800 (oE (1+(k:Int))) OKb;exact this.mono (by omega),by rw[vg];exact hfu,by rw[y2];exact hno,y1,w7 _ _ _ hsm,by simp[g1,g2,g7,g8]⟩
 ·have e:i=m:=by omega
  subst e;simp -implicitDefEqProofs[g1,g2,g7,g8,g10];have e0:iz b ((0:Nat):Int)=b:=rfl;refine bL (Sv h a a2 b (.slice ad3 m2 c3) m2) _ ⟨0,0,rfl,by omega,by omega,by omega,by rw[e0];exact TT,by rw[e0];exact OKb.mono (by omega),by simp[g2,g7,g8,lY]⟩ ?_;clear TT g1 g2 g7 g8 g10 hc;rintro n0 ⟨T,⟨x,F⟩⟩ ⟨j,s,rfl,hj,hjs,hsj,TT,OKs,g2,g7,g8,g12,g13,g14⟩;simp at TT OKs g2 g7 g8 g12 g13 g14;simp -implicitDefEqProofs[g2,g7,g8,g12,g13,g14];refine bY (fun hc=>?_) (fun hc=>?_)
  ·have hjm:j<m2:=(by omega);have w1:=bU (i:=j) (by omega);have hti:ticks[j]? =some ticks[j]:=av (by omega);obtain⟨_,b',o1,w0,cells',r,rfl,hb',hd',hlc,_⟩:=(cU.ext Ht TT.e).at 1 V.dV hti;obtain⟨z,hz⟩:∃z,z=ticks[j]:=⟨_,rfl⟩;rw[←hz]at hd' hti;rw[Nat.mul_one]at hd' hlc;obtain⟨k,hk,u1,u2,u3,u4⟩:=uI z 6 (by decide) (by decide);replace u1:(IntKind.wrap .u64 z).tmod 6=(k:Int):=u1;obtain⟨e1,e2,e3⟩:=I9 800 (b:=b) hno (s:=(s:Int)) (n:=1+(k:Int)) (by omega) (by omega) (by omega) (by omega);have D1:=v7 OKs (by omega) 800 (by rw[XA,hfu];decide) (nU (1+(k:Int))) (Nat.zero_le _) G TT;have OKn:=lX 800 (nU (1+(k:Int))) OKs;rw[e1]at D1 OKn;obtain⟨s2,hs2⟩:∃s2:Nat,s2=s+1+k:=⟨_,rfl⟩;have es:(s:Int)+(1+(k:Int))=(s2:Int):=(by omega);rw[es]at D1 OKn e3;obtain⟨R,hR⟩:∃R,R=(bG 800 (iz b (s:Int)) (nU (1+(k:Int)))).2:=⟨_,rfl⟩;rw[←hR]at e2 e3 D1;simp only[cm,cmdC,nU]at D1;have ws:IntKind.wrap .i64 ((s:Int)+(1+(k:Int)))=(s2:Int):=(by rw[bK (by omega)];omega);have hdl:lY b (s2:Int)≤1048576:=by
    unfold lY;split
    ·omega
    ·have h1:=List.length_filter_le (fq (s2:Int)) b.l;have h2:=OKb.len;omega
   have wd:IntKind.wrap .i64 ((lY b (s:Int):Int)+R.n)=(lY b (s2:Int):Int):=(by rw[e3];exact bK (by omega));obtain⟨d2,hd2⟩:∃d,d=lY b (s2:Int):=⟨_,rfl⟩;rw[←hd2]at wd;simp -implicitDefEqProofs[g2,g7,g8,g12,g13,g14,hjm,hb',hd',hlc,ab,u1,u2,u3,u4];refine D1.mono ?_;clear D1;rintro r H3 ⟨T3,ad,n,cc,ad',n',c',rfl,_⟩;simp -implicitDefEqProofs[af,ws,wd,g2,g7,g8,g12,g13,g14];intro _;obtain⟨vc3,ov3,o3,B3⟩:=T3.fst;refine(pK (by have:=OKn.len;omega) B3).mono ?_;rintro r H4 ⟨E4,SL⟩;have T4:=T3.ext E4;obtain⟨adl,cl,rfl⟩:=SL.shape;obtain⟨mL,hmL⟩:∃m,m=(b8 (iz b (s2:Int))).length:=⟨_,rfl⟩;have hmLb:mL≤1048576:=(by rw[hmL];have h1:=qO (iz b (s2:Int));have h2:=OKn.len;omega);have hel:=XB hst (s:=(s2:Int)) (by omega);have hen:=I8 hno (s2:Int);obtain⟨bE,hbE⟩:∃x,x=iz b (s2:Int):=⟨_,rfl⟩;rw[←hbE]at SL T4 hmL hel hen OKn;try rw[←hbE]
   rw[←hmL]at SL ⊢;simp -implicitDefEqProofs[af,g2,g7,g8,g12,g13,g14];intro _;refine bL (Sw h a a2 b bE (.slice (some ⟨b',o1,none⟩) m2 c3) (.slice adl mL cl) s2 d2 j [.int .i64 R.code,.int .i64 R.n,.int .i64 R.spot.1,.int .i64 R.spot.2,.slice ad n cc] mL) _ ⟨0,rfl,by omega,T4,SL,by simp⟩ ?_;clear T3 T4 SL E4 TT g2 g7 g8 g12 g13 g14 hb' hd' hlc B3;rintro n1 ⟨T,⟨x,F⟩⟩ ⟨i2,rfl,sc,TT,SL,g2,g7,g8,g12,g13,g14,g16,g18,g19,x16⟩;simp at TT SL g2 g7 g8 g12 g13 g14 g16 g18 g19 x16;simp -implicitDefEqProofs[g2,g7,g8,g12,g13,g14,g16,g18,g19,x16];refine bY (fun hc=>?_) (fun hc=>?_)
   ·have hi2m:i2<mL:=(by omega);have w2:=bU (i:=i2) (by omega);have hui:(b8 bE)[i2]? =some (b8 bE)[i2]:=av (by omega);obtain⟨_,b5,o5,cells5,r5,rfl,hb5,hd5,hlc5,_⟩:=SL.at 6 ir hui;obtain⟨u,hu⟩:∃u,u=(b8 bE)[i2]:=⟨_,rfl⟩;rw[←hu]at hd5 hui;have hut:=hel u (dY hui);have hd6:cells5.drop (o5+i2*6+4)=[Value.int .i64 u.fZ,.int .i64 u.first]++r5:=(by rw[←fx,hd5];rfl);have hl5:o5+i2*6+4+1≤cells5.length:=(by omega);have hl6:o5+i2*6+5≤cells5.length:=(by omega);have hno2:¬u.fZ≤(s2:Int):=(by omega);simp -implicitDefEqProofs[g2,g7,g8,g12,g13,g14,g16,g18,g19,x16,hi2m,hb5,hd6,hl5,hl6,hno2,w2];exact⟨mL-(i2+1),by omega,i2+1,rfl,by omega,TT,SL,by simp[g2,g7,g8,g12,g13,g14,g16,g18,x16]⟩
   ·obtain⟨vc4,ov4,o4,B4⟩:=TT.fst;simp -implicitDefEqProofs[g2,g7,g8,g12,g13,g14,g16,g18,g19,x16,e2];refine(N0 B4).mono ?_;rintro r h' ⟨e,rfl⟩;replace e:=e.symm;subst e;simp -implicitDefEqProofs[af,hen,g2,g7,g8,g12,g13,g14,w1];intro _;exact⟨m2-(j+1),by omega,j+1,s2,rfl,by omega,by omega,by omega,by rw[hbE]at TT;exact TT,by rw[hbE]at OKn;exact OKn.mono (by omega),by simp[g2,g7,g8,g12,g13,hd2]⟩
  ·have e:j=m2:=(by omega);subst e;have hE:=TT.e;by_cases q:s=0
   ·subst q;have T0:fU h F a a2 b b:=TT;simp -implicitDefEqProofs[g2,g7,g8,g12,g13,g14];refine(qk F (G.ext hE)).mono ?_;rintro r H2 ⟨E2,rfl⟩;have T2:=T0.ext E2;obtain⟨vc5,ov5,o5,vc6,ov6,o6,B5,B6,_⟩:=T2;simp -implicitDefEqProofs[af];intro _;have hsa:=uW hsm (by have:=OKb.len;omega) B5 B6;rw[yq]at hsa;refine hsa.mono ?_;rintro r h' ⟨e,rfl⟩;replace e:=e.symm;subst e;simp -implicitDefEqProofs[af];intro _;exact B5.ext
   ·have qi:¬(s:Int)=0:=(by omega);obtain⟨e1,e2,e3⟩:=I9 800 (b:=b) hno (s:=0) (n:=(s:Int)) (by omega) (by omega) (by omega) (by omega);have eb0:iz b 0=b:=rfl;rw[eb0]at e1 e2 e3;rw[Int.zero_add]at e1 e3;have D2:=yH OKb (by omega) 800 (by rw[hfu];decide) (nU (s:Int)) (Nat.zero_le _) G TT;obtain⟨R,hR⟩:∃R,R=(bG 800 b (nU (s:Int))).2:=⟨_,rfl⟩;rw[←hR]at e2 e3 D2;rw[e1]at D2;have e3':R.n=(lY b (s:Int):Int):=by
     have:lY b 0=0:=rfl;rw[this]at e3;simpa using e3
    simp only[cm,cmdC,nU]at D2;simp -implicitDefEqProofs[g2,g7,g8,g12,g13,g14,q,qi];refine D2.mono ?_;clear D2;rintro r H3 ⟨T3,ad,n,cc,ad',n',c',rfl,_⟩;obtain⟨bE,hbE⟩:∃x,x=iz b (s:Int):=⟨_,rfl⟩;have hsmE:V.kf bE.v:=(by rw[hbE];unfold iz;split<;>exact hsm);rw[←hbE]at T3 OKs;rw[e3'];simp -implicitDefEqProofs[af,g7,g8,g13];intro _;refine(qk H3 (G.ext T3.e)).mono ?_;rintro r H4 ⟨E4,rfl⟩;have T4:=T3.ext E4;simp -implicitDefEqProofs[af];intro _;obtain⟨vc5,ov5,o5,vc6,ov6,o6,B5,B6,_⟩:=id T4;have hsa:=uW hsmE (by have:=OKs.len;omega) B5 B6;rw[yq]at hsa;refine hsa.mono ?_;rintro r h' ⟨e,rfl⟩;replace e:=e.symm;subst e;simp -implicitDefEqProofs[af];intro _;refine(pK (by have:=OKs.len;omega) B5).mono ?_;rintro r H5 ⟨E5,SL⟩;obtain⟨adl,cl,rfl⟩:=SL.shape;simp -implicitDefEqProofs[af];intro _;refine(pK (by have:=OKs.len;omega) (B6.exts E5)).mono ?_;rintro r H6 ⟨E6,SL2⟩;have hso:=aiP _ _ _ _ (by have h1:=qO bE;have h2:=OKs.len;omega) H6 (SL.ext E6).sl SL2.sl;obtain⟨adl2,cl2,rfl⟩:=SL2.shape;rw[decide_eq_true rfl]at hso;simp -implicitDefEqProofs[af];intro _;refine hso.mono ?_;rintro r h' ⟨e,rfl⟩;replace e:=e.symm;subst e;simp -implicitDefEqProofs[af];intro _;exact((B5.ext).trans E5).trans E6
abbrev uN:=cU 31 cmdC
theorem oe (c:CmdR):(cmdC c).length=5:=rfl
def oz (cs:List CmdR) (k:Int):Bool:=(cs.all fun c=>decide (c.text.length≤300))&&decide ((cs.length:Int)≤k)
def Rt (s:Value) (l:List CmdR) (k:Int) (m:Nat) (h:aa) (n:Nat) (σ:St):Prop:=∃i:Nat,n=m-i∧i≤m∧σ.m.h=h∧σ.t.get 0=some s∧σ.t.get 1=some (.int .i64 k)∧σ.t.get 5=some (.int .i64 (i:Nat))∧(l.take i).all (fun c=>decide (c.text.length≤300))=true
theorem zL (s:Value) (l:List CmdR) (k:Int) (hl:l.length≤9223372036854775807) (h:aa) (hs:uN h s l):ao PP 10 [s,.int .i64 k] h (fun v h'=>h'=h∧v= .bool (oz l k)):=by
 refine aC mix (aD Tryz.func10) rfl rfl rfl acN ?_;simp only[ai,Tryz.f10];obtain⟨ad,c,rfl⟩:=hs.shape;obtain⟨m,hm⟩:∃m,m=l.length:=⟨_,rfl⟩;rw[←hm]at hs ⊢;simp -implicitDefEqProofs;refine bL (Rt (.slice ad m c) l k m h) _ ⟨0,rfl,by omega,rfl,by simp,by simp,by simp,rfl⟩ ?_;rintro n ⟨T,⟨x,H⟩⟩ ⟨i,rfl,hi,hH,g0,g1,g5,aQ⟩;simp at hH g0 g1 g5;subst hH;simp -implicitDefEqProofs[g0,g1,g5];refine bY (fun hc=>?_) (fun hc=>?_)
 ·have hil:i<m:=by omega
  have hti:l[i]? =some l[i]:=av (by omega);obtain⟨_,b,o,wb,cs,r,rfl,hb,hd,hlc,_⟩:=hs.at 5 oe hti;obtain⟨t,ht⟩:∃t,t=l[i]:=⟨_,rfl⟩;rw[←ht]at hd hti;have w1:=bU (i:=i) (by omega);have hlc':o+i*5+5≤cs.length:=by omega
  have hd4:List.drop (o+i*5+4) cs= .string (B t.text)::r:=by rw[←fx,hd];simp[cmdC]
  simp -implicitDefEqProofs[g0,g1,g5,hil,hb,hd,hlc',hd4];refine iM (fun h1=>?_) (fun h1=>?_)<;>simp at h1
  ·have hp:oz l k=false:=by
    unfold oz;rw[Bool.and_eq_false_iff];refine .inl ?_;rw[List.all_eq_false];exact⟨t,dY hti,by simp;omega⟩
   simp -implicitDefEqProofs[g0,g1,g5,hp]
  ·simp -implicitDefEqProofs[g0,g1,g5,w1];refine⟨m-(i+1),by omega,i+1,rfl,by omega,rfl,by simp[g0],by simp[g1],by simp,?_⟩;rw[fI,hti,List.all_append,aQ];simp;omega
 ·have:i=m:=by omega
  subst this;simp -implicitDefEqProofs[g0,g1,g5];unfold oz;rw[hm,kH]at aQ;rw[aQ,tu,←hm]
theorem zQ (c:CmdR) (hct:c.text.length≤300) (i:Int) (l:List Int) (hl:l.length≤4611686018427387904) (lv:Value) (h:aa) (hs:bq h lv l):ao PP 13 [cm c,.int .i64 i,lv] h (fun r h'=>Ext h h'∧∃c',r=cm c'∧c'.text.length≤10000):=by
 refine aC mix (aD Tryz.func13) rfl rfl rfl ac9 ?_;simp only[ai,Tryz.f13];obtain⟨ad,cp,rfl⟩:=hs.shape;simp -implicitDefEqProofs[cm,cmdC];refine iM (fun h1=>?_) (fun h1=>?_)<;>simp at h1
 ·simp -implicitDefEqProofs;refine(Ar l hl _ h hs).mono ?_;rintro r h' ⟨E,t,rfl,ht⟩;simp -implicitDefEqProofs;intro _;exact⟨E,⟨1,0,⟨0,0⟩,t⟩,⟨rfl,rfl,rfl,rfl,rfl⟩,ht⟩
 ·simp -implicitDefEqProofs;refine iM (fun h2=>?_) (fun h2=>?_)<;>simp at h2
  ·simp -implicitDefEqProofs;exact⟨Ext.bJ h,c,⟨rfl,rfl,rfl,rfl,rfl⟩,by omega⟩
  ·have hr13:List.range 13=[0,1,2,3,4,5,6,7,8,9,10,11,12]:=rfl;obtain⟨u,hu,e1,e2,e3,e4⟩:=uI c.kind 13 (by decide) (by decide);replace e1:(IntKind.wrap .u64 c.kind).tmod 13=(u:Int):=e1;obtain⟨y,hy,y1,y2,y3,y4⟩:=uI c.a 7 (by decide) (by decide);replace y1:(IntKind.wrap .u64 c.a).tmod 7=(y:Int):=y1;obtain⟨p,hp,p1,p2,p3,p4⟩:=uI c.aO.size 3 (by decide) (by decide);replace p1:(IntKind.wrap .u64 c.aO.size).tmod 3=(p:Int):=p1;obtain⟨q,hq,q1,q2,q3,q4⟩:=uI c.aO.du 2 (by decide) (by decide);replace q1:(IntKind.wrap .u64 c.aO.du).tmod 2=(q:Int):=q1;obtain⟨x,rest,hx⟩:∃x rest,List.drop u [Value.int .i64 2,.int .i64 2,.int .i64 2,.int .i64 2,.int .i64 3,.int .i64 4,.int .i64 5,.int .i64 6,.int .i64 7,.int .i64 8,.int .i64 2,.int .i64 3,.int .i64 1]=Value.int .i64 x::rest:=by
    have:∀u,u<13→∃x rest,List.drop u [Value.int .i64 2,.int .i64 2,.int .i64 2,.int .i64 2,.int .i64 3,.int .i64 4,.int .i64 5,.int .i64 6,.int .i64 7,.int .i64 8,.int .i64 2,.int .i64 3,.int .i64 1]=Value.int .i64 x::rest:=by
     intro u hu;match u,hu with
     |0,_|1,_|2,_|3,_|4,_|5,_|6,_|7,_|8,_|9,_|10,_|11,_|12,_=>exact⟨_,_,rfl⟩
    exact this u hu
   have hu':(u:Int)<13:=(by omega);have hu2:u+1≤13:=(by omega);simp -implicitDefEqProofs[aP,hr13,e1,hu',hx,hu,hu2];have E0:Ext h (h.new (.row true 3 [Value.int .i64 2,.int .i64 2,.int .i64 2,.int .i64 2,.int .i64 3,.int .i64 4,.int .i64 5,.int .i64 6,.int .i64 7,.int .i64 8,.int .i64 2,.int .i64 3,.int .i64 1])):=Ext.new h _;refine iM (fun h3=>?_) (fun h3=>?_)<;>simp at h3
   ·simp -implicitDefEqProofs;refine(Ar l hl _ _ (hs.ext E0)).mono ?_;rintro r h' ⟨E,t,rfl,ht⟩;replace E:=E0.trans E;clear hx E0;simp -implicitDefEqProofs[y1,y2,y3,y4,p1,p2,p3,p4,q1,q2,q3,q4];intro _;refine iM (fun h4=>?_) (fun h4=>?_)<;>simp at h4
    ·simp -implicitDefEqProofs;exact⟨E,⟨1,1+y,⟨1+p,0⟩,t⟩,⟨by simp[h3],rfl,rfl,rfl,rfl⟩,ht⟩
    ·simp -implicitDefEqProofs;exact⟨E,⟨1,1+y,⟨1+p,q⟩,t⟩,⟨by simp[h3],rfl,rfl,rfl,rfl⟩,ht⟩
   ·simp -implicitDefEqProofs[y1,y2,y3,y4,p1,p2,p3,p4,q1,q2,q3,q4];refine iM (fun h4=>?_) (fun h4=>?_)<;>simp at h4
    ·simp -implicitDefEqProofs;exact⟨E0,⟨x,1+y,⟨1+p,0⟩,c.text⟩,⟨rfl,rfl,rfl,rfl,rfl⟩,by show c.text.length≤10000;omega⟩
    ·simp -implicitDefEqProofs;exact⟨E0,⟨x,1+y,⟨1+p,q⟩,c.text⟩,⟨rfl,rfl,rfl,rfl,rfl⟩,by show c.text.length≤10000;omega⟩
end Go.Proofs.Ybk.K
namespace Go.Proofs.Ybk.K
open Go Go.Am Go.RowKit Go.ChangeShapes Go.WideShapes Go.Deep
theorem Wc (l:List CmdR):∀(i j:Nat) (c:CmdR),l[i]? =some c→j<5→(l.flatMap cmdC)[i*5+j]? =(cmdC c)[j]? :=by
 induction l with
 |nil=>intro i j c h;simp at h
 |cons a r ih=>
  intro i j c h hj;rw[gF];cases i with
  |zero=>
   simp only[List.getElem?_cons_zero,aw]at h;subst h;rw[jz (by rw[oe];omega)];simp
  |succ i=>
   rw[iW (by rw[oe];omega),oe,show(i+1)*5+j-5=i*5+j from by omega];exact ih i j c (by simpa using h) hj
theorem zy (l:List CmdR):(l.flatMap cmdC).length=l.length*5:=by
 induction l with
 |nil=>rfl
 |cons a r ih=>rw[gF,bF,ih,oe,eE];omega
theorem We (l:List CmdR):∀n,(l.flatMap cmdC).take (n*5)=(l.take n).flatMap cmdC:=by
 induction l with
 |nil=>intro n;simp
 |cons a r ih=>
  intro n;cases n with
  |zero=>simp
  |succ n=>
   rw[gF,List.take_succ_cons,gF,←ih n,List.take_append,oe,show(n+1)*5-5=n*5 from by omega,bZ (by rw[oe];omega)]
theorem Wd (l:List CmdR):(l.flatMap cmdC).all AV=true:=by
 induction l with
 |nil=>rfl
 |cons a r ih=>rw[gF,List.all_append,ih];rfl
theorem open_cmds {H:Type} {enc:TypeId×Value→H} {w:World} {base:Nat} {held:Bool} {fuel:Nat} {cs:List Value} {x:DataW H×List MemPlace}
  (h:DataW.trod enc Tryz.prog w base (fun _=>true) held fuel 23 cs=some x):∃(a:Option Addr) (len cap:Nat) (l:List CmdR),cs=[.slice a len cap]∧l.length=cap∧RowX w 5 a len cap (l.flatMap cmdC)∧len≤maxLen:=by
 have hce:Tryz.prog.cellsOf 31=5:=by kernel_rfl
 have c3:Tryz.prog.cellsOf 3=1:=by kernel_rfl
 have c9:Tryz.prog.cellsOf 9=1:=by kernel_rfl
 have c29:Tryz.prog.cellsOf 29=2:=by kernel_rfl
 rcases open_slice Tryz.underlying23 h with⟨rfl,_⟩|⟨a,len,cap,m,n,D,Pl,rfl,_,hl,hcap,hm,_,hel⟩
 ·exact⟨none,0,0,[],rfl,rfl,.inl ⟨rfl,rfl,rfl,rfl⟩,Nat.zero_le _⟩
 ·simp only[if_true]at hm;subst hm;have key:∀i,i<m→∃c:CmdR,∀j,j<5→w.cell? (a.add (i*5+j))=(cmdC c)[j]? :=by
   intro i hi;obtain⟨cs',h1,h2⟩:=hel i hi;rw[hce]at h1;obtain⟨_,hlen,hcell⟩:=World.cells?_some h1;obtain⟨xs,k,_,_,_,hxs,hf⟩:=DataW.trod_struct Tryz.underlying31 h2;match xs,hxs,cs',hlen with
   |[y0,y1,y2,y3],_,[v0,v1,v2,v3,v4],_=>
    have g0:=hf 0 _ rfl;have g1:=hf 1 _ rfl;have g2:=hf 2 _ rfl;have g3:=hf 3 _ rfl;simp[c3,c9,c29]at g0 g1 g2 g3;obtain⟨z0,e0,_,_⟩:=DataW.trod_int Tryz.underlying3 g0;obtain⟨z1,e1,_,_⟩:=DataW.trod_int Tryz.underlying3 g1;obtain⟨s,e3,_,_⟩:=DataW.trod_string Tryz.underlying9 g3;obtain⟨u0,u1,n2,_,_,k0,k1⟩:=trod_struct2 Tryz.underlying29 g2;simp[c3]at k0 k1;obtain⟨z2,e4,_,_⟩:=DataW.trod_int Tryz.underlying3 k0;obtain⟨z3,e5,_,_⟩:=DataW.trod_int Tryz.underlying3 k1;simp at e0 e1 e3 e4 e5;subst e0 e1 e3 e4 e5;refine⟨⟨z0,z1,⟨z2,z3⟩,s.data.toList⟩,fun j hj=>?_⟩;have h4:=hcell j hj;rw[Go.Deep.add_add]at h4;rw[h4];have hs:Go.Am.B s.data.toList=s:=(by simp[Go.Am.B]);match j,hj with
    |0,_|1,_|2,_|3,_=>rfl
    |4,_=>simp[cmdC,hs]
  obtain⟨f,hf⟩:=choose_lt key;refine⟨_,_,_,(List.range m).map f,rfl,by simp,.inr ⟨a,rfl,hl,by rw[zy];simp,fun i hi=>?_,Wd _,?_⟩,eW hl hcap⟩
  ·rw[zy]at hi;simp only[cN,qy]at hi;have fQ:i / 5<m:=(by omega);have h5:=hf (i / 5) fQ (i % 5) (Nat.mod_lt _ (by decide));rw[Nat.div_add_mod']at h5;have h6:=Wc ((List.range m).map f) (i / 5) (i % 5) (f (i / 5)) (by simp[fQ]) (Nat.mod_lt _ (by decide));rw[Nat.div_add_mod']at h6;rw[h5,←h6,bB];have h7:i<(((List.range m).map f).flatMap cmdC).length:=(by rw[zy];simpa using hi);rw[av h7];rfl
  ·cases m with
   |zero=>exact .inl rfl
   |succ m=>rw[List.range_succ_eq_map,eT,gF];exact .inr ⟨_,_,rfl⟩
theorem zA {h:aa} {v:Value} {len:Nat} {l:List CmdR} (H:ph 31 h v len ((l.flatMap cmdC).take (len*5))) (hl:len≤l.length):uN h v (l.take len):=by
 obtain⟨ad,c,rfl,hc,z⟩:=H;have e:(l.take len).length=len:=by rw[cQ];omega
 refine⟨ad,c,by rw[e],hc,?_⟩;rcases z with z|⟨b,cs,rfl,h2,h3⟩
 ·exact .inl (by rw[z];rfl)
 ·exact .inr ⟨b,0,false,_,cs,rfl,h2,by rw[We];rfl,Nat.zero_le _,h3⟩
end Go.Proofs.Ybk.K

import Derived.Test.YtbcdmljanolkeaaGreatDoorMb
import Derived.Test.YtbcdmljanolkeaaGreatDoorProg
import Derived.WalkKit
import Derived.LaidEql
import Derived.Stop.Asserts
import Derived.RowKitTokens
import Derived.Sort.Grow
import Derived.Deep.Draws
import Derived.Deep.Slices
import Derived.Deep.Fields
import Derived.Test.YtbcdmljanolkeaaGreatDoorRows
import Derived.LaidLaws
import Derived.LaidHandle
import Derived.LaidSub
import Derived.Stop.LaidErr
import Derived.Lib.LaidTab
import Derived.SizedLaws
import Derived.ChangeSlices
set_option linter.unusedVariables false
set_option linter.unusedSimpArgs false
set_option linter.unusedSectionVars false
set_option linter.constructorNameAsVariable false
set_option linter.defProp false
set_option maxRecDepth 20000
namespace Go.Proofs.Ybk.F
open Go.RowKit Go.Extern.Stop Go.Stop Go.Extern
def V5(t:Value)(w:World):
  Calls Tryz.prog 147 #[.nilIface,t] w λe w'=>e= .returned (.bool false)/\w'=w:=by
 go_enter Tryz.func147,Tryz.ntmps147;go_wp2;go_ret;exact⟨rfl,rfl⟩
def Fa.anT(t:Addr)(w:World):(ReflectliteValue.unpack (.iface 209 (.pointer (some t)))).run Tryz.prog w
  = .ok (.agg #[.pointer (some ⟨5,209,none⟩),.pointer (some ⟨w.heap.size,0,none⟩),.int .u64 150]) (w.alloc (.cells #[.pointer (some t)] 209)):=by kernel_rfl
def Fa.type27(a:Addr)(w:World):(ReflectliteValue.methodAny (ReflectliteValue.valueError "reflectlite.Value.Type" 0) (λt _ _ _=>ReflectliteType.toType t) #[.agg #[.pointer (some ⟨5,209,none⟩),.pointer (some a),.int .u64 150]]).run Tryz.prog w
  = .ok (.iface 316 (.agg #[.pointer (some ⟨5,209,none⟩)])) w:=by kernel_rfl
def Fa.ab5(h:Value)(w:World):(Go.method 513 316 (.agg #[h]) "Kind").run Tryz.prog w= .ok (331,h) w:=by kernel_rfl
def Fa.aa3(w:World):((ReflectliteType.abiMethod λt=>(λa:Nat=>Value.int IntKind.u8 (a:Int)) <$> Rtype.kind t) #[.pointer (some ⟨5,209,none⟩)]).run Tryz.prog w= .ok (.int .u8 22) w:=by kernel_rfl
def Fa.aa2(w:World):((ReflectliteType.abiMethod λt=>(λa:Nat=>Value.int IntKind.u8 (a:Int)) <$> Rtype.kind t) #[.pointer (some ⟨5,207,none⟩)]).run Tryz.prog w= .ok (.int .u8 22) w:=by kernel_rfl
def Q3(z:Sem Value)(f:TypeId->Addr->Nat->Nat->Sem Value)(v:Value):
  ReflectliteValue.method z f #[v]=(do match<-ReflectliteValue.parts v with|none=>z|some (t,a,fl)=>f t a fl (fl % 32)):=rfl
def Fa.Qr(a:Addr)(w:World):(ReflectliteValue.parts (.agg #[.pointer (some ⟨5,209,none⟩),.pointer (some a),.int .u64 150])).run Tryz.prog w= .ok (some (209,a,150)) w:=by kernel_rfl
def Fa.aaG(a p:Addr)(W:World)(ha:W.cell? a=some (.pointer (some p))):
  (ReflectliteValue.method (ReflectliteValue.valueError "reflectlite.Value.IsNil" 0) ReflectliteValue.isNil #[.agg #[.pointer (some ⟨5,209,none⟩),.pointer (some a),.int .u64 150]]).run Tryz.prog W= .ok (.bool false) W:=by
 rw[Q3];simp only[Sem.run_bind,Fa.Qr,Result.andThen];simp[ReflectliteValue.isNil,loadVar,isAgg,underlying,Tryz.underlying209,ha,Result.andThen]
def Fa.ab3(h:Value)(w:World):(Go.method 513 316 (.agg #[h]) "Elem").run Tryz.prog w= .ok (344,.agg #[h]) w:=by kernel_rfl
def Fa.ab4(h:Value)(w:World):(Go.method 513 316 (.agg #[h]) "Implements").run Tryz.prog w= .ok (345,.agg #[h]) w:=by kernel_rfl
def Fa.ab2(h:Value)(w:World):(Go.method 513 316 (.agg #[h]) "AssignableTo").run Tryz.prog w= .ok (342,.agg #[h]) w:=by kernel_rfl
def Fa.Y0(w:World):(ReflectliteType.method ReflectliteType.elem #[.agg #[.pointer (some ⟨5,209,none⟩)]]).run Tryz.prog w= .ok (.iface 316 (.agg #[.pointer (some ⟨5,207,none⟩)])) w:=by kernel_rfl
def Fa.aas(w:World):(ReflectliteType.relation "Implements" ReflectliteType.implements_ #[.agg #[.pointer (some ⟨5,207,none⟩)],.iface 316 (.agg #[.pointer (some ⟨5,110,none⟩)])]).run Tryz.prog w= .ok (.bool true) w:=by kernel_rfl
def Fa.anp(v:Value)(w:World):(ReflectliteType.typeOf #[.iface 207 v]).run Tryz.prog w= .ok (.iface 316 (.agg #[.pointer (some ⟨5,207,none⟩)])) w:=by kernel_rfl
def Fa.V7(w:World):(ReflectliteType.relation "AssignableTo" ReflectliteType.assignableTo #[.agg #[.pointer (some ⟨5,207,none⟩)],.iface 316 (.agg #[.pointer (some ⟨5,207,none⟩)])]).run Tryz.prog w= .ok (.bool true) w:=by kernel_rfl
def Fa.anS(e:Addr)(w:World):(ReflectliteValue.unpack (.iface 207 (.pointer (some e)))).run Tryz.prog w
  = .ok (.agg #[.pointer (some ⟨5,207,none⟩),.pointer (some ⟨w.heap.size,0,none⟩),.int .u64 150]) (w.alloc (.cells #[.pointer (some e)] 207)):=by kernel_rfl
def Fa.Y1(w:World):(Rtype.elem? 209).run Tryz.prog w= .ok (some 207) w:=by kernel_rfl
def Fa.ab6(p:Addr)(w:World):(ReflectliteValue.mk 207 p ReflectliteValue.flagAddr).run Tryz.prog w= .ok (.agg #[.pointer (some ⟨5,207,none⟩),.pointer (some p),.int .u64 406]) w:=by kernel_rfl
def Fa.Y2(a p:Addr)(W:World)(ha:W.cell? a=some (.pointer (some p))):
  (ReflectliteValue.method (ReflectliteValue.valueError "reflectlite.Value.Elem" 0) ReflectliteValue.elem #[.agg #[.pointer (some ⟨5,209,none⟩),.pointer (some a),.int .u64 150]]).run Tryz.prog W
   = .ok (.agg #[.pointer (some ⟨5,207,none⟩),.pointer (some p),.int .u64 406]) W:=by
 rw[Q3];simp only[Sem.run_bind,Fa.Qr,Result.andThen];simp[ReflectliteValue.elem,loadVar,isAgg,underlying,Tryz.underlying209,ha,Result.andThen,Fa.Y1,Fa.ab6]
def ajY(v x:Value):ReflectliteValue.set #[v,x]=(do
  let (some (dst,a,fl),some (src,b,_)):=(<-ReflectliteValue.parts v,<-ReflectliteValue.parts x)
   |unsupported (.noEntry "extern/(internal/reflectlite.Value).Set.zeroValue")
  if fl / ReflectliteValue.flagAddr % 2==0 then unsupported (.noEntry "extern/(internal/reflectlite.Value).Set.unaddressable")
  let val <-loadVar src b
  if<-Rtype.directlyAssignable dst src then storeVar dst a val
  else if<-Rtype.implements dst src then
   if(<-Rtype.kind src)==20 then
    match val with
    | .nilIface=>unsupported (.noEntry "extern/reflectlite: a nil value of one interface type handed on as a value of another")
    |_=>storeVar dst a val
   else storeVar dst a (.iface src val)
  else panicString ("reflectlite.Set: value of type " ++(<-Rtype.spelt src)++ " is not assignable to type " ++(<-Rtype.spelt dst))
  pure (.tuple #[])):=rfl
def Fa.aiR(a:Addr)(w:World):(ReflectliteValue.parts (.agg #[.pointer (some ⟨5,207,none⟩),.pointer (some a),.int .u64 406])).run Tryz.prog w= .ok (some (207,a,406)) w:=by kernel_rfl
def Fa.aiQ(a:Addr)(w:World):(ReflectliteValue.parts (.agg #[.pointer (some ⟨5,207,none⟩),.pointer (some a),.int .u64 150])).run Tryz.prog w= .ok (some (207,a,150)) w:=by kernel_rfl
def Fa.Yn(w:World):(Rtype.directlyAssignable 207 207).run Tryz.prog w= .ok true w:=by kernel_rfl
def Fa.akD(ta b e:Addr)(old:Value)(W:World)(hb:W.cell? b=some (.pointer (some e)))(ht:W.cell? ta=some old)(hf:W.frozen? ta=false):
  (ReflectliteValue.set #[.agg #[.pointer (some ⟨5,207,none⟩),.pointer (some ta),.int .u64 406],.agg #[.pointer (some ⟨5,207,none⟩),.pointer (some b),.int .u64 150]]).run Tryz.prog W
   = .ok (.tuple #[]) (W.setCell ta (.pointer (some e))):=by
 rw[ajY];simp only[Sem.run_bind,Fa.aiR,Fa.aiQ,Result.andThen];simp[ReflectliteValue.flagAddr,loadVar,isAgg,underlying,Tryz.underlying207,hb,Result.andThen,Fa.Yn,storeVar,Value.cells,storeCells,Addr.add];rw[run_store Tryz.prog W ta _ _ (by rfl)];simp[ht,hf]
set_option maxHeartbeats 4000000 in
def V4(e t:Addr)(old:Value)(w:World)(hg:w.cell? ⟨0,0,none⟩=some (.iface 316 (.agg #[.pointer (some ⟨5,110,none⟩)])))(ht0:w.cell? t=some old)(hf0:w.frozen? t=false):
  Calls Tryz.prog 147 #[.iface 207 (.pointer (some e)),.iface 209 (.pointer (some t))] w λev w'=>ev= .returned (.bool true)/\w'=((((w.alloc (.cells #[.pointer (some t)] 209)).alloc (.cells #[.pointer (some ⟨5,209,none⟩),.pointer (some ⟨w.heap.size,0,none⟩),.int .u64 150] 268)).alloc (.cells #[.pointer (some ⟨5,209,none⟩),.pointer (some ⟨w.heap.size,0,none⟩),.int .u64 150] 268)).alloc (.cells #[.pointer (some e)] 207)).setCell t (.pointer (some e)):=by
 have h6:=@run_callFunc_extern Tryz.prog 198 _ (λargs=>ReflectliteValue.unpack (args.getD 0 (.tuple #[]))) Tryz.func198 (by kernel_rfl) (by kernel_rfl) (by kernel_rfl) (by kernel_rfl);have h7:=@run_callFunc_extern Tryz.prog 199 _ (ReflectliteValue.methodAny (ReflectliteValue.valueError "reflectlite.Value.Type" 0) (λt _ _ _=>ReflectliteType.toType t)) Tryz.func199 (by kernel_rfl) (by kernel_rfl) (by kernel_rfl) (by kernel_rfl);have h8:=@run_callFunc_extern Tryz.prog 200 _ (ReflectliteValue.method (ReflectliteValue.valueError "reflectlite.Value.IsNil" 0) ReflectliteValue.isNil) Tryz.func200 (by kernel_rfl) (by kernel_rfl) (by kernel_rfl) (by kernel_rfl);have h27:=@run_callFunc_extern Tryz.prog 331 _ (ReflectliteType.abiMethod λt=>do pure (.int .u8 (<-Rtype.kind t))) Tryz.func331 (by kernel_rfl) (by kernel_rfl) (by kernel_rfl) (by kernel_rfl);have h37:=@run_callFunc_extern Tryz.prog 344 _ (ReflectliteType.method ReflectliteType.elem) Tryz.func344 (by kernel_rfl) (by kernel_rfl) (by kernel_rfl) (by kernel_rfl);have h38:=@run_callFunc_extern Tryz.prog 345 _ (ReflectliteType.relation "Implements" ReflectliteType.implements_) Tryz.func345 (by kernel_rfl) (by kernel_rfl) (by kernel_rfl) (by kernel_rfl);have h10:=@run_callFunc_extern Tryz.prog 242 _ ReflectliteType.typeOf Tryz.func242 (by kernel_rfl) (by kernel_rfl) (by kernel_rfl) (by kernel_rfl);have h35:=@run_callFunc_extern Tryz.prog 342 _ (ReflectliteType.relation "AssignableTo" ReflectliteType.assignableTo) Tryz.func342 (by kernel_rfl) (by kernel_rfl) (by kernel_rfl) (by kernel_rfl);have h11:=@run_callFunc_extern Tryz.prog 243 _ (ReflectliteValue.method (ReflectliteValue.valueError "reflectlite.Value.Elem" 0) ReflectliteValue.elem) Tryz.func243 (by kernel_rfl) (by kernel_rfl) (by kernel_rfl) (by kernel_rfl);have h12:=@run_callFunc_extern Tryz.prog 244 _ ReflectliteValue.set Tryz.func244 (by kernel_rfl) (by kernel_rfl) (by kernel_rfl) (by kernel_rfl);have tO:=Fa.anp;have mA:=Fa.ab2;have a25:=Fa.V7;have v25:=Fa.anS;have f6:=Fa.anT;have f7:=Fa.type27;have mK:=Fa.ab5;have mE:=Fa.ab3;have mI:=Fa.ab4;have k27:=Fa.aa3;have k25:=Fa.aa2;have e27:=Fa.Y0;have i25:=Fa.aas;have n8:=Fa.aaG ⟨w.heap.size,0,none⟩ t ((w.alloc (.cells #[.pointer (some t)] 209)).alloc (.cells #[.pointer (some ⟨5,209,none⟩),.pointer (some ⟨w.heap.size,0,none⟩),.int .u64 150] 268)) (by simp);have hlt:0<w.heap.size:=by
  rcases Nat.eq_zero_or_pos w.heap.size with h0|h
  .simp[World.cell?,h0]at hg
  .exact h
 have hg2:((w.alloc (.cells #[.pointer (some t)] 209)).alloc (.cells #[.pointer (some ⟨5,209,none⟩),.pointer (some ⟨w.heap.size,0,none⟩),.int .u64 150] 268)).cell? ⟨0,0,none⟩=some (.iface 316 (.agg #[.pointer (some ⟨5,110,none⟩)])):=by
  rw[World.cell?_alloc_lt _ _ ⟨0,0,none⟩ (by simp),World.cell?_alloc_lt _ _ ⟨0,0,none⟩ hlt];exact hg
 have htl:t.block<w.heap.size:=by
  rcases Nat.lt_or_ge t.block w.heap.size with h|h
  .exact h
  .simp[World.cell?,Array.getElem?_eq_none h]at ht0
 have el:=Fa.Y2 ⟨w.heap.size,0,none⟩ t (((w.alloc (.cells #[.pointer (some t)] 209)).alloc (.cells #[.pointer (some ⟨5,209,none⟩),.pointer (some ⟨w.heap.size,0,none⟩),.int .u64 150] 268)).alloc (.cells #[.pointer (some ⟨5,209,none⟩),.pointer (some ⟨w.heap.size,0,none⟩),.int .u64 150] 268)) (by rw[World.cell?_alloc_lt _ _ ⟨w.heap.size,0,none⟩ (by simp;omega)];simp);have st:=Fa.akD t ⟨w.heap.size+1+1+1,0,none⟩ e old ((((w.alloc (.cells #[.pointer (some t)] 209)).alloc (.cells #[.pointer (some ⟨5,209,none⟩),.pointer (some ⟨w.heap.size,0,none⟩),.int .u64 150] 268)).alloc (.cells #[.pointer (some ⟨5,209,none⟩),.pointer (some ⟨w.heap.size,0,none⟩),.int .u64 150] 268)).alloc (.cells #[.pointer (some e)] 207))
  (by rw[World.cell?_alloc_at _ _ _ _ (by simp)];rfl)
  (by rw[World.cell?_alloc_lt _ _ t (by simp;omega),World.cell?_alloc_lt _ _ t (by simp;omega),World.cell?_alloc_lt _ _ t (by simp;omega),World.cell?_alloc_lt _ _ t htl];exact ht0)
  (by rw[World.frozen?_alloc_old _ _ t (by simp;omega),World.frozen?_alloc_old _ _ t (by simp;omega),World.frozen?_alloc_old _ _ t (by simp;omega),World.frozen?_alloc_old _ _ t (Nat.ne_of_lt htl)];exact hf0)
 go_enter Tryz.func147,Tryz.ntmps147;go_wp2;refine wp_loop_rounds 1 ?_;rw[rounds_succ];go_wp2;go_ret;exact⟨rfl,rfl⟩
end Go.Proofs.Ybk.F
namespace Go.Am
open Go
def sH(P:Program):List Nat->Nat->List Oper->Bool
 |[],_,[]=>true
 |i::r,k,o::l=>decide (i=k)&&(eO P o.op&&sH P r (k+1) l)
 |_,_,_=>false
def abl(pre:List Oper)(o:Oper)(l:List Oper):jV default (pre++o::l) pre.length=o:=by
 induction pre with
 |nil=>rfl
 |cons a r ih=>exact ih
def aap{P:Program}:∀(perm:List Nat)(k:Nat)(l pre:List Oper),pre.length=k->sH P perm k l=true->perm.map (jV default (pre++l))=l/\perm.all (λi=>eO P (jV default (pre++l) i).op)=true:=by
 intro perm;induction perm with
 |nil=>intro k l pre hk h;cases l with
  |nil=>exact⟨rfl,rfl⟩
  |cons o l=>simp[sH]at h
 |cons i r ih=>intro k l pre hk h;cases l with
  |nil=>simp[sH]at h
  |cons o l=>
   simp only[sH,bQ,de]at h
   obtain⟨rfl,h2,h3⟩:=h
   have:=ih (i+1) l (pre++[o]) (by simp[hk]) h3
   rw[eG]at this
   have e:jV default (pre++o::l) i=o:=by rw[<-hk];exact abl pre o l
   refine⟨?_,?_⟩
   .rw[fg,e];congr 1;exact this.1
   .rw[List.all_cons,e,h2];exact this.2
def an9{P:Program}{cfg:aw}{Q:Ex->St->Prop}{σ:St}(id:Nat)(l:List Oper)(h:sH P (cfg.draw id).perm 0 l=true)(ha:(cfg.draw id).alts=[]):vc P cfg (.region id l.toArray true) Q σ=gA P cfg.loc l.toArray (tq Q cfg id) l (qW (mH P l.toArray (cfg.draw id)) σ):=by
 obtain⟨h1,h2⟩:=aap (cfg.draw id).perm 0 l [] rfl h;simp only[dJ]at h1 h2;rw[Sj,ha];simp only[Qm];rw[if_pos h2,h1]
section
variable {P:Program} {loc:List Nat} {σ:St} {d:Option Nat} {ty:TypeId} {pos:String} {aft:Array Edge} {g:Option (Nat×Bool)}
def alQ(t:TypeId)(r:Option Operand):cU P loc σ ⟨d,.makeMap t r,ty,pos,aft,g⟩=qj P σ t r:=rfl
def alN(t:TypeId)(x i:Operand)(ok:Bool):cU P loc σ ⟨d,.lookup t x i ok,ty,pos,aft,g⟩=pB P σ t x i ok:=rfl
def alS(t:TypeId)(x i y:Operand):cU P loc σ ⟨d,.mapUpdate t x i y,ty,pos,aft,g⟩=oG P σ t x i y:=rfl
def alK(t:TypeId)(x i y:Operand):cU P loc σ ⟨d,.insert t x i y,ty,pos,aft,g⟩=oG P σ t x i y:=rfl
def Xr(t:TypeId)(r:Option Operand):dP σ ⟨d,.makeMap t r,ty,pos,aft,g⟩=none:=rfl
def Xo(t:TypeId)(x i:Operand)(ok:Bool):dP σ ⟨d,.lookup t x i ok,ty,pos,aft,g⟩=none:=rfl
def Xt(t:TypeId)(x i y:Operand):dP σ ⟨d,.mapUpdate t x i y,ty,pos,aft,g⟩=none:=rfl
def Xm(t:TypeId)(x i y:Operand):dP σ ⟨d,.insert t x i y,ty,pos,aft,g⟩=none:=rfl
end
attribute [simp] alQ alN alS alK Xr Xo Xt Xm qj pB oG
end Go.Am
namespace Go.Am
open Go Go.RowKit
def V3{α:Type}{a b:Array α}(hs:a.size<=b.size)(h:∀i,i<a.size->b[i]? =a[i]?):b=a++b.extract a.size b.size:=by
 apply Array.ext';rw[Array.toList_append,Array.toList_extract];apply List.ext_getElem?;intro i;by_cases hi:i<a.size
 .rw[ji (by simpa using hi)];have:=h i hi;simpa using this
 .rw[iF (by simpa using Nat.le_of_not_lt hi)];simp only[List.extract,Array.length_toList,List.getElem?_take,List.getElem?_drop];rw[show a.size+(i-a.size)=i by omega];split
  .rfl
  .rw[iT];simp;omega
def al.grown{P:Program}{f:FuncId}{args:List Value}{post:Value->aa->Prop}{r:Value}(H:al P f args h0 post)(hp:∀v h',post v h'->v=r)(hr:cB r=true)(ha:∀v∈args,cB v=true)(W:World):
  Calls P f ⟨args⟩ W λe w'=>e= .returned r/\∃q os',w'=Sort.grow (W.drewN q) os':=by
 refine(H.2 rK W args (λ_=>rfl) (aci P W h0 rfl) ⟨rfl,λi v hi=>⟨v,hi,.gG (ha v (dE hi))⟩⟩).mono ?_;rintro e w' ⟨v,v',h',ρ',rfl,q,_,_,T,hv⟩;obtain rfl:=hp _ _ q;have hv:=hv.cB hr;subst hv;refine⟨rfl,w'.drawn-W.drawn,w'.heap.extract W.heap.size w'.heap.size,?_⟩;have hh:=V3 T.size (λi hi=>T.frame i hi (λ⟨b,pl,q,_⟩=>by simp[rK]at q));obtain⟨heap,tape,drawn,os,output⟩:=w';have h1:=T.os;have h2:=T.tape;have h3:=T.output;have h4:=T.drawn rfl;simp only at h1 h2 h3 h4 hh;subst h1;subst h2;subst h3;simp only[Sort.grow,World.drewN];congr 1;omega
def rS{P:Program}{ρ:aH}{h:aa}{w w':World}{b:Nat}{pl:Pl}{e:TypeId}{cs cs':List Value}(R:jw P ρ ⟨b8.nil,h⟩ w)(hk:ρ (false,b)=some pl)(hrow:h.f b= .row true e cs)(hl:cs'.length=cs.length)
  (os:w'.os=w.os) (tape:w'.tape=w.tape) (output:w'.output=w.output) (drawn:w.drawn<=w'.drawn) (size:w.heap.size<=w'.heap.size)
  (hother:∀B,B<w.heap.size->B≠pl.B->w'.heap[B]? =w.heap[B]?)
  (hcells:∀C e' fz,w.heap[pl.B]? =some (.cells C e' fz)->∃C',w'.heap[pl.B]? =some (.cells C' e' fz)/\C'.size=C.size/\∀(i:Nat)(v:Value),cs'[i]? =some v->∃v',C'[pl.o+i]? =some v'/\VR ρ v v'):
  jw P ρ ⟨b8.nil,h.set b (.row true e cs')⟩ w'/\Tr ρ h w ρ (h.set b (.row true e cs')) w':=by
 have hbn:=R.dX b pl hk;have hbound:=R.bound _ _ hk;have hf:∀b',b'≠b->(h.set b (.row true e cs')).f b'=h.f b':=λb' hb'=>by rw[fI,if_neg hb']
 have hfb:(h.set b (.row true e cs')).f b= .row true e cs':=by rw[fI,if_pos rfl]
 have hwr:Mem.wr ⟨b8.nil,h⟩ (false,b):=by simp[Mem.wr,aa.wr,hrow]
 have hlive:∀k,Mem.live ⟨b8.nil,h.set b (.row true e cs')⟩ k->Mem.live ⟨b8.nil,h⟩ k:=by
  rintro⟨t,b'⟩ hl;cases t with
  |true=>exact hl
  |false=>
   by_cases hb':b'=b
   .subst hb';simp[Mem.live,hrow]
   .simp only[Mem.live,hf b' hb']at hl;exact hl
 have hwr':∀k,Mem.wr ⟨b8.nil,h.set b (.row true e cs')⟩ k->Mem.wr ⟨b8.nil,h⟩ k:=by
  rintro⟨t,b'⟩ hl;cases t with
  |true=>exact hl
  |false=>
   by_cases hb':b'=b
   .subst hb';exact hwr
   .simp only[Mem.wr,aa.wr,hf b' hb']at hl;exact hl
 have hsame:∀k pl',k≠(false,b)->ρ k=some pl'->Mem.live ⟨b8.nil,h⟩ k->w'.heap[pl'.B]? =w.heap[pl'.B]? :=λk pl' hne q hlv=>
  hother _ (R.bound _ _ q) (λe=>R.sep (false,b) k pl pl' (Ne.symm hne) hk q hwr hlv e.symm)
 refine⟨⟨λk pl' q=>cV (R.bound k pl' q) size,λb' pl' q=>by rw[PF];exact R.dX b' pl' q,?_,?_,λk k' p p' hne q q' hw hlv=>R.sep k k' p p' hne q q' (hwr' k hw) (hlive k' hlv),λi hi=>R.ki i hi⟩,?_⟩
 .intro k pl' wr e1 cs1 q hr;by_cases hkb:k=(false,b)
  .subst hkb;rw[hk]at q;obtain rfl:=bU q;simp only[Mem.row?,hfb,av,bM]at hr;obtain⟨rfl,rfl,rfl⟩:=hr;obtain⟨C,e',fz,c1,c2,c3,c4,c5,c6⟩:=R.row (false,b) pl true e cs hk (by simp[Mem.row?,hrow]);obtain⟨C',d1,d2,d3⟩:=hcells C e' fz c1;exact⟨C',e',fz,d1,c2,by omega,by omega,c5,d3⟩
  .have hr':Mem.row? ⟨b8.nil,h⟩ k=some (wr,e1,cs1):=by
    obtain⟨t,b'⟩:=k;cases t with
    |true=>exact hr
    |false=>
     have:b'≠b:=λe=>hkb (by rw[e]);simp only[Mem.row?,hf b' this]at hr;exact hr
   obtain⟨C,e',fz,c1,c2⟩:=R.row k pl' wr e1 cs1 q hr'
   have hlv:Mem.live ⟨b8.nil,h⟩ k:=by
    obtain⟨t,b'⟩:=k;cases t with
    |true=>simp[Mem.row?,b8.nil,b8.look]at hr'
    |false=>
     simp only[Mem.row?]at hr';simp only[Mem.live];split at hr'
     .rename_i hx;simp[hx]
     .simp at hr'
   exact⟨C,e',fz,by rw[hsame k pl' hkb q hlv];exact c1,c2⟩
 .intro b' pl' o q ho;by_cases hb':b'=b
  .subst hb';rw[hfb]at ho;cases ho
  .rw[hf b' hb']at ho;obtain⟨c1,c2⟩:=R.obj b' pl' o q ho;exact⟨by rw[hsame (false,b') pl' (by simpa using hb') q (by simp[Mem.live,ho])];exact c1,c2⟩
 .refine⟨os,tape,output,λ_=>drawn,size,λ_ _ q=>q,aX _,rfl,λb' pl' q q'=>(by rw[q]at q';cases q'),λb' hb' hd=>?_,λb' hb' hw=>?_,λB hB hO=>hother B hB (λe=>hO ⟨b,pl,hk,e.symm,by simp[aa.wr,hrow]⟩)⟩
  .by_cases e:b'=b
   .subst e;rw[hrow];simp
   .rwa[hf b' e]at hd
  .by_cases e:b'=b
   .subst e;simp[aa.wr,hrow]
   .simp only[aa.wr,hf b' e]at hw;exact hw
end Go.Am
namespace Go.Am
open Go
structure Wk(h h':aa):Prop where
 n:h'.n=h.n
 g:h'.g=h.g
 f:∀b,h'.f b=h.f b∨∃e cs,h.f b= .row true e cs/\h'.f b= .row false e cs
def Wk.refl(h:aa):Wk h h:=⟨rfl,rfl,λ_=>.inl rfl⟩
def Wk.trans{h h' h'':aa}(a:Wk h h')(b:Wk h' h''):Wk h h'':=by
 refine⟨b.n.trans a.n,b.g.trans a.g,λi=>?_⟩;rcases a.f i with q|⟨e,cs,q1,q2⟩
 .rcases b.f i with p|⟨e,cs,p1,p2⟩
  .exact .inl (p.trans q)
  .exact .inr ⟨e,cs,by rw[<-q];exact p1,p2⟩
 .rcases b.f i with p|⟨e',cs',p1,p2⟩
  .exact .inr ⟨e,cs,q1,p.trans q2⟩
  .rw[q2]at p1;cases p1
def Wk.wr{h h':aa}(W:Wk h h'){b:Nat}(q:h'.wr b):h.wr b:=by
 rcases W.f b with e|⟨e,cs,q1,q2⟩
 .unfold aa.wr at q ⊢;rwa[e]at q
 .unfold aa.wr;rw[q1]
def Wk.live{h h':aa}(W:Wk h h'){b:Nat}:h'.f b≠.dead↔h.f b≠.dead:=by
 rcases W.f b with e|⟨e,cs,q1,q2⟩
 .rw[e]
 .rw[q1,q2];simp
def Wk.acj{h h':aa}(W:Wk h h'){k:Key}(q:(Mem.mk b8.nil h').wr k):(Mem.mk b8.nil h).wr k:=by
 obtain⟨t,b⟩:=k;cases t with
 |true=>exact q
 |false=>exact W.wr q
def Wk.ab8{h h':aa}(W:Wk h h'){k:Key}(q:(Mem.mk b8.nil h').live k):(Mem.mk b8.nil h).live k:=by
 obtain⟨t,b⟩:=k;cases t with
 |true=>exact q
 |false=>exact W.live.1 q
variable {P:Program} {ρ ρ':aH} {w w':World}
def Wk.rel{h h':aa}(W:Wk h h')(R:jw P ρ ⟨b8.nil,h⟩ w):jw P ρ ⟨b8.nil,h'⟩ w:=by
 refine⟨R.bound,λb pl q=>by show b<h'.n;rw[W.n];exact R.dX b pl q,?_,?_,λk k' pl pl' hne q q' hw hl=>R.sep k k' pl pl' hne q q' (W.acj hw) (W.ab8 hl),λi hi=>R.ki i (by show i<h.g;rw[<-W.g];exact hi)⟩
 .rintro⟨t,b⟩ pl wr e cs q r;cases t with
  |true=>simp[Mem.row?,b8.nil,b8.look]at r
  |false=>
   rcases W.f b with p|⟨e1,cs1,p1,p2⟩
   .refine R.row (false,b) pl wr e cs q ?_;simp only[Mem.row?]at r ⊢;rwa[p]at r
   .simp only[Mem.row?,p2,av,bM]at r;obtain⟨rfl,rfl,rfl⟩:=r;obtain⟨C,e',fz,c1,c2,c3,c4,c5,c6⟩:=R.row (false,b) pl true e1 cs1 q (by simp[Mem.row?,p1]);exact⟨C,e',fz,c1,λz=>(by cases z),c3,c4,c5,c6⟩
 .intro b pl o q r;rcases W.f b with p|⟨e1,cs1,p1,p2⟩
  .exact R.obj b pl o q (by show h.f b=_;rw[<-p];exact r)
  .simp only[p2]at r;cases r
def Wk.tr{h0 h h':aa}(W:Wk h h')(T:Tr ρ h0 w ρ' h w'):Tr ρ h0 w ρ' h' w':=
 ⟨T.os,T.tape,T.output,T.drawn,T.size,T.ext,by rw[W.n];exact T.hn,by rw[W.g];exact T.hg,λb pl q q'=>⟨(T.new b pl q q').1,λz=>(T.new b pl q q').2 (W.live.1 z)⟩,
  λb hb z=>T.dead b hb (W.live.1 z),λb hb z=>T.mi b hb (W.wr z),T.frame⟩
def al.jM{f:FuncId}{args:List Value}{h:aa}{post post':Value->aa->Prop}(H:al P f args h post)(hp:∀v h',post v h'->∃h'',Wk h' h''/\post' v h''):al P f args h post':=by
 refine⟨H.1,λρ w args' hb R V=>(H.2 ρ w args' hb R V).mono ?_⟩;rintro e w' ⟨v,v',h',ρ',q1,q2,q3,q4,q5,q6⟩;obtain⟨h'',W,q⟩:=hp v h' q2;exact⟨v,v',h'',ρ',q1,q,q3,W.rel q4,W.tr q5,q6⟩
def aW.dG:aW->aW
 | .row _ e cs=>.row false e cs
 |x=>x
def aa.dG(h:aa)(b:Nat):aa:=h.set b (h.f b).dG
def aa.pX(h:aa)(b:Nat):Wk h (h.dG b):=by
 refine⟨rfl,rfl,λi=>?_⟩;unfold aa.dG;rw[fI];split
 .rename_i e;subst e;cases q:h.f i with
  |dead=>exact .inl rfl
  |row w e cs=>cases w with
   |true=>exact .inr ⟨e,cs,rfl,rfl⟩
   |false=>exact .inl rfl
  |obj o=>exact .inl rfl
 .exact .inl rfl
structure cX(S:List Nat)(h h':aa):Prop where
 g:h'.g=h.g
 n:h.n<=h'.n
 f:∀b,b<h.n->b∉S->h'.f b=h.f b
def cX.fP{S:List Nat}{h h':aa}(E:Ext h h'):cX S h h':=⟨E.g,E.n,λb hb _=>E.f b hb⟩
def cX.bJ(S:List Nat)(h:aa):cX S h h:=⟨rfl,aX _,λ_ _ _=>rfl⟩
def cX.mono{S S':List Nat}{h h':aa}(C:cX S h h')(hs:∀b∈S,b<h.n->b∈S'):cX S' h h':=⟨C.g,C.n,λb hb q=>C.f b hb (λz=>q (hs b z hb))⟩
def cX.trans{S S':List Nat}{h h' h'':aa}(a:cX S h h')(b:cX S' h' h'')(hs:∀i∈S',i<h.n->i∈S):cX S h h'':=
 ⟨b.g.trans a.g,eY a.n b.n,λi hi q=>(b.f i (cV hi a.n) (λz=>q (hs i z hi))).trans (a.f i hi q)⟩
def cX.wk{S:List Nat}{h h' h'':aa}(a:cX S h h')(W:Wk h' h'')(hs:∀b,b<h.n->b∉S->h''.f b=h'.f b):cX S h h'':=
 ⟨W.g.trans a.g,by rw[W.n];exact a.n,λb hb q=>(hs b hb q).trans (a.f b hb q)⟩
def Ext.dG{h h':aa}(E:Ext h h'){b:Nat}(hb:h.n<=b):Ext h (h'.dG b):=E.dp hb _
def gZ(S:List Nat)(h:aa):Prop:=∀b∈S,∃e cs,h.f b= .row true e cs
def gZ.nil(h:aa):gZ [] h:=λb q=>by cases q
def gZ.cons{S:List Nat}{h:aa}{b:Nat}{e:TypeId}{cs:List Value}(q:h.f b= .row true e cs)(H:gZ S h):gZ (b::S) h:=by
 intro i hi;rcases cJ.1 hi with z|z
 .subst z;exact⟨e,cs,q⟩
 .exact H i z
def cX.obj{S:List Nat}{h h':aa}(C:cX S h h')(hs:gZ S h){b:Nat}{o:Obj}(hb:h.f b= .obj o)(hn:b<h.n):h'.f b= .obj o:=by
 rw[C.f b hn (λz=>by obtain⟨e,cs,q⟩:=hs b z;rw[hb]at q;cases q),hb]
section
variable {α:Type}
def aL(e:TypeId)(enc:α->List Value)(h:aa)(v:Value)(xs:List α):Prop:=∃ad c,v= .slice ad xs.length c/\(ad=none->c=0)/\
 (xs=[]∨∃b off cells rest,ad=some ⟨b,off,none⟩/\h.f b= .row false e cells/\cells.drop off=xs.flatMap enc++rest/\off<=cells.length/\b<h.n)
variable {e:TypeId} {enc:α->List Value} {h0 h h':aa} {v:Value} {xs:List α}
def aL.sl(H:aL e enc h v xs):dt e enc h v xs:=by
 obtain⟨ad,c,q,n,z⟩:=H;refine⟨ad,c,q,n,?_⟩;rcases z with z|⟨b,off,cells,rest,z1,z2,z3,z4,z5⟩
 .exact .inl z
 .exact .inr ⟨b,off,false,cells,rest,z1,z2,z3,z4,z5⟩
def aL.nil:aL e enc h (.slice none 0 0) []:=⟨none,0,rfl,λ_=>rfl,.inl rfl⟩
def aL.shape(H:aL e enc h v xs):∃ad c,v= .slice ad xs.length c:=by obtain⟨ad,c,q,_⟩:=H;exact⟨ad,c,q⟩
def aL.ext(H:aL e enc h v xs)(E:Ext h h'):aL e enc h' v xs:=by
 obtain⟨ad,c,q,n,z⟩:=H;refine⟨ad,c,q,n,?_⟩;rcases z with z|⟨b,off,cells,rest,z1,z2,z3,z4,z5⟩
 .exact .inl z
 .exact .inr ⟨b,off,cells,rest,z1,by rw[E.f b z5,z2],z3,z4,cV z5 E.n⟩
def aL.er(H:aL e enc h v xs){S:List Nat}(C:cX S h h')(hs:gZ S h):aL e enc h' v xs:=by
 obtain⟨ad,c,q,n,z⟩:=H;refine⟨ad,c,q,n,?_⟩;rcases z with z|⟨b,off,cells,rest,z1,z2,z3,z4,z5⟩
 .exact .inl z
 .refine .inr ⟨b,off,cells,rest,z1,?_,z3,z4,cV z5 C.n⟩;rw[C.f b z5 (λz=>?_),z2];obtain⟨e1,cs,q⟩:=hs b z;rw[z2]at q;cases q
def aL.wk(H:aL e enc h v xs)(W:Wk h h'):aL e enc h' v xs:=by
 obtain⟨ad,c,q,n,z⟩:=H;refine⟨ad,c,q,n,?_⟩;rcases z with z|⟨b,off,cells,rest,z1,z2,z3,z4,z5⟩
 .exact .inl z
 .refine .inr ⟨b,off,cells,rest,z1,?_,z3,z4,by rw[W.n];exact z5⟩;rcases W.f b with q|⟨e1,cs,q,_⟩
  .rw[q,z2]
  .rw[z2]at q;cases q
def dt.dG(H:dt e enc h v xs):∃h',Wk h h'/\aL e enc h' v xs/\(∀b,h'.f b≠h.f b->v= .slice (some ⟨b,(match v with| .slice (some ad) _ _=>ad.off|_=>0),none⟩) xs.length (match v with| .slice _ _ c=>c|_=>0)):=by
 obtain⟨ad,c,rfl,n,z⟩:=H;rcases z with z|⟨b,off,w,cells,rest,rfl,z2,z3,z4,z5⟩
 .exact⟨h,Wk.refl h,⟨ad,c,rfl,n,.inl z⟩,λb q=>absurd rfl q⟩
 .refine⟨h.dG b,h.pX b,⟨_,c,rfl,n,.inr ⟨b,off,cells,rest,rfl,?_,z3,z4,z5⟩⟩,λb' q=>?_⟩
  .unfold aa.dG;rw[fI,if_pos rfl,z2];rfl
  .unfold aa.dG at q;rw[fI]at q;split at q
   .rename_i e1;subst e1;rfl
   .exact absurd rfl q
def cO.dG(H:cO e enc h0 h v xs)(E:Ext h0 h):∃h',Wk h h'/\Ext h0 h'/\aL e enc h' v xs:=by
 obtain⟨ad,rfl,z⟩:=H;rcases z with⟨rfl,rfl⟩|⟨b,rfl,z2,z3,z4⟩
 .exact⟨h,Wk.refl h,E,aL.nil⟩
 .refine⟨h.dG b,h.pX b,E.dG z3,⟨_,_,rfl,λq=>(by cases q),.inr ⟨b,0,xs.flatMap enc,[],rfl,?_,by simp,by simp,z4⟩⟩⟩;unfold aa.dG;rw[fI,if_pos rfl,z2];rfl
def aL.at(k:Nat)(hk:∀x,(enc x).length=k){ad:Option Addr}{n c:Nat}(H:aL e enc h (.slice ad n c) xs){i:Nat}{t:α}(hi:xs[i]? =some t):
  n=xs.length/\∃b off cells rest,ad=some ⟨b,off,none⟩/\h.f b= .row false e cells/\cells.drop (off+i*k)=enc t++rest/\off+i*k+k<=cells.length/\b<h.n:=by
 have hf:=H;obtain⟨ad',c',q,_,z⟩:=hf;obtain⟨h1,b,off,w,cells,rest,h2,h3,h4,h5,h6⟩:=H.sl.at k hk hi;refine⟨h1,b,off,cells,rest,h2,?_,h4,h5,h6⟩;simp only[Value.slice.injEq]at q;obtain⟨rfl,rfl,rfl⟩:=q;rcases z with rfl|⟨b',off',cells',rest',z1,z2,z3,z4,z5⟩
 .simp at hi
 .rw[h2]at z1;simp only[av,Addr.mk.injEq,and_true]at z1;obtain⟨rfl,rfl⟩:=z1;rw[h3]at z2;simp only[aW.row.injEq]at z2;rw[h3,z2.1]
end
end Go.Am
namespace Go.Proofs.Ybk.F
open Go Go.Am Go.RowKit
def im:PP=Tryz.prog:=by unfold PP;rfl
section
variable {P:Program} {ρ:aH} {h:aa} {w w':World} {m:Mem}
def ajH(R:jw P ρ m w)(size:w.heap.size<=w'.heap.size)(same:∀B,B<w.heap.size->w'.heap[B]? =w.heap[B]?):jw P ρ m w':=
 ⟨λk pl q=>cV (R.bound k pl q) size,R.dX,λk pl wr e cs q r=>by rw[same _ (R.bound k pl q)];exact R.row k pl wr e cs q r,
  λb pl o q r=>by rw[same _ (R.bound _ pl q)];exact R.obj b pl o q r,R.sep,R.ki⟩
def anl(hb:Below w.heap.size w w')(hg:h.g≠0):Tr ρ h w ρ h w':=
 ⟨hb.os,hb.tape,hb.output,λe=>absurd e hg,hb.size,λ_ _ q=>q,aX _,rfl,λb pl q q'=>(by rw[q]at q';cases q'),λ_ _ q=>q,λ_ _ q=>q,λB hB _=>hb.block B hB⟩
def zN{f:FuncId}{args:List Value}{post:Value->Prop}(hE:zD P f)(hg:h.g≠0)
  (H:∀(ρ:aH)(w:World)(args':List Value),jw P ρ ⟨b8.nil,h⟩ w->mX ρ args args'->Calls P f ⟨args'⟩ w λe w'=>∃v,e= .returned v/\cB v=true/\post v/\Below w.heap.size w w'):
  al P f args h (λv h'=>h'=h/\post v):=by
 refine⟨hE,λρ w args' hb R V=>(H ρ w args' R V).mono ?_⟩;rintro e w' ⟨v,rfl,hf,hp,bel⟩;exact⟨v,v,h,ρ,rfl,⟨rfl,hp⟩,hb,ajH R bel.size bel.block,anl bel hg,.gG hf⟩
def Wc(w:World)(n:Nat)(os:Array Obj):Below w.heap.size w (Sort.grow (w.drewN n) os):=by
 refine⟨rfl,rfl,rfl,?_,λk hk=>?_⟩
 .show w.heap.size<=(w.heap++os).size;simp
 .show(w.heap++os)[k]? =_;rw[Array.getElem?_append_left hk]
end
def cC(h:aa):Prop:=h.g=3/\3<=h.n/\(∃t f,h.f 0= .obj (.cells #[.iface 316 (.agg #[.pointer (some ⟨5,110,none⟩)])] t f))/\
 (∃t f,h.f 2= .obj (.cells (Lib.pow10Tab.map λz=>Value.int .u64 z).toArray t f))
def cC.ext{h h':aa}(G:cC h)(E:Ext h h'):cC h':=by
 obtain⟨g1,g2,⟨t0,f0,g3⟩,⟨t1,f1,g4⟩⟩:=G;exact⟨by rw[E.g];exact g1,eY g2 E.n,⟨t0,f0,by rw[E.f 0 (by omega)];exact g3⟩,⟨t1,f1,by rw[E.f 2 (by omega)];exact g4⟩⟩
def cC.ne{h:aa}(G:cC h):h.g≠0:=by rw[G.1];decide
def cC.aaf{h:aa}{ρ:aH}{w:World}(G:cC h)(R:jw PP ρ ⟨b8.nil,h⟩ w):w.cell? ⟨0,0,none⟩=some (.iface 316 (.agg #[.pointer (some ⟨5,110,none⟩)])):=by
 obtain⟨g1,g2,⟨t0,f0,g3⟩,_⟩:=G;obtain⟨pl,q1,q2,q3⟩:=R.ki 0 (by show 0<h.g;omega);obtain⟨r1,_⟩:=R.obj 0 pl _ q1 g3;replace r1:=r1.plain rfl;rw[q2]at r1;simp[World.cell?,r1]
def cC.Cr{h:aa}{ρ:aH}{w:World}(G:cC h)(R:jw PP ρ ⟨b8.nil,h⟩ w):Lib.TabIs Tryz.prog w "internal/strconv.uint64pow10" .u64 Lib.pow10Tab:=by
 obtain⟨g1,g2,_,⟨t1,f1,g4⟩⟩:=G;obtain⟨pl,q1,q2,q3⟩:=R.ki 2 (by show 2<h.g;omega);obtain⟨r1,_⟩:=R.obj 2 pl _ q1 g4;replace r1:=r1.plain rfl;rw[q2]at r1;unfold Lib.TabIs World.var?;have:Tryz.prog.globalNamed "internal/strconv.uint64pow10"=some 2:=by kernel_rfl
 rw[this];simp only[ep,r1]
def aaI(n:Int)(hn: -9223372036854775808<=n/\n<=9223372036854775807)(h:aa)(G:cC h):al PP 126 [.int .i64 n] h (λv h'=>h'=h/\v= .string (B (Lib.itoa n))):=by
 refine zN ⟨Tryz.f126,by rw[im];exact Tryz.func126,by kernel_rfl,by kernel_rfl⟩ G.ne λρ w args' R V=>?_;have hargs:args'=[.int .i64 n]:=by
  obtain⟨v0,hv0,V0⟩:=V.2 0 _ rfl;have:=V.1;match args',hv0,this with
  |[p],h0,_=>simp at h0;rw[h0,V0.dz rfl]
 subst hargs;have htab:=G.Cr R;rw[im];refine(Any.strconv_Itoa Tryz.itoa n hn.1 hn.2 w htab).mono ?_;rintro e w' ⟨rfl,k,os,rfl⟩;exact⟨_,rfl,rfl,rfl,Wc w k os⟩
def bP{α:Type}(e:TypeId)(enc:α->List Value)(h0 h:aa)(o:Option Nat)(xs:List α)(v:Value):Prop:=
 v= .slice (o.map λb=>⟨b,0,none⟩) xs.length xs.length/\(match o with
  |none=>xs=[]
  |some b=>h.f b= .row true e (xs.flatMap enc)/\h0.n<=b/\b<h.n)
def bP.own{α:Type}{e:TypeId}{enc:α->List Value}{h0 h:aa}{o:Option Nat}{xs:List α}{v:Value}(H:bP e enc h0 h o xs v):cO e enc h0 h v xs:=by
 obtain⟨rfl,z⟩:=H;cases o with
 |none=>exact⟨none,rfl,.inl ⟨rfl,z⟩⟩
 |some b=>exact⟨_,rfl,.inr ⟨b,rfl,z.1,z.2.1,z.2.2⟩⟩
def bP.ext{α:Type}{e:TypeId}{enc:α->List Value}{h0 h h':aa}{o:Option Nat}{xs:List α}{v:Value}(H:bP e enc h0 h o xs v)(E:Ext h h'):bP e enc h0 h' o xs v:=by
 obtain⟨rfl,z⟩:=H;refine⟨rfl,?_⟩;cases o with
 |none=>exact z
 |some b=>exact⟨by rw[E.f b z.2.2];exact z.1,z.2.1,cV z.2.2 E.n⟩
def bP.nR{α:Type}{e:TypeId}{enc:α->List Value}{h0 h:aa}{o:Option Nat}{xs:List α}{v:Value}(H:bP e enc h0 h o xs v){b:Nat}(c:aW)(hb:o≠some b):bP e enc h0 (h.set b c) o xs v:=by
 obtain⟨rfl,z⟩:=H;refine⟨rfl,?_⟩;cases o with
 |none=>exact z
 |some b'=>exact⟨by rw[fI,if_neg (λq=>hb (by rw[q]))];exact z.1,z.2.1,z.2.2⟩
def bP.lt{α:Type}{e:TypeId}{enc:α->List Value}{h0 h:aa}{o:Option Nat}{xs:List α}{v:Value}(H:bP e enc h0 h o xs v){m:Nat}(hm:h.n<=m):o≠some m:=by
 intro q;subst q;have:=H.2.2.2;omega
def bP.nil{α:Type}{e:TypeId}{enc:α->List Value}{h0 h:aa}:bP e enc h0 h none ([]:List α) (.slice none 0 0):=⟨rfl,rfl⟩
def bP.keep{α:Type}{e:TypeId}{enc:α->List Value}{h0 h:aa}{o:Option Nat}{xs:List α}{v:Value}(H:bP e enc h0 h o xs v){b:Nat}(c0 c1:aW)(hb:o≠some b):bP e enc h0 (((h.new c0).set b .dead).new c1) o xs v:=
 ((H.ext (Ext.new _ _)).nR _ hb).ext (Ext.new _ _)
def bP.push{α:Type}{e:TypeId}{enc:α->List Value}{h0 h:aa}{b:Nat}{xs:List α}{v:Value}(H:bP e enc h0 h (some b) xs v)(c0:aW)(x:α){cells:List Value}(hc:cells=(xs++[x]).flatMap enc):
  bP e enc h0 (((h.new c0).set b .dead).new (.row true e cells)) (some (h.n+1)) (xs++[x]) (.slice (some ⟨h.n+1,0,none⟩) (xs.length+1) (xs.length+1)):=by
 obtain⟨_,_,h1,h2⟩:=H;refine⟨by simp,?_,?_,?_⟩
 .simp[hc]
 .omega
 .simp
def bP.yT{α:Type}{e:TypeId}{enc:α->List Value}{h0 h:aa}(hn:h0.n<=h.n)(c0:aW)(x:α){cells:List Value}(hc:cells=enc x):
  bP e enc h0 ((h.new c0).new (.row true e cells)) (some (h.n+1)) [x] (.slice (some ⟨h.n+1,0,none⟩) 1 1):=by
 refine⟨by simp,?_,?_,?_⟩
 .simp[hc]
 .omega
 .simp
def mc(l:List UInt8):List Value:=[.string (B l)]
def al8(xs:List (List UInt8)):xs.flatMap mc=xs.map λl=>Value.string (B l):=by
 induction xs with
 |nil=>rfl
 |cons a r ih=>rw[ic,ih];rfl
def aaN(v:Value)(xs:List (List UInt8))(sep:List UInt8)(hl:xs.length<=1000000)(hj:(Lib.join xs sep).length<=140737488355328)(h0 h:aa)(G:cC h)(o:Option Nat)(H:bP 9 mc h0 h o xs v):
  al PP 87 [v,.string (B sep)] h (λr h'=>h'=h/\r= .string (B (Lib.join xs sep))):=by
 refine zN ⟨Tryz.f87,by rw[im];exact Tryz.func87,by kernel_rfl,by kernel_rfl⟩ G.ne λρ w args' R V=>?_;obtain⟨v0,hv0,V0⟩:=V.2 0 _ rfl;obtain⟨v1,hv1,V1⟩:=V.2 1 _ rfl;have e1:v1= .string (B sep):=V1.dz rfl;subst e1;have hargs:args'=[v0,.string (B sep)]:=by
  have:=V.1;match args',hv0,hv1,this with
  |[p,q],h0,h1,_=>simp at h0 h1;rw[h0,h1]
 subst hargs;obtain⟨rfl,ho⟩:=H;have em:(xs.map B).map (λx:ByteArray=>x.data.toList)=xs:=by
  rw[vx];exact(List.map_congr_left (λa _=>rfl)).trans (List.map_id _)
 rw[im];cases o with
 |none=>
  simp only at ho;subst ho;cases V0;refine(Any.strings_Join_none Tryz.join Tryz.AU none 0 (B sep) w).mono ?_;rintro e w' ⟨rfl,rfl⟩;exact⟨_,rfl,rfl,rfl,Below.refl _ _⟩
 |some b=>
  simp only at ho;obtain⟨hb,bD,bN⟩:=ho;rcases V0.nS with⟨a',e,rfl⟩|⟨b',off,pl,cap,e,hk,hc,hn',rfl⟩
  .have hx:xs=[]:=mY.1 e;subst hx;refine(Any.strings_Join_none Tryz.join Tryz.AU (some a') 0 (B sep) w).mono ?_;rintro e w' ⟨rfl,rfl⟩;exact⟨_,rfl,rfl,rfl,Below.refl _ _⟩
  .simp only[Addr.mk.injEq,and_true]at e;obtain⟨rfl,rfl⟩:=e;obtain⟨C,e',fz,c1,c2,c3,c4,c5,c6⟩:=R.row (false,b) pl true 9 (xs.flatMap mc) hk (by simp[Mem.row?,hb]);have hcells:∀(j:Nat)x,(xs.map B)[j]? =some x->w.cell? ⟨pl.B,pl.o+0+j,none⟩=some (.string x):=by
    intro j x hx;rw[fx]at hx;cases hxj:xs[j]? with
    |none=>rw[hxj]at hx;cases hx
    |some l=>
     rw[hxj]at hx;simp only[fV,av]at hx;subst hx;obtain⟨v',q1,q2⟩:=c6 j (.string (B l)) (by rw[al8,fx,hxj];rfl);rw[q2.dz rfl]at q1;unfold World.cell?;simp only[c1,Option.isSome_none];simpa using q1
   have hbound:=R.bound _ _ hk;have hj':(Lib.join ((xs.map B).map (·.data.toList)) (B sep).data.toList).length<=140737488355328:=(by rw[em];exact hj);have:=Any.strings_Join Tryz.join Tryz.AU pl.B (pl.o+0) cap (xs.map B) (B sep) w hcells hbound (by rw[cf];omega) (by rw[cf];exact hc) hj';rw[cf,em]at this;refine this.mono ?_;rintro e w' ⟨rfl,bel⟩;exact⟨_,rfl,rfl,rfl,bel⟩
structure FR where
 code:Int
 line:Int
 aj:Int
deriving DecidableEq
inductive fb(h:aa)(n:Nat):Value->List FR->Prop
 |nil:fb h n .nilIface []
 |cons (b:Nat) (f:FR) (E:Value) (l:List FR):h.f b= .row true 223 [.int .i64 f.code,.int .i64 f.line,.int .i64 f.aj,E]->b<n->fb h n E l->fb h n (.iface 207 (.pointer (some ⟨b,0,none⟩))) (f::l)
def fb.up{h h':aa}{n n':Nat}{E:Value}{l:List FR}(H:fb h n E l)(hn:n<=n')(hf:∀b,b<n->h'.f b=h.f b):fb h' n' E l:=by
 induction H with
 |nil=>exact .nil
 |cons b f E l h1 h2 _ ih=>exact .cons b f E l (by rw[hf b h2];exact h1) (by omega) ih
def fb.ext{h h':aa}{E:Value}{l:List FR}(H:fb h h.n E l)(X:Ext h h'):fb h' h'.n E l:=H.up X.n X.f
def Dc(tv:Value)(h:aa)(G:cC h):al PP 147 [.nilIface,tv] h (λv h'=>h'=h/\v= .bool false):=by
 refine zN ⟨Tryz.f147,by rw[im];exact Tryz.func147,by kernel_rfl,by kernel_rfl⟩ G.ne λρ w args' R V=>?_;obtain⟨v0,hv0,V0⟩:=V.2 0 _ rfl;obtain⟨v1,hv1,V1⟩:=V.2 1 _ rfl;have e0:v0= .nilIface:=V0.dz rfl;subst e0;have hargs:args'=[.nilIface,v1]:=by
  have:=V.1;match args',hv0,hv1,this with
  |[p,q],h0,h1,_=>simp at h0 h1;rw[h0,h1]
 subst hargs;rw[im];refine(V5 v1 w).mono ?_;rintro e w' ⟨rfl,rfl⟩;exact⟨_,rfl,rfl,rfl,Below.refl _ _⟩
def Db(b t:Nat)(old:Value)(h:aa)(G:cC h)(ht:h.f t= .row true 207 [old]):
  al PP 147 [.iface 207 (.pointer (some ⟨b,0,none⟩)),.iface 209 (.pointer (some ⟨t,0,none⟩))] h (λv h'=>v= .bool true/\h'=h.set t (.row true 207 [.pointer (some ⟨b,0,none⟩)])):=by
 refine⟨⟨Tryz.f147,by rw[im];exact Tryz.func147,by kernel_rfl,by kernel_rfl⟩,λρ w args' hbx R V=>?_⟩;obtain⟨v0,hv0,V0⟩:=V.2 0 _ rfl;obtain⟨v1,hv1,V1⟩:=V.2 1 _ rfl;have hargs:args'=[v0,v1]:=by
  have:=V.1;match args',hv0,hv1,this with
  |[p,q],h0,h1,_=>simp at h0 h1;rw[h0,h1]
 subst hargs;cases V0 with
 |iface _ _ u0 V0=>
 cases V1 with
 |iface _ _ u1 V1=>
 have V0':=V0;cases V0 with
 |ptr _ _ plb hkb=>
 cases V1 with
 |ptr _ _ plt hkt=>
 obtain⟨C,e',fz,c1,c2,c3,c4,c5,c6⟩:=R.row (false,t) plt true 207 [old] hkt (by simp[Mem.row?,ht]);obtain rfl:=c2 rfl;obtain⟨old',o1,o2⟩:=c6 0 old rfl;have hbt:=R.bound _ _ hkt;have ht0:w.cell? ⟨plt.B,plt.o+0,none⟩=some old':=by
  unfold World.cell?;simp only[c1,Option.isSome_none];simpa using o1
 have hf0:w.frozen? ⟨plt.B,plt.o+0,none⟩=false:=by
  unfold World.frozen?;simp only[c1];simp
 have hg:=G.aaf R;have key:=V4 ⟨plb.B,plb.o+0,none⟩ ⟨plt.B,plt.o+0,none⟩ old' w hg ht0 hf0;rw[<-im]at key;refine key.mono ?_;rintro e w' ⟨rfl,hw⟩;have hpush:∀(B:Nat)(o1 o2 o3 o4:Obj),B<w.heap.size->((((w.heap.push o1).push o2).push o3).push o4)[B]? =w.heap[B]? :=by
  intro B o1 o2 o3 o4 hB;rw[Array.getElem?_push,if_neg (by simp;omega),Array.getElem?_push,if_neg (by simp;omega),Array.getElem?_push,if_neg (by simp;omega),Array.getElem?_push,if_neg (by omega)]
 obtain⟨q1,q2⟩:=rS (w':=w') R hkt ht (cs':=[.pointer (some ⟨b,0,none⟩)]) rfl (by rw[hw];rfl) (by rw[hw];rfl) (by rw[hw];rfl) (by rw[hw];exact aX _)
  (by rw[hw];simp only[World.setCell,World.alloc,Array.size_modify,Array.size_push];omega)
  (λB hB hne=>by
   rw[hw];simp only[World.setCell,World.alloc];rw[Array.getElem?_modify,if_neg (Ne.symm hne),hpush B _ _ _ _ hB])
  (λC2 e2 fz2 hC2=>by
   rw[c1]at hC2;simp only[av,Obj.cells.injEq]at hC2;obtain⟨rfl,rfl,rfl⟩:=hC2;refine⟨C.setIfInBounds (plt.o+0) (.pointer (some ⟨plb.B,plb.o+0,none⟩)),?_,by simp,λi v hi=>?_⟩
   .rw[hw];simp only[World.setCell,World.alloc];rw[Array.getElem?_modify,if_pos rfl,hpush plt.B _ _ _ _ hbt,c1];rfl
   .cases i with
    |succ i=>simp at hi
    |zero=>
     simp at hi;subst hi;have hlt:plt.o<C.size:=by
      rcases Nat.lt_or_ge plt.o C.size with z|z
      .exact z
      .rw[ie,Array.getElem?_eq_none z]at o1;cases o1
     exact⟨_,by simp[hlt],V0'⟩)
 exact⟨.bool true,.bool true,_,ρ,rfl,⟨rfl,rfl⟩,hbx,q1,q2,.bool true⟩
end Go.Proofs.Ybk.F
namespace Go.Am
open Go Go.RowKit
def uY(g:Nat):aH:=λk=>match k with
 |(false,i)=>if i<g then some ⟨i,0,0,0⟩else none
 |(true,_)=>none
def hN(g:Nat)(os:Nat->Obj):aa:=⟨g,g,λb=>if b<g then .obj (os b)else .dead⟩
def tz{g:Nat}{k:Key}{pl:Pl}(h:uY g k=some pl):∃i,i<g/\k=(false,i)/\pl=⟨i,0,0,0⟩:=by
 obtain⟨t,i⟩:=k;cases t with
 |true=>simp[uY]at h
 |false=>
  simp only[uY]at h;split at h
  .exact⟨i,by assumption,rfl,(bU h).symm⟩
  .cases h
structure rV(P:Program)(g:Nat)(lay:Nat->Bool)(w:World)(ρ:aH)(h:aa):Prop where
 box:∀s,ρ (true,s)=none
 rel:jw P ρ ⟨b8.nil,h⟩ w
 gl:h.g=g
 own:∀B,qM ρ h B->B<g/\lay B=true
 Dd:∀i,i<g->lay i=true->ρ (false,i)=some ⟨i,0,0,0⟩/\i<h.n/\∃o,rF o=true/\h.f i= .obj o/\w.heap[i]? =some o
 no:∀i,i<g->lay i=true->∀C t f,w.heap[i]? =some (.cells C t f)->∀(j:Nat)(z:Int),C[j]?≠some (.int .i64 z)
def hX(g:Nat)(lay:Nat->Bool)(os:Nat->Obj):aa:=⟨g,g,λb=>if b<g/\lay b=true then .obj (os b)else .dead⟩
def BC:Value->Bool
 | .int _ _=>true
 | .string _=>true
 |_=>false
def ai7{ρ:aH}{v:Value}(h:BC v=true):VR ρ v v:=by
 cases v with
 |int k n=>exact .int _ _
 |string s=>exact .string _
 |_=>cases h
def RowX(w:World)(sz:Nat)(a:Option Addr)(len cap:Nat)(zs:List Value):Prop:=
 (a=none/\len=0/\cap=0/\zs=[])∨
 ∃x,a=some x/\len<=cap/\zs.length=cap*sz/\(∀i,i<zs.length->w.cell? (x.add i)=some (zs.getD i (.bool false)))/\zs.all BC=true/\(zs=[]∨∃n r,zs= .int .i64 n::r)
def qP(e:TypeId)(h:aa)(v:Value)(len:Nat)(zs:List Value):Prop:=∃ad c,v= .slice ad len c/\(ad=none->c=0)/\(len=0∨∃b cs,ad=some ⟨b,0,none⟩/\h.f b= .row false e (zs++cs)/\b<h.n)
def qP.ext{e:TypeId}{h h':aa}{v:Value}{len:Nat}{zs:List Value}(H:qP e h v len zs)(E:Ext h h'):qP e h' v len zs:=by
 obtain⟨ad,c,rfl,hc,z⟩:=H;refine⟨ad,c,rfl,hc,?_⟩;rcases z with z|⟨b,cs,rfl,h2,h3⟩
 .exact .inl z
 .exact .inr ⟨b,cs,rfl,by rw[E.f b h3];exact h2,cV h3 E.n⟩
def rV.start(P:Program){g:Nat}(lay:Nat->Bool){w:World}(os:Nat->Obj)(hpl:∀i,rF (os i)=true)(hsz:g<=w.heap.size)(H:∀i,i<g->lay i=true->w.heap[i]? =some (os i))(no:∀i,i<g->lay i=true->∀C t f,w.heap[i]? =some (.cells C t f)->∀(j:Nat)(z:Int),C[j]?≠some (.int .i64 z)):rV P g lay w (uY g) (hX g lay os):=by
 refine⟨λs=>rfl,⟨?_,?_,?_,?_,?_,?_⟩,rfl,?_,?_,no⟩
 .intro k pl q;obtain⟨i,hi,rfl,rfl⟩:=tz q;exact cV hi hsz
 .intro b pl q;obtain⟨i,hi,e,rfl⟩:=tz q;simp only[bM,true_and]at e;subst e;exact hi
 .intro k pl wr e cs q r;obtain⟨i,hi,rfl,rfl⟩:=tz q;simp only[Mem.row?,hX]at r;split at r
  .rename_i z;split at z
   .cases z
   .cases z
  .cases r
 .intro b pl o q r;obtain⟨i,hi,e,rfl⟩:=tz q;simp only[bM,true_and]at e;subst e;simp only[hX]at r;split at r
  .rename_i z;cases r;exact⟨.Bl (hpl b) (H b hi z.2),rfl⟩
  .cases r
 .intro k k' pl pl' hne q q' _ _;obtain⟨i,hi,rfl,rfl⟩:=tz q;obtain⟨j,hj,rfl,rfl⟩:=tz q';intro e;simp only at e;exact hne (by rw[e])
 .intro i hi;have hi':i<g:=hi;exact⟨⟨i,0,0,0⟩,by simp[uY,hi'],rfl,rfl⟩
 .rintro B ⟨b,pl,q,rfl,hw⟩;obtain⟨i,hi,e,rfl⟩:=tz q;simp only[bM,true_and]at e;subst e;refine⟨hi,?_⟩;cases z:lay b with
  |true=>rfl
  |false=>simp[aa.wr,hX,z]at hw
 .intro i hi hl;exact⟨by simp[uY,hi],hi,os i,hpl i,by simp[hX,hi,hl],H i hi hl⟩
def uD{P:Program}{g:Nat}{lay:Nat->Bool}{e:TypeId}{sz:Nat}(hc:P.cellsOf e=sz)(hs0:0<sz){w:World}{ρ:aH}{h:aa}(L:rV P g lay w ρ h){a:Option Addr}{len cap:Nat}{zs:List Value}(H:RowX w sz a len cap zs):
  ∃(h':aa)(v:Value)(ρ':aH),rV P g lay w ρ' h'/\Ext h h'/\(∀b pl,ρ (false,b)=some pl->ρ' (false,b)=some pl)/\VR ρ' v (.slice a len cap)/\qP e h' v len (zs.take (len*sz))/\(zs.take (len*sz)).length=len*sz:=by
 rcases H with⟨rfl,rfl,rfl,rfl⟩|⟨x,rfl,hl,hz,hcell,hpv,hfst⟩
 .exact⟨h,_,ρ,L,Ext.bJ h,λ_ _ q=>q,.tE,⟨none,0,rfl,λ_=>rfl,.inl rfl⟩,by simp⟩
 .by_cases hcap:cap=0
  .subst hcap;have:len=0:=(by omega);subst this;exact⟨h,_,ρ,L,Ext.bJ h,λ_ _ q=>q,.pH default x 0,⟨_,_,rfl,λ_=>rfl,.inl rfl⟩,by simp⟩
  .have hpos:0<zs.length:=(by rw[hz];exact Nat.mul_pos (by omega) hs0);have hc0:=hcell 0 hpos;obtain⟨blk,off,spot⟩:=x;have key:∀i,i<zs.length->∃C e fz,w.heap[blk]? =some (.cells C e fz)/\C[off+i]? =some (zs.getD i (.bool false))/\(i=0->spot=none):=by
    intro i hi;have:=hcell i hi;unfold World.cell? at this;rw[Go.Am.add_add]at this;split at this
    .rename_i C e fz hh;split at this
     .simp at this
     .rename_i hs;refine⟨C,e,fz,hh,?_,λe0=>?_⟩
      .by_cases hi0:i=0
       .subst hi0;simpa[Addr.add]using this
       .simpa[Addr.add,hi0]using this
      .subst e0;simpa[Addr.add]using hs
    .simp at this
   obtain⟨C,e0,fz,hh,_,hsp⟩:=key 0 hpos;obtain rfl:=hsp rfl;have hC:∀i,i<zs.length->C[off+i]? =some (zs.getD i (.bool false)):=λi hi=>by
    obtain⟨C',e',fz',q1,q2,_⟩:=key i hi;rw[hh]at q1;simp only[av,Obj.cells.injEq]at q1;rw[q1.1];exact q2
   have hsz:off+zs.length<=C.size:=by
    have:=hC (zs.length-1) (by omega);have h2:off+(zs.length-1)<C.size:=(by rcases Nat.lt_or_ge (off+(zs.length-1)) C.size with z|z;exact z;rw[Array.getElem?_eq_none z]at this;cases this);omega
   have hblk:blk<w.heap.size:=by
    rcases Nat.lt_or_ge blk w.heap.size with z|z
    .exact z
    .rw[Array.getElem?_eq_none z]at hh;cases hh
   obtain⟨pl,hpl⟩:∃pl:Pl,pl=⟨blk,off,zs.length,sz⟩:=⟨_,rfl⟩;obtain⟨h',hh'⟩:∃h',h'=h.new (.row false e zs):=⟨_,rfl⟩;obtain⟨ρ',hρ'⟩:∃ρ':aH,ρ'=λk=>if k=(false,h.n)then some pl else ρ k:=⟨_,rfl⟩;have E:Ext h h':=(by rw[hh'];exact Ext.new h _);have hold:∀k pl',ρ k=some pl'->ρ' k=some pl':=λk pl' q=>by
    obtain⟨t,b⟩:=k;rw[hρ'];cases t with
    |true=>rw[L.box]at q;cases q
    |false=>
     have:=L.rel.dX b pl' q;simp only at this;show(if((false,b):Key)=(false,h.n)then some pl else ρ (false,b))=some pl';rw[if_neg (by simp;omega)];exact q
   have hcase:∀k pl',ρ' k=some pl'->(k=(false,h.n)/\pl'=pl)∨(k≠(false,h.n)/\ρ k=some pl'):=λk pl' q=>by
    rw[hρ']at q;simp only at q;split at q
    .rename_i e1;exact .inl ⟨e1,(bU q).symm⟩
    .rename_i e1;exact .inr ⟨e1,q⟩
   have hfold:∀b pl',ρ (false,b)=some pl'->h'.f b=h.f b:=λb pl' q=>E.f b (L.rel.dX b pl' q);have hfnew:h'.f h.n= .row false e zs:=(by rw[hh'];simp[aa.new]);have hblkg:∀B,B<g/\lay B=true->B≠blk:=by
    rintro B ⟨z1,z2⟩ rfl;have q:=hC 0 hpos;rcases hfst with e|⟨n,r,e⟩
    .rw[e]at hpos;simp at hpos
    .rw[e]at q;exact absurd q (L.no B z1 z2 C e0 fz hh _ n)
   have nowr:∀k pl',ρ' k=some pl'->(Mem.mk b8.nil h').wr k->∃b,k=(false,b)/\ρ (false,b)=some pl'/\h.wr b:=by
    intro k pl' q hw;obtain⟨t,b⟩:=k;rcases hcase _ _ q with⟨e1,_⟩|⟨_,q'⟩
    .simp only[bM]at e1;obtain⟨rfl,rfl⟩:=e1;simp[Mem.wr,aa.wr,hfnew]at hw
    .cases t with
     |true=>rw[L.box]at q';cases q'
     |false=>
      refine⟨b,rfl,q',?_⟩;simp only[Mem.wr,aa.wr]at hw;rw[hfold b pl' q']at hw;exact hw
   have hn':h'.n=h.n+1:=(by rw[hh'];rfl);have R:jw P ρ' ⟨b8.nil,h'⟩ w:=by
    refine⟨λk pl' q=>?_,λb pl' q=>?_,λk pl' wr e' cs q r=>?_,λb pl' o q r=>?_,λk k' pl1 pl2 hne q q' hw hl=>?_,λi hi=>?_⟩
    .rcases hcase _ _ q with⟨_,rfl⟩|⟨_,q'⟩
     .rw[hpl];exact hblk
     .exact L.rel.bound k pl' q'
    .rcases hcase _ _ q with⟨e1,_⟩|⟨_,q'⟩
     .simp only[bM,true_and]at e1;show b<h'.n;omega
     .have:=L.rel.dX b pl' q';exact cV this E.n
    .rcases hcase _ _ q with⟨rfl,rfl⟩|⟨_,q'⟩
     .simp only[Mem.row?,hfnew,av,bM]at r;obtain⟨rfl,rfl,rfl⟩:=r;subst hpl;refine⟨C,e0,fz,hh,by simp,by simp,hsz,hc.symm,λi v hi=>?_⟩;have hlt:i<zs.length:=(by rw[cP]at hi;exact hi.1);refine⟨_,hC i hlt,?_⟩;rw[bu,hi];exact ai7 (cz.1 hpv v (dE hi))
     .obtain⟨t,b⟩:=k;cases t with
      |true=>rw[L.box]at q';cases q'
      |false=>
       have r':(Mem.mk b8.nil h).row? (false,b)=some (wr,e',cs):=by
        simp only[Mem.row?]at r ⊢;rw[hfold b pl' q']at r;exact r
       obtain⟨C1,e1,fz1,c1,c2,c3,c4,c5,c6⟩:=L.rel.row _ _ _ _ _ q' r';exact⟨C1,e1,fz1,c1,c2,c3,c4,c5,λi v hi=>let ⟨v',z1,z2⟩:=c6 i v hi;⟨v',z1,z2.mono λb pl z=>hold _ _ z⟩⟩
    .rcases hcase _ _ q with⟨e1,rfl⟩|⟨_,q'⟩
     .simp only[bM,true_and]at e1;subst e1;simp only at r;rw[hfnew]at r;cases r
     .have r:=L.rel.obj b pl' o q' (by simp only at r ⊢;rw[hfold b pl' q']at r;exact r);exact⟨r.1.mono (λb pl z=>hold _ _ z),r.2⟩
    .obtain⟨b,rfl,q1,hwb⟩:=nowr _ _ q hw;have h1:=L.own pl1.B ⟨b,pl1,q1,rfl,hwb⟩;rcases hcase _ _ q' with⟨_,rfl⟩|⟨_,q2⟩
     .rw[hpl];simp only;exact hblkg _ h1
     .obtain⟨t,b'⟩:=k';cases t with
      |true=>rw[L.box]at q2;cases q2
      |false=>
       refine L.rel.sep (false,b) (false,b') pl1 pl2 hne q1 q2 hwb ?_;simp only[Mem.live]at hl ⊢;rw[hfold b' pl2 q2]at hl;exact hl
    .have hg':h'.g=h.g:=(by rw[hh'];rfl);obtain⟨pl',z1,z2⟩:=L.rel.ki i (by simp only at hi ⊢;omega);exact⟨pl',hold _ _ z1,z2⟩
   refine⟨h',.slice (some ⟨h.n,0,none⟩) len len,ρ',⟨λs=>?_,R,by rw[hh'];exact L.gl,λB ⟨b,pl',q,e2,hw⟩=>?_,λi hi hlay=>?_,L.no⟩,E,λb pl' q=>hold _ _ q,?_,?_,?_⟩
   .rw[hρ'];show(if((true,s):Key)=(false,h.n)then some pl else ρ (true,s))=none;rw[if_neg (by simp)];exact L.box s
   .obtain⟨b',e3,q1,hwb⟩:=nowr (false,b) pl' q hw;simp only[bM,true_and]at e3;subst e3;rw[<-e2];exact L.own pl'.B ⟨b,pl',q1,rfl,hwb⟩
   .obtain⟨z1,z2,o,zp,z3,z4⟩:=L.Dd i hi hlay;exact⟨hold _ _ z1,by omega,o,zp,by rw[E.f i z2];exact z3,z4⟩
   .have hk:ρ' (false,h.n)=some pl:=(by rw[hρ'];simp);have:=VR.sl (ρ:=ρ') h.n 0 len len pl cap hk hl (by rw[hpl];simp only;omega);rw[hpl]at this;simpa using this
   .refine⟨_,_,rfl,λq=>by simp at q,?_⟩;by_cases hl0:len=0
    .exact .inl hl0
    .exact .inr ⟨h.n,zs.drop (len*sz),rfl,by rw[hfnew,se],by omega⟩
   .rw[dh,hz];have:=Nat.mul_le_mul_right sz hl;omega
def RowX.Bk{w:World}{a:Option Addr}{len cap:Nat}{zs:List Int}(H:IntsW w a len cap zs):RowX w 1 a len cap (zs.map (Value.int .i64)):=by
 rcases H with⟨h1,h2,h3,h4⟩|⟨x,h1,h2,h3,h4⟩
 .exact .inl ⟨h1,h2,h3,by rw[h4];rfl⟩
 .refine .inr ⟨x,h1,h2,by rw[cf];omega,λi hi=>?_,?_,?_⟩
  .rw[cf]at hi;rw[h4 i hi,bu,bu,fx,aq hi];rfl
  .rw[cz];intro v hv;obtain⟨n,_,rfl⟩:=dO.1 hv;rfl
  .cases zs with
   |nil=>exact .inl rfl
   |cons n r=>exact .inr ⟨n,r.map (Value.int .i64),rfl⟩
def A0{P:Program}{g:Nat}{lay:Nat->Bool}{f:FuncId}{args args':List Value}{h:aa}{ρ:aH}{w:World}(L:rV P g lay w ρ h)(H:al P f args h (λv h'=>Ext h h'/\v= .bool true))(V:mX ρ args args'):
  Calls P f ⟨args'⟩ w λe w'=>e= .returned (.bool true)/\Below w.heap.size w w':=by
 refine(H.2 ρ w args' L.box L.rel V).mono ?_;rintro e w' ⟨v,v',h',ρ',rfl,⟨E,rfl⟩,_,R,T,hv⟩;cases hv;refine⟨rfl,T.os,T.tape,T.output,T.size,λk hk=>?_⟩;by_cases z:k<g/\lay k=true
 .obtain⟨z1,z2,o,zp,z3,z4⟩:=L.Dd k z.1 z.2;rw[z4];exact(R.obj k _ o (T.ext k _ z1) (by show h'.f k=_;rw[E.f k z2];exact z3)).1.plain zp
 .exact T.frame k hk (λo=>z (L.own k o))
end Go.Am
namespace Go.Proofs.Ybk.K
open Go Go.Am Go.RowKit
def yk(i:Nat):Bool:= !(i==1)
def isLaid(w:World):Prop:=(∃t f,w.heap[0]? =some (.cells #[.iface 316 (.agg #[.pointer (some ⟨5,110,none⟩)])] t f))/\
 (∃t f,w.heap[2]? =some (.cells (Lib.pow10Tab.map λz=>Value.int .u64 z).toArray t f))
def start_of{w:World}(L:isLaid w):∃h ρ,rV PP 3 yk w ρ h/\F.cC h:=by
 obtain⟨⟨t,f,L⟩,t2,f2,L2⟩:=L;have hs:3<=w.heap.size:=by
  rcases Nat.lt_or_ge 2 w.heap.size with z|z
  .exact z
  .rw[Array.getElem?_eq_none z]at L2;cases L2
 refine⟨_,_,rV.start PP (g:=3) yk (λi=>if i=0 then .cells #[.iface 316 (.agg #[.pointer (some ⟨5,110,none⟩)])] t f else .cells (Lib.pow10Tab.map λz=>Value.int .u64 z).toArray t2 f2) (λi=>?_) hs (λi hi hl=>?_) (λi hi hl C t' f' hC j z=>?_),rfl,aX _,⟨t,f,?_⟩,t2,f2,?_⟩
 .split<;>rfl
 .match i,hi,hl with
  |0,_,_=>exact L
  |1,_,hl=>cases hl
  |2,_,_=>exact L2
 .match i,hi,hl with
  |0,_,_=>
   rw[L]at hC;simp only[av,Obj.cells.injEq]at hC;rw[<-hC.1];rcases j with _|j
   .simp
   .simp
  |1,_,hl=>cases hl
  |2,_,_=>
   rw[L2]at hC;simp only[av,Obj.cells.injEq]at hC;rw[<-hC.1];simp only[List.getElem?_toArray,fx];cases Lib.pow10Tab[j]? <;>simp
 .simp[hX,yk]
 .simp[hX,yk]
end Go.Proofs.Ybk.K
namespace Go.Proofs.YtbcdmljanolkeaaGreatDoor.AmBR
open Go Go.Am
def list:List (String×DataW Unit):=[("math/bits.deBruijn32tab",Rows.laid_math_bits_deBruijn32tab),("math/bits.deBruijn64tab",Rows.laid_math_bits_deBruijn64tab),("internal/strconv.uint64pow10",Rows.laid_internal_strconv_uint64pow10),("errors.errorType",Rows.laid_errors_errorType)]
def et:Tryz.prog.globalNamed "errors.errorType"=some 0:=by kernel_rfl
def pt:Tryz.prog.globalNamed "internal/strconv.uint64pow10"=some 2:=by kernel_rfl
def rt:(Tryz.prog.cutTypes.find? (·.1== "internal/reflectlite.rtype")).map (·.2)=some 316:=by kernel_rfl
def ah0:((List.range 413).filter λt=>Tryz.prog.rowNamed t [101,114,114,111,114])=[110]:=by kernel_rfl
def size:Tryz.prog.types.size=413:=by kernel_rfl
def KL:(list.filter λx=>x.2.handleName?.isSome)=[("errors.errorType",Rows.laid_errors_errorType)]:=by rfl
def rest:(list.filter λx=>x.2.handleName?.isNone)=[("math/bits.deBruijn32tab",Rows.laid_math_bits_deBruijn32tab),("math/bits.deBruijn64tab",Rows.laid_math_bits_deBruijn64tab),("internal/strconv.uint64pow10",Rows.laid_internal_strconv_uint64pow10)]:=by rfl
def Cr:(Rows.laid_internal_strconv_uint64pow10:DataW Unit)=Lib.tabData .u64 Lib.pow10Tab:=by rfl
def DA{P:Program}{w:World}{n:String}{g:Nat}{cs:Array Value}(hg:P.globalNamed n=some g)(h:w.var? P n=some cs):∃t f,w.heap[g]? =some (.cells cs t f):=by
 simp only[World.var?,hg,ep]at h;split at h
 .rename_i C t f e;simp only[av]at h;subst h;exact⟨t,f,e⟩
 .cases h
def isLaid_of{W:World}(h:laidMetH Tryz.prog list W):Ybk.K.isLaid W:=by
 obtain⟨h1,h2⟩:=laidMetH_iff.1 h;rw[KL]at h2;rw[rest]at h1;constructor
 .obtain⟨name,u,ty,e1,e2,e3,e4,e5⟩:=h2 _ (dZ.2 rfl);have en:name=[101,114,114,111,114]:=(bU e1).symm;subst en;obtain rfl:=bU (rt.symm.trans e2);have hm:ty∈(List.range 413).filter λt=>Tryz.prog.rowNamed t [101,114,114,111,114]:=gS.2 ⟨dF.2 (by rw[<-size];exact e3),e4⟩;rw[ah0]at hm;obtain rfl:=dZ.1 hm;have hh:typeHandle Tryz.prog 110= .pointer (some ⟨5,110,none⟩):=by kernel_rfl
  rw[hh]at e5;exact DA et e5
 .have h3:=h1.tail.tail;rw[Cr]at h3;have h4:=Lib.tabIs_of_head (g:=2) (t:=377) (e:=184) (n:=20) pt (by kernel_rfl) (by kernel_rfl) (by kernel_rfl) (by kernel_rfl) (by kernel_rfl) h3;exact DA pt h4
noncomputable def laidWorld(os:Os):World:=
 let w0:=World.holding Tryz.prog os ⟨#[],#[],[]⟩
 {w0 with heap:=(((w0.heap.modify 0 fun
   | .cells _ t frozen=>.cells #[.iface 316 (.agg #[.pointer (some ⟨5,110,none⟩)])] t frozen
   |o=>o).modify 2 fun
   | .cells _ t frozen=>.cells (Lib.pow10Tab.map λz=>Value.int .u64 z).toArray t frozen
   |o=>o).modify 3 fun
   | .cells _ t frozen=>.cells (([0,1,28,2,29,14,24,3,30,22,20,15,25,17,4,8,31,27,13,23,21,19,16,7,26,12,18,6,11,5,10,9]:List Int).map λz=>Value.int .u8 z).toArray t frozen
   |o=>o).modify 4 fun
   | .cells _ t frozen=>.cells (([0,1,56,2,57,49,28,3,61,58,42,50,38,29,17,4,62,47,59,36,45,43,51,22,53,39,33,30,24,18,12,5,63,55,48,27,60,41,37,16,46,35,44,21,52,32,23,11,54,26,40,15,34,20,31,10,25,14,19,9,13,8,7,6]:List Int).map λz=>Value.int .u8 z).toArray t frozen
   |o=>o}
def laidWorld_met(os:Os)(args:Array Value):laidMetH Tryz.prog list ((laidWorld os).forCall (λ_ _=>0) ⟨#[],args,[]⟩).memory:=
 laidMetH_of_parts (by rw[rest];exact laidMet_of_run' 8 (by kernel_rfl) (by kernel_rfl)) (by rw[KL];kernel_rfl)
end Go.Proofs.YtbcdmljanolkeaaGreatDoor.AmBR
namespace Go.Proofs.Ybk.Sized
open Go.ChangeShapes Go.WideShapes
def sized_ints{H:Type}{enc:TypeId×Value->H}{P:Program}{W:World}{base:Nat}{spare:Nat->Bool}{held:Bool}{t e:TypeId}{k:IntKind}{a:Option Addr}{len cap:Nat}{d:DataW H}{ps:List MemPlace}{ts:List TypeId}{ds:List (DataW H)}{j:Nat}
  (hsz:(DataW.weightsEach P ts ds).all (·<=reachBytes)=true) (ht:ts[j]? =some t) (hd:ds[j]? =some d) (hu:P.underlying t=some (.slice e)) (he:P.underlying e=some (.int k)) (hc:P.cellsOf e=1) {B:Nat} (hB:P.bytesOf e=B)
  (h:DataW.Trod enc P W base spare held t (.slice a len cap) d ps):len*B<=140737488351232:=by
 obtain⟨fuel,hf⟩:=h;rcases open_ints hu he hc hf with⟨hcs,_⟩|⟨x,l,c,zs,hcs,_,hl,_,hz,hx,_,_⟩
 .simp[Value.cells]at hcs;obtain⟨rfl,rfl,rfl⟩:=hcs;simp
 .simp[Value.cells]at hcs;obtain⟨rfl,rfl,rfl⟩:=hcs;obtain⟨hx,_⟩:=Prod.mk.inj hx;subst hx;have z:=sized_slice hsz ht hd hu;rw[hB]at z;have hl2:len<=zs.length:=by
   rw[hz];split
   .exact hl
   .exact aX _
  have h1:(lits (H:=H) k (zs.take len)).length+(lits (H:=H) k (zs.drop len)).length=zs.length:=by
   simp[lits];omega
  rw[h1]at z;exact eY (Nat.mul_le_mul_right _ hl2) z
end Go.Proofs.Ybk.Sized
namespace Go.Proofs.Ybk.V
open Go Go.Am
set_option maxHeartbeats 2000000
structure au where
 row:Int
 x:Int
 y:Int
 kind:Int
deriving DecidableEq
structure aR where
 x:Int
 y:Int
 r:Int
deriving DecidableEq
def ao(s:au):List Value:=[.int .i64 s.row,.int .i64 s.x,.int .i64 s.y,.int .i64 s.kind]
def aZ(p:aR):List Value:=[.int .i64 p.x,.int .i64 p.y,.int .i64 p.r]
def ab(n:Int):List Value:=[.int .i64 n]
def bg(s:au):Value:=.agg ⟨ao s⟩
def fD(s:au):(ao s).length=4:=rfl
def pE(s:aR):(aZ s).length=3:=rfl
def dY(s:Int):(ab s).length=1:=rfl
abbrev cA:=dt 99 ao
abbrev cG:=dt 103 aZ
abbrev a8:=dt 3 ab
def fa(a b:au):Bool:=decide (a.row<b.row) || (decide (a.row=b.row)&&decide (a.x<b.x))
def A5(a b:au)(h:aa):al PP 165 [bg a,bg b] h (λv h'=>h'=h/\v= .bool (fa a b)):=by
 refine aC Tryz.func165 afH ?_;simp only[aA,Tryz.f165];unfold fa;by_cases h1:a.row<b.row
 .simp[bg,ao,h1]
 .by_cases h2:a.row=b.row
  .simp[bg,ao,h1,h2]
  .simp[bg,ao,h1,h2]
def aE(n lo hi:Int):Bool:=decide (lo<=n)&&decide (n<=hi)
def ye(n lo hi:Int)(h:aa):al PP 174 [.int .i64 n,.int .i64 lo,.int .i64 hi] h (λv h'=>h'=h/\v= .bool (aE n lo hi)):=by
 refine aC Tryz.func174 afR ?_;simp only[aA,Tryz.f174];unfold aE;by_cases h1:lo<=n
 .simp[h1]
 .simp[h1]
def Q8(n:Int)(h:aa):al PP 257 [.int .i64 n] h (λv h'=>h'=h/\v= .bool (aE n 0 999)):=by
 refine aC Tryz.func257 agL ?_;simp only[aA,Tryz.f257];simp;refine cE (ye n 0 999 h) ?_;simp[af]
def sx(n:Int)(h:aa):al PP 225 [.int .i64 n] h (λv h'=>h'=h/\v= .bool (aE n (-1048576) 1048576)):=by
 refine aC Tryz.func225 agu ?_;simp only[aA,Tryz.f225];simp;refine cE (ye n (-1048576) 1048576 h) ?_;simp[af]
def yY(n:Int)(h:aa):al PP 173 [.int .i64 n] h (λv h'=>h'=h/\v= .bool (aE n 1 1048576)):=by
 refine aC Tryz.func173 afQ ?_;simp only[aA,Tryz.f173];simp;refine cE (ye n 1 1048576 h) ?_;simp[af]
def jW(s:au):Bool:=aE s.kind 0 2&&(aE s.row 0 999&&(aE s.x (-1048576) 1048576&&aE s.y (-1048576) 1048576))
def aku(s:au)(h:aa):al PP 224 [bg s] h (λv h'=>h'=h/\v= .bool (jW s)):=by
 refine aC Tryz.func224 agt ?_;simp only[aA,Tryz.f224];by_cases hk:s.kind=0∨s.kind=1∨s.kind=2
 .have hkk:aE s.kind 0 2=true:=by simp[aE];omega
  unfold jW;rw[hkk];rcases hk with hk|hk|hk;all_goals
   simp[bg,ao,hk]
   refine(Q8 s.row h).mono ?_
   rintro v h' ⟨rfl,rfl⟩
   simp[af]
   intro _
   by_cases h1:aE s.row 0 999=true
   .simp[h1]
    refine(sx s.x h').mono ?_
    rintro v h2 ⟨rfl,rfl⟩
    simp[af]
    intro _
    by_cases h3:aE s.x (-1048576) 1048576=true
    .simp[h3]
     refine cE (sx s.y h2) ?_
     simp[af]
    .simp[h3]
   .simp[h1]
 .have hkk:aE s.kind 0 2=false:=by simp[aE];omega
  have h0:¬s.kind=0:=by omega
  have h1:¬s.kind=1:=by omega
  have h2:¬s.kind=2:=by omega
  simp[bg,ao,h0,h1,h2,jW,hkk]
def all_false{f:Nat->Bool}{n i:Nat}(hi:i<n)(h:f i=false):(List.range n).all f=false:=by
 rw[Bool.eq_false_iff];intro q;rw[cz]at q;have:=q i (dF.2 hi);rw[h]at this;cases this
def all_succ{f:Nat->Bool}{i:Nat}(h:(List.range i).all f=true)(hf:f i=true):(List.range (i+1)).all f=true:=by
 rw[nX,List.all_append,h];simp[hf]
def fJ(l:List au)(i:Nat):Bool:=match l[i]? with
 |some s=>jW s&&(decide (i=0) || (match l[i-1]? with|some p=>fa p s|none=>true))
 |none=>true
def gL(l:List au):Bool:=(List.range l.length).all (fJ l)&&(decide (0<l.length)&&decide (l.length<=4096))
def Uh(s:Value)(l:List au)(m:Nat)(h:aa)(n:Nat)(σ:St):Prop:=∃i:Nat,n=m-i/\i<=m/\σ.m.h=h/\σ.t.get 0=some s/\σ.t.get 5=some s/\σ.t.get 6=some (.int .i64 (m:Nat))/\σ.t.get 7=some (.int .i64 (i:Nat))/\(List.range i).all (fJ l)=true
def akz(s:Value)(l:List au)(hl:l.length<=1073741824)(h:aa)(hs:cA h s l):al PP 172 [s] h (λv h'=>h'=h/\v= .bool (gL l)):=by
 refine aC Tryz.func172 afP ?_;simp only[aA,Tryz.f172];obtain⟨ad,c,rfl⟩:=hs.shape;obtain⟨m,hm⟩:=nm l.length;rw[<-hm]at hs ⊢;simp -implicitDefEqProofs;refine bG (Uh (.slice ad m c) l m h) _ ⟨0,rfl,by omega,rfl,by simp,by simp,by simp,by simp,rfl⟩ ?_;rintro n ⟨T,⟨x,H⟩⟩ ⟨i,rfl,hi,hH,g0,g5,g6,g7,aJ⟩;simp at hH g0 g5 g6 g7;subst hH;simp -implicitDefEqProofs[g0,g5,g6,g7];refine bR (λhc=>?_) (λhc=>?_)
 .have hil:i<m:=by omega
  have hti:l[i]? =some l[i]:=aq (by omega);obtain⟨_,b,o,wb,cs,r,rfl,hb,hd,hlc,_⟩:=hs.at 4 fD hti;obtain⟨t,ht⟩:=nm l[i];rw[<-ht]at hd hti;have w1:=bO (i:=i) (by omega);have hlc':o+i*4+4<=cs.length:=hlc;have fin:fJ l i=false->gL l=false:=λhp=>by unfold gL;rw[all_false (by omega) hp];rfl
  simp -implicitDefEqProofs[g0,g5,g6,g7,hil,hb,hd,hlc',ao];refine(aku t H).mono ?_;rintro v h' ⟨rfl,rfl⟩;simp -implicitDefEqProofs[aF];intro _;by_cases h1:jW t=true
  .by_cases h2:i=0
   .subst h2;have hp:fJ l 0=true:=(by simp[fJ,hti,h1]);simp -implicitDefEqProofs[h1];exact⟨m-1,by omega,1,rfl,by omega,rfl,by simp[g0],by simp[g5],by simp[g6],by simp[bB],all_succ aJ hp⟩
   .have fC:i-1<m:=(by omega);have htp:l[i-1]? =some l[i-1]:=aq (by omega);obtain⟨p,hp⟩:=nm l[i-1];rw[<-hp]at htp;obtain⟨_,b',o',wb',cs',r',e1,hb',hd',hlc2,_⟩:=hs.at 4 fD htp;simp only[av,Addr.mk.injEq,and_true]at e1;obtain⟨rfl,rfl⟩:=e1;rw[hb]at hb';simp only[aW.row.injEq,true_and]at hb';obtain⟨rfl,rfl⟩:=hb';obtain⟨j,hj⟩:=nm (i-1);rw[<-hj]at hd' hlc2 fC;have w2:IntKind.wrap .i64 ((i:Int)-1)=(j:Int):=(by rw[bB (by omega)];omega);have h0:(0:Int)<(i:Int):=(by omega);have hlc3:o+j*4+4<=cs.length:=hlc2;simp -implicitDefEqProofs[h1,h0,h2,w2,fC,hb,hd',hlc3,ao,show 0<i by omega];refine cE (A5 p t h') ?_;simp -implicitDefEqProofs[aF];intro _;by_cases h3:fa p t=true
    .have hp:fJ l i=true:=(by simp[fJ,hti,h1,htp,h3]);simp -implicitDefEqProofs[h3,g0,g5,g6,g7,w1];exact⟨m-(i+1),by omega,i+1,rfl,by omega,rfl,by simp[g0],by simp[g5],by simp[g6],by simp,all_succ aJ hp⟩
    .have hp:fJ l i=false:=(by simp[fJ,hti,h1,htp,h3,h2]);simp -implicitDefEqProofs[h3,fin hp]
  .have hp:fJ l i=false:=(by simp[fJ,hti,h1]);simp -implicitDefEqProofs[h1,fin hp]
 .have:i=m:=by omega
  subst this;rw[hm]at aJ;have he:gL l=(decide (0<l.length)&&decide (l.length<=4096)):=by unfold gL;rw[aJ];rfl
  rw[he,<-hm];by_cases h1:0<i
  .by_cases h2:(i:Int)<=4096
   .have h2':i<=4096:=(by omega);simp -implicitDefEqProofs[g0,h1,h2,h2']
   .have h2':¬i<=4096:=(by omega);simp -implicitDefEqProofs[g0,h1,h2,h2']
  .have:i=0:=(by omega);subst this;simp -implicitDefEqProofs[g0]
def gT(l:List Int)(n:Int)(i:Nat):Bool:=match l[i]? with
 |some x=>decide (0<=x)&&(decide (x<n)&&(decide (i=0) || (match l[i-1]? with|some p=>decide (p<x)|none=>true)))
 |none=>true
def iw(l:List Int)(n:Int):Bool:=(List.range l.length).all (gT l n)&&decide (l.length<=200)
def Ui(s:Value)(l:List Int)(k:Int)(m:Nat)(h:aa)(n:Nat)(σ:St):Prop:=∃i:Nat,n=m-i/\i<=m/\σ.m.h=h/\σ.t.get 0=some s/\σ.t.get 1=some (.int .i64 k)/\σ.t.get 7=some s/\σ.t.get 8=some (.int .i64 (m:Nat))/\σ.t.get 9=some (.int .i64 (i:Nat))/\(List.range i).all (gT l k)=true
def aaZ(s:Value)(l:List Int)(k:Int)(hl:l.length<=1073741824)(h:aa)(hs:a8 h s l):al PP 175 [s,.int .i64 k] h (λv h'=>h'=h/\v= .bool (iw l k)):=by
 refine aC Tryz.func175 afS ?_;simp only[aA,Tryz.f175];obtain⟨ad,c,rfl⟩:=hs.shape;obtain⟨m,hm⟩:=nm l.length;rw[<-hm]at hs ⊢;simp -implicitDefEqProofs;refine bG (Ui (.slice ad m c) l k m h) _ ⟨0,rfl,by omega,rfl,by simp,by simp,by simp,by simp,by simp,rfl⟩ ?_;rintro n ⟨T,⟨x,H⟩⟩ ⟨i,rfl,hi,hH,g0,g1,g7,g8,g9,aJ⟩;simp at hH g0 g1 g7 g8 g9;subst hH;simp -implicitDefEqProofs[g0,g1,g7,g8,g9];refine bR (λhc=>?_) (λhc=>?_)
 .have hil:i<m:=by omega
  have hti:l[i]? =some l[i]:=aq (by omega);obtain⟨_,b,o,wb,cs,r,rfl,hb,hd,hlc,_⟩:=hs.at 1 dY hti;obtain⟨t,ht⟩:=nm l[i];rw[<-ht]at hd hti;have w1:=bO (i:=i) (by omega);have hlc':o+i+1<=cs.length:=by omega
  rw[Nat.mul_one]at hd;have fin:gT l k i=false->iw l k=false:=λhp=>by unfold iw;rw[all_false (by omega) hp];rfl
  by_cases h1:t<0
  .have hp:gT l k i=false:=(by simp[gT,hti];omega);simp -implicitDefEqProofs[g0,g1,g7,g8,g9,hil,hb,hd,hlc',ab,h1,fin hp]
  .by_cases h2:k<=t
   .have hp:gT l k i=false:=(by simp[gT,hti];omega);simp -implicitDefEqProofs[g0,g1,g7,g8,g9,hil,hb,hd,hlc',ab,h1,h2,fin hp]
   .by_cases h3:i=0
    .subst h3;have hp:gT l k 0=true:=(by simp[gT,hti];omega);simp only[ie]at hd hlc';simp -implicitDefEqProofs[g0,g1,g7,g8,g9,hil,hb,hd,hlc',ab,h1,h2];exact⟨m-1,by omega,1,rfl,by omega,rfl,by simp[g0],by simp[g1],by simp[g7],by simp[g8],by simp[bB],all_succ aJ hp⟩
    .have fC:i-1<m:=(by omega);have htp:l[i-1]? =some l[i-1]:=aq (by omega);obtain⟨p,hp⟩:=nm l[i-1];rw[<-hp]at htp;obtain⟨_,b',o',wb',cs',r',e1,hb',hd',hlc2,_⟩:=hs.at 1 dY htp;simp only[av,Addr.mk.injEq,and_true]at e1;obtain⟨rfl,rfl⟩:=e1;rw[hb]at hb';simp only[aW.row.injEq,true_and]at hb';obtain⟨rfl,rfl⟩:=hb';obtain⟨j,hj⟩:=nm (i-1);rw[<-hj,Nat.mul_one]at hd' hlc2;have hjm:j<m:=(by omega);have w2:IntKind.wrap .i64 ((i:Int)-1)=(j:Int):=(by rw[bB (by omega)];omega);have h0:(0:Int)<(i:Int):=(by omega);have h0':0<i:=(by omega);by_cases h4:t<=p
     .have hp:gT l k i=false:=(by simp[gT,hti,htp,h3];omega);simp -implicitDefEqProofs[g0,g1,g7,g8,g9,hil,hb,hd,hlc',ab,h1,h2,h0,h0',h3,w2,hjm,hd',hlc2,h4,fin hp]
     .have hp:gT l k i=true:=(by simp[gT,hti,htp,h3];omega);simp -implicitDefEqProofs[g0,g1,g7,g8,g9,hil,hb,hd,hlc',ab,h1,h2,h0,h0',h3,w2,hjm,hd',hlc2,h4,w1];exact⟨m-(i+1),by omega,i+1,rfl,by omega,rfl,by simp[g0],by simp[g1],by simp[g7],by simp[g8],by simp,all_succ aJ hp⟩
 .have:i=m:=by omega
  subst this;rw[hm]at aJ;have he:iw l k=decide (l.length<=200):=by unfold iw;rw[aJ];rfl
  rw[he,<-hm];by_cases h2:(i:Int)<=200
  .have h2':i<=200:=(by omega);simp -implicitDefEqProofs[g0,g1,h2,h2']
  .have h2':¬i<=200:=(by omega);simp -implicitDefEqProofs[g0,g1,h2,h2']
def kO(p:aR):Bool:=aE p.x (-1048576) 1048576&&(aE p.y (-1048576) 1048576&&aE p.r 1 1048576)
def iO(l:List aR)(i:Nat):Bool:=match l[i]? with
 |some p=>kO p
 |none=>true
def jr(l:List aR):Bool:=(List.range l.length).all (iO l)&&decide (l.length<=200)
def Uj(s:Value)(l:List aR)(m:Nat)(h:aa)(n:Nat)(σ:St):Prop:=∃i:Nat,n=m-i/\i<=m/\σ.m.h=h/\σ.t.get 0=some s/\σ.t.get 5=some s/\σ.t.get 6=some (.int .i64 (m:Nat))/\σ.t.get 7=some (.int .i64 (i:Nat))/\(List.range i).all (iO l)=true
def aja(s:Value)(l:List aR)(hl:l.length<=1073741824)(h:aa)(hs:cG h s l):al PP 176 [s] h (λv h'=>h'=h/\v= .bool (jr l)):=by
 refine aC Tryz.func176 afT ?_;simp only[aA,Tryz.f176];obtain⟨ad,c,rfl⟩:=hs.shape;obtain⟨m,hm⟩:=nm l.length;rw[<-hm]at hs ⊢;simp -implicitDefEqProofs;refine bG (Uj (.slice ad m c) l m h) _ ⟨0,rfl,by omega,rfl,by simp,by simp,by simp,by simp,rfl⟩ ?_;rintro n ⟨T,⟨x,H⟩⟩ ⟨i,rfl,hi,hH,g0,g5,g6,g7,aJ⟩;simp at hH g0 g5 g6 g7;subst hH;simp -implicitDefEqProofs[g0,g5,g6,g7];refine bR (λhc=>?_) (λhc=>?_)
 .have hil:i<m:=by omega
  have hti:l[i]? =some l[i]:=aq (by omega);obtain⟨_,b,o,wb,cs,r,rfl,hb,hd,hlc,_⟩:=hs.at 3 pE hti;obtain⟨t,ht⟩:=nm l[i];rw[<-ht]at hd hti;have w1:=bO (i:=i) (by omega);have hlc':o+i*3+3<=cs.length:=hlc;have fin:iO l i=false->jr l=false:=λhp=>by unfold jr;rw[all_false (by omega) hp];rfl
  simp -implicitDefEqProofs[g0,g5,g6,g7,hil,hb,hd,hlc',aZ];refine(sx t.x H).mono ?_;rintro v h' ⟨rfl,rfl⟩;simp -implicitDefEqProofs[af];intro _;by_cases h1:aE t.x (-1048576) 1048576=true
  .simp -implicitDefEqProofs[h1];refine(sx t.y h').mono ?_;rintro v h2 ⟨rfl,rfl⟩;simp -implicitDefEqProofs[af];intro _;by_cases h3:aE t.y (-1048576) 1048576=true
   .simp -implicitDefEqProofs[h3];refine cE (yY t.r h2) ?_;simp -implicitDefEqProofs[af];intro _;by_cases h5:aE t.r 1 1048576=true
    .have hp:iO l i=true:=(by simp[iO,hti,kO,h1,h3,h5]);simp -implicitDefEqProofs[h5,g0,g5,g6,g7,w1];exact⟨m-(i+1),by omega,i+1,rfl,by omega,rfl,by simp[g0],by simp[g5],by simp[g6],by simp,all_succ aJ hp⟩
    .have hp:iO l i=false:=(by simp[iO,hti,kO,h1,h3,h5]);simp -implicitDefEqProofs[h5,fin hp]
   .have hp:iO l i=false:=(by simp[iO,hti,kO,h1,h3]);simp -implicitDefEqProofs[h3,fin hp]
  .have hp:iO l i=false:=(by simp[iO,hti,kO,h1]);simp -implicitDefEqProofs[h1,fin hp]
 .have:i=m:=by omega
  subst this;rw[hm]at aJ;have he:jr l=decide (l.length<=200):=by unfold jr;rw[aJ];rfl
  rw[he,<-hm];by_cases h2:(i:Int)<=200
  .have h2':i<=200:=(by omega);simp -implicitDefEqProofs[g0,h2,h2']
  .have h2':¬i<=200:=(by omega);simp -implicitDefEqProofs[g0,h2,h2']
structure ai where
 ag:List au
 aV:Int
 bA:Int
 aD:List Int
 aG:List aR
def bL(h:aa)(v:ai)(cs:List Value):Prop:=∃s k p,cs=[s,.int .i64 v.aV,.int .i64 v.bA,k,p]/\cA h s v.ag/\a8 h k v.aD/\cG h p v.aG
def bL.ext{h h':aa}{v:ai}{cs:List Value}(H:bL h v cs)(E:Ext h h'):bL h' v cs:=by
 obtain⟨s,k,p,rfl,h1,h2,h3⟩:=H;exact⟨s,k,p,rfl,h1.ext E,h2.ext E,h3.ext E⟩
def lz(v:ai):Prop:=v.ag.length<=1073741824/\v.aD.length<=1073741824/\v.aG.length<=1073741824
def mQ(v:ai):List UInt8:=
 if gL v.ag=false then[115,101,97,116,115]
 else if aE v.aV 1 1048576=false then[103,97,112]
 else if aE v.bA 0 1048576=false then[114,97,100,105,117,115]
 else if iw v.aD v.ag.length=false then[107,105,108,108,115]
 else if jr v.aG=false then[112,111,108,101,115]
 else[]
def mR(v:ai)(cs:List Value)(hv:lz v)(h:aa)(H:bL h v cs):al PP 125 [.agg ⟨cs⟩] h (λr h'=>h'=h/\r= .string (B (mQ v))):=by
 refine aC Tryz.func125 afe ?_;simp only[aA,Tryz.f125];obtain⟨s,k,p,rfl,h1,h2,h3⟩:=H;obtain⟨ad1,c1,e1⟩:=h1.shape;obtain⟨ad2,c2,e2⟩:=h2.shape;obtain⟨ad3,c3,e3⟩:=h3.shape;subst e1;subst e2;subst e3;unfold mQ;simp -implicitDefEqProofs;refine(akz _ v.ag hv.1 h h1).mono ?_;rintro r h' ⟨rfl,rfl⟩;simp -implicitDefEqProofs[af];intro _;by_cases q1:gL v.ag=true
 .simp -implicitDefEqProofs[q1];refine(yY v.aV h').mono ?_;rintro r h' ⟨rfl,rfl⟩;simp -implicitDefEqProofs[af];intro _;by_cases q2:aE v.aV 1 1048576=true
  .simp -implicitDefEqProofs[q2];refine(ye v.bA 0 1048576 h').mono ?_;rintro r h' ⟨rfl,rfl⟩;simp -implicitDefEqProofs[af];intro _;by_cases q3:aE v.bA 0 1048576=true
   .simp -implicitDefEqProofs[q3];refine(aaZ _ v.aD v.ag.length hv.2.1 h' h2).mono ?_;rintro r h' ⟨rfl,rfl⟩;simp -implicitDefEqProofs[af];intro _;by_cases q4:iw v.aD v.ag.length=true
    .simp -implicitDefEqProofs[q4];refine cE (aja _ v.aG hv.2.2 h' h3) ?_;simp -implicitDefEqProofs[af];intro _;by_cases q5:jr v.aG=true
     .simp -implicitDefEqProofs[q5]
     .simp -implicitDefEqProofs[q5]
    .simp -implicitDefEqProofs[q4]
   .simp -implicitDefEqProofs[q3]
  .simp -implicitDefEqProofs[q2]
 .simp -implicitDefEqProofs[q1]
def aK(v:ai):Bool:=decide (mQ v=[])
def nG(v:ai)(cs:List Value)(hv:lz v)(h:aa)(H:bL h v cs):al PP 84 [.agg ⟨cs⟩] h (λr h'=>h'=h/\r= .bool (aK v)):=by
 refine aC Tryz.func84 ahQ ?_;simp only[aA,Tryz.f84];have hw:=mR v cs hv h H;obtain⟨s,k,p,rfl,h1,h2,h3⟩:=H;simp -implicitDefEqProofs;refine cE hw ?_;simp -implicitDefEqProofs[af,aK]
end Go.Proofs.Ybk.V
namespace Go.Proofs.Ybk.K
open Go Go.Am
open V (au aR ai aK aE)
structure aQ where
 size:Int
 cS:Int
deriving DecidableEq,Inhabited
structure aB where
 id:Int
 state:Int
 az:aQ
 gX:Int
 first:Int
deriving DecidableEq,Inhabited
structure CmdR where
 kind:Int
 a:Int
 az:aQ
 text:List UInt8
deriving DecidableEq,Inhabited
structure jX where
 code:Int
 n:Int
 spot:Int×Int
 ag:List Int
deriving DecidableEq,Inhabited
structure dW where
 kind:Int
 text:List UInt8
 order:aB
 time:Int
deriving DecidableEq,Inhabited
def nT:aB:=⟨0,0,⟨0,0⟩,0,0⟩
def dK(p:aQ):Bool:=decide (1<=p.size)&&(decide (p.size<=8)&&(decide (0<=p.cS)&&(decide (p.cS<=2)&&decide (2*p.cS<=p.size))))
def fy(l:List aQ):Bool:=decide (l.length<=512)&&l.all dK
def fH(n:Int):Bool:=aE n (-1048576) 1048576
def lk(a b:au):Int:=if fH a.x&&fH a.y&&fH b.x&&fH b.y then(a.x-b.x)*(a.x-b.x)+(a.y-b.y)*(a.y-b.y)else 0
def kg(a b:au)(r:Int):Bool:=decide (lk a b<r*r)
def fe(v:ai)(k:Nat):au:=v.ag.getD k ⟨0,0,0,0⟩
def sn(v:ai)(s:Nat):List Int:=(if v.aD.contains (s:Int)then[-1]else[])++(((List.range v.aG.length).filter λk=>match v.aG[k]? with
 |some p=>kg (fe v s) ⟨0,p.x,p.y,0⟩ p.r
 |none=>false).map λk:Nat=>(k:Int))
def bK(v:ai):List Bool:=if aK v then(List.range v.ag.length).map λk=>(sn v k).isEmpty else[]
def iv(v:ai):List Int:=((List.range (bK v).length).filter λk=> !(bK v).getD k true).map λk:Nat=>(k:Int)
def kK(v:ai)(a:Int):Bool:=decide (0<=a)&&(decide (a<(v.ag.length:Int)-1)&&(decide ((fe v (a.toNat+1)).row=(fe v a.toNat).row)&&decide ((fe v (a.toNat+1)).x-(fe v a.toNat).x<=v.aV)))
def nw(v:ai)(us:List Bool)(a:Int):Bool:=decide (0<=a)&&(decide (a<v.ag.length)&&(decide (a<us.length)&&us.getD a.toNat false))
def jm(v:ai)(us:List Bool)(a:Int):Nat->Nat->Nat
 |0,n=>n
 |m+1,n=>if nw v us (a+n)&&(decide (n=0) || kK v (a+n-1))then jm v us a m (n+1)else n
def ey(first:Int)(size:Nat):List Int:=(List.range size).map λk:Nat=>first+k
def lM(v:ai)(us:List Bool)(first size:Int):Option (List Int):=if size<1∨(v.ag.length:Int)<size∨(jm v us first size.toNat 0:Int)<size then none else some (ey first size.toNat)
def jc(v:ai)(l:List Int)(k:Int):Int:=if k<0∨(l.length:Int)<=k then 0 else(fe v (l.getD k.toNat 0).toNat).kind
def ry(v:ai)(l:List Int)(cS:Int):Bool:=
 ((List.range l.length).all λk:Nat=>decide (jc v l k≠1) || (decide (jc v l ((k:Int)-1)=2) || decide (jc v l ((k:Int)+1)=2)))&&
 (!(decide (cS=0)&&decide (0<((List.range l.length).filter λk:Nat=>decide (jc v l k=2)).length))&&
  decide ((((List.range l.length).filter λk:Nat=>decide (jc v l k=1)).length:Int)=cS))
def cY(v:ai)(us:List Bool)(p:aQ)(first:Int):Option (List Int):=if dK p then match lM v us first p.size with
  |some l=>if ry v l p.cS then some l else none
  |none=>none
 else none
def ir(v:ai)(us:List Bool)(p:aQ):List Int:=((List.range v.ag.length).filter λk:Nat=>(cY v us p k).isSome).map λk:Nat=>(k:Int)
def dM(v:ai)(p:aQ)(a:Int)(q:aQ)(b:Int):Bool:=(List.range p.size.toNat).all λi:Nat=>(List.range q.size.toNat).all λk:Nat=>
 decide (a+i≠b+k)&& !kg (fe v (a+i).toNat) (fe v (b+k).toNat) v.bA
structure bS where
 v:ai
 us:List Bool
 l:List aQ
 pins:List (Int×Int)
def eS(s:bS)(k:Int):Option Int:=(s.pins.find? λp=>decide (p.1=k)).map λp=>p.2
def lq(acc:List (Int×Int))(p:Int):Bool:=match acc.getLast? with
 |some q=>decide (p<=q.1)
 |none=>false
def jE(v:ai)(us:List Bool)(l:List aQ):List (Int×Int)->List (Int×Int)->Option (List (Int×Int))
 |acc,[]=>some acc
 |acc,(p,f)::r=>
  if lq acc p || decide (p<0) || decide ((l.length:Int)<=p)then none
  else if(cY v us (l.getD p.toNat default) f).isNone then none
  else if acc.all λq=>dM v (l.getD p.toNat default) f (l.getD q.1.toNat default) q.2 then jE v us l (acc++[(p,f)]) r else none
def fW(v:ai)(l:List aQ)(pins:List (Int×Int)):Option bS:=if aK v&&fy l then(jE v (bK v) l [] pins).map λa=>⟨v,bK v,l,a⟩else none
def ez(s:bS)(p:List Int)(k:Nat):Bool:=
 let f:=p.getD k 0
 if(match eS s k with
  |some x=>decide (f≠x)
  |none=>false)then true
 else if f= -1 then false
 else if(cY s.v s.us (s.l.getD k default) f).isNone then true
 else(List.range k).any λj=>decide (p.getD j 0≠-1)&& !dM s.v (s.l.getD k default) f (s.l.getD j default) (p.getD j 0)
def pb(s:bS)(p:List Int):Int:=match(List.range p.length).find? (ez s p)with
 |some k=>k
 |none=>-1
def ix(v:ai)(l:List aQ)(p:List Int)(pins:List (Int×Int)):Bool:=match fW v l pins with
 |some s=>if p.length=l.length then decide (pb s p= -1)else decide ((l.length:Int)= -1)
 |none=>decide ((l.length:Int)= -1)
def ff(l:List aQ)(p:List Int):Int:=if l.length=p.length/\fy l=true then((List.range p.length).map λk=>if 0<=p.getD k 0 then(l.getD k default).size else 0).foldl (· + ·) 0 else 0
def jD(l:List aQ)(p:List Int):Bool:=p.all (λf=>decide (0<=f))&&decide (l.length=p.length)
structure cu where
 s:bS
 levels:List (List (List Int))
 p:List Int
def fB(s:bS)(l:List Int)(k other:Nat)(at_:Int):List Int:=l.filter λf=>dM s.v (s.l.getD k default) f (s.l.getD other default) at_
def fm(s:bS):cu:=⟨s,[(List.range s.l.length).map λk:Nat=>match eS s k with
 |some a=>[a]
 |none=>s.pins.foldl (λd q=>fB s d k q.1.toNat q.2) (ir s.v s.us (s.l.getD k default))],[]⟩
def cK(p:cu):List (List Int):=p.levels.getLastD []
def kN(p:cu)(k:Nat):Bool:=decide (k<p.s.l.length)&&(eS p.s k).isSome
def iY(p:cu)(k:Nat):List Int:=if k<p.s.l.length then(cK p).getD k []else[]
def fY(p:cu)(f:Int):cu:=
 let k:=p.p.length
 if !decide (k<p.s.l.length) || (decide (f= -1)&&kN p k) || (decide (f≠-1)&& !(iY p k).contains f)then p
 else
  let now:=cK p
  let nx:=(List.range now.length).map λj=>if j=k then(if f= -1 then[]else[f])else if f≠-1/\k<j then fB p.s (now.getD j []) j k f else now.getD j []
  ⟨p.s,p.levels++[nx],p.p++[f]⟩
def fK(p:cu):cu:=if p.p.length=0 then p else⟨p.s,p.levels.dropLast,p.p.dropLast⟩
def j6(p:cu):Int:=((List.range (cK p).length).map λk=>if((cK p).getD k []).length>0 then(p.s.l.getD k default).size else 0).foldl (· + ·) 0
structure dA where
 p:cu
 l:List aQ
 aY:List Int
 nodes:Int
 tree:List Bool
 cI:Int
 fuel:Int
 stack:List (List Int×Nat)
def iQ(p:cu):List Int:=let k:=p.p.length;if kN p k then iY p k else iY p k++[-1]
def cD(h:dA):dA×Bool:=
 if h.fuel<=h.nodes then(h,false)
 else
  let h:={h with nodes:=h.nodes+1}
  if h.p.p.length=h.l.length then
   if h.cI<j6 h.p then({h with aY:=h.p.p,cI:=j6 h.p,p:=fK h.p},true)else({h with p:=fK h.p},true)
  else if h.cI<j6 h.p then({h with stack:=(iQ h.p,0)::h.stack,tree:=h.tree++[true]},true)
  else({h with tree:=h.tree++[false],p:=fK h.p},true)
def dV:Nat->dA->Bool->dA×Bool
 |0,h,g=>(h,g)
 |n+1,h,g=>if g then match h.stack with
   |[]=>(h,g)
   |(l,a)::r=>if a=l.length then dV n {h with stack:=r,p:=fK h.p} g
    else
     let h1:={h with stack:=(l,a+1)::r,p:=fY h.p (l.getD a 0)}
     dV n (cD h1).1 (cD h1).2
  else(h,g)
structure qO where
 answer:Int
 aY:List Int
 nodes:Int
 tree:List Bool
deriving Inhabited
def dQ(l:List aQ)(pins:List (Int×Int)):List Int:=pins.foldl (λp q=>p.set q.1.toNat q.2) (List.replicate l.length (-1))
def mZ(steps:Nat)(v:ai)(l:List aQ)(pins:List (Int×Int))(fuel:Int):Option qO:=match fW v l pins with
 |none=>none
 |some s=>if fuel<0∨1073741824<fuel then none else
  let least:=dQ l pins
  let h0:dA:=⟨fm s,l,least,0,[],ff l least,fuel,[]⟩
  let r:=dV steps (cD h0).1 (cD h0).2
  some ⟨if !r.2 then 3 else if jD l r.1.aY then 1 else 2,r.1.aY,r.1.nodes,r.1.tree⟩
def gj(steps:Nat)(v:ai)(l:List aQ)(pins:List (Int×Int))(old:List Int)(fuel:Int):qO×Int:=
 if !ix v l old pins then(⟨0,[],0,[]⟩,1)
 else match mZ steps v l pins fuel with
  |none=>(⟨0,[],0,[]⟩,1)
  |some r=>if r.answer=3/\ff l r.aY<=ff l old then({r with aY:=old},0)else(r,0)
end Go.Proofs.Ybk.K
namespace Go.Am
open Go
section
variable {α:Type}
def Ow(e:TypeId)(enc:α->List Value)(h0 h:aa)(o:Option Nat)(xs:List α)(v:Value):Prop:=
 v= .slice (o.map λb=>⟨b,0,none⟩) xs.length xs.length/\(match o with
  |none=>xs=[]
  |some b=>h.f b= .row true e (xs.flatMap enc)/\h0.n<=b/\b<h.n)
variable {e:TypeId} {enc:α->List Value} {h0 h h':aa} {o o':Option Nat} {v:Value} {xs:List α}
def Ow.nil:Ow e enc h0 h none ([]:List α) (.slice none 0 0):=⟨rfl,rfl⟩
def Ow.keep(H:Ow e enc h0 h o xs v)(hs:∀b,o=some b->h'.f b=h.f b)(hn:h.n<=h'.n):Ow e enc h0 h' o xs v:=by
 obtain⟨rfl,z⟩:=H;refine⟨rfl,?_⟩;cases o with
 |none=>exact z
 |some b=>exact⟨by rw[hs b rfl];exact z.1,z.2.1,cV z.2.2 hn⟩
def Ow.lt(H:Ow e enc h0 h o xs v):∀b,o=some b->h0.n<=b/\b<h.n:=by
 rintro b rfl;exact⟨H.2.2.1,H.2.2.2⟩
def Ow.ext(H:Ow e enc h0 h o xs v)(E:Ext h h'):Ow e enc h0 h' o xs v:=H.keep (λb hb=>E.f b (H.lt b hb).2) E.n
def Ow.own(H:Ow e enc h0 h o xs v):cO e enc h0 h v xs:=by
 obtain⟨rfl,z⟩:=H;cases o with
 |none=>exact⟨none,rfl,.inl ⟨rfl,z⟩⟩
 |some b=>exact⟨_,rfl,.inr ⟨b,rfl,z.1,z.2.1,z.2.2⟩⟩
def Ow.iN(H:cO e enc h0 h v xs):∃o,Ow e enc h0 h o xs v:=by
 obtain⟨ad,rfl,z⟩:=H;rcases z with⟨rfl,rfl⟩|⟨b,rfl,z2,z3,z4⟩
 .exact⟨none,rfl,rfl⟩
 .exact⟨some b,rfl,z2,z3,z4⟩
def Ow.sl(H:Ow e enc h0 h o xs v):dt e enc h v xs:=H.own.sl
def Ow.row{b:Nat}(H:Ow e enc h0 h (some b) xs v):h.f b= .row true e (xs.flatMap enc):=H.2.1
def bY(h:aa)(o:Option Nat)(c:aW):aa:=match o with
 |none=>h.new c
 |some b=>(h.set b .dead).new c
def cW(h:aa)(o:Option Nat)(c:aW):(bY h o c).n=h.n+1:=by cases o<;>rfl
def zU(h:aa)(o:Option Nat)(c:aW):(bY h o c).g=h.g:=by cases o<;>rfl
def qS(h:aa)(o:Option Nat)(c:aW){b:Nat}(hb:b<h.n)(ho:o≠some b):(bY h o c).f b=h.f b:=by
 have n1:¬b=h.n:=by omega
 cases o with
 |none=>simp[bY,n1]
 |some x=>
  have n3:¬b=x:=λq=>ho (by rw[q]);simp[bY,n1,n3]
def mr(h:aa)(o:Option Nat)(c:aW):(bY h o c).f h.n=c:=by cases o<;>simp[bY]
def Ext.app(E:Ext h0 h)(ho:∀b,o=some b->h0.n<=b/\b<h.n)(c:aW):Ext h0 (bY h o c):=by
 cases o with
 |none=>exact E.bI _
 |some b=>exact(E.dp (ho b rfl).1 _).bI _
def Ow.other{β:Type}{e':TypeId}{enc':β->List Value}{ys:List β}{u:Value}(H:Ow e enc h0 h o xs v)(hne:∀b,o=some b->o'≠some b)(c:aW):Ow e enc h0 (bY h o' c) o xs v:=
 H.keep (λb hb=>qS h o' c (H.lt b hb).2 (hne b hb)) (by rw[cW];omega)
def Ow.app(H:Ow e enc h0 h o xs v)(hn:h0.n<=h.n)(ys:List α){cells:List Value}(hc:cells=xs.flatMap enc++ys.flatMap enc){n:Nat}(hl:n=ys.length):
  Ow e enc h0 (bY h o (.row true e cells)) (some h.n) (xs++ys) (.slice (some ⟨h.n,0,none⟩) (xs.length+n) (xs.length+n)):=by
 refine⟨by subst hl;simp,?_,hn,by rw[cW];omega⟩;rw[mr,hc,List.flatMap_append]
def Qh{P:Program}{σ:St}{t u:TypeId}{s y:Operand}{sz by_:Nat}{zl l:List Value}{n:Nat}(H:Ow e enc h0 σ.m.h o xs v)(hel:gu P t=some (e,sz))(hz:eg P e=some zl)(hby:jB P e=some by_)(hco:P.cellsOf e=sz)
  (hs0:0<sz) (hb0:0<by_) (hzl:zl.length=sz) (hk:∀x,(enc x).length=sz) (hs:aN σ s=some v) (hsrc:dS P σ u sz y=some (l,n)) (hone:l.all cL=true) (hn:n≠0) (hmax:(xs.length+n)*by_<=dH):
  dC P σ t u s y=some (.slice (some ⟨σ.m.h.n,0,none⟩) (xs.length+n) (xs.length+n),⟨σ.t,⟨σ.m.x,bY σ.m.h o (.row true e (xs.flatMap enc++l))⟩⟩):=by
 obtain⟨rfl,z⟩:=H;cases o with
 |none=>
  simp only at z;subst z;simp only[qR,iG]at hmax;simp[dC,hel,hz,hby,hsrc,hone,hs0,hb0,hzl,hs,hn,hmax,bY]
 |some b=>
  obtain⟨z1,z2,z3⟩:=z;have hfl:=fr sz hk xs;have htk:(xs.flatMap enc).take (xs.length*sz)=xs.flatMap enc:=b9 (by omega);have hone':l.all cL=true:=hone;simp[dC,hel,hz,hby,hsrc,hs0,hb0,hzl,hs,hmax,bY,z1,hco,hfl,htk];simpa using hone
end
end Go.Am
namespace Go.Proofs.Ybk.V
open Go Go.Am
set_option maxHeartbeats 2000000
def akv(xs:List au):(xs.flatMap ao).all cL=true:=by
 rw[cz];intro v hv;obtain⟨s,_,hs⟩:=List.mem_flatMap.1 hv;simp[ao]at hs;rcases hs with rfl|rfl|rfl|rfl<;>rfl
def ai9(xs:List aR):(xs.flatMap aZ).all cL=true:=by
 rw[cz];intro v hv;obtain⟨s,_,hs⟩:=List.mem_flatMap.1 hv;simp[aZ]at hs;rcases hs with rfl|rfl|rfl<;>rfl
def Ii(s:Value)(xs:List au)(hl:xs.length<=1073741824)(h:aa)(hs:cA h s xs):al PP 59 [s] h (λv h'=>Ext h h'/\cO 99 ao h h' v xs):=by
 refine aC Tryz.func59 ahs ?_;simp only[aA,Tryz.f59];obtain⟨ad,c,rfl,hn,hz⟩:=hs;cases ad with
 |none=>
  have:xs=[]:=by
   rcases hz with z|⟨b,off,w,cells,rest,z,_⟩
   .exact z
   .simp at z
  subst this;have:=hn rfl;subst this;simp -implicitDefEqProofs;exact⟨Ext.bJ h,cO.nil⟩
 |some ad=>
  by_cases h0:xs=[]
  .subst h0;simp -implicitDefEqProofs[aM,dC,dS,dH];exact⟨(Ext.new h _).dp (aX _) _ |>.bI _,_,rfl,.inr ⟨_,rfl,by simp⟩⟩
  .obtain⟨b,off,w,cells,rest,e,z2,z3,z4,z5⟩:∃b off w cells rest,some ad=some (⟨b,off,none⟩:Addr)/\h.f b= .row w 99 cells/\cells.drop off=xs.flatMap ao++rest/\off<=cells.length/\b<h.n:=by
    rcases hz with z|z
    .exact absurd z h0
    .exact z
   obtain rfl:=bU e
   obtain⟨m,hm⟩:=nm xs.length
   have hm0:¬m=0:=by rw[hm];simpa using h0
   obtain⟨F,hF⟩:=nm (xs.flatMap ao)
   have hFl:F.length=m*4:=by rw[hF,fr 4 fD,hm]
   have hone:=akv xs
   rw[<-hF]at z3 hone
   have hlen:off+m*4<=cells.length:=by
    have:=congrArg List.length z3;rw[eX,bH,hFl]at this;omega
   have htk:(cells.drop off).take (m*4)=F:=by rw[z3,List.take_append_of_le_length (by omega),b9 (by omega)]
   have hbn:¬b=h.n:=by omega
   have hmx:m*32<=140737488355328:=by omega
   rw[<-hm]
   simp -implicitDefEqProofs[aM,dC,dS,dH,hm0,hbn,z2,hlen,htk,hone,hmx]
   exact⟨(Ext.new h _).dp (aX _) _ |>.bI _,_,by rw[hm],.inr ⟨_,rfl,by simp[hF]⟩⟩
def Ih(s:Value)(xs:List aR)(hl:xs.length<=1073741824)(h:aa)(hs:cG h s xs):al PP 61 [s] h (λv h'=>Ext h h'/\cO 103 aZ h h' v xs):=by
 refine aC Tryz.func61 ahv ?_;simp only[aA,Tryz.f61];obtain⟨ad,c,rfl,hn,hz⟩:=hs;cases ad with
 |none=>
  have:xs=[]:=by
   rcases hz with z|⟨b,off,w,cells,rest,z,_⟩
   .exact z
   .simp at z
  subst this;have:=hn rfl;subst this;simp -implicitDefEqProofs;exact⟨Ext.bJ h,cO.nil⟩
 |some ad=>
  by_cases h0:xs=[]
  .subst h0;simp -implicitDefEqProofs[aM,dC,dS,dH];exact⟨(Ext.new h _).dp (aX _) _ |>.bI _,_,rfl,.inr ⟨_,rfl,by simp⟩⟩
  .obtain⟨b,off,w,cells,rest,e,z2,z3,z4,z5⟩:∃b off w cells rest,some ad=some (⟨b,off,none⟩:Addr)/\h.f b= .row w 103 cells/\cells.drop off=xs.flatMap aZ++rest/\off<=cells.length/\b<h.n:=by
    rcases hz with z|z
    .exact absurd z h0
    .exact z
   obtain rfl:=bU e
   obtain⟨m,hm⟩:=nm xs.length
   have hm0:¬m=0:=by rw[hm];simpa using h0
   obtain⟨F,hF⟩:=nm (xs.flatMap aZ)
   have hFl:F.length=m*3:=by rw[hF,fr 3 pE,hm]
   have hone:=ai9 xs
   rw[<-hF]at z3 hone
   have hlen:off+m*3<=cells.length:=by
    have:=congrArg List.length z3;rw[eX,bH,hFl]at this;omega
   have htk:(cells.drop off).take (m*3)=F:=by rw[z3,List.take_append_of_le_length (by omega),b9 (by omega)]
   have hbn:¬b=h.n:=by omega
   have hmx:m*24<=140737488355328:=by omega
   rw[<-hm]
   simp -implicitDefEqProofs[aM,dC,dS,dH,hm0,hbn,z2,hlen,htk,hone,hmx]
   exact⟨(Ext.new h _).dp (aX _) _ |>.bI _,_,by rw[hm],.inr ⟨_,rfl,by simp[hF]⟩⟩
def su(a b:au):Int:=if fa a b=true then -1 else if fa b a=true then 1 else 0
def XR(a b:au)(h:aa):al PP 164 [bg a,bg b] h (λv h'=>h'=h/\v= .int .i64 (su a b)):=by
 refine aC Tryz.func164 afG ?_;simp only[aA,Tryz.f164];unfold su;have e1:[Value.int .i64 a.row,.int .i64 a.x,.int .i64 a.y,.int .i64 a.kind]=ao a:=rfl;simp -implicitDefEqProofs[bg,ao];refine(A5 a b h).mono ?_;rintro v h' ⟨rfl,rfl⟩;simp -implicitDefEqProofs[af];intro _;by_cases h1:fa a b=true
 .simp -implicitDefEqProofs[h1]
 .simp -implicitDefEqProofs[h1];refine cE (A5 b a h') ?_;simp -implicitDefEqProofs[af];intro _;by_cases h2:fa b a=true
  .simp -implicitDefEqProofs[h2]
  .simp -implicitDefEqProofs[h2]
def eZ(s x:au):Bool:=decide (x.row=s.row)&&decide (x.x=s.x)
def V8(s x:au)(b:Nat)(w:Bool)(h:aa)(hb:h.f b= .row w 99 (ao s)):al PP 167 [bg x,.pointer (some ⟨b,0,none⟩)] h (λv h'=>h'=h/\v= .bool (eZ s x)):=by
 refine aC Tryz.func167 afJ ?_;simp only[aA,Tryz.f167];unfold eZ;by_cases h1:x.row=s.row
 .simp -implicitDefEqProofs[bg,ao,hb,h1]
 .simp -implicitDefEqProofs[bg,ao,hb,h1]
def eL{α:Type}(f:α->Bool)(l:List α):Int:=if l.any f=true then(l.findIdx f:Int)else -1
def TY(s fv:Value)(l:List au)(p:au->Bool)(m:Nat)(h:aa)(n:Nat)(σ:St):Prop:=∃i:Nat,n=m-i/\i<=m/\σ.m.h=h/\σ.t.get 0=some s/\σ.t.get 1=some fv/\σ.t.get 7=some (.int .i64 (m:Nat))/\σ.t.get 8=some (.int .i64 (i:Nat))/\∀j t,j<i->l[j]? =some t->p t=false
def xS{α:Type}{p:α->Bool}{l:List α}{i:Nat}{t:α}(h:l[i]? =some t)(hp:p t=true)(hb:∀j t,j<i->l[j]? =some t->p t=false):eL p l=i:=by
 have hlt:=(cP.mp h).1;have hm:t∈l:=dE h;have ha:l.any p=true:=lB.2 ⟨t,hm,hp⟩;unfold eL;rw[if_pos ha];congr 1;rw[List.findIdx_eq hlt];refine⟨by rw[(cP.mp h).2];exact hp,λj hj=>?_⟩;exact hb j _ hj (aq (by omega))
def Ax{α:Type}{p:α->Bool}{l:List α}(hb:∀j t,j<l.length->l[j]? =some t->p t=false):eL p l= -1:=by
 unfold eL;rw[if_neg];intro q;obtain⟨t,ht,hp⟩:=lB.1 q;obtain⟨j,hj,rfl⟩:=List.mem_iff_getElem.1 ht;rw[hb j _ hj (aq hj)]at hp;cases hp
def aaw(s:Value)(l:List au)(t:au)(b:Nat)(w:Bool)(hl:l.length<=1073741824)(h:aa)(hs:cA h s l)(hb:h.f b= .row w 99 (ao t)):
  al PP 166 [s,.func (.func 167) #[] #[.pointer (some ⟨b,0,none⟩)]] h (λv h'=>h'=h/\v= .int .i64 (eL (eZ t) l)):=by
 refine aC Tryz.func166 afI ?_;simp only[aA,Tryz.f166];obtain⟨ad,c,rfl⟩:=hs.shape;obtain⟨m,hm⟩:=nm l.length;rw[<-hm]at hs ⊢;simp -implicitDefEqProofs;refine bG (TY (.slice ad m c) (.func (.func 167) #[] #[.pointer (some ⟨b,0,none⟩)]) l (eZ t) m h) _ ⟨0,rfl,by omega,rfl,by simp,by simp,by simp,by simp,by omega⟩ ?_;rintro n ⟨T,⟨x,H⟩⟩ ⟨i,rfl,hi,hH,g0,g1,g7,g8,aJ⟩;simp at hH g0 g1 g7 g8;subst hH;simp -implicitDefEqProofs[g0,g1,g7,g8];refine bR (λhc=>?_) (λhc=>?_)
 .have hil:i<m:=by omega
  have hti:l[i]? =some l[i]:=aq (by omega);obtain⟨_,b',o,wb,cs,r,rfl,hb',hd,hlc,_⟩:=hs.at 4 fD hti;obtain⟨u,hu⟩:=nm l[i];rw[<-hu]at hd hti;have w1:=bO (i:=i) (by omega);simp -implicitDefEqProofs[g0,g1,g7,g8,hil,hb',hd,hlc,ao];refine cE (V8 t u b w H hb) ?_;simp -implicitDefEqProofs[af];intro _;by_cases h1:eZ t u=true
  .simp -implicitDefEqProofs[h1,g0,g1,g7,g8];exact(xS hti h1 aJ).symm
  .simp -implicitDefEqProofs[h1,g0,g1,g7,g8,w1];refine⟨m-(i+1),by omega,i+1,rfl,by omega,rfl,by simp[g0],by simp[g1],by simp[g7],by simp,λj z hj hz=>?_⟩;rcases Nat.lt_or_ge j i with q|q
   .exact aJ j z q hz
   .have:j=i:=(by omega);subst this;rw[hti]at hz;obtain rfl:=bU hz;simpa using h1
 .simp -implicitDefEqProofs[g0,g1,g7,g8];exact(Ax (λj z hj hz=>aJ j z (by omega) hz)).symm
end Go.Proofs.Ybk.V
namespace Go.Proofs.Ybk.K
open Go Go.Am
set_option maxHeartbeats 4000000
open V (au aR ai ao aZ ab bg aK aE cA cG a8 bL)
def ah(p:aQ):List Value:=[.int .i64 p.size,.int .i64 p.cS]
def du(p:aQ):Value:=.agg ⟨ah p⟩
def ik(p:Int×Int):List Value:=[.int .i64 p.1,.int .i64 p.2]
def ko(s:aQ):(ah s).length=2:=rfl
def qs(s:Int×Int):(ik s).length=2:=rfl
def nG(p:aQ)(h:aa):al PP 108 [du p] h (λv h'=>h'=h/\v= .bool (dK p)):=by
 refine aC Tryz.func108 aeM ?_;simp only[aA,Tryz.f108];unfold dK;by_cases h1:p.size<1
 .have e1:¬1<=p.size:=by omega
  simp -implicitDefEqProofs[du,ah,h1,e1]
 by_cases h2:8<p.size
 .have e2:¬p.size<=8:=by omega
  simp -implicitDefEqProofs[du,ah,h1,h2,e2]
 by_cases h3:p.cS<0
 .have e3:¬0<=p.cS:=by omega
  simp -implicitDefEqProofs[du,ah,h1,h2,h3,e3]
 have e1:1<=p.size:=by omega
 have e2:p.size<=8:=by omega
 have e3:0<=p.cS:=by omega
 by_cases h4:p.cS<=2
 .have w1:IntKind.wrap .i64 (2*p.cS)=2*p.cS:=bB (by omega);simp -implicitDefEqProofs[du,ah,h1,h2,h3,h4,e1,e2,e3,w1]
 .simp -implicitDefEqProofs[du,ah,h1,h2,h3,h4,e1,e2,e3]
def VH(p:aQ)(h:aa):al PP 254 [du p] h (λv h'=>h'=h/\v= .bool (!dK p)):=by
 refine aC Tryz.func254 agI ?_;simp only[aA,Tryz.f254];simp -implicitDefEqProofs[du,ah];refine cE (nG p h) ?_;simp -implicitDefEqProofs[af]
abbrev mT:=dt 29 ah
abbrev vt:=dt 69 ik
def Ue(s:Value)(l:List aQ)(m:Nat)(h:aa)(n:Nat)(σ:St):Prop:=∃i:Nat,n=m-i/\i<=m/\σ.m.h=h/\σ.t.get 0=some s/\σ.t.get 1=some (.func (.func 254) #[] #[])/\σ.t.get 7=some (.int .i64 (m:Nat))/\σ.t.get 8=some (.int .i64 (i:Nat))/\∀j t,j<i->l[j]? =some t->(!dK t)=false
def aaz(s:Value)(l:List aQ)(hl:l.length<=1073741824)(h:aa)(hs:mT h s l):
  al PP 295 [s,.func (.func 254) #[] #[]] h (λv h'=>h'=h/\v= .int .i64 (V.eL (λp=> !dK p) l)):=by
 refine aC Tryz.func295 ag1 ?_;simp only[aA,Tryz.f295];obtain⟨ad,c,rfl⟩:=hs.shape;obtain⟨m,hm⟩:=nm l.length;rw[<-hm]at hs ⊢;simp -implicitDefEqProofs;refine bG (Ue (.slice ad m c) l m h) _ ⟨0,rfl,by omega,rfl,by simp,by simp,by simp,by simp,by omega⟩ ?_;rintro n ⟨T,⟨x,H⟩⟩ ⟨i,rfl,hi,hH,g0,g1,g7,g8,aJ⟩;simp at hH g0 g1 g7 g8;subst hH;simp -implicitDefEqProofs[g0,g1,g7,g8];refine bR (λhc=>?_) (λhc=>?_)
 .have hil:i<m:=by omega
  have hti:l[i]? =some l[i]:=aq (by omega);obtain⟨_,b',o,wb,cs,r,rfl,hb',hd,hlc,_⟩:=hs.at 2 ko hti;obtain⟨u,hu⟩:=nm l[i];rw[<-hu]at hd hti;have w1:=bO (i:=i) (by omega);simp -implicitDefEqProofs[g0,g1,g7,g8,hil,hb',hd,hlc,ah];refine cE (VH u H) ?_;simp -implicitDefEqProofs[af];intro _;by_cases h1:dK u=true
  .simp -implicitDefEqProofs[h1,g0,g1,g7,g8,w1];refine⟨m-(i+1),by omega,i+1,rfl,by omega,rfl,by simp[g0],by simp[g1],by simp[g7],by simp,λj z hj hz=>?_⟩;rcases Nat.lt_or_ge j i with q|q
   .exact aJ j z q hz
   .have:j=i:=(by omega);subst this;rw[hti]at hz;obtain rfl:=bU hz;simp[h1]
  .simp -implicitDefEqProofs[h1,g0,g1,g7,g8];exact(V.xS hti (by simp[h1]) aJ).symm
 .simp -implicitDefEqProofs[g0,g1,g7,g8];exact(V.Ax (λj z hj hz=>aJ j z (by omega) hz)).symm
def Yd(s:Value)(l:List aQ)(hl:l.length<=1073741824)(h:aa)(hs:mT h s l):
  al PP 253 [s,.func (.func 254) #[] #[]] h (λv h'=>h'=h/\v= .bool (!l.all dK)):=by
 refine aC Tryz.func253 agH ?_;simp only[aA,Tryz.f253];obtain⟨ad,c,rfl⟩:=hs.shape;simp -implicitDefEqProofs;refine cE (aaz _ l hl h hs) ?_;have e:(!l.all dK)=decide (0<=V.eL (λp=> !dK p) l):=by
  unfold V.eL;cases q:l.any (λp=> !dK p)with
  |true=>
   simp only[if_true];rw[show l.all dK=false by rw[<-mq,cz];intro z;obtain⟨t,ht,hp⟩:=lB.1 q;rw[z t ht]at hp;cases hp];simp
  |false=>
   simp only[fw,if_false];rw[show l.all dK=true by rw[cz];intro t ht;cases hm:dK t with
    |true=>rfl
    |false=>rw[List.any_eq_false]at q;exact absurd (by simp[hm]) (q t ht)]
   simp
 simp -implicitDefEqProofs[af,e]
def C6(s:Value)(l:List aQ)(hl:l.length<=1073741824)(h:aa)(hs:mT h s l):al PP 209 [s] h (λv h'=>h'=h/\v= .bool (fy l)):=by
 refine aC Tryz.func209 agc ?_;simp only[aA,Tryz.f209];obtain⟨ad,c,rfl⟩:=hs.shape;unfold fy;by_cases h1:l.length<=512
 .have h1':(l.length:Int)<=512:=by omega
  simp -implicitDefEqProofs[h1,h1'];refine cE (Yd _ l hl h hs) ?_;simp -implicitDefEqProofs[af]
 .have h1':¬(l.length:Int)<=512:=by omega
  simp -implicitDefEqProofs[h1,h1']
def Uf(a b:au)(h:aa)(n:Nat)(σ:St):Prop:=∃i:Nat,n=2-i/\i<=2/\σ.m.h=h.new (.row true 99 (ao a++ao b))/\σ.t.get 2=some (.pointer (some ⟨2,0,some 0⟩))/\σ.t.get 3=some (.pointer (some ⟨3,0,some 0⟩))/\σ.t.get 11=some (.slice (some ⟨h.n,0,none⟩) 2 2)/\σ.t.get 12=some (.int .i64 2)/\σ.t.get 13=some (.int .i64 (i:Nat))/\
 σ.m.x.look 2=some (99,ao a)/\σ.m.x.look 3=some (99,ao b)/\(0<i->fH a.x=true/\fH a.y=true)/\(1<i->fH b.x=true/\fH b.y=true)
def Zq(a b:au)(h:aa):al PP 296 [bg a,bg b] h (λv h'=>Ext h h'/\v= .int .i64 (lk a b)):=by
 refine aC Tryz.func296 ag5 ?_;simp only[aA,Tryz.f296];have hr8:List.range 8=[0,1,2,3,4,5,6,7]:=rfl;simp -implicitDefEqProofs[bg,ao,aM,hr8];refine bG (Uf a b h) _ ⟨0,rfl,by omega,by simp[ao],by simp,by simp,by simp,by simp,by simp,by simp[ao],by simp[ao],by omega,by omega⟩ ?_;rintro n ⟨T,⟨x,H⟩⟩ ⟨i,rfl,hi,hH,g2,g3,g11,g12,g13,x2,x3,ca,cb⟩;simp at hH g2 g3 g11 g12 g13 x2 x3;subst hH;simp -implicitDefEqProofs[g2,g3,g11,g12,g13,x2,x3];refine bR (λhc=>?_) (λhc=>?_)
 .have w1:=bO (i:=i) (by omega);obtain⟨s,hs⟩:=nm (if i=0 then a else b);obtain⟨cs,hcs⟩:=nm (ao a++ao b);obtain⟨r,hd⟩:∃r,cs.drop (i*4)=ao s++r:=by
   rcases(by omega:i=0∨i=1)with e|e
   .subst e;exact⟨ao b,by rw[hs,hcs];rfl⟩
   .subst e;exact⟨[],by rw[hs,hcs];rfl⟩
  have hl:i*4+4<=cs.length:=by rw[hcs];show _<=8;omega
  have uH:(i:Int)<2:=by omega
  have fin:(fH s.x=false∨fH s.y=false)->lk a b=0:=by
   intro q;unfold lk;rw[if_neg];rcases(by omega:i=0∨i=1)with e|e
   .rw[if_pos e]at hs;subst hs;rcases q with q|q<;>simp[q]
   .rw[if_neg (by omega)]at hs;subst hs;rcases q with q|q<;>simp[q]
  rw[<-hcs];simp -implicitDefEqProofs[g2,g3,g11,g12,g13,x2,x3,uH,hd,hl,ao];refine cE (V.sx s.x (h.new (.row true 99 cs))) ?_;simp -implicitDefEqProofs[af];intro _;by_cases h1:fH s.x=true
  .have h1':=h1;unfold fH at h1';simp -implicitDefEqProofs[h1'];refine cE (V.sx s.y (h.new (.row true 99 cs))) ?_;simp -implicitDefEqProofs[af];intro _;by_cases h2:fH s.y=true
   .have h2':=h2;unfold fH at h2';simp -implicitDefEqProofs[h2',g2,g3,g11,g12,g13,x2,x3,w1];refine⟨2-(i+1),by omega,i+1,rfl,by omega,by rw[hcs],by simp[g2],by simp[g3],by simp[g11],by simp[g12],by simp,by simp[x2,ao],by simp[x3,ao],λ_=>?_,λq=>?_⟩
    .rcases(by omega:i=0∨i=1)with e|e
     .rw[if_pos e]at hs;rw[<-hs];exact⟨h1,h2⟩
     .exact ca (by omega)
    .have e:i=1:=(by omega);rw[if_neg (by omega)]at hs;rw[<-hs];exact⟨h1,h2⟩
   .have h2':=h2;unfold fH at h2';have e:=fin (.inr (by simpa using h2));simp -implicitDefEqProofs[h2',e];exact Ext.new _ _
  .have h1':=h1;unfold fH at h1';have e:=fin (.inl (by simpa using h1));simp -implicitDefEqProofs[h1',e];exact Ext.new _ _
 .obtain⟨ca1,ca2⟩:=ca (by omega);obtain⟨cb1,cb2⟩:=cb (by omega);have e:lk a b=(a.x-b.x)*(a.x-b.x)+(a.y-b.y)*(a.y-b.y):=by unfold lk;rw[if_pos (by simp[ca1,ca2,cb1,cb2])]
  simp[fH,aE]at ca1 ca2 cb1 cb2;obtain⟨dx,hdx⟩:=nm (a.x-b.x);obtain⟨dy,hdy⟩:=nm (a.y-b.y);have sq:∀d:Int,-2097152<=d->d<=2097152->0<=d*d/\d*d<=4398046511104:=λd h1 h2=>by
   rcases Int.le_total 0 d with q|q
   .exact⟨Int.mul_nonneg q q,by have:=Int.mul_le_mul h2 h2 q (by omega);simpa using this⟩
   .have:=Int.mul_le_mul (show -d<=2097152 by omega) (show -d<=2097152 by omega) (by omega) (by omega);rw[Int.neg_mul_neg]at this;exact⟨by rw[<-Int.neg_mul_neg];exact Int.mul_nonneg (by omega) (by omega),this⟩
  have b1:=sq dx (by omega) (by omega);have b2:=sq dy (by omega) (by omega);have w1:IntKind.wrap .i64 (a.x-b.x)=dx:=by rw[bB (by omega)];omega
  have w2:IntKind.wrap .i64 (a.y-b.y)=dy:=by rw[bB (by omega)];omega
  have w3:IntKind.wrap .i64 (dx*dx)=dx*dx:=bB (by omega);have w4:IntKind.wrap .i64 (dy*dy)=dy*dy:=bB (by omega);have w5:IntKind.wrap .i64 (dx*dx+dy*dy)=dx*dx+dy*dy:=bB (by omega);rw[e,<-hdx,<-hdy];simp -implicitDefEqProofs[g2,g3,g11,g12,g13,x2,x3,ao,w1,w2,w3,w4,w5];exact Ext.new _ _
def Ij(a b:au)(r:Int)(hr: -2147483648<=r/\r<=2147483648)(h:aa):al PP 255 [bg a,bg b,.int .i64 r] h (λv h'=>Ext h h'/\v= .bool (kg a b r)):=by
 refine aC Tryz.func255 agJ ?_;simp only[aA,Tryz.f255];have hf:=Zq a b h;have sq:0<=r*r/\r*r<=4611686018427387904:=by
  rcases Int.le_total 0 r with q|q
  .exact⟨Int.mul_nonneg q q,by have:=Int.mul_le_mul hr.2 hr.2 q (by omega);simpa using this⟩
  .have:=Int.mul_le_mul (show -r<=2147483648 by omega) (show -r<=2147483648 by omega) (by omega) (by omega);rw[Int.neg_mul_neg]at this;exact⟨by rw[<-Int.neg_mul_neg];exact Int.mul_nonneg (by omega) (by omega),this⟩
 have w1:IntKind.wrap .i64 (r*r)=r*r:=bB (by omega);simp only[bg,ao]at hf;simp -implicitDefEqProofs[bg,ao];refine hf.mono ?_;rintro v h' ⟨E,rfl⟩;simp -implicitDefEqProofs[af,w1];intro _;exact⟨E,by unfold kg;rfl⟩
structure fT(v:ai):Prop where
 ag:V.gL v.ag=true
 aV:1<=v.aV/\v.aV<=1048576
 bA:0<=v.bA/\v.bA<=1048576
 aD:V.iw v.aD v.ag.length=true
 aG:V.jr v.aG=true
def jF{v:ai}(h:aK v=true):fT v:=by
 unfold aK V.mQ at h;rw[de]at h;split at h
 .cases h
 rename_i h1;split at h
 .cases h
 rename_i h2;split at h
 .cases h
 rename_i h3;split at h
 .cases h
 rename_i h4;split at h
 .cases h
 rename_i h5;simp only[Bool.not_eq_false]at h1 h2 h3 h4 h5;simp[aE]at h2 h3;exact⟨h1,h2,h3,h4,h5⟩
def fT.len{v:ai}(M:fT v):0<v.ag.length/\v.ag.length<=4096:=by
 have:=M.ag;unfold V.gL at this;simp at this;exact this.2
def fT.ef{v:ai}(M:fT v){k:Nat}{s:au}(hk:v.ag[k]? =some s):(0<=s.kind/\s.kind<=2)/\(0<=s.row/\s.row<=999)/\(-1048576<=s.x/\s.x<=1048576)/\(-1048576<=s.y/\s.y<=1048576):=by
 have h:=M.ag;unfold V.gL at h;rw[bQ,cz]at h;have hlt:=(cP.mp hk).1;have:=h.1 k (dF.2 hlt);unfold V.fJ at this;rw[hk]at this;simp only[bQ]at this;have h2:=this.1;unfold V.jW at h2;simp[aE]at h2;omega
def fT.gy{v:ai}(M:fT v){k:Nat}{p:aR}(hk:v.aG[k]? =some p):(-1048576<=p.x/\p.x<=1048576)/\(-1048576<=p.y/\p.y<=1048576)/\(1<=p.r/\p.r<=1048576):=by
 have h:=M.aG;unfold V.jr at h;rw[bQ,cz]at h;have hlt:=(cP.mp hk).1;have:=h.1 k (dF.2 hlt);unfold V.iO at this;rw[hk]at this;simp only at this;unfold V.kO at this;simp[aE]at this;omega
def fT.wH{v:ai}(M:fT v):v.aG.length<=200:=by
 have:=M.aG;unfold V.jr at this;simp at this;exact this.2
def fT.vZ{v:ai}(M:fT v):v.aD.length<=200:=by
 have:=M.aD;unfold V.iw at this;simp at this;exact this.2
def fT.small{v:ai}(M:fT v):V.lz v:=⟨by have:=M.len;omega,by have:=M.vZ;omega,by have:=M.wH;omega⟩
def eC(h:aa)(v:ai)(cs:List Value):Prop:=∃s k p,cs=[s,.int .i64 v.aV,.int .i64 v.bA,k,p]/\aL 99 ao h s v.ag/\aL 3 ab h k v.aD/\aL 103 aZ h p v.aG
def eC.dv{h:aa}{v:ai}{cs:List Value}(H:eC h v cs):bL h v cs:=by
 obtain⟨s,k,p,rfl,h1,h2,h3⟩:=H;exact⟨s,k,p,rfl,h1.sl,h2.sl,h3.sl⟩
def eC.ext{h h':aa}{v:ai}{cs:List Value}(H:eC h v cs)(E:Ext h h'):eC h' v cs:=by
 obtain⟨s,k,p,rfl,h1,h2,h3⟩:=H;exact⟨s,k,p,rfl,h1.ext E,h2.ext E,h3.ext E⟩
def eC.er{h h':aa}{v:ai}{cs:List Value}(H:eC h v cs){S:List Nat}(C:cX S h h')(hs:gZ S h):eC h' v cs:=by
 obtain⟨s,k,p,rfl,h1,h2,h3⟩:=H;exact⟨s,k,p,rfl,h1.er C hs,h2.er C hs,h3.er C hs⟩
def eC.wk{h h':aa}{v:ai}{cs:List Value}(H:eC h v cs)(W:Wk h h'):eC h' v cs:=by
 obtain⟨s,k,p,rfl,h1,h2,h3⟩:=H;exact⟨s,k,p,rfl,h1.wk W,h2.wk W,h3.wk W⟩
def eJ(b:Bool):List Value:=[.bool b]
def xw(b:Bool):(eJ b).length=1:=rfl
abbrev tL:=dt 4 eJ
def mM{v:ai}{k:Nat}(h:k<v.ag.length):v.ag[k]? =some (fe v k):=by
 unfold fe;rw[bu,aq h];rfl
def Bg(v:ai)(M:fT v)(cs:List Value)(a:Int)(ha: -4611686018427387904<=a/\a<=4611686018427387904)(h:aa)(H:bL h v cs):al PP 311 [.agg ⟨cs⟩,.int .i64 a] h (λr h'=>h'=h/\r= .bool (kK v a)):=by
 refine aC Tryz.func311 aha ?_;simp only[aA,Tryz.f311];obtain⟨s,k,p,rfl,h1,h2,h3⟩:=H;obtain⟨ad1,c1,e1⟩:=h1.shape;obtain⟨ad2,c2,e2⟩:=h2.shape;obtain⟨ad3,c3,e3⟩:=h3.shape;subst e1;subst e2;subst e3;have hlen:=M.len;obtain⟨m,hm⟩:=nm v.ag.length;unfold kK;rw[<-hm]at h1 hlen ⊢;by_cases q1:0<=a
 .have w1:IntKind.wrap .i64 ((m:Int)-1)=(m:Int)-1:=bB (by omega);by_cases q2:a<(m:Int)-1
  .obtain⟨i,rfl⟩:∃i:Nat,a=i:=⟨a.toNat,by omega⟩;obtain⟨j,hj⟩:=nm (i+1);have fC:j<m:=(by omega);have hi0:i<m:=(by omega);have hs0:=mM (v:=v) (k:=i) (by omega);have hs1:=mM (v:=v) (k:=j) (by omega);obtain⟨t,ht⟩:=nm (fe v i);obtain⟨u,hu⟩:=nm (fe v j);rw[<-ht]at hs0;rw[<-hu]at hs1;have b0:=M.ef hs0;have b1:=M.ef hs1;obtain⟨_,b,o,wb,cells,r,rfl,hb,hd,hlc,_⟩:=h1.at 4 V.fD hs0;obtain⟨_,b',o',wb',cells',r',e,hb',hd',hlc',_⟩:=h1.at 4 V.fD hs1;simp only[av,Addr.mk.injEq,and_true]at e;obtain⟨rfl,rfl⟩:=e;rw[hb]at hb';simp only[aW.row.injEq,true_and]at hb';obtain⟨rfl,rfl⟩:=hb';have w2:IntKind.wrap .i64 ((i:Int)+1)=(j:Int):=(by rw[bB (by omega)];omega);have w3:IntKind.wrap .i64 (u.x-t.x)=u.x-t.x:=bB (by omega);have hd0:cells.drop (o+i*4)= .int .i64 t.row::([.int .i64 t.x,.int .i64 t.y,.int .i64 t.kind]++r):=hd;have hd1:cells.drop (o+i*4+1)= .int .i64 t.x::([.int .i64 t.y,.int .i64 t.kind]++r):=(by rw[<-eh,hd];rfl);have hd2:cells.drop (o+j*4)= .int .i64 u.row::([.int .i64 u.x,.int .i64 u.y,.int .i64 u.kind]++r'):=hd';have hd3:cells.drop (o+j*4+1)= .int .i64 u.x::([.int .i64 u.y,.int .i64 u.kind]++r'):=(by rw[<-eh,hd'];rfl);have l0:o+i*4+1<=cells.length:=(by omega);have l1:o+i*4+1+1<=cells.length:=(by omega);have l2:o+j*4+1<=cells.length:=(by omega);have l3:o+j*4+1+1<=cells.length:=(by omega);have htn:(i:Int).toNat=i:=(by omega);rw[htn,<-hj,<-ht,<-hu];have q2':(i:Int)<(m:Int)-1:=q2;by_cases q3:u.row=t.row
   .simp -implicitDefEqProofs[w1,w2,w3,q2',fC,hi0,hb,hd0,hd1,hd2,hd3,l0,l1,l2,l3,q3]
   .simp -implicitDefEqProofs[w1,w2,w3,q2',fC,hi0,hb,hd0,hd1,hd2,hd3,l0,l1,l2,l3,q3]
  .simp -implicitDefEqProofs[q1,q2,w1]
 .simp -implicitDefEqProofs[q1]
def ZK(v:ai)(M:fT v)(cs:List Value)(uv:Value)(us:List Bool)(hu:us.length<=1073741824)(a:Int)(h:aa)(H:bL h v cs)(hus:tL h uv us):al PP 310 [.agg ⟨cs⟩,uv,.int .i64 a] h (λr h'=>h'=h/\r= .bool (nw v us a)):=by
 refine aC Tryz.func310 ag8 ?_;simp only[aA,Tryz.f310];obtain⟨s,k,p,rfl,h1,h2,h3⟩:=H;obtain⟨ad1,c1,e1⟩:=h1.shape;obtain⟨ad2,c2,e2⟩:=h2.shape;obtain⟨ad3,c3,e3⟩:=h3.shape;subst e1;subst e2;subst e3;obtain⟨ad4,c4,rfl⟩:=hus.shape;unfold nw;by_cases q1:a<0
 .have q1':¬0<=a:=by omega
  simp -implicitDefEqProofs[q1,q1']
 have q1':0<=a:=by omega
 by_cases q2:(v.ag.length:Int)<=a
 .have q2':¬a<(v.ag.length:Int):=by omega
  simp -implicitDefEqProofs[q1,q1',q2,q2']
 have q2':a<(v.ag.length:Int):=by omega
 by_cases q3:(us.length:Int)<=a
 .have q3':¬a<(us.length:Int):=by omega
  simp -implicitDefEqProofs[q1,q1',q2,q2',q3,q3']
 have q3':a<(us.length:Int):=by omega
 obtain⟨i,rfl⟩:∃i:Nat,a=i:=⟨a.toNat,by omega⟩;have hil:i<us.length:=by omega
 have hti:us[i]? =some us[i]:=aq hil;obtain⟨_,b,o,wb,cells,r,rfl,hb,hd,hlc,_⟩:=hus.at 1 xw hti;rw[Nat.mul_one]at hd;have hlc':o+i+1<=cells.length:=by omega
 have hgd:us.getD i false=us[i]:=by rw[bu,hti];rfl
 simp -implicitDefEqProofs[q1,q1',q2,q2',q3,q3',hil,hb,hd,hlc',eJ,hgd]
def Ub(h:aa)(v:ai)(cs:List Value)(uv:Value)(us:List Bool)(a:Int)(M n:Nat)(σ:St):Prop:=∃i:Nat,n=M-i/\i<=M/\i<=v.ag.length/\σ.m.h=h/\σ.t.get 1=some uv/\σ.t.get 2=some (.int .i64 a)/\σ.t.get 3=some (.int .i64 (M:Nat))/\σ.t.get 4=some (.pointer (some ⟨4,0,some 0⟩))/\σ.t.get 9=some (.int .i64 (i:Nat))/\σ.m.x.look 4=some (63,cs)/\
 jm v us a M 0=jm v us a (M-i) i/\(0<i->0<=a/\a+i<=v.ag.length)
def abA(v:ai)(Mv:fT v)(cs:List Value)(uv:Value)(us:List Bool)(hu:us.length<=1073741824)(a:Int)(ha: -4611686018427387904<=a/\a<=4611686018427387904)(M:Nat)(hM:M<=4611686018427387904)(h:aa)(H:bL h v cs)(hus:tL h uv us):
  al PP 284 [.agg ⟨cs⟩,uv,.int .i64 a,.int .i64 (M:Nat)] h (λr h'=>h'=h/\r= .int .i64 ((jm v us a M 0:Nat):Int)):=by
 refine aC Tryz.func284 agP ?_;simp only[aA,Tryz.f284];have hfree:=λa=>ZK v Mv cs uv us hu a h H hus;have hnext:=λa ha=>Bg v Mv cs a ha h H;have hlen:=Mv.len;obtain⟨s,k,p,rfl,h1,h2,h3⟩:=H;obtain⟨ad1,c1,e1⟩:=h1.shape;obtain⟨ad2,c2,e2⟩:=h2.shape;obtain⟨ad3,c3,e3⟩:=h3.shape;subst e1;subst e2;subst e3;obtain⟨ad4,c4,rfl⟩:=hus.shape;obtain⟨C,hC⟩:=nm [Value.slice ad1 v.ag.length c1,.int .i64 v.aV,.int .i64 v.bA,.slice ad2 v.aD.length c2,.slice ad3 v.aG.length c3];have hCl:C.length=5:=by rw[hC];rfl
 have hCt:C.take 5=C:=b9 (by omega);simp -implicitDefEqProofs;refine bG (Ub h v C (.slice ad4 us.length c4) us a M) _ ⟨0,rfl,by omega,by omega,by simp,by simp,by simp,by simp,by simp,by simp,by simp[hC],by simp,by omega⟩ ?_;rw[<-hC]at hfree hnext;rintro n ⟨T,⟨x,G⟩⟩ ⟨i,rfl,hi,hil,hG,g1,g2,g3,g4,g9,x4,hlr,hin⟩;simp at hG g1 g2 g3 g4 g9 x4;subst hG;have w1:IntKind.wrap .i64 (a+(i:Int))=a+i:=bB (by omega);by_cases q1:i<M
 .have q1':(i:Int)<(M:Int):=by omega
  have hstep:jm v us a (M-i) i=if nw v us (a+i)&&(decide (i=0) || kK v (a+i-1))then jm v us a (M-(i+1)) (i+1)else i:=by
   rw[show M-i=(M-(i+1))+1 by omega,jm]
  have w2:=bO (i:=i) (by omega);simp -implicitDefEqProofs[g1,g2,g3,g4,g9,x4,q1,q1',w1,hCl,hCt];refine cE (hfree (a+i)) ?_;simp -implicitDefEqProofs[af];intro _;by_cases q2:nw v us (a+i)=true
  .have q2':=q2;unfold nw at q2';simp at q2';by_cases q3:i=0
   .subst q3;simp only[Int.natCast_zero,Int.add_zero]at q2;simp at hstep;rw[q2]at hstep;simp -implicitDefEqProofs[g1,g2,g3,g4,g9,x4,q2,w2];exact⟨M-1,by omega,1,rfl,by omega,by omega,rfl,by simp[g1],by simp[g2],by simp[g3],by simp[g4],by simp[bB],by simp[x4],by rw[hlr];simpa using hstep,by omega⟩
   .have q3':¬(i:Int)=0:=(by omega);have w3:IntKind.wrap .i64 (a+(i:Int)-1)=a+i-1:=bB (by omega);simp -implicitDefEqProofs[g1,g2,g3,g4,g9,x4,q2,q3,q3',w1,w3,hCl,hCt];refine cE (hnext (a+i-1) (by omega)) ?_;simp -implicitDefEqProofs[af];intro _;by_cases q4:kK v (a+i-1)=true
    .rw[q2,q4]at hstep;simp at hstep;simp -implicitDefEqProofs[g1,g2,g3,g4,g9,x4,q4,w2];exact⟨M-(i+1),by omega,i+1,rfl,by omega,by omega,rfl,by simp[g1],by simp[g2],by simp[g3],by simp[g4],by simp,by simp[x4],by rw[hlr,hstep],by omega⟩
    .rw[q2,Bool.eq_false_iff.2 q4]at hstep;simp[q3]at hstep;simp -implicitDefEqProofs[g1,g2,g3,g4,g9,x4,q4];rw[hlr,hstep]
  .rw[Bool.eq_false_iff.2 q2]at hstep;simp at hstep;simp -implicitDefEqProofs[g1,g2,g3,g4,g9,x4,q2];rw[hlr,hstep]
 .have e:i=M:=by omega
  subst e;simp -implicitDefEqProofs[g1,g2,g3,g4,g9,x4];rw[hlr];simp[jm]
structure lN{α:Type}(t e sz by_:Nat)(enc:α->List Value):Prop where
 el:gu PP t=some (e,sz)
 un:PP.underlying t=some (.slice e)
 ze:∃zl,eg PP e=some zl/\zl.length=sz
 Aa:jB PP e=some by_
 co:PP.cellsOf e=sz
 pos:0<sz
 b0:0<by_
 len:∀x,(enc x).length=sz
 one:∀x,(enc x).all cL=true
def ni:lN 22 3 1 8 ab:=⟨JY,RT,⟨_,Cz,rfl⟩,zZ,uh,by decide,by decide,V.dY,λ_=>rfl⟩
def k9:lN 66 29 2 16 ah:=⟨J3,R8,⟨_,Sz,rfl⟩,Dk,Im,by decide,by decide,ko,λ_=>rfl⟩
def Ka:lN 67 69 2 16 ik:=⟨J5,R9,⟨_,SH,rfl⟩,Ds,Iu,by decide,by decide,qs,λ_=>rfl⟩
def J7:lN 131 4 1 1 eJ:=⟨JX,RR,⟨_,SE,rfl⟩,Dq,Iq,by decide,by decide,xw,λ_=>rfl⟩
section
variable {α:Type} {t e sz by_:Nat} {enc:α->List Value} {h0 H:aa} {o:Option Nat} {xs:List α} {v:Value}
def iV(E:lN t e sz by_ enc)(W:Ow e enc h0 H o xs v)(a:α)(hl:(xs.length+1)*by_<=140737488355328)(T:Fr)(x:b8)(s y:Nat)(hs:Fr.get T s=some v)(hy:Fr.get T y=some (.slice (some ⟨H.n,0,none⟩) 1 1)):
  dC PP ⟨T,⟨x,H.new (.row true e (enc a))⟩⟩ t t (.tmp s) (.tmp y)=some (.slice (some ⟨H.n+1,0,none⟩) (xs.length+1) (xs.length+1),⟨T,⟨x,bY (H.new (.row true e (enc a))) o (.row true e (xs.flatMap enc++enc a))⟩⟩):=by
 obtain⟨zl,hz,hzl⟩:=E.ze;have hlen:=E.len a;have htk:(enc a).take sz=enc a:=b9 (by omega);refine Qh (σ:=⟨T,⟨x,H.new (.row true e (enc a))⟩⟩) (W.ext (Ext.new _ _)) E.el hz E.Aa E.co E.pos E.b0 hzl E.len (by simpa using hs) ?_ (E.one a) (by decide) hl;simp[dS,E.un,hy,hlen,htk]
def Ow.one(W:Ow e enc h0 H o xs v)(hn:h0.n<=H.n)(c:aW)(a:α){cells:List Value}(hc:cells=xs.flatMap enc++enc a):Ow e enc h0 (bY (H.new c) o (.row true e cells)) (some (H.n+1)) (xs++[a]) (.slice (some ⟨H.n+1,0,none⟩) (xs.length+1) (xs.length+1)):=
 (W.ext (Ext.new H c)).app (by rw[eu];omega) [a] (by simpa using hc) rfl
def iZ(E:Ext h0 H)(W:Ow e enc h0 H o xs v)(c c':aW):Ext h0 (bY (H.new c) o c'):=(E.bI c).app (λb hb=>by have:=W.lt b hb;exact⟨this.1,by rw[eu];omega⟩) c'
end
def Uc(h:aa)(a:Int)(M n:Nat)(σ:St):Prop:=∃(i:Nat)(o:Option Nat)(v:Value),n=M-i/\i<=M/\Ext h σ.m.h/\Ow 3 ab h σ.m.h o (ey a i) v/\σ.t.get 0=some (.int .i64 a)/\σ.t.get 5=some v/\σ.t.get 7=some (.int .i64 (M:Nat))/\σ.t.get 8=some (.int .i64 (i:Nat))
def qo(a:Int)(n:Nat):(ey a n).length=n:=by simp[ey]
def aiZ(a:Int)(n:Nat):ey a (n+1)=ey a n++[a+n]:=by simp[ey,nX]
def aiY(a:Int)(ha: -4611686018427387904<=a/\a<=4611686018427387904)(M:Nat)(hM:M<=1048576)(h:aa):al PP 285 [.int .i64 a,.int .i64 (M:Nat)] h (λv h'=>Ext h h'/\aL 3 ab h' v (ey a M)):=by
 refine al.jM (post:=λv h'=>Ext h h'/\cO 3 ab h h' v (ey a M)) ?_ (λv h' ⟨E,W⟩=>by
  obtain⟨h'',w,E',S⟩:=W.dG E;exact⟨h'',w,E',S⟩)
 refine aC Tryz.func285 agQ ?_;simp only[aA,Tryz.f285];simp -implicitDefEqProofs;refine bG (Uc h a M) _ ⟨0,none,_,rfl,by omega,Ext.bJ h,Ow.nil,by simp⟩ ?_;rintro n ⟨T,⟨x,H⟩⟩ ⟨i,o,v,rfl,hi,E,W,g0,g5,g7,g8⟩;simp at E W g0 g5 g7 g8;obtain⟨rfl,_⟩:=id W;simp -implicitDefEqProofs[g0,g5,g7,g8];refine bR (λhc=>?_) (λhc=>?_)
 .have w1:=bO (i:=i) (by omega);obtain⟨z,hz⟩:=nm (a+(i:Int));have w2:IntKind.wrap .i64 (a+(i:Int))=z:=by rw[bB (by omega),hz]
  have hA:=iV ni W z (by rw[qo];omega);simp only[ab,qo,Option.map_map]at hA;have hr1:List.range 1=[0]:=rfl;simp -implicitDefEqProofs[g0,g5,g7,g8,w1,w2,aM,hr1,hA,qo];refine⟨M-(i+1),by omega,i+1,some (H.n+1),.slice (some ⟨H.n+1,0,none⟩) (i+1) (i+1),rfl,by omega,iZ E W _ _,?_,by simp[g0,g7]⟩;have:=Ow.one W E.n (.row true 3 [.int .i64 z]) z (cells:=(ey a i).flatMap ab++[.int .i64 z]) rfl;rw[qo]at this;rw[aiZ,<-hz];simpa using this
 .have e:i=M:=by omega
  subst e;simp -implicitDefEqProofs[g0,g5,g7,g8];exact⟨E,W.own⟩
def sc(h:aa)(r:Option (List Int))(v:Value)(h':aa):Prop:=Ext h h'/\match r with
 |some l=>∃s,aL 3 ab h' s l/\v= .tuple #[s,.bool true]
 |none=>v= .tuple #[.slice none 0 0,.bool false]
def amS(v:ai)(Mv:fT v)(cs:List Value)(uv:Value)(us:List Bool)(hu:us.length<=1073741824)(a:Int)(ha: -4611686018427387904<=a/\a<=4611686018427387904)(size:Int)(hz:size<=1048576)(h:aa)(H:bL h v cs)(hus:tL h uv us):
  al PP 245 [.agg ⟨cs⟩,uv,.int .i64 a,.int .i64 size] h (sc h (lM v us a size)):=by
 refine aC Tryz.func245 agz ?_;simp only[aA,Tryz.f245];have hlong:=λM hM=>abA v Mv cs uv us hu a ha M hM h H hus;obtain⟨s,k,p,rfl,h1,h2,h3⟩:=H;obtain⟨ad1,c1,e1⟩:=h1.shape;obtain⟨ad2,c2,e2⟩:=h2.shape;obtain⟨ad3,c3,e3⟩:=h3.shape;subst e1;subst e2;subst e3;obtain⟨ad4,c4,rfl⟩:=hus.shape;unfold lM sc;by_cases q1:size<1
 .simp -implicitDefEqProofs[q1];exact Ext.bJ h
 by_cases q2:(v.ag.length:Int)<size
 .simp -implicitDefEqProofs[q1,q2];exact Ext.bJ h
 obtain⟨M,rfl⟩:∃M:Nat,size=M:=⟨size.toNat,by omega⟩;simp -implicitDefEqProofs[q1,q2];refine cE (hlong M (by omega)) ?_;simp -implicitDefEqProofs[af];intro _;by_cases q3:jm v us a M 0<M
 .simp -implicitDefEqProofs[q3];exact Ext.bJ h
 .simp -implicitDefEqProofs[q3];refine(aiY a ha M (by omega) h).mono ?_;rintro r h' ⟨E,S⟩;obtain⟨ad,c,rfl⟩:=S.shape;simp -implicitDefEqProofs[af];intro _;exact⟨E,S⟩
def Pj{v:ai}{us:List Bool}{a:Int}:∀(m n:Nat),(0<n->0<=a/\a+n<=v.ag.length)->0<jm v us a m n->0<=a/\a+(jm v us a m n:Nat)<=v.ag.length:=by
 intro m;induction m with
 |zero=>intro n h q;exact h q
 |succ m ih=>
  intro n h q;rw[jm]at q ⊢;split
  .rename_i hc;rw[if_pos hc]at q;refine ih (n+1) (λ_=>?_) q;rw[bQ]at hc;have hf:=hc.1;unfold nw at hf;simp at hf;rcases Nat.eq_zero_or_pos n with e|e
   .subst e;omega
   .have:=h e;omega
  .rename_i hc;rw[if_neg hc]at q;exact h q
def wY{v:ai}{us:List Bool}{a size:Int}{l:List Int}(h:lM v us a size=some l):l=ey a size.toNat/\1<=size/\0<=a/\a+size<=v.ag.length:=by
 unfold lM at h;split at h
 .cases h
 .rename_i hc;obtain rfl:=bU h;have:=Pj (v:=v) (us:=us) (a:=a) size.toNat 0 (by omega) (by omega);refine⟨rfl,by omega,this.1,?_⟩;have hc3:¬(jm v us a size.toNat 0:Int)<size:=λq=>hc (.inr (.inr q));omega
def Qx{a:Int}{n:Nat}{x:Int}(h:x∈ey a n):a<=x/\x<a+n:=by
 unfold ey at h;obtain⟨k,hk,rfl⟩:=dO.1 h;rw[dF]at hk;omega
def aa1(v:ai)(vc:List Value)(uv lv:Value)(l:List Int)(hin:∀x∈l,0<=x/\x<v.ag.length)(hl:l.length<=1073741824)(k:Int)(h:aa)(H:bL h v vc)(hs:a8 h lv l)(bl bh:Nat){w1 w2:Bool}
  (hbl:h.f bl= .row w1 22 [lv]) (hbh:h.f bh= .row w2 239 (vc++[uv])):al PP 286 [.int .i64 k,.pointer (some ⟨bl,0,none⟩),.pointer (some ⟨bh,0,none⟩)] h (λr h'=>h'=h/\r= .int .i64 (jc v l k)):=by
 refine aC Tryz.func286 agR ?_;simp only[aA,Tryz.f286];obtain⟨s,kk,p,rfl,h1,h2,h3⟩:=H;obtain⟨ad1,c1,e1⟩:=h1.shape;subst e1;obtain⟨ad4,c4,rfl⟩:=hs.shape;unfold jc;by_cases q1:k<0
 .simp -implicitDefEqProofs[q1]
 by_cases q2:(l.length:Int)<=k
 .simp -implicitDefEqProofs[q1,q2,hbl]
 obtain⟨i,rfl⟩:∃i:Nat,k=i:=⟨k.toNat,by omega⟩;have hil:i<l.length:=by omega
 have hti:l[i]? =some l[i]:=aq hil;obtain⟨_,b,o,wb,cells,r,rfl,hb,hd,hlc,_⟩:=hs.at 1 V.dY hti;rw[Nat.mul_one]at hd;have hlc':o+i+1<=cells.length:=by omega
 have hgd:l.getD i 0=l[i]:=by rw[bu,hti];rfl
 have hx:=hin l[i] (fG hil);obtain⟨x,hxe⟩:=nm l[i];rw[<-hxe]at hx hgd hd;obtain⟨j,rfl⟩:∃j:Nat,x=j:=⟨x.toNat,by omega⟩;have hjl:j<v.ag.length:=by omega
 obtain⟨t,ht⟩:=nm (fe v j);have hsj:=mM hjl;rw[<-ht]at hsj;obtain⟨_,b',o',wb',cells',r',rfl,hb',hd',hlc2,_⟩:=h1.at 4 V.fD hsj;have hd3:cells'.drop (o'+j*4+3)= .int .i64 t.kind::r':=by rw[<-eh,hd'];rfl
 have l3:o'+j*4+3+1<=cells'.length:=by omega
 simp -implicitDefEqProofs[q1,q2,hbl,hbh,hil,hb,hd,hlc',ab,hjl,hb',hd3,l3,hgd];rw[<-hxe,gR,<-ht]
def c1(v:ai)(l:List Int)(x:Int)(i:Nat):Nat:=((List.range i).filter λk:Nat=>decide (jc v l k=x)).length
def xA(v:ai)(l:List Int)(x:Int)(i:Nat):c1 v l x (i+1)=if jc v l i=x then c1 v l x i+1 else c1 v l x i:=by
 unfold c1;rw[nX,mo,bH];by_cases h:jc v l i=x
 .simp[h]
 .simp[h]
def xz(v:ai)(l:List Int)(x:Int)(i:Nat):c1 v l x i<=i:=by
 unfold c1;have:=List.length_filter_le (λk:Nat=>decide (jc v l k=x)) (List.range i);simpa using this
def jH(v:ai)(l:List Int)(k:Nat):Bool:=decide (jc v l k≠1) || (decide (jc v l ((k:Int)-1)=2) || decide (jc v l ((k:Int)+1)=2))
def AY(v:ai)(l:List Int)(cS:Int):ry v l cS=((List.range l.length).all (jH v l)&&(!(decide (cS=0)&&decide (0<c1 v l 2 l.length))&&decide ((c1 v l 1 l.length:Int)=cS))):=rfl
def TV(v:ai)(l:List Int)(cS:Int)(fv:Value)(H:aa)(m n:Nat)(σ:St):Prop:=∃i:Nat,n=m-i/\i<=m/\σ.m.h=H/\(List.range i).all (jH v l)=true/\σ.t.get 2=some (.int .i64 cS)/\σ.t.get 7=some fv/\σ.t.get 8=some (.int .i64 (c1 v l 1 i:Nat))/\σ.t.get 9=some (.int .i64 (c1 v l 2 i:Nat))/\
 σ.t.get 13=some (.int .i64 (m:Nat))/\σ.t.get 14=some (.int .i64 (i:Nat))
def aa7(v:ai)(vc:List Value)(uv lv:Value)(hnu:cn uv=true)(l:List Int)(hin:∀x∈l,0<=x/\x<v.ag.length)(hl:l.length<=1048576)(cS:Int)(h:aa)(H:bL h v vc)(hs:a8 h lv l):
  al PP 246 [.agg ⟨vc++[uv]⟩,lv,.int .i64 cS] h (λr h'=>Ext h h'/\r= .bool (ry v l cS)):=by
 refine aC Tryz.func246 agA ?_;simp only[aA,Tryz.f246];obtain⟨C,hC⟩:=nm (vc++[uv]);have hCl:C.length=6:=by obtain⟨s,kk,p,rfl,_⟩:=H;rw[hC];rfl
 obtain⟨ad4,c4,rfl⟩:=hs.shape;obtain⟨m,hm⟩:=nm l.length;obtain⟨G,hG⟩:=nm ((h.new (.row true 239 C)).new (.row true 22 [.slice ad4 l.length c4]));have E:Ext h G:=by rw[hG];exact(Ext.new _ _).bI _
 have k1:=λk=>aa1 v vc uv (.slice ad4 l.length c4) l hin (by omega) k G (V.bL.ext H E) (hs.ext E) (h.n+1) h.n (w1:=true) (w2:=true) (by rw[hG];simp) (by rw[hG,<-hC];simp);rw[<-hC];have hfl:∀i,jH v l i=false->i<m->ry v l cS=false:=λi hi him=>by
  rw[AY,V.all_false (by omega) hi];rfl
 simp -implicitDefEqProofs[hCl];rw[<-hG];refine bG (TV v l cS (.func (.func 286) #[] #[.pointer (some ⟨h.n+1,0,none⟩),.pointer (some ⟨h.n,0,none⟩)]) G m) m ⟨0,by omega,by omega,by simp,rfl,by simp[c1,hm]⟩ ?_;rintro n ⟨T,⟨x,G2⟩⟩ ⟨i,rfl,hi,e,aJ,g2,g7,g8,g9,g13,g14⟩;simp at e g2 g7 g8 g9 g13 g14;subst e;simp -implicitDefEqProofs[g2,g7,g8,g9,g13,g14];refine bR (λhc=>?_) (λhc=>?_)
 .have him:i<m:=by omega
  have w1:=bO (i:=i) (by omega);have w1':IntKind.wrap .i64 ((i:Int)+1)=(i:Int)+1:=bB (by omega);have w2:IntKind.wrap .i64 ((i:Int)-1)=(i:Int)-1:=bB (by omega);have l1:=xz v l 1 i;have l2:=xz v l 2 i;have w3:IntKind.wrap .i64 ((c1 v l 1 i:Int)+1)=((c1 v l 1 i+1:Nat):Int):=by rw[bB (by omega)];omega
  have w4:IntKind.wrap .i64 ((c1 v l 2 i:Int)+1)=((c1 v l 2 i+1:Nat):Int):=by rw[bB (by omega)];omega
  have s1:=xA v l 1 i;have s2:=xA v l 2 i;simp -implicitDefEqProofs[g2,g7,g8,g9,g13,g14];refine cE (k1 i) ?_;simp -implicitDefEqProofs[af];intro _;obtain⟨kk,hkk⟩:=nm (jc v l i);rw[<-hkk]at s1 s2 ⊢;by_cases q1:kk=1
  .rw[if_pos q1]at s1;rw[if_neg (by omega)]at s2;simp -implicitDefEqProofs[g2,g7,g8,g9,g13,g14,q1,w2,w3];refine cE (k1 ((i:Int)-1)) ?_;simp -implicitDefEqProofs[af];intro _;by_cases q2:jc v l ((i:Int)-1)=2
   .have hok:jH v l i=true:=(by unfold jH;simp[q2]);simp -implicitDefEqProofs[g2,g7,g8,g9,g13,g14,q2,w1,w3];exact⟨m-(i+1),by omega,i+1,rfl,by omega,rfl,V.all_succ aJ hok,by simp[g2,g7,s1,w3,g9,s2,g13]⟩
   .simp -implicitDefEqProofs[g2,g7,g8,g9,g13,g14,q2,w1',w3];refine cE (k1 ((i:Int)+1)) ?_;simp -implicitDefEqProofs[af];intro _;by_cases q3:jc v l ((i:Int)+1)=2
    .have hok:jH v l i=true:=(by unfold jH;simp[q3]);simp -implicitDefEqProofs[g2,g7,g8,g9,g13,g14,q3,w1,w3];exact⟨m-(i+1),by omega,i+1,rfl,by omega,rfl,V.all_succ aJ hok,by simp[g2,g7,s1,w3,g9,s2,g13]⟩
    .have hok:jH v l i=false:=(by unfold jH;rw[<-hkk,q1];simp[q2,q3]);have hf:=hfl i hok him;simp -implicitDefEqProofs[q3,hf];exact E
  .rw[if_neg q1]at s1;have hok:jH v l i=true:=(by unfold jH;rw[<-hkk];simp[q1]);by_cases q2:kk=2
   .rw[if_pos q2]at s2;simp -implicitDefEqProofs[g2,g7,g8,g9,g13,g14,q1,q2,w1,w4];exact⟨m-(i+1),by omega,i+1,rfl,by omega,rfl,V.all_succ aJ hok,by simp[g2,g7,g8,s1,s2,w4,g13]⟩
   .rw[if_neg q2]at s2;simp -implicitDefEqProofs[g2,g7,g8,g9,g13,g14,q1,q2,w1];exact⟨m-(i+1),by omega,i+1,rfl,by omega,rfl,V.all_succ aJ hok,by simp[g2,g7,g8,s1,g9,s2,g13]⟩
 .have e:i=m:=by omega
  subst e;have he:ry v l cS=(!(decide (cS=0)&&decide (0<c1 v l 2 i))&&decide ((c1 v l 1 i:Int)=cS)):=by
   rw[AY,<-hm,aJ,qQ]
  rw[he];obtain⟨A,hA⟩:=nm (c1 v l 1 i);obtain⟨Bc,hB⟩:∃B,B=c1 v l 2 i:=⟨_,rfl⟩;rw[<-hA]at g8 ⊢;rw[<-hB]at g9 ⊢;by_cases q1:cS=0
  .by_cases q2:0<Bc
   .have q2':(0:Int)<(Bc:Int):=(by omega);simp -implicitDefEqProofs[g2,g7,g8,g9,g13,g14,q1,q2,q2'];exact E
   .have q2':¬(0:Int)<(Bc:Int):=(by omega);subst q1;by_cases q3:A=0
    .simp -implicitDefEqProofs[g2,g7,g8,g9,g13,g14,q2,q2',q3];exact E
    .simp -implicitDefEqProofs[g2,g7,g8,g9,g13,g14,q2,q2',q3];exact E
  .by_cases q3:(A:Int)=cS
   .simp -implicitDefEqProofs[g2,g7,g8,g9,g13,g14,q1,q3];exact E
   .simp -implicitDefEqProofs[g2,g7,g8,g9,g13,g14,q1,q3];exact E
def jg(h:aa)(v:ai)(us:List Bool)(cs:List Value):Prop:=∃vc uv,cs=vc++[uv]/\eC h v vc/\aL 4 eJ h uv us
def jg.ext{h h':aa}{v:ai}{us:List Bool}{cs:List Value}(H:jg h v us cs)(E:Ext h h'):jg h' v us cs:=by
 obtain⟨vc,uv,rfl,h1,h2⟩:=H;exact⟨vc,uv,rfl,h1.ext E,h2.ext E⟩
def jg.er{h h':aa}{v:ai}{us:List Bool}{cs:List Value}(H:jg h v us cs){S:List Nat}(C:cX S h h')(hs:gZ S h):jg h' v us cs:=by
 obtain⟨vc,uv,rfl,h1,h2⟩:=H;exact⟨vc,uv,rfl,h1.er C hs,h2.er C hs⟩
def jg.wk{h h':aa}{v:ai}{us:List Bool}{cs:List Value}(H:jg h v us cs)(W:Wk h h'):jg h' v us cs:=by
 obtain⟨vc,uv,rfl,h1,h2⟩:=H;exact⟨vc,uv,rfl,h1.wk W,h2.wk W⟩
structure tN(v:ai)(us:List Bool):Prop where
 may:fT v
 us:us.length<=1073741824
def yd(v:ai)(us:List Bool)(M:tN v us)(cs:List Value)(p:aQ)(a:Int)(ha: -4611686018427387904<=a/\a<=4611686018427387904)(h:aa)(H:jg h v us cs):
  al PP 205 [.agg ⟨cs⟩,du p,.int .i64 a] h (sc h (cY v us p a)):=by
 refine aC Tryz.func205 af8 ?_;simp only[aA,Tryz.f205];obtain⟨vc,uv,rfl,hv,hu⟩:=H;have hmay:=nG p h;have htake:=λsize hz=>amS v M.may vc uv us M.us a ha size hz h hv.dv hu.sl;have hnu:cn uv=true:=by obtain⟨ad,c,rfl⟩:=hu.shape;rfl
 have hkinds:=λlv l hin hl h' E hs=>aa7 v vc uv lv hnu l hin hl p.cS h' (hv.ext E).dv hs;obtain⟨s,k,pp,rfl,h1,h2,h3⟩:=hv;obtain⟨ad1,c1,e1⟩:=h1.shape;obtain⟨ad2,c2,e2⟩:=h2.shape;obtain⟨ad3,c3,e3⟩:=h3.shape;obtain⟨ad4,c4,e4⟩:=hu.shape;subst e1;subst e2;subst e3;subst e4;simp only[du,ah,dB,dJ]at hmay hkinds;unfold cY sc;simp -implicitDefEqProofs[du,ah];refine cE hmay ?_;simp -implicitDefEqProofs[af];intro _;by_cases q1:dK p=true
 .have hsz:p.size<=8:=by unfold dK at q1;simp at q1;omega
  simp -implicitDefEqProofs[q1];refine(htake p.size (by omega)).mono ?_;rintro r h' ⟨E,R⟩;cases q2:lM v us a p.size with
  |none=>
   rw[q2]at R;subst R;simp -implicitDefEqProofs[af];intro _;exact E
  |some l=>
   rw[q2]at R;obtain⟨s,S,rfl⟩:=R;obtain⟨ad5,c5,rfl⟩:=S.shape;obtain⟨el,t1,t2,t3⟩:=wY q2;have hll:l.length<=1048576:=(by rw[el,qo];omega);simp -implicitDefEqProofs[af];intro _;refine(hkinds _ l (λx hx=>by rw[el]at hx;have:=Qx hx;omega) hll h' E S.sl).mono ?_;rintro r h'' ⟨E2,rfl⟩;by_cases q3:ry v l p.cS=true
   .simp -implicitDefEqProofs[af,q3];intro _;exact⟨E.trans E2,S.ext E2⟩
   .simp -implicitDefEqProofs[af,q3];intro _;exact E.trans E2
 .simp -implicitDefEqProofs[q1];exact Ext.bJ h
def TW(h:aa)(v:ai)(us:List Bool)(cs:List Value)(p:aQ)(m n:Nat)(σ:St):Prop:=∃(i:Nat)(o:Option Nat)(w:Value),n=m-i/\i<=m/\Ext h σ.m.h/\Ow 3 ab h σ.m.h o (((List.range i).filter λk:Nat=>(cY v us p k).isSome).map λk:Nat=>(k:Int)) w/\
 σ.t.get 2=some (.pointer (some ⟨2,0,some 0⟩))/\σ.t.get 3=some (.pointer (some ⟨3,0,some 0⟩))/\σ.t.get 5=some w/\σ.t.get 12=some (.int .i64 (m:Nat))/\σ.t.get 13=some (.int .i64 (i:Nat))/\σ.m.x.look 2=some (239,cs)/\σ.m.x.look 3=some (29,ah p)
def aad(v:ai)(us:List Bool)(M:tN v us)(cs:List Value)(p:aQ)(h:aa)(H:jg h v us cs):
  al PP 247 [.agg ⟨cs⟩,du p] h (λr h'=>Ext h h'/\aL 3 ab h' r (ir v us p)):=by
 refine al.jM (post:=λv' h'=>Ext h h'/\cO 3 ab h h' v' (ir v us p)) ?_ (λv h' ⟨E,W⟩=>by
  obtain⟨h'',w,E',S⟩:=W.dG E;exact⟨h'',w,E',S⟩)
 refine aC Tryz.func247 agB ?_;simp only[aA,Tryz.f247];have hse:=λ(a:Int)ha h' E=>yd v us M cs p a ha h' (H.ext E);have hlen:=M.may.len;obtain⟨vc,uv,rfl,hv,hu⟩:=H;obtain⟨s,k,pp,rfl,h1,h2,h3⟩:=hv;obtain⟨ad1,c1,e1⟩:=h1.shape;obtain⟨ad2,c2,e2⟩:=h2.shape;obtain⟨ad3,c3,e3⟩:=h3.shape;obtain⟨ad4,c4,e4⟩:=hu.shape;subst e1;subst e2;subst e3;subst e4;obtain⟨C,hC⟩:=nm ([Value.slice ad1 v.ag.length c1,.int .i64 v.aV,.int .i64 v.bA,.slice ad2 v.aD.length c2,.slice ad3 v.aG.length c3]++[Value.slice ad4 us.length c4]);rw[<-hC]at hse;have hCl:C.length=6:=by rw[hC];rfl
 have hCt:C.take 6=C:=b9 (by omega);simp only[du,ah]at hse;simp -implicitDefEqProofs[du,ah];refine bG (TW h v us C p v.ag.length) _ ⟨0,none,_,rfl,by omega,Ext.bJ h,Ow.nil,by simp[hC,ah]⟩ ?_;rintro n ⟨T,⟨x,G⟩⟩ ⟨i,o,w,rfl,hi,E,W,g2,g3,g5,g12,g13,x2,x3⟩;simp at E W g2 g3 g5 g12 g13 x2 x3;have hwn:cn w=true:=by rw[W.1];rfl
 simp only[cn,iM,Option.isNone_iff_eq_none]at hwn;simp -implicitDefEqProofs[g2,g3,g5,g12,g13,x2,x3];refine bR (λhc=>?_) (λhc=>?_)
 .have w1:=bO (i:=i) (by omega);have hfl:(((List.range i).filter λk:Nat=>(cY v us p k).isSome).map λk:Nat=>(k:Int)).length<=i:=by
   rw[cf];have:=List.length_filter_le (λk:Nat=>(cY v us p k).isSome) (List.range i);simpa using this
  obtain⟨acc,hacc⟩:=nm (((List.range i).filter λk:Nat=>(cY v us p k).isSome).map λk:Nat=>(k:Int));have hnx:(((List.range (i+1)).filter λk:Nat=>(cY v us p k).isSome).map λk:Nat=>(k:Int))=if(cY v us p i).isSome then acc++[(i:Int)]else acc:=by
   rw[nX,mo,kX,<-hacc];by_cases q:(cY v us p i).isSome=true
   .simp[q]
   .simp[q]
  rw[<-hacc]at W hfl;obtain⟨rfl,_⟩:=id W;simp -implicitDefEqProofs[g2,g3,g5,g12,g13,x2,x3,hCl,hCt,ah];refine(hse i (by omega) G E).mono ?_;rintro r h' ⟨E2,R⟩;have W2:=W.ext E2;cases q2:cY v us p i with
  |none=>
   rw[q2]at R;subst R;rw[q2]at hnx;simp only[Option.isSome_none,fw,if_false]at hnx;simp -implicitDefEqProofs[af,g2,g3,g5,g12,g13,x2,x3,w1];intro _;exact⟨v.ag.length-(i+1),by omega,i+1,o,_,rfl,by omega,E.trans E2,by rw[hnx];exact W2,by simp[x2,x3,ah]⟩
  |some l=>
   rw[q2]at R hnx;simp only[Option.isSome_some,if_true]at hnx;obtain⟨s,S,rfl⟩:=R;obtain⟨ad5,c5,rfl⟩:=S.shape;have hA:=iV ni W2 (i:Int) (by omega);simp only[ab]at hA;have hr1:List.range 1=[0]:=rfl;simp -implicitDefEqProofs[af,g2,g3,g5,g12,g13,x2,x3,w1,aM,hr1,hA];intro _;refine⟨v.ag.length-(i+1),by omega,i+1,some (h'.n+1),.slice (some ⟨h'.n+1,0,none⟩) (acc.length+1) (acc.length+1),rfl,by omega,iZ (E.trans E2) W2 _ _,?_,by simp[x2,x3,ah]⟩;rw[hnx];exact Ow.one W2 (E.trans E2).n _ (i:Int) rfl
 .have e:i=v.ag.length:=by omega
  subst e;have hfin:cO 3 ab h G w (ir v us p):=W.own;obtain⟨acc,hacc⟩:=nm (ir v us p);rw[<-hacc]at hfin ⊢;obtain⟨ad,rfl,_⟩:=id hfin;simp -implicitDefEqProofs[g2,g3,g5,g12,g13,x2,x3];exact⟨E,hfin⟩
def vG(v:ai)(a b:Int)(i k:Nat):Bool:=decide (a+i≠b+k)&& !kg (fe v (a+i).toNat) (fe v (b+k).toNat) v.bA
def BT(v:ai)(a b:Int)(Q i:Nat):Bool:=(List.range Q).all (vG v a b i)
def VU(v:ai)(p:aQ)(a:Int)(q:aQ)(b:Int):dM v p a q b=(List.range p.size.toNat).all (BT v a b q.size.toNat):=rfl
def TR(h:aa)(v:ai)(cs:List Value)(p q:aQ)(a b:Int)(n:Nat)(σ:St):Prop:=∃i:Nat,n=p.size.toNat-i/\i<=p.size.toNat/\Ext h σ.m.h/\(List.range i).all (BT v a b q.size.toNat)=true/\
 σ.t.get 2=some (.int .i64 a)/\σ.t.get 4=some (.int .i64 b)/\σ.t.get 5=some (.pointer (some ⟨5,0,some 0⟩))/\σ.t.get 6=some (.pointer (some ⟨6,0,some 0⟩))/\σ.t.get 8=some (.pointer (some ⟨8,0,some 0⟩))/\σ.t.get 11=some (.int .i64 (a+(i:Int)))/\
 σ.m.x.look 5=some (239,cs)/\σ.m.x.look 6=some (29,ah p)/\σ.m.x.look 8=some (29,ah q)
def TS(h:aa)(v:ai)(cs:List Value)(p q:aQ)(a b:Int)(i n:Nat)(σ:St):Prop:=∃k:Nat,n=q.size.toNat-k/\k<=q.size.toNat/\Ext h σ.m.h/\(List.range k).all (vG v a b i)=true/\
 σ.t.get 2=some (.int .i64 a)/\σ.t.get 4=some (.int .i64 b)/\σ.t.get 5=some (.pointer (some ⟨5,0,some 0⟩))/\σ.t.get 6=some (.pointer (some ⟨6,0,some 0⟩))/\σ.t.get 8=some (.pointer (some ⟨8,0,some 0⟩))/\σ.t.get 11=some (.int .i64 (a+(i:Int)))/\σ.t.get 12=some (.int .i64 (b+(k:Int)))/\
 σ.m.x.look 5=some (239,cs)/\σ.m.x.look 6=some (29,ah p)/\σ.m.x.look 8=some (29,ah q)
def zT(v:ai)(us:List Bool)(M:tN v us)(cs:List Value)(p:aQ)(a:Int)(q:aQ)(b:Int)(ha:0<=a/\a+p.size<=v.ag.length)(hb:0<=b/\b+q.size<=v.ag.length)(hp:0<=p.size)(hq:0<=q.size)(h:aa)(H:jg h v us cs):
  al PP 222 [.agg ⟨cs⟩,du p,.int .i64 a,du q,.int .i64 b] h (λr h'=>Ext h h'/\r= .bool (dM v p a q b)):=by
 refine aC Tryz.func222 agr ?_;simp only[aA,Tryz.f222];have hlen:=M.may.len;have hrad:=M.may.bA;obtain⟨vc,uv,rfl,hv,hu⟩:=H;obtain⟨s,k,pp,rfl,h1,h2,h3⟩:=hv;obtain⟨ad1,c1,e1⟩:=h1.shape;obtain⟨ad2,c2,e2⟩:=h2.shape;obtain⟨ad3,c3,e3⟩:=h3.shape;obtain⟨ad4,c4,e4⟩:=hu.shape;subst e1;subst e2;subst e3;subst e4;obtain⟨C,hC⟩:=nm ([Value.slice ad1 v.ag.length c1,.int .i64 v.aV,.int .i64 v.bA,.slice ad2 v.aD.length c2,.slice ad3 v.aG.length c3]++[Value.slice ad4 us.length c4]);have hCl:C.length=6:=by rw[hC];rfl
 have hC0:C.take 1=[.slice ad1 v.ag.length c1]:=by rw[hC];rfl
 have hC2:C.drop 2= .int .i64 v.bA::C.drop 3:=by rw[hC];rfl
 have w0:IntKind.wrap .i64 (a+p.size)=a+p.size:=bB (by omega);have w9:IntKind.wrap .i64 (b+q.size)=b+q.size:=bB (by omega);rw[VU];simp -implicitDefEqProofs[du,ah];refine bG (TR h v C p q a b) _ ⟨0,rfl,by omega,Ext.bJ h,rfl,by simp[hC,ah]⟩ ?_;rintro n ⟨T,⟨x,G⟩⟩ ⟨i,rfl,hi,E,aJ,g2,g4,g5,g6,g8,g11,x5,x6,x8⟩;simp at E g2 g4 g5 g6 g8 g11 x5 x6 x8;simp -implicitDefEqProofs[g2,g4,g5,g6,g8,g11,x5,x6,x8,ah,w0];refine bR (λhc=>?_) (λhc=>?_)
 .have hip:i<p.size.toNat:=by omega
  simp -implicitDefEqProofs[g2,g4,g5,g6,g8,g11,x5,x6,x8,ah];refine bG (TS h v C p q a b i) _ ⟨0,rfl,by omega,E,rfl,by simp[x5,x6,ah,x8]⟩ ?_;clear g2 g4 g5 g6 g8 g11 x5 x6 x8;rintro n ⟨T,⟨x,G⟩⟩ ⟨k,rfl,hk,E,hall2,g2,g4,g5,g6,g8,g11,g12,x5,x6,x8⟩;simp at E g2 g4 g5 g6 g8 g11 g12 x5 x6 x8;simp -implicitDefEqProofs[g2,g4,g5,g6,g8,g11,g12,x5,x6,x8,ah,w9];refine bR (λhc=>?_) (λhc=>?_)
  .have hkq:k<q.size.toNat:=(by omega);have fin:vG v a b i k=false->(List.range p.size.toNat).all (BT v a b q.size.toNat)=false:=λhf=>V.all_false hip (V.all_false hkq hf);obtain⟨A,hA⟩:∃A:Nat,a+(i:Int)=A:=⟨(a+i).toNat,by omega⟩;obtain⟨Bn,hB⟩:∃Bn:Nat,b+(k:Int)=Bn:=⟨(b+k).toNat,by omega⟩;have hAl:A<v.ag.length:=(by omega);have hBl:Bn<v.ag.length:=(by omega);have hcell:vG v a b i k=(decide (A≠Bn)&& !kg (fe v A) (fe v Bn) v.bA):=by
    unfold vG;rw[hA,hB,gR,gR];have e:decide ((A:Int)≠(Bn:Int))=decide (A≠Bn):=(by rw[decide_eq_decide];omega);rw[e]
   have w1:IntKind.wrap .i64 ((Bn:Int)+1)=b+((k+1:Nat):Int):=(by rw[bB (by omega)];omega);rw[hA]at g11;rw[hB]at g12;rw[hA,hB];by_cases q1:A=Bn
   .have hf:=fin (by rw[hcell];simp[q1]);have q1':(A:Int)=(Bn:Int):=(by omega);simp -implicitDefEqProofs[g2,g4,g5,g6,g8,g11,g12,x5,x6,x8,ah,q1,q1',hf];exact E
   .have q1':¬(A:Int)=(Bn:Int):=(by omega);have hs0:=mM hAl;have hs1:=mM hBl;obtain⟨t,ht⟩:=nm (fe v A);obtain⟨u,hu⟩:=nm (fe v Bn);rw[<-ht]at hs0;rw[<-hu]at hs1;obtain⟨_,bb,o,cells,r,rfl,bD,hd,hlc,_⟩:=(h1.ext E).at 4 V.fD hs0;obtain⟨_,b',o',cells',r',e,hb',hd',hlc',_⟩:=(h1.ext E).at 4 V.fD hs1;simp only[av,Addr.mk.injEq,and_true]at e;obtain⟨rfl,rfl⟩:=e;rw[bD]at hb';simp only[aW.row.injEq,true_and]at hb';obtain rfl:=hb';have k0:(cells.drop (o+A*4)).take 4=ao t:=(by rw[hd];rfl);have k1:(cells.drop (o+Bn*4)).take 4=ao u:=(by rw[hd'];rfl);simp only[ao]at k0 k1;have hcl:=Ij t u v.bA (by omega) G;simp only[bg,ao]at hcl;simp -implicitDefEqProofs[g2,g4,g5,g6,g8,g11,g12,x5,x6,x8,ah,q1,q1',hC0,hC2,hCl,hAl,hBl,bD,k0,k1,hlc,hlc'];refine hcl.mono ?_;rintro r h' ⟨E2,rfl⟩;by_cases q2:kg t u v.bA=true
    .have hf:=fin (by rw[hcell,<-ht,<-hu,q2];simp);simp -implicitDefEqProofs[af,q2,hf];intro _;exact E.trans E2
    .simp -implicitDefEqProofs[af,q2,g2,g4,g5,g6,g8,g11,g12,x5,x6,x8,ah,w1];intro _;exact⟨q.size.toNat-(k+1),by omega,k+1,rfl,by omega,E.trans E2,V.all_succ hall2 (by rw[hcell,<-ht,<-hu];simp[q1,q2]),by simp[hA,x5,x6,ah,x8]⟩
  .have e:k=q.size.toNat:=(by omega);subst e;have w1:IntKind.wrap .i64 (a+(i:Int)+1)=a+((i+1:Nat):Int):=(by rw[bB (by omega)];omega);simp -implicitDefEqProofs[g2,g4,g5,g6,g8,g11,g12,x5,x6,x8,ah,w1];exact⟨p.size.toNat-(i+1),by omega,i+1,rfl,by omega,E,V.all_succ aJ hall2,by simp[x5,x6,ah,x8]⟩
 .have e:i=p.size.toNat:=by omega
  subst e;simp -implicitDefEqProofs[g2,g4,g5,g6,g8,g11,x5,x6,x8,ah,aJ];exact E
def lZ(x:Int):List Int->Nat->Int
 |[],_=>-1
 |a::r,i=>if x=a then(i:Int)else lZ x r (i+1)
def TQ(s:Value)(l:List Int)(x:Int)(h:aa)(m n:Nat)(σ:St):Prop:=∃i:Nat,n=m-i/\i<=m/\σ.m.h=h/\σ.t.get 0=some s/\σ.t.get 1=some (.int .i64 x)/\σ.t.get 7=some (.int .i64 (m:Nat))/\σ.t.get 8=some (.int .i64 (i:Nat))/\lZ x l 0=lZ x (l.drop i) i
def aax(s:Value)(l:List Int)(x:Int)(hl:l.length<=1073741824)(h:aa)(hs:a8 h s l):al PP 218 [s,.int .i64 x] h (λv h'=>h'=h/\v= .int .i64 (lZ x l 0)):=by
 refine aC Tryz.func218 P9 ?_;simp only[aA,Tryz.f218];obtain⟨ad,c,rfl⟩:=hs.shape;obtain⟨m,hm⟩:=nm l.length;rw[<-hm]at hs ⊢;simp -implicitDefEqProofs;refine bG (TQ (.slice ad m c) l x h m) _ ⟨0,rfl,by omega,rfl,by simp,by simp,by simp,by simp,rfl⟩ ?_;rintro n ⟨T,⟨y,H⟩⟩ ⟨i,rfl,hi,hH,g0,g1,g7,g8,hq⟩;simp at hH g0 g1 g7 g8;subst hH;simp -implicitDefEqProofs[g0,g1,g7,g8];refine bR (λhc=>?_) (λhc=>?_)
 .have hil:i<m:=by omega
  have hti:l[i]? =some l[i]:=aq (by omega);obtain⟨_,b,o,wb,cs,r,rfl,hb,hd,hlc,_⟩:=hs.at 1 V.dY hti;obtain⟨t,ht⟩:=nm l[i];rw[<-ht]at hd hti;have w1:=bO (i:=i) (by omega);have hlc':o+i+1<=cs.length:=by omega
  have hdr:l.drop i=t::l.drop (i+1):=by rw[ht];exact gQ (by omega)
  rw[Nat.mul_one]at hd;by_cases h1:x=t
  .have hp:lZ x l 0=(i:Int):=(by rw[hq,hdr,lZ,if_pos h1]);simp -implicitDefEqProofs[g0,g1,g7,g8,hil,hb,hd,hlc',ab,h1];rw[<-h1,hp]
  .have hp:lZ x l 0=lZ x (l.drop (i+1)) (i+1):=(by rw[hq,hdr,lZ,if_neg h1]);simp -implicitDefEqProofs[g0,g1,g7,g8,hil,hb,hd,hlc',ab,h1,w1];exact⟨m-(i+1),by omega,i+1,rfl,by omega,rfl,by simp[g0],by simp[g1],by simp[g7],by simp,hp⟩
 .have hp:lZ x l 0= -1:=by rw[hq,List.drop_of_length_le (by omega)];rfl
  simp -implicitDefEqProofs[g0,g1,g7,g8,hp]
def aar(x:Int)(l:List Int)(i:Nat):0<=lZ x l i↔x∈l:=by
 induction l generalizing i with
 |nil=>simp[lZ]
 |cons a r ih=>
  rw[lZ];split
  .rename_i h;simp[h]
  .rename_i h;rw[ih,cJ];simp[h]
def Iz(s:Value)(l:List Int)(x:Int)(hl:l.length<=1073741824)(h:aa)(hs:a8 h s l):al PP 162 [s,.int .i64 x] h (λv h'=>h'=h/\v= .bool (decide (x∈l))):=by
 refine aC Tryz.func162 P6 ?_;simp only[aA,Tryz.f162];obtain⟨ad,c,rfl⟩:=hs.shape;simp -implicitDefEqProofs;refine cE (aax _ l x hl h hs) ?_;have e:decide (x∈l)=decide (0<=lZ x l 0):=by rw[decide_eq_decide,aar]
 simp -implicitDefEqProofs[af,e]
def nc(v:ai)(s k:Nat):Bool:=match v.aG[k]? with
 |some p=>kg (fe v s) ⟨0,p.x,p.y,0⟩ p.r
 |none=>false
def ra(v:ai)(s:Nat):List Int:=if v.aD.contains (s:Int)then[-1]else[]
def lD(v:ai)(s i:Nat):List Int:=ra v s++((List.range i).filter (nc v s)).map λk:Nat=>(k:Int)
def Dv(v:ai)(s:Nat):sn v s=lD v s v.aG.length:=rfl
def WZ(v:ai)(s i:Nat):lD v s (i+1)=if nc v s i=true then lD v s i++[(i:Int)]else lD v s i:=by
 unfold lD;rw[nX,mo,kX,<-eG];by_cases q:nc v s i=true
 .simp[q]
 .simp[q]
def WY(v:ai)(s i:Nat):(lD v s i).length<=i+1:=by
 unfold lD;rw[bH,cf];have:=List.length_filter_le (nc v s) (List.range i);rw[pP]at this;have h2:(ra v s).length<=1:=by unfold ra;split<;>simp
 omega
def TP(h:aa)(v:ai)(cs:List Value)(s:Nat)(pv:Value)(m n:Nat)(σ:St):Prop:=∃(i:Nat)(o:Option Nat)(w:Value),n=m-i/\i<=m/\Ext h σ.m.h/\Ow 3 ab h σ.m.h o (lD v s i) w/\
 σ.t.get 1=some (.int .i64 (s:Nat))/\σ.t.get 2=some (.pointer (some ⟨2,0,some 0⟩))/\σ.t.get 5=some w/\σ.t.get 16=some pv/\σ.t.get 17=some (.int .i64 (m:Nat))/\σ.t.get 18=some (.int .i64 (i:Nat))/\σ.m.x.look 2=some (63,cs)
def UI(h:aa)(v:ai)(cs:List Value)(s:Nat)(σ:St):Prop:=∃(o:Option Nat)(w:Value),Ext h σ.m.h/\Ow 3 ab h σ.m.h o (lD v s 0) w/\σ.t.get 1=some (.int .i64 (s:Nat))/\σ.t.get 2=some (.pointer (some ⟨2,0,some 0⟩))/\σ.t.get 5=some w/\σ.m.x.look 2=some (63,cs)
def W4(v:ai)(M:fT v)(cs:List Value)(s:Nat)(hs:s<v.ag.length)(h:aa)(H:eC h v cs):
  al PP 210 [.agg ⟨cs⟩,.int .i64 (s:Nat)] h (λr h'=>Ext h h'/\cO 3 ab h h' r (sn v s)):=by
 refine aC Tryz.func210 age ?_;simp only[aA,Tryz.f210];have hpl:=M.wH;have hcon:=λkv hk=>Iz kv v.aD (s:Int) (by have:=M.vZ;omega) h hk;obtain⟨sv,k,pp,rfl,h1,h2,h3⟩:=H;obtain⟨ad1,c1,e1⟩:=h1.shape;obtain⟨ad2,c2,e2⟩:=h2.shape;obtain⟨ad3,c3,e3⟩:=h3.shape;subst e1;subst e2;subst e3;obtain⟨C,hC⟩:=nm [Value.slice ad1 v.ag.length c1,.int .i64 v.aV,.int .i64 v.bA,.slice ad2 v.aD.length c2,.slice ad3 v.aG.length c3];have hCl:C.length=5:=by rw[hC];rfl
 have hC0:C.take 1=[.slice ad1 v.ag.length c1]:=by rw[hC];rfl
 have hC3:C.drop 3= .slice ad2 v.aD.length c2::C.drop 4:=by rw[hC];rfl
 have hC4:C.drop 4=[.slice ad3 v.aG.length c3]:=by rw[hC];rfl
 rw[<-hC];have hr1:List.range 1=[0]:=rfl;simp -implicitDefEqProofs[hCl,hC3];refine cE (hcon _ h2.sl) ?_;simp -implicitDefEqProofs[af];intro _;refine xE (UI h v C s) ?_ ?_
 .by_cases q1:(s:Int)∈v.aD
  .have hb:lD v s 0=[-1]:=(by simp[lD,ra,q1]);simp -implicitDefEqProofs[q1,aM,hr1,dC,dS,dH];refine⟨some (h.n+1),.slice (some ⟨h.n+1,0,none⟩) 1 1,(Ext.new _ _).bI _,?_,by simp[hC]⟩;rw[hb];exact⟨rfl,by simp[ab],by omega,by simp⟩
  .have hb:lD v s 0=[]:=(by simp[lD,ra,q1]);simp -implicitDefEqProofs[q1];refine⟨none,.slice none 0 0,Ext.bJ h,?_,by simp[hC]⟩;rw[hb];exact Ow.nil
 .rintro⟨T,⟨x,G⟩⟩ ⟨o,w,E,W,g1,g2,g5,x2⟩;simp at E W g1 g2 g5 x2;have hwn:cn w=true:=by rw[W.1];rfl
  simp only[cn,iM,Option.isNone_iff_eq_none]at hwn;simp -implicitDefEqProofs[g1,g2,g5,x2,hCl,hC4];refine bG (TP h v C s (.slice ad3 v.aG.length c3) v.aG.length) _ ⟨0,o,w,rfl,by omega,E,W,by simp[hwn,x2]⟩ ?_;clear g1 g2 g5 x2 E W hwn;rintro n ⟨T,⟨x,G⟩⟩ ⟨i,o,w,rfl,hi,E,W,g1,g2,g5,g16,g17,g18,x2⟩;simp at E W g1 g2 g5 g16 g17 g18 x2;have hwn:cn w=true:=by rw[W.1];rfl
  simp only[cn,iM,Option.isNone_iff_eq_none]at hwn;simp -implicitDefEqProofs[g1,g2,g5,g16,g17,g18,x2,hwn];refine bR (λhc=>?_) (λhc=>?_)
  .have hip:i<v.aG.length:=(by omega);have w1:=bO (i:=i) (by omega);have hpi:v.aG[i]? =some v.aG[i]:=aq hip;obtain⟨p,hp⟩:=nm v.aG[i];rw[<-hp]at hpi;have bp:=M.gy hpi;obtain⟨_,b,o1,cells,r,rfl,hb,hd,hlc,_⟩:=(h3.ext E).at 3 V.pE hpi;have k0:(cells.drop (o1+i*3)).take 3=aZ p:=(by rw[hd];rfl);have hss:=mM hs;obtain⟨t,ht⟩:=nm (fe v s);rw[<-ht]at hss;obtain⟨_,b',o2,cells',r',rfl,hb',hd',hlc',_⟩:=(h1.ext E).at 4 V.fD hss;have k1:(cells'.drop (o2+s*4)).take 4=ao t:=(by rw[hd'];rfl);simp only[ao,aZ]at k0 k1;have hcl:=Ij t ⟨0,p.x,p.y,0⟩ p.r (by omega) G;simp only[bg,ao]at hcl;have hcP:nc v s i=kg t ⟨0,p.x,p.y,0⟩ p.r:=(by unfold nc;rw[hpi,ht]);have hsu:=WZ v s i;rw[hcP]at hsu;have hll:=WY v s i;simp -implicitDefEqProofs[g1,g2,g5,g16,g17,g18,x2,hwn,hip,hb,k0,hlc,hC0,hCl,hs,hb',k1,hlc',aZ];refine hcl.mono ?_;rintro r h' ⟨E2,rfl⟩;have W2:=W.ext E2;by_cases q1:kg t ⟨0,p.x,p.y,0⟩ p.r=true
   .rw[if_pos q1]at hsu;obtain⟨acc,hacc⟩:=nm (lD v s i);rw[<-hacc]at W2 hsu hll;obtain⟨rfl,_⟩:=id W2;have hA:=iV ni W2 (i:Int) (by omega);simp only[ab]at hA;simp -implicitDefEqProofs[af,q1,g1,g2,g5,g16,g17,g18,x2,w1,aM,hr1,hA];intro _;refine⟨v.aG.length-(i+1),by omega,i+1,some (h'.n+1),.slice (some ⟨h'.n+1,0,none⟩) (acc.length+1) (acc.length+1),rfl,by omega,iZ (E.trans E2) W2 _ _,?_,by simp[x2]⟩;rw[hsu];exact Ow.one W2 (E.trans E2).n _ (i:Int) rfl
   .rw[if_neg q1]at hsu;simp -implicitDefEqProofs[af,q1,g1,g2,g5,g16,g17,g18,x2,w1,hwn];intro _;exact⟨v.aG.length-(i+1),by omega,i+1,o,w,rfl,by omega,E.trans E2,by rw[hsu];exact W2,by simp[hwn,x2]⟩
  .have e:i=v.aG.length:=(by omega);subst e;rw[<-Dv]at W;have hfin:=W.own;simp -implicitDefEqProofs[g1,g2,g5,g16,g17,g18,x2,hwn];exact⟨E,hfin⟩
def mO{α:Type}(f:α->Value)(l:List α)(i:Nat)(b:α)(hi:i<l.length):(l.map f).take i++f b::(l.map f).drop (i+1)=(l.set i b).map f:=by
 rw[<-List.map_take,<-List.map_drop,List.set_eq_take_append_cons_drop,if_pos hi,kX,fg]
def abQ(l:List Int):l.map (Value.int .i64)=l.flatMap ab:=by
 induction l with
 |nil=>rfl
 |cons a r ih=>rw[fg,ic,ih];rfl
def Pv(l:List Bool):l.map Value.bool=l.flatMap eJ:=by
 induction l with
 |nil=>rfl
 |cons a r ih=>rw[fg,ic,ih];rfl
def j9(v:ai)(m i:Nat):List Bool:=(List.range m).map λk=>if k<i then(sn v k).isEmpty else false
def Sb(v:ai)(m i:Nat)(hi:i<m):(j9 v m i).set i (sn v i).isEmpty=j9 v m (i+1):=by
 unfold j9;apply List.ext_getElem
 .simp
 .intro j h1 h2;rw[List.getElem_set];split
  .rename_i e;subst e;simp
  .rename_i e;simp only[List.getElem_map,List.getElem_range];by_cases q:j<i
   .rw[if_pos q,if_pos (by omega)]
   .rw[if_neg q,if_neg (by omega)]
def qJ(v:ai)(m i:Nat):(j9 v m i).length=m:=by simp[j9]
def tH{v:ai}(h:aK v=true):j9 v v.ag.length v.ag.length=bK v:=by
 unfold j9 bK;rw[if_pos h];refine List.map_congr_left λk hk=>?_;rw[dF]at hk;rw[if_pos hk]
def TB(h:aa)(v:ai)(cs:List Value)(m n:Nat)(σ:St):Prop:=∃i:Nat,n=m-i/\i<=m/\Ext h σ.m.h/\σ.m.h.f h.n= .row true 4 ((j9 v m i).map Value.bool)/\h.n<σ.m.h.n/\
 σ.t.get 1=some (.pointer (some ⟨1,0,some 0⟩))/\σ.t.get 3=some (.slice (some ⟨h.n,0,none⟩) m m)/\σ.t.get 13=some (.int .i64 (m:Nat))/\σ.t.get 14=some (.int .i64 (i:Nat))/\σ.m.x.look 1=some (63,cs)
def Sc(v:ai)(M:aK v=true)(cs:List Value)(h:aa)(H:eC h v cs):
  al PP 155 [.agg ⟨cs⟩] h (λr h'=>Ext h h'/\aL 4 eJ h' r (bK v)):=by
 refine al.jM (post:=λv' h'=>Ext h h'/\cO 4 eJ h h' v' (bK v)) ?_ (λv h' ⟨E,W⟩=>by
  obtain⟨h'',w,E',S⟩:=W.dG E;exact⟨h'',w,E',S⟩)
 refine aC Tryz.func155 afx ?_;simp only[aA,Tryz.f155];have F:=jF M;have hlen:=F.len;have hm:=V.nG v cs F.small h H.dv;have hby:=λs hs h' E=>W4 v F cs s hs h' (H.ext E);obtain⟨sv,k,pp,rfl,h1,h2,h3⟩:=H;obtain⟨ad1,c1,e1⟩:=h1.shape;obtain⟨ad2,c2,e2⟩:=h2.shape;obtain⟨ad3,c3,e3⟩:=h3.shape;subst e1;subst e2;subst e3;obtain⟨C,hC⟩:=nm [Value.slice ad1 v.ag.length c1,.int .i64 v.aV,.int .i64 v.bA,.slice ad2 v.aD.length c2,.slice ad3 v.aG.length c3];have hCl:C.length=5:=by rw[hC];rfl
 have hCt:C.take 5=C:=b9 (by omega);have hC0:C.take 1=[.slice ad1 v.ag.length c1]:=by rw[hC];rfl
 rw[<-hC]at hm hby ⊢;simp -implicitDefEqProofs[hCl,hCt];refine cE hm ?_;have hz:=xc (.bool false) v.ag.length;have hmx:v.ag.length<=140737488355328:=by omega
 have h00:¬(v.ag.length:Int)<0:=by omega
 have hu0:List.replicate v.ag.length (Value.bool false)=(j9 v v.ag.length 0).map Value.bool:=by
  unfold j9;apply List.ext_getElem
  .simp
  .intro j h1 h2;simp
 simp -implicitDefEqProofs[af,M,hCl,hC0,oF,dH,hz,hmx,h00];intro _;rw[hu0];refine bG (TB h v C v.ag.length) _ ⟨0,rfl,by omega,Ext.new _ _,by simp[hC]⟩ ?_;rintro n ⟨T,⟨x,G⟩⟩ ⟨i,rfl,hi,E,hrow,hn,g1,g3,g13,g14,x1⟩;simp at E hrow hn g1 g3 g13 g14 x1;simp -implicitDefEqProofs[g1,g3,g13,g14,x1];refine bR (λhc=>?_) (λhc=>?_)
 .have him:i<v.ag.length:=by omega
  have w1:=bO (i:=i) (by omega);simp -implicitDefEqProofs[g1,g3,g13,g14,x1,hCl,hCt];refine(hby i him G E).mono ?_;rintro r h' ⟨E2,W⟩;obtain⟨ad,rfl,_⟩:=id W;obtain⟨L,hL⟩:=nm (sn v i);rw[<-hL]at W ⊢;have hrow2:h'.f h.n= .row true 4 ((j9 v v.ag.length i).map Value.bool):=by rw[E2.f _ hn,hrow]
  obtain⟨cells,hcells⟩:=nm ((j9 v v.ag.length i).map Value.bool);rw[<-hcells]at hrow2;have hcl:cells.length=v.ag.length:=by rw[hcells,cf,qJ]
  have hil:i+1<=cells.length:=by omega
  have hem:L.isEmpty=decide (L.length=0):=by cases L<;>simp
  have hts:=mO Value.bool (j9 v v.ag.length i) i L.isEmpty (by rw[qJ];exact him);rw[hL,Sb v _ i him,<-hL,<-hcells,hem]at hts;simp -implicitDefEqProofs[af,g1,g3,g13,g14,x1,w1,him,hrow2,hil];intro _;refine⟨v.ag.length-(i+1),by omega,i+1,rfl,by omega,(E.trans E2).dp (aX _) _,?_,cV hn E2.n,by simp[x1]⟩;rw[<-hts];by_cases q:L=[]
  .subst q;simp
  .have q2:¬L.length=0:=λe=>q (mY.1 e);simp[q]
 .have e:i=v.ag.length:=by omega
  subst e;rw[tH M,Pv]at hrow;have hul:(bK v).length=v.ag.length:=by rw[<-tH M,qJ]
  simp -implicitDefEqProofs[g1,g3,g13,g14,x1];exact⟨E,_,by rw[hul],.inr ⟨_,rfl,hrow,aX _,hn⟩⟩
def rB(v:ai)(k:Nat):Bool:= !(bK v).getD k true
def aaS(v:ai):iv v=((List.range (bK v).length).filter (rB v)).map λk:Nat=>(k:Int):=rfl
def kL(v:ai)(i:Nat):List Int:=((List.range i).filter (rB v)).map λk:Nat=>(k:Int)
def aaP(v:ai)(i:Nat):kL v (i+1)=if rB v i=true then kL v i++[(i:Int)]else kL v i:=by
 unfold kL;rw[nX,mo,kX];by_cases q:rB v i=true
 .simp[q]
 .simp[q]
def aaO(v:ai)(i:Nat):(kL v i).length<=i:=by
 unfold kL;rw[cf];have:=List.length_filter_le (rB v) (List.range i);rwa[pP]at this
def Tp(h:aa)(v:ai)(uv:Value)(m n:Nat)(σ:St):Prop:=∃(i:Nat)(o:Option Nat)(w:Value),n=m-i/\i<=m/\Ext h σ.m.h/\aL 4 eJ σ.m.h uv (bK v)/\Ow 3 ab h σ.m.h o (kL v i) w/\
 σ.t.get 3=some w/\σ.t.get 7=some uv/\σ.t.get 8=some (.int .i64 (m:Nat))/\σ.t.get 9=some (.int .i64 (i:Nat))
def aaU(v:ai)(M:aK v=true)(cs:List Value)(h:aa)(H:eC h v cs):
  al PP 115 [.agg ⟨cs⟩] h (λr h'=>Ext h h'/\aL 3 ab h' r (iv v)):=by
 refine al.jM (post:=λv' h'=>Ext h h'/\cO 3 ab h h' v' (iv v)) ?_ (λv h' ⟨E,W⟩=>by
  obtain⟨h'',w,E',S⟩:=W.dG E;exact⟨h'',w,E',S⟩)
 refine aC Tryz.func115 aeU ?_;simp only[aA,Tryz.f115];have F:=jF M;have hlen:=F.len;have hu:=Sc v M cs h H;obtain⟨sv,k,pp,rfl,h1,h2,h3⟩:=H;obtain⟨ad1,c1,e1⟩:=h1.shape;obtain⟨ad2,c2,e2⟩:=h2.shape;obtain⟨ad3,c3,e3⟩:=h3.shape;subst e1;subst e2;subst e3;have hul:(bK v).length=v.ag.length:=by rw[<-tH M,qJ]
 have hr1:List.range 1=[0]:=rfl;simp -implicitDefEqProofs;refine hu.mono ?_;rintro r G ⟨E,S⟩;obtain⟨ad,c,rfl⟩:=S.shape;rw[aaS];obtain⟨m,hm⟩:=nm (bK v).length;have hmm:m=v.ag.length:=hm.trans hul;rw[<-hm]at S ⊢;simp -implicitDefEqProofs[af];intro _;refine bG (Tp h v (.slice ad m c) m) _ ⟨0,none,_,rfl,by omega,E,S,Ow.nil,by simp⟩ ?_;clear E S;rintro n ⟨T,⟨x,G⟩⟩ ⟨i,o,w,rfl,hi,E,S,W,g3,g7,g8,g9⟩;simp at E S W g3 g7 g8 g9;have hwn:cn w=true:=by rw[W.1];rfl
 simp only[cn,iM,Option.isNone_iff_eq_none]at hwn;simp -implicitDefEqProofs[g3,g7,g8,g9,hwn];refine bR (λhc=>?_) (λhc=>?_)
 .have him:i<m:=by omega
  have w1:=bO (i:=i) (by omega);have hti:(bK v)[i]? =some (bK v)[i]:=aq (by omega);obtain⟨_,b,o1,cells,r,rfl,hb,hd,hlc,_⟩:=S.at 1 xw hti;rw[Nat.mul_one]at hd;have hlc':o1+i+1<=cells.length:=by omega
  obtain⟨t,ht⟩:=nm (bK v)[i];rw[<-ht]at hd hti;have hnk:rB v i= !t:=by unfold rB;rw[bu,hti];rfl
  have hsu:=aaP v i;have hll:=aaO v i;rw[hnk]at hsu;have S0:=S;obtain⟨acc,hacc⟩:=nm (kL v i);rw[<-hacc]at W hsu hll;have hA:=iV ni W (i:Int) (by omega);simp only[ab]at hA;obtain⟨rfl,_⟩:=id W;cases t with
  |false=>
   simp only[Bool.not_false,if_true]at hsu;simp -implicitDefEqProofs[g3,g7,g8,g9,him,hb,hd,hlc',eJ,w1,aM,hr1,hA];refine⟨m-(i+1),by omega,i+1,some (G.n+1),.slice (some ⟨G.n+1,0,none⟩) (acc.length+1) (acc.length+1),rfl,by omega,iZ E W _ _,?_,?_,by simp⟩
   .refine aL.er S (S:=o.toList) ?_ ?_
    .refine⟨zU _ _ _,by rw[cW];show G.n<=G.n+1+1;omega,λb hb hs=>?_⟩;rw[qS _ _ _ (show b<G.n+1 by omega) (λq=>hs (by simp[q]))];simp[show¬b=G.n by omega]
    .intro b hb;obtain rfl:o=some b:=(by simpa using hb);exact⟨_,_,W.row⟩
   .rw[hsu];exact Ow.one W E.n _ (i:Int) rfl
  |true=>
   simp only[Bool.not_true,fw,if_false]at hsu;simp -implicitDefEqProofs[g3,g7,g8,g9,him,hb,hd,hlc',eJ,w1];exact⟨m-(i+1),by omega,i+1,o,_,rfl,by omega,E,S,by rw[hsu];exact W,by simp⟩
 .have e:i=m:=by omega
  subst e;have W2:Ow 3 ab h G o (((List.range i).filter (rB v)).map λk:Nat=>(k:Int)) w:=W;have hfin:=W2.own;simp -implicitDefEqProofs[g3,g7,g8,g9,hwn];exact⟨E,hfin⟩
def KM(v:ai)(M:aK v=true)(cs:List Value)(h:aa)(H:eC h v cs):
  al PP 204 [.agg ⟨cs⟩] h (λr h'=>Ext h h'/\∃hc,jg h' v (bK v) hc/\r= .tuple #[.agg ⟨hc⟩,.bool true]):=by
 refine aC Tryz.func204 af7 ?_;simp only[aA,Tryz.f204];have F:=jF M;have hu:=Sc v M cs h H;have hm:=λh' E=>V.nG v cs F.small h' (H.ext E).dv;have H0:=H;obtain⟨sv,k,pp,rfl,h1,h2,h3⟩:=H;obtain⟨ad1,c1,e1⟩:=h1.shape;obtain⟨ad2,c2,e2⟩:=h2.shape;obtain⟨ad3,c3,e3⟩:=h3.shape;subst e1;subst e2;subst e3;simp -implicitDefEqProofs;refine hu.mono ?_;rintro r G ⟨E,S⟩;obtain⟨ad,c,rfl⟩:=S.shape;simp -implicitDefEqProofs[aF];intro _;refine cE (hm G E) ?_;simp -implicitDefEqProofs[aF,M];intro _;exact⟨E,[Value.slice ad1 v.ag.length c1,.int .i64 v.aV,.int .i64 v.bA,.slice ad2 v.aD.length c2,.slice ad3 v.aG.length c3],.slice ad (bK v).length c,rfl,H0.ext E,S⟩
end Go.Proofs.Ybk.K
namespace Go.Am
open Go
structure Kp(h h':aa):Prop where
 g:h'.g=h.g
 n:h.n<=h'.n
 f:∀b,b<h.n->∀e cs,h.f b= .row false e cs->h'.f b= .row false e cs
def Kp.refl(h:aa):Kp h h:=⟨rfl,aX _,λ_ _ _ _ q=>q⟩
def Ext.kp{h h':aa}(E:Ext h h'):Kp h h':=⟨E.g,E.n,λb hb e cs q=>by rw[E.f b hb];exact q⟩
def Kp.trans{h h' h'':aa}(a:Kp h h')(b:Kp h' h''):Kp h h'':=
 ⟨b.g.trans a.g,eY a.n b.n,λi hi e cs q=>b.f i (cV hi a.n) e cs (a.f i hi e cs q)⟩
def cX.kp{S:List Nat}{h h':aa}(C:cX S h h')(hs:gZ S h):Kp h h':=
 ⟨C.g,C.n,λb hb e cs q=>by
  rw[C.f b hb (λz=>by obtain⟨e',cs',q'⟩:=hs b z;rw[q]at q';cases q')];exact q⟩
def Kp.set{h h':aa}(K:Kp h h'){b:Nat}(hb:∀e cs,h'.f b≠.row false e cs)(x:aW):Kp h (h'.set b x):=
 ⟨K.g,K.n,λi hi e cs q=>by
  have:=K.f i hi e cs q;rw[fI,if_neg (λz=>hb e cs (by rw[<-z];exact this))];exact this⟩
def Kp.new{h h':aa}(K:Kp h h')(x:aW):Kp h (h'.new x):=K.trans (Ext.new h' x).kp
def Kp.app{h h':aa}(K:Kp h h'){o:Option Nat}(ho:∀b,o=some b->∀e cs,h'.f b≠.row false e cs)(c:aW):Kp h (bY h' o c):=by
 cases o with
 |none=>exact K.new c
 |some b=>exact(K.set (ho b rfl) .dead).new c
section
variable {α:Type} {e:TypeId} {enc:α->List Value} {h0 h h':aa} {o:Option Nat} {v:Value} {xs:List α}
def aL.kp(H:aL e enc h v xs)(K:Kp h h'):aL e enc h' v xs:=by
 obtain⟨ad,c,q,n,z⟩:=H;refine⟨ad,c,q,n,?_⟩;rcases z with z|⟨b,off,cells,rest,z1,z2,z3,z4,z5⟩
 .exact .inl z
 .exact .inr ⟨b,off,cells,rest,z1,K.f b z5 _ _ z2,z3,z4,cV z5 K.n⟩
def Ow.nf(W:Ow e enc h0 h o xs v):∀b,o=some b->∀e' cs,h.f b≠.row false e' cs:=by
 rintro b rfl e' cs q;have:=W.row;rw[q]at this;cases this
def aa8(W:Ow e enc h0 h o xs v)(c c':aW):Kp h (bY (h.new c) o c'):=by
 refine((Kp.refl h).new c).app (λb hb e' cs q=>?_) c';have hlt:=(W.lt b hb).2;have:(h.new c).f b=h.f b:=by rw[qY,if_neg (by omega)]
 rw[this]at q;exact W.nf b hb e' cs q
end
section
variable {P:Program} {cfg:aw}
def xG(M:St->Prop)(Q:Ex->St->Prop):Ex->St->Prop
 | .normal,σ=>M σ
 |e,σ=>Q e σ
def Yi{M:St->Prop}{Q:Ex->St->Prop}{σ:St}:xG M Q .normal σ=M σ:=rfl
def Yj{M:St->Prop}{Q:Ex->St->Prop}{σ:St}:xG M Q .ret σ=Q .ret σ:=rfl
def Yh{M:St->Prop}{Q:Ex->St->Prop}{σ:St}(i:Nat):xG M Q (.exit i) σ=Q (.exit i) σ:=rfl
def w8(n:Nat)(M:St->Prop):∀{c:Code}{Q:Ex->St->Prop}{σ:St},vc P cfg (uF n c) (xG M Q) σ->(∀σ',M σ'->vc P cfg (vh n c) Q σ')->vc P cfg c Q σ:=by
 induction n with
 |zero=>intro c Q σ h1 h2;have:=h2 σ h1;rw[qG]at this;exact this
 |succ n ih=>
  intro c Q σ h1 h2;cases c with
  |seq a b=>
   refine zt a _ _ (λe σ' h=>?_) σ h1;cases e with
   |normal=>exact ih h h2
   |exit j=>exact h
   |ret=>exact h
  |_=>exact h2 σ h1
end
attribute [simp ↓] Yi Yj Yh
end Go.Am
namespace Go.Proofs.Ybk.K
open Go Go.Am
set_option maxHeartbeats 4000000
open V (au aR ai ao aZ ab bg aK aE cA cG a8 bL)
def eC.kp{h h':aa}{v:ai}{cs:List Value}(H:eC h v cs)(K:Kp h h'):eC h' v cs:=by
 obtain⟨s,k,p,rfl,h1,h2,h3⟩:=H;exact⟨s,k,p,rfl,h1.kp K,h2.kp K,h3.kp K⟩
def jg.kp{h h':aa}{v:ai}{us:List Bool}{cs:List Value}(H:jg h v us cs)(K:Kp h h'):jg h' v us cs:=by
 obtain⟨vc,uv,rfl,h1,h2⟩:=H;exact⟨vc,uv,rfl,h1.kp K,h2.kp K⟩
def fh:List (Int×Int)->Nat->List MapEntry
 |[],_=>[]
 |p::r,i=>⟨.int .i64 p.1,.int .i64 p.2,i⟩::fh r (i+1)
def Y9(l k:List (Int×Int))(i:Nat):fh (l++k) i=fh l i++fh k (i+l.length):=by
 induction l generalizing i with
 |nil=>rfl
 |cons a r ih=>simp only[dB,fh,ih,eW];rw[show i+1+r.length=i+(r.length+1) by omega]
def mz:List (Int×Int)->Int->Nat->Option (Nat×Int)
 |[],_,_=>none
 |p::r,k,i=>if p.1=k then some (i,p.2)else mz r k (i+1)
def Zv(k:Int)(l:List (Int×Int))(i j:Nat):Instr.findNow (.int .i64) (.int .i64 k) (fh l i) j=some ((mz l k j).map λp=>(p.1,.int .i64 p.2)):=by
 induction l generalizing i j with
 |nil=>rfl
 |cons p r ih=>
  simp only[fh,Instr.findNow,mz,Instr.sameNow,if_true];by_cases q:p.1=k
  .have:(k==p.1)=true:=(by simp[q]);rw[this,if_pos q];rfl
  .have:(k==p.1)=false:=(by simp;omega);rw[this,if_neg q];exact ih (i+1) (j+1)
def abF(l:List (Int×Int))(k:Int)(i:Nat):(mz l k i).map (λp=>p.2)=(l.find? λp=>decide (p.1=k)).map λp=>p.2:=by
 induction l generalizing i with
 |nil=>rfl
 |cons p r ih=>
  rw[mz,List.find?_cons];by_cases q:p.1=k
  .simp[q]
  .simp[q,ih]
def abG{l:List (Int×Int)}{k:Int}(h:∀p∈l,p.1≠k)(i:Nat):mz l k i=none:=by
 induction l generalizing i with
 |nil=>rfl
 |cons p r ih=>
  rw[mz,if_neg (h p (by simp))];exact ih (λq hq=>h q (by simp[hq])) _
def im:PP=Tryz.prog:=by unfold PP;rfl
def Ia(e:Bool)(k:Int):(Instr.checkKey e 10000 3 (.int .i64 k)).aU PP=some ():=by
 rw[im];cases e<;>kernel_rfl
def Kk(k:Int)(l:List (Int×Int))(i:Nat):(Instr.findKey 3 (.int .i64 k) (fh l i)).aU PP=some ((mz l k 0).map λp=>(p.1,.int .i64 p.2)):=by
 simp only[Instr.findKey,cM,pG RX,ep];rw[Zv];rfl
def Aw(k:Int)(l:List (Int×Int)):(pV 3 3 (.int .i64 k) (fh l 0).toArray true).aU PP=some (.tuple #[.int .i64 (((mz l k 0).map λp=>p.2).getD 0),.bool (mz l k 0).isSome]):=by
 have hz:(zeroValue 3).aU PP=some (.int .i64 0):=by rw[im];kernel_rfl
 simp only[pV,cM,Ia,ep,Kk];cases hp:mz l k 0 with
 |none=>
  show(zeroValue 3 >>= λa=>pure (Value.tuple #[a,.bool false]):Sem Value).aU PP=_;rw[cM,hz];rfl
 |some p=>simp[cM,th]
def aoj(k:Int)(l:List (Int×Int)):(tK 3 (.int .i64 k) (fh l 0).toArray).aU PP=some ((mz l k 0).map λp=>(p.1,.int .i64 p.2)):=by
 simp only[tK,cM,Ia,ep,Kk]
def jY(h:aa)(s:bS)(cs:List Value):Prop:=∃hc lv mb,cs=hc++[lv,.map (some mb)]/\jg h s.v s.us hc/\aL 29 ah h lv s.l/\h.f mb= .obj (.map (fh s.pins 0).toArray s.pins.length)/\mb<h.n
def sa(cs:List Value):Prop:=∃a1 n1 c1 g r a2 n2 c2 a3 n3 c3 a4 n4 c4 a5 n5 c5 mb,cs=[.slice a1 n1 c1,.int .i64 g,.int .i64 r,.slice a2 n2 c2,.slice a3 n3 c3,.slice a4 n4 c4,.slice a5 n5 c5,.map (some mb)]
def US(v:ai)(us:List Bool)(l:List aQ)(acc:List (Int×Int)):Prop:=∀p∈acc,0<=p.1/\p.1<l.length/\((cY v us (l.getD p.1.toNat default) p.2).isSome=true)
def rM{v:ai}{us:List Bool}{p:aQ}{a:Int}(h:(cY v us p a).isSome=true):dK p=true/\1<=p.size/\p.size<=8/\0<=a/\a+p.size<=v.ag.length:=by
 unfold cY at h;split at h
 .rename_i hm;split at h
  .rename_i l hl;have:=wY hl;have hs:p.size<=8:=(by have hm':=hm;unfold dK at hm';simp at hm';omega);exact⟨hm,this.2.1,hs,this.2.2.1,this.2.2.2⟩
  .cases h
 .cases h
def aat(v:ai)(us:List Bool)(l:List aQ)(acc:List (Int×Int))(p f:Int)(r:List (Int×Int)):jE v us l acc ((p,f)::r)=(if lq acc p || decide (p<0) || decide ((l.length:Int)<=p)then none
  else if(cY v us (l.getD p.toNat default) f).isNone then none
  else if acc.all λq=>dM v (l.getD p.toNat default) f (l.getD q.1.toNat default) q.2 then jE v us l (acc++[(p,f)]) r else none):=rfl
def rZ(acc:List (Int×Int)):Prop:=acc.Pairwise λa b=>a.1<b.1
def Q1{acc:List (Int×Int)}(h:rZ acc){p f:Int}(hn:lq acc p=false):rZ (acc++[(p,f)]):=by
 unfold rZ at h ⊢;rw[oR];refine⟨h,List.pairwise_singleton _ _,λa ha b hb=>?_⟩;obtain rfl:=dZ.1 hb;rcases List.eq_nil_or_concat acc with e|⟨r,q,e⟩
 .subst e;cases ha
 .rw[List.concat_eq_append]at e;subst e;unfold lq at hn;rw[List.getLast?_append]at hn;simp at hn;rcases eH.1 ha with z|z
  .have:=(oR.1 h).2.2 a z q (by simp);simp only;omega
  .obtain rfl:=dZ.1 z;exact hn
def ajS{acc:List (Int×Int)}(h:rZ acc){p:Int}(hn:lq acc p=false):∀q∈acc,q.1≠p:=by
 intro q hq;have:=Q1 h (f:=0) hn;unfold rZ at this;have:=(oR.1 this).2.2 q hq (p,0) (by simp);simp only at this;omega
def TD(h:aa)(v:ai)(us:List Bool)(l:List aQ)(pins:List (Int×Int))(hc:List Value)(lv pv:Value)(mb:Nat)(z6:List Value)(m n:Nat)(σ:St):Prop:=∃i:Nat,n=m-i/\i<=m/\Ext h σ.m.h/\jg σ.m.h v us hc/\h.n<=mb/\mb<σ.m.h.n/\σ.m.h.f mb= .obj (.map (fh (pins.take i) 0).toArray i)/\
 jE v us l [] pins=jE v us l (pins.take i) (pins.drop i)/\US v us l (pins.take i)/\rZ (pins.take i)/\
 σ.t.get 1=some lv/\σ.t.get 2=some pv/\σ.t.get 6=some (.pointer (some ⟨6,0,some 0⟩))/\σ.t.get 8=some (.pointer (some ⟨8,0,some 0⟩))/\σ.t.get 10=some (.pointer (some ⟨10,0,some 0⟩))/\σ.t.get 34=some pv/\σ.t.get 35=some (.int .i64 (m:Nat))/\σ.t.get 36=some (.int .i64 (i:Nat))/\
 σ.m.x.look 6=some (242,z6)/\σ.m.x.look 8=some (239,hc)/\σ.m.x.look 10=some (242,hc++[lv,.map (some mb)])
def UG(H:aa)(lv pv:Value)(m i:Nat)(p f:Int)(z6 hc c10:List Value)(σ:St):Prop:=σ.m.h=H/\σ.t.get 1=some lv/\σ.t.get 2=some pv/\σ.t.get 6=some (.pointer (some ⟨6,0,some 0⟩))/\σ.t.get 8=some (.pointer (some ⟨8,0,some 0⟩))/\σ.t.get 10=some (.pointer (some ⟨10,0,some 0⟩))/\σ.t.get 11=some (.int .i64 (i:Nat))/\σ.t.get 12=some (.pointer (some ⟨12,0,some 0⟩))/\
 σ.t.get 34=some pv/\σ.t.get 35=some (.int .i64 (m:Nat))/\σ.t.get 36=some (.int .i64 (i:Nat))/\σ.m.x.look 6=some (242,z6)/\σ.m.x.look 8=some (239,hc)/\σ.m.x.look 10=some (242,c10)/\σ.m.x.look 12=some (69,[.int .i64 p,.int .i64 f])
def UF(H:aa)(lv pv:Value)(m i:Nat)(p f:Int)(z:Bool)(z6 hc c10:List Value)(σ:St):Prop:=σ.m.h=H/\σ.t.get 1=some lv/\σ.t.get 2=some pv/\σ.t.get 6=some (.pointer (some ⟨6,0,some 0⟩))/\σ.t.get 8=some (.pointer (some ⟨8,0,some 0⟩))/\σ.t.get 10=some (.pointer (some ⟨10,0,some 0⟩))/\σ.t.get 11=some (.int .i64 (i:Nat))/\σ.t.get 12=some (.pointer (some ⟨12,0,some 0⟩))/\
 σ.t.get 34=some pv/\σ.t.get 35=some (.int .i64 (m:Nat))/\σ.t.get 36=some (.int .i64 (i:Nat))/\σ.t.get 65=some (.bool z)/\σ.m.x.look 6=some (242,z6)/\σ.m.x.look 8=some (239,hc)/\σ.m.x.look 10=some (242,c10)/\σ.m.x.look 12=some (69,[.int .i64 p,.int .i64 f])
def TE(h:aa)(v:ai)(us:List Bool)(l:List aQ)(pins:List (Int×Int))(X:aQ)(q:Nat)(f:Int)(hc c10:List Value)(lv pv tv:Value)(mb:Nat)(z6:List Value)(m i n:Nat)(σ:St):Prop:=∃k:Nat,n=i-k/\k<=i/\Ext h σ.m.h/\jg σ.m.h v us hc/\mb<σ.m.h.n/\σ.m.h.f mb= .obj (.map (fh (pins.take i) 0).toArray i)/\
 ((pins.take k).all λy=>dM v X f (l.getD y.1.toNat default) y.2)=true/\
 σ.t.get 1=some lv/\σ.t.get 2=some pv/\σ.t.get 6=some (.pointer (some ⟨6,0,some 0⟩))/\σ.t.get 8=some (.pointer (some ⟨8,0,some 0⟩))/\σ.t.get 10=some (.pointer (some ⟨10,0,some 0⟩))/\σ.t.get 12=some (.pointer (some ⟨12,0,some 0⟩))/\σ.t.get 34=some pv/\σ.t.get 35=some (.int .i64 (m:Nat))/\σ.t.get 36=some (.int .i64 (i:Nat))/\
 σ.t.get 84=some tv/\σ.t.get 85=some (.int .i64 (i:Nat))/\σ.t.get 86=some (.int .i64 (k:Nat))/\σ.m.x.look 6=some (242,z6)/\σ.m.x.look 8=some (239,hc)/\σ.m.x.look 10=some (242,c10)/\σ.m.x.look 12=some (69,[.int .i64 (q:Nat),.int .i64 f])
def xi(h:aa)(r:Option bS)(v:Value)(h':aa):Prop:=Ext h h'/\∃cs,sa cs/\v= .tuple #[.agg ⟨cs⟩,.bool r.isSome]/\∀s,r=some s->jY h' s cs
def ai0(v:ai)(M:aK v=true)(cs:List Value)(lv pv:Value)(l:List aQ)(pins:List (Int×Int))(hl:l.length<=1073741824)(hp:pins.length<=1073741824)(hpf:∀p∈pins,-4611686018427387904<=p.2/\p.2<=4611686018427387904)(h:aa)(H:eC h v cs)(hs:aL 29 ah h lv l)(hps:aL 69 ik h pv pins):
  al PP 170 [.agg ⟨cs⟩,lv,pv] h (xi h (fW v l pins)):=by
 refine aC Tryz.func170 afN ?_;simp only[aA,Tryz.f170];have F:=jF M;have hin:=KM v M cs h H;have aJ:=λh' E=>C6 lv l hl h' (hs.ext (h':=h') E).sl;have hul:(bK v).length<=1073741824:=by rw[<-tH M,qJ];have:=F.len;omega
 have HM:tN v (bK v):=⟨F,hul⟩;have hset:fW v l pins=if fy l then(jE v (bK v) l [] pins).map λa=>⟨v,bK v,l,a⟩else none:=by unfold fW;rw[M,qQ]
 obtain⟨sv,k,pp,rfl,h1,h2,h3⟩:=H;obtain⟨ad1,c1,e1⟩:=h1.shape;obtain⟨ad2,c2,e2⟩:=h2.shape;obtain⟨ad3,c3,e3⟩:=h3.shape;subst e1;subst e2;subst e3;obtain⟨ad5,c5,e5⟩:=hs.shape;obtain⟨ad6,c6,e6⟩:=hps.shape;subst e5;subst e6;simp -implicitDefEqProofs;refine hin.mono ?_;rintro r G ⟨E,hc,HF,rfl⟩;have hcs:∃a1 n1 c1 g r a2 n2 c2 a3 n3 c3 a4 n4 c4,hc=[.slice a1 n1 c1,.int .i64 g,.int .i64 r,.slice a2 n2 c2,.slice a3 n3 c3,.slice a4 n4 c4]:=by
  obtain⟨vc,uv,rfl,⟨s,k,p,rfl,h1,h2,h3⟩,h4⟩:=HF;obtain⟨b1,d1,rfl⟩:=h1.shape;obtain⟨b2,d2,rfl⟩:=h2.shape;obtain⟨b3,d3,rfl⟩:=h3.shape;obtain⟨b4,d4,rfl⟩:=h4.shape;exact⟨_,_,_,_,_,_,_,_,_,_,_,_,_,_,rfl⟩
 obtain⟨b1,n1,d1,g,rr,b2,n2,d2,b3,n3,d3,b4,n4,d4,rfl⟩:=hcs;simp -implicitDefEqProofs[af];intro _;obtain⟨mb,hmb⟩:=nm G.n;obtain⟨G1,hG1⟩:=nm (G.new (.obj (.map #[] 0)));have E1:Ext G G1:=by rw[hG1];exact Ext.new _ _
 have hmb1:G1.n=mb+1:=by rw[hG1,hmb];rfl
 have hmf:G1.f mb= .obj (.map #[] 0):=by rw[hG1,hmb];simp
 rw[<-hG1,<-hmb];refine cE (aJ _ (E.trans E1)) ?_;have HF1:=HF.ext E1;by_cases qa:fy l=true
 .rw[if_pos qa]at hset;rw[hset];obtain⟨us,hus⟩:=nm (bK v);rw[<-hus]at HF1 HM ⊢;obtain⟨hc,hhc⟩:=nm [Value.slice b1 n1 d1,.int .i64 g,.int .i64 rr,.slice b2 n2 d2,.slice b3 n3 d3,.slice b4 n4 d4];rw[<-hhc]at HF1;have hcl:hc.length=6:=by rw[hhc];rfl
  have hct:hc.take 6=hc:=b9 (by omega);obtain⟨m,hm⟩:=nm pins.length;have fin:∀(H:aa)(r:Option (List (Int×Int))),Ext h H->(∀a,r=some a->jg H v us hc/\aL 29 ah H (.slice ad5 l.length c5) l/\H.f mb= .obj (.map (fh a 0).toArray a.length)/\mb<H.n)->
    xi h (r.map λa=>(⟨v,us,l,a⟩:bS)) (.tuple #[.agg ⟨hc++[.slice ad5 l.length c5,.map (some mb)]⟩,.bool (r.map λa=>(⟨v,us,l,a⟩:bS)).isSome]) H:=by
   intro H r EH hr;refine⟨EH,_,?_,rfl,λs hs=>?_⟩
   .rw[hhc];exact⟨_,_,_,_,_,_,_,_,_,_,_,_,_,_,_,_,_,_,rfl⟩
   .cases r with
    |none=>cases hs
    |some a=>
     simp only[fV,av]at hs;subst hs;obtain⟨f1,f2,f3,f4⟩:=hr a rfl;exact⟨hc,_,mb,rfl,f1,f2,f3,f4⟩
  simp -implicitDefEqProofs[af,qa];intro _;rw[<-hm];refine bG (TD h v us l pins hc (.slice ad5 l.length c5) (.slice ad6 m c6) mb [.slice none 0 0,.int .i64 0,.int .i64 0,.slice none 0 0,.slice none 0 0,.slice none 0 0,.slice none 0 0,.map none] m) _ ⟨0,rfl,by omega,by simpa using E.trans E1,by simpa using HF1,by rw[hmb];exact E.n,by simp;omega,by simpa[fh]using hmf,by simp,by intro p hp;simp at hp,by simp[rZ,hhc]⟩ ?_;rintro n ⟨T,⟨x,H⟩⟩ ⟨i,rfl,hi,EH,HH,hmb0,hmbn,hmbf,hgo,hPO,hR,g1,g2,g6,g8,g10,g34,g35,g36,x6,x8,x10⟩;simp at EH HH hmbn hmbf g1 g2 g6 g8 g10 g34 g35 g36 x6 x8 x10;simp -implicitDefEqProofs[g1,g2,g6,g8,g10,g34,g35,g36,x6,x8,x10];refine jk (λhc'=>?_) (λhc'=>?_)<;>simp only[de,lP]at hc'
  .have him:i<m:=(by omega);have hpi:pins[i]? =some pins[i]:=aq (by omega);obtain⟨pf,hpf'⟩:=nm pins[i];rw[<-hpf']at hpi;obtain⟨p,f⟩:=pf;have hfr:=hpf (p,f) (dE hpi);simp only at hfr;have hdrop:pins.drop i=(p,f)::pins.drop (i+1):=(by rw[hpf'];exact gQ (by omega));have htake:pins.take (i+1)=pins.take i++[(p,f)]:=(by rw[fL,hpi];rfl);have hpsH:=hps.ext EH;rw[<-hm]at hpsH;obtain⟨_,bp,op,cells,r,rfl,hb,hd,hlc,hbn⟩:=hpsH.at 2 qs hpi;have hk0:(cells.drop (op+i*2)).take 2=[.int .i64 p,.int .i64 f]:=(by rw[hd];rfl);have hnu:lq (pins.take i) p=(decide (0<i)&&decide (p<=(pins.getD (i-1) default).1)):=by
    rcases Nat.eq_zero_or_pos i with e|e
    .subst e;simp[lq]
    .obtain⟨j,rfl⟩:∃j,i=j+1:=⟨i-1,by omega⟩;have hj:pins[j]? =some pins[j]:=aq (by omega);have hlast:(pins.take (j+1)).getLast? =some pins[j]:=by
      rw[List.getLast?_eq_getElem?,dh,Nat.min_eq_left (by omega)];simp[List.getElem?_take,hj]
     unfold lq;rw[hlast];simp[bu,hj]
   have hstep:=hgo;rw[hdrop,aat]at hstep;have bad:∀(cond:(lq (pins.take i) p || decide (p<0) || decide ((l.length:Int)<=p))=true∨(cY v us (l.getD p.toNat default) f).isNone=true∨((pins.take i).all λq=>dM v (l.getD p.toNat default) f (l.getD q.1.toNat default) q.2)=false),jE v us l [] pins=none:=by
    intro cond;rw[hstep];by_cases z1:(lq (pins.take i) p || decide (p<0) || decide ((l.length:Int)<=p))=true
    .rw[if_pos z1]
    .rw[if_neg z1];by_cases z2:(cY v us (l.getD p.toNat default) f).isNone=true
     .rw[if_pos z2]
     .rw[if_neg z2];rcases cond with q|q|q
      .exact absurd q z1
      .exact absurd q z2
      .rw[if_neg (by rw[q];decide)]
   have finN:∀(H:aa),Ext h H->jE v us l [] pins=none->xi h ((jE v us l [] pins).map λa=>(⟨v,us,l,a⟩:bS)) (.tuple #[.agg ⟨hc++[.slice ad5 l.length c5,.map (some mb)]⟩,.bool false]) H:=by
    intro H EH hn;have:=fin H none EH (λa ha=>by cases ha);rw[hn];exact this
   have tail:∀(H:aa),True:=λ_=>trivial;have w1:=bO (i:=i) (by omega);have hcL:(hc++[Value.slice ad5 l.length c5,Value.map (some mb)]).length=8:=(by simp[hcl]);obtain⟨A,hA⟩:=nm (hc++[Value.slice ad5 l.length c5,Value.map (some mb)]);have hAl:A.length=8:=(by rw[hA];exact hcL);have hAt:A.take 8=A:=b9 (by omega);have hA7:A.drop 7=[.map (some mb)]:=(by rw[hA,hhc];rfl);have hAo:A.all cL=true:=(by rw[hA,hhc];rfl);rw[<-hA]at x10 finN;simp only[Ai,Sk,RJ];rw[Cw,Sh];refine Si 1 (UG H (.slice ad5 l.length c5) (.slice (some ⟨bp,op,none⟩) m c6) m i p f [.slice none 0 0,.int .i64 0,.int .i64 0,.slice none 0 0,.slice none 0 0,.slice none 0 0,.slice none 0 0,.map none] hc A) ?_ ?_
   .simp only[sF,sE];simp -implicitDefEqProofs[g1,g2,g6,g8,g10,g34,g35,g36,x6,x8,x10,him,hb,hk0,hlc];exact⟨rfl,by simp[x6,x8,x10,hA]⟩
   clear g1 g2 g6 g8 g10 g34 g35 g36 x6 x8 x10;rintro⟨T,⟨x,H2⟩⟩ ⟨e,g1,g2,g6,g8,g10,g11,g12,g34,g35,g36,x6,x8,x10,x12⟩;replace e:H=H2:=e.symm;subst e;simp at g1 g2 g6 g8 g10 g11 g12 g34 g35 g36 x6 x8 x10 x12;simp only[tF,qG];rw[Cw];refine Si 1 (UF H (.slice ad5 l.length c5) (.slice (some ⟨bp,op,none⟩) m c6) m i p f (lq (pins.take i) p || decide (p<0) || decide ((l.length:Int)<=p)) [.slice none 0 0,.int .i64 0,.int .i64 0,.slice none 0 0,.slice none 0 0,.slice none 0 0,.slice none 0 0,.map none] hc A) ?_ ?_
   .simp only[sF,sE];rw[hnu];by_cases z0:0<i
    .obtain⟨j,hj⟩:=nm (i-1);have hjm:j<m:=(by omega);have hpj:pins[j]? =some pins[j]:=aq (by omega);obtain⟨pf2,hpf2⟩:∃pf,pf=pins[j]:=⟨_,rfl⟩;rw[<-hpf2]at hpj;obtain⟨p2,f2⟩:=pf2;obtain⟨_,bp',op',cells',r',e,hb',hd',hlc',_⟩:=hpsH.at 2 qs hpj;simp only[av,Addr.mk.injEq,and_true]at e;obtain⟨rfl,rfl⟩:=e;rw[hb]at hb';simp only[aW.row.injEq,true_and]at hb';obtain rfl:=hb';have hk1:cells.drop (op+j*2)= .int .i64 p2:: .int .i64 f2::r':=hd';have hk1l:op+j*2+1<=cells.length:=(by omega);have w2:IntKind.wrap .i64 ((i:Int)-1)=(j:Int):=(by rw[bB (by omega)];omega);have z0':(0:Int)<(i:Int):=(by omega);have hgd:(pins.getD (i-1) default).1=p2:=(by rw[<-hj,bu,hpj];rfl);rw[hgd];by_cases z2:p<=p2
     .simp -implicitDefEqProofs[g1,g2,g6,g8,g10,g11,g12,g34,g35,g36,x6,x8,x10,x12,him,hb,hlc,z0,z0',w2,hjm,hk1,hk1l,z2];exact⟨rfl,by simp[x6,x8,x10,x12]⟩
     by_cases z3:p<0
     .simp -implicitDefEqProofs[g1,g2,g6,g8,g10,g11,g12,g34,g35,g36,x6,x8,x10,x12,him,hb,hlc,z0,z0',w2,hjm,hk1,hk1l,z2,z3];exact⟨rfl,by simp[x6,x8,x10,x12]⟩
     .simp -implicitDefEqProofs[g1,g2,g6,g8,g10,g11,g12,g34,g35,g36,x6,x8,x10,x12,him,hb,hlc,z0,z0',w2,hjm,hk1,hk1l,z2,z3];exact⟨rfl,by simp[x6,x8,x10,x12]⟩
    .have z0':¬(0:Int)<(i:Int):=(by omega);by_cases z3:p<0
     .simp -implicitDefEqProofs[g1,g2,g6,g8,g10,g11,g12,g34,g35,g36,x6,x8,x10,x12,him,hb,hlc,z0,z0',z3];exact⟨rfl,by simp[x6,x8,x10,x12]⟩
     .simp -implicitDefEqProofs[g1,g2,g6,g8,g10,g11,g12,g34,g35,g36,x6,x8,x10,x12,him,hb,hlc,z0,z0',z3];exact⟨rfl,by simp[x6,x8,x10,x12]⟩
   clear g1 g2 g6 g8 g10 g11 g12 g34 g35 g36 x6 x8 x10;rintro⟨T,⟨x,H2⟩⟩ ⟨e,g1,g2,g6,g8,g10,g11,g12,g34,g35,g36,g65,x6,x8,x10,x12⟩;replace e:H=H2:=e.symm;subst e;simp at g1 g2 g6 g8 g10 g11 g12 g34 g35 g36 g65 x6 x8 x10 x12;simp only[tF,qG];obtain⟨z,hz⟩:=nm (lq (pins.take i) p || decide (p<0) || decide ((l.length:Int)<=p));rw[<-hz]at g65;cases z with
   |true=>
    have hbad:=finN H EH (bad (.inl hz.symm));simp -implicitDefEqProofs[g1,g2,g6,g8,g10,g11,g12,g34,g35,g36,g65,x6,x8,x10,x12,hAl,hAt,hAo];exact hbad
   |false=>
    have hz':=hz.symm;simp only[Bool.or_eq_false_iff,lP]at hz';obtain⟨⟨hn0,hp0⟩,hpl⟩:=hz';obtain⟨q,rfl⟩:∃q:Nat,p=q:=⟨p.toNat,by omega⟩;have hql:q<l.length:=(by omega);have hti:l[q]? =some l[q]:=aq hql;obtain⟨X,hX⟩:=nm l[q];rw[<-hX]at hti;have hgX:l.getD (q:Int).toNat default=X:=(by rw[gR,bu,hti];rfl);obtain⟨_,bl,ol,cl,rl,rfl,hbl,hdl,hlcl,hbln⟩:=(hs.ext EH).at 2 ko hti;have hkl:(cl.drop (ol+q*2)).take 2=[.int .i64 X.size,.int .i64 X.cS]:=(by rw[hdl];rfl);have hse:=yd v us HM hc X f hfr H HH;simp only[du,ah]at hse;rw[hgX]at bad;simp -implicitDefEqProofs[g1,g2,g6,g8,g10,g11,g12,g34,g35,g36,g65,x6,x8,x10,x12,hAl,hAt,hcl,hct,hql,hbl,hkl,hlcl];refine hse.mono ?_;rintro r H3 ⟨E3,R⟩;have EH3:=EH.trans E3;cases hsx:cY v us X f with
    |none=>
     rw[hsx]at R;subst R;have hbad:=finN H3 EH3 (bad (.inr (.inl (by rw[hsx];rfl))));simp -implicitDefEqProofs[af,g1,g2,g6,g8,g10,g11,g12,g34,g35,g36,g65,x6,x8,x10,x12,hAl,hAt,hAo];intro _;exact hbad
    |some ls=>
     rw[hsx]at R;obtain⟨sl,Ssl,rfl⟩:=R;obtain⟨ad7,c7,rfl⟩:=Ssl.shape;have hsome:(cY v us X f).isSome=true:=(by rw[hsx];rfl);have hXin:=rM hsome;have HH3:=HH.ext E3;have hmbf3:H3.f mb= .obj (.map (fh (pins.take i) 0).toArray i):=(by rw[E3.f _ hmbn];exact hmbf);have hmbn3:mb<H3.n:=cV hmbn E3.n;have hb3:H3.f bp= .row false 69 cells:=(by rw[E3.f bp hbn];exact hb);have him':i<=m:=(by omega);simp -implicitDefEqProofs[af,g1,g2,g6,g8,g10,g11,g12,g34,g35,g36,g65,x6,x8,x10,x12,hAl,hAt,hAo,hb3,him'];intro _;refine bG (TE h v us l pins X q f hc A (.slice (some ⟨bl,ol,none⟩) l.length c5) (.slice (some ⟨bp,op,none⟩) m c6) (.slice (some ⟨bp,op,none⟩) i i) mb [.slice none 0 0,.int .i64 0,.int .i64 0,.slice none 0 0,.slice none 0 0,.slice none 0 0,.slice none 0 0,.map none] m i) _ ⟨0,rfl,by omega,by simpa using EH3,by simpa using HH3,by simpa using hmbn3,by simpa using hmbf3,by simp⟩ ?_;clear g1 g2 g6 g8 g10 g11 g12 g34 g35 g36 g65 x6 x8 x10 x12 hmbf3 hmbn3 hb3 HH3;rintro n ⟨T,⟨x,H4⟩⟩ ⟨k,rfl,hk,EH4,HH4,hmbn4,hmbf4,hall4,g1,g2,g6,g8,g10,g12,g34,g35,g36,g84,g85,g86,x6,x8,x10,x12⟩;simp at EH4 HH4 hmbn4 hmbf4 g1 g2 g6 g8 g10 g12 g34 g35 g36 g84 g85 g86 x6 x8 x10 x12;simp -implicitDefEqProofs[g1,g2,g6,g8,g10,g12,g34,g35,g36,g84,g85,g86,x6,x8,x10,x12];refine bR (λhc2=>?_) (λhc2=>?_)
     .have hki:k<i:=(by omega);have hpk:pins[k]? =some pins[k]:=aq (by omega);obtain⟨pf3,hpf3⟩:∃pf,pf=pins[k]:=⟨_,rfl⟩;rw[<-hpf3]at hpk;have hmem:pf3∈pins.take i:=by
       rw[List.mem_take_iff_getElem];exact⟨k,by omega,hpf3.symm⟩
      have hPOk:=hPO pf3 hmem;obtain⟨p3,f3⟩:=pf3;simp only at hPOk;obtain⟨y,rfl⟩:∃y:Nat,p3=y:=⟨p3.toNat,by omega⟩;have hyl:y<l.length:=(by omega);have hty:l[y]? =some l[y]:=aq hyl;obtain⟨Y,hY⟩:=nm l[y];rw[<-hY]at hty;have hgY:l.getD (y:Int).toNat default=Y:=(by rw[gR,bu,hty];rfl);rw[hgY]at hPOk;have hYin:=rM hPOk.2.2;have hps4:=hps.ext EH4;rw[<-hm]at hps4;obtain⟨_,bp',op',cells',r',e,hb4,hd4,hlc4,_⟩:=hps4.at 2 qs hpk;simp only[av,Addr.mk.injEq,and_true]at e;obtain⟨rfl,rfl⟩:=e;have hkk:(cells'.drop (op+k*2)).take 2=[.int .i64 (y:Int),.int .i64 f3]:=(by rw[hd4];rfl);obtain⟨_,bl',ol',cl',rl',e,hbl4,hdl4,hlcl4,_⟩:=(hs.ext EH4).at 2 ko hti;simp only[av,Addr.mk.injEq,and_true]at e;obtain⟨rfl,rfl⟩:=e;obtain⟨_,bl2,ol2,cl2,rl2,e,hbl5,hdl5,hlcl5,_⟩:=(hs.ext EH4).at 2 ko hty;simp only[av,Addr.mk.injEq,and_true]at e;obtain⟨rfl,rfl⟩:=e;rw[hbl4]at hbl5;simp only[aW.row.injEq,true_and]at hbl5;obtain rfl:=hbl5;have hkX:(cl'.drop (ol+q*2)).take 2=[.int .i64 X.size,.int .i64 X.cS]:=(by rw[hdl4];rfl);have hkY:(cl'.drop (ol+y*2)).take 2=[.int .i64 Y.size,.int .i64 Y.cS]:=(by rw[hdl5];rfl);have hap:=zT v us HM hc X f Y f3 ⟨hXin.2.2.2.1,hXin.2.2.2.2⟩ ⟨hYin.2.2.2.1,hYin.2.2.2.2⟩ (by omega) (by omega) H4 HH4;simp only[du,ah]at hap;have w3:=bO (i:=k) (by omega);simp -implicitDefEqProofs[g1,g2,g6,g8,g10,g12,g34,g35,g36,g84,g85,g86,x6,x8,x10,x12,hki,hb4,hkk,hlc4,hcl,hct,hql,hyl,hbl4,hkX,hkY,hlcl4,hlcl5];refine hap.mono ?_;rintro r H5 ⟨E5,rfl⟩;by_cases hq:dM v X f Y f3=true
      .simp -implicitDefEqProofs[af,aF,hq,g1,g2,g6,g8,g10,g12,g34,g35,g36,g84,g85,g86,x6,x8,x10,x12,w3];intro _;have htk:pins.take (k+1)=pins.take k++[((y:Int),f3)]:=(by rw[fL,hpk];rfl);refine⟨i-(k+1),by omega,k+1,rfl,by omega,EH4.trans E5,HH4.ext E5,cV hmbn4 E5.n,by rw[E5.f _ hmbn4];exact hmbf4,?_,by simp[x6,x8,x10,x12]⟩;rw[htk,List.all_append,hall4];simp only[List.all_cons,List.all_nil,Bool.and_true,qQ,hgY];exact hq
      .have hbad:=finN H5 (EH4.trans E5) (bad (.inr (.inr (by
        rw[<-mq,cz];intro hh;have:=hh _ hmem;simp only[hgY]at this;exact hq this))))
       simp -implicitDefEqProofs[af,aF,hq,g1,g2,g6,g8,g10,g12,g34,g35,g36,g84,g85,g86,x6,x8,x10,x12,hAl,hAt,hAo]
       intro _
       exact hbad
     .have e:k=i:=(by omega);subst e;have hwh:=aoj (q:Int) (pins.take k);rw[abG (ajS hR hn0)]at hwh;simp only[Option.map_none]at hwh;simp -implicitDefEqProofs[g1,g2,g6,g8,g10,g12,g34,g35,g36,g84,g85,g86,x6,x8,x10,x12,hAl,hAt,hA7,hmbf4,hwh,w1];have hgo2:jE v us l [] pins=jE v us l (pins.take (k+1)) (pins.drop (k+1)):=by
       rw[hstep,<-hz,hgX,htake];simp only[fw,if_false];rw[if_neg (by rw[hsx];simp),if_pos hall4]
      have hents:(fh (pins.take (k+1)) 0).toArray=(fh (pins.take k) 0).toArray.push {key:=.int .i64 (q:Int),val:=.int .i64 f,born:=k}:=by
       rw[htake,Y9];simp[fh,show min k pins.length=k by omega]
      refine⟨m-(k+1),by omega,k+1,rfl,by omega,EH4.dp hmb0 _,HH4.kp ((Kp.refl H4).set (λe cs q=>by rw[hmbf4]at q;cases q) _),hmb0,hmbn4,?_,hgo2,?_,?_,by simp[x6,x8,x10,hA]⟩
      .simp[hents]
      .rw[htake];intro y hy;rcases eH.1 hy with z|z
       .exact hPO y z
       .obtain rfl:=dZ.1 z;exact⟨hp0 |> λz=>by omega,by simp only;omega,by simp only;rw[hgX];exact hsome⟩
      .rw[htake];exact Q1 hR hn0
  .have e:i=m:=(by omega);subst e;have hgo2:jE v us l [] pins=some pins:=(by rw[hgo,List.drop_of_length_le (by omega),b9 (by omega)];rfl);have hfin:=fin H (some pins) EH (λa ha=>by
    obtain rfl:=bU ha;refine⟨HH,?_,?_,hmbn⟩
    .exact hs.ext EH
    .rw[hmbf,hm,b9 (aX _)])
   rw[hgo2];simp only[fV,Option.isSome_some]at hfin ⊢;have hA:(hc++[Value.slice ad5 l.length c5,Value.map (some mb)]).length=8:=(by simp[hcl]);obtain⟨A,hAA⟩:=nm (hc++[Value.slice ad5 l.length c5,Value.map (some mb)]);rw[<-hAA]at hfin hA x10 ⊢;have hAt:A.take 8=A:=b9 (by omega);have hAo:A.all cL=true:=(by rw[hAA,hhc];rfl);simp -implicitDefEqProofs[g1,g2,g6,g8,g10,g34,g35,g36,x6,x8,x10,hA,hAt,hAo];exact hfin
 .rw[if_neg qa]at hset;rw[hset];simp -implicitDefEqProofs[af,qa];intro _;exact⟨E.trans E1,_,⟨_,_,_,_,_,_,_,_,_,_,_,_,_,_,_,_,_,_,rfl⟩,rfl,λs hs=>by cases hs⟩
def jY.ext{h h':aa}{s:bS}{cs:List Value}(H:jY h s cs)(E:Ext h h'):jY h' s cs:=by
 obtain⟨hc,lv,mb,rfl,h1,h2,h3,h4⟩:=H;exact⟨hc,lv,mb,rfl,h1.ext E,h2.ext E,by rw[E.f _ h4];exact h3,cV h4 E.n⟩
def jY.er{h h':aa}{s:bS}{cs:List Value}(H:jY h s cs){S:List Nat}(C:cX S h h')(hs:gZ S h):jY h' s cs:=by
 obtain⟨hc,lv,mb,rfl,h1,h2,h3,h4⟩:=H;exact⟨hc,lv,mb,rfl,h1.er C hs,h2.er C hs,C.obj hs h3 h4,cV h4 C.n⟩
def jY.shape{h:aa}{s:bS}{cs:List Value}(H:jY h s cs):sa cs:=by
 obtain⟨hc,lv,mb,rfl,⟨vc,uv,rfl,⟨sv,k,p,rfl,h1,h2,h3⟩,h4⟩,h5,_⟩:=H;obtain⟨b1,d1,rfl⟩:=h1.shape;obtain⟨b2,d2,rfl⟩:=h2.shape;obtain⟨b3,d3,rfl⟩:=h3.shape;obtain⟨b4,d4,rfl⟩:=h4.shape;obtain⟨b5,d5,rfl⟩:=h5.shape;exact⟨_,_,_,_,_,_,_,_,_,_,_,_,_,_,_,_,_,_,rfl⟩
structure vw(s:bS):Prop where
 aJ:tN s.v s.us
 len:s.l.length<=1073741824
def Bz(s:bS)(k:Int):eS s k=(mz s.pins k 0).map λp=>p.2:=by
 rw[abF];rfl
def si(s:bS)(p:List Int)(k:Nat):Bool:=match eS s k with
 |some x=>decide (p.getD k 0≠x)
 |none=>false
def Sw(s:bS)(p:List Int)(k:Nat):ez s p k=(if si s p k=true then true else if p.getD k 0= -1 then false else if(cY s.v s.us (s.l.getD k default) (p.getD k 0)).isNone=true then true
  else(List.range k).any λj=>decide (p.getD j 0≠-1)&& !dM s.v (s.l.getD k default) (p.getD k 0) (s.l.getD j default) (p.getD j 0)):=rfl
def aou{s:bS}{p:List Int}{k:Nat}(h:ez s p k=false)(hk:p.getD k 0≠-1):(cY s.v s.us (s.l.getD k default) (p.getD k 0)).isSome=true:=by
 rw[Sw]at h;split at h
 .cases h
 .split at h
  .cases h
  .rename_i q;cases hs:cY s.v s.us (s.l.getD k default) (p.getD k 0)with
   |none=>rw[hs]at q;exact absurd rfl q
   |some l=>rfl
def sh(s:bS)(p:List Int)(k j:Nat):Bool:=decide (p.getD j 0≠-1)&& !dM s.v (s.l.getD k default) (p.getD k 0) (s.l.getD j default) (p.getD j 0)
def TU(h:aa)(cs:List Value)(pv:Value)(s:bS)(p:List Int)(k n:Nat)(σ:St):Prop:=∃j:Nat,n=k-j/\j<=k/\Ext h σ.m.h/\(List.range j).any (sh s p k)=false/\σ.t.get 1=some pv/\σ.t.get 2=some (.int .i64 (k:Nat))/\σ.t.get 3=some (.pointer (some ⟨3,0,some 0⟩))/\σ.t.get 52=some (.int .i64 (k:Nat))/\σ.t.get 53=some (.int .i64 (j:Nat))/\σ.m.x.look 3=some (242,cs)
def UJ(h:aa)(cs:List Value)(pv:Value)(s:bS)(p:List Int)(k:Nat)(σ:St):Prop:=σ.m.h=h/\σ.t.get 1=some pv/\σ.t.get 2=some (.int .i64 (k:Nat))/\σ.t.get 3=some (.pointer (some ⟨3,0,some 0⟩))/\σ.m.x.look 3=some (242,cs)/\si s p k=false/\p.getD k 0≠-1
def akH(s:bS)(M:vw s)(cs:List Value)(pv:Value)(p:List Int)(hlen:p.length=s.l.length)(hpf:∀x∈p,-4611686018427387904<=x/\x<=4611686018427387904)(k:Nat)(hk:k<p.length)(hbefore:∀j,j<k->ez s p j=false)(h:aa)(H:jY h s cs)(hp:a8 h pv p):
  al PP 223 [.agg ⟨cs⟩,pv,.int .i64 (k:Nat)] h (λr h'=>Ext h h'/\r= .bool (ez s p k)):=by
 refine aC Tryz.func223 ags ?_;simp only[aA,Tryz.f223];have hMl:=M.len;have hp0:=hp;obtain⟨ad6,c6,rfl⟩:=hp.shape;obtain⟨C,hC⟩:=nm cs;have hCs:=H.shape;have hCl:C.length=8:=by obtain⟨a1,n1,c1,g,r,a2,n2,c2,a3,n3,c3,a4,n4,c4,a5,n5,c5,mb,rfl⟩:=hCs;rw[hC];rfl
 have hCo:C.all cL=true:=by obtain⟨a1,n1,c1,g,r,a2,n2,c2,a3,n3,c3,a4,n4,c4,a5,n5,c5,mb,rfl⟩:=hCs;rw[hC];rfl
 have hH:jg h s.v s.us (C.take 6):=by
  obtain⟨hc,lv,mb,e,h1,_⟩:=id H;obtain⟨vc,uv,e2,⟨sv,kk,pp,e3,_⟩,_⟩:=id h1;have:C.take 6=hc:=by rw[hC,e,e2,e3];rfl
  rw[this];exact h1
 obtain⟨hc,lv,mb,e,h1,h2,h3,h4⟩:=id H;have hdr:C.drop 6=lv::[.map (some mb)]:=by
  obtain⟨vc,uv,e2,⟨sv,kk,pp,e3,_⟩,_⟩:=id h1;rw[hC,e,e2,e3];rfl
 have hdr7:C.drop 7=[.map (some mb)]:=by
  obtain⟨vc,uv,e2,⟨sv,kk,pp,e3,_⟩,_⟩:=id h1;rw[hC,e,e2,e3];rfl
 obtain⟨ad5,c5,rfl⟩:=h2.shape;obtain⟨hc6,hh6⟩:∃x,x=C.take 6:=⟨_,rfl⟩;rw[<-hh6]at hH;rw[<-hC];clear e hC hCs H;have hkt:p[k]? =some p[k]:=aq hk;obtain⟨f,hf⟩:=nm p[k];rw[<-hf]at hkt;have hgf:p.getD k 0=f:=by rw[bu,hkt];rfl
 have hfb:=hpf f (dE hkt);obtain⟨_,bp,op,wp,cells,r,rfl,hb,hd,hlc,hbn⟩:=hp0.at 1 V.dY hkt;rw[Nat.mul_one]at hd;have hlc':op+k+1<=cells.length:=by omega
 have hkl:k<s.l.length:=by omega
 have hti:s.l[k]? =some s.l[k]:=aq hkl;obtain⟨X,hX⟩:=nm s.l[k];rw[<-hX]at hti;have hgX:s.l.getD k default=X:=by rw[bu,hti];rfl
 obtain⟨_,bl,ol,cl,rl,rfl,hbl,hdl,hlcl,hbln⟩:=h2.at 2 ko hti;have hkX:(cl.drop (ol+k*2)).take 2=[.int .i64 X.size,.int .i64 X.cS]:=by rw[hdl];rfl
 have hlook:(pV 3 3 (.int .i64 (k:Int)) (fh s.pins 0).toArray true).aU PP=some (.tuple #[.int .i64 ((eS s k).getD 0),.bool (eS s k).isSome]):=by
  rw[Aw,Bz,Option.isSome_map]
 have hbp:si s p k=match eS s k with
  |some x=>decide (f≠x)
  |none=>false:=by unfold si;rw[hgf]
 have hgoal:=Sw s p k;rw[hgf,hgX]at hgoal;refine w8 3 (UJ h C (.slice (some ⟨bp,op,none⟩) p.length c6) s p k) ?_ ?_
 .simp only[sF,sE];cases hpin:eS s k with
  |none=>
   rw[hpin]at hlook hbp;have hb0:si s p k=false:=hbp;rw[hb0]at hgoal;simp only[Option.getD_none,Option.isSome_none]at hlook;by_cases q1:f= -1
   .have hw:ez s p k=false:=(by rw[hgoal];simp[q1]);simp -implicitDefEqProofs[hCl,hdr7,h3,hlook,hk,hb,hd,hlc',ab,q1,hw];exact Ext.bJ h
   .simp -implicitDefEqProofs[hCl,hdr7,h3,hlook,hk,hb,hd,hlc',ab,q1];exact⟨rfl,by simp,by simp,by simp,by simp,hb0,by rw[hgf];exact q1⟩
  |some x=>
   rw[hpin]at hlook hbp;simp only[iH,Option.isSome_some]at hlook;by_cases q0:f=x
   .have hb0:si s p k=false:=(by rw[hbp];simp[q0]);rw[hb0]at hgoal;by_cases q1:f= -1
    .have hw:ez s p k=false:=(by rw[hgoal];simp[q1]);have q2:x= -1:=(by omega);simp -implicitDefEqProofs[hCl,hdr7,h3,hlook,hk,hb,hd,hlc',ab,q1,q2,hw];exact Ext.bJ h
    .rw[q0]at q1 hd;simp -implicitDefEqProofs[hCl,hdr7,h3,hlook,hk,hb,hd,hlc',ab,q1];exact⟨rfl,by simp,by simp,by simp,by simp,hb0,by rw[hgf,q0];exact q1⟩
   .have hb0:si s p k=true:=(by rw[hbp];simp[q0]);have hw:ez s p k=true:=(by rw[hgoal,hb0];rfl);simp -implicitDefEqProofs[hCl,hdr7,h3,hlook,hk,hb,hd,hlc',ab,q0,hw];exact Ext.bJ h
 .rintro⟨T,⟨x,H2⟩⟩ ⟨e,g1,g2,g3,x3,hb0,q1⟩;replace e:h=H2:=e.symm;subst e;simp at g1 g2 g3 x3;rw[hgf]at q1;rw[hb0]at hgoal;simp only[fw,if_false]at hgoal;rw[if_neg q1]at hgoal;have hse:=yd s.v s.us M.aJ hc6 X f hfb h hH;simp only[du,ah]at hse;have hc6l:C.take 6=hc6:=hh6.symm;simp only[tF,qG];simp -implicitDefEqProofs[g1,g2,g3,x3,hCl,hc6l,hdr,hk,hb,hd,hlc',ab,hkl,hbl,hkX,hlcl];refine hse.mono ?_;rintro r H3 ⟨E3,R⟩;cases hsx:cY s.v s.us X f with
  |none=>
   rw[hsx]at R hgoal;subst R;have hw:ez s p k=true:=(by rw[hgoal];rfl);simp -implicitDefEqProofs[aF,hw];intro _;exact E3
  |some ls=>
   rw[hsx]at R hgoal;obtain⟨sl,Ssl,rfl⟩:=R;obtain⟨ad7,c7,rfl⟩:=Ssl.shape;simp only[Option.isNone_some,fw,if_false]at hgoal;have hsome:(cY s.v s.us X f).isSome=true:=(by rw[hsx];rfl);have hXin:=rM hsome;have hgoal2:ez s p k=(List.range k).any (sh s p k):=by
    rw[hgoal];unfold sh;rw[hgf,hgX]
   simp -implicitDefEqProofs[aF,g1,g2,g3,x3];intro _;refine bG (TU h C (.slice (some ⟨bp,op,none⟩) p.length c6) s p k) _ ⟨0,rfl,by omega,E3,rfl,by simp[x3]⟩ ?_;clear g1 g2 g3 x3;rintro n ⟨T,⟨x,H4⟩⟩ ⟨j,rfl,hj,E4,hany,g1,g2,g3,g52,g53,x3⟩;simp at E4 g1 g2 g3 g52 g53 x3;simp -implicitDefEqProofs[g1,g2,g3,g52,g53,x3];refine bR (λhc2=>?_) (λhc2=>?_)
   .have hjk:j<k:=(by omega);have w1:=bO (i:=j) (by omega);have hjp:j<p.length:=(by omega);have hjt:p[j]? =some p[j]:=aq hjp;obtain⟨y,hy⟩:=nm p[j];rw[<-hy]at hjt;have hgy:p.getD j 0=y:=(by rw[bu,hjt];rfl);obtain⟨_,bp',op',wp',cells',r',e,hb4,hd4,hlc4,_⟩:=(dt.ext hp0 E4).at 1 V.dY hjt;simp only[av,Addr.mk.injEq,and_true]at e;obtain⟨rfl,rfl⟩:=e;rw[Nat.mul_one]at hd4;have hlc4':op+j+1<=cells'.length:=(by omega);have hb4k:cells'=cells:=(by rw[E4.f _ hbn,hb]at hb4;simp only[aW.row.injEq,true_and]at hb4;exact hb4.2.symm);have hrow:H4.f bp= .row wp 3 cells:=(by rw[E4.f _ hbn,hb]);rw[hb4k]at hd4 hlc4';by_cases q2:y= -1
    .have hbj:sh s p k j=false:=(by unfold sh;rw[hgy,q2];rfl);simp -implicitDefEqProofs[g1,g2,g3,g52,g53,x3,hjp,hrow,hd4,hlc4',ab,q2,w1];refine⟨k-(j+1),by omega,j+1,rfl,by omega,E4,?_,by simp[x3]⟩;rw[nX,List.any_append,hany];simp[hbj]
    .have hjl:j<s.l.length:=(by omega);have htj:s.l[j]? =some s.l[j]:=aq hjl;obtain⟨Y,hY⟩:=nm s.l[j];rw[<-hY]at htj;have hgY:s.l.getD j default=Y:=(by rw[bu,htj];rfl);have hsY:=aou (hbefore j hjk) (by rw[hgy];exact q2);rw[hgy,hgY]at hsY;have hYin:=rM hsY;have hbj:sh s p k j= !dM s.v X f Y y:=(by unfold sh;rw[hgy,hgf,hgX,hgY];simp[q2]);have hrl:H4.f bl= .row false 29 cl:=(by rw[E4.f _ hbln,hbl]);obtain⟨_,bl',ol',cl',rl',e,hbl5,hdl5,hlcl5,_⟩:=h2.at 2 ko htj;simp only[av,Addr.mk.injEq,and_true]at e;obtain⟨rfl,rfl⟩:=e;rw[hbl]at hbl5;simp only[aW.row.injEq,true_and]at hbl5;obtain rfl:=hbl5;have hkY:(cl.drop (ol+j*2)).take 2=[.int .i64 Y.size,.int .i64 Y.cS]:=(by rw[hdl5];rfl);have hap:=zT s.v s.us M.aJ hc6 X f Y y ⟨hXin.2.2.2.1,hXin.2.2.2.2⟩ ⟨hYin.2.2.2.1,hYin.2.2.2.2⟩ (by omega) (by omega) H4 (hH.ext E4);simp only[du,ah]at hap;simp -implicitDefEqProofs[g1,g2,g3,g52,g53,x3,hjp,hk,hrow,hd4,hd,hlc',hlc4',ab,q2,hCl,hc6l,hdr,hkl,hjl,hrl,hkX,hkY,hlcl,hlcl5];refine hap.mono ?_;rintro r H5 ⟨E5,rfl⟩;by_cases hq:dM s.v X f Y y=true
     .simp -implicitDefEqProofs[aF,hq,g1,g2,g3,g52,g53,x3,w1];intro _;refine⟨k-(j+1),by omega,j+1,rfl,by omega,E4.trans E5,?_,by simp[x3]⟩;rw[nX,List.any_append,hany];simp[hbj,hq]
     .have hw:ez s p k=true:=by
       rw[hgoal2,lB];exact⟨j,dF.2 hjk,by rw[hbj];simp[hq]⟩
      simp -implicitDefEqProofs[aF,hq,hw]
      intro _
      exact E4.trans E5
   .have e:j=k:=(by omega);subst e;have hw:ez s p j=false:=(by rw[hgoal2,hany]);simp -implicitDefEqProofs[g1,g2,g3,g52,g53,x3,hw];exact E4
def sa.len{C:List Value}(H:sa C):C.length=8:=by obtain⟨a1,n1,c1,g,r,a2,n2,c2,a3,n3,c3,a4,n4,c4,a5,n5,c5,mb,rfl⟩:=H;rfl
def sa.one{C:List Value}(H:sa C):C.all cL=true:=by obtain⟨a1,n1,c1,g,r,a2,n2,c2,a3,n3,c3,a4,n4,c4,a5,n5,c5,mb,rfl⟩:=H;rfl
def KO{v:ai}{l:List aQ}{pins:List (Int×Int)}{s:bS}(h:fW v l pins=some s):s.v=v/\s.us=bK v/\s.l=l/\aK v=true/\fy l=true:=by
 unfold fW at h;split at h
 .rename_i q;rw[bQ]at q;cases hg:jE v (bK v) l [] pins with
  |none=>rw[hg]at h;cases h
  |some a=>
   rw[hg]at h;simp only[fV,av]at h;subst h;exact⟨rfl,rfl,rfl,q.1,q.2⟩
 .cases h
def zq{v:ai}(M:aK v=true):(bK v).length=v.ag.length:=by rw[<-tH M,qJ]
def AQ{v:ai}{l:List aQ}{pins:List (Int×Int)}{s:bS}(h:fW v l pins=some s):vw s:=by
 obtain⟨rv,ru,rl,M,A⟩:=KO h;have F:=jF M;have:=F.len;refine⟨⟨by rw[rv];exact F,by rw[ru,zq M];omega⟩,?_⟩;rw[rl];unfold fy at A;rw[bQ]at A;have:=of_decide_eq_true A.1;omega
def Ay(s:bS)(p:List Int)(k:Nat):Prop:=∀j,j<k->ez s p j=false
def Zx{s:bS}{p:List Int}{k:Nat}(hk:k<p.length)(hw:ez s p k=true)(hb:Ay s p k):pb s p=k:=by
 unfold pb;have:(List.range p.length).find? (ez s p)=some k:=by
  rw[List.find?_range_eq_some];exact⟨hw,dF.2 hk,λj hj=>by rw[hb j hj];rfl⟩
 rw[this]
def Zy{s:bS}{p:List Int}(hb:Ay s p p.length):pb s p= -1:=by
 unfold pb;have:(List.range p.length).find? (ez s p)=none:=by
  rw[List.find?_range_eq_none];intro j hj;rw[hb j hj];rfl
 rw[this]
def TF(h:aa)(cs:List Value)(pv:Value)(s:bS)(p:List Int)(m n:Nat)(σ:St):Prop:=∃k:Nat,n=m-k/\k<=m/\Ext h σ.m.h/\Ay s p k/\σ.t.get 1=some pv/\σ.t.get 2=some (.pointer (some ⟨2,0,some 0⟩))/\σ.t.get 7=some (.int .i64 (m:Nat))/\σ.t.get 8=some (.int .i64 (k:Nat))/\σ.m.x.look 2=some (242,cs)
def Zz(s:bS)(M:vw s)(cs:List Value)(pv:Value)(p:List Int)(hlen:p.length=s.l.length)(hpf:∀x∈p,-4611686018427387904<=x/\x<=4611686018427387904)(h:aa)(H:jY h s cs)(hp:a8 h pv p):
  al PP 171 [.agg ⟨cs⟩,pv] h (λr h'=>Ext h h'/\r= .int .i64 (pb s p)):=by
 refine aC Tryz.func171 afO ?_;simp only[aA,Tryz.f171];have hMl:=M.len;have hw:=λk hk hb h' E=>akH s M cs pv p hlen hpf k hk hb h' (H.ext (h':=h') E) (dt.ext hp E);have hCs:=H.shape;have hCl:=hCs.len;have hCo:=hCs.one;have hCt:cs.take 8=cs:=b9 (by omega);obtain⟨ad,c,rfl⟩:=hp.shape;obtain⟨m,hm⟩:=nm p.length;rw[<-hm]at hw;simp -implicitDefEqProofs[hCl];rw[<-hm];refine bG (TF h cs (.slice ad m c) s p m) _ ⟨0,rfl,by omega,Ext.bJ h,(λj hj=>by omega),by simp⟩ ?_;rintro n ⟨T,⟨x,G⟩⟩ ⟨k,rfl,hk,E,hb,g1,g2,g7,g8,x2⟩;simp at E g1 g2 g7 g8 x2;simp -implicitDefEqProofs[g1,g2,g7,g8,x2];refine bR (λhc2=>?_) (λhc2=>?_)
 .have hkm:k<m:=by omega
  have w1:=bO (i:=k) (by omega);simp -implicitDefEqProofs[g1,g2,g7,g8,x2,hCl,hCt];refine(hw k hkm hb G E).mono ?_;rintro r G2 ⟨E2,rfl⟩;by_cases q:ez s p k=true
  .have hf:=Zx (by omega) q hb;simp -implicitDefEqProofs[af,q,g1,g2,g7,g8,x2];intro _;exact⟨E.trans E2,hf.symm⟩
  .simp -implicitDefEqProofs[af,q,g1,g2,g7,g8,x2,w1];intro _;refine⟨m-(k+1),by omega,k+1,rfl,by omega,E.trans E2,λj hj=>?_,by simp[x2]⟩;rcases Nat.lt_or_ge j k with z|z
   .exact hb j z
   .have:j=k:=(by omega);subst this;simpa using q
 .have e:k=m:=by omega
  rw[e,hm]at hb;have hf:=Zy hb;simp -implicitDefEqProofs[g1,g2,g7,g8,x2];exact⟨E,hf.symm⟩
def zu(v:ai)(l:List aQ)(p:List Int)(pins:List (Int×Int)):Int:=match fW v l pins with
 |some s=>if p.length=l.length then pb s p else l.length
 |none=>l.length
def abW(v:ai)(l:List aQ)(p:List Int)(pins:List (Int×Int)):ix v l p pins=decide (zu v l p pins= -1):=by
 unfold ix zu;cases fW v l pins with
 |none=>rfl
 |some s=>
  simp only;by_cases q:p.length=l.length
  .simp only[q,if_true]
  .simp only[q,if_false]
structure lA(h:aa)(v:ai)(l:List aQ)(pins:List (Int×Int))(cs:List Value)(lv pv:Value):Prop where
 may:aK v=true
 ll:l.length<=1073741824
 pl:pins.length<=1073741824
 pf:∀p∈pins,-4611686018427387904<=p.2/\p.2<=4611686018427387904
 dv:eC h v cs
 ls:aL 29 ah h lv l
 ps:aL 69 ik h pv pins
def lA.ext{h h':aa}{v:ai}{l:List aQ}{pins:List (Int×Int)}{cs:List Value}{lv pv:Value}(H:lA h v l pins cs lv pv)(E:Ext h h'):lA h' v l pins cs lv pv:=
 ⟨H.may,H.ll,H.pl,H.pf,H.dv.ext E,H.ls.ext E,H.ps.ext E⟩
def lA.AR{h:aa}{v:ai}{l:List aQ}{pins:List (Int×Int)}{cs:List Value}{lv pv:Value}(H:lA h v l pins cs lv pv):al PP 170 [.agg ⟨cs⟩,lv,pv] h (xi h (fW v l pins)):=
 ai0 v H.may cs lv pv l pins H.ll H.pl H.pf h H.dv H.ls H.ps
def eC.shape{h:aa}{v:ai}{cs:List Value}(H:eC h v cs):∃a1 n1 c1 g r a2 n2 c2 a3 n3 c3,cs=[.slice a1 n1 c1,.int .i64 g,.int .i64 r,.slice a2 n2 c2,.slice a3 n3 c3]:=by
 obtain⟨s,k,p,rfl,h1,h2,h3⟩:=H;obtain⟨b1,d1,rfl⟩:=h1.shape;obtain⟨b2,d2,rfl⟩:=h2.shape;obtain⟨b3,d3,rfl⟩:=h3.shape;exact⟨_,_,_,_,_,_,_,_,_,_,_,rfl⟩
def eC.len{h:aa}{v:ai}{cs:List Value}(H:eC h v cs):cs.length=5:=by obtain⟨a1,n1,c1,g,r,a2,n2,c2,a3,n3,c3,rfl⟩:=H.shape;rfl
def eC.one{h:aa}{v:ai}{cs:List Value}(H:eC h v cs):cs.all cL=true:=by obtain⟨a1,n1,c1,g,r,a2,n2,c2,a3,n3,c3,rfl⟩:=H.shape;rfl
def ajr(v:ai)(l:List aQ)(pins:List (Int×Int))(p:List Int)(cs:List Value)(lv pv fv:Value)(hpf:∀x∈p,-4611686018427387904<=x/\x<=4611686018427387904)(h:aa)(H:lA h v l pins cs lv pv)(hp:a8 h fv p):
  al PP 124 [.agg ⟨cs⟩,lv,fv,pv] h (λr h'=>Ext h h'/\r= .int .i64 (zu v l p pins)):=by
 refine aC Tryz.func124 afd ?_;simp only[aA,Tryz.f124];have hin:=H.AR;have hcl:=H.dv.len;have hct:cs.take 5=cs:=b9 (by omega);have hll:=H.ll;obtain⟨ad,c,rfl⟩:=hp.shape;obtain⟨ad2,c2,rfl⟩:=H.ls.shape;obtain⟨ad3,c3,rfl⟩:=H.ps.shape;unfold zu;simp -implicitDefEqProofs[hcl,hct];refine hin.mono ?_;rintro r G ⟨E,C,hC,rfl,hS⟩;have hCl:=hC.len;have hCo:=hC.one;have hCt:C.take 8=C:=b9 (by omega);cases q:fW v l pins with
 |none=>
  simp -implicitDefEqProofs[af,hCl,hCo];intro _;exact E
 |some s=>
  have hSet:=hS s q;obtain⟨rv,ru,rl,M,A⟩:=KO q;by_cases q2:p.length=l.length
  .have q2':(p.length:Int)=(l.length:Int):=(by omega);have hf:=Zz s (AQ q) C (.slice ad p.length c) p (by rw[rl];exact q2) hpf G hSet (dt.ext hp E);rw[q2]at hf;simp -implicitDefEqProofs[af,hCl,hCo,hCt,q2];intro _;refine hf.mono ?_;rintro r G2 ⟨E2,rfl⟩;simp -implicitDefEqProofs[af];intro _;exact E.trans E2
  .have q2':¬(p.length:Int)=(l.length:Int):=(by omega);simp -implicitDefEqProofs[af,hCl,hCo,hCt,q2,q2'];intro _;exact E
def QJ(v:ai)(l:List aQ)(pins:List (Int×Int))(p:List Int)(cs:List Value)(lv pv fv:Value)(hpf:∀x∈p,-4611686018427387904<=x/\x<=4611686018427387904)(h:aa)(H:lA h v l pins cs lv pv)(hp:a8 h fv p):
  al PP 80 [.agg ⟨cs⟩,lv,fv,pv] h (λr h'=>Ext h h'/\r= .bool (ix v l p pins)):=by
 refine aC Tryz.func80 ahM ?_;simp only[aA,Tryz.f80];have hw:=ajr v l pins p cs lv pv fv hpf h H hp;have hcl:=H.dv.len;have hct:cs.take 5=cs:=b9 (by omega);obtain⟨ad,c,rfl⟩:=hp.shape;obtain⟨ad2,c2,rfl⟩:=H.ls.shape;obtain⟨ad3,c3,rfl⟩:=H.ps.shape;rw[abW];simp -implicitDefEqProofs[hcl,hct];refine hw.mono ?_;rintro r G ⟨E,rfl⟩;simp -implicitDefEqProofs[af];intro _;exact E
def ajb(v:ai)(l:List aQ)(pins:List (Int×Int))(cs:List Value)(lv pv:Value)(h:aa)(H:lA h v l pins cs lv pv):
  al PP 249 [.agg ⟨cs⟩,lv,pv] h (λr h'=>Ext h h'/\r= .bool (fW v l pins).isSome):=by
 refine aC Tryz.func249 agD ?_;simp only[aA,Tryz.f249];have hin:=H.AR;have hcl:=H.dv.len;have hct:cs.take 5=cs:=b9 (by omega);obtain⟨ad2,c2,rfl⟩:=H.ls.shape;obtain⟨ad3,c3,rfl⟩:=H.ps.shape;simp -implicitDefEqProofs[hcl,hct];refine hin.mono ?_;rintro r G ⟨E,C,hC,rfl,hS⟩;have hCl:=hC.len;have hCo:=hC.one;simp -implicitDefEqProofs[af,hCl,hCo];intro _;exact E
def Ux(h:aa)(lv pv:Value)(p:List Int)(m n:Nat)(σ:St):Prop:=∃k:Nat,n=m-k/\k<=m/\σ.m.h=h/\(p.take k).all (λf=>decide (0<=f))=true/\σ.t.get 0=some lv/\σ.t.get 1=some pv/\σ.t.get 7=some pv/\σ.t.get 8=some (.int .i64 (m:Nat))/\σ.t.get 9=some (.int .i64 (k:Nat))
def AG(l:List aQ)(p:List Int)(lv pv:Value)(hpl:p.length<=1073741824)(hll:l.length<=1073741824)(h:aa)(hl:mT h lv l)(hp:a8 h pv p):al PP 79 [lv,pv] h (λr h'=>h'=h/\r= .bool (jD l p)):=by
 refine aC Tryz.func79 ahK ?_;simp only[aA,Tryz.f79];obtain⟨ad,c,rfl⟩:=hp.shape;obtain⟨ad2,c2,rfl⟩:=hl.shape;obtain⟨m,hm⟩:=nm p.length;unfold jD;rw[<-hm]at hp ⊢;simp -implicitDefEqProofs;refine bG (Ux h (.slice ad2 l.length c2) (.slice ad m c) p m) _ ⟨0,rfl,by omega,rfl,by simp⟩ ?_;rintro n ⟨T,⟨x,G⟩⟩ ⟨k,rfl,hk,e,aJ,g0,g1,g7,g8,g9⟩;simp at e g0 g1 g7 g8 g9;subst e;simp -implicitDefEqProofs[g0,g1,g7,g8,g9];refine bR (λhc2=>?_) (λhc2=>?_)
 .have hkm:k<m:=by omega
  have w1:=bO (i:=k) (by omega);have hkt:p[k]? =some p[k]:=aq (by omega);obtain⟨f,hf⟩:=nm p[k];rw[<-hf]at hkt;obtain⟨_,bp,op,wp,cells,r,rfl,hb,hd,hlc,hbn⟩:=hp.at 1 V.dY hkt;rw[Nat.mul_one]at hd;have hlc':op+k+1<=cells.length:=by omega
  by_cases q:f<0
  .have hA:p.all (λf=>decide (0<=f))=false:=by
    rw[<-mq,cz];intro hh;have:=of_decide_eq_true (hh f (dE hkt));omega
   simp -implicitDefEqProofs[g0,g1,g7,g8,g9,hkm,hb,hd,hlc',ab,q,hA]
  .simp -implicitDefEqProofs[g0,g1,g7,g8,g9,hkm,hb,hd,hlc',ab,q,w1];refine⟨m-(k+1),by omega,k+1,rfl,by omega,rfl,?_,by simp⟩;rw[fL,hkt,List.all_append,aJ];simp;omega
 .have e:k=m:=by omega
  rw[e,hm,jZ]at aJ;rw[aJ];by_cases q:l.length=m
  .have q':(l.length:Int)=(m:Int):=(by omega);simp -implicitDefEqProofs[g0,g1,g7,g8,g9,q]
  .have q':¬(l.length:Int)=(m:Int):=(by omega);simp -implicitDefEqProofs[g0,g1,g7,g8,g9,q,q']
def tB(l:List aQ)(p:List Int)(k:Nat):Int:=if 0<=p.getD k 0 then(l.getD k default).size else 0
def oO(l:List aQ)(p:List Int)(k:Nat):Int:=((List.range k).map (tB l p)).foldl (· + ·) 0
def RF(l:List aQ)(p:List Int)(k:Nat):oO l p (k+1)=oO l p k+tB l p k:=by
 unfold oO;rw[nX,kX,List.foldl_append];rfl
def VN{l:List aQ}(h:fy l=true){k:Nat}(hk:k<l.length):1<=(l.getD k default).size/\(l.getD k default).size<=8:=by
 unfold fy at h;rw[bQ,cz]at h;have hm:l.getD k default∈l:=by
  rw[bu,aq hk];exact fG hk
 have:=h.2 _ hm;obtain⟨X,hX⟩:=nm (l.getD k default);rw[<-hX]at this ⊢;unfold dK at this;simp at this;omega
def RE{l:List aQ}(p:List Int)(h:fy l=true):∀k,k<=l.length->0<=oO l p k/\oO l p k<=8*k:=by
 intro k;induction k with
 |zero=>intro _;simp[oO]
 |succ k ih=>
  intro hk;have h1:=ih (by omega);have h2:=VN h (show k<l.length by omega);rw[RF];unfold tB;split<;>omega
def akw(l:List aQ)(p:List Int):ff l p=if l.length=p.length/\fy l=true then oO l p p.length else 0:=rfl
def TA(h:aa)(lv pv:Value)(l:List aQ)(p:List Int)(m n:Nat)(σ:St):Prop:=∃k:Nat,n=m-k/\k<=m/\σ.m.h=h/\σ.t.get 0=some lv/\σ.t.get 5=some (.int .i64 (oO l p k))/\σ.t.get 18=some pv/\σ.t.get 19=some (.int .i64 (m:Nat))/\σ.t.get 20=some (.int .i64 (k:Nat))
def Cb(l:List aQ)(p:List Int)(lv pv:Value)(hpl:p.length<=1073741824)(hll:l.length<=1073741824)(h:aa)(hl:mT h lv l)(hp:a8 h pv p):al PP 153 [lv,pv] h (λr h'=>h'=h/\r= .int .i64 (ff l p)):=by
 refine aC Tryz.func153 afv ?_;simp only[aA,Tryz.f153];have aJ:=C6 lv l hll h hl;obtain⟨ad,c,rfl⟩:=hp.shape;obtain⟨ad2,c2,rfl⟩:=hl.shape;obtain⟨m,hm⟩:=nm p.length;rw[akw];rw[<-hm]at hp ⊢;by_cases q1:l.length=m
 .have q1':(l.length:Int)=(m:Int):=by omega
  rw[q1]at aJ hl;simp -implicitDefEqProofs[q1];refine cE aJ ?_;by_cases q2:fy l=true
  .simp -implicitDefEqProofs[af,q2];intro _;refine bG (TA h (.slice ad2 m c2) (.slice ad m c) l p m) _ ⟨0,rfl,by omega,rfl,by simp[oO]⟩ ?_;rintro n ⟨T,⟨x,G⟩⟩ ⟨k,rfl,hk,e,g0,g5,g18,g19,g20⟩;simp at e g0 g5 g18 g19 g20;subst e;simp -implicitDefEqProofs[g0,g5,g18,g19,g20];refine bR (λhc2=>?_) (λhc2=>?_)
   .have hkm:k<m:=(by omega);have w1:=bO (i:=k) (by omega);have hkt:p[k]? =some p[k]:=aq (by omega);obtain⟨f,hf⟩:=nm p[k];rw[<-hf]at hkt;have hgf:p.getD k 0=f:=(by rw[bu,hkt];rfl);obtain⟨_,bp,op,wp,cells,r,rfl,hb,hd,hlc,hbn⟩:=hp.at 1 V.dY hkt;rw[Nat.mul_one]at hd;have hlc':op+k+1<=cells.length:=(by omega);have hsu:=RF l p k;have hle:=RE p q2 (k+1) (by omega);have hle0:=RE p q2 k (by omega);by_cases q:0<=f
    .have hti:l[k]? =some l[k]:=aq (by omega);obtain⟨X,hX⟩:=nm l[k];rw[<-hX]at hti;have hgX:l.getD k default=X:=(by rw[bu,hti];rfl);rw[<-q1]at hl;obtain⟨_,bl,ol,wl,cl,rl,rfl,hbl,hdl,hlcl,hbln⟩:=hl.at 2 ko hti;have hdl':cl.drop (ol+k*2)= .int .i64 X.size:: .int .i64 X.cS::rl:=hdl;have hlcl':ol+k*2+1<=cl.length:=(by omega);have hsa:tB l p k=X.size:=(by unfold tB;rw[hgf,if_pos q,hgX]);rw[hsa]at hsu;have w2:IntKind.wrap .i64 (oO l p k+X.size)=oO l p (k+1):=(by rw[hsu];exact bB (by omega));simp -implicitDefEqProofs[g0,g5,g18,g19,g20,hkm,hb,hd,hlc',ab,q,w1,w2,hbl,hdl',hlcl'];exact⟨m-(k+1),by omega,k+1,rfl,by omega,rfl,by simp⟩
    .have hsa:tB l p k=0:=(by unfold tB;rw[hgf,if_neg q]);rw[hsa,Int.add_zero]at hsu;simp -implicitDefEqProofs[g0,g5,g18,g19,g20,hkm,hb,hd,hlc',ab,q,w1];exact⟨m-(k+1),by omega,k+1,rfl,by omega,rfl,by simp[hsu]⟩
   .have e:k=m:=(by omega);subst e;simp -implicitDefEqProofs[g0,g5,g18,g19,g20]
  .simp -implicitDefEqProofs[af,q2]
 .have q1':¬(l.length:Int)=(m:Int):=by omega
  simp -implicitDefEqProofs[q1,q1']
end Go.Proofs.Ybk.K

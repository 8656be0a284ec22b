import Derived.Calls
import Derived.Below
import Derived.WalkKit
import Derived.Laws.Cells
import Derived.Laws.CopyRow
import Derived.Laws.Append
import Derived.Laws.AppendOwn
import Derived.Laws.RangeString
import Derived.IntWalk
import Derived.Laws.BytesString
import Derived.Orders
set_option linter.unusedVariables false
set_option linter.unusedSimpArgs false
set_option linter.unusedSectionVars false
set_option linter.constructorNameAsVariable false
set_option linter.defProp false
set_option maxRecDepth 20000
def aq:=@List.getElem?_eq_getElem
def av:=@Option.some.injEq
def bu:=@List.getD_eq_getElem?_getD
def b9:=@List.take_of_length_le
def bH:=@List.length_append
def cV:=@Nat.lt_of_lt_of_le
def bM:=@Prod.mk.injEq
def bQ:=@Bool.and_eq_true
def cz:=@List.all_eq_true
def cf:=@List.length_map
def dh:=@List.length_take
def cP:=@List.getElem?_eq_some_iff
def dE:=@List.mem_of_getElem?
def ep:=@Option.bind_some
def eG:=@List.append_assoc
def gQ:=@List.drop_eq_getElem_cons
def dB:=@List.cons_append
def bU:=@Option.some.inj
def eH:=@List.mem_append
def dZ:=@List.mem_singleton
def eh:=@List.drop_drop
def eW:=@List.length_cons
def dU:=@List.mem_cons_self
def eI:=@List.mem_cons_of_mem
def fG:=@List.getElem_mem
def cJ:=@List.mem_cons
def dF:=@List.mem_range
def dO:=@List.mem_map
def kW:=@List.length_set
def eX:=@List.length_drop
def iF:=@List.getElem?_append_right
def ji:=@List.getElem?_append_left
def fL:=@List.take_add_one
def jy:=@List.pairwise_cons
def nX:=@List.range_succ
def ic:=@List.flatMap_cons
def dJ:=@List.nil_append
def pO:=@List.append_nil
def fg:=@List.map_cons
def kX:=@List.map_append
def mo:=@List.filter_append
def iS:=@List.filter_cons
def sd:=@Nat.add_sub_cancel
def iG:=@Nat.zero_add
def ie:=@Nat.add_zero
def gR:=@Int.toNat_natCast
def iH:=@Option.getD_some
def fV:=@Option.map_some
def kY:=@Bool.or_eq_true
def de:=@decide_eq_true_eq
def lP:=@decide_eq_false_iff_not
def mq:=@Bool.not_eq_true
def fw:=@Bool.false_eq_true
def qQ:=@Bool.true_and
def gS:=@List.mem_filter
def oR:=@List.pairwise_append
def jz:=@List.length_singleton
def qR:=@List.length_nil
def fx:=@List.getElem?_map
def jZ:=@List.take_length
def se:=@List.take_append_drop
def vx:=@List.map_map
def lB:=@List.any_eq_true
def pP:=@List.length_range
def iT:=@List.getElem?_eq_none
def sf:=@List.length_pos_iff
def mY:=@List.length_eq_zero_iff
def aX:=@Nat.le_refl
def kE:=@Int.le_refl
def eY:=@Nat.le_trans
def oS:=@Nat.sub_self
namespace Go.Am
open Go
def nm{α:Sort _}(e:α):∃m,m=e:=⟨_,rfl⟩
def Fr:=Nat->Option Value
def Fr.get(T:Fr)(i:Nat):Option Value:=T i
def Fr.put(T:Fr)(i:Nat)(v:Value):Fr:=λj=>if i=j then some v else T j
def nE{α:Type}:List (Nat×Option α)->Nat->Option α
 |[],_=>none
 |(j,v)::r,i=>if j=i then v else nE r i
def Fr.ofList(l:List (Nat×Option Value)):Fr:=nE l
def Fr.prune(T:Fr)(l:List Nat):Fr:=Fr.ofList (l.map λi=>(i,T.get i))
def iM:Value->Option Nat
 | .pointer (some ⟨s,_,some _⟩)=>some s
 |_=>none
def zb(s:Nat):Option Value->Option Value
 |some v=>match iM v with
  |some s'=>if s'=s then none else some v
  |none=>some v
 |none=>none
def Fr.wR(s:Nat)(T:Fr):Fr:=λi=>zb s (T i)
def Fr.KA(s:Nat)(T:Fr)(i:Nat):(T.wR s).get i=zb s (T.get i):=rfl
def abC{α:Type}(T:Nat->Option α)(i:Nat)(v:α):∀l:List Nat,nE (l.map λi=>(i,T i)) i=some v->T i=some v:=by
 intro l;induction l with
 |nil=>simp[nE]
 |cons j r ih=>
  simp only[fg,nE];split
  .rename_i h;subst h;exact id
  .exact ih
def Fr.ZU(T:Fr)(i:Nat)(v:Value)(l:List Nat)(h:(T.prune l).get i=some v):T.get i=some v:=abC T.get i v l h
inductive aW
 |dead
 |row (w:Bool) (e:TypeId) (cs:List Value)
 |obj (o:Obj)
structure aa where
 n:Nat
 g:Nat
 f:Nat->aW
def aa.set(h:aa)(b:Nat)(x:aW):aa:={h with f:=λi=>if i=b then x else h.f i}
def aa.new(h:aa)(x:aW):aa:={n:=h.n+1,g:=h.g,f:=λi=>if i=h.n then x else h.f i}
def b8:=Nat->Option (TypeId×List Value)
def b8.look(x:b8)(i:Nat):Option (TypeId×List Value):=x i
def b8.nil:b8:=λ_=>none
def b8.set(x:b8)(i:Nat)(v:TypeId×List Value):b8:=λj=>if i=j then some v else x j
def b8.ofList(l:List (Nat×Option (TypeId×List Value))):b8:=nE l
def b8.prune(x:b8)(l:List Nat):b8:=b8.ofList (l.map λi=>(i,x.look i))
def b8.uM(l:b8)(i j:Nat)(v:TypeId×List Value):(l.set i v).look j=if i=j then some v else l.look j:=rfl
structure Mem where
 x:b8
 h:aa
abbrev Key:=Bool×Nat
def Mem.row?(m:Mem):Key->Option (Bool×TypeId×List Value)
 |(true,s)=>match m.x.look s with
  |some (e,cs)=>some (true,e,cs)
  |none=>none
 |(false,b)=>match m.h.f b with
  | .row w e cs=>some (w,e,cs)
  |_=>none
def Mem.live(m:Mem):Key->Prop
 |(true,s)=>(m.x.look s).isSome=true
 |(false,b)=>m.h.f b≠.dead
def aa.wr(h:aa)(b:Nat):Prop:=match h.f b with
 | .row w _ _=>w=true
 | .obj _=>True
 | .dead=>False
def Mem.wr(m:Mem):Key->Prop
 |(true,s)=>(m.x.look s).isSome=true
 |(false,b)=>m.h.wr b
def Mem.uK{m:Mem}{k:Key}(h:m.wr k):m.live k:=by
 obtain⟨t,b⟩:=k;cases t
 .simp only[Mem.wr,aa.wr]at h;simp only[Mem.live];intro e;rw[e]at h;exact h
 .exact h
def Mem.yu{m:Mem}{k:Key}{r}(h:m.row? k=some r):m.live k:=by
 obtain⟨t,b⟩:=k;cases t
 .simp only[Mem.row?]at h;simp only[Mem.live];intro e;rw[e]at h;simp at h
 .simp only[Mem.row?]at h;simp only[Mem.live];cases hl:m.x.look b<;>simp_all
def Mem.aos{m:Mem}{k:Key}{e cs}(h:m.row? k=some (true,e,cs)):m.wr k:=by
 obtain⟨t,b⟩:=k;cases t
 .simp only[Mem.row?]at h;simp only[Mem.wr,aa.wr];split at h<;>simp_all
 .simp only[Mem.row?]at h;simp only[Mem.wr];cases hl:m.x.look b<;>simp_all
structure Pl where
 B:Nat
 o:Nat
 n:Nat
 sz:Nat
abbrev aH:=Key->Option Pl
inductive VR(ρ:aH):Value->Value->Prop
 |bool (b:Bool):VR ρ (.bool b) (.bool b)
 |int (k:IntKind) (n:Int):VR ρ (.int k n) (.int k n)
 |string (s:ByteArray):VR ρ (.string s) (.string s)
 |wz:VR ρ (.pointer none) (.pointer none)
 |wy:VR ρ (.map none) (.map none)
 |wu:VR ρ .nilFunc .nilFunc
 |wx:VR ρ .nilIface .nilIface
 |ptr (b off:Nat) (pl:Pl) (h:ρ (false,b)=some pl):VR ρ (.pointer (some ⟨b,off,none⟩)) (.pointer (some ⟨pl.B,pl.o+off,none⟩))
 |mp (b:Nat) (pl:Pl) (h:ρ (false,b)=some pl):VR ρ (.map (some b)) (.map (some pl.B))
 |tE:VR ρ (.slice none 0 0) (.slice none 0 0)
 |pH (a a':Addr) (c:Nat):VR ρ (.slice (some a) 0 c) (.slice (some a') 0 0)
 |sl (b off len c:Nat) (pl:Pl) (cap:Nat) (h:ρ (false,b)=some pl) (hc:len<=cap) (hn:off+cap*pl.sz<=pl.n):
   VR ρ (.slice (some ⟨b,off,none⟩) len c) (.slice (some ⟨pl.B,pl.o+off,none⟩) len cap)
 |iface (t:TypeId) (v v':Value) (h:VR ρ v v'):VR ρ (.iface t v) (.iface t v')
 |agg (cs ds:List Value) (hl:cs.length=ds.length) (h:∀p∈cs.zip ds,VR ρ p.1 p.2):VR ρ (.agg ⟨cs⟩) (.agg ⟨ds⟩)
 |tuple (cs ds:List Value) (hl:cs.length=ds.length) (h:∀p∈cs.zip ds,VR ρ p.1 p.2):VR ρ (.tuple ⟨cs⟩) (.tuple ⟨ds⟩)
 |func (fn:Fn) (aS as' cs ds:List Value) (ha:aS.length=as'.length) (hl:cs.length=ds.length) (h1:∀p∈aS.zip as',VR ρ p.1 p.2)
   (h:∀p∈cs.zip ds,VR ρ p.1 p.2):VR ρ (.func fn ⟨aS⟩ ⟨cs⟩) (.func fn ⟨as'⟩ ⟨ds⟩)
inductive VT(ρ:aH):Value->Value->Prop
 |val (v v':Value) (h:VR ρ v v'):VT ρ v v'
 |loc (s off x:Nat) (pl:Pl) (h:ρ (true,s)=some pl):VT ρ (.pointer (some ⟨s,off,some x⟩)) (.pointer (some ⟨pl.B,pl.o+off,none⟩))
def pL{ρ:aH}{cs ds:List Value}(hl:cs.length=ds.length):(∀p∈cs.zip ds,VR ρ p.1 p.2)↔∀(i:Nat)(v:Value),cs[i]? =some v->∃v',ds[i]? =some v'/\VR ρ v v':=by
 constructor
 .intro h i v hi;have h1:i<cs.length:=by rcases Nat.lt_or_ge i cs.length with q|q;exact q;simp[iT q]at hi
  have h2:i<ds.length:=hl ▸ h1;have e1:cs[i]=v:=by simpa[aq h1]using hi
  refine⟨ds[i],aq h2,?_⟩;have:=h (cs[i],ds[i]) (by rw[List.mem_iff_getElem];exact⟨i,by simp;omega,by simp⟩);simpa[e1]using this
 .rintro h ⟨a,b⟩ hp;rw[List.mem_iff_getElem]at hp;obtain⟨i,hi,he⟩:=hp;simp at hi he;have q1:i<cs.length:=by omega
  have q2:i<ds.length:=by omega
  obtain⟨v',h1,h2⟩:=h i a (by rw[aq q1,he.1]);rw[aq q2]at h1;simp only[av]at h1;rw[<-he.2,h1];exact h2
def VR.mono{ρ ρ':aH}(hρ:∀b pl,ρ (false,b)=some pl->ρ' (false,b)=some pl){v v':Value}(h:VR ρ v v'):VR ρ' v v':=by
 induction h with
 |ptr b off pl h=>exact .ptr b off pl (hρ _ _ h)
 |mp b pl h=>exact .mp b pl (hρ _ _ h)
 |sl b off len c pl cap h hc hn=>exact .sl b off len c pl cap (hρ _ _ h) hc hn
 |pH a a' c=>exact .pH a a' c
 |iface t v v' _ ih=>exact .iface t v v' ih
 |agg cs ds hl _ ih=>exact .agg cs ds hl ih
 |tuple cs ds hl _ ih=>exact .tuple cs ds hl ih
 |func fn aS as' cs ds ha hl _ _ ih1 ih=>exact .func fn aS as' cs ds ha hl ih1 ih
 |bool b=>exact .bool b
 |int k n=>exact .int k n
 |string s=>exact .string s
 |wz=>exact .wz
 |wy=>exact .wy
 |wu=>exact .wu
 |wx=>exact .wx
 |tE=>exact .tE
def dz:Value->Bool
 | .bool _| .int _ _| .string _| .pointer none| .map none| .nilFunc| .nilIface=>true
 | .slice none 0 0=>true
 |_=>false
def cB:Value->Bool
 | .agg cs=>cs.toList.all dz
 | .tuple cs=>cs.toList.all dz
 |v=>dz v
def VR.dz{ρ:aH}{v v':Value}(h:VR ρ v v')(hf:dz v=true):v'=v:=by
 cases h<;>simp_all [Am.dz]
def VR.sN{ρ:aH}{v:Value}(hf:Am.dz v=true):VR ρ v v:=by
 unfold Am.dz at hf;split at hf
 .exact .bool _
 .exact .int _ _
 .exact .string _
 .exact .wz
 .exact .wy
 .exact .wu
 .exact .wx
 .exact .tE
 .simp at hf
def SM{ρ:aH}{cs ds:List Value}(hl:cs.length=ds.length)(h:∀p∈cs.zip ds,VR ρ p.1 p.2)(hf:cs.all Am.dz=true):ds=cs:=by
 apply List.ext_getElem hl.symm;intro i h1 h2;have:=h (cs[i],ds[i]) (by rw[List.mem_iff_getElem];exact⟨i,by simp;omega,by simp⟩);exact this.dz (cz.mp hf _ (fG h2))
def VR.cB{ρ:aH}{v v':Value}(h:VR ρ v v')(hf:Am.cB v=true):v'=v:=by
 cases h with
 |agg cs ds hl h=>rw[SM hl h (by simpa[Am.cB]using hf)]
 |tuple cs ds hl h=>rw[SM hl h (by simpa[Am.cB]using hf)]
 |_=>first|rfl|(simp[Am.cB,Am.dz]at hf)
def SQ{ρ:aH}{cs:List Value}(h:∀v∈cs,VR ρ v v):∀p∈cs.zip cs,VR ρ p.1 p.2:=by
 rintro⟨a,b⟩ hp;rw[List.mem_iff_getElem]at hp;obtain⟨i,hi,he⟩:=hp;simp at hi he;rw[<-he.1,<-he.2];exact h _ (fG hi)
def VR.gG{ρ:aH}{v:Value}(hf:Am.cB v=true):VR ρ v v:=by
 unfold Am.cB at hf;split at hf
 .rename_i cs;obtain⟨l⟩:=cs;exact .agg l l rfl (SQ λv hv=>.sN (cz.mp hf v hv))
 .rename_i cs;obtain⟨l⟩:=cs;exact .tuple l l rfl (SQ λv hv=>.sN (cz.mp hf v hv))
 .exact .sN hf
def VT.gG{ρ:aH}{v:Value}(hf:Am.cB v=true):VT ρ v v:=.val _ _ (.gG hf)
def VT.cB{ρ:aH}{v v':Value}(h:VT ρ v v')(hf:Am.cB v=true):v'=v:=by
 cases h with
 |val _ _ h=>exact h.cB hf
 |loc s off x pl h=>simp[Am.cB,Am.dz]at hf
def cn(v:Value):Bool:=(iM v).isNone
def VT.cn{ρ:aH}{v v':Value}(h:VT ρ v v')(hf:Am.cn v=true):VR ρ v v':=by
 cases h with
 |val _ _ h=>exact h
 |loc s off x pl h=>simp[Am.cn,iM]at hf
def rF:Obj->Bool
 | .mapIter (some _) _ _ _=>false
 |_=>true
def mS(ρ:aH)(o:Obj)(x:Option Obj):Prop:=match o with
 | .mapIter (some b) s seen l=>∃pl,ρ (false,b)=some pl/\x=some (.mapIter (some pl.B) s seen l)
 |o=>x=some o
def mS.mono{ρ ρ':aH}(hρ:∀b pl,ρ (false,b)=some pl->ρ' (false,b)=some pl){o:Obj}{x:Option Obj}(h:mS ρ o x):mS ρ' o x:=by
 unfold mS at h ⊢;split
 .simp only at h;obtain⟨pl,q1,q2⟩:=h;exact⟨pl,hρ _ _ q1,q2⟩
 .rename_i hn;split at h
  .rename_i b s seen l;exact absurd rfl (hn b s seen l)
  .exact h
def mS.Bl{ρ:aH}{o:Obj}{x:Option Obj}(hp:rF o=true)(h:x=some o):mS ρ o x:=by
 unfold mS;split
 .simp[rF]at hp
 .exact h
def mS.plain{ρ:aH}{o:Obj}{x:Option Obj}(h:mS ρ o x)(hp:rF o=true):x=some o:=by
 unfold mS at h;split at h
 .simp[rF]at hp
 .exact h
structure jw(P:Program)(ρ:aH)(m:Mem)(w:World):Prop where
 bound:∀k pl,ρ k=some pl->pl.B<w.heap.size
 dX:∀b pl,ρ (false,b)=some pl->b<m.h.n
 row:∀k pl wr e cs,ρ k=some pl->m.row? k=some (wr,e,cs)->∃C e' fz,w.heap[pl.B]? =some (.cells C e' fz)/\(wr=true->fz=(0,0))/\
  cs.length<=pl.n/\pl.o+pl.n<=C.size/\pl.sz=P.cellsOf e/\∀(i:Nat)(v:Value),cs[i]? =some v->∃v',C[pl.o+i]? =some v'/\VR ρ v v'
 obj:∀b pl o,ρ (false,b)=some pl->m.h.f b= .obj o->mS ρ o w.heap[pl.B]?/\pl.o=0
 sep:∀k k' pl pl',k≠k'->ρ k=some pl->ρ k'=some pl'->m.wr k->m.live k'->pl.B≠pl'.B
 ki:∀i,i<m.h.g->∃pl,ρ (false,i)=some pl/\pl.B=i/\pl.o=0
def qM(ρ:aH)(h:aa)(B:Nat):Prop:=∃b pl,ρ (false,b)=some pl/\pl.B=B/\h.wr b
structure Tr(ρ:aH)(h:aa)(w:World)(ρ':aH)(h':aa)(w':World):Prop where
 os:w'.os=w.os
 tape:w'.tape=w.tape
 output:w'.output=w.output
 drawn:h.g=0->w.drawn<=w'.drawn
 size:w.heap.size<=w'.heap.size
 ext:∀b pl,ρ (false,b)=some pl->ρ' (false,b)=some pl
 hn:h.n<=h'.n
 hg:h'.g=h.g
 new:∀b pl,ρ' (false,b)=some pl->ρ (false,b)=none->h.n<=b/\(h'.f b≠.dead->w.heap.size<=pl.B∨qM ρ h pl.B)
 dead:∀b,b<h.n->h'.f b≠.dead->h.f b≠.dead
 mi:∀b,b<h.n->h'.wr b->h.wr b
 frame:∀B,B<w.heap.size->¬qM ρ h B->w'.heap[B]? =w.heap[B]?
structure Inv(P:Program)(ρ0:aH)(h0:aa)(w0:World)(ρ:aH)(m:Mem)(w:World):Prop where
 rel:jw P ρ m w
 tr:Tr ρ0 h0 w0 ρ m.h w
 box:∀s pl,ρ (true,s)=some pl->w0.heap.size<=pl.B
 nZ:∀b pl,ρ0 (false,b)=some pl->b<h0.n/\pl.B<w0.heap.size
def Inv.own{P:Program}{ρ0 ρ:aH}{h0:aa}{w0 w:World}{m:Mem}(I:Inv P ρ0 h0 w0 ρ m w){B:Nat}(h:qM ρ m.h B):w0.heap.size<=B∨qM ρ0 h0 B:=by
 obtain⟨b,pl,hb,rfl,hw⟩:=h;cases h0b:ρ0 (false,b)with
 |none=>
  have hl:m.h.f b≠.dead:=Mem.uK (m:=m) (k:=(false,b)) hw;exact(I.tr.new b pl hb h0b).2 hl
 |some pl0=>
  have:=I.tr.ext b pl0 h0b;rw[this]at hb;obtain rfl:=bU hb;exact .inr ⟨b,_,h0b,rfl,I.tr.mi b (I.nZ b _ h0b).1 hw⟩
def aH.gz(ρ:aH)(k:Key)(pl:Pl):aH:=λk'=>if k'=k then some pl else ρ k'
def aH.ju(ρ:aH)(k:Key)(pl:Pl):ρ.gz k pl k=some pl:=by simp[aH.gz]
def aH.df(ρ:aH){k k':Key}(pl:Pl)(h:k'≠k):ρ.gz k pl k'=ρ k':=by simp[aH.gz,h]
def Tr.refl(ρ:aH)(h:aa)(w:World):Tr ρ h w ρ h w:=
 ⟨rfl,rfl,rfl,λ_=>aX _,aX _,λ_ _ h=>h,aX _,rfl,λb pl h h'=>by rw[h]at h';simp at h',λ_ _ h=>h,λ_ _ h=>h,λ_ _ _=>rfl⟩
variable {cs0:List Value} {P:Program} {ρ0 ρ:aH} {h0:aa} {w0 w:World} {m:Mem}
def uG(w:World)(o:Obj){B:Nat}(h:B<w.heap.size):(w.alloc o).heap[B]? =w.heap[B]? :=by
 simp only[World.alloc];rw[Array.getElem?_push,if_neg (by omega)]
def ya(w:World)(o:Obj):(w.alloc o).heap[w.heap.size]? =some o:=by
 simp only[World.alloc];rw[Array.getElem?_push,if_pos rfl]
def Inv.drew(I:Inv P ρ0 h0 w0 ρ m w):Inv P ρ0 h0 w0 ρ m w.drew:=
 ⟨⟨I.rel.bound,I.rel.dX,I.rel.row,I.rel.obj,I.rel.sep,I.rel.ki⟩,⟨I.tr.os,I.tr.tape,I.tr.output,λhg=>Nat.le_succ_of_le (I.tr.drawn hg),I.tr.size,I.tr.ext,I.tr.hn,I.tr.hg,I.tr.new,I.tr.dead,I.tr.mi,I.tr.frame⟩,I.box,I.nZ⟩
inductive Fits(P:Program)(ρ:aH):aW->Obj->Pl->Prop
 |row (e e':TypeId) (cs:List Value) (C:Array Value) (B:Nat) (hn:cs.length<=C.size)
   (h:∀(i:Nat)(v:Value),cs[i]? =some v->∃v',C[i]? =some v'/\VR ρ v v'):Fits P ρ (.row true e cs) (.cells C e' (0,0)) ⟨B,0,C.size,P.cellsOf e⟩
 |obj (o:Obj) (B sz:Nat) (hp:rF o=true):Fits P ρ (.obj o) o ⟨B,0,0,sz⟩
 |iter (b:Nat) (plb:Pl) (s:Nat) (seen:Array Nat) (l B sz:Nat) (h:ρ (false,b)=some plb):Fits P ρ (.obj (.mapIter (some b) s seen l)) (.mapIter (some plb.B) s seen l) ⟨B,0,0,sz⟩
def Fits.B{x:aW}{o:Obj}{pl:Pl}(h:Fits P ρ x o pl)(B:Nat):Fits P ρ x o {pl with B:=B}:=by
 cases h with
 |row e e' cs C B' hn h=>exact .row e e' cs C B hn h
 |obj o B' sz hp=>exact .obj o B sz hp
 |iter b plb s seen l B' sz h=>exact .iter b plb s seen l B sz h
def Inv.rA(I:Inv P ρ0 h0 w0 ρ m w){x:aW}{o:Obj}{pl:Pl}(hf:Fits P ρ x o pl)(hB:pl.B=w.heap.size):
  Inv P ρ0 h0 w0 (ρ.gz (false,m.h.n) pl) ⟨m.x,m.h.new x⟩ (w.alloc o):=by
 have hnone:∀pl',ρ (false,m.h.n)≠some pl':=λpl' h=>Nat.lt_irrefl _ (I.rel.dX _ _ h);have hold:∀{k pl'},ρ k=some pl'->k≠(false,m.h.n):=λh e=>hnone _ (e ▸ h);have hmono:∀b pl',ρ (false,b)=some pl'->ρ.gz (false,m.h.n) pl (false,b)=some pl':=λb pl' h=>by rw[aH.df _ _ (hold h)];exact h
 have hfo:∀{b pl'},ρ (false,b)=some pl'->(m.h.new x).f b=m.h.f b:=fun{b pl'} h=>by
  have:=I.rel.dX _ _ h;simp only[aa.new];rw[if_neg (by omega)]
 have hfn:(m.h.new x).f m.h.n=x:=by simp[aa.new]
 have hrow:∀{k pl'},ρ k=some pl'->(Mem.mk m.x (m.h.new x)).row? k=m.row? k:=fun{k pl'} h=>by
  obtain⟨t,b⟩:=k;cases t
  .simp only[Mem.row?,hfo h]
  .rfl
 have hwr:∀{k pl'},ρ k=some pl'->(Mem.mk m.x (m.h.new x)).wr k=m.wr k:=fun{k pl'} h=>by
  obtain⟨t,b⟩:=k;cases t
  .simp only[Mem.wr,aa.wr,hfo h]
  .rfl
 have hlive:∀{k pl'},ρ k=some pl'->(Mem.mk m.x (m.h.new x)).live k=m.live k:=fun{k pl'} h=>by
  obtain⟨t,b⟩:=k;cases t
  .simp only[Mem.live,hfo h]
  .rfl
 have hsz:(w.alloc o).heap.size=w.heap.size+1:=by simp
 refine⟨⟨?_,?_,?_,?_,?_,λi hi=>let ⟨pl',q1,q2⟩:=I.rel.ki i hi;⟨pl',hmono _ _ q1,q2⟩⟩,⟨I.tr.os,I.tr.tape,I.tr.output,I.tr.drawn,by rw[hsz];exact Nat.le_succ_of_le I.tr.size,?_,by simp only[aa.new];exact Nat.le_succ_of_le I.tr.hn,I.tr.hg,?_,?_,?_,?_⟩,?_,I.nZ⟩
 .intro k pl' h;by_cases e:k=(false,m.h.n)
  .subst e;rw[aH.ju]at h;obtain rfl:=bU h;rw[hsz,hB];omega
  .rw[aH.df _ _ e]at h;have:=I.rel.bound _ _ h;omega
 .intro b pl' h;by_cases e:(false,b)=(false,m.h.n)
  .simp only[bM,true_and]at e;subst e;simp[aa.new]
  .rw[aH.df _ _ e]at h;have:=I.rel.dX _ _ h;simp only[aa.new];omega
 .intro k pl' wr e cs h hr;by_cases ek:k=(false,m.h.n)
  .subst ek;rw[aH.ju]at h;obtain rfl:=bU h;simp only[Mem.row?,hfn]at hr;cases hf with
   |row e1 e' cs1 C B hn hc=>
    simp only[av,bM]at hr;obtain⟨rfl,rfl,rfl⟩:=hr;simp only at hB;subst hB;refine⟨C,e',(0,0),ya w _,λ_=>rfl,hn,by simp,rfl,λi v hi=>?_⟩;obtain⟨v',h1,h2⟩:=hc i v hi;exact⟨v',by simpa using h1,h2.mono hmono⟩
   |obj o B sz=>simp at hr
   |iter b plb s seen l B sz h=>simp at hr
  .rw[aH.df _ _ ek]at h;rw[hrow h]at hr;obtain⟨C,e',fz,h1,h2,h3,h4,h5,h6⟩:=I.rel.row _ _ _ _ _ h hr;refine⟨C,e',fz,by rw[uG _ _ (I.rel.bound _ _ h)];exact h1,h2,h3,h4,h5,λi v hi=>?_⟩;obtain⟨v',q1,q2⟩:=h6 i v hi;exact⟨v',q1,q2.mono hmono⟩
 .intro b pl' o' h ho;by_cases ek:b=m.h.n
  .subst ek;rw[aH.ju]at h;obtain rfl:=bU h;rw[hfn]at ho;cases hf with
   |row=>simp at ho
   |obj o B sz hp=>
    simp only[aW.obj.injEq]at ho;subst ho;simp only at hB;subst hB;exact⟨.Bl hp (ya w _),rfl⟩
   |iter b plb s seen l B sz hb=>
    simp only[aW.obj.injEq]at ho;subst ho;simp only at hB;subst hB;exact⟨⟨plb,hmono _ _ hb,ya w _⟩,rfl⟩
  .rw[aH.df _ _ (by simpa using ek)]at h;rw[hfo h]at ho;rw[uG _ _ (I.rel.bound _ _ h)];exact⟨(I.rel.obj _ _ _ h ho).1.mono hmono,(I.rel.obj _ _ _ h ho).2⟩
 .intro k k' pl1 pl2 hne h1 h2 hw hl;by_cases e1:k=(false,m.h.n)
  .have e2:k'≠(false,m.h.n):=λe=>hne (e1.trans e.symm);subst e1;rw[aH.ju]at h1;obtain rfl:=bU h1;rw[aH.df _ _ e2]at h2;have:=I.rel.bound _ _ h2;omega
  .rw[aH.df _ _ e1]at h1;by_cases e2:k'=(false,m.h.n)
   .subst e2;rw[aH.ju]at h2;obtain rfl:=bU h2;have:=I.rel.bound _ _ h1;omega
   .rw[aH.df _ _ e2]at h2;rw[hwr h1]at hw;rw[hlive h2]at hl;exact I.rel.sep _ _ _ _ hne h1 h2 hw hl
 .intro b pl' h;exact hmono _ _ (I.tr.ext _ _ h)
 .intro b pl' h h';by_cases e:b=m.h.n
  .subst e;rw[aH.ju]at h;obtain rfl:=bU h;exact⟨I.tr.hn,λ_=>.inl (by rw[hB];exact I.tr.size)⟩
  .rw[aH.df _ _ (by simpa using e)]at h;obtain⟨q1,q2⟩:=I.tr.new _ _ h h';exact⟨q1,λhl=>q2 (by rwa[hfo h]at hl)⟩
 .intro b hb hl;have:(m.h.new x).f b=m.h.f b:=by simp only[aa.new];rw[if_neg (by have:=I.tr.hn;omega)]
  rw[this]at hl;exact I.tr.dead b hb hl
 .intro b hb hl;have:(m.h.new x).wr b=m.h.wr b:=by simp only[aa.wr,aa.new];rw[if_neg (by have:=I.tr.hn;omega)]
  rw[this]at hl;exact I.tr.mi b hb hl
 .intro B hBs ho;rw[uG _ _ (by have:=I.tr.size;omega)];exact I.tr.frame B hBs ho
 .intro s pl' h;rw[aH.df _ _ (by simp)]at h;exact I.box s pl' h
def Inv.eP(I:Inv P ρ0 h0 w0 ρ m w)(s:Nat){e:TypeId}{cs:List Value}{o:Obj}{pl:Pl}(hf:Fits P ρ (.row true e cs) o pl)(hB:pl.B=w.heap.size):
  Inv P ρ0 h0 w0 (ρ.gz (true,s) pl) ⟨m.x.set s (e,cs),m.h⟩ (w.alloc o):=by
 have hmono:∀b pl',ρ (false,b)=some pl'->ρ.gz (true,s) pl (false,b)=some pl':=λb pl' h=>by rw[aH.df _ _ (by simp)];exact h
 have hback:∀b pl',ρ.gz (true,s) pl (false,b)=some pl'->ρ (false,b)=some pl':=λb pl' h=>by rwa[aH.df _ _ (by simp)]at h
 have hsz:(w.alloc o).heap.size=w.heap.size+1:=by simp
 have hne:∀{k:Key},k≠(true,s)->(Mem.mk (m.x.set s (e,cs)) m.h).row? k=m.row? k/\(Mem.mk (m.x.set s (e,cs)) m.h).wr k=m.wr k/\(Mem.mk (m.x.set s (e,cs)) m.h).live k=m.live k:=fun{k} hk=>by
  obtain⟨t,b⟩:=k;cases t
  .exact⟨rfl,rfl,rfl⟩
  .have:¬s=b:=λh=>hk (by rw[h]);simp[Mem.row?,Mem.wr,Mem.live,b8.uM,this]
 refine⟨⟨?_,?_,?_,?_,?_,λi hi=>let ⟨pl',q1,q2⟩:=I.rel.ki i hi;⟨pl',hmono _ _ q1,q2⟩⟩,⟨I.tr.os,I.tr.tape,I.tr.output,I.tr.drawn,by rw[hsz];exact Nat.le_succ_of_le I.tr.size,λb pl' h=>hmono _ _ (I.tr.ext _ _ h),I.tr.hn,I.tr.hg,λb pl' h h'=>I.tr.new _ _ (hback _ _ h) h',I.tr.dead,I.tr.mi,?_⟩,?_,I.nZ⟩
 .intro k pl' h;by_cases e:k=(true,s)
  .subst e;rw[aH.ju]at h;obtain rfl:=bU h;rw[hsz,hB];omega
  .rw[aH.df _ _ e]at h;have:=I.rel.bound _ _ h;omega
 .intro b pl' h;exact I.rel.dX _ _ (hback _ _ h)
 .intro k pl' wr e1 cs1 h hr;by_cases ek:k=(true,s)
  .subst ek;rw[aH.ju]at h;obtain rfl:=bU h;simp only[Mem.row?,b8.uM,if_true]at hr;simp only[av,bM]at hr;obtain⟨rfl,rfl,rfl⟩:=hr;cases hf with
   |row e1 e' cs1 C B hn hc=>
    simp only at hB;subst hB;refine⟨C,e',(0,0),ya w _,λ_=>rfl,hn,by simp,rfl,λi v hi=>?_⟩;obtain⟨v',h1,h2⟩:=hc i v hi;exact⟨v',by simpa using h1,h2.mono hmono⟩
  .rw[aH.df _ _ ek]at h;rw[(hne ek).1]at hr;obtain⟨C,e',fz,h1,h2,h3,h4,h5,h6⟩:=I.rel.row _ _ _ _ _ h hr;refine⟨C,e',fz,by rw[uG _ _ (I.rel.bound _ _ h)];exact h1,h2,h3,h4,h5,λi v hi=>?_⟩;obtain⟨v',q1,q2⟩:=h6 i v hi;exact⟨v',q1,q2.mono hmono⟩
 .intro b pl' o' h ho;have h:=hback _ _ h;rw[uG _ _ (I.rel.bound _ _ h)];exact⟨(I.rel.obj _ _ _ h ho).1.mono hmono,(I.rel.obj _ _ _ h ho).2⟩
 .intro k k' pl1 pl2 hn h1 h2 hw hl;by_cases e1:k=(true,s)
  .have e2:k'≠(true,s):=λe=>hn (e1.trans e.symm);subst e1;rw[aH.ju]at h1;obtain rfl:=bU h1;rw[aH.df _ _ e2]at h2;have:=I.rel.bound _ _ h2;omega
  .rw[aH.df _ _ e1]at h1;by_cases e2:k'=(true,s)
   .subst e2;rw[aH.ju]at h2;obtain rfl:=bU h2;have:=I.rel.bound _ _ h1;omega
   .rw[aH.df _ _ e2]at h2;rw[(hne e1).2.1]at hw;rw[(hne e2).2.2]at hl;exact I.rel.sep _ _ _ _ hn h1 h2 hw hl
 .intro B hBs ho;rw[uG _ _ (by have:=I.tr.size;omega)];exact I.tr.frame B hBs ho
 .intro s' pl' h;by_cases e:s'=s
  .subst e;rw[aH.ju]at h;obtain rfl:=bU h;rw[hB];exact I.tr.size
  .rw[aH.df _ _ (by simpa using e)]at h;exact I.box s' pl' h
def Mem.setRow(m:Mem):Key->TypeId->List Value->Mem
 |(true,s),e,cs=>⟨m.x.set s (e,cs),m.h⟩
 |(false,b),e,cs=>⟨m.x,m.h.set b (.row true e cs)⟩
def Mem.akF(m:Mem)(k:Key)(e:TypeId)(cs:List Value):(m.setRow k e cs).row? k=some (true,e,cs):=by
 obtain⟨t,b⟩:=k;cases t
 .simp[Mem.setRow,Mem.row?,aa.set]
 .simp[Mem.setRow,Mem.row?,b8.uM]
def Mem.rO(m:Mem){k k':Key}(e:TypeId)(cs:List Value)(h:k'≠k):
  (m.setRow k e cs).row? k'=m.row? k'/\(m.setRow k e cs).wr k'=m.wr k'/\(m.setRow k e cs).live k'=m.live k':=by
 obtain⟨t,b⟩:=k;obtain⟨t',b'⟩:=k';cases t<;>cases t'
 .have:¬b'=b:=λq=>h (by rw[q]);simp[Mem.setRow,Mem.row?,Mem.wr,Mem.live,aa.wr,aa.set,this]
 .simp[Mem.setRow,Mem.row?,Mem.wr,Mem.live]
 .simp[Mem.setRow,Mem.row?,Mem.wr,Mem.live]
 .have:¬b=b':=λq=>h (by rw[q]);simp[Mem.setRow,Mem.row?,Mem.wr,Mem.live,b8.uM,this]
def Mem.zf(m:Mem)(k:Key)(e:TypeId)(cs:List Value)(hr:m.row? k=some (true,e,cs0))(b:Nat):
  ((m.setRow k e cs).h.f b≠.dead↔m.h.f b≠.dead)/\((m.setRow k e cs).h.wr b↔m.h.wr b)/\(∀o,(m.setRow k e cs).h.f b= .obj o->m.h.f b= .obj o):=by
 obtain⟨t,b'⟩:=k;cases t
 .simp only[Mem.row?]at hr;by_cases hb:b=b'
  .subst hb;simp only[Mem.setRow,aa.set,aa.wr,if_true];split at hr<;>simp_all
  .simp[Mem.setRow,aa.set,aa.wr,hb]
 .simp[Mem.setRow]
def Inv.putRow(I:Inv P ρ0 h0 w0 ρ m w){k:Key}{pl:Pl}{e:TypeId}{cs:List Value}(hk:ρ k=some pl)(hr:m.row? k=some (true,e,cs))
  {ds:List Value} (hds:ds.length<=pl.n) {w':World} {C:Array Value} {e':TypeId}
  (hw:w'={w with heap:=w'.heap}) (hsz:w'.heap.size=w.heap.size) (hother:∀B,B≠pl.B->w'.heap[B]? =w.heap[B]?)
  (hB:w'.heap[pl.B]? =some (.cells C e' (0,0))) (hC:pl.o+pl.n<=C.size)
  (hcs:∀(i:Nat)(v:Value),ds[i]? =some v->∃v',C[pl.o+i]? =some v'/\VR ρ v v'):
  Inv P ρ0 h0 w0 ρ (m.setRow k e ds) w':=by
 obtain⟨C0,e0,fz,c1,c2,c3,c4,c5,c6⟩:=I.rel.row _ _ _ _ _ hk hr;have hwk:=Mem.aos hr;have hlk:=Mem.uK hwk;have e1:w'.os=w.os:=by rw[hw]
 have e2:w'.tape=w.tape:=by rw[hw]
 have e3:w'.output=w.output:=by rw[hw]
 have hothers:∀{k' pl'},ρ k'=some pl'->k'≠k->m.live k'->w'.heap[pl'.B]? =w.heap[pl'.B]? :=fun{k' pl'} h hne hl=>
  hother _ λq=>I.rel.sep k k' pl pl' (Ne.symm hne) hk h hwk hl q.symm
 refine⟨⟨?_,?_,?_,?_,?_,?_⟩,⟨e1.trans I.tr.os,e2.trans I.tr.tape,e3.trans I.tr.output,by rw[hw];exact I.tr.drawn,by rw[hsz];exact I.tr.size,I.tr.ext,?_,?_,?_,?_,?_,?_⟩,I.box,I.nZ⟩
 .intro k' pl' h;rw[hsz];exact I.rel.bound _ _ h
 .intro b pl' h;have:=I.rel.dX _ _ h;obtain⟨t,b'⟩:=k;cases t<;>simpa[Mem.setRow,aa.set]using this
 .intro k' pl' wr1 e1 cs1 h h1;by_cases hne:k'=k
  .subst hne;rw[hk]at h;obtain rfl:=bU h;rw[Mem.akF]at h1;simp only[av,bM]at h1;obtain⟨rfl,rfl,rfl⟩:=h1;exact⟨C,e',(0,0),hB,λ_=>rfl,hds,hC,c5,hcs⟩
  .rw[(Mem.rO m e _ hne).1]at h1;obtain⟨D,e2,f2,d1,d2⟩:=I.rel.row _ _ _ _ _ h h1;exact⟨D,e2,f2,by rw[hothers h hne (Mem.yu h1)];exact d1,d2⟩
 .intro b pl' o h ho;have ho':=(Mem.zf m k e _ hr b).2.2 o ho;have hne:(false,b)≠k:=λq=>by
   subst q;simp[Mem.row?,ho']at hr
  rw[hothers h hne (by simp[Mem.live,ho'])];exact I.rel.obj _ _ _ h ho'
 .intro k1 k2 pl1 pl2 hne h1 h2 hw hl;refine I.rel.sep k1 k2 pl1 pl2 hne h1 h2 ?_ ?_
  .by_cases q:k1=k
   .subst q;exact hwk
   .rwa[(Mem.rO m e _ q).2.1]at hw
  .by_cases q:k2=k
   .subst q;exact hlk
   .rwa[(Mem.rO m e _ q).2.2]at hl
 .intro i hi;refine I.rel.ki i ?_;obtain⟨t,b'⟩:=k;cases t<;>simpa[Mem.setRow,aa.set]using hi
 .obtain⟨t,b'⟩:=k;cases t<;>simpa[Mem.setRow,aa.set]using I.tr.hn
 .obtain⟨t,b'⟩:=k;cases t<;>simpa[Mem.setRow,aa.set]using I.tr.hg
 .intro b pl' h h';obtain⟨q1,q2⟩:=I.tr.new _ _ h h';exact⟨q1,λhl=>q2 ((Mem.zf m k e _ hr b).1.1 hl)⟩
 .intro b hb hl;exact I.tr.dead b hb ((Mem.zf m k e _ hr b).1.1 hl)
 .intro b hb hl;exact I.tr.mi b hb ((Mem.zf m k e _ hr b).2.1.1 hl)
 .intro B hB' ho;rw[hother]
  .exact I.tr.frame B hB' ho
  .intro q;obtain⟨t,b'⟩:=k;cases t
   .rcases I.own ⟨b',pl,hk,q.symm,hwk⟩with h|h
    .omega
    .exact ho h
   .have:=I.box _ _ hk;omega
def Inv.kill(I:Inv P ρ0 h0 w0 ρ m w)(b:Nat):Inv P ρ0 h0 w0 ρ ⟨m.x,m.h.set b .dead⟩ w:=by
 have hrow:∀{k r},(Mem.mk m.x (m.h.set b .dead)).row? k=some r->m.row? k=some r:=fun{k r} h=>by
  obtain⟨t,b'⟩:=k;cases t
  .simp only[Mem.row?,aa.set]at h ⊢;by_cases q:b'=b
   .simp[q]at h
   .simpa[q]using h
  .exact h
 have hwr:∀{k},(Mem.mk m.x (m.h.set b .dead)).wr k->m.wr k:=fun{k} h=>by
  obtain⟨t,b'⟩:=k;cases t
  .simp only[Mem.wr,aa.wr,aa.set]at h ⊢;by_cases q:b'=b
   .simp[q]at h
   .simpa[q]using h
  .exact h
 have hlive:∀{k},(Mem.mk m.x (m.h.set b .dead)).live k->m.live k:=fun{k} h=>by
  obtain⟨t,b'⟩:=k;cases t
  .simp only[Mem.live,aa.set]at h ⊢;by_cases q:b'=b
   .simp[q]at h
   .simpa[q]using h
  .exact h
 refine⟨⟨I.rel.bound,I.rel.dX,λk pl wr e cs h hr=>I.rel.row k pl wr e cs h (hrow hr),λb' pl o h ho=>I.rel.obj b' pl o h ?_,
  λk k' pl pl' hne h h' hw hl=>I.rel.sep k k' pl pl' hne h h' (hwr hw) (hlive hl),I.rel.ki⟩,
  ⟨I.tr.os,I.tr.tape,I.tr.output,I.tr.drawn,I.tr.size,I.tr.ext,I.tr.hn,I.tr.hg,λb' pl h h'=>?_,λb' hb hl=>I.tr.dead b' hb (hlive (k:=(false,b')) hl),
   λb' hb hl=>I.tr.mi b' hb (hwr (k:=(false,b')) hl),I.tr.frame⟩,I.box,I.nZ⟩
 .simp only[aa.set]at ho;by_cases q:b'=b
  .simp[q]at ho
  .simpa[q]using ho
 .obtain⟨q1,q2⟩:=I.tr.new _ _ h h';exact⟨q1,λhl=>q2 (hlive (k:=(false,b')) hl)⟩
def Inv.Rm(I:Inv P ρ0 h0 w0 ρ m w){b:Nat}{pl:Pl}{o:Obj}(hk:ρ (false,b)=some pl)(ho:m.h.f b= .obj o)(oA o':Obj)(hAW:mS ρ oA (some o')):
  Inv P ρ0 h0 w0 ρ ⟨m.x,m.h.set b (.obj oA)⟩ {w with heap:=w.heap.setIfInBounds pl.B o'}:=by
 have hwk:m.wr (false,b):=by simp[Mem.wr,aa.wr,ho]
 have hlk:=Mem.uK hwk;have hBb:=I.rel.bound _ _ hk;have hrow:∀{k},(Mem.mk m.x (m.h.set b (.obj oA))).row? k=m.row? k:=fun{k}=>by
  obtain⟨t,b'⟩:=k;cases t
  .simp only[Mem.row?,aa.set];by_cases q:b'=b
   .subst q;simp[ho]
   .simp[q]
  .rfl
 have hwr:∀{k},(Mem.mk m.x (m.h.set b (.obj oA))).wr k↔m.wr k:=fun{k}=>by
  obtain⟨t,b'⟩:=k;cases t
  .simp only[Mem.wr,aa.wr,aa.set];by_cases q:b'=b
   .subst q;simp[ho]
   .simp[q]
  .exact Iff.rfl
 have hlive:∀{k},(Mem.mk m.x (m.h.set b (.obj oA))).live k↔m.live k:=fun{k}=>by
  obtain⟨t,b'⟩:=k;cases t
  .simp only[Mem.live,aa.set];by_cases q:b'=b
   .subst q;simp[ho]
   .simp[q]
  .exact Iff.rfl
 have hh:∀B,B≠pl.B->(w.heap.setIfInBounds pl.B o')[B]? =w.heap[B]? :=λB h=>by rw[Array.getElem?_setIfInBounds_ne (Ne.symm h)]
 have hothers:∀{k' pl'},ρ k'=some pl'->k'≠(false,b)->m.live k'->(w.heap.setIfInBounds pl.B o')[pl'.B]? =w.heap[pl'.B]? :=fun{k' pl'} h hne hl=>
  hh _ λq=>I.rel.sep _ _ _ _ (Ne.symm hne) hk h hwk hl q.symm
 refine⟨⟨λk' pl' h=>by simpa using I.rel.bound _ _ h,I.rel.dX,λk' pl' wr e cs h hr=>?_,λb' pl' o1 h ho1=>?_,
  λk' k'' pl1 pl2 hne h h' hw hl=>I.rel.sep _ _ pl1 pl2 hne h h' (hwr.1 hw) (hlive.1 hl),I.rel.ki⟩,
  ⟨I.tr.os,I.tr.tape,I.tr.output,I.tr.drawn,by simpa using I.tr.size,I.tr.ext,I.tr.hn,I.tr.hg,λb' pl' h h'=>?_,λb' hb hl=>I.tr.dead b' hb ((hlive (k:=(false,b'))).1 hl),
   λb' hb hl=>I.tr.mi b' hb ((hwr (k:=(false,b'))).1 hl),λB hB hO=>?_⟩,I.box,I.nZ⟩
 .rw[hrow]at hr;obtain⟨D,e2,f2,d1,d2⟩:=I.rel.row _ _ _ _ _ h hr;have hne:k'≠(false,b):=λq=>by subst q;simp[Mem.row?,ho]at hr
  exact⟨D,e2,f2,by rw[hothers h hne (Mem.yu hr)];exact d1,d2⟩
 .by_cases q:b'=b
  .subst q;rw[hk]at h;obtain rfl:=bU h;simp only[aa.set,if_true,aW.obj.injEq]at ho1;subst ho1;exact⟨by simp only;rw[Array.getElem?_setIfInBounds_self_of_lt hBb];exact hAW,(I.rel.obj _ _ _ hk ho).2⟩
  .simp only[aa.set,q,if_false]at ho1;simp only;rw[hothers h (by simpa using q) (by simp[Mem.live,ho1])];exact I.rel.obj _ _ _ h ho1
 .obtain⟨q1,q2⟩:=I.tr.new _ _ h h';exact⟨q1,λhl=>q2 ((hlive (k:=(false,b'))).1 hl)⟩
 .simp only;rw[hh]
  .exact I.tr.frame B hB hO
  .intro q;rcases I.own ⟨b,pl,hk,q.symm,hwk⟩with h|h
   .omega
   .exact hO h
def Inv.setObj(I:Inv P ρ0 h0 w0 ρ m w){b:Nat}{pl:Pl}{o:Obj}(hk:ρ (false,b)=some pl)(ho:m.h.f b= .obj o)(o':Obj)(hp:rF o'=true):
  Inv P ρ0 h0 w0 ρ ⟨m.x,m.h.set b (.obj o')⟩ {w with heap:=w.heap.setIfInBounds pl.B o'}:=I.Rm hk ho o' o' (.Bl hp rfl)
def Inv.ajG(I:Inv P ρ0 h0 w0 ρ m w){b:Nat}{pl:Pl}{e:TypeId}{cs:List Value}(hk:ρ (false,b)=some pl)(hr:m.h.f b= .row true e cs)
  {off:Nat} {ds:List Value} (hoff:off+ds.length<=pl.n) {w':World} {C:Array Value} {e':TypeId}
  (hw:w'={w with heap:=w'.heap}) (hsz:w'.heap.size=w.heap.size) (hother:∀B,B≠pl.B->w'.heap[B]? =w.heap[B]?)
  (hB:w'.heap[pl.B]? =some (.cells C e' (0,0))) (hC:pl.o+pl.n<=C.size)
  (hcs:∀(i:Nat)(v:Value),ds[i]? =some v->∃v',C[pl.o+off+i]? =some v'/\VR ρ v v'):
  Inv P ρ0 h0 w0 (ρ.gz (false,m.h.n) ⟨pl.B,pl.o+off,pl.n-off,pl.sz⟩) ⟨m.x,(m.h.set b .dead).new (.row true e ds)⟩ w':=by
 have hwk:m.wr (false,b):=by simp[Mem.wr,aa.wr,hr]
 have hbn:=I.rel.dX _ _ hk;have hnone:∀pl',ρ (false,m.h.n)≠some pl':=λpl' h=>Nat.lt_irrefl _ (I.rel.dX _ _ h);have hold:∀{k pl'},ρ k=some pl'->k≠(false,m.h.n):=λh e=>hnone _ (e ▸ h);have hmono:∀b pl',ρ (false,b)=some pl'->ρ.gz (false,m.h.n) ⟨pl.B,pl.o+off,pl.n-off,pl.sz⟩ (false,b)=some pl':=λb pl' h=>by rw[aH.df _ _ (hold h)];exact h
 obtain⟨C0,e0,fz0,c1,c2,c3,c4,c5,c6⟩:=I.rel.row (false,b) pl true e cs hk (by simp[Mem.row?,hr]);have hf:∀i,i<m.h.n->((m.h.set b .dead).new (.row true e ds)).f i=if i=b then .dead else m.h.f i:=λi hi=>by
  have:¬i=m.h.n:=by omega
  simp only[aa.new,aa.set,this,if_false]
 have hfn:((m.h.set b .dead).new (.row true e ds)).f m.h.n= .row true e ds:=by simp[aa.new,aa.set]
 have hrow:∀{k pl' r},ρ k=some pl'->(Mem.mk m.x ((m.h.set b .dead).new (.row true e ds))).row? k=some r->k≠(false,b)/\m.row? k=some r:=fun{k pl' r} h q=>by
  obtain⟨t,i⟩:=k;cases t
  .have hi:=I.rel.dX _ _ h;simp only[Mem.row?,hf i hi]at q;by_cases hib:i=b
   .simp[hib]at q
   .simp only[hib,if_false]at q;exact⟨by simpa using hib,q⟩
  .exact⟨by simp,q⟩
 have hlive:∀{k pl'},ρ k=some pl'->(Mem.mk m.x ((m.h.set b .dead).new (.row true e ds))).live k->k≠(false,b)/\m.live k:=fun{k pl'} h q=>by
  obtain⟨t,i⟩:=k;cases t
  .have hi:=I.rel.dX _ _ h;simp only[Mem.live,hf i hi]at q;by_cases hib:i=b
   .simp[hib]at q
   .simp only[hib,if_false]at q;exact⟨by simpa using hib,q⟩
  .exact⟨by simp,q⟩
 have hwr:∀{k pl'},ρ k=some pl'->(Mem.mk m.x ((m.h.set b .dead).new (.row true e ds))).wr k->k≠(false,b)/\m.wr k:=fun{k pl'} h q=>by
  obtain⟨t,i⟩:=k;cases t
  .have hi:=I.rel.dX _ _ h;simp only[Mem.wr,aa.wr,hf i hi]at q;by_cases hib:i=b
   .simp[hib]at q
   .simp only[hib,if_false]at q;exact⟨by simpa using hib,q⟩
  .exact⟨by simp,q⟩
 have hsep:∀{k pl'},ρ k=some pl'->k≠(false,b)->m.live k->pl'.B≠pl.B:=fun{k pl'} h hne hl q=>
  I.rel.sep _ _ _ _ (Ne.symm hne) hk h hwk hl q.symm
 have e1:w'.os=w.os:=by rw[hw]
 have e2:w'.tape=w.tape:=by rw[hw]
 have e3:w'.output=w.output:=by rw[hw]
 have ewf:((m.h.set b .dead).new (.row true e ds)).n=m.h.n+1:=rfl;refine⟨⟨?_,?_,?_,?_,?_,λi hi=>let ⟨pl',q1,q2⟩:=I.rel.ki i hi;⟨pl',hmono _ _ q1,q2⟩⟩,
  ⟨e1.trans I.tr.os,e2.trans I.tr.tape,e3.trans I.tr.output,by rw[hw];exact I.tr.drawn,by rw[hsz];exact I.tr.size,λb pl' h=>hmono _ _ (I.tr.ext _ _ h),
   by simp only[ewf];exact Nat.le_succ_of_le I.tr.hn,I.tr.hg,?_,?_,?_,?_⟩,?_,I.nZ⟩
 .intro k pl' h;by_cases q:k=(false,m.h.n)
  .subst q;rw[aH.ju]at h;obtain rfl:=bU h;rw[hsz];exact I.rel.bound (false,b) pl hk
  .rw[aH.df _ _ q]at h;rw[hsz];exact I.rel.bound _ _ h
 .intro i pl' h;by_cases q:(false,i)=(false,m.h.n)
  .simp only[bM,true_and]at q;subst q;simp only[ewf];omega
  .rw[aH.df _ _ q]at h;have:=I.rel.dX _ _ h;simp only[ewf];omega
 .intro k pl' wr1 e1 cs1 h h1;by_cases q:k=(false,m.h.n)
  .subst q;rw[aH.ju]at h;obtain rfl:=bU h;simp only[Mem.row?,hfn,av,bM]at h1;obtain⟨rfl,rfl,rfl⟩:=h1;refine⟨C,e',(0,0),hB,λ_=>rfl,by simp only;omega,by simp only;omega,c5,λi v hi=>?_⟩;obtain⟨v',q1,q2⟩:=hcs i v hi;exact⟨v',q1,q2.mono hmono⟩
  .rw[aH.df _ _ q]at h;obtain⟨hne,h1⟩:=hrow h h1;obtain⟨D,e2,f2,d1,d2,d3,d4,d5,d6⟩:=I.rel.row _ _ _ _ _ h h1;refine⟨D,e2,f2,by rw[hother _ (hsep h hne (Mem.yu h1))];exact d1,d2,d3,d4,d5,λi v hi=>?_⟩;obtain⟨v',q1,q2⟩:=d6 i v hi;exact⟨v',q1,q2.mono hmono⟩
 .intro i pl' o h ho;by_cases q:i=m.h.n
  .subst q;rw[hfn]at ho;simp at ho
  .rw[aH.df _ _ (by simpa using q)]at h;have hl:=hlive h (by simp only[Mem.live,ne_eq];intro z;rw[z]at ho;simp at ho);rw[hf i (I.rel.dX _ _ h)]at ho;have hib:i≠b:=(by simpa using hl.1);rw[if_neg hib]at ho;rw[hother _ (hsep h hl.1 hl.2)];exact⟨(I.rel.obj _ _ _ h ho).1.mono hmono,(I.rel.obj _ _ _ h ho).2⟩
 .intro k1 k2 pl1 pl2 hne h1 h2 hw hl;by_cases q1:k1=(false,m.h.n)
  .have q2:k2≠(false,m.h.n):=λq=>hne (q1.trans q.symm);subst q1;rw[aH.ju]at h1;obtain rfl:=bU h1;rw[aH.df _ _ q2]at h2;obtain⟨a1,a2⟩:=hlive h2 hl;exact λq=>hsep h2 a1 a2 q.symm
  .rw[aH.df _ _ q1]at h1;obtain⟨a1,a2⟩:=hwr h1 hw;by_cases q2:k2=(false,m.h.n)
   .subst q2;rw[aH.ju]at h2;obtain rfl:=bU h2;exact hsep h1 a1 (Mem.uK a2)
   .rw[aH.df _ _ q2]at h2;exact I.rel.sep _ _ _ _ hne h1 h2 a2 (hlive h2 hl).2
 .intro i pl' h h';by_cases q:i=m.h.n
  .subst q;rw[aH.ju]at h;obtain rfl:=bU h;exact⟨I.tr.hn,λ_=>I.own ⟨b,pl,hk,rfl,hwk⟩⟩
  .rw[aH.df _ _ (by simpa using q)]at h;obtain⟨q1,q2⟩:=I.tr.new _ _ h h';exact⟨q1,λhl=>q2 (hlive (k:=(false,i)) h hl).2⟩
 .intro i hi hl;have hin:i<m.h.n:=cV hi I.tr.hn;simp only at hl;rw[hf i hin]at hl;by_cases q:i=b
  .simp[q]at hl
  .rw[if_neg q]at hl;exact I.tr.dead i hi hl
 .intro i hi hl;have hin:i<m.h.n:=cV hi I.tr.hn;simp only[aa.wr,hf i hin]at hl;by_cases q:i=b
  .simp[q]at hl
  .simp only[q,if_false]at hl;exact I.tr.mi i hi hl
 .intro B hB' hO;rw[hother]
  .exact I.tr.frame B hB' hO
  .intro q;rcases I.own ⟨b,pl,hk,q.symm,hwk⟩with h|h
   .omega
   .exact hO h
 .intro s pl' h;rw[aH.df _ _ (by simp)]at h;exact I.box s pl' h
def Inv.acn(I:Inv P ρ0 h0 w0 ρ m w)(x:aW):Inv P ρ0 h0 w0 ρ ⟨m.x,m.h.new x⟩ w:=by
 have hfo:∀{b pl'},ρ (false,b)=some pl'->(m.h.new x).f b=m.h.f b:=fun{b pl'} h=>by
  have:=I.rel.dX _ _ h;simp only[aa.new];rw[if_neg (by omega)]
 have hrow:∀{k pl'},ρ k=some pl'->(Mem.mk m.x (m.h.new x)).row? k=m.row? k:=fun{k pl'} h=>by
  obtain⟨t,b⟩:=k;cases t
  .simp only[Mem.row?,hfo h]
  .rfl
 have hwr:∀{k pl'},ρ k=some pl'->(Mem.mk m.x (m.h.new x)).wr k=m.wr k:=fun{k pl'} h=>by
  obtain⟨t,b⟩:=k;cases t
  .simp only[Mem.wr,aa.wr,hfo h]
  .rfl
 have hlive:∀{k pl'},ρ k=some pl'->(Mem.mk m.x (m.h.new x)).live k=m.live k:=fun{k pl'} h=>by
  obtain⟨t,b⟩:=k;cases t
  .simp only[Mem.live,hfo h]
  .rfl
 refine⟨⟨I.rel.bound,λb pl h=>by have:=I.rel.dX _ _ h;simp only[aa.new];omega,λk pl wr e cs h hr=>I.rel.row k pl wr e cs h (by rwa[hrow h]at hr),
  λb pl o h ho=>I.rel.obj b pl o h (by rwa[hfo h]at ho),λk k' pl pl' hne h h' hw hl=>I.rel.sep k k' pl pl' hne h h' (by rwa[hwr h]at hw) (by rwa[hlive h']at hl),I.rel.ki⟩,
  ⟨I.tr.os,I.tr.tape,I.tr.output,I.tr.drawn,I.tr.size,I.tr.ext,by simp only[aa.new];exact Nat.le_succ_of_le I.tr.hn,I.tr.hg,λb pl h h'=>?_,λb hb hl=>?_,λb hb hl=>?_,I.tr.frame⟩,I.box,I.nZ⟩
 .obtain⟨q1,q2⟩:=I.tr.new _ _ h h';exact⟨q1,λhl=>q2 (by rwa[hfo h]at hl)⟩
 .have:(m.h.new x).f b=m.h.f b:=by simp only[aa.new];rw[if_neg (by have:=I.tr.hn;omega)]
  rw[this]at hl;exact I.tr.dead b hb hl
 .have:(m.h.new x).wr b=m.h.wr b:=by simp only[aa.wr,aa.new];rw[if_neg (by have:=I.tr.hn;omega)]
  rw[this]at hl;exact I.tr.mi b hb hl
def ja(ρ:aH):aH:=λk=>if k.1=true then none else ρ k
def oh(ρ:aH)(b:Nat):ja ρ (false,b)=ρ (false,b):=by simp[ja]
def AN(ρ:aH)(s:Nat):ja ρ (true,s)=none:=by simp[ja]
def sG{ρ:aH}{k:Key}{pl:Pl}(h:ja ρ k=some pl):k.1=false/\ρ k=some pl:=by
 unfold ja at h;split at h
 .simp at h
 .rename_i q;exact⟨by simpa using q,h⟩
def VR.ja{v v':Value}(h:VR ρ v v'):VR (ja ρ) v v':=h.mono λb pl q=>by rw[oh];exact q
def jw.ja(R:jw P ρ m w):jw P (ja ρ) ⟨b8.nil,m.h⟩ w:=by
 refine⟨λk pl h=>R.bound k pl (sG h).2,λb pl h=>R.dX b pl (sG h).2,λk pl wr e cs h hr=>?_,λb pl o h ho=>⟨(R.obj b pl o (sG h).2 ho).1.mono (λb pl q=>by rw[oh];exact q),(R.obj b pl o (sG h).2 ho).2⟩,
  λk k' pl pl' hne h h' hw hl=>?_,λi hi=>?_⟩
 .obtain⟨t,b⟩:=k;obtain⟨ht,h⟩:=sG h;simp only at ht;subst ht;obtain⟨C,e',fz,c1,c2,c3,c4,c5,c6⟩:=R.row _ _ _ _ _ h (by simpa[Mem.row?]using hr);exact⟨C,e',fz,c1,c2,c3,c4,c5,λi v hi=>let ⟨v',q1,q2⟩:=c6 i v hi;⟨v',q1,q2.ja⟩⟩
 .obtain⟨t,b⟩:=k;obtain⟨t',b'⟩:=k';obtain⟨ht,h⟩:=sG h;obtain⟨ht',h'⟩:=sG h';simp only at ht ht';subst ht;subst ht';exact R.sep _ _ _ _ hne h h' hw hl
 .obtain⟨pl,q1,q2⟩:=R.ki i hi;exact⟨pl,by rw[oh];exact q1,q2⟩
def aH.join(ρ ρ':aH):aH:=λk=>if k.1=true then ρ k else ρ' k
def Inv.call(I:Inv P ρ0 h0 w0 ρ m w){ρ':aH}{h':aa}{w':World}(R:jw P ρ' ⟨b8.nil,h'⟩ w')(T:Tr (Am.ja ρ) m.h w ρ' h' w'):
  Inv P ρ0 h0 w0 (ρ.join ρ') ⟨m.x,h'⟩ w'/\(∀b pl,ρ (false,b)=some pl->ρ.join ρ' (false,b)=some pl)/\(∀s,ρ.join ρ' (true,s)=ρ (true,s)):=by
 have jt:∀s,ρ.join ρ' (true,s)=ρ (true,s):=λs=>by simp[aH.join]
 have jf:∀b,ρ.join ρ' (false,b)=ρ' (false,b):=λb=>by simp[aH.join]
 have hext:∀b pl,ρ (false,b)=some pl->ρ.join ρ' (false,b)=some pl:=λb pl h=>by rw[jf];exact T.ext b pl (by rw[oh];exact h)
 have hback:∀{B},qM (Am.ja ρ) m.h B->qM ρ m.h B:=fun{B} ⟨b,pl,q1,q2⟩=>⟨b,pl,by rwa[oh]at q1,q2⟩;have hbox:∀s pl,ρ (true,s)=some pl->m.live (true,s)->¬qM (Am.ja ρ) m.h pl.B:=λs pl h hl ho=>by
  obtain⟨b,pl',q1,q2,q3⟩:=hback ho;exact I.rel.sep (false,b) (true,s) pl' pl (by simp) q1 h q3 hl q2
 have hboxh:∀s pl,ρ (true,s)=some pl->m.live (true,s)->w'.heap[pl.B]? =w.heap[pl.B]? :=λs pl h hl=>T.frame _ (I.rel.bound _ _ h) (hbox s pl h hl);have hapart:∀s pl b pl',ρ (true,s)=some pl->m.live (true,s)->ρ' (false,b)=some pl'->h'.f b≠.dead->pl.B≠pl'.B:=λs pl b pl' h hl h2 hl2=>by
  cases hb:ρ (false,b)with
  |none=>
   rcases(T.new b pl' h2 (by rw[oh];exact hb)).2 hl2 with q|q
   .have:=I.rel.bound _ _ h;omega
   .exact λe=>hbox s pl h hl (e ▸ q)
  |some pl0=>
   have:=T.ext b pl0 (by rw[oh];exact hb);rw[this]at h2;obtain rfl:=bU h2;exact I.rel.sep (true,s) (false,b) pl pl0 (by simp) h hb (by simpa[Mem.live,Mem.wr]using hl) (T.dead b (I.rel.dX _ _ hb) hl2)
 have hmono:∀{v u},VR ρ v u->VR (ρ.join ρ') v u:=fun{v u} h=>h.mono hext;have hmono':∀{v u},VR ρ' v u->VR (ρ.join ρ') v u:=fun{v u} h=>h.mono λb pl q=>by rw[jf];exact q
 refine⟨⟨⟨?_,?_,?_,?_,?_,?_⟩,⟨T.os.trans I.tr.os,T.tape.trans I.tr.tape,T.output.trans I.tr.output,λhg=>eY (I.tr.drawn hg) (T.drawn (I.tr.hg.trans hg)),eY I.tr.size T.size,λb pl h=>hext b pl (I.tr.ext b pl h),
  eY I.tr.hn T.hn,T.hg.trans I.tr.hg,?_,?_,?_,?_⟩,?_,I.nZ⟩,hext,jt⟩
 .rintro⟨t,b⟩ pl h;cases t
  .rw[jf]at h;exact R.bound _ _ h
  .rw[jt]at h;exact cV (I.rel.bound _ _ h) T.size
 .intro b pl h;rw[jf]at h;exact R.dX b pl h
 .rintro⟨t,b⟩ pl wr e cs h hr;cases t
  .rw[jf]at h;obtain⟨C,e',fz,c1,c2,c3,c4,c5,c6⟩:=R.row _ _ _ _ _ h (by simpa[Mem.row?]using hr);exact⟨C,e',fz,c1,c2,c3,c4,c5,λi v hi=>let ⟨v',q1,q2⟩:=c6 i v hi;⟨v',q1,hmono' q2⟩⟩
  .rw[jt]at h;have hr':m.row? (true,b)=some (wr,e,cs):=(by simpa[Mem.row?]using hr);obtain⟨C,e',fz,c1,c2,c3,c4,c5,c6⟩:=I.rel.row _ _ _ _ _ h hr';exact⟨C,e',fz,by rw[hboxh b pl h (Mem.yu hr')];exact c1,c2,c3,c4,c5,λi v hi=>let ⟨v',q1,q2⟩:=c6 i v hi;⟨v',q1,hmono q2⟩⟩
 .intro b pl o h ho;rw[jf]at h;exact⟨(R.obj b pl o h ho).1.mono (λb pl q=>by rw[jf];exact q),(R.obj b pl o h ho).2⟩
 .rintro⟨t,b⟩ ⟨t',b'⟩ pl pl' hne h h2 hw hl;cases t<;>cases t'
  .rw[jf]at h h2;exact R.sep _ _ _ _ hne h h2 hw hl
  .rw[jf]at h;rw[jt]at h2;exact λe=>hapart b' pl' b pl h2 hl h (Mem.uK (m:=⟨m.x,h'⟩) (k:=(false,b)) hw) e.symm
  .rw[jt]at h;rw[jf]at h2;exact hapart b pl b' pl' h (Mem.uK (m:=m) (k:=(true,b)) hw) h2 hl
  .rw[jt]at h h2;exact I.rel.sep _ _ _ _ hne h h2 hw hl
 .intro i hi;obtain⟨pl,q1,q2⟩:=R.ki i hi;exact⟨pl,by rw[jf];exact q1,q2⟩
 .intro b pl h hb;rw[jf]at h;cases hb':ρ (false,b)with
  |none=>
   obtain⟨q1,q2⟩:=T.new b pl h (by rw[oh];exact hb');refine⟨eY I.tr.hn q1,λhl=>?_⟩;rcases q2 hl with q|q
   .exact .inl (eY I.tr.size q)
   .exact I.own (hback q)
  |some pl0=>
   have:=T.ext b pl0 (by rw[oh];exact hb');rw[this]at h;obtain rfl:=bU h;obtain⟨q1,q2⟩:=I.tr.new b pl0 hb' hb;exact⟨q1,λhl=>q2 (T.dead b (I.rel.dX _ _ hb') hl)⟩
 .exact λb hb hl=>I.tr.dead b hb (T.dead b (cV hb I.tr.hn) hl)
 .exact λb hb hl=>I.tr.mi b hb (T.mi b (cV hb I.tr.hn) hl)
 .intro B hB hO;rw[T.frame B (cV hB I.tr.size) ?_]
  .exact I.tr.frame B hB hO
  .intro q;rcases I.own (hback q)with q|q
   .omega
   .exact hO q
 .intro s pl h;rw[jt]at h;exact I.box s pl h
def Inv.start{h:aa}(R:jw P ρ ⟨b8.nil,h⟩ w)(hb:∀s,ρ (true,s)=none):Inv P ρ h w ρ ⟨b8.nil,h⟩ w:=
 ⟨R,Tr.refl _ _ _,λs pl h=>by rw[hb]at h;simp at h,λb pl h=>⟨R.dX b pl h,R.bound _ _ h⟩⟩
end Go.Am
namespace Go.Am
open Go
structure St where
 t:Fr
 m:Mem
def fu(ρ:aH)(T:Fr)(tmps:Array Value):Prop:=∀i v,T.get i=some v->∃v',tmps[i]? =some v'/\VT ρ v v'
def aN(σ:St):Operand->Option Value
 | .tmp i=>σ.t.get i
 | .const v=>if dz v then some v else none
 | .func f=>some (.func (.func f) #[] #[])
 | .global g=>if g<σ.m.h.g then some (.pointer (some ⟨g,0,none⟩))else none
section
variable {P:Program} {ρ0 ρ ρ':aH} {h0:aa} {w0 w:World} {m:Mem}
def VT.mono(hρ:∀b pl,ρ (false,b)=some pl->ρ' (false,b)=some pl)(ht:∀s,ρ' (true,s)=ρ (true,s)){v v':Value}(h:VT ρ v v'):VT ρ' v v':=by
 cases h with
 |val _ _ h=>exact .val _ _ (h.mono hρ)
 |loc s off x pl h=>exact .loc s off x pl (by rw[ht];exact h)
def fu.mono(hρ:∀b pl,ρ (false,b)=some pl->ρ' (false,b)=some pl)(ht:∀s,ρ' (true,s)=ρ (true,s)){T:Fr}{tmps:Array Value}(h:fu ρ T tmps):fu ρ' T tmps:=
 λi v hi=>let ⟨v',q1,q2⟩:=h i v hi;⟨v',q1,q2.mono hρ ht⟩
def fu.put{T:Fr}{tmps:Array Value}(h:fu ρ T tmps){i:Nat}(hi:i<tmps.size){v v':Value}(hv:VT ρ v v'):fu ρ (T.put i v) (tmps.setIfInBounds i v'):=by
 intro j u hj;simp only[Fr.put,Fr.get]at hj;split at hj
 .rename_i e;subst e;obtain rfl:=bU hj;exact⟨v',by rw[Array.getElem?_setIfInBounds_self_of_lt hi],hv⟩
 .rename_i e;obtain⟨u',q1,q2⟩:=h j u hj;exact⟨u',by rw[Array.getElem?_setIfInBounds_ne e];exact q1,q2⟩
def fu.prune{T:Fr}{tmps:Array Value}(h:fu ρ T tmps)(l:List Nat):fu ρ (T.prune l) tmps:=λi v hi=>h i v (Fr.ZU T i v l hi)
def fu.wR{T:Fr}{tmps:Array Value}(h:fu ρ T tmps)(s:Nat)(pl:Pl):fu (ρ.gz (true,s) pl) (T.wR s) tmps:=by
 intro i v hi;rw[Fr.KA]at hi;unfold zb at hi;split at hi
 .rename_i u hu;obtain⟨u',q1,q2⟩:=h i u hu;split at hi
  .rename_i s' hs';split at hi
   .simp at hi
   .rename_i hne;obtain rfl:=bU hi;refine⟨u',q1,?_⟩;cases q2 with
    |val _ _ q=>exact .val _ _ (q.mono λb p z=>by rw[aH.df _ _ (by simp)];exact z)
    |loc s2 off x p z=>
     simp only[iM,av]at hs';subst hs';exact .loc _ off x p (by rw[aH.df _ _ (by simpa using hne)];exact z)
  .rename_i hnone;obtain rfl:=bU hi;refine⟨u',q1,?_⟩;cases q2 with
   |val _ _ q=>exact .val _ _ (q.mono λb p z=>by rw[aH.df _ _ (by simp)];exact z)
   |loc s2 off x p z=>simp[iM]at hnone
 .simp at hi
def dD{σ:St}(I:Inv P ρ0 h0 w0 ρ σ.m w){a:Act}(F:fu ρ σ.t a.tmps){x:Operand}{v:Value}(h:aN σ x=some v):VT ρ v (a.eval x):=by
 cases x with
 |tmp i=>
  obtain⟨v',q1,q2⟩:=F i v h;have:a.eval (.tmp i)=v':=by
   simp only[Act.eval,Array.getD_eq_getD_getElem?,q1,iH]
  rw[this];exact q2
 |const u=>
  simp only[aN]at h;split at h
  .rename_i hf;obtain rfl:=bU h;exact .val _ _ (.sN hf)
  .simp at h
 |func f=>
  simp only[aN,av]at h;subst h;exact .val _ _ (.func _ [] [] [] [] rfl rfl (by simp) (by simp))
 |global g=>
  simp only[aN]at h;split at h
  .rename_i hg;obtain rfl:=bU h;obtain⟨pl,q1,q2,q3⟩:=I.rel.ki g hg;have:=VR.ptr (ρ:=ρ) g 0 pl q1;rw[q2,q3]at this;exact .val _ _ this
  .simp at h
def _root_.Go.Sem.aU{α:Type}(P:Program):Sem α->Option α
 | .pure a=>some a
 | .program k=>(k P).aU P
 | .mark _ k=>k.aU P
 |_=>none
def yR{α:Type}(P:Program)(s:Sem α)(a:α)(h:s.aU P=some a)(w:World):s.run P w= .ok a w:=by
 induction s with
 |pure b=>simp[Sem.aU]at h;subst h;rfl
 |program k ih=>exact ih P h
 |mark m k ih=>exact ih h
 |_=>simp[Sem.aU]at h
def cM{α β:Type}(P:Program)(s:Sem α)(f:α->Sem β):(s >>= f).aU P=(s.aU P).bind λa=>(f a).aU P:=by
 induction s with
 |pure b=>rfl
 |program k ih=>exact ih P
 |mark m k ih=>exact ih
 |_=>rfl
def th{α:Type}(P:Program)(a:α):(pure a:Sem α).aU P=some a:=rfl
def qu(P:Program):program.aU P=some P:=rfl
def lF(σ:St):Operand->Value:=λx=>(aN σ x).getD undef
def vX:Op->Bool
 | .select .. =>true
 |_=>false
def pc(σ:St)(x:Operand):Bool:=match aN σ x with
 |some v=>cB v
 |none=>false
def tg(P:Program)(σ:St)(o:Oper):Option Value:=
 if o.op.operands.toList.all (pc σ)&& !vX o.op then
  match(execOp (lF σ) o).aU P with
  |some (.value v)=>if cB v then some v else none
  |_=>none
 else none
def tb:Next->Option Value
 | .value v=>some v
 | .skip=>some undef
 |_=>none
def fF(P:Program)(o:Oper)(σ:St)(v:Value)(σ':St):Prop:=
 ∀(ρ0:aH)(h0:aa)(w0:World)(ρ:aH)(a:Act)(w:World),Inv P ρ0 h0 w0 ρ σ.m w->fu ρ σ.t a.tmps->
  ∃nx v' w' ρ',(execOp a.eval o).run P w= .ok nx w'/\tb nx=some v'/\Inv P ρ0 h0 w0 ρ' σ'.m w'/\fu ρ' σ'.t a.tmps/\VT ρ' v v'/\
   ∀s,(∀d,o.dst=some d->d≠s)->ρ' (true,s)=ρ (true,s)/\(ρ (true,s)=none->σ'.m.x s=σ.m.x s)
def ajj{σ:St}{o:Oper}{v:Value}(h:tg P σ o=some v):fF P o σ v σ:=by
 intro ρ0 h0 w0 ρ a w I F;unfold tg at h;split at h
 .rename_i aJ;rw[bQ]at aJ;obtain⟨aJ,hsel⟩:=aJ;rw[cz]at aJ;have hev:∀x∈o.op.operands,a.eval x=lF σ x:=λx hx=>by
   have:=aJ x (by simpa using hx);unfold pc at this;cases ho:aN σ x with
   |none=>simp[ho]at this
   |some u=>
    rw[ho]at this;rw[(dD I F ho).cB this];simp[lF,ho]
  have hc:execOp a.eval o=execOp (lF σ) o:=execOp_congr o (λcs b e=>by simp[e,vX]at hsel) hev;split at h
  .rename_i u hu;split at h
   .rename_i hf;obtain rfl:=bU h;exact⟨_,u,w,ρ,by rw[hc];exact yR P _ _ hu w,rfl,I,F,.gG hf,λ_ _=>⟨rfl,λ_=>rfl⟩⟩
   .simp at h
  .simp at h
 .simp at h
end
section
variable {P:Program} {ρ0 ρ ρ':aH} {h0:aa} {w0 w:World} {m:Mem}
def key(ad:Addr):Key:=(ad.spot.isSome,ad.block)
def nK(ad:Addr)(n:Nat):Addr:=⟨ad.block,ad.off+n,ad.spot⟩
def VT.ptr{ad:Addr}{v':Value}(h:VT ρ (.pointer (some ad)) v'):∃pl,ρ (key ad)=some pl/\v'= .pointer (some ⟨pl.B,pl.o+ad.off,none⟩):=by
 cases h with
 |val _ _ h=>cases h with|ptr b off pl h=>exact⟨pl,h,rfl⟩
 |loc s off x pl h=>exact⟨pl,h,rfl⟩
def VT.uQ{ad:Addr}{pl:Pl}(h:ρ (key ad)=some pl):VT ρ (.pointer (some ad)) (.pointer (some ⟨pl.B,pl.o+ad.off,none⟩)):=by
 obtain⟨b,off,sp⟩:=ad;cases sp with
 |none=>exact .val _ _ (.ptr b off pl h)
 |some x=>exact .loc b off x pl h
def VT.nK{ad:Addr}{pl:Pl}(h:ρ (key ad)=some pl)(n:Nat):VT ρ (.pointer (some (Am.nK ad n))) (.pointer (some ((⟨pl.B,pl.o+ad.off,none⟩:Addr).add n))):=by
 have:=VT.uQ (ad:=Am.nK ad n) (pl:=pl) h;rw[Addr.add_lit];simpa[Am.nK,Nat.add_assoc]using this
def Mem.cells(m:Mem)(ad:Addr)(n:Nat):Option (List Value):=
 match m.row? (key ad)with
 |some (_,_,cs)=>if ad.off+n<=cs.length then some ((cs.drop ad.off).take n)else none
 |none=>none
def XF{w:World}{B:Nat}{C:Array Value}{e:TypeId}{fz:Nat×Nat}(h:w.heap[B]? =some (.cells C e fz))(o:Nat):w.cell? ⟨B,o,none⟩=C[o]? :=by
 simp[World.cell?,h]
def sr(I:Inv P ρ0 h0 w0 ρ m w){ad:Addr}{pl:Pl}(hk:ρ (key ad)=some pl){n:Nat}{l:List Value}(h:m.cells ad n=some l):
  l.length=n/\∃l':List Value,l'.length=n/\(∀(i:Nat)(v:Value),l[i]? =some v->∃v',l'[i]? =some v'/\VR ρ v v')/\
   ∀(j:Nat)(v:Value),l'[j]? =some v->w.cell? ((⟨pl.B,pl.o+ad.off,none⟩:Addr).add j)=some v:=by
 unfold Mem.cells at h;split at h
 .rename_i wr e cs hr;split at h
  .rename_i hle;obtain rfl:=bU h;obtain⟨C,e',fz,c1,c2,c3,c4,c5,c6⟩:=I.rel.row _ _ _ _ _ hk hr;have hsz:pl.o+ad.off+n<=C.size:=(by omega);refine⟨by simp;omega,(C.toList.drop (pl.o+ad.off)).take n,by simp;omega,λi v hi=>?_,λj v hj=>?_⟩
   .rw[List.getElem?_take]at hi;split at hi
    .rename_i hin;rw[List.getElem?_drop]at hi;obtain⟨v',q1,q2⟩:=c6 _ _ hi;refine⟨v',?_,q2⟩;rw[List.getElem?_take,if_pos hin,List.getElem?_drop,Array.getElem?_toList,Nat.add_assoc];exact q1
    .simp at hi
   .rw[List.getElem?_take]at hj;split at hj
    .rw[List.getElem?_drop,Array.getElem?_toList]at hj;rw[Addr.add_lit,XF c1];exact hj
    .simp at hj
  .simp at h
 .simp at h
def Cx{l l':List Value}(hl:l.length=l'.length)(h:∀(i:Nat)(v:Value),l[i]? =some v->∃v',l'[i]? =some v'/\VR ρ v v'):VR ρ (.agg ⟨l⟩) (.agg ⟨l'⟩):=
 .agg l l' hl ((pL hl).2 h)
def ei(P:Program)(t:TypeId):Option Bool:=
 match P.underlying t with
 |some (.struct _)|some (.array _ _)=>some true
 |some _=>some false
 |none=>none
def u9{t:TypeId}{b:Bool}(h:ei P t=some b)(w:World):(isAgg t).run P w= .ok b w:=by
 unfold ei at h;unfold isAgg;cases hu:P.underlying t with
 |none=>simp[hu]at h
 |some d=>
  rw[hu]at h;simp only[Sem.run_bind,run_underlying hu,Result.andThen_ok];cases d<;>simp_all
def dj(P:Program)(t:TypeId):Option Nat:=(P.info? t).map (·.size)
def run_sizeOf{t:TypeId}{n:Nat}(h:dj P t=some n)(w:World):(sizeOf t).run P w= .ok n w:=by
 unfold dj at h;cases hi:P.info? t with
 |none=>simp[hi]at h
 |some i=>simp[hi]at h;simp[sizeOf,typeInfo,hi,h]
def oH(σ:St)(x:Operand):Option (Value×St):=match aN σ x with|some v=>some (v,σ)|none=>none
def Qk{σ σ':St}{o:Oper}{x:Operand}(ho:o.op= .move x∨o.op= .assign x){v:Value}(h:oH σ x=some (v,σ')):fF P o σ v σ':=by
 intro ρ0 h0 w0 ρ a w I F;unfold oH at h;split at h
 .rename_i u hu;simp only[av,bM]at h;obtain⟨rfl,rfl⟩:=h;refine⟨.value (a.eval x),_,w,ρ,?_,rfl,I,F,dD I F hu,λ_ _=>⟨rfl,λ_=>rfl⟩⟩;rcases ho with ho|ho<;>simp[execOp,ho]
 .simp at h
def s6(σ:St)(c x y:Operand):Option (Value×St):=
 match aN σ c with
 |some (.bool b)=>match aN σ (if b then x else y)with
  |some v=>some (v,σ)
  |none=>none
 |_=>none
def aiw{σ σ':St}{o:Oper}{c x y:Operand}(ho:o.op= .pick c x y){v:Value}(h:s6 σ c x y=some (v,σ')):fF P o σ v σ':=by
 intro ρ0 h0 w0 ρ a w I F;unfold s6 at h;split at h
 .rename_i b hb;split at h
  .rename_i u hu;simp only[av,bM]at h;obtain⟨rfl,rfl⟩:=h;have hc:=(dD I F hb).cB rfl;refine⟨.value (a.eval (if b then x else y)),_,w,ρ,?_,rfl,I,F,dD I F hu,λ_ _=>⟨rfl,λ_=>rfl⟩⟩;simp only[execOp,ho,hc,asBool];cases b<;>simp
  .simp at h
 .simp at h
def sY(P:Program)(σ:St)(t:TypeId)(x:Operand):Option (Value×St):=
 match aN σ x with
 |some (.pointer (some ad))=>
  match ei P t,dj P t with
  |some true,some n=>match σ.m.cells ad n with
   |some l=>some (.agg ⟨l⟩,σ)
   |none=>none
  |some false,_=>match σ.m.cells ad 1 with
   |some [v]=>some (v,σ)
   |_=>none
  |_,_=>none
 |_=>none
def ain{σ σ':St}{o:Oper}{t:TypeId}{x:Operand}(ho:o.op= .load t x){v:Value}(h:sY P σ t x=some (v,σ')):fF P o σ v σ':=by
 intro ρ0 h0 w0 ρ a w I F;unfold sY at h;split at h
 .rename_i ad hx;obtain⟨pl,hk,hv⟩:=(dD I F hx).ptr;split at h
  .rename_i n hagg hsz;split at h
   .rename_i l hl;simp only[av,bM]at h;obtain⟨rfl,rfl⟩:=h;obtain⟨q1,l',q2,q3,q4⟩:=sr I hk hl;have hrun:=run_loadCells_list (P:=P) w ⟨pl.B,pl.o+ad.off,none⟩ l' q4;rw[q2]at hrun;refine⟨.value (.agg ⟨l'⟩),.agg ⟨l'⟩,w,ρ,?_,rfl,I,F,.val _ _ (Cx (q1.trans q2.symm) q3),λ_ _=>⟨rfl,λ_=>rfl⟩⟩;simp[execOp,ho,Instr.loadAt,hv,Instr.sureAddr,loadVar,u9 hagg,run_sizeOf hsz,hrun]
   .simp at h
  .rename_i hagg;split at h
   .rename_i v1 hl;simp only[av,bM]at h;obtain⟨rfl,rfl⟩:=h;obtain⟨q1,l',q2,q3,q4⟩:=sr I hk hl;obtain⟨v',e1,e2⟩:=q3 0 v1 rfl;have hc:=q4 0 v' e1;rw[Addr.add_zero']at hc;refine⟨.value v',v',w,ρ,?_,rfl,I,F,.val _ _ e2,λ_ _=>⟨rfl,λ_=>rfl⟩⟩;simp[execOp,ho,Instr.loadAt,hv,Instr.sureAddr,loadVar,u9 hagg,hc]
   .simp at h
  .simp at h
 .simp at h
def cL(v:Value):Bool:=v.oneCell'
def St.newVar(σ:St)(loc:List Nat)(dst:Option Nat)(e:TypeId)(cs:List Value):Option (Value×St):=
 match dst with
 |some s=>if loc.contains s then some (.pointer (some ⟨s,0,some 0⟩),⟨σ.t.wR s,⟨σ.m.x.set s (e,cs),σ.m.h⟩⟩)
  else some (.pointer (some ⟨σ.m.h.n,0,none⟩),⟨σ.t,⟨σ.m.x,σ.m.h.new (.row true e cs)⟩⟩)
 |none=>none
def PK{σ σ':St}{loc:List Nat}{dst:Option Nat}{e e':TypeId}{cs:List Value}{v:Value}(h:σ.newVar loc dst e cs=some (v,σ'))
  (I:Inv P ρ0 h0 w0 ρ σ.m w) {a:Act} (F:fu ρ σ.t a.tmps) {C:Array Value} (hn:cs.length<=C.size)
  (hc:∀(i:Nat)(v:Value),cs[i]? =some v->∃v',C[i]? =some v'/\VR ρ v v'):
  ∃ρ',Inv P ρ0 h0 w0 ρ' σ'.m (w.alloc (.cells C e'))/\fu ρ' σ'.t a.tmps/\VT ρ' v (.pointer (some ⟨w.heap.size,0,none⟩))/\
   ∀s,(∀d,dst=some d->d≠s)->ρ' (true,s)=ρ (true,s)/\(ρ (true,s)=none->σ'.m.x s=σ.m.x s):=by
 unfold St.newVar at h;have hfit:Fits P ρ (.row true e cs) (.cells C e' (0,0)) ⟨w.heap.size,0,C.size,P.cellsOf e⟩:=.row e e' cs C _ hn hc;split at h
 .rename_i s;split at h
  .simp only[av,bM]at h;obtain⟨rfl,rfl⟩:=h;refine⟨_,I.eP s hfit rfl,F.wR s _,?_,λs' hs'=>⟨aH.df _ _ (by have:=hs' s rfl;simp;exact λz=>this z.symm),λ_=>by simp only[b8.set];rw[if_neg (hs' s rfl)]⟩⟩;have:=VT.uQ (ρ:=ρ.gz (true,s) ⟨w.heap.size,0,C.size,P.cellsOf e⟩) (ad:=⟨s,0,some 0⟩) (pl:=⟨w.heap.size,0,C.size,P.cellsOf e⟩) (by simp[key,aH.gz]);simpa using this
  .simp only[av,bM]at h;obtain⟨rfl,rfl⟩:=h;have hnone:∀pl',ρ (false,σ.m.h.n)≠some pl':=λpl' h=>Nat.lt_irrefl _ (I.rel.dX _ _ h);refine⟨_,I.rA hfit rfl,F.mono (λb pl q=>?_) (λs=>aH.df _ _ (by simp)),?_,λs' _=>⟨aH.df _ _ (by simp),λ_=>rfl⟩⟩
   .rw[aH.df];exact q;intro z;simp only[bM,true_and]at z;subst z;exact hnone _ q
   .have:=VT.uQ (ρ:=ρ.gz (false,σ.m.h.n) ⟨w.heap.size,0,C.size,P.cellsOf e⟩) (ad:=⟨σ.m.h.n,0,none⟩) (pl:=⟨w.heap.size,0,C.size,P.cellsOf e⟩) (by simp[key,aH.gz]);simpa using this
 .simp at h
def eg(P:Program)(t:TypeId):Option (List Value):=
 match P.info? t with
 |some i=>match i.zero with
  |some z=>if z.cells.toList.all dz then some z.cells.toList else none
  |none=>none
 |none=>none
def va{t:TypeId}{l:List Value}(h:eg P t=some l):∃z,z.cells=⟨l⟩/\(∀v∈l,dz v=true)/\∀w,(zeroValue t).run P w= .ok z w:=by
 unfold eg at h;cases hi:P.info? t with
 |none=>simp[hi]at h
 |some i=>
  simp only[hi]at h;cases hz:i.zero with
  |none=>simp[hz]at h
  |some z=>
   simp only[hz]at h;split at h
   .rename_i aJ;obtain rfl:=bU h;exact⟨z,by simp,λv hv=>cz.mp aJ v hv,λw=>by simp[zeroValue,typeInfo,hi,hz]⟩
   .simp at h
def vP{l:List Value}(h:∀v∈l,dz v=true):∀(i:Nat)(v:Value),l[i]? =some v->∃v',(⟨l⟩:Array Value)[i]? =some v'/\VR ρ v v':=
 λi v hi=>⟨v,by simpa using hi,.sN (h v (dE hi))⟩
def sQ(P:Program)(loc:List Nat)(σ:St)(dst:Option Nat)(t:TypeId):Option (Value×St):=
 match eg P t with
 |some l=>σ.newVar loc dst t l
 |none=>none
def ah2{σ σ':St}{o:Oper}{loc:List Nat}{t:TypeId}(ho:o.op= .alloc t){v:Value}(h:sQ P loc σ o.dst t=some (v,σ')):fF P o σ v σ':=by
 intro ρ0 h0 w0 ρ a w I F;unfold sQ at h;split at h
 .rename_i l hl;obtain⟨z,hz,hf,hrun⟩:=va hl;obtain⟨ρ',J,F',V,X⟩:=PK (e':=t) (C:=⟨l⟩) h I F (by simp) (vP hf);refine⟨.value (.pointer (some ⟨w.heap.size,0,none⟩)),_,_,ρ',?_,rfl,J,F',V,X⟩;simp[execOp,ho,Instr.alloc,hrun,newVar,newRow,hz]
 .simp at h
def VR.cells{v v':Value}(h:VR ρ v v'):v.cells.toList.length=v'.cells.toList.length/\∀(i:Nat)(u:Value),v.cells.toList[i]? =some u->∃u',v'.cells.toList[i]? =some u'/\VR ρ u u':=by
 have triv:∀{v v':Value},VR ρ v v'->v.cells= #[v]->v'.cells= #[v']->v.cells.toList.length=v'.cells.toList.length/\∀(i:Nat)(u:Value),v.cells.toList[i]? =some u->∃u',v'.cells.toList[i]? =some u'/\VR ρ u u':=by
  intro v v' h e1 e2;rw[e1,e2];refine⟨rfl,λi u hi=>?_⟩;cases i with
  |zero=>simp at hi;subst hi;exact⟨v',rfl,h⟩
  |succ i=>simp at hi
 cases h with
 |agg cs ds hl h=>exact⟨hl,(pL hl).1 h⟩
 |bool b=>exact triv (.bool b) rfl rfl
 |int k n=>exact triv (.int k n) rfl rfl
 |string s=>exact triv (.string s) rfl rfl
 |wz=>exact triv .wz rfl rfl
 |wy=>exact triv .wy rfl rfl
 |wu=>exact triv .wu rfl rfl
 |wx=>exact triv .wx rfl rfl
 |ptr b off pl h=>exact triv (.ptr b off pl h) rfl rfl
 |mp b pl h=>exact triv (.mp b pl h) rfl rfl
 |tE=>exact triv .tE rfl rfl
 |pH a a' c=>exact triv (.pH a a' c) rfl rfl
 |sl b off len c pl cap h hc hn=>exact triv (.sl b off len c pl cap h hc hn) rfl rfl
 |iface t v v' h=>exact triv (.iface t v v' h) rfl rfl
 |tuple cs ds hl h=>exact triv (.tuple cs ds hl h) rfl rfl
 |func fn aS as' cs ds ha hl h1 h=>exact triv (.func fn aS as' cs ds ha hl h1 h) rfl rfl
def sR(loc:List Nat)(σ:St)(dst:Option Nat)(t:TypeId)(x:Operand):Option (Value×St):=
 match aN σ x with
 |some v=>if cn v then σ.newVar loc dst t v.cells.toList else none
 |none=>none
def ah4{σ σ':St}{o:Oper}{loc:List Nat}{t:TypeId}{x:Operand}(ho:o.op= .box t x){v:Value}(h:sR loc σ o.dst t x=some (v,σ')):fF P o σ v σ':=by
 intro ρ0 h0 w0 ρ a w I F;unfold sR at h;split at h
 .rename_i u hu;split at h
  .rename_i hnl;have hc:=((dD I F hu).cn hnl).cells;obtain⟨ρ',J,F',V,X⟩:=PK (e':=t) (C:=(a.eval x).cells) h I F (by rw[hc.1];simp) (λi v hi=>by simpa using hc.2 i v hi);refine⟨.value (.pointer (some ⟨w.heap.size,0,none⟩)),_,_,ρ',?_,rfl,J,F',V,X⟩;simp[execOp,ho,Instr.box,newVar,newRow]
  .simp at h
 .simp at h
def lx(cs:List Value)(j:Nat)(vs:List Value):List Value:=cs.take j++vs++cs.drop (j+vs.length)
def s8(P:Program)(σ:St)(t:TypeId)(x y:Operand):Option (Value×St):=
 match aN σ x,aN σ y with
 |some (.pointer (some ad)),some v=>
  match σ.m.row? (key ad),dj P t with
  |some (true,e,cs),some n=>
   if cn v&&v.cells.toList.length==n&&v.cells.toList.all cL&&decide (ad.off+n<=cs.length)then
    some (undef,⟨σ.t,σ.m.setRow (key ad) e (lx cs ad.off v.cells.toList)⟩)
   else none
  |_,_=>none
 |_,_=>none
def VR.one{v v':Value}(h:VR ρ v v')(ho:cL v=true):v'.oneCell'=true:=by
 cases h<;>simp_all [cL,Value.oneCell']
def zg(w:World)(g:Nat)(cs:Array Value):w.setRow g cs={w with heap:=(w.setRow g cs).heap}:=rfl
def setRow_size(w:World)(g:Nat)(cs:Array Value):(w.setRow g cs).heap.size=w.heap.size:=by simp[World.setRow]
def rO(w:World)(g:Nat)(cs:Array Value){B:Nat}(h:B≠g):(w.setRow g cs).heap[B]? =w.heap[B]? :=by
 simp only[World.setRow,Array.getElem?_modify];rw[if_neg (Ne.symm h)]
def zd(w:World)(g:Nat)(cs:Array Value){C:Array Value}{e:TypeId}{fz:Nat×Nat}(h:w.heap[g]? =some (.cells C e fz)):(w.setRow g cs).heap[g]? =some (.cells cs e fz):=by
 simp only[World.setRow,Array.getElem?_modify,h];rfl
def vS(C vs:List Value)(j i:Nat)(h:j+vs.length<=C.length):
  (C.take j++vs++C.drop (j+vs.length))[i]? =if i<j then C[i]? else if i<j+vs.length then vs[i-j]? else C[i]? :=by
 have hl:(C.take j).length=j:=by simp;omega
 by_cases h1:i<j
 .rw[if_pos h1,eG,ji (by omega),List.getElem?_take,if_pos h1]
 .rw[if_neg h1];by_cases h2:i<j+vs.length
  .rw[if_pos h2,ji (by simp;omega),iF (by omega),hl]
  .rw[if_neg h2,iF (by simp;omega),List.getElem?_drop];congr 1;simp;omega
def zh{cs vs vs':List Value}{C:Array Value}{o off n:Nat}(hlen:vs.length=vs'.length)(hin:off+vs.length<=cs.length)(hn:cs.length<=n)(hC:o+n<=C.size)
  (h:∀(i:Nat)(v:Value),cs[i]? =some v->∃v',C[o+i]? =some v'/\VR ρ v v')
  (hv:∀(i:Nat)(v:Value),vs[i]? =some v->∃v',vs'[i]? =some v'/\VR ρ v v'):
  ∀(i:Nat)(v:Value),(lx cs off vs)[i]? =some v->∃v',(C.toList.take (o+off)++vs'++C.toList.drop (o+off+vs'.length)).toArray[o+i]? =some v'/\VR ρ v v':=by
 intro i v hi;unfold lx at hi;rw[vS _ _ _ _ hin]at hi;rw[List.getElem?_toArray,vS _ _ _ _ (by rw[<-hlen];simp only[Array.length_toList];omega)];by_cases h1:i<off
 .rw[if_pos h1]at hi;rw[if_pos (by omega),Array.getElem?_toList];exact h i v hi
 .rw[if_neg h1]at hi;rw[if_neg (by omega)];by_cases h2:i<off+vs.length
  .rw[if_pos h2]at hi;rw[if_pos (by omega),show o+i-(o+off)=i-off by omega];exact hv _ v hi
  .rw[if_neg h2]at hi;rw[if_neg (by omega),Array.getElem?_toList];exact h i v hi
def aiA{σ σ':St}{o:Oper}{t:TypeId}{x y:Operand}(ho:o.op= .store t x y){v:Value}(h:s8 P σ t x y=some (v,σ')):fF P o σ v σ':=by
 intro ρ0 h0 w0 ρ a w I F;unfold s8 at h;split at h
 .rename_i ad u hx hy;split at h
  .rename_i e cs n hr hsz;split at h
   .rename_i aJ;simp only[bQ,beq_iff_eq,de]at aJ;obtain⟨⟨⟨hnl,hlen⟩,hone⟩,hin⟩:=aJ;simp only[av,bM]at h;obtain⟨rfl,rfl⟩:=h;obtain⟨pl,hk,hv⟩:=(dD I F hx).ptr;have hc:=((dD I F hy).cn hnl).cells;obtain⟨C,e',fz,c1,c2,c3,c4,c5,c6⟩:=I.rel.row _ _ _ _ _ hk hr;obtain rfl:=c2 rfl;have hone':∀z∈(a.eval y).cells.toList,z.oneCell'=true:=λz hz=>by
     rw[List.mem_iff_getElem?]at hz;obtain⟨i,hi⟩:=hz;have hlt:i<(a.eval y).cells.toList.length:=by
      rcases Nat.lt_or_ge i (a.eval y).cells.toList.length with q|q
      .exact q
      .rw[iT q]at hi;cases hi
     rw[<-hc.1]at hlt;obtain⟨z',q1,q2⟩:=hc.2 i _ (aq hlt);rw[hi]at q1;obtain rfl:=bU q1;exact q2.one (cz.mp hone _ (fG hlt))
    have hst:=run_storeCells_at P pl.B (pl.o+ad.off) e' (a.eval y).cells.toList 0 C w c1 (by rw[<-hc.1];omega) hone';simp only[ie]at hst;refine⟨.skip,undef,w.setRow pl.B (C.toList.take (pl.o+ad.off)++(a.eval y).cells.toList++C.toList.drop (pl.o+ad.off+(a.eval y).cells.toList.length)).toArray,ρ,?_,rfl,I.putRow hk hr (ds:=lx cs ad.off u.cells.toList) (by simp only[lx,bH,dh,eX];omega)
     (zg w pl.B _) (setRow_size w pl.B _) (λB hB=>rO w pl.B _ hB) (zd w pl.B _ c1) ?_ ?_,F,.gG rfl,λs' _=>⟨rfl,λhn=>?_⟩⟩
    rotate_left 3
    .obtain⟨b,off,sp⟩:=ad;cases sp with
     |none=>rfl
     |some z=>
      have:b≠s':=λq=>(by subst q;simp[key]at hk;rw[hn]at hk;cases hk);simp[key,Mem.setRow,b8.set,this]
    .have hsz':(a.eval y).cells.size=n:=(by rw[<-hlen,hc.1];simp);simp[execOp,ho,Instr.storeAt,hv,Instr.sureAddr,storeVar,run_sizeOf hsz,hsz',hst]
    .simp only[List.size_toArray,bH,dh,eX,Array.length_toList];have:(a.eval y).cells.toList.length=n:=(by rw[<-hc.1,hlen]);simp only[Array.length_toList]at this;omega
    .exact zh hc.1 (by rw[hlen];exact hin) c3 c4 c6 hc.2
   .simp at h
  .simp at h
 .simp at h
end
section
variable {P:Program} {ρ0 ρ ρ':aH} {h0:aa} {w0 w:World} {m:Mem}
def AE(P:Program)(s f:Nat):Option Field:=match P.underlying s with
 |some (.struct fs)=>fs[f]?
 |_=>none
def ZB{s f:Nat}{x:Field}(h:AE P s f=some x):∃fs,P.underlying s=some (.struct fs)/\fs[f]? =some x:=by
 unfold AE at h;split at h
 .rename_i fs hu;exact⟨fs,hu,h⟩
 .simp at h
def cg(P:Program)(s f:Nat):Option (Nat×TypeId×Nat):=match AE P s f with
 |some x=>match dj P x.type with
  |some n=>if n=0 then none else some (x.offset,x.type,n)
  |none=>none
 |none=>none
def PZ{s f off t n:Nat}(h:cg P s f=some (off,t,n)):∃fs x,P.underlying s=some (.struct fs)/\fs[f]? =some x/\x.offset=off/\x.type=t/\dj P t=some n/\n≠0:=by
 unfold cg at h;split at h
 .rename_i x hx;split at h
  .rename_i k hk;split at h
   .simp at h
   .rename_i hn;simp only[av,bM]at h;obtain⟨rfl,rfl,rfl⟩:=h;obtain⟨fs,q1,q2⟩:=ZB hx;exact⟨fs,x,q1,q2,rfl,rfl,hk,hn⟩
  .simp at h
 .simp at h
def sV(P:Program)(σ:St)(s:TypeId)(x:Operand)(f:Nat):Option (Value×St):=
 match aN σ x,cg P s f with
 |some (.pointer (some ad)),some (off,_,_)=>some (.pointer (some (nK ad off)),σ)
 |_,_=>none
def aij{σ σ':St}{o:Oper}{s:TypeId}{x:Operand}{f:Nat}(ho:o.op= .fieldAddr s x f){v:Value}(h:sV P σ s x f=some (v,σ')):fF P o σ v σ':=by
 intro ρ0 h0 w0 ρ a w I F;unfold sV at h;split at h
 .rename_i ad off t n hx hoff;simp only[av,bM]at h;obtain⟨rfl,rfl⟩:=h;obtain⟨pl,hk,hv⟩:=(dD I F hx).ptr;obtain⟨fs,fd,q1,q2,rfl,rfl,q5,q6⟩:=PZ hoff;refine⟨.value (.pointer (some ((⟨pl.B,pl.o+ad.off,none⟩:Addr).add fd.offset))),_,w,ρ,?_,rfl,I,F,VT.nK hk _,λ_ _=>⟨rfl,λ_=>rfl⟩⟩;simp[execOp,ho,Instr.fieldAt,run_underlying q1,q2,hv,Instr.sureAddr,fieldPlace,run_sizeOf q5,q6]
 .simp at h
def aog{l l':List Value}(h:∀(i:Nat)(v:Value),l[i]? =some v->∃v',l'[i]? =some v'/\VR ρ v v')(off n:Nat):
  ∀(i:Nat)(v:Value),((l.drop off).take n)[i]? =some v->∃v',((l'.drop off).take n)[i]? =some v'/\VR ρ v v':=by
 intro i v hi;rw[List.getElem?_take]at hi;split at hi
 .rename_i hin;rw[List.getElem?_drop]at hi;obtain⟨v',q1,q2⟩:=h _ _ hi;exact⟨v',by rw[List.getElem?_take,if_pos hin,List.getElem?_drop];exact q1,q2⟩
 .simp at hi
def yN(P:Program)(t:TypeId)(n:Nat)(cs:List Value)(off:Nat):Option Value:=
 match ei P t with
 |some true=>some (.agg ⟨(cs.drop off).take n⟩)
 |some false=>cs[off]?
 |none=>none
def aiP{t:TypeId}{n off:Nat}{cs ds:List Value}{v:Value}(hn:dj P t=some n)(h:yN P t n cs off=some v)(hl:cs.length=ds.length)
  (hc:∀(i:Nat)(v:Value),cs[i]? =some v->∃v',ds[i]? =some v'/\VR ρ v v') (w:World):
  ∃v',(part t ⟨ds⟩ off).run P w= .ok v' w/\VR ρ v v':=by
 unfold yN at h;split at h
 .rename_i ha;obtain rfl:=bU h;refine⟨.agg ⟨(ds.drop off).take n⟩,?_,Cx (by simp[hl]) (aog hc off n)⟩;simp only[part,Sem.run_bind,u9 ha,Result.andThen_ok,if_true,run_sizeOf hn,Sem.run_pure];congr 2;simp[List.extract_toArray]
 .rename_i ha;obtain⟨v',q1,q2⟩:=hc _ _ h;refine⟨v',?_,q2⟩;simp[part,u9 ha,q1]
 .simp at h
def sU(P:Program)(σ:St)(s:TypeId)(x:Operand)(f:Nat):Option (Value×St):=
 match aN σ x,cg P s f with
 |some (.agg cs),some (off,t,n)=>match yN P t n cs.toList off with
  |some v=>some (v,σ)
  |none=>none
 |_,_=>none
def aik{σ σ':St}{o:Oper}{s:TypeId}{x:Operand}{f:Nat}(ho:o.op= .field s x f){v:Value}(h:sU P σ s x f=some (v,σ')):fF P o σ v σ':=by
 intro ρ0 h0 w0 ρ a w I F;unfold sU at h;split at h
 .rename_i cs off t n hx hoff;split at h
  .rename_i u hu;simp only[av,bM]at h;obtain⟨rfl,rfl⟩:=h;obtain⟨fs,fd,q1,q2,rfl,rfl,q5,q6⟩:=PZ hoff;have hv:=(dD I F hx).cn rfl;generalize hx':a.eval x=x' at hv;cases hv with
   |agg cs ds hl hz=>
    obtain⟨v',e1,e2⟩:=aiP q5 hu hl ((pL hl).1 hz) w;refine⟨.value v',_,w,ρ,?_,rfl,I,F,.val _ _ e2,λ_ _=>⟨rfl,λ_=>rfl⟩⟩;simp[execOp,ho,Instr.field,run_underlying q1,q2,hx',asAgg,e1]
  .simp at h
 .simp at h
def gu(P:Program)(t:TypeId):Option (TypeId×Nat):=match P.underlying t with
 |some (.slice e)=>match dj P e with
  |some n=>some (e,n)
  |none=>none
 |_=>none
def sy{t e n:Nat}(h:gu P t=some (e,n)):P.underlying t=some (.slice e)/\dj P e=some n:=by
 unfold gu at h;split at h
 .rename_i e' hu;split at h
  .rename_i n' hn;simp only[av,bM]at h;obtain⟨rfl,rfl⟩:=h;exact⟨hu,hn⟩
  .simp at h
 .simp at h
def VR.nS{ad:Addr}{len c:Nat}{v':Value}(h:VR ρ (.slice (some ad) len c) v'):
  (∃a',len=0/\v'= .slice (some a') 0 0)∨
  ∃b off pl cap,ad=⟨b,off,none⟩/\ρ (false,b)=some pl/\len<=cap/\off+cap*pl.sz<=pl.n/\v'= .slice (some ⟨pl.B,pl.o+off,none⟩) len cap:=by
 cases h with
 |pH a a' c=>exact .inl ⟨a',rfl,rfl⟩
 |sl b off len c pl cap h hc hn=>exact .inr ⟨b,off,pl,cap,rfl,h,hc,hn,rfl⟩
def xr(P:Program)(t:TypeId):Option (Nat×Nat):=match P.underlying t with
 |some (.array len e)=>match dj P e with
  |some s=>some (len,s)
  |none=>none
 |_=>none
def VZ{t len s:Nat}(h:xr P t=some (len,s)):∃e,P.underlying t=some (.array len e)/\dj P e=some s:=by
 unfold xr at h;split at h
 .rename_i l e hu;split at h
  .rename_i s' hs;simp only[av,bM]at h;obtain⟨rfl,rfl⟩:=h;exact⟨e,hu,hs⟩
  .cases h
 .cases h
def sW(P:Program)(σ:St)(t:TypeId)(x i:Operand):Option (Value×St):=
 match aN σ x,aN σ i with
 |some (.slice (some ad) len _),some (.int _ n)=>
  match gu P t with
  |some (_,s)=>if 0<=n/\n<len then some (.pointer (some (nK ad (n.toNat*s))),σ)else none
  |none=>none
 |some (.pointer (some ad)),some (.int _ n)=>
  match xr P t with
  |some (len,s)=>if 0<=n/\n<len then some (.pointer (some (nK ad (n.toNat*s))),σ)else none
  |none=>none
 |_,_=>none
def ail{σ σ':St}{o:Oper}{t:TypeId}{x i:Operand}(ho:o.op= .indexAddr t x i){v:Value}(h:sW P σ t x i=some (v,σ')):fF P o σ v σ':=by
 intro ρ0 h0 w0 ρ a w I F;unfold sW at h;split at h
 .rename_i ad len c k n hx hi;split at h
  .rename_i e s he;split at h
   .rename_i hin;simp only[av,bM]at h;obtain⟨rfl,rfl⟩:=h;obtain⟨q1,q2⟩:=sy he;have hv:=(dD I F hx).cn rfl;have hiv:=(dD I F hi).cB rfl;rcases hv.nS with⟨a',hl,_⟩|⟨b,off,pl,cap,rfl,hk,hc,hn,hv'⟩
    .omega
    .refine⟨.value (.pointer (some ((⟨pl.B,pl.o+off,none⟩:Addr).add (n.toNat*s)))),_,w,ρ,?_,rfl,I,F,VT.nK (ad:=⟨b,off,none⟩) hk _,λ_ _=>⟨rfl,λ_=>rfl⟩⟩;simp[execOp,ho,Instr.indexAt,hiv,asIntOf,run_underlying q1,hv',hin,run_sizeOf q2]
   .simp at h
  .simp at h
 .rename_i ad k n hx hi;split at h
  .rename_i len s he;split at h
   .rename_i hin;simp only[av,bM]at h;obtain⟨rfl,rfl⟩:=h;obtain⟨e,q1,q2⟩:=VZ he;have hiv:=(dD I F hi).cB rfl;obtain⟨pl,hk,hv⟩:=(dD I F hx).ptr;refine⟨.value (.pointer (some ((⟨pl.B,pl.o+ad.off,none⟩:Addr).add (n.toNat*s)))),_,w,ρ,?_,rfl,I,F,VT.nK hk _,λ_ _=>⟨rfl,λ_=>rfl⟩⟩;simp[execOp,ho,Instr.indexAt,hiv,asIntOf,run_underlying q1,hv,Instr.sureAddr,hin,run_sizeOf q2]
   .simp at h
  .simp at h
 .simp at h
def sT(σ:St)(x:Operand)(k:Nat):Option (Value×St):=
 match aN σ x with
 |some (.tuple vs)=>match vs.toList[k]? with
  |some v=>some (v,σ)
  |none=>none
 |_=>none
def aii{σ σ':St}{o:Oper}{x:Operand}{k:Nat}(ho:o.op= .extract x k){v:Value}(h:sT σ x k=some (v,σ')):fF P o σ v σ':=by
 intro ρ0 h0 w0 ρ a w I F;unfold sT at h;split at h
 .rename_i vs hx;split at h
  .rename_i u hu;simp only[av,bM]at h;obtain⟨rfl,rfl⟩:=h;have hv:=(dD I F hx).cn rfl;generalize hx':a.eval x=x' at hv;cases hv with
   |tuple cs ds hl hz=>
    obtain⟨v',e1,e2⟩:=(pL hl).1 hz _ _ hu;refine⟨.value v',_,w,ρ,?_,rfl,I,F,.val _ _ e2,λ_ _=>⟨rfl,λ_=>rfl⟩⟩;simp[execOp,ho,hx',Instr.extract,e1]
  .simp at h
 .simp at h
def qg(P:Program)(σ:St)(t:TypeId)(x:Operand):Option (Value×St):=
 match P.underlying t with
 |some (.interface _)=>none
 |some _=>match aN σ x with
  |some v=>if cn v then some (.iface t v,σ)else none
  |none=>none
 |none=>none
def aiq{σ σ':St}{o:Oper}{t:TypeId}{x:Operand}(ho:o.op= .makeInterface t x){v:Value}(h:qg P σ t x=some (v,σ')):fF P o σ v σ':=by
 intro ρ0 h0 w0 ρ a w I F;unfold qg at h;split at h
 .simp at h
 .rename_i d hni hd;split at h
  .rename_i u hx;split at h
   .rename_i hnl;simp only[av,bM]at h;obtain⟨rfl,rfl⟩:=h;refine⟨.value (.iface t (a.eval x)),_,w,ρ,?_,rfl,I,F,.val _ _ (.iface _ _ _ ((dD I F hx).cn hnl)),λ_ _=>⟨rfl,λ_=>rfl⟩⟩;simp only[execOp,ho,Instr.makeInterface,Sem.run_bind,run_underlying hd,Result.andThen_ok];cases d<;>first|rfl|(exact absurd rfl (hni _))
   .simp at h
  .simp at h
 .simp at h
def A7{σ:St}(I:Inv P ρ0 h0 w0 ρ σ.m w){a:Act}(F:fu ρ σ.t a.tmps):∀{l:List Operand}{vs:List Value},l.mapM (aN σ)=some vs->vs.all cn=true->
  vs.length=(l.map a.eval).length/\∀(i:Nat)(v:Value),vs[i]? =some v->∃v',(l.map a.eval)[i]? =some v'/\VR ρ v v':=by
 intro l;induction l with
 |nil=>intro vs h _;simp at h;subst h;simp
 |cons x r ih=>
  intro vs h hn;rw[List.mapM_cons]at h;cases hx:aN σ x with
  |none=>simp[hx]at h
  |some v=>
   cases hr:r.mapM (aN σ)with
   |none=>simp[hx,hr]at h
   |some us=>
    simp[hx,hr]at h;subst h;simp only[List.all_cons,bQ]at hn;obtain⟨q1,q2⟩:=ih hr hn.2;refine⟨by simpa using q1,λi u hi=>?_⟩;cases i with
    |zero=>simp at hi;subst hi;exact⟨_,rfl,(dD I F hx).cn hn.1⟩
    |succ i=>exact q2 i u (by simpa using hi)
def sZ(σ:St)(fn:Fn)(first cap:Array Operand):Option (Value×St):=
 match first.toList.mapM (aN σ),cap.toList.mapM (aN σ)with
 |some aS,some cs=>if aS.all cn&&cs.all cn then some (.func fn ⟨aS⟩ ⟨cs⟩,σ)else none
 |_,_=>none
def aip{σ σ':St}{o:Oper}{fn:Fn}{first cap:Array Operand}(ho:o.op= .makeFunc fn first cap){v:Value}(h:sZ σ fn first cap=some (v,σ')):fF P o σ v σ':=by
 intro ρ0 h0 w0 ρ a w I F;unfold sZ at h;split at h
 .rename_i aS cs ha hc;split at h
  .rename_i hnl;rw[bQ]at hnl;simp only[av,bM]at h;obtain⟨rfl,rfl⟩:=h;obtain⟨p1,p2⟩:=A7 I F ha hnl.1;obtain⟨q1,q2⟩:=A7 I F hc hnl.2;refine⟨.value (.func fn ⟨first.toList.map a.eval⟩ ⟨cap.toList.map a.eval⟩),_,w,ρ,?_,rfl,I,F,
    .val _ _ (.func _ _ _ _ _ p1 q1 ((pL p1).2 p2) ((pL q1).2 q2)),λ_ _=>⟨rfl,λ_=>rfl⟩⟩
   have e1:first.map a.eval=⟨first.toList.map a.eval⟩:=(by apply Array.ext';simp);have e2:cap.map a.eval=⟨cap.toList.map a.eval⟩:=(by apply Array.ext';simp);simp[execOp,ho,Instr.makeFunc,e1,e2]
  .simp at h
 .simp at h
def Cq(P:Program)(m:Mem)(b:Nat):Option Nat:=match m.row? (false,b)with
 |some (_,e,_)=>some (P.cellsOf e)
 |none=>none
def iW(σ:St)(x:Option Operand)(dflt:Nat):Option Nat:=match x with
 |none=>some dflt
 |some i=>match aN σ i with
  |some (.int _ n)=>if 0<=n then some n.toNat else none
  |_=>none
def rE(P:Program)(σ:St)(t:TypeId)(x:Operand)(lo hi:Option Operand):Option (Value×St):=
 match aN σ x with
 |some (.slice (some ad) len _)=>
  match gu P t,iW σ lo 0,iW σ hi len,Cq P σ.m ad.block with
  |some (_,s),some l,some h,some s'=>if l<=h/\h<=len/\s=s' then some (.slice (some (nK ad (l*s))) (h-l) (h-l),σ)else none
  |_,_,_,_=>none
 |some (.slice none 0 0)=>
  match gu P t,iW σ lo 0,iW σ hi 0 with
  |some _,some 0,some 0=>some (.slice none 0 0,σ)
  |_,_,_=>none
 |_=>none
def run_sliceBound{σ:St}(I:Inv P ρ0 h0 w0 ρ σ.m w){a:Act}(F:fu ρ σ.t a.tmps){i:Operand}{dflt n:Nat}(h:iW σ (some i) dflt=some n)(y:Nat)(c:BoundsCode)(hy:n<=y):
  (Instr.sliceBound (a.eval i) y c).run P w= .ok n w:=by
 unfold iW at h;split at h
 .cases ‹some i=none›
 .rename_i j hj;obtain rfl:=bU hj;split at h
  .rename_i k z hz;split at h
   .rename_i h0z;obtain rfl:=bU h;have:=(dD I F hz).cB rfl;have hzy:z<=(y:Int):=(by omega);simp[Instr.sliceBound,this,asIntOf,h0z,hzy]
   .simp at h
  .simp at h
def aiz{σ σ':St}{o:Oper}{t:TypeId}{x:Operand}{lo hi:Option Operand}(ho:o.op= .slice t x lo hi none){v:Value}(h:rE P σ t x lo hi=some (v,σ')):fF P o σ v σ':=by
 intro ρ0 h0 w0 ρ a w I F;unfold rE at h;split at h
 .rename_i ad len c hx;split at h
  .rename_i e s l hh s' he hlo hhi hs';split at h
   .rename_i hle;obtain⟨hlh,hhl,rfl⟩:=hle;simp only[av,bM]at h;obtain⟨rfl,rfl⟩:=h;obtain⟨q1,q2⟩:=sy he;have hv:=(dD I F hx).cn rfl;have hb:∀cap,len<=cap->(Instr.sliceBounds true len cap (lo.map a.eval) (hi.map a.eval) none).run P w= .ok (l,hh,cap) w:=by
     intro cap hcap;cases hi with
     |none=>
      simp only[iW,av]at hhi;subst hhi;cases lo with
      |none=>simp only[iW,av]at hlo;subst hlo;simp[Instr.sliceBounds]
      |some i=>simp[Instr.sliceBounds,run_sliceBound I F hlo _ _ hlh]
     |some j=>
      have hj:=run_sliceBound I F hhi cap .sliceAcap (by omega);cases lo with
      |none=>simp only[iW,av]at hlo;subst hlo;simp[Instr.sliceBounds,hj]
      |some i=>simp[Instr.sliceBounds,hj,run_sliceBound I F hlo _ _ hlh]
    have hrun:∀base cap,len<=cap->a.eval x= .slice base len cap->(execOp a.eval o).run P w= .ok (.value (.slice (if cap=l then base else base.map (·.add (l*s))) (hh-l) (cap-l))) w:=by
     intro base cap hcap hxv;simp[execOp,ho,Instr.sliceAt,run_underlying q1,hxv,Instr.slice,hb cap hcap,run_sizeOf q2]
    rcases hv.nS with⟨a',rfl,hv'⟩|⟨b,off,pl,cap,rfl,hk,hc,hn,hv'⟩
    .have hl0:l=0:=(by omega);have hh0:hh=0:=(by omega);subst hl0;subst hh0;refine⟨_,_,w,ρ,hrun _ _ (aX _) hv',rfl,I,F,?_,λ_ _=>⟨rfl,λ_=>rfl⟩⟩;simp only[if_true];exact .val _ _ (.pH _ _ _)
    .refine⟨_,_,w,ρ,hrun _ _ hc hv',rfl,I,F,?_,λ_ _=>⟨rfl,λ_=>rfl⟩⟩;by_cases hcl:cap=l
     .subst hcl;have:hh=cap:=(by omega);subst this;simp only[oS];exact .val _ _ (.pH _ _ _)
     .simp only[hcl,if_false,fV,Addr.add_lit];have hpl:pl.sz=s:=by
       unfold Cq at hs';split at hs'
       .rename_i wr e1 cs hr;obtain⟨C,e',fz,c1,c2,c3,c4,c5,c6⟩:=I.rel.row _ _ _ _ _ hk hr;simp only[av]at hs';rw[c5,hs']
       .simp at hs'
      have:=VR.sl (ρ:=ρ) b (off+l*s) (hh-l) (hh-l) pl (cap-l) hk (by omega) (by
       rw[hpl]at hn ⊢;have h1:l*s+(cap-l)*s=cap*s:=(by rw[<-Nat.add_mul];congr 1;omega);omega)
      rw[<-Nat.add_assoc]at this;exact .val _ _ this
   .simp at h
  .simp at h
 .rename_i hx;split at h
  .rename_i es he hlo hhi;obtain⟨e,s⟩:=es;simp only[av,bM]at h;obtain⟨rfl,rfl⟩:=h;obtain⟨q1,q2⟩:=sy he;have hv:=(dD I F hx).cn rfl;have hxv:a.eval x= .slice none 0 0:=by
    generalize a.eval x=y at hv;cases hv;rfl
   have hb:(Instr.sliceBounds true 0 0 (lo.map a.eval) (hi.map a.eval) none).run P w= .ok (0,0,0) w:=by
    cases hi with
    |none=>
     cases lo with
     |none=>simp[Instr.sliceBounds]
     |some i=>simp[Instr.sliceBounds,run_sliceBound I F hlo _ _ (aX 0)]
    |some j=>
     have hj:=run_sliceBound I F hhi 0 .sliceAcap (aX 0);cases lo with
     |none=>simp[Instr.sliceBounds,hj]
     |some i=>simp[Instr.sliceBounds,hj,run_sliceBound I F hlo _ _ (aX 0)]
   refine⟨.value (.slice none 0 0),.slice none 0 0,w,ρ,?_,rfl,I,F,.val _ _ .tE,λ_ _=>⟨rfl,λ_=>rfl⟩⟩;simp[execOp,ho,Instr.sliceAt,run_underlying q1,hxv,Instr.slice,hb,run_sizeOf q2]
  .simp at h
 .simp at h
def sX(P:Program)(σ:St)(t:TypeId)(x:Operand):Option (Value×St):=
 match P.underlying t,aN σ x with
 |some .string,some (.string s)=>some (.int .i64 s.size,σ)
 |some (.slice _),some (.slice _ n _)=>some (.int .i64 n,σ)
 |_,_=>none
def aim{σ σ':St}{o:Oper}{t:TypeId}{x:Operand}(ho:o.op= .call {callee:=.builtin .len,args:=#[x],argTypes:=#[t]}){v:Value}(h:sX P σ t x=some (v,σ')):fF P o σ v σ':=by
 intro ρ0 h0 w0 ρ a w I F;unfold sX at h;split at h
 .rename_i s ht hx;simp only[av,bM]at h;obtain⟨rfl,rfl⟩:=h;have hv:=(dD I F hx).cB rfl;refine⟨.value (.int .i64 s.size),_,w,ρ,?_,rfl,I,F,.gG rfl,λ_ _=>⟨rfl,λ_=>rfl⟩⟩;simp[execOp,ho,resolve,invoke,builtin,Builtin.len_,run_underlying ht,hv,goInt]
 .rename_i e a0 n c ht hx;simp only[av,bM]at h;obtain⟨rfl,rfl⟩:=h;have hv:=(dD I F hx).cn rfl;refine⟨.value (.int .i64 n),_,w,ρ,?_,rfl,I,F,.gG rfl,λ_ _=>⟨rfl,λ_=>rfl⟩⟩;generalize hx':a.eval x=x' at hv;cases hv<;>simp[execOp,ho,resolve,invoke,builtin,Builtin.len_,run_underlying ht,goInt,hx']
 .simp at h
def pn(d:TypeDesc)(u v:Value):Option Bool:=match d,u,v with
 | .slice _,.slice a _ _,.slice none 0 0=>some a.isNone
 | .pointer _,.pointer (some _),.pointer none=>some false
 | .map _ _,.map (some _),.map none=>some false
 | .interface _,.iface _ _,.nilIface=>some false
 | .func _ _ _,.func _ _ _,.nilFunc=>some false
 |_,_,_=>none
def mG(P:Program)(σ:St)(op:BinOp)(t:TypeId)(x y:Operand):Option (Value×St):=match P.underlying t,aN σ x,aN σ y with
 |some d,some u,some v=>match pn d u v with
  |some b=>match op with
   | .eql=>some (.bool b,σ)
   | .neq=>some (.bool (!b),σ)
   |_=>none
  |none=>none
 |_,_,_=>none
def acF{d:TypeDesc}{u v u' v':Value}{b:Bool}{t:TypeId}(h:pn d u v=some b)(ht:P.underlying t=some d)(hu:VT ρ u u')(hv:VT ρ v v')(w:World):
  (∀op x y,(eqGuard op t x y u' v').run P w= .ok () w)/\(binOp .eql t u' v').run P w= .ok (.bool b) w/\(binOp .neq t u' v').run P w= .ok (.bool (!b)) w:=by
 have key:∀n,(Op.equalIn (n+1) t u' v').run P w= .ok b w:=by
  intro n;unfold pn at h;split at h
  .simp only[av]at h;subst h;have hu:=hu.cn rfl;have hv:=hv.cB rfl;subst hv;cases hu<;>simp[Op.equalIn,run_underlying ht]
  .simp only[av]at h;subst h;have hv:=hv.cB rfl;subst hv;cases hu with
   |val _ _ hu=>cases hu<;>simp[Op.equalIn,run_underlying ht]
   |loc _ _ _ _ _=>simp[Op.equalIn,run_underlying ht]
  .simp only[av]at h;subst h;have hu:=hu.cn rfl;have hv:=hv.cB rfl;subst hv;cases hu<;>simp[Op.equalIn,run_underlying ht]
  .simp only[av]at h;subst h;have hu:=hu.cn rfl;have hv:=hv.cB rfl;subst hv;cases hu<;>simp[Op.equalIn,run_underlying ht]
  .simp only[av]at h;subst h;have hu:=hu.cn rfl;have hv:=hv.cB rfl;subst hv;cases hu<;>simp[Op.equalIn,run_underlying ht]
  .simp at h
 have he:(Op.equal t u' v').run P w= .ok b w:=key 9999;have k2:binOp .eql t u' v'=(do pure (.bool (<-Op.equal t u' v')))/\binOp .neq t u' v'=(do pure (.bool (!(<-Op.equal t u' v'))))/\∀op x y,eqGuard op t x y u' v'=pure ():=by
  clear key he;unfold pn at h;split at h
  .have hu:=hu.cn rfl;have hv:=hv.cB rfl;subst hv;cases hu<;>exact⟨rfl,rfl,λop x y=>by unfold eqGuard;split<;>rfl⟩
  .have hv:=hv.cB rfl;subst hv;cases hu with
   |val _ _ hu=>cases hu<;>exact⟨rfl,rfl,λop x y=>by unfold eqGuard;split<;>rfl⟩
   |loc _ _ _ _ _=>exact⟨rfl,rfl,λop x y=>by unfold eqGuard;split<;>rfl⟩
  .have hu:=hu.cn rfl;have hv:=hv.cB rfl;subst hv;cases hu<;>exact⟨rfl,rfl,λop x y=>by unfold eqGuard;split<;>rfl⟩
  .have hu:=hu.cn rfl;have hv:=hv.cB rfl;subst hv;cases hu<;>exact⟨rfl,rfl,λop x y=>by unfold eqGuard;split<;>rfl⟩
  .have hu:=hu.cn rfl;have hv:=hv.cB rfl;subst hv;cases hu<;>exact⟨rfl,rfl,λop x y=>by unfold eqGuard;split<;>rfl⟩
  .simp at h
 obtain⟨e1,e2,e3⟩:=k2;refine⟨λop x y=>by rw[e3];rfl,?_,?_⟩
 .rw[e1];simp[he]
 .rw[e2];simp[he]
def aiu{σ σ':St}{o:Oper}{op:BinOp}{t yt:TypeId}{x y:Operand}(ho:o.op= .binOp op t x y yt){v:Value}(h:mG P σ op t x y=some (v,σ')):fF P o σ v σ':=by
 intro ρ0 h0 w0 ρ a w I F;unfold mG at h;split at h
 .rename_i d u z hd hx hy;split at h
  .rename_i b hb;obtain⟨q2,q3,q4⟩:=acF hb hd (dD I F hx) (dD I F hy) w;split at h
   .simp only[av,bM]at h;obtain⟨rfl,rfl⟩:=h;refine⟨.value (.bool b),_,w,ρ,?_,rfl,I,F,.gG rfl,λ_ _=>⟨rfl,λ_=>rfl⟩⟩;simp[execOp,ho,q2,q3]
   .simp only[av,bM]at h;obtain⟨rfl,rfl⟩:=h;refine⟨.value (.bool (!b)),_,w,ρ,?_,rfl,I,F,.gG rfl,λ_ _=>⟨rfl,λ_=>rfl⟩⟩;simp[execOp,ho,q2,q4]
   .simp at h
  .simp at h
 .simp at h
def s5(σ:St)(x:Operand):Option (Value×St):=
 match aN σ x with
 |some (.pointer (some ad))=>some (.pointer (some ad),σ)
 |some (.func (.func f) aS cs)=>some (.func (.func f) aS cs,σ)
 |_=>none
def aiv{σ σ':St}{o:Oper}{x:Operand}(ho:o.op= .nilCheck x){v:Value}(h:s5 σ x=some (v,σ')):fF P o σ v σ':=by
 intro ρ0 h0 w0 ρ a w I F;unfold s5 at h;split at h
 .rename_i ad hx;simp only[av,bM]at h;obtain⟨rfl,rfl⟩:=h;have hv:=dD I F hx;obtain⟨pl,hk,hv'⟩:=hv.ptr;refine⟨.value (a.eval x),_,w,ρ,?_,rfl,I,F,hv,λ_ _=>⟨rfl,λ_=>rfl⟩⟩;simp[execOp,ho,hv']
 .rename_i f aS cs hx;simp only[av,bM]at h;obtain⟨rfl,rfl⟩:=h;have hv:=dD I F hx;refine⟨.value (a.eval x),_,w,ρ,?_,rfl,I,F,hv,λ_ _=>⟨rfl,λ_=>rfl⟩⟩;have hv2:=hv.cn rfl;generalize hx':a.eval x=x' at hv2;cases hv2;simp[execOp,ho,hx']
 .simp at h
end
section
variable {P:Program} {ρ0 ρ ρ':aH} {h0:aa} {w0 w:World} {m:Mem}
def dS(P:Program)(σ:St)(u:TypeId)(sz:Nat)(x:Operand):Option (List Value×Nat):=
 match P.underlying u with
 |some (.slice _)=>match aN σ x with
  |some (.slice none 0 0)=>some ([],0)
  |some (.slice (some ad) n _)=>if n=0 then some ([],0)else match σ.m.cells ad (n*sz)with
   |some l=>some (l,n)
   |none=>none
  |_=>none
 |some .string=>match aN σ x with
  |some (.string s)=>if sz=1 then some (s.data.toList.map λb=>.int .u8 b.toNat,s.size)else none
  |_=>none
 |_=>none
def Zw(s:ByteArray)(sz:Nat):(Builtin.firstCells sz s.size (.string s)).run P w= .ok ⟨s.data.toList.map λb=>Value.int .u8 b.toNat⟩ w:=by
 simp only[Builtin.firstCells,Sem.run_pure];congr 1;have hx:s.extract 0 s.size=s:=by simp
 rw[hx];apply Array.ext';simp
def alh{σ:St}(I:Inv P ρ0 h0 w0 ρ σ.m w){a:Act}(F:fu ρ σ.t a.tmps){u:TypeId}{sz:Nat}{x:Operand}{l:List Value}{n:Nat}(h:dS P σ u sz x=some (l,n))(hsz:0<sz):
  l.length=n*sz/\∃l':List Value,l'.length=n*sz/\(∀(i:Nat)(v:Value),l[i]? =some v->∃v',l'[i]? =some v'/\VR ρ v v')/\
   (∃d,P.underlying u=some d/\((∃e2,d= .slice e2)∨d= .string))/\(∀w1:World,(Builtin.lenOf (a.eval x)).run P w1= .ok n w1)/\
   ∀w1:World,w1.heap=w.heap->(Builtin.firstCells sz n (a.eval x)).run P w1= .ok ⟨l'⟩ w1:=by
 unfold dS at h;split at h
 .rename_i e hu;split at h
  .rename_i hx;simp only[av,bM]at h;obtain⟨rfl,rfl⟩:=h;have hv:=(dD I F hx).cB rfl;refine⟨by simp,[],by simp,by simp,⟨_,hu,.inl ⟨_,rfl⟩⟩,λw1=>by rw[hv];rfl,λw1 _=>by rw[hv];rfl⟩
  .rename_i ad k c hx;have hv:=(dD I F hx).cn rfl;split at h
   .rename_i hk0;simp only[av,bM]at h;obtain⟨rfl,rfl⟩:=h;subst hk0;have:∃a' c',a.eval x= .slice (some a') 0 c':=by
     rcases hv.nS with⟨a',_,hv'⟩|⟨b,off,pl,cap,_,hk,hc,hn,hv'⟩
     .exact⟨a',0,hv'⟩
     .exact⟨_,cap,hv'⟩
    obtain⟨a',c',hv'⟩:=this;refine⟨by simp,[],by simp,by simp,⟨_,hu,.inl ⟨_,rfl⟩⟩,λw1=>by rw[hv'];rfl,λw1 _=>by rw[hv'];simp[Builtin.firstCells,loadCells,loadCellsFrom]⟩
   .rename_i hk0;split at h
    .rename_i l1 hl;simp only[av,bM]at h;obtain⟨rfl,rfl⟩:=h;rcases hv.nS with⟨a',hl0,_⟩|⟨b,off,pl,cap,rfl,hk,hc,hn,hv'⟩
     .exact absurd hl0 hk0
     .obtain⟨q1,l',q2,q3,q4⟩:=sr I (ad:=⟨b,off,none⟩) hk hl;refine⟨q1,l',q2,q3,⟨_,hu,.inl ⟨_,rfl⟩⟩,λw1=>by rw[hv'];rfl,λw1 hw1=>?_⟩;rw[hv'];exact run_firstCells_some (P:=P) w1 sz k ⟨pl.B,pl.o+off,none⟩ k cap l' q2 (λj v hj=>by
       have:=q4 j v hj;simp only[World.cell?]at this ⊢;rw[hw1];exact this)
    .simp at h
  .simp at h
 .rename_i hu;split at h
  .rename_i s hx;split at h
   .rename_i h1;simp only[av,bM]at h;obtain⟨rfl,rfl⟩:=h;subst h1;have hv:=(dD I F hx).cB rfl;have hf:∀v∈s.data.toList.map (λb:UInt8=>Value.int .u8 b.toNat),dz v=true:=(by simp[dz]);refine⟨by rw[cf,Nat.mul_one];rfl,s.data.toList.map (λb=>Value.int .u8 b.toNat),by rw[cf,Nat.mul_one];rfl,λi v hi=>⟨v,hi,.sN (hf v (dE hi))⟩,⟨_,hu,.inr rfl⟩,
     λw1=>by rw[hv];rfl,λw1 _=>by rw[hv];exact Zw s 1⟩
   .simp at h
  .simp at h
 .simp at h
def dH:Nat:=140737488355328
def jB(P:Program)(t:TypeId):Option Nat:=(P.info? t).map (·.bytes)
def dC(P:Program)(σ:St)(t u:TypeId)(s x:Operand):Option (Value×St):=
 match gu P t with
 |some (e,sz)=>match eg P e,jB P e,dS P σ u sz x with
  |some zl,some by_,some (l,n)=>
   if l.all cL&&decide (0<sz)&&decide (0<by_)&&zl.length==sz then
    match aN σ s with
    |some (.slice none 0 0)=>if n=0 then some (.slice none 0 0,σ)else
      if n*by_<=dH then some (.slice (some ⟨σ.m.h.n,0,none⟩) n n,⟨σ.t,⟨σ.m.x,σ.m.h.new (.row true e l)⟩⟩)else none
    |some (.slice (some ⟨b,off,none⟩) len _)=>match σ.m.h.f b with
     | .row true e' cs=>if P.cellsOf e'=sz/\off+len*sz<=cs.length/\(len+n)*by_<=dH then
       some (.slice (some ⟨σ.m.h.n,0,none⟩) (len+n) (len+n),⟨σ.t,⟨σ.m.x,(σ.m.h.set b .dead).new (.row true e' ((cs.drop off).take (len*sz)++l))⟩⟩)else none
     |_=>none
    |_=>none
   else none
  |_,_,_=>none
 |none=>none
def ah1{l l':List Value}(hl:l.length=l'.length)(h:∀(i:Nat)(v:Value),l[i]? =some v->∃v',l'[i]? =some v'/\VR ρ v v')(h1:l.all cL=true):∀z∈l',z.oneCell'=true:=by
 intro z hz;rw[List.mem_iff_getElem]at hz;obtain⟨i,hi,rfl⟩:=hz;have hi':i<l.length:=by omega
 obtain⟨v',q1,q2⟩:=h i _ (aq hi');rw[aq hi]at q1;obtain rfl:=bU q1;exact q2.one (cz.mp h1 _ (fG hi'))
def Rf(t u ty e:TypeId)(i:TypeInfo)(z:Value)(ht:P.underlying t=some (.slice e))(hi:P.info? e=some i)(hz:i.zero=some z)
  {d:TypeDesc} (hu:P.underlying u=some d) (hd:(∃e2,d= .slice e2)∨d= .string) (X:Value) (n:Nat) (news:List Value) (hlen:∀w1:World,(Builtin.lenOf X).run P w1= .ok n w1)
  (hnew:(Builtin.firstCells i.size n X).run P w.drew= .ok ⟨news⟩ w.drew)
  (base:Option Addr) (sLen sCap:Nat) (olds:List Value) (hold:(Builtin.firstCells i.size sLen (.slice base sLen sCap)).run P w.drew= .ok ⟨olds⟩ w.drew)
  (hg:sCap<sLen+n) (h63:((sLen+n:Nat):Int)<=9223372036854775807) (hfit:Builtin.nextslicecap (sLen+n) sCap*i.bytes<=281474976710656):
  (Builtin.append_ #[t,u] ty #[.slice base sLen sCap,X]).run P w=
   .ok (.slice (some ⟨w.heap.size,0,none⟩) (sLen+n) (grownCap w (sLen+n) sCap e))
    (w.drew.alloc (.cells ((⟨olds⟩:Array Value)++⟨news⟩++Builtin.zeroCells z.cells (grownCap w (sLen+n) sCap e-(sLen+n))) e)):=by
 have hn:¬(sLen+n<=sCap):=by omega
 have h63':¬(9223372036854775807<((sLen:Int)+(n:Int))):=by omega
 have h48':¬(281474976710656<Builtin.nextslicecap (sLen+n) sCap*i.bytes):=by omega
 have hfin:∀k:Nat,((⟨olds⟩:Array Value)++(⟨news⟩++Builtin.zeroCells z.cells k))=(olds++news).toArray++Builtin.zeroCells z.cells k:=λk=>by
  apply Array.ext';simp[eG]
 rcases hd with⟨e2,rfl⟩|rfl<;>simp[Builtin.append_,run_underlying ht,run_underlying hu,sizeOf,typeInfo,zeroValue,hi,hz,hlen,hn,h63',h48',Question.forced,hnew,hold,newRow,grownCap,hfin]
def ako(t u ty e:TypeId)(i:TypeInfo)(ht:P.underlying t=some (.slice e))(hi:P.info? e=some i)
  {d:TypeDesc} (hu:P.underlying u=some d) (hd:(∃e2,d= .slice e2)∨d= .string) (X:Value) (n:Nat) (news:List Value) (hlen:∀w1:World,(Builtin.lenOf X).run P w1= .ok n w1)
  (hnew:(Builtin.firstCells i.size n X).run P w= .ok ⟨news⟩ w) (h1:∀v∈news,v.oneCell'=true)
  (g off sLen sCap:Nat) (e':TypeId) (cur:Array Value) (hg:w.heap[g]? =some (.cells cur e' (0,0))) (hroom:sLen+n<=sCap) (hfit:off+sLen*i.size+news.length<=cur.size):
  (Builtin.append_ #[t,u] ty #[.slice (some ⟨g,off,none⟩) sLen sCap,X]).run P w=
   .ok (.slice (some ⟨g,off,none⟩) (sLen+n) sCap) (w.setRow g (cur.toList.take (off+sLen*i.size)++news++cur.toList.drop (off+sLen*i.size+news.length)).toArray):=by
 have hst:=run_storeCells_at P g (off+sLen*i.size) e' news 0 cur w hg (by simpa using hfit) h1;simp only[ie]at hst;rcases hd with⟨e2,rfl⟩|rfl<;>simp[Builtin.append_,run_underlying ht,run_underlying hu,sizeOf,typeInfo,hi,hlen,hroom,hnew,Addr.add_lit,hst]
def Rg(t u ty e:TypeId)(i:TypeInfo)(ht:P.underlying t=some (.slice e))(hi:P.info? e=some i)
  {d:TypeDesc} (hu:P.underlying u=some d) (hd:(∃e2,d= .slice e2)∨d= .string) (X:Value) (news:List Value) (hlen:∀w1:World,(Builtin.lenOf X).run P w1= .ok 0 w1)
  (hnew:(Builtin.firstCells i.size 0 X).run P w= .ok ⟨news⟩ w) (hl:news=[]) (base:Option Addr):
  (Builtin.append_ #[t,u] ty #[.slice base 0 0,X]).run P w= .ok (.slice base 0 0) w:=by
 subst hl;rcases hd with⟨e2,rfl⟩|rfl<;>cases base<;>simp[Builtin.append_,run_underlying ht,run_underlying hu,sizeOf,typeInfo,hi,hlen,hnew,storeCells]
def Cy{cs vs cs' vs':List Value}(rest:List Value)(hl:cs.length=cs'.length)(hl2:vs.length=vs'.length)
  (h1:∀(i:Nat)(v:Value),cs[i]? =some v->∃v',cs'[i]? =some v'/\VR ρ v v') (h2:∀(i:Nat)(v:Value),vs[i]? =some v->∃v',vs'[i]? =some v'/\VR ρ v v'):
  ∀(i:Nat)(v:Value),(cs++vs)[i]? =some v->∃v',(cs'++vs'++rest)[i]? =some v'/\VR ρ v v':=by
 intro i v hi;have hlt:i<(cs++vs).length:=by
  rcases Nat.lt_or_ge i (cs++vs).length with q|q
  .exact q
  .rw[iT q]at hi;cases hi
 rw[ji (by simp at hlt ⊢;omega)];by_cases hc:i<cs.length
 .rw[ji hc]at hi;rw[ji (by omega)];exact h1 i v hi
 .rw[iF (by omega)]at hi;rw[iF (by omega),<-hl];exact h2 _ v hi
def ah3{σ σ':St}{o:Oper}{t u:TypeId}{s x:Operand}(ho:o.op= .call {callee:=.builtin .append,args:=#[s,x],argTypes:=#[t,u]}){v:Value}
  (h:dC P σ t u s x=some (v,σ')):fF P o σ v σ':=by
 intro ρ0 h0 w0 ρ a w I F;unfold dC at h;split at h;rotate_left
 .simp at h
 rename_i e sz he;split at h;rotate_left
 .simp at h
 rename_i zl by_ l n hz hby hsrc;split at h;rotate_left
 .simp at h
 rename_i aJ;simp only[bQ,de,beq_iff_eq]at aJ;obtain⟨⟨⟨hone,hszp⟩,hbyp⟩,hzlen⟩:=aJ;obtain⟨ht,hsz⟩:=sy he;obtain⟨ll,l',hl',hll',⟨d,hu,hd⟩,hlen,hfirst⟩:=alh I F hsrc hszp;have hone':=ah1 (ll.trans hl'.symm) hll' hone;have hinfo:∃i,P.info? e=some i/\i.size=sz/\i.bytes=by_/\∃z,i.zero=some z/\z.cells.size=sz:=by
  unfold eg at hz;unfold dj at hsz;unfold jB at hby;cases hi:P.info? e with
  |none=>simp[hi]at hz
  |some i=>
   simp only[hi]at hz hsz hby;cases hzz:i.zero with
   |none=>simp[hzz]at hz
   |some z=>
    refine⟨i,rfl,by simpa using hsz,by simpa using hby,z,hzz,?_⟩;simp only[hzz]at hz;split at hz
    .obtain rfl:=bU hz;simpa using hzlen
    .simp at hz
 obtain⟨i,hi,rfl,rfl,z,hzz,hz1⟩:=hinfo;have hexec:∀base sLen sCap,a.eval s= .slice base sLen sCap->(execOp a.eval o).run P w=((Builtin.append_ #[t,u] o.type #[.slice base sLen sCap,a.eval x]).run P w).andThen λv w'=>.ok (.value v) w':=by
  intro base sLen sCap hs;simp[execOp,ho,resolve,invoke,builtin,hs]
 have hgrowF:∀{k pl},ρ (false,k)=some pl->∀pl',ρ.gz (false,σ.m.h.n) pl' (false,k)=some pl:=fun{k pl} q pl'=>by
  rw[aH.df];exact q;intro z;simp only[bM,true_and]at z;subst z;exact Nat.lt_irrefl _ (I.rel.dX _ _ q)
 split at h
 .rename_i hs;have hsv:=(dD I F hs).cB rfl;split at h
  .rename_i hn0;simp only[av,bM]at h;obtain⟨rfl,rfl⟩:=h;subst hn0;refine⟨.value (.slice none 0 0),_,w,ρ,?_,rfl,I,F,.gG rfl,λ_ _=>⟨rfl,λ_=>rfl⟩⟩;rw[hexec _ _ _ hsv,Rg t u o.type e i ht hi hu hd _ l' hlen (hfirst w rfl) (by simpa using hl')];rfl
  .rename_i hn0;split at h
   .rename_i hmax;unfold dH at hmax;simp only[av,bM]at h;obtain⟨rfl,rfl⟩:=h;have hnn:n<=n*i.bytes:=Nat.le_mul_of_pos_right n hbyp;have hrun:=Rf (w:=w) t u o.type e i z ht hi hzz hu hd (a.eval x) n l' hlen (hfirst w.drew rfl) none 0 0 [] (by rfl) (by omega) (by omega)
     (growslice_fits (by omega) (by simpa using hmax))
    have hc:=Cy (ρ:=ρ) (cs:=[]) (cs':=[]) (vs:=l) (vs':=l') (Builtin.zeroCells z.cells (grownCap w (0+n) 0 e-(0+n))).toList rfl (ll.trans hl'.symm) (by simp) hll';have J:=I.drew.rA (x:=.row true e l) (o:=.cells ((⟨[]⟩:Array Value)++⟨l'⟩++Builtin.zeroCells z.cells (grownCap w (0+n) 0 e-(0+n))) e) (pl:=⟨w.heap.size,0,_,P.cellsOf e⟩)
     (.row e e l _ _ (by simp[ll,hl']) (λj v hj=>by
      obtain⟨v',q1,q2⟩:=hc j v (by simpa using hj);exact⟨v',by rw[<-Array.getElem?_toList,Array.toList_append,Array.toList_append];exact q1,q2⟩)) rfl
    refine⟨_,_,_,_,by rw[hexec _ _ _ hsv,hrun];rfl,rfl,J,F.mono (λb pl q=>hgrowF q _) (λs=>aH.df _ _ (by simp)),?_,λs' _=>⟨aH.df _ _ (by simp),λ_=>rfl⟩⟩;have hsize:P.cellsOf e=i.size:=(by simp[Program.cellsOf,hi]);have:=VR.sl (ρ:=ρ.gz (false,σ.m.h.n) ⟨w.heap.size,0,((⟨[]⟩:Array Value)++⟨l'⟩++Builtin.zeroCells z.cells (grownCap w (0+n) 0 e-(0+n))).size,P.cellsOf e⟩) σ.m.h.n 0 n n
     ⟨w.heap.size,0,((⟨[]⟩:Array Value)++⟨l'⟩++Builtin.zeroCells z.cells (grownCap w (0+n) 0 e-(0+n))).size,P.cellsOf e⟩ (grownCap w (0+n) 0 e) (aH.ju _ _ _)
     (by have:=grownCap_ge w (0+n) 0 e;omega) (by
      have hg:=grownCap_ge w (0+n) 0 e;simp only[Array.size_append,size_zeroCells,hz1,hsize];simp only[List.size_toArray,qR,hl'];rw[Nat.sub_mul];have:=Nat.mul_le_mul_right i.size hg;have e1:(0+n)*i.size=n*i.size:=(by rw[iG]);omega)
    rw[iG]at this ⊢;exact VT.val _ _ this
   .simp at h
 .rename_i b off len c hs;have hsv:=(dD I F hs).cn rfl;split at h;rotate_left
  .simp at h
  rename_i e1 cs hb;split at h;rotate_left
  .simp at h
  rename_i hcond;obtain⟨hce,hin,hmax⟩:=hcond;unfold dH at hmax;simp only[av,bM]at h;obtain⟨rfl,rfl⟩:=h;have hnn:len+n<=(len+n)*i.bytes:=Nat.le_mul_of_pos_right _ hbyp;have grown:∀(base:Option Addr)(sCap:Nat)(olds:List Value),a.eval s= .slice base len sCap->sCap<len+n->olds.length=len*i.size->
    (Builtin.firstCells i.size len (.slice base len sCap)).run P w.drew= .ok ⟨olds⟩ w.drew->
    (∀(j:Nat)(v:Value),((cs.drop off).take (len*i.size))[j]? =some v->∃v',olds[j]? =some v'/\VR ρ v v')->
    ∃nx v' w' ρ',(execOp a.eval o).run P w= .ok nx w'/\tb nx=some v'/\Inv P ρ0 h0 w0 ρ' ⟨σ.m.x,(σ.m.h.set b .dead).new (.row true e1 ((cs.drop off).take (len*i.size)++l))⟩ w'/\
     fu ρ' σ.t a.tmps/\VT ρ' (.slice (some ⟨σ.m.h.n,0,none⟩) (len+n) (len+n)) v'/\
     ∀s,(∀d,o.dst=some d->d≠s)->ρ' (true,s)=ρ (true,s)/\(ρ (true,s)=none->σ.m.x s=σ.m.x s):=by
   intro base sCap olds hsv' hlt holds hfo hrel;have hrun:=Rf (w:=w) t u o.type e i z ht hi hzz hu hd (a.eval x) n l' hlen (hfirst w.drew rfl) base len sCap olds hfo hlt (by omega)
    (growslice_fits (by omega) (by omega))
   have hlo:((cs.drop off).take (len*i.size)).length=olds.length:=(by rw[holds];simp;omega);have hc:=Cy (ρ:=ρ) (Builtin.zeroCells z.cells (grownCap w (len+n) sCap e-(len+n))).toList hlo (ll.trans hl'.symm) hrel hll';have hCg:∀j:Nat,((⟨olds⟩:Array Value)++⟨l'⟩++Builtin.zeroCells z.cells (grownCap w (len+n) sCap e-(len+n)))[j]? =
     (olds++l'++(Builtin.zeroCells z.cells (grownCap w (len+n) sCap e-(len+n))).toList)[j]? :=λj=>by
    rw[<-Array.getElem?_toList,Array.toList_append,Array.toList_append]
   have hCs:((⟨olds⟩:Array Value)++⟨l'⟩++Builtin.zeroCells z.cells (grownCap w (len+n) sCap e-(len+n))).size=len*i.size+n*i.size+(grownCap w (len+n) sCap e-(len+n))*i.size:=by
    rw[Array.size_append,Array.size_append,size_zeroCells,hz1,List.size_toArray,List.size_toArray,holds,hl']
   generalize ((⟨olds⟩:Array Value)++⟨l'⟩++Builtin.zeroCells z.cells (grownCap w (len+n) sCap e-(len+n)))=C at hrun hCg hCs;have hfit:Fits P ρ (.row true e1 ((cs.drop off).take (len*i.size)++l)) (.cells C e (0,0)) ⟨w.heap.size,0,C.size,P.cellsOf e1⟩:=
    .row e1 e _ C _ (by rw[bH,hlo,holds,ll,hCs];omega) (λj v hj=>by
     obtain⟨v',q1,q2⟩:=hc j v hj;exact⟨v',by rw[hCg];exact q1,q2⟩)
   have J:=(I.drew.kill b).rA hfit rfl;refine⟨_,_,_,_,by rw[hexec _ _ _ hsv',hrun];rfl,rfl,J,F.mono (λb pl q=>hgrowF q _) (λs=>aH.df _ _ (by simp)),?_,λs' _=>⟨aH.df _ _ (by simp),λ_=>rfl⟩⟩;have hg:=grownCap_ge w (len+n) sCap e;have:=VR.sl (ρ:=ρ.gz (false,σ.m.h.n) ⟨w.heap.size,0,C.size,P.cellsOf e1⟩) σ.m.h.n 0 (len+n) (len+n)
    ⟨w.heap.size,0,C.size,P.cellsOf e1⟩ (grownCap w (len+n) sCap e) (aH.ju _ _ _)
    hg (by
     simp only[hCs,hce];rw[Nat.sub_mul];have:=Nat.mul_le_mul_right i.size hg;have e1:(len+n)*i.size=len*i.size+n*i.size:=Nat.add_mul _ _ _;omega)
   exact VT.val _ _ this
  rcases hsv.nS with⟨a',rfl,hv'⟩|⟨b',off',pl,cap,hbo,hk,hc,hn,hv'⟩
  .by_cases hn0:n=0
   .subst hn0;refine⟨_,_,w,ρ,by rw[hexec _ _ _ hv',Rg t u o.type e i ht hi hu hd _ l' hlen (hfirst w rfl) (by simpa using hl')];rfl,rfl,(I.kill b).acn _,F,.val _ _ (.pH _ _ _),λ_ _=>⟨rfl,λ_=>rfl⟩⟩
   .exact grown (some a') 0 [] hv' (by omega) (by simp) (by simp[Builtin.firstCells,loadCells,loadCellsFrom]) (by simp)
  .simp only[Addr.mk.injEq,and_true]at hbo;obtain⟨rfl,rfl⟩:=hbo;have hrow:σ.m.row? (false,b)=some (true,e1,cs):=(by simp[Mem.row?,hb]);obtain⟨C,e',fz,c1,c2,c3,c4,c5,c6⟩:=I.rel.row _ _ _ _ _ hk hrow;obtain rfl:=c2 rfl;have hpl:pl.sz=i.size:=(by rw[c5,hce]);by_cases hroom:len+n<=cap
   .have hspan:(len+n)*i.size<=cap*i.size:=Nat.mul_le_mul_right _ hroom;have esplit:(len+n)*i.size=len*i.size+n*i.size:=Nat.add_mul _ _ _;rw[hpl]at hn;have hrun:=ako (w:=w) t u o.type e i ht hi hu hd (a.eval x) n l' hlen (hfirst w rfl) hone' pl.B (pl.o+off) len cap e' C c1 hroom (by omega);refine⟨_,_,_,_,by rw[hexec _ _ _ hv',hrun];rfl,rfl,
     I.ajG hk hb (off:=off) (ds:=(cs.drop off).take (len*i.size)++l) (e':=e')
      (C:=(C.toList.take (pl.o+off+len*i.size)++l'++C.toList.drop (pl.o+off+len*i.size+l'.length)).toArray)
      (by simp only[bH,dh,eX];omega) (zg w pl.B _) (setRow_size w pl.B _) (λB hB=>rO w pl.B _ hB)
      (zd w pl.B _ c1) ?_ ?_,F.mono (λb pl q=>hgrowF q _) (λs=>aH.df _ _ (by simp)),?_,λs' _=>⟨aH.df _ _ (by simp),λ_=>rfl⟩⟩
    .simp only[List.size_toArray,bH,dh,eX,Array.length_toList];omega
    .intro j v hj;have hlo:((cs.drop off).take (len*i.size)).length=len*i.size:=(by simp;omega);rw[List.getElem?_toArray,vS _ _ _ _ (by simp only[Array.length_toList];omega)];by_cases hjl:j<len*i.size
     .rw[ji (by omega),List.getElem?_take,if_pos hjl,List.getElem?_drop]at hj;obtain⟨v',q1,q2⟩:=c6 _ _ hj;exact⟨v',by rw[if_pos (by omega),Array.getElem?_toList,Nat.add_assoc];exact q1,q2⟩
     .rw[iF (by omega),hlo]at hj;obtain⟨v',q1,q2⟩:=hll' _ _ hj;have hjn:j-len*i.size<l'.length:=by
       rcases Nat.lt_or_ge (j-len*i.size) l'.length with q|q
       .exact q
       .rw[iT q]at q1;cases q1
      refine⟨v',?_,q2⟩;rw[if_neg (by omega),if_pos (by omega),show pl.o+off+j-(pl.o+off+len*i.size)=j-len*i.size by omega];exact q1
    .have:=VR.sl (ρ:=ρ.gz (false,σ.m.h.n) ⟨pl.B,pl.o+off,pl.n-off,pl.sz⟩) σ.m.h.n 0 (len+n) (len+n) ⟨pl.B,pl.o+off,pl.n-off,pl.sz⟩ cap (aH.ju _ _ _) hroom (by
      simp only[hpl];omega)
     exact VT.val _ _ this
   .obtain⟨q1,olds,q2,q3,q4⟩:=sr I (ad:=⟨b,off,none⟩) hk (n:=len*i.size) (l:=(cs.drop off).take (len*i.size)) (by simp only[Mem.cells,key,Option.isSome_none,hrow];rw[if_pos hin]);exact grown (some ⟨pl.B,pl.o+off,none⟩) cap olds hv' (by omega) q2 (run_firstCells_some (P:=P) w.drew i.size len _ len cap olds q2 (λj v hj=>by simpa using q4 j v hj)) q3
 .simp at h
end
section
variable {P:Program} {ρ0 ρ ρ':aH} {h0:aa} {w0 w:World} {m:Mem}
def ZJ(vs:List Value):∀(k off:Nat)(C:Array Value),off+k+vs.length<=C.size->
  ((vs.zipIdx k).foldl (λcs(p:Value×Nat)=>cs.setIfInBounds (off+p.2) p.1) C)=⟨C.toList.take (off+k)++vs++C.toList.drop (off+k+vs.length)⟩:=by
 induction vs with
 |nil=>intro k off C h;apply Array.ext';simp
 |cons v r ih=>
  intro k off C h;simp only[eW]at h;rw[List.zipIdx_cons,List.foldl_cons,ih (k+1) off _ (by simp;omega)];apply Array.ext';simp only[Array.toList_setIfInBounds];apply List.ext_getElem?;intro i;rw[vS _ _ _ _ (by simp;omega),vS _ _ _ _ (by simp;omega)];simp only[eW,List.getElem?_set];by_cases h1:i<off+k
  .rw[if_pos (by omega),if_neg (by omega),if_pos h1]
  .by_cases h2:i=off+k
   .subst h2;rw[if_pos (by omega),if_pos rfl,if_pos (by simp;omega),if_neg (by omega),if_pos (by omega)];simp
   .by_cases h3:i<off+(k+1)+r.length
    .rw[if_neg (by omega),if_pos h3,if_neg h1,if_pos (by omega)];rw[show i-(off+k)=(i-(off+(k+1)))+1 by omega,List.getElem?_cons_succ]
    .rw[if_neg (by omega),if_neg h3,if_neg (by omega),if_neg h1,if_neg (by omega)]
def qZ(place:Nat->Option (Nat×Nat)):List Value->List (Nat×Value)->Option (List Value)
 |cs,[]=>some cs
 |cs,(i,v)::r=>match place i with
  |some (off,n)=>if v.cells.toList.length=n/\off+n<=cs.length/\cn v=true then qZ place (lx cs off v.cells.toList) r else none
  |none=>none
def Kj(place:Nat->Option (Nat×Nat)):∀(ps ps':List (Nat×Value))(cs out:List Value)(C:Array Value),qZ place cs ps=some out->
  ps.length=ps'.length->(∀(k:Nat)(p:Nat×Value),ps[k]? =some p->∃p',ps'[k]? =some p'/\p'.1=p.1/\VT ρ p.2 p'.2)->
  cs.length=C.size->(∀(i:Nat)(v:Value),cs[i]? =some v->∃v',C[i]? =some v'/\VR ρ v v')->
  ∃D,Instr.fill place C ps'=some D/\out.length=D.size/\∀(i:Nat)(v:Value),out[i]? =some v->∃v',D[i]? =some v'/\VR ρ v v':=by
 intro ps;induction ps with
 |nil=>
  intro ps' cs out C h hl _ hcs hrel;cases ps' with
  |nil=>simp only[qZ,av]at h;subst h;exact⟨C,rfl,hcs,hrel⟩
  |cons _ _=>simp at hl
 |cons p r ih=>
  intro ps' cs out C h hl hp hcs hrel;obtain⟨i,v⟩:=p;cases ps' with
  |nil=>simp at hl
  |cons p' r'=>
   obtain⟨i',v'⟩:=p';obtain⟨q,hq,hq1,hq2⟩:=hp 0 (i,v) rfl;simp only[List.getElem?_cons_zero,av]at hq;subst hq;simp only at hq1 hq2;subst hq1;simp only[qZ]at h;split at h
   .rename_i off n hpl;split at h
    .rename_i hc;obtain⟨hc1,hc2,hc3⟩:=hc;have hvc:=(hq2.cn hc3).cells;have hn:v'.cells.size=n:=(by rw[<-hc1,hvc.1];simp);have hsz:¬(n<v'.cells.size):=(by omega);have hfold:=ZJ v'.cells.toList 0 off C (by rw[ie,Array.length_toList,hn,<-hcs];exact hc2);simp only[ie]at hfold;have hz:(v'.cells.zipIdx.foldl (λcs(p:Value×Nat)=>cs.setIfInBounds (off+p.2) p.1) C)=
       ⟨C.toList.take off++v'.cells.toList++C.toList.drop (off+v'.cells.toList.length)⟩:=by
      rw[<-hfold,<-Array.foldl_toList,Array.toList_zipIdx]
     have hlen':(lx cs off v.cells.toList).length=(⟨C.toList.take off++v'.cells.toList++C.toList.drop (off+v'.cells.toList.length)⟩:Array Value).size:=by
      have h1:=hvc.1;simp only[lx,bH,dh,eX,List.size_toArray,Array.length_toList]at h1 hc1 ⊢;omega
     have hrel':=zh (ρ:=ρ) (o:=0) (C:=C) (n:=cs.length) hvc.1 (by rw[hc1];exact hc2) (aX _) (by omega) (by simpa using hrel) hvc.2;obtain⟨D,e1,e2,e3⟩:=ih r' (lx cs off v.cells.toList) out ⟨C.toList.take off++v'.cells.toList++C.toList.drop (off+v'.cells.toList.length)⟩ h (by simpa using hl)
      (λk p hk=>hp (k+1) p (by simpa using hk)) hlen' (by simpa using hrel')
     refine⟨D,?_,e2,e3⟩;simp only[Instr.fill,hpl];have hb:((decide (v'.cells.size≠n)) || (decide (off+v'.cells.size>C.size)))=false:=by
      rw[Bool.or_eq_false_iff];exact⟨by simp[hn],by simp;omega⟩
     simp only[hb,if_false,fw];rw[<-e1,<-hz]
    .simp at h
   .simp at h
def nN(σ:St):List (Nat×Operand)->Option (List (Nat×Value))
 |[]=>some []
 |(i,x)::r=>match aN σ x,nN σ r with
  |some v,some l=>some ((i,v)::l)
  |_,_=>none
def Qt{σ:St}(I:Inv P ρ0 h0 w0 ρ σ.m w){a:Act}(F:fu ρ σ.t a.tmps):∀{l:List (Nat×Operand)}{ps:List (Nat×Value)},nN σ l=some ps->
  ps.length=(l.map λ(p:Nat×Operand)=>(p.1,a.eval p.2)).length/\
   ∀(k:Nat)(p:Nat×Value),ps[k]? =some p->∃p',(l.map λ(p:Nat×Operand)=>(p.1,a.eval p.2))[k]? =some p'/\p'.1=p.1/\VT ρ p.2 p'.2:=by
 intro l;induction l with
 |nil=>intro ps h;simp only[nN,av]at h;subst h;simp
 |cons q r ih=>
  intro ps h;obtain⟨i,x⟩:=q;simp only[nN]at h;split at h
  .rename_i v l hv hl;obtain rfl:=bU h;obtain⟨q1,q2⟩:=ih hl;refine⟨by simpa using q1,λk p hk=>?_⟩;cases k with
   |zero=>simp at hk;subst hk;exact⟨_,rfl,rfl,dD I F hv⟩
   |succ k=>exact q2 k p (by simpa using hk)
  .simp at h
def td(P:Program):List Field->Option (List (Nat×Nat))
 |[]=>some []
 |f::r=>match dj P f.type,td P r with
  |some n,some l=>some ((f.offset,n)::l)
  |_,_=>none
def run_places(w:World):∀(fs:List Field)(l:List (Nat×Nat)),td P fs=some l->(fs.mapM (λf=>do pure (f.offset,<-sizeOf f.type):Field->Sem (Nat×Nat))).run P w= .ok l w:=by
 intro fs;induction fs with
 |nil=>intro l h;simp only[td,av]at h;subst h;rfl
 |cons f r ih=>
  intro l h;simp only[td]at h;split at h
  .rename_i n l' hn hl;obtain rfl:=bU h;have ih':=ih l' hl;rw[List.mapM_cons];simp only[Sem.run_bind,run_sizeOf hn,Result.andThen_ok,Sem.run_pure,ih']
  .simp at h
def fX(P:Program)(σ:St)(t:TypeId)(parts:Array (Nat×Operand)):Option (Value×St):=
 match P.underlying t with
 |some (.struct fs)=>match td P fs.toList,eg P t,nN σ parts.toList with
  |some pl,some z,some ps=>match qZ (λi=>pl[i]?) z ps with
   |some out=>some (.agg ⟨out⟩,σ)
   |none=>none
  |_,_,_=>none
 |_=>none
def Dj(P:Program)(t:TypeId):Option (List (Nat×Nat)×List Value):=match P.underlying t with
 |some (.struct fs)=>match td P fs.toList,eg P t with
  |some pl,some z=>some (pl,z)
  |_,_=>none
 |_=>none
@[simp] def iu(σ:St)(pl:List (Nat×Nat))(z:List Value)(parts:Array (Nat×Operand)):Option (Value×St):=match nN σ parts.toList with
 |some ps=>match qZ (λi=>pl[i]?) z ps with
  |some out=>some (.agg ⟨out⟩,σ)
  |none=>none
 |none=>none
def iX{t:TypeId}{pl:List (Nat×Nat)}{z:List Value}(h:Dj P t=some (pl,z))(σ:St)(parts:Array (Nat×Operand)):fX P σ t parts=iu σ pl z parts:=by
 unfold Dj at h;unfold fX iu;cases hf:P.underlying t with
 |none=>rw[hf]at h;cases h
 |some d=>
  rw[hf]at h;cases d<;>(try cases h);rename_i fs;simp only at h;cases hp:td P fs.toList with
  |none=>rw[hp]at h;cases h
  |some p=>cases hz:eg P t with
   |none=>rw[hp,hz]at h;cases h
   |some z'=>
    rw[hp,hz]at h
    simp only[av,bM]at h
    obtain⟨rfl,rfl⟩:=h
    simp only[hp,hz]
    cases nN σ parts.toList<;>rfl
def ah6{σ σ':St}{o:Oper}{t:TypeId}{parts:Array (Nat×Operand)}(ho:o.op= .build t parts){v:Value}(h:fX P σ t parts=some (v,σ')):fF P o σ v σ':=by
 intro ρ0 h0 w0 ρ a w I F;unfold fX at h;split at h;rotate_left
 .simp at h
 rename_i fs hu;split at h;rotate_left
 .simp at h
 rename_i pl z ps hpl hz hps;split at h;rotate_left
 .simp at h
 rename_i out hout;simp only[av,bM]at h;obtain⟨rfl,rfl⟩:=h;obtain⟨zv,hzc,hzf,hzr⟩:=va hz;obtain⟨q1,q2⟩:=Qt I F hps;obtain⟨D,e1,e2,e3⟩:=Kj _ _ _ _ _ ⟨z⟩ hout q1 q2 (by simp) (vP hzf);obtain⟨dl⟩:=D;refine⟨.value (.agg ⟨dl⟩),_,w,ρ,?_,rfl,I,F,.val _ _ (.agg _ _ (by simpa using e2) ((pL (by simpa using e2)).2 (by simpa using e3))),λ_ _=>⟨rfl,λ_=>rfl⟩⟩;have hpl':=run_places w fs.toList pl hpl;have hmap:(parts.map λ(i,x)=>(i,a.eval x)).toList=parts.toList.map λ(p:Nat×Operand)=>(p.1,a.eval p.2):=by simp
 have hget:(λ(i:Nat)=>(pl.toArray)[i]?)=λ(i:Nat)=>pl[i]? :=by funext i;simp
 simp only[execOp,ho,Instr.build,Sem.run_bind,hzr,Result.andThen_ok,run_underlying hu,hzc,Array.mapM_eq_mapM_toList,Sem.run_map,hpl',hmap,hget,e1];rfl
def aM(P:Program)(σ:St)(t:TypeId)(len:Nat)(parts:Array (Nat×Operand)):Option (Value×St):=
 match gu P t with
 |some (e,s)=>match eg P e,nN σ parts.toList with
  |some z,some ps=>
   if z.length=s/\0<s/\len*s<=16777216 then
    match qZ (λi=>some (i*s,s)) ((List.range (len*s)).map λi=>z.getD (i % s) undef) ps with
    |some out=>some (.slice (some ⟨σ.m.h.n,0,none⟩) len len,⟨σ.t,⟨σ.m.x,σ.m.h.new (.row true e out)⟩⟩)
    |none=>none
   else none
  |_,_=>none
 |none=>none
def ah5{σ σ':St}{o:Oper}{t len:Nat}{parts:Array (Nat×Operand)}(ho:o.op= .buildSlice t len parts){v:Value}(h:aM P σ t len parts=some (v,σ')):fF P o σ v σ':=by
 intro ρ0 h0 w0 ρ a w I F;unfold aM at h;split at h;rotate_left
 .simp at h
 rename_i e s he;split at h;rotate_left
 .simp at h
 rename_i z ps hz hps;split at h;rotate_left
 .simp at h
 rename_i hc;obtain⟨hzl,hpos,hle⟩:=hc;split at h;rotate_left
 .simp at h
 rename_i out hout;simp only[av,bM]at h;obtain⟨rfl,rfl⟩:=h;obtain⟨zv,hzc,hzf,hzr⟩:=va hz;obtain⟨ht,hs⟩:=sy he;obtain⟨q1,q2⟩:=Qt I F hps;have hs0:0<s:=hpos;have hzz:∀i,z.getD (i % s) undef=(⟨z⟩:Array Value)[i % z.length]! :=λi=>by
  have:i % s<z.length:=by rw[hzl];exact Nat.mod_lt _ hs0
  rw[hzl,bu];simp[aq this]
 have hflat:∀v∈(List.range (len*s)).map (λi=>z.getD (i % s) undef),dz v=true:=λv hv=>by
  rw[dO]at hv;obtain⟨i,_,rfl⟩:=hv;have:i % s<z.length:=by rw[hzl];exact Nat.mod_lt _ hs0
  rw[bu,aq this];exact hzf _ (fG this)
 obtain⟨D,e1,e2,e3⟩:=Kj (ρ:=ρ) _ _ _ _ _ ⟨(List.range (len*s)).map λi=>z.getD (i % s) undef⟩ hout q1 q2 (by simp) (vP hflat);have hfit:Fits P ρ (.row true e out) (.cells D e (0,0)) ⟨w.heap.size,0,D.size,P.cellsOf e⟩:=.row e e out D _ (by rw[e2];exact aX _) e3;have hdim:∀(l:List (Nat×Value))(C D:Array Value),Instr.fill (λi=>some (i*s,s)) C l=some D->D.size=C.size:=by
  intro l;induction l with
  |nil=>intro C D h;simp[Instr.fill]at h;rw[h]
  |cons p r ih=>
   intro C D h;simp only[Instr.fill]at h;split at h
   .cases h
   .rw[ih _ _ h,<-Array.foldl_toList];have:∀(l:List (Value×Nat))(C:Array Value)(k:Nat),(l.foldl (λcs(p:Value×Nat)=>cs.setIfInBounds (k+p.2) p.1) C).size=C.size:=by
     intro l;induction l with
     |nil=>intro C k;rfl
     |cons q t ih2=>intro C k;rw[List.foldl_cons,ih2];simp
    exact this _ _ _
 have hD:D.size=len*s:=by rw[hdim _ _ _ e1];simp
 refine⟨.value (.slice (some ⟨w.heap.size,0,none⟩) len len),_,w.alloc (.cells D e),_,?_,rfl,I.rA hfit rfl,F.mono (λb pl q=>?_) (λs=>aH.df _ _ (by simp)),?_,λs' _=>⟨aH.df _ _ (by simp),λ_=>rfl⟩⟩
 .have hbig:¬(16777216<len*s):=by omega
  have hmap:(parts.map λ(i,x)=>(i,a.eval x)).toList=parts.toList.map λ(p:Nat×Operand)=>(p.1,a.eval p.2):=by simp
  have hrange:(Array.range (len*s)).map (λi=>(⟨z⟩:Array Value)[i % (⟨z⟩:Array Value).size]!)=⟨(List.range (len*s)).map λi=>z.getD (i % s) undef⟩:=by
   apply Array.ext';simp only[Array.toList_map,Array.toList_range];apply List.map_congr_left;intro i _;rw[hzz i];rfl
  simp only[execOp,ho,Instr.buildSlice,Sem.run_bind,run_underlying ht,Result.andThen_ok,run_sizeOf hs];rw[if_neg (by simpa using hbig)];by_cases hne:len*s=0
  .have hrange0:(Array.range (len*s)).map (λi=>(#[]:Array Value)[i % (#[]:Array Value).size]!)=⟨(List.range (len*s)).map λi=>z.getD (i % s) undef⟩:=(by rw[hne];simp);simp only[hne,if_true,Sem.run_bind,Sem.run_pure,Result.andThen_ok];rw[hne]at hrange0 e1;simp only[hrange0,hmap,e1];rfl
  .simp only[hne,if_false,Sem.run_bind,Sem.run_pure,hzr,Result.andThen_ok,hzc,hrange,hmap,e1];rfl
 .rw[aH.df];exact q;intro z;simp only[bM,true_and]at z;subst z;exact Nat.lt_irrefl _ (I.rel.dX _ _ q)
 .have hcell:P.cellsOf e=s:=by
   unfold dj at hs;cases hi:P.info? e with
   |none=>simp[hi]at hs
   |some i=>simp[hi]at hs;simp[Program.cellsOf,hi,hs]
  have:=VR.sl (ρ:=ρ.gz (false,σ.m.h.n) ⟨w.heap.size,0,D.size,P.cellsOf e⟩) σ.m.h.n 0 len len ⟨w.heap.size,0,D.size,P.cellsOf e⟩ len (aH.ju _ _ _) (aX _) (by
   simp only[hcell,hD];omega)
  exact VT.val _ _ this
def Sv{n:Int}(h0:0<=n)(h1:n<9223372036854775808):IntKind.i64.wrap n=n:=by
 rw[IntKind.wrap_i64];omega
def gY(z:List Value)(s n:Nat):List Value:=(List.range (n*s)).map λi=>z.getD (i % s) undef
def xc(v:Value)(n:Nat):gY [v] 1 n=List.replicate n v:=by
 simp only[gY,Nat.mul_one];apply List.ext_getElem
 .simp
 .intro i h1 h2;simp[Nat.mod_one]
def oF(P:Program)(σ:St)(t:TypeId)(x y:Operand):Option (Value×St):=
 match aN σ x,aN σ y with
 |some (.int _ l),some (.int _ c)=>
  match gu P t with
  |some (e,s)=>match eg P e,jB P e with
   |some z,some by_=>
    if z.length=s/\0<s/\0<by_/\0<=l/\l<=c/\c.toNat*by_<=dH then
     some (.slice (some ⟨σ.m.h.n,0,none⟩) l.toNat l.toNat,⟨σ.t,⟨σ.m.x,σ.m.h.new (.row true e (gY z s c.toNat))⟩⟩)
    else none
   |_,_=>none
  |none=>none
 |_,_=>none
def ais{σ σ':St}{o:Oper}{t:TypeId}{x y:Operand}(ho:o.op= .makeSlice t x y){v:Value}(h:oF P σ t x y=some (v,σ')):fF P o σ v σ':=by
 intro ρ0 h0 w0 ρ a w I F;unfold oF at h;split at h;rotate_left
 .simp at h
 rename_i k1 l k2 c hx hy;split at h;rotate_left
 .simp at h
 rename_i e s he;split at h;rotate_left
 .simp at h
 rename_i z by_ hz hby;split at h;rotate_left
 .simp at h
 rename_i hcond;obtain⟨hzl,hs0,hb0,hl0,hlc,hmax⟩:=hcond;unfold dH at hmax;simp only[av,bM]at h;obtain⟨rfl,rfl⟩:=h;obtain⟨ht,hs⟩:=sy he;obtain⟨zv,hzc,hzf,hzr⟩:=va hz;have hxv:=(dD I F hx).cB rfl;have hyv:=(dD I F hy).cB rfl;have hcb:c.toNat<=c.toNat*by_:=Nat.le_mul_of_pos_right _ hb0;have hwc:IntKind.i64.wrap c=c:=Sv (by omega) (by omega);have hwl:IntKind.i64.wrap l=l:=Sv (by omega) (by omega);have hinfo:∃i,P.info? e=some i/\i.bytes=by_:=by
  unfold jB at hby;cases hi:P.info? e with
  |none=>simp[hi]at hby
  |some i=>exact⟨i,rfl,by simpa[hi]using hby⟩
 obtain⟨i,hi,rfl⟩:=hinfo;have hflat:∀v∈gY z s c.toNat,dz v=true:=λv hv=>by
  rw[gY,dO]at hv;obtain⟨i,_,rfl⟩:=hv;have:i % s<z.length:=by rw[hzl];exact Nat.mod_lt _ hs0
  rw[bu,aq this];exact hzf _ (fG this)
 have hfit:Fits P ρ (.row true e (gY z s c.toNat)) (.cells ⟨gY z s c.toNat⟩ e (0,0)) ⟨w.heap.size,0,(⟨gY z s c.toNat⟩:Array Value).size,P.cellsOf e⟩:=
  .row e e _ ⟨gY z s c.toNat⟩ _ (by simp) (vP hflat)
 refine⟨.value (.slice (some ⟨w.heap.size,0,none⟩) l.toNat c.toNat),_,w.alloc (.cells ⟨gY z s c.toNat⟩ e),_,?_,rfl,I.rA hfit rfl,F.mono (λb pl q=>?_) (λs=>aH.df _ _ (by simp)),?_,λs' _=>⟨aH.df _ _ (by simp),λ_=>rfl⟩⟩
 .have hbi:(i.bytes:Int)*c=((c.toNat*i.bytes:Nat):Int):=by
   rw[Int.natCast_mul,Int.toNat_of_nonneg (by omega),Int.mul_comm]
  have hbl:(i.bytes:Int)*c<=140737488355328:=by rw[hbi];exact Int.ofNat_le.2 hmax
  have hrow:∀C:Array Value,(C=if c.toNat*s=0 then #[]else⟨z⟩)->(Array.range (c.toNat*s)).map (λi=>C[i % C.size]!)=⟨gY z s c.toNat⟩:=by
   intro C hC;apply Array.ext';simp only[Array.toList_map,Array.toList_range,gY];apply List.map_congr_left;intro j hj;rw[dF]at hj;rw[hC,if_neg (by omega)];have:j % s<z.length:=(by rw[hzl];exact Nat.mod_lt _ hs0);simp[hzl,bu,aq this]
  have bD:¬(c<0):=by omega
  have bN:¬((i.bytes:Int)*c>281474976710656):=by omega
  have hb3:¬(l<0):=by omega
  have hb4:¬(l>c):=by omega
  by_cases hn:c.toNat*s=0
  .have:=hrow #[] (by rw[if_pos hn])
   rw[hn]at this
   simp only[List.size_toArray,qR]at this
   simp[execOp,ho,Instr.makeSlice,run_underlying ht,hxv,hyv,asInt,asIntOf,typeInfo,hi,hwc,hwl,bD,bN,hb3,hb4,run_sizeOf hs,hn,newRow]
   first
    |(congr 2;simpa using this)
    |(congr 2;done)
  .have:=hrow ⟨z⟩ (by rw[if_neg hn])
   simp[execOp,ho,Instr.makeSlice,run_underlying ht,hxv,hyv,asInt,asIntOf,typeInfo,hi,hwc,hwl,bD,bN,hb3,hb4,run_sizeOf hs,hn,newRow,hzr,hzc]
   first
    |(congr 2;simpa using this)
    |(congr 2;done)
 .rw[aH.df];exact q;intro z;simp only[bM,true_and]at z;subst z;exact Nat.lt_irrefl _ (I.rel.dX _ _ q)
 .have hcell:P.cellsOf e=s:=by
   unfold dj at hs;simp only[hi,fV,av]at hs;simp[Program.cellsOf,hi,hs]
  have:=VR.sl (ρ:=ρ.gz (false,σ.m.h.n) ⟨w.heap.size,0,(⟨gY z s c.toNat⟩:Array Value).size,P.cellsOf e⟩) σ.m.h.n 0 l.toNat l.toNat
   ⟨w.heap.size,0,(⟨gY z s c.toNat⟩:Array Value).size,P.cellsOf e⟩ c.toNat (aH.ju _ _ _) (by omega) (by
   simp only[hcell,List.size_toArray,gY,cf,pP];omega)
  exact VT.val _ _ this
def nM(P:Program)(σ:St)(t:TypeId)(x:Operand):Option (Value×St):=
 match P.underlying t,aN σ x with
 |some .string,some (.string s)=>some (.pointer (some ⟨σ.m.h.n,0,none⟩),⟨σ.t,⟨σ.m.x,σ.m.h.new (.obj (.stringIter s 0))⟩⟩)
 |_,_=>none
def aiy{σ σ':St}{o:Oper}{t:TypeId}{x:Operand}(ho:o.op= .range t x){v:Value}(h:nM P σ t x=some (v,σ')):fF P o σ v σ':=by
 intro ρ0 h0 w0 ρ a w I F;unfold nM at h;split at h;rotate_left
 .simp at h
 rename_i s ht hx;simp only[av,bM]at h;obtain⟨rfl,rfl⟩:=h;have hxv:=(dD I F hx).cB rfl;have hfit:Fits P ρ (.obj (.stringIter s 0)) (.stringIter s 0) ⟨w.heap.size,0,0,0⟩:=.obj _ _ _ rfl;refine⟨.value (.pointer (some ⟨w.heap.size,0,none⟩)),_,w.alloc (.stringIter s 0),_,?_,rfl,I.rA hfit rfl,F.mono (λb pl q=>?_) (λs=>aH.df _ _ (by simp)),?_,λs' _=>⟨aH.df _ _ (by simp),λ_=>rfl⟩⟩
 .simp[execOp,ho,Instr.range,run_underlying ht,hxv]
 .rw[aH.df];exact q;intro z;simp only[bM,true_and]at z;subst z;exact Nat.lt_irrefl _ (I.rel.dX _ _ q)
 .have:=VT.uQ (ρ:=ρ.gz (false,σ.m.h.n) ⟨w.heap.size,0,0,0⟩) (ad:=⟨σ.m.h.n,0,none⟩) (pl:=⟨w.heap.size,0,0,0⟩) (by simp[key,aH.gz]);simpa using this
def rD(σ:St)(x:Operand):Option (Value×St):=
 match aN σ x with
 |some (.pointer (some ⟨b,0,none⟩))=>match σ.m.h.f b with
  | .obj (.stringIter s pos)=>
   if pos<s.size then
    some (.tuple #[.bool true,.int .i64 pos,.int .i32 (Utf8.decode s pos).1],⟨σ.t,⟨σ.m.x,σ.m.h.set b (.obj (.stringIter s (pos+(Utf8.decode s pos).2)))⟩⟩)
   else some (.tuple #[.bool false],σ)
  |_=>none
 |_=>none
def ait{σ σ':St}{o:Oper}{x:Operand}(ho:o.op= .next x true){v:Value}(h:rD σ x=some (v,σ')):fF P o σ v σ':=by
 intro ρ0 h0 w0 ρ a w I F;unfold rD at h;split at h;rotate_left
 .simp at h
 rename_i b hx;split at h;rotate_left
 .simp at h
 rename_i s pos hb;obtain⟨pl,hk,hv⟩:=(dD I F hx).ptr;have hk:ρ (false,b)=some pl:=hk;obtain⟨hobj,ho0⟩:=I.rel.obj b pl _ hk hb;have hobj:w.heap[pl.B]? =some (.stringIter s pos):=hobj;have hv0:a.eval x= .pointer (some ⟨pl.B,0,none⟩):=by simp[hv,ho0]
 have hget:(getObj pl.B).run P w= .ok (.stringIter s pos) w:=by simp[getObj,Sem.run,hobj]
 split at h
 .rename_i hlt;simp only[av,bM]at h;obtain⟨rfl,rfl⟩:=h;refine⟨.value (.tuple #[.bool true,.int .i64 pos,.int .i32 (Utf8.decode s pos).1]),_,_,ρ,?_,rfl,I.setObj hk hb (.stringIter s (pos+(Utf8.decode s pos).2)) rfl,F,.gG rfl,λ_ _=>⟨rfl,λ_=>rfl⟩⟩;simp[execOp,ho,Instr.next,hv0,hget,hlt,goInt,setObj,Sem.run,hobj]
 .rename_i hge;simp only[av,bM]at h;obtain⟨rfl,rfl⟩:=h;refine⟨.value (.tuple #[.bool false]),_,w,ρ,?_,rfl,I,F,.gG rfl,λ_ _=>⟨rfl,λ_=>rfl⟩⟩;simp[execOp,ho,Instr.next,hv0,hget,hge]
end
section
variable {P:Program} {ρ0 ρ ρ':aH} {h0:aa} {w0 w:World} {m:Mem}
def VT.mp{v':Value}{b:Nat}(h:VT ρ (.map (some b)) v'):∃pl,ρ (false,b)=some pl/\v'= .map (some pl.B):=by
 cases h with
 |val _ _ h=>cases h with|mp _ pl hk=>exact⟨pl,hk,rfl⟩
def qj(P:Program)(σ:St)(t:TypeId)(r:Option Operand):Option (Value×St):=match r with
 |none=>some (.map (some σ.m.h.n),⟨σ.t,⟨σ.m.x,σ.m.h.new (.obj (.map #[] 0))⟩⟩)
 |some x=>match P.underlying t,aN σ x with
  |some (.map _ _),some (.int _ _)=>some (.map (some σ.m.h.n),⟨σ.t,⟨σ.m.x,σ.m.h.new (.obj (.map #[] 0))⟩⟩)
  |_,_=>none
def air{σ σ':St}{o:Oper}{t:TypeId}{r:Option Operand}(ho:o.op= .makeMap t r){v:Value}(h:qj P σ t r=some (v,σ')):fF P o σ v σ':=by
 intro ρ0 h0 w0 ρ a w I F;have hfit:Fits P ρ (.obj (.map #[] 0)) (.map #[] 0) ⟨w.heap.size,0,0,0⟩:=.obj _ _ _ rfl;have key:(execOp a.eval o).run P w= .ok (.value (.map (some w.heap.size))) (w.alloc (.map #[] 0))->v= .map (some σ.m.h.n)->σ'=⟨σ.t,⟨σ.m.x,σ.m.h.new (.obj (.map #[] 0))⟩⟩->
   ∃nx v' w' ρ',(execOp a.eval o).run P w= .ok nx w'/\tb nx=some v'/\Inv P ρ0 h0 w0 ρ' σ'.m w'/\fu ρ' σ'.t a.tmps/\VT ρ' v v'/\∀s,(∀d,o.dst=some d->d≠s)->ρ' (true,s)=ρ (true,s)/\(ρ (true,s)=none->σ'.m.x s=σ.m.x s):=by
  rintro hrun rfl rfl;refine⟨.value (.map (some w.heap.size)),_,w.alloc (.map #[] 0),_,hrun,rfl,I.rA hfit rfl,F.mono (λb pl q=>?_) (λs=>aH.df _ _ (by simp)),?_,λs' _=>⟨aH.df _ _ (by simp),λ_=>rfl⟩⟩
  .rw[aH.df];exact q;intro z;simp only[bM,true_and]at z;subst z;exact Nat.lt_irrefl _ (I.rel.dX _ _ q)
  .exact .val _ _ (VR.mp (ρ:=ρ.gz (false,σ.m.h.n) ⟨w.heap.size,0,0,0⟩) σ.m.h.n ⟨w.heap.size,0,0,0⟩ (aH.ju _ _ _))
 cases r with
 |none=>
  simp only[qj,av,bM]at h;refine key ?_ h.1.symm h.2.symm;simp[execOp,ho,Instr.makeMap,newObj,Sem.run]
 |some x=>
  unfold qj at h;simp only at h;split at h;rotate_left
  .simp at h
  rename_i kt et kk n ht hx;simp only[av,bM]at h;refine key ?_ h.1.symm h.2.symm;have hxv:=(dD I F hx).cB rfl;simp[execOp,ho,Instr.makeMap,newObj,Sem.run,run_underlying ht,hxv,asInt,asIntOf]
def pV(key elem:TypeId)(k:Value)(es:Array MapEntry)(ok:Bool):Sem Value:=do
 Instr.checkKey es.isEmpty 10000 key k
 let (v,b) <-match<-Instr.findKey key k es.toList with
  |some (_,v)=>pure (v,true)
  |none=>pure (<-zeroValue elem,false)
 pure (if ok then .tuple #[v,.bool b]else v)
def pB(P:Program)(σ:St)(t:TypeId)(x i:Operand)(ok:Bool):Option (Value×St):=
 match P.underlying t,aN σ x,aN σ i with
 |some (.map key elem),some (.map (some b)),some k=>match σ.m.h.f b with
  | .obj (.map es _)=>if cB k then match(pV key elem k es ok).aU P with
   |some v=>if cB v then some (v,σ)else none
   |none=>none
   else none
  |_=>none
 |_,_,_=>none
def aio{σ σ':St}{o:Oper}{t:TypeId}{x i:Operand}{ok:Bool}(ho:o.op= .lookup t x i ok){v:Value}(h:pB P σ t x i ok=some (v,σ')):fF P o σ v σ':=by
 intro ρ0 h0 w0 ρ a w I F;unfold pB at h;split at h;rotate_left
 .simp at h
 rename_i key elem b k ht hx hi;split at h;rotate_left
 .simp at h
 rename_i es clock hb;split at h;rotate_left
 .simp at h
 rename_i hfk;split at h;rotate_left
 .simp at h
 rename_i u hu;split at h;rotate_left
 .simp at h
 rename_i hfv;simp only[av,bM]at h;obtain⟨rfl,rfl⟩:=h;obtain⟨pl,hk,hv⟩:=(dD I F hx).mp;obtain⟨hobj,ho0⟩:=I.rel.obj b pl _ hk hb;have hobj:w.heap[pl.B]? =some (.map es clock):=hobj;have hkv:=(dD I F hi).cB hfk;have hget:(getObj pl.B).run P w= .ok (.map es clock) w:=by simp[getObj,Sem.run,hobj]
 have hrun:=yR P _ _ hu w;refine⟨.value u,u,w,ρ,?_,rfl,I,F,.gG hfv,λ_ _=>⟨rfl,λ_=>rfl⟩⟩;have e:Instr.lookup t (.map (some pl.B)) k ok=(do
   let .map key elem <-underlying t|stuck "Lookup: map type expected"
   let .map es _ <-getObj pl.B|stuck "Lookup: map expected"
   pV key elem k es ok):=rfl
 simp only[execOp,ho,hv,hkv];rw[e];simp only[Sem.run_bind,run_underlying ht,Result.andThen_ok,hget,hrun];rfl
def tK(key:TypeId)(k:Value)(es:Array MapEntry):Sem (Option (Nat×Value)):=do
 Instr.checkKey false 10000 key k
 Instr.findKey key k es.toList
def Sq{key:TypeId}{k:Value}{es:Array MapEntry}{r:Option (Nat×Value)}(h:(tK key k es).aU P=some r)(w:World):
  (Instr.checkKey false 10000 key k).run P w= .ok () w/\(Instr.findKey key k es.toList).run P w= .ok r w:=by
 unfold tK at h;rw[cM]at h;cases hc:(Instr.checkKey false 10000 key k).aU P with
 |none=>rw[hc]at h;cases h
 |some u=>
  rw[hc]at h;exact⟨yR P _ _ hc w,yR P _ _ h w⟩
def oG(P:Program)(σ:St)(t:TypeId)(x i y:Operand):Option (Value×St):=
 match P.underlying t,aN σ x,aN σ i,aN σ y with
 |some (.map key _),some (.map (some b)),some k,some u=>match σ.m.h.f b with
  | .obj (.map es clock)=>if cB k&&cB u then match(tK key k es).aU P with
   |some none=>some (undef,⟨σ.t,⟨σ.m.x,σ.m.h.set b (.obj (.map (es.push {key:=k,val:=u,born:=clock}) (clock+1)))⟩⟩)
   |some (some (j,_))=>if Instr.sameBits 10000 (((es[j]?).map (·.key)).getD k) k then
     some (undef,⟨σ.t,⟨σ.m.x,σ.m.h.set b (.obj (.map (es.modify j λe=>{e with key:=k,val:=u}) clock))⟩⟩)
    else none
   |none=>none
   else none
  |_=>none
 |_,_,_,_=>none
def Qj{σ σ':St}{o:Oper}{t:TypeId}{x i y:Operand}(ho:o.op= .mapUpdate t x i y∨o.op= .insert t x i y){v:Value}(h:oG P σ t x i y=some (v,σ')):fF P o σ v σ':=by
 intro ρ0 h0 w0 ρ a w I F;unfold oG at h;split at h;rotate_left
 .simp at h
 rename_i key elem b k u ht hx hi hy;split at h;rotate_left
 .simp at h
 rename_i es clock hb;split at h;rotate_left
 .simp at h
 rename_i hfk;rw[bQ]at hfk;obtain⟨pl,hk,hv⟩:=(dD I F hx).mp;obtain⟨hobj,ho0⟩:=I.rel.obj b pl _ hk hb;have hobj:w.heap[pl.B]? =some (.map es clock):=hobj;have hkv:=(dD I F hi).cB hfk.1;have hyv:=(dD I F hy).cB hfk.2;have hget:(getObj pl.B).run P w= .ok (.map es clock) w:=by simp[getObj,Sem.run,hobj]
 have hset:∀o',(setObj pl.B o').run P w= .ok () {w with heap:=w.heap.setIfInBounds pl.B o'}:=λo'=>by simp[setObj,Sem.run,hobj]
 have hex:execOp a.eval o=(do Instr.mapUpdate t (a.eval x) (a.eval i) (a.eval y);pure Next.skip):=by
  rcases ho with ho|ho<;>simp only[execOp,ho]
 have e:Instr.mapUpdate t (.map (some pl.B)) k u=(do
   let .map keyType _ <-underlying t|stuck "MapUpdate: map type expected"
   let .map es clock <-getObj pl.B|stuck "MapUpdate: map expected"
   Instr.checkKey false 10000 keyType k
   match<-Instr.findKey keyType k es.toList with
   |some (i,_)=>do
    let key <-Instr.keyThatStays (((es[i]?).map (·.key)).getD k) k
    setObj pl.B (.map (es.modify i λe=>{e with key,val:=u}) clock)
   |none=>setObj pl.B (.map (es.push {key:=k,val:=u,born:=clock}) (clock+1))):=rfl
 split at h
 .rename_i hw;simp only[av,bM]at h;obtain⟨rfl,rfl⟩:=h;refine⟨.skip,undef,_,ρ,?_,rfl,I.setObj hk hb _ rfl,F,.gG rfl,λ_ _=>⟨rfl,λ_=>rfl⟩⟩;rw[hex,hv,hkv,hyv,e];obtain⟨h1,h2⟩:=Sq hw w;simp only[Sem.run_bind,run_underlying ht,Result.andThen_ok,hget,h1,h2,hset];rfl
 .rename_i j v' hw;split at h;rotate_left
  .simp at h
  rename_i hs;simp only[av,bM]at h;obtain⟨rfl,rfl⟩:=h;refine⟨.skip,undef,_,ρ,?_,rfl,I.setObj hk hb _ rfl,F,.gG rfl,λ_ _=>⟨rfl,λ_=>rfl⟩⟩;rw[hex,hv,hkv,hyv,e];obtain⟨h1,h2⟩:=Sq hw w;simp only[Sem.run_bind,run_underlying ht,Result.andThen_ok,hget,h1,h2,Instr.keyThatStays,hs,if_true,Sem.run_pure,hset]
 .simp at h
end
section
variable {P:Program} {ρ0 ρ ρ':aH} {h0:aa} {w0 w:World} {m:Mem}
def mu(b:UInt8):Value:=.int .u8 (b.toNat:Int)
def ud:List Value->Option (List UInt8)
 |[]=>some []
 | .int .u8 n::r=>if 0<=n/\n<256 then(ud r).map (λl=>UInt8.ofNat n.toNat::l)else none
 |_=>none
def W5:∀{l:List Value}{bs:List UInt8},ud l=some bs->l=bs.map mu:=by
 intro l;induction l with
 |nil=>intro bs h;simp[ud]at h;subst h;rfl
 |cons v r ih=>
  intro bs h;unfold ud at h;split at h
  .rename_i h0;simp at h0
  .rename_i n r' he;simp only[List.cons.injEq]at he;obtain⟨rfl,rfl⟩:=he;split at h
   .rename_i hn;cases hr:ud r with
    |none=>rw[hr]at h;cases h
    |some l=>
     rw[hr]at h;simp only[fV,av]at h;subst h;rw[fg,<-ih hr];congr 1;unfold mu;congr 1;rw[UInt8.toNat_ofNat'];omega
   .cases h
  .cases h
def ZD(bs:List UInt8):∀s:ByteArray,(bs.map λb=>(b.toNat:Int)).foldl (λr n=>r.push (UInt8.ofNat n.toNat)) s=⟨⟨s.data.toList++bs⟩⟩:=by
 induction bs with
 |nil=>intro s;simp
 |cons b r ih=>
  intro s;rw[fg,List.foldl_cons,ih];congr 2;simp[ByteArray.push]
def mF(P:Program)(σ:St)(s t:TypeId)(x:Operand):Option (Value×St):=match P.underlying s with
 |some (.slice e)=>match P.underlying t,P.underlying e,aN σ x with
  |some .string,some (.int .u8),some (.slice (some ad) len _)=>if 0<len then match σ.m.cells ad len with
    |some l=>match ud l with
     |some bs=>some (.string ⟨⟨bs⟩⟩,σ)
     |none=>none
    |none=>none
   else none
  |_,_,_=>none
 |_=>none
def ah9{σ σ':St}{o:Oper}{s t:TypeId}{x:Operand}(ho:o.op= .convert s t x){v:Value}(h:mF P σ s t x=some (v,σ')):fF P o σ v σ':=by
 intro ρ0 h0 w0 ρ a w I F;unfold mF at h;split at h;rotate_left
 .cases h
 rename_i e hs;split at h;rotate_left
 .cases h
 rename_i ad len c ht he hx;split at h;rotate_left
 .cases h
 rename_i hpos;split at h;rotate_left
 .cases h
 rename_i l hl;split at h;rotate_left
 .cases h
 rename_i bs hbs;simp only[av,bM]at h;obtain⟨rfl,rfl⟩:=h;have hv:=(dD I F hx).cn rfl;rcases hv.nS with⟨a',hl0,_⟩|⟨b,off,pl,cap,rfl,hk,hc,hn,hv'⟩
 .omega
 .obtain⟨q1,l',q2,q3,q4⟩:=sr I (ad:=⟨b,off,none⟩) hk hl;have hll:l'=bs.map mu:=by
   rw[W5 hbs]at q3 q1;apply List.ext_getElem?;intro i;cases hi:(bs.map mu)[i]? with
   |none=>
    have:bs.length<=i:=by
     rcases Nat.lt_or_ge i bs.length with z|z
     .rw[aq (by simpa using z)]at hi;cases hi
     .exact z
    rw[iT (by rw[q2,<-q1,cf];exact this)]
   |some u=>
    obtain⟨v',e1,e2⟩:=q3 i u hi;rw[e1];rw[fx]at hi;cases hb:bs[i]? with
    |none=>rw[hb]at hi;cases hi
    |some b=>
     rw[hb]at hi;simp only[fV,av]at hi;subst hi;cases e2;rfl
  have hrun:=run_loadCells_list (P:=P) w ⟨pl.B,pl.o+off,none⟩ l' q4;rw[q2,hll]at hrun;have bN:=run_bytesToString (P:=P) w ⟨pl.B,pl.o+off,none⟩ len cap (bs.map λb=>(b.toNat:Int)) (by rw[hrun,vx];rfl);rw[ZD]at bN;refine⟨.value (.string ⟨⟨bs⟩⟩),_,w,ρ,?_,rfl,I,F,.gG rfl,λ_ _=>⟨rfl,λ_=>rfl⟩⟩;simp only[execOp,ho,hv',Sem.run_bind,run_convert_bytes_string w s t e _ _ _ hs he ht,bN];rfl
def pA(P:Program)(σ:St)(dT:TypeId)(d s:Operand):Option (Value×St):=match P.underlying dT,aN σ d,aN σ s with
 |some (.slice e),some (.slice (some ad) len _),some (.string str)=>match dj P e,σ.m.row? (key ad)with
  |some 1,some (true,e',cs)=>if 0<len/\str.size<=len/\ad.off+str.size<=cs.length then
    some (.int .i64 (str.size:Int),⟨σ.t,σ.m.setRow (key ad) e' (lx cs ad.off (str.data.toList.map mu))⟩)else none
  |_,_=>none
 |_,_,_=>none
def aif{σ σ':St}{o:Oper}{dT u:TypeId}{d s:Operand}(ho:o.op= .call {callee:=.builtin .copy,args:=#[d,s],argTypes:=#[dT,u]}){v:Value}(h:pA P σ dT d s=some (v,σ')):fF P o σ v σ':=by
 intro ρ0 h0 w0 ρ a w I F;unfold pA at h;split at h;rotate_left
 .cases h
 rename_i e ad len c str hu hd hs;split at h;rotate_left
 .cases h
 rename_i e' cs hsz hr;split at h;rotate_left
 .cases h
 rename_i hcond;obtain⟨hpos,hle,hin⟩:=hcond;simp only[av,bM]at h;obtain⟨rfl,rfl⟩:=h;have hv:=(dD I F hd).cn rfl;have hsv:=(dD I F hs).cB rfl;rcases hv.nS with⟨a',hl0,_⟩|⟨b,off,pl,cap,rfl,hk,hc,hn,hv'⟩
 .omega
 .obtain⟨C,e2,fz,c1,c2,c3,c4,c5,c6⟩:=I.rel.row _ _ _ _ _ hk hr;obtain rfl:=c2 rfl;have hbl:(str.data.toList.map mu).length=str.size:=by rw[cf];rfl
  have hst:=run_storeCells_at P pl.B (pl.o+off) e2 (str.data.toList.map mu) 0 C w c1 (by rw[hbl];simp only at hin;omega) (λz hz=>by
   obtain⟨b,_,rfl⟩:=dO.1 hz;rfl)
  simp only[ie]at hst;have hmin:Nat.min str.size len=str.size:=Nat.min_eq_left hle;refine⟨.value (.int .i64 (str.size:Int)),_,w.setRow pl.B (C.toList.take (pl.o+off)++(str.data.toList.map mu)++C.toList.drop (pl.o+off+(str.data.toList.map mu).length)).toArray,ρ,?_,rfl,I.putRow hk hr (ds:=lx cs off (str.data.toList.map mu)) (by simp only at hin;unfold lx;simp only[bH,dh,eX,hbl];omega)
   (zg w pl.B _) (setRow_size w pl.B _) (λB hB=>rO w pl.B _ hB) (zd w pl.B _ c1) ?_ ?_,F,.gG rfl,λs' _=>⟨rfl,λhn=>rfl⟩⟩
  .have hx:(str.extract 0 str.size).data.toList.map (λb:UInt8=>Value.int IntKind.u8 (b.toNat:Int))=str.data.toList.map mu:=by
    have:str.extract 0 str.size=str:=(by simp);rw[this];rfl
   have hl1:(str.extract 0 str.size)=str:=by simp
   simp only[execOp,ho,resolve,invoke,builtin,hv',hsv]
   simp[Builtin.copy_,run_underlying hu,Builtin.lenOf,run_sizeOf hsz,Builtin.firstCells,hmin,hv',hsv]
   have htk:List.take str.size (List.map (λb:UInt8=>Value.int IntKind.u8 (b.toNat:Int)) str.data.toList)=str.data.toList.map mu:=by
    rw[b9 (by rw[cf];exact aX _)];rfl
   rw[htk,hst,hbl]
   simp[Result.andThen,goInt]
  .simp only[List.size_toArray,bH,dh,eX,Array.length_toList,hbl];simp only at hin;omega
  .exact zh rfl (by rw[hbl];exact hin) c3 c4 c6 (λi v hi=>by
    rw[fx]at hi;cases hb:str.data.toList[i]? with
    |none=>rw[hb]at hi;cases hi
    |some b=>
     rw[hb]at hi;simp only[fV,av]at hi;subst hi;exact⟨mu b,by rw[fx,hb];rfl,.int _ _⟩)
def ah8{σ:St}{s t:TypeId}{x:Operand}(h:(match P.underlying s with
  |some (.slice _)=>false
  |_=>true)=true):mF P σ s t x=none:=by
 unfold mF;split
 .rename_i e he;rw[he]at h;cases h
 .rfl
def Qi{σ σ':St}{s t:TypeId}{x:Operand}{v:Value}(h:mF P σ s t x=some (v,σ')):σ'=σ:=by
 unfold mF at h;split at h<;>first|(cases h;done)|(split at h<;>first|(cases h;done)|(split at h<;>first|(cases h;done)|(split at h<;>first|(cases h;done)|(split at h<;>first|(cases h;done)|(simp at h;exact h.2.symm)))))
def ah7{T T':Fr}{m:Mem}{s t:TypeId}{x:Operand}(h:aN ⟨T',m⟩ x=aN ⟨T,m⟩ x):mF P ⟨T',m⟩ s t x=(mF P ⟨T,m⟩ s t x).map λp=>(p.1,⟨T',p.2.m⟩):=by
 simp only[mF,h];split<;>first|rfl|(split<;>first|rfl|(split<;>first|rfl|(split<;>first|rfl|(split<;>rfl))))
def aid{T T':Fr}{m:Mem}{t:TypeId}{x y:Operand}(h:aN ⟨T',m⟩ x=aN ⟨T,m⟩ x)(h2:aN ⟨T',m⟩ y=aN ⟨T,m⟩ y):pA P ⟨T',m⟩ t x y=(pA P ⟨T,m⟩ t x y).map λp=>(p.1,⟨T',p.2.m⟩):=by
 simp only[pA,h,h2];split<;>first|rfl|(split<;>first|rfl|(split<;>rfl))
def aie{σ σ':St}{t:TypeId}{x y:Operand}{v:Value}(h:pA P σ t x y=some (v,σ')):σ'.m.h.g=σ.m.h.g:=by
 have hset:∀(m:Mem)(k:Key)(e:TypeId)(cs:List Value),(m.setRow k e cs).h.g=m.h.g:=λm k e cs=>by obtain⟨t,b⟩:=k;cases t<;>rfl
 unfold pA at h;split at h<;>first|(cases h;done)|(split at h<;>first|(cases h;done)|(split at h<;>first|(cases h;done)|(simp at h;rw[<-h.2];exact hset _ _ _ _)))
end
section
variable {P:Program} {ρ0 ρ ρ':aH} {h0:aa} {w0 w:World} {m:Mem}
def s7(P:Program)(σ:St)(t:TypeId)(x:Operand):Option (Value×St):=match P.underlying t,aN σ x with
 |some (.map _ _),some (.map (some b))=>match σ.m.h.f b with
  | .obj (.map _ clock)=>some (.pointer (some ⟨σ.m.h.n,0,none⟩),⟨σ.t,⟨σ.m.x,σ.m.h.new (.obj (.mapIter (some b) clock #[] clock))⟩⟩)
  |_=>none
 |_,_=>none
def aix{σ σ':St}{o:Oper}{t:TypeId}{x:Operand}(ho:o.op= .range t x){v:Value}(h:s7 P σ t x=some (v,σ')):fF P o σ v σ':=by
 intro ρ0 h0 w0 ρ a w I F;unfold s7 at h;split at h;rotate_left
 .cases h
 rename_i kt et b ht hx;split at h;rotate_left
 .cases h
 rename_i es clock hb;simp only[av,bM]at h;obtain⟨rfl,rfl⟩:=h;obtain⟨plm,hk,hv⟩:=(dD I F hx).mp;obtain⟨hobj,ho0⟩:=I.rel.obj b plm _ hk hb;have hobj:w.heap[plm.B]? =some (.map es clock):=hobj;have hget:(getObj plm.B).run P w= .ok (.map es clock) w:=by simp[getObj,Sem.run,hobj]
 have hfit:Fits P ρ (.obj (.mapIter (some b) clock #[] clock)) (.mapIter (some plm.B) clock #[] clock) ⟨w.heap.size,0,0,0⟩:=.iter b plm clock #[] clock _ _ hk;refine⟨.value (.pointer (some ⟨w.heap.size,0,none⟩)),_,w.alloc (.mapIter (some plm.B) clock #[] clock),_,?_,rfl,I.rA hfit rfl,F.mono (λb pl q=>?_) (λs=>aH.df _ _ (by simp)),?_,λs' _=>⟨aH.df _ _ (by simp),λ_=>rfl⟩⟩
 .simp[execOp,ho,Instr.range,run_underlying ht,hv,hget]
 .rw[aH.df];exact q;intro z;simp only[bM,true_and]at z;subst z;exact Nat.lt_irrefl _ (I.rel.dX _ _ q)
 .have:=VT.uQ (ρ:=ρ.gz (false,σ.m.h.n) ⟨w.heap.size,0,0,0⟩) (ad:=⟨σ.m.h.n,0,none⟩) (pl:=⟨w.heap.size,0,0,0⟩) (by simp[key,aH.gz]);simpa using this
def sS(σ:St)(x:Operand):Option (Value×St):=match aN σ x with
 |some (.pointer (some ⟨b,0,none⟩))=>match σ.m.h.f b with
  | .obj (.mapIter (some mb) _ seen stepped)=>match seen.back?,σ.m.h.f mb with
   |some stamp,.obj (.map es clock)=>match es.find? (λe=>e.born==stamp)with
    |some e=>if clock=stepped/\dz e.key=true/\dz e.val=true then some (.tuple #[e.key,e.val],σ)else none
    |none=>none
   |_,_=>none
  |_=>none
 |_=>none
def aih{σ σ':St}{o:Oper}{x:Operand}(ho:o.op= .entry x){v:Value}(h:sS σ x=some (v,σ')):fF P o σ v σ':=by
 intro ρ0 h0 w0 ρ a w I F;unfold sS at h;split at h;rotate_left
 .cases h
 rename_i b hx;split at h;rotate_left
 .cases h
 rename_i mb since seen stepped hb;split at h;rotate_left
 .cases h
 rename_i stamp es clock hback hm;split at h;rotate_left
 .cases h
 rename_i e he;split at h;rotate_left
 .cases h
 rename_i hc;obtain⟨hc1,hc2,hc3⟩:=hc;simp only[av,bM]at h;obtain⟨rfl,rfl⟩:=h;obtain⟨pl,hk,hv⟩:=(dD I F hx).ptr;have hk:ρ (false,b)=some pl:=hk;obtain⟨⟨plm,hkm,hobj⟩,ho0⟩:=I.rel.obj b pl _ hk hb;obtain⟨hobm,hom0⟩:=I.rel.obj mb plm _ hkm hm;have hobm:w.heap[plm.B]? =some (.map es clock):=hobm;have hv0:a.eval x= .pointer (some ⟨pl.B,0,none⟩):=by simp[hv,ho0]
 have hget:(getObj pl.B).run P w= .ok (.mapIter (some plm.B) since seen stepped) w:=by simp[getObj,Sem.run,hobj]
 have hgetm:(getObj plm.B).run P w= .ok (.map es clock) w:=by simp[getObj,Sem.run,hobm]
 refine⟨.value (.tuple #[e.key,e.val]),_,w,ρ,?_,rfl,I,F,.gG ?_,λ_ _=>⟨rfl,λ_=>rfl⟩⟩
 .simp[execOp,ho,Instr.entry,hv0,hget,hgetm,hback,he,hc1]
 .simp[cB,hc2,hc3]
structure CL where
 x:Operand
 b:Nat
 mb:Nat
 since:Nat
 seen:Array Nat
 last:Nat
 es:Array MapEntry
 clock:Nat
def yF(σ:St)(o:Oper):Option CL:=match o.op with
 | .next x false=>match aN σ x with
  |some (.pointer (some ⟨b,0,none⟩))=>match σ.m.h.f b with
   | .obj (.mapIter (some mb) since seen last)=>match σ.m.h.f mb with
    | .obj (.map es clock)=>some ⟨x,b,mb,since,seen,last,es,clock⟩
    |_=>none
   |_=>none
  |_=>none
 |_=>none
def PN{σ:St}{o:Oper}{p:CL}(h:yF σ o=some p):o.op= .next p.x false/\aN σ p.x=some (.pointer (some ⟨p.b,0,none⟩))/\σ.m.h.f p.b= .obj (.mapIter (some p.mb) p.since p.seen p.last)/\σ.m.h.f p.mb= .obj (.map p.es p.clock):=by
 unfold yF at h;split at h<;>first|(cases h;done)|skip;split at h<;>first|(cases h;done)|skip;split at h<;>first|(cases h;done)|skip;split at h<;>first|(cases h;done)|skip;obtain rfl:=bU h;exact⟨‹_›,‹_›,‹_›,‹_›⟩
def pk(σ:St)(o:Oper)(K:Value->St->Prop):Prop:=match yF σ o with
 |some p=>p.since<=p.last/\(∀e∈p.es.toList,e.born<p.since/\dz e.key=true/\dz e.val=true)/\((∀e∈p.es.toList,p.seen.contains e.born=true)->K (.tuple #[.bool false]) σ)/\
   ∀e∈p.es.toList,p.seen.contains e.born=false->K (.tuple #[.bool true,e.key,e.val]) ⟨σ.t,⟨σ.m.x,σ.m.h.set p.b (.obj (.mapIter (some p.mb) p.since (p.seen.push e.born) p.clock))⟩⟩
 |none=>False
def acw{σ:St}{o:Oper}{K K':Value->St->Prop}(hk:∀v σ,K v σ->K' v σ)(h:pk σ o K):pk σ o K':=by
 unfold pk at h ⊢;split
 .rename_i p q;rw[q]at h;exact⟨h.1,h.2.1,λq=>hk _ _ (h.2.2.1 q),λe he q=>hk _ _ (h.2.2.2 e he q)⟩
 .rename_i q;rw[q]at h;exact h.elim
def acv{σ:St}{o:Oper}{K:Value->St->Prop}(h:pk σ o K)(I:Inv P ρ0 h0 w0 ρ σ.m w){a:Act}(F:fu ρ σ.t a.tmps):
  ∃nx v v' m' w',(execOp a.eval o).run P w= .ok nx w'/\tb nx=some v'/\Inv P ρ0 h0 w0 ρ m' w'/\VT ρ v v'/\K v ⟨σ.t,m'⟩:=by
 unfold pk at h;split at h<;>first|exact h.elim|skip;rename_i p hp;obtain⟨x,b,mb,since,seen,last,es,clock⟩:=p;obtain⟨ho,hx,hb,hm⟩:=PN hp;simp only at ho hx hb hm h;obtain⟨hsl,aJ,hend,hgo⟩:=h;obtain⟨pl,hk,hv⟩:=(dD I F hx).ptr;have hk:ρ (false,b)=some pl:=hk;obtain⟨⟨plm,hkm,hobj⟩,ho0⟩:=I.rel.obj b pl _ hk hb;obtain⟨hobm,hom0⟩:=I.rel.obj mb plm _ hkm hm;have hobm:w.heap[plm.B]? =some (.map es clock):=hobm;have hv0:a.eval x= .pointer (some ⟨pl.B,0,none⟩):=by simp[hv,ho0]
 have hget:(getObj pl.B).run P w= .ok (.mapIter (some plm.B) since seen last) w:=by simp[getObj,Sem.run,hobj]
 have hgetm:(getObj plm.B).run P w= .ok (.map es clock) w:=by simp[getObj,Sem.run,hobm]
 obtain⟨left,hleft⟩:∃left,left=es.filter λe=> !seen.contains e.born:=⟨_,rfl⟩;have hold:left.filter (λe=>decide (e.born<since))=left:=by
  rw[Array.filter_eq_self];intro e he;rw[hleft]at he;exact decide_eq_true (aJ e (by simpa using(Array.mem_filter.1 he).1)).1
 have hnew:left.filter (λe=>decide (e.born≥since))= #[]:=by
  rw[Array.filter_eq_empty_iff];intro e he;rw[hleft]at he;have:=(aJ e (by simpa using(Array.mem_filter.1 he).1)).1;simp;omega
 have hcond:(!seen.isEmpty&& !es.isEmpty&&es.all (λe=>decide (e.born≥last)))=false:=by
  rcases Nat.eq_zero_or_pos es.size with q|q
  .have:es= #[]:=Array.eq_empty_of_size_eq_zero q;subst this;simp
  .have hq:es.all (λe=>decide (e.born≥last))=false:=by
    rw[Bool.eq_false_iff];intro hh;rw[Array.all_eq_true]at hh;have h1:=hh 0 q;have h2:=(aJ es[0] (by simp)).1;simp at h1;omega
   rw[hq,Bool.and_false]
 have hset:∀(o':Obj)(w1:World),w1.heap=w.heap->(setObj pl.B o').run P w1= .ok () {w1 with heap:=w1.heap.setIfInBounds pl.B o'}:=λo' w1 hw1=>by simp[setObj,Sem.run,hw1,hobj]
 have hex:execOp a.eval o=(do let r <-Instr.next (.pointer (some ⟨pl.B,0,none⟩)) false o.type;pure (Next.value r)):=by simp only[execOp,ho,hv0]
 have hnext:Instr.next (.pointer (some ⟨pl.B,0,none⟩)) false o.type=(do
   match<-getObj pl.B,false with
   | .stringIter s pos,true=>
    if pos<s.size then
     let (c,width):=Utf8.decode s pos
     setObj pl.B (.stringIter s (pos+width))
     pure (.tuple #[.bool true,goInt pos,.int .i32 c])
    else pure (.tuple #[.bool false])
   | .mapIter none _ _ _,false=>pure (.tuple #[.bool false])
   | .mapIter (some m) since seen last,false=>
    let .map es clock <-getObj m|stuck "Next: map expected"
    if !seen.isEmpty&& !es.isEmpty&&es.all (·.born≥last)then
     unsupported (.noEntry "instr/Next: every entry that the ranged map held at the last iteration is gone, and it holds new ones")
    let left:=es.filter λe=> !seen.contains e.born
    let old:=left.filter (·.born<since)
    let new:=left.filter (·.born≥since)
    let candidates:=(if old.isEmpty then #[none]else #[])++(old++new).map some
    match candidates[<-choose (.mapNext candidates.size)]? with
    |some (some e)=>
     setObj pl.B (.mapIter (some m) since (seen.push e.born) clock)
     pure (.tuple #[.bool true,e.key,e.val])
    |some none=>pure (.tuple #[.bool false])
    |none=>stuck "Next: no such candidate"
   |_,_=>stuck "Next: iterator of the other kind"):=rfl
 have hstep:(Instr.next (.pointer (some ⟨pl.B,0,none⟩)) false o.type).run P w=(do
    let candidates:=(if left.isEmpty then #[none]else #[])++left.map some
    match candidates[<-choose (.mapNext candidates.size)]? with
    |some (some e)=>
     setObj pl.B (.mapIter (some plm.B) since (seen.push e.born) clock)
     pure (Value.tuple #[.bool true,e.key,e.val])
    |some none=>pure (.tuple #[.bool false])
    |none=>stuck "Next: no such candidate":Sem Value).run P w:=by
  rw[hnext];simp only[Sem.run_bind,hget,Result.andThen_ok,hgetm,hcond,fw,if_false,<-hleft,hold,hnew,Array.append_empty]
 have hch:∀(n:Nat)(k:Nat->Sem Value),0<n->∃j w1,j<n/\(choose (.mapNext n) >>= k).run P w=(k j).run P w1/\(w1=w∨w1=w.drew):=by
  intro n k hn;by_cases hf:n<=1
  .refine⟨0,w,hn,?_,.inl rfl⟩;show(Sem.choose (.mapNext n) λx=>(Sem.pure x).bind k).run P w=_;rw[Sem.run,if_pos (by simp[Question.forced,hf])];rfl
  .refine⟨(Question.mapNext n).cut (w.tape w.drawn (.mapNext n)),w.drew,Nat.mod_lt _ hn,?_,.inr rfl⟩;show(Sem.choose (.mapNext n) λx=>(Sem.pure x).bind k).run P w=_;rw[Sem.run,if_neg (by simp[Question.forced];omega)];rfl
 rw[hex];simp only[Sem.run_bind];by_cases hl:left.isEmpty=true
 .have hle:left= #[]:=by simpa using hl
  refine⟨.value (.tuple #[.bool false]),.tuple #[.bool false],.tuple #[.bool false],σ.m,w,?_,rfl,I,.gG rfl,hend λe he=>?_⟩
  .have hc:((if(#[]:Array MapEntry).isEmpty then #[none]else #[])++(#[]:Array MapEntry).map some)=(#[none]:Array (Option MapEntry)):=(by simp);rw[hstep,hle];simp only[hc];rfl
  .have:=Array.filter_eq_empty_iff.1 (hleft.symm.trans hle) e (by simpa using he);simpa using this
 .have hn:0<(left.map some).size:=by
   rw[Array.size_map];rcases Nat.eq_zero_or_pos left.size with q|q
   .exact absurd (by simp[Array.eq_empty_of_size_eq_zero q]) hl
   .exact q
  obtain⟨j,w1,hj,hr,hw1⟩:=hch (left.map some).size (λj=>match(left.map some)[j]? with
    |some (some e)=>do
     setObj pl.B (.mapIter (some plm.B) since (seen.push e.born) clock)
     pure (Value.tuple #[.bool true,e.key,e.val])
    |some none=>pure (.tuple #[.bool false])
    |none=>stuck "Next: no such candidate") hn
  rw[Array.size_map]at hj
  have hmem:left[j]∈es.toList:=by
   have:left[j]∈left:=Array.getElem_mem hj;have h2:left[j]∈es.filter λe=> !seen.contains e.born:=(by rw[<-hleft];exact this);simpa using(Array.mem_filter.1 h2).1
  have hns:seen.contains left[j].born=false:=by
   have:left[j]∈left:=Array.getElem_mem hj;have h2:left[j]∈es.filter λe=> !seen.contains e.born:=(by rw[<-hleft];exact this);simpa using(Array.mem_filter.1 h2).2
  have hI1:Inv P ρ0 h0 w0 ρ σ.m w1:=by
   rcases hw1 with e|e
   .rw[e];exact I
   .rw[e];exact I.drew
  have hh1:w1.heap=w.heap:=by rcases hw1 with e|e<;>rw[e]<;>rfl
  obtain⟨_,hf1,hf2⟩:=aJ _ hmem
  have hflat:VT ρ (.tuple #[.bool true,left[j].key,left[j].val]) (.tuple #[.bool true,left[j].key,left[j].val]):=.gG (by
   show[Value.bool true,left[j].key,left[j].val].all dz=true;rw[List.all_cons,List.all_cons,List.all_cons,hf1,hf2];rfl)
  refine⟨.value (.tuple #[.bool true,left[j].key,left[j].val]),.tuple #[.bool true,left[j].key,left[j].val],.tuple #[.bool true,left[j].key,left[j].val],_,_,?_,rfl,hI1.Rm hk hb (.mapIter (some mb) since (seen.push left[j].born) clock) (.mapIter (some plm.B) since (seen.push left[j].born) clock) ⟨plm,hkm,rfl⟩,hflat,hgo _ hmem hns⟩
  rw[hstep]
  rw[if_neg hl]
  simp only[Array.empty_append]
  rw[hr]
  have hge:(left.map some)[j]? =some (some left[j]):=by rw[Array.getElem?_map,Array.getElem?_eq_getElem hj];rfl
  rw[hge]
  simp only[Sem.run_bind,hset _ w1 hh1,Result.andThen_ok,Sem.run_pure]
end
section
variable {P:Program} {ρ0 ρ ρ':aH} {h0:aa} {w0 w:World} {m:Mem}
def pz(P:Program)(σ:St)(t:TypeId)(x:Operand):Option (Value×St):=match gu P t with
 |some (e,sz)=>match eg P e,aN σ x with
  |some _,some (.slice none 0 0)=>some (.tuple #[],σ)
  |some zl,some (.slice (some ad) len _)=>if len=0 then some (.tuple #[],σ)else match σ.m.row? (key ad)with
   |some (true,e',cs)=>if zl.length=sz/\ad.off+len*sz<=cs.length then some (.tuple #[],⟨σ.t,σ.m.setRow (key ad) e' (lx cs ad.off (gY zl sz len))⟩)else none
   |_=>none
  |_,_=>none
 |none=>none
def aoR(z:List Value)(s n:Nat):(gY z s n).length=n*s:=by simp[gY]
def aoQ{z:List Value}{s n:Nat}(hl:z.length=s)(h:∀v∈z,dz v=true):∀v∈gY z s n,dz v=true:=by
 intro v hv;rw[gY,dO]at hv;obtain⟨i,hi,rfl⟩:=hv;rw[dF]at hi;have hs:0<s:=by
  rcases Nat.eq_zero_or_pos s with q|q
  .subst q;simp at hi
  .exact q
 have:i % s<z.length:=by rw[hl];exact Nat.mod_lt _ hs
 rw[bu,aq this];exact h _ (fG this)
def aoP{z:List Value}{s:Nat}(hl:z.length=s)(n:Nat):(Builtin.zeroCells ⟨z⟩ n).toList=gY z s n:=by
 simp only[Builtin.zeroCells,Array.toList_map,Array.toList_range,gY,List.size_toArray,hl];apply List.map_congr_left;intro j hj;rw[dF]at hj;have hs:0<s:=by
  rcases Nat.eq_zero_or_pos s with q|q
  .subst q;simp at hj
  .exact q
 have:j % s<z.length:=by rw[hl];exact Nat.mod_lt _ hs
 simp[bu,aq this]
def aic{σ σ':St}{o:Oper}{t:TypeId}{x:Operand}(ho:o.op= .call {callee:=.builtin .clear,args:=#[x],argTypes:=#[t]}){v:Value}(h:pz P σ t x=some (v,σ')):fF P o σ v σ':=by
 intro ρ0 h0 w0 ρ a w I F;unfold pz at h;split at h;rotate_left
 .cases h
 rename_i e sz he;obtain⟨ht,hs⟩:=sy he;split at h
 .rename_i zl hz hx;simp only[av,bM]at h;obtain⟨rfl,rfl⟩:=h;have hv:=(dD I F hx).cB rfl;refine⟨.value (.tuple #[]),_,w,ρ,?_,rfl,I,F,.gG rfl,λ_ _=>⟨rfl,λ_=>rfl⟩⟩;simp[execOp,ho,resolve,invoke,builtin,hv,Builtin.clear_,run_underlying ht]
 .rename_i zl ad len c hz hx;have hv:=(dD I F hx).cn rfl;split at h
  .rename_i hl0;subst hl0;simp only[av,bM]at h;obtain⟨rfl,rfl⟩:=h;refine⟨.value (.tuple #[]),_,w,ρ,?_,rfl,I,F,.gG rfl,λ_ _=>⟨rfl,λ_=>rfl⟩⟩;generalize hx':a.eval x=x' at hv;cases hv with
   |pH=>simp[execOp,ho,resolve,invoke,builtin,hx',Builtin.clear_,run_underlying ht]
   |sl=>simp[execOp,ho,resolve,invoke,builtin,hx',Builtin.clear_,run_underlying ht]
  .rename_i hl0;split at h;rotate_left
   .cases h
   rename_i e' cs hr;split at h;rotate_left
   .cases h
   rename_i hcond;obtain⟨hzl,hin⟩:=hcond;simp only[av,bM]at h;obtain⟨rfl,rfl⟩:=h;rcases hv.nS with⟨a',hl1,_⟩|⟨b,off,pl,cap,rfl,hk,hc,hn,hv'⟩
   .exact absurd hl1 hl0
   .obtain⟨zv,hzc,hzf,hzr⟩:=va hz;obtain⟨C,e2,fz,c1,c2,c3,c4,c5,c6⟩:=I.rel.row _ _ _ _ _ hk hr;obtain rfl:=c2 rfl;simp only at hin;have hlen:=aoR zl sz len;have hfl:=aoQ (n:=len) hzl hzf;have hst:=run_storeCells_at P pl.B (pl.o+off) e2 (gY zl sz len) 0 C w c1 (by rw[hlen];omega) (λz hz=>by
     have:=hfl z hz;unfold dz at this;split at this<;>first|rfl|(cases this))
    simp only[ie]at hst;refine⟨.value (.tuple #[]),_,w.setRow pl.B (C.toList.take (pl.o+off)++(gY zl sz len)++C.toList.drop (pl.o+off+(gY zl sz len).length)).toArray,ρ,?_,rfl,I.putRow hk hr (ds:=lx cs off (gY zl sz len)) (by unfold lx;simp only[bH,dh,eX,hlen];omega)
     (zg w pl.B _) (setRow_size w pl.B _) (λB hB=>rO w pl.B _ hB) (zd w pl.B _ c1) ?_ ?_,F,.gG rfl,λs' _=>⟨rfl,λhn=>rfl⟩⟩
    .obtain⟨n,rfl⟩:∃n,len=n+1:=⟨len-1,by omega⟩;have hzz:(Builtin.zeroCells zv.cells (n+1)).toList=gY zl sz (n+1):=(by rw[hzc];exact aoP hzl _);simp[execOp,ho,resolve,invoke,builtin,hv',Builtin.clear_,run_underlying ht,hzr,hzz,hst,Result.andThen]
    .simp only[List.size_toArray,bH,dh,eX,Array.length_toList,hlen];omega
    .exact zh rfl (by rw[hlen];exact hin) c3 c4 c6 (λi v hi=>⟨v,hi,.sN (hfl v (dE hi))⟩)
 .cases h
def aia{T T':Fr}{m:Mem}{t:TypeId}{x:Operand}(h:aN ⟨T',m⟩ x=aN ⟨T,m⟩ x):pz P ⟨T',m⟩ t x=(pz P ⟨T,m⟩ t x).map λp=>(p.1,⟨T',p.2.m⟩):=by
 simp only[pz,h];split<;>first|rfl|(split<;>first|rfl|(split<;>first|rfl|(split<;>first|rfl|(split<;>rfl))))
def aib{σ σ':St}{t:TypeId}{x:Operand}{v:Value}(h:pz P σ t x=some (v,σ')):σ'.m.h.g=σ.m.h.g:=by
 have hset:∀(m:Mem)(k:Key)(e:TypeId)(cs:List Value),(m.setRow k e cs).h.g=m.h.g:=λm k e cs=>by obtain⟨t,b⟩:=k;cases t<;>rfl
 unfold pz at h;split at h<;>first|(cases h;done)|(split at h<;>first|(cases h;done)|(simp at h;rw[h.2];done)|(split at h<;>first|(cases h;done)|(simp at h;rw[h.2];done)|(split at h<;>first|(cases h;done)|(split at h<;>first|(cases h;done)|(simp at h;rw[<-h.2];exact hset _ _ _ _)))))
end
section
variable {P:Program} {ρ0 ρ ρ':aH} {h0:aa} {w0 w:World} {m:Mem}
def dq(P:Program)(σ:St)(o:Oper):Option (Value×St):=match tg P σ o with
 |some v=>some (v,σ)
 |none=>none
def vg(P:Program)(σ:St)(o:Oper)(c:Call):Option (Value×St):=
 match c.callee with
 | .builtin .len=>match c.args.toList,c.argTypes.toList with
  |[x],[t]=>sX P σ t x
  |_,_=>none
 | .builtin .append=>match c.args.toList,c.argTypes.toList with
  |[s,x],[t,u]=>dC P σ t u s x
  |_,_=>none
 | .builtin .copy=>match c.args.toList,c.argTypes.toList with
  |[d,s],[t,_]=>pA P σ t d s
  |_,_=>none
 | .builtin .clear=>match c.args.toList,c.argTypes.toList with
  |[x],[t]=>pz P σ t x
  |_,_=>none
 |_=>dq P σ o
def cU(P:Program)(loc:List Nat)(σ:St)(o:Oper):Option (Value×St):=
 match o.op with
 | .move x=>oH σ x
 | .assign x=>oH σ x
 | .pick c x y=>s6 σ c x y
 | .load t x=>sY P σ t x
 | .store t x y=>s8 P σ t x y
 | .alloc t=>sQ P loc σ o.dst t
 | .box t x=>sR loc σ o.dst t x
 | .build t parts=>fX P σ t parts
 | .buildSlice t n parts=>aM P σ t n parts
 | .fieldAddr s x f=>sV P σ s x f
 | .field s x f=>sU P σ s x f
 | .indexAddr t x i=>sW P σ t x i
 | .extract x k=>sT σ x k
 | .makeInterface t x=>qg P σ t x
 | .makeFunc fn a b=>sZ σ fn a b
 | .slice t x lo hi none=>match P.underlying t with
  |some .string=>dq P σ o
  |_=>rE P σ t x lo hi
 | .nilCheck x=>s5 σ x
 | .makeSlice t a b=>oF P σ t a b
 | .range t x=>(match nM P σ t x with
  |some r=>some r
  |none=>s7 P σ t x)
 | .entry x=>sS σ x
 | .next x true=>rD σ x
 | .next _ false=>none
 | .makeMap t r=>qj P σ t r
 | .lookup t x i ok=>pB P σ t x i ok
 | .mapUpdate t x i y=>oG P σ t x i y
 | .insert t x i y=>oG P σ t x i y
 | .call c=>vg P σ o c
 | .binOp op t x y _=>(match mG P σ op t x y with
  |some r=>some r
  |none=>dq P σ o)
 | .convert s t x=>(match mF P σ s t x with
  |some r=>some r
  |none=>dq P σ o)
 |_=>dq P σ o
def wL{σ σ':St}{o:Oper}{v:Value}(h:dq P σ o=some (v,σ')):fF P o σ v σ':=by
 unfold dq at h;split at h
 .rename_i u hu;simp only[av,bM]at h;obtain⟨rfl,rfl⟩:=h;exact ajj hu
 .simp at h
def Ry{loc:List Nat}{σ σ':St}{o:Oper}{v:Value}(h:cU P loc σ o=some (v,σ')):fF P o σ v σ':=by
 unfold cU at h;split at h
 .exact Qk (.inl ‹_›) h
 .exact Qk (.inr ‹_›) h
 .exact aiw ‹_› h
 .exact ain ‹_› h
 .exact aiA ‹_› h
 .exact ah2 ‹_› h
 .exact ah4 ‹_› h
 .exact ah6 ‹_› h
 .exact ah5 ‹_› h
 .exact aij ‹_› h
 .exact aik ‹_› h
 .exact ail ‹_› h
 .exact aii ‹_› h
 .exact aiq ‹_› h
 .exact aip ‹_› h
 .rename_i ho;split at h
  .exact wL h
  .exact aiz ho h
 .exact aiv ‹_› h
 .exact ais ‹_› h
 .rename_i ho;split at h
  .rename_i r hr;exact aiy ho (hr.trans h)
  .exact aix ho h
 .exact aih ‹_› h
 .exact ait ‹_› h
 .cases h
 .exact air ‹_› h
 .exact aio ‹_› h
 .exact Qj (.inl ‹_›) h
 .exact Qj (.inr ‹_›) h
 .rename_i c ho;obtain⟨callee,⟨args⟩,⟨tys⟩⟩:=c;unfold vg at h;simp only at h;split at h
  .split at h
   .exact aim ho h
   .simp at h
  .split at h
   .exact ah3 ho h
   .simp at h
  .split at h
   .exact aif ho h
   .simp at h
  .split at h
   .exact aic ho h
   .simp at h
  .exact wL h
 .rename_i ho;split at h
  .rename_i r hr;exact aiu ho (hr.trans h)
  .exact wL h
 .rename_i ho;split at h
  .rename_i r hr;exact ah9 ho (hr.trans h)
  .exact wL h
 .exact wL h
def zD(P:Program)(f:FuncId):Prop:=∃fn,P.funcs[f]? =some fn/\fn.body.isNone=false/\(fn.name== "runtime.NumGoroutine")=false
def mX(ρ:aH)(l l':List Value):Prop:=l.length=l'.length/\∀(i:Nat)(v:Value),l[i]? =some v->∃v',l'[i]? =some v'/\VR ρ v v'
def al(P:Program)(f:FuncId)(args:List Value)(h:aa)(post:Value->aa->Prop):Prop:=
 zD P f/\∀(ρ:aH)(w:World)(args':List Value),(∀s,ρ (true,s)=none)->jw P ρ ⟨b8.nil,h⟩ w->mX ρ args args'->
  Calls P f ⟨args'⟩ w λe w'=>∃v v' h' ρ',e= .returned v'/\post v h'/\(∀s,ρ' (true,s)=none)/\jw P ρ' ⟨b8.nil,h'⟩ w'/\Tr ρ h w ρ' h' w'/\VR ρ' v v'
def al.mono{f:FuncId}{args:List Value}{h:aa}{post post':Value->aa->Prop}(H:al P f args h post)(hp:∀v h',post v h'->post' v h'):al P f args h post':=
 ⟨H.1,λρ w args' hb R V=>(H.2 ρ w args' hb R V).mono λ_ _ ⟨v,v',h',ρ',q1,q2,q3⟩=>⟨v,v',h',ρ',q1,hp _ _ q2,q3⟩⟩
def qL(h:aa)(v:Value)(h':aa):Prop:=h'.g=h.g/\cn v=true/\h.n<=h'.n
def VR.KR{v v':Value}(h:VR ρ v v'):cn v=true:=by cases h<;>simp[cn,iM]
def dP(σ:St)(o:Oper):Option (FuncId×List Value):=
 match o.op with
 | .call ⟨.value f,args,_⟩=>match aN σ f,args.toList.mapM (aN σ)with
  |some (.func (.func fid) first cap),some l=>if l.all cn then some (fid,first.toList++l++cap.toList)else none
  |_,_=>none
 |_=>none
def mX.append{l l' k k':List Value}(h:mX ρ l l')(g:mX ρ k k'):mX ρ (l++k) (l'++k'):=by
 refine⟨by simp[h.1,g.1],λi v hi=>?_⟩;have:=Cy (ρ:=ρ) [] h.1 g.1 h.2 g.2 i v hi;simpa using this
def Dy{σ:St}{o:Oper}{f:FuncId}{args:List Value}(h:dP σ o=some (f,args))(hE:zD P f)(I:Inv P ρ0 h0 w0 ρ σ.m w){a:Act}(F:fu ρ σ.t a.tmps):
  ∃args':List Value,mX ρ args args'/\(execOp a.eval o).run P w= .ok (.enter f ⟨args'⟩) w:=by
 unfold dP at h;split at h;rotate_left
 .simp at h
 rename_i fo aS ts ho;split at h;rotate_left
 .simp at h
 rename_i fid first cap l hf hl;split at h;rotate_left
 .simp at h
 rename_i aJ;simp only[av,bM]at h;obtain⟨rfl,rfl⟩:=h;obtain⟨q1,q2⟩:=A7 I F hl aJ;have hv:=(dD I F hf).cn rfl;generalize hx':a.eval fo=x' at hv;cases hv with
 |func fn as1 as1' cs ds ha hl1 h1 h2=>
  refine⟨as1'++aS.toList.map a.eval++ds,mX.append (mX.append ⟨ha,(pL ha).1 h1⟩ ⟨q1,q2⟩) ⟨hl1,(pL hl1).1 h2⟩,?_⟩;obtain⟨fn,e1,e2,e3⟩:=hE;have hargs:(as1'.toArray++aS.map a.eval++ds.toArray)=⟨as1'++aS.toList.map a.eval++ds⟩:=by apply Array.ext';simp
  simp only[execOp,ho,resolve,hx',Deferred.ofValue,pure_bind,invoke,callFunc,Sem.run_bind,run_program,Result.andThen_ok,e1,e3,e2,fw,if_false,Sem.run_pure];rw[<-hargs]
def fS(ops:Array Oper)(T:Fr)(o:Oper):Option Bool:=
 match o.guard with
 |none=>some true
 |some (j,want)=>match(ops[j]?).bind (·.dst)with
  |some d=>match T.get d with
   |some (.bool b)=>some (b==want)
   |some _=>some false
   |none=>none
  |none=>some false
def St.cF(σ:St)(d:Option Nat)(v:Value):St:=match d with
 |some i=>⟨σ.t.put i v,σ.m⟩
 |none=>σ
def gA(P:Program)(loc:List Nat)(ops:Array Oper)(Q:St->Prop):List Oper->St->Prop
 |[],σ=>Q σ
 |o::r,σ=>
  match fS ops σ.t o with
  |none=>False
  |some false=>gA P loc ops Q r (σ.cF o.dst undef)
  |some true=>
   match dP σ o with
   |some (f,args)=>al P f args σ.m.h λv h'=>qL σ.m.h v h'->gA P loc ops Q r (St.cF ⟨σ.t,⟨σ.m.x,h'⟩⟩ o.dst v)
   |none=>match cU P loc σ o with
    |some (v,σ')=>gA P loc ops Q r (σ'.cF o.dst v)
    |none=>pk σ o λv σ'=>gA P loc ops Q r (σ'.cF o.dst v)
def kD(P:Program)(ρ0:aH)(h0:aa)(w0:World)(n:Nat)(σ:St)(a:Act)(w:World):Prop:=
 ∃ρ,Inv P ρ0 h0 w0 ρ σ.m w/\fu ρ σ.t a.tmps/\a.tmps.size=n/\a.defers=[]
def yW{σ:St}{n:Nat}{d:Option Nat}(hd:∀i,d=some i->i<n){a:Act}{v v':Value}(I:Inv P ρ0 h0 w0 ρ σ.m w)(F:fu ρ σ.t a.tmps)(hs:a.tmps.size=n)(hdf:a.defers=[])
  (hv:VT ρ v v'):kD P ρ0 h0 w0 n (σ.cF d v) (a.put d v') w:=by
 cases d with
 |none=>exact⟨ρ,I,F,hs,hdf⟩
 |some i=>exact⟨ρ,I,F.put (by rw[hs];exact hd i rfl) hv,by simp[Act.put,hs],hdf⟩
def VT.acL{v v':Value}(h:VT ρ v v')(hv:∀b,v≠.bool b):∀b,v'≠.bool b:=by
 intro b e;subst e;cases h with
 |val _ _ h=>cases h with|bool b=>exact hv b rfl
def xa{ops:Array Oper}{σ:St}{a:Act}(F:fu ρ σ.t a.tmps){o:Oper}{b:Bool}(h:fS ops σ.t o=some b):Region.wanted o (yielded ops a.tmps)=b:=by
 unfold fS at h;unfold Region.wanted;split at h
 .rename_i hg;rw[hg];simpa using h
 .rename_i j want hg;rw[hg];simp only;split at h
  .rename_i d hd;split at h
   .rename_i b' hb';obtain⟨v',q1,q2⟩:=F _ _ hb';obtain rfl:=q2.cB rfl;simp only[yielded,hd,ep,q1];simpa using h
   .rename_i u hu hnb;obtain⟨v',q1,q2⟩:=F _ _ hnb;have hnb':=q2.acL (λb e=>hu b e);simp only[yielded,hd,ep,q1];cases v'<;>first|(simpa using h)|(exact absurd rfl (hnb' _))
   .simp at h
  .rename_i hd;simp only[yielded,hd,Option.bind_none];simpa using h
def aor{o:Oper}{f:FuncId}{args:List Value}{σ:St}{a:Act}{n:Nat}{Q:St->Prop}{K:Act->World->Prop}{Z:Exit->Act->World->Prop}(hc:dP σ o=some (f,args))
  (H:al P f args σ.m.h λv h'=>qL σ.m.h v h'->Q (St.cF ⟨σ.t,⟨σ.m.x,h'⟩⟩ o.dst v)) (hd:∀i,o.dst=some i->i<n)
  (I:Inv P ρ0 h0 w0 ρ σ.m w) (F:fu ρ σ.t a.tmps) (hs:a.tmps.size=n) (hdf:a.defers=[])
  (hK:∀σ' a' w',Q σ'->kD P ρ0 h0 w0 n σ' a' w'->K a' w'):o.wp P a w K Z:=by
 obtain⟨args',hV,hrun⟩:=Dy hc H.1 I F;unfold Oper.wp;rw[hrun];simp only[Oper.upon];have hcall:=H.2 (ja ρ) w args' (λs=>AN ρ s) I.rel.ja ⟨hV.1,λi v hi=>let ⟨v',q1,q2⟩:=hV.2 i v hi;⟨v',q1,q2.ja⟩⟩;refine hcall.mono ?_;rintro e w' ⟨v,v',h',ρ',rfl,hpost,hbox,hR,hT,hv⟩;simp only;obtain⟨J,j1,j2⟩:=I.call hR hT;refine hK _ _ _ (hpost ⟨hT.hg,hv.KR,hT.hn⟩) (yW (σ:=⟨σ.t,⟨σ.m.x,h'⟩⟩) hd J (F.mono j1 j2) hs hdf (.val _ _ (hv.mono λb pl q=>?_)));simp only[aH.join,fw,if_false];exact q
def an3{loc:List Nat}{ops:Array Oper}{n:Nat}{Q:St->Prop}{Z:Exit->Act->World->Prop}(hZ:∀σ' a' w',Q σ'->kD P ρ0 h0 w0 n σ' a' w'->Z .normal a' w'):
  ∀(l:List Oper)(σ:St)(a:Act)(w:World),(∀o∈l,∀i,o.dst=some i->i<n)->gA P loc ops Q l σ->kD P ρ0 h0 w0 n σ a w->wpList P ops Z l a w:=by
 intro l;induction l with
 |nil=>intro σ a w _ h C;exact hZ _ _ _ h C
 |cons o r ih=>
  intro σ a w hd h C;obtain⟨ρ,I,F,hs,hdf⟩:=C;have hdo:=hd o (by simp);have hdr:=λo' ho'=>hd o' (eI _ ho');unfold wpList;simp only[gA]at h;split at h
  .exact h.elim
  .rename_i hw;rw[if_neg (by rw[xa F hw];simp)];exact ih _ _ _ hdr h (yW hdo I F hs hdf (.gG rfl))
  .rename_i hw;rw[if_pos (xa F hw)];refine .inl ?_;split at h
   .rename_i f args hc;exact aor (Q:=gA P loc ops Q r) hc h hdo I F hs hdf λσ' a' w' h' C'=>ih σ' a' w' hdr h' C'
   .split at h
    .rename_i v σ' hst;obtain⟨nx,v',w',ρ',q1,q2,q3,q4,q5,_⟩:=Ry hst ρ0 h0 w0 ρ a w I F;unfold Oper.wp;rw[q1];cases nx<;>simp only[tb,av]at q2<;>first
      |(subst q2;exact ih _ _ _ hdr h (yW hdo q3 q4 hs hdf q5))
      |(exact absurd q2 (by simp))
    .obtain⟨nx,v,v',m',w',q1,q2,q3,q4,q5⟩:=acv h I F;unfold Oper.wp;rw[q1];cases nx<;>simp only[tb,av]at q2<;>first
      |(subst q2;exact ih _ _ _ hdr q5 (yW (σ:=⟨σ.t,m'⟩) hdo q3 F hs hdf q4))
      |(exact absurd q2 (by simp))
end
section
variable {P:Program} {ρ0 ρ ρ':aH} {h0:aa} {w0 w:World} {m:Mem}
def eO(P:Program):Op->Bool
 | .move _| .assign _| .pick .. | .load .. | .build .. | .fieldAddr .. | .field .. | .indexAddr .. | .extract .. | .makeInterface .. | .makeFunc .. | .slice _ _ _ _ none| .nilCheck _
 | .binOp .. | .unOp .. | .index .. =>true
 | .convert s _ _=>match P.underlying s with
  |some (.slice _)=>false
  |_=>true
 | .call c=>match c.callee with
  | .builtin .len| .builtin .min| .builtin .max=>true
  |_=>false
 |_=>false
def pS:Op->Bool
 | .load .. | .slice .. =>true
 |_=>false
def aiB{T:Fr}{m m':Mem}(h:m'.h.g=m.h.g)(x:Operand):aN ⟨T,m'⟩ x=aN ⟨T,m⟩ x:=by
 cases x<;>simp[aN,h]
def A6{f g:Operand->Option Value}:∀(l:List Operand),(∀x∈l,f x=g x)->l.mapM f=l.mapM g:=by
 intro l;induction l with
 |nil=>intro _;rfl
 |cons x r ih=>intro h;rw[List.mapM_cons,List.mapM_cons,h x (by simp),ih λy hy=>h y (by simp[hy])]
def Qs{σ τ:St}:∀(l:List (Nat×Operand)),(∀p∈l,aN σ p.2=aN τ p.2)->nN σ l=nN τ l:=by
 intro l;induction l with
 |nil=>intro _;rfl
 |cons p r ih=>intro h;obtain⟨i,x⟩:=p;simp only[nN,h (i,x) (by simp),ih λy hy=>h y (by simp[hy])]
def pK(P:Program)(loc:List Nat)(σ:St)(o:Oper):Option Value:=(cU P loc σ o).map (·.1)
def QP{σ τ:St}{o:Oper}(h:∀x∈o.op.operands,aN σ x=aN τ x):tg P σ o=tg P τ o:=by
 unfold tg;have h1:o.op.operands.toList.all (pc σ)=o.op.operands.toList.all (pc τ):=by
  rw[Bool.eq_iff_iff,cz,cz];constructor
  .intro q x hx;have:=q x hx;unfold pc at this ⊢;rw[<-h x (by simpa using hx)];exact this
  .intro q x hx;have:=q x hx;unfold pc at this ⊢;rw[h x (by simpa using hx)];exact this
 rw[h1];by_cases hs:vX o.op=true
 .simp[hs]
 .have:execOp (lF σ) o=execOp (lF τ) o:=execOp_congr o (λcs b e=>hs (by simp[e,vX])) λx hx=>by simp only[lF,h x hx]
  rw[this]
def tI{loc:List Nat}{σ τ:St}{o:Oper}(hn:eO P o.op=true)(h:∀x∈o.op.operands,aN σ x=aN τ x)(hm:pS o.op=true->σ.m=τ.m):
  pK P loc σ o=pK P loc τ o:=by
 have hpure:=QP (P:=P) h;obtain⟨dst,op,type,pos,after,guard⟩:=o;unfold pK cU;cases op<;>simp only[eO,fw]at hn<;>simp only[Op.operands]at h<;>simp only[pS]at hm;case move x=>have:=h x (by simp);simp only[oH,this];split<;>rfl
 case assign x=>have:=h x (by simp);simp only[oH,this];split<;>rfl
 case pick c x y=>have h1:=h c (by simp);have h2:=h x (by simp);have h3:=h y (by simp);simp only[s6,h1];split<;>first|rfl|(rename_i b _;cases b<;>simp only[h2,h3,fw,if_true,if_false]<;>split<;>rfl)
 case build t ps=>
  have h1:=Qs (σ:=σ) (τ:=τ) ps.toList (λp hp=>h p.2 (by simp;exact⟨p.1,by simpa using hp⟩))
  simp only[fX,h1];split<;>first|rfl|(split<;>first|rfl|(split<;>rfl))
 case load t x=>have h1:=h x (by simp);have h2:=hm trivial;simp only[sY,h1,h2];split<;>first|rfl|(split<;>first|rfl|(split<;>rfl))
 case nilCheck x=>have h1:=h x (by simp);simp only[s5,h1];split<;>rfl
 case makeInterface t x=>have h1:=h x (by simp);simp only[qg,h1];split<;>first|rfl|(split<;>first|rfl|(split<;>rfl))
 case makeFunc fn a b=>
  have h1:=A6 (f:=aN σ) (g:=aN τ) a.toList (λx hx=>h x (by simp;exact .inl (by simpa using hx)))
  have h2:=A6 (f:=aN σ) (g:=aN τ) b.toList (λx hx=>h x (by simp;exact .inr (by simpa using hx)))
  simp only[sZ,h1,h2];split<;>first|rfl|(split<;>rfl)
 case slice t x lo hi mx=>
  cases mx with
  |some _=>simp at hn
  |none=>
   have h0:=h x (by simp);have h2:=hm trivial
   have hb:∀d,iW σ lo d=iW τ lo d:=λd=>by cases lo with|none=>rfl|some i=>have:=h i (by simp);simp only[iW,this]
   have bN:∀d,iW σ hi d=iW τ hi d:=λd=>by cases hi with|none=>rfl|some i=>have:=h i (by simp);simp only[iW,this]
   simp only
   split
   .simp only[dq,hpure];split<;>rfl
   .simp only[rE,h0,hb,bN,h2];split<;>first|rfl|(split<;>first|rfl|(split<;>rfl))
 case fieldAddr s x f=>have h1:=h x (by simp);simp only[sV,h1];split<;>rfl
 case field s x f=>have h1:=h x (by simp);simp only[sU,h1];split<;>first|rfl|(split<;>rfl)
 case indexAddr t x i=>have h1:=h x (by simp);have h2:=h i (by simp);simp only[sW,h1,h2];split<;>first|rfl|(split<;>first|rfl|(split<;>rfl))
 case extract x k=>have h1:=h x (by simp);simp only[sT,h1];split<;>first|rfl|(split<;>rfl)
 case binOp op t x y yt=>
  have h1:=h x (by simp);have h2:=h y (by simp)
  have e:(mG P σ op t x y).map (·.1)=(mG P τ op t x y).map (·.1):=by
   simp only[mG,h1,h2];split<;>first|rfl|(split<;>first|rfl|(split<;>rfl))
  simp only
  cases q1:mG P σ op t x y<;>cases q2:mG P τ op t x y<;>rw[q1,q2]at e<;>simp at e
  .simp only[dq,hpure];split<;>rfl
  .simp[e]
 case call c=>
  obtain⟨callee,⟨args⟩,⟨tys⟩⟩:=c
  cases callee with
  |value f=>simp at hn
  |invoke r mm=>simp at hn
  |builtin b=>
   cases b<;>simp at hn<;>simp only[vg]
   .split
    .have h1:=h _ (by simp[Call.operands];rfl);simp only[sX,h1];split<;>rfl
    .rfl
   .simp only[dq,hpure];split<;>rfl
   .simp only[dq,hpure];split<;>rfl
 case convert s t x=>simp only[ah8 hn,dq,hpure];split<;>rfl
 all_goals (simp only[dq,hpure];split<;>rfl)
def wV{loc:List Nat}{σ σ':St}{o:Oper}{v:Value}(hn:eO P o.op=true)(h:cU P loc σ o=some (v,σ')):σ'=σ:=by
 obtain⟨dst,op,type,pos,after,guard⟩:=o;unfold cU at h;have hp:∀{o:Oper},dq P σ o=some (v,σ')->σ'=σ:=fun{o} h=>by
  unfold dq at h;split at h<;>simp at h;exact h.2.symm
 cases op<;>simp only[eO,fw]at hn<;>simp only at h;case move x=>simp only[oH]at h;split at h<;>simp at h;exact h.2.symm
 case assign x=>simp only[oH]at h;split at h<;>simp at h;exact h.2.symm
 case pick c x y=>simp only[s6]at h;split at h<;>first|(simp at h;done)|(split at h<;>simp at h;exact h.2.symm)
 case build t ps=>simp only[fX]at h;split at h<;>first|(simp at h;done)|(split at h<;>first|(simp at h;done)|(split at h<;>simp at h;exact h.2.symm))
 case load t x=>simp only[sY]at h;split at h<;>first|(simp at h;done)|(split at h<;>first|(simp at h;done)|(split at h<;>simp at h;exact h.2.symm))
 case nilCheck x=>simp only[s5]at h;split at h<;>simp at h<;>exact h.2.symm
 case makeInterface t x=>simp only[qg]at h;split at h<;>first|(simp at h;done)|(split at h<;>first|(simp at h;done)|(split at h<;>simp at h;exact h.2.symm))
 case makeFunc fn a b=>simp only[sZ]at h;split at h<;>first|(simp at h;done)|(split at h<;>simp at h;exact h.2.symm)
 case slice t x lo hi mx=>
  cases mx with
  |some _=>simp at hn
  |none=>
   simp only at h
   split at h
   .exact hp h
   .simp only[rE]at h;split at h<;>first|(simp at h;done)|(split at h<;>first|(simp at h;done)|(simp at h;exact h.2.symm)|(split at h<;>simp at h;exact h.2.symm))
 case fieldAddr s x f=>simp only[sV]at h;split at h<;>simp at h;exact h.2.symm
 case field s x f=>simp only[sU]at h;split at h<;>first|(simp at h;done)|(split at h<;>simp at h;exact h.2.symm)
 case indexAddr t x i=>simp only[sW]at h;split at h<;>first|(simp at h;done)|(split at h<;>first|(simp at h;done)|(split at h<;>simp at h;exact h.2.symm))
 case binOp op t x y yt=>
  split at h
  .rename_i r hr
   rw[<-hr]at h
   simp only[mG]at h;split at h<;>first|(simp at h;done)|(split at h<;>first|(simp at h;done)|(split at h<;>simp at h<;>exact h.2.symm))
  .exact hp h
 case extract x k=>simp only[sT]at h;split at h<;>first|(simp at h;done)|(split at h<;>simp at h;exact h.2.symm)
 case call c=>
  obtain⟨callee,⟨args⟩,⟨tys⟩⟩:=c
  cases callee with
  |value f=>simp at hn
  |invoke r mm=>simp at hn
  |builtin b=>
   cases b<;>simp at hn<;>simp only[vg]at h
   .split at h
    .simp only[sX]at h;split at h<;>simp at h<;>exact h.2.symm
    .simp at h
   .exact hp h
   .exact hp h
 case convert s t x=>
  split at h
  .rename_i r hr
   rw[<-hr]at h
   exact Qi h
  .exact hp h
 all_goals (exact hp h)
end
section
variable {P:Program} {ρ0 ρ ρ':aH} {h0:aa} {w0 w:World} {m:Mem}
def wA(loc:List Nat)(o:Oper):Bool:=match o.op with
 | .alloc _| .box _ _=>match o.dst with
  |some s=> !loc.contains s
  |none=>true
 |_=>true
def PJ{loc:List Nat}{T T':Fr}{m:Mem}{o:Oper}(hl:(match o.dst with|some s=> !loc.contains s|none=>true)=true)(e:TypeId)(cs:List Value):
  St.newVar ⟨T',m⟩ loc o.dst e cs=(St.newVar ⟨T,m⟩ loc o.dst e cs).map λp=>(p.1,⟨T',p.2.m⟩):=by
 unfold St.newVar;split
 .rename_i s hs;rw[hs]at hl;simp only[Bool.not_eq_true',]at hl;simp only[hl,fw,if_false,fV]
 .rfl
def alg{σ τ:St}{u:TypeId}{sz:Nat}{x:Operand}(h:aN σ x=aN τ x)(hm:σ.m=τ.m):dS P σ u sz x=dS P τ u sz x:=by
 unfold dS;rw[h,hm]
def zj{loc:List Nat}{T T':Fr}{m:Mem}{o:Oper}(hl:wA loc o=true)(h:∀x∈o.op.operands,aN ⟨T',m⟩ x=aN ⟨T,m⟩ x):
  cU P loc ⟨T',m⟩ o=(cU P loc ⟨T,m⟩ o).map λp=>(p.1,⟨T',p.2.m⟩):=by
 by_cases hn:eO P o.op=true
 .have hv:=tI (P:=P) (loc:=loc) hn h (λ_=>rfl);unfold pK at hv;cases h1:cU P loc ⟨T',m⟩ o with
  |none=>
   rw[h1]at hv;cases h2:cU P loc ⟨T,m⟩ o with
   |none=>rfl
   |some p=>rw[h2]at hv;simp at hv
  |some p=>
   rw[h1]at hv;cases h2:cU P loc ⟨T,m⟩ o with
   |none=>rw[h2]at hv;simp at hv
   |some q=>
    rw[h2]at hv;obtain⟨v,σ'⟩:=p;obtain⟨u,τ'⟩:=q;simp only[fV,av]at hv;have e1:=wV hn h1;have e2:=wV hn h2;subst e1;subst e2;subst hv;rfl
 .have hpure:=QP (P:=P) h;obtain⟨dst,op,type,pos,after,guard⟩:=o;unfold cU;have hp:dq P ⟨T',m⟩ ⟨dst,op,type,pos,after,guard⟩=(dq P ⟨T,m⟩ ⟨dst,op,type,pos,after,guard⟩).map λp=>(p.1,⟨T',p.2.m⟩):=by
   unfold dq;rw[hpure];split<;>rfl
  cases op<;>simp only[eO,not_true_eq_false]at hn<;>simp only[Op.operands]at h<;>simp only;case alloc t=>simp only[sQ];split<;>first|rfl|exact PJ (o:=⟨dst,.alloc t,type,pos,after,guard⟩) hl _ _
  case box t x=>
   have h1:=h x (by simp)
   simp only[sR,h1]
   split<;>first|rfl|(split<;>first|rfl|exact PJ (o:=⟨dst,.box t x,type,pos,after,guard⟩) hl _ _)
  case buildSlice t n ps=>
   have h1:=Qs (σ:=⟨T',m⟩) (τ:=⟨T,m⟩) ps.toList (λp hp=>h p.2 (by simp;exact⟨p.1,by simpa using hp⟩))
   simp only[aM,h1]
   split<;>first|rfl|(split<;>first|rfl|(split<;>first|rfl|(split<;>rfl)))
  case store t x y=>
   have h1:=h x (by simp);have h2:=h y (by simp)
   simp only[s8,h1,h2]
   split<;>first|rfl|(split<;>first|rfl|(split<;>rfl))
  case makeSlice t x y=>
   have h1:=h x (by simp);have h2:=h y (by simp)
   simp only[oF,h1,h2]
   split<;>first|rfl|(split<;>first|rfl|(split<;>first|rfl|(split<;>rfl)))
  case range t x=>
   have h1:=h x (by simp)
   have e:nM P ⟨T',m⟩ t x=(nM P ⟨T,m⟩ t x).map λp=>(p.1,⟨T',p.2.m⟩):=by
    simp only[nM,h1];split<;>rfl
   rw[e]
   cases hr:nM P ⟨T,m⟩ t x with
   |some r=>rfl
   |none=>
    simp only[Option.map_none,s7,h1]
    split<;>first|rfl|(split<;>rfl)
  case entry x=>
   have h1:=h x (by simp)
   simp only[sS,h1]
   split<;>first|rfl|(split<;>first|rfl|(split<;>first|rfl|(split<;>first|rfl|(split<;>rfl))))
  case next x b=>
   have h1:=h x (by simp)
   cases b
   .rfl
   .simp only[rD,h1]
    split<;>first|rfl|(split<;>first|rfl|(split<;>rfl))
  case slice t x lo hi mx=>
   cases mx with
   |none=>simp at hn
   |some _=>exact hp
  case call c=>
   obtain⟨callee,⟨args⟩,⟨tys⟩⟩:=c
   simp only[vg]
   cases callee with
   |value f=>exact hp
   |invoke r mm=>exact hp
   |builtin b=>
    cases b
    case copy=>
     simp only
     split<;>first|rfl|exact aid (h _ (by simp[Call.operands])) (h _ (by simp[Call.operands]))
    case clear=>
     simp only
     split<;>first|rfl|exact aia (h _ (by simp[Call.operands]))
    all_goals first
     |exact hp
     |(simp at hn;done)
     |(simp only
       split<;>first|rfl|(
       have h1:=h _ (by simp[Call.operands];exact .inl rfl)
       have h2:=h _ (by simp[Call.operands];exact .inr rfl)
       simp only[dC,h1,alg (P:=P) (σ:=⟨T',m⟩) (τ:=⟨T,m⟩) h2 rfl]
       split<;>first|rfl|(split<;>first|rfl|(split<;>first|rfl|(split<;>first|rfl|(split<;>first|rfl|(split<;>rfl)))))))
  case makeMap t r=>
   cases r with
   |none=>rfl
   |some x=>
    have h1:=h x (by simp)
    simp only[qj,h1]
    split<;>rfl
  case lookup t x y b=>
   have h1:=h x (by simp);have h2:=h y (by simp)
   simp only[pB,h1,h2]
   split<;>first|rfl|(split<;>first|rfl|(split<;>first|rfl|(split<;>first|rfl|(split<;>rfl))))
  case mapUpdate t x y z=>
   have h1:=h x (by simp);have h2:=h y (by simp);have h3:=h z (by simp)
   simp only[oG,h1,h2,h3]
   split<;>first|rfl|(split<;>first|rfl|(split<;>first|rfl|(split<;>first|rfl|(split<;>rfl))))
  case insert t x y z=>
   have h1:=h x (by simp);have h2:=h y (by simp);have h3:=h z (by simp)
   simp only[oG,h1,h2,h3]
   split<;>first|rfl|(split<;>first|rfl|(split<;>first|rfl|(split<;>first|rfl|(split<;>rfl))))
  case convert s t x=>
   have h1:=h x (by simp)
   rw[ah7 h1]
   cases mF P ⟨T,m⟩ s t x with
   |some r=>rfl
   |none=>exact hp
  all_goals exact hp
def Dx{T T':Fr}{m:Mem}{o:Oper}(h:∀x∈o.op.operands,aN ⟨T',m⟩ x=aN ⟨T,m⟩ x):dP ⟨T',m⟩ o=dP ⟨T,m⟩ o:=by
 unfold dP;split
 .rename_i f args ts ho;rw[ho]at h;have h1:=h f (by simp[Op.operands,Call.operands]);have h2:=A6 (f:=aN ⟨T',m⟩) (g:=aN ⟨T,m⟩) args.toList (λx hx=>h x (by simp[Op.operands,Call.operands];exact .inr (by simpa using hx)));rw[h1,h2]
 .rfl
def alH{loc:List Nat}{σ σ':St}{o:Oper}{v:Value}(h:cU P loc σ o=some (v,σ')):σ'.m.h.g=σ.m.h.g:=by
 by_cases hn:eO P o.op=true
 .rw[wV hn h]
 .obtain⟨dst,op,type,pos,after,guard⟩:=o;unfold cU at h;have hp:∀{o:Oper},dq P σ o=some (v,σ')->σ'.m.h.g=σ.m.h.g:=fun{o} h=>by
   unfold dq at h;split at h<;>simp at h;rw[h.2]
  have hnv:∀{d:Option Nat}{e:TypeId}{cs:List Value},σ.newVar loc d e cs=some (v,σ')->σ'.m.h.g=σ.m.h.g:=fun{d e cs} h=>by
   unfold St.newVar at h;split at h
   .split at h<;>simp at h<;>rw[<-h.2]<;>rfl
   .simp at h
  have hset:∀(m:Mem)(k:Key)(e:TypeId)(cs:List Value),(m.setRow k e cs).h.g=m.h.g:=λm k e cs=>by obtain⟨t,b⟩:=k;cases t<;>rfl
  cases op<;>simp only[eO,not_true_eq_false]at hn<;>simp only at h;case alloc t=>simp only[sQ]at h;split at h<;>first|(simp at h;done)|exact hnv h
  case box t x=>simp only[sR]at h;split at h<;>first|(simp at h;done)|(split at h<;>first|(simp at h;done)|exact hnv h)
  case buildSlice t n ps=>
   simp only[aM]at h
   split at h<;>first|(simp at h;done)|(split at h<;>first|(simp at h;done)|(split at h<;>first|(simp at h;done)|(split at h<;>simp at h;rw[<-h.2];rfl)))
  case store t x y=>
   simp only[s8]at h
   split at h<;>first|(simp at h;done)|(split at h<;>first|(simp at h;done)|(split at h<;>simp at h;rw[<-h.2];exact hset _ _ _ _))
  case makeSlice t x y=>
   simp only[oF]at h
   split at h<;>first|(simp at h;done)|(split at h<;>first|(simp at h;done)|(split at h<;>first|(simp at h;done)|(split at h<;>simp at h;rw[<-h.2];rfl)))
  case range t x=>
   split at h
   .rename_i r hr
    rw[<-hr]at h
    simp only[nM]at h;split at h<;>simp at h;rw[<-h.2];rfl
   .simp only[s7]at h
    split at h<;>first|(simp at h;done)|(split at h<;>first|(simp at h;done)|(simp at h;rw[<-h.2];rfl))
  case entry x=>
   simp only[sS]at h
   split at h<;>first|(simp at h;done)|(split at h<;>first|(simp at h;done)|(split at h<;>first|(simp at h;done)|(split at h<;>first|(simp at h;done)|(split at h<;>first|(simp at h;done)|(simp at h;rw[h.2])))))
  case next x b=>
   cases b
   .cases h
   .simp only[rD]at h
    split at h<;>first|(simp at h;done)|(split at h<;>first|(simp at h;done)|(split at h<;>simp at h<;>rw[<-h.2]<;>rfl))
  case slice t x lo hi mx=>
   cases mx with
   |none=>simp at hn
   |some _=>exact hp h
  case call c=>
   obtain⟨callee,⟨args⟩,⟨tys⟩⟩:=c
   simp only[vg]at h
   cases callee with
   |value f=>exact hp h
   |invoke r mm=>exact hp h
   |builtin b=>
    cases b<;>first
     |exact hp h
     |(simp at hn;done)
     |(simp only at h
       split at h<;>first|(simp at h;done)|exact aie h)
     |(simp only at h
       split at h<;>first|(simp at h;done)|exact aib h)
     |(simp only at h
       split at h<;>first|(simp at h;done)|(
       simp only[dC]at h
       split at h<;>first|(simp at h;done)|(split at h<;>first|(simp at h;done)|(split at h<;>first|(simp at h;done)|(split at h<;>first|(simp at h;done)|(split at h<;>first|(simp at h;done)|(simp at h;rw[<-h.2];done)|(simp at h;rw[<-h.2];rfl)|(split at h<;>first|(simp at h;done)|(simp at h;rw[<-h.2];rfl))))))))
  case makeMap t r=>
   cases r with
   |none=>simp only[qj]at h;simp at h;rw[<-h.2];rfl
   |some x=>simp only[qj]at h;split at h<;>simp at h;rw[<-h.2];rfl
  case lookup t x y b=>
   simp only[pB]at h
   split at h<;>first|(simp at h;done)|(split at h<;>first|(simp at h;done)|(split at h<;>first|(simp at h;done)|(split at h<;>first|(simp at h;done)|(split at h<;>first|(simp at h;done)|(simp at h;rw[h.2])))))
  case mapUpdate t x y z=>
   simp only[oG]at h
   split at h<;>first|(simp at h;done)|(split at h<;>first|(simp at h;done)|(split at h<;>first|(simp at h;done)|(split at h<;>first|(simp at h;done)|(simp at h;rw[<-h.2];rfl)|(split at h<;>first|(simp at h;done)|(simp at h;rw[<-h.2];rfl)))))
  case insert t x y z=>
   simp only[oG]at h
   split at h<;>first|(simp at h;done)|(split at h<;>first|(simp at h;done)|(split at h<;>first|(simp at h;done)|(split at h<;>first|(simp at h;done)|(simp at h;rw[<-h.2];rfl)|(split at h<;>first|(simp at h;done)|(simp at h;rw[<-h.2];rfl)))))
  case convert s t x=>
   split at h
   .rename_i r hr
    rw[<-hr]at h
    rw[Qi h]
   .exact hp h
  all_goals exact hp h
end
section
variable {P:Program} {ρ0 ρ ρ':aH} {h0:aa} {w0 w:World} {m:Mem}
abbrev HL:=List (Nat×(Mem->Option Value)×Value)
def gO(P:Program)(loc:List Nat)(T:Fr)(o:Oper):Mem->Option Value:=λM=>pK P loc ⟨T,M⟩ o
def jl(P:Program)(loc:List Nat)(ops:Array Oper)(hl:HL)(i:Nat)(o:Oper)(σ:St):Option (Value×HL):=
 match fS ops σ.t o with
 |none=>none
 |some false=>some (undef,hl)
 |some true=>match pK P loc σ o with
  |some v=>some (v,if pS o.op then(i,gO P loc σ.t o,v)::hl else hl)
  |none=>none
def nL(B:Nat->Nat->Bool)(i:Nat)(hl:HL)(M:Mem):Prop:=∀e∈hl,B i e.1=false->e.2.1 M=some e.2.2
def gM(P:Program)(loc:List Nat)(ops:Array Oper)(B:Nat->Nat->Bool)(Q:St->Prop):HL->List (Nat×Oper)->St->Prop
 |_,[],σ=>Q σ
 |hl,(i,o)::r,σ=>
  if eO P o.op then match jl P loc ops hl i o σ with
   |some (v,hl')=>gM P loc ops B Q hl' r (σ.cF o.dst v)
   |none=>False
  else match fS ops σ.t o with
   |none=>False
   |some false=>gM P loc ops B Q hl r (σ.cF o.dst undef)
   |some true=>match dP σ o with
    |some (f,args)=>al P f args σ.m.h λv h'=>qL σ.m.h v h'->nL B i hl ⟨σ.m.x,h'⟩/\gM P loc ops B Q hl r (St.cF ⟨σ.t,⟨σ.m.x,h'⟩⟩ o.dst v)
    |none=>match cU P loc σ o with
     |some (v,σ')=>nL B i hl σ'.m/\gM P loc ops B Q hl r (σ'.cF o.dst v)
     |none=>False
def YP{loc:List Nat}{ops:Array Oper}{hl hl':HL}{i:Nat}{o:Oper}{σ:St}{v:Value}{k:HL}(hs:∀e∈hl',e∈hl)(h:jl P loc ops hl i o σ=some (v,k)):
  ∃k',jl P loc ops hl' i o σ=some (v,k')/\∀e∈k',e∈k:=by
 unfold jl at h ⊢;split at h
 .simp at h
 .simp only[av,bM]at h;obtain⟨rfl,rfl⟩:=h;exact⟨hl',rfl,hs⟩
 .split at h
  .simp only[av,bM]at h;obtain⟨rfl,rfl⟩:=h;refine⟨_,rfl,?_⟩;split
   .intro e he;rcases cJ.1 he with q|q
    .rw[q];simp
    .exact eI _ (hs e q)
   .exact hs
  .simp at h
def anV{loc:List Nat}{ops:Array Oper}{B:Nat->Nat->Bool}{Q:St->Prop}:∀(l:List (Nat×Oper))(hl hl':HL)(σ:St),(∀e∈hl',e∈hl)->gM P loc ops B Q hl l σ->gM P loc ops B Q hl' l σ:=by
 intro l;induction l with
 |nil=>intro hl hl' σ _ h;exact h
 |cons p r ih=>
  intro hl hl' σ hs h;obtain⟨i,o⟩:=p;simp only[gM]at h ⊢;split at h
  .rename_i hn;rw[if_pos hn];split at h
   .rename_i v k hk;obtain⟨k',e1,e2⟩:=YP hs hk;rw[e1];exact ih _ _ _ e2 h
   .exact h.elim
  .rename_i hn;rw[if_neg hn];split at h
   .exact h.elim
   .rename_i hw;exact ih _ _ _ hs h
   .rename_i hw;split at h
    .rename_i f args hc;exact h.mono λv h' q hn=>⟨λe he=>(q hn).1 e (hs e he),ih _ _ _ hs (q hn).2⟩
    .rename_i hc;split at h
     .rename_i v σ' hst;exact⟨λe he=>h.1 e (hs e he),ih _ _ _ hs h.2⟩
     .exact h.elim
def yy{ops:Array Oper}{σ:St}{d:Option Nat}{o:Oper}(h:∀i,d=some i->i∉o.looksAt ops)(v:Value):∀x∈o.op.operands,aN (σ.cF d v) x=aN σ x:=by
 intro x hx;cases d with
 |none=>rfl
 |some i=>
  cases x with
  |tmp t=>
   have:¬i=t:=λe=>h i rfl (by
    subst e;exact List.mem_append_left _ (List.mem_filterMap.2 ⟨.tmp i,by simpa using hx,rfl⟩))
   simp[aN,St.cF,Fr.get,Fr.put,this]
  |_=>rfl
def yz{ops:Array Oper}{T:Fr}{m:Mem}{d:Option Nat}{o:Oper}(h:∀i,d=some i->i∉o.looksAt ops)(v:Value):fS ops (St.cF ⟨T,m⟩ d v).t o=fS ops T o:=by
 cases d with
 |none=>rfl
 |some i=>
  unfold fS;cases hg:o.guard with
  |none=>rfl
  |some gw=>
   obtain⟨g,want⟩:=gw;simp only;cases ht:(ops[g]?).bind (·.dst)with
   |none=>rfl
   |some t=>
    have:¬i=t:=λe=>h i rfl (by subst e;simp[Oper.looksAt,hg,ht]);simp[St.cF,Fr.get,Fr.put,this]
def ajo(σ:St){d e:Option Nat}(v u:Value)(h:∀i,d=some i->e≠some i):(σ.cF d v).cF e u=(σ.cF e u).cF d v:=by
 cases d with
 |none=>rfl
 |some i=>
  cases e with
  |none=>rfl
  |some j=>
   have hne:¬i=j:=λq=>h i rfl (by rw[q]);simp only[St.cF];congr 1;funext k;simp only[Fr.put];by_cases h1:j=k
   .subst h1;simp[hne]
   .simp[h1]
def BL(σ:St)(d:Option Nat)(v:Value):(σ.cF d v).m=σ.m:=by cases d<;>rfl
def BM(T:Fr)(M M':Mem)(d:Option Nat)(v:Value):(St.cF ⟨T,M⟩ d v).t=(St.cF ⟨T,M'⟩ d v).t:=by cases d<;>rfl
def xM{loc:List Nat}{ops:Array Oper}{hl:HL}{i:Nat}{o:Oper}(hn:eO P o.op=true){σ τ:St}(hw:fS ops σ.t o=fS ops τ.t o)
  (ho:∀M,∀x∈o.op.operands,aN ⟨σ.t,M⟩ x=aN ⟨τ.t,M⟩ x) (hv:fS ops τ.t o=some true->pK P loc σ o=pK P loc τ o):
  jl P loc ops hl i o σ=jl P loc ops hl i o τ:=by
 unfold jl;rw[hw];have hg:gO P loc σ.t o=gO P loc τ.t o:=by
  funext M;exact tI hn (ho M) (λ_=>rfl)
 split
 .rfl
 .rfl
 .rename_i hw';rw[hv hw',hg]
def anW{loc:List Nat}{ops:Array Oper}{B:Nat->Nat->Bool}{Q:St->Prop}{i j:Nat}{oi oj:Oper}{r:List (Nat×Oper)}(hj:eO P oj.op=true)(hB:B i j=false)
  (a1:∀d,oj.dst=some d->d∉oi.looksAt ops) (a2:∀d,oj.dst=some d->oi.dst≠some d) (a3:∀d,oi.dst=some d->d∉oj.looksAt ops) (hnl:wA loc oi=true)
  {hl:HL} {σ:St} (h:gM P loc ops B Q hl ((j,oj)::(i,oi)::r) σ):gM P loc ops B Q hl ((i,oi)::(j,oj)::r) σ:=by
 obtain⟨T,M⟩:=σ;simp only[gM]at h;rw[if_pos hj]at h;split at h;rotate_left
 .exact h.elim
 rename_i u hl1 hej;have hopi:∀M',∀x∈oi.op.operands,aN (St.cF ⟨T,M'⟩ oj.dst u) x=aN ⟨T,M'⟩ x:=λM'=>yy a1 u;have hwi:fS ops (St.cF ⟨T,M⟩ oj.dst u).t oi=fS ops T oi:=yz (m:=M) a1 u;have hst:∀M',St.cF ⟨T,M'⟩ oj.dst u=⟨(St.cF ⟨T,M⟩ oj.dst u).t,M'⟩:=λM'=>by cases oj.dst<;>rfl
 have hl1s:∀e∈hl,e∈hl1:=by
  unfold jl at hej;split at hej
  .simp at hej
  .simp only[av,bM]at hej;rw[<-hej.2];exact λe he=>he
  .split at hej
   .simp only[av,bM]at hej;rw[<-hej.2];split
    .exact λe he=>eI _ he
    .exact λe he=>he
   .simp at hej
 have jafter:∀(vi:Value)(M':Mem),M'.h.g=M.h.g->nL B i hl1 M'->jl P loc ops hl j oj (St.cF ⟨T,M'⟩ oi.dst vi)=some (u,hl1):=by
  intro vi M' hg hok;have hwj:fS ops (St.cF ⟨T,M'⟩ oi.dst vi).t oj=fS ops T oj:=yz (m:=M') a3 vi;have hoj:∀M1,∀x∈oj.op.operands,aN ⟨(St.cF ⟨T,M'⟩ oi.dst vi).t,M1⟩ x=aN ⟨T,M1⟩ x:=λM1 x hx=>by
   have:=yy (σ:=⟨T,M1⟩) a3 vi x hx;rw[<-this,BM T M' M1];cases oi.dst<;>rfl
  rw[<-hej];refine xM hj hwj hoj λhwt=>?_;by_cases hr:pS oj.op=true
  .unfold jl at hej;rw[hwt]at hej;simp only[hr,if_true]at hej;split at hej;rotate_left
   .simp at hej
   rename_i v hv;simp only[av,bM]at hej;obtain⟨rfl,rfl⟩:=hej;have:=hok (j,gO P loc T oj,v) (by simp) hB;simp only[gO]at this;rw[hv,<-this];have hm:(St.cF ⟨T,M'⟩ oi.dst vi)=⟨(St.cF ⟨T,M'⟩ oi.dst vi).t,M'⟩:=(by cases oi.dst<;>rfl);rw[hm];exact tI hj (hoj M') (λ_=>rfl)
  .have hm:(St.cF ⟨T,M'⟩ oi.dst vi)=⟨(St.cF ⟨T,M'⟩ oi.dst vi).t,M'⟩:=(by cases oi.dst<;>rfl);rw[hm];refine tI hj (λx hx=>?_) (λq=>absurd q hr);rw[hoj M' x hx];exact aiB hg x
 have hcomm:∀(vi:Value)(M':Mem),St.cF (St.cF ⟨T,M'⟩ oi.dst vi) oj.dst u=St.cF ⟨(St.cF ⟨T,M⟩ oj.dst u).t,M'⟩ oi.dst vi:=λvi M'=>by
  rw[<-hst M'];exact(ajo _ u vi a2).symm
 simp only[gM];by_cases hi:eO P oi.op=true
 .rw[if_pos hi]at h ⊢;split at h;rotate_left
  .exact h.elim
  rename_i vi hl2 hei;have hei':jl P loc ops hl1 i oi ⟨T,M⟩=some (vi,hl2):=by
   rw[<-hei];refine(xM hi hwi (λM1 x hx=>?_) λ_=>?_).symm
   .have:=hopi M1 x hx;rw[hst M1]at this;exact this
   .rw[hst M];exact tI hi (λx hx=>by have:=hopi M x hx;rw[hst M]at this;exact this) (λ_=>rfl)
  have hcase:∃k,jl P loc ops hl i oi ⟨T,M⟩=some (vi,k)/\∃k2,jl P loc ops k j oj (St.cF ⟨T,M⟩ oi.dst vi)=some (u,k2)/\∀e∈k2,e∈hl2:=by
   have hwj:fS ops (St.cF ⟨T,M⟩ oi.dst vi).t oj=fS ops T oj:=yz (m:=M) a3 vi;have hoj:∀M1,∀x∈oj.op.operands,aN ⟨(St.cF ⟨T,M⟩ oi.dst vi).t,M1⟩ x=aN ⟨T,M1⟩ x:=λM1 x hx=>by
    have:=yy (σ:=⟨T,M1⟩) a3 vi x hx;rw[<-this,BM T M M1];cases oi.dst<;>rfl
   have hjv:∀k,jl P loc ops k j oj (St.cF ⟨T,M⟩ oi.dst vi)=jl P loc ops k j oj ⟨T,M⟩:=λk=>by
    refine xM hj hwj hoj λ_=>?_;have hm:(St.cF ⟨T,M⟩ oi.dst vi)=⟨(St.cF ⟨T,M⟩ oi.dst vi).t,M⟩:=(by cases oi.dst<;>rfl);rw[hm];exact tI hj (hoj M) (λ_=>rfl)
   simp only[hjv];unfold jl at hej hei' ⊢;split at hej
   .simp at hej
   .simp only[av,bM]at hej;obtain⟨rfl,rfl⟩:=hej;rename_i hwjf;simp only at hwjf;refine⟨hl2,hei',hl2,rfl,λe he=>he⟩
   .rename_i hwjt;simp only at hwjt;split at hej;rotate_left
    .simp at hej
    rename_i vj hvj;simp only[av,bM]at hej;obtain⟨rfl,rfl⟩:=hej;split at hei'
    .simp at hei'
    .simp only[av,bM]at hei';obtain⟨rfl,rfl⟩:=hei';exact⟨hl,rfl,_,rfl,λe he=>he⟩
    .split at hei';rotate_left
     .simp at hei'
     simp only[av,bM]at hei';obtain⟨rfl,rfl⟩:=hei';refine⟨_,rfl,_,rfl,λe he=>?_⟩;by_cases r1:pS oi.op=true<;>by_cases r2:pS oj.op=true<;>simp only[r1,r2,if_true,if_false,fw]at he ⊢
     .simp only[cJ]at he ⊢;rcases he with q|q|q
      .exact .inr (.inl q)
      .exact .inl q
      .exact .inr (.inr q)
     .exact he
     .exact he
     .exact he
  obtain⟨k,e1,k2,e2,e3⟩:=hcase;rw[e1];simp only;rw[if_pos hj,e2];simp only;rw[hcomm vi M,<-hst M];exact anV _ _ _ _ e3 h
 .rw[if_neg hi]at h ⊢;rw[hwi]at h;split at h
  .exact h.elim
  .rename_i hw;rw[if_pos hj];have hwj:fS ops (St.cF ⟨T,M⟩ oi.dst undef).t oj=fS ops T oj:=yz (m:=M) a3 undef;have hoj:∀M1,∀x∈oj.op.operands,aN ⟨(St.cF ⟨T,M⟩ oi.dst undef).t,M1⟩ x=aN ⟨T,M1⟩ x:=λM1 x hx=>by
    have:=yy (σ:=⟨T,M1⟩) a3 undef x hx;rw[<-this,BM T M M1];cases oi.dst<;>rfl
   have hjv:jl P loc ops hl j oj (St.cF ⟨T,M⟩ oi.dst undef)=some (u,hl1):=by
    rw[<-hej];refine xM hj hwj hoj λ_=>?_;have hm:(St.cF ⟨T,M⟩ oi.dst undef)=⟨(St.cF ⟨T,M⟩ oi.dst undef).t,M⟩:=(by cases oi.dst<;>rfl);rw[hm];exact tI hj (hoj M) (λ_=>rfl)
   rw[hjv];simp only;rw[hcomm undef M,<-hst M];exact h
  .rename_i hw;have hci:dP (St.cF ⟨T,M⟩ oj.dst u) oi=dP ⟨T,M⟩ oi:=(by rw[hst M];exact Dx λx hx=>by have:=hopi M x hx;rw[hst M]at this;exact this);rw[hci]at h;split at h
   .rename_i f args hc;rw[BL]at h;refine h.mono λv h' q hn=>?_;obtain⟨q1,q2⟩:=q hn;refine⟨λe he=>q1 e (hl1s e he),?_⟩;rw[if_pos hj,jafter v ⟨M.x,h'⟩ hn.1 q1];simp only;rw[hcomm v];exact q2
   .rename_i hc;have hsi:=zj (P:=P) (loc:=loc) (T:=T) (T':=(St.cF ⟨T,M⟩ oj.dst u).t) (m:=M) hnl (λx hx=>by have:=hopi M x hx;rw[hst M]at this;exact this);rw[hst M,hsi]at h;split at h;rotate_left
    .exact h.elim
    rename_i v σ' hs;cases hs2:cU P loc ⟨T,M⟩ oi with
    |none=>rw[hs2]at hs;simp at hs
    |some p=>
     obtain⟨v2,σ2⟩:=p;rw[hs2]at hs;simp only[fV,av,bM]at hs;obtain⟨rfl,rfl⟩:=hs;have hg:=alH hs2;have ht:σ2.t=T:=by
      have:=zj (P:=P) (loc:=loc) (T:=T) (T':=T) (m:=M) hnl (λx hx=>rfl);rw[hs2]at this;simp only[fV,av,bM,true_and]at this;rw[this]
     obtain⟨T2,M2⟩:=σ2;simp only at ht hg h ⊢;subst ht;refine⟨λe he=>h.1 e (hl1s e he),?_⟩;rw[if_pos hj,jafter v2 M2 hg h.1];simp only;rw[hcomm v2];exact h.2
end
end Go.Am

import Derived.Calls
import Derived.Below
import Derived.WalkKit
import Derived.Laws.Cells
import Derived.Laws.CopyRow
import Derived.Laws.Append
import Derived.Laws.AppendOwn
import Derived.Laws.RangeString
import Derived.IntWalk
import Derived.Laws.BytesString
import Derived.Orders
set_option linter.unusedVariables false
set_option linter.unusedSimpArgs false
set_option linter.unusedSectionVars false
set_option linter.constructorNameAsVariable false
set_option maxRecDepth 20000
namespace Go.Am
open Go
def Fr:=Nat→Option Value
def Fr.get (T:Fr) (i:Nat):Option Value:=T i
def Fr.put (T:Fr) (i:Nat) (v:Value):Fr:=fun j=>if i=j then some v else T j
def j4 {α:Type}:List (Nat×Option α)→Nat→Option α
 |[],_=>none
 |(j,v)::r,i=>if j=i then v else j4 r i
def Fr.ofList (l:List (Nat×Option Value)):Fr:=j4 l
def Fr.prune (T:Fr) (l:List Nat):Fr:=Fr.ofList (l.map fun i=>(i,T.get i))
def fO:Value→Option Nat
 | .pointer (some ⟨s,_,some _⟩)=>some s
 |_=>none
def tS (s:Nat):Option Value→Option Value
 |some v=>match fO v with
  |some s'=>if s'=s then none else some v
  |none=>some v
 |none=>none
def Fr.rQ (s:Nat) (T:Fr):Fr:=fun i=>tS s (T i)
theorem Fr.KA (s:Nat) (T:Fr) (i:Nat):(T.rQ s).get i=tS s (T.get i):=rfl
theorem afD {α:Type} (T:Nat→Option α) (i:Nat) (v:α):∀l:List Nat,j4 (l.map fun i=>(i,T i)) i=some v→T i=some v:=by
 intro l
 induction l with
 |nil=>simp[j4]
 |cons j r ih=>
  simp only[List.map_cons,j4]
  split
  ·rename_i h;subst h;exact id
  ·exact ih
theorem Fr.adZ (T:Fr) (i:Nat) (v:Value) (l:List Nat) (h:(T.prune l).get i=some v):T.get i=some v:=afD T.get i v l h
inductive aO
 |dead
 |row (w:Bool) (e:TypeId) (cs:List Value)
 |obj (o:Obj)
structure aa where
 n:Nat
 g:Nat
 f:Nat→aO
def aa.set (h:aa) (b:Nat) (x:aO):aa:={h with f:=fun i=>if i=b then x else h.f i}
def aa.new (h:aa) (x:aO):aa:={n:=h.n+1,g:=h.g,f:=fun i=>if i=h.n then x else h.f i}
def bI:=Nat→Option (TypeId×List Value)
def bI.look (x:bI) (i:Nat):Option (TypeId×List Value):=x i
def bI.nil:bI:=fun _=>none
def bI.set (x:bI) (i:Nat) (v:TypeId×List Value):bI:=fun j=>if i=j then some v else x j
def bI.ofList (l:List (Nat×Option (TypeId×List Value))):bI:=j4 l
def bI.prune (x:bI) (l:List Nat):bI:=bI.ofList (l.map fun i=>(i,x.look i))
theorem bI.qg (l:bI) (i j:Nat) (v:TypeId×List Value):(l.set i v).look j=if i=j then some v else l.look j:=rfl
structure Mem where
 x:bI
 h:aa
abbrev Key:=Bool×Nat
def Mem.row? (m:Mem):Key→Option (Bool×TypeId×List Value)
 |(true,s)=>match m.x.look s with
  |some (e,cs)=>some (true,e,cs)
  |none=>none
 |(false,b)=>match m.h.f b with
  | .row w e cs=>some (w,e,cs)
  |_=>none
def Mem.live (m:Mem):Key→Prop
 |(true,s)=>(m.x.look s).isSome=true
 |(false,b)=>m.h.f b≠.dead
def aa.wr (h:aa) (b:Nat):Prop:=match h.f b with
 | .row w _ _=>w=true
 | .obj _=>True
 | .dead=>False
def Mem.wr (m:Mem):Key→Prop
 |(true,s)=>(m.x.look s).isSome=true
 |(false,b)=>m.h.wr b
theorem Mem.qe {m:Mem} {k:Key} (h:m.wr k):m.live k:=by
 obtain⟨t,b⟩:=k
 cases t
 ·simp only[Mem.wr,aa.wr]at h;simp only[Mem.live];intro e;rw[e]at h;exact h
 ·exact h
theorem Mem.tb {m:Mem} {k:Key} {r} (h:m.row? k=some r):m.live k:=by
 obtain⟨t,b⟩:=k
 cases t
 ·simp only[Mem.row?]at h;simp only[Mem.live];intro e;rw[e]at h;simp at h
 ·simp only[Mem.row?]at h;simp only[Mem.live];cases hl:m.x.look b<;>simp_all
theorem Mem.aqM {m:Mem} {k:Key} {e cs} (h:m.row? k=some (true,e,cs)):m.wr k:=by
 obtain⟨t,b⟩:=k
 cases t
 ·simp only[Mem.row?]at h;simp only[Mem.wr,aa.wr];split at h<;>simp_all
 ·simp only[Mem.row?]at h;simp only[Mem.wr];cases hl:m.x.look b<;>simp_all
structure Pl where
 B:Nat
 o:Nat
 n:Nat
 sz:Nat
abbrev aw:=Key→Option Pl
inductive VR (ρ:aw):Value→Value→Prop
 |bool (b:Bool):VR ρ (.bool b) (.bool b)
 |int (k:IntKind) (n:Int):VR ρ (.int k n) (.int k n)
 |string (s:ByteArray):VR ρ (.string s) (.string s)
 |rD:VR ρ (.pointer none) (.pointer none)
 |rC:VR ρ (.map none) (.map none)
 |rA:VR ρ .nilFunc .nilFunc
 |rB:VR ρ .nilIface .nilIface
 |ptr (b off:Nat) (pl:Pl) (h:ρ (false,b)=some pl):VR ρ (.pointer (some ⟨b,off,none⟩)) (.pointer (some ⟨pl.B,pl.o+off,none⟩))
 |mp (b:Nat) (pl:Pl) (h:ρ (false,b)=some pl):VR ρ (.map (some b)) (.map (some pl.B))
 |pe:VR ρ (.slice none 0 0) (.slice none 0 0)
 |lO (a a':Addr) (c:Nat):VR ρ (.slice (some a) 0 c) (.slice (some a') 0 0)
 |sl (b off len c:Nat) (pl:Pl) (cap:Nat) (h:ρ (false,b)=some pl) (hc:len≤cap) (hn:off+cap*pl.sz≤pl.n):
   VR ρ (.slice (some ⟨b,off,none⟩) len c) (.slice (some ⟨pl.B,pl.o+off,none⟩) len cap)
 |iface (t:TypeId) (v v':Value) (h:VR ρ v v'):VR ρ (.iface t v) (.iface t v')
 |agg (cs ds:List Value) (hl:cs.length=ds.length) (h:∀p∈cs.zip ds,VR ρ p.1 p.2):VR ρ (.agg ⟨cs⟩) (.agg ⟨ds⟩)
 |tuple (cs ds:List Value) (hl:cs.length=ds.length) (h:∀p∈cs.zip ds,VR ρ p.1 p.2):VR ρ (.tuple ⟨cs⟩) (.tuple ⟨ds⟩)
 |func (fn:Fn) (aS as' cs ds:List Value) (ha:aS.length=as'.length) (hl:cs.length=ds.length) (h1:∀p∈aS.zip as',VR ρ p.1 p.2)
   (h:∀p∈cs.zip ds,VR ρ p.1 p.2):VR ρ (.func fn ⟨aS⟩ ⟨cs⟩) (.func fn ⟨as'⟩ ⟨ds⟩)
inductive VT (ρ:aw):Value→Value→Prop
 |val (v v':Value) (h:VR ρ v v'):VT ρ v v'
 |loc (s off x:Nat) (pl:Pl) (h:ρ (true,s)=some pl):VT ρ (.pointer (some ⟨s,off,some x⟩)) (.pointer (some ⟨pl.B,pl.o+off,none⟩))
theorem lT {ρ:aw} {cs ds:List Value} (hl:cs.length=ds.length):(∀p∈cs.zip ds,VR ρ p.1 p.2)↔∀(i:Nat) (v:Value),cs[i]? =some v→∃v',ds[i]? =some v'∧VR ρ v v':=by
 constructor
 ·intro h i v hi
  have h1:i<cs.length:=by rcases Nat.lt_or_ge i cs.length with q|q;exact q;simp[List.getElem?_eq_none q]at hi
  have h2:i<ds.length:=hl ▸ h1
  have e1:cs[i]=v:=by simpa[List.getElem?_eq_getElem h1]using hi
  refine⟨ds[i],List.getElem?_eq_getElem h2,?_⟩
  have:=h (cs[i],ds[i]) (by rw[List.mem_iff_getElem];exact⟨i,by simp;omega,by simp⟩)
  simpa[e1]using this
 ·rintro h ⟨a,b⟩ hp
  rw[List.mem_iff_getElem]at hp
  obtain⟨i,hi,he⟩:=hp
  simp at hi he
  have q1:i<cs.length:=by omega
  have q2:i<ds.length:=by omega
  obtain⟨v',h1,h2⟩:=h i a (by rw[List.getElem?_eq_getElem q1,he.1])
  rw[List.getElem?_eq_getElem q2]at h1
  simp only[Option.some.injEq]at h1
  rw[←he.2,h1];exact h2
theorem VR.mono {ρ ρ':aw} (hρ:∀b pl,ρ (false,b)=some pl→ρ' (false,b)=some pl) {v v':Value} (h:VR ρ v v'):VR ρ' v v':=by
 induction h with
 |ptr b off pl h=>exact .ptr b off pl (hρ _ _ h)
 |mp b pl h=>exact .mp b pl (hρ _ _ h)
 |sl b off len c pl cap h hc hn=>exact .sl b off len c pl cap (hρ _ _ h) hc hn
 |lO a a' c=>exact .lO a a' c
 |iface t v v' _ ih=>exact .iface t v v' ih
 |agg cs ds hl _ ih=>exact .agg cs ds hl ih
 |tuple cs ds hl _ ih=>exact .tuple cs ds hl ih
 |func fn aS as' cs ds ha hl _ _ ih1 ih=>exact .func fn aS as' cs ds ha hl ih1 ih
 |bool b=>exact .bool b
 |int k n=>exact .int k n
 |string s=>exact .string s
 |rD=>exact .rD
 |rC=>exact .rC
 |rA=>exact .rA
 |rB=>exact .rB
 |pe=>exact .pe
def cA:Value→Bool
 | .bool _| .int _ _| .string _| .pointer none| .map none| .nilFunc| .nilIface=>true
 | .slice none 0 0=>true
 |_=>false
def bM:Value→Bool
 | .agg cs=>cs.toList.all cA
 | .tuple cs=>cs.toList.all cA
 |v=>cA v
theorem VR.cA {ρ:aw} {v v':Value} (h:VR ρ v v') (hf:cA v=true):v'=v:=by
 cases h<;>simp_all [Am.cA]
theorem VR.oC {ρ:aw} {v:Value} (hf:Am.cA v=true):VR ρ v v:=by
 unfold Am.cA at hf
 split at hf
 ·exact .bool _
 ·exact .int _ _
 ·exact .string _
 ·exact .rD
 ·exact .rC
 ·exact .rA
 ·exact .rB
 ·exact .pe
 ·simp at hf
theorem RH {ρ:aw} {cs ds:List Value} (hl:cs.length=ds.length) (h:∀p∈cs.zip ds,VR ρ p.1 p.2) (hf:cs.all Am.cA=true):ds=cs:=by
 apply List.ext_getElem hl.symm
 intro i h1 h2
 have:=h (cs[i],ds[i]) (by rw[List.mem_iff_getElem];exact⟨i,by simp;omega,by simp⟩)
 exact this.cA (List.all_eq_true.mp hf _ (List.getElem_mem h2))
theorem VR.bM {ρ:aw} {v v':Value} (h:VR ρ v v') (hf:Am.bM v=true):v'=v:=by
 cases h with
 |agg cs ds hl h=>rw[RH hl h (by simpa[Am.bM]using hf)]
 |tuple cs ds hl h=>rw[RH hl h (by simpa[Am.bM]using hf)]
 |_=>first|rfl|(simp[Am.bM,Am.cA]at hf)
theorem RI {ρ:aw} {cs:List Value} (h:∀v∈cs,VR ρ v v):∀p∈cs.zip cs,VR ρ p.1 p.2:=by
 rintro⟨a,b⟩ hp
 rw[List.mem_iff_getElem]at hp
 obtain⟨i,hi,he⟩:=hp
 simp at hi he
 rw[←he.1,←he.2]
 exact h _ (List.getElem_mem hi)
theorem VR.eC {ρ:aw} {v:Value} (hf:Am.bM v=true):VR ρ v v:=by
 unfold Am.bM at hf
 split at hf
 ·rename_i cs
  obtain⟨l⟩:=cs
  exact .agg l l rfl (RI fun v hv=>.oC (List.all_eq_true.mp hf v hv))
 ·rename_i cs
  obtain⟨l⟩:=cs
  exact .tuple l l rfl (RI fun v hv=>.oC (List.all_eq_true.mp hf v hv))
 ·exact .oC hf
theorem VT.eC {ρ:aw} {v:Value} (hf:Am.bM v=true):VT ρ v v:=.val _ _ (.eC hf)
theorem VT.bM {ρ:aw} {v v':Value} (h:VT ρ v v') (hf:Am.bM v=true):v'=v:=by
 cases h with
 |val _ _ h=>exact h.bM hf
 |loc s off x pl h=>simp[Am.bM,Am.cA]at hf
def bL (v:Value):Bool:=(fO v).isNone
theorem VT.bL {ρ:aw} {v v':Value} (h:VT ρ v v') (hf:Am.bL v=true):VR ρ v v':=by
 cases h with
 |val _ _ h=>exact h
 |loc s off x pl h=>simp[Am.bL,fO]at hf
def nj:Obj→Bool
 | .mapIter (some _) _ _ _=>false
 |_=>true
def jN (ρ:aw) (o:Obj) (x:Option Obj):Prop:=match o with
 | .mapIter (some b) s seen l=>∃pl,ρ (false,b)=some pl∧x=some (.mapIter (some pl.B) s seen l)
 |o=>x=some o
theorem jN.mono {ρ ρ':aw} (hρ:∀b pl,ρ (false,b)=some pl→ρ' (false,b)=some pl) {o:Obj} {x:Option Obj} (h:jN ρ o x):jN ρ' o x:=by
 unfold jN at h ⊢
 split
 ·simp only at h
  obtain⟨pl,q1,q2⟩:=h
  exact⟨pl,hρ _ _ q1,q2⟩
 ·rename_i hn
  split at h
  ·rename_i b s seen l
   exact absurd rfl (hn b s seen l)
  ·exact h
theorem jN.zO {ρ:aw} {o:Obj} {x:Option Obj} (hp:nj o=true) (h:x=some o):jN ρ o x:=by
 unfold jN
 split
 ·simp[nj]at hp
 ·exact h
theorem jN.plain {ρ:aw} {o:Obj} {x:Option Obj} (h:jN ρ o x) (hp:nj o=true):x=some o:=by
 unfold jN at h
 split at h
 ·simp[nj]at hp
 ·exact h
structure fW (P:Program) (ρ:aw) (m:Mem) (w:World):Prop where
 bound:∀k pl,ρ k=some pl→pl.B<w.heap.size
 cU:∀b pl,ρ (false,b)=some pl→b<m.h.n
 row:∀k pl wr e cs,ρ k=some pl→m.row? k=some (wr,e,cs)→∃C e' fz,w.heap[pl.B]? =some (.cells C e' fz)∧(wr=true→fz=(0,0))∧
  cs.length≤pl.n∧pl.o+pl.n≤C.size∧pl.sz=P.cellsOf e∧∀(i:Nat) (v:Value),cs[i]? =some v→∃v',C[pl.o+i]? =some v'∧VR ρ v v'
 obj:∀b pl o,ρ (false,b)=some pl→m.h.f b= .obj o→jN ρ o w.heap[pl.B]?∧pl.o=0
 sep:∀k k' pl pl',k≠k'→ρ k=some pl→ρ k'=some pl'→m.wr k→m.live k'→pl.B≠pl'.B
 gM:∀i,i<m.h.g→∃pl,ρ (false,i)=some pl∧pl.B=i∧pl.o=0
def mD (ρ:aw) (h:aa) (B:Nat):Prop:=∃b pl,ρ (false,b)=some pl∧pl.B=B∧h.wr b
structure Tr (ρ:aw) (h:aa) (w:World) (ρ':aw) (h':aa) (w':World):Prop where
 os:w'.os=w.os
 tape:w'.tape=w.tape
 output:w'.output=w.output
 drawn:h.g=0→w.drawn≤w'.drawn
 size:w.heap.size≤w'.heap.size
 ext:∀b pl,ρ (false,b)=some pl→ρ' (false,b)=some pl
 hn:h.n≤h'.n
 hg:h'.g=h.g
 new:∀b pl,ρ' (false,b)=some pl→ρ (false,b)=none→h.n≤b∧(h'.f b≠.dead→w.heap.size≤pl.B∨mD ρ h pl.B)
 dead:∀b,b<h.n→h'.f b≠.dead→h.f b≠.dead
 jk:∀b,b<h.n→h'.wr b→h.wr b
 frame:∀B,B<w.heap.size→¬mD ρ h B→w'.heap[B]? =w.heap[B]?
structure Inv (P:Program) (ρ0:aw) (h0:aa) (w0:World) (ρ:aw) (m:Mem) (w:World):Prop where
 rel:fW P ρ m w
 tr:Tr ρ0 h0 w0 ρ m.h w
 box:∀s pl,ρ (true,s)=some pl→w0.heap.size≤pl.B
 ky:∀b pl,ρ0 (false,b)=some pl→b<h0.n∧pl.B<w0.heap.size
theorem Inv.own {P:Program} {ρ0 ρ:aw} {h0:aa} {w0 w:World} {m:Mem} (I:Inv P ρ0 h0 w0 ρ m w) {B:Nat} (h:mD ρ m.h B):w0.heap.size≤B∨mD ρ0 h0 B:=by
 obtain⟨b,pl,hb,rfl,hw⟩:=h
 cases h0b:ρ0 (false,b)with
 |none=>
  have hl:m.h.f b≠.dead:=Mem.qe (m:=m) (k:=(false,b)) hw
  exact(I.tr.new b pl hb h0b).2 hl
 |some pl0=>
  have:=I.tr.ext b pl0 h0b
  rw[this]at hb
  obtain rfl:=Option.some.inj hb
  exact .inr ⟨b,_,h0b,rfl,I.tr.jk b (I.ky b _ h0b).1 hw⟩
def aw.eg (ρ:aw) (k:Key) (pl:Pl):aw:=fun k'=>if k'=k then some pl else ρ k'
theorem aw.fV (ρ:aw) (k:Key) (pl:Pl):ρ.eg k pl k=some pl:=by simp[aw.eg]
theorem aw.b9 (ρ:aw) {k k':Key} (pl:Pl) (h:k'≠k):ρ.eg k pl k'=ρ k':=by simp[aw.eg,h]
theorem Tr.refl (ρ:aw) (h:aa) (w:World):Tr ρ h w ρ h w:=
 ⟨rfl,rfl,rfl,fun _=>Nat.le_refl _,Nat.le_refl _,fun _ _ h=>h,Nat.le_refl _,rfl,fun b pl h h'=>by rw[h]at h';simp at h',fun _ _ h=>h,fun _ _ h=>h,fun _ _ _=>rfl⟩
variable {cs0:List Value} {P:Program} {ρ0 ρ:aw} {h0:aa} {w0 w:World} {m:Mem}
theorem pZ (w:World) (o:Obj) {B:Nat} (h:B<w.heap.size):(w.alloc o).heap[B]? =w.heap[B]? :=by
 simp only[World.alloc]
 rw[Array.getElem?_push,if_neg (by omega)]
theorem sU (w:World) (o:Obj):(w.alloc o).heap[w.heap.size]? =some o:=by
 simp only[World.alloc]
 rw[Array.getElem?_push,if_pos rfl]
theorem Inv.drew (I:Inv P ρ0 h0 w0 ρ m w):Inv P ρ0 h0 w0 ρ m w.drew:=
 ⟨⟨I.rel.bound,I.rel.cU,I.rel.row,I.rel.obj,I.rel.sep,I.rel.gM⟩,⟨I.tr.os,I.tr.tape,I.tr.output,fun hg=>Nat.le_succ_of_le (I.tr.drawn hg),I.tr.size,I.tr.ext,I.tr.hn,I.tr.hg,I.tr.new,I.tr.dead,I.tr.jk,I.tr.frame⟩,I.box,I.ky⟩
inductive Fits (P:Program) (ρ:aw):aO→Obj→Pl→Prop
 |row (e e':TypeId) (cs:List Value) (C:Array Value) (B:Nat) (hn:cs.length≤C.size)
   (h:∀(i:Nat) (v:Value),cs[i]? =some v→∃v',C[i]? =some v'∧VR ρ v v'):Fits P ρ (.row true e cs) (.cells C e' (0,0)) ⟨B,0,C.size,P.cellsOf e⟩
 |obj (o:Obj) (B sz:Nat) (hp:nj o=true):Fits P ρ (.obj o) o ⟨B,0,0,sz⟩
 |iter (b:Nat) (plb:Pl) (s:Nat) (seen:Array Nat) (l B sz:Nat) (h:ρ (false,b)=some plb):Fits P ρ (.obj (.mapIter (some b) s seen l)) (.mapIter (some plb.B) s seen l) ⟨B,0,0,sz⟩
theorem Fits.B {x:aO} {o:Obj} {pl:Pl} (h:Fits P ρ x o pl) (B:Nat):Fits P ρ x o {pl with B:=B}:=by
 cases h with
 |row e e' cs C B' hn h=>exact .row e e' cs C B hn h
 |obj o B' sz hp=>exact .obj o B sz hp
 |iter b plb s seen l B' sz h=>exact .iter b plb s seen l B sz h
theorem Inv.mY (I:Inv P ρ0 h0 w0 ρ m w) {x:aO} {o:Obj} {pl:Pl} (hf:Fits P ρ x o pl) (hB:pl.B=w.heap.size):
  Inv P ρ0 h0 w0 (ρ.eg (false,m.h.n) pl) ⟨m.x,m.h.new x⟩ (w.alloc o):=by
 have hnone:∀pl',ρ (false,m.h.n)≠some pl':=fun pl' h=>Nat.lt_irrefl _ (I.rel.cU _ _ h)
 have hold:∀{k pl'},ρ k=some pl'→k≠(false,m.h.n):=fun h e=>hnone _ (e ▸ h)
 have hmono:∀b pl',ρ (false,b)=some pl'→ρ.eg (false,m.h.n) pl (false,b)=some pl':=fun b pl' h=>by rw[aw.b9 _ _ (hold h)];exact h
 have hfo:∀{b pl'},ρ (false,b)=some pl'→(m.h.new x).f b=m.h.f b:=fun{b pl'} h=>by
  have:=I.rel.cU _ _ h;simp only[aa.new];rw[if_neg (by omega)]
 have hfn:(m.h.new x).f m.h.n=x:=by simp[aa.new]
 have hrow:∀{k pl'},ρ k=some pl'→(Mem.mk m.x (m.h.new x)).row? k=m.row? k:=fun{k pl'} h=>by
  obtain⟨t,b⟩:=k
  cases t
  ·simp only[Mem.row?,hfo h]
  ·rfl
 have hwr:∀{k pl'},ρ k=some pl'→(Mem.mk m.x (m.h.new x)).wr k=m.wr k:=fun{k pl'} h=>by
  obtain⟨t,b⟩:=k
  cases t
  ·simp only[Mem.wr,aa.wr,hfo h]
  ·rfl
 have hlive:∀{k pl'},ρ k=some pl'→(Mem.mk m.x (m.h.new x)).live k=m.live k:=fun{k pl'} h=>by
  obtain⟨t,b⟩:=k
  cases t
  ·simp only[Mem.live,hfo h]
  ·rfl
 have hsz:(w.alloc o).heap.size=w.heap.size+1:=by simp
 refine⟨⟨?_,?_,?_,?_,?_,fun i hi=>let ⟨pl',q1,q2⟩:=I.rel.gM i hi;⟨pl',hmono _ _ q1,q2⟩⟩,⟨I.tr.os,I.tr.tape,I.tr.output,I.tr.drawn,by rw[hsz];exact Nat.le_succ_of_le I.tr.size,?_,by simp only[aa.new];exact Nat.le_succ_of_le I.tr.hn,I.tr.hg,?_,?_,?_,?_⟩,?_,I.ky⟩
 ·intro k pl' h
  by_cases e:k=(false,m.h.n)
  ·subst e;rw[aw.fV]at h;obtain rfl:=Option.some.inj h;rw[hsz,hB];omega
  ·rw[aw.b9 _ _ e]at h;have:=I.rel.bound _ _ h;omega
 ·intro b pl' h
  by_cases e:(false,b)=(false,m.h.n)
  ·simp only[Prod.mk.injEq,true_and]at e;subst e;simp[aa.new]
  ·rw[aw.b9 _ _ e]at h;have:=I.rel.cU _ _ h;simp only[aa.new];omega
 ·intro k pl' wr e cs h hr
  by_cases ek:k=(false,m.h.n)
  ·subst ek
   rw[aw.fV]at h;obtain rfl:=Option.some.inj h
   simp only[Mem.row?,hfn]at hr
   cases hf with
   |row e1 e' cs1 C B hn hc=>
    simp only[Option.some.injEq,Prod.mk.injEq]at hr
    obtain⟨rfl,rfl,rfl⟩:=hr
    simp only at hB
    subst hB
    refine⟨C,e',(0,0),sU w _,fun _=>rfl,hn,by simp,rfl,fun i v hi=>?_⟩
    obtain⟨v',h1,h2⟩:=hc i v hi
    exact⟨v',by simpa using h1,h2.mono hmono⟩
   |obj o B sz=>simp at hr
   |iter b plb s seen l B sz h=>simp at hr
  ·rw[aw.b9 _ _ ek]at h
   rw[hrow h]at hr
   obtain⟨C,e',fz,h1,h2,h3,h4,h5,h6⟩:=I.rel.row _ _ _ _ _ h hr
   refine⟨C,e',fz,by rw[pZ _ _ (I.rel.bound _ _ h)];exact h1,h2,h3,h4,h5,fun i v hi=>?_⟩
   obtain⟨v',q1,q2⟩:=h6 i v hi
   exact⟨v',q1,q2.mono hmono⟩
 ·intro b pl' o' h ho
  by_cases ek:b=m.h.n
  ·subst ek
   rw[aw.fV]at h;obtain rfl:=Option.some.inj h
   rw[hfn]at ho
   cases hf with
   |row=>simp at ho
   |obj o B sz hp=>
    simp only[aO.obj.injEq]at ho;subst ho
    simp only at hB;subst hB
    exact⟨.zO hp (sU w _),rfl⟩
   |iter b plb s seen l B sz hb=>
    simp only[aO.obj.injEq]at ho;subst ho
    simp only at hB;subst hB
    exact⟨⟨plb,hmono _ _ hb,sU w _⟩,rfl⟩
  ·rw[aw.b9 _ _ (by simpa using ek)]at h
   rw[hfo h]at ho
   rw[pZ _ _ (I.rel.bound _ _ h)]
   exact⟨(I.rel.obj _ _ _ h ho).1.mono hmono,(I.rel.obj _ _ _ h ho).2⟩
 ·intro k k' pl1 pl2 hne h1 h2 hw hl
  by_cases e1:k=(false,m.h.n)
  ·have e2:k'≠(false,m.h.n):=fun e=>hne (e1.trans e.symm)
   subst e1
   rw[aw.fV]at h1;obtain rfl:=Option.some.inj h1
   rw[aw.b9 _ _ e2]at h2
   have:=I.rel.bound _ _ h2;omega
  ·rw[aw.b9 _ _ e1]at h1
   by_cases e2:k'=(false,m.h.n)
   ·subst e2
    rw[aw.fV]at h2;obtain rfl:=Option.some.inj h2
    have:=I.rel.bound _ _ h1;omega
   ·rw[aw.b9 _ _ e2]at h2
    rw[hwr h1]at hw;rw[hlive h2]at hl
    exact I.rel.sep _ _ _ _ hne h1 h2 hw hl
 ·intro b pl' h;exact hmono _ _ (I.tr.ext _ _ h)
 ·intro b pl' h h'
  by_cases e:b=m.h.n
  ·subst e
   rw[aw.fV]at h;obtain rfl:=Option.some.inj h
   exact⟨I.tr.hn,fun _=>.inl (by rw[hB];exact I.tr.size)⟩
  ·rw[aw.b9 _ _ (by simpa using e)]at h
   obtain⟨q1,q2⟩:=I.tr.new _ _ h h'
   exact⟨q1,fun hl=>q2 (by rwa[hfo h]at hl)⟩
 ·intro b hb hl
  have:(m.h.new x).f b=m.h.f b:=by simp only[aa.new];rw[if_neg (by have:=I.tr.hn;omega)]
  rw[this]at hl
  exact I.tr.dead b hb hl
 ·intro b hb hl
  have:(m.h.new x).wr b=m.h.wr b:=by simp only[aa.wr,aa.new];rw[if_neg (by have:=I.tr.hn;omega)]
  rw[this]at hl
  exact I.tr.jk b hb hl
 ·intro B hBs ho
  rw[pZ _ _ (by have:=I.tr.size;omega)]
  exact I.tr.frame B hBs ho
 ·intro s pl' h
  rw[aw.b9 _ _ (by simp)]at h
  exact I.box s pl' h
theorem Inv.fu (I:Inv P ρ0 h0 w0 ρ m w) (s:Nat) {e:TypeId} {cs:List Value} {o:Obj} {pl:Pl} (hf:Fits P ρ (.row true e cs) o pl) (hB:pl.B=w.heap.size):
  Inv P ρ0 h0 w0 (ρ.eg (true,s) pl) ⟨m.x.set s (e,cs),m.h⟩ (w.alloc o):=by
 have hmono:∀b pl',ρ (false,b)=some pl'→ρ.eg (true,s) pl (false,b)=some pl':=fun b pl' h=>by rw[aw.b9 _ _ (by simp)];exact h
 have hback:∀b pl',ρ.eg (true,s) pl (false,b)=some pl'→ρ (false,b)=some pl':=fun b pl' h=>by rwa[aw.b9 _ _ (by simp)]at h
 have hsz:(w.alloc o).heap.size=w.heap.size+1:=by simp
 have hne:∀{k:Key},k≠(true,s)→(Mem.mk (m.x.set s (e,cs)) m.h).row? k=m.row? k∧(Mem.mk (m.x.set s (e,cs)) m.h).wr k=m.wr k∧(Mem.mk (m.x.set s (e,cs)) m.h).live k=m.live k:=fun{k} hk=>by
  obtain⟨t,b⟩:=k
  cases t
  ·exact⟨rfl,rfl,rfl⟩
  ·have:¬s=b:=fun h=>hk (by rw[h])
   simp[Mem.row?,Mem.wr,Mem.live,bI.qg,this]
 refine⟨⟨?_,?_,?_,?_,?_,fun i hi=>let ⟨pl',q1,q2⟩:=I.rel.gM i hi;⟨pl',hmono _ _ q1,q2⟩⟩,⟨I.tr.os,I.tr.tape,I.tr.output,I.tr.drawn,by rw[hsz];exact Nat.le_succ_of_le I.tr.size,fun b pl' h=>hmono _ _ (I.tr.ext _ _ h),I.tr.hn,I.tr.hg,fun b pl' h h'=>I.tr.new _ _ (hback _ _ h) h',I.tr.dead,I.tr.jk,?_⟩,?_,I.ky⟩
 ·intro k pl' h
  by_cases e:k=(true,s)
  ·subst e;rw[aw.fV]at h;obtain rfl:=Option.some.inj h;rw[hsz,hB];omega
  ·rw[aw.b9 _ _ e]at h;have:=I.rel.bound _ _ h;omega
 ·intro b pl' h;exact I.rel.cU _ _ (hback _ _ h)
 ·intro k pl' wr e1 cs1 h hr
  by_cases ek:k=(true,s)
  ·subst ek
   rw[aw.fV]at h;obtain rfl:=Option.some.inj h
   simp only[Mem.row?,bI.qg,if_true]at hr
   simp only[Option.some.injEq,Prod.mk.injEq]at hr
   obtain⟨rfl,rfl,rfl⟩:=hr
   cases hf with
   |row e1 e' cs1 C B hn hc=>
    simp only at hB
    subst hB
    refine⟨C,e',(0,0),sU w _,fun _=>rfl,hn,by simp,rfl,fun i v hi=>?_⟩
    obtain⟨v',h1,h2⟩:=hc i v hi
    exact⟨v',by simpa using h1,h2.mono hmono⟩
  ·rw[aw.b9 _ _ ek]at h
   rw[(hne ek).1]at hr
   obtain⟨C,e',fz,h1,h2,h3,h4,h5,h6⟩:=I.rel.row _ _ _ _ _ h hr
   refine⟨C,e',fz,by rw[pZ _ _ (I.rel.bound _ _ h)];exact h1,h2,h3,h4,h5,fun i v hi=>?_⟩
   obtain⟨v',q1,q2⟩:=h6 i v hi
   exact⟨v',q1,q2.mono hmono⟩
 ·intro b pl' o' h ho
  have h:=hback _ _ h
  rw[pZ _ _ (I.rel.bound _ _ h)]
  exact⟨(I.rel.obj _ _ _ h ho).1.mono hmono,(I.rel.obj _ _ _ h ho).2⟩
 ·intro k k' pl1 pl2 hn h1 h2 hw hl
  by_cases e1:k=(true,s)
  ·have e2:k'≠(true,s):=fun e=>hn (e1.trans e.symm)
   subst e1
   rw[aw.fV]at h1;obtain rfl:=Option.some.inj h1
   rw[aw.b9 _ _ e2]at h2
   have:=I.rel.bound _ _ h2;omega
  ·rw[aw.b9 _ _ e1]at h1
   by_cases e2:k'=(true,s)
   ·subst e2
    rw[aw.fV]at h2;obtain rfl:=Option.some.inj h2
    have:=I.rel.bound _ _ h1;omega
   ·rw[aw.b9 _ _ e2]at h2
    rw[(hne e1).2.1]at hw;rw[(hne e2).2.2]at hl
    exact I.rel.sep _ _ _ _ hn h1 h2 hw hl
 ·intro B hBs ho
  rw[pZ _ _ (by have:=I.tr.size;omega)]
  exact I.tr.frame B hBs ho
 ·intro s' pl' h
  by_cases e:s'=s
  ·subst e;rw[aw.fV]at h;obtain rfl:=Option.some.inj h;rw[hB];exact I.tr.size
  ·rw[aw.b9 _ _ (by simpa using e)]at h
   exact I.box s' pl' h
def Mem.setRow (m:Mem):Key→TypeId→List Value→Mem
 |(true,s),e,cs=>⟨m.x.set s (e,cs),m.h⟩
 |(false,b),e,cs=>⟨m.x,m.h.set b (.row true e cs)⟩
theorem Mem.ann (m:Mem) (k:Key) (e:TypeId) (cs:List Value):(m.setRow k e cs).row? k=some (true,e,cs):=by
 obtain⟨t,b⟩:=k
 cases t
 ·simp[Mem.setRow,Mem.row?,aa.set]
 ·simp[Mem.setRow,Mem.row?,bI.qg]
theorem Mem.nw (m:Mem) {k k':Key} (e:TypeId) (cs:List Value) (h:k'≠k):
  (m.setRow k e cs).row? k'=m.row? k'∧(m.setRow k e cs).wr k'=m.wr k'∧(m.setRow k e cs).live k'=m.live k':=by
 obtain⟨t,b⟩:=k
 obtain⟨t',b'⟩:=k'
 cases t<;>cases t'
 ·have:¬b'=b:=fun q=>h (by rw[q])
  simp[Mem.setRow,Mem.row?,Mem.wr,Mem.live,aa.wr,aa.set,this]
 ·simp[Mem.setRow,Mem.row?,Mem.wr,Mem.live]
 ·simp[Mem.setRow,Mem.row?,Mem.wr,Mem.live]
 ·have:¬b=b':=fun q=>h (by rw[q])
  simp[Mem.setRow,Mem.row?,Mem.wr,Mem.live,bI.qg,this]
theorem Mem.tU (m:Mem) (k:Key) (e:TypeId) (cs:List Value) (hr:m.row? k=some (true,e,cs0)) (b:Nat):
  ((m.setRow k e cs).h.f b≠.dead↔m.h.f b≠.dead)∧((m.setRow k e cs).h.wr b↔m.h.wr b)∧(∀o,(m.setRow k e cs).h.f b= .obj o→m.h.f b= .obj o):=by
 obtain⟨t,b'⟩:=k
 cases t
 ·simp only[Mem.row?]at hr
  by_cases hb:b=b'
  ·subst hb
   simp only[Mem.setRow,aa.set,aa.wr,if_true]
   split at hr<;>simp_all
  ·simp[Mem.setRow,aa.set,aa.wr,hb]
 ·simp[Mem.setRow]
theorem Inv.putRow (I:Inv P ρ0 h0 w0 ρ m w) {k:Key} {pl:Pl} {e:TypeId} {cs:List Value} (hk:ρ k=some pl) (hr:m.row? k=some (true,e,cs))
  {ds:List Value} (hds:ds.length≤pl.n) {w':World} {C:Array Value} {e':TypeId}
  (hw:w'={w with heap:=w'.heap}) (hsz:w'.heap.size=w.heap.size) (hother:∀B,B≠pl.B→w'.heap[B]? =w.heap[B]?)
  (hB:w'.heap[pl.B]? =some (.cells C e' (0,0))) (hC:pl.o+pl.n≤C.size)
  (hcs:∀(i:Nat) (v:Value),ds[i]? =some v→∃v',C[pl.o+i]? =some v'∧VR ρ v v'):
  Inv P ρ0 h0 w0 ρ (m.setRow k e ds) w':=by
 obtain⟨C0,e0,fz,c1,c2,c3,c4,c5,c6⟩:=I.rel.row _ _ _ _ _ hk hr
 have hwk:=Mem.aqM hr
 have hlk:=Mem.qe hwk
 have e1:w'.os=w.os:=by rw[hw]
 have e2:w'.tape=w.tape:=by rw[hw]
 have e3:w'.output=w.output:=by rw[hw]
 have hothers:∀{k' pl'},ρ k'=some pl'→k'≠k→m.live k'→w'.heap[pl'.B]? =w.heap[pl'.B]? :=fun{k' pl'} h hne hl=>
  hother _ fun q=>I.rel.sep k k' pl pl' (Ne.symm hne) hk h hwk hl q.symm
 refine⟨⟨?_,?_,?_,?_,?_,?_⟩,⟨e1.trans I.tr.os,e2.trans I.tr.tape,e3.trans I.tr.output,by rw[hw];exact I.tr.drawn,by rw[hsz];exact I.tr.size,I.tr.ext,?_,?_,?_,?_,?_,?_⟩,I.box,I.ky⟩
 ·intro k' pl' h;rw[hsz];exact I.rel.bound _ _ h
 ·intro b pl' h
  have:=I.rel.cU _ _ h
  obtain⟨t,b'⟩:=k
  cases t<;>simpa[Mem.setRow,aa.set]using this
 ·intro k' pl' wr1 e1 cs1 h h1
  by_cases hne:k'=k
  ·subst hne
   rw[hk]at h;obtain rfl:=Option.some.inj h
   rw[Mem.ann]at h1
   simp only[Option.some.injEq,Prod.mk.injEq]at h1
   obtain⟨rfl,rfl,rfl⟩:=h1
   exact⟨C,e',(0,0),hB,fun _=>rfl,hds,hC,c5,hcs⟩
  ·rw[(Mem.nw m e _ hne).1]at h1
   obtain⟨D,e2,f2,d1,d2⟩:=I.rel.row _ _ _ _ _ h h1
   exact⟨D,e2,f2,by rw[hothers h hne (Mem.tb h1)];exact d1,d2⟩
 ·intro b pl' o h ho
  have ho':=(Mem.tU m k e _ hr b).2.2 o ho
  have hne:(false,b)≠k:=fun q=>by
   subst q;simp[Mem.row?,ho']at hr
  rw[hothers h hne (by simp[Mem.live,ho'])]
  exact I.rel.obj _ _ _ h ho'
 ·intro k1 k2 pl1 pl2 hne h1 h2 hw hl
  refine I.rel.sep k1 k2 pl1 pl2 hne h1 h2 ?_ ?_
  ·by_cases q:k1=k
   ·subst q;exact hwk
   ·rwa[(Mem.nw m e _ q).2.1]at hw
  ·by_cases q:k2=k
   ·subst q;exact hlk
   ·rwa[(Mem.nw m e _ q).2.2]at hl
 ·intro i hi
  refine I.rel.gM i ?_
  obtain⟨t,b'⟩:=k
  cases t<;>simpa[Mem.setRow,aa.set]using hi
 ·obtain⟨t,b'⟩:=k
  cases t<;>simpa[Mem.setRow,aa.set]using I.tr.hn
 ·obtain⟨t,b'⟩:=k
  cases t<;>simpa[Mem.setRow,aa.set]using I.tr.hg
 ·intro b pl' h h'
  obtain⟨q1,q2⟩:=I.tr.new _ _ h h'
  exact⟨q1,fun hl=>q2 ((Mem.tU m k e _ hr b).1.1 hl)⟩
 ·intro b hb hl
  exact I.tr.dead b hb ((Mem.tU m k e _ hr b).1.1 hl)
 ·intro b hb hl
  exact I.tr.jk b hb ((Mem.tU m k e _ hr b).2.1.1 hl)
 ·intro B hB' ho
  rw[hother]
  ·exact I.tr.frame B hB' ho
  ·intro q
   obtain⟨t,b'⟩:=k
   cases t
   ·rcases I.own ⟨b',pl,hk,q.symm,hwk⟩with h|h
    ·omega
    ·exact ho h
   ·have:=I.box _ _ hk;omega
theorem Inv.kill (I:Inv P ρ0 h0 w0 ρ m w) (b:Nat):Inv P ρ0 h0 w0 ρ ⟨m.x,m.h.set b .dead⟩ w:=by
 have hrow:∀{k r},(Mem.mk m.x (m.h.set b .dead)).row? k=some r→m.row? k=some r:=fun{k r} h=>by
  obtain⟨t,b'⟩:=k
  cases t
  ·simp only[Mem.row?,aa.set]at h ⊢
   by_cases q:b'=b
   ·simp[q]at h
   ·simpa[q]using h
  ·exact h
 have hwr:∀{k},(Mem.mk m.x (m.h.set b .dead)).wr k→m.wr k:=fun{k} h=>by
  obtain⟨t,b'⟩:=k
  cases t
  ·simp only[Mem.wr,aa.wr,aa.set]at h ⊢
   by_cases q:b'=b
   ·simp[q]at h
   ·simpa[q]using h
  ·exact h
 have hlive:∀{k},(Mem.mk m.x (m.h.set b .dead)).live k→m.live k:=fun{k} h=>by
  obtain⟨t,b'⟩:=k
  cases t
  ·simp only[Mem.live,aa.set]at h ⊢
   by_cases q:b'=b
   ·simp[q]at h
   ·simpa[q]using h
  ·exact h
 refine⟨⟨I.rel.bound,I.rel.cU,fun k pl wr e cs h hr=>I.rel.row k pl wr e cs h (hrow hr),fun b' pl o h ho=>I.rel.obj b' pl o h ?_,
  fun k k' pl pl' hne h h' hw hl=>I.rel.sep k k' pl pl' hne h h' (hwr hw) (hlive hl),I.rel.gM⟩,
  ⟨I.tr.os,I.tr.tape,I.tr.output,I.tr.drawn,I.tr.size,I.tr.ext,I.tr.hn,I.tr.hg,fun b' pl h h'=>?_,fun b' hb hl=>I.tr.dead b' hb (hlive (k:=(false,b')) hl),
   fun b' hb hl=>I.tr.jk b' hb (hwr (k:=(false,b')) hl),I.tr.frame⟩,I.box,I.ky⟩
 ·simp only[aa.set]at ho
  by_cases q:b'=b
  ·simp[q]at ho
  ·simpa[q]using ho
 ·obtain⟨q1,q2⟩:=I.tr.new _ _ h h'
  exact⟨q1,fun hl=>q2 (hlive (k:=(false,b')) hl)⟩
theorem Inv.PX (I:Inv P ρ0 h0 w0 ρ m w) {b:Nat} {pl:Pl} {o:Obj} (hk:ρ (false,b)=some pl) (ho:m.h.f b= .obj o) (oA o':Obj) (hAW:jN ρ oA (some o')):
  Inv P ρ0 h0 w0 ρ ⟨m.x,m.h.set b (.obj oA)⟩ {w with heap:=w.heap.setIfInBounds pl.B o'}:=by
 have hwk:m.wr (false,b):=by simp[Mem.wr,aa.wr,ho]
 have hlk:=Mem.qe hwk
 have hBb:=I.rel.bound _ _ hk
 have hrow:∀{k},(Mem.mk m.x (m.h.set b (.obj oA))).row? k=m.row? k:=fun{k}=>by
  obtain⟨t,b'⟩:=k
  cases t
  ·simp only[Mem.row?,aa.set]
   by_cases q:b'=b
   ·subst q;simp[ho]
   ·simp[q]
  ·rfl
 have hwr:∀{k},(Mem.mk m.x (m.h.set b (.obj oA))).wr k↔m.wr k:=fun{k}=>by
  obtain⟨t,b'⟩:=k
  cases t
  ·simp only[Mem.wr,aa.wr,aa.set]
   by_cases q:b'=b
   ·subst q;simp[ho]
   ·simp[q]
  ·exact Iff.rfl
 have hlive:∀{k},(Mem.mk m.x (m.h.set b (.obj oA))).live k↔m.live k:=fun{k}=>by
  obtain⟨t,b'⟩:=k
  cases t
  ·simp only[Mem.live,aa.set]
   by_cases q:b'=b
   ·subst q;simp[ho]
   ·simp[q]
  ·exact Iff.rfl
 have hh:∀B,B≠pl.B→(w.heap.setIfInBounds pl.B o')[B]? =w.heap[B]? :=fun B h=>by rw[Array.getElem?_setIfInBounds_ne (Ne.symm h)]
 have hothers:∀{k' pl'},ρ k'=some pl'→k'≠(false,b)→m.live k'→(w.heap.setIfInBounds pl.B o')[pl'.B]? =w.heap[pl'.B]? :=fun{k' pl'} h hne hl=>
  hh _ fun q=>I.rel.sep _ _ _ _ (Ne.symm hne) hk h hwk hl q.symm
 refine⟨⟨fun k' pl' h=>by simpa using I.rel.bound _ _ h,I.rel.cU,fun k' pl' wr e cs h hr=>?_,fun b' pl' o1 h ho1=>?_,
  fun k' k'' pl1 pl2 hne h h' hw hl=>I.rel.sep _ _ pl1 pl2 hne h h' (hwr.1 hw) (hlive.1 hl),I.rel.gM⟩,
  ⟨I.tr.os,I.tr.tape,I.tr.output,I.tr.drawn,by simpa using I.tr.size,I.tr.ext,I.tr.hn,I.tr.hg,fun b' pl' h h'=>?_,fun b' hb hl=>I.tr.dead b' hb ((hlive (k:=(false,b'))).1 hl),
   fun b' hb hl=>I.tr.jk b' hb ((hwr (k:=(false,b'))).1 hl),fun B hB hO=>?_⟩,I.box,I.ky⟩
 ·rw[hrow]at hr
  obtain⟨D,e2,f2,d1,d2⟩:=I.rel.row _ _ _ _ _ h hr
  have hne:k'≠(false,b):=fun q=>by subst q;simp[Mem.row?,ho]at hr
  exact⟨D,e2,f2,by rw[hothers h hne (Mem.tb hr)];exact d1,d2⟩
 ·by_cases q:b'=b
  ·subst q
   rw[hk]at h;obtain rfl:=Option.some.inj h
   simp only[aa.set,if_true,aO.obj.injEq]at ho1
   subst ho1
   exact⟨by simp only;rw[Array.getElem?_setIfInBounds_self_of_lt hBb];exact hAW,(I.rel.obj _ _ _ hk ho).2⟩
  ·simp only[aa.set,q,if_false]at ho1
   simp only
   rw[hothers h (by simpa using q) (by simp[Mem.live,ho1])]
   exact I.rel.obj _ _ _ h ho1
 ·obtain⟨q1,q2⟩:=I.tr.new _ _ h h'
  exact⟨q1,fun hl=>q2 ((hlive (k:=(false,b'))).1 hl)⟩
 ·simp only
  rw[hh]
  ·exact I.tr.frame B hB hO
  ·intro q
   rcases I.own ⟨b,pl,hk,q.symm,hwk⟩with h|h
   ·omega
   ·exact hO h
theorem Inv.setObj (I:Inv P ρ0 h0 w0 ρ m w) {b:Nat} {pl:Pl} {o:Obj} (hk:ρ (false,b)=some pl) (ho:m.h.f b= .obj o) (o':Obj) (hp:nj o'=true):
  Inv P ρ0 h0 w0 ρ ⟨m.x,m.h.set b (.obj o')⟩ {w with heap:=w.heap.setIfInBounds pl.B o'}:=I.PX hk ho o' o' (.zO hp rfl)
theorem Inv.amB (I:Inv P ρ0 h0 w0 ρ m w) {b:Nat} {pl:Pl} {e:TypeId} {cs:List Value} (hk:ρ (false,b)=some pl) (hr:m.h.f b= .row true e cs)
  {off:Nat} {ds:List Value} (hoff:off+ds.length≤pl.n) {w':World} {C:Array Value} {e':TypeId}
  (hw:w'={w with heap:=w'.heap}) (hsz:w'.heap.size=w.heap.size) (hother:∀B,B≠pl.B→w'.heap[B]? =w.heap[B]?)
  (hB:w'.heap[pl.B]? =some (.cells C e' (0,0))) (hC:pl.o+pl.n≤C.size)
  (hcs:∀(i:Nat) (v:Value),ds[i]? =some v→∃v',C[pl.o+off+i]? =some v'∧VR ρ v v'):
  Inv P ρ0 h0 w0 (ρ.eg (false,m.h.n) ⟨pl.B,pl.o+off,pl.n-off,pl.sz⟩) ⟨m.x,(m.h.set b .dead).new (.row true e ds)⟩ w':=by
 have hwk:m.wr (false,b):=by simp[Mem.wr,aa.wr,hr]
 have hbn:=I.rel.cU _ _ hk
 have hnone:∀pl',ρ (false,m.h.n)≠some pl':=fun pl' h=>Nat.lt_irrefl _ (I.rel.cU _ _ h)
 have hold:∀{k pl'},ρ k=some pl'→k≠(false,m.h.n):=fun h e=>hnone _ (e ▸ h)
 have hmono:∀b pl',ρ (false,b)=some pl'→ρ.eg (false,m.h.n) ⟨pl.B,pl.o+off,pl.n-off,pl.sz⟩ (false,b)=some pl':=fun b pl' h=>by rw[aw.b9 _ _ (hold h)];exact h
 obtain⟨C0,e0,fz0,c1,c2,c3,c4,c5,c6⟩:=I.rel.row (false,b) pl true e cs hk (by simp[Mem.row?,hr])
 have hf:∀i,i<m.h.n→((m.h.set b .dead).new (.row true e ds)).f i=if i=b then .dead else m.h.f i:=fun i hi=>by
  have:¬i=m.h.n:=by omega
  simp only[aa.new,aa.set,this,if_false]
 have hfn:((m.h.set b .dead).new (.row true e ds)).f m.h.n= .row true e ds:=by simp[aa.new,aa.set]
 have hrow:∀{k pl' r},ρ k=some pl'→(Mem.mk m.x ((m.h.set b .dead).new (.row true e ds))).row? k=some r→k≠(false,b)∧m.row? k=some r:=fun{k pl' r} h q=>by
  obtain⟨t,i⟩:=k
  cases t
  ·have hi:=I.rel.cU _ _ h
   simp only[Mem.row?,hf i hi]at q
   by_cases hib:i=b
   ·simp[hib]at q
   ·simp only[hib,if_false]at q;exact⟨by simpa using hib,q⟩
  ·exact⟨by simp,q⟩
 have hlive:∀{k pl'},ρ k=some pl'→(Mem.mk m.x ((m.h.set b .dead).new (.row true e ds))).live k→k≠(false,b)∧m.live k:=fun{k pl'} h q=>by
  obtain⟨t,i⟩:=k
  cases t
  ·have hi:=I.rel.cU _ _ h
   simp only[Mem.live,hf i hi]at q
   by_cases hib:i=b
   ·simp[hib]at q
   ·simp only[hib,if_false]at q;exact⟨by simpa using hib,q⟩
  ·exact⟨by simp,q⟩
 have hwr:∀{k pl'},ρ k=some pl'→(Mem.mk m.x ((m.h.set b .dead).new (.row true e ds))).wr k→k≠(false,b)∧m.wr k:=fun{k pl'} h q=>by
  obtain⟨t,i⟩:=k
  cases t
  ·have hi:=I.rel.cU _ _ h
   simp only[Mem.wr,aa.wr,hf i hi]at q
   by_cases hib:i=b
   ·simp[hib]at q
   ·simp only[hib,if_false]at q;exact⟨by simpa using hib,q⟩
  ·exact⟨by simp,q⟩
 have hsep:∀{k pl'},ρ k=some pl'→k≠(false,b)→m.live k→pl'.B≠pl.B:=fun{k pl'} h hne hl q=>
  I.rel.sep _ _ _ _ (Ne.symm hne) hk h hwk hl q.symm
 have e1:w'.os=w.os:=by rw[hw]
 have e2:w'.tape=w.tape:=by rw[hw]
 have e3:w'.output=w.output:=by rw[hw]
 have ewf:((m.h.set b .dead).new (.row true e ds)).n=m.h.n+1:=rfl
 refine⟨⟨?_,?_,?_,?_,?_,fun i hi=>let ⟨pl',q1,q2⟩:=I.rel.gM i hi;⟨pl',hmono _ _ q1,q2⟩⟩,
  ⟨e1.trans I.tr.os,e2.trans I.tr.tape,e3.trans I.tr.output,by rw[hw];exact I.tr.drawn,by rw[hsz];exact I.tr.size,fun b pl' h=>hmono _ _ (I.tr.ext _ _ h),
   by simp only[ewf];exact Nat.le_succ_of_le I.tr.hn,I.tr.hg,?_,?_,?_,?_⟩,?_,I.ky⟩
 ·intro k pl' h
  by_cases q:k=(false,m.h.n)
  ·subst q;rw[aw.fV]at h;obtain rfl:=Option.some.inj h;rw[hsz];exact I.rel.bound (false,b) pl hk
  ·rw[aw.b9 _ _ q]at h;rw[hsz];exact I.rel.bound _ _ h
 ·intro i pl' h
  by_cases q:(false,i)=(false,m.h.n)
  ·simp only[Prod.mk.injEq,true_and]at q;subst q;simp only[ewf];omega
  ·rw[aw.b9 _ _ q]at h;have:=I.rel.cU _ _ h;simp only[ewf];omega
 ·intro k pl' wr1 e1 cs1 h h1
  by_cases q:k=(false,m.h.n)
  ·subst q
   rw[aw.fV]at h;obtain rfl:=Option.some.inj h
   simp only[Mem.row?,hfn,Option.some.injEq,Prod.mk.injEq]at h1
   obtain⟨rfl,rfl,rfl⟩:=h1
   refine⟨C,e',(0,0),hB,fun _=>rfl,by simp only;omega,by simp only;omega,c5,fun i v hi=>?_⟩
   obtain⟨v',q1,q2⟩:=hcs i v hi
   exact⟨v',q1,q2.mono hmono⟩
  ·rw[aw.b9 _ _ q]at h
   obtain⟨hne,h1⟩:=hrow h h1
   obtain⟨D,e2,f2,d1,d2,d3,d4,d5,d6⟩:=I.rel.row _ _ _ _ _ h h1
   refine⟨D,e2,f2,by rw[hother _ (hsep h hne (Mem.tb h1))];exact d1,d2,d3,d4,d5,fun i v hi=>?_⟩
   obtain⟨v',q1,q2⟩:=d6 i v hi
   exact⟨v',q1,q2.mono hmono⟩
 ·intro i pl' o h ho
  by_cases q:i=m.h.n
  ·subst q;rw[hfn]at ho;simp at ho
  ·rw[aw.b9 _ _ (by simpa using q)]at h
   have hl:=hlive h (by simp only[Mem.live,ne_eq];intro z;rw[z]at ho;simp at ho)
   rw[hf i (I.rel.cU _ _ h)]at ho
   have hib:i≠b:=by simpa using hl.1
   rw[if_neg hib]at ho
   rw[hother _ (hsep h hl.1 hl.2)]
   exact⟨(I.rel.obj _ _ _ h ho).1.mono hmono,(I.rel.obj _ _ _ h ho).2⟩
 ·intro k1 k2 pl1 pl2 hne h1 h2 hw hl
  by_cases q1:k1=(false,m.h.n)
  ·have q2:k2≠(false,m.h.n):=fun q=>hne (q1.trans q.symm)
   subst q1
   rw[aw.fV]at h1;obtain rfl:=Option.some.inj h1
   rw[aw.b9 _ _ q2]at h2
   obtain⟨a1,a2⟩:=hlive h2 hl
   exact fun q=>hsep h2 a1 a2 q.symm
  ·rw[aw.b9 _ _ q1]at h1
   obtain⟨a1,a2⟩:=hwr h1 hw
   by_cases q2:k2=(false,m.h.n)
   ·subst q2
    rw[aw.fV]at h2;obtain rfl:=Option.some.inj h2
    exact hsep h1 a1 (Mem.qe a2)
   ·rw[aw.b9 _ _ q2]at h2
    exact I.rel.sep _ _ _ _ hne h1 h2 a2 (hlive h2 hl).2
 ·intro i pl' h h'
  by_cases q:i=m.h.n
  ·subst q
   rw[aw.fV]at h;obtain rfl:=Option.some.inj h
   exact⟨I.tr.hn,fun _=>I.own ⟨b,pl,hk,rfl,hwk⟩⟩
  ·rw[aw.b9 _ _ (by simpa using q)]at h
   obtain⟨q1,q2⟩:=I.tr.new _ _ h h'
   exact⟨q1,fun hl=>q2 (hlive (k:=(false,i)) h hl).2⟩
 ·intro i hi hl
  have hin:i<m.h.n:=Nat.lt_of_lt_of_le hi I.tr.hn
  simp only at hl
  rw[hf i hin]at hl
  by_cases q:i=b
  ·simp[q]at hl
  ·rw[if_neg q]at hl;exact I.tr.dead i hi hl
 ·intro i hi hl
  have hin:i<m.h.n:=Nat.lt_of_lt_of_le hi I.tr.hn
  simp only[aa.wr,hf i hin]at hl
  by_cases q:i=b
  ·simp[q]at hl
  ·simp only[q,if_false]at hl;exact I.tr.jk i hi hl
 ·intro B hB' hO
  rw[hother]
  ·exact I.tr.frame B hB' hO
  ·intro q
   rcases I.own ⟨b,pl,hk,q.symm,hwk⟩with h|h
   ·omega
   ·exact hO h
 ·intro s pl' h
  rw[aw.b9 _ _ (by simp)]at h
  exact I.box s pl' h
theorem Inv.agl (I:Inv P ρ0 h0 w0 ρ m w) (x:aO):Inv P ρ0 h0 w0 ρ ⟨m.x,m.h.new x⟩ w:=by
 have hfo:∀{b pl'},ρ (false,b)=some pl'→(m.h.new x).f b=m.h.f b:=fun{b pl'} h=>by
  have:=I.rel.cU _ _ h;simp only[aa.new];rw[if_neg (by omega)]
 have hrow:∀{k pl'},ρ k=some pl'→(Mem.mk m.x (m.h.new x)).row? k=m.row? k:=fun{k pl'} h=>by
  obtain⟨t,b⟩:=k
  cases t
  ·simp only[Mem.row?,hfo h]
  ·rfl
 have hwr:∀{k pl'},ρ k=some pl'→(Mem.mk m.x (m.h.new x)).wr k=m.wr k:=fun{k pl'} h=>by
  obtain⟨t,b⟩:=k
  cases t
  ·simp only[Mem.wr,aa.wr,hfo h]
  ·rfl
 have hlive:∀{k pl'},ρ k=some pl'→(Mem.mk m.x (m.h.new x)).live k=m.live k:=fun{k pl'} h=>by
  obtain⟨t,b⟩:=k
  cases t
  ·simp only[Mem.live,hfo h]
  ·rfl
 refine⟨⟨I.rel.bound,fun b pl h=>by have:=I.rel.cU _ _ h;simp only[aa.new];omega,fun k pl wr e cs h hr=>I.rel.row k pl wr e cs h (by rwa[hrow h]at hr),
  fun b pl o h ho=>I.rel.obj b pl o h (by rwa[hfo h]at ho),fun k k' pl pl' hne h h' hw hl=>I.rel.sep k k' pl pl' hne h h' (by rwa[hwr h]at hw) (by rwa[hlive h']at hl),I.rel.gM⟩,
  ⟨I.tr.os,I.tr.tape,I.tr.output,I.tr.drawn,I.tr.size,I.tr.ext,by simp only[aa.new];exact Nat.le_succ_of_le I.tr.hn,I.tr.hg,fun b pl h h'=>?_,fun b hb hl=>?_,fun b hb hl=>?_,I.tr.frame⟩,I.box,I.ky⟩
 ·obtain⟨q1,q2⟩:=I.tr.new _ _ h h'
  exact⟨q1,fun hl=>q2 (by rwa[hfo h]at hl)⟩
 ·have:(m.h.new x).f b=m.h.f b:=by simp only[aa.new];rw[if_neg (by have:=I.tr.hn;omega)]
  rw[this]at hl
  exact I.tr.dead b hb hl
 ·have:(m.h.new x).wr b=m.h.wr b:=by simp only[aa.wr,aa.new];rw[if_neg (by have:=I.tr.hn;omega)]
  rw[this]at hl
  exact I.tr.jk b hb hl
def fE (ρ:aw):aw:=fun k=>if k.1=true then none else ρ k
theorem kC (ρ:aw) (b:Nat):fE ρ (false,b)=ρ (false,b):=by simp[fE]
theorem zh (ρ:aw) (s:Nat):fE ρ (true,s)=none:=by simp[fE]
theorem od {ρ:aw} {k:Key} {pl:Pl} (h:fE ρ k=some pl):k.1=false∧ρ k=some pl:=by
 unfold fE at h
 split at h
 ·simp at h
 ·rename_i q;exact⟨by simpa using q,h⟩
theorem VR.fE {v v':Value} (h:VR ρ v v'):VR (fE ρ) v v':=h.mono fun b pl q=>by rw[kC];exact q
theorem fW.fE (R:fW P ρ m w):fW P (fE ρ) ⟨bI.nil,m.h⟩ w:=by
 refine⟨fun k pl h=>R.bound k pl (od h).2,fun b pl h=>R.cU b pl (od h).2,fun k pl wr e cs h hr=>?_,fun b pl o h ho=>⟨(R.obj b pl o (od h).2 ho).1.mono (fun b pl q=>by rw[kC];exact q),(R.obj b pl o (od h).2 ho).2⟩,
  fun k k' pl pl' hne h h' hw hl=>?_,fun i hi=>?_⟩
 ·obtain⟨t,b⟩:=k
  obtain⟨ht,h⟩:=od h
  simp only at ht;subst ht
  obtain⟨C,e',fz,c1,c2,c3,c4,c5,c6⟩:=R.row _ _ _ _ _ h (by simpa[Mem.row?]using hr)
  exact⟨C,e',fz,c1,c2,c3,c4,c5,fun i v hi=>let ⟨v',q1,q2⟩:=c6 i v hi;⟨v',q1,q2.fE⟩⟩
 ·obtain⟨t,b⟩:=k
  obtain⟨t',b'⟩:=k'
  obtain⟨ht,h⟩:=od h
  obtain⟨ht',h'⟩:=od h'
  simp only at ht ht';subst ht;subst ht'
  exact R.sep _ _ _ _ hne h h' hw hl
 ·obtain⟨pl,q1,q2⟩:=R.gM i hi
  exact⟨pl,by rw[kC];exact q1,q2⟩
def aw.join (ρ ρ':aw):aw:=fun k=>if k.1=true then ρ k else ρ' k
theorem Inv.call (I:Inv P ρ0 h0 w0 ρ m w) {ρ':aw} {h':aa} {w':World} (R:fW P ρ' ⟨bI.nil,h'⟩ w') (T:Tr (Am.fE ρ) m.h w ρ' h' w'):
  Inv P ρ0 h0 w0 (ρ.join ρ') ⟨m.x,h'⟩ w'∧(∀b pl,ρ (false,b)=some pl→ρ.join ρ' (false,b)=some pl)∧(∀s,ρ.join ρ' (true,s)=ρ (true,s)):=by
 have jt:∀s,ρ.join ρ' (true,s)=ρ (true,s):=fun s=>by simp[aw.join]
 have jf:∀b,ρ.join ρ' (false,b)=ρ' (false,b):=fun b=>by simp[aw.join]
 have hext:∀b pl,ρ (false,b)=some pl→ρ.join ρ' (false,b)=some pl:=fun b pl h=>by rw[jf];exact T.ext b pl (by rw[kC];exact h)
 have hback:∀{B},mD (Am.fE ρ) m.h B→mD ρ m.h B:=fun{B} ⟨b,pl,q1,q2⟩=>⟨b,pl,by rwa[kC]at q1,q2⟩
 have hbox:∀s pl,ρ (true,s)=some pl→m.live (true,s)→¬mD (Am.fE ρ) m.h pl.B:=fun s pl h hl ho=>by
  obtain⟨b,pl',q1,q2,q3⟩:=hback ho
  exact I.rel.sep (false,b) (true,s) pl' pl (by simp) q1 h q3 hl q2
 have hboxh:∀s pl,ρ (true,s)=some pl→m.live (true,s)→w'.heap[pl.B]? =w.heap[pl.B]? :=fun s pl h hl=>T.frame _ (I.rel.bound _ _ h) (hbox s pl h hl)
 have hapart:∀s pl b pl',ρ (true,s)=some pl→m.live (true,s)→ρ' (false,b)=some pl'→h'.f b≠.dead→pl.B≠pl'.B:=fun s pl b pl' h hl h2 hl2=>by
  cases hb:ρ (false,b)with
  |none=>
   rcases(T.new b pl' h2 (by rw[kC];exact hb)).2 hl2 with q|q
   ·have:=I.rel.bound _ _ h;omega
   ·exact fun e=>hbox s pl h hl (e ▸ q)
  |some pl0=>
   have:=T.ext b pl0 (by rw[kC];exact hb)
   rw[this]at h2;obtain rfl:=Option.some.inj h2
   exact I.rel.sep (true,s) (false,b) pl pl0 (by simp) h hb (by simpa[Mem.live,Mem.wr]using hl) (T.dead b (I.rel.cU _ _ hb) hl2)
 have hmono:∀{v u},VR ρ v u→VR (ρ.join ρ') v u:=fun{v u} h=>h.mono hext
 have hmono':∀{v u},VR ρ' v u→VR (ρ.join ρ') v u:=fun{v u} h=>h.mono fun b pl q=>by rw[jf];exact q
 refine⟨⟨⟨?_,?_,?_,?_,?_,?_⟩,⟨T.os.trans I.tr.os,T.tape.trans I.tr.tape,T.output.trans I.tr.output,fun hg=>Nat.le_trans (I.tr.drawn hg) (T.drawn (I.tr.hg.trans hg)),Nat.le_trans I.tr.size T.size,fun b pl h=>hext b pl (I.tr.ext b pl h),
  Nat.le_trans I.tr.hn T.hn,T.hg.trans I.tr.hg,?_,?_,?_,?_⟩,?_,I.ky⟩,hext,jt⟩
 ·rintro⟨t,b⟩ pl h
  cases t
  ·rw[jf]at h;exact R.bound _ _ h
  ·rw[jt]at h;exact Nat.lt_of_lt_of_le (I.rel.bound _ _ h) T.size
 ·intro b pl h;rw[jf]at h;exact R.cU b pl h
 ·rintro⟨t,b⟩ pl wr e cs h hr
  cases t
  ·rw[jf]at h
   obtain⟨C,e',fz,c1,c2,c3,c4,c5,c6⟩:=R.row _ _ _ _ _ h (by simpa[Mem.row?]using hr)
   exact⟨C,e',fz,c1,c2,c3,c4,c5,fun i v hi=>let ⟨v',q1,q2⟩:=c6 i v hi;⟨v',q1,hmono' q2⟩⟩
  ·rw[jt]at h
   have hr':m.row? (true,b)=some (wr,e,cs):=by simpa[Mem.row?]using hr
   obtain⟨C,e',fz,c1,c2,c3,c4,c5,c6⟩:=I.rel.row _ _ _ _ _ h hr'
   exact⟨C,e',fz,by rw[hboxh b pl h (Mem.tb hr')];exact c1,c2,c3,c4,c5,fun i v hi=>let ⟨v',q1,q2⟩:=c6 i v hi;⟨v',q1,hmono q2⟩⟩
 ·intro b pl o h ho;rw[jf]at h;exact⟨(R.obj b pl o h ho).1.mono (fun b pl q=>by rw[jf];exact q),(R.obj b pl o h ho).2⟩
 ·rintro⟨t,b⟩ ⟨t',b'⟩ pl pl' hne h h2 hw hl
  cases t<;>cases t'
  ·rw[jf]at h h2;exact R.sep _ _ _ _ hne h h2 hw hl
  ·rw[jf]at h;rw[jt]at h2
   exact fun e=>hapart b' pl' b pl h2 hl h (Mem.qe (m:=⟨m.x,h'⟩) (k:=(false,b)) hw) e.symm
  ·rw[jt]at h;rw[jf]at h2
   exact hapart b pl b' pl' h (Mem.qe (m:=m) (k:=(true,b)) hw) h2 hl
  ·rw[jt]at h h2;exact I.rel.sep _ _ _ _ hne h h2 hw hl
 ·intro i hi
  obtain⟨pl,q1,q2⟩:=R.gM i hi
  exact⟨pl,by rw[jf];exact q1,q2⟩
 ·intro b pl h hb
  rw[jf]at h
  cases hb':ρ (false,b)with
  |none=>
   obtain⟨q1,q2⟩:=T.new b pl h (by rw[kC];exact hb')
   refine⟨Nat.le_trans I.tr.hn q1,fun hl=>?_⟩
   rcases q2 hl with q|q
   ·exact .inl (Nat.le_trans I.tr.size q)
   ·exact I.own (hback q)
  |some pl0=>
   have:=T.ext b pl0 (by rw[kC];exact hb')
   rw[this]at h;obtain rfl:=Option.some.inj h
   obtain⟨q1,q2⟩:=I.tr.new b pl0 hb' hb
   exact⟨q1,fun hl=>q2 (T.dead b (I.rel.cU _ _ hb') hl)⟩
 ·exact fun b hb hl=>I.tr.dead b hb (T.dead b (Nat.lt_of_lt_of_le hb I.tr.hn) hl)
 ·exact fun b hb hl=>I.tr.jk b hb (T.jk b (Nat.lt_of_lt_of_le hb I.tr.hn) hl)
 ·intro B hB hO
  rw[T.frame B (Nat.lt_of_lt_of_le hB I.tr.size) ?_]
  ·exact I.tr.frame B hB hO
  ·intro q
   rcases I.own (hback q)with q|q
   ·omega
   ·exact hO q
 ·intro s pl h;rw[jt]at h;exact I.box s pl h
theorem Inv.start {h:aa} (R:fW P ρ ⟨bI.nil,h⟩ w) (hb:∀s,ρ (true,s)=none):Inv P ρ h w ρ ⟨bI.nil,h⟩ w:=
 ⟨R,Tr.refl _ _ _,fun s pl h=>by rw[hb]at h;simp at h,fun b pl h=>⟨R.cU b pl h,R.bound _ _ h⟩⟩
end Go.Am
namespace Go.Am
open Go
structure St where
 t:Fr
 m:Mem
def dE (ρ:aw) (T:Fr) (tmps:Array Value):Prop:=∀i v,T.get i=some v→∃v',tmps[i]? =some v'∧VT ρ v v'
def aG (σ:St):Operand→Option Value
 | .tmp i=>σ.t.get i
 | .const v=>if cA v then some v else none
 | .func f=>some (.func (.func f) #[] #[])
 | .global g=>if g<σ.m.h.g then some (.pointer (some ⟨g,0,none⟩))else none
section
variable {P:Program} {ρ0 ρ ρ':aw} {h0:aa} {w0 w:World} {m:Mem}
theorem VT.mono (hρ:∀b pl,ρ (false,b)=some pl→ρ' (false,b)=some pl) (ht:∀s,ρ' (true,s)=ρ (true,s)) {v v':Value} (h:VT ρ v v'):VT ρ' v v':=by
 cases h with
 |val _ _ h=>exact .val _ _ (h.mono hρ)
 |loc s off x pl h=>exact .loc s off x pl (by rw[ht];exact h)
theorem dE.mono (hρ:∀b pl,ρ (false,b)=some pl→ρ' (false,b)=some pl) (ht:∀s,ρ' (true,s)=ρ (true,s)) {T:Fr} {tmps:Array Value} (h:dE ρ T tmps):dE ρ' T tmps:=
 fun i v hi=>let ⟨v',q1,q2⟩:=h i v hi;⟨v',q1,q2.mono hρ ht⟩
theorem dE.put {T:Fr} {tmps:Array Value} (h:dE ρ T tmps) {i:Nat} (hi:i<tmps.size) {v v':Value} (hv:VT ρ v v'):dE ρ (T.put i v) (tmps.setIfInBounds i v'):=by
 intro j u hj
 simp only[Fr.put,Fr.get]at hj
 split at hj
 ·rename_i e;subst e;obtain rfl:=Option.some.inj hj
  exact⟨v',by rw[Array.getElem?_setIfInBounds_self_of_lt hi],hv⟩
 ·rename_i e
  obtain⟨u',q1,q2⟩:=h j u hj
  exact⟨u',by rw[Array.getElem?_setIfInBounds_ne e];exact q1,q2⟩
theorem dE.prune {T:Fr} {tmps:Array Value} (h:dE ρ T tmps) (l:List Nat):dE ρ (T.prune l) tmps:=fun i v hi=>h i v (Fr.adZ T i v l hi)
theorem dE.rQ {T:Fr} {tmps:Array Value} (h:dE ρ T tmps) (s:Nat) (pl:Pl):dE (ρ.eg (true,s) pl) (T.rQ s) tmps:=by
 intro i v hi
 rw[Fr.KA]at hi
 unfold tS at hi
 split at hi
 ·rename_i u hu
  obtain⟨u',q1,q2⟩:=h i u hu
  split at hi
  ·rename_i s' hs'
   split at hi
   ·simp at hi
   ·rename_i hne
    obtain rfl:=Option.some.inj hi
    refine⟨u',q1,?_⟩
    cases q2 with
    |val _ _ q=>exact .val _ _ (q.mono fun b p z=>by rw[aw.b9 _ _ (by simp)];exact z)
    |loc s2 off x p z=>
     simp only[fO,Option.some.injEq]at hs';subst hs'
     exact .loc _ off x p (by rw[aw.b9 _ _ (by simpa using hne)];exact z)
  ·rename_i hnone
   obtain rfl:=Option.some.inj hi
   refine⟨u',q1,?_⟩
   cases q2 with
   |val _ _ q=>exact .val _ _ (q.mono fun b p z=>by rw[aw.b9 _ _ (by simp)];exact z)
   |loc s2 off x p z=>simp[fO]at hnone
 ·simp at hi
theorem cC {σ:St} (I:Inv P ρ0 h0 w0 ρ σ.m w) {a:Act} (F:dE ρ σ.t a.tmps) {x:Operand} {v:Value} (h:aG σ x=some v):VT ρ v (a.eval x):=by
 cases x with
 |tmp i=>
  obtain⟨v',q1,q2⟩:=F i v h
  have:a.eval (.tmp i)=v':=by
   simp only[Act.eval,Array.getD_eq_getD_getElem?,q1,Option.getD_some]
  rw[this];exact q2
 |const u=>
  simp only[aG]at h
  split at h
  ·rename_i hf;obtain rfl:=Option.some.inj h;exact .val _ _ (.oC hf)
  ·simp at h
 |func f=>
  simp only[aG,Option.some.injEq]at h;subst h
  exact .val _ _ (.func _ [] [] [] [] rfl rfl (by simp) (by simp))
 |global g=>
  simp only[aG]at h
  split at h
  ·rename_i hg;obtain rfl:=Option.some.inj h
   obtain⟨pl,q1,q2,q3⟩:=I.rel.gM g hg
   have:=VR.ptr (ρ:=ρ) g 0 pl q1
   rw[q2,q3]at this
   exact .val _ _ this
  ·simp at h
def _root_.Go.Sem.aJ {α:Type} (P:Program):Sem α→Option α
 | .pure a=>some a
 | .program k=>(k P).aJ P
 | .mark _ k=>k.aJ P
 |_=>none
theorem tJ {α:Type} (P:Program) (s:Sem α) (a:α) (h:s.aJ P=some a) (w:World):s.run P w= .ok a w:=by
 induction s with
 |pure b=>simp[Sem.aJ]at h;subst h;rfl
 |program k ih=>exact ih P h
 |mark m k ih=>exact ih h
 |_=>simp[Sem.aJ]at h
theorem bP {α β:Type} (P:Program) (s:Sem α) (f:α→Sem β):(s >>= f).aJ P=(s.aJ P).bind fun a=>(f a).aJ P:=by
 induction s with
 |pure b=>rfl
 |program k ih=>exact ih P
 |mark m k ih=>exact ih
 |_=>rfl
theorem oZ {α:Type} (P:Program) (a:α):(pure a:Sem α).aJ P=some a:=rfl
theorem ml (P:Program):program.aJ P=some P:=rfl
def iH (σ:St):Operand→Value:=fun x=>(aG σ x).getD undef
def rh:Op→Bool
 | .select .. =>true
 |_=>false
def lq (σ:St) (x:Operand):Bool:=match aG σ x with
 |some v=>bM v
 |none=>false
def oY (P:Program) (σ:St) (o:Oper):Option Value:=
 if o.op.operands.toList.all (lq σ)&& !rh o.op then
  match(execOp (iH σ) o).aJ P with
  |some (.value v)=>if bM v then some v else none
  |_=>none
 else none
def oV:Next→Option Value
 | .value v=>some v
 | .skip=>some undef
 |_=>none
def dI (P:Program) (o:Oper) (σ:St) (v:Value) (σ':St):Prop:=
 ∀(ρ0:aw) (h0:aa) (w0:World) (ρ:aw) (a:Act) (w:World),Inv P ρ0 h0 w0 ρ σ.m w→dE ρ σ.t a.tmps→
  ∃nx v' w' ρ',(execOp a.eval o).run P w= .ok nx w'∧oV nx=some v'∧Inv P ρ0 h0 w0 ρ' σ'.m w'∧dE ρ' σ'.t a.tmps∧VT ρ' v v'∧
   ∀s,(∀d,o.dst=some d→d≠s)→ρ' (true,s)=ρ (true,s)∧(ρ (true,s)=none→σ'.m.x s=σ.m.x s)
theorem amn {σ:St} {o:Oper} {v:Value} (h:oY P σ o=some v):dI P o σ v σ:=by
 intro ρ0 h0 w0 ρ a w I F
 unfold oY at h
 split at h
 ·rename_i aL
  rw[Bool.and_eq_true]at aL
  obtain⟨aL,hsel⟩:=aL
  rw[List.all_eq_true]at aL
  have hev:∀x∈o.op.operands,a.eval x=iH σ x:=fun x hx=>by
   have:=aL x (by simpa using hx)
   unfold lq at this
   cases ho:aG σ x with
   |none=>simp[ho]at this
   |some u=>
    rw[ho]at this
    rw[(cC I F ho).bM this]
    simp[iH,ho]
  have hc:execOp a.eval o=execOp (iH σ) o:=execOp_congr o (fun cs b e=>by simp[e,rh]at hsel) hev
  split at h
  ·rename_i u hu
   split at h
   ·rename_i hf
    obtain rfl:=Option.some.inj h
    exact⟨_,u,w,ρ,by rw[hc];exact tJ P _ _ hu w,rfl,I,F,.eC hf,fun _ _=>⟨rfl,fun _=>rfl⟩⟩
   ·simp at h
  ·simp at h
 ·simp at h
end
section
variable {P:Program} {ρ0 ρ ρ':aw} {h0:aa} {w0 w:World} {m:Mem}
def key (ad:Addr):Key:=(ad.spot.isSome,ad.block)
def kb (ad:Addr) (n:Nat):Addr:=⟨ad.block,ad.off+n,ad.spot⟩
theorem VT.ptr {ad:Addr} {v':Value} (h:VT ρ (.pointer (some ad)) v'):∃pl,ρ (key ad)=some pl∧v'= .pointer (some ⟨pl.B,pl.o+ad.off,none⟩):=by
 cases h with
 |val _ _ h=>cases h with|ptr b off pl h=>exact⟨pl,h,rfl⟩
 |loc s off x pl h=>exact⟨pl,h,rfl⟩
theorem VT.ql {ad:Addr} {pl:Pl} (h:ρ (key ad)=some pl):VT ρ (.pointer (some ad)) (.pointer (some ⟨pl.B,pl.o+ad.off,none⟩)):=by
 obtain⟨b,off,sp⟩:=ad
 cases sp with
 |none=>exact .val _ _ (.ptr b off pl h)
 |some x=>exact .loc b off x pl h
theorem VT.kb {ad:Addr} {pl:Pl} (h:ρ (key ad)=some pl) (n:Nat):VT ρ (.pointer (some (Am.kb ad n))) (.pointer (some ((⟨pl.B,pl.o+ad.off,none⟩:Addr).add n))):=by
 have:=VT.ql (ad:=Am.kb ad n) (pl:=pl) h
 rw[Addr.add_lit]
 simpa[Am.kb,Nat.add_assoc]using this
def Mem.cells (m:Mem) (ad:Addr) (n:Nat):Option (List Value):=
 match m.row? (key ad)with
 |some (_,_,cs)=>if ad.off+n≤cs.length then some ((cs.drop ad.off).take n)else none
 |none=>none
theorem Y2 {w:World} {B:Nat} {C:Array Value} {e:TypeId} {fz:Nat×Nat} (h:w.heap[B]? =some (.cells C e fz)) (o:Nat):w.cell? ⟨B,o,none⟩=C[o]? :=by
 simp[World.cell?,h]
theorem nU (I:Inv P ρ0 h0 w0 ρ m w) {ad:Addr} {pl:Pl} (hk:ρ (key ad)=some pl) {n:Nat} {l:List Value} (h:m.cells ad n=some l):
  l.length=n∧∃l':List Value,l'.length=n∧(∀(i:Nat) (v:Value),l[i]? =some v→∃v',l'[i]? =some v'∧VR ρ v v')∧
   ∀(j:Nat) (v:Value),l'[j]? =some v→w.cell? ((⟨pl.B,pl.o+ad.off,none⟩:Addr).add j)=some v:=by
 unfold Mem.cells at h
 split at h
 ·rename_i wr e cs hr
  split at h
  ·rename_i hle
   obtain rfl:=Option.some.inj h
   obtain⟨C,e',fz,c1,c2,c3,c4,c5,c6⟩:=I.rel.row _ _ _ _ _ hk hr
   have hsz:pl.o+ad.off+n≤C.size:=by omega
   refine⟨by simp;omega,(C.toList.drop (pl.o+ad.off)).take n,by simp;omega,fun i v hi=>?_,fun j v hj=>?_⟩
   ·rw[List.getElem?_take]at hi
    split at hi
    ·rename_i hin
     rw[List.getElem?_drop]at hi
     obtain⟨v',q1,q2⟩:=c6 _ _ hi
     refine⟨v',?_,q2⟩
     rw[List.getElem?_take,if_pos hin,List.getElem?_drop,Array.getElem?_toList,Nat.add_assoc]
     exact q1
    ·simp at hi
   ·rw[List.getElem?_take]at hj
    split at hj
    ·rw[List.getElem?_drop,Array.getElem?_toList]at hj
     rw[Addr.add_lit,Y2 c1]
     exact hj
    ·simp at hj
  ·simp at h
 ·simp at h
theorem AG {l l':List Value} (hl:l.length=l'.length) (h:∀(i:Nat) (v:Value),l[i]? =some v→∃v',l'[i]? =some v'∧VR ρ v v'):VR ρ (.agg ⟨l⟩) (.agg ⟨l'⟩):=
 .agg l l' hl ((lT hl).2 h)
def cW (P:Program) (t:TypeId):Option Bool:=
 match P.underlying t with
 |some (.struct _)|some (.array _ _)=>some true
 |some _=>some false
 |none=>none
theorem qx {t:TypeId} {b:Bool} (h:cW P t=some b) (w:World):(isAgg t).run P w= .ok b w:=by
 unfold cW at h
 unfold isAgg
 cases hu:P.underlying t with
 |none=>simp[hu]at h
 |some d=>
  rw[hu]at h
  simp only[Sem.run_bind,run_underlying hu,Result.andThen_ok]
  cases d<;>simp_all
def cf (P:Program) (t:TypeId):Option Nat:=(P.info? t).map (·.size)
theorem run_sizeOf {t:TypeId} {n:Nat} (h:cf P t=some n) (w:World):(sizeOf t).run P w= .ok n w:=by
 unfold cf at h
 cases hi:P.info? t with
 |none=>simp[hi]at h
 |some i=>simp[hi]at h;simp[sizeOf,typeInfo,hi,h]
def kN (σ:St) (x:Operand):Option (Value×St):=match aG σ x with|some v=>some (v,σ)|none=>none
theorem Pm {σ σ':St} {o:Oper} {x:Operand} (ho:o.op= .move x∨o.op= .assign x) {v:Value} (h:kN σ x=some (v,σ')):dI P o σ v σ':=by
 intro ρ0 h0 w0 ρ a w I F
 unfold kN at h
 split at h
 ·rename_i u hu
  simp only[Option.some.injEq,Prod.mk.injEq]at h
  obtain⟨rfl,rfl⟩:=h
  refine⟨.value (a.eval x),_,w,ρ,?_,rfl,I,F,cC I F hu,fun _ _=>⟨rfl,fun _=>rfl⟩⟩
  rcases ho with ho|ho<;>simp[execOp,ho]
 ·simp at h
def oQ (σ:St) (c x y:Operand):Option (Value×St):=
 match aG σ c with
 |some (.bool b)=>match aG σ (if b then x else y)with
  |some v=>some (v,σ)
  |none=>none
 |_=>none
theorem alg {σ σ':St} {o:Oper} {c x y:Operand} (ho:o.op= .pick c x y) {v:Value} (h:oQ σ c x y=some (v,σ')):dI P o σ v σ':=by
 intro ρ0 h0 w0 ρ a w I F
 unfold oQ at h
 split at h
 ·rename_i b hb
  split at h
  ·rename_i u hu
   simp only[Option.some.injEq,Prod.mk.injEq]at h
   obtain⟨rfl,rfl⟩:=h
   have hc:=(cC I F hb).bM rfl
   refine⟨.value (a.eval (if b then x else y)),_,w,ρ,?_,rfl,I,F,cC I F hu,fun _ _=>⟨rfl,fun _=>rfl⟩⟩
   simp only[execOp,ho,hc,asBool]
   cases b<;>simp
  ·simp at h
 ·simp at h
def oN (P:Program) (σ:St) (t:TypeId) (x:Operand):Option (Value×St):=
 match aG σ x with
 |some (.pointer (some ad))=>
  match cW P t,cf P t with
  |some true,some n=>match σ.m.cells ad n with
   |some l=>some (.agg ⟨l⟩,σ)
   |none=>none
  |some false,_=>match σ.m.cells ad 1 with
   |some [v]=>some (v,σ)
   |_=>none
  |_,_=>none
 |_=>none
theorem ak7 {σ σ':St} {o:Oper} {t:TypeId} {x:Operand} (ho:o.op= .load t x) {v:Value} (h:oN P σ t x=some (v,σ')):dI P o σ v σ':=by
 intro ρ0 h0 w0 ρ a w I F
 unfold oN at h
 split at h
 ·rename_i ad hx
  obtain⟨pl,hk,hv⟩:=(cC I F hx).ptr
  split at h
  ·rename_i n hagg hsz
   split at h
   ·rename_i l hl
    simp only[Option.some.injEq,Prod.mk.injEq]at h
    obtain⟨rfl,rfl⟩:=h
    obtain⟨q1,l',q2,q3,q4⟩:=nU I hk hl
    have hrun:=run_loadCells_list (P:=P) w ⟨pl.B,pl.o+ad.off,none⟩ l' q4
    rw[q2]at hrun
    refine⟨.value (.agg ⟨l'⟩),.agg ⟨l'⟩,w,ρ,?_,rfl,I,F,.val _ _ (AG (q1.trans q2.symm) q3),fun _ _=>⟨rfl,fun _=>rfl⟩⟩
    simp[execOp,ho,Instr.loadAt,hv,Instr.sureAddr,loadVar,qx hagg,run_sizeOf hsz,hrun]
   ·simp at h
  ·rename_i hagg
   split at h
   ·rename_i v1 hl
    simp only[Option.some.injEq,Prod.mk.injEq]at h
    obtain⟨rfl,rfl⟩:=h
    obtain⟨q1,l',q2,q3,q4⟩:=nU I hk hl
    obtain⟨v',e1,e2⟩:=q3 0 v1 rfl
    have hc:=q4 0 v' e1
    rw[Addr.add_zero']at hc
    refine⟨.value v',v',w,ρ,?_,rfl,I,F,.val _ _ e2,fun _ _=>⟨rfl,fun _=>rfl⟩⟩
    simp[execOp,ho,Instr.loadAt,hv,Instr.sureAddr,loadVar,qx hagg,hc]
   ·simp at h
  ·simp at h
 ·simp at h
def one (v:Value):Bool:=v.oneCell'
def St.newVar (σ:St) (loc:List Nat) (dst:Option Nat) (e:TypeId) (cs:List Value):Option (Value×St):=
 match dst with
 |some s=>if loc.contains s then some (.pointer (some ⟨s,0,some 0⟩),⟨σ.t.rQ s,⟨σ.m.x.set s (e,cs),σ.m.h⟩⟩)
  else some (.pointer (some ⟨σ.m.h.n,0,none⟩),⟨σ.t,⟨σ.m.x,σ.m.h.new (.row true e cs)⟩⟩)
 |none=>none
theorem OT {σ σ':St} {loc:List Nat} {dst:Option Nat} {e e':TypeId} {cs:List Value} {v:Value} (h:σ.newVar loc dst e cs=some (v,σ'))
  (I:Inv P ρ0 h0 w0 ρ σ.m w) {a:Act} (F:dE ρ σ.t a.tmps) {C:Array Value} (hn:cs.length≤C.size)
  (hc:∀(i:Nat) (v:Value),cs[i]? =some v→∃v',C[i]? =some v'∧VR ρ v v'):
  ∃ρ',Inv P ρ0 h0 w0 ρ' σ'.m (w.alloc (.cells C e'))∧dE ρ' σ'.t a.tmps∧VT ρ' v (.pointer (some ⟨w.heap.size,0,none⟩))∧
   ∀s,(∀d,dst=some d→d≠s)→ρ' (true,s)=ρ (true,s)∧(ρ (true,s)=none→σ'.m.x s=σ.m.x s):=by
 unfold St.newVar at h
 have hfit:Fits P ρ (.row true e cs) (.cells C e' (0,0)) ⟨w.heap.size,0,C.size,P.cellsOf e⟩:=.row e e' cs C _ hn hc
 split at h
 ·rename_i s
  split at h
  ·simp only[Option.some.injEq,Prod.mk.injEq]at h
   obtain⟨rfl,rfl⟩:=h
   refine⟨_,I.fu s hfit rfl,F.rQ s _,?_,fun s' hs'=>⟨aw.b9 _ _ (by have:=hs' s rfl;simp;exact fun z=>this z.symm),fun _=>by simp only[bI.set];rw[if_neg (hs' s rfl)]⟩⟩
   have:=VT.ql (ρ:=ρ.eg (true,s) ⟨w.heap.size,0,C.size,P.cellsOf e⟩) (ad:=⟨s,0,some 0⟩) (pl:=⟨w.heap.size,0,C.size,P.cellsOf e⟩) (by simp[key,aw.eg])
   simpa using this
  ·simp only[Option.some.injEq,Prod.mk.injEq]at h
   obtain⟨rfl,rfl⟩:=h
   have hnone:∀pl',ρ (false,σ.m.h.n)≠some pl':=fun pl' h=>Nat.lt_irrefl _ (I.rel.cU _ _ h)
   refine⟨_,I.mY hfit rfl,F.mono (fun b pl q=>?_) (fun s=>aw.b9 _ _ (by simp)),?_,fun s' _=>⟨aw.b9 _ _ (by simp),fun _=>rfl⟩⟩
   ·rw[aw.b9];exact q
    intro z;simp only[Prod.mk.injEq,true_and]at z;subst z;exact hnone _ q
   ·have:=VT.ql (ρ:=ρ.eg (false,σ.m.h.n) ⟨w.heap.size,0,C.size,P.cellsOf e⟩) (ad:=⟨σ.m.h.n,0,none⟩) (pl:=⟨w.heap.size,0,C.size,P.cellsOf e⟩) (by simp[key,aw.eg])
    simpa using this
 ·simp at h
def cT (P:Program) (t:TypeId):Option (List Value):=
 match P.info? t with
 |some i=>match i.zero with
  |some z=>if z.cells.toList.all cA then some z.cells.toList else none
  |none=>none
 |none=>none
theorem qy {t:TypeId} {l:List Value} (h:cT P t=some l):∃z,z.cells=⟨l⟩∧(∀v∈l,cA v=true)∧∀w,(zeroValue t).run P w= .ok z w:=by
 unfold cT at h
 cases hi:P.info? t with
 |none=>simp[hi]at h
 |some i=>
  simp only[hi]at h
  cases hz:i.zero with
  |none=>simp[hz]at h
  |some z=>
   simp only[hz]at h
   split at h
   ·rename_i aL
    obtain rfl:=Option.some.inj h
    exact⟨z,by simp,fun v hv=>List.all_eq_true.mp aL v hv,fun w=>by simp[zeroValue,typeInfo,hi,hz]⟩
   ·simp at h
theorem q7 {l:List Value} (h:∀v∈l,cA v=true):∀(i:Nat) (v:Value),l[i]? =some v→∃v',(⟨l⟩:Array Value)[i]? =some v'∧VR ρ v v':=
 fun i v hi=>⟨v,by simpa using hi,.oC (h v (List.mem_of_getElem? hi))⟩
def oF (P:Program) (loc:List Nat) (σ:St) (dst:Option Nat) (t:TypeId):Option (Value×St):=
 match cT P t with
 |some l=>σ.newVar loc dst t l
 |none=>none
theorem akL {σ σ':St} {o:Oper} {loc:List Nat} {t:TypeId} (ho:o.op= .alloc t) {v:Value} (h:oF P loc σ o.dst t=some (v,σ')):dI P o σ v σ':=by
 intro ρ0 h0 w0 ρ a w I F
 unfold oF at h
 split at h
 ·rename_i l hl
  obtain⟨z,hz,hf,hrun⟩:=qy hl
  obtain⟨ρ',J,F',V,X⟩:=OT (e':=t) (C:=⟨l⟩) h I F (by simp) (q7 hf)
  refine⟨.value (.pointer (some ⟨w.heap.size,0,none⟩)),_,_,ρ',?_,rfl,J,F',V,X⟩
  simp[execOp,ho,Instr.alloc,hrun,newVar,newRow,hz]
 ·simp at h
theorem VR.cells {v v':Value} (h:VR ρ v v'):v.cells.toList.length=v'.cells.toList.length∧∀(i:Nat) (u:Value),v.cells.toList[i]? =some u→∃u',v'.cells.toList[i]? =some u'∧VR ρ u u':=by
 have triv:∀{v v':Value},VR ρ v v'→v.cells= #[v]→v'.cells= #[v']→v.cells.toList.length=v'.cells.toList.length∧∀(i:Nat) (u:Value),v.cells.toList[i]? =some u→∃u',v'.cells.toList[i]? =some u'∧VR ρ u u':=by
  intro v v' h e1 e2
  rw[e1,e2]
  refine⟨rfl,fun i u hi=>?_⟩
  cases i with
  |zero=>simp at hi;subst hi;exact⟨v',rfl,h⟩
  |succ i=>simp at hi
 cases h with
 |agg cs ds hl h=>exact⟨hl,(lT hl).1 h⟩
 |bool b=>exact triv (.bool b) rfl rfl
 |int k n=>exact triv (.int k n) rfl rfl
 |string s=>exact triv (.string s) rfl rfl
 |rD=>exact triv .rD rfl rfl
 |rC=>exact triv .rC rfl rfl
 |rA=>exact triv .rA rfl rfl
 |rB=>exact triv .rB rfl rfl
 |ptr b off pl h=>exact triv (.ptr b off pl h) rfl rfl
 |mp b pl h=>exact triv (.mp b pl h) rfl rfl
 |pe=>exact triv .pe rfl rfl
 |lO a a' c=>exact triv (.lO a a' c) rfl rfl
 |sl b off len c pl cap h hc hn=>exact triv (.sl b off len c pl cap h hc hn) rfl rfl
 |iface t v v' h=>exact triv (.iface t v v' h) rfl rfl
 |tuple cs ds hl h=>exact triv (.tuple cs ds hl h) rfl rfl
 |func fn aS as' cs ds ha hl h1 h=>exact triv (.func fn aS as' cs ds ha hl h1 h) rfl rfl
def oG (loc:List Nat) (σ:St) (dst:Option Nat) (t:TypeId) (x:Operand):Option (Value×St):=
 match aG σ x with
 |some v=>if bL v then σ.newVar loc dst t v.cells.toList else none
 |none=>none
theorem akN {σ σ':St} {o:Oper} {loc:List Nat} {t:TypeId} {x:Operand} (ho:o.op= .box t x) {v:Value} (h:oG loc σ o.dst t x=some (v,σ')):dI P o σ v σ':=by
 intro ρ0 h0 w0 ρ a w I F
 unfold oG at h
 split at h
 ·rename_i u hu
  split at h
  ·rename_i hnl
   have hc:=((cC I F hu).bL hnl).cells
   obtain⟨ρ',J,F',V,X⟩:=OT (e':=t) (C:=(a.eval x).cells) h I F (by rw[hc.1];simp) (fun i v hi=>by simpa using hc.2 i v hi)
   refine⟨.value (.pointer (some ⟨w.heap.size,0,none⟩)),_,_,ρ',?_,rfl,J,F',V,X⟩
   simp[execOp,ho,Instr.box,newVar,newRow]
  ·simp at h
 ·simp at h
def iC (cs:List Value) (j:Nat) (vs:List Value):List Value:=cs.take j++vs++cs.drop (j+vs.length)
def oS (P:Program) (σ:St) (t:TypeId) (x y:Operand):Option (Value×St):=
 match aG σ x,aG σ y with
 |some (.pointer (some ad)),some v=>
  match σ.m.row? (key ad),cf P t with
  |some (true,e,cs),some n=>
   if bL v&&v.cells.toList.length==n&&v.cells.toList.all one&&decide (ad.off+n≤cs.length)then
    some (undef,⟨σ.t,σ.m.setRow (key ad) e (iC cs ad.off v.cells.toList)⟩)
   else none
  |_,_=>none
 |_,_=>none
theorem VR.one {v v':Value} (h:VR ρ v v') (ho:Am.one v=true):v'.oneCell'=true:=by
 cases h<;>simp_all [Am.one,Value.oneCell']
theorem tV (w:World) (g:Nat) (cs:Array Value):w.setRow g cs={w with heap:=(w.setRow g cs).heap}:=rfl
theorem setRow_size (w:World) (g:Nat) (cs:Array Value):(w.setRow g cs).heap.size=w.heap.size:=by simp[World.setRow]
theorem nw (w:World) (g:Nat) (cs:Array Value) {B:Nat} (h:B≠g):(w.setRow g cs).heap[B]? =w.heap[B]? :=by
 simp only[World.setRow,Array.getElem?_modify]
 rw[if_neg (Ne.symm h)]
theorem tT (w:World) (g:Nat) (cs:Array Value) {C:Array Value} {e:TypeId} {fz:Nat×Nat} (h:w.heap[g]? =some (.cells C e fz)):(w.setRow g cs).heap[g]? =some (.cells cs e fz):=by
 simp only[World.setRow,Array.getElem?_modify,h]
 rfl
theorem q9 (C vs:List Value) (j i:Nat) (h:j+vs.length≤C.length):
  (C.take j++vs++C.drop (j+vs.length))[i]? =if i<j then C[i]? else if i<j+vs.length then vs[i-j]? else C[i]? :=by
 have hl:(C.take j).length=j:=by simp;omega
 by_cases h1:i<j
 ·rw[if_pos h1,List.append_assoc,List.getElem?_append_left (by omega),List.getElem?_take,if_pos h1]
 ·rw[if_neg h1]
  by_cases h2:i<j+vs.length
  ·rw[if_pos h2,List.getElem?_append_left (by simp;omega),List.getElem?_append_right (by omega),hl]
  ·rw[if_neg h2,List.getElem?_append_right (by simp;omega),List.getElem?_drop]
   congr 1
   simp;omega
theorem tW {cs vs vs':List Value} {C:Array Value} {o off n:Nat} (hlen:vs.length=vs'.length) (hin:off+vs.length≤cs.length) (hn:cs.length≤n) (hC:o+n≤C.size)
  (h:∀(i:Nat) (v:Value),cs[i]? =some v→∃v',C[o+i]? =some v'∧VR ρ v v')
  (hv:∀(i:Nat) (v:Value),vs[i]? =some v→∃v',vs'[i]? =some v'∧VR ρ v v'):
  ∀(i:Nat) (v:Value),(iC cs off vs)[i]? =some v→∃v',(C.toList.take (o+off)++vs'++C.toList.drop (o+off+vs'.length)).toArray[o+i]? =some v'∧VR ρ v v':=by
 intro i v hi
 unfold iC at hi
 rw[q9 _ _ _ _ hin]at hi
 rw[List.getElem?_toArray,q9 _ _ _ _ (by rw[←hlen];simp only[Array.length_toList];omega)]
 by_cases h1:i<off
 ·rw[if_pos h1]at hi
  rw[if_pos (by omega),Array.getElem?_toList]
  exact h i v hi
 ·rw[if_neg h1]at hi
  rw[if_neg (by omega)]
  by_cases h2:i<off+vs.length
  ·rw[if_pos h2]at hi
   rw[if_pos (by omega),show o+i-(o+off)=i-off by omega]
   exact hv _ v hi
  ·rw[if_neg h2]at hi
   rw[if_neg (by omega),Array.getElem?_toList]
   exact h i v hi
theorem alk {σ σ':St} {o:Oper} {t:TypeId} {x y:Operand} (ho:o.op= .store t x y) {v:Value} (h:oS P σ t x y=some (v,σ')):dI P o σ v σ':=by
 intro ρ0 h0 w0 ρ a w I F
 unfold oS at h
 split at h
 ·rename_i ad u hx hy
  split at h
  ·rename_i e cs n hr hsz
   split at h
   ·rename_i aL
    simp only[Bool.and_eq_true,beq_iff_eq,decide_eq_true_eq]at aL
    obtain⟨⟨⟨hnl,hlen⟩,hone⟩,hin⟩:=aL
    simp only[Option.some.injEq,Prod.mk.injEq]at h
    obtain⟨rfl,rfl⟩:=h
    obtain⟨pl,hk,hv⟩:=(cC I F hx).ptr
    have hc:=((cC I F hy).bL hnl).cells
    obtain⟨C,e',fz,c1,c2,c3,c4,c5,c6⟩:=I.rel.row _ _ _ _ _ hk hr
    obtain rfl:=c2 rfl
    have hone':∀z∈(a.eval y).cells.toList,z.oneCell'=true:=fun z hz=>by
     rw[List.mem_iff_getElem?]at hz
     obtain⟨i,hi⟩:=hz
     have hlt:i<(a.eval y).cells.toList.length:=by
      rcases Nat.lt_or_ge i (a.eval y).cells.toList.length with q|q
      ·exact q
      ·rw[List.getElem?_eq_none q]at hi;cases hi
     rw[←hc.1]at hlt
     obtain⟨z',q1,q2⟩:=hc.2 i _ (List.getElem?_eq_getElem hlt)
     rw[hi]at q1
     obtain rfl:=Option.some.inj q1
     exact q2.one (List.all_eq_true.mp hone _ (List.getElem_mem hlt))
    have hst:=run_storeCells_at P pl.B (pl.o+ad.off) e' (a.eval y).cells.toList 0 C w c1 (by rw[←hc.1];omega) hone'
    simp only[Nat.add_zero]at hst
    refine⟨.skip,undef,w.setRow pl.B (C.toList.take (pl.o+ad.off)++(a.eval y).cells.toList++C.toList.drop (pl.o+ad.off+(a.eval y).cells.toList.length)).toArray,ρ,?_,rfl,I.putRow hk hr (ds:=iC cs ad.off u.cells.toList) (by simp only[iC,List.length_append,List.length_take,List.length_drop];omega)
     (tV w pl.B _) (setRow_size w pl.B _) (fun B hB=>nw w pl.B _ hB) (tT w pl.B _ c1) ?_ ?_,F,.eC rfl,fun s' _=>⟨rfl,fun hn=>?_⟩⟩
    rotate_left 3
    ·obtain⟨b,off,sp⟩:=ad
     cases sp with
     |none=>rfl
     |some z=>
      have:b≠s':=fun q=>by subst q;simp[key]at hk;rw[hn]at hk;cases hk
      simp[key,Mem.setRow,bI.set,this]
    ·have hsz':(a.eval y).cells.size=n:=by rw[←hlen,hc.1];simp
     simp[execOp,ho,Instr.storeAt,hv,Instr.sureAddr,storeVar,run_sizeOf hsz,hsz',hst]
    ·simp only[List.size_toArray,List.length_append,List.length_take,List.length_drop,Array.length_toList]
     have:(a.eval y).cells.toList.length=n:=by rw[←hc.1,hlen]
     simp only[Array.length_toList]at this
     omega
    ·exact tW hc.1 (by rw[hlen];exact hin) c3 c4 c6 hc.2
   ·simp at h
  ·simp at h
 ·simp at h
end
section
variable {P:Program} {ρ0 ρ ρ':aw} {h0:aa} {w0 w:World} {m:Mem}
def yY (P:Program) (s f:Nat):Option Field:=match P.underlying s with
 |some (.struct fs)=>fs[f]?
 |_=>none
theorem aaQ {s f:Nat} {x:Field} (h:yY P s f=some x):∃fs,P.underlying s=some (.struct fs)∧fs[f]? =some x:=by
 unfold yY at h
 split at h
 ·rename_i fs hu;exact⟨fs,hu,h⟩
 ·simp at h
def bJ (P:Program) (s f:Nat):Option (Nat×TypeId×Nat):=match yY P s f with
 |some x=>match cf P x.type with
  |some n=>if n=0 then none else some (x.offset,x.type,n)
  |none=>none
 |none=>none
theorem O6 {s f off t n:Nat} (h:bJ P s f=some (off,t,n)):∃fs x,P.underlying s=some (.struct fs)∧fs[f]? =some x∧x.offset=off∧x.type=t∧cf P t=some n∧n≠0:=by
 unfold bJ at h
 split at h
 ·rename_i x hx
  split at h
  ·rename_i k hk
   split at h
   ·simp at h
   ·rename_i hn
    simp only[Option.some.injEq,Prod.mk.injEq]at h
    obtain⟨rfl,rfl,rfl⟩:=h
    obtain⟨fs,q1,q2⟩:=aaQ hx
    exact⟨fs,x,q1,q2,rfl,rfl,hk,hn⟩
  ·simp at h
 ·simp at h
def oK (P:Program) (σ:St) (s:TypeId) (x:Operand) (f:Nat):Option (Value×St):=
 match aG σ x,bJ P s f with
 |some (.pointer (some ad)),some (off,_,_)=>some (.pointer (some (kb ad off)),σ)
 |_,_=>none
theorem ak3 {σ σ':St} {o:Oper} {s:TypeId} {x:Operand} {f:Nat} (ho:o.op= .fieldAddr s x f) {v:Value} (h:oK P σ s x f=some (v,σ')):dI P o σ v σ':=by
 intro ρ0 h0 w0 ρ a w I F
 unfold oK at h
 split at h
 ·rename_i ad off t n hx hoff
  simp only[Option.some.injEq,Prod.mk.injEq]at h
  obtain⟨rfl,rfl⟩:=h
  obtain⟨pl,hk,hv⟩:=(cC I F hx).ptr
  obtain⟨fs,fd,q1,q2,rfl,rfl,q5,q6⟩:=O6 hoff
  refine⟨.value (.pointer (some ((⟨pl.B,pl.o+ad.off,none⟩:Addr).add fd.offset))),_,w,ρ,?_,rfl,I,F,VT.kb hk _,fun _ _=>⟨rfl,fun _=>rfl⟩⟩
  simp[execOp,ho,Instr.fieldAt,run_underlying q1,q2,hv,Instr.sureAddr,fieldPlace,run_sizeOf q5,q6]
 ·simp at h
theorem aqA {l l':List Value} (h:∀(i:Nat) (v:Value),l[i]? =some v→∃v',l'[i]? =some v'∧VR ρ v v') (off n:Nat):
  ∀(i:Nat) (v:Value),((l.drop off).take n)[i]? =some v→∃v',((l'.drop off).take n)[i]? =some v'∧VR ρ v v':=by
 intro i v hi
 rw[List.getElem?_take]at hi
 split at hi
 ·rename_i hin
  rw[List.getElem?_drop]at hi
  obtain⟨v',q1,q2⟩:=h _ _ hi
  exact⟨v',by rw[List.getElem?_take,if_pos hin,List.getElem?_drop];exact q1,q2⟩
 ·simp at hi
def tE (P:Program) (t:TypeId) (n:Nat) (cs:List Value) (off:Nat):Option Value:=
 match cW P t with
 |some true=>some (.agg ⟨(cs.drop off).take n⟩)
 |some false=>cs[off]?
 |none=>none
theorem aly {t:TypeId} {n off:Nat} {cs ds:List Value} {v:Value} (hn:cf P t=some n) (h:tE P t n cs off=some v) (hl:cs.length=ds.length)
  (hc:∀(i:Nat) (v:Value),cs[i]? =some v→∃v',ds[i]? =some v'∧VR ρ v v') (w:World):
  ∃v',(part t ⟨ds⟩ off).run P w= .ok v' w∧VR ρ v v':=by
 unfold tE at h
 split at h
 ·rename_i ha
  obtain rfl:=Option.some.inj h
  refine⟨.agg ⟨(ds.drop off).take n⟩,?_,AG (by simp[hl]) (aqA hc off n)⟩
  simp only[part,Sem.run_bind,qx ha,Result.andThen_ok,if_true,run_sizeOf hn,Sem.run_pure]
  congr 2
  simp[List.extract_toArray]
 ·rename_i ha
  obtain⟨v',q1,q2⟩:=hc _ _ h
  refine⟨v',?_,q2⟩
  simp[part,qx ha,q1]
 ·simp at h
def oJ (P:Program) (σ:St) (s:TypeId) (x:Operand) (f:Nat):Option (Value×St):=
 match aG σ x,bJ P s f with
 |some (.agg cs),some (off,t,n)=>match tE P t n cs.toList off with
  |some v=>some (v,σ)
  |none=>none
 |_,_=>none
theorem ak4 {σ σ':St} {o:Oper} {s:TypeId} {x:Operand} {f:Nat} (ho:o.op= .field s x f) {v:Value} (h:oJ P σ s x f=some (v,σ')):dI P o σ v σ':=by
 intro ρ0 h0 w0 ρ a w I F
 unfold oJ at h
 split at h
 ·rename_i cs off t n hx hoff
  split at h
  ·rename_i u hu
   simp only[Option.some.injEq,Prod.mk.injEq]at h
   obtain⟨rfl,rfl⟩:=h
   obtain⟨fs,fd,q1,q2,rfl,rfl,q5,q6⟩:=O6 hoff
   have hv:=(cC I F hx).bL rfl
   generalize hx':a.eval x=x' at hv
   cases hv with
   |agg cs ds hl hz=>
    obtain⟨v',e1,e2⟩:=aly q5 hu hl ((lT hl).1 hz) w
    refine⟨.value v',_,w,ρ,?_,rfl,I,F,.val _ _ e2,fun _ _=>⟨rfl,fun _=>rfl⟩⟩
    simp[execOp,ho,Instr.field,run_underlying q1,q2,hx',asAgg,e1]
  ·simp at h
 ·simp at h
def ep (P:Program) (t:TypeId):Option (TypeId×Nat):=match P.underlying t with
 |some (.slice e)=>match cf P e with
  |some n=>some (e,n)
  |none=>none
 |_=>none
theorem nY {t e n:Nat} (h:ep P t=some (e,n)):P.underlying t=some (.slice e)∧cf P e=some n:=by
 unfold ep at h
 split at h
 ·rename_i e' hu
  split at h
  ·rename_i n' hn
   simp only[Option.some.injEq,Prod.mk.injEq]at h
   obtain⟨rfl,rfl⟩:=h
   exact⟨hu,hn⟩
  ·simp at h
 ·simp at h
theorem VR.kj {ad:Addr} {len c:Nat} {v':Value} (h:VR ρ (.slice (some ad) len c) v'):
  (∃a',len=0∧v'= .slice (some a') 0 0)∨
  ∃b off pl cap,ad=⟨b,off,none⟩∧ρ (false,b)=some pl∧len≤cap∧off+cap*pl.sz≤pl.n∧v'= .slice (some ⟨pl.B,pl.o+off,none⟩) len cap:=by
 cases h with
 |lO a a' c=>exact .inl ⟨a',rfl,rfl⟩
 |sl b off len c pl cap h hc hn=>exact .inr ⟨b,off,pl,cap,rfl,h,hc,hn,rfl⟩
def uS (P:Program) (t:TypeId):Option (Nat×Nat):=match P.underlying t with
 |some (.array len e)=>match cf P e with
  |some s=>some (len,s)
  |none=>none
 |_=>none
theorem UH {t len s:Nat} (h:uS P t=some (len,s)):∃e,P.underlying t=some (.array len e)∧cf P e=some s:=by
 unfold uS at h
 split at h
 ·rename_i l e hu
  split at h
  ·rename_i s' hs
   simp only[Option.some.injEq,Prod.mk.injEq]at h
   obtain⟨rfl,rfl⟩:=h
   exact⟨e,hu,hs⟩
  ·cases h
 ·cases h
def oL (P:Program) (σ:St) (t:TypeId) (x i:Operand):Option (Value×St):=
 match aG σ x,aG σ i with
 |some (.slice (some ad) len _),some (.int _ n)=>
  match ep P t with
  |some (_,s)=>if 0≤n∧n<len then some (.pointer (some (kb ad (n.toNat*s))),σ)else none
  |none=>none
 |some (.pointer (some ad)),some (.int _ n)=>
  match uS P t with
  |some (len,s)=>if 0≤n∧n<len then some (.pointer (some (kb ad (n.toNat*s))),σ)else none
  |none=>none
 |_,_=>none
theorem ak5 {σ σ':St} {o:Oper} {t:TypeId} {x i:Operand} (ho:o.op= .indexAddr t x i) {v:Value} (h:oL P σ t x i=some (v,σ')):dI P o σ v σ':=by
 intro ρ0 h0 w0 ρ a w I F
 unfold oL at h
 split at h
 ·rename_i ad len c k n hx hi
  split at h
  ·rename_i e s he
   split at h
   ·rename_i hin
    simp only[Option.some.injEq,Prod.mk.injEq]at h
    obtain⟨rfl,rfl⟩:=h
    obtain⟨q1,q2⟩:=nY he
    have hv:=(cC I F hx).bL rfl
    have hiv:=(cC I F hi).bM rfl
    rcases hv.kj with⟨a',hl,_⟩|⟨b,off,pl,cap,rfl,hk,hc,hn,hv'⟩
    ·omega
    ·refine⟨.value (.pointer (some ((⟨pl.B,pl.o+off,none⟩:Addr).add (n.toNat*s)))),_,w,ρ,?_,rfl,I,F,VT.kb (ad:=⟨b,off,none⟩) hk _,fun _ _=>⟨rfl,fun _=>rfl⟩⟩
     simp[execOp,ho,Instr.indexAt,hiv,asIntOf,run_underlying q1,hv',hin,run_sizeOf q2]
   ·simp at h
  ·simp at h
 ·rename_i ad k n hx hi
  split at h
  ·rename_i len s he
   split at h
   ·rename_i hin
    simp only[Option.some.injEq,Prod.mk.injEq]at h
    obtain⟨rfl,rfl⟩:=h
    obtain⟨e,q1,q2⟩:=UH he
    have hiv:=(cC I F hi).bM rfl
    obtain⟨pl,hk,hv⟩:=(cC I F hx).ptr
    refine⟨.value (.pointer (some ((⟨pl.B,pl.o+ad.off,none⟩:Addr).add (n.toNat*s)))),_,w,ρ,?_,rfl,I,F,VT.kb hk _,fun _ _=>⟨rfl,fun _=>rfl⟩⟩
    simp[execOp,ho,Instr.indexAt,hiv,asIntOf,run_underlying q1,hv,Instr.sureAddr,hin,run_sizeOf q2]
   ·simp at h
  ·simp at h
 ·simp at h
def oI (σ:St) (x:Operand) (k:Nat):Option (Value×St):=
 match aG σ x with
 |some (.tuple vs)=>match vs.toList[k]? with
  |some v=>some (v,σ)
  |none=>none
 |_=>none
theorem ak0 {σ σ':St} {o:Oper} {x:Operand} {k:Nat} (ho:o.op= .extract x k) {v:Value} (h:oI σ x k=some (v,σ')):dI P o σ v σ':=by
 intro ρ0 h0 w0 ρ a w I F
 unfold oI at h
 split at h
 ·rename_i vs hx
  split at h
  ·rename_i u hu
   simp only[Option.some.injEq,Prod.mk.injEq]at h
   obtain⟨rfl,rfl⟩:=h
   have hv:=(cC I F hx).bL rfl
   generalize hx':a.eval x=x' at hv
   cases hv with
   |tuple cs ds hl hz=>
    obtain⟨v',e1,e2⟩:=(lT hl).1 hz _ _ hu
    refine⟨.value v',_,w,ρ,?_,rfl,I,F,.val _ _ e2,fun _ _=>⟨rfl,fun _=>rfl⟩⟩
    simp[execOp,ho,hx',Instr.extract,e1]
  ·simp at h
 ·simp at h
def mh (P:Program) (σ:St) (t:TypeId) (x:Operand):Option (Value×St):=
 match P.underlying t with
 |some (.interface _)=>none
 |some _=>match aG σ x with
  |some v=>if bL v then some (.iface t v,σ)else none
  |none=>none
 |none=>none
theorem ala {σ σ':St} {o:Oper} {t:TypeId} {x:Operand} (ho:o.op= .makeInterface t x) {v:Value} (h:mh P σ t x=some (v,σ')):dI P o σ v σ':=by
 intro ρ0 h0 w0 ρ a w I F
 unfold mh at h
 split at h
 ·simp at h
 ·rename_i d hni hd
  split at h
  ·rename_i u hx
   split at h
   ·rename_i hnl
    simp only[Option.some.injEq,Prod.mk.injEq]at h
    obtain⟨rfl,rfl⟩:=h
    refine⟨.value (.iface t (a.eval x)),_,w,ρ,?_,rfl,I,F,.val _ _ (.iface _ _ _ ((cC I F hx).bL hnl)),fun _ _=>⟨rfl,fun _=>rfl⟩⟩
    simp only[execOp,ho,Instr.makeInterface,Sem.run_bind,run_underlying hd,Result.andThen_ok]
    cases d<;>first|rfl|(exact absurd rfl (hni _))
   ·simp at h
  ·simp at h
 ·simp at h
theorem zG {σ:St} (I:Inv P ρ0 h0 w0 ρ σ.m w) {a:Act} (F:dE ρ σ.t a.tmps):∀{l:List Operand} {vs:List Value},l.mapM (aG σ)=some vs→vs.all bL=true→
  vs.length=(l.map a.eval).length∧∀(i:Nat) (v:Value),vs[i]? =some v→∃v',(l.map a.eval)[i]? =some v'∧VR ρ v v':=by
 intro l
 induction l with
 |nil=>intro vs h _;simp at h;subst h;simp
 |cons x r ih=>
  intro vs h hn
  rw[List.mapM_cons]at h
  cases hx:aG σ x with
  |none=>simp[hx]at h
  |some v=>
   cases hr:r.mapM (aG σ)with
   |none=>simp[hx,hr]at h
   |some us=>
    simp[hx,hr]at h
    subst h
    simp only[List.all_cons,Bool.and_eq_true]at hn
    obtain⟨q1,q2⟩:=ih hr hn.2
    refine⟨by simpa using q1,fun i u hi=>?_⟩
    cases i with
    |zero=>simp at hi;subst hi;exact⟨_,rfl,(cC I F hx).bL hn.1⟩
    |succ i=>exact q2 i u (by simpa using hi)
def oO (σ:St) (fn:Fn) (first cap:Array Operand):Option (Value×St):=
 match first.toList.mapM (aG σ),cap.toList.mapM (aG σ)with
 |some aS,some cs=>if aS.all bL&&cs.all bL then some (.func fn ⟨aS⟩ ⟨cs⟩,σ)else none
 |_,_=>none
theorem ak9 {σ σ':St} {o:Oper} {fn:Fn} {first cap:Array Operand} (ho:o.op= .makeFunc fn first cap) {v:Value} (h:oO σ fn first cap=some (v,σ')):dI P o σ v σ':=by
 intro ρ0 h0 w0 ρ a w I F
 unfold oO at h
 split at h
 ·rename_i aS cs ha hc
  split at h
  ·rename_i hnl
   rw[Bool.and_eq_true]at hnl
   simp only[Option.some.injEq,Prod.mk.injEq]at h
   obtain⟨rfl,rfl⟩:=h
   obtain⟨p1,p2⟩:=zG I F ha hnl.1
   obtain⟨q1,q2⟩:=zG I F hc hnl.2
   refine⟨.value (.func fn ⟨first.toList.map a.eval⟩ ⟨cap.toList.map a.eval⟩),_,w,ρ,?_,rfl,I,F,
    .val _ _ (.func _ _ _ _ _ p1 q1 ((lT p1).2 p2) ((lT q1).2 q2)),fun _ _=>⟨rfl,fun _=>rfl⟩⟩
   have e1:first.map a.eval=⟨first.toList.map a.eval⟩:=by apply Array.ext';simp
   have e2:cap.map a.eval=⟨cap.toList.map a.eval⟩:=by apply Array.ext';simp
   simp[execOp,ho,Instr.makeFunc,e1,e2]
  ·simp at h
 ·simp at h
def Aw (P:Program) (m:Mem) (b:Nat):Option Nat:=match m.row? (false,b)with
 |some (_,e,_)=>some (P.cellsOf e)
 |none=>none
def fC (σ:St) (x:Option Operand) (dflt:Nat):Option Nat:=match x with
 |none=>some dflt
 |some i=>match aG σ i with
  |some (.int _ n)=>if 0≤n then some n.toNat else none
  |_=>none
def ni (P:Program) (σ:St) (t:TypeId) (x:Operand) (lo hi:Option Operand):Option (Value×St):=
 match aG σ x with
 |some (.slice (some ad) len _)=>
  match ep P t,fC σ lo 0,fC σ hi len,Aw P σ.m ad.block with
  |some (_,s),some l,some h,some s'=>if l≤h∧h≤len∧s=s' then some (.slice (some (kb ad (l*s))) (h-l) (h-l),σ)else none
  |_,_,_,_=>none
 |some (.slice none 0 0)=>
  match ep P t,fC σ lo 0,fC σ hi 0 with
  |some _,some 0,some 0=>some (.slice none 0 0,σ)
  |_,_,_=>none
 |_=>none
theorem run_sliceBound {σ:St} (I:Inv P ρ0 h0 w0 ρ σ.m w) {a:Act} (F:dE ρ σ.t a.tmps) {i:Operand} {dflt n:Nat} (h:fC σ (some i) dflt=some n) (y:Nat) (c:BoundsCode) (hy:n≤y):
  (Instr.sliceBound (a.eval i) y c).run P w= .ok n w:=by
 unfold fC at h
 split at h
 ·cases ‹some i=none›
 ·rename_i j hj
  obtain rfl:=Option.some.inj hj
  split at h
  ·rename_i k z hz
   split at h
   ·rename_i h0z
    obtain rfl:=Option.some.inj h
    have:=(cC I F hz).bM rfl
    have hzy:z≤(y:Int):=by omega
    simp[Instr.sliceBound,this,asIntOf,h0z,hzy]
   ·simp at h
  ·simp at h
theorem alj {σ σ':St} {o:Oper} {t:TypeId} {x:Operand} {lo hi:Option Operand} (ho:o.op= .slice t x lo hi none) {v:Value} (h:ni P σ t x lo hi=some (v,σ')):dI P o σ v σ':=by
 intro ρ0 h0 w0 ρ a w I F
 unfold ni at h
 split at h
 ·rename_i ad len c hx
  split at h
  ·rename_i e s l hh s' he hlo hhi hs'
   split at h
   ·rename_i hle
    obtain⟨hlh,hhl,rfl⟩:=hle
    simp only[Option.some.injEq,Prod.mk.injEq]at h
    obtain⟨rfl,rfl⟩:=h
    obtain⟨q1,q2⟩:=nY he
    have hv:=(cC I F hx).bL rfl
    have hb:∀cap,len≤cap→(Instr.sliceBounds true len cap (lo.map a.eval) (hi.map a.eval) none).run P w= .ok (l,hh,cap) w:=by
     intro cap hcap
     cases hi with
     |none=>
      simp only[fC,Option.some.injEq]at hhi;subst hhi
      cases lo with
      |none=>simp only[fC,Option.some.injEq]at hlo;subst hlo;simp[Instr.sliceBounds]
      |some i=>simp[Instr.sliceBounds,run_sliceBound I F hlo _ _ hlh]
     |some j=>
      have hj:=run_sliceBound I F hhi cap .sliceAcap (by omega)
      cases lo with
      |none=>simp only[fC,Option.some.injEq]at hlo;subst hlo;simp[Instr.sliceBounds,hj]
      |some i=>simp[Instr.sliceBounds,hj,run_sliceBound I F hlo _ _ hlh]
    have hrun:∀base cap,len≤cap→a.eval x= .slice base len cap→(execOp a.eval o).run P w= .ok (.value (.slice (if cap=l then base else base.map (·.add (l*s))) (hh-l) (cap-l))) w:=by
     intro base cap hcap hxv
     simp[execOp,ho,Instr.sliceAt,run_underlying q1,hxv,Instr.slice,hb cap hcap,run_sizeOf q2]
    rcases hv.kj with⟨a',rfl,hv'⟩|⟨b,off,pl,cap,rfl,hk,hc,hn,hv'⟩
    ·have hl0:l=0:=by omega
     have hh0:hh=0:=by omega
     subst hl0;subst hh0
     refine⟨_,_,w,ρ,hrun _ _ (Nat.le_refl _) hv',rfl,I,F,?_,fun _ _=>⟨rfl,fun _=>rfl⟩⟩
     simp only[if_true]
     exact .val _ _ (.lO _ _ _)
    ·refine⟨_,_,w,ρ,hrun _ _ hc hv',rfl,I,F,?_,fun _ _=>⟨rfl,fun _=>rfl⟩⟩
     by_cases hcl:cap=l
     ·subst hcl
      have:hh=cap:=by omega
      subst this
      simp only[Nat.sub_self]
      exact .val _ _ (.lO _ _ _)
     ·simp only[hcl,if_false,Option.map_some,Addr.add_lit]
      have hpl:pl.sz=s:=by
       unfold Aw at hs'
       split at hs'
       ·rename_i wr e1 cs hr
        obtain⟨C,e',fz,c1,c2,c3,c4,c5,c6⟩:=I.rel.row _ _ _ _ _ hk hr
        simp only[Option.some.injEq]at hs'
        rw[c5,hs']
       ·simp at hs'
      have:=VR.sl (ρ:=ρ) b (off+l*s) (hh-l) (hh-l) pl (cap-l) hk (by omega) (by
       rw[hpl]at hn ⊢
       have h1:l*s+(cap-l)*s=cap*s:=by rw[←Nat.add_mul];congr 1;omega
       omega)
      rw[←Nat.add_assoc]at this
      exact .val _ _ this
   ·simp at h
  ·simp at h
 ·rename_i hx
  split at h
  ·rename_i es he hlo hhi
   obtain⟨e,s⟩:=es
   simp only[Option.some.injEq,Prod.mk.injEq]at h
   obtain⟨rfl,rfl⟩:=h
   obtain⟨q1,q2⟩:=nY he
   have hv:=(cC I F hx).bL rfl
   have hxv:a.eval x= .slice none 0 0:=by
    generalize a.eval x=y at hv
    cases hv
    rfl
   have hb:(Instr.sliceBounds true 0 0 (lo.map a.eval) (hi.map a.eval) none).run P w= .ok (0,0,0) w:=by
    cases hi with
    |none=>
     cases lo with
     |none=>simp[Instr.sliceBounds]
     |some i=>simp[Instr.sliceBounds,run_sliceBound I F hlo _ _ (Nat.le_refl 0)]
    |some j=>
     have hj:=run_sliceBound I F hhi 0 .sliceAcap (Nat.le_refl 0)
     cases lo with
     |none=>simp[Instr.sliceBounds,hj]
     |some i=>simp[Instr.sliceBounds,hj,run_sliceBound I F hlo _ _ (Nat.le_refl 0)]
   refine⟨.value (.slice none 0 0),.slice none 0 0,w,ρ,?_,rfl,I,F,.val _ _ .pe,fun _ _=>⟨rfl,fun _=>rfl⟩⟩
   simp[execOp,ho,Instr.sliceAt,run_underlying q1,hxv,Instr.slice,hb,run_sizeOf q2]
  ·simp at h
 ·simp at h
def oM (P:Program) (σ:St) (t:TypeId) (x:Operand):Option (Value×St):=
 match P.underlying t,aG σ x with
 |some .string,some (.string s)=>some (.int .i64 s.size,σ)
 |some (.slice _),some (.slice _ n _)=>some (.int .i64 n,σ)
 |_,_=>none
theorem ak6 {σ σ':St} {o:Oper} {t:TypeId} {x:Operand} (ho:o.op= .call {callee:=.builtin .len,args:=#[x],argTypes:=#[t]}) {v:Value} (h:oM P σ t x=some (v,σ')):dI P o σ v σ':=by
 intro ρ0 h0 w0 ρ a w I F
 unfold oM at h
 split at h
 ·rename_i s ht hx
  simp only[Option.some.injEq,Prod.mk.injEq]at h
  obtain⟨rfl,rfl⟩:=h
  have hv:=(cC I F hx).bM rfl
  refine⟨.value (.int .i64 s.size),_,w,ρ,?_,rfl,I,F,.eC rfl,fun _ _=>⟨rfl,fun _=>rfl⟩⟩
  simp[execOp,ho,resolve,invoke,builtin,Builtin.len_,run_underlying ht,hv,goInt]
 ·rename_i e a0 n c ht hx
  simp only[Option.some.injEq,Prod.mk.injEq]at h
  obtain⟨rfl,rfl⟩:=h
  have hv:=(cC I F hx).bL rfl
  refine⟨.value (.int .i64 n),_,w,ρ,?_,rfl,I,F,.eC rfl,fun _ _=>⟨rfl,fun _=>rfl⟩⟩
  generalize hx':a.eval x=x' at hv
  cases hv<;>simp[execOp,ho,resolve,invoke,builtin,Builtin.len_,run_underlying ht,goInt,hx']
 ·simp at h
def lB (d:TypeDesc) (u v:Value):Option Bool:=match d,u,v with
 | .slice _,.slice a _ _,.slice none 0 0=>some a.isNone
 | .pointer _,.pointer (some _),.pointer none=>some false
 | .map _ _,.map (some _),.map none=>some false
 | .interface _,.iface _ _,.nilIface=>some false
 | .func _ _ _,.func _ _ _,.nilFunc=>some false
 |_,_,_=>none
def jC (P:Program) (σ:St) (op:BinOp) (t:TypeId) (x y:Operand):Option (Value×St):=match P.underlying t,aG σ x,aG σ y with
 |some d,some u,some v=>match lB d u v with
  |some b=>match op with
   | .eql=>some (.bool b,σ)
   | .neq=>some (.bool (!b),σ)
   |_=>none
  |none=>none
 |_,_,_=>none
theorem agw {d:TypeDesc} {u v u' v':Value} {b:Bool} {t:TypeId} (h:lB d u v=some b) (ht:P.underlying t=some d) (hu:VT ρ u u') (hv:VT ρ v v') (w:World):
  (∀op x y,(eqGuard op t x y u' v').run P w= .ok () w)∧(binOp .eql t u' v').run P w= .ok (.bool b) w∧(binOp .neq t u' v').run P w= .ok (.bool (!b)) w:=by
 have key:∀n,(Op.equalIn (n+1) t u' v').run P w= .ok b w:=by
  intro n
  unfold lB at h
  split at h
  ·simp only[Option.some.injEq]at h;subst h
   have hu:=hu.bL rfl
   have hv:=hv.bM rfl
   subst hv
   cases hu<;>simp[Op.equalIn,run_underlying ht]
  ·simp only[Option.some.injEq]at h;subst h
   have hv:=hv.bM rfl
   subst hv
   cases hu with
   |val _ _ hu=>cases hu<;>simp[Op.equalIn,run_underlying ht]
   |loc _ _ _ _ _=>simp[Op.equalIn,run_underlying ht]
  ·simp only[Option.some.injEq]at h;subst h
   have hu:=hu.bL rfl
   have hv:=hv.bM rfl
   subst hv
   cases hu<;>simp[Op.equalIn,run_underlying ht]
  ·simp only[Option.some.injEq]at h;subst h
   have hu:=hu.bL rfl
   have hv:=hv.bM rfl
   subst hv
   cases hu<;>simp[Op.equalIn,run_underlying ht]
  ·simp only[Option.some.injEq]at h;subst h
   have hu:=hu.bL rfl
   have hv:=hv.bM rfl
   subst hv
   cases hu<;>simp[Op.equalIn,run_underlying ht]
  ·simp at h
 have he:(Op.equal t u' v').run P w= .ok b w:=key 9999
 have k2:binOp .eql t u' v'=(do pure (.bool (←Op.equal t u' v')))∧binOp .neq t u' v'=(do pure (.bool (!(←Op.equal t u' v'))))∧∀op x y,eqGuard op t x y u' v'=pure ():=by
  clear key he
  unfold lB at h
  split at h
  ·have hu:=hu.bL rfl
   have hv:=hv.bM rfl
   subst hv
   cases hu<;>exact⟨rfl,rfl,fun op x y=>by unfold eqGuard;split<;>rfl⟩
  ·have hv:=hv.bM rfl
   subst hv
   cases hu with
   |val _ _ hu=>cases hu<;>exact⟨rfl,rfl,fun op x y=>by unfold eqGuard;split<;>rfl⟩
   |loc _ _ _ _ _=>exact⟨rfl,rfl,fun op x y=>by unfold eqGuard;split<;>rfl⟩
  ·have hu:=hu.bL rfl
   have hv:=hv.bM rfl
   subst hv
   cases hu<;>exact⟨rfl,rfl,fun op x y=>by unfold eqGuard;split<;>rfl⟩
  ·have hu:=hu.bL rfl
   have hv:=hv.bM rfl
   subst hv
   cases hu<;>exact⟨rfl,rfl,fun op x y=>by unfold eqGuard;split<;>rfl⟩
  ·have hu:=hu.bL rfl
   have hv:=hv.bM rfl
   subst hv
   cases hu<;>exact⟨rfl,rfl,fun op x y=>by unfold eqGuard;split<;>rfl⟩
  ·simp at h
 obtain⟨e1,e2,e3⟩:=k2
 refine⟨fun op x y=>by rw[e3];rfl,?_,?_⟩
 ·rw[e1];simp[he]
 ·rw[e2];simp[he]
theorem ale {σ σ':St} {o:Oper} {op:BinOp} {t yt:TypeId} {x y:Operand} (ho:o.op= .binOp op t x y yt) {v:Value} (h:jC P σ op t x y=some (v,σ')):dI P o σ v σ':=by
 intro ρ0 h0 w0 ρ a w I F
 unfold jC at h
 split at h
 ·rename_i d u z hd hx hy
  split at h
  ·rename_i b hb
   obtain⟨q2,q3,q4⟩:=agw hb hd (cC I F hx) (cC I F hy) w
   split at h
   ·simp only[Option.some.injEq,Prod.mk.injEq]at h
    obtain⟨rfl,rfl⟩:=h
    refine⟨.value (.bool b),_,w,ρ,?_,rfl,I,F,.eC rfl,fun _ _=>⟨rfl,fun _=>rfl⟩⟩
    simp[execOp,ho,q2,q3]
   ·simp only[Option.some.injEq,Prod.mk.injEq]at h
    obtain⟨rfl,rfl⟩:=h
    refine⟨.value (.bool (!b)),_,w,ρ,?_,rfl,I,F,.eC rfl,fun _ _=>⟨rfl,fun _=>rfl⟩⟩
    simp[execOp,ho,q2,q4]
   ·simp at h
  ·simp at h
 ·simp at h
def oP (σ:St) (x:Operand):Option (Value×St):=
 match aG σ x with
 |some (.pointer (some ad))=>some (.pointer (some ad),σ)
 |some (.func (.func f) aS cs)=>some (.func (.func f) aS cs,σ)
 |_=>none
theorem alf {σ σ':St} {o:Oper} {x:Operand} (ho:o.op= .nilCheck x) {v:Value} (h:oP σ x=some (v,σ')):dI P o σ v σ':=by
 intro ρ0 h0 w0 ρ a w I F
 unfold oP at h
 split at h
 ·rename_i ad hx
  simp only[Option.some.injEq,Prod.mk.injEq]at h
  obtain⟨rfl,rfl⟩:=h
  have hv:=cC I F hx
  obtain⟨pl,hk,hv'⟩:=hv.ptr
  refine⟨.value (a.eval x),_,w,ρ,?_,rfl,I,F,hv,fun _ _=>⟨rfl,fun _=>rfl⟩⟩
  simp[execOp,ho,hv']
 ·rename_i f aS cs hx
  simp only[Option.some.injEq,Prod.mk.injEq]at h
  obtain⟨rfl,rfl⟩:=h
  have hv:=cC I F hx
  refine⟨.value (a.eval x),_,w,ρ,?_,rfl,I,F,hv,fun _ _=>⟨rfl,fun _=>rfl⟩⟩
  have hv2:=hv.bL rfl
  generalize hx':a.eval x=x' at hv2
  cases hv2
  simp[execOp,ho,hx']
 ·simp at h
end
section
variable {P:Program} {ρ0 ρ ρ':aw} {h0:aa} {w0 w:World} {m:Mem}
def cQ (P:Program) (σ:St) (u:TypeId) (sz:Nat) (x:Operand):Option (List Value×Nat):=
 match P.underlying u with
 |some (.slice _)=>match aG σ x with
  |some (.slice none 0 0)=>some ([],0)
  |some (.slice (some ad) n _)=>if n=0 then some ([],0)else match σ.m.cells ad (n*sz)with
   |some l=>some (l,n)
   |none=>none
  |_=>none
 |some .string=>match aG σ x with
  |some (.string s)=>if sz=1 then some (s.data.toList.map fun b=>.int .u8 b.toNat,s.size)else none
  |_=>none
 |_=>none
theorem aaJ (s:ByteArray) (sz:Nat):(Builtin.firstCells sz s.size (.string s)).run P w= .ok ⟨s.data.toList.map fun b=>Value.int .u8 b.toNat⟩ w:=by
 simp only[Builtin.firstCells,Sem.run_pure]
 congr 1
 have hx:s.extract 0 s.size=s:=by simp
 rw[hx]
 apply Array.ext'
 simp
theorem anS {σ:St} (I:Inv P ρ0 h0 w0 ρ σ.m w) {a:Act} (F:dE ρ σ.t a.tmps) {u:TypeId} {sz:Nat} {x:Operand} {l:List Value} {n:Nat} (h:cQ P σ u sz x=some (l,n)) (hsz:0<sz):
  l.length=n*sz∧∃l':List Value,l'.length=n*sz∧(∀(i:Nat) (v:Value),l[i]? =some v→∃v',l'[i]? =some v'∧VR ρ v v')∧
   (∃d,P.underlying u=some d∧((∃e2,d= .slice e2)∨d= .string))∧(∀w1:World,(Builtin.lenOf (a.eval x)).run P w1= .ok n w1)∧
   ∀w1:World,w1.heap=w.heap→(Builtin.firstCells sz n (a.eval x)).run P w1= .ok ⟨l'⟩ w1:=by
 unfold cQ at h
 split at h
 ·rename_i e hu
  split at h
  ·rename_i hx
   simp only[Option.some.injEq,Prod.mk.injEq]at h
   obtain⟨rfl,rfl⟩:=h
   have hv:=(cC I F hx).bM rfl
   refine⟨by simp,[],by simp,by simp,⟨_,hu,.inl ⟨_,rfl⟩⟩,fun w1=>by rw[hv];rfl,fun w1 _=>by rw[hv];rfl⟩
  ·rename_i ad k c hx
   have hv:=(cC I F hx).bL rfl
   split at h
   ·rename_i hk0
    simp only[Option.some.injEq,Prod.mk.injEq]at h
    obtain⟨rfl,rfl⟩:=h
    subst hk0
    have:∃a' c',a.eval x= .slice (some a') 0 c':=by
     rcases hv.kj with⟨a',_,hv'⟩|⟨b,off,pl,cap,_,hk,hc,hn,hv'⟩
     ·exact⟨a',0,hv'⟩
     ·exact⟨_,cap,hv'⟩
    obtain⟨a',c',hv'⟩:=this
    refine⟨by simp,[],by simp,by simp,⟨_,hu,.inl ⟨_,rfl⟩⟩,fun w1=>by rw[hv'];rfl,fun w1 _=>by rw[hv'];simp[Builtin.firstCells,loadCells,loadCellsFrom]⟩
   ·rename_i hk0
    split at h
    ·rename_i l1 hl
     simp only[Option.some.injEq,Prod.mk.injEq]at h
     obtain⟨rfl,rfl⟩:=h
     rcases hv.kj with⟨a',hl0,_⟩|⟨b,off,pl,cap,rfl,hk,hc,hn,hv'⟩
     ·exact absurd hl0 hk0
     ·obtain⟨q1,l',q2,q3,q4⟩:=nU I (ad:=⟨b,off,none⟩) hk hl
      refine⟨q1,l',q2,q3,⟨_,hu,.inl ⟨_,rfl⟩⟩,fun w1=>by rw[hv'];rfl,fun w1 hw1=>?_⟩
      rw[hv']
      exact run_firstCells_some (P:=P) w1 sz k ⟨pl.B,pl.o+off,none⟩ k cap l' q2 (fun j v hj=>by
       have:=q4 j v hj
       simp only[World.cell?]at this ⊢
       rw[hw1];exact this)
    ·simp at h
  ·simp at h
 ·rename_i hu
  split at h
  ·rename_i s hx
   split at h
   ·rename_i h1
    simp only[Option.some.injEq,Prod.mk.injEq]at h
    obtain⟨rfl,rfl⟩:=h
    subst h1
    have hv:=(cC I F hx).bM rfl
    have hf:∀v∈s.data.toList.map (fun b:UInt8=>Value.int .u8 b.toNat),cA v=true:=by simp[cA]
    refine⟨by rw[List.length_map,Nat.mul_one];rfl,s.data.toList.map (fun b=>Value.int .u8 b.toNat),by rw[List.length_map,Nat.mul_one];rfl,fun i v hi=>⟨v,hi,.oC (hf v (List.mem_of_getElem? hi))⟩,⟨_,hu,.inr rfl⟩,
     fun w1=>by rw[hv];rfl,fun w1 _=>by rw[hv];exact aaJ s 1⟩
   ·simp at h
  ·simp at h
 ·simp at h
def cH:Nat:=140737488355328
def fX (P:Program) (t:TypeId):Option Nat:=(P.info? t).map (·.bytes)
def cB (P:Program) (σ:St) (t u:TypeId) (s x:Operand):Option (Value×St):=
 match ep P t with
 |some (e,sz)=>match cT P e,fX P e,cQ P σ u sz x with
  |some zl,some by_,some (l,n)=>
   if l.all one&&decide (0<sz)&&decide (0<by_)&&zl.length==sz then
    match aG σ s with
    |some (.slice none 0 0)=>if n=0 then some (.slice none 0 0,σ)else
      if n*by_≤cH then some (.slice (some ⟨σ.m.h.n,0,none⟩) n n,⟨σ.t,⟨σ.m.x,σ.m.h.new (.row true e l)⟩⟩)else none
    |some (.slice (some ⟨b,off,none⟩) len _)=>match σ.m.h.f b with
     | .row true e' cs=>if P.cellsOf e'=sz∧off+len*sz≤cs.length∧(len+n)*by_≤cH then
       some (.slice (some ⟨σ.m.h.n,0,none⟩) (len+n) (len+n),⟨σ.t,⟨σ.m.x,(σ.m.h.set b .dead).new (.row true e' ((cs.drop off).take (len*sz)++l))⟩⟩)else none
     |_=>none
    |_=>none
   else none
  |_,_,_=>none
 |none=>none
theorem akK {l l':List Value} (hl:l.length=l'.length) (h:∀(i:Nat) (v:Value),l[i]? =some v→∃v',l'[i]? =some v'∧VR ρ v v') (h1:l.all one=true):∀z∈l',z.oneCell'=true:=by
 intro z hz
 rw[List.mem_iff_getElem]at hz
 obtain⟨i,hi,rfl⟩:=hz
 have hi':i<l.length:=by omega
 obtain⟨v',q1,q2⟩:=h i _ (List.getElem?_eq_getElem hi')
 rw[List.getElem?_eq_getElem hi]at q1
 obtain rfl:=Option.some.inj q1
 exact q2.one (List.all_eq_true.mp h1 _ (List.getElem_mem hi'))
theorem PS (t u ty e:TypeId) (i:TypeInfo) (z:Value) (ht:P.underlying t=some (.slice e)) (hi:P.info? e=some i) (hz:i.zero=some z)
  {d:TypeDesc} (hu:P.underlying u=some d) (hd:(∃e2,d= .slice e2)∨d= .string) (X:Value) (n:Nat) (news:List Value) (hlen:∀w1:World,(Builtin.lenOf X).run P w1= .ok n w1)
  (hnew:(Builtin.firstCells i.size n X).run P w.drew= .ok ⟨news⟩ w.drew)
  (base:Option Addr) (sLen sCap:Nat) (olds:List Value) (hold:(Builtin.firstCells i.size sLen (.slice base sLen sCap)).run P w.drew= .ok ⟨olds⟩ w.drew)
  (hg:sCap<sLen+n) (h63:((sLen+n:Nat):Int)≤9223372036854775807) (hfit:Builtin.nextslicecap (sLen+n) sCap*i.bytes≤281474976710656):
  (Builtin.append_ #[t,u] ty #[.slice base sLen sCap,X]).run P w=
   .ok (.slice (some ⟨w.heap.size,0,none⟩) (sLen+n) (grownCap w (sLen+n) sCap e))
    (w.drew.alloc (.cells ((⟨olds⟩:Array Value)++⟨news⟩++Builtin.zeroCells z.cells (grownCap w (sLen+n) sCap e-(sLen+n))) e)):=by
 have hn:¬(sLen+n≤sCap):=by omega
 have h63':¬(9223372036854775807<((sLen:Int)+(n:Int))):=by omega
 have h48':¬(281474976710656<Builtin.nextslicecap (sLen+n) sCap*i.bytes):=by omega
 have hfin:∀k:Nat,((⟨olds⟩:Array Value)++(⟨news⟩++Builtin.zeroCells z.cells k))=(olds++news).toArray++Builtin.zeroCells z.cells k:=fun k=>by
  apply Array.ext';simp[List.append_assoc]
 rcases hd with⟨e2,rfl⟩|rfl<;>simp[Builtin.append_,run_underlying ht,run_underlying hu,sizeOf,typeInfo,zeroValue,hi,hz,hlen,hn,h63',h48',Question.forced,hnew,hold,newRow,grownCap,hfin]
theorem am6 (t u ty e:TypeId) (i:TypeInfo) (ht:P.underlying t=some (.slice e)) (hi:P.info? e=some i)
  {d:TypeDesc} (hu:P.underlying u=some d) (hd:(∃e2,d= .slice e2)∨d= .string) (X:Value) (n:Nat) (news:List Value) (hlen:∀w1:World,(Builtin.lenOf X).run P w1= .ok n w1)
  (hnew:(Builtin.firstCells i.size n X).run P w= .ok ⟨news⟩ w) (h1:∀v∈news,v.oneCell'=true)
  (g off sLen sCap:Nat) (e':TypeId) (cur:Array Value) (hg:w.heap[g]? =some (.cells cur e' (0,0))) (hroom:sLen+n≤sCap) (hfit:off+sLen*i.size+news.length≤cur.size):
  (Builtin.append_ #[t,u] ty #[.slice (some ⟨g,off,none⟩) sLen sCap,X]).run P w=
   .ok (.slice (some ⟨g,off,none⟩) (sLen+n) sCap) (w.setRow g (cur.toList.take (off+sLen*i.size)++news++cur.toList.drop (off+sLen*i.size+news.length)).toArray):=by
 have hst:=run_storeCells_at P g (off+sLen*i.size) e' news 0 cur w hg (by simpa using hfit) h1
 simp only[Nat.add_zero]at hst
 rcases hd with⟨e2,rfl⟩|rfl<;>simp[Builtin.append_,run_underlying ht,run_underlying hu,sizeOf,typeInfo,hi,hlen,hroom,hnew,Addr.add_lit,hst]
theorem PT (t u ty e:TypeId) (i:TypeInfo) (ht:P.underlying t=some (.slice e)) (hi:P.info? e=some i)
  {d:TypeDesc} (hu:P.underlying u=some d) (hd:(∃e2,d= .slice e2)∨d= .string) (X:Value) (news:List Value) (hlen:∀w1:World,(Builtin.lenOf X).run P w1= .ok 0 w1)
  (hnew:(Builtin.firstCells i.size 0 X).run P w= .ok ⟨news⟩ w) (hl:news=[]) (base:Option Addr):
  (Builtin.append_ #[t,u] ty #[.slice base 0 0,X]).run P w= .ok (.slice base 0 0) w:=by
 subst hl
 rcases hd with⟨e2,rfl⟩|rfl<;>cases base<;>simp[Builtin.append_,run_underlying ht,run_underlying hu,sizeOf,typeInfo,hi,hlen,hnew,storeCells]
theorem AH {cs vs cs' vs':List Value} (rest:List Value) (hl:cs.length=cs'.length) (hl2:vs.length=vs'.length)
  (h1:∀(i:Nat) (v:Value),cs[i]? =some v→∃v',cs'[i]? =some v'∧VR ρ v v') (h2:∀(i:Nat) (v:Value),vs[i]? =some v→∃v',vs'[i]? =some v'∧VR ρ v v'):
  ∀(i:Nat) (v:Value),(cs++vs)[i]? =some v→∃v',(cs'++vs'++rest)[i]? =some v'∧VR ρ v v':=by
 intro i v hi
 have hlt:i<(cs++vs).length:=by
  rcases Nat.lt_or_ge i (cs++vs).length with q|q
  ·exact q
  ·rw[List.getElem?_eq_none q]at hi;cases hi
 rw[List.getElem?_append_left (by simp at hlt ⊢;omega)]
 by_cases hc:i<cs.length
 ·rw[List.getElem?_append_left hc]at hi
  rw[List.getElem?_append_left (by omega)]
  exact h1 i v hi
 ·rw[List.getElem?_append_right (by omega)]at hi
  rw[List.getElem?_append_right (by omega),←hl]
  exact h2 _ v hi
theorem akM {σ σ':St} {o:Oper} {t u:TypeId} {s x:Operand} (ho:o.op= .call {callee:=.builtin .append,args:=#[s,x],argTypes:=#[t,u]}) {v:Value}
  (h:cB P σ t u s x=some (v,σ')):dI P o σ v σ':=by
 intro ρ0 h0 w0 ρ a w I F
 unfold cB at h
 split at h
 rotate_left
 ·simp at h
 rename_i e sz he
 split at h
 rotate_left
 ·simp at h
 rename_i zl by_ l n hz hby hsrc
 split at h
 rotate_left
 ·simp at h
 rename_i aL
 simp only[Bool.and_eq_true,decide_eq_true_eq,beq_iff_eq]at aL
 obtain⟨⟨⟨hone,hszp⟩,hbyp⟩,hzlen⟩:=aL
 obtain⟨ht,hsz⟩:=nY he
 obtain⟨ll,l',hl',hll',⟨d,hu,hd⟩,hlen,hfirst⟩:=anS I F hsrc hszp
 have hone':=akK (ll.trans hl'.symm) hll' hone
 have hinfo:∃i,P.info? e=some i∧i.size=sz∧i.bytes=by_∧∃z,i.zero=some z∧z.cells.size=sz:=by
  unfold cT at hz;unfold cf at hsz;unfold fX at hby
  cases hi:P.info? e with
  |none=>simp[hi]at hz
  |some i=>
   simp only[hi]at hz hsz hby
   cases hzz:i.zero with
   |none=>simp[hzz]at hz
   |some z=>
    refine⟨i,rfl,by simpa using hsz,by simpa using hby,z,hzz,?_⟩
    simp only[hzz]at hz
    split at hz
    ·obtain rfl:=Option.some.inj hz;simpa using hzlen
    ·simp at hz
 obtain⟨i,hi,rfl,rfl,z,hzz,hz1⟩:=hinfo
 have hexec:∀base sLen sCap,a.eval s= .slice base sLen sCap→(execOp a.eval o).run P w=((Builtin.append_ #[t,u] o.type #[.slice base sLen sCap,a.eval x]).run P w).andThen fun v w'=>.ok (.value v) w':=by
  intro base sLen sCap hs
  simp[execOp,ho,resolve,invoke,builtin,hs]
 have hgrowF:∀{k pl},ρ (false,k)=some pl→∀pl',ρ.eg (false,σ.m.h.n) pl' (false,k)=some pl:=fun{k pl} q pl'=>by
  rw[aw.b9];exact q
  intro z;simp only[Prod.mk.injEq,true_and]at z;subst z;exact Nat.lt_irrefl _ (I.rel.cU _ _ q)
 split at h
 ·
  rename_i hs
  have hsv:=(cC I F hs).bM rfl
  split at h
  ·rename_i hn0
   simp only[Option.some.injEq,Prod.mk.injEq]at h
   obtain⟨rfl,rfl⟩:=h
   subst hn0
   refine⟨.value (.slice none 0 0),_,w,ρ,?_,rfl,I,F,.eC rfl,fun _ _=>⟨rfl,fun _=>rfl⟩⟩
   rw[hexec _ _ _ hsv,PT t u o.type e i ht hi hu hd _ l' hlen (hfirst w rfl) (by simpa using hl')]
   rfl
  ·rename_i hn0
   split at h
   ·rename_i hmax
    unfold cH at hmax
    simp only[Option.some.injEq,Prod.mk.injEq]at h
    obtain⟨rfl,rfl⟩:=h
    have hnn:n≤n*i.bytes:=Nat.le_mul_of_pos_right n hbyp
    have hrun:=PS (w:=w) t u o.type e i z ht hi hzz hu hd (a.eval x) n l' hlen (hfirst w.drew rfl) none 0 0 [] (by rfl) (by omega) (by omega)
     (growslice_fits (by omega) (by simpa using hmax))
    have hc:=AH (ρ:=ρ) (cs:=[]) (cs':=[]) (vs:=l) (vs':=l') (Builtin.zeroCells z.cells (grownCap w (0+n) 0 e-(0+n))).toList rfl (ll.trans hl'.symm) (by simp) hll'
    have J:=I.drew.mY (x:=.row true e l) (o:=.cells ((⟨[]⟩:Array Value)++⟨l'⟩++Builtin.zeroCells z.cells (grownCap w (0+n) 0 e-(0+n))) e) (pl:=⟨w.heap.size,0,_,P.cellsOf e⟩)
     (.row e e l _ _ (by simp[ll,hl']) (fun j v hj=>by
      obtain⟨v',q1,q2⟩:=hc j v (by simpa using hj)
      exact⟨v',by rw[←Array.getElem?_toList,Array.toList_append,Array.toList_append];exact q1,q2⟩)) rfl
    refine⟨_,_,_,_,by rw[hexec _ _ _ hsv,hrun];rfl,rfl,J,F.mono (fun b pl q=>hgrowF q _) (fun s=>aw.b9 _ _ (by simp)),?_,fun s' _=>⟨aw.b9 _ _ (by simp),fun _=>rfl⟩⟩
    have hsize:P.cellsOf e=i.size:=by simp[Program.cellsOf,hi]
    have:=VR.sl (ρ:=ρ.eg (false,σ.m.h.n) ⟨w.heap.size,0,((⟨[]⟩:Array Value)++⟨l'⟩++Builtin.zeroCells z.cells (grownCap w (0+n) 0 e-(0+n))).size,P.cellsOf e⟩) σ.m.h.n 0 n n
     ⟨w.heap.size,0,((⟨[]⟩:Array Value)++⟨l'⟩++Builtin.zeroCells z.cells (grownCap w (0+n) 0 e-(0+n))).size,P.cellsOf e⟩ (grownCap w (0+n) 0 e) (aw.fV _ _ _)
     (by have:=grownCap_ge w (0+n) 0 e;omega) (by
      have hg:=grownCap_ge w (0+n) 0 e
      simp only[Array.size_append,size_zeroCells,hz1,hsize]
      simp only[List.size_toArray,List.length_nil,hl']
      rw[Nat.sub_mul]
      have:=Nat.mul_le_mul_right i.size hg
      have e1:(0+n)*i.size=n*i.size:=by rw[Nat.zero_add]
      omega)
    rw[Nat.zero_add]at this ⊢
    exact VT.val _ _ this
   ·simp at h
 ·
  rename_i b off len c hs
  have hsv:=(cC I F hs).bL rfl
  split at h
  rotate_left
  ·simp at h
  rename_i e1 cs hb
  split at h
  rotate_left
  ·simp at h
  rename_i hcond
  obtain⟨hce,hin,hmax⟩:=hcond
  unfold cH at hmax
  simp only[Option.some.injEq,Prod.mk.injEq]at h
  obtain⟨rfl,rfl⟩:=h
  have hnn:len+n≤(len+n)*i.bytes:=Nat.le_mul_of_pos_right _ hbyp
  have grown:∀(base:Option Addr) (sCap:Nat) (olds:List Value),a.eval s= .slice base len sCap→sCap<len+n→olds.length=len*i.size→
    (Builtin.firstCells i.size len (.slice base len sCap)).run P w.drew= .ok ⟨olds⟩ w.drew→
    (∀(j:Nat) (v:Value),((cs.drop off).take (len*i.size))[j]? =some v→∃v',olds[j]? =some v'∧VR ρ v v')→
    ∃nx v' w' ρ',(execOp a.eval o).run P w= .ok nx w'∧oV nx=some v'∧Inv P ρ0 h0 w0 ρ' ⟨σ.m.x,(σ.m.h.set b .dead).new (.row true e1 ((cs.drop off).take (len*i.size)++l))⟩ w'∧
     dE ρ' σ.t a.tmps∧VT ρ' (.slice (some ⟨σ.m.h.n,0,none⟩) (len+n) (len+n)) v'∧
     ∀s,(∀d,o.dst=some d→d≠s)→ρ' (true,s)=ρ (true,s)∧(ρ (true,s)=none→σ.m.x s=σ.m.x s):=by
   intro base sCap olds hsv' hlt holds hfo hrel
   have hrun:=PS (w:=w) t u o.type e i z ht hi hzz hu hd (a.eval x) n l' hlen (hfirst w.drew rfl) base len sCap olds hfo hlt (by omega)
    (growslice_fits (by omega) (by omega))
   have hlo:((cs.drop off).take (len*i.size)).length=olds.length:=by rw[holds];simp;omega
   have hc:=AH (ρ:=ρ) (Builtin.zeroCells z.cells (grownCap w (len+n) sCap e-(len+n))).toList hlo (ll.trans hl'.symm) hrel hll'
   have hCg:∀j:Nat,((⟨olds⟩:Array Value)++⟨l'⟩++Builtin.zeroCells z.cells (grownCap w (len+n) sCap e-(len+n)))[j]? =
     (olds++l'++(Builtin.zeroCells z.cells (grownCap w (len+n) sCap e-(len+n))).toList)[j]? :=fun j=>by
    rw[←Array.getElem?_toList,Array.toList_append,Array.toList_append]
   have hCs:((⟨olds⟩:Array Value)++⟨l'⟩++Builtin.zeroCells z.cells (grownCap w (len+n) sCap e-(len+n))).size=len*i.size+n*i.size+(grownCap w (len+n) sCap e-(len+n))*i.size:=by
    rw[Array.size_append,Array.size_append,size_zeroCells,hz1,List.size_toArray,List.size_toArray,holds,hl']
   generalize ((⟨olds⟩:Array Value)++⟨l'⟩++Builtin.zeroCells z.cells (grownCap w (len+n) sCap e-(len+n)))=C at hrun hCg hCs
   have hfit:Fits P ρ (.row true e1 ((cs.drop off).take (len*i.size)++l)) (.cells C e (0,0)) ⟨w.heap.size,0,C.size,P.cellsOf e1⟩:=
    .row e1 e _ C _ (by rw[List.length_append,hlo,holds,ll,hCs];omega) (fun j v hj=>by
     obtain⟨v',q1,q2⟩:=hc j v hj
     exact⟨v',by rw[hCg];exact q1,q2⟩)
   have J:=(I.drew.kill b).mY hfit rfl
   refine⟨_,_,_,_,by rw[hexec _ _ _ hsv',hrun];rfl,rfl,J,F.mono (fun b pl q=>hgrowF q _) (fun s=>aw.b9 _ _ (by simp)),?_,fun s' _=>⟨aw.b9 _ _ (by simp),fun _=>rfl⟩⟩
   have hg:=grownCap_ge w (len+n) sCap e
   have:=VR.sl (ρ:=ρ.eg (false,σ.m.h.n) ⟨w.heap.size,0,C.size,P.cellsOf e1⟩) σ.m.h.n 0 (len+n) (len+n)
    ⟨w.heap.size,0,C.size,P.cellsOf e1⟩ (grownCap w (len+n) sCap e) (aw.fV _ _ _)
    hg (by
     simp only[hCs,hce]
     rw[Nat.sub_mul]
     have:=Nat.mul_le_mul_right i.size hg
     have e1:(len+n)*i.size=len*i.size+n*i.size:=Nat.add_mul _ _ _
     omega)
   exact VT.val _ _ this
  rcases hsv.kj with⟨a',rfl,hv'⟩|⟨b',off',pl,cap,hbo,hk,hc,hn,hv'⟩
  ·
   by_cases hn0:n=0
   ·subst hn0
    refine⟨_,_,w,ρ,by rw[hexec _ _ _ hv',PT t u o.type e i ht hi hu hd _ l' hlen (hfirst w rfl) (by simpa using hl')];rfl,rfl,(I.kill b).agl _,F,.val _ _ (.lO _ _ _),fun _ _=>⟨rfl,fun _=>rfl⟩⟩
   ·exact grown (some a') 0 [] hv' (by omega) (by simp) (by simp[Builtin.firstCells,loadCells,loadCellsFrom]) (by simp)
  ·simp only[Addr.mk.injEq,and_true]at hbo
   obtain⟨rfl,rfl⟩:=hbo
   have hrow:σ.m.row? (false,b)=some (true,e1,cs):=by simp[Mem.row?,hb]
   obtain⟨C,e',fz,c1,c2,c3,c4,c5,c6⟩:=I.rel.row _ _ _ _ _ hk hrow
   obtain rfl:=c2 rfl
   have hpl:pl.sz=i.size:=by rw[c5,hce]
   by_cases hroom:len+n≤cap
   ·have hspan:(len+n)*i.size≤cap*i.size:=Nat.mul_le_mul_right _ hroom
    have esplit:(len+n)*i.size=len*i.size+n*i.size:=Nat.add_mul _ _ _
    rw[hpl]at hn
    have hrun:=am6 (w:=w) t u o.type e i ht hi hu hd (a.eval x) n l' hlen (hfirst w rfl) hone' pl.B (pl.o+off) len cap e' C c1 hroom (by omega)
    refine⟨_,_,_,_,by rw[hexec _ _ _ hv',hrun];rfl,rfl,
     I.amB hk hb (off:=off) (ds:=(cs.drop off).take (len*i.size)++l) (e':=e')
      (C:=(C.toList.take (pl.o+off+len*i.size)++l'++C.toList.drop (pl.o+off+len*i.size+l'.length)).toArray)
      (by simp only[List.length_append,List.length_take,List.length_drop];omega) (tV w pl.B _) (setRow_size w pl.B _) (fun B hB=>nw w pl.B _ hB)
      (tT w pl.B _ c1) ?_ ?_,F.mono (fun b pl q=>hgrowF q _) (fun s=>aw.b9 _ _ (by simp)),?_,fun s' _=>⟨aw.b9 _ _ (by simp),fun _=>rfl⟩⟩
    ·simp only[List.size_toArray,List.length_append,List.length_take,List.length_drop,Array.length_toList]
     omega
    ·intro j v hj
     have hlo:((cs.drop off).take (len*i.size)).length=len*i.size:=by simp;omega
     rw[List.getElem?_toArray,q9 _ _ _ _ (by simp only[Array.length_toList];omega)]
     by_cases hjl:j<len*i.size
     ·rw[List.getElem?_append_left (by omega),List.getElem?_take,if_pos hjl,List.getElem?_drop]at hj
      obtain⟨v',q1,q2⟩:=c6 _ _ hj
      exact⟨v',by rw[if_pos (by omega),Array.getElem?_toList,Nat.add_assoc];exact q1,q2⟩
     ·rw[List.getElem?_append_right (by omega),hlo]at hj
      obtain⟨v',q1,q2⟩:=hll' _ _ hj
      have hjn:j-len*i.size<l'.length:=by
       rcases Nat.lt_or_ge (j-len*i.size) l'.length with q|q
       ·exact q
       ·rw[List.getElem?_eq_none q]at q1;cases q1
      refine⟨v',?_,q2⟩
      rw[if_neg (by omega),if_pos (by omega),show pl.o+off+j-(pl.o+off+len*i.size)=j-len*i.size by omega]
      exact q1
    ·have:=VR.sl (ρ:=ρ.eg (false,σ.m.h.n) ⟨pl.B,pl.o+off,pl.n-off,pl.sz⟩) σ.m.h.n 0 (len+n) (len+n) ⟨pl.B,pl.o+off,pl.n-off,pl.sz⟩ cap (aw.fV _ _ _) hroom (by
      simp only[hpl];omega)
     exact VT.val _ _ this
   ·obtain⟨q1,olds,q2,q3,q4⟩:=nU I (ad:=⟨b,off,none⟩) hk (n:=len*i.size) (l:=(cs.drop off).take (len*i.size)) (by simp only[Mem.cells,key,Option.isSome_none,hrow];rw[if_pos hin])
    exact grown (some ⟨pl.B,pl.o+off,none⟩) cap olds hv' (by omega) q2 (run_firstCells_some (P:=P) w.drew i.size len _ len cap olds q2 (fun j v hj=>by simpa using q4 j v hj)) q3
 ·simp at h
end
section
variable {P:Program} {ρ0 ρ ρ':aw} {h0:aa} {w0 w:World} {m:Mem}
theorem adN (vs:List Value):∀(k off:Nat) (C:Array Value),off+k+vs.length≤C.size→
  ((vs.zipIdx k).foldl (fun cs (p:Value×Nat)=>cs.setIfInBounds (off+p.2) p.1) C)=⟨C.toList.take (off+k)++vs++C.toList.drop (off+k+vs.length)⟩:=by
 induction vs with
 |nil=>intro k off C h;apply Array.ext';simp
 |cons v r ih=>
  intro k off C h
  simp only[List.length_cons]at h
  rw[List.zipIdx_cons,List.foldl_cons,ih (k+1) off _ (by simp;omega)]
  apply Array.ext'
  simp only[Array.toList_setIfInBounds]
  apply List.ext_getElem?
  intro i
  rw[q9 _ _ _ _ (by simp;omega),q9 _ _ _ _ (by simp;omega)]
  simp only[List.length_cons,List.getElem?_set]
  by_cases h1:i<off+k
  ·rw[if_pos (by omega),if_neg (by omega),if_pos h1]
  ·by_cases h2:i=off+k
   ·subst h2
    rw[if_pos (by omega),if_pos rfl,if_pos (by simp;omega),if_neg (by omega),if_pos (by omega)]
    simp
   ·by_cases h3:i<off+(k+1)+r.length
    ·rw[if_neg (by omega),if_pos h3,if_neg h1,if_pos (by omega)]
     rw[show i-(off+k)=(i-(off+(k+1)))+1 by omega,List.getElem?_cons_succ]
    ·rw[if_neg (by omega),if_neg h3,if_neg (by omega),if_neg h1,if_neg (by omega)]
def dZ (place:Nat→Option (Nat×Nat)):List Value→List (Nat×Value)→Option (List Value)
 |cs,[]=>some cs
 |cs,(i,v)::r=>match place i with
  |some (off,n)=>if v.cells.toList.length=n∧off+n≤cs.length∧bL v=true then dZ place (iC cs off v.cells.toList) r else none
  |none=>none
theorem Kd (place:Nat→Option (Nat×Nat)):∀(ps ps':List (Nat×Value)) (cs out:List Value) (C:Array Value),dZ place cs ps=some out→
  ps.length=ps'.length→(∀(k:Nat) (p:Nat×Value),ps[k]? =some p→∃p',ps'[k]? =some p'∧p'.1=p.1∧VT ρ p.2 p'.2)→
  cs.length=C.size→(∀(i:Nat) (v:Value),cs[i]? =some v→∃v',C[i]? =some v'∧VR ρ v v')→
  ∃D,Instr.fill place C ps'=some D∧out.length=D.size∧∀(i:Nat) (v:Value),out[i]? =some v→∃v',D[i]? =some v'∧VR ρ v v':=by
 intro ps
 induction ps with
 |nil=>
  intro ps' cs out C h hl _ hcs hrel
  cases ps' with
  |nil=>simp only[dZ,Option.some.injEq]at h;subst h;exact⟨C,rfl,hcs,hrel⟩
  |cons _ _=>simp at hl
 |cons p r ih=>
  intro ps' cs out C h hl hp hcs hrel
  obtain⟨i,v⟩:=p
  cases ps' with
  |nil=>simp at hl
  |cons p' r'=>
   obtain⟨i',v'⟩:=p'
   obtain⟨q,hq,hq1,hq2⟩:=hp 0 (i,v) rfl
   simp only[List.getElem?_cons_zero,Option.some.injEq]at hq
   subst hq
   simp only at hq1 hq2
   subst hq1
   simp only[dZ]at h
   split at h
   ·rename_i off n hpl
    split at h
    ·rename_i hc
     obtain⟨hc1,hc2,hc3⟩:=hc
     have hvc:=(hq2.bL hc3).cells
     have hn:v'.cells.size=n:=by rw[←hc1,hvc.1];simp
     have hsz:¬(n<v'.cells.size):=by omega
     have hfold:=adN v'.cells.toList 0 off C (by rw[Nat.add_zero,Array.length_toList,hn,←hcs];exact hc2)
     simp only[Nat.add_zero]at hfold
     have hz:(v'.cells.zipIdx.foldl (fun cs (p:Value×Nat)=>cs.setIfInBounds (off+p.2) p.1) C)=
       ⟨C.toList.take off++v'.cells.toList++C.toList.drop (off+v'.cells.toList.length)⟩:=by
      rw[←hfold,←Array.foldl_toList,Array.toList_zipIdx]
     have hlen':(iC cs off v.cells.toList).length=(⟨C.toList.take off++v'.cells.toList++C.toList.drop (off+v'.cells.toList.length)⟩:Array Value).size:=by
      have h1:=hvc.1
      simp only[iC,List.length_append,List.length_take,List.length_drop,List.size_toArray,Array.length_toList]at h1 hc1 ⊢
      omega
     have hrel':=tW (ρ:=ρ) (o:=0) (C:=C) (n:=cs.length) hvc.1 (by rw[hc1];exact hc2) (Nat.le_refl _) (by omega) (by simpa using hrel) hvc.2
     obtain⟨D,e1,e2,e3⟩:=ih r' (iC cs off v.cells.toList) out ⟨C.toList.take off++v'.cells.toList++C.toList.drop (off+v'.cells.toList.length)⟩ h (by simpa using hl)
      (fun k p hk=>hp (k+1) p (by simpa using hk)) hlen' (by simpa using hrel')
     refine⟨D,?_,e2,e3⟩
     simp only[Instr.fill,hpl]
     have hb:((decide (v'.cells.size≠n)) || (decide (off+v'.cells.size>C.size)))=false:=by
      rw[Bool.or_eq_false_iff];exact⟨by simp[hn],by simp;omega⟩
     simp only[hb,if_false,Bool.false_eq_true]
     rw[←e1,←hz]
    ·simp at h
   ·simp at h
def cz (σ:St):List (Nat×Operand)→Option (List (Nat×Value))
 |[]=>some []
 |(i,x)::r=>match aG σ x,cz σ r with
  |some v,some l=>some ((i,v)::l)
  |_,_=>none
theorem Pv {σ:St} (I:Inv P ρ0 h0 w0 ρ σ.m w) {a:Act} (F:dE ρ σ.t a.tmps):∀{l:List (Nat×Operand)} {ps:List (Nat×Value)},cz σ l=some ps→
  ps.length=(l.map fun(p:Nat×Operand)=>(p.1,a.eval p.2)).length∧
   ∀(k:Nat) (p:Nat×Value),ps[k]? =some p→∃p',(l.map fun(p:Nat×Operand)=>(p.1,a.eval p.2))[k]? =some p'∧p'.1=p.1∧VT ρ p.2 p'.2:=by
 intro l
 induction l with
 |nil=>intro ps h;simp only[cz,Option.some.injEq]at h;subst h;simp
 |cons q r ih=>
  intro ps h
  obtain⟨i,x⟩:=q
  simp only[cz]at h
  split at h
  ·rename_i v l hv hl
   obtain rfl:=Option.some.inj h
   obtain⟨q1,q2⟩:=ih hl
   refine⟨by simpa using q1,fun k p hk=>?_⟩
   cases k with
   |zero=>simp at hk;subst hk;exact⟨_,rfl,rfl,cC I F hv⟩
   |succ k=>exact q2 k p (by simpa using hk)
  ·simp at h
def eL (P:Program):List Field→Option (List (Nat×Nat))
 |[]=>some []
 |f::r=>match cf P f.type,eL P r with
  |some n,some l=>some ((f.offset,n)::l)
  |_,_=>none
theorem run_places (w:World):∀(fs:List Field) (l:List (Nat×Nat)),eL P fs=some l→(fs.mapM (fun f=>do pure (f.offset,←sizeOf f.type):Field→Sem (Nat×Nat))).run P w= .ok l w:=by
 intro fs
 induction fs with
 |nil=>intro l h;simp only[eL,Option.some.injEq]at h;subst h;rfl
 |cons f r ih=>
  intro l h
  simp only[eL]at h
  split at h
  ·rename_i n l' hn hl
   obtain rfl:=Option.some.inj h
   have ih':=ih l' hl
   rw[List.mapM_cons]
   simp only[Sem.run_bind,run_sizeOf hn,Result.andThen_ok,Sem.run_pure,ih']
  ·simp at h
def cI (P:Program) (σ:St) (t:TypeId) (parts:Array (Nat×Operand)):Option (Value×St):=
 match P.underlying t with
 |some (.struct fs)=>match eL P fs.toList,cT P t,cz σ parts.toList with
  |some pl,some z,some ps=>match dZ (fun i=>pl[i]?) z ps with
   |some out=>some (.agg ⟨out⟩,σ)
   |none=>none
  |_,_,_=>none
 |_=>none
theorem akP {σ σ':St} {o:Oper} {t:TypeId} {parts:Array (Nat×Operand)} (ho:o.op= .build t parts) {v:Value} (h:cI P σ t parts=some (v,σ')):dI P o σ v σ':=by
 intro ρ0 h0 w0 ρ a w I F
 unfold cI at h
 split at h
 rotate_left
 ·simp at h
 rename_i fs hu
 split at h
 rotate_left
 ·simp at h
 rename_i pl z ps hpl hz hps
 split at h
 rotate_left
 ·simp at h
 rename_i out hout
 simp only[Option.some.injEq,Prod.mk.injEq]at h
 obtain⟨rfl,rfl⟩:=h
 obtain⟨zv,hzc,hzf,hzr⟩:=qy hz
 obtain⟨q1,q2⟩:=Pv I F hps
 obtain⟨D,e1,e2,e3⟩:=Kd _ _ _ _ _ ⟨z⟩ hout q1 q2 (by simp) (q7 hzf)
 obtain⟨dl⟩:=D
 refine⟨.value (.agg ⟨dl⟩),_,w,ρ,?_,rfl,I,F,.val _ _ (.agg _ _ (by simpa using e2) ((lT (by simpa using e2)).2 (by simpa using e3))),fun _ _=>⟨rfl,fun _=>rfl⟩⟩
 have hpl':=run_places w fs.toList pl hpl
 have hmap:(parts.map fun(i,x)=>(i,a.eval x)).toList=parts.toList.map fun(p:Nat×Operand)=>(p.1,a.eval p.2):=by simp
 have hget:(fun(i:Nat)=>(pl.toArray)[i]?)=fun(i:Nat)=>pl[i]? :=by funext i;simp
 simp only[execOp,ho,Instr.build,Sem.run_bind,hzr,Result.andThen_ok,run_underlying hu,hzc,Array.mapM_eq_mapM_toList,Sem.run_map,hpl',hmap,hget,e1]
 rfl
def aI (P:Program) (σ:St) (t:TypeId) (len:Nat) (parts:Array (Nat×Operand)):Option (Value×St):=
 match ep P t with
 |some (e,s)=>match cT P e,cz σ parts.toList with
  |some z,some ps=>
   if z.length=s∧0<s∧len*s≤16777216 then
    match dZ (fun i=>some (i*s,s)) ((List.range (len*s)).map fun i=>z.getD (i % s) undef) ps with
    |some out=>some (.slice (some ⟨σ.m.h.n,0,none⟩) len len,⟨σ.t,⟨σ.m.x,σ.m.h.new (.row true e out)⟩⟩)
    |none=>none
   else none
  |_,_=>none
 |none=>none
theorem akO {σ σ':St} {o:Oper} {t len:Nat} {parts:Array (Nat×Operand)} (ho:o.op= .buildSlice t len parts) {v:Value} (h:aI P σ t len parts=some (v,σ')):dI P o σ v σ':=by
 intro ρ0 h0 w0 ρ a w I F
 unfold aI at h
 split at h
 rotate_left
 ·simp at h
 rename_i e s he
 split at h
 rotate_left
 ·simp at h
 rename_i z ps hz hps
 split at h
 rotate_left
 ·simp at h
 rename_i hc
 obtain⟨hzl,hpos,hle⟩:=hc
 split at h
 rotate_left
 ·simp at h
 rename_i out hout
 simp only[Option.some.injEq,Prod.mk.injEq]at h
 obtain⟨rfl,rfl⟩:=h
 obtain⟨zv,hzc,hzf,hzr⟩:=qy hz
 obtain⟨ht,hs⟩:=nY he
 obtain⟨q1,q2⟩:=Pv I F hps
 have hs0:0<s:=hpos
 have hzz:∀i,z.getD (i % s) undef=(⟨z⟩:Array Value)[i % z.length]! :=fun i=>by
  have:i % s<z.length:=by rw[hzl];exact Nat.mod_lt _ hs0
  rw[hzl,List.getD_eq_getElem?_getD]
  simp[List.getElem?_eq_getElem this]
 have hflat:∀v∈(List.range (len*s)).map (fun i=>z.getD (i % s) undef),cA v=true:=fun v hv=>by
  rw[List.mem_map]at hv
  obtain⟨i,_,rfl⟩:=hv
  have:i % s<z.length:=by rw[hzl];exact Nat.mod_lt _ hs0
  rw[List.getD_eq_getElem?_getD,List.getElem?_eq_getElem this]
  exact hzf _ (List.getElem_mem this)
 obtain⟨D,e1,e2,e3⟩:=Kd (ρ:=ρ) _ _ _ _ _ ⟨(List.range (len*s)).map fun i=>z.getD (i % s) undef⟩ hout q1 q2 (by simp) (q7 hflat)
 have hfit:Fits P ρ (.row true e out) (.cells D e (0,0)) ⟨w.heap.size,0,D.size,P.cellsOf e⟩:=.row e e out D _ (by rw[e2];exact Nat.le_refl _) e3
 have hdim:∀(l:List (Nat×Value)) (C:Array Value) (D:Array Value),Instr.fill (fun i=>some (i*s,s)) C l=some D→D.size=C.size:=by
  intro l
  induction l with
  |nil=>intro C D h;simp[Instr.fill]at h;rw[h]
  |cons p r ih=>
   intro C D h
   simp only[Instr.fill]at h
   split at h
   ·cases h
   ·rw[ih _ _ h,←Array.foldl_toList]
    have:∀(l:List (Value×Nat)) (C:Array Value) (k:Nat),(l.foldl (fun cs (p:Value×Nat)=>cs.setIfInBounds (k+p.2) p.1) C).size=C.size:=by
     intro l
     induction l with
     |nil=>intro C k;rfl
     |cons q t ih2=>intro C k;rw[List.foldl_cons,ih2];simp
    exact this _ _ _
 have hD:D.size=len*s:=by rw[hdim _ _ _ e1];simp
 refine⟨.value (.slice (some ⟨w.heap.size,0,none⟩) len len),_,w.alloc (.cells D e),_,?_,rfl,I.mY hfit rfl,F.mono (fun b pl q=>?_) (fun s=>aw.b9 _ _ (by simp)),?_,fun s' _=>⟨aw.b9 _ _ (by simp),fun _=>rfl⟩⟩
 ·have hbig:¬(16777216<len*s):=by omega
  have hmap:(parts.map fun(i,x)=>(i,a.eval x)).toList=parts.toList.map fun(p:Nat×Operand)=>(p.1,a.eval p.2):=by simp
  have hrange:(Array.range (len*s)).map (fun i=>(⟨z⟩:Array Value)[i % (⟨z⟩:Array Value).size]!)=⟨(List.range (len*s)).map fun i=>z.getD (i % s) undef⟩:=by
   apply Array.ext'
   simp only[Array.toList_map,Array.toList_range]
   apply List.map_congr_left
   intro i _
   rw[hzz i];rfl
  simp only[execOp,ho,Instr.buildSlice,Sem.run_bind,run_underlying ht,Result.andThen_ok,run_sizeOf hs]
  rw[if_neg (by simpa using hbig)]
  by_cases hne:len*s=0
  ·have hrange0:(Array.range (len*s)).map (fun i=>(#[]:Array Value)[i % (#[]:Array Value).size]!)=⟨(List.range (len*s)).map fun i=>z.getD (i % s) undef⟩:=by rw[hne];simp
   simp only[hne,if_true,Sem.run_bind,Sem.run_pure,Result.andThen_ok]
   rw[hne]at hrange0 e1
   simp only[hrange0,hmap,e1]
   rfl
  ·simp only[hne,if_false,Sem.run_bind,Sem.run_pure,hzr,Result.andThen_ok,hzc,hrange,hmap,e1]
   rfl
 ·rw[aw.b9];exact q
  intro z;simp only[Prod.mk.injEq,true_and]at z;subst z;exact Nat.lt_irrefl _ (I.rel.cU _ _ q)
 ·have hcell:P.cellsOf e=s:=by
   unfold cf at hs
   cases hi:P.info? e with
   |none=>simp[hi]at hs
   |some i=>simp[hi]at hs;simp[Program.cellsOf,hi,hs]
  have:=VR.sl (ρ:=ρ.eg (false,σ.m.h.n) ⟨w.heap.size,0,D.size,P.cellsOf e⟩) σ.m.h.n 0 len len ⟨w.heap.size,0,D.size,P.cellsOf e⟩ len (aw.fV _ _ _) (Nat.le_refl _) (by
   simp only[hcell,hD];omega)
  exact VT.val _ _ this
theorem Rh {n:Int} (h0:0≤n) (h1:n<9223372036854775808):IntKind.i64.wrap n=n:=by
 rw[IntKind.wrap_i64];omega
def eN (z:List Value) (s n:Nat):List Value:=(List.range (n*s)).map fun i=>z.getD (i % s) undef
theorem uo (v:Value) (n:Nat):eN [v] 1 n=List.replicate n v:=by
 simp only[eN,Nat.mul_one]
 apply List.ext_getElem
 ·simp
 ·intro i h1 h2
  simp[Nat.mod_one]
def lI (P:Program) (σ:St) (t:TypeId) (x y:Operand):Option (Value×St):=
 match aG σ x,aG σ y with
 |some (.int _ l),some (.int _ c)=>
  match ep P t with
  |some (e,s)=>match cT P e,fX P e with
   |some z,some by_=>
    if z.length=s∧0<s∧0<by_∧0≤l∧l≤c∧c.toNat*by_≤cH then
     some (.slice (some ⟨σ.m.h.n,0,none⟩) l.toNat l.toNat,⟨σ.t,⟨σ.m.x,σ.m.h.new (.row true e (eN z s c.toNat))⟩⟩)
    else none
   |_,_=>none
  |none=>none
 |_,_=>none
theorem alc {σ σ':St} {o:Oper} {t:TypeId} {x y:Operand} (ho:o.op= .makeSlice t x y) {v:Value} (h:lI P σ t x y=some (v,σ')):dI P o σ v σ':=by
 intro ρ0 h0 w0 ρ a w I F
 unfold lI at h
 split at h
 rotate_left
 ·simp at h
 rename_i k1 l k2 c hx hy
 split at h
 rotate_left
 ·simp at h
 rename_i e s he
 split at h
 rotate_left
 ·simp at h
 rename_i z by_ hz hby
 split at h
 rotate_left
 ·simp at h
 rename_i hcond
 obtain⟨hzl,hs0,hb0,hl0,hlc,hmax⟩:=hcond
 unfold cH at hmax
 simp only[Option.some.injEq,Prod.mk.injEq]at h
 obtain⟨rfl,rfl⟩:=h
 obtain⟨ht,hs⟩:=nY he
 obtain⟨zv,hzc,hzf,hzr⟩:=qy hz
 have hxv:=(cC I F hx).bM rfl
 have hyv:=(cC I F hy).bM rfl
 have hcb:c.toNat≤c.toNat*by_:=Nat.le_mul_of_pos_right _ hb0
 have hwc:IntKind.i64.wrap c=c:=Rh (by omega) (by omega)
 have hwl:IntKind.i64.wrap l=l:=Rh (by omega) (by omega)
 have hinfo:∃i,P.info? e=some i∧i.bytes=by_:=by
  unfold fX at hby
  cases hi:P.info? e with
  |none=>simp[hi]at hby
  |some i=>exact⟨i,rfl,by simpa[hi]using hby⟩
 obtain⟨i,hi,rfl⟩:=hinfo
 have hflat:∀v∈eN z s c.toNat,cA v=true:=fun v hv=>by
  rw[eN,List.mem_map]at hv
  obtain⟨i,_,rfl⟩:=hv
  have:i % s<z.length:=by rw[hzl];exact Nat.mod_lt _ hs0
  rw[List.getD_eq_getElem?_getD,List.getElem?_eq_getElem this]
  exact hzf _ (List.getElem_mem this)
 have hfit:Fits P ρ (.row true e (eN z s c.toNat)) (.cells ⟨eN z s c.toNat⟩ e (0,0)) ⟨w.heap.size,0,(⟨eN z s c.toNat⟩:Array Value).size,P.cellsOf e⟩:=
  .row e e _ ⟨eN z s c.toNat⟩ _ (by simp) (q7 hflat)
 refine⟨.value (.slice (some ⟨w.heap.size,0,none⟩) l.toNat c.toNat),_,w.alloc (.cells ⟨eN z s c.toNat⟩ e),_,?_,rfl,I.mY hfit rfl,F.mono (fun b pl q=>?_) (fun s=>aw.b9 _ _ (by simp)),?_,fun s' _=>⟨aw.b9 _ _ (by simp),fun _=>rfl⟩⟩
 ·have hbi:(i.bytes:Int)*c=((c.toNat*i.bytes:Nat):Int):=by
   rw[Int.natCast_mul,Int.toNat_of_nonneg (by omega),Int.mul_comm]
  have hbl:(i.bytes:Int)*c≤140737488355328:=by rw[hbi];exact Int.ofNat_le.2 hmax
  have hrow:∀C:Array Value,(C=if c.toNat*s=0 then #[]else⟨z⟩)→(Array.range (c.toNat*s)).map (fun i=>C[i % C.size]!)=⟨eN z s c.toNat⟩:=by
   intro C hC
   apply Array.ext'
   simp only[Array.toList_map,Array.toList_range,eN]
   apply List.map_congr_left
   intro j hj
   rw[List.mem_range]at hj
   rw[hC,if_neg (by omega)]
   have:j % s<z.length:=by rw[hzl];exact Nat.mod_lt _ hs0
   simp[hzl,List.getD_eq_getElem?_getD,List.getElem?_eq_getElem this]
  have bq:¬(c<0):=by omega
  have bC:¬((i.bytes:Int)*c>281474976710656):=by omega
  have hb3:¬(l<0):=by omega
  have hb4:¬(l>c):=by omega
  by_cases hn:c.toNat*s=0
  ·have:=hrow #[] (by rw[if_pos hn])
   rw[hn]at this
   simp only[List.size_toArray,List.length_nil]at this
   simp[execOp,ho,Instr.makeSlice,run_underlying ht,hxv,hyv,asInt,asIntOf,typeInfo,hi,hwc,hwl,bq,bC,hb3,hb4,run_sizeOf hs,hn,newRow]
   first
    |(congr 2;simpa using this)
    |(congr 2;done)
  ·have:=hrow ⟨z⟩ (by rw[if_neg hn])
   simp[execOp,ho,Instr.makeSlice,run_underlying ht,hxv,hyv,asInt,asIntOf,typeInfo,hi,hwc,hwl,bq,bC,hb3,hb4,run_sizeOf hs,hn,newRow,hzr,hzc]
   first
    |(congr 2;simpa using this)
    |(congr 2;done)
 ·rw[aw.b9];exact q
  intro z;simp only[Prod.mk.injEq,true_and]at z;subst z;exact Nat.lt_irrefl _ (I.rel.cU _ _ q)
 ·have hcell:P.cellsOf e=s:=by
   unfold cf at hs
   simp only[hi,Option.map_some,Option.some.injEq]at hs
   simp[Program.cellsOf,hi,hs]
  have:=VR.sl (ρ:=ρ.eg (false,σ.m.h.n) ⟨w.heap.size,0,(⟨eN z s c.toNat⟩:Array Value).size,P.cellsOf e⟩) σ.m.h.n 0 l.toNat l.toNat
   ⟨w.heap.size,0,(⟨eN z s c.toNat⟩:Array Value).size,P.cellsOf e⟩ c.toNat (aw.fV _ _ _) (by omega) (by
   simp only[hcell,List.size_toArray,eN,List.length_map,List.length_range];omega)
  exact VT.val _ _ this
def kg (P:Program) (σ:St) (t:TypeId) (x:Operand):Option (Value×St):=
 match P.underlying t,aG σ x with
 |some .string,some (.string s)=>some (.pointer (some ⟨σ.m.h.n,0,none⟩),⟨σ.t,⟨σ.m.x,σ.m.h.new (.obj (.stringIter s 0))⟩⟩)
 |_,_=>none
theorem ali {σ σ':St} {o:Oper} {t:TypeId} {x:Operand} (ho:o.op= .range t x) {v:Value} (h:kg P σ t x=some (v,σ')):dI P o σ v σ':=by
 intro ρ0 h0 w0 ρ a w I F
 unfold kg at h
 split at h
 rotate_left
 ·simp at h
 rename_i s ht hx
 simp only[Option.some.injEq,Prod.mk.injEq]at h
 obtain⟨rfl,rfl⟩:=h
 have hxv:=(cC I F hx).bM rfl
 have hfit:Fits P ρ (.obj (.stringIter s 0)) (.stringIter s 0) ⟨w.heap.size,0,0,0⟩:=.obj _ _ _ rfl
 refine⟨.value (.pointer (some ⟨w.heap.size,0,none⟩)),_,w.alloc (.stringIter s 0),_,?_,rfl,I.mY hfit rfl,F.mono (fun b pl q=>?_) (fun s=>aw.b9 _ _ (by simp)),?_,fun s' _=>⟨aw.b9 _ _ (by simp),fun _=>rfl⟩⟩
 ·simp[execOp,ho,Instr.range,run_underlying ht,hxv]
 ·rw[aw.b9];exact q
  intro z;simp only[Prod.mk.injEq,true_and]at z;subst z;exact Nat.lt_irrefl _ (I.rel.cU _ _ q)
 ·have:=VT.ql (ρ:=ρ.eg (false,σ.m.h.n) ⟨w.heap.size,0,0,0⟩) (ad:=⟨σ.m.h.n,0,none⟩) (pl:=⟨w.heap.size,0,0,0⟩) (by simp[key,aw.eg])
  simpa using this
def nh (σ:St) (x:Operand):Option (Value×St):=
 match aG σ x with
 |some (.pointer (some ⟨b,0,none⟩))=>match σ.m.h.f b with
  | .obj (.stringIter s pos)=>
   if pos<s.size then
    some (.tuple #[.bool true,.int .i64 pos,.int .i32 (Utf8.decode s pos).1],⟨σ.t,⟨σ.m.x,σ.m.h.set b (.obj (.stringIter s (pos+(Utf8.decode s pos).2)))⟩⟩)
   else some (.tuple #[.bool false],σ)
  |_=>none
 |_=>none
theorem ald {σ σ':St} {o:Oper} {x:Operand} (ho:o.op= .next x true) {v:Value} (h:nh σ x=some (v,σ')):dI P o σ v σ':=by
 intro ρ0 h0 w0 ρ a w I F
 unfold nh at h
 split at h
 rotate_left
 ·simp at h
 rename_i b hx
 split at h
 rotate_left
 ·simp at h
 rename_i s pos hb
 obtain⟨pl,hk,hv⟩:=(cC I F hx).ptr
 have hk:ρ (false,b)=some pl:=hk
 obtain⟨hobj,ho0⟩:=I.rel.obj b pl _ hk hb
 have hobj:w.heap[pl.B]? =some (.stringIter s pos):=hobj
 have hv0:a.eval x= .pointer (some ⟨pl.B,0,none⟩):=by simp[hv,ho0]
 have hget:(getObj pl.B).run P w= .ok (.stringIter s pos) w:=by simp[getObj,Sem.run,hobj]
 split at h
 ·rename_i hlt
  simp only[Option.some.injEq,Prod.mk.injEq]at h
  obtain⟨rfl,rfl⟩:=h
  refine⟨.value (.tuple #[.bool true,.int .i64 pos,.int .i32 (Utf8.decode s pos).1]),_,_,ρ,?_,rfl,I.setObj hk hb (.stringIter s (pos+(Utf8.decode s pos).2)) rfl,F,.eC rfl,fun _ _=>⟨rfl,fun _=>rfl⟩⟩
  simp[execOp,ho,Instr.next,hv0,hget,hlt,goInt,setObj,Sem.run,hobj]
 ·rename_i hge
  simp only[Option.some.injEq,Prod.mk.injEq]at h
  obtain⟨rfl,rfl⟩:=h
  refine⟨.value (.tuple #[.bool false]),_,w,ρ,?_,rfl,I,F,.eC rfl,fun _ _=>⟨rfl,fun _=>rfl⟩⟩
  simp[execOp,ho,Instr.next,hv0,hget,hge]
end
section
variable {P:Program} {ρ0 ρ ρ':aw} {h0:aa} {w0 w:World} {m:Mem}
theorem VT.mp {v':Value} {b:Nat} (h:VT ρ (.map (some b)) v'):∃pl,ρ (false,b)=some pl∧v'= .map (some pl.B):=by
 cases h with
 |val _ _ h=>cases h with|mp _ pl hk=>exact⟨pl,hk,rfl⟩
def mi (P:Program) (σ:St) (t:TypeId) (r:Option Operand):Option (Value×St):=match r with
 |none=>some (.map (some σ.m.h.n),⟨σ.t,⟨σ.m.x,σ.m.h.new (.obj (.map #[] 0))⟩⟩)
 |some x=>match P.underlying t,aG σ x with
  |some (.map _ _),some (.int _ _)=>some (.map (some σ.m.h.n),⟨σ.t,⟨σ.m.x,σ.m.h.new (.obj (.map #[] 0))⟩⟩)
  |_,_=>none
theorem alb {σ σ':St} {o:Oper} {t:TypeId} {r:Option Operand} (ho:o.op= .makeMap t r) {v:Value} (h:mi P σ t r=some (v,σ')):dI P o σ v σ':=by
 intro ρ0 h0 w0 ρ a w I F
 have hfit:Fits P ρ (.obj (.map #[] 0)) (.map #[] 0) ⟨w.heap.size,0,0,0⟩:=.obj _ _ _ rfl
 have key:(execOp a.eval o).run P w= .ok (.value (.map (some w.heap.size))) (w.alloc (.map #[] 0))→v= .map (some σ.m.h.n)→σ'=⟨σ.t,⟨σ.m.x,σ.m.h.new (.obj (.map #[] 0))⟩⟩→
   ∃nx v' w' ρ',(execOp a.eval o).run P w= .ok nx w'∧oV nx=some v'∧Inv P ρ0 h0 w0 ρ' σ'.m w'∧dE ρ' σ'.t a.tmps∧VT ρ' v v'∧∀s,(∀d,o.dst=some d→d≠s)→ρ' (true,s)=ρ (true,s)∧(ρ (true,s)=none→σ'.m.x s=σ.m.x s):=by
  rintro hrun rfl rfl
  refine⟨.value (.map (some w.heap.size)),_,w.alloc (.map #[] 0),_,hrun,rfl,I.mY hfit rfl,F.mono (fun b pl q=>?_) (fun s=>aw.b9 _ _ (by simp)),?_,fun s' _=>⟨aw.b9 _ _ (by simp),fun _=>rfl⟩⟩
  ·rw[aw.b9];exact q
   intro z;simp only[Prod.mk.injEq,true_and]at z;subst z;exact Nat.lt_irrefl _ (I.rel.cU _ _ q)
  ·exact .val _ _ (VR.mp (ρ:=ρ.eg (false,σ.m.h.n) ⟨w.heap.size,0,0,0⟩) σ.m.h.n ⟨w.heap.size,0,0,0⟩ (aw.fV _ _ _))
 cases r with
 |none=>
  simp only[mi,Option.some.injEq,Prod.mk.injEq]at h
  refine key ?_ h.1.symm h.2.symm
  simp[execOp,ho,Instr.makeMap,newObj,Sem.run]
 |some x=>
  unfold mi at h
  simp only at h
  split at h
  rotate_left
  ·simp at h
  rename_i kt et kk n ht hx
  simp only[Option.some.injEq,Prod.mk.injEq]at h
  refine key ?_ h.1.symm h.2.symm
  have hxv:=(cC I F hx).bM rfl
  simp[execOp,ho,Instr.makeMap,newObj,Sem.run,run_underlying ht,hxv,asInt,asIntOf]
def l7 (key elem:TypeId) (k:Value) (es:Array MapEntry) (ok:Bool):Sem Value:=do
 Instr.checkKey es.isEmpty 10000 key k
 let (v,b) ←match←Instr.findKey key k es.toList with
  |some (_,v)=>pure (v,true)
  |none=>pure (←zeroValue elem,false)
 pure (if ok then .tuple #[v,.bool b]else v)
def lH (P:Program) (σ:St) (t:TypeId) (x i:Operand) (ok:Bool):Option (Value×St):=
 match P.underlying t,aG σ x,aG σ i with
 |some (.map key elem),some (.map (some b)),some k=>match σ.m.h.f b with
  | .obj (.map es _)=>if bM k then match(l7 key elem k es ok).aJ P with
   |some v=>if bM v then some (v,σ)else none
   |none=>none
   else none
  |_=>none
 |_,_,_=>none
theorem ak8 {σ σ':St} {o:Oper} {t:TypeId} {x i:Operand} {ok:Bool} (ho:o.op= .lookup t x i ok) {v:Value} (h:lH P σ t x i ok=some (v,σ')):dI P o σ v σ':=by
 intro ρ0 h0 w0 ρ a w I F
 unfold lH at h
 split at h
 rotate_left
 ·simp at h
 rename_i key elem b k ht hx hi
 split at h
 rotate_left
 ·simp at h
 rename_i es clock hb
 split at h
 rotate_left
 ·simp at h
 rename_i hfk
 split at h
 rotate_left
 ·simp at h
 rename_i u hu
 split at h
 rotate_left
 ·simp at h
 rename_i hfv
 simp only[Option.some.injEq,Prod.mk.injEq]at h
 obtain⟨rfl,rfl⟩:=h
 obtain⟨pl,hk,hv⟩:=(cC I F hx).mp
 obtain⟨hobj,ho0⟩:=I.rel.obj b pl _ hk hb
 have hobj:w.heap[pl.B]? =some (.map es clock):=hobj
 have hkv:=(cC I F hi).bM hfk
 have hget:(getObj pl.B).run P w= .ok (.map es clock) w:=by simp[getObj,Sem.run,hobj]
 have hrun:=tJ P _ _ hu w
 refine⟨.value u,u,w,ρ,?_,rfl,I,F,.eC hfv,fun _ _=>⟨rfl,fun _=>rfl⟩⟩
 have e:Instr.lookup t (.map (some pl.B)) k ok=(do
   let .map key elem ←underlying t|stuck "Lookup: map type expected"
   let .map es _ ←getObj pl.B|stuck "Lookup: map expected"
   l7 key elem k es ok):=rfl
 simp only[execOp,ho,hv,hkv]
 rw[e]
 simp only[Sem.run_bind,run_underlying ht,Result.andThen_ok,hget,hrun]
 rfl
def pn (key:TypeId) (k:Value) (es:Array MapEntry):Sem (Option (Nat×Value)):=do
 Instr.checkKey false 10000 key k
 Instr.findKey key k es.toList
theorem Re {key:TypeId} {k:Value} {es:Array MapEntry} {r:Option (Nat×Value)} (h:(pn key k es).aJ P=some r) (w:World):
  (Instr.checkKey false 10000 key k).run P w= .ok () w∧(Instr.findKey key k es.toList).run P w= .ok r w:=by
 unfold pn at h
 rw[bP]at h
 cases hc:(Instr.checkKey false 10000 key k).aJ P with
 |none=>rw[hc]at h;cases h
 |some u=>
  rw[hc]at h
  exact⟨tJ P _ _ hc w,tJ P _ _ h w⟩
def kM (P:Program) (σ:St) (t:TypeId) (x i y:Operand):Option (Value×St):=
 match P.underlying t,aG σ x,aG σ i,aG σ y with
 |some (.map key _),some (.map (some b)),some k,some u=>match σ.m.h.f b with
  | .obj (.map es clock)=>if bM k&&bM u then match(pn key k es).aJ P with
   |some none=>some (undef,⟨σ.t,⟨σ.m.x,σ.m.h.set b (.obj (.map (es.push {key:=k,val:=u,born:=clock}) (clock+1)))⟩⟩)
   |some (some (j,_))=>if Instr.sameBits 10000 (((es[j]?).map (·.key)).getD k) k then
     some (undef,⟨σ.t,⟨σ.m.x,σ.m.h.set b (.obj (.map (es.modify j fun e=>{e with key:=k,val:=u}) clock))⟩⟩)
    else none
   |none=>none
   else none
  |_=>none
 |_,_,_,_=>none
theorem Pk {σ σ':St} {o:Oper} {t:TypeId} {x i y:Operand} (ho:o.op= .mapUpdate t x i y∨o.op= .insert t x i y) {v:Value} (h:kM P σ t x i y=some (v,σ')):dI P o σ v σ':=by
 intro ρ0 h0 w0 ρ a w I F
 unfold kM at h
 split at h
 rotate_left
 ·simp at h
 rename_i key elem b k u ht hx hi hy
 split at h
 rotate_left
 ·simp at h
 rename_i es clock hb
 split at h
 rotate_left
 ·simp at h
 rename_i hfk
 rw[Bool.and_eq_true]at hfk
 obtain⟨pl,hk,hv⟩:=(cC I F hx).mp
 obtain⟨hobj,ho0⟩:=I.rel.obj b pl _ hk hb
 have hobj:w.heap[pl.B]? =some (.map es clock):=hobj
 have hkv:=(cC I F hi).bM hfk.1
 have hyv:=(cC I F hy).bM hfk.2
 have hget:(getObj pl.B).run P w= .ok (.map es clock) w:=by simp[getObj,Sem.run,hobj]
 have hset:∀o',(setObj pl.B o').run P w= .ok () {w with heap:=w.heap.setIfInBounds pl.B o'}:=fun o'=>by simp[setObj,Sem.run,hobj]
 have hex:execOp a.eval o=(do Instr.mapUpdate t (a.eval x) (a.eval i) (a.eval y);pure Next.skip):=by
  rcases ho with ho|ho<;>simp only[execOp,ho]
 have e:Instr.mapUpdate t (.map (some pl.B)) k u=(do
   let .map keyType _ ←underlying t|stuck "MapUpdate: map type expected"
   let .map es clock ←getObj pl.B|stuck "MapUpdate: map expected"
   Instr.checkKey false 10000 keyType k
   match←Instr.findKey keyType k es.toList with
   |some (i,_)=>do
    let key ←Instr.keyThatStays (((es[i]?).map (·.key)).getD k) k
    setObj pl.B (.map (es.modify i fun e=>{e with key,val:=u}) clock)
   |none=>setObj pl.B (.map (es.push {key:=k,val:=u,born:=clock}) (clock+1))):=rfl
 split at h
 ·rename_i hw
  simp only[Option.some.injEq,Prod.mk.injEq]at h
  obtain⟨rfl,rfl⟩:=h
  refine⟨.skip,undef,_,ρ,?_,rfl,I.setObj hk hb _ rfl,F,.eC rfl,fun _ _=>⟨rfl,fun _=>rfl⟩⟩
  rw[hex,hv,hkv,hyv,e]
  obtain⟨h1,h2⟩:=Re hw w
  simp only[Sem.run_bind,run_underlying ht,Result.andThen_ok,hget,h1,h2,hset]
  rfl
 ·rename_i j v' hw
  split at h
  rotate_left
  ·simp at h
  rename_i hs
  simp only[Option.some.injEq,Prod.mk.injEq]at h
  obtain⟨rfl,rfl⟩:=h
  refine⟨.skip,undef,_,ρ,?_,rfl,I.setObj hk hb _ rfl,F,.eC rfl,fun _ _=>⟨rfl,fun _=>rfl⟩⟩
  rw[hex,hv,hkv,hyv,e]
  obtain⟨h1,h2⟩:=Re hw w
  simp only[Sem.run_bind,run_underlying ht,Result.andThen_ok,hget,h1,h2,Instr.keyThatStays,hs,if_true,Sem.run_pure,hset]
 ·simp at h
end
section
variable {P:Program} {ρ0 ρ ρ':aw} {h0:aa} {w0 w:World} {m:Mem}
def jr (b:UInt8):Value:=.int .u8 (b.toNat:Int)
def pK:List Value→Option (List UInt8)
 |[]=>some []
 | .int .u8 n::r=>if 0≤n∧n<256 then(pK r).map (fun l=>UInt8.ofNat n.toNat::l)else none
 |_=>none
theorem Yt:∀{l:List Value} {bs:List UInt8},pK l=some bs→l=bs.map jr:=by
 intro l
 induction l with
 |nil=>intro bs h;simp[pK]at h;subst h;rfl
 |cons v r ih=>
  intro bs h
  unfold pK at h
  split at h
  ·rename_i h0;simp at h0
  ·rename_i n r' he
   simp only[List.cons.injEq]at he
   obtain⟨rfl,rfl⟩:=he
   split at h
   ·rename_i hn
    cases hr:pK r with
    |none=>rw[hr]at h;cases h
    |some l=>
     rw[hr]at h
     simp only[Option.map_some,Option.some.injEq]at h
     subst h
     rw[List.map_cons,←ih hr]
     congr 1
     unfold jr
     congr 1
     rw[UInt8.toNat_ofNat']
     omega
   ·cases h
  ·cases h
theorem adJ (bs:List UInt8):∀s:ByteArray,(bs.map fun b=>(b.toNat:Int)).foldl (fun r n=>r.push (UInt8.ofNat n.toNat)) s=⟨⟨s.data.toList++bs⟩⟩:=by
 induction bs with
 |nil=>intro s;simp
 |cons b r ih=>
  intro s
  rw[List.map_cons,List.foldl_cons,ih]
  congr 2
  simp[ByteArray.push]
def jB (P:Program) (σ:St) (s t:TypeId) (x:Operand):Option (Value×St):=match P.underlying s with
 |some (.slice e)=>match P.underlying t,P.underlying e,aG σ x with
  |some .string,some (.int .u8),some (.slice (some ad) len _)=>if 0<len then match σ.m.cells ad len with
    |some l=>match pK l with
     |some bs=>some (.string ⟨⟨bs⟩⟩,σ)
     |none=>none
    |none=>none
   else none
  |_,_,_=>none
 |_=>none
theorem akS {σ σ':St} {o:Oper} {s t:TypeId} {x:Operand} (ho:o.op= .convert s t x) {v:Value} (h:jB P σ s t x=some (v,σ')):dI P o σ v σ':=by
 intro ρ0 h0 w0 ρ a w I F
 unfold jB at h
 split at h
 rotate_left
 ·cases h
 rename_i e hs
 split at h
 rotate_left
 ·cases h
 rename_i ad len c ht he hx
 split at h
 rotate_left
 ·cases h
 rename_i hpos
 split at h
 rotate_left
 ·cases h
 rename_i l hl
 split at h
 rotate_left
 ·cases h
 rename_i bs hbs
 simp only[Option.some.injEq,Prod.mk.injEq]at h
 obtain⟨rfl,rfl⟩:=h
 have hv:=(cC I F hx).bL rfl
 rcases hv.kj with⟨a',hl0,_⟩|⟨b,off,pl,cap,rfl,hk,hc,hn,hv'⟩
 ·omega
 ·obtain⟨q1,l',q2,q3,q4⟩:=nU I (ad:=⟨b,off,none⟩) hk hl
  have hll:l'=bs.map jr:=by
   rw[Yt hbs]at q3 q1
   apply List.ext_getElem?
   intro i
   cases hi:(bs.map jr)[i]? with
   |none=>
    have:bs.length≤i:=by
     rcases Nat.lt_or_ge i bs.length with z|z
     ·rw[List.getElem?_eq_getElem (by simpa using z)]at hi;cases hi
     ·exact z
    rw[List.getElem?_eq_none (by rw[q2,←q1,List.length_map];exact this)]
   |some u=>
    obtain⟨v',e1,e2⟩:=q3 i u hi
    rw[e1]
    rw[List.getElem?_map]at hi
    cases hb:bs[i]? with
    |none=>rw[hb]at hi;cases hi
    |some b=>
     rw[hb]at hi
     simp only[Option.map_some,Option.some.injEq]at hi
     subst hi
     cases e2
     rfl
  have hrun:=run_loadCells_list (P:=P) w ⟨pl.B,pl.o+off,none⟩ l' q4
  rw[q2,hll]at hrun
  have bC:=run_bytesToString (P:=P) w ⟨pl.B,pl.o+off,none⟩ len cap (bs.map fun b=>(b.toNat:Int)) (by rw[hrun,List.map_map];rfl)
  rw[adJ]at bC
  refine⟨.value (.string ⟨⟨bs⟩⟩),_,w,ρ,?_,rfl,I,F,.eC rfl,fun _ _=>⟨rfl,fun _=>rfl⟩⟩
  simp only[execOp,ho,hv',Sem.run_bind,run_convert_bytes_string w s t e _ _ _ hs he ht,bC]
  rfl
def lG (P:Program) (σ:St) (dT:TypeId) (d s:Operand):Option (Value×St):=match P.underlying dT,aG σ d,aG σ s with
 |some (.slice e),some (.slice (some ad) len _),some (.string str)=>match cf P e,σ.m.row? (key ad)with
  |some 1,some (true,e',cs)=>if 0<len∧str.size≤len∧ad.off+str.size≤cs.length then
    some (.int .i64 (str.size:Int),⟨σ.t,σ.m.setRow (key ad) e' (iC cs ad.off (str.data.toList.map jr))⟩)else none
  |_,_=>none
 |_,_,_=>none
theorem akY {σ σ':St} {o:Oper} {dT u:TypeId} {d s:Operand} (ho:o.op= .call {callee:=.builtin .copy,args:=#[d,s],argTypes:=#[dT,u]}) {v:Value} (h:lG P σ dT d s=some (v,σ')):dI P o σ v σ':=by
 intro ρ0 h0 w0 ρ a w I F
 unfold lG at h
 split at h
 rotate_left
 ·cases h
 rename_i e ad len c str hu hd hs
 split at h
 rotate_left
 ·cases h
 rename_i e' cs hsz hr
 split at h
 rotate_left
 ·cases h
 rename_i hcond
 obtain⟨hpos,hle,hin⟩:=hcond
 simp only[Option.some.injEq,Prod.mk.injEq]at h
 obtain⟨rfl,rfl⟩:=h
 have hv:=(cC I F hd).bL rfl
 have hsv:=(cC I F hs).bM rfl
 rcases hv.kj with⟨a',hl0,_⟩|⟨b,off,pl,cap,rfl,hk,hc,hn,hv'⟩
 ·omega
 ·obtain⟨C,e2,fz,c1,c2,c3,c4,c5,c6⟩:=I.rel.row _ _ _ _ _ hk hr
  obtain rfl:=c2 rfl
  have hbl:(str.data.toList.map jr).length=str.size:=by rw[List.length_map];rfl
  have hst:=run_storeCells_at P pl.B (pl.o+off) e2 (str.data.toList.map jr) 0 C w c1 (by rw[hbl];simp only at hin;omega) (fun z hz=>by
   obtain⟨b,_,rfl⟩:=List.mem_map.1 hz
   rfl)
  simp only[Nat.add_zero]at hst
  have hmin:Nat.min str.size len=str.size:=Nat.min_eq_left hle
  refine⟨.value (.int .i64 (str.size:Int)),_,w.setRow pl.B (C.toList.take (pl.o+off)++(str.data.toList.map jr)++C.toList.drop (pl.o+off+(str.data.toList.map jr).length)).toArray,ρ,?_,rfl,I.putRow hk hr (ds:=iC cs off (str.data.toList.map jr)) (by simp only at hin;unfold iC;simp only[List.length_append,List.length_take,List.length_drop,hbl];omega)
   (tV w pl.B _) (setRow_size w pl.B _) (fun B hB=>nw w pl.B _ hB) (tT w pl.B _ c1) ?_ ?_,F,.eC rfl,fun s' _=>⟨rfl,fun hn=>rfl⟩⟩
  ·have hx:(str.extract 0 str.size).data.toList.map (fun b:UInt8=>Value.int IntKind.u8 (b.toNat:Int))=str.data.toList.map jr:=by
    have:str.extract 0 str.size=str:=by simp
    rw[this];rfl
   have hl1:(str.extract 0 str.size)=str:=by simp
   simp only[execOp,ho,resolve,invoke,builtin,hv',hsv]
   simp[Builtin.copy_,run_underlying hu,Builtin.lenOf,run_sizeOf hsz,Builtin.firstCells,hmin,hv',hsv]
   have htk:List.take str.size (List.map (fun b:UInt8=>Value.int IntKind.u8 (b.toNat:Int)) str.data.toList)=str.data.toList.map jr:=by
    rw[List.take_of_length_le (by rw[List.length_map];exact Nat.le_refl _)]
    rfl
   rw[htk,hst,hbl]
   simp[Result.andThen,goInt]
  ·simp only[List.size_toArray,List.length_append,List.length_take,List.length_drop,Array.length_toList,hbl]
   simp only at hin
   omega
  ·exact tW rfl (by rw[hbl];exact hin) c3 c4 c6 (fun i v hi=>by
    rw[List.getElem?_map]at hi
    cases hb:str.data.toList[i]? with
    |none=>rw[hb]at hi;cases hi
    |some b=>
     rw[hb]at hi
     simp only[Option.map_some,Option.some.injEq]at hi
     subst hi
     exact⟨jr b,by rw[List.getElem?_map,hb];rfl,.int _ _⟩)
theorem akR {σ:St} {s t:TypeId} {x:Operand} (h:(match P.underlying s with
  |some (.slice _)=>false
  |_=>true)=true):jB P σ s t x=none:=by
 unfold jB
 split
 ·rename_i e he
  rw[he]at h
  cases h
 ·rfl
theorem Pj {σ σ':St} {s t:TypeId} {x:Operand} {v:Value} (h:jB P σ s t x=some (v,σ')):σ'=σ:=by
 unfold jB at h
 split at h<;>first|(cases h;done)|(split at h<;>first|(cases h;done)|(split at h<;>first|(cases h;done)|(split at h<;>first|(cases h;done)|(split at h<;>first|(cases h;done)|(simp at h;exact h.2.symm)))))
theorem akQ {T T':Fr} {m:Mem} {s t:TypeId} {x:Operand} (h:aG ⟨T',m⟩ x=aG ⟨T,m⟩ x):jB P ⟨T',m⟩ s t x=(jB P ⟨T,m⟩ s t x).map fun p=>(p.1,⟨T',p.2.m⟩):=by
 simp only[jB,h]
 split<;>first|rfl|(split<;>first|rfl|(split<;>first|rfl|(split<;>first|rfl|(split<;>rfl))))
theorem akW {T T':Fr} {m:Mem} {t:TypeId} {x y:Operand} (h:aG ⟨T',m⟩ x=aG ⟨T,m⟩ x) (h2:aG ⟨T',m⟩ y=aG ⟨T,m⟩ y):lG P ⟨T',m⟩ t x y=(lG P ⟨T,m⟩ t x y).map fun p=>(p.1,⟨T',p.2.m⟩):=by
 simp only[lG,h,h2]
 split<;>first|rfl|(split<;>first|rfl|(split<;>rfl))
theorem akX {σ σ':St} {t:TypeId} {x y:Operand} {v:Value} (h:lG P σ t x y=some (v,σ')):σ'.m.h.g=σ.m.h.g:=by
 have hset:∀(m:Mem) (k:Key) (e:TypeId) (cs:List Value),(m.setRow k e cs).h.g=m.h.g:=fun m k e cs=>by obtain⟨t,b⟩:=k;cases t<;>rfl
 unfold lG at h
 split at h<;>first|(cases h;done)|(split at h<;>first|(cases h;done)|(split at h<;>first|(cases h;done)|(simp at h;rw[←h.2];exact hset _ _ _ _)))
end
section
variable {P:Program} {ρ0 ρ ρ':aw} {h0:aa} {w0 w:World} {m:Mem}
def oR (P:Program) (σ:St) (t:TypeId) (x:Operand):Option (Value×St):=match P.underlying t,aG σ x with
 |some (.map _ _),some (.map (some b))=>match σ.m.h.f b with
  | .obj (.map _ clock)=>some (.pointer (some ⟨σ.m.h.n,0,none⟩),⟨σ.t,⟨σ.m.x,σ.m.h.new (.obj (.mapIter (some b) clock #[] clock))⟩⟩)
  |_=>none
 |_,_=>none
theorem alh {σ σ':St} {o:Oper} {t:TypeId} {x:Operand} (ho:o.op= .range t x) {v:Value} (h:oR P σ t x=some (v,σ')):dI P o σ v σ':=by
 intro ρ0 h0 w0 ρ a w I F
 unfold oR at h
 split at h
 rotate_left
 ·cases h
 rename_i kt et b ht hx
 split at h
 rotate_left
 ·cases h
 rename_i es clock hb
 simp only[Option.some.injEq,Prod.mk.injEq]at h
 obtain⟨rfl,rfl⟩:=h
 obtain⟨plm,hk,hv⟩:=(cC I F hx).mp
 obtain⟨hobj,ho0⟩:=I.rel.obj b plm _ hk hb
 have hobj:w.heap[plm.B]? =some (.map es clock):=hobj
 have hget:(getObj plm.B).run P w= .ok (.map es clock) w:=by simp[getObj,Sem.run,hobj]
 have hfit:Fits P ρ (.obj (.mapIter (some b) clock #[] clock)) (.mapIter (some plm.B) clock #[] clock) ⟨w.heap.size,0,0,0⟩:=.iter b plm clock #[] clock _ _ hk
 refine⟨.value (.pointer (some ⟨w.heap.size,0,none⟩)),_,w.alloc (.mapIter (some plm.B) clock #[] clock),_,?_,rfl,I.mY hfit rfl,F.mono (fun b pl q=>?_) (fun s=>aw.b9 _ _ (by simp)),?_,fun s' _=>⟨aw.b9 _ _ (by simp),fun _=>rfl⟩⟩
 ·simp[execOp,ho,Instr.range,run_underlying ht,hv,hget]
 ·rw[aw.b9];exact q
  intro z;simp only[Prod.mk.injEq,true_and]at z;subst z;exact Nat.lt_irrefl _ (I.rel.cU _ _ q)
 ·have:=VT.ql (ρ:=ρ.eg (false,σ.m.h.n) ⟨w.heap.size,0,0,0⟩) (ad:=⟨σ.m.h.n,0,none⟩) (pl:=⟨w.heap.size,0,0,0⟩) (by simp[key,aw.eg])
  simpa using this
def oH (σ:St) (x:Operand):Option (Value×St):=match aG σ x with
 |some (.pointer (some ⟨b,0,none⟩))=>match σ.m.h.f b with
  | .obj (.mapIter (some mb) _ seen stepped)=>match seen.back?,σ.m.h.f mb with
   |some stamp,.obj (.map es clock)=>match es.find? (fun e=>e.born==stamp)with
    |some e=>if clock=stepped∧cA e.key=true∧cA e.val=true then some (.tuple #[e.key,e.val],σ)else none
    |none=>none
   |_,_=>none
  |_=>none
 |_=>none
theorem akZ {σ σ':St} {o:Oper} {x:Operand} (ho:o.op= .entry x) {v:Value} (h:oH σ x=some (v,σ')):dI P o σ v σ':=by
 intro ρ0 h0 w0 ρ a w I F
 unfold oH at h
 split at h
 rotate_left
 ·cases h
 rename_i b hx
 split at h
 rotate_left
 ·cases h
 rename_i mb since seen stepped hb
 split at h
 rotate_left
 ·cases h
 rename_i stamp es clock hback hm
 split at h
 rotate_left
 ·cases h
 rename_i e he
 split at h
 rotate_left
 ·cases h
 rename_i hc
 obtain⟨hc1,hc2,hc3⟩:=hc
 simp only[Option.some.injEq,Prod.mk.injEq]at h
 obtain⟨rfl,rfl⟩:=h
 obtain⟨pl,hk,hv⟩:=(cC I F hx).ptr
 have hk:ρ (false,b)=some pl:=hk
 obtain⟨⟨plm,hkm,hobj⟩,ho0⟩:=I.rel.obj b pl _ hk hb
 obtain⟨hobm,hom0⟩:=I.rel.obj mb plm _ hkm hm
 have hobm:w.heap[plm.B]? =some (.map es clock):=hobm
 have hv0:a.eval x= .pointer (some ⟨pl.B,0,none⟩):=by simp[hv,ho0]
 have hget:(getObj pl.B).run P w= .ok (.mapIter (some plm.B) since seen stepped) w:=by simp[getObj,Sem.run,hobj]
 have hgetm:(getObj plm.B).run P w= .ok (.map es clock) w:=by simp[getObj,Sem.run,hobm]
 refine⟨.value (.tuple #[e.key,e.val]),_,w,ρ,?_,rfl,I,F,.eC ?_,fun _ _=>⟨rfl,fun _=>rfl⟩⟩
 ·simp[execOp,ho,Instr.entry,hv0,hget,hgetm,hback,he,hc1]
 ·simp[bM,hc2,hc3]
structure AZ where
 x:Operand
 b:Nat
 mb:Nat
 since:Nat
 seen:Array Nat
 last:Nat
 es:Array MapEntry
 clock:Nat
def tx (σ:St) (o:Oper):Option AZ:=match o.op with
 | .next x false=>match aG σ x with
  |some (.pointer (some ⟨b,0,none⟩))=>match σ.m.h.f b with
   | .obj (.mapIter (some mb) since seen last)=>match σ.m.h.f mb with
    | .obj (.map es clock)=>some ⟨x,b,mb,since,seen,last,es,clock⟩
    |_=>none
   |_=>none
  |_=>none
 |_=>none
theorem OV {σ:St} {o:Oper} {p:AZ} (h:tx σ o=some p):o.op= .next p.x false∧aG σ p.x=some (.pointer (some ⟨p.b,0,none⟩))∧σ.m.h.f p.b= .obj (.mapIter (some p.mb) p.since p.seen p.last)∧σ.m.h.f p.mb= .obj (.map p.es p.clock):=by
 unfold tx at h
 split at h<;>first|(cases h;done)|skip
 split at h<;>first|(cases h;done)|skip
 split at h<;>first|(cases h;done)|skip
 split at h<;>first|(cases h;done)|skip
 obtain rfl:=Option.some.inj h
 exact⟨‹_›,‹_›,‹_›,‹_›⟩
def lA (σ:St) (o:Oper) (K:Value→St→Prop):Prop:=match tx σ o with
 |some p=>p.since≤p.last∧(∀e∈p.es.toList,e.born<p.since∧cA e.key=true∧cA e.val=true)∧((∀e∈p.es.toList,p.seen.contains e.born=true)→K (.tuple #[.bool false]) σ)∧
   ∀e∈p.es.toList,p.seen.contains e.born=false→K (.tuple #[.bool true,e.key,e.val]) ⟨σ.t,⟨σ.m.x,σ.m.h.set p.b (.obj (.mapIter (some p.mb) p.since (p.seen.push e.born) p.clock))⟩⟩
 |none=>False
theorem agt {σ:St} {o:Oper} {K K':Value→St→Prop} (hk:∀v σ,K v σ→K' v σ) (h:lA σ o K):lA σ o K':=by
 unfold lA at h ⊢
 split
 ·rename_i p q
  rw[q]at h
  exact⟨h.1,h.2.1,fun q=>hk _ _ (h.2.2.1 q),fun e he q=>hk _ _ (h.2.2.2 e he q)⟩
 ·rename_i q
  rw[q]at h
  exact h.elim
theorem ags {σ:St} {o:Oper} {K:Value→St→Prop} (h:lA σ o K) (I:Inv P ρ0 h0 w0 ρ σ.m w) {a:Act} (F:dE ρ σ.t a.tmps):
  ∃nx v v' m' w',(execOp a.eval o).run P w= .ok nx w'∧oV nx=some v'∧Inv P ρ0 h0 w0 ρ m' w'∧VT ρ v v'∧K v ⟨σ.t,m'⟩:=by
 unfold lA at h
 split at h<;>first|exact h.elim|skip
 rename_i p hp
 obtain⟨x,b,mb,since,seen,last,es,clock⟩:=p
 obtain⟨ho,hx,hb,hm⟩:=OV hp
 simp only at ho hx hb hm h
 obtain⟨hsl,aL,hend,hgo⟩:=h
 obtain⟨pl,hk,hv⟩:=(cC I F hx).ptr
 have hk:ρ (false,b)=some pl:=hk
 obtain⟨⟨plm,hkm,hobj⟩,ho0⟩:=I.rel.obj b pl _ hk hb
 obtain⟨hobm,hom0⟩:=I.rel.obj mb plm _ hkm hm
 have hobm:w.heap[plm.B]? =some (.map es clock):=hobm
 have hv0:a.eval x= .pointer (some ⟨pl.B,0,none⟩):=by simp[hv,ho0]
 have hget:(getObj pl.B).run P w= .ok (.mapIter (some plm.B) since seen last) w:=by simp[getObj,Sem.run,hobj]
 have hgetm:(getObj plm.B).run P w= .ok (.map es clock) w:=by simp[getObj,Sem.run,hobm]
 obtain⟨left,hleft⟩:∃left,left=es.filter fun e=> !seen.contains e.born:=⟨_,rfl⟩
 have hold:left.filter (fun e=>decide (e.born<since))=left:=by
  rw[Array.filter_eq_self]
  intro e he
  rw[hleft]at he
  exact decide_eq_true (aL e (by simpa using(Array.mem_filter.1 he).1)).1
 have hnew:left.filter (fun e=>decide (e.born≥since))= #[]:=by
  rw[Array.filter_eq_empty_iff]
  intro e he
  rw[hleft]at he
  have:=(aL e (by simpa using(Array.mem_filter.1 he).1)).1
  simp;omega
 have hcond:(!seen.isEmpty&& !es.isEmpty&&es.all (fun e=>decide (e.born≥last)))=false:=by
  rcases Nat.eq_zero_or_pos es.size with q|q
  ·have:es= #[]:=Array.eq_empty_of_size_eq_zero q
   subst this;simp
  ·have hq:es.all (fun e=>decide (e.born≥last))=false:=by
    rw[Bool.eq_false_iff]
    intro hh
    rw[Array.all_eq_true]at hh
    have h1:=hh 0 q
    have h2:=(aL es[0] (by simp)).1
    simp at h1;omega
   rw[hq,Bool.and_false]
 have hset:∀(o':Obj) (w1:World),w1.heap=w.heap→(setObj pl.B o').run P w1= .ok () {w1 with heap:=w1.heap.setIfInBounds pl.B o'}:=fun o' w1 hw1=>by simp[setObj,Sem.run,hw1,hobj]
 have hex:execOp a.eval o=(do let r ←Instr.next (.pointer (some ⟨pl.B,0,none⟩)) false o.type;pure (Next.value r)):=by simp only[execOp,ho,hv0]
 have hnext:Instr.next (.pointer (some ⟨pl.B,0,none⟩)) false o.type=(do
   match←getObj pl.B,false with
   | .stringIter s pos,true=>
    if pos<s.size then
     let (c,width):=Utf8.decode s pos
     setObj pl.B (.stringIter s (pos+width))
     pure (.tuple #[.bool true,goInt pos,.int .i32 c])
    else pure (.tuple #[.bool false])
   | .mapIter none _ _ _,false=>pure (.tuple #[.bool false])
   | .mapIter (some m) since seen last,false=>
    let .map es clock ←getObj m|stuck "Next: map expected"
    if !seen.isEmpty&& !es.isEmpty&&es.all (·.born≥last)then
     unsupported (.noEntry "instr/Next: every entry that the ranged map held at the last iteration is gone, and it holds new ones")
    let left:=es.filter fun e=> !seen.contains e.born
    let old:=left.filter (·.born<since)
    let new:=left.filter (·.born≥since)
    let candidates:=(if old.isEmpty then #[none]else #[])++(old++new).map some
    match candidates[←choose (.mapNext candidates.size)]? with
    |some (some e)=>
     setObj pl.B (.mapIter (some m) since (seen.push e.born) clock)
     pure (.tuple #[.bool true,e.key,e.val])
    |some none=>pure (.tuple #[.bool false])
    |none=>stuck "Next: no such candidate"
   |_,_=>stuck "Next: iterator of the other kind"):=rfl
 have hstep:(Instr.next (.pointer (some ⟨pl.B,0,none⟩)) false o.type).run P w=(do
    let candidates:=(if left.isEmpty then #[none]else #[])++left.map some
    match candidates[←choose (.mapNext candidates.size)]? with
    |some (some e)=>
     setObj pl.B (.mapIter (some plm.B) since (seen.push e.born) clock)
     pure (Value.tuple #[.bool true,e.key,e.val])
    |some none=>pure (.tuple #[.bool false])
    |none=>stuck "Next: no such candidate":Sem Value).run P w:=by
  rw[hnext]
  simp only[Sem.run_bind,hget,Result.andThen_ok,hgetm,hcond,Bool.false_eq_true,if_false,←hleft,hold,hnew,Array.append_empty]
 have hch:∀(n:Nat) (k:Nat→Sem Value),0<n→∃j w1,j<n∧(choose (.mapNext n) >>= k).run P w=(k j).run P w1∧(w1=w∨w1=w.drew):=by
  intro n k hn
  by_cases hf:n≤1
  ·refine⟨0,w,hn,?_,.inl rfl⟩
   show(Sem.choose (.mapNext n) fun x=>(Sem.pure x).bind k).run P w=_
   rw[Sem.run,if_pos (by simp[Question.forced,hf])]
   rfl
  ·refine⟨(Question.mapNext n).cut (w.tape w.drawn (.mapNext n)),w.drew,Nat.mod_lt _ hn,?_,.inr rfl⟩
   show(Sem.choose (.mapNext n) fun x=>(Sem.pure x).bind k).run P w=_
   rw[Sem.run,if_neg (by simp[Question.forced];omega)]
   rfl
 rw[hex]
 simp only[Sem.run_bind]
 by_cases hl:left.isEmpty=true
 ·have hle:left= #[]:=by simpa using hl
  refine⟨.value (.tuple #[.bool false]),.tuple #[.bool false],.tuple #[.bool false],σ.m,w,?_,rfl,I,.eC rfl,hend fun e he=>?_⟩
  ·have hc:((if(#[]:Array MapEntry).isEmpty then #[none]else #[])++(#[]:Array MapEntry).map some)=(#[none]:Array (Option MapEntry)):=by simp
   rw[hstep,hle]
   simp only[hc]
   rfl
  ·have:=Array.filter_eq_empty_iff.1 (hleft.symm.trans hle) e (by simpa using he)
   simpa using this
 ·have hn:0<(left.map some).size:=by
   rw[Array.size_map]
   rcases Nat.eq_zero_or_pos left.size with q|q
   ·exact absurd (by simp[Array.eq_empty_of_size_eq_zero q]) hl
   ·exact q
  obtain⟨j,w1,hj,hr,hw1⟩:=hch (left.map some).size (fun j=>match(left.map some)[j]? with
    |some (some e)=>do
     setObj pl.B (.mapIter (some plm.B) since (seen.push e.born) clock)
     pure (Value.tuple #[.bool true,e.key,e.val])
    |some none=>pure (.tuple #[.bool false])
    |none=>stuck "Next: no such candidate") hn
  rw[Array.size_map]at hj
  have hmem:left[j]∈es.toList:=by
   have:left[j]∈left:=Array.getElem_mem hj
   have h2:left[j]∈es.filter fun e=> !seen.contains e.born:=by rw[←hleft];exact this
   simpa using(Array.mem_filter.1 h2).1
  have hns:seen.contains left[j].born=false:=by
   have:left[j]∈left:=Array.getElem_mem hj
   have h2:left[j]∈es.filter fun e=> !seen.contains e.born:=by rw[←hleft];exact this
   simpa using(Array.mem_filter.1 h2).2
  have hI1:Inv P ρ0 h0 w0 ρ σ.m w1:=by
   rcases hw1 with e|e
   ·rw[e];exact I
   ·rw[e];exact I.drew
  have hh1:w1.heap=w.heap:=by rcases hw1 with e|e<;>rw[e]<;>rfl
  obtain⟨_,hf1,hf2⟩:=aL _ hmem
  have hflat:VT ρ (.tuple #[.bool true,left[j].key,left[j].val]) (.tuple #[.bool true,left[j].key,left[j].val]):=.eC (by
   show[Value.bool true,left[j].key,left[j].val].all cA=true
   rw[List.all_cons,List.all_cons,List.all_cons,hf1,hf2];rfl)
  refine⟨.value (.tuple #[.bool true,left[j].key,left[j].val]),.tuple #[.bool true,left[j].key,left[j].val],.tuple #[.bool true,left[j].key,left[j].val],_,_,?_,rfl,hI1.PX hk hb (.mapIter (some mb) since (seen.push left[j].born) clock) (.mapIter (some plm.B) since (seen.push left[j].born) clock) ⟨plm,hkm,rfl⟩,hflat,hgo _ hmem hns⟩
  rw[hstep]
  rw[if_neg hl]
  simp only[Array.empty_append]
  rw[hr]
  have hge:(left.map some)[j]? =some (some left[j]):=by rw[Array.getElem?_map,Array.getElem?_eq_getElem hj];rfl
  rw[hge]
  simp only[Sem.run_bind,hset _ w1 hh1,Result.andThen_ok,Sem.run_pure]
end
section
variable {P:Program} {ρ0 ρ ρ':aw} {h0:aa} {w0 w:World} {m:Mem}
def lF (P:Program) (σ:St) (t:TypeId) (x:Operand):Option (Value×St):=match ep P t with
 |some (e,sz)=>match cT P e,aG σ x with
  |some _,some (.slice none 0 0)=>some (.tuple #[],σ)
  |some zl,some (.slice (some ad) len _)=>if len=0 then some (.tuple #[],σ)else match σ.m.row? (key ad)with
   |some (true,e',cs)=>if zl.length=sz∧ad.off+len*sz≤cs.length then some (.tuple #[],⟨σ.t,σ.m.setRow (key ad) e' (iC cs ad.off (eN zl sz len))⟩)else none
   |_=>none
  |_,_=>none
 |none=>none
theorem aqX (z:List Value) (s n:Nat):(eN z s n).length=n*s:=by simp[eN]
theorem aqW {z:List Value} {s n:Nat} (hl:z.length=s) (h:∀v∈z,cA v=true):∀v∈eN z s n,cA v=true:=by
 intro v hv
 rw[eN,List.mem_map]at hv
 obtain⟨i,hi,rfl⟩:=hv
 rw[List.mem_range]at hi
 have hs:0<s:=by
  rcases Nat.eq_zero_or_pos s with q|q
  ·subst q;simp at hi
  ·exact q
 have:i % s<z.length:=by rw[hl];exact Nat.mod_lt _ hs
 rw[List.getD_eq_getElem?_getD,List.getElem?_eq_getElem this]
 exact h _ (List.getElem_mem this)
theorem aqV {z:List Value} {s:Nat} (hl:z.length=s) (n:Nat):(Builtin.zeroCells ⟨z⟩ n).toList=eN z s n:=by
 simp only[Builtin.zeroCells,Array.toList_map,Array.toList_range,eN,List.size_toArray,hl]
 apply List.map_congr_left
 intro j hj
 rw[List.mem_range]at hj
 have hs:0<s:=by
  rcases Nat.eq_zero_or_pos s with q|q
  ·subst q;simp at hj
  ·exact q
 have:j % s<z.length:=by rw[hl];exact Nat.mod_lt _ hs
 simp[List.getD_eq_getElem?_getD,List.getElem?_eq_getElem this]
theorem akV {σ σ':St} {o:Oper} {t:TypeId} {x:Operand} (ho:o.op= .call {callee:=.builtin .clear,args:=#[x],argTypes:=#[t]}) {v:Value} (h:lF P σ t x=some (v,σ')):dI P o σ v σ':=by
 intro ρ0 h0 w0 ρ a w I F
 unfold lF at h
 split at h
 rotate_left
 ·cases h
 rename_i e sz he
 obtain⟨ht,hs⟩:=nY he
 split at h
 ·rename_i zl hz hx
  simp only[Option.some.injEq,Prod.mk.injEq]at h
  obtain⟨rfl,rfl⟩:=h
  have hv:=(cC I F hx).bM rfl
  refine⟨.value (.tuple #[]),_,w,ρ,?_,rfl,I,F,.eC rfl,fun _ _=>⟨rfl,fun _=>rfl⟩⟩
  simp[execOp,ho,resolve,invoke,builtin,hv,Builtin.clear_,run_underlying ht]
 ·rename_i zl ad len c hz hx
  have hv:=(cC I F hx).bL rfl
  split at h
  ·rename_i hl0
   subst hl0
   simp only[Option.some.injEq,Prod.mk.injEq]at h
   obtain⟨rfl,rfl⟩:=h
   refine⟨.value (.tuple #[]),_,w,ρ,?_,rfl,I,F,.eC rfl,fun _ _=>⟨rfl,fun _=>rfl⟩⟩
   generalize hx':a.eval x=x' at hv
   cases hv with
   |lO=>simp[execOp,ho,resolve,invoke,builtin,hx',Builtin.clear_,run_underlying ht]
   |sl=>simp[execOp,ho,resolve,invoke,builtin,hx',Builtin.clear_,run_underlying ht]
  ·rename_i hl0
   split at h
   rotate_left
   ·cases h
   rename_i e' cs hr
   split at h
   rotate_left
   ·cases h
   rename_i hcond
   obtain⟨hzl,hin⟩:=hcond
   simp only[Option.some.injEq,Prod.mk.injEq]at h
   obtain⟨rfl,rfl⟩:=h
   rcases hv.kj with⟨a',hl1,_⟩|⟨b,off,pl,cap,rfl,hk,hc,hn,hv'⟩
   ·exact absurd hl1 hl0
   ·obtain⟨zv,hzc,hzf,hzr⟩:=qy hz
    obtain⟨C,e2,fz,c1,c2,c3,c4,c5,c6⟩:=I.rel.row _ _ _ _ _ hk hr
    obtain rfl:=c2 rfl
    simp only at hin
    have hlen:=aqX zl sz len
    have hfl:=aqW (n:=len) hzl hzf
    have hst:=run_storeCells_at P pl.B (pl.o+off) e2 (eN zl sz len) 0 C w c1 (by rw[hlen];omega) (fun z hz=>by
     have:=hfl z hz
     unfold cA at this
     split at this<;>first|rfl|(cases this))
    simp only[Nat.add_zero]at hst
    refine⟨.value (.tuple #[]),_,w.setRow pl.B (C.toList.take (pl.o+off)++(eN zl sz len)++C.toList.drop (pl.o+off+(eN zl sz len).length)).toArray,ρ,?_,rfl,I.putRow hk hr (ds:=iC cs off (eN zl sz len)) (by unfold iC;simp only[List.length_append,List.length_take,List.length_drop,hlen];omega)
     (tV w pl.B _) (setRow_size w pl.B _) (fun B hB=>nw w pl.B _ hB) (tT w pl.B _ c1) ?_ ?_,F,.eC rfl,fun s' _=>⟨rfl,fun hn=>rfl⟩⟩
    ·obtain⟨n,rfl⟩:∃n,len=n+1:=⟨len-1,by omega⟩
     have hzz:(Builtin.zeroCells zv.cells (n+1)).toList=eN zl sz (n+1):=by rw[hzc];exact aqV hzl _
     simp[execOp,ho,resolve,invoke,builtin,hv',Builtin.clear_,run_underlying ht,hzr,hzz,hst,Result.andThen]
    ·simp only[List.size_toArray,List.length_append,List.length_take,List.length_drop,Array.length_toList,hlen]
     omega
    ·exact tW rfl (by rw[hlen];exact hin) c3 c4 c6 (fun i v hi=>⟨v,hi,.oC (hfl v (List.mem_of_getElem? hi))⟩)
 ·cases h
theorem akT {T T':Fr} {m:Mem} {t:TypeId} {x:Operand} (h:aG ⟨T',m⟩ x=aG ⟨T,m⟩ x):lF P ⟨T',m⟩ t x=(lF P ⟨T,m⟩ t x).map fun p=>(p.1,⟨T',p.2.m⟩):=by
 simp only[lF,h]
 split<;>first|rfl|(split<;>first|rfl|(split<;>first|rfl|(split<;>first|rfl|(split<;>rfl))))
theorem akU {σ σ':St} {t:TypeId} {x:Operand} {v:Value} (h:lF P σ t x=some (v,σ')):σ'.m.h.g=σ.m.h.g:=by
 have hset:∀(m:Mem) (k:Key) (e:TypeId) (cs:List Value),(m.setRow k e cs).h.g=m.h.g:=fun m k e cs=>by obtain⟨t,b⟩:=k;cases t<;>rfl
 unfold lF at h
 split at h<;>first|(cases h;done)|(split at h<;>first|(cases h;done)|(simp at h;rw[h.2];done)|(split at h<;>first|(cases h;done)|(simp at h;rw[h.2];done)|(split at h<;>first|(cases h;done)|(split at h<;>first|(cases h;done)|(simp at h;rw[←h.2];exact hset _ _ _ _)))))
end
section
variable {P:Program} {ρ0 ρ ρ':aw} {h0:aa} {w0 w:World} {m:Mem}
def cu (P:Program) (σ:St) (o:Oper):Option (Value×St):=match oY P σ o with
 |some v=>some (v,σ)
 |none=>none
def qD (P:Program) (σ:St) (o:Oper) (c:Call):Option (Value×St):=
 match c.callee with
 | .builtin .len=>match c.args.toList,c.argTypes.toList with
  |[x],[t]=>oM P σ t x
  |_,_=>none
 | .builtin .append=>match c.args.toList,c.argTypes.toList with
  |[s,x],[t,u]=>cB P σ t u s x
  |_,_=>none
 | .builtin .copy=>match c.args.toList,c.argTypes.toList with
  |[d,s],[t,_]=>lG P σ t d s
  |_,_=>none
 | .builtin .clear=>match c.args.toList,c.argTypes.toList with
  |[x],[t]=>lF P σ t x
  |_,_=>none
 |_=>cu P σ o
def bU (P:Program) (loc:List Nat) (σ:St) (o:Oper):Option (Value×St):=
 match o.op with
 | .move x=>kN σ x
 | .assign x=>kN σ x
 | .pick c x y=>oQ σ c x y
 | .load t x=>oN P σ t x
 | .store t x y=>oS P σ t x y
 | .alloc t=>oF P loc σ o.dst t
 | .box t x=>oG loc σ o.dst t x
 | .build t parts=>cI P σ t parts
 | .buildSlice t n parts=>aI P σ t n parts
 | .fieldAddr s x f=>oK P σ s x f
 | .field s x f=>oJ P σ s x f
 | .indexAddr t x i=>oL P σ t x i
 | .extract x k=>oI σ x k
 | .makeInterface t x=>mh P σ t x
 | .makeFunc fn a b=>oO σ fn a b
 | .slice t x lo hi none=>match P.underlying t with
  |some .string=>cu P σ o
  |_=>ni P σ t x lo hi
 | .nilCheck x=>oP σ x
 | .makeSlice t a b=>lI P σ t a b
 | .range t x=>(match kg P σ t x with
  |some r=>some r
  |none=>oR P σ t x)
 | .entry x=>oH σ x
 | .next x true=>nh σ x
 | .next _ false=>none
 | .makeMap t r=>mi P σ t r
 | .lookup t x i ok=>lH P σ t x i ok
 | .mapUpdate t x i y=>kM P σ t x i y
 | .insert t x i y=>kM P σ t x i y
 | .call c=>qD P σ o c
 | .binOp op t x y _=>(match jC P σ op t x y with
  |some r=>some r
  |none=>cu P σ o)
 | .convert s t x=>(match jB P σ s t x with
  |some r=>some r
  |none=>cu P σ o)
 |_=>cu P σ o
theorem rK {σ σ':St} {o:Oper} {v:Value} (h:cu P σ o=some (v,σ')):dI P o σ v σ':=by
 unfold cu at h
 split at h
 ·rename_i u hu
  simp only[Option.some.injEq,Prod.mk.injEq]at h
  obtain⟨rfl,rfl⟩:=h
  exact amn hu
 ·simp at h
theorem Qc {loc:List Nat} {σ σ':St} {o:Oper} {v:Value} (h:bU P loc σ o=some (v,σ')):dI P o σ v σ':=by
 unfold bU at h
 split at h
 ·exact Pm (.inl ‹_›) h
 ·exact Pm (.inr ‹_›) h
 ·exact alg ‹_› h
 ·exact ak7 ‹_› h
 ·exact alk ‹_› h
 ·exact akL ‹_› h
 ·exact akN ‹_› h
 ·exact akP ‹_› h
 ·exact akO ‹_› h
 ·exact ak3 ‹_› h
 ·exact ak4 ‹_› h
 ·exact ak5 ‹_› h
 ·exact ak0 ‹_› h
 ·exact ala ‹_› h
 ·exact ak9 ‹_› h
 ·rename_i ho
  split at h
  ·exact rK h
  ·exact alj ho h
 ·exact alf ‹_› h
 ·exact alc ‹_› h
 ·rename_i ho
  split at h
  ·rename_i r hr;exact ali ho (hr.trans h)
  ·exact alh ho h
 ·exact akZ ‹_› h
 ·exact ald ‹_› h
 ·cases h
 ·exact alb ‹_› h
 ·exact ak8 ‹_› h
 ·exact Pk (.inl ‹_›) h
 ·exact Pk (.inr ‹_›) h
 ·rename_i c ho
  obtain⟨callee,⟨args⟩,⟨tys⟩⟩:=c
  unfold qD at h
  simp only at h
  split at h
  ·split at h
   ·exact ak6 ho h
   ·simp at h
  ·split at h
   ·exact akM ho h
   ·simp at h
  ·split at h
   ·exact akY ho h
   ·simp at h
  ·split at h
   ·exact akV ho h
   ·simp at h
  ·exact rK h
 ·rename_i ho
  split at h
  ·rename_i r hr;exact ale ho (hr.trans h)
  ·exact rK h
 ·rename_i ho
  split at h
  ·rename_i r hr;exact akS ho (hr.trans h)
  ·exact rK h
 ·exact rK h
def uE (P:Program) (f:FuncId):Prop:=∃fn,P.funcs[f]? =some fn∧fn.body.isNone=false∧(fn.name== "runtime.NumGoroutine")=false
def jP (ρ:aw) (l l':List Value):Prop:=l.length=l'.length∧∀(i:Nat) (v:Value),l[i]? =some v→∃v',l'[i]? =some v'∧VR ρ v v'
def ai (P:Program) (f:FuncId) (args:List Value) (h:aa) (post:Value→aa→Prop):Prop:=
 uE P f∧∀(ρ:aw) (w:World) (args':List Value),(∀s,ρ (true,s)=none)→fW P ρ ⟨bI.nil,h⟩ w→jP ρ args args'→
  Calls P f ⟨args'⟩ w fun e w'=>∃v v' h' ρ',e= .returned v'∧post v h'∧(∀s,ρ' (true,s)=none)∧fW P ρ' ⟨bI.nil,h'⟩ w'∧Tr ρ h w ρ' h' w'∧VR ρ' v v'
theorem ai.mono {f:FuncId} {args:List Value} {h:aa} {post post':Value→aa→Prop} (H:ai P f args h post) (hp:∀v h',post v h'→post' v h'):ai P f args h post':=
 ⟨H.1,fun ρ w args' hb R V=>(H.2 ρ w args' hb R V).mono fun _ _ ⟨v,v',h',ρ',q1,q2,q3⟩=>⟨v,v',h',ρ',q1,hp _ _ q2,q3⟩⟩
def mC (h:aa) (v:Value) (h':aa):Prop:=h'.g=h.g∧bL v=true∧h.n≤h'.n
theorem VR.KM {v v':Value} (h:VR ρ v v'):bL v=true:=by cases h<;>simp[bL,fO]
def cN (σ:St) (o:Oper):Option (FuncId×List Value):=
 match o.op with
 | .call ⟨.value f,args,_⟩=>match aG σ f,args.toList.mapM (aG σ)with
  |some (.func (.func fid) first cap),some l=>if l.all bL then some (fid,first.toList++l++cap.toList)else none
  |_,_=>none
 |_=>none
theorem jP.append {l l' k k':List Value} (h:jP ρ l l') (g:jP ρ k k'):jP ρ (l++k) (l'++k'):=by
 refine⟨by simp[h.1,g.1],fun i v hi=>?_⟩
 have:=AH (ρ:=ρ) [] h.1 g.1 h.2 g.2 i v hi
 simpa using this
theorem BU {σ:St} {o:Oper} {f:FuncId} {args:List Value} (h:cN σ o=some (f,args)) (hE:uE P f) (I:Inv P ρ0 h0 w0 ρ σ.m w) {a:Act} (F:dE ρ σ.t a.tmps):
  ∃args':List Value,jP ρ args args'∧(execOp a.eval o).run P w= .ok (.enter f ⟨args'⟩) w:=by
 unfold cN at h
 split at h
 rotate_left
 ·simp at h
 rename_i fo aS ts ho
 split at h
 rotate_left
 ·simp at h
 rename_i fid first cap l hf hl
 split at h
 rotate_left
 ·simp at h
 rename_i aL
 simp only[Option.some.injEq,Prod.mk.injEq]at h
 obtain⟨rfl,rfl⟩:=h
 obtain⟨q1,q2⟩:=zG I F hl aL
 have hv:=(cC I F hf).bL rfl
 generalize hx':a.eval fo=x' at hv
 cases hv with
 |func fn as1 as1' cs ds ha hl1 h1 h2=>
  refine⟨as1'++aS.toList.map a.eval++ds,jP.append (jP.append ⟨ha,(lT ha).1 h1⟩ ⟨q1,q2⟩) ⟨hl1,(lT hl1).1 h2⟩,?_⟩
  obtain⟨fn,e1,e2,e3⟩:=hE
  have hargs:(as1'.toArray++aS.map a.eval++ds.toArray)=⟨as1'++aS.toList.map a.eval++ds⟩:=by apply Array.ext';simp
  simp only[execOp,ho,resolve,hx',Deferred.ofValue,pure_bind,invoke,callFunc,Sem.run_bind,run_program,Result.andThen_ok,e1,e3,e2,Bool.false_eq_true,if_false,Sem.run_pure]
  rw[←hargs]
def dU (ops:Array Oper) (T:Fr) (o:Oper):Option Bool:=
 match o.guard with
 |none=>some true
 |some (j,want)=>match(ops[j]?).bind (·.dst)with
  |some d=>match T.get d with
   |some (.bool b)=>some (b==want)
   |some _=>some false
   |none=>none
  |none=>some false
def St.bN (σ:St) (d:Option Nat) (v:Value):St:=match d with
 |some i=>⟨σ.t.put i v,σ.m⟩
 |none=>σ
def eh (P:Program) (loc:List Nat) (ops:Array Oper) (Q:St→Prop):List Oper→St→Prop
 |[],σ=>Q σ
 |o::r,σ=>
  match dU ops σ.t o with
  |none=>False
  |some false=>eh P loc ops Q r (σ.bN o.dst undef)
  |some true=>
   match cN σ o with
   |some (f,args)=>ai P f args σ.m.h fun v h'=>mC σ.m.h v h'→eh P loc ops Q r (St.bN ⟨σ.t,⟨σ.m.x,h'⟩⟩ o.dst v)
   |none=>match bU P loc σ o with
    |some (v,σ')=>eh P loc ops Q r (σ'.bN o.dst v)
    |none=>lA σ o fun v σ'=>eh P loc ops Q r (σ'.bN o.dst v)
def gX (P:Program) (ρ0:aw) (h0:aa) (w0:World) (n:Nat) (σ:St) (a:Act) (w:World):Prop:=
 ∃ρ,Inv P ρ0 h0 w0 ρ σ.m w∧dE ρ σ.t a.tmps∧a.tmps.size=n∧a.defers=[]
theorem tM {σ:St} {n:Nat} {d:Option Nat} (hd:∀i,d=some i→i<n) {a:Act} {v v':Value} (I:Inv P ρ0 h0 w0 ρ σ.m w) (F:dE ρ σ.t a.tmps) (hs:a.tmps.size=n) (hdf:a.defers=[])
  (hv:VT ρ v v'):gX P ρ0 h0 w0 n (σ.bN d v) (a.put d v') w:=by
 cases d with
 |none=>exact⟨ρ,I,F,hs,hdf⟩
 |some i=>exact⟨ρ,I,F.put (by rw[hs];exact hd i rfl) hv,by simp[Act.put,hs],hdf⟩
theorem VT.agC {v v':Value} (h:VT ρ v v') (hv:∀b,v≠.bool b):∀b,v'≠.bool b:=by
 intro b e
 subst e
 cases h with
 |val _ _ h=>cases h with|bool b=>exact hv b rfl
theorem rY {ops:Array Oper} {σ:St} {a:Act} (F:dE ρ σ.t a.tmps) {o:Oper} {b:Bool} (h:dU ops σ.t o=some b):Region.wanted o (yielded ops a.tmps)=b:=by
 unfold dU at h
 unfold Region.wanted
 split at h
 ·rename_i hg;rw[hg];simpa using h
 ·rename_i j want hg
  rw[hg]
  simp only
  split at h
  ·rename_i d hd
   split at h
   ·rename_i b' hb'
    obtain⟨v',q1,q2⟩:=F _ _ hb'
    obtain rfl:=q2.bM rfl
    simp only[yielded,hd,Option.bind_some,q1]
    simpa using h
   ·rename_i u hu hnb
    obtain⟨v',q1,q2⟩:=F _ _ hnb
    have hnb':=q2.agC (fun b e=>hu b e)
    simp only[yielded,hd,Option.bind_some,q1]
    cases v'<;>first|(simpa using h)|(exact absurd rfl (hnb' _))
   ·simp at h
  ·rename_i hd
   simp only[yielded,hd,Option.bind_none]
   simpa using h
theorem aqL {o:Oper} {f:FuncId} {args:List Value} {σ:St} {a:Act} {n:Nat} {Q:St→Prop} {K:Act→World→Prop} {Z:Exit→Act→World→Prop} (hc:cN σ o=some (f,args))
  (H:ai P f args σ.m.h fun v h'=>mC σ.m.h v h'→Q (St.bN ⟨σ.t,⟨σ.m.x,h'⟩⟩ o.dst v)) (hd:∀i,o.dst=some i→i<n)
  (I:Inv P ρ0 h0 w0 ρ σ.m w) (F:dE ρ σ.t a.tmps) (hs:a.tmps.size=n) (hdf:a.defers=[])
  (hK:∀σ' a' w',Q σ'→gX P ρ0 h0 w0 n σ' a' w'→K a' w'):o.wp P a w K Z:=by
 obtain⟨args',hV,hrun⟩:=BU hc H.1 I F
 unfold Oper.wp
 rw[hrun]
 simp only[Oper.upon]
 have hcall:=H.2 (fE ρ) w args' (fun s=>zh ρ s) I.rel.fE ⟨hV.1,fun i v hi=>let ⟨v',q1,q2⟩:=hV.2 i v hi;⟨v',q1,q2.fE⟩⟩
 refine hcall.mono ?_
 rintro e w' ⟨v,v',h',ρ',rfl,hpost,hbox,hR,hT,hv⟩
 simp only
 obtain⟨J,j1,j2⟩:=I.call hR hT
 refine hK _ _ _ (hpost ⟨hT.hg,hv.KM,hT.hn⟩) (tM (σ:=⟨σ.t,⟨σ.m.x,h'⟩⟩) hd J (F.mono j1 j2) hs hdf (.val _ _ (hv.mono fun b pl q=>?_)))
 simp only[aw.join,Bool.false_eq_true,if_false];exact q
theorem aqn {loc:List Nat} {ops:Array Oper} {n:Nat} {Q:St→Prop} {Z:Exit→Act→World→Prop} (hZ:∀σ' a' w',Q σ'→gX P ρ0 h0 w0 n σ' a' w'→Z .normal a' w'):
  ∀(l:List Oper) (σ:St) (a:Act) (w:World),(∀o∈l,∀i,o.dst=some i→i<n)→eh P loc ops Q l σ→gX P ρ0 h0 w0 n σ a w→wpList P ops Z l a w:=by
 intro l
 induction l with
 |nil=>intro σ a w _ h C;exact hZ _ _ _ h C
 |cons o r ih=>
  intro σ a w hd h C
  obtain⟨ρ,I,F,hs,hdf⟩:=C
  have hdo:=hd o (by simp)
  have hdr:=fun o' ho'=>hd o' (List.mem_cons_of_mem _ ho')
  unfold wpList
  simp only[eh]at h
  split at h
  ·exact h.elim
  ·rename_i hw
   rw[if_neg (by rw[rY F hw];simp)]
   exact ih _ _ _ hdr h (tM hdo I F hs hdf (.eC rfl))
  ·rename_i hw
   rw[if_pos (rY F hw)]
   refine .inl ?_
   split at h
   ·rename_i f args hc
    exact aqL (Q:=eh P loc ops Q r) hc h hdo I F hs hdf fun σ' a' w' h' C'=>ih σ' a' w' hdr h' C'
   ·split at h
    ·rename_i v σ' hst
     obtain⟨nx,v',w',ρ',q1,q2,q3,q4,q5,_⟩:=Qc hst ρ0 h0 w0 ρ a w I F
     unfold Oper.wp
     rw[q1]
     cases nx<;>simp only[oV,Option.some.injEq]at q2<;>first
      |(subst q2;exact ih _ _ _ hdr h (tM hdo q3 q4 hs hdf q5))
      |(exact absurd q2 (by simp))
    ·obtain⟨nx,v,v',m',w',q1,q2,q3,q4,q5⟩:=ags h I F
     unfold Oper.wp
     rw[q1]
     cases nx<;>simp only[oV,Option.some.injEq]at q2<;>first
      |(subst q2;exact ih _ _ _ hdr q5 (tM (σ:=⟨σ.t,m'⟩) hdo q3 F hs hdf q4))
      |(exact absurd q2 (by simp))
end
section
variable {P:Program} {ρ0 ρ ρ':aw} {h0:aa} {w0 w:World} {m:Mem}
def dj (P:Program):Op→Bool
 | .move _| .assign _| .pick .. | .load .. | .build .. | .fieldAddr .. | .field .. | .indexAddr .. | .extract .. | .makeInterface .. | .makeFunc .. | .slice _ _ _ _ none| .nilCheck _
 | .binOp .. | .unOp .. | .index .. =>true
 | .convert s _ _=>match P.underlying s with
  |some (.slice _)=>false
  |_=>true
 | .call c=>match c.callee with
  | .builtin .len| .builtin .min| .builtin .max=>true
  |_=>false
 |_=>false
def lZ:Op→Bool
 | .load .. | .slice .. =>true
 |_=>false
theorem alm {T:Fr} {m m':Mem} (h:m'.h.g=m.h.g) (x:Operand):aG ⟨T,m'⟩ x=aG ⟨T,m⟩ x:=by
 cases x<;>simp[aG,h]
theorem zF {f g:Operand→Option Value}:∀(l:List Operand),(∀x∈l,f x=g x)→l.mapM f=l.mapM g:=by
 intro l
 induction l with
 |nil=>intro _;rfl
 |cons x r ih=>intro h;rw[List.mapM_cons,List.mapM_cons,h x (by simp),ih fun y hy=>h y (by simp[hy])]
theorem Pu {σ τ:St}:∀(l:List (Nat×Operand)),(∀p∈l,aG σ p.2=aG τ p.2)→cz σ l=cz τ l:=by
 intro l
 induction l with
 |nil=>intro _;rfl
 |cons p r ih=>intro h;obtain⟨i,x⟩:=p;simp only[cz,h (i,x) (by simp),ih fun y hy=>h y (by simp[hy])]
def lR (P:Program) (loc:List Nat) (σ:St) (o:Oper):Option Value:=(bU P loc σ o).map (·.1)
theorem PD {σ τ:St} {o:Oper} (h:∀x∈o.op.operands,aG σ x=aG τ x):oY P σ o=oY P τ o:=by
 unfold oY
 have h1:o.op.operands.toList.all (lq σ)=o.op.operands.toList.all (lq τ):=by
  rw[Bool.eq_iff_iff,List.all_eq_true,List.all_eq_true]
  constructor
  ·intro q x hx;have:=q x hx;unfold lq at this ⊢;rw[←h x (by simpa using hx)];exact this
  ·intro q x hx;have:=q x hx;unfold lq at this ⊢;rw[h x (by simpa using hx)];exact this
 rw[h1]
 by_cases hs:rh o.op=true
 ·simp[hs]
 ·have:execOp (iH σ) o=execOp (iH τ) o:=execOp_congr o (fun cs b e=>hs (by simp[e,rh])) fun x hx=>by simp only[iH,h x hx]
  rw[this]
theorem pj {loc:List Nat} {σ τ:St} {o:Oper} (hn:dj P o.op=true) (h:∀x∈o.op.operands,aG σ x=aG τ x) (hm:lZ o.op=true→σ.m=τ.m):
  lR P loc σ o=lR P loc τ o:=by
 have hpure:=PD (P:=P) h
 obtain⟨dst,op,type,pos,after,guard⟩:=o
 unfold lR bU
 cases op<;>simp only[dj,Bool.false_eq_true]at hn<;>simp only[Op.operands]at h<;>simp only[lZ]at hm
 case move x=>have:=h x (by simp);simp only[kN,this];split<;>rfl
 case assign x=>have:=h x (by simp);simp only[kN,this];split<;>rfl
 case pick c x y=>have h1:=h c (by simp);have h2:=h x (by simp);have h3:=h y (by simp);simp only[oQ,h1];split<;>first|rfl|(rename_i b _;cases b<;>simp only[h2,h3,Bool.false_eq_true,if_true,if_false]<;>split<;>rfl)
 case build t ps=>
  have h1:=Pu (σ:=σ) (τ:=τ) ps.toList (fun p hp=>h p.2 (by simp;exact⟨p.1,by simpa using hp⟩))
  simp only[cI,h1];split<;>first|rfl|(split<;>first|rfl|(split<;>rfl))
 case load t x=>have h1:=h x (by simp);have h2:=hm trivial;simp only[oN,h1,h2];split<;>first|rfl|(split<;>first|rfl|(split<;>rfl))
 case nilCheck x=>have h1:=h x (by simp);simp only[oP,h1];split<;>rfl
 case makeInterface t x=>have h1:=h x (by simp);simp only[mh,h1];split<;>first|rfl|(split<;>first|rfl|(split<;>rfl))
 case makeFunc fn a b=>
  have h1:=zF (f:=aG σ) (g:=aG τ) a.toList (fun x hx=>h x (by simp;exact .inl (by simpa using hx)))
  have h2:=zF (f:=aG σ) (g:=aG τ) b.toList (fun x hx=>h x (by simp;exact .inr (by simpa using hx)))
  simp only[oO,h1,h2];split<;>first|rfl|(split<;>rfl)
 case slice t x lo hi mx=>
  cases mx with
  |some _=>simp at hn
  |none=>
   have h0:=h x (by simp);have h2:=hm trivial
   have hb:∀d,fC σ lo d=fC τ lo d:=fun d=>by cases lo with|none=>rfl|some i=>have:=h i (by simp);simp only[fC,this]
   have bC:∀d,fC σ hi d=fC τ hi d:=fun d=>by cases hi with|none=>rfl|some i=>have:=h i (by simp);simp only[fC,this]
   simp only
   split
   ·simp only[cu,hpure];split<;>rfl
   ·simp only[ni,h0,hb,bC,h2];split<;>first|rfl|(split<;>first|rfl|(split<;>rfl))
 case fieldAddr s x f=>have h1:=h x (by simp);simp only[oK,h1];split<;>rfl
 case field s x f=>have h1:=h x (by simp);simp only[oJ,h1];split<;>first|rfl|(split<;>rfl)
 case indexAddr t x i=>have h1:=h x (by simp);have h2:=h i (by simp);simp only[oL,h1,h2];split<;>first|rfl|(split<;>first|rfl|(split<;>rfl))
 case extract x k=>have h1:=h x (by simp);simp only[oI,h1];split<;>first|rfl|(split<;>rfl)
 case binOp op t x y yt=>
  have h1:=h x (by simp);have h2:=h y (by simp)
  have e:(jC P σ op t x y).map (·.1)=(jC P τ op t x y).map (·.1):=by
   simp only[jC,h1,h2];split<;>first|rfl|(split<;>first|rfl|(split<;>rfl))
  simp only
  cases q1:jC P σ op t x y<;>cases q2:jC P τ op t x y<;>rw[q1,q2]at e<;>simp at e
  ·simp only[cu,hpure];split<;>rfl
  ·simp[e]
 case call c=>
  obtain⟨callee,⟨args⟩,⟨tys⟩⟩:=c
  cases callee with
  |value f=>simp at hn
  |invoke r mm=>simp at hn
  |builtin b=>
   cases b<;>simp at hn<;>simp only[qD]
   ·split
    ·have h1:=h _ (by simp[Call.operands];rfl);simp only[oM,h1];split<;>rfl
    ·rfl
   ·simp only[cu,hpure];split<;>rfl
   ·simp only[cu,hpure];split<;>rfl
 case convert s t x=>simp only[akR hn,cu,hpure];split<;>rfl
 all_goals (simp only[cu,hpure];split<;>rfl)
theorem rU {loc:List Nat} {σ σ':St} {o:Oper} {v:Value} (hn:dj P o.op=true) (h:bU P loc σ o=some (v,σ')):σ'=σ:=by
 obtain⟨dst,op,type,pos,after,guard⟩:=o
 unfold bU at h
 have hp:∀{o:Oper},cu P σ o=some (v,σ')→σ'=σ:=fun{o} h=>by
  unfold cu at h;split at h<;>simp at h;exact h.2.symm
 cases op<;>simp only[dj,Bool.false_eq_true]at hn<;>simp only at h
 case move x=>simp only[kN]at h;split at h<;>simp at h;exact h.2.symm
 case assign x=>simp only[kN]at h;split at h<;>simp at h;exact h.2.symm
 case pick c x y=>simp only[oQ]at h;split at h<;>first|(simp at h;done)|(split at h<;>simp at h;exact h.2.symm)
 case build t ps=>simp only[cI]at h;split at h<;>first|(simp at h;done)|(split at h<;>first|(simp at h;done)|(split at h<;>simp at h;exact h.2.symm))
 case load t x=>simp only[oN]at h;split at h<;>first|(simp at h;done)|(split at h<;>first|(simp at h;done)|(split at h<;>simp at h;exact h.2.symm))
 case nilCheck x=>simp only[oP]at h;split at h<;>simp at h<;>exact h.2.symm
 case makeInterface t x=>simp only[mh]at h;split at h<;>first|(simp at h;done)|(split at h<;>first|(simp at h;done)|(split at h<;>simp at h;exact h.2.symm))
 case makeFunc fn a b=>simp only[oO]at h;split at h<;>first|(simp at h;done)|(split at h<;>simp at h;exact h.2.symm)
 case slice t x lo hi mx=>
  cases mx with
  |some _=>simp at hn
  |none=>
   simp only at h
   split at h
   ·exact hp h
   ·simp only[ni]at h;split at h<;>first|(simp at h;done)|(split at h<;>first|(simp at h;done)|(simp at h;exact h.2.symm)|(split at h<;>simp at h;exact h.2.symm))
 case fieldAddr s x f=>simp only[oK]at h;split at h<;>simp at h;exact h.2.symm
 case field s x f=>simp only[oJ]at h;split at h<;>first|(simp at h;done)|(split at h<;>simp at h;exact h.2.symm)
 case indexAddr t x i=>simp only[oL]at h;split at h<;>first|(simp at h;done)|(split at h<;>first|(simp at h;done)|(split at h<;>simp at h;exact h.2.symm))
 case binOp op t x y yt=>
  split at h
  ·rename_i r hr
   rw[←hr]at h
   simp only[jC]at h;split at h<;>first|(simp at h;done)|(split at h<;>first|(simp at h;done)|(split at h<;>simp at h<;>exact h.2.symm))
  ·exact hp h
 case extract x k=>simp only[oI]at h;split at h<;>first|(simp at h;done)|(split at h<;>simp at h;exact h.2.symm)
 case call c=>
  obtain⟨callee,⟨args⟩,⟨tys⟩⟩:=c
  cases callee with
  |value f=>simp at hn
  |invoke r mm=>simp at hn
  |builtin b=>
   cases b<;>simp at hn<;>simp only[qD]at h
   ·split at h
    ·simp only[oM]at h;split at h<;>simp at h<;>exact h.2.symm
    ·simp at h
   ·exact hp h
   ·exact hp h
 case convert s t x=>
  split at h
  ·rename_i r hr
   rw[←hr]at h
   exact Pj h
  ·exact hp h
 all_goals (exact hp h)
end
section
variable {P:Program} {ρ0 ρ ρ':aw} {h0:aa} {w0 w:World} {m:Mem}
def rE (loc:List Nat) (o:Oper):Bool:=match o.op with
 | .alloc _| .box _ _=>match o.dst with
  |some s=> !loc.contains s
  |none=>true
 |_=>true
theorem OP {loc:List Nat} {T T':Fr} {m:Mem} {o:Oper} (hl:(match o.dst with|some s=> !loc.contains s|none=>true)=true) (e:TypeId) (cs:List Value):
  St.newVar ⟨T',m⟩ loc o.dst e cs=(St.newVar ⟨T,m⟩ loc o.dst e cs).map fun p=>(p.1,⟨T',p.2.m⟩):=by
 unfold St.newVar
 split
 ·rename_i s hs
  rw[hs]at hl
  simp only[Bool.not_eq_true',]at hl
  simp only[hl,Bool.false_eq_true,if_false,Option.map_some]
 ·rfl
theorem anR {σ τ:St} {u:TypeId} {sz:Nat} {x:Operand} (h:aG σ x=aG τ x) (hm:σ.m=τ.m):cQ P σ u sz x=cQ P τ u sz x:=by
 unfold cQ
 rw[h,hm]
theorem tY {loc:List Nat} {T T':Fr} {m:Mem} {o:Oper} (hl:rE loc o=true) (h:∀x∈o.op.operands,aG ⟨T',m⟩ x=aG ⟨T,m⟩ x):
  bU P loc ⟨T',m⟩ o=(bU P loc ⟨T,m⟩ o).map fun p=>(p.1,⟨T',p.2.m⟩):=by
 by_cases hn:dj P o.op=true
 ·have hv:=pj (P:=P) (loc:=loc) hn h (fun _=>rfl)
  unfold lR at hv
  cases h1:bU P loc ⟨T',m⟩ o with
  |none=>
   rw[h1]at hv
   cases h2:bU P loc ⟨T,m⟩ o with
   |none=>rfl
   |some p=>rw[h2]at hv;simp at hv
  |some p=>
   rw[h1]at hv
   cases h2:bU P loc ⟨T,m⟩ o with
   |none=>rw[h2]at hv;simp at hv
   |some q=>
    rw[h2]at hv
    obtain⟨v,σ'⟩:=p
    obtain⟨u,τ'⟩:=q
    simp only[Option.map_some,Option.some.injEq]at hv
    have e1:=rU hn h1
    have e2:=rU hn h2
    subst e1;subst e2;subst hv
    rfl
 ·have hpure:=PD (P:=P) h
  obtain⟨dst,op,type,pos,after,guard⟩:=o
  unfold bU
  have hp:cu P ⟨T',m⟩ ⟨dst,op,type,pos,after,guard⟩=(cu P ⟨T,m⟩ ⟨dst,op,type,pos,after,guard⟩).map fun p=>(p.1,⟨T',p.2.m⟩):=by
   unfold cu;rw[hpure];split<;>rfl
  cases op<;>simp only[dj,not_true_eq_false]at hn<;>simp only[Op.operands]at h<;>simp only
  case alloc t=>simp only[oF];split<;>first|rfl|exact OP (o:=⟨dst,.alloc t,type,pos,after,guard⟩) hl _ _
  case box t x=>
   have h1:=h x (by simp)
   simp only[oG,h1]
   split<;>first|rfl|(split<;>first|rfl|exact OP (o:=⟨dst,.box t x,type,pos,after,guard⟩) hl _ _)
  case buildSlice t n ps=>
   have h1:=Pu (σ:=⟨T',m⟩) (τ:=⟨T,m⟩) ps.toList (fun p hp=>h p.2 (by simp;exact⟨p.1,by simpa using hp⟩))
   simp only[aI,h1]
   split<;>first|rfl|(split<;>first|rfl|(split<;>first|rfl|(split<;>rfl)))
  case store t x y=>
   have h1:=h x (by simp);have h2:=h y (by simp)
   simp only[oS,h1,h2]
   split<;>first|rfl|(split<;>first|rfl|(split<;>rfl))
  case makeSlice t x y=>
   have h1:=h x (by simp);have h2:=h y (by simp)
   simp only[lI,h1,h2]
   split<;>first|rfl|(split<;>first|rfl|(split<;>first|rfl|(split<;>rfl)))
  case range t x=>
   have h1:=h x (by simp)
   have e:kg P ⟨T',m⟩ t x=(kg P ⟨T,m⟩ t x).map fun p=>(p.1,⟨T',p.2.m⟩):=by
    simp only[kg,h1]
    split<;>rfl
   rw[e]
   cases hr:kg P ⟨T,m⟩ t x with
   |some r=>rfl
   |none=>
    simp only[Option.map_none,oR,h1]
    split<;>first|rfl|(split<;>rfl)
  case entry x=>
   have h1:=h x (by simp)
   simp only[oH,h1]
   split<;>first|rfl|(split<;>first|rfl|(split<;>first|rfl|(split<;>first|rfl|(split<;>rfl))))
  case next x b=>
   have h1:=h x (by simp)
   cases b
   ·rfl
   ·simp only[nh,h1]
    split<;>first|rfl|(split<;>first|rfl|(split<;>rfl))
  case slice t x lo hi mx=>
   cases mx with
   |none=>simp at hn
   |some _=>exact hp
  case call c=>
   obtain⟨callee,⟨args⟩,⟨tys⟩⟩:=c
   simp only[qD]
   cases callee with
   |value f=>exact hp
   |invoke r mm=>exact hp
   |builtin b=>
    cases b
    case copy=>
     simp only
     split<;>first|rfl|exact akW (h _ (by simp[Call.operands])) (h _ (by simp[Call.operands]))
    case clear=>
     simp only
     split<;>first|rfl|exact akT (h _ (by simp[Call.operands]))
    all_goals first
     |exact hp
     |(simp at hn;done)
     |(simp only
       split<;>first|rfl|(
       have h1:=h _ (by simp[Call.operands];exact .inl rfl)
       have h2:=h _ (by simp[Call.operands];exact .inr rfl)
       simp only[cB,h1,anR (P:=P) (σ:=⟨T',m⟩) (τ:=⟨T,m⟩) h2 rfl]
       split<;>first|rfl|(split<;>first|rfl|(split<;>first|rfl|(split<;>first|rfl|(split<;>first|rfl|(split<;>rfl)))))))
  case makeMap t r=>
   cases r with
   |none=>rfl
   |some x=>
    have h1:=h x (by simp)
    simp only[mi,h1]
    split<;>rfl
  case lookup t x y b=>
   have h1:=h x (by simp);have h2:=h y (by simp)
   simp only[lH,h1,h2]
   split<;>first|rfl|(split<;>first|rfl|(split<;>first|rfl|(split<;>first|rfl|(split<;>rfl))))
  case mapUpdate t x y z=>
   have h1:=h x (by simp);have h2:=h y (by simp);have h3:=h z (by simp)
   simp only[kM,h1,h2,h3]
   split<;>first|rfl|(split<;>first|rfl|(split<;>first|rfl|(split<;>first|rfl|(split<;>rfl))))
  case insert t x y z=>
   have h1:=h x (by simp);have h2:=h y (by simp);have h3:=h z (by simp)
   simp only[kM,h1,h2,h3]
   split<;>first|rfl|(split<;>first|rfl|(split<;>first|rfl|(split<;>first|rfl|(split<;>rfl))))
  case convert s t x=>
   have h1:=h x (by simp)
   rw[akQ h1]
   cases jB P ⟨T,m⟩ s t x with
   |some r=>rfl
   |none=>exact hp
  all_goals exact hp
theorem BT {T T':Fr} {m:Mem} {o:Oper} (h:∀x∈o.op.operands,aG ⟨T',m⟩ x=aG ⟨T,m⟩ x):cN ⟨T',m⟩ o=cN ⟨T,m⟩ o:=by
 unfold cN
 split
 ·rename_i f args ts ho
  rw[ho]at h
  have h1:=h f (by simp[Op.operands,Call.operands])
  have h2:=zF (f:=aG ⟨T',m⟩) (g:=aG ⟨T,m⟩) args.toList (fun x hx=>h x (by simp[Op.operands,Call.operands];exact .inr (by simpa using hx)))
  rw[h1,h2]
 ·rfl
theorem aoe {loc:List Nat} {σ σ':St} {o:Oper} {v:Value} (h:bU P loc σ o=some (v,σ')):σ'.m.h.g=σ.m.h.g:=by
 by_cases hn:dj P o.op=true
 ·rw[rU hn h]
 ·obtain⟨dst,op,type,pos,after,guard⟩:=o
  unfold bU at h
  have hp:∀{o:Oper},cu P σ o=some (v,σ')→σ'.m.h.g=σ.m.h.g:=fun{o} h=>by
   unfold cu at h;split at h<;>simp at h;rw[h.2]
  have hnv:∀{d:Option Nat} {e:TypeId} {cs:List Value},σ.newVar loc d e cs=some (v,σ')→σ'.m.h.g=σ.m.h.g:=fun{d e cs} h=>by
   unfold St.newVar at h
   split at h
   ·split at h<;>simp at h<;>rw[←h.2]<;>rfl
   ·simp at h
  have hset:∀(m:Mem) (k:Key) (e:TypeId) (cs:List Value),(m.setRow k e cs).h.g=m.h.g:=fun m k e cs=>by obtain⟨t,b⟩:=k;cases t<;>rfl
  cases op<;>simp only[dj,not_true_eq_false]at hn<;>simp only at h
  case alloc t=>simp only[oF]at h;split at h<;>first|(simp at h;done)|exact hnv h
  case box t x=>simp only[oG]at h;split at h<;>first|(simp at h;done)|(split at h<;>first|(simp at h;done)|exact hnv h)
  case buildSlice t n ps=>
   simp only[aI]at h
   split at h<;>first|(simp at h;done)|(split at h<;>first|(simp at h;done)|(split at h<;>first|(simp at h;done)|(split at h<;>simp at h;rw[←h.2];rfl)))
  case store t x y=>
   simp only[oS]at h
   split at h<;>first|(simp at h;done)|(split at h<;>first|(simp at h;done)|(split at h<;>simp at h;rw[←h.2];exact hset _ _ _ _))
  case makeSlice t x y=>
   simp only[lI]at h
   split at h<;>first|(simp at h;done)|(split at h<;>first|(simp at h;done)|(split at h<;>first|(simp at h;done)|(split at h<;>simp at h;rw[←h.2];rfl)))
  case range t x=>
   split at h
   ·rename_i r hr
    rw[←hr]at h
    simp only[kg]at h;split at h<;>simp at h;rw[←h.2];rfl
   ·simp only[oR]at h
    split at h<;>first|(simp at h;done)|(split at h<;>first|(simp at h;done)|(simp at h;rw[←h.2];rfl))
  case entry x=>
   simp only[oH]at h
   split at h<;>first|(simp at h;done)|(split at h<;>first|(simp at h;done)|(split at h<;>first|(simp at h;done)|(split at h<;>first|(simp at h;done)|(split at h<;>first|(simp at h;done)|(simp at h;rw[h.2])))))
  case next x b=>
   cases b
   ·cases h
   ·simp only[nh]at h
    split at h<;>first|(simp at h;done)|(split at h<;>first|(simp at h;done)|(split at h<;>simp at h<;>rw[←h.2]<;>rfl))
  case slice t x lo hi mx=>
   cases mx with
   |none=>simp at hn
   |some _=>exact hp h
  case call c=>
   obtain⟨callee,⟨args⟩,⟨tys⟩⟩:=c
   simp only[qD]at h
   cases callee with
   |value f=>exact hp h
   |invoke r mm=>exact hp h
   |builtin b=>
    cases b<;>first
     |exact hp h
     |(simp at hn;done)
     |(simp only at h
       split at h<;>first|(simp at h;done)|exact akX h)
     |(simp only at h
       split at h<;>first|(simp at h;done)|exact akU h)
     |(simp only at h
       split at h<;>first|(simp at h;done)|(
       simp only[cB]at h
       split at h<;>first|(simp at h;done)|(split at h<;>first|(simp at h;done)|(split at h<;>first|(simp at h;done)|(split at h<;>first|(simp at h;done)|(split at h<;>first|(simp at h;done)|(simp at h;rw[←h.2];done)|(simp at h;rw[←h.2];rfl)|(split at h<;>first|(simp at h;done)|(simp at h;rw[←h.2];rfl))))))))
  case makeMap t r=>
   cases r with
   |none=>simp only[mi]at h;simp at h;rw[←h.2];rfl
   |some x=>simp only[mi]at h;split at h<;>simp at h;rw[←h.2];rfl
  case lookup t x y b=>
   simp only[lH]at h
   split at h<;>first|(simp at h;done)|(split at h<;>first|(simp at h;done)|(split at h<;>first|(simp at h;done)|(split at h<;>first|(simp at h;done)|(split at h<;>first|(simp at h;done)|(simp at h;rw[h.2])))))
  case mapUpdate t x y z=>
   simp only[kM]at h
   split at h<;>first|(simp at h;done)|(split at h<;>first|(simp at h;done)|(split at h<;>first|(simp at h;done)|(split at h<;>first|(simp at h;done)|(simp at h;rw[←h.2];rfl)|(split at h<;>first|(simp at h;done)|(simp at h;rw[←h.2];rfl)))))
  case insert t x y z=>
   simp only[kM]at h
   split at h<;>first|(simp at h;done)|(split at h<;>first|(simp at h;done)|(split at h<;>first|(simp at h;done)|(split at h<;>first|(simp at h;done)|(simp at h;rw[←h.2];rfl)|(split at h<;>first|(simp at h;done)|(simp at h;rw[←h.2];rfl)))))
  case convert s t x=>
   split at h
   ·rename_i r hr
    rw[←hr]at h
    rw[Pj h]
   ·exact hp h
  all_goals exact hp h
end
end Go.Am

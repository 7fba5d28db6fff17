/- TopMeaning: texts of the walk and of the plain law, part 1 of 6. -/
import Derived.CallsIn
import Derived.OrdersIn
import Derived.Below
import Derived.Deep.LoopGhost
import Derived.WalkKit
import Derived.Deep.AppendSrc
import Derived.Laws.BytesArg
import Derived.Lib.ConvBytes
import Derived.Recover
import Derived.WideLaws
import Derived.DeepKeys
namespace Go.Proofs.YtfgcfofjjiinjaaGreatDoor
open Go
set_option linter.unusedVariables false
set_option linter.unusedSimpArgs false
set_option maxRecDepth 100000
set_option maxHeartbeats 4000000
theorem D.{u}{α:Sort u}{a:α}:a=a:=rfl
theorem cC:∀{n m:Nat},n.ble m=true->n<=m:= @Nat.le_of_ble_eq_true
theorem cJ:∀{p:Prop} [inst:Decidable p],decide p=true->p:= @of_decide_eq_true
theorem dj:∀{p:Prop} [inst:Decidable p],decide p=false->¬p:= @of_decide_eq_false
theorem gl:∀{p:Prop} [inst:Decidable p],p->decide p=true:= @decide_eq_true
theorem hG:∀{p:Prop} [inst:Decidable p],¬p->decide p=false:= @decide_eq_false
theorem cN.{u}:∀{α:Type u} {l:List α} {i:Nat} {a:α},l.getD i a=l[i]?.getD a:= @List.getD_eq_getElem?_getD
theorem dx.{u}:∀{α:Type u} {l:List α} {i:Nat} (h:i<l.length),l[i]?=some l[i]:= @List.getElem?_eq_getElem
theorem ef.{u}:∀{α:Type u} {Kf bs:List α},(Kf++bs).length=Kf.length+bs.length:= @List.length_append
theorem np.{u}:∀{α:Type u} {a:α},[a].length=1:= @List.length_singleton
theorem ek.{u}:∀{α:Type u} {a:α} {Kf:List α},(a::Kf).length=Kf.length+1:= @List.length_cons
theorem fJ.{u,v}:∀{α:Type u} {β:Type v} {f:α->β} {l:List α} {i:Nat},(List.map f l)[i]?=Option.map f l[i]?:= @List.getElem?_map
theorem hy.{u}:∀{α:Type u} {a:α} {s t:List α},a∈s++t↔a∈s\/a∈t:= @List.mem_append
theorem qc.{u}:∀{α:Type u} {a b:α},a∈[b]↔a=b:= @List.mem_singleton
theorem eb.{u}:∀{α:Type u} {b:α} {l:List α} {a:α},a∈b::l↔a=b\/a∈l:= @List.mem_cons
theorem rv.{u}:∀{α:Type u} {i:Nat} {l:List α},(List.take i l).length=min i l.length:= @List.length_take
theorem h1.{u}:∀{α:Type u} {i:Nat} {l:List α},(List.drop i l).length=l.length-i:= @List.length_drop
theorem l5.{u,v}:∀{α:Type u} {β:Type v} {Kf:List α} (f:α->β),(List.map f Kf).length=Kf.length:= @List.length_map
theorem nH.{u}:∀{α:Type u} {Kf:List α} {i:Nat} {a:α},(Kf.set i a).length=Kf.length:= @List.length_set
theorem eZ.{u}:∀{α:Type u} {p:α->Bool} {l:List α},l.all p=true↔∀(x:α),x∈l->p x=true:= @List.all_eq_true
theorem qk:∀(n:Nat),n<n.succ:= @Nat.lt_succ_self
theorem qW:∀{m n:Nat},m<n.succ->m<=n:= @Nat.le_of_lt_succ
theorem nj:∀{n m:Nat},n<=m->n<m\/n=m:= @Nat.lt_or_eq_of_le
theorem en.{u}:∀{α:Type u} (val ako:α),(some val=some ako)=(val=ako):= @Option.some.injEq
theorem eL:∀(a b:Bool),((a&&b)=true)=(a=true/\b=true):= @Bool.and_eq_true
theorem de:∀{α β:Type} (P:Program) (w:World) (x:Sem α) (f:α->Sem β),Sem.run P (x>>=f) w=(Sem.run P x w).andThen fun a w'=>Sem.run P (f a) w':= @Sem.run_bind
theorem e5:∀{α:Type} (P:Program) (w:World) (a:α),Sem.run P (pure a) w=Result.ok a w:= @Sem.run_pure
theorem pf.{u}:∀{α:Type u} {akn l₂:List α} {i:Nat},i<akn.length->(akn++l₂)[i]?=akn[i]?:= @List.getElem?_append_left
theorem pQ.{u}:∀{α:Type u} {l:List α} {i j:Nat},i<j->(List.take j l)[i]?=l[i]?:= @List.getElem?_take_of_lt
theorem kN:∀{n m:Nat},n.beq m=true->n=m:= @Nat.eq_of_beq_eq_true
theorem wM.{u}:∀{α:Type u} {xs:Array α} {i j:Nat} {a:α},(xs.setIfInBounds i a)[j]?=if i=j then if i<xs.size then some a else none else xs[j]?:= @Array.getElem?_setIfInBounds
theorem vx.{u}:∀{α:Type u} {xs:Array α} {i:Nat},xs.toList[i]?=xs[i]?:= @Array.getElem?_toList
def zr:List (Nat×List Value):=[(1,[.int .i64 (-2147483648),.int .i64 2147483647]),
 (4,[.int .u64 1,.int .u64 10,.int .u64 100,.int .u64 1000,.int .u64 10000,.int .u64 100000,.int .u64 1000000,.int .u64 10000000,.int .u64 100000000,.int .u64 1000000000,.int .u64 10000000000,.int .u64 100000000000,.int .u64 1000000000000,.int .u64 10000000000000,.int .u64 100000000000000,.int .u64 1000000000000000,.int .u64 10000000000000000,.int .u64 100000000000000000,.int .u64 1000000000000000000,.int .u64 10000000000000000000]),
 (5,[.int .u8 0,.int .u8 1,.int .u8 28,.int .u8 2,.int .u8 29,.int .u8 14,.int .u8 24,.int .u8 3,.int .u8 30,.int .u8 22,.int .u8 20,.int .u8 15,.int .u8 25,.int .u8 17,.int .u8 4,.int .u8 8,.int .u8 31,.int .u8 27,.int .u8 13,.int .u8 23,.int .u8 21,.int .u8 19,.int .u8 16,.int .u8 7,.int .u8 26,.int .u8 12,.int .u8 18,.int .u8 6,.int .u8 11,.int .u8 5,.int .u8 10,.int .u8 9]),
 (6,[.int .u8 0,.int .u8 1,.int .u8 56,.int .u8 2,.int .u8 57,.int .u8 49,.int .u8 28,.int .u8 3,.int .u8 61,.int .u8 58,.int .u8 42,.int .u8 50,.int .u8 38,.int .u8 29,.int .u8 17,.int .u8 4,.int .u8 62,.int .u8 47,.int .u8 59,.int .u8 36,.int .u8 45,.int .u8 43,.int .u8 51,.int .u8 22,.int .u8 53,.int .u8 39,.int .u8 33,.int .u8 30,.int .u8 24,.int .u8 18,.int .u8 12,.int .u8 5,.int .u8 63,.int .u8 55,.int .u8 48,.int .u8 27,.int .u8 60,.int .u8 41,.int .u8 37,.int .u8 16,.int .u8 46,.int .u8 35,.int .u8 44,.int .u8 21,.int .u8 52,.int .u8 32,.int .u8 23,.int .u8 11,.int .u8 54,.int .u8 26,.int .u8 40,.int .u8 15,.int .u8 34,.int .u8 20,.int .u8 31,.int .u8 10,.int .u8 25,.int .u8 14,.int .u8 19,.int .u8 9,.int .u8 13,.int .u8 8,.int .u8 7,.int .u8 6])]
def Jr(v:Value):Prop:=∃n:Int,v= .int .i64 n/\-9223372036854775808<=n/\n<=9223372036854775807
def Gg(v:Value):Prop:=∃t u,v= .iface t u
def NI:List (Nat×Nat):=[(4,20)]
def NJ:List (Nat×(Value->Prop)):=[(0,Jr),(2,Gg),(3,Gg)]
abbrev Mem:=Nat->Nat->Option Value
inductive bg where
 |v (x:Value)
 |cK (n len:Nat) (g:Nat->List bg)
 |agg (l:List bg)
 |any (p:Mem->Value->Prop)
def Mem.le(M bo:Mem):Prop:=∀b o v,M b o=some v->bo b o=some v
inductive ey(M:Mem):bg->Value->Prop
 |v (x:Value):ey M (.v x) x
 |agg (l:List bg) (vs:List Value) (aa:l.length=vs.length) (h:∀(j:Nat) (x:bg) (y:Value),l[j]?=some x->vs[j]?=some y->ey M x y):ey M (.agg l) (.agg vs.toArray)
 |ji (n:Nat) (g:Nat->List bg) (a:Option Addr) (cap:Nat):ey M (.cK n 0 g) (.slice a 0 cap)
 |cK (n len:Nat) (g:Nat->List bg) (b o cap:Nat) (aj:len<=cap) (aa:∀i,i<len->(g i).length=n) (c:Nat->Nat->Value)
  (aw:∀i j,i<len->j<n->M b (o+(i*n+j))=some (c i j))
  (h:∀i j x,i<len->(g i)[j]?=some x->ey M x (c i j)):ey M (.cK n len g) (.slice (some ⟨b,o,none⟩) len cap)
 |any (p:Mem->Value->Prop) (hv:Mem) (v:Value) (hle:hv.le M) (an:(∀cs,v≠ .agg cs)/\∀cs,v≠ .tuple cs) (h:p hv v):ey M (.any p) v
theorem jH(M:Mem):M.le M:=fun _ _ _ h=>h
theorem tQ{M bo NK:Mem}(h:M.le bo)(k:bo.le NK):M.le NK:=fun b o v e=>k b o v (h b o v e)
theorem ey.mono{M bo:Mem}(hle:M.le bo){x:bg}{v:Value}(h:ey M x v):ey bo x v:=by
 induction h with
 |v x=>exact .v x
 |agg l vs aa _ aJ=>exact .agg l vs aa aJ
 |ji n g a cap=>exact .ji n g a cap
 |cK n len g b o cap aj aa c aw _ aJ=>exact .cK n len g b o cap aj aa c (fun i j hi az=>hle _ _ _ (aw i j hi az)) aJ
 |any p hv v bb an h=>exact .any p hv v (tQ bb hle) an h
structure cu where
 aI:Nat->Nat
 bZ:Nat->Option Nat
inductive ai where
 |d (x:bg)
 |ao (l j:Nat)
 |h4 (l n i j:Nat)
 |cc (l:List bg)
 |aQ (l len:Nat)
 |ab (l n lo len:Nat)
 |fn (f:FuncId) (cs:List ai)
 |agg (l:List ai)
 |bE (l:List ai)
 |bB (c:Bool) (x:ai)
 |iI (l:Nat)
 |lP (l n lo len cap:Nat)
 |cE (f:FuncId) (cs:List ai)
 |mp (l:Nat)
 |qq (p:Mem->Value->Prop)
inductive bU(V:cu)(M:Mem):ai->Value->Prop
 |d (x:bg) (v:Value) (h:ey M x v):bU V M (.d x) v
 |ao (l j:Nat):bU V M (.ao l j) (.pointer (some ⟨V.aI l,j,none⟩))
 |h4 (l n i j:Nat):bU V M (.h4 l n i j) (.pointer (some ⟨V.aI l,i*n+j,none⟩))
 |cc (l:List bg) (b o:Nat) (c:Nat->Value) (aw:∀j,j<l.length->M b (o+j)=some (c j)) (h:∀(j:Nat) (x:bg),l[j]?=some x->ey M x (c j)):
  bU V M (.cc l) (.pointer (some ⟨b,o,none⟩))
 |aQ (l len cap:Nat) (K:V.bZ l=some cap) (aj:len<=cap):bU V M (.aQ l len) (.slice (some ⟨V.aI l,0,none⟩) len cap)
 |k1 (l:Nat) (K:V.bZ l=none):bU V M (.aQ l 0) (.slice none 0 0)
 |ab (l n lo len cap:Nat) (aj:len<=cap) (K:V.bZ l=some (lo+cap)):bU V M (.ab l n lo len) (.slice (some ⟨V.aI l,lo*n,none⟩) len cap)
 |xP (l n lo:Nat) (a:Option Addr) (cap:Nat):bU V M (.ab l n lo 0) (.slice a 0 cap)
 |fn (f:FuncId) (cs:List ai) (vs:List Value) (aa:cs.length=vs.length) (h:∀(j:Nat) (x:ai) (y:Value),cs[j]?=some x->vs[j]?=some y->bU V M x y):
  bU V M (.fn f cs) (.func (.func f) #[] vs.toArray)
 |agg (l:List ai) (vs:List Value) (aa:l.length=vs.length) (h:∀(j:Nat) (x:ai) (y:Value),l[j]?=some x->vs[j]?=some y->bU V M x y):bU V M (.agg l) (.agg vs.toArray)
 |bE (l:List ai) (vs:List Value) (aa:l.length=vs.length) (h:∀(j:Nat) (x:ai) (y:Value),l[j]?=some x->vs[j]?=some y->bU V M x y):bU V M (.bE l) (.tuple vs.toArray)
 |bB (c:Bool) (x:ai) (v:Value) (h:c=true->bU V M x v) (hu:c=false->v=undef):bU V M (.bB c x) v
 |iI (l:Nat):bU V M (.iI l) (.func (.yield (V.aI l)) #[] #[])
 |lP (l n lo len cap:Nat) (aj:len<=cap):bU V M (.lP l n lo len cap) (.slice (some ⟨V.aI l,lo*n,none⟩) len cap)
 |cE (f:FuncId) (cs:List ai) (vs:List Value) (aa:cs.length=vs.length) (h:∀(j:Nat) (x:ai) (y:Value),cs[j]?=some x->vs[j]?=some y->bU V M x y):
  bU V M (.cE f cs) (.func (.func f) vs.toArray #[])
 |mp (l:Nat):bU V M (.mp l) (.map (some (V.aI l)))
 |qq (p:Mem->Value->Prop) (hv:Mem) (v:Value) (hle:hv.le M) (h:p hv v):bU V M (.qq p) v
inductive gK:ai->Nat->Prop
 |ao (l j:Nat):gK (.ao l j) l
 |h4 (l n i j:Nat):gK (.h4 l n i j) l
 |aQ (l len:Nat):gK (.aQ l len) l
 |ab (l n lo len:Nat):gK (.ab l n lo len) l
 |fn (f:FuncId) (cs:List ai) (x:ai) (l:Nat) (Y:x∈cs) (h:gK x l):gK (.fn f cs) l
 |agg (cs:List ai) (x:ai) (l:Nat) (Y:x∈cs) (h:gK x l):gK (.agg cs) l
 |bE (cs:List ai) (x:ai) (l:Nat) (Y:x∈cs) (h:gK x l):gK (.bE cs) l
 |bB (c:Bool) (x:ai) (l:Nat) (h:gK x l):gK (.bB c x) l
 |iI (l:Nat):gK (.iI l) l
 |lP (l n lo len cap:Nat):gK (.lP l n lo len cap) l
 |cE (f:FuncId) (cs:List ai) (x:ai) (l:Nat) (Y:x∈cs) (h:gK x l):gK (.cE f cs) l
 |mp (l:Nat):gK (.mp l) l
theorem bU.mono{V br:cu}{M bo:Mem}(hle:M.le bo){x:ai}{v:Value}(h:bU V M x v):
  (∀l,gK x l->br.aI l=V.aI l/\br.bZ l=V.bZ l)->bU br bo x v:=by
 induction h with
 |d x v h=>exact fun _=>.d x v (h.mono hle)
 |ao l j=>intro aK;rw[<-(aK l (.ao l j)).1];exact .ao l j
 |h4 l n i j=>intro aK;rw[<-(aK l (.h4 l n i j)).1];exact .h4 l n i j
 |cc l b o c aw h=>exact fun _=>.cc l b o c (fun j az=>hle _ _ _ (aw j az)) fun j x Y=>(h j x Y).mono hle
 |aQ l len cap K aj=>intro aK;have:=aK l (.aQ l len);rw[<-this.1];exact .aQ l len cap (this.2.trans K) aj
 |k1 l K=>intro aK;exact .k1 l ((aK l (.aQ l 0)).2.trans K)
 |ab l n lo len cap aj K=>intro aK;have:=aK l (.ab l n lo len);rw[<-this.1];exact .ab l n lo len cap aj (this.2.trans K)
 |xP l n lo a cap=>exact fun _=>.xP l n lo a cap
 |fn f cs vs aa _ aJ=>intro aK;exact .fn f cs vs aa fun j x y Y ak=>aJ j x y Y ak fun l aw=>aK l (.fn f cs x l (List.mem_of_getElem? Y) aw)
 |agg cs vs aa _ aJ=>intro aK;exact .agg cs vs aa fun j x y Y ak=>aJ j x y Y ak fun l aw=>aK l (.agg cs x l (List.mem_of_getElem? Y) aw)
 |bE cs vs aa _ aJ=>intro aK;exact .bE cs vs aa fun j x y Y ak=>aJ j x y Y ak fun l aw=>aK l (.bE cs x l (List.mem_of_getElem? Y) aw)
 |bB c x v _ hu aJ=>intro aK;exact .bB c x v (fun aj=>aJ aj fun l aw=>aK l (.bB c x l aw)) hu
 |iI l=>intro aK;rw[<-(aK l (.iI l)).1];exact .iI l
 |lP l n lo len cap aj=>intro aK;rw[<-(aK l (.lP l n lo len cap)).1];exact .lP l n lo len cap aj
 |cE f cs vs aa _ aJ=>intro aK;exact .cE f cs vs aa fun j x y Y ak=>aJ j x y Y ak fun l aw=>aK l (.cE f cs x l (List.mem_of_getElem? Y) aw)
 |mp l=>intro aK;rw[<-(aK l (.mp l)).1];exact .mp l
 |qq p hv v bb h=>exact fun _=>.qq p hv v (tQ bb hle) h
inductive bz where
 |cv (k:IntKind) (xs:List Int)
 |o6 (xs:List Bool)
 |ds (xs:List bg)
def bz.len:bz->Nat
 | .cv _ xs=>xs.length
 | .o6 xs=>xs.length
 | .ds xs=>xs.length
def bz.at:bz->Nat->bg
 | .cv k xs,i=>.v (.int k (xs.getD i 0))
 | .o6 xs,i=>.v (.bool (xs.getD i false))
 | .ds xs,i=>xs.getD i (.v .nilFunc)
structure sL where
 st:LoopState
 fI:Option Code
 ps:Array Tmp
 assign:Code
 body:Code
 cg:Nat
 fx:FuncId->Prop
inductive wo where
 |map (ks:List Value)
 |Js (ks:List Value) (e3:List Nat) (c:Nat)
 |Jt (rX:Nat) (seen:List Nat) (Bp:Nat)
structure Dt(ks vs:List Value)(e3:List Nat)(c:Nat)(xs:Array MapEntry):Prop where
 key:xs.toList.map (·.key)=ks
 val:xs.toList.map (·.val)=vs
 born:xs.toList.map (·.born)=e3
 lQ:ks.Nodup
 Gh:e3.Nodup
 lt:∀b∈e3,b<c
def wo.Vr(vs:List Value)(lq:Go.Obj):wo->Prop
 | .map ks=>∃e3 c xs,lq= .map xs c/\Dt ks vs e3 c xs
 | .Js ks e3 c=>∃xs,lq= .map xs c/\Dt ks vs e3 c xs
 | .Jt rX seen Bp=>∃r,vs=[.map (some r)]/\lq= .mapIter (some r) rX seen.toArray Bp
inductive cO where
 |cells (l:List ai)
 |data (l:List bg)
 |fq (n len:Nat) (cs:List bz)
 |bG (n len:Nat) (cs:List bz)
 |eh (h:sL) (ts:List (Nat×ai))
 |gR (ls l:List ai)
 |tR (ks:List (List Int))
 |k2 (cs:List ai) (o:wo)
 |rY (ds:List bg) (o:wo)
def sM(M:Mem)(n len:Nat)(cs:List bz)(vs:Array Value):Prop:=
 cs.length=n/\(∀c∈cs,c.len=len)/\∀i j c,i<len->cs[j]?=some c->∃v,vs[i*n+j]?=some v/\ey M (c.at i) v
def zs(V:cu)(M:Mem)(w:World)(l:Nat)(cs:List ai):Prop:=
 V.bZ l≠none/\∃vs t,w.heap[V.aI l]?=some (.cells vs t (0,0))/\vs.size=cs.length/\∀(j:Nat) (x:ai) (y:Value),cs[j]?=some x->vs[j]?=some y->bU V M x y
def wq(V:cu)(M:Mem)(w:World)(l:Nat)(h:sL)(ts:List (Nat×ai)):Prop:=
 V.bZ l≠none/\∃fn tmps d,w.heap[V.aI l]?=some (.loop {state:=h.st,pending:=h.fI,fn:=fn,tmps:=tmps,params:=h.ps,assign:=h.assign,body:=h.body,defers:=d})/\
  (tmps.size=h.cg/\h.fx fn)/\∀p∈ts,∃v,tmps[p.1]?=some v/\bU V M p.2 v
def jj(V:cu)(M:Mem)(w:World)(tS:Nat)(ls l:List ai):Prop:=
 (∀x∈l,∀m,gK x m->∃y∈ls,gK y m)/\match V.bZ tS with
 |none=>l=[]
 |some cap=>l.length<=cap/\∃vs t,w.heap[V.aI tS]?=some (.cells vs t (0,0))/\vs.size=cap/\∀(j:Nat) (x:ai),l[j]?=some x->∃v,vs[j]?=some v/\bU V M x v
def NL(k:List Int):Value:=.agg (k.map fun x=>Value.int .u8 x).toArray
def Vs(V:cu)(w:World)(l:Nat)(ks:List (List Int)):Prop:=
 V.bZ l≠none/\∃es c,w.heap[V.aI l]?=some (.map es c)/\(∀e∈es.toList,e.val= .bool true/\∃k∈ks,e.key=NL k)/\∀k∈ks,∃e∈es.toList,e.key=NL k
def lr(V:cu)(M:Mem)(w:World)(l:Nat)(cs:List ai)(o:wo):Prop:=
 V.bZ l≠none/\∃vs lq,w.heap[V.aI l]?=some lq/\cs.length=vs.length/\(∀(j:Nat) (x:ai) (y:Value),cs[j]?=some x->vs[j]?=some y->bU V M x y)/\o.Vr vs lq
def gC(V:cu)(M:Mem)(w:World)(l:Nat):cO->Prop
 | .cells cs=>zs V M w l cs
 | .data ds=>zs V M w l (ds.map .d)
 | .fq n len cs=>V.bZ l≠none/\∃vs t,w.heap[V.aI l]?=some (.cells vs t (0,0))/\vs.size=len*n/\sM M n len cs vs
 | .bG n len cs=>cs.length=n/\(∀c∈cs,c.len=len)/\
  match V.bZ l with
  |none=>len=0
  |some cap=>len<=cap/\∃vs t,w.heap[V.aI l]?=some (.cells vs t (0,0))/\vs.size=cap*n/\sM M n len cs vs
 | .eh h ts=>wq V M w l h ts
 | .gR ls cs=>jj V M w l ls cs
 | .tR ks=>Vs V w l ks
 | .k2 cs o=>lr V M w l cs o
 | .rY ds o=>lr V M w l (ds.map .d) o
inductive u3:cO->Nat->Prop
 |cells (cs:List ai) (x:ai) (l:Nat) (Y:x∈cs) (h:gK x l):u3 (.cells cs) l
 |eh (h:sL) (ts:List (Nat×ai)) (p:Nat×ai) (l:Nat) (Y:p∈ts) (aw:gK p.2 l):u3 (.eh h ts) l
 |gR (ls cs:List ai) (x:ai) (l:Nat) (Y:x∈ls) (h:gK x l):u3 (.gR ls cs) l
 |k2 (cs:List ai) (o:wo) (x:ai) (l:Nat) (Y:x∈cs) (h:gK x l):u3 (.k2 cs o) l
theorem wq.lu{V br:cu}{M bo:Mem}{w w':World}{l:Nat}{h:sL}{ts:List (Nat×ai)}(aW:wq V M w l h ts)(h5:M.le bo)(aa:br.aI l=V.aI l/\br.bZ l=V.bZ l)(aw:∀l',u3 (.eh h ts) l'->br.aI l'=V.aI l'/\br.bZ l'=V.bZ l')
  (hw:V.bZ l≠none->w'.heap[V.aI l]?=w.heap[V.aI l]?):wq br bo w' l h ts:=by
 obtain⟨K,fn,tmps,d,J,W,aH⟩:=aW
 exact⟨by rw[aa.2];exact K,fn,tmps,d,by rw[aa.1,hw K];exact J,W,fun p Z=>let⟨v,aK,aq⟩:=aH p Z;⟨v,aK,aq.mono h5 fun l' e4=>aw l' (.eh h ts p l' Z e4)⟩⟩
theorem jj.lu{V br:cu}{M bo:Mem}{w w':World}{l:Nat}{ls cs:List ai}(aW:jj V M w l ls cs)(h5:M.le bo)(aa:br.aI l=V.aI l/\br.bZ l=V.bZ l)(aw:∀l',u3 (.gR ls cs) l'->br.aI l'=V.aI l'/\br.bZ l'=V.bZ l')
  (hw:V.bZ l≠none->w'.heap[V.aI l]?=w.heap[V.aI l]?):jj br bo w' l ls cs:=by
 unfold jj at*
 obtain⟨Du,aW⟩:=aW
 refine⟨Du,?_⟩
 rw[aa.2,aa.1]
 cases K:V.bZ l with
 |none=>rw[K]at aW;exact aW
 |some cap=>
  rw[K]at aW
  obtain⟨J,vs,t,W,aH,aV⟩:=aW
  exact⟨J,vs,t,by rw[hw (by rw[K];simp)];exact W,aH,fun j x Y=>let⟨v,aK,aq⟩:=aV j x Y;⟨v,aK,aq.mono h5 fun l' e4=>by
   obtain⟨y,ak,Vt⟩:=Du x (List.mem_of_getElem? Y) l' e4
   exact aw l' (.gR ls cs y l' ak Vt)⟩⟩
theorem lr.lu{V br:cu}{M bo:Mem}{w w':World}{l:Nat}{cs:List ai}{o:wo}(aW:lr V M w l cs o)(h5:M.le bo)(aa:br.aI l=V.aI l/\br.bZ l=V.bZ l)(aw:∀l',u3 (.k2 cs o) l'->br.aI l'=V.aI l'/\br.bZ l'=V.bZ l')
  (hw:V.bZ l≠none->w'.heap[V.aI l]?=w.heap[V.aI l]?):lr br bo w' l cs o:=by
 obtain⟨J,vs,lq,W,aH,aV,db⟩:=aW
 exact⟨by rw[aa.2];exact J,vs,lq,by rw[aa.1,hw J];exact W,aH,fun j x y Y ak=>(aV j x y Y ak).mono h5 fun l' e4=>aw l' (.k2 cs o x l' (List.mem_of_getElem? Y) e4),db⟩
theorem lr.Dv{V br:cu}{M bo:Mem}{w w':World}{l:Nat}{ds:List bg}{o:wo}(aW:lr V M w l (ds.map .d) o)(h5:M.le bo)(aa:br.aI l=V.aI l/\br.bZ l=V.bZ l)
  (hw:V.bZ l≠none->w'.heap[V.aI l]?=w.heap[V.aI l]?):lr br bo w' l (ds.map .d) o:=
 lr.lu aW h5 aa (fun l' aw=>by
  cases aw with
  |k2 _ _ x _ Y h=>obtain⟨z,_,rfl⟩:=List.mem_map.1 Y;cases h) hw
def Vu:Go.Obj->Bool
 | .map _ _=>true
 | .mapIter _ _ _ _=>true
 |_=>false
theorem lr.lv{V:cu}{M:Mem}{w:World}{l:Nat}{cs:List ai}{o:wo}(h:lr V M w l cs o){lq:Go.Obj}(e:w.heap[V.aI l]?=some lq):Vu lq=true:=by
 obtain⟨_,us,ai7,W,_,_,db⟩:=h
 rw[e]at W
 injection W with W
 subst W
 cases o with
 |map ks=>obtain⟨_,_,_,h,_⟩:=db;rw[h];rfl
 |Js ks e3 c=>obtain⟨_,h,_⟩:=db;rw[h];rfl
 |Jt s n k=>obtain⟨_,_,h⟩:=db;rw[h];rfl
inductive dz where
 |aB (x:ai)
 |U (B:cO)
def ov:dz->Nat->Prop
 | .aB x,l=>gK x l
 | .U B,l=>u3 B l
abbrev ad:=List (Nat×dz)
abbrev ab(t:Nat):Nat:=2*t
abbrev G(l:Nat):Nat:=2*l+1
def ad.get:ad->Nat->Option dz
 |[],_=>none
 |(m,c)::r,n=>bif Nat.beq m n then some c else ad.get r n
def ad.qs(n:Nat)(c:dz):ad->ad
 |[]=>[(n,c)]
 |(m,d)::r=>bif Nat.beq m n then(n,c)::r else(m,d)::ad.qs n c r
def ad.iJ(n:Nat):ad->ad
 |[]=>[]
 |(m,d)::r=>bif Nat.beq m n then ad.iJ n r else(m,d)::ad.iJ n r
def ad.NM(S:ad)(u:Nat×Option dz):ad:=
 match u with
 |(n,some c)=>ad.qs n c S
 |(n,none)=>ad.iJ n S
def ad.eK:ad->List (Nat×Option dz)->ad
 |S,[]=>S
 |S,u::r=>(S.NM u).eK r
theorem ih(m n:Nat):Nat.beq m n=decide (m=n):=by
 cases h:Nat.beq m n with
 |true=>exact(gl (kN h)).symm
 |false=>exact(hG (Nat.ne_of_beq_eq_false h)).symm
theorem ad.Dw(S:ad)(n:Nat)(c:dz)(m:Nat):(ad.qs n c S).get m=if n=m then some c else S.get m:=by
 induction S with
 |nil=>by_cases h:n=m<;>simp[ad.qs,ad.get,ih,h]
 |cons x r aJ=>
  obtain⟨k,d⟩:=x
  by_cases K:k=n
  ·subst K
   by_cases h:k=m<;>simp[ad.qs,ad.get,ih,h]
  ·by_cases h:k=m
   ·subst h
    simp[ad.qs,ad.get,ih,K,Ne.symm K]
   ·simp[ad.qs,ad.get,ih,K,h,aJ]
theorem o7(S:ad)(n:Nat)(m:Nat):(ad.iJ n S).get m=if n=m then none else S.get m:=by
 induction S with
 |nil=>simp[ad.iJ,ad.get]
 |cons x r aJ=>
  obtain⟨k,d⟩:=x
  by_cases K:k=n
  ·subst K
   by_cases h:k=m
   ·subst h;simpa[ad.iJ,ad.get,ih]using aJ
   ·simp[ad.iJ,ad.get,ih,h,aJ]
  ·by_cases h:k=m
   ·subst h
    simp[ad.iJ,ad.get,ih,K,Ne.symm K]
   ·simp[ad.iJ,ad.get,ih,K,h,aJ]
theorem ad.Vv(S:ad)(u:Nat×Option dz)(m:Nat):(S.NM u).get m=if u.1=m then u.2 else S.get m:=by
 obtain⟨n,c⟩:=u
 cases c with
 |some c=>exact ad.Dw S n c m
 |none=>exact o7 S n m
structure c7 where
 iu:World
 b4:List Nat
 hv:Mem
 nL:cu
 aA:List Nat
 cg:Nat
 wu:List Deferred:=[]
abbrev c7.dd(iu:World)(b4:List Nat)(hv:Mem)(nL:cu)(aA:List Nat)(cg:Nat):c7:={iu:=iu,b4:=b4,hv:=hv,nL:=nL,aA:=aA,cg:=cg}
structure Vw(E:c7)(w:World):Prop where
 os:w.os=E.iu.os
 tape:w.tape=E.iu.tape
 output:w.output=E.iu.output
 size:E.iu.heap.size<=w.heap.size
 block:∀b,b<E.iu.heap.size->b∉E.b4->w.heap[b]?=E.iu.heap[b]?
def di(V:cu)(S:ad)(l:Nat):Prop:=(∃B,S.get (G l)=some (.U B))/\V.bZ l≠none
def u4(M:Mem):Prop:=(∀p∈zr,∀(j:Nat) (x:Value),p.2[j]?=some x->M p.1 j=some x)/\∀p∈NJ,∃v,M p.1 0=some v/\p.2 v
theorem u4.mono{M bo:Mem}(h:u4 M)(hle:M.le bo):u4 bo:=⟨fun p Z j x Y=>hle _ _ _ (h.1 p Z j x Y),fun p Z=>let⟨v,J,W⟩:=h.2 p Z;⟨v,hle _ _ _ J,W⟩⟩
def Dx(iu:World)(b4:List Nat)(hv:Mem):Prop:=∀p∈NI,p.1∉b4/\hv p.1 0≠none/\∃cs t z,iu.heap[p.1]?=some (.cells cs t z)/\cs.size=p.2
structure cl(E:c7)(S:ad)(V:cu)(M:Mem)(w:World):Prop where
 dn:∀l B,S.get (G l)=some (.U B)->gC V M w l B
 inj:∀l l',di V S l->di V S l'->l≠l'->V.aI l≠V.aI l'
 dO:∀l,di V S l->∀o,M (V.aI l) o=none
 dt:∀l,di V S l->E.iu.heap.size<=V.aI l\/V.aI l∈E.b4
 cE:∀l,di V S l->V.aI l<w.heap.size
 mem:∀b o v,M b o=some v->w.cell? ⟨b,o,none⟩=some v
 dA:E.hv.le M
 er:u4 E.hv/\Dx E.iu E.b4 E.hv
 ea:∀b o,M b o≠none->E.hv b o≠none\/E.iu.heap.size<=b\/b∈E.b4
 aA:∀l∈E.aA,V.aI l=E.nL.aI l/\V.bZ l=E.nL.bZ l
 b6:Vw E w
theorem cl.xQ{E:c7}{S:ad}{V:cu}{M:Mem}{w:World}(h:cl E S V M w):u4 M:=h.er.1.mono h.dA
theorem cl.xR{E:c7}{S:ad}{V:cu}{M:Mem}{w:World}(h:cl E S V M w){ps:List Nat}(Z:∀b∈ps,∃l,di V S l/\V.aI l=b):u4 M/\Dx w ps M:=⟨h.xQ,fun p Ju=>by
 obtain⟨J,W,cs,t,z,aH,aV⟩:=h.er.2 p Ju
 have h5:M p.1 0≠none:=by
  cases Y:E.hv p.1 0 with
  |none=>exact absurd Y W
  |some v=>rw[h.dA _ _ _ Y];simp
 refine⟨fun ae=>?_,h5,cs,t,z,(h.b6.block p.1 (Array.getElem?_eq_some_iff.1 aH).1 J).trans aH,aV⟩
 obtain⟨l,aa,he⟩:=Z _ ae
 exact h5 (by rw[<-he];exact h.dO l aa 0)⟩
structure jk(E:c7)(S:ad)(V:cu)(M:Mem)(a:Act):Prop where
 fT:∀t x,S.get (ab t)=some (.aB x)->∃v,a.tmps[t]?=some v/\bU V M x v
 size:a.tmps.size=E.cg
 defers:a.defers=E.wu
def ei(E:c7)(S:ad)(a:Act)(w:World):Prop:=∃V M,jk E S V M a/\cl E S V M w
def ad.le(S' S:ad):Prop:=∀n c,S'.get n=some c->S.get n=some c
theorem jk.fj{E:c7}{S S':ad}{V:cu}{M:Mem}{a:Act}(h:jk E S V M a)(hle:S'.le S):jk E S' V M a:=
 ⟨fun t x e=>h.fT t x (hle _ _ e),h.size,h.defers⟩
theorem di.fj{V:cu}{S S':ad}(hle:S'.le S){l:Nat}(h:di V S' l):di V S l:=
 ⟨let⟨B,e⟩:=h.1;⟨B,hle _ _ e⟩,h.2⟩
theorem cl.fj{E:c7}{S S':ad}{V:cu}{M:Mem}{w:World}(h:cl E S V M w)(hle:S'.le S):cl E S' V M w:=
 {
  dn:=fun l B e=>h.dn l B (hle _ _ e)
  inj:=fun l l' a b=>h.inj l l' (a.fj hle) (b.fj hle)
  dO:=fun l a=>h.dO l (a.fj hle)
  dt:=fun l a=>h.dt l (a.fj hle)
  cE:=fun l a=>h.cE l (a.fj hle)
  mem:=h.mem,dA:=h.dA,er:=h.er,ea:=h.ea,aA:=h.aA,b6:=h.b6}
theorem ei.fj{E:c7}{S S':ad}{a:Act}{w:World}(h:ei E S a w)(hle:S'.le S):ei E S' a w:=
 let⟨V,M,aC,hw⟩:=h;⟨V,M,aC.fj hle,hw.fj hle⟩
theorem cl.drawn{E:c7}{S:ad}{V:cu}{M:Mem}{w:World}(h:cl E S V M w)(k:Nat):cl E S V M {w with drawn:=k}:=
 {
  dn:=fun l B e=>by
   have:=h.dn l B e
   cases B<;>exact this
  inj:=h.inj,dO:=h.dO,dt:=h.dt,cE:=h.cE,mem:=h.mem,dA:=h.dA,er:=h.er,ea:=h.ea,aA:=h.aA
  b6:=⟨h.b6.os,h.b6.tape,h.b6.output,h.b6.size,h.b6.block⟩}
theorem ei.drawn{E:c7}{S:ad}{a:Act}{w:World}(h:ei E S a w)(k:Nat):ei E S a {w with drawn:=k}:=
 let⟨V,M,aC,hw⟩:=h;⟨V,M,aC,hw.drawn k⟩
section
structure eR where
 round:Option Nat:=none
 gm:List PanicEntry×ad->Prop:=fun _=>False
 xS:Bool:=false
 gn:Bool:=false
abbrev ja(P:Program)(ro:eR):Fence:={Fence.wide with round:=ro.round,fn:=fun f=>ro.gn=true->∃x,P.funcs[f]?=some x}
theorem Bq{P:Program}(ro:eR)(k:Nat):(ja P ro).depth.isSome=true->1<=k:=fun h=>by cases h
class jI (ro:eR):Prop where
 gn:ro.gn=false
instance {r:Option Nat} {p:List PanicEntry×ad->Prop} {m:Bool}:jI ⟨r,p,m,false⟩:=⟨rfl⟩
class Vx (ro:eR):Prop where
 gn:ro.gn=true
instance {r:Option Nat} {p:List PanicEntry×ad->Prop} {m:Bool}:Vx ⟨r,p,m,true⟩:=⟨rfl⟩
theorem Dy{P:Program}{ro:eR}[h:jI ro]:ja P ro={Fence.wide with round:=ro.round}:=by simp[ja,h.gn,Fence.wide]
theorem xT{P:Program}{ro:eR}[jI ro]{c:Code}{Q:Exit->Act->World->Prop}{a:Act}{w:World}(aE:ro.round=none)(h:c.wpIn (ja P ro) 0 P Q a w):c.wpIn Fence.wide 0 P Q a w:=by
 rw[Dy,aE]at h;exact h
structure cx where
 rn:List Nat
 aY:ad
 post:List (Nat×Option dz)
 new:List Nat
def cx.jl(A:cx):List Nat:=A.post.map Prod.fst
def tT(A:cx)(S:ad):Prop:=∀n∈A.rn,S.get n=A.aY.get n
def xU(A:cx)(S:ad):Prop:=∀l∈A.new,∀n c,S.get n=some c->n∉A.jl->¬ov c l
variable {P:Program} {ro:eR} {ops:Array Oper}
def lx(P:Program)(ro:eR)(ops:Array Oper)(Q:Exit->Act->World->Prop)(o:Oper)(fg:Act->World->Prop)(a:Act)(w:World):Prop:=
 if Region.wanted o (yielded ops a.tmps)then o.wpIn (ja P ro) 0 P a w fg Q else(∀f,o.about P w a.eval=some f->(ja P ro).fn f)/\fg (a.put o.dst undef) w
theorem wv{Q:Exit->Act->World->Prop}{o:Oper}{fg NN:Act->World->Prop}{a:Act}{w:World}(h:∀a w,fg a w->NN a w)(aW:lx P ro ops Q o fg a w):lx P ro ops Q o NN a w:=by
 unfold lx at*
 split
 ·rename_i hw;simp only[hw,if_true]at aW;exact Oper.wpIn_mono h aW
 ·rename_i hw;simp only[hw]at aW;exact⟨aW.1,h _ _ aW.2⟩
def zt(E:c7)(A:cx):Prop:=(∀l∈A.new,l∉E.aA)/\∀t,ab t∈A.jl->t<E.cg
def kA(P:Program)(ro:eR)(ops:Array Oper)(o:Oper)(A:cx):Prop:=
 ∀(E:c7) (S:ad) (a:Act) (w:World),tT A S->xU A S->zt E A->ei E S a w->
  ∀Q,(∀x,ro.gm x->∀a w,ei E x.2 a w->Q (.panic x.1) a w)->lx P ro ops Q o (ei E (S.eK A.post)) a w
inductive bI(P:Program)(ro:eR)(ops:Array Oper):List Oper->ad->List cx->ad->Prop
 |nil (S:ad):bI P ro ops [] S [] S
 |cons {o:Oper} {A:cx} {S T:ad} {r:List Oper} {l:List cx} {S':ad} (aC:kA P ro ops o A) (an:tT A S) (bf:xU A S) (he:∀n,T.get n=(S.eK A.post).get n) (h:bI P ro ops r T l S'):
  bI P ro ops (o::r) S (A::l) S'
def mu(E:c7)(l:List cx):Prop:=∀A∈l,zt E A
def Dz:Nat->Bool
 |0=>false
 |n+1=> !Dz n
theorem Vy(t:Nat):Dz (2*t)=false:=by
 induction t with
 |zero=>rfl
 |succ t aJ=>show(!(!Dz (2*t)))=false;simp[aJ]
def wx(aA:List Nat)(cg:Nat)(A:cx):Bool:=A.new.all (fun l=>aA.all fun m=> !Nat.beq m l)&&A.jl.all fun n=>Nat.blt n (2*cg)||Dz n
theorem nM{E:c7}{l:List cx}{aA:List Nat}{cg:Nat}(K:E.aA=aA)(af:E.cg=cg)(h:l.all (wx aA cg)=true):mu E l:=by
 intro A dk
 have:=eZ.1 h A dk
 simp only[wx,eL,eZ,Bool.or_eq_true,Bool.not_eq_true']at this
 refine⟨fun l aa aw=>?_,fun t aT=>?_⟩
 ·rw[K]at aw
  have:=this.1 l aa l aw
  simp[ih]at this
 ·rcases this.2 _ aT with h|h
  ·have:=cC h
   rw[af];show t<cg
   have:2*t<2*cg:=this
   omega
  ·have:Dz (2*t)=true:=h
   rw[Vy]at this;cases this
theorem DA{Q:Exit->Act->World->Prop}{E:c7}{l:List Oper}{S S':ad}{L:List cx}(h:bI P ro ops l S L S'):
  mu E L->(∀x,ro.gm x->∀a w,ei E x.2 a w->Q (.panic x.1) a w)->(∀a w,ei E S' a w->Q .normal a w)->∀k,(∀j,l[j]?=ops[k+j]?)->∀a w,ei E S a w->
   wpOpsIn (ja P ro) 0 P ops Q (List.range' k l.length) a w:=by
 induction h with
 |nil S=>intro _ _ bA k _ a w aE;exact bA a w aE
 | @cons o A S T r l S' aC an bf he h aJ=>
  intro K gD bA k az a w aE
  have bb:ops[k]?=some o:=by simpa using(az 0).symm
  have q9:=aC E S a w an bf (K A (by simp)) aE Q gD
  rw[ek,List.range'_succ,wpOpsIn_cons]
  unfold wpOpIn
  simp only[bb]
  exact wv (fun a w aE=>aJ (fun B cP=>K B (by simp[cP])) gD bA (k+1) (fun j=>by have:=az (j+1);simpa[Nat.add_assoc,Nat.add_comm 1 j]using this) a w (aE.fj fun n c e=>by rw[<-he n];exact e)) q9
theorem ej(S:ad)(n:Nat)(c:dz)(m:Nat):ad.get ((n,c)::S) m=if n=m then some c else S.get m:=by
 simp only[ad.get,ih]
 by_cases h:n=m<;>simp[h]
theorem ra(S:ad)(n:Nat)(c:dz):∀m,ad.get ((n,c)::S) m=(S.eK [(n,some c)]).get m:=fun m=>by
 rw[ej];show _=(ad.qs n c S).get m;rw[ad.Dw]
def ad.Br(S T:ad):Prop:=∀n,S.get n=T.get n
def l3(n:Nat)(d:Option dz):List (Nat×Option dz)->Option dz
 |[]=>d
 |(m,c)::r=>l3 n (if m=n then c else d) r
theorem mY(u:List (Nat×Option dz)):∀(S:ad) (n:Nat),(S.eK u).get n=l3 n (S.get n) u:=by
 induction u with
 |nil=>intro S n;rfl
 |cons x r aJ=>intro S n;obtain⟨m,c⟩:=x;simp only[ad.eK,l3];rw[aJ,ad.Vv]
theorem rZ{n:Nat}{d:Option dz}{u:List (Nat×Option dz)}(h:n∉u.map Prod.fst):l3 n d u=d:=by
 induction u generalizing d with
 |nil=>rfl
 |cons x r aJ=>
  obtain⟨m,c⟩:=x
  simp only[List.map_cons,eb,not_or]at h
  simp only[l3]
  rw[if_neg fun e=>h.1 e.symm]
  exact aJ h.2
theorem NO{n:Nat}{d:Option dz}{u:List (Nat×Option dz)}{c:dz}(h:l3 n d u=some c):d=some c/\n∉u.map Prod.fst\/(n,some c)∈u:=by
 induction u generalizing d with
 |nil=>exact .inl ⟨h,by simp⟩
 |cons x r aJ=>
  obtain⟨m,b⟩:=x
  simp only[l3]at h
  rcases aJ h with⟨J,W⟩|J
  ·by_cases aw:m=n
   ·subst aw;rw[if_pos rfl]at J;right;simp[J]
   ·rw[if_neg aw]at J;left;exact⟨J,by simp[W];exact fun e=>aw e.symm⟩
  ·right;simp[J]
structure zu(A B:cx):Prop where
 zv:∀n∈A.jl,n∉B.rn/\n∉B.jl
 NP:∀n∈B.jl,n∉A.rn
def zw(B A:cx):Prop:=∀l∈A.new,∀p∈B.post,p.1∉A.jl->∀c,p.2=some c->¬ov c l
structure Item where
 i:Nat
 o:Oper
 A:cx
inductive o8(P:Program)(ro:eR)(ops:Array Oper):List Item->ad->ad->Prop
 |nil {S S':ad} (h:S.Br S'):o8 P ro ops [] S S'
 |cons {x:Item} {r:List Item} {S S':ad} (aC:kA P ro ops x.o x.A) (an:tT x.A S) (h:o8 P ro ops r (S.eK x.A.post) S'):o8 P ro ops (x::r) S S'
theorem NQ{S T:ad}(h:S.Br T)(u:List (Nat×Option dz)):(S.eK u).Br (T.eK u):=fun n=>by rw[mY,mY,h n]
theorem o8.congr{l:List Item}{S S':ad}(h:o8 P ro ops l S S'):∀{T:ad},S.Br T->o8 P ro ops l T S':=by
 induction h with
 |nil h=>intro T e;exact .nil fun n=>(e n).symm.trans (h n)
 |cons aC an _ aJ=>intro T e;exact .cons aC (fun p Z=>(e p).symm.trans (an p Z)) (aJ (NQ e _))
theorem o8.swap{x y:Item}{r:List Item}{S S':ad}(hi:zu x.A y.A)(h:o8 P ro ops (x::y::r) S S'):o8 P ro ops (y::x::r) S S':=by
 cases h with
 |cons Jv Jw h=>
  cases h with
  |cons Jx Jy h=>
   have Jz:tT y.A S:=fun p Z=>by
    have:=Jy p Z
    rw[mY,rZ fun af=>(hi.zv p af).1 Z]at this
    exact this
   have JA:tT x.A (S.eK y.A.post):=fun p Z=>by
    rw[mY,rZ fun af=>hi.NP p af Z]
    exact Jw p Z
   refine .cons Jx Jz (.cons Jv JA (h.congr fun n=>?_))
   simp only[mY]
   by_cases ak:n∈y.A.jl
   ·have Y:n∉x.A.jl:=fun Y=>(hi.zv n Y).2 ak
    rw[rZ (u:=x.A.post) Y,rZ (u:=x.A.post) Y]
   ·rw[rZ (u:=y.A.post) ak,rZ (u:=y.A.post) ak]
theorem o8.DB{x:Item}{r:List Item}{S':ad}:∀{p:List Item} {S:ad},(∀y∈p,zu y.A x.A)->o8 P ro ops (p++x::r) S S'->o8 P ro ops (x::(p++r)) S S'
 |[],_,_,h=>h
 |y::p,S,hi,h=>by
  cases h with
  |cons aC an h=>
   have h':=o8.DB (p:=p) (fun z bd=>hi z (by simp[bd])) h
   exact o8.swap (hi y (by simp)) (.cons aC an h')
def xV(e:Edge):Bool:=Region.binds .any e
def zx(acc:List Nat)(es:List Edge):Nat:=es.foldl (fun m e=>bif xV e then Nat.lor m (Nat.lor (acc.getD e.on 0) (Nat.shiftLeft 1 e.on))else m) 0
def qt:List Oper->List Nat->List Nat
 |[],acc=>acc
 |o::r,acc=>qt r (acc++[zx acc o.after.toList])
def zy:List Oper->Nat->Bool
 |[],_=>true
 |o::r,k=>o.after.toList.all (fun e=> !xV e||Nat.blt e.on k)&&zy r (k+1)
mutual
def ai.ke(l:Nat):ai->Bool
 | .d _=>false
 | .ao a _=>Nat.beq a l
 | .h4 a _ _ _=>Nat.beq a l
 | .cc _=>false
 | .aQ a _=>Nat.beq a l
 | .ab a _ _ _=>Nat.beq a l
 | .fn _ cs=>ai.tU l cs
 | .agg cs=>ai.tU l cs
 | .bE cs=>ai.tU l cs
 | .bB _ x=>ai.ke l x
 | .iI a=>Nat.beq a l
 | .lP a _ _ _ _=>Nat.beq a l
 | .cE _ cs=>ai.tU l cs
 | .mp a=>Nat.beq a l
 | .qq _=>false
def ai.tU(l:Nat):List ai->Bool
 |[]=>false
 |x::r=>ai.ke l x||ai.tU l r
end
def Gi(l:Nat):List (Nat×ai)->Bool
 |[]=>false
 |p::r=>p.2.ke l||Gi l r
theorem Vz{l:Nat}{p:Nat×ai}{ts:List (Nat×ai)}(Z:p∈ts)(h:p.2.ke l=true):Gi l ts=true:=by
 induction ts with
 |nil=>cases Z
 |cons q r aJ=>
  simp only[Gi,Bool.or_eq_true]
  rcases eb.1 Z with rfl|Z
  ·exact .inl h
  ·exact .inr (aJ Z)
def dz.ke(l:Nat):dz->Bool
 | .aB x=>x.ke l
 | .U (.cells cs)=>ai.tU l cs
 | .U (.eh _ ts)=>Gi l ts
 | .U (.gR ls _)=>ai.tU l ls
 | .U (.k2 cs _)=>ai.tU l cs
 | .U _=>false
theorem xW{l:Nat}{x:ai}{cs:List ai}(Y:x∈cs)(h:x.ke l=true):ai.tU l cs=true:=by
 induction cs with
 |nil=>cases Y
 |cons y r aJ=>
  simp only[ai.tU,Bool.or_eq_true]
  rcases eb.1 Y with rfl|Y
  ·exact .inl h
  ·exact .inr (aJ Y)
theorem zz{x:ai}{l:Nat}(h:gK x l):x.ke l=true:=by
 induction h with
 |ao l j=>simp[ai.ke]
 |h4 l n i j=>simp[ai.ke]
 |aQ l len=>simp[ai.ke]
 |ab l n lo len=>simp[ai.ke]
 |fn f cs x l Y _ aJ=>simp only[ai.ke];exact xW Y aJ
 |agg cs x l Y _ aJ=>simp only[ai.ke];exact xW Y aJ
 |bE cs x l Y _ aJ=>simp only[ai.ke];exact xW Y aJ
 |bB c x l _ aJ=>simpa only[ai.ke]using aJ
 |iI l=>simp[ai.ke]
 |lP l n lo len cap=>simp[ai.ke]
 |cE f cs x l Y _ aJ=>simp only[ai.ke];exact xW Y aJ
 |mp l=>simp[ai.ke]
theorem JB{c:dz}{l:Nat}(h:ov c l):c.ke l=true:=by
 cases c with
 |aB x=>exact zz h
 |U B=>
  cases h with
  |cells cs x l Y h=>exact xW Y (zz h)
  |eh h ts p l Y aw=>exact Vz Y (zz aw)
  |gR ls cs x l Y h=>exact xW Y (zz h)
  |k2 cs o x l Y h=>exact xW Y (zz h)
def hx(n:Nat):List Nat->Bool
 |[]=>false
 |m::r=>Nat.beq m n||hx n r
theorem h6{n:Nat}{l:List Nat}:hx n l=true↔n∈l:=by
 induction l with
 |nil=>simp[hx]
 |cons m r aJ=>simp only[hx,Bool.or_eq_true,aJ,eb,ih,decide_eq_true_eq];exact or_congr ⟨Eq.symm,Eq.symm⟩ Iff.rfl
def JC(A B:cx):Bool:=
 A.jl.all (fun n=> !hx n B.rn&& !hx n B.jl)&&B.jl.all fun n=> !hx n A.rn
theorem NR{A B:cx}(h:JC A B=true):zu A B:=by
 simp only[JC,eL,eZ,Bool.not_eq_true']at h
 have key:∀{n:Nat} {l:List Nat},hx n l=false->n∉l:=fun h af=>by rw[h6.2 af]at h;cases h
 exact⟨fun n af=>⟨key (h.1 n af).1,key (h.1 n af).2⟩,fun n af=>key (h.2 n af)⟩
def Gj(l:Nat)(hH:List Nat):List (Nat×Option dz)->Bool
 |[]=>true
 |(n,c)::r=>(hx n hH||(match c with|some c=> !c.ke l|none=>true))&&Gj l hH r
theorem NS{l:Nat}{hH:List Nat}:∀{P:List (Nat×Option dz)},Gj l hH P=true->∀p∈P,p.1∈hH\/∀c,p.2=some c->c.ke l=false
 |[],_,p,Z=>by cases Z
 |(n,c)::r,h,p,Z=>by
  simp only[Gj,eL,Bool.or_eq_true]at h
  rcases eb.1 Z with rfl|Z
  ·rcases h.1 with h|h
   ·exact .inl (h6.1 h)
   ·exact .inr fun gp aj=>by simp only at aj;subst aj;simpa using h
  ·exact NS h.2 p Z
def Gk(B A:cx):Bool:=A.new.all fun l=>Gj l A.jl B.post
theorem Gl{B A:cx}(h:Gk B A=true):zw B A:=by
 simp only[Gk,eZ]at h
 intro l aa p Z af c aj aw
 rcases NS (h l aa) p Z with h|h
 ·exact af h
 ·have:=h c aj;rw[JB aw]at this;cases this
def h7(A:cx)(S:ad):Bool:=A.new.all fun l=>S.all fun p=>hx p.1 A.jl||(match S.get p.1 with|some c=> !c.ke l|none=>true)
theorem kB{S:ad}{n:Nat}{c:dz}(h:S.get n=some c):(n,c)∈S:=by
 induction S with
 |nil=>cases h
 |cons x r aJ=>
  obtain⟨m,d⟩:=x
  simp only[ad.get,ih]at h
  by_cases aw:m=n
  ·subst aw;simp at h;simp[h]
  ·simp[aw]at h;simp[aJ h]
theorem sN{A:cx}{S:ad}(h:h7 A S=true):xU A S:=by
 simp only[h7,eZ,Bool.or_eq_true,Bool.not_eq_true']at h
 intro l aa n c aj af aw
 rcases h l aa (n,c) (kB aj)with h|h
 ·exact af (h6.1 h)
 ·simp only[aj,JB aw,Bool.not_true,Bool.false_eq_true]at h
def xX(ms:List Nat)(i:Nat)(A:cx)(j:Nat)(B:cx):Bool:=
 ((ms.getD j 0).testBit i||(JC A B&&Gk B A))&&Gk A B
def Gm(ms:List Nat)(i:Nat)(A:cx):Nat->List cx->Bool
 |_,[]=>true
 |j,B::r=>xX ms i A j B&&Gm ms i A (j+1) r
def Gn(ms:List Nat):Nat->List cx->Bool
 |_,[]=>true
 |i,A::r=>Gm ms i A (i+1) r&&Gn ms (i+1) r
def wy(ops:List Oper)(S:ad)(L:List cx):Bool:=zy ops 0&&Gn (qt ops []) 0 L&&L.all (h7 · S)
theorem NT:∀(r:List Oper) (acc:List Nat),∃t,qt r acc=acc++t
 |[],acc=>⟨[],by simp[qt]⟩
 |o::r,acc=>by
  obtain⟨t,h⟩:=NT r (acc++[zx acc o.after.toList])
  exact⟨zx acc o.after.toList::t,by simp[qt,h]⟩
theorem JD:∀(r:List Oper) (acc:List Nat) (j:Nat) (o:Oper),r[j]?=some o->
  (qt r acc)[acc.length+j]?=some (zx ((qt r acc).take (acc.length+j)) o.after.toList)
 |[],_,_,_,h=>by simp at h
 |p::r,acc,0,o,h=>by
  simp only[List.getElem?_cons_zero,en]at h
  subst h
  obtain⟨t,aT⟩:=NT r (acc++[zx acc p.after.toList])
  simp[qt,aT]
 |p::r,acc,j+1,o,h=>by
  simp only[List.getElem?_cons_succ]at h
  have:=JD r (acc++[zx acc p.after.toList]) j o h
  simp only[ef,ek,List.length_nil,Nat.zero_add]at this
  have e:acc.length+(j+1)=acc.length+1+j:=by omega
  rw[e]
  simpa[qt]using this
theorem NU{acc:List Nat}{p:Nat->Prop}(es:List Edge)(h:∀e∈es,xV e=true->p e.on/\∀i,(acc.getD e.on 0).testBit i=true->p i):
  ∀i,(zx acc es).testBit i=true->p i:=by
 have key:∀(es:List Edge) (m:Nat),(∀i,m.testBit i=true->p i)->(∀e∈es,xV e=true->p e.on/\∀i,(acc.getD e.on 0).testBit i=true->p i)->
   ∀i,(es.foldl (fun m e=>bif xV e then Nat.lor m (Nat.lor (acc.getD e.on 0) (Nat.shiftLeft 1 e.on))else m) m).testBit i=true->p i:=by
  intro es
  induction es with
  |nil=>intro m aw _ i hi;exact aw i hi
  |cons e r aJ=>
   intro m aw he i hi
   refine aJ _ ?_ (fun jJ h'=>he jJ (by simp[h'])) i hi
   intro i hi
   replace hi:(bif xV e then Nat.lor m (Nat.lor (acc.getD e.on 0) (Nat.shiftLeft 1 e.on))else m).testBit i=true:=hi
   cases ae:xV e with
   |false=>rw[ae]at hi;exact aw i hi
   |true=>
    rw[ae]at hi
    obtain⟨J,W⟩:=he e (by simp) ae
    have jb:(m|||((acc.getD e.on 0)|||(1<<<e.on))).testBit i=true:=hi
    simp only[Nat.testBit_or,Bool.or_eq_true]at jb
    rcases jb with jb|jb|jb
    ·exact aw i jb
    ·exact W i jb
    ·simp only[Nat.testBit_shiftLeft,eL,decide_eq_true_eq]at jb
     have:i-e.on=0:=by
      cases bd:i-e.on with
      |zero=>rfl
      |succ k=>rw[bd]at jb;simp[Nat.testBit_succ]at jb
     have:i=e.on:=by omega
     exact this▸J
 exact key es 0 (fun i hi=>by simp at hi) h
theorem DC:∀(r:List Oper) (k j:Nat) (o:Oper),zy r k=true->r[j]?=some o->∀e∈o.after.toList,xV e=true->e.on<k+j
 |[],_,_,_,_,h=>by simp at h
 |p::r,k,0,o,ae,h=>by
  simp only[List.getElem?_cons_zero,en]at h
  subst h
  simp only[zy,eL,eZ]at ae
  intro e he o9
  have:=ae.1 e he
  rw[o9]at this
  simpa using this
 |p::r,k,j+1,o,ae,h=>by
  simp only[List.getElem?_cons_succ]at h
  simp only[zy,eL]at ae
  intro e he o9
  have:=DC r (k+1) j o ae.2 h e he o9
  omega
theorem NV{ms:List Nat}:∀(L:List cx) (k i j:Nat) (A B:cx),Gn ms k L=true->L[i]?=some A->L[j]?=some B->i<j->xX ms (k+i) A (k+j) B=true:=by
 have later:∀(r:List cx) (i:Nat) (A:cx) (k j:Nat) (B:cx),Gm ms i A k r=true->r[j]?=some B->xX ms i A (k+j) B=true:=by
  intro r
  induction r with
  |nil=>intro i A k j B _ h;simp at h
  |cons C r aJ=>
   intro i A k j B aa h
   simp only[Gm,eL]at aa
   cases j with
   |zero=>simp at h;subst h;exact aa.1
   |succ j=>simp only[List.getElem?_cons_succ]at h;have:=aJ i A (k+1) j B aa.2 h;rwa[show k+1+j=k+(j+1) by omega]at this
 intro L
 induction L with
 |nil=>intro k i j A B _ h;simp at h
 |cons C r aJ=>
  intro k i j A B Z hi az iK
  simp only[Gn,eL]at Z
  cases j with
  |zero=>omega
  |succ j=>
   simp only[List.getElem?_cons_succ]at az
   cases i with
   |zero=>
    simp at hi;subst hi
    have:=later r k C (k+1) j B Z.1 az
    rwa[show k+1+j=k+(j+1) by omega]at this
   |succ i=>
    simp only[List.getElem?_cons_succ]at hi
    have:=aJ (k+1) i j A B Z.2 hi az (by omega)
    rwa[show k+1+i=k+(i+1) by omega,show k+1+j=k+(j+1) by omega]at this
structure DD(ms:List Nat)(ops:Array Oper)(rem:List Item):Prop where
 op:∀x∈rem,ops[x.i]?=some x.o
 DE:rem.Pairwise fun x y=>x.i<y.i/\xX ms x.i x.A y.i y.A=true
theorem DD.sub{ms:List Nat}{rem NW:List Item}(h:DD ms ops rem)(an:NW.Sublist rem):DD ms ops NW:=
 ⟨fun x Y=>h.op x (an.subset Y),h.DE.sublist an⟩
theorem VA{Q:Exit->Act->World->Prop}{E:c7}{S':ad}(DF:zy ops.toList 0=true)(gD:∀x,ro.gm x->∀a w,ei E x.2 a w->Q (.panic x.1) a w)(bA:∀a w,ei E S' a w->Q .normal a w):
  ∀(fuel:Nat) (listed:Array Bool) (rem:List Item) (S:ad) (a:Act) (w:World),rem.length=fuel->listed.size=ops.size->
   (∀i,(∃x∈rem,x.i=i)↔i<ops.size/\listed.getD i true=false)->
   (∀i,listed.getD i false=true->∀p,((qt ops.toList []).getD i 0).testBit p=true->listed.getD p false=true)->
   DD (qt ops.toList []) ops rem->(∀x∈rem,zt E x.A)->(∀x∈rem,xU x.A S)->
   o8 P ro ops rem S S'->ei E S a w->wpAnyIn (ja P ro) 0 P .any ops Q fuel listed a w:=by
 intro fuel
 induction fuel with
 |zero=>
  intro listed rem S a w hlen cj pb zA Z K bf r1 aE
  have zB:rem=[]:=List.length_eq_zero_iff.1 hlen
  subst zB
  refine⟨?_,?_⟩
  ·rw[List.eq_nil_iff_forall_not_mem]
   intro i hi
   rw[mem_ready]at hi
   obtain⟨J,o,bJ,_⟩:=hi
   have aG:i<ops.size:=by
    rcases Nat.lt_or_ge i ops.size with h|h
    ·exact h
    ·simp[Array.getElem?_eq_none h]at bJ
   have:=(pb i).2 ⟨aG,J⟩
   simp at this
  ·cases r1 with
   |nil h=>exact bA a w (aE.fj fun n c e=>by rw[h n];exact e)
 |succ fuel aJ=>
  intro listed rem S a w hlen cj pb zA Z K bf r1 aE
  refine⟨?_,?_⟩
  ·intro zB
   exfalso
   cases rem with
   |nil=>simp at hlen
   |cons x r=>
    have Y:=(pb x.i).1 ⟨x,by simp,rfl⟩
    have iL:x.i∈Region.ready .any ops listed:=by
     rw[mem_ready]
     have iM:=Z.op x (by simp)
     refine⟨Y.2,x.o,iM,?_⟩
     intro e he JE
     have aG:=DC ops.toList 0 x.i x.o DF (by simpa using iM) e (by simpa using he) JE
     simp only[Nat.zero_add]at aG
     cases aa:listed.getD e.on false with
     |true=>rfl
     |false=>
      exfalso
      have qu:e.on<ops.size:=by omega
      have:listed.getD e.on true=false:=by
       rw[Array.getD_eq_getD_getElem?]at aa⊢
       have:e.on<listed.size:=by omega
       simpa[this]using aa
      obtain⟨y,ak,VB⟩:=(pb e.on).2 ⟨qu,this⟩
      rcases eb.1 ak with rfl|ak
      ·omega
      ·have:=(List.pairwise_cons.1 Z.DE).1 y ak
       omega
    rw[zB]at iL
    cases iL
  ·intro i hi
   have jb:=hi
   rw[mem_ready]at jb
   obtain⟨kC,sO,tV,DG⟩:=jb
   have DH:i<ops.size:=by
    rcases Nat.lt_or_ge i ops.size with h|h
    ·exact h
    ·simp[Array.getElem?_eq_none h]at tV
   obtain⟨x,Y,rfl⟩:=(pb i).2 ⟨DH,kC⟩
   obtain⟨p,r,rfl⟩:=List.append_of_mem Y
   have iM:=Z.op x Y
   rw[iM]at tV
   injection tV with tV
   subst tV
   have DI:∀q,((qt ops.toList []).getD x.i 0).testBit q=true->listed.getD q false=true:=by
    have aw:=JD ops.toList [] x.i x.o (by simpa using iM)
    simp only[List.length_nil,Nat.zero_add]at aw
    intro q tW
    rw[cN,aw]at tW
    refine NU (p:=fun q=>listed.getD q false=true) x.o.after.toList ?_ q tW
    intro e he ae
    have DJ:listed.getD e.on false=true:=DG e (by simpa using he) ae
    refine⟨DJ,fun t aT=>zA e.on DJ t ?_⟩
    have aG:=DC ops.toList 0 x.i x.o DF (by simpa using iM) e he ae
    simp only[Nat.zero_add]at aG
    rw[cN]at aT⊢
    rwa[pQ aG]at aT
   have wz:=List.pairwise_append.1 Z.DE
   have nN:∀y∈p,zu y.A x.A/\zw x.A y.A:=fun y ak=>by
    obtain⟨aG,nt⟩:=wz.2.2 y ak x (by simp)
    simp only[xX,eL,Bool.or_eq_true]at nt
    rcases nt.1 with ae|ae
    ·exfalso
     have aa:=DI y.i ae
     have zC:=(pb y.i).1 ⟨y,by simp[ak],rfl⟩
     have:listed.getD y.i true=true:=by
      rw[Array.getD_eq_getD_getElem?]at aa⊢
      have:y.i<listed.size:=by omega
      simpa[this]using aa
     rw[this]at zC
     exact absurd zC.2 (by simp)
    ·exact⟨NR ae.1,Gl ae.2⟩
   have sP:∀y∈r,zw x.A y.A:=fun y ak=>by
    have aj:=(List.pairwise_cons.1 wz.2.1).1 y ak
    simp only[xX,eL]at aj
    exact Gl aj.2.2
   have JF:=o8.DB (fun y ak=>(nN y ak).1) r1
   cases JF with
   |cons aC an h=>
    have u5:=aC E S a w an (bf x Y) (K x Y) aE Q gD
    unfold wpOpIn
    simp only[iM]
    refine wv (fun gL w' ow=>?_) u5
    have ox:(p++r).Sublist (p++x::r):=List.Sublist.append_left (List.sublist_cons_self x r) p
    have h0:∀y∈p++r,y.i≠x.i:=fun y ak e=>by
     rcases hy.1 ak with ak|ak
     ·have:=(wz.2.2 y ak x (by simp)).1;omega
     ·have:=((List.pairwise_cons.1 wz.2.1).1 y ak).1;omega
    have pR:∀q d,(listed.setIfInBounds x.i true).getD q d=if q=x.i then true else listed.getD q d:=by
     intro q d
     by_cases h:q=x.i
     ·subst h
      have:x.i<listed.size:=by omega
      rw[Array.getD_eq_getD_getElem?]
      simp[this]
     ·rw[if_neg h,getD_set_ne d fun e=>h e.symm]
    refine aJ _ (p++r) _ gL w' (by simp at hlen⊢;omega) (by simpa using cj) ?_ ?_ (Z.sub ox) (fun y ak=>K y (ox.subset ak)) ?_ h ow
    ·intro i
     rw[pR]
     constructor
     ·rintro⟨y,ak,rfl⟩
      have:=(pb y.i).1 ⟨y,ox.subset ak,rfl⟩
      exact⟨this.1,by rw[if_neg (h0 y ak)];exact this.2⟩
     ·rintro⟨J,W⟩
      by_cases h:i=x.i
      ·rw[if_pos h]at W;cases W
      ·rw[if_neg h]at W
       obtain⟨y,ak,DK⟩:=(pb i).2 ⟨J,W⟩
       refine⟨y,?_,DK⟩
       rcases hy.1 ak with ak|ak
       ·exact List.mem_append_left _ ak
       ·rcases eb.1 ak with rfl|ak
        ·exact absurd DK.symm h
        ·exact List.mem_append_right _ ak
    ·intro i nu q tW
     rw[pR]at nu⊢
     by_cases DL:q=x.i
     ·rw[if_pos DL]
     ·rw[if_neg DL]
      by_cases h:i=x.i
      ·subst h;exact DI q tW
      ·rw[if_neg h]at nu;exact zA i nu q tW
    ·intro y ak l aa n c aj af
     rw[mY]at aj
     have iv:zw x.A y.A:=by
      rcases hy.1 ak with ak|ak
      ·exact(nN y ak).2
      ·exact sP y ak
     rcases NO aj with⟨aj,_⟩|aj
     ·exact bf y (ox.subset ak) l aa n c aj af
     ·exact iv l aa _ aj af c D
theorem VC{l:List Oper}{S S':ad}{L:List cx}(h:bI P ro ops l S L S'):∀k,o8 P ro ops ((l.zip L).mapIdx fun i x=>⟨k+i,x.1,x.2⟩) S S'/\l.length=L.length:=by
 induction h with
 |nil S=>intro k;exact⟨.nil fun _=>rfl,rfl⟩
 | @cons o A S T r l S' aC an bf he h aJ=>
  intro k
  obtain⟨J,W⟩:=aJ (k+1)
  refine⟨?_,by simp[W]⟩
  simp only[List.zip_cons_cons,List.mapIdx_cons]
  refine .cons aC an ?_
  have:((r.zip l).mapIdx fun i x=>(⟨k+(i+1),x.1,x.2⟩:Item))=((r.zip l).mapIdx fun i x=>(⟨k+1+i,x.1,x.2⟩:Item)):=by
   congr 1;funext i x;congr 1;omega
  rw[this]
  exact J.congr fun n=>he n
theorem NX{Q:Exit->Act->World->Prop}{E:c7}{S S':ad}{L:List cx}(h:bI P ro ops ops.toList S L S')(aq:wy ops.toList S L=true)
  (K:mu E L) (gD:∀x,ro.gm x->∀a w,ei E x.2 a w->Q (.panic x.1) a w) (bA:∀a w,ei E S' a w->Q .normal a w) {a:Act} {w:World} (aE:ei E S a w):
  wpAnyIn (ja P ro) 0 P .any ops Q ops.size (Array.replicate ops.size false) a w:=by
 obtain⟨r1,hlen⟩:=VC h 0
 simp only[wy,eL,eZ]at aq
 have iN:∀x∈((ops.toList.zip L).mapIdx fun i x=>(⟨0+i,x.1,x.2⟩:Item)),ops.toList[x.i]?=some x.o/\L[x.i]?=some x.A:=by
  intro x Y
  obtain⟨i,hi,rfl⟩:=List.mem_mapIdx.1 Y
  simp only[List.length_zip]at hi
  have J:i<ops.toList.length:=by omega
  have W:i<L.length:=by omega
  simp only[Nat.zero_add,List.getElem_zip]
  exact⟨by rw[dx J],by rw[dx W]⟩
 have VD:L.length=ops.size:=by simpa using hlen.symm
 refine VA aq.1.1 gD bA ops.size _ _ S a w (by simp[List.length_zip];omega) (by simp) ?_ ?_ ⟨?_,?_⟩ ?_ ?_ r1 aE
 ·intro i
  constructor
  ·rintro⟨x,Y,rfl⟩
   have:=(iN x Y).1
   have aG:x.i<ops.size:=by
    have:=List.getElem?_eq_some_iff.1 this
    simpa using this.1
   exact⟨aG,by simp[Array.getD_eq_getD_getElem?,aG]⟩
  ·rintro⟨J,_⟩
   have W:i<(ops.toList.zip L).length:=by have:L.length=ops.size:=(by simpa using hlen.symm);simp[List.length_zip];omega
   exact⟨⟨0+i,((ops.toList.zip L)[i]).1,((ops.toList.zip L)[i]).2⟩,List.mem_mapIdx.2 ⟨i,W,rfl⟩,by simp⟩
 ·intro i hi
  exfalso
  by_cases h:i<ops.size<;>simp[Array.getD_eq_getD_getElem?,h]at hi
 ·intro x Y;have:=(iN x Y).1;simpa using this
 ·rw[List.pairwise_iff_getElem]
  intro i j hi az iK
  simp only[List.length_mapIdx,List.length_zip]at hi az
  simp only[List.getElem_mapIdx,List.getElem_zip,Nat.zero_add]
  refine⟨iK,?_⟩
  have:=NV L 0 i j L[i] L[j] aq.1.2 (dx _) (dx _) iK
  simpa using this
 ·intro x Y;exact K x.A (List.mem_of_getElem? (iN x Y).2)
 ·intro x Y;exact sN (aq.2 x.A (List.mem_of_getElem? (iN x Y).2))
end
section
variable {P:Program} {ro:eR} {ops:Array Oper} {E:c7}
abbrev mark(m:Nat):Deferred:={target:=.collected m,args:= #[]}
def mZ(ro:eR)(E:c7)(S:ad)(a:Act)(w:World):Prop:=
 ∃ms:List Nat,(ro.xS=false->ms=[])/\a.defers=ms.map mark++E.wu/\(ms.Nodup/\∀m∈ms,E.iu.heap.size<=m/\w.heap[m]?=some (.deferred (some [])))/\ei E S {a with defers:=E.wu} w
theorem ei.m{S:ad}{a:Act}{w:World}(h:ei E S a w):mZ ro E S a w:=by
 obtain⟨V,M,aC,hw⟩:=h
 refine⟨[],fun _=>rfl,by simpa using aC.defers,⟨List.nodup_nil,fun m aw=>(nomatch aw)⟩,V,M,⟨aC.fT,aC.size,rfl⟩,hw⟩
theorem mZ.dB{S:ad}{a:Act}{w:World}(h:mZ ro E S a w)(aw:ro.xS=false):ei E S a w:=by
 obtain⟨ms,bb,J,_,V,M,aC,hw⟩:=h
 have:=bb aw
 subst this
 exact⟨V,M,⟨aC.fT,aC.size,by simpa using J⟩,hw⟩
theorem mZ.fj{S S':ad}{a:Act}{w:World}(h:mZ ro E S a w)(hle:S'.le S):mZ ro E S' a w:=by
 obtain⟨ms,bb,J,W,aH⟩:=h
 exact⟨ms,bb,J,W,aH.fj hle⟩
def Bs(V:cu)(S:ad):List Nat:=((S.map fun p=>p.1/2).filter fun l=>match S.get (G l),V.bZ l with|some (.U _),some _=>true|_,_=>false).map V.aI
theorem qv{V:cu}{S:ad}{b:Nat}:b∈Bs V S↔∃l,di V S l/\V.aI l=b:=by
 simp only[Bs,List.mem_map,List.mem_filter]
 constructor
 ·rintro⟨l,⟨_,h⟩,rfl⟩
  refine⟨l,?_,rfl⟩
  split at h
  ·rename_i B k J W;exact⟨⟨B,J⟩,by rw[W];simp⟩
  ·cases h
 ·rintro⟨l,⟨⟨B,cP⟩,K⟩,rfl⟩
  refine⟨l,⟨⟨_,kB cP,by unfold G;omega⟩,?_⟩,rfl⟩
  cases Y:V.bZ l with
  |none=>exact absurd Y K
  |some k=>simp[cP]
def c7.bS(E:c7)(S:ad)(V:cu)(M:Mem)(w:World)(ds:List Deferred):c7:={iu:=w,b4:=Bs V S,hv:=M,nL:=V,aA:=E.aA,cg:=E.cg,wu:=ds}
theorem cl.ly{S:ad}{V:cu}{M:Mem}{w:World}(h:cl E S V M w)(ds:List Deferred):cl (E.bS S V M w ds) S V M w:=
 {
  dn:=h.dn,inj:=h.inj,dO:=h.dO,dt:=fun l aa=>.inr (qv.2 ⟨l,aa,rfl⟩),cE:=h.cE,mem:=h.mem,dA:=jH M,er:=(h.xR fun b ae=>qv.1 ae),ea:=fun b o h=>.inl h,aA:=fun l _=>⟨rfl,rfl⟩
  b6:=⟨rfl,rfl,rfl,Nat.le_refl _,fun _ _ _=>rfl⟩}
theorem cl.comp{jW:c7}{S S':ad}{V br:cu}{M bo:Mem}{w w':World}(h:cl E S V M w)(W:cl jW S' br bo w')(aX:jW.iu=w)(bu:jW.hv=M)(dV:jW.nL=V)(iw:∀l∈E.aA,l∈jW.aA)(sQ:∀b∈jW.b4,∃l,di V S l/\V.aI l=b):cl E S' br bo w':=by
 subst aX;subst bu;subst dV
 have bf:=W.b6
 have Z:∀b∈jW.b4,E.iu.heap.size<=b\/b∈E.b4:=fun b ae=>by
  obtain⟨l,aa,rfl⟩:=sQ b ae
  exact h.dt l aa
 exact
  {
   dn:=W.dn,inj:=W.inj,dO:=W.dO
   dt:=fun l aa=>by
    rcases W.dt l aa with aH|aH
    ·exact .inl (Nat.le_trans h.b6.size aH)
    ·exact Z _ aH
   cE:=W.cE,mem:=W.mem,dA:=tQ h.dA W.dA,er:=h.er
   ea:=fun b o ae=>by
    rcases W.ea b o ae with aH|aH|aH
    ·exact h.ea b o aH
    ·exact .inr (.inl (Nat.le_trans h.b6.size aH))
    ·exact .inr (Z _ aH)
   aA:=fun l aa=>by
    have a:=W.aA l (iw l aa)
    have b:=h.aA l aa
    exact⟨a.1.trans b.1,a.2.trans b.2⟩
   b6:=⟨bf.os.trans h.b6.os,bf.tape.trans h.b6.tape,bf.output.trans h.b6.output,Nat.le_trans h.b6.size bf.size,fun b ae af=>(bf.block b (Nat.lt_of_lt_of_le ae h.b6.size) fun ij=>by
    rcases Z b ij with aH|aH
    ·omega
    ·exact af aH).trans (h.b6.block b ae af)⟩}
theorem mZ.from{S:ad}{a:Act}{w:World}(h:mZ ro E S a w):∃jW:c7,jW.aA=E.aA/\jW.cg=E.cg/\ei jW S a w/\∀S' gL w',ei jW S' gL w'->mZ ro E S' gL w':=by
 obtain⟨ms,bb,J,W,V,M,aC,hw⟩:=h
 refine⟨E.bS S V M w a.defers,rfl,rfl,⟨V,M,⟨aC.fT,aC.size,rfl⟩,hw.ly _⟩,?_⟩
 rintro S' gL w' ⟨br,bo,ix,b8⟩
 refine⟨ms,bb,ix.defers.trans J,⟨W.1,fun m aw=>⟨(W.2 m aw).1,?_⟩⟩,br,bo,⟨ix.fT,ix.size,rfl⟩,hw.comp b8 D D D (fun _ h=>h) fun b ae=>qv.1 ae⟩
 have aH:=(W.2 m aw).2
 refine(b8.b6.block m (Array.getElem?_eq_some_iff.1 aH).1 fun ae=>?_).trans aH
 obtain⟨l,⟨⟨B,cP⟩,K⟩,he⟩:=qv.1 ae
 have eO:=hw.dn l B cP
 cases B with
 |cells cs=>obtain⟨_,vs,t,aW,_⟩:=eO;rw[he,aH]at aW;cases aW
 |data ds=>obtain⟨_,vs,t,aW,_⟩:=eO;rw[he,aH]at aW;cases aW
 |fq n len cs=>obtain⟨_,vs,t,aW,_⟩:=eO;rw[he,aH]at aW;cases aW
 |bG n len cs=>
  obtain⟨_,_,aW⟩:=eO
  split at aW
  ·rename_i h;exact absurd h K
  ·obtain⟨_,vs,t,aW,_⟩:=aW;rw[he,aH]at aW;cases aW
 |eh h' ts=>obtain⟨_,fn,tmps,d,aW,_⟩:=eO;rw[he,aH]at aW;cases aW
 |gR ls cs=>
  have eO:jj V M w l ls cs:=eO
  unfold jj at eO
  replace eO:=eO.2
  split at eO
  ·rename_i h;exact absurd h K
  ·obtain⟨_,vs,t,aW,_⟩:=eO;rw[he,aH]at aW;cases aW
 |tR ks=>obtain⟨_,es,c,aW,_⟩:=eO;rw[he,aH]at aW;cases aW
 |rY cs o=>cases lr.lv eO (by rw[he];exact aH)
 |k2 cs o=>cases lr.lv eO (by rw[he];exact aH)
theorem mu.mv{jW:c7}{L:List cx}(h:mu E L)(J:jW.aA=E.aA)(W:jW.cg=E.cg):mu jW L:=fun A dk=>⟨by rw[J];exact(h A dk).1,by rw[W];exact(h A dk).2⟩
def rb(ro:eR)(E:c7)(Q:Exit->ad->Prop):Exit->Act->World->Prop:=fun e a w=>(∃S',Q e S'/\mZ ro E S' a w)\/∃x,ro.gm x/\e= .panic x.1/\mZ ro E x.2 a w
def c8(P:Program)(ro:eR)(E:c7)(c:Code)(S:ad)(Q:Exit->ad->Prop):Prop:=
 ∀a w,mZ ro E S a w->c.wpIn (ja P ro) 0 P (rb ro E Q) a w
theorem rb.mono{ro:eR}{E:c7}{Q DM:Exit->ad->Prop}(bA:∀e S,Q e S->DM e S){e:Exit}{a:Act}{w:World}:rb ro E Q e a w->rb ro E DM e a w
 | .inl ⟨S',q,r⟩=>.inl ⟨S',bA _ _ q,r⟩
 | .inr h=>.inr h
theorem c8.mono{c:Code}{S:ad}{Q DM:Exit->ad->Prop}(h:c8 P ro E c S Q)(bA:∀e S,Q e S->DM e S):c8 P ro E c S DM:=
 fun a w aE=>wpIn_mono (h a w aE) fun e a w=>rb.mono bA
theorem c8.fj{c:Code}{S T:ad}{Q:Exit->ad->Prop}(h:c8 P ro E c T Q)(hle:T.le S):c8 P ro E c S Q:=
 fun a w aE=>h a w (aE.fj hle)
theorem bx{S:ad}{Q:Exit->ad->Prop}(h:Q .normal S):c8 P ro E .skip S Q:=fun _ _ aE=>wpIn_skip (.inl ⟨S,h,aE⟩)
theorem dW{S:ad}{Q:Exit->ad->Prop}{l:Nat}(h:Q (.exit l) S):c8 P ro E (.exit l) S Q:=fun _ _ aE=>wpIn_exit (.inl ⟨S,h,aE⟩)
theorem bp{S:ad}{Q:Exit->ad->Prop}(h:Q .ret S):c8 P ro E .ret S Q:=fun _ _ aE=>wpIn_ret (.inl ⟨S,h,aE⟩)
def zD(fg:ad->Prop)(Q:Exit->ad->Prop):Exit->ad->Prop
 | .normal,S=>fg S
 |e,S=>Q e S
theorem al{x y:Code}{S:ad}{Q:Exit->ad->Prop}(h:c8 P ro E x S (zD (fun S'=>c8 P ro E y S' Q) Q)):c8 P ro E (.seq x y) S Q:=
 fun a w aE=>wpIn_seq (wpIn_mono (h a w aE) fun e a w Z=>by
  rcases Z with⟨S',q,r⟩|⟨x,Z,rfl,r⟩
  ·cases e with
   |normal=>exact q a w r
   |_=>exact .inl ⟨S',q,r⟩
  ·exact .inr ⟨x,Z,rfl,r⟩)
def NY(id:Nat)(Q:Exit->ad->Prop):Exit->ad->Prop
 | .exit i,S=>bif Nat.beq i id then Q .normal S else Q (.exit i) S
 |e,S=>Q e S
theorem bX{x:Code}{id:Nat}{S:ad}{Q:Exit->ad->Prop}(h:c8 P ro E x S (NY id Q)):c8 P ro E (.block id x) S Q:=
 fun a w aE=>wpIn_block (wpIn_mono (h a w aE) fun e a w Z=>by
  rcases Z with⟨S',q,r⟩|⟨x,Z,rfl,r⟩
  ·cases e with
   |exit i=>
    simp only[Exit.inBlock]
    simp only[NY,ih]at q
    split
    ·rename_i hi;simp only[hi,decide_true,cond_true]at q;exact .inl ⟨S',q,r⟩
    ·rename_i hi;simp only[hi,decide_false,cond_false]at q;exact .inl ⟨S',q,r⟩
   |_=>exact .inl ⟨S',q,r⟩
  ·exact .inr ⟨x,Z,rfl,r⟩)
def bg.JG:Value->bg
 | .agg cs=>.agg (cs.toList.map .v)
 |u=>.v u
theorem VE(M:Mem)(v:Value):ey M (bg.JG v) v:=by
 cases v with
 |agg cs=>
  simp only[bg.JG]
  have:=ey.agg (M:=M) (cs.toList.map .v) cs.toList (by simp) (by
   intro j x y Y ak
   simp only[fJ,Option.map_eq_some_iff]at Y
   obtain⟨z,bd,rfl⟩:=Y
   rw[ak]at bd
   injection bd with bd
   subst bd
   exact .v _)
  simpa using this
 |_=>exact .v _
def dK(S:ad):Operand->Option ai
 | .tmp t=>match S.get (ab t)with
  |some (.aB x)=>some x
  |_=>none
 | .const v=>some (.d (bg.JG v))
 | .func f=>some (.fn f [])
 | .global g=>some (.d (.v (.pointer (some ⟨g,0,none⟩))))
theorem Gp{S:ad}{V:cu}{M:Mem}{a:Act}{x:Operand}{y:ai}(an:∀t y,x= .tmp t->S.get (ab t)=some (.aB y)->∃v,a.tmps[t]?=some v/\bU V M y v)(h:dK S x=some y):bU V M y (a.eval x):=by
 cases x with
 |tmp t=>
  simp only[dK]at h
  split at h
  ·rename_i z bd
   injection h with h;subst h
   obtain⟨v,aK,aq⟩:=an t _ rfl bd
   simp only[Act.eval,Array.getD_eq_getD_getElem?,aK,Option.getD_some]
   exact aq
  ·cases h
 |const v=>simp only[dK]at h;injection h with h;subst h;exact .d _ _ (VE M v)
 |func f=>simp only[dK]at h;injection h with h;subst h;exact .fn f [] [] D fun j x y Y _=>by simp at Y
 |global g=>simp only[dK]at h;injection h with h;subst h;exact .d _ _ (.v _)
inductive cd(S:ad)(c:Bool)(x:Operand):ai->Prop
 |dB {y:ai} (h:dK S x=some y):cd S c x y
 |bB {gp:Bool} {y:ai} (h:dK S x=some (.bB gp y)) (aj:c=true->gp=true):cd S c x y
structure jc(E:c7)(S:ad)(o:Oper)(dE:List Nat)(c:Bool)(V:cu)(M:Mem)(a:Act)(w:World):Prop where
 ez:∀x∈o.op.operands,∀y,cd S c x y->bU V M y (a.eval x)
 U:∀l∈dE,∀B,S.get (G l)=some (.U B)->gC V M w l B
 mem:∀b o v,M b o=some v->w.cell? ⟨b,o,none⟩=some v
 er:u4 M
def sR:Op->Bool
 | .defer _=>false
 | .call c=>match c.callee with
  | .builtin _=>true
  |_=>false
 |_=>true
def Pure(P:Program)(S:ad)(dE:List Nat)(o:Oper)(c:Bool)(x:ai):Prop:=
 sR o.op=true/\∀E V M a w,jc E S o dE c V M a w->c=true->∃v,(execOp a.eval o).run P w= .ok (.value v) w/\bU V M x v
def cQ(o:Oper):List Nat:=o.op.operands.toList.filterMap fun| .tmp t=>some (ab t)|_=>none
theorem VF{o:Oper}{t:Nat}(h:Operand.tmp t∈o.op.operands):ab t∈cQ o:=by
 simp only[cQ,List.mem_filterMap]
 exact⟨.tmp t,by simpa using h,rfl⟩
def wA(w:Bool):ai->Option Bool
 | .d (.v (.bool g))=>some (g==w)
 | .bB c (.d (.v (.bool g)))=>some (c&&(g==w))
 |_=>none
def mw(ops:Array Oper)(S:ad)(o:Oper):Option (List Nat×Bool):=
 match o.guard with
 |none=>some ([],true)
 |some (j,w)=>match(ops[j]?).bind (·.dst)with
  |none=>none
  |some t=>match S.get (ab t)with
   |some (.aB x)=>(wA w x).map fun c=>([ab t],c)
   |_=>none
theorem qw{S aY:ad}{V:cu}{M:Mem}{a:Act}{w:World}{o:Oper}{dE:List Nat}{c:Bool}{rn:List Nat}(kf:∀n∈rn,S.get n=aY.get n)(J:∀n∈cQ o,n∈rn)(W:∀l∈dE,G l∈rn)
  (aj:c=true) (aC:jk E S V M a) (hw:cl E S V M w):jc E aY o dE c V M a w where
 ez:=fun x Y y ak=>by
  have key:∀t y,x= .tmp t->aY.get (ab t)=some (.aB y)->∃v,a.tmps[t]?=some v/\bU V M y v:=fun t y e h=>by
   subst e
   rw[<-kf _ (J _ (VF Y))]at h
   exact aC.fT t y h
  cases ak with
  |dB h=>exact Gp key h
  |bB h iy=>
   have:=Gp key h
   cases this with
   |bB _ _ _ h _=>exact h (iy aj)
 U:=fun l aa B cP=>hw.dn l B (by rw[kf _ (W l aa)];exact cP)
 mem:=hw.mem
 er:=hw.xQ
theorem qx{a b:Nat}(h:ab a=ab b):a=b:=by unfold ab at h;omega
theorem iz(a b:Nat):ab a≠G b:=by unfold ab G;omega
theorem pc(S:ad)(n:Nat)(c:Option dz)(m:Nat):(S.eK [(n,c)]).get m=if n=m then c else S.get m:=by
 rw[mY];rfl
theorem xY{S:ad}{V:cu}{M:Mem}{w:World}(h:cl E S V M w)(t:Nat)(x:ai):cl E (S.eK [(ab t,some (.aB x))]) V M w:=by
 have ae:∀l,(S.eK [(ab t,some (.aB x))]).get (G l)=S.get (G l):=fun l=>by rw[pc,if_neg (iz t l)]
 have aW:∀l,di V (S.eK [(ab t,some (.aB x))]) l->di V S l:=fun l aa=>⟨by simpa only[ae]using aa.1,aa.2⟩
 exact{
  dn:=fun l B e=>h.dn l B (by rwa[ae]at e),inj:=fun l l' a b=>h.inj l l' (aW l a) (aW l' b),dO:=fun l a=>h.dO l (aW l a),dt:=fun l a=>h.dt l (aW l a),cE:=fun l a=>h.cE l (aW l a),
  mem:=h.mem,dA:=h.dA,er:=h.er,ea:=h.ea,aA:=h.aA,b6:=h.b6}
theorem tX{S:ad}{V:cu}{M:Mem}{a:Act}(h:jk E S V M a)(t:Nat)(x:ai)(v:Value)(aT:t<E.cg)(aq:bU V M x v):jk E (S.eK [(ab t,some (.aB x))]) V M (a.put (some t) v) where
 fT:=fun s y e=>by
  rw[pc]at e
  by_cases an:t=s
  ·subst an
   rw[if_pos rfl]at e
   injection e with e;injection e with e;subst e
   exact⟨v,by simp[Act.put,h.size,aT],aq⟩
  ·rw[if_neg fun e=>an (qx e)]at e
   obtain⟨u,hu,jX⟩:=h.fT s y e
   exact⟨u,by simp[Act.put,an,hu],jX⟩
 size:=by simp[Act.put,h.size]
 defers:=h.defers
theorem NZ{o:Op}(h:sR o=true):∀d,o≠ .defer d:=fun d e=>by subst e;cases h
theorem DN[h:jI ro](o:Oper)(a:Act)(w:World):∀f,o.about P w a.eval=some f->(ja P ro).fn f:=fun f _ e=>by rw[h.gn]at e;cases e
theorem Gq{o:Oper}(h:sR o.op=true)(a:Act)(w:World):∀f,o.about P w a.eval=some f->(ja P ro).fn f:=fun f e=>by
 unfold Oper.about at e
 split at e
 ·rename_i c aj
  rw[aj]at h
  simp only[sR]at h
  split at h
  ·rename_i b ae
   simp[resolve,ae,e5,Target.leads]at e
  ·cases h
 ·cases e
theorem sS{o:Oper}{a:Act}{w w':World}{v:Value}{fg:Act->World->Prop}{Q:Exit->Act->World->Prop}(aq:sR o.op=true)
  (aE:(execOp a.eval o).run P w= .ok (.value v) w') (K:fg (a.put o.dst v) w'):o.wpIn (ja P ro) 0 P a w fg Q:=by
 refine⟨Gq aq a w,?_⟩
 rw[Oper.semAt_eq _ _ _ (NZ aq),aE]
 exact K
theorem N0{o:Oper}{a:Act}{w w':World}{fg:Act->World->Prop}{Q:Exit->Act->World->Prop}(aq:sR o.op=true)
  (aE:(execOp a.eval o).run P w= .ok .skip w') (K:fg (a.put o.dst undef) w'):o.wpIn (ja P ro) 0 P a w fg Q:=by
 refine⟨Gq aq a w,?_⟩
 rw[Oper.semAt_eq _ _ _ (NZ aq),aE]
 exact K
def lz(o:Oper)(c:Bool)(x:ai):ai:=match o.guard with|none=>x|some _=>.bB c x
theorem DO{S aY:ad}{V:cu}{M:Mem}{a:Act}{o:Oper}{g:List Nat}{c:Bool}{rn:List Nat}(kf:∀n∈rn,S.get n=aY.get n)(aM:mw ops aY o=some (g,c))(J:∀n∈g,n∈rn)
  (aC:jk E S V M a):Region.wanted o (yielded ops a.tmps)=c:=by
 unfold mw at aM
 unfold Region.wanted
 split at aM
 ·rename_i h;rw[h];injection aM with aM;injection aM with _ W
 ·rename_i j w h
  rw[h]
  split at aM
  ·cases aM
  ·rename_i t aT
   split at aM
   ·rename_i x Y
    simp only[Option.map_eq_some_iff]at aM
    obtain⟨gp,iy,he⟩:=aM
    injection he with JH JI
    subst JH;subst JI
    rw[<-kf _ (J _ (by simp))]at Y
    obtain⟨v,aK,aq⟩:=aC.fT t x Y
    have ak:yielded ops a.tmps j=(match(some v:Option Value)with|some (.bool b)=>some b|_=>none):=by
     unfold yielded;rw[aT];simp only[Option.bind_some,aK];cases v<;>rfl
    simp only[ak]
    cases x with
    |d y=>
     cases y with
     |v z=>
      cases z with
      |bool b=>
       simp only[wA,en]at iy
       cases aq with
       |d _ _ h=>cases h with|v _=>rw[<-iy];simp
      |_=>simp[wA]at iy
     |_=>simp[wA]at iy
    |bB e y=>
     cases y with
     |d y=>
      cases y with
      |v z=>
       cases z with
       |bool b=>
        simp only[wA,en]at iy
        cases aq with
        |bB _ _ _ h hu=>
         cases e with
         |true=>
          have:=h D
          cases this with
          |d _ _ h=>cases h with|v _=>rw[<-iy];simp
         |false=>rw[hu D,<-iy];simp[undef]
       |_=>simp[wA]at iy
      |_=>simp[wA]at iy
     |_=>simp[wA]at iy
    |_=>simp[wA]at iy
   ·cases aM
theorem VG{aY:ad}{o:Oper}{t:Nat}{dE g:List Nat}{c:Bool}{x:ai}(gM:o.dst=some t)(aM:mw ops aY o=some (g,c))(Z:Pure P aY dE o c x):
  kA P ro ops o ⟨cQ o++g++dE.map G,aY,[(ab t,some (.aB (lz o c x)))],[]⟩:=by
 intro E S a w an _ dX ⟨V,M,aC,hw⟩ Q gD
 have aT:t<E.cg:=dX.2 t (by simp[cx.jl])
 have tY:=DO (E:=E) an aM (fun n af=>by simp[af]) aC
 unfold lx
 cases c with
 |true=>
  rw[if_pos tY]
  obtain⟨v,aE,aq⟩:=Z.2 E V M a w (qw an (fun n af=>by simp[af]) (fun l aa=>by simp only[hy,List.mem_map];right;exact⟨l,aa,rfl⟩) D aC hw) D
  refine sS Z.1 aE ?_
  rw[gM]
  refine⟨V,M,tX aC t _ v aT ?_,xY hw t _⟩
  unfold lz
  split
  ·exact aq
  ·exact .bB _ _ _ (fun _=>aq) fun h=>by cases h
 |false=>
  rw[if_neg (by rw[tY];simp)]
  refine⟨Gq Z.1 a w,?_⟩
  rw[gM]
  have b8:lz o false x= .bB false x:=by
   unfold lz
   split
   ·rename_i h;unfold mw at aM;rw[h]at aM;simp at aM
   ·rfl
  rw[b8]
  exact⟨V,M,tX aC t _ undef aT (.bB _ _ _ (fun h=>by cases h) fun _=>rfl),xY hw t _⟩
theorem bI.pure{aY S':ad}{o:Oper}{r:List Oper}{L:List cx}{t:Nat}{x:ai}(dE:List Nat){g:List Nat}{c:Bool}(Z:Pure P aY dE o c x)(gM:o.dst=some t)(aM:mw ops aY o=some (g,c))
  (h:bI P ro ops r ((ab t,.aB (lz o c x))::aY) L S'):
  bI P ro ops (o::r) aY (⟨cQ o++g++dE.map G,aY,[(ab t,some (.aB (lz o c x)))],[]⟩::L) S':=
 .cons (VG gM aM Z) (fun _ _=>rfl) (fun l aa=>by cases aa) (ra aY _ _) h
theorem dm{id:Nat}{S S':ad}{L:List cx}{Q:Exit->ad->Prop}(h:bI P ro ops ops.toList S L S')(K:mu E L)(bA:Q .normal S'):c8 P ro E (.region id ops false) S Q:=by
 intro a w aE
 obtain⟨jW,aX,bu,k3,du⟩:=aE.from
 refine wpIn_region ?_
 have:=DA (Q:=rb ro E Q) h (K.mv aX bu) (fun x Z a w aE=>.inr ⟨x,Z,rfl,du _ _ _ aE⟩) (fun a w aE=>.inl ⟨S',bA,du _ _ _ aE⟩) 0 (fun j=>by simp) a w k3
 rw[List.range_eq_range',<-Array.length_toList]
 exact this
theorem xZ{id:Nat}{S S':ad}{L:List cx}{Q:Exit->ad->Prop}(aw:P.follows .mixedOrders=true)(h:bI P ro ops ops.toList S L S')(aq:wy ops.toList S L=true)(K:mu E L)(bA:Q .normal S'):
  c8 P ro E (.region id ops true) S Q:=by
 intro a w aE
 obtain⟨jW,aX,bu,k3,du⟩:=aE.from
 exact wpIn_region_any aw (NX h aq (K.mv aX bu) (fun x Z a w aE=>.inr ⟨x,Z,rfl,du _ _ _ aE⟩) (fun a w aE=>.inl ⟨S',bA,du _ _ _ aE⟩) (k3.drawn _))
theorem a7{c:Operand}{x y:Code}{S:ad}{Q:Exit->ad->Prop}{t:Bool}(aj:dK S c=some (.d (.v (.bool t))))(J:t=true->c8 P ro E x S Q)(W:t=false->c8 P ro E y S Q):c8 P ro E (.cond c x y) S Q:=by
 intro a w aE
 have jY:=aE
 obtain⟨ms,_,_,_,V,M,aC,hw⟩:=aE
 have aq:=Gp (fun s y _ h=>aC.fT s y h) aj
 have he:Act.eval {a with defers:=E.wu} c=a.eval c:=by cases c<;>rfl
 rw[he]at aq
 have:a.eval c= .bool t:=by
  generalize a.eval c=u at aq
  cases aq with|d _ _ h=>cases h with|v _=>rfl
 exact wpIn_cond_split this (fun h=>J h a w jY) fun h=>W h a w jY
theorem c8.loop{σ:Type}{c:Code}{S:ad}{Q:Exit->ad->Prop}(Inv:σ->ad)(re:σ->Prop)(m:σ->Nat)(r2:σ)(h₀:(Inv r2).le S)(DP:re r2)
  (round:∀x,re x->c8 P ro E c (Inv x) (zD (fun S'=>∃y,re y/\m y<m x/\(Inv y).le S') Q)):c8 P ro E (.loop c) S Q:=by
 intro a w aE
 let p:Act->World->Nat->Prop:=fun a w n=>∃x,re x/\m x=n/\mZ ro E (Inv x) a w
 refine wpIn_loop (fun a w=>∃n,p a w n) (fun a w=>leastOf (p a w)) ⟨m r2,r2,DP,rfl,aE.fj h₀⟩ ?_
 intro a w hI
 obtain⟨⟨x,Y,af,JJ⟩,VH⟩:=leastOf_spec hI
 refine wpIn_mono (round x Y a w JJ) ?_
 rintro e gL w' (⟨S',q,r⟩|⟨x,Z,rfl,r⟩)
 ·cases e with
  |normal=>
   obtain⟨y,ak,aG,hle⟩:=q
   have Z:p gL w' (m y):=⟨y,ak,rfl,r.fj hle⟩
   refine⟨⟨m y,Z⟩,?_⟩
   have J:=(leastOf_spec ⟨m y,Z⟩).2 (m y) Z
   show leastOf (p gL w')<leastOf (p a w)
   omega
  |_=>exact .inl ⟨S',q,r⟩
 ·exact .inr ⟨x,Z,rfl,r⟩
end
section
variable {P:Program} {S:ad} {c:Bool}
abbrev aF(k:IntKind)(n:Int):ai:=.d (.v (.int k n))
abbrev bk(b:Bool):ai:=.d (.v (.bool b))
abbrev jm(s:ByteArray):ai:=.d (.v (.string s))
abbrev k4:ai:=.d (.v (.slice none 0 0))
theorem qy{V:cu}{M:Mem}{u v:Value}(h:bU V M (.d (.v u)) v):v=u:=by
 cases h with|d _ _ h=>cases h;rfl
theorem jc.val{E:c7}{V:cu}{M:Mem}{a:Act}{w:World}{o:Oper}{dE:List Nat}(h:jc E S o dE c V M a w){x:Operand}{u:Value}(Y:x∈o.op.operands)(e:cd S c x (.d (.v u))):a.eval x=u:=
 qy (h.ez x Y _ e)
theorem IntKind.wrap_in(k:IntKind)(n:Int)(h:k.min<=n/\n<=k.max):k.wrap n=n:=by
 obtain⟨J,W⟩:=h
 unfold IntKind.wrap
 cases k<;>simp[IntKind.min,IntKind.max,IntKind.signed,IntKind.bits]at* <;>first|(split<;>omega)|omega
theorem iO{r:Int}(h:-9223372036854775808<=r/\r<=9223372036854775807):IntKind.min .i64<=r/\r<=IntKind.max .i64:=by
 simpa[IntKind.min,IntKind.max,IntKind.signed,IntKind.bits]using h
section
variable {o:Oper} {x y z:Operand} {d:Option Tmp} {ty t t':TypeId} {pos:String} {a6:Array Edge} {bB:Option (Nat×Bool)}
theorem Pure.move{r:ai}(e:cd S c x r):Pure P S [] ⟨d,.move x,ty,pos,a6,bB⟩ c r:=
 ⟨rfl,fun E V M a w h _=>⟨a.eval x,rfl,h.ez x (by simp[Op.operands]) _ e⟩⟩
theorem Pure.assign{r:ai}(e:cd S c x r):Pure P S [] ⟨d,.assign x,ty,pos,a6,bB⟩ c r:=
 ⟨rfl,fun E V M a w h _=>⟨a.eval x,rfl,h.ez x (by simp[Op.operands]) _ e⟩⟩
theorem Pure.pick{b p q:Bool}(aX:cd S c x (bk b))(bu:cd S (c&&b) y (bk p))(dV:cd S (c&& !b) z (bk q)):Pure P S [] ⟨d,.pick x y z,ty,pos,a6,bB⟩ c (bk (bif b then p else q)):=by
 refine⟨rfl,fun E V M a w h aj=>?_⟩
 have J:=h.val (by simp[Op.operands]) aX
 subst aj
 cases b with
 |true=>
  have W:a.eval y= .bool p:=h.val (by simp[Op.operands]) (by simpa using bu)
  generalize a.eval=aI at*
  exact⟨.bool p,by simp[execOp,J,W,asBool,go_sem],.d _ _ (.v _)⟩
 |false=>
  have W:a.eval z= .bool q:=h.val (by simp[Op.operands]) (by simpa using dV)
  generalize a.eval=aI at*
  exact⟨.bool q,by simp[execOp,J,W,asBool,go_sem],.d _ _ (.v _)⟩
def nv:BinOp->Int->Int->Option Int
 | .add,m,n=>some (m+n)
 | .sub,m,n=>some (m-n)
 | .mul,m,n=>some (m*n)
 |_,_,_=>none
theorem Pure.u6{op:BinOp}{k:IntKind}{m n r:Int}(aX:cd S c x (aF k m))(bu:cd S c y (aF k n))(aE:nv op m n=some r):Pure P S [] ⟨d,.binOp op t x y t',ty,pos,a6,bB⟩ c (aF k (k.wrap r)):=by
 refine⟨rfl,fun E V M a w h aj=>?_⟩
 have J:=h.val (by simp[Op.operands]) aX
 have W:=h.val (by simp[Op.operands]) bu
 generalize a.eval=aI at*
 refine⟨_,?_,.d _ _ (.v _)⟩
 cases op<;>simp only[nv,reduceCtorEq,en]at aE<;>subst aE<;>simp[execOp,J,W,eqGuard,binOp,Op.intArith,go_sem]
theorem Pure.nv{op:BinOp}{k:IntKind}{m n r:Int}(aX:cd S c x (aF k m))(bu:cd S c y (aF k n))(aE:nv op m n=some r)(ae:c=true->k.min<=r/\r<=k.max):Pure P S [] ⟨d,.binOp op t x y t',ty,pos,a6,bB⟩ c (aF k r):=by
 have:=Pure.u6 (P:=P) (d:=d) (t:=t) (t':=t') (ty:=ty) (pos:=pos) (a6:=a6) (bB:=bB) aX bu aE
 refine⟨this.1,fun E V M a w h aj=>?_⟩
 have W:=this.2 E V M a w h aj
 rwa[IntKind.wrap_in k r (ae aj)]at W
def DQ:BinOp->Int->Int->Option Bool
 | .eql,m,n=>some (decide (m=n))
 | .neq,m,n=>some (!decide (m=n))
 | .lss,m,n=>some (decide (m<n))
 | .leq,m,n=>some (decide (m<=n))
 | .gtr,m,n=>some (decide (n<m))
 | .geq,m,n=>some (decide (n<=m))
 |_,_,_=>none
theorem Pure.qz{op:BinOp}{k:IntKind}{m n:Int}{r:Bool}(aX:cd S c x (aF k m))(bu:cd S c y (aF k n))(aE:DQ op m n=some r):Pure P S [] ⟨d,.binOp op t x y t',ty,pos,a6,bB⟩ c (bk r):=by
 refine⟨rfl,fun E V M a w h aj=>?_⟩
 have J:=h.val (by simp[Op.operands]) aX
 have W:=h.val (by simp[Op.operands]) bu
 generalize a.eval=aI at*
 refine⟨_,?_,.d _ _ (.v _)⟩
 cases op<;>simp only[DQ,reduceCtorEq,en]at aE<;>subst aE<;>simp[execOp,J,W,eqGuard,binOp,Op.intCmp,go_sem,bne]<;>rfl
theorem Pure.quo{k:IntKind}{m n:Int}(aX:cd S c x (aF k m))(bu:cd S c y (aF k n))(bb:c=true->n≠0):Pure P S [] ⟨d,.binOp .quo t x y t',ty,pos,a6,bB⟩ c (aF k (k.wrap (m.tdiv n))):=by
 refine⟨rfl,fun E V M a w h aj=>?_⟩
 have J:=h.val (by simp[Op.operands]) aX
 have W:=h.val (by simp[Op.operands]) bu
 generalize a.eval=aI at*
 refine⟨_,?_,.d _ _ (.v _)⟩
 simp[execOp,J,W,eqGuard,binOp,Op.intDiv,bb aj,go_sem]
theorem Pure.rem{k:IntKind}{m n:Int}(aX:cd S c x (aF k m))(bu:cd S c y (aF k n))(bb:c=true->n≠0):Pure P S [] ⟨d,.binOp .rem t x y t',ty,pos,a6,bB⟩ c (aF k (m.tmod n)):=by
 refine⟨rfl,fun E V M a w h aj=>?_⟩
 have J:=h.val (by simp[Op.operands]) aX
 have W:=h.val (by simp[Op.operands]) bu
 generalize a.eval=aI at*
 refine⟨_,?_,.d _ _ (.v _)⟩
 simp[execOp,J,W,eqGuard,binOp,Op.intDiv,bb aj,go_sem]
theorem Pure.beq{p q:Bool}(hu:P.underlying t=some .bool)(aX:cd S c x (bk p))(bu:cd S c y (bk q)):Pure P S [] ⟨d,.binOp .eql t x y t',ty,pos,a6,bB⟩ c (bk (p==q)):=by
 refine⟨rfl,fun E V M a w h aj=>?_⟩
 have J:=h.val (by simp[Op.operands]) aX
 have W:=h.val (by simp[Op.operands]) bu
 generalize a.eval=aI at*
 refine⟨_,?_,.d _ _ (.v _)⟩
 simp only[execOp,J,W,eqGuard]
 simp[run_eql_bool,run_neq_bool,hu,go_sem]
theorem N1(p q:ByteArray):(p.toList==q.toList)=decide (p=q):=by
 have key:∀(a b:ByteArray),a.toList=b.toList->a=b:=by
  intro a b h
  rw[ByteArray.toList_eq,ByteArray.toList_eq]at h
  exact ByteArray.ext (Array.toList_inj.1 h)
 rw[Bool.eq_iff_iff]
 simp only[beq_iff_eq,decide_eq_true_eq]
 exact⟨key p q,fun h=>by rw[h]⟩
theorem Pure.seq{p q:ByteArray}(aX:cd S c x (jm p))(bu:cd S c y (jm q)):Pure P S [] ⟨d,.binOp .eql t x y t',ty,pos,a6,bB⟩ c (bk (decide (p=q))):=by
 refine⟨rfl,fun E V M a w h aj=>?_⟩
 have J:=h.val (by simp[Op.operands]) aX
 have W:=h.val (by simp[Op.operands]) bu
 generalize a.eval=aI at*
 refine⟨_,?_,.d _ _ (.v _)⟩
 simp only[execOp,J,W,eqGuard,binOp,Op.stringOp,N1]
 simp[go_sem]
theorem Pure.VI{p q:ByteArray}(aX:cd S c x (jm p))(bu:cd S c y (jm q)):Pure P S [] ⟨d,.binOp .neq t x y t',ty,pos,a6,bB⟩ c (bk (!decide (p=q))):=by
 refine⟨rfl,fun E V M a w h aj=>?_⟩
 have J:=h.val (by simp[Op.operands]) aX
 have W:=h.val (by simp[Op.operands]) bu
 generalize a.eval=aI at*
 refine⟨_,?_,.d _ _ (.v _)⟩
 simp only[execOp,J,W,eqGuard,binOp,Op.stringOp,N1]
 simp[go_sem]
theorem Pure.not{p:Bool}(aX:cd S c x (bk p)):Pure P S [] ⟨d,.unOp .not t x,ty,pos,a6,bB⟩ c (bk (!p)):=by
 refine⟨rfl,fun E V M a w h aj=>?_⟩
 have J:=h.val (by simp[Op.operands]) aX
 generalize a.eval=aI at*
 refine⟨_,?_,.d _ _ (.v _)⟩
 simp[execOp,J,Op.unary,go_sem]
theorem Pure.neg{k:IntKind}{m:Int}(aX:cd S c x (aF k m))(ae:c=true->k.min<=-m/\-m<=k.max):Pure P S [] ⟨d,.unOp .neg t x,ty,pos,a6,bB⟩ c (aF k (-m)):=by
 refine⟨rfl,fun E V M a w h aj=>?_⟩
 have J:=h.val (by simp[Op.operands]) aX
 generalize a.eval=aI at*
 refine⟨_,?_,.d _ _ (.v _)⟩
 have:k.wrap (0-m)=-m:=by rw[show(0:Int)-m=-m by omega];exact IntKind.wrap_in k _ (ae aj)
 simp[execOp,J,Op.unary,Op.intArith,go_sem,IntKind.wrap_in k _ (ae aj)]
theorem Pure.conv{k jZ:IntKind}{m:Int}{u:TypeDesc}(J:P.underlying t=some u)(W:P.underlying t'=some (.int jZ))(aX:cd S c x (aF k m)):Pure P S [] ⟨d,.convert t t' x,ty,pos,a6,bB⟩ c (aF jZ (jZ.wrap m)):=by
 refine⟨rfl,fun E V M a w h aj=>?_⟩
 have aH:=h.val (by simp[Op.operands]) aX
 generalize a.eval=aI at*
 refine⟨_,?_,.d _ _ (.v _)⟩
 simp[execOp,aH,convert,run_underlying J,run_underlying W,Conv.intToInt,go_sem]
theorem Pure.min2{k:IntKind}{m n:Int}{ts:Array TypeId}(aX:cd S c x (aF k m))(bu:cd S c y (aF k n)):Pure P S [] ⟨d,.call ⟨.builtin .min,#[x,y],ts⟩,ty,pos,a6,bB⟩ c (aF k (min m n)):=by
 refine⟨rfl,fun E V M a w h aj=>?_⟩
 have J:=h.val (by simp[Op.operands,Call.operands]) aX
 have W:=h.val (by simp[Op.operands,Call.operands]) bu
 generalize a.eval=aI at*
 refine⟨_,?_,.d _ _ (.v _)⟩
 have:(if n<m then n else m)=min m n:=by omega
 simp[execOp,resolve,invoke,builtin,Builtin.min_,Builtin.min2,J,W,go_sem,this]
theorem Pure.max2{k:IntKind}{m n:Int}{ts:Array TypeId}(aX:cd S c x (aF k m))(bu:cd S c y (aF k n)):Pure P S [] ⟨d,.call ⟨.builtin .max,#[x,y],ts⟩,ty,pos,a6,bB⟩ c (aF k (max m n)):=by
 refine⟨rfl,fun E V M a w h aj=>?_⟩
 have J:=h.val (by simp[Op.operands,Call.operands]) aX
 have W:=h.val (by simp[Op.operands,Call.operands]) bu
 generalize a.eval=aI at*
 refine⟨_,?_,.d _ _ (.v _)⟩
 have:(if m<n then n else m)=max m n:=by omega
 simp[execOp,resolve,invoke,builtin,Builtin.max_,Builtin.max2,J,W,go_sem,this]
theorem Pure.sT{s:ByteArray}{ts:Array TypeId}(l4:ts[0]?=some t)(hu:P.underlying t=some .string)(aX:cd S c x (jm s)):Pure P S [] ⟨d,.call ⟨.builtin .len,#[x],ts⟩,ty,pos,a6,bB⟩ c (aF .i64 s.size):=by
 refine⟨rfl,fun E V M a w h aj=>?_⟩
 have J:=h.val (by simp[Op.operands,Call.operands]) aX
 generalize a.eval=aI at*
 refine⟨_,?_,.d _ _ (.v _)⟩
 simp[execOp,resolve,invoke,builtin,Builtin.len_,J,l4,run_underlying hu,goInt,go_sem]
def ai.lenOf:ai->Option Nat
 | .d (.cK _ len _)=>some len
 | .d (.v (.slice _ n _))=>some n
 | .aQ _ len=>some len
 | .ab _ _ _ len=>some len
 | .lP _ _ _ len _=>some len
 |_=>none
theorem VJ{V:cu}{M:Mem}{u:ai}{v:Value}{n:Nat}(h:bU V M u v)(aa:u.lenOf=some n):∃a cap,v= .slice a n cap:=by
 cases h with
 |d u v h=>
  cases h with
  |v=>
   cases v<;>simp only[ai.lenOf,reduceCtorEq,en]at aa
   subst aa;exact⟨_,_,rfl⟩
  |ji=>simp only[ai.lenOf,en]at aa;subst aa;exact⟨_,_,rfl⟩
  |cK=>simp only[ai.lenOf,en]at aa;subst aa;exact⟨_,_,rfl⟩
  |agg=>simp[ai.lenOf]at aa
  |any=>simp[ai.lenOf]at aa
 |aQ=>simp only[ai.lenOf,en]at aa;subst aa;exact⟨_,_,rfl⟩
 |k1=>simp only[ai.lenOf,en]at aa;subst aa;exact⟨_,_,rfl⟩
 |ab=>simp only[ai.lenOf,en]at aa;subst aa;exact⟨_,_,rfl⟩
 |xP=>simp only[ai.lenOf,en]at aa;subst aa;exact⟨_,_,rfl⟩
 |lP=>simp only[ai.lenOf,en]at aa;subst aa;exact⟨_,_,rfl⟩
 |_=>simp[ai.lenOf]at aa
theorem Pure.len{u:ai}{n:Nat}{e:TypeId}{ts:Array TypeId}(l4:ts[0]?=some t)(hu:P.underlying t=some (.slice e))(aX:cd S c x u)(aa:u.lenOf=some n):Pure P S [] ⟨d,.call ⟨.builtin .len,#[x],ts⟩,ty,pos,a6,bB⟩ c (aF .i64 n):=by
 refine⟨rfl,fun E V M a w h aj=>?_⟩
 obtain⟨b,cap,J⟩:=VJ (h.ez x (by simp[Op.operands,Call.operands]) _ aX) aa
 generalize a.eval=aI at*
 refine⟨_,?_,.d _ _ (.v _)⟩
 simp[execOp,resolve,invoke,builtin,Builtin.len_,J,l4,run_underlying hu,goInt,go_sem]
theorem Pure.func{f:FuncId}{first captured:Array Operand}{cs:List ai}(bb:first= #[])(aa:cs.length=captured.size)(e:∀(j:Nat) (x:Operand) (y:ai),captured[j]?=some x->cs[j]?=some y->cd S c x y):
  Pure P S [] ⟨d,.makeFunc (.func f) first captured,ty,pos,a6,bB⟩ c (.fn f cs):=by
 subst bb
 refine⟨rfl,fun E V M a w h aj=>?_⟩
 refine⟨.func (.func f) #[] (captured.toList.map a.eval).toArray,by simp[execOp,Instr.makeFunc,go_sem,<-Array.toList_map],.fn f cs _ (by simpa using aa) ?_⟩
 intro j x y Y ak
 simp only[fJ,Option.map_eq_some_iff]at ak
 obtain⟨z,bd,rfl⟩:=ak
 have r3:captured[j]?=some z:=by simpa using bd
 exact h.ez z (by simp only[Op.operands,Array.empty_append];exact Array.mem_of_getElem? r3) _ (e j z x r3 Y)
theorem Pure.extract{l:List ai}{i:Nat}{r:ai}(aX:cd S c x (.bE l))(aE:l[i]?=some r):Pure P S [] ⟨d,.extract x i,ty,pos,a6,bB⟩ c r:=by
 refine⟨rfl,fun E V M a w h aj=>?_⟩
 have J:=h.ez x (by simp[Op.operands]) _ aX
 generalize he:a.eval x=v at J
 cases J with
 |bE _ vs aa aK=>
  obtain⟨hi,_⟩:=List.getElem?_eq_some_iff.1 aE
  have jb:i<vs.length:=by omega
  refine⟨vs[i],?_,aK i r _ aE (dx jb)⟩
  generalize a.eval=aI at*
  simp[execOp,Instr.extract,he,jb,go_sem]
end
end
section
def cu.set(V:cu)(l b:Nat)(k:Option Nat):cu:=⟨fun m=>if m=l then b else V.aI m,fun m=>if m=l then k else V.bZ m⟩
@[simp] theorem jK (V:cu) (l b:Nat) (k:Option Nat):(V.set l b k).aI l=b:=by simp[cu.set]
@[simp] theorem pS (V:cu) (l b:Nat) (k:Option Nat):(V.set l b k).bZ l=k:=by simp[cu.set]
theorem cu.kg(V:cu){l m:Nat}(b:Nat)(k:Option Nat)(h:m≠l):(V.set l b k).aI m=V.aI m/\(V.set l b k).bZ m=V.bZ m:=by simp[cu.set,h]
theorem bU.pd{V:cu}{M:Mem}{x:ai}{v:Value}(h:bU V M x v){l:Nat}(b:Nat)(k:Option Nat)(aw:¬gK x l):bU (V.set l b k) M x v:=
 h.mono (jH M) fun m k5=>V.kg b k fun e=>aw (e▸k5)
structure fb(w w':World)(β:Nat):Prop where
 os:w'.os=w.os
 tape:w'.tape=w.tape
 output:w'.output=w.output
 size:w.heap.size<=w'.heap.size
 rf:∀b,b≠β->b<w.heap.size->w'.heap[b]?=w.heap[b]?
 lt:β<w'.heap.size
theorem fb.cell{w w':World}{β:Nat}(h:fb w w' β){b o:Nat}{v:Value}(ae:b≠β)(aj:w.cell? ⟨b,o,none⟩=some v):w'.cell? ⟨b,o,none⟩=some v:=by
 unfold World.cell? at*
 have aG:b<w.heap.size:=by
  rcases Nat.lt_or_ge b w.heap.size with h|h
  ·exact h
  ·simp[Array.getElem?_eq_none h]at aj
 rw[h.rf b ae aG]
 exact aj
theorem gC.pd{V:cu}{M:Mem}{w w':World}{l l':Nat}{B:cO}(h:gC V M w l B)(b:Nat)(k:Option Nat)(b2:l≠l')(aw:¬u3 B l')(hw:V.bZ l≠none->w'.heap[V.aI l]?=w.heap[V.aI l]?):gC (V.set l' b k) M w' l B:=by
 obtain⟨aX,bu⟩:=V.kg b k b2
 have key:∀cs,zs V M w l cs->(∀x∈cs,¬gK x l')->zs (V.set l' b k) M w' l cs:=by
  intro cs h aw
  obtain⟨K,vs,t,ae,an,aq⟩:=h
  exact⟨by rwa[bu],vs,t,by rw[aX,hw K];exact ae,an,fun j x y Y ak=>(aq j x y Y ak).pd b k fun jn=>aw x (List.mem_of_getElem? Y) jn⟩
 cases B with
 |cells cs=>exact key cs h fun x Y jn=>aw (.cells cs x l' Y jn)
 |data ds=>exact key _ h fun x Y jn=>by obtain⟨y,_,rfl⟩:=List.mem_map.1 Y;cases jn
 |fq n len cs=>
  obtain⟨K,vs,t,ae,an,aE⟩:=h
  exact⟨by rwa[bu],vs,t,by rw[aX,hw K];exact ae,an,aE⟩
 |bG n len cs=>
  obtain⟨J,W,aH⟩:=h
  refine⟨J,W,?_⟩
  rw[bu,aX]
  cases K:V.bZ l with
  |none=>rw[K]at aH;exact aH
  |some cap=>
   rw[K]at aH
   obtain⟨aj,vs,t,ae,an,aE⟩:=aH
   exact⟨aj,vs,t,by rw[hw (by rw[K];simp)];exact ae,an,aE⟩
 |eh h' ts=>
  have e:∀m,m≠l'->(V.set l' b k).aI m=V.aI m/\(V.set l' b k).bZ m=V.bZ m:=fun m aw=>V.kg b k aw
  exact wq.lu h (jH _) ⟨aX,bu⟩ (fun m k5=>e m fun h=>aw (h▸k5)) hw
 |gR ls cs=>
  have e:∀m,m≠l'->(V.set l' b k).aI m=V.aI m/\(V.set l' b k).bZ m=V.bZ m:=fun m aw=>V.kg b k aw
  exact jj.lu h (jH _) ⟨aX,bu⟩ (fun m k5=>e m fun h=>aw (h▸k5)) hw
 |tR ks=>obtain⟨K,es,c,ae,aE⟩:=h;exact⟨by rwa[bu],es,c,by rw[aX,hw K];exact ae,aE⟩
 |k2 cs o=>
  have e:∀m,m≠l'->(V.set l' b k).aI m=V.aI m/\(V.set l' b k).bZ m=V.bZ m:=fun m aw=>V.kg b k aw
  exact lr.lu h (jH _) ⟨aX,bu⟩ (fun m k5=>e m fun h=>aw (h▸k5)) hw
 |rY ds o=>exact lr.Dv h (jH _) ⟨aX,bu⟩ hw
def x0(ds:List Nat):List (Nat×Option dz):=ds.map fun n=>(n,none)
theorem DR(n:Nat)(d:Option dz)(u v:List (Nat×Option dz)):l3 n d (u++v)=l3 n (l3 n d u) v:=by
 induction u generalizing d with
 |nil=>rfl
 |cons x r aJ=>obtain⟨m,c⟩:=x;simp only[List.cons_append,l3];exact aJ _
theorem JK(n:Nat)(d:Option dz)(ds:List Nat):l3 n d (x0 ds)=if n∈ds then none else d:=by
 induction ds generalizing d with
 |nil=>rfl
 |cons m r aJ=>
  simp only[x0,List.map_cons,l3]at*
  rw[aJ]
  by_cases h:m=n
  ·simp[h]
  ·by_cases h':n∈r
   ·simp[h',h]
   ·simp[h',h,Ne.symm h]
abbrev fU(ds:List Nat)(l':Nat)(B:cO)(d:Nat)(x:ai):List (Nat×Option dz):=x0 ds++[(G l',some (.U B)),(ab d,some (.aB x))]
theorem u7(S:ad)(ds:List Nat)(l':Nat)(B:cO)(d:Nat)(x:ai)(n:Nat):
  (S.eK (fU ds l' B d x)).get n=if ab d=n then some (.aB x)else if G l'=n then some (.U B)else if n∈ds then none else S.get n:=by
 rw[mY,DR,JK]
 simp only[l3]
def ad.sU:List Nat->ad->ad
 |[],S=>S
 |n::r,S=>ad.sU r (ad.iJ n S)
theorem DS:∀(ds:List Nat) (S:ad) (m:Nat),(ad.sU ds S).get m=if m∈ds then none else S.get m
 |[],S,m=>by simp[ad.sU]
 |n::r,S,m=>by
  simp only[ad.sU]
  rw[DS r,o7]
  by_cases J:m∈r
  ·simp[J]
  ·by_cases W:n=m
   ·subst W;simp[J]
   ·simp[J,W,Ne.symm W]
abbrev ad.after(S:ad)(ds:List Nat)(l':Nat)(B:cO)(d:Nat)(x:ai):ad:=(ab d,.aB x)::(G l',.U B)::ad.sU ds S
theorem VK(S:ad)(ds:List Nat)(l':Nat)(B:cO)(d:Nat)(x:ai):∀n,(S.after ds l' B d x).get n=(S.eK (fU ds l' B d x)).get n:=fun n=>by
 rw[u7,ej,ej,DS]
section
variable {E:c7} {S:ad} {V:cu} {M:Mem} {a:Act} {w w':World}
theorem Bt{ds:List Nat}{l':Nat}{B:cO}{d:Nat}{x:ai}{n:Nat}:n∈(fU ds l' B d x).map Prod.fst↔n∈ds\/n=G l'\/n=ab d:=by
 simp only[fU,x0,List.map_append,List.map_map,List.map_cons,List.map_nil,hy,List.mem_map,Function.comp,eb,List.not_mem_nil,or_false]
 constructor
 ·rintro(⟨m,aw,rfl⟩|h)
  ·exact .inl aw
  ·exact .inr h
 ·rintro(h|h)
  ·exact .inl ⟨n,h,rfl⟩
  ·exact .inr h
theorem DT(aC:jk E S V M a)(hw:cl E S V M w){β:Nat}(cy:fb w w' β){ds:List Nat}{l':Nat}{nw:Option Nat}{B:cO}{d:Nat}{x:ai}{v:Value}
  (Gr:β=w.heap.size\/∃l,di V S l/\V.aI l=β/\(G l∈ds\/l=l'))
  (bf:∀n c,S.get n=some c->n∉(fU ds l' B d x).map Prod.fst->¬ov c l') (K:l'∉E.aA) (aq:d<E.cg)
  (cP:gC (V.set l' β nw) M w' l' B) (Y:bU (V.set l' β nw) M x v):ei E (S.eK (fU ds l' B d x)) (a.put (some d) v) w':=by
 have hold:∀n c,(S.eK (fU ds l' B d x)).get n=some c->n≠ab d->n≠G l'->S.get n=some c/\n∉ds/\¬ov c l':=by
  intro n c aj J W
  rw[u7,if_neg (Ne.symm J),if_neg (Ne.symm W)]at aj
  by_cases af:n∈ds
  ·rw[if_pos af]at aj;cases aj
  ·rw[if_neg af]at aj
   refine⟨aj,af,bf n c aj ?_⟩
   rw[Bt]
   rintro(h|h|h)
   ·exact af h
   ·exact W h
   ·exact J h
 have oy:∀l,di (V.set l' β nw) (S.eK (fU ds l' B d x)) l->l≠l'->di V S l/\G l∉ds:=by
  rintro l ⟨⟨C,eU⟩,iA⟩ b2
  obtain⟨J,W,_⟩:=hold (G l) _ eU (Ne.symm (iz d l)) fun e=>b2 (by unfold G at e;omega)
  exact⟨⟨⟨C,J⟩,by rwa[(V.kg β nw b2).2]at iA⟩,W⟩
 have JL:∀l,di V S l->l≠l'->G l∉ds->V.aI l≠β:=by
  intro l aa b2 oz e
  rcases Gr with h|⟨m,aw,zE,Gs⟩
  ·have:=hw.cE l aa;omega
  ·by_cases Gt:l=m
   ·subst Gt
    rcases Gs with h|h
    ·exact oz h
    ·exact b2 h
   ·exact hw.inj l m aa aw Gt (e.trans zE.symm)
 have N2:∀o,M β o=none:=by
  intro o
  rcases Gr with h|⟨m,aw,zE,_⟩
  ·cases aj:M β o with
   |none=>rfl
   |some u=>
    have:=hw.mem _ _ _ aj
    subst h
    simp[World.cell?]at this
  ·rw[<-zE];exact hw.dO m aw o
 refine⟨V.set l' β nw,M,⟨?_,by simp[Act.put,aC.size],aC.defers⟩,?_⟩
 ·intro t y ak
  by_cases aT:t=d
  ·subst aT
   rw[u7,if_pos rfl]at ak
   injection ak with ak;injection ak with ak;subst ak
   exact⟨v,by simp[Act.put,aC.size,aq],Y⟩
  ·obtain⟨J,_,aH⟩:=hold (ab t) _ ak (fun e=>aT (qx e)) (iz t l')
   obtain⟨u,hu,jX⟩:=aC.fT t y J
   exact⟨u,by simp[Act.put,Ne.symm aT,hu],jX.pd β nw aH⟩
 ·refine{dn:= ?_,inj:= ?_,dO:= ?_,dt:= ?_,cE:= ?_,mem:= ?_,dA:=hw.dA,er:=hw.er,ea:=hw.ea,aA:= ?_,b6:= ?_}
  ·intro l C eU
   by_cases aa:l=l'
   ·subst aa
    rw[u7,if_neg (iz d l),if_pos D]at eU
    injection eU with eU;injection eU with eU;subst eU
    exact cP
   ·obtain⟨J,W,aH⟩:=hold (G l) _ eU (Ne.symm (iz d l)) (fun e=>aa (by unfold G at e;omega))
    refine(hw.dn l C J).pd β nw aa aH fun iA=>?_
    have N3:di V S l:=⟨⟨C,J⟩,iA⟩
    exact cy.rf _ (JL l N3 aa W) (hw.cE l N3)
  ·intro l m aa aw b2
   by_cases J:l=l'
   ·subst J
    have W:m≠l:=Ne.symm b2
    obtain⟨k5,Gs⟩:=oy m aw W
    rw[jK,(V.kg β nw W).1]
    exact Ne.symm (JL m k5 W Gs)
   ·obtain⟨e4,VL⟩:=oy l aa J
    by_cases W:m=l'
    ·subst W
     rw[jK,(V.kg β nw J).1]
     exact JL l e4 J VL
    ·obtain⟨k5,Gs⟩:=oy m aw W
     rw[(V.kg β nw J).1,(V.kg β nw W).1]
     exact hw.inj l m e4 k5 b2
  ·intro l aa o
   by_cases J:l=l'
   ·subst J;rw[jK];exact N2 o
   ·rw[(V.kg β nw J).1];exact hw.dO l (oy l aa J).1 o
  ·intro l aa
   by_cases J:l=l'
   ·subst J;rw[jK]
    rcases Gr with h|⟨m,aw,zE,_⟩
    ·left;have:=hw.b6.size;omega
    ·rw[<-zE];exact hw.dt m aw
   ·rw[(V.kg β nw J).1];exact hw.dt l (oy l aa J).1
  ·intro l aa
   by_cases J:l=l'
   ·subst J;rw[jK];exact cy.lt
   ·rw[(V.kg β nw J).1];exact Nat.lt_of_lt_of_le (hw.cE l (oy l aa J).1) cy.size
  ·intro b o u hu
   refine cy.cell (fun e=>?_) (hw.mem b o u hu)
   rw[e,N2 o]at hu;cases hu
  ·intro l aa
   have b2:l≠l':=fun e=>K (e▸aa)
   rw[(V.kg β nw b2).1,(V.kg β nw b2).2]
   exact hw.aA l aa
  ·refine⟨cy.os.trans hw.b6.os,cy.tape.trans hw.b6.tape,cy.output.trans hw.b6.output,Nat.le_trans hw.b6.size cy.size,fun b ae Z=>?_⟩
   rw[<-hw.b6.block b ae Z]
   refine cy.rf b (fun e=>?_) (Nat.lt_of_lt_of_le ae hw.b6.size)
   rcases Gr with h|⟨m,aw,zE,_⟩
   ·have:=hw.b6.size;omega
   ·rcases hw.dt m aw with h|h
    ·omega
    ·exact Z (by rw[e,<-zE];exact h)
theorem JM(aC:jk E S V M a)(hw:cl E S V M w){ds:List Nat}{l':Nat}{B:cO}{d:Nat}{x:ai}{v:Value}
  (bf:∀n c,S.get n=some c->n∉(fU ds l' B d x).map Prod.fst->¬ov c l') (K:l'∉E.aA) (aq:d<E.cg)
  (cP:gC (V.set l' 0 none) M w l' B) (Y:bU (V.set l' 0 none) M x v):ei E (S.eK (fU ds l' B d x)) (a.put (some d) v) w:=by
 have hold:∀n c,(S.eK (fU ds l' B d x)).get n=some c->n≠ab d->n≠G l'->S.get n=some c/\n∉ds/\¬ov c l':=by
  intro n c aj J W
  rw[u7,if_neg (Ne.symm J),if_neg (Ne.symm W)]at aj
  by_cases af:n∈ds
  ·rw[if_pos af]at aj;cases aj
  ·rw[if_neg af]at aj
   refine⟨aj,af,bf n c aj ?_⟩
   rw[Bt]
   rintro(h|h|h)
   ·exact af h
   ·exact W h
   ·exact J h
 have oy:∀l,di (V.set l' 0 none) (S.eK (fU ds l' B d x)) l->l≠l'/\di V S l:=by
  rintro l ⟨⟨C,eU⟩,iA⟩
  have b2:l≠l':=fun e=>iA (by rw[e];simp)
  obtain⟨J,W,_⟩:=hold (G l) _ eU (Ne.symm (iz d l)) fun e=>b2 (by unfold G at e;omega)
  exact⟨b2,⟨⟨C,J⟩,by rwa[(V.kg 0 none b2).2]at iA⟩⟩
 refine⟨V.set l' 0 none,M,⟨?_,by simp[Act.put,aC.size],aC.defers⟩,?_⟩
 ·intro t y ak
  by_cases aT:t=d
  ·subst aT
   rw[u7,if_pos rfl]at ak
   injection ak with ak;injection ak with ak;subst ak
   exact⟨v,by simp[Act.put,aC.size,aq],Y⟩
  ·obtain⟨J,_,aH⟩:=hold (ab t) _ ak (fun e=>aT (qx e)) (iz t l')
   obtain⟨u,hu,jX⟩:=aC.fT t y J
   exact⟨u,by simp[Act.put,Ne.symm aT,hu],jX.pd 0 none aH⟩
 ·refine{dn:= ?_,inj:= ?_,dO:= ?_,dt:= ?_,cE:= ?_,mem:=hw.mem,dA:=hw.dA,er:=hw.er,ea:=hw.ea,aA:= ?_,b6:=hw.b6}
  ·intro l C eU
   by_cases aa:l=l'
   ·subst aa
    rw[u7,if_neg (iz d l),if_pos D]at eU
    injection eU with eU;injection eU with eU;subst eU
    exact cP
   ·obtain⟨J,W,aH⟩:=hold (G l) _ eU (Ne.symm (iz d l)) (fun e=>aa (by unfold G at e;omega))
    exact(hw.dn l C J).pd 0 none aa aH fun _=>rfl
  ·intro l m aa aw b2
   obtain⟨J,e4⟩:=oy l aa
   obtain⟨W,k5⟩:=oy m aw
   rw[(V.kg 0 none J).1,(V.kg 0 none W).1]
   exact hw.inj l m e4 k5 b2
  ·intro l aa o;obtain⟨J,e4⟩:=oy l aa;rw[(V.kg 0 none J).1];exact hw.dO l e4 o
  ·intro l aa;obtain⟨J,e4⟩:=oy l aa;rw[(V.kg 0 none J).1];exact hw.dt l e4
  ·intro l aa;obtain⟨J,e4⟩:=oy l aa;rw[(V.kg 0 none J).1];exact hw.cE l e4
  ·intro l aa
   have b2:l≠l':=fun e=>K (e▸aa)
   rw[(V.kg 0 none b2).1,(V.kg 0 none b2).2]
   exact hw.aA l aa
theorem gC.kept{l:Nat}{B:cO}(h:gC V M w l B)(hw:V.bZ l≠none->w'.heap[V.aI l]?=w.heap[V.aI l]?):gC V M w' l B:=by
 have key:∀cs,zs V M w l cs->zs V M w' l cs:=fun cs h=>by
  obtain⟨K,vs,t,ae,an,aq⟩:=h;exact⟨K,vs,t,by rw[hw K];exact ae,an,aq⟩
 cases B with
 |cells cs=>exact key cs h
 |data ds=>exact key _ h
 |fq n len cs=>obtain⟨K,vs,t,ae,an,aE⟩:=h;exact⟨K,vs,t,by rw[hw K];exact ae,an,aE⟩
 |bG n len cs=>
  obtain⟨J,W,aH⟩:=h
  refine⟨J,W,?_⟩
  cases K:V.bZ l with
  |none=>rw[K]at aH;exact aH
  |some cap=>
   rw[K]at aH
   obtain⟨aj,vs,t,ae,an,aE⟩:=aH
   exact⟨aj,vs,t,by rw[hw (by rw[K];simp)];exact ae,an,aE⟩
 |eh h' ts=>exact wq.lu h (jH _) ⟨rfl,rfl⟩ (fun _ _=>⟨rfl,rfl⟩) hw
 |gR ls cs=>exact jj.lu h (jH _) ⟨rfl,rfl⟩ (fun _ _=>⟨rfl,rfl⟩) hw
 |tR ks=>obtain⟨K,es,c,ae,aE⟩:=h;exact⟨K,es,c,by rw[hw K];exact ae,aE⟩
 |k2 cs o=>exact lr.lu h (jH _) ⟨rfl,rfl⟩ (fun _ _=>⟨rfl,rfl⟩) hw
 |rY ds o=>exact lr.Dv h (jH _) ⟨rfl,rfl⟩ hw
theorem Gu(hw:cl E S V M w){l:Nat}{B B':cO}(aa:S.get (G l)=some (.U B))(iA:V.bZ l≠none)(cy:fb w w' (V.aI l))(cP:gC V M w' l B'):cl E (S.eK [(G l,some (.U B'))]) V M w':=by
 have Gv:di V S l:=⟨⟨B,aa⟩,iA⟩
 have oy:∀m,di V (S.eK [(G l,some (.U B'))]) m->di V S m:=by
  rintro m ⟨⟨C,eU⟩,JN⟩
  rw[pc]at eU
  by_cases h:G l=G m
  ·have:l=m:=by unfold G at h;omega
   subst this;exact Gv
  ·rw[if_neg h]at eU;exact⟨⟨C,eU⟩,JN⟩
 refine{dn:= ?_,inj:=fun m k aw gi=>hw.inj m k (oy m aw) (oy k gi),dO:=fun m aw=>hw.dO m (oy m aw),dt:=fun m aw=>hw.dt m (oy m aw),cE:=fun m aw=>Nat.lt_of_lt_of_le (hw.cE m (oy m aw)) cy.size,mem:= ?_,dA:=hw.dA,er:=hw.er,ea:=hw.ea,aA:=hw.aA,b6:= ?_}
 ·intro m C eU
  rw[pc]at eU
  by_cases h:G l=G m
  ·have:l=m:=by unfold G at h;omega
   subst this
   rw[if_pos rfl]at eU
   injection eU with eU;injection eU with eU;subst eU
   exact cP
  ·rw[if_neg h]at eU
   refine(hw.dn m C eU).kept fun JN=>?_
   have aw:di V S m:=⟨⟨C,eU⟩,JN⟩
   exact cy.rf _ (hw.inj m l aw Gv fun e=>h (by rw[e])) (hw.cE m aw)
 ·intro b o u hu
  refine cy.cell (fun e=>?_) (hw.mem b o u hu)
  rw[e,hw.dO l Gv o]at hu;cases hu
 ·refine⟨cy.os.trans hw.b6.os,cy.tape.trans hw.b6.tape,cy.output.trans hw.b6.output,Nat.le_trans hw.b6.size cy.size,fun b ae Z=>?_⟩
  rw[<-hw.b6.block b ae Z]
  refine cy.rf b (fun e=>?_) (Nat.lt_of_lt_of_le ae hw.b6.size)
  rcases hw.dt l Gv with h|h
  ·omega
  ·exact Z (by rw[e];exact h)
theorem DU(aC:jk E S V M a)(l:Nat)(B:cO):jk E (S.eK [(G l,some (.U B))]) V M a:=
 ⟨fun t x e=>by rw[pc,if_neg (Ne.symm (iz t l))]at e;exact aC.fT t x e,aC.size,aC.defers⟩
end
theorem fb.alloc(w:World)(o:Obj):fb w (w.alloc o) w.heap.size:=
 ⟨rfl,rfl,rfl,by show w.heap.size<=(w.heap.push o).size;simp,fun b ae aG=>by show(w.heap.push o)[b]?=_;simp[Array.getElem?_push,ae],by show _<(w.heap.push o).size;simp⟩
theorem fb.drew{w w':World}{β:Nat}(h:fb w w' β)(k:Nat):fb w {w' with drawn:=k} β:=⟨h.os,h.tape,h.output,h.size,h.rf,h.lt⟩
theorem fb.modify(w:World)(b:Nat)(f:Obj->Obj)(h:b<w.heap.size):fb w {w with heap:=w.heap.modify b f} b:=
 ⟨rfl,rfl,rfl,by simp,fun c aj aG=>by simp[Array.getElem?_modify,Ne.symm aj],by simpa using h⟩
end
section
variable {P:Program} {S:ad} {c:Bool}
def dq(P:Program)(t:TypeId)(agg:Bool)(n:Nat):Bool:=
 (match P.info? t with|some i=>Nat.beq i.size n|none=>false)&&
 (match P.underlying t with|some (.struct _)|some (.array _ _)=>agg|some _=> !agg|none=>false)
def gS(P:Program)(s f off:Nat):Bool:=
 match P.underlying s with
 |some (.struct fw)=>match fw[f]? with
  |some fd=>Nat.beq fd.offset off&&(match P.info? fd.type with|some i=> !Nat.beq i.size 0|none=>false)
  |none=>false
 |_=>false
def lR(P:Program)(t:TypeId)(n:Nat):Bool:=
 match P.underlying t with
 |some (.slice e)=>(match P.info? e with|some i=>Nat.beq i.size n|none=>false)
 |_=>false
def pe(P:Program)(t:TypeId)(len:Nat)(agg:Bool)(n:Nat):Bool:=
 match P.underlying t with
 |some (.array l e)=>Nat.beq l len&&dq P e agg n
 |_=>false
theorem VM{t:TypeId}{agg:Bool}{n:Nat}(h:dq P t agg n=true):∃i,P.info? t=some i/\i.size=n:=by
 simp only[dq,eL]at h
 obtain⟨J,W⟩:=h
 cases hi:P.info? t with
 |none=>rw[hi]at J;simp at J
 |some i=>rw[hi]at J;exact⟨i,rfl,kN J⟩
theorem JO{t:TypeId}{agg:Bool}{n:Nat}(h:dq P t agg n=true)(w:World):(isAgg t).run P w= .ok agg w:=by
 simp only[dq,eL]at h
 obtain⟨J,W⟩:=h
 cases hu:P.underlying t with
 |none=>rw[hu]at W;simp at W
 |some u=>
  rw[hu]at W
  have aE:=run_underlying hu w
  unfold isAgg
  rw[de,aE]
  cases u<;>simp_all [Result.andThen]
theorem r4{t:TypeId}{agg:Bool}{n:Nat}(h:dq P t agg n=true)(w:World):(sizeOf t).run P w= .ok n w:=by
 obtain⟨i,hi,af⟩:=VM h
 rw[run_sizeOf _ hi]
 simp[Program.cellsOf,hi,af]
theorem oA(b o k:Nat):(⟨b,o,none⟩:Addr).add k=⟨b,o+k,none⟩:=by
 unfold Addr.add
 split
 ·rename_i h;subst h;rfl
 ·rfl
theorem zF{t:TypeId}{n:Nat}(h:dq P t false n=true){w:World}{b o:Nat}{v:Value}(aj:w.cell? ⟨b,o,none⟩=some v):(loadVar t ⟨b,o,none⟩).run P w= .ok v w:=by
 simp only[loadVar,de,JO h,Result.andThen,Bool.false_eq_true,if_false]
 simp[load,Sem.run,aj]
theorem x1{t:TypeId}{n:Nat}(h:dq P t true n=true){w:World}{b o:Nat}{f:Nat->Value}(aj:∀j,j<n->w.cell? ⟨b,o+j,none⟩=some (f j)):
  (loadVar t ⟨b,o,none⟩).run P w= .ok (.agg ((List.range n).map f).toArray) w:=by
 have:=run_loadCells (P:=P) w ⟨b,o,none⟩ n f fun j az=>by rw[oA];exact aj j az
 simp only[loadVar,de,JO h,r4 h,Result.andThen,if_true,this]
 rfl
section
variable {o:Oper} {x y z:Operand} {d:Option Tmp} {ty t t' s:TypeId} {pos:String} {a6:Array Edge} {bB:Option (Nat×Bool)}
def ai.shift(k:Nat):ai->Option ai
 | .ao l j=>some (.ao l (j+k))
 | .h4 l n i j=>some (.h4 l n i (j+k))
 | .cc l=>some (.cc (l.drop k))
 |_=>none
theorem N4{V:cu}{M:Mem}{u r:ai}{v:Value}{k:Nat}(h:bU V M u v)(aE:u.shift k=some r):∃b o,v= .pointer (some ⟨b,o,none⟩)/\bU V M r (.pointer (some ⟨b,o+k,none⟩)):=by
 cases h with
 |ao l j=>simp only[ai.shift,en]at aE;subst aE;exact⟨_,_,rfl,.ao l (j+k)⟩
 |h4 l n i j=>simp only[ai.shift,en]at aE;subst aE;exact⟨_,_,rfl,by have:=bU.h4 (V:=V) (M:=M) l n i (j+k);rwa[<-Nat.add_assoc]at this⟩
 |cc l b o c aw aq=>
  simp only[ai.shift,en]at aE;subst aE
  refine⟨b,o,rfl,.cc _ b (o+k) (fun j=>c (k+j)) (fun j az=>?_) fun j x Y=>?_⟩
  ·rw[h1]at az
   have:=aw (k+j) (by omega)
   rwa[<-Nat.add_assoc]at this
  ·rw[List.getElem?_drop]at Y;exact aq _ _ Y
 |_=>simp[ai.shift]at aE
theorem Pure.fieldAddr{f off:Nat}{u r:ai}(bf:gS P s f off=true)(aX:cd S c x u)(aE:u.shift off=some r):Pure P S [] ⟨d,.fieldAddr s x f,ty,pos,a6,bB⟩ c r:=by
 refine⟨rfl,fun E V M a w h aj=>?_⟩
 obtain⟨b,o,he,aq⟩:=N4 (h.ez x (by simp[Op.operands]) _ aX) aE
 refine⟨_,?_,aq⟩
 generalize a.eval=aI at*
 simp only[gS]at bf
 split at bf
 ·rename_i fw hu
  split at bf
  ·rename_i fd k6
   simp only[eL,Bool.not_eq_true']at bf
   obtain⟨J,W⟩:=bf
   have J:=kN J
   cases hi:P.info? fd.type with
   |none=>rw[hi]at W;simp at W
   |some i=>
    rw[hi]at W
    have bd:i.size≠0:=Nat.ne_of_beq_eq_false (by simpa using W)
    have cj:(sizeOf fd.type).run P w= .ok i.size w:=by rw[run_sizeOf _ hi];simp[Program.cellsOf,hi]
    simp only[execOp,Instr.fieldAt,de,run_underlying hu,Result.andThen,k6,he,Instr.sureAddr,fieldPlace,cj,e5,if_neg bd,J,oA]
  ·cases bf
 ·cases bf
theorem Pure.fG{l:List bg}{r:bg}{n:Nat}(aT:dq P t false n=true)(aX:cd S c x (.cc l))(aE:l[0]?=some r):Pure P S [] ⟨d,.load t x,ty,pos,a6,bB⟩ c (.d r):=by
 refine⟨rfl,fun E V M a w h aj=>?_⟩
 have J:=h.ez x (by simp[Op.operands]) _ aX
 generalize he:a.eval x=v at J
 generalize a.eval=aI at*
 cases J with
 |cc _ b o f aw aq=>
  have aa:0<l.length:=(List.getElem?_eq_some_iff.1 aE).1
  refine⟨f 0,?_,.d _ _ (aq 0 r aE)⟩
  simp only[execOp,Instr.loadAt,de,he,Instr.sureAddr,e5,Result.andThen,zF aT (h.mem _ _ _ (by simpa using aw 0 aa))]
theorem Pure.kD{l:List bg}{n:Nat}(aT:dq P t true n=true)(aX:cd S c x (.cc l))(af:c=true->n<=l.length):Pure P S [] ⟨d,.load t x,ty,pos,a6,bB⟩ c (.d (.agg (l.take n))):=by
 refine⟨rfl,fun E V M a w h aj=>?_⟩
 have J:=h.ez x (by simp[Op.operands]) _ aX
 have af:=af aj
 generalize he:a.eval x=v at J
 generalize a.eval=aI at*
 cases J with
 |cc _ b o f aw aq=>
  refine⟨.agg ((List.range n).map f).toArray,by simp only[execOp,Instr.loadAt,de,he,Instr.sureAddr,e5,Result.andThen,x1 aT fun j az=>h.mem _ _ _ (aw j (by omega))],.d _ _ (.agg _ _ (by simp;omega) ?_)⟩
  intro j x y Y ak
  rw[List.getElem?_take]at Y
  split at Y
  ·simp only[fJ,Option.map_eq_some_iff]at ak
   obtain⟨k,K,rfl⟩:=ak
   rw[List.getElem?_range (by assumption)]at K
   injection K with K;subst K
   exact aq _ _ Y
  ·cases Y
def zG:List ai->Option (List bg)
 |[]=>some []
 | .d x::r=>match zG r with
  |some l=>some (x::l)
  |none=>none
 |_::_=>none
def DV(l:List ai):ai:=match zG l with
 |some ds=>.d (.agg ds)
 |none=>.agg l
theorem JP{l:List ai}{ds:List bg}(h:zG l=some ds):l=ds.map .d:=by
 induction l generalizing ds with
 |nil=>simp only[zG,en]at h;subst h;rfl
 |cons x r aJ=>
  cases x<;>simp only[zG,reduceCtorEq]at h
  split at h
  ·rename_i l aa;injection h with h;subst h;rw[aJ aa];rfl
  ·cases h
theorem JQ{V:cu}{M:Mem}{l:List ai}{v:Value}(h:bU V M (.agg l) v):bU V M (DV l) v:=by
 unfold DV
 split
 ·rename_i ds oz
  have:=JP oz
  subst this
  cases h with
  |agg _ vs aa aq=>
   refine .d _ _ (.agg ds vs (by simpa using aa) fun j x y Y ak=>?_)
   have:=aq j (.d x) y (by simp[Y]) ak
   cases this with|d _ _ h=>exact h
 ·exact h
theorem Pure.wB{l j:Nat}{cs:List ai}{r:ai}{n:Nat}(aT:dq P t false n=true)(aX:cd S c x (.ao l j))(ae:S.get (G l)=some (.U (.cells cs)))(aE:cs[j]?=some r):Pure P S [l] ⟨d,.load t x,ty,pos,a6,bB⟩ c r:=by
 refine⟨rfl,fun E V M a w h aj=>?_⟩
 have J:=h.ez x (by simp[Op.operands]) _ aX
 obtain⟨_,vs,gq,aW,an,aq⟩:=h.U l (by simp) _ ae
 generalize he:a.eval x=v at J
 generalize a.eval=aI at*
 cases J with
 |ao _ _=>
  have az:j<vs.size:=by have:=(List.getElem?_eq_some_iff.1 aE).1;omega
  have aj:w.cell? ⟨V.aI l,j,none⟩=some vs[j]:=by simp[World.cell?,aW,az]
  refine⟨vs[j],?_,aq j r _ aE (Array.getElem?_eq_getElem az)⟩
  simp only[execOp,Instr.loadAt,de,he,Instr.sureAddr,e5,Result.andThen,zF aT aj]
theorem Pure.x2{l j:Nat}{cs:List ai}{n:Nat}(aT:dq P t true n=true)(aX:cd S c x (.ao l j))(ae:S.get (G l)=some (.U (.cells cs)))(af:c=true->j+n<=cs.length):
  Pure P S [l] ⟨d,.load t x,ty,pos,a6,bB⟩ c (DV ((cs.drop j).take n)):=by
 refine⟨rfl,fun E V M a w h aj=>?_⟩
 have J:=h.ez x (by simp[Op.operands]) _ aX
 have af:=af aj
 obtain⟨_,vs,gq,aW,an,aq⟩:=h.U l (by simp) _ ae
 generalize he:a.eval x=v at J
 generalize a.eval=aI at*
 cases J with
 |ao _ _=>
  have aj:∀k,k<n->w.cell? ⟨V.aI l,j+k,none⟩=some (vs.getD (j+k) undef):=fun k K=>by
   have:j+k<vs.size:=by omega
   simp[World.cell?,aW,this,Array.getD]
  refine⟨.agg ((List.range n).map fun k=>vs.getD (j+k) undef).toArray,by simp only[execOp,Instr.loadAt,de,he,Instr.sureAddr,e5,Result.andThen,x1 aT aj],JQ (.agg _ _ (by simp;omega) ?_)⟩
  intro k x y Y ak
  rw[List.getElem?_take]at Y
  split at Y
  ·rename_i K
   rw[List.getElem?_drop]at Y
   simp only[fJ,Option.map_eq_some_iff]at ak
   obtain⟨jZ,gi,rfl⟩:=ak
   rw[List.getElem?_range K]at gi
   injection gi with gi;subst gi
   have:j+k<vs.size:=by omega
   exact aq _ x _ Y (by simp[this,Array.getD])
  ·cases Y
theorem Pure.h2{l j:Nat}{ds:List bg}{r:bg}{n:Nat}(aT:dq P t false n=true)(aX:cd S c x (.ao l j))(ae:S.get (G l)=some (.U (.data ds)))(aE:ds[j]?=some r):Pure P S [l] ⟨d,.load t x,ty,pos,a6,bB⟩ c (.d r):=by
 refine⟨rfl,fun E V M a w h aj=>?_⟩
 have J:=h.ez x (by simp[Op.operands]) _ aX
 obtain⟨_,vs,gq,aW,an,aq⟩:=h.U l (by simp) _ ae
 generalize he:a.eval x=v at J
 generalize a.eval=aI at*
 cases J with
 |ao _ _=>
  have az:j<vs.size:=by have:=(List.getElem?_eq_some_iff.1 aE).1;simp at an;omega
  have aj:w.cell? ⟨V.aI l,j,none⟩=some vs[j]:=by simp[World.cell?,aW,az]
  refine⟨vs[j],?_,aq j (.d r) _ (by simp[aE]) (Array.getElem?_eq_getElem az)⟩
  simp only[execOp,Instr.loadAt,de,he,Instr.sureAddr,e5,Result.andThen,zF aT aj]
theorem Pure.pT{l j:Nat}{ds:List bg}{n:Nat}(aT:dq P t true n=true)(aX:cd S c x (.ao l j))(ae:S.get (G l)=some (.U (.data ds)))(af:c=true->j+n<=ds.length):
  Pure P S [l] ⟨d,.load t x,ty,pos,a6,bB⟩ c (.d (.agg ((ds.drop j).take n))):=by
 refine⟨rfl,fun E V M a w h aj=>?_⟩
 have J:=h.ez x (by simp[Op.operands]) _ aX
 have af:=af aj
 obtain⟨_,vs,gq,aW,an,aq⟩:=h.U l (by simp) _ ae
 simp only[l5]at an
 generalize he:a.eval x=v at J
 generalize a.eval=aI at*
 cases J with
 |ao _ _=>
  have aj:∀k,k<n->w.cell? ⟨V.aI l,j+k,none⟩=some (vs.getD (j+k) undef):=fun k K=>by
   have:j+k<vs.size:=by omega
   simp[World.cell?,aW,this,Array.getD]
  refine⟨.agg ((List.range n).map fun k=>vs.getD (j+k) undef).toArray,by simp only[execOp,Instr.loadAt,de,he,Instr.sureAddr,e5,Result.andThen,x1 aT aj],.d _ _ (.agg _ _ (by simp;omega) ?_)⟩
  intro k x y Y ak
  rw[List.getElem?_take]at Y
  split at Y
  ·rename_i K
   rw[List.getElem?_drop]at Y
   simp only[fJ,Option.map_eq_some_iff]at ak
   obtain⟨jZ,gi,rfl⟩:=ak
   rw[List.getElem?_range K]at gi
   injection gi with gi;subst gi
   have:j+k<vs.size:=by omega
   have lA:=aq (j+k) (.d x) (vs.getD (j+k) undef) (by simp[Y]) (by simp[this,Array.getD])
   cases lA with|d _ _ h=>exact h
  ·cases Y
def cO.h8:cO->Option (Nat×Nat×List bz)
 | .fq n len cs=>some (n,len,cs)
 | .bG n len cs=>some (n,len,cs)
 |_=>none
theorem JR{V:cu}{M:Mem}{w:World}{l:Nat}{B:cO}{n len:Nat}{cs:List bz}(h:gC V M w l B)(aE:B.h8=some (n,len,cs))(b2:0<len):∃vs t,w.heap[V.aI l]?=some (.cells vs t (0,0))/\sM M n len cs vs:=by
 cases B with
 |cells=>simp[cO.h8]at aE
 |data=>simp[cO.h8]at aE
 |eh=>simp[cO.h8]at aE
 |gR=>simp[cO.h8]at aE
 |tR=>simp[cO.h8]at aE
 |k2=>simp[cO.h8]at aE
 |rY=>simp[cO.h8]at aE
 |fq l6 kE cs'=>
  simp only[cO.h8,en,Prod.mk.injEq]at aE
  obtain⟨rfl,rfl,rfl⟩:=aE
  obtain⟨_,vs,t,ae,_,aE⟩:=h
  exact⟨vs,t,ae,aE⟩
 |bG l6 kE cs'=>
  simp only[cO.h8,en,Prod.mk.injEq]at aE
  obtain⟨rfl,rfl,rfl⟩:=aE
  obtain⟨_,_,aH⟩:=h
  split at aH
  ·omega
  ·obtain⟨_,vs,t,ae,_,aE⟩:=aH
   exact⟨vs,t,ae,aE⟩
theorem Pure.pU{l n i j len:Nat}{B:cO}{cs:List bz}{r:bz}{m:Nat}(aT:dq P t false m=true)(aX:cd S c x (.h4 l n i j))(ae:S.get (G l)=some (.U B))(cP:B.h8=some (n,len,cs))(aE:cs[j]?=some r)
  (hi:c=true->i<len):Pure P S [l] ⟨d,.load t x,ty,pos,a6,bB⟩ c (.d (r.at i)):=by
 refine⟨rfl,fun E V M a w h aj=>?_⟩
 have J:=h.ez x (by simp[Op.operands]) _ aX
 have hi:=hi aj
 obtain⟨vs,gq,aW,_,_,aq⟩:=JR (h.U l (by simp) _ ae) cP (by omega)
 obtain⟨sV,hg,lA⟩:=aq i j r hi aE
 generalize he:a.eval x=v at J
 generalize a.eval=aI at*
 cases J with
 |h4 _ _ _ _=>
  refine⟨sV,?_,.d _ _ lA⟩
  have aj:w.cell? ⟨V.aI l,i*n+j,none⟩=some sV:=by simp[World.cell?,aW,hg]
  simp only[execOp,Instr.loadAt,de,he,Instr.sureAddr,e5,Result.andThen,zF aT aj]
theorem Pure.N5{l n i j len:Nat}{B:cO}{cs:List bz}{m:Nat}(aT:dq P t true m=true)(aX:cd S c x (.h4 l n i j))(ae:S.get (G l)=some (.U B))(cP:B.h8=some (n,len,cs))(az:c=true->j+m<=cs.length)
  (hi:c=true->i<len):Pure P S [l] ⟨d,.load t x,ty,pos,a6,bB⟩ c (.d (.agg (((cs.drop j).take m).map (bz.at · i)))):=by
 refine⟨rfl,fun E V M a w h aj=>?_⟩
 have J:=h.ez x (by simp[Op.operands]) _ aX
 have hi:=hi aj
 have az:=az aj
 obtain⟨vs,gq,aW,VN,_,aq⟩:=JR (h.U l (by simp) _ ae) cP (by omega)
 generalize he:a.eval x=v at J
 generalize a.eval=aI at*
 cases J with
 |h4 _ _ _ _=>
  have aj:∀k,k<m->w.cell? ⟨V.aI l,i*n+j+k,none⟩=some (vs.getD (i*n+j+k) undef):=fun k K=>by
   obtain⟨sV,hg,_⟩:=aq i (j+k) cs[j+k] hi (dx (by omega))
   rw[<-Nat.add_assoc]at hg
   simp[World.cell?,aW,hg,Array.getD_eq_getD_getElem?]
  refine⟨.agg ((List.range m).map fun k=>vs.getD (i*n+j+k) undef).toArray,by simp only[execOp,Instr.loadAt,de,he,Instr.sureAddr,e5,Result.andThen,x1 aT aj],.d _ _ (.agg _ _ (by simp;omega) ?_)⟩
  intro k x y Y ak
  simp only[fJ,Option.map_eq_some_iff]at Y
  obtain⟨col,DW,rfl⟩:=Y
  rw[List.getElem?_take]at DW
  split at DW
  ·rename_i K
   rw[List.getElem?_drop]at DW
   simp only[fJ,Option.map_eq_some_iff]at ak
   obtain⟨jZ,gi,rfl⟩:=ak
   rw[List.getElem?_range K]at gi
   injection gi with gi;subst gi
   obtain⟨sV,hg,lA⟩:=aq i (j+k) col hi DW
   rw[<-Nat.add_assoc]at hg
   simpa[Array.getD_eq_getD_getElem?,hg]using lA
  ·cases DW
theorem VO{n:Nat}(h:lR P t n=true):∃e i,P.underlying t=some (.slice e)/\P.info? e=some i/\i.size=n:=by
 unfold lR at h
 split at h
 ·rename_i e hu
  cases hi:P.info? e with
  |none=>rw[hi]at h;simp at h
  |some i=>rw[hi]at h;exact⟨e,i,hu,hi,kN h⟩
 ·cases h
theorem N6{n:Nat}(h:lR P t n=true){w:World}{b o len cap:Nat}{k:IntKind}{i:Int}(bb:0<=i)(J:i.toNat<len):
  (Instr.indexAt t (.slice (some ⟨b,o,none⟩) len cap) (.int k i)).run P w= .ok (.pointer (some ⟨b,o+i.toNat*n,none⟩)) w:=by
 obtain⟨e,inf,hu,hi,af⟩:=VO h
 have cj:(sizeOf e).run P w= .ok n w:=by rw[run_sizeOf _ hi];simp[Program.cellsOf,hi,af]
 have aG:i<(len:Int):=by omega
 simp[Instr.indexAt,asIntOf,run_underlying hu,cj,bb,aG,oA]
theorem Pure.pV{n len:Nat}{g:Nat->List bg}{k:IntKind}{i:Int}(aT:lR P t n=true)(aX:cd S c x (.d (.cK n len g)))(bu:cd S c y (aF k i))(hi:c=true->0<=i/\i.toNat<len):
  Pure P S [] ⟨d,.indexAddr t x y,ty,pos,a6,bB⟩ c (.cc (g i.toNat)):=by
 refine⟨rfl,fun E V M a w h aj=>?_⟩
 obtain⟨bb,aG⟩:=hi aj
 have J:=h.ez x (by simp[Op.operands]) _ aX
 have W:=h.val (by simp[Op.operands]) bu
 generalize he:a.eval x=v at J
 generalize a.eval=aI at*
 cases J with
 |d _ _ J=>
  cases J with
  |ji=>omega
  |cK _ _ _ b o cap l7 aa f aw aq=>
   refine⟨_,by simp only[execOp,he,W,de,N6 aT bb aG,Result.andThen];rfl,.cc _ b _ (f i.toNat) (fun j az=>?_) fun j x Y=>aq _ j x aG Y⟩
   rw[aa _ aG]at az
   have:=aw _ j aG az
   rwa[<-Nat.add_assoc]at this
theorem Pure.mx{l n len:Nat}{k:IntKind}{i:Int}(aT:lR P t n=true)(aX:cd S c x (.aQ l len))(bu:cd S c y (aF k i))(hi:c=true->0<=i/\i.toNat<len):
  Pure P S [] ⟨d,.indexAddr t x y,ty,pos,a6,bB⟩ c (.h4 l n i.toNat 0):=by
 refine⟨rfl,fun E V M a w h aj=>?_⟩
 obtain⟨bb,aG⟩:=hi aj
 have J:=h.ez x (by simp[Op.operands]) _ aX
 have W:=h.val (by simp[Op.operands]) bu
 generalize he:a.eval x=v at J
 generalize a.eval=aI at*
 cases J with
 |aQ _ _ cap K l7=>
  refine⟨_,by simp only[execOp,he,W,de,N6 aT bb aG,Result.andThen];rfl,?_⟩
  have:=bU.h4 (V:=V) (M:=M) l n i.toNat 0
  simpa using this
 |k1=>omega
theorem Pure.N7{l n len:Nat}{k:IntKind}{i:Int}{agg:Bool}(aT:pe P t len agg n=true)(aX:cd S c x (.ao l 0))(bu:cd S c y (aF k i))(hi:c=true->0<=i/\i.toNat<len):
  Pure P S [] ⟨d,.indexAddr t x y,ty,pos,a6,bB⟩ c (.h4 l n i.toNat 0):=by
 refine⟨rfl,fun E V M a w h aj=>?_⟩
 obtain⟨bb,aG⟩:=hi aj
 have J:=h.ez x (by simp[Op.operands]) _ aX
 have W:=h.val (by simp[Op.operands]) bu
 generalize he:a.eval x=v at J
 generalize a.eval=aI at*
 cases J with
 |ao _ _=>
  unfold pe at aT
  split at aT
  ·rename_i kE e hu
   simp only[eL]at aT
   have hlen:=kN aT.1
   subst hlen
   have qu:i<(kE:Int):=by omega
   refine⟨.pointer (some ⟨V.aI l,i.toNat*n,none⟩),by simp[execOp,he,W,Instr.indexAt,asIntOf,run_underlying hu,Instr.sureAddr,r4 aT.2,bb,qu,oA],?_⟩
   have:=bU.h4 (V:=V) (M:=M) l n i.toNat 0
   simpa using this
  ·cases aT
theorem Pure.N8{l:List bg}{len n:Nat}{k:IntKind}{i:Int}{r:bg}(aT:pe P t len false n=true)(af:n=1)(aX:cd S c x (.d (.agg l)))(bu:cd S c y (aF k i))(hi:c=true->0<=i/\i.toNat<len)(aE:c=true->l[i.toNat]?=some r):
  Pure P S [] ⟨d,.index t x y,ty,pos,a6,bB⟩ c (.d r):=by
 subst af
 refine⟨rfl,fun E V M a w h aj=>?_⟩
 obtain⟨bb,aG⟩:=hi aj
 have aE:=aE aj
 have J:=h.ez x (by simp[Op.operands]) _ aX
 have W:=h.val (by simp[Op.operands]) bu
 generalize he:a.eval x=v at J
 generalize a.eval=aI at*
 cases J with
 |d _ _ J=>
  cases J with
  |agg _ vs aa aq=>
   unfold pe at aT
   split at aT
   ·rename_i kE e hu
    simp only[eL]at aT
    have hlen:=kN aT.1
    subst hlen
    have qu:i<(kE:Int):=by omega
    have u9:i.toNat<vs.length:=by have:=(List.getElem?_eq_some_iff.1 aE).1;omega
    refine⟨vs[i.toNat],?_,.d _ _ (aq _ r _ aE (dx u9))⟩
    simp[execOp,he,W,Instr.index,asIntOf,run_underlying hu,bb,qu,part,JO aT.2,r4 aT.2,u9]
   ·cases aT
theorem Pure.DX{b:ByteArray}{k:IntKind}{i:Int}(hu:P.underlying t=some .string)(aX:cd S c x (jm b))(bu:cd S c y (aF k i))(hi:c=true->0<=i/\i.toNat<b.size):
  Pure P S [] ⟨d,.index t x y,ty,pos,a6,bB⟩ c (aF .u8 (b.data.getD i.toNat 0).toNat):=by
 refine⟨rfl,fun E V M a w h aj=>?_⟩
 obtain⟨bb,aG⟩:=hi aj
 have J:=h.val (by simp[Op.operands]) aX
 have W:=h.val (by simp[Op.operands]) bu
 generalize a.eval=aI at*
 refine⟨_,?_,.d _ _ (.v _)⟩
 have qu:i.toNat<b.data.size:=aG
 have:b[i.toNat]?=some (b.data.getD i.toNat 0):=by
  rw[getElem?_pos b i.toNat aG]
  simp only[Array.getD,qu,dif_pos]
  rfl
 simp[execOp,J,W,Instr.index,asIntOf,run_underlying hu,bb,this]
theorem zH{e:TypeId}{n:Nat}(hu:P.underlying t=some (.slice e))(cj:∀w,(sizeOf e).run P w= .ok n w){w:World}{a:Option Addr}{len cap:Nat}{lo hi:Option Value}{l h:Nat}
  (rh:(lo=none/\l=0)\/∃k,lo=some (.int k l)) (oB:(hi=none/\h=len)\/∃k,hi=some (.int k h)) (J:l<=h) (W:h<=cap):
  (Instr.sliceAt t (.slice a len cap) lo hi none).run P w= .ok (.slice (if cap=l then a else a.map (·.add (l*n))) (h-l) (cap-l)) w:=by
 rcases rh with⟨rfl,rfl⟩|⟨k,rfl⟩<;>rcases oB with⟨rfl,rfl⟩|⟨jZ,rfl⟩<;>
  simp[Instr.sliceAt,Instr.slice,run_underlying hu,Instr.sliceBounds,Instr.sliceBound,asIntOf,cj,J,W]
end
end
section
variable {P:Program} {S:ad} {ro:eR} {ops:Array Oper}
structure gZ(V:cu)(M:Mem)(l:List ai)(vs:List Value):Prop where
 len:l.length=vs.length
 e6:∀(j:Nat) (x:ai) (y:Value),l[j]?=some x->vs[j]?=some y->bU V M x y
def j0{α:Type}(l:List α)(o:Nat)(us:List α):List α:=l.take o++us++l.drop (o+us.length)
theorem wC{α:Type}{l:List α}{o:Nat}{us:List α}(h:o+us.length<=l.length):(j0 l o us).length=l.length:=by
 simp[j0];omega
theorem DY{α:Type}{l:List α}{o:Nat}{us:List α}(h:o+us.length<=l.length)(j:Nat):(j0 l o us)[j]?=if o<=j/\j<o+us.length then us[j-o]? else l[j]?:=by
 unfold j0
 by_cases J:j<o
 ·rw[if_neg (by omega),List.append_assoc,pf (by simp;omega),pQ J]
 ·by_cases W:j<o+us.length
  ·rw[if_pos ⟨by omega,W⟩,List.append_assoc,List.getElem?_append_right (by simp;omega),pf (by simp;omega)]
   congr 1
   simp
   omega
  ·rw[if_neg (by omega),List.getElem?_append_right (by simp;omega),List.getElem?_drop]
   congr 1
   simp
   omega
theorem gZ.Gw{V:cu}{M:Mem}{l us:List ai}{vs ws:List Value}{o:Nat}(h:gZ V M l vs)(k:gZ V M us ws)(bJ:o+us.length<=l.length):gZ V M (j0 l o us) (j0 vs o ws) where
 len:=by rw[wC bJ,wC (by rw[<-k.len,<-h.len];exact bJ),h.len]
 e6:=fun j x y Y ak=>by
  rw[DY bJ]at Y
  rw[DY (by rw[<-k.len,<-h.len];exact bJ)]at ak
  rw[<-k.len]at ak
  split at Y
  ·rename_i az;rw[if_pos az]at ak;exact k.e6 _ _ _ Y ak
  ·rename_i az;rw[if_neg az]at ak;exact h.e6 _ _ _ Y ak
def jo:Value->Bool
 | .agg _| .tuple _=>false
 |_=>true
def ai.jL:ai->Option (List ai)
 | .d (.agg l)=>some (l.map .d)
 | .d (.v u)=>bif jo u then some [.d (.v u)]else none
 | .agg l=>some l
 | .bE _=>none
 | .bB _ _=>none
 | .qq _=>none
 |x=>some [x]
theorem N9{u:Value}(h:jo u=true):u.cells= #[u]:=by cases u<;>simp_all [jo,Value.cells]
theorem Oa{v:Value}(h:(∀cs,v≠ .agg cs)/\∀cs,v≠ .tuple cs):jo v=true:=by
 cases v with
 |agg cs=>exact absurd D (h.1 cs)
 |tuple cs=>exact absurd D (h.2 cs)
 |_=>rfl
theorem zI{V:cu}{M:Mem}{x:ai}{v:Value}{l:List ai}(h:bU V M x v)(aa:x.jL=some l):gZ V M l v.cells.toList:=by
 have one:∀{x:ai} {v:Value},bU V M x v->v.cells= #[v]->gZ V M [x] v.cells.toList:=fun{x v} h e=>by
  rw[e]
  refine⟨rfl,fun j y z ak bd=>?_⟩
  cases j with
  |zero=>simp at ak bd;subst ak;subst bd;exact h
  |succ j=>simp at ak
 cases h with
 |d x v h=>
  cases h with
  |v=>
   simp only[ai.jL]at aa
   cases an:jo v with
   |true=>rw[an]at aa;simp only[cond_true,en]at aa;subst aa;exact one (.d _ _ (.v _)) (N9 an)
   |false=>rw[an]at aa;simp at aa
  |agg l' vs e4 aq=>
   simp only[ai.jL,en]at aa
   subst aa
   refine⟨by simpa[Value.cells]using e4,fun j y z ak bd=>?_⟩
   simp only[fJ,Option.map_eq_some_iff]at ak
   obtain⟨x3,zC,rfl⟩:=ak
   exact .d _ _ (aq j x3 z zC bd)
  |ji n g a cap=>simp only[ai.jL,en]at aa;subst aa;exact one (.d _ _ (.ji n g a cap)) D
  |cK n len g b o cap aj e4 c aw h=>simp only[ai.jL,en]at aa;subst aa;exact one (.d _ _ (.cK n len g b o cap aj e4 c aw h)) D
  |any p hv v hle an h=>simp only[ai.jL,en]at aa;subst aa;exact one (.d _ _ (.any p hv v hle an h)) (N9 (Oa an))
 |agg l' vs e4 aq=>simp only[ai.jL,en]at aa;subst aa;exact⟨e4,aq⟩
 |ao l j=>simp only[ai.jL,en]at aa;subst aa;exact one (.ao l j) D
 |h4 l n i j=>simp only[ai.jL,en]at aa;subst aa;exact one (.h4 l n i j) D
 |cc l b o c aw h=>simp only[ai.jL,en]at aa;subst aa;exact one (.cc l b o c aw h) D
 |aQ l len cap K aj=>simp only[ai.jL,en]at aa;subst aa;exact one (.aQ l len cap K aj) D
 |k1 l K=>simp only[ai.jL,en]at aa;subst aa;exact one (.k1 l K) D
 |ab l n lo len cap aj K=>simp only[ai.jL,en]at aa;subst aa;exact one (.ab l n lo len cap aj K) D
 |xP l n lo a cap=>simp only[ai.jL,en]at aa;subst aa;exact one (.xP l n lo a cap) D
 |fn f cs vs e4 aq=>simp only[ai.jL,en]at aa;subst aa;exact one (.fn f cs vs e4 aq) D
 |iI l=>simp only[ai.jL,en]at aa;subst aa;exact one (.iI l) D
 |lP l n lo len cap aj=>simp only[ai.jL,en]at aa;subst aa;exact one (.lP l n lo len cap aj) D
 |cE f cs vs e4 aq=>simp only[ai.jL,en]at aa;subst aa;exact one (.cE f cs vs e4 aq) D
 |mp l=>simp only[ai.jL,en]at aa;subst aa;exact one (.mp l) D
 |bE=>simp[ai.jL]at aa
 |qq=>simp[ai.jL]at aa
 |bB=>simp[ai.jL]at aa
theorem gZ.pd{V:cu}{M:Mem}{l:List ai}{vs:List Value}(h:gZ V M l vs){m:Nat}(b:Nat)(k:Option Nat)(aw:∀x∈l,¬gK x m):gZ (V.set m b k) M l vs:=
 ⟨h.len,fun j x y Y ak=>(h.e6 j x y Y ak).pd b k (aw x (List.mem_of_getElem? Y))⟩
theorem wD{aY:ad}{o:Oper}{t l:Nat}{dE ds:List Nat}{B:cO}{x:ai}(gM:o.dst=some t)(fY:o.guard=none)(h0:sR o.op=true)
  (h:∀E V M a w,jc E aY o dE true V M a w->∃w' v bZ,(execOp a.eval o).run P w= .ok (.value v) w'/\fb w w' w.heap.size/\gC (V.set l w.heap.size bZ) M w' l B/\bU (V.set l w.heap.size bZ) M x v):
  kA P ro ops o ⟨cQ o++dE.map G,aY,fU ds l B t x,[l]⟩:=by
 intro E S a w an bf dX ⟨V,M,aC,hw⟩ Q gD
 have aT:t<E.cg:=dX.2 t (Bt.2 (.inr (.inr D)))
 have K:l∉E.aA:=dX.1 l (by simp)
 obtain⟨w',v,bZ,aE,cy,cP,Y⟩:=h E V M a w (qw (rn:=cQ o++dE.map G) an (fun n af=>by simp[af]) (fun l aa=>by simp only[hy,List.mem_map];right;exact⟨l,aa,rfl⟩) D aC hw)
 unfold lx
 rw[if_pos (by simp[Region.wanted,fY])]
 refine sS h0 aE ?_
 rw[gM]
 exact DT aC hw cy (.inl D) (bf l (by simp)) K aT cP Y
theorem tZ{aY S':ad}{o:Oper}{r:List Oper}{L:List cx}{t l:Nat}{dE:List Nat}(ds:List Nat){B:cO}{x:ai}(aC:kA P ro ops o ⟨cQ o++dE.map G,aY,fU ds l B t x,[l]⟩)
  (bf:h7 ⟨cQ o++dE.map G,aY,fU ds l B t x,[l]⟩ aY=true) (h:bI P ro ops r (aY.after ds l B t x) L S'):
  bI P ro ops (o::r) aY (⟨cQ o++dE.map G,aY,fU ds l B t x,[l]⟩::L) S':=
 .cons aC (fun _ _=>rfl) (sN bf) (VK _ _ _ _ _ _) h
def cZ(P:Program)(t:TypeId)(cq:List Value):Prop:=(P.info? t).map (fun i=>i.zero.map fun z=>z.cells.toList)=some (some cq)
theorem x4{t:TypeId}{cq:List Value}(h:cZ P t cq):∃z,z.cells.toList=cq/\∀w,(zeroValue t).run P w= .ok z w:=by
 unfold cZ at h
 cases hi:P.info? t with
 |none=>rw[hi]at h;simp at h
 |some i=>
  rw[hi]at h
  cases bd:i.zero with
  |none=>simp[bd]at h
  |some z=>
   simp[bd]at h
   exact⟨z,h,fun w=>by simp[zeroValue,typeInfo,hi,bd]⟩
def JS(B:cO)(cq:List Value):Prop:=∀V M w l t,V.bZ l≠none->w.heap[V.aI l]?=some (.cells cq.toArray t (0,0))->gC V M w l B
theorem VP(cq:List Value):JS (.cells (cq.map fun z=>.d (.v z))) cq:=by
 intro V M w l t K ae
 refine⟨K,cq.toArray,t,ae,by simp,fun j x y Y ak=>?_⟩
 simp only[fJ,Option.map_eq_some_iff]at Y
 obtain⟨z,bd,rfl⟩:=Y
 simp only[List.getElem?_toArray]at ak
 rw[bd]at ak;injection ak with ak;subst ak
 exact .d _ _ (.v _)
theorem VQ(cq:List Value):JS (.data (cq.map .v)) cq:=by
 intro V M w l t K ae
 have:=VP cq V M w l t K ae
 show zs V M w l ((cq.map bg.v).map ai.d)
 rw[List.map_map]
 exact this
theorem JT{t:TypeId}{v:Value}(w:World):(newVar t v).run P w= .ok ⟨w.heap.size,0,none⟩ (w.alloc (.cells v.cells t)):=by
 simp[newVar,newRow]
theorem sW(w:World)(o:Obj):(w.alloc o).heap[w.heap.size]?=some o:=by
 show(w.heap.push o)[w.heap.size]?=some o
 simp
section
variable {o:Oper} {x y z:Operand} {d t:Nat} {ty e s:TypeId} {pos:String} {a6:Array Edge}
theorem bI.alloc{S':ad}{r:List Oper}{L:List cx}(l:Nat)(ds:List Nat){cq:List Value}(B:cO)(bd:cZ P e cq)(cP:JS B cq)
  (bf:h7 ⟨cQ ⟨some d,.alloc e,ty,pos,a6,none⟩,S,fU ds l B d (.ao l 0),[l]⟩ S=true) (h:bI P ro ops r (S.after ds l B d (.ao l 0)) L S'):
  bI P ro ops (⟨some d,.alloc e,ty,pos,a6,none⟩::r) S (⟨cQ ⟨some d,.alloc e,ty,pos,a6,none⟩++([]:List Nat).map G,S,fU ds l B d (.ao l 0),[l]⟩::L) S':=by
 refine tZ ds (wD D D D fun E V M a w h=>?_) (by simpa using bf) h
 obtain⟨z,pg,aE⟩:=x4 bd
 refine⟨w.alloc (.cells z.cells e),.pointer (some ⟨w.heap.size,0,none⟩),some 0,?_,fb.alloc w _,?_,?_⟩
 ·simp only[execOp,Instr.alloc,de,aE,Result.andThen,JT,e5]
 ·refine cP _ M _ l e (by simp) ?_
  rw[jK,sW,<-pg,Array.toArray_toList]
 ·have:=bU.ao (V:=V.set l w.heap.size (some 0)) (M:=M) l 0
  rwa[jK]at this
theorem wE{S':ad}{r:List Oper}{L:List cx}(l:Nat)(ds:List Nat){u:ai}{cs:List ai}(aX:cd S true x u)(fV:u.jL=some cs)(aw:ai.tU l cs=false)
  (bf:h7 ⟨cQ ⟨some d,.box e x,ty,pos,a6,none⟩,S,fU ds l (.cells cs) d (.ao l 0),[l]⟩ S=true) (h:bI P ro ops r (S.after ds l (.cells cs) d (.ao l 0)) L S'):
  bI P ro ops (⟨some d,.box e x,ty,pos,a6,none⟩::r) S (⟨cQ ⟨some d,.box e x,ty,pos,a6,none⟩++([]:List Nat).map G,S,fU ds l (.cells cs) d (.ao l 0),[l]⟩::L) S':=by
 refine tZ ds (wD D D D fun E V M a w h=>?_) (by simpa using bf) h
 have J:=zI (h.ez x (by simp[Op.operands]) _ aX) fV
 generalize a.eval=aI at*
 refine⟨w.alloc (.cells (aI x).cells e),.pointer (some ⟨w.heap.size,0,none⟩),some 0,?_,fb.alloc w _,?_,?_⟩
 ·simp only[execOp,Instr.box,de,Result.andThen,JT,e5]
 ·have W:=J.pd (m:=l) w.heap.size (some 0) (fun x Y jn=>by rw[xW Y (zz jn)]at aw;cases aw)
  refine⟨by simp,(aI x).cells,e,by rw[jK,sW],by simpa using W.len.symm,fun j x y Y ak=>W.e6 j x y Y (by simpa using ak)⟩
 ·have:=bU.ao (V:=V.set l w.heap.size (some 0)) (M:=M) l 0
  rwa[jK]at this
end
def ri:ai->Option (List bg)
 | .d (.agg l)=>some l
 | .d (.v u)=>bif jo u then some [.v u]else none
 | .d (.cK a b c)=>some [.cK a b c]
 | .d (.any p)=>some [.any p]
 |_=>none
section
variable {o:Oper} {x y z:Operand} {d t:Nat} {ty e s:TypeId} {pos:String} {a6:Array Edge}
theorem JU{u:ai}{ds:List bg}(h:ri u=some ds):u.jL=some (ds.map .d):=by
 cases u with
 |d x=>
  cases x with
  |v u=>simp only[ri]at h;cases an:jo u with
   |true=>rw[an]at h;simp at h;subst h;simp[ai.jL,an]
   |false=>rw[an]at h;simp at h
  |cK=>simp only[ri,en]at h;subst h;rfl
  |any=>simp only[ri,en]at h;subst h;rfl
  |agg l=>simp only[ri,en]at h;subst h;rfl
 |_=>simp[ri]at h
theorem bI.VR{S':ad}{r:List Oper}{L:List cx}(l:Nat)(ds:List Nat){u:ai}{dl:List bg}(aX:cd S true x u)(fV:ri u=some dl)
  (bf:h7 ⟨cQ ⟨some d,.box e x,ty,pos,a6,none⟩,S,fU ds l (.data dl) d (.ao l 0),[l]⟩ S=true) (h:bI P ro ops r (S.after ds l (.data dl) d (.ao l 0)) L S'):
  bI P ro ops (⟨some d,.box e x,ty,pos,a6,none⟩::r) S (⟨cQ ⟨some d,.box e x,ty,pos,a6,none⟩++([]:List Nat).map G,S,fU ds l (.data dl) d (.ao l 0),[l]⟩::L) S':=by
 refine tZ ds (wD D D D fun E V M a w h=>?_) (by simpa using bf) h
 have J:=zI (h.ez x (by simp[Op.operands]) _ aX) (JU fV)
 generalize a.eval=aI at*
 refine⟨w.alloc (.cells (aI x).cells e),.pointer (some ⟨w.heap.size,0,none⟩),some 0,?_,fb.alloc w _,?_,?_⟩
 ·simp only[execOp,Instr.box,de,Result.andThen,JT,e5]
 ·have W:=J.pd (m:=l) w.heap.size (some 0) (fun x Y jn=>by obtain⟨y,_,rfl⟩:=List.mem_map.1 Y;cases jn)
  refine⟨by simp,(aI x).cells,e,by rw[jK,sW],by simpa using W.len.symm,fun j x y Y ak=>W.e6 j x y Y (by simpa using ak)⟩
 ·have:=bU.ao (V:=V.set l w.heap.size (some 0)) (M:=M) l 0
  rwa[jK]at this
end
theorem VS(us:List Value):∀(off:Nat) (k:Nat) (cells:List Value),off+k+us.length<=cells.length->
  (us.zipIdx k).foldl (fun(cs:Array Value) (x:Value×Nat)=>cs.setIfInBounds (off+x.2) x.1) cells.toArray=(j0 cells (off+k) us).toArray:=by
 induction us with
 |nil=>intro off k cells h;simp[j0]
 |cons u r aJ=>
  intro off k cells h
  simp only[List.zipIdx_cons,List.foldl_cons]
  have aG:off+k<cells.length:=by simp at h;omega
  have aX:cells.toArray.setIfInBounds (off+k) u=(cells.set (off+k) u).toArray:=by simp
  rw[aX,aJ off (k+1) _ (by simp at h⊢;omega)]
  congr 1
  apply List.ext_getElem?
  intro j
  rw[DY (by simp at h⊢;omega),DY (by simpa[Nat.add_assoc]using h)]
  by_cases J:j=off+k
  ·subst J
   rw[if_neg (by omega),if_pos (by simp)]
   simp[aG]
  ·rw[List.getElem?_set_ne (Ne.symm J)]
   by_cases W:off+k+1<=j/\j<off+k+1+r.length
   ·rw[if_pos (by omega),if_pos (by simp;omega)]
    have:j-(off+k)=(j-(off+(k+1)))+1:=by omega
    rw[this];simp
   ·rw[if_neg (by omega),if_neg (by simp;omega)]
theorem VT{place:Nat->Option (Nat×Nat)}{cells:List Value}{i off size:Nat}{v:Value}{rest:List (Nat×Value)}(Z:place i=some (off,size))(an:v.cells.size=size)(bJ:off+size<=cells.length):
  Instr.fill place cells.toArray ((i,v)::rest)=Instr.fill place (j0 cells off v.cells.toList).toArray rest:=by
 subst an
 simp only[Instr.fill,Z]
 have ae:(decide (v.cells.size≠v.cells.size)||decide (off+v.cells.size>cells.toArray.size))=false:=by simp;omega
 simp only[ae,Bool.false_eq_true,if_false]
 have:=VS v.cells.toList off 0 cells (by simpa using bJ)
 simp only[Nat.add_zero]at this
 rw[<-this]
 congr 1
 rw[<-Array.foldl_toList,Array.toList_zipIdx]
inductive r5(S:ad):(Nat->Option (Nat×Nat))->List ai->List (Nat×Operand)->List ai->Prop
 |nil (place:Nat->Option (Nat×Nat)) (l:List ai):r5 S place l [] l
 |cons {place:Nat->Option (Nat×Nat)} {l l' us:List ai} {i off:Nat} {x:Operand} {u:ai} {r:List (Nat×Operand)} (e:cd S true x u) (hu:u.jL=some us) (Z:place i=some (off,us.length)) (bJ:off+us.length<=l.length)
  (h:r5 S place (j0 l off us) r l'):r5 S place l ((i,x)::r) l'
theorem Gx{place:Nat->Option (Nat×Nat)}{l l':List ai}{ps:List (Nat×Operand)}(h:r5 S place l ps l'){V:cu}{M:Mem}{aI:Operand->Value}:
  (∀p∈ps,∀y,cd S true p.2 y->bU V M y (aI p.2))->∀{vs:List Value},gZ V M l vs->∃j1,Instr.fill place vs.toArray (ps.map fun p=>(p.1,aI p.2))=some j1.toArray/\gZ V M l' j1:=by
 induction h with
 |nil l=>intro _ vs aK;exact⟨vs,rfl,aK⟩
 | @cons l l' us i off x u r e hu Z bJ h aJ=>
  intro aq vs aK
  have J:=zI (aq (i,x) (by simp) u e) hu
  have cj:(aI x).cells.size=us.length:=by simpa using J.len.symm
  obtain⟨j1,bf,hg⟩:=aJ (fun p Z=>aq p (by simp[Z])) (aK.Gw J bJ)
  refine⟨j1,?_,hg⟩
  rw[List.map_cons,VT Z cj (by rw[<-aK.len];exact bJ)]
  exact bf
def bV(cq:List Value):List ai:=cq.map fun z=>.d (.v z)
theorem Gy(V:cu)(M:Mem)(cq:List Value):gZ V M (bV cq) cq:=
 ⟨by simp[bV],fun j x y Y ak=>by
  simp only[bV,fJ,Option.map_eq_some_iff]at Y
  obtain⟨z,bd,rfl⟩:=Y
  rw[bd]at ak;injection ak with ak;subst ak
  exact .d _ _ (.v _)⟩
def kh(P:Program)(t:TypeId)(place:Nat->Option (Nat×Nat)):Prop:=
 (∃fw places,P.underlying t=some (.struct fw)/\(∀w,(fw.mapM fun f=>(do pure (f.offset,<-sizeOf f.type):Sem (Nat×Nat))).run P w= .ok places w)/\place=(places[·]?))\/
 (∃n e size,P.underlying t=some (.array n e)/\(∀w,(sizeOf e).run P w= .ok size w)/\place=fun i=>some (i*size,size))
theorem Pure.build{c:Bool}{parts:Array (Nat×Operand)}{cq:List Value}{place:Nat->Option (Nat×Nat)}{l:List ai}{d:Option Tmp}{t ty:TypeId}{pos:String}{a6:Array Edge}(bd:cZ P t cq)(Z:kh P t place)(bf:r5 S place (bV cq) parts.toList l)
  (aj:c=true):Pure P S [] ⟨d,.build t parts,ty,pos,a6,none⟩ c (DV l):=by
 subst aj
 refine⟨rfl,fun E V M a w h _=>?_⟩
 have ha:∀p∈parts.toList,∀y,cd S true p.2 y->bU V M y (a.eval p.2):=fun p Z y ak=>h.ez p.2 (by simp only[Op.operands,List.mem_toArray,List.mem_map];exact⟨p,Z,rfl⟩) y ak
 generalize a.eval=aI at*
 obtain⟨z,pg,aE⟩:=x4 bd
 obtain⟨j1,oC,hg⟩:=Gx bf ha (Gy V M cq)
 have rj:z.cells=cq.toArray:=by rw[<-pg,Array.toArray_toList]
 have sX:(parts.map fun x=>(x.1,aI x.2)).toList=parts.toList.map fun p=>(p.1,aI p.2):=by simp
 refine⟨.agg j1.toArray,?_,JQ (.agg _ _ hg.len hg.e6)⟩
 rcases Z with⟨fw,places,hu,k7,rfl⟩|⟨n,e,size,hu,cj,rfl⟩
 ·simp only[execOp,Instr.build,de,aE,run_underlying hu,Result.andThen,k7,sX,rj,oC,e5]
 ·simp only[execOp,Instr.build,de,aE,run_underlying hu,Result.andThen,cj,sX,rj,oC,e5]
end
section
variable {P:Program} {S:ad} {ro:eR} {ops:Array Oper}
def bw(P:Program)(f:FuncId)(args:List ai)(aS:ad)(res:ai)(a8:ad)(aA:List Nat):Prop:=
 ∀(V:cu) (M:Mem) (w:World) (b4:List Nat) (vs:List Value),cl (.dd w b4 M (V) (aA) 0) aS V M w->gZ V M args vs->
  Calls P f vs.toArray w fun e w'=>∃v br bo,e= .returned v/\bU br bo res v/\cl (.dd w b4 M (V) (aA) 0) a8 br bo w'
theorem cl.mv{E E':c7}{S:ad}{V:cu}{M:Mem}{w:World}(h:cl E S V M w)(J:E'.iu=E.iu)(W:E'.b4=E.b4)(aH:E'.hv=E.hv)(aV:E'.nL=E.nL)(db:E'.aA=E.aA):cl E' S V M w:=by
 obtain⟨iu,p,hv,nL,k,n,_⟩:=E
 obtain⟨ai8,ai9,aja,ajb,jZ,l6,_⟩:=E'
 simp only at J W aH aV db
 subst J;subst W;subst aH;subst aV;subst db
 exact{dn:=h.dn,inj:=h.inj,dO:=h.dO,dt:=h.dt,cE:=h.cE,mem:=h.mem,dA:=h.dA,er:=h.er,ea:=h.ea,aA:=h.aA,b6:=⟨h.b6.os,h.b6.tape,h.b6.output,h.b6.size,h.b6.block⟩}
theorem cl.my{E:c7}{S T:ad}{V:cu}{M:Mem}{w:World}(h:cl E S V M w)(ae:∀l B,T.get (G l)=some (.U B)->S.get (G l)=some (.U B)):cl E T V M w:=by
 have aW:∀l,di V T l->di V S l:=fun l ⟨⟨B,e⟩,k⟩=>⟨⟨B,ae l B e⟩,k⟩
 exact{
  dn:=fun l B e=>h.dn l B (ae l B e),inj:=fun l l' a b=>h.inj l l' (aW l a) (aW l' b),dO:=fun l a=>h.dO l (aW l a),dt:=fun l a=>h.dt l (aW l a),cE:=fun l a=>h.cE l (aW l a),
  mem:=h.mem,dA:=h.dA,er:=h.er,ea:=h.ea,aA:=h.aA,b6:=h.b6}
inductive x5(P:Program)(S:ad):ResultVar->ai->Prop
 |tmp {t:Nat} {x:ai} (h:S.get (ab t)=some (.aB x)):x5 P S (.tmp t) x
 |va {a l n:Nat} {ty:TypeId} {cs:List ai} (h:S.get (ab a)=some (.aB (.ao l 0))) (ae:S.get (G l)=some (.U (.cells cs))) (aT:dq P ty true n=true) (af:n=cs.length):x5 P S (.cell a ty) (DV cs)
 |Gz {a l n:Nat} {ty:TypeId} {cs:List ai} {x:ai} (h:S.get (ab a)=some (.aB (.ao l 0))) (ae:S.get (G l)=some (.U (.cells cs))) (aT:dq P ty false n=true) (Y:cs[0]?=some x):x5 P S (.cell a ty) x
 |iP {a l n:Nat} {ty:TypeId} {ds:List bg} (h:S.get (ab a)=some (.aB (.ao l 0))) (ae:S.get (G l)=some (.U (.data ds))) (aT:dq P ty true n=true) (af:n=ds.length):x5 P S (.cell a ty) (.d (.agg ds))
 |hR {a l n:Nat} {ty:TypeId} {ds:List bg} {x:bg} (h:S.get (ab a)=some (.aB (.ao l 0))) (ae:S.get (G l)=some (.U (.data ds))) (aT:dq P ty false n=true) (Y:ds[0]?=some x):x5 P S (.cell a ty) (.d x)
 |VU {a l len:Nat} {ty:TypeId} {r:bz} (h:S.get (ab a)=some (.aB (.ao l 0))) (ae:S.get (G l)=some (.U (.fq 1 len [r]))) (aT:dq P ty true len=true):x5 P S (.cell a ty) (.d (.agg ((List.range len).map r.at)))
inductive oD(P:Program)(S:ad):List ResultVar->List ai->Prop
 |nil:oD P S [] []
 |cons {r:ResultVar} {x:ai} {rs:List ResultVar} {xs:List ai} (h:x5 P S r x) (t:oD P S rs xs):oD P S (r::rs) (x::xs)
def kO:List ai->ai
 |[x]=>x
 |xs=>.bE xs
def ua(tmps:Array Value):ResultVar->Sem Value
 | .tmp t=>pure (tmps.getD t undef)
 | .cell b t=>do loadVar t (<-asAddr (tmps.getD b undef))
theorem DZ(fn:Func)(tmps:Array Value):results fn tmps=(do let vs<-fn.results.mapM (ua tmps);pure (if h:vs.size=1 then vs[0]else .tuple vs)):=by
 have:(fun(r:ResultVar)=>(match r with| .tmp t=>pure (tmps.getD t undef)| .cell a t=>do loadVar t (<-asAddr (tmps.getD a undef)):Sem Value))=ua tmps:=by
  funext r;cases r<;>rfl
 rw[<-this]
 rfl
theorem VV{E:c7}{S:ad}{V:cu}{M:Mem}{a:Act}{w:World}(aC:jk E S V M a)(hw:cl E S V M w){r:ResultVar}{x:ai}(h:x5 P S r x):
  ∃v,Sem.run P (ua a.tmps r) w= .ok v w/\bU V M x v:=by
 cases h with
 |tmp h=>
  obtain⟨v,aK,aq⟩:=aC.fT _ _ h
  exact⟨v,by simp[ua,Array.getD_eq_getD_getElem?,aK],aq⟩
 | @va b l n ty cs h ae aT af=>
  obtain⟨v,aK,aq⟩:=aC.fT _ _ h
  obtain⟨_,vs,gq,aW,an,lA⟩:=hw.dn _ _ ae
  cases aq with
  |ao _ _=>
   have aj:∀k,k<n->w.cell? ⟨V.aI l,0+k,none⟩=some (vs.getD k undef):=fun k K=>by
    have:k<vs.size:=by omega
    simp[World.cell?,aW,this,Array.getD]
   refine⟨.agg ((List.range n).map fun k=>vs.getD k undef).toArray,?_,JQ (.agg _ _ (by simp[af]) ?_)⟩
   ·simp only[ua,Array.getD_eq_getD_getElem?,aK,Option.getD_some,de,asAddr,e5,Result.andThen,x1 aT aj]
   ·intro k x y Y ak
    simp only[fJ,Option.map_eq_some_iff]at ak
    obtain⟨jZ,gi,rfl⟩:=ak
    have K:k<n:=by have:=(List.getElem?_eq_some_iff.1 Y).1;omega
    rw[List.getElem?_range K]at gi
    injection gi with gi;subst gi
    have:k<vs.size:=by omega
    exact lA k x _ Y (by simp[this,Array.getD])
 | @Gz b l n ty cs x h ae aT Y=>
  obtain⟨v,aK,aq⟩:=aC.fT _ _ h
  obtain⟨_,vs,gq,aW,an,lA⟩:=hw.dn _ _ ae
  cases aq with
  |ao _ _=>
   have az:0<vs.size:=by have:=(List.getElem?_eq_some_iff.1 Y).1;omega
   have aj:w.cell? ⟨V.aI l,0,none⟩=some vs[0]:=by simp[World.cell?,aW,az]
   refine⟨vs[0],?_,lA 0 x _ Y (Array.getElem?_eq_getElem az)⟩
   simp only[ua,Array.getD_eq_getD_getElem?,aK,Option.getD_some,de,asAddr,e5,Result.andThen,zF aT aj]
 | @iP b l n ty ds h ae aT af=>
  obtain⟨v,aK,aq⟩:=aC.fT _ _ h
  obtain⟨_,vs,gq,aW,an,lA⟩:=hw.dn _ _ ae
  simp only[l5]at an
  cases aq with
  |ao _ _=>
   have aj:∀k,k<n->w.cell? ⟨V.aI l,0+k,none⟩=some (vs.getD k undef):=fun k K=>by
    have:k<vs.size:=by omega
    simp[World.cell?,aW,this,Array.getD]
   refine⟨.agg ((List.range n).map fun k=>vs.getD k undef).toArray,?_,.d _ _ (.agg _ _ (by simp[af]) ?_)⟩
   ·simp only[ua,Array.getD_eq_getD_getElem?,aK,Option.getD_some,de,asAddr,e5,Result.andThen,x1 aT aj]
   ·intro k x y Y ak
    simp only[fJ,Option.map_eq_some_iff]at ak
    obtain⟨jZ,gi,rfl⟩:=ak
    have K:k<n:=by have:=(List.getElem?_eq_some_iff.1 Y).1;omega
    rw[List.getElem?_range K]at gi
    injection gi with gi;subst gi
    have:k<vs.size:=by omega
    have zJ:=lA k (.d x) (vs.getD k undef) (by simp[Y]) (by simp[this,Array.getD])
    cases zJ with|d _ _ h=>exact h
 | @hR b l n ty ds x h ae aT Y=>
  obtain⟨v,aK,aq⟩:=aC.fT _ _ h
  obtain⟨_,vs,gq,aW,an,lA⟩:=hw.dn _ _ ae
  simp only[l5]at an
  cases aq with
  |ao _ _=>
   have az:0<vs.size:=by have:=(List.getElem?_eq_some_iff.1 Y).1;omega
   have aj:w.cell? ⟨V.aI l,0,none⟩=some vs[0]:=by simp[World.cell?,aW,az]
   refine⟨vs[0],?_,lA 0 (.d x) _ (by simp[Y]) (Array.getElem?_eq_getElem az)⟩
   simp only[ua,Array.getD_eq_getD_getElem?,aK,Option.getD_some,de,asAddr,e5,Result.andThen,zF aT aj]
 | @VU b l len ty r h ae aT=>
  obtain⟨v,aK,aq⟩:=aC.fT _ _ h
  obtain⟨_,vs,gq,aW,an,_,_,lA⟩:=hw.dn _ _ ae
  cases aq with
  |ao _ _=>
   have aj:∀k,k<len->w.cell? ⟨V.aI l,0+k,none⟩=some (vs.getD k undef):=fun k K=>by
    have:k<vs.size:=by omega
    simp[World.cell?,aW,this,Array.getD]
   refine⟨.agg ((List.range len).map fun k=>vs.getD k undef).toArray,?_,.d _ _ (.agg _ _ (by simp) ?_)⟩
   ·simp only[ua,Array.getD_eq_getD_getElem?,aK,Option.getD_some,de,asAddr,e5,Result.andThen,x1 aT aj]
   ·intro k x y Y ak
    simp only[fJ,Option.map_eq_some_iff]at Y ak
    obtain⟨k8,x6,rfl⟩:=Y
    obtain⟨mz,jM,rfl⟩:=ak
    rw[x6]at jM
    injection jM with jM;subst jM
    have K:k8<len:=by simpa using List.mem_of_getElem? x6
    obtain⟨sV,hg,VW⟩:=lA k8 0 r K (by simp)
    simp only[Nat.mul_one,Nat.add_zero]at hg
    simpa[Array.getD_eq_getD_getElem?,hg]using VW
theorem VX{E:c7}{S:ad}{V:cu}{M:Mem}{a:Act}{w:World}(aC:jk E S V M a)(hw:cl E S V M w){rs:List ResultVar}{xs:List ai}(h:oD P S rs xs):
  ∃vs,Sem.run P (rs.mapM (ua a.tmps)) w= .ok vs w/\gZ V M xs vs:=by
 induction h with
 |nil=>exact⟨[],rfl,⟨rfl,fun j x y Y _=>by simp at Y⟩⟩
 | @cons r x rs xs h t aJ=>
  obtain⟨v,aK,aq⟩:=VV aC hw h
  obtain⟨vs,kP,oz⟩:=aJ
  refine⟨v::vs,?_,⟨by simp[oz.len],fun j JV y Y ak=>?_⟩⟩
  ·rw[List.mapM_cons,de,aK]
   simp only[Result.andThen,de,kP,e5]
  ·cases j with
   |zero=>simp at Y ak;subst Y;subst ak;exact aq
   |succ j=>simp at Y ak;exact oz.e6 j _ _ Y ak
theorem zK{E:c7}{S:ad}{V:cu}{M:Mem}{a:Act}{w:World}(aC:jk E S V M a)(hw:cl E S V M w){fn:Func}{rs:List ResultVar}{xs:List ai}(aE:fn.results=rs.toArray)(h:oD P S rs xs):
  ∃v,(results fn a.tmps).run P w= .ok v w/\bU V M (kO xs) v:=by
 obtain⟨vs,kP,aq⟩:=VX aC hw h
 have aw:Sem.run P (rs.toArray.mapM (ua a.tmps)) w= .ok vs.toArray w:=by
  rw[List.mapM_toArray]
  simp only[<-bind_pure_comp,de]
  rw[kP]
  rfl
 refine⟨if h:vs.toArray.size=1 then vs.toArray[0]else .tuple vs.toArray,?_,?_⟩
 ·rw[DZ,aE,de,aw]
  rfl
 ·match xs,vs,aq with
  |[],[],aq=>exact .bE [] [] D fun j x y Y _=>by simp at Y
  |[x],[v],aq=>exact aq.e6 0 x v D D
  |x::JV::xs,v::sV::vs,aq=>
   rw[dif_neg (by simp)]
   exact .bE _ _ aq.len aq.e6
  |[],_::_,aq=>exact absurd aq.len (by simp)
  |[_],[],aq=>exact absurd aq.len (by simp)
  |[_],_::_::_,aq=>exact absurd aq.len (by simp)
  |_::_::_,[],aq=>exact absurd aq.len (by simp)
  |_::_::_,[_],aq=>exact absurd aq.len (by simp)
def j2:Nat->List ai->ad
 |_,[]=>[]
 |k,x::r=>(ab k,.aB x)::j2 (k+1) r
theorem JW:∀(l:List ai) (k t:Nat) (x:ai),(j2 k l).get (ab t)=some (.aB x)->k<=t/\l[t-k]?=some x
 |[],k,t,x,h=>by simp[j2,ad.get]at h
 |y::r,k,t,x,h=>by
  simp only[j2,ad.get,ih]at h
  by_cases K:ab k=ab t
  ·have:=qx K;subst this
   simp at h;subst h
   simp
  ·simp only[K,decide_false,cond_false]at h
   obtain⟨J,W⟩:=JW r (k+1) t x h
   refine⟨by omega,?_⟩
   have:t-k=(t-(k+1))+1:=by omega
   rw[this];simpa using W
theorem JX:∀(l:List ai) (k m:Nat),(j2 k l).get (G m)=none
 |[],_,_=>rfl
 |y::r,k,m=>by simp only[j2,ad.get,ih,iz k m,decide_false,cond_false];exact JX r (k+1) m
theorem qA(S T:ad)(n:Nat):ad.get (S++T) n=match S.get n with|some c=>some c|none=>T.get n:=by
 induction S with
 |nil=>rfl
 |cons x r aJ=>
  obtain⟨m,c⟩:=x
  simp only[List.cons_append,ad.get]
  cases Nat.beq m n with
  |true=>rfl
  |false=>exact aJ
theorem VY{f:FuncId}{fn:Func}{c:Code}{args:List ai}{aS a8:ad}{res:ai}{aA:List Nat}{rs:List ResultVar}(bf:P.funcs[f]?=some fn)(ae:fn.body=some c)(mA:fn.results=rs.toArray)
  (af:args.length<=fn.ntmps) (lB:∀n c,aS.get n=some c->n%2=1)
  (h:∀E:c7,E.aA=aA->E.cg=fn.ntmps->c8 P {} E c (j2 0 args++aS) fun e S'=>(e= .normal\/e= .ret)/\(∃xs,oD P S' rs xs/\res=kO xs)/\∀l B,a8.get (G l)=some (.U B)->S'.get (G l)=some (.U B)):
  bw P f args aS res a8 aA:=by
 intro V M w b4 vs hw aq
 refine calls_of_wp bf ae ?_
 let E:c7:=(.dd w b4 M (V) (aA) fn.ntmps)
 have kF:ei E (j2 0 args++aS) {tmps:=vs.toArray++Array.replicate (fn.ntmps-vs.toArray.size) undef,defers:=[]} w:=by
  refine⟨V,M,⟨fun t x aT=>?_,?_,rfl⟩,?_⟩
  ·rw[qA]at aT
   cases aM:(j2 0 args).get (ab t)with
   |none=>
    rw[aM]at aT
    have:=lB _ _ aT
    unfold ab at this;omega
   |some c=>
    rw[aM]at aT
    simp only[en]at aT
    subst aT
    obtain⟨_,W⟩:=JW args 0 t x aM
    simp only[Nat.sub_zero]at W
    have aG:t<vs.length:=by have:=(List.getElem?_eq_some_iff.1 W).1;rw[<-aq.len];exact this
    exact⟨vs[t],by simp[Array.getElem?_append,aG],aq.e6 t x _ W (dx aG)⟩
  ·have:=aq.len
   simp only[Array.size_append,List.size_toArray,Array.size_replicate]
   show _=fn.ntmps
   omega
  ·refine(hw.mv (E':=E) D D D D D).my fun l B aa=>?_
   rw[qA,JX]at aa
   exact aa
 have:=wpIn_wide.1 (xT D (h E D D _ w kF.m))
 refine Code.wp_mono ?_ this
 rintro e a w' (⟨S',⟨he,⟨xs,r6,rfl⟩,nO⟩,ki⟩|⟨x,Z,_⟩)
 case inr=>cases Z
 obtain⟨br,bo,ix,b8⟩:=ki.dB rfl
 obtain⟨v,aK,eD⟩:=zK ix b8 mA r6
 have sP:bodyPost P fn (fun e w'=>∃v br bo,e= .returned v/\bU br bo (kO xs) v/\cl (.dd w b4 M (V) (aA) 0) a8 br bo w') .normal a w':=
  ⟨ix.defers,v,aK,v,br,bo,rfl,eD,(b8.mv (E':=(.dd w b4 M (V) (aA) 0)) D D D D D).my nO⟩
 rcases he with rfl|rfl
 ·exact sP
 ·exact sP
def hS(P:Program)(f:FuncId):Bool:=match P.funcs[f]? with
 |some fn=> !(fn.name== "runtime.NumGoroutine")&&fn.body.isSome
 |none=>false
theorem D0{f:FuncId}(h:hS P f=true)(args:Array Value)(w:World):(callFunc f args).run P w= .ok (.enter f args) w:=by
 unfold hS at h
 split at h
 ·rename_i fn bf
  simp only[eL,Bool.not_eq_true']at h
  have ae:fn.body.isNone=false:=by cases Bu:fn.body<;>simp_all
  simp only[callFunc,de]
  have:(program:Sem Program).run P w= .ok P w:=rfl
  rw[this]
  simp only[Result.andThen,bf,h.1,ae,Bool.false_eq_true,if_false]
  rfl
 ·cases h
theorem Ob{f:FuncId}(h:hS P f=true):∃x,P.funcs[f]?=some x:=by
 unfold hS at h
 split at h
 ·rename_i fn bf;exact⟨fn,bf⟩
 ·cases h
theorem Oc[jI ro]{f:FuncId}{args:Array Value}{w:World}{R:Ending->World->Prop}(h:Calls P f args w R):CallsIn (ja P ro) 0 P f args w R:=by
 rw[Dy];exact(callsIn_wide (n:=0)).2 h
theorem Od[jI ro]{o:Oper}{a:Act}{w:World}{f:FuncId}{args:Array Value}{fg:Act->World->Prop}{Q:Exit->Act->World->Prop}(aq:∀d,o.op≠ .defer d)
  (aE:(execOp a.eval o).run P w= .ok (.enter f args) w) (K:Calls P f args w fun e w'=>∃v,e= .returned v/\fg (a.put o.dst v) w'):o.wpIn (ja P ro) 0 P a w fg Q:=by
 refine⟨DN o a w,?_⟩
 rw[Oper.semAt_eq _ _ _ aq,aE]
 refine⟨Bq ro 0,Oc (K.mono ?_)⟩
 rintro e w' ⟨v,rfl,aK⟩
 exact aK
structure jq(S:ad)(c:Bool)(cD:Call)(g:FuncId)(args:List ai):Prop where
 bQ:∃(f:Operand) (cs xs:List ai),cD.callee= .value f/\(cd S c f (.fn g cs)/\args=xs++cs\/cd S c f (.cE g cs)/\args=cs++xs\/∃us:List Value,cd S c f (.d (.v (.func (.func g) #[] us.toArray)))/\args=xs++us.map fun u=>.d (.v u))/\xs.length=cD.args.size/\∀(j:Nat) (x:Operand) (y:ai),cD.args[j]?=some x->xs[j]?=some y->cd S c x y
theorem gZ.append{V:cu}{M:Mem}{l m:List ai}{vs ws:List Value}(h:gZ V M l vs)(k:gZ V M m ws):gZ V M (l++m) (vs++ws) where
 len:=by simp[h.len,k.len]
 e6:=fun j x y Y ak=>by
  by_cases az:j<l.length
  ·rw[pf az]at Y
   rw[pf (by rw[<-h.len];exact az)]at ak
   exact h.e6 j x y Y ak
  ·rw[List.getElem?_append_right (by omega)]at Y
   rw[List.getElem?_append_right (by rw[<-h.len];omega),<-h.len]at ak
   exact k.e6 _ x y Y ak
theorem GA{E:c7}{V:cu}{M:Mem}{a:Act}{w:World}{o:Oper}{cD:Call}{dE:List Nat}{c:Bool}{g:FuncId}{args:List ai}(bJ:o.op= .call cD)(h:jc E S o dE c V M a w)(aj:jq S c cD g args)(aM:hS P g=true):
  ∃vs,(execOp a.eval o).run P w= .ok (.enter g vs.toArray) w/\gZ V M args vs:=by
 obtain⟨f,cs,xs,bf,nP,aa,he⟩:=aj.bQ
 have ub:f∈o.op.operands:=by rw[bJ];simp[Op.operands,Call.operands,bf]
 have pW:gZ V M xs (cD.args.toList.map a.eval):=⟨by simpa using aa,fun j x y Y ak=>by
  simp only[fJ,Option.map_eq_some_iff]at ak
  obtain⟨z,bd,rfl⟩:=ak
  have r3:cD.args[j]?=some z:=by simpa using bd
  refine h.ez z ?_ _ (he j z x r3 Y)
  rw[bJ]
  simp only[Op.operands,Call.operands,Array.mem_append]
  exact .inr (Array.mem_of_getElem? r3)⟩
 rcases nP with⟨nP,rfl⟩|⟨nP,rfl⟩|⟨us,nP,rfl⟩
 ·have J:=h.ez f ub _ nP
  generalize aK:a.eval f=v at J
  cases J with
  |fn _ _ vs hlen aq=>
   refine⟨cD.args.toList.map a.eval++vs,?_,pW.append ⟨hlen,aq⟩⟩
   generalize a.eval=aI at*
   simp only[execOp,bJ,resolve,bf,aK,Deferred.ofValue,de,e5,Result.andThen,Array.empty_append,invoke,D0 aM]
   simp
 ·have J:=h.ez f ub _ nP
  generalize aK:a.eval f=v at J
  cases J with
  |cE _ _ vs hlen aq=>
   refine⟨vs++cD.args.toList.map a.eval,?_,gZ.append ⟨hlen,aq⟩ pW⟩
   generalize a.eval=aI at*
   simp only[execOp,bJ,resolve,bf,aK,Deferred.ofValue,de,e5,Result.andThen,Array.append_empty,invoke,D0 aM]
   simp
 ·have J:=h.ez f ub _ nP
  have aK:a.eval f= .func (.func g) #[] us.toArray:=by
   generalize a.eval f=z at J
   cases J with|d _ _ h=>cases h with|v _=>rfl
  refine⟨cD.args.toList.map a.eval++us,?_,pW.append ⟨by simp,fun j x y Y ak=>by
   simp only[fJ,Option.map_eq_some_iff]at Y
   obtain⟨z,bd,rfl⟩:=Y
   rw[ak]at bd
   injection bd with bd
   subst bd
   exact .d _ _ (.v _)⟩⟩
  generalize a.eval=aI at*
  simp only[execOp,bJ,resolve,bf,aK,Deferred.ofValue,de,e5,Result.andThen,Array.empty_append,invoke,D0 aM]
  simp
theorem VZ{E:c7}{V:cu}{M:Mem}{a:Act}{w:World}{o:Oper}{cD:Call}{dE:List Nat}{c:Bool}{g:FuncId}{args:List ai}(bJ:o.op= .call cD)(h:jc E S o dE c V M a w)(aj:jq S c cD g args)(aM:hS P g=true):
  ∀f,o.about P w a.eval=some f->(ja P ro).fn f:=by
 obtain⟨f,cs,xs,bf,nP,aa,he⟩:=aj.bQ
 have ub:f∈o.op.operands:=by rw[bJ];simp[Op.operands,Call.operands,bf]
 have key:∃p q,a.eval f= .func (.func g) p q:=by
  rcases nP with⟨nP,rfl⟩|⟨nP,rfl⟩|⟨us,nP,rfl⟩
  ·have J:=h.ez f ub _ nP
   generalize a.eval f=v at J
   cases J;exact⟨_,_,rfl⟩
  ·have J:=h.ez f ub _ nP
   generalize a.eval f=v at J
   cases J;exact⟨_,_,rfl⟩
  ·have J:=h.ez f ub _ nP
   generalize a.eval f=z at J
   cases J with|d _ _ h=>cases h with|v _=>exact⟨_,_,rfl⟩
 obtain⟨p,q,aK⟩:=key
 intro Oe e _
 generalize a.eval=aI at*
 simp[Oper.about,bJ,resolve,bf,aK,Deferred.ofValue,e5,Target.leads]at e
 subst e;exact Ob aM
theorem Of[jI ro]{aY:ad}{o:Oper}{cD:Call}{t:Nat}{gs:List Nat}{c:Bool}{g:FuncId}{args:List ai}{res:ai}(bJ:o.op= .call cD)(gM:o.dst=some t)(fY:mw ops aY o=some (gs,c))(hz:jq aY c cD g args)(aM:hS P g=true)
  (an:c=true->bw P g args [] res [] []) (aw:∀l,¬gK res l):
  kA P ro ops o ⟨cQ o++gs++([]:List Nat).map G,aY,[(ab t,some (.aB (lz o c res)))],[]⟩:=by
 intro E S a w kf _ dX ⟨V,M,aC,hw⟩ Q gD
 have aT:t<E.cg:=dX.2 t (by simp[cx.jl])
 have tY:=DO (E:=E) kf fY (fun n af=>by simp[af]) aC
 unfold lx
 cases c with
 |false=>
  rw[if_neg (by rw[tY];simp)]
  refine⟨DN o a w,?_⟩
  rw[gM]
  have b8:lz o false res= .bB false res:=by
   unfold lz
   split
   ·rename_i h;unfold mw at fY;rw[h]at fY;simp at fY
   ·rfl
  rw[b8]
  exact⟨V,M,tX aC t _ undef aT (.bB _ _ _ (fun h=>by cases h) fun _=>rfl),xY hw t _⟩
 |true=>
  rw[if_pos tY]
  obtain⟨vs,aE,aq⟩:=GA bJ (qw kf (fun n af=>by simp[af]) (fun l aa=>by cases aa) rfl aC hw:jc E aY o [] true V M a w) hz aM
  refine Od (fun d h=>by rw[bJ]at h;cases h) aE ?_
  have nN:cl (.dd w [] M (V) ([]) 0) [] V M w:=
   {
    dn:=fun l B e=>by simp[ad.get]at e,inj:=fun l l' ⟨⟨B,e⟩,_⟩=>by simp[ad.get]at e,dO:=fun l ⟨⟨B,e⟩,_⟩=>by simp[ad.get]at e,dt:=fun l ⟨⟨B,e⟩,_⟩=>by simp[ad.get]at e,cE:=fun l ⟨⟨B,e⟩,_⟩=>by simp[ad.get]at e,
    mem:=hw.mem,dA:=jH M,er:=(hw.xR fun b ae=>by cases ae),ea:=fun b o h=>.inl h,aA:=(fun l aa=>nomatch aa),b6:=⟨rfl,rfl,rfl,Nat.le_refl _,fun _ _ _=>rfl⟩}
  refine(an D V M w [] vs nN aq).mono ?_
  rintro e w' ⟨v,br,bo,rfl,eD,b8⟩
  refine⟨v,rfl,?_⟩
  rw[gM]
  have h3:=b8.b6
  have V0:bU V bo (lz o true res) v:=by
   have J:bU V bo res v:=eD.mono (jH _) fun l aa=>absurd aa (aw l)
   unfold lz
   split
   ·exact J
   ·exact .bB _ _ _ (fun _=>J) fun h=>by cases h
  have V1:∀l,di V S l->w'.heap[V.aI l]?=w.heap[V.aI l]?:=fun l aa=>h3.block _ (hw.cE l aa) (by simp)
  have ix:jk E S V bo a:=⟨fun t x e=>let⟨u,hu,aq⟩:=aC.fT t x e;⟨u,hu,aq.mono b8.dA fun _ _=>⟨rfl,rfl⟩⟩,aC.size,aC.defers⟩
  have GB:cl E S V bo w':=
   {
    dn:=fun l B e=>by
     have bb:=(hw.dn l B e)
     have K:V.bZ l≠none->w'.heap[V.aI l]?=w.heap[V.aI l]?:=fun K=>V1 l ⟨⟨B,e⟩,K⟩
     have J:gC V M w' l B:=bb.kept K
     cases B with
     |cells cs=>obtain⟨ca,vs,t,a2,a3,a4⟩:=J;exact⟨ca,vs,t,a2,a3,fun j x y Y ak=>(a4 j x y Y ak).mono b8.dA fun _ _=>⟨rfl,rfl⟩⟩
     |data ds=>obtain⟨ca,vs,t,a2,a3,a4⟩:=J;exact⟨ca,vs,t,a2,a3,fun j x y Y ak=>(a4 j x y Y ak).mono b8.dA fun _ _=>⟨rfl,rfl⟩⟩
     |fq n len cs=>obtain⟨ca,vs,t,a2,a3,a4,a5,Bv⟩:=J;exact⟨ca,vs,t,a2,a3,a4,a5,fun i j c hi aj=>let⟨v,aK,aq⟩:=Bv i j c hi aj;⟨v,aK,aq.mono b8.dA⟩⟩
     |bG n len cs=>
      obtain⟨ca,a2,a3⟩:=J
      refine⟨ca,a2,?_⟩
      split
      ·rename_i rk;rw[rk]at a3;exact a3
      ·rename_i cap rk
       rw[rk]at a3
       obtain⟨fK,vs,t,fO,hh,ph,JY,JZ⟩:=a3
       exact⟨fK,vs,t,fO,hh,ph,JY,fun i j c hi aj=>let⟨v,aK,aq⟩:=JZ i j c hi aj;⟨v,aK,aq.mono b8.dA⟩⟩
     |eh h' ts=>exact wq.lu J b8.dA ⟨rfl,rfl⟩ (fun _ _=>⟨rfl,rfl⟩) fun _=>rfl
     |gR ls cs=>exact jj.lu J b8.dA ⟨rfl,rfl⟩ (fun _ _=>⟨rfl,rfl⟩) fun _=>rfl
     |tR ks=>exact J
     |rY ds o=>exact lr.Dv J b8.dA ⟨rfl,rfl⟩ fun _=>rfl
     |k2 cs o=>exact lr.lu J b8.dA ⟨rfl,rfl⟩ (fun _ _=>⟨rfl,rfl⟩) fun _=>rfl
    inj:=hw.inj
    dO:=fun l aa o=>by
     cases aj:bo (V.aI l) o with
     |none=>rfl
     |some u=>
      rcases b8.ea (V.aI l) o (by rw[aj];simp)with h|h|h
      ·exact absurd (hw.dO l aa o) h
      ·have:=hw.cE l aa
       have h:w.heap.size<=V.aI l:=h
       omega
      ·cases h
    dt:=hw.dt
    cE:=fun l aa=>Nat.lt_of_lt_of_le (hw.cE l aa) h3.size
    mem:=b8.mem
    dA:=tQ hw.dA b8.dA,er:=hw.er
    ea:=fun b o h=>by
     rcases b8.ea b o h with h|h|h
     ·exact hw.ea b o h
     ·have h:w.heap.size<=b:=h
      exact .inr (.inl (Nat.le_trans hw.b6.size h))
     ·cases h
    aA:=hw.aA
    b6:=⟨h3.os.trans hw.b6.os,h3.tape.trans hw.b6.tape,h3.output.trans hw.b6.output,Nat.le_trans hw.b6.size h3.size,fun b ae Z=>(h3.block b (Nat.lt_of_lt_of_le ae hw.b6.size) (by simp)).trans (hw.b6.block b ae Z)⟩}
  exact⟨V,bo,tX ix t _ v aT V0,xY GB t _⟩
theorem bI.Og[jI ro]{aY S':ad}{o:Oper}{cD:Call}{r:List Oper}{L:List cx}{t:Nat}{gs:List Nat}{c:Bool}{g:FuncId}{args:List ai}{res:bg}(an:c=true->bw P g args [] (.d res) [] [])(bJ:o.op= .call cD)(gM:o.dst=some t)(fY:mw ops aY o=some (gs,c))
  (hz:jq aY c cD g args) (aM:hS P g=true)
  (h:bI P ro ops r ((ab t,.aB (lz o c (.d res)))::aY) L S'):
  bI P ro ops (o::r) aY (⟨cQ o++gs++([]:List Nat).map G,aY,[(ab t,some (.aB (lz o c (.d res))))],[]⟩::L) S':=
 .cons (Of bJ gM fY hz aM an fun l h=>by cases h) (fun _ _=>rfl) (fun l aa=>by cases aa) (ra aY _ _) h
theorem V2{l:List bg}{m:Nat}:¬gK (.bE (l.map .d)) m:=by
 intro h
 cases h with
 |bE _ x _ Y h=>
  obtain⟨y,_,rfl⟩:=List.mem_map.1 Y
  cases h
theorem bI.V3[jI ro]{aY S':ad}{o:Oper}{cD:Call}{r:List Oper}{L:List cx}{t:Nat}{gs:List Nat}{c:Bool}{g:FuncId}{args:List ai}{res:ai}(an:c=true->bw P g args [] res [] [])(bJ:o.op= .call cD)(gM:o.dst=some t)(fY:mw ops aY o=some (gs,c))
  (hz:jq aY c cD g args) (aM:hS P g=true) (aw:∃l:List bg,res= .bE (l.map .d))
  (h:bI P ro ops r ((ab t,.aB (lz o c res))::aY) L S'):
  bI P ro ops (o::r) aY (⟨cQ o++gs++([]:List Nat).map G,aY,[(ab t,some (.aB (lz o c res)))],[]⟩::L) S':=
 .cons (Of bJ gM fY hz aM an fun l h=>by obtain⟨l',rfl⟩:=aw;exact V2 h) (fun _ _=>rfl) (fun l aa=>by cases aa) (ra aY _ _) h
end
section
variable {P:Program} {S:ad} {ro:eR} {ops:Array Oper}
theorem Pure.bK{dE:List Nat}{o:Oper}{c:Bool}{x y:ai}(h:Pure P S dE o c x)(e:x=y):Pure P S dE o c y:=e▸h
theorem Pure.GC{c:Bool}{l n:Nat}{ds:List bg}{d:Option Tmp}{t ty:TypeId}{x:Operand}{pos:String}{a6:Array Edge}{bB:Option (Nat×Bool)}(aT:dq P t true n=true)(aX:cd S c x (.ao l 0))(ae:S.get (G l)=some (.U (.data ds)))(af:ds.length=n):
  Pure P S [l] ⟨d,.load t x,ty,pos,a6,bB⟩ c (.d (.agg ds)):=by
 refine(Pure.pT aT aX ae fun _=>by omega).bK ?_
 rw[List.drop_zero,List.take_of_length_le (by omega)]
theorem J0{α:Type}{l us:List α}(h:l.length=us.length):j0 l 0 us=us:=by
 simp[j0,List.drop_eq_nil_of_le (Nat.le_of_eq h)]
theorem ec{k:IntKind}{m n:Int}(h:m=n):some (dz.aB (aF k m))=some (dz.aB (aF k n)):=by rw[h]
theorem cH{aY S':ad}{op:Op}{ty:TypeId}{pos:String}{a6:Array Edge}{r:List Oper}{L:List cx}{t:Nat}{x:ai}(dE:List Nat)(Z:Pure P aY dE ⟨some t,op,ty,pos,a6,none⟩ true x)
  (h:bI P ro ops r ((ab t,(.aB x))::aY) L S'):
  bI P ro ops (⟨some t,op,ty,pos,a6,none⟩::r) aY (⟨cQ ⟨some t,op,ty,pos,a6,none⟩++[]++dE.map G,aY,[(ab t,some (.aB x))],[]⟩::L) S':=
 bI.pure dE Z D D h
theorem cF{aY S':ad}{op:Op}{ty:TypeId}{pos:String}{a6:Array Edge}{r:List Oper}{L:List cx}{t:Nat}{x:ai}(dE:List Nat){bB:Nat×Bool}{g:List Nat}{c:Bool}(aM:mw ops aY ⟨some t,op,ty,pos,a6,some bB⟩=some (g,c))
  (Z:Pure P aY dE ⟨some t,op,ty,pos,a6,some bB⟩ c x) (h:bI P ro ops r ((ab t,(.aB (.bB c x)))::aY) L S'):
  bI P ro ops (⟨some t,op,ty,pos,a6,some bB⟩::r) aY (⟨cQ ⟨some t,op,ty,pos,a6,some bB⟩++g++dE.map G,aY,[(ab t,some (.aB (.bB c x)))],[]⟩::L) S':=
 bI.pure dE Z D aM h
theorem cY[jI ro]{aY S':ad}{cD:Call}{ty:TypeId}{pos:String}{a6:Array Edge}{r:List Oper}{L:List cx}{t:Nat}{g:FuncId}{args:List ai}{res:bg}(hz:jq aY true cD g args)(an:bw P g args [] (.d res) [] [])(aM:hS P g=true)
  (h:bI P ro ops r ((ab t,(.aB (.d res)))::aY) L S'):
  bI P ro ops (⟨some t,.call cD,ty,pos,a6,none⟩::r) aY (⟨cQ ⟨some t,.call cD,ty,pos,a6,none⟩++[]++([]:List Nat).map G,aY,[(ab t,some (.aB (.d res)))],[]⟩::L) S':=
 bI.Og (fun _=>an) D D D hz aM h
theorem lC[jI ro]{aY S':ad}{cD:Call}{ty:TypeId}{pos:String}{a6:Array Edge}{r:List Oper}{L:List cx}{t:Nat}{g:FuncId}{args:List ai}{ds:List bg}(hz:jq aY true cD g args)(an:bw P g args [] (.bE (ds.map .d)) [] [])(aM:hS P g=true)
  (h:bI P ro ops r ((ab t,(.aB (.bE (ds.map .d))))::aY) L S'):
  bI P ro ops (⟨some t,.call cD,ty,pos,a6,none⟩::r) aY (⟨cQ ⟨some t,.call cD,ty,pos,a6,none⟩++[]++([]:List Nat).map G,aY,[(ab t,some (.aB (.bE (ds.map .d))))],[]⟩::L) S':=
 bI.V3 (fun _=>an) D D D hz aM ⟨ds,rfl⟩ h
theorem na[jI ro]{aY S':ad}{cD:Call}{ty:TypeId}{pos:String}{a6:Array Edge}{r:List Oper}{L:List cx}{t:Nat}{bB:Nat×Bool}{gs:List Nat}{c:Bool}{g:FuncId}{args:List ai}{res:bg}(fY:mw ops aY ⟨some t,.call cD,ty,pos,a6,some bB⟩=some (gs,c))
  (hz:jq aY c cD g args) (an:c=true->bw P g args [] (.d res) [] []) (aM:hS P g=true)
  (h:bI P ro ops r ((ab t,(.aB (.bB c (.d res))))::aY) L S'):
  bI P ro ops (⟨some t,.call cD,ty,pos,a6,some bB⟩::r) aY (⟨cQ ⟨some t,.call cD,ty,pos,a6,some bB⟩++gs++([]:List Nat).map G,aY,[(ab t,some (.aB (.bB c (.d res))))],[]⟩::L) S':=
 bI.Og an D D fY hz aM h
inductive r7(S:ad)(c:Bool):List Operand->List ai->Prop
 |nil:r7 S c [] []
 |cons {x:Operand} {y:ai} {xs:List Operand} {hj:List ai} (h:cd S c x y) (t:r7 S c xs hj):r7 S c (x::xs) (y::hj)
theorem r7.e6{c:Bool}{xs:List Operand}{hj:List ai}(h:r7 S c xs hj):hj.length=xs.length/\∀(j:Nat) (x:Operand) (y:ai),xs[j]?=some x->hj[j]?=some y->cd S c x y:=by
 induction h with
 |nil=>exact⟨rfl,fun j x y Y _=>by simp at Y⟩
 |cons h t aJ=>
  refine⟨by simp[aJ.1],fun j x y Y ak=>?_⟩
  cases j with
  |zero=>simp at Y ak;subst Y;subst ak;exact h
  |succ j=>simp at Y ak;exact aJ.2 j x y Y ak
theorem zL{c:Bool}{f:Operand}{l:List Operand}{ts:Array TypeId}{g:FuncId}{cs xs:List ai}(bf:cd S c f (.fn g cs))(h:r7 S c l xs):jq S c ⟨.value f,l.toArray,ts⟩ g (xs++cs):=
 ⟨f,cs,xs,rfl,.inl ⟨bf,rfl⟩,by simpa using h.e6.1,fun j x y Y ak=>h.e6.2 j x y (by simpa using Y) ak⟩
theorem V4{c:Bool}{f:Operand}{l:List Operand}{ts:Array TypeId}{g:FuncId}{xs:List ai}(us:List Value)(bf:cd S c f (.d (.v (.func (.func g) #[] us.toArray))))(h:r7 S c l xs):jq S c ⟨.value f,l.toArray,ts⟩ g (xs++us.map fun u=>.d (.v u)):=
 ⟨f,[],xs,rfl,.inr (.inr ⟨us,bf,rfl⟩),by simpa using h.e6.1,fun j x y Y ak=>h.e6.2 j x y (by simpa using Y) ak⟩
theorem wF{c:Bool}{f:Operand}{l:List Operand}{ts:Array TypeId}{g:FuncId}{xs:List ai}(bf:cd S c f (.d (.v (.func (.func g) #[] #[]))))(h:r7 S c l xs):jq S c ⟨.value f,l.toArray,ts⟩ g xs:=by
 have:=V4 (S:=S) (c:=c) (ts:=ts) [] bf h
 simpa using this
theorem V5{c:Bool}{f:Operand}{l:List Operand}{ts:Array TypeId}{g:FuncId}{cs xs:List ai}(bf:cd S c f (.cE g cs))(h:r7 S c l xs):jq S c ⟨.value f,l.toArray,ts⟩ g (cs++xs):=
 ⟨f,cs,xs,rfl,.inr (.inl ⟨bf,rfl⟩),by simpa using h.e6.1,fun j x y Y ak=>h.e6.2 j x y (by simpa using Y) ak⟩
theorem jr{c:Bool}{l:List Operand}{ts:Array TypeId}{g:FuncId}{xs:List ai}(h:r7 S c l xs):jq S c ⟨.value (.func g),l.toArray,ts⟩ g xs:=by
 have:=zL (S:=S) (c:=c) (f:=.func g) (ts:=ts) (.dB D:cd S c (.func g) (.fn g [])) h
 simpa using this
def ai.fk:ai->Bool
 | .d (.v u)=>jo u
 | .d (.cK _ _ _)=>true
 | .d (.agg _)=>false
 | .agg _=>false
 | .bE _=>false
 | .bB _ _=>false
 | .qq _=>false
 |_=>true
theorem J1{V:cu}{M:Mem}{x:ai}{v:Value}(h:bU V M x v)(bJ:x.fk=true):v.oneCell'=true:=by
 cases h with
 |d x v h=>
  cases h with
  |v=>cases v<;>simp_all [ai.fk,jo,Value.oneCell']
  |agg=>simp[ai.fk]at bJ
  |ji=>rfl
  |any p hv v hle an h=>have nx:=Oa an;cases v<;>simp_all [jo,Value.oneCell']
  |cK=>rfl
 |agg=>simp[ai.fk]at bJ
 |bE=>simp[ai.fk]at bJ
 |bB=>simp[ai.fk]at bJ
 |qq=>simp[ai.fk]at bJ
 |_=>rfl
theorem gZ.one{V:cu}{M:Mem}{l:List ai}{vs:List Value}(h:gZ V M l vs)(bJ:∀x∈l,x.fk=true):∀v∈vs,v.oneCell'=true:=by
 intro v aK
 obtain⟨j,az,rfl⟩:=List.mem_iff_getElem.1 aK
 have pX:j<l.length:=by rw[h.len];exact az
 exact J1 (h.e6 j l[j] _ (dx pX) (dx az)) (bJ _ (List.getElem_mem pX))
theorem fb.setRow(w:World)(b:Nat)(cs:Array Value)(h:b<w.heap.size):fb w (w.setRow b cs) b:=fb.modify w b _ h
theorem D1{t:TypeId}{agg:Bool}{n:Nat}(aT:dq P t agg n=true){w:World}{b o:Nat}{gq:TypeId}{cur:Array Value}{v:Value}(aK:v.cells.size=n)(ae:w.heap[b]?=some (.cells cur gq (0,0)))(bJ:o+n<=cur.size)(J:∀u∈v.cells.toList,u.oneCell'=true):
  (storeVar t ⟨b,o,none⟩ v).run P w= .ok () (w.setRow b (j0 cur.toList o v.cells.toList).toArray):=by
 have cy:=run_storeCells_at (P:=P) b o gq v.cells.toList 0 cur w ae (by simpa[aK]using bJ) J
 simp only[storeVar,de,r4 aT,Result.andThen,aK,ne_eq,not_true,if_false,cy]
 simp[j0]
theorem GD{aY:ad}{o:Oper}{t:TypeId}{x y:Operand}{l:Nat}{B B':cO}(bJ:o.op= .store t x y)(gM:o.dst=none)(fY:o.guard=none)(ae:aY.get (G l)=some (.U B))
  (h:∀E V M a w,jc E aY o [l] true V M a w->V.bZ l≠none/\∃off gq cur us,a.eval x= .pointer (some ⟨V.aI l,off,none⟩)/\w.heap[V.aI l]?=some (.cells cur gq (0,0))/\(storeVar t ⟨V.aI l,off,none⟩ (a.eval y)).run P w= .ok () (w.setRow (V.aI l) us)/\
   ∀w',w'.heap[V.aI l]?=some (.cells us gq (0,0))->gC V M w' l B'):
  kA P ro ops o ⟨cQ o++[G l],aY,[(G l,some (.U B'))],[]⟩:=by
 intro E S a w an _ dX ⟨V,M,aC,hw⟩ Q gD
 have aM:jc E aY o [l] true V M a w:=qw (rn:=cQ o++[G l]) an (fun n af=>by simp[af]) (fun m aw=>by simp at aw;subst aw;simp) rfl aC hw
 obtain⟨K,off,gq,cur,us,he,aj,aE,cP⟩:=h E V M a w aM
 unfold lx
 rw[if_pos (by simp[Region.wanted,fY])]
 have jN:(execOp a.eval o).run P w= .ok .skip (w.setRow (V.aI l) us):=by
  generalize a.eval=aI at*
  simp only[execOp,bJ,Instr.storeAt,he,Instr.sureAddr,de,e5,Result.andThen,aE]
 refine N0 (by rw[bJ];rfl) jN ?_
 rw[gM]
 have r8:S.get (G l)=some (.U B):=by rw[an (G l) (by simp)];exact ae
 have aG:V.aI l<w.heap.size:=hw.cE l ⟨⟨B,r8⟩,K⟩
 exact⟨V,M,DU aC l B',Gu hw r8 K (fb.setRow w _ us aG) (cP _ (setRow_heap w _ _ _ _ _ aj))⟩
theorem bI.store{aY S':ad}{r:List Oper}{L:List cx}{o:Oper}{l:Nat}{B':cO}(aC:kA P ro ops o ⟨cQ o++[G l],aY,[(G l,some (.U B'))],[]⟩)(h:bI P ro ops r ((G l,(.U B'))::aY) L S'):
  bI P ro ops (o::r) aY (⟨cQ o++[G l],aY,[(G l,some (.U B'))],[]⟩::L) S':=
 .cons aC (fun _ _=>rfl) (fun l aa=>by cases aa) (ra aY _ _) h
section
variable {x y:Operand} {ty t:TypeId} {pos:String} {a6:Array Edge}
theorem x7{aY S':ad}{r:List Oper}{L:List cx}{l j n:Nat}{cs us cs':List ai}{u:ai}{agg:Bool}(aT:dq P t agg n=true)(aX:cd aY true x (.ao l j))(bu:cd aY true y u)(ae:aY.get (G l)=some (.U (.cells cs)))
  (hu:u.jL=some us) (af:us.length=n) (J:∀x∈us,x.fk=true) (az:j+n<=cs.length) (fV:j0 cs j us=cs') (h:bI P ro ops r ((G l,(.U (.cells cs')))::aY) L S'):
  bI P ro ops (⟨none,.store t x y,ty,pos,a6,none⟩::r) aY (⟨cQ ⟨none,.store t x y,ty,pos,a6,none⟩++[G l],aY,[(G l,some (.U (.cells cs')))],[]⟩::L) S':=by
 refine bI.store (GD D D D ae fun E V M a w aM=>?_) h
 obtain⟨K,vs,gq,aW,an,aq⟩:=aM.U l (by simp) _ ae
 have Y:=aM.ez x (by simp[Op.operands]) _ aX
 have ak:=zI (aM.ez y (by simp[Op.operands]) _ bu) hu
 have D2:gZ V M cs vs.toList:=⟨by simpa using an.symm,fun j x y J W=>aq j x y J (by simpa using W)⟩
 generalize he:a.eval x=v at Y
 cases Y with
 |ao _ _=>
  have cj:(a.eval y).cells.size=n:=by have:=ak.len;simp at this;omega
  refine⟨K,j,gq,vs,(j0 vs.toList j (a.eval y).cells.toList).toArray,rfl,aW,D1 (o:=j) aT cj aW (by omega) (ak.one J),fun w' b8=>?_⟩
  have jd:=D2.Gw (o:=j) ak (by omega)
  rw[fV]at jd
  exact⟨K,_,gq,b8,by simpa using jd.len.symm,fun j x y J W=>jd.e6 j x y J (by simpa using W)⟩
theorem bI.zM{aY S':ad}{r:List Oper}{L:List cx}{l j n:Nat}{cs us cs':List bg}{u:ai}{agg:Bool}(aT:dq P t agg n=true)(aX:cd aY true x (.ao l j))(bu:cd aY true y u)(ae:aY.get (G l)=some (.U (.data cs)))
  (hu:ri u=some us) (af:us.length=n) (J:∀x∈us,(ai.d x).fk=true) (az:j+n<=cs.length) (fV:j0 cs j us=cs') (h:bI P ro ops r ((G l,.U (.data cs'))::aY) L S'):
  bI P ro ops (⟨none,.store t x y,ty,pos,a6,none⟩::r) aY (⟨cQ ⟨none,.store t x y,ty,pos,a6,none⟩++[G l],aY,[(G l,some (.U (.data cs')))],[]⟩::L) S':=by
 refine bI.store (GD D D D ae fun E V M a w aM=>?_) h
 obtain⟨K,vs,gq,aW,an,aq⟩:=aM.U l (by simp) _ ae
 have Y:=aM.ez x (by simp[Op.operands]) _ aX
 have ak:=zI (aM.ez y (by simp[Op.operands]) _ bu) (JU hu)
 have D2:gZ V M (cs.map .d) vs.toList:=⟨by simpa using an.symm,fun j x y J W=>aq j x y J (by simpa using W)⟩
 simp only[l5]at an
 generalize he:a.eval x=v at Y
 cases Y with
 |ao _ _=>
  have cj:(a.eval y).cells.size=n:=by have:=ak.len;simp at this;omega
  have Bw:∀u∈(a.eval y).cells.toList,u.oneCell'=true:=ak.one fun x Y=>by
   obtain⟨z,bd,rfl⟩:=List.mem_map.1 Y;exact J z bd
  refine⟨K,j,gq,vs,(j0 vs.toList j (a.eval y).cells.toList).toArray,rfl,aW,D1 (o:=j) aT cj aW (by omega) Bw,fun w' b8=>?_⟩
  have jd:=D2.Gw (o:=j) ak (by simp;omega)
  have e:j0 (cs.map ai.d) j (us.map ai.d)=cs'.map .d:=by rw[<-fV];simp[j0]
  rw[e]at jd
  exact⟨K,_,gq,b8,by simpa using jd.len.symm,fun j x y J W=>jd.e6 j x y J (by simpa using W)⟩
theorem ny{aY S':ad}{r:List Oper}{L:List cx}{l j n:Nat}{cs:List bg}{us cs':List ai}{u:ai}{agg:Bool}(aT:dq P t agg n=true)(aX:cd aY true x (.ao l j))(bu:cd aY true y u)(ae:aY.get (G l)=some (.U (.data cs)))
  (hu:u.jL=some us) (af:us.length=n) (J:∀x∈us,x.fk=true) (az:j+n<=cs.length) (fV:j0 (cs.map .d) j us=cs') (h:bI P ro ops r ((G l,.U (.cells cs'))::aY) L S'):
  bI P ro ops (⟨none,.store t x y,ty,pos,a6,none⟩::r) aY (⟨cQ ⟨none,.store t x y,ty,pos,a6,none⟩++[G l],aY,[(G l,some (.U (.cells cs')))],[]⟩::L) S':=by
 refine bI.store (GD D D D ae fun E V M a w aM=>?_) h
 obtain⟨K,vs,gq,aW,an,aq⟩:=aM.U l (by simp) _ ae
 have Y:=aM.ez x (by simp[Op.operands]) _ aX
 have ak:=zI (aM.ez y (by simp[Op.operands]) _ bu) hu
 have D2:gZ V M (cs.map .d) vs.toList:=⟨by simpa using an.symm,fun j x y J W=>aq j x y J (by simpa using W)⟩
 simp only[l5]at an
 generalize he:a.eval x=v at Y
 cases Y with
 |ao _ _=>
  have cj:(a.eval y).cells.size=n:=by have:=ak.len;simp at this;omega
  refine⟨K,j,gq,vs,(j0 vs.toList j (a.eval y).cells.toList).toArray,rfl,aW,D1 (o:=j) aT cj aW (by omega) (ak.one J),fun w' b8=>?_⟩
  have jd:=D2.Gw (o:=j) ak (by simp;omega)
  rw[fV]at jd
  exact⟨K,_,gq,b8,by simpa using jd.len.symm,fun j x y J W=>jd.e6 j x y J (by simpa using W)⟩
def bz.wG:bz->Nat->bg->Option bz
 | .cv k xs,i,.v (.int jZ m)=>if k=jZ then some (.cv k (xs.set i m))else none
 | .o6 xs,i,.v (.bool b)=>some (.o6 (xs.set i b))
 | .ds xs,i,x=>some (.ds (xs.set i x))
 |_,_,_=>none
theorem V6{c gp:bz}{i:Nat}{x:bg}(h:c.wG i x=some gp):gp.len=c.len/\∀j,j<c.len->gp.at j=if j=i then x else c.at j:=by
 have key:∀{α:Type} (xs:List α) (m d:α) (j:Nat),j<xs.length->(xs.set i m).getD j d=if j=i then m else xs.getD j d:=by
  intro α xs m d j az
  by_cases h:j=i
  ·subst h;simp[cN,az]
  ·simp[cN,List.getElem?_set_ne (Ne.symm h),h]
 cases c with
 |cv k xs=>
  cases x with
  |v u=>
   cases u with
   |int jZ m=>
    simp only[bz.wG]at h
    split at h
    ·rename_i K;injection h with h;subst h;subst K
     refine⟨by simp[bz.len],fun j az=>?_⟩
     simp only[bz.at,key xs m 0 j az]
     split<;>rfl
    ·cases h
   |_=>simp[bz.wG]at h
  |_=>simp[bz.wG]at h
 |o6 xs=>
  cases x with
  |v u=>
   cases u with
   |bool b=>
    simp only[bz.wG,en]at h;subst h
    refine⟨by simp[bz.len],fun j az=>?_⟩
    simp only[bz.at,key xs b false j az]
    split<;>rfl
   |_=>simp[bz.wG]at h
  |_=>simp[bz.wG]at h
 |ds xs=>
  simp only[bz.wG,en]at h;subst h
  exact⟨by simp[bz.len],fun j az=>by simp only[bz.at,key xs x _ j az]⟩
def uc:List bz->Nat->Nat->List bg->Option (List bz)
 |cs,_,_,[]=>some cs
 |[],_,_,_::_=>none
 |c::cs,0,i,x::ds=>match c.wG i x,uc cs 0 i ds with
  |some gp,some r=>some (gp::r)
  |_,_=>none
 |c::cs,j+1,i,ds=>match uc cs j i ds with
  |some r=>some (c::r)
  |none=>none
theorem V7{len i:Nat}:∀(cs:List bz) (j:Nat) (ds:List bg) (cs':List bz),uc cs j i ds=some cs'->(∀c∈cs,c.len=len)->
  cs'.length=cs.length/\(ds≠[]->j+ds.length<=cs.length)/\(∀c∈cs',c.len=len)/\∀kG k gp,kG<len->cs'[k]?=some gp->∃c,cs[k]?=some c/\gp.at kG=if kG=i/\j<=k/\k<j+ds.length then ds.getD (k-j) (.v .nilFunc)else c.at kG:=by
 intro cs
 induction cs with
 |nil=>
  intro j ds cs' h aa
  cases ds with
  |nil=>simp only[uc,en]at h;subst h;exact⟨rfl,fun h=>absurd D h,aa,fun kG k gp _ h=>by simp at h⟩
  |cons=>simp[uc]at h
 |cons c cs aJ=>
  intro j ds cs' h aa
  cases ds with
  |nil=>
   simp only[uc,en]at h;subst h
   exact⟨rfl,fun h=>absurd D h,aa,fun kG k gp _ h=>⟨gp,h,by rw[if_neg (by simp only[List.length_nil];omega)]⟩⟩
  |cons x ds=>
   cases j with
   |zero=>
    simp only[uc]at h
    split at h
    ·rename_i pj r J W
     injection h with h;subst h
     obtain⟨ca,a2⟩:=V6 J
     obtain⟨fK,fO,hh,ph⟩:=aJ 0 ds r W fun c aj=>aa c (by simp[aj])
     refine⟨by simp[fK],fun _=>?_,?_,?_⟩
     ·by_cases oz:ds=[]
      ·subst oz;simp
      ·have:=fO oz;simp at this⊢;exact this
     ·intro c aj
      rcases eb.1 aj with rfl|aj
      ·rw[ca];exact aa _ (by simp)
      ·exact hh c aj
     ·intro kG k gp hi K
      cases k with
      |zero=>
       simp at K;subst K
       refine⟨c,rfl,?_⟩
       rw[a2 kG (by rw[aa c (by simp)];exact hi)]
       by_cases h:kG=i<;>simp[h]
      |succ k=>
       simp at K
       obtain⟨c0,J2,he⟩:=ph kG k gp hi K
       refine⟨c0,by simpa using J2,?_⟩
       rw[he]
       by_cases h:kG=i/\k<ds.length
       ·rw[if_pos (by omega),if_pos (by simp;omega)]
        simp
       ·rw[if_neg (by omega),if_neg (by simp;omega)]
    ·cases h
   |succ j=>
    simp only[uc]at h
    split at h
    ·rename_i r W
     injection h with h;subst h
     obtain⟨fK,fO,hh,ph⟩:=aJ j (x::ds) r W fun c aj=>aa c (by simp[aj])
     refine⟨by simp[fK],fun b2=>by have:=fO b2;simp at this⊢;omega,?_,?_⟩
     ·intro gp aj
      rcases eb.1 aj with rfl|aj
      ·exact aa _ (by simp)
      ·exact hh gp aj
     ·intro kG k gp hi K
      cases k with
      |zero=>
       simp at K;subst K
       exact⟨c,rfl,by rw[if_neg (by omega)]⟩
      |succ k=>
       simp at K
       obtain⟨c0,J2,he⟩:=ph kG k gp hi K
       refine⟨c0,by simpa using J2,?_⟩
       rw[he]
       by_cases h:kG=i/\j<=k/\k<j+(x::ds).length
       ·rw[if_pos h,if_pos (by omega)];congr 1;omega
       ·rw[if_neg h,if_neg (by omega)]
    ·cases h
theorem V8{u:ai}{ds:List bg}(h:ri u=some ds):u.jL=some (ds.map .d):=JU h
theorem Oh{M:Mem}{n len i j:Nat}{cs cs':List bz}{vs:Array Value}{ds:List bg}{us:List Value}(aE:sM M n len cs vs)(hlen:len*n<=vs.size)(pR:uc cs j i ds=some cs')(hi:i<len)(b2:ds≠[])
  (hb:ds.length=us.length) (aq:∀(k:Nat) (x:bg) (y:Value),ds[k]?=some x->us[k]?=some y->ey M x y):i*n+j+us.length<=vs.size/\sM M n len cs' (j0 vs.toList (i*n+j) us).toArray:=by
 obtain⟨J,W,aH⟩:=aE
 obtain⟨ca,a2,a3,a4⟩:=V7 cs j ds cs' pR W
 have a2:=a2 b2
 have hle:(i+1)*n<=len*n:=Nat.mul_le_mul_right n hi
 rw[Nat.add_mul,Nat.one_mul]at hle
 have cj:i*n+j+us.length<=vs.size:=by omega
 refine⟨cj,by rw[ca,J],a3,fun kG k gp jb K=>?_⟩
 obtain⟨c,aj,he⟩:=a4 kG k gp jb K
 have rk:k<n:=by rw[<-J];exact(List.getElem?_eq_some_iff.1 aj).1
 obtain⟨v,aK,eD⟩:=aH kG k c jb aj
 have jd:=DY (l:=vs.toList) (o:=i*n+j) (us:=us) (by simpa using cj) (kG*n+k)
 have Oi:(i*n+j<=kG*n+k/\kG*n+k<i*n+j+us.length)↔(kG=i/\j<=k/\k<j+ds.length):=by
  constructor
  ·rintro⟨fK,fO⟩
   have:kG=i:=by
    rcases Nat.lt_trichotomy kG i with h|h|h
    ·exfalso
     have:(kG+1)*n<=i*n:=Nat.mul_le_mul_right n h
     rw[Nat.add_mul,Nat.one_mul]at this
     omega
    ·exact h
    ·exfalso
     have:(i+1)*n<=kG*n:=Nat.mul_le_mul_right n h
     rw[Nat.add_mul,Nat.one_mul]at this
     omega
   subst this
   omega
  ·rintro⟨rfl,fK,fO⟩
   omega
 rw[he]
 by_cases js:kG=i/\j<=k/\k<j+ds.length
 ·rw[if_pos (Oi.2 js)]at jd
  rw[if_pos js]
  obtain⟨rfl,r9,ajc⟩:=js
  have aG:k-j<us.length:=by omega
  have qu:k-j<ds.length:=by omega
  have V9:kG*n+k-(kG*n+j)=k-j:=by omega
  rw[V9]at jd
  refine⟨us[k-j],by simpa[dx aG]using jd,aq (k-j) _ _ ?_ (dx aG)⟩
  rw[cN,dx qu];rfl
 ·rw[if_neg fun h=>js (Oi.1 h)]at jd
  rw[if_neg js]
  exact⟨v,by simpa[aK]using jd,eD⟩
def cO.x8(cs:List bz):cO->cO
 | .fq n len _=>.fq n len cs
 | .bG n len _=>.bG n len cs
 |b=>b
theorem x9{aY S':ad}{r:List Oper}{L:List cx}{l n i j len m:Nat}{B:cO}{cs cs':List bz}{u:ai}{ds:List bg}{agg:Bool}(aT:dq P t agg m=true)(aX:cd aY true x (.h4 l n i j))(bu:cd aY true y u)(ae:aY.get (G l)=some (.U B))
  (cP:B.h8=some (n,len,cs)) (hu:ri u=some ds) (aw:ds.length=m) (b2:0<m) (J:∀x∈ds,(ai.d x).fk=true) (pR:uc cs j i ds=some cs') (hi:i<len) (h:bI P ro ops r ((G l,(.U (B.x8 cs')))::aY) L S'):
  bI P ro ops (⟨none,.store t x y,ty,pos,a6,none⟩::r) aY (⟨cQ ⟨none,.store t x y,ty,pos,a6,none⟩++[G l],aY,[(G l,some (.U (B.x8 cs')))],[]⟩::L) S':=by
 refine bI.store (GD D D D ae fun E V M a w aM=>?_) h
 have eO:=aM.U l (by simp) _ ae
 have Y:=aM.ez x (by simp[Op.operands]) _ aX
 have ak:=zI (aM.ez y (by simp[Op.operands]) _ bu) (V8 hu)
 have cj:(a.eval y).cells.size=m:=by have:=ak.len;simp at this;omega
 have Bw:∀u∈(a.eval y).cells.toList,u.oneCell'=true:=ak.one fun x Y=>by
  obtain⟨z,bd,rfl⟩:=List.mem_map.1 Y;exact J z bd
 have oz:∀(k:Nat) (x:bg) (x3:Value),ds[k]?=some x->(a.eval y).cells.toList[k]?=some x3->ey M x x3:=fun k x x3 J W=>by
  have:=ak.e6 k (.d x) x3 (by simp[J]) W
  cases this with|d _ _ h=>exact h
 have Bx:ds≠[]:=by intro e;subst e;simp at aw;omega
 have hlen:ds.length=(a.eval y).cells.toList.length:=by simp[cj,aw]
 generalize he:a.eval x=v at Y
 cases Y with
 |h4 _ _ _ _=>
  cases B with
  |cells=>simp[cO.h8]at cP
  |data=>simp[cO.h8]at cP
  |eh=>simp[cO.h8]at cP
  |gR=>simp[cO.h8]at cP
  |tR=>simp[cO.h8]at cP
  |k2=>simp[cO.h8]at cP
  |rY=>simp[cO.h8]at cP
  |fq l6 kE D3=>
   simp only[cO.h8,en,Prod.mk.injEq]at cP
   obtain⟨rfl,rfl,rfl⟩:=cP
   obtain⟨K,vs,gq,aW,an,aE⟩:=eO
   obtain⟨l8,l9⟩:=Oh aE (by omega) pR hi Bx hlen oz
   exact⟨K,_,gq,vs,_,rfl,aW,D1 aT cj aW (by simpa[cj]using l8) Bw,fun w' b8=>⟨K,_,gq,b8,by rw[List.size_toArray,wC (by simpa using l8)];simpa using an,l9⟩⟩
  |bG l6 kE D3=>
   simp only[cO.h8,en,Prod.mk.injEq]at cP
   obtain⟨rfl,rfl,rfl⟩:=cP
   obtain⟨g1,g2,g3⟩:=eO
   cases iA:V.bZ l with
   |none=>rw[iA]at g3;simp only at g3;omega
   |some cap=>
    rw[iA]at g3
    obtain⟨l7,vs,gq,aW,an,aE⟩:=g3
    have hle:kE*l6<=cap*l6:=Nat.mul_le_mul_right l6 l7
    obtain⟨l8,l9⟩:=Oh aE (by omega) pR hi Bx hlen oz
    refine⟨by simp,_,gq,vs,_,rfl,aW,D1 aT cj aW (by simpa[cj]using l8) Bw,fun w' b8=>⟨l9.1,l9.2.1,?_⟩⟩
    rw[iA]
    exact⟨l7,_,gq,b8,by rw[List.size_toArray,wC (by simpa using l8)];simpa using an,l9⟩
end
end
section
variable {P:Program} {S:ad} {ro:eR} {ops:Array Oper}
def bz.fk:bz->Bool
 | .cv _ _=>true
 | .o6 _=>true
 | .ds xs=>xs.all fun x=>(ai.d x).fk
theorem Wa{c:bz}(h:c.fk=true){i:Nat}(hi:i<c.len):(ai.d (c.at i)).fk=true:=by
 cases c with
 |cv=>rfl
 |o6=>rfl
 |ds xs=>
  simp only[bz.fk,eZ]at h
  simp only[bz.len]at hi
  simp only[bz.at,cN,dx hi,Option.getD_some]
  exact h _ (List.getElem_mem hi)
def pY(M:Mem)(n len:Nat)(cs:List bz)(us:List Value):Prop:=
 cs.length=n/\(∀c∈cs,c.len=len)/\us.length=len*n/\∀i j c,i<len->cs[j]?=some c->∃v,us[i*n+j]?=some v/\ey M (c.at i) v
theorem pY.one{M:Mem}{n len:Nat}{cs:List bz}{us:List Value}(h:pY M n len cs us)(J:∀c∈cs,c.fk=true):∀u∈us,u.oneCell'=true:=by
 intro u hu
 obtain⟨k,K,rfl⟩:=List.mem_iff_getElem.1 hu
 obtain⟨ca,a2,a3,a4⟩:=h
 have af:0<n:=by
  rcases Nat.eq_zero_or_pos n with h|h
  ·rw[h,Nat.mul_zero]at a3;omega
  ·exact h
 have rk:k/n<len:=Nat.div_lt_of_lt_mul (by rw[a3,Nat.mul_comm]at K;exact K)
 have az:k%n<cs.length:=by rw[ca];exact Nat.mod_lt _ af
 obtain⟨v,aK,aq⟩:=a4 (k/n) (k%n) cs[k%n] rk (dx az)
 have he:k/n*n+k%n=k:=Nat.div_add_mod' k n
 rw[he,dx K]at aK
 injection aK with aK
 rw[aK]
 refine J1 (V:=⟨fun _=>0,fun _=>none⟩) (.d _ _ aq) (Wa (J _ (List.getElem_mem az)) (by rw[a2 _ (List.getElem_mem az)];exact rk))
def nb(P:Program)(t:TypeId):Bool:=match P.underlying t with
 |some (.slice _)|some .string=>true
 |_=>false
theorem Oj{t:TypeId}(h:nb P t=true):(∃jJ,P.underlying t=some (.slice jJ))\/P.underlying t=some .string:=by
 unfold nb at h
 split at h
 ·rename_i e hu;exact .inl ⟨e,hu⟩
 ·rename_i hu;exact .inr hu
 ·cases h
theorem zN{α β:Type}(f:α->β)(xs:List α)(d:α)(e:β){i:Nat}(h:i<xs.length):(xs.map f).getD i e=f (xs.getD i d):=by
 simp[cN,h]
inductive ya(S:ad)(y:Operand):List Nat->Nat->Nat->List bz->Prop
 |aQ {l n len:Nat} {cs:List bz} (e:cd S true y (.aQ l len)) (ae:S.get (G l)=some (.U (.bG n len cs))):ya S y [l] n len cs
 |ab {l n lo len By:Nat} {B:cO} {cs cs':List bz} (e:cd S true y (.ab l n lo len)) (ae:S.get (G l)=some (.U B)) (cP:B.h8=some (n,By,cs)) (hle:lo+len<=By) (aa:cs'.length=n) (aj:∀c∈cs',c.len=len)
  (aC:∀(j:Nat) (gp:bz),cs'[j]?=some gp->∃c,cs[j]?=some c/\∀i,i<len->gp.at i=c.at (lo+i)):ya S y [l] n len cs'
 |cK {n len:Nat} {g:Nat->List bg} {cs:List bz} (e:cd S true y (.d (.cK n len g))) (aa:cs.length=n) (aj:∀c∈cs,c.len=len) (aM:∀i,i<len->g i=cs.map (bz.at · i)):ya S y [] n len cs
 |nil {n:Nat} {cs:List bz} (e:cd S true y k4) (aa:cs.length=n) (aj:∀c∈cs,c.len=0):ya S y [] n 0 cs
 |j3 {s:ByteArray} (e:cd S true y (jm s)):ya S y [] 1 s.size [.cv .u8 (s.data.toList.map fun b=>(b.toNat:Int))]
theorem Ok{M:Mem}{n len cap:Nat}{cs:List bz}{vs:Array Value}(h:sM M n len cs vs)(hle:len<=cap)(an:vs.size=cap*n):pY M n len cs (vs.toList.take (len*n)):=by
 have aw:len*n<=cap*n:=Nat.mul_le_mul_right n hle
 refine⟨h.1,h.2.1,by simp;omega,fun i j c hi aj=>?_⟩
 obtain⟨v,aK,aq⟩:=h.2.2 i j c hi aj
 have az:j<n:=by rw[<-h.1];exact(List.getElem?_eq_some_iff.1 aj).1
 have:(i+1)*n<=len*n:=Nat.mul_le_mul_right n hi
 rw[Nat.add_mul,Nat.one_mul]at this
 exact⟨v,by rw[pQ (by omega)];simpa using aK,aq⟩
theorem Wb{E:c7}{V:cu}{M:Mem}{a:Act}{w:World}{o:Oper}{Ol dE:List Nat}{y:Operand}{n len:Nat}{cs:List bz}{tx:TypeId}(h:ya S y dE n len cs)(aM:jc E S o Ol true V M a w)(ox:∀l∈dE,l∈Ol)(ak:y∈o.op.operands)
  (K:nb P tx=true) (J:∀c∈cs,c.fk=true):∃fL,Src P n tx (a.eval y) len fL w/\pY M n len cs fL:=by
 have kind:=Oj K
 have mk:∀{b sO:Nat} {cap:Nat} {fL:List Value},pY M n len cs fL->(∀j u,fL[j]?=some u->w.cell? ⟨b,sO+j,none⟩=some u)->Src P n tx (.slice (some ⟨b,sO,none⟩) len cap) len fL w:=by
  intro b sO cap fL aE aj
  have aa:fL.length=len*n:=aE.2.2.1
  have iy:∀j u,fL[j]?=some u->w.cell? ((⟨b,sO,none⟩:Addr).add j)=some u:=fun j u hu=>by rw[oA];exact aj j u hu
  exact⟨kind,fun _=>rfl,run_firstCells_some w n len ⟨b,sO,none⟩ len cap fL aa iy,run_firstCells_some w.drew n len ⟨b,sO,none⟩ len cap fL aa (by simpa using iy),aa,aE.one J⟩
 have D4:∀(a0:Option Addr) (cap:Nat),len=0->Src P n tx (.slice a0 len cap) len [] w:=by
  intro a0 cap aa
  subst aa
  refine⟨kind,fun _=>rfl,?_,?_,by simp,fun _ h=>by cases h⟩<;>cases a0<;>simp[Builtin.firstCells,loadCells,loadCellsFrom]
 cases h with
 | @aQ l _ _ _ e ae=>
  have ak:=aM.ez y ak _ e
  obtain⟨fK,fO,hh⟩:=aM.U l (ox l (by simp)) _ ae
  generalize a.eval y=v at ak
  cases ak with
  |aQ _ _ cap iA aj=>
   rw[iA]at hh
   obtain⟨_,vs,gq,aW,an,aE⟩:=hh
   have jB:=Ok aE aj an
   refine⟨_,mk jB fun j u hu=>?_,jB⟩
   rw[List.getElem?_take]at hu
   split at hu
   ·simp only[World.cell?,aW,Nat.zero_add]
    simpa using hu
   ·cases hu
  |k1 _ iA=>exact⟨[],D4 _ _ D,fK,fO,by simp,fun i j c hi _=>absurd hi (by omega)⟩
 | @ab l _ lo _ By B D3 _ e ae cP hle aa aj aC=>
  have ak:=aM.ez y ak _ e
  have eO:=aM.U l (ox l (by simp)) _ ae
  generalize a.eval y=v at ak
  cases ak with
  |ab _ _ _ _ cap l7 iA=>
   by_cases bb:len=0
   ·subst bb
    exact⟨[],D4 _ _ D,aa,aj,by simp,fun i j c hi _=>absurd hi (by omega)⟩
   ·obtain⟨vs,gq,aW,aE⟩:=JR eO cP (by omega)
    have jB:pY M n len cs ((List.range (len*n)).map fun k=>vs.getD (lo*n+k) undef):=by
     refine⟨aa,aj,by simp,fun i j gp hi iy=>?_⟩
     obtain⟨c,eG,gT⟩:=aC j gp iy
     obtain⟨u,hu,jX⟩:=aE.2.2 (lo+i) j c (by omega) eG
     have az:j<n:=by rw[<-aE.1];exact(List.getElem?_eq_some_iff.1 eG).1
     have:(i+1)*n<=len*n:=Nat.mul_le_mul_right n hi
     rw[Nat.add_mul,Nat.one_mul]at this
     rw[Nat.add_mul,Nat.add_assoc]at hu
     refine⟨u,?_,by rw[gT i hi];exact jX⟩
     rw[fJ,List.getElem?_range (by omega)]
     simp[Array.getD_eq_getD_getElem?,hu]
    refine⟨_,mk jB fun j u hu=>?_,jB⟩
    simp only[fJ,Option.map_eq_some_iff]at hu
    obtain⟨k,gi,rfl⟩:=hu
    have r9:j<len*n:=by
     have:=(List.getElem?_eq_some_iff.1 gi).1
     simpa using this
    rw[List.getElem?_range r9]at gi
    injection gi with gi;subst gi
    have af:0<n:=by
     rcases Nat.eq_zero_or_pos n with h|h
     ·subst h;omega
     ·exact h
    have GF:j/n<len:=Nat.div_lt_of_lt_mul (by rw[Nat.mul_comm];exact r9)
    have Wc:j%n<D3.length:=by rw[aE.1];exact Nat.mod_lt _ af
    obtain⟨u,hu,_⟩:=aE.2.2 (lo+j/n) (j%n) D3[j%n] (by omega) (dx Wc)
    have he:(lo+j/n)*n+j%n=lo*n+j:=by rw[Nat.add_mul,Nat.add_assoc,Nat.div_add_mod']
    rw[he]at hu
    simp[World.cell?,aW,hu,Array.getD_eq_getD_getElem?]
  |xP=>exact⟨[],D4 _ _ D,aa,aj,by simp,fun i j c hi _=>absurd hi (by omega)⟩
 |cK e aa aj D5=>
  have ak:=aM.ez y ak _ e
  generalize a.eval y=v at ak
  cases ak with
  |d _ _ ak=>
   cases ak with
   |ji=>exact⟨[],D4 _ _ D,aa,aj,by simp,fun i j c hi _=>absurd hi (by omega)⟩
   |cK _ _ _ b sO cap l7 wH f aw aq=>
    have jB:pY M n len cs ((List.range (len*n)).map fun k=>f (k/n) (k%n)):=by
     refine⟨aa,aj,by simp,fun i j c hi Om=>?_⟩
     have az:j<n:=by rw[<-aa];exact(List.getElem?_eq_some_iff.1 Om).1
     have:(i+1)*n<=len*n:=Nat.mul_le_mul_right n hi
     rw[Nat.add_mul,Nat.one_mul]at this
     have aX:(i*n+j)/n=i:=by rw[Nat.mul_comm,Nat.mul_add_div (by omega)];simp[Nat.div_eq_of_lt az]
     have bu:(i*n+j)%n=j:=by rw[Nat.mul_comm,Nat.mul_add_mod];exact Nat.mod_eq_of_lt az
     refine⟨f i j,?_,aq i j _ hi ?_⟩
     ·rw[fJ,List.getElem?_range (by omega)]
      simp[aX,bu]
     ·rw[D5 i hi,fJ,Om];rfl
    refine⟨_,mk jB fun j u hu=>?_,jB⟩
    simp only[fJ,Option.map_eq_some_iff]at hu
    obtain⟨k,gi,rfl⟩:=hu
    have r9:j<len*n:=by
     have:=(List.getElem?_eq_some_iff.1 gi).1
     simpa using this
    rw[List.getElem?_range r9]at gi
    injection gi with gi;subst gi
    have af:0<n:=by
     rcases Nat.eq_zero_or_pos n with h|h
     ·subst h;omega
     ·exact h
    have GF:j/n<len:=Nat.div_lt_of_lt_mul (by rw[Nat.mul_comm];exact r9)
    have:=aw (j/n) (j%n) GF (Nat.mod_lt _ af)
    rw[Nat.div_add_mod']at this
    exact aM.mem _ _ _ this
 |nil e aa aj=>
  have ak:=aM.val ak e
  rw[ak]
  exact⟨[],D4 _ _ D,aa,aj,by simp,fun i j c hi _=>absurd hi (by omega)⟩
 | @j3 s e=>
  have ak:=aM.val ak e
  rw[ak]
  refine⟨byteCells s,⟨kind,fun _=>rfl,firstCells_string s w,firstCells_string s w.drew,by rw[byteCells_length,Nat.mul_one],fun u hu=>by obtain⟨_,_,rfl⟩:=List.mem_map.1 hu;rfl⟩,rfl,by simp[bz.len],by rw[byteCells_length,Nat.mul_one],fun i j c hi aj=>?_⟩
  cases j with
  |zero=>
   simp at aj;subst aj
   have jb:i<s.data.toList.length:=by simpa using hi
   refine⟨.int .u8 (s.data.toList[i]).toNat,?_,?_⟩
   ·unfold byteCells
    rw[fJ,Nat.mul_one,Nat.add_zero,dx jb];rfl
   ·simp only[bz.at]
    rw[zN _ _ 0 _ jb,cN,dx jb]
    exact .v _
  |succ j=>simp at aj
def bz.qB:bz->bz->bz
 | .cv k xs,.cv jZ hj=>if k=jZ then .cv k (xs++hj)else .ds ((xs.map fun m=>.v (.int k m))++hj.map fun m=>.v (.int jZ m))
 | .o6 xs,.o6 hj=>.o6 (xs++hj)
 | .ds xs,.ds hj=>.ds (xs++hj)
 | .ds xs,.cv k hj=>.ds (xs++hj.map fun m=>.v (.int k m))
 | .ds xs,.o6 hj=>.ds (xs++hj.map fun m=>.v (.bool m))
 | .cv k xs,.ds hj=>.ds ((xs.map fun m=>.v (.int k m))++hj)
 | .o6 xs,.ds hj=>.ds ((xs.map fun m=>.v (.bool m))++hj)
 | .cv k xs,.o6 hj=>.ds ((xs.map fun m=>.v (.int k m))++hj.map fun m=>.v (.bool m))
 | .o6 xs,.cv k hj=>.ds ((xs.map fun m=>.v (.bool m))++hj.map fun m=>.v (.int k m))
theorem Wd{α:Type}(xs hj:List α)(d:α)(i:Nat):(xs++hj).getD i d=if i<xs.length then xs.getD i d else hj.getD (i-xs.length) d:=by
 simp only[cN,List.getElem?_append]
 split<;>rfl
theorem We(c gp:bz):(c.qB gp).len=c.len+gp.len/\∀i,i<c.len+gp.len->(c.qB gp).at i=if i<c.len then c.at i else gp.at (i-c.len):=by
 cases c<;>cases gp<;>simp only[bz.qB]
 all_goals try split
 all_goals refine⟨by simp[bz.len],fun i hi=>?_⟩
 all_goals split
 all_goals rename_i h
 all_goals simp only[bz.len]at h hi
 all_goals simp only[bz.at,bz.len,Wd,l5,h,if_true,if_false]
 all_goals first
  |rfl
  |(rename_i J;subst J;rfl)
  |(rw[zN _ _ 0 _ (by omega)];done)
  |(rw[zN _ _ false _ (by omega)];done)
def nz:List bz->List bz->List bz
 |c::cs,d::ds=>c.qB d::nz cs ds
 |_,_=>[]
theorem J3{fy e7:Nat}:∀(cs ds:List bz),cs.length=ds.length->(∀c∈cs,c.len=fy)->(∀c∈ds,c.len=e7)->
  (nz cs ds).length=cs.length/\(∀c∈nz cs ds,c.len=fy+e7)/\∀(j:Nat) (c:bz),(nz cs ds)[j]?=some c->∃(a b:bz),cs[j]?=some a/\ds[j]?=some b/\∀i,i<fy+e7->c.at i=if i<fy then a.at i else b.at (i-fy)
 |[],[],_,_,_=>⟨rfl,fun _ h=>(by cases h),fun j c h=>by simp[nz]at h⟩
 |c::cs,[],h,_,_=>by simp at h
 |[],d::ds,h,_,_=>by simp at h
 |c::cs,d::ds,h,J,W=>by
  obtain⟨ca,a2,a3⟩:=J3 cs ds (by simpa using h) (fun x Y=>J x (by simp[Y])) fun x Y=>W x (by simp[Y])
  have aj:=J c (by simp)
  have aq:=W d (by simp)
  obtain⟨fK,fO⟩:=We c d
  refine⟨by simp[nz,ca],fun x Y=>?_,fun j x Y=>?_⟩
  ·simp only[nz,eb]at Y
   rcases Y with rfl|Y
   ·rw[fK,aj,aq]
   ·exact a2 x Y
  ·cases j with
   |zero=>simp[nz]at Y;subst Y;exact⟨c,d,rfl,rfl,fun i hi=>by rw[fO i (by omega),aj]⟩
   |succ j=>simp[nz]at Y;simpa using a3 j x Y
theorem pY.qB{M:Mem}{n fy e7:Nat}{cs ds:List bz}{us vs:List Value}(h:pY M n fy cs us)(k:pY M n e7 ds vs):pY M n (fy+e7) (nz cs ds) (us++vs):=by
 obtain⟨ca,a2,a3,a4⟩:=h
 obtain⟨fK,fO,hh,ph⟩:=k
 obtain⟨pj,c2,c3⟩:=J3 cs ds (by rw[ca,fK]) a2 fO
 refine⟨by rw[pj,ca],c2,by simp[a3,hh,Nat.add_mul],fun i j c hi aj=>?_⟩
 obtain⟨a,b,aC,ae,gT⟩:=c3 j c aj
 have az:j<n:=by rw[<-ca];exact(List.getElem?_eq_some_iff.1 aC).1
 rw[gT i hi]
 by_cases h:i<fy
 ·rw[if_pos h]
  obtain⟨v,aK,aq⟩:=a4 i j a h aC
  have:(i+1)*n<=fy*n:=Nat.mul_le_mul_right n h
  rw[Nat.add_mul,Nat.one_mul]at this
  exact⟨v,by rw[pf (by omega)];exact aK,aq⟩
 ·rw[if_neg h]
  obtain⟨v,aK,aq⟩:=ph (i-fy) j b (by omega) ae
  have e:i*n=fy*n+(i-fy)*n:=by rw[<-Nat.add_mul];congr 1;omega
  refine⟨v,?_,aq⟩
  rw[List.getElem?_append_right (by omega),a3,e]
  rw[show fy*n+(i-fy)*n+j-fy*n=(i-fy)*n+j by omega]
  exact aK
theorem pY.at{M:Mem}{n len:Nat}{cs:List bz}{us vs:List Value}(h:pY M n len cs us):sM M n len cs (us++vs).toArray:=by
 obtain⟨ca,a2,a3,a4⟩:=h
 refine⟨ca,a2,fun i j c hi aj=>?_⟩
 obtain⟨v,aK,aq⟩:=a4 i j c hi aj
 have aG:=(List.getElem?_eq_some_iff.1 aK).1
 exact⟨v,by simp only[List.getElem?_toArray];rw[pf aG];exact aK,aq⟩
theorem fb.J4(w:World)(o:Obj):fb w (w.drew.alloc o) w.heap.size:=
 ⟨rfl,rfl,rfl,by show w.heap.size<=(w.heap.push o).size;simp,fun b ae aG=>by show(w.heap.push o)[b]?=_;simp[Array.getElem?_push,ae],by show _<(w.heap.push o).size;simp⟩
theorem On{t tx ty e:TypeId}{i:TypeInfo}(aT:P.underlying t=some (.slice e))(hi:P.info? e=some i){w:World}{b yb iB:Nat}{x:Value}{n:Nat}{fL:List Value}{gq:TypeId}{cur:Array Value}(an:Src P i.size tx x n fL w)
  (sY:yb+n<=iB) (ae:w.heap[b]?=some (.cells cur gq (0,0))) (bJ:yb*i.size+fL.length<=cur.size):
  (Builtin.append_ #[t,tx] ty #[.slice (some ⟨b,0,none⟩) yb iB,x]).run P w= .ok (.slice (some ⟨b,0,none⟩) (yb+n) iB) (w.setRow b (j0 cur.toList (yb*i.size) fL).toArray):=by
 have cy:=run_storeCells_at (P:=P) b (yb*i.size) gq fL 0 cur w ae (by simpa using bJ) an.one
 simp only[Nat.add_zero]at cy
 have Wf:(⟨b,0,none⟩:Addr).add (yb*i.size)=⟨b,yb*i.size,none⟩:=by rw[oA,Nat.zero_add]
 rcases an.kind with⟨jJ,K⟩|K<;>simp[Builtin.append_,run_underlying aT,run_underlying K,sizeOf,typeInfo,hi,an.len,sY,an.cells,Wf,cy,j0]
theorem Oo{t tx ty e:TypeId}{i:TypeInfo}(aT:P.underlying t=some (.slice e))(hi:P.info? e=some i){w:World}{x:Value}{fL:List Value}(an:Src P i.size tx x 0 fL w):
  (Builtin.append_ #[t,tx] ty #[.slice none 0 0,x]).run P w= .ok (.slice none 0 0) w:=by
 rcases an.kind with⟨jJ,K⟩|K<;>simp[Builtin.append_,run_underlying aT,run_underlying K,sizeOf,typeInfo,hi,an.len,an.cells]
inductive GG(S:ad)(x:Operand)(n:Nat):List Nat->Nat->List bz->Prop
 |nil (e:cd S true x k4):GG S x n [] 0 []
 |aQ {l len:Nat} {cs:List bz} (e:cd S true x (.aQ l len)) (ae:S.get (G l)=some (.U (.bG n len cs))):GG S x n [l] len cs
def ma(old new:List bz):List bz:=match old with
 |[]=>new
 |_=>nz old new
def mB(P:Program)(t:TypeId)(n bytes:Nat):Bool:=match P.underlying t with
 |some (.slice e)=>(match P.info? e with|some i=>Nat.beq i.size n&&Nat.beq i.bytes bytes&&(match i.zero with|some z=>Nat.beq z.cells.size n|none=>false)|none=>false)
 |_=>false
theorem Wg{aY:ad}{o:Oper}{x y:Operand}{t tx:TypeId}{d l' n bytes df dv:Nat}{vb yc ds:List Nat}{rl rm:List bz}(bJ:o.op= .call ⟨.builtin .append,#[x,y],#[t,tx]⟩)(gM:o.dst=some d)(fY:o.guard=none)
  (aT:mB P t n bytes=true) (K:nb P tx=true) (af:0<n) (Y:GG aY x n vb df rl) (ak:ya aY y yc n dv rm) (J:∀c∈rm,c.fk=true) (zO:∀l∈vb,l=l'\/G l∈ds)
  (o9:(df+dv)*bytes<=140737488355328) (Bz:df+dv<=140737488355328):
  kA P ro ops o ⟨cQ o++(vb++yc).map G,aY,fU ds l' (.bG n (df+dv) (ma rl rm)) d (.aQ l' (df+dv)),[l']⟩:=by
 intro E S a w an bf dX ⟨V,M,aC,hw⟩ Q gD
 have aq:d<E.cg:=dX.2 d (Bt.2 (.inr (.inr D)))
 have wI:l'∉E.aA:=dX.1 l' (by simp)
 have aM:jc E aY o (vb++yc) true V M a w:=qw (rn:=cQ o++(vb++yc).map G) an (fun n af=>by simp[af]) (fun l aa=>by simp only[hy,List.mem_map];right;exact⟨l,by simpa using aa,rfl⟩) D aC hw
 have J5:y∈o.op.operands:=by rw[bJ];simp[Op.operands,Call.operands]
 have iM:x∈o.op.operands:=by rw[bJ];simp[Op.operands,Call.operands]
 obtain⟨fL,wJ,yd⟩:=Wb (P:=P) (tx:=tx) ak aM (fun l aa=>by simp[aa]) J5 K J
 unfold lx
 rw[if_pos (by simp[Region.wanted,fY])]
 have h0:sR o.op=true:=by rw[bJ];rfl
 have jN:∀{v:Value} {w':World} {zP:Value},a.eval x=zP->(Builtin.append_ #[t,tx] o.type #[zP,a.eval y]).run P w= .ok v w'->(execOp a.eval o).run P w= .ok (.value v) w':=by
  intro v w' zP J6 aE
  generalize a.eval=aI at*
  simp only[execOp,bJ,resolve,de,e5,Result.andThen,invoke,builtin]
  simp[J6,aE]
 unfold mB at aT
 split at aT
 ·rename_i e hu
  split at aT
  ·rename_i inf hi
   simp only[eL]at aT
   obtain⟨⟨ud,pk⟩,rp⟩:=aT
   have aX:=kN ud
   have bu:=kN pk
   obtain⟨z,bd,pg⟩:∃z,inf.zero=some z/\z.cells.size=n:=by
    cases bd:inf.zero with
    |none=>rw[bd]at rp;cases rp
    |some z=>rw[bd]at rp;exact⟨z,rfl,kN rp⟩
   rw[<-aX]at wJ
   have grow:∀(ly:Option Addr) (iB:Nat) (mC:List Value),a.eval x= .slice ly df iB->iB<df+dv->(Builtin.firstCells inf.size df (.slice ly df iB)).run P w.drew= .ok mC.toArray w.drew->
     pY M n (df+dv) (ma rl rm) (mC++fL)->o.wpIn (ja P ro) 0 P a w (ei E (S.eK (fU ds l' (.bG n (df+dv) (ma rl rm)) d (.aQ l' (df+dv))))) Q:=by
    intro ly iB mC hex aG hold jB
    have D5:=run_append_grow_src (P:=P) w t tx o.type e inf z hu hi bd ly df iB mC hold (a.eval y) dv fL wJ aG (by omega) (growslice_fits (need:=df+dv) (old:=iB) aG (by rw[bu];exact o9))
    refine sS h0 (jN hex D5) ?_
    rw[gM]
    have l7:df+dv<=grownCap w (df+dv) iB e:=by unfold grownCap;exact Nat.le_add_right _ _
    refine DT aC hw (fb.J4 w _) (.inl D) (bf l' (by simp)) wI aq (nw:=some (grownCap w (df+dv) iB e)) ?_ ?_
    ·refine⟨jB.1,jB.2.1,?_⟩
     rw[pS]
     refine⟨l7,((mC++fL).toArray++Builtin.zeroCells z.cells (grownCap w (df+dv) iB e-(df+dv))),e,?_,?_,?_⟩
     ·rw[jK];exact sW w.drew _
     ·have J:(Builtin.zeroCells z.cells (grownCap w (df+dv) iB e-(df+dv))).size=(grownCap w (df+dv) iB e-(df+dv))*n:=by
       simp[Builtin.zeroCells,pg]
      have W:=jB.2.2.1
      rw[Array.size_append,J,List.size_toArray,W,<-Nat.add_mul]
      congr 1
      omega
     ·have:=jB.at (vs:=(Builtin.zeroCells z.cells (grownCap w (df+dv) iB e-(df+dv))).toList)
      have es:((mC++fL)++(Builtin.zeroCells z.cells (grownCap w (df+dv) iB e-(df+dv))).toList).toArray=(mC++fL).toArray++Builtin.zeroCells z.cells (grownCap w (df+dv) iB e-(df+dv)):=by
       apply Array.ext'
       simp
      rw[<-es]
      exact this
    ·have:=bU.aQ (V:=V.set l' w.heap.size (some (grownCap w (df+dv) iB e))) (M:=M) l' (df+dv) _ (by rw[pS]) l7
     rw[jK]at this
     exact this
   cases Y with
   |nil gn=>
    have hex:=aM.val iM gn
    by_cases bb:dv=0
    ·subst bb
     refine sS h0 (jN hex (Oo hu hi wJ)) ?_
     rw[gM]
     refine JM aC hw (bf l' (by simp)) wI aq ⟨yd.1,by simpa[ma]using yd.2.1,by simp⟩ (.k1 l' (by simp))
    ·refine grow none 0 [] hex (by omega) (by simp[Builtin.firstCells]) ?_
     simpa[ma]using yd
   | @aQ l _ _ gn ae=>
    have D6:=aM.ez x iM _ gn
    obtain⟨fK,fO,hh⟩:=aM.U l (by simp) _ ae
    have r8:S.get (G l)=some (.U (.bG n df rl)):=by rw[an (G l) (by simp)];exact ae
    have az:ma rl rm=nz rl rm:=by
     cases rl with
     |nil=>simp at fK;omega
     |cons=>rfl
    generalize hex:a.eval x=v at D6
    cases D6 with
    |k1 _ iA=>
     by_cases bb:dv=0
     ·subst bb
      refine sS h0 (jN hex (Oo hu hi wJ)) ?_
      rw[gM,az]
      obtain⟨pj,c2,c3⟩:=J3 rl rm (by rw[fK,yd.1]) fO yd.2.1
      exact JM aC hw (by have:=bf l' (by simp);rwa[az]at this) wI aq ⟨by rw[pj,fK],c2,by simp⟩ (.k1 l' (by simp))
     ·refine grow none 0 [] hex (by omega) (by simp[Builtin.firstCells]) ?_
      rw[az]
      have Oq:pY M n 0 rl []:=⟨fK,fO,by simp,fun i j c hi _=>absurd hi (by omega)⟩
      exact Oq.qB yd
    |aQ _ _ cap iA hO=>
     rw[iA]at hh
     obtain⟨_,vs,gq,aW,cj,aE⟩:=hh
     have jB:=Ok aE hO cj
     have k9:=jB.qB yd
     have qC:fL.length=dv*n:=yd.2.2.1
     by_cases sY:df+dv<=cap
     ·have mD:df*inf.size+fL.length<=vs.size:=by
       rw[aX,qC,cj,<-Nat.add_mul];exact Nat.mul_le_mul_right n sY
      refine sS h0 (jN hex (On hu hi wJ sY aW mD)) ?_
      rw[gM]
      have sZ:di V S l:=⟨⟨_,r8⟩,by rw[iA];simp⟩
      refine DT aC hw (fb.setRow w _ _ (hw.cE l sZ)) (.inr ⟨l,sZ,rfl,?_⟩) (bf l' (by simp)) wI aq (nw:=some cap) ?_ ?_
      ·rcases zO l (by simp)with h|h
       ·exact .inr h
       ·exact .inl h
      ·refine⟨by rw[az];exact k9.1,by rw[az];exact k9.2.1,?_⟩
       rw[pS]
       refine⟨sY,_,gq,by rw[jK];exact setRow_heap w _ _ _ _ _ aW,?_,?_⟩
       ·rw[List.size_toArray,wC (by simpa using mD)];simpa using cj
       ·rw[az]
        have:=k9.at (vs:=vs.toList.drop (df*inf.size+fL.length))
        have es:j0 vs.toList (df*inf.size) fL=vs.toList.take (df*n)++fL++vs.toList.drop (df*inf.size+fL.length):=by rw[<-aX];rfl
        rw[es]
        exact this
      ·have:=bU.aQ (V:=V.set l' (V.aI l) (some cap)) (M:=M) l' (df+dv) cap (by rw[pS]) sY
       rw[jK]at this
       exact this
     ·refine grow (some ⟨V.aI l,0,none⟩) cap (vs.toList.take (df*n)) hex (by omega) ?_ (by rw[az];exact k9)
      refine run_firstCells_some w.drew inf.size df ⟨V.aI l,0,none⟩ df cap _ (by rw[aX];exact jB.2.2.1) fun j u hu=>?_
      rw[oA,Nat.zero_add]
      rw[List.getElem?_take]at hu
      split at hu
      ·show w.cell? _=_
       simp only[World.cell?,aW]
       simpa using hu
      ·cases hu
  ·cases aT
 ·cases aT
theorem hA{aY S':ad}{r:List Oper}{L:List cx}{x y:Operand}{t tx ty:TypeId}{pos:String}{a6:Array Edge}{d n bytes df dv:Nat}{vb yc:List Nat}{rl rm cs:List bz}(l':Nat)(ds:List Nat)
  (aT:mB P t n bytes=true) (K:nb P tx=true) (af:0<n) (Y:GG aY x n vb df rl) (ak:ya aY y yc n dv rm) (J:∀c∈rm,c.fk=true) (zO:∀l∈vb,l=l'\/G l∈ds)
  (o9:(df+dv)*bytes<=140737488355328) (Bz:df+dv<=140737488355328) (fV:ma rl rm=cs)
  (bf:h7 ⟨cQ ⟨some d,.call ⟨.builtin .append,#[x,y],#[t,tx]⟩,ty,pos,a6,none⟩++(vb++yc).map G,aY,fU ds l' (.bG n (df+dv) cs) d (.aQ l' (df+dv)),[l']⟩ aY=true)
  (h:bI P ro ops r (aY.after ds l' (.bG n (df+dv) cs) d (.aQ l' (df+dv))) L S'):
  bI P ro ops (⟨some d,.call ⟨.builtin .append,#[x,y],#[t,tx]⟩,ty,pos,a6,none⟩::r) aY (⟨cQ ⟨some d,.call ⟨.builtin .append,#[x,y],#[t,tx]⟩,ty,pos,a6,none⟩++(vb++yc).map G,aY,fU ds l' (.bG n (df+dv) cs) d (.aQ l' (df+dv)),[l']⟩::L) S':=by
 subst fV
 exact tZ ds (Wg D D D aT K af Y ak J zO o9 Bz) bf h
end
section
variable {P:Program} {S:ad} {ro:eR} {ops:Array Oper}
def zQ(k:IntKind):List bg->Option (List Int)
 |[]=>some []
 | .v (.int jZ m)::r=>if k=jZ then(match zQ k r with|some l=>some (m::l)|none=>none)else none
 |_::_=>none
def zR:List bg->Option (List Bool)
 |[]=>some []
 | .v (.bool m)::r=>(match zR r with|some l=>some (m::l)|none=>none)
 |_::_=>none
def BA(l:List bg):bz:=match l with
 | .v (.int k _)::_=>(match zQ k l with|some xs=>.cv k xs|none=>.ds l)
 | .v (.bool _)::_=>(match zR l with|some xs=>.o6 xs|none=>.ds l)
 |_=>.ds l
theorem Ot{k:IntKind}:∀{l:List bg} {xs:List Int},zQ k l=some xs->l=xs.map fun m=>.v (.int k m)
 |[],xs,h=>by simp only[zQ,en]at h;subst h;rfl
 |x::r,xs,h=>by
  cases x with
  |v u=>
   cases u with
   |int jZ m=>
    simp only[zQ]at h
    split at h
    ·rename_i K;subst K
     split at h
     ·rename_i l aa;injection h with h;subst h;rw[Ot aa];rfl
     ·cases h
    ·cases h
   |_=>simp[zQ]at h
  |_=>simp[zQ]at h
theorem Ou:∀{l:List bg} {xs:List Bool},zR l=some xs->l=xs.map fun m=>.v (.bool m)
 |[],xs,h=>by simp only[zR,en]at h;subst h;rfl
 |x::r,xs,h=>by
  cases x with
  |v u=>
   cases u with
   |bool m=>
    simp only[zR]at h
    split at h
    ·rename_i l aa;injection h with h;subst h;rw[Ou aa];rfl
    ·cases h
   |_=>simp[zR]at h
  |_=>simp[zR]at h
theorem GH(l:List bg):(BA l).len=l.length/\∀i,i<l.length->(BA l).at i=l.getD i (.v .nilFunc):=by
 unfold BA
 split
 ·split
  ·rename_i xs h
   have:=Ot h
   rw[this]
   refine⟨by simp[bz.len],fun i hi=>?_⟩
   simp only[bz.at]
   rw[zN _ _ 0 _ (by simpa using hi)]
  ·exact⟨rfl,fun i hi=>rfl⟩
 ·split
  ·rename_i xs h
   have:=Ou h
   rw[this]
   refine⟨by simp[bz.len],fun i hi=>?_⟩
   simp only[bz.at]
   rw[zN _ _ false _ (by simpa using hi)]
  ·exact⟨rfl,fun i hi=>rfl⟩
 ·exact⟨rfl,fun i hi=>rfl⟩
def GI(n len:Nat)(ds:List bg):List bz:=(List.range n).map fun j=>BA ((List.range len).map fun i=>ds.getD (i*n+j) (.v .nilFunc))
theorem Wh{V:cu}{M:Mem}{n len:Nat}{ds:List bg}{vs:List Value}(aa:ds.length=len*n)(h:gZ V M (ds.map .d) vs):pY M n len (GI n len ds) vs:=by
 refine⟨by simp[GI],fun c aj=>?_,by rw[<-aa];simpa using h.len.symm,fun i j c hi aj=>?_⟩
 ·obtain⟨j,_,rfl⟩:=List.mem_map.1 aj
  rw[(GH _).1];simp
 ·simp only[GI,fJ,Option.map_eq_some_iff]at aj
  obtain⟨ajd,pX,rfl⟩:=aj
  have az:j<n:=by simpa using(List.getElem?_eq_some_iff.1 pX).1
  rw[List.getElem?_range az]at pX
  injection pX with pX;subst pX
  have:(i+1)*n<=len*n:=Nat.mul_le_mul_right n hi
  rw[Nat.add_mul,Nat.one_mul]at this
  have aG:i*n+j<ds.length:=by omega
  have u9:i*n+j<vs.length:=by have:=h.len;simp at this;omega
  refine⟨vs[i*n+j],dx u9,?_⟩
  rw[(GH _).2 i (by simpa using hi),zN _ _ 0 _ (by simpa using hi)]
  have Wi:(List.range len).getD i 0=i:=by simp[cN,hi]
  rw[Wi,cN,dx aG,Option.getD_some]
  have:=h.e6 (i*n+j) (.d ds[i*n+j]) vs[i*n+j] (by simp[aG]) (dx u9)
  cases this with|d _ _ h=>exact h
theorem BB(cq:List Value)(N:Nat)(af:0<cq.length):(Array.range N).map (fun k=>cq.toArray[k%cq.toArray.size]!)=((List.range N).map fun k=>cq.getD (k%cq.length) undef).toArray:=by
 apply Array.ext'
 simp only[Array.toList_map,Array.toList_range]
 apply List.map_congr_left
 intro k K
 have:k%cq.length<cq.length:=Nat.mod_lt _ af
 simp only[List.size_toArray]
 rw[getElem!_pos cq.toArray (k%cq.length) (by simpa using this)]
 simp[cN,this]
theorem GJ{t:TypeId}{z:Value}{N:Nat}{w:World}{α:Type}{k:Array Value->Sem α}{r:Result α}(aE:(zeroValue t).run P w= .ok z w)(h:(k z.cells).run P w=r)(bb:N=0->(k #[]).run P w=r):
  (if N=0 then(do let zero<-(_root_.Pure.pure #[]:Sem (Array Value));k zero)else(do let v<-zeroValue t;let zero<-(_root_.Pure.pure v.cells:Sem (Array Value));k zero)).run P w=r:=by
 by_cases ik:N=0
 ·rw[if_pos ik];exact bb ik
 ·rw[if_neg ik,de,aE];exact h
section
variable {x y:Operand} {ty t e:TypeId} {pos:String} {a6:Array Edge} {d:Nat}
def kQ(P:Program)(t e n:Nat):Bool:=(match P.underlying t with|some (.slice jJ)=>Nat.beq jJ e|_=>false)&&(match P.info? e with|some i=>Nat.beq i.size n|none=>false)
theorem ye{n:Nat}(h:kQ P t e n=true):P.underlying t=some (.slice e)/\∀w,(sizeOf e).run P w= .ok n w:=by
 simp only[kQ,eL]at h
 obtain⟨J,W⟩:=h
 constructor
 ·split at J
  ·rename_i jJ hu;rw[hu,kN J]
  ·cases J
 ·intro w
  cases hi:P.info? e with
  |none=>rw[hi]at W;cases W
  |some i=>rw[hi]at W;rw[run_sizeOf _ hi];simp[Program.cellsOf,hi,kN W]
theorem gN{S':ad}{r:List Oper}{L:List cx}{parts:Array (Nat×Operand)}{cq:List Value}{n len:Nat}{l:List ai}{dl:List bg}{cs:List bz}(lb:Nat)(ds:List Nat)
  (aT:kQ P t e n=true) (bd:cZ P e cq) (ue:cq.length=n) (af:0<n) (hlen:len*n<=16777216) (bf:r5 S (fun i=>some (i*n,n)) (bV ((List.range (len*n)).map fun k=>cq.getD (k%n) undef)) parts.toList l)
  (aq:zG l=some dl) (fV:GI n len dl=cs)
  (h3:h7 ⟨cQ ⟨some d,.buildSlice t len parts,ty,pos,a6,none⟩,S,fU ds lb (.bG n len cs) d (.aQ lb len),[lb]⟩ S=true) (h:bI P ro ops r (S.after ds lb (.bG n len cs) d (.aQ lb len)) L S'):
  bI P ro ops (⟨some d,.buildSlice t len parts,ty,pos,a6,none⟩::r) S (⟨cQ ⟨some d,.buildSlice t len parts,ty,pos,a6,none⟩++([]:List Nat).map G,S,fU ds lb (.bG n len cs) d (.aQ lb len),[lb]⟩::L) S':=by
 subst fV
 refine tZ ds (wD D D D fun E V M a w h=>?_) (by simpa using h3) h
 have ha:∀p∈parts.toList,∀y,cd S true p.2 y->bU V M y (a.eval p.2):=fun p Z y ak=>h.ez p.2 (by simp only[Op.operands,List.mem_toArray,List.mem_map];exact⟨p,Z,rfl⟩) y ak
 generalize a.eval=aI at*
 obtain⟨z,pg,aE⟩:=x4 bd
 obtain⟨hu,cj⟩:=ye aT
 obtain⟨j1,oC,hg⟩:=Gx bf ha (Gy V M _)
 have oz:=JP aq
 subst oz
 have u9:j1.length=len*n:=by
  have:∀{place:Nat->Option (Nat×Nat)} {l l':List ai} {ps:List (Nat×Operand)},r5 S place l ps l'->l'.length=l.length:=by
   intro place l l' ps bf
   induction bf with
   |nil=>rfl
   |cons e hu Z bJ h aJ=>rw[aJ,wC bJ]
  have J:=this bf
  rw[<-hg.len,J]
  simp[bV]
 have GK:dl.length=len*n:=by have:=hg.len;simp at this;omega
 have jB:=Wh GK hg
 have rj:z.cells=cq.toArray:=by rw[<-pg,Array.toArray_toList]
 have sX:(parts.map fun x=>(x.1,aI x.2)).toList=parts.toList.map fun p=>(p.1,aI p.2):=by simp
 refine⟨w.alloc (.cells j1.toArray e),.slice (some ⟨w.heap.size,0,none⟩) len len,some len,?_,fb.alloc w _,?_,?_⟩
 ·have zS:¬(len*n>2^24):=by omega
  have yf:Instr.fill (fun i=>some (i*n,n)) ((Array.range (len*n)).map fun i=>z.cells[i%z.cells.size]!) ((parts.map fun x=>(x.1,aI x.2)).toList)=some j1.toArray:=by
   rw[sX,rj,BB cq _ (by omega),ue];exact oC
  have ae:(Instr.buildSlice t len (parts.map fun x=>(x.1,aI x.2))).run P w= .ok (.slice (some ⟨w.heap.size,0,none⟩) len len) (w.alloc (.cells j1.toArray e)):=by
   unfold Instr.buildSlice
   simp only[de,run_underlying hu,Result.andThen,cj,zS,if_false]
   refine GJ (P:=P) (aE w) ?_ fun bb=>?_
   ·rw[yf];simp[newRow]
   ·have e0:((Array.range (len*n)).map fun x=>(#[]:Array Value)[x%(#[]:Array Value).size]!)=(Array.range (len*n)).map fun i=>z.cells[i%z.cells.size]!:=by rw[bb];simp
    rw[e0,yf];simp[newRow]
  simp only[execOp,de,ae,Result.andThen]
  rfl
 ·refine⟨jB.1,jB.2.1,?_⟩
  rw[pS]
  refine⟨Nat.le_refl _,j1.toArray,e,by rw[jK,sW],by simp[u9],?_⟩
  have:=jB.at (vs:=[])
  simpa using this
 ·have:=bU.aQ (V:=V.set lb w.heap.size (some len)) (M:=M) lb len len (by rw[pS]) (Nat.le_refl _)
  rw[jK]at this
  exact this
def s0(len:Nat)(cq:List Value):List bz:=cq.map fun z=>match z with
 | .int k m=>.cv k (List.replicate len m)
 | .bool b=>.o6 (List.replicate len b)
 |u=>.ds (List.replicate len (.v u))
theorem GL{M:Mem}{len cap:Nat}{cq:List Value}(hle:len<=cap):sM M cq.length len (s0 len cq) ((List.range (cap*cq.length)).map fun k=>cq.getD (k%cq.length) undef).toArray:=by
 refine⟨by simp[s0],fun c aj=>?_,fun i j c hi aj=>?_⟩
 ·obtain⟨z,_,rfl⟩:=List.mem_map.1 aj
  cases z<;>simp[bz.len]
 ·simp only[s0,fJ,Option.map_eq_some_iff]at aj
  obtain⟨z,bd,rfl⟩:=aj
  have az:j<cq.length:=(List.getElem?_eq_some_iff.1 bd).1
  have:(i+1)*cq.length<=cap*cq.length:=Nat.mul_le_mul_right _ (by omega)
  rw[Nat.add_mul,Nat.one_mul]at this
  have bu:(i*cq.length+j)%cq.length=j:=by rw[Nat.mul_comm,Nat.mul_add_mod];exact Nat.mod_eq_of_lt az
  refine⟨z,?_,?_⟩
  ·rw[List.getElem?_toArray,fJ,List.getElem?_range (by omega)]
   simp[bu,cN,bd]
  ·cases z<;>simp[bz.at,hi,cN]<;>exact .v _
theorem bI.makeSlice{S':ad}{r:List Oper}{L:List cx}{cq:List Value}{n bytes:Nat}{k jZ:IntKind}{len cap:Int}{cs:List bz}(lb:Nat)(ds:List Nat)
  (aT:kQ P t e n=true) (ae:(P.info? e).map (·.bytes)=some bytes) (bd:cZ P e cq) (ue:cq.length=n) (af:0<n) (aX:cd S true x (aF k len)) (bu:cd S true y (aF jZ cap)) (bb:0<=len/\len<=cap) (J:bytes*cap<=281474976710656) (W:cap<=281474976710656)
  (fV:s0 len.toNat cq=cs)
  (h3:h7 ⟨cQ ⟨some d,.makeSlice t x y,ty,pos,a6,none⟩,S,fU ds lb (.bG n len.toNat cs) d (.aQ lb len.toNat),[lb]⟩ S=true) (h:bI P ro ops r (S.after ds lb (.bG n len.toNat cs) d (.aQ lb len.toNat)) L S'):
  bI P ro ops (⟨some d,.makeSlice t x y,ty,pos,a6,none⟩::r) S (⟨cQ ⟨some d,.makeSlice t x y,ty,pos,a6,none⟩++([]:List Nat).map G,S,fU ds lb (.bG n len.toNat cs) d (.aQ lb len.toNat),[lb]⟩::L) S':=by
 subst fV
 subst ue
 refine tZ ds (wD D D D fun E V M a w h=>?_) (by simpa using h3) h
 have Y:=h.val (by simp[Op.operands]) aX
 have ak:=h.val (by simp[Op.operands]) bu
 generalize a.eval=aI at*
 obtain⟨z,pg,aE⟩:=x4 bd
 obtain⟨hu,cj⟩:=ye aT
 have rj:z.cells=cq.toArray:=by rw[<-pg,Array.toArray_toList]
 obtain⟨inf,hi,Wj⟩:∃inf,P.info? e=some inf/\inf.bytes=bytes:=by
  cases hi:P.info? e with
  |none=>rw[hi]at ae;cases ae
  |some inf=>rw[hi]at ae;exact⟨inf,rfl,by simpa using ae⟩
 have BC:len.toNat<=cap.toNat:=by omega
 refine⟨w.alloc (.cells ((List.range (cap.toNat*cq.length)).map fun k=>cq.getD (k%cq.length) undef).toArray e),.slice (some ⟨w.heap.size,0,none⟩) len.toNat cap.toNat,some cap.toNat,?_,fb.alloc w _,?_,?_⟩
 ·have sa:IntKind.i64.wrap len=len:=IntKind.wrap_in .i64 len (by simp[IntKind.min,IntKind.max,IntKind.signed,IntKind.bits];omega)
  have lS:IntKind.i64.wrap cap=cap:=IntKind.wrap_in .i64 cap (by simp[IntKind.min,IntKind.max,IntKind.signed,IntKind.bits];omega)
  have zT:(typeInfo e).run P w= .ok inf w:=run_typeInfo _ hi
  have zS:((decide (cap<0)||decide ((inf.bytes:Int)*cap>2^48))||decide (len<0)||decide (len>cap))=false:=by
   simp only[Bool.or_eq_false_iff,decide_eq_false_iff_not]
   rw[Wj]
   refine⟨⟨⟨by omega,?_⟩,by omega⟩,by omega⟩
   have:(2:Int)^48=281474976710656:=by decide
   omega
  have sY:∀m w',(askRoom m).run P w'= .ok () w':=fun m w'=>by unfold askRoom;split<;>rfl
  have ae:(Instr.makeSlice t (.int k len) (.int jZ cap)).run P w= .ok (.slice (some ⟨w.heap.size,0,none⟩) len.toNat cap.toNat) (w.alloc (.cells ((List.range (cap.toNat*cq.length)).map fun k=>cq.getD (k%cq.length) undef).toArray e)):=by
   unfold Instr.makeSlice
   simp only[de,run_underlying hu,Result.andThen,asInt,asIntOf,e5,zT,sa,lS,zS,Bool.false_eq_true,if_false,sY,cj]
   refine GJ (P:=P) (aE w) ?_ fun bb=>?_
   ·rw[rj,BB cq _ af];simp[newRow]
   ·have e0:((Array.range (cap.toNat*cq.length)).map fun x=>(#[]:Array Value)[x%(#[]:Array Value).size]!)=(Array.range (cap.toNat*cq.length)).map fun k=>cq.toArray[k%cq.toArray.size]!:=by rw[bb];simp
    rw[e0,BB cq _ af];simp[newRow]
  simp only[execOp,Y,ak,de,ae,Result.andThen]
  rfl
 ·refine⟨by simp[s0],(GL (M:=M) BC).2.1,?_⟩
  rw[pS]
  exact⟨BC,_,e,by rw[jK,sW],by simp,GL BC⟩
 ·have:=bU.aQ (V:=V.set lb w.heap.size (some cap.toNat)) (M:=M) lb len.toNat cap.toNat (by rw[pS]) BC
  rw[jK]at this
  exact this
inductive uf(S:ad)(c:Bool):Option Operand->Nat->Nat->Prop
 |lv (d:Nat):uf S c none d d
 |bK {x:Operand} {k:IntKind} {m:Int} (d:Nat) (e:cd S c x (aF k m)) (h:c=true->0<=m):uf S c (some x) d m.toNat
theorem yg{E:c7}{V:cu}{M:Mem}{a:Act}{w:World}{o:Oper}{dE:List Nat}{c:Bool}{x:Option Operand}{J7 m:Nat}(aM:jc E S o dE c V M a w)(aj:c=true)(Y:∀y,x=some y->y∈o.op.operands)(h:uf S c x J7 m):
  (x.map a.eval=none/\m=J7)\/∃k,x.map a.eval=some (.int k m):=by
 cases h with
 |lv=>exact .inl ⟨rfl,rfl⟩
 | @bK x k aje _ e bb=>
  right
  have aK:=aM.val (Y _ D) e
  have aw:=bb aj
  refine⟨k,?_⟩
  rw[Option.map_some,aK,Int.toNat_of_nonneg aw]
theorem D7{o:Oper}{lo hi:Option Operand}(bJ:o.op= .slice t x lo hi none):x∈o.op.operands/\(∀y,lo=some y->y∈o.op.operands)/\∀y,hi=some y->y∈o.op.operands:=by
 rw[bJ]
 refine⟨by simp[Op.operands],fun y h=>by subst h;simp[Op.operands],fun y h=>by subst h;simp[Op.operands]⟩
theorem Pure.rq{c:Bool}{il:Option Tmp}{bB:Option (Nat×Bool)}{n len l h:Nat}{g:Nat->List bg}{lo hi:Option Operand}(aT:kQ P t e n=true)(aX:cd S c x (.d (.cK n len g)))(rh:uf S c lo 0 l)(oB:uf S c hi len h)(hle:c=true->l<=h/\h<=len):
  Pure P S [] ⟨il,.slice t x lo hi none,ty,pos,a6,bB⟩ c (.d (.cK n (h-l) fun i=>g (l+i))):=by
 refine⟨rfl,fun E V M a w aM aj=>?_⟩
 obtain⟨J,W⟩:=hle aj
 obtain⟨wK,zU,wL⟩:=D7 (t:=t) (x:=x) (lo:=lo) (hi:=hi) (o:=⟨il,.slice t x lo hi none,ty,pos,a6,bB⟩) D
 have Y:=aM.ez x wK _ aX
 have BD:=yg aM aj zU rh
 have s3:=yg aM aj wL oB
 obtain⟨hu,cj⟩:=ye aT
 generalize hex:a.eval x=v at Y
 generalize a.eval=aI at*
 cases Y with
 |d _ _ Y=>
  cases Y with
  |ji _ _ Ov cap=>
   refine⟨.slice (if cap=l then Ov else Ov.map (·.add (l*n))) (h-l) (cap-l),?_,?_⟩
   ·simp only[execOp,hex,Option.map_none,de,zH (cap:=cap) hu cj BD s3 J (by omega),Result.andThen];rfl
   ·have:h-l=0:=by omega
    rw[this]
    exact .d _ _ (.ji _ _ _ _)
  |cK _ _ _ b o cap iy aa f aw aq=>
   refine⟨.slice (if cap=l then some ⟨b,o,none⟩else(some (⟨b,o,none⟩:Addr)).map (·.add (l*n))) (h-l) (cap-l),?_,?_⟩
   ·simp only[execOp,hex,Option.map_none,de,zH (cap:=cap) hu cj BD s3 J (by omega),Result.andThen];rfl
   ·by_cases bb:h-l=0
    ·rw[bb];exact .d _ _ (.ji _ _ _ _)
    ·rw[if_neg (by omega),Option.map_some,oA]
     refine .d _ _ (.cK _ _ _ b (o+l*n) (cap-l) (by omega) (fun i hi=>aa _ (by omega)) (fun i j=>f (l+i) j) (fun i j hi az=>?_) fun i j x hi Y=>aq _ j x (by omega) Y)
     have:=aw (l+i) j (by omega) az
     rw[Nat.add_mul]at this
     rw[<-this]
     congr 1
     omega
theorem Pure.GM{c:Bool}{il:Option Tmp}{bB:Option (Nat×Bool)}{s:ByteArray}{l h:Nat}{lo hi:Option Operand}(hu:P.underlying t=some .string)(aX:cd S c x (jm s))(rh:uf S c lo 0 l)(oB:uf S c hi s.size h)(hle:c=true->l<=h/\h<=s.size):
  Pure P S [] ⟨il,.slice t x lo hi none,ty,pos,a6,bB⟩ c (jm (s.extract l h)):=by
 refine⟨rfl,fun E V M a w aM aj=>?_⟩
 obtain⟨J,W⟩:=hle aj
 obtain⟨wK,zU,wL⟩:=D7 (t:=t) (x:=x) (lo:=lo) (hi:=hi) (o:=⟨il,.slice t x lo hi none,ty,pos,a6,bB⟩) D
 have Y:=aM.val wK aX
 have BD:=yg aM aj zU rh
 have s3:=yg aM aj wL oB
 generalize a.eval=aI at*
 refine⟨.string (s.extract l h),?_,.d _ _ (.v _)⟩
 rcases BD with⟨gO,rfl⟩|⟨k,gO⟩<;>rcases s3 with⟨s4,rfl⟩|⟨jZ,s4⟩<;>
  simp[execOp,Y,gO,s4,Instr.sliceAt,Instr.slice,run_underlying hu,Instr.sliceBounds,Instr.sliceBound,asIntOf,J,W]
end
end
section
variable {P:Program} {S:ad} {ro:eR} {ops:Array Oper} {E:c7}
theorem Wk(S:ad):ad.le [] S:=fun n c h=>by simp[ad.get]at h
theorem aZ{S r:ad}{n:Nat}{c:dz}(h:S.get n=some c)(t:ad.le r S):ad.le ((n,c)::r) S:=fun m d e=>by
 simp only[ad.get,ih]at e
 by_cases aw:n=m
 ·subst aw;simp at e;subst e;exact h
 ·simp[aw]at e;exact t m d e
def b1(E:c7)(S T:ad):Prop:=∀a w,ei E S a w->ei E T a w
theorem c1{c:Code}{S T:ad}{Q:Exit->ad->Prop}(g:b1 E S T)(h:c8 P ro E c T Q):c8 P ro E c S Q:=fun a w ⟨ms,bb,J,W,aH⟩=>h a w ⟨ms,bb,J,W,g _ w aH⟩
theorem b1.trans{S T vc:ad}(g:b1 E S T)(h:b1 E T vc):b1 E S vc:=fun a w aE=>h a w (g a w aE)
theorem b1.fj{S T:ad}(h:T.le S):b1 E S T:=fun a w aE=>aE.fj h
theorem b1.k1{t l n:Nat}{cs:List bz}(an:S.get (ab t)=some (.aB k4))(bf:∀m c,S.get m=some c->m≠G l->¬ov c l)(K:l∉E.aA)(aT:t<E.cg)(af:cs.length=n)(aj:∀c∈cs,c.len=0):
  b1 E S (S.eK [(G l,some (.U (.bG n 0 cs))),(ab t,some (.aB (.aQ l 0)))]):=by
 rintro a w ⟨V,M,aC,hw⟩
 obtain⟨v,aK,aq⟩:=aC.fT t _ an
 have D8:v= .slice none 0 0:=qy aq
 have Wl:a.put (some t) (.slice none 0 0)=a:=by
  have GN:t<a.tmps.size:=by rw[aC.size];exact aT
  have:a.tmps.setIfInBounds t (.slice none 0 0)=a.tmps:=by
   apply Array.ext_getElem?
   intro i
   rw[wM]
   split
   ·rename_i h;subst h;rw[aK,D8]
   ·rfl
  simp only[Act.put,this]
 have h:=JM (ds:=[]) (l':=l) (B:=.bG n 0 cs) (d:=t) (x:=.aQ l 0) (v:=.slice none 0 0) aC hw (fun m c aw Z=>?_) K aT ⟨af,aj,by simp⟩ (.k1 l (by simp))
 ·rw[Wl]at h;exact h
 ·rw[Bt]at Z
  exact bf m c aw fun e=>Z (.inr (.inl e))
def ug(n len:Nat)(cs:List bz):bg:=.cK n len fun i=>cs.map (bz.at · i)
theorem Ow{M:Mem}{n len cap b:Nat}{cs:List bz}{vs:Array Value}{bo:Mem}(hle:M.le bo)(aE:sM M n len cs vs)(l7:len<=cap)(h5:∀k u,vs[k]?=some u->bo b k=some u):ey bo (ug n len cs) (.slice (some ⟨b,0,none⟩) len cap):=by
 obtain⟨J,W,aH⟩:=aE
 refine .cK n len _ b 0 cap l7 (fun i hi=>by simp[J]) (fun i j=>(vs[i*n+j]?).getD undef) (fun i j hi az=>?_) fun i j x hi Y=>?_
 ·obtain⟨v,aK,_⟩:=aH i j cs[j] hi (dx (by omega))
  rw[Nat.zero_add,h5 _ _ aK,aK];rfl
 ·simp only[fJ,Option.map_eq_some_iff]at Y
  obtain⟨c,aj,rfl⟩:=Y
  obtain⟨v,aK,aq⟩:=aH i j c hi aj
  rw[aK]
  exact aq.mono hle
theorem gC.GO{V:cu}{M bo:Mem}{w:World}{l:Nat}{B:cO}(h:gC V M w l B)(hle:M.le bo):gC V bo w l B:=by
 have aE:∀{n len:Nat} {cs:List bz} {vs:Array Value},sM M n len cs vs->sM bo n len cs vs:=fun⟨a,b,c⟩=>⟨a,b,fun i j k hi K=>let⟨v,aK,aq⟩:=c i j k hi K;⟨v,aK,aq.mono hle⟩⟩
 cases B with
 |cells cs=>obtain⟨ca,vs,t,a2,a3,a4⟩:=h;exact⟨ca,vs,t,a2,a3,fun j x y Y ak=>(a4 j x y Y ak).mono hle fun _ _=>⟨rfl,rfl⟩⟩
 |data ds=>obtain⟨ca,vs,t,a2,a3,a4⟩:=h;exact⟨ca,vs,t,a2,a3,fun j x y Y ak=>(a4 j x y Y ak).mono hle fun _ _=>⟨rfl,rfl⟩⟩
 |fq n len cs=>obtain⟨ca,vs,t,a2,a3,a4⟩:=h;exact⟨ca,vs,t,a2,a3,aE a4⟩
 |bG n len cs=>
  obtain⟨ca,a2,a3⟩:=h
  refine⟨ca,a2,?_⟩
  split
  ·rename_i K;rw[K]at a3;exact a3
  ·rename_i cap K
   rw[K]at a3
   obtain⟨fK,vs,t,fO,hh,ph⟩:=a3
   exact⟨fK,vs,t,fO,hh,aE ph⟩
 |eh h' ts=>exact wq.lu h hle ⟨rfl,rfl⟩ (fun _ _=>⟨rfl,rfl⟩) fun _=>rfl
 |gR ls cs=>exact jj.lu h hle ⟨rfl,rfl⟩ (fun _ _=>⟨rfl,rfl⟩) fun _=>rfl
 |tR ks=>exact h
 |k2 cs o=>exact lr.lu h hle ⟨rfl,rfl⟩ (fun _ _=>⟨rfl,rfl⟩) fun _=>rfl
 |rY ds o=>exact lr.Dv h hle ⟨rfl,rfl⟩ fun _=>rfl
theorem b1.freeze{t l n len:Nat}{cs:List bz}(an:S.get (ab t)=some (.aB (.aQ l len)))(ae:S.get (G l)=some (.U (.bG n len cs))):
  b1 E S (S.eK [(G l,none),(ab t,some (.aB (.d (ug n len cs))))]):=by
 rintro a w ⟨V,M,aC,hw⟩
 obtain⟨v,aK,aq⟩:=aC.fT t _ an
 have iN:∀m,(S.eK [(G l,none),(ab t,some (.aB (.d (ug n len cs))))]).get m=if ab t=m then some (.aB (.d (ug n len cs)))else if G l=m then none else S.get m:=fun m=>by rw[mY];rfl
 have uh:∀m B,(S.eK [(G l,none),(ab t,some (.aB (.d (ug n len cs))))]).get (G m)=some (.U B)->m≠l/\S.get (G m)=some (.U B):=by
  intro m B h
  rw[iN,if_neg (iz t m)]at h
  by_cases aw:G l=G m
  ·rw[if_pos aw]at h;cases h
  ·rw[if_neg aw]at h;exact⟨fun e=>aw (by rw[e]),h⟩
 have eO:=hw.dn l _ ae
 obtain⟨fK,fO,hh⟩:=eO
 obtain⟨bo,hle,s5,sb⟩:∃bo:Mem,M.le bo/\(∀b o u,bo b o=some u->M b o=some u\/(b=V.aI l/\V.bZ l≠none/\w.cell? ⟨b,o,none⟩=some u))/\bU V bo (.d (ug n len cs)) v:=by
  cases aq with
  |k1 _ K=>
   exact⟨M,jH M,fun b o u h=>.inl h,.d _ _ (.ji _ _ _ _)⟩
  |aQ _ _ cap K aj=>
   rw[K]at hh
   obtain⟨_,vs,gq,aW,cj,aE⟩:=hh
   have vd:∀o,M (V.aI l) o=none:=hw.dO l ⟨⟨_,ae⟩,by rw[K];simp⟩
   refine⟨fun b o=>if b=V.aI l then vs[o]? else M b o,fun b o u h=>?_,fun b o u h=>?_,.d _ _ (Ow (M:=M) ?_ aE aj fun k u h=>by simpa using h)⟩
   ·by_cases e:b=V.aI l
    ·subst e;rw[vd o]at h;cases h
    ·simp only[if_neg e];exact h
   ·by_cases e:b=V.aI l
    ·subst e
     simp only[if_true]at h
     right
     exact⟨rfl,by rw[K];simp,by simp[World.cell?,aW,h]⟩
    ·simp only[if_neg e]at h;exact .inl h
   ·intro b o u h
    by_cases e:b=V.aI l
    ·subst e;rw[vd o]at h;cases h
    ·simp only[if_neg e];exact h
 refine⟨V,bo,⟨fun s x Y=>?_,aC.size,aC.defers⟩,?_⟩
 ·rw[iN]at Y
  by_cases cy:ab t=ab s
  ·rw[if_pos cy]at Y
   injection Y with Y;injection Y with Y;subst Y
   rw[<-qx cy]
   exact⟨v,aK,sb⟩
  ·rw[if_neg cy,if_neg (Ne.symm (iz s l))]at Y
   obtain⟨u,hu,jX⟩:=aC.fT s x Y
   exact⟨u,hu,jX.mono hle fun _ _=>⟨rfl,rfl⟩⟩
 ·have aW:∀m,di V (S.eK [(G l,none),(ab t,some (.aB (.d (ug n len cs))))]) m->m≠l/\di V S m:=fun m ⟨⟨B,e⟩,k⟩=>⟨(uh m B e).1,⟨B,(uh m B e).2⟩,k⟩
  have b2:∀m,di V S m->m≠l->V.bZ l≠none->V.aI m≠V.aI l:=fun m aw mb K=>hw.inj m l aw ⟨⟨_,ae⟩,K⟩ mb
  exact{
      dn:=fun m B e=>(hw.dn m B (uh m B e).2).GO hle
      inj:=fun m k aw gi=>hw.inj m k (aW m aw).2 (aW k gi).2
      dO:=fun m aw o=>by
       obtain⟨J,W⟩:=aW m aw
       cases aj:bo (V.aI m) o with
       |none=>rfl
       |some u=>
        rcases s5 _ _ _ aj with h|⟨h,K,_⟩
        ·rw[hw.dO m W o]at h;cases h
        ·exact absurd h (b2 m W J K)
      dt:=fun m aw=>hw.dt m (aW m aw).2
      cE:=fun m aw=>hw.cE m (aW m aw).2
      mem:=fun b o u h=>by
       rcases s5 b o u h with h|⟨_,_,h⟩
       ·exact hw.mem b o u h
       ·exact h
      dA:=tQ hw.dA hle,er:=hw.er
      ea:=fun b o h=>by
       cases aj:bo b o with
       |none=>exact absurd aj h
       |some u=>
        rcases s5 b o u aj with h|⟨h,K,_⟩
        ·exact hw.ea b o (by rw[h];simp)
        ·rw[h]
         rcases hw.dt l ⟨⟨_,ae⟩,K⟩with h|h
         ·exact .inr (.inl h)
         ·exact .inr (.inr h)
      aA:=hw.aA,b6:=hw.b6}
theorem b1.ui{l:Nat}{B B':cO}(ae:S.get (G l)=some (.U B))(h:∀V M w,gC V M w l B->gC V M w l B'):b1 E S (S.eK [(G l,some (.U B'))]):=by
 rintro a w ⟨V,M,aC,hw⟩
 refine⟨V,M,DU aC l B',?_⟩
 have aM:∀m C,(S.eK [(G l,some (.U B'))]).get (G m)=some (.U C)->(m=l/\C=B')\/S.get (G m)=some (.U C):=fun m C e=>by
  rw[pc]at e
  by_cases aw:G l=G m
  ·rw[if_pos aw]at e;injection e with e;injection e with e;left;exact⟨by unfold G at aw;omega,e.symm⟩
  ·rw[if_neg aw]at e;exact .inr e
 have aW:∀m,di V (S.eK [(G l,some (.U B'))]) m->di V S m:=fun m ⟨⟨C,e⟩,k⟩=>by
  rcases aM m C e with⟨rfl,_⟩|e
  ·exact⟨⟨B,ae⟩,k⟩
  ·exact⟨⟨C,e⟩,k⟩
 exact{
    dn:=fun m C e=>by
     rcases aM m C e with⟨rfl,rfl⟩|e
     ·exact h V M w (hw.dn _ _ ae)
     ·exact hw.dn m C e
    inj:=fun m k a b=>hw.inj m k (aW m a) (aW k b),dO:=fun m a=>hw.dO m (aW m a),dt:=fun m a=>hw.dt m (aW m a),cE:=fun m a=>hw.cE m (aW m a),mem:=hw.mem,dA:=hw.dA,er:=hw.er,ea:=hw.ea,aA:=hw.aA,b6:=hw.b6}
theorem b1.Wm{l:Nat}{ds:List bg}{col:bz}(ae:S.get (G l)=some (.U (.cells (ds.map .d))))(aj:BA ds=col):b1 E S (S.eK [(G l,some (.U (.fq 1 ds.length [col])))]):=by
 refine b1.ui ae fun V M w ⟨K,vs,t,aW,an,aq⟩=>⟨K,vs,t,aW,by simpa using an,rfl,fun c h=>?_,fun i j c hi az=>?_⟩
 ·simp at h;subst h;rw[<-aj];exact(GH ds).1
 ·cases j with
  |zero=>
   simp at az;subst az
   have jb:i<vs.size:=by simp at an;omega
   refine⟨vs[i],by simp[jb],?_⟩
   rw[<-aj,(GH ds).2 i hi,cN,dx hi]
   have:=aq i (.d ds[i]) vs[i] (by simp[hi]) (Array.getElem?_eq_getElem jb)
   cases this with|d _ _ h=>exact h
  |succ j=>simp at az
theorem b1.ve{t l n:Nat}{cs:List bz}(an:S.get (ab t)=some (.aB k4))(bf:h7 ⟨[],S,[(G l,none)],[l]⟩ S=true)(K:l∉E.aA)(aT:t<E.cg)(af:cs.length=n)(aj:∀c∈cs,c.len=0):
  b1 E S ((ab t,.aB (.aQ l 0))::(G l,.U (.bG n 0 cs))::S):=
 (b1.k1 an (fun m c aw b2=>sN bf l (by simp) m c aw (by simpa[cx.jl]using b2)) K aT af aj).trans (b1.fj fun m c e=>by
  rw[ej,ej]at e
  show(ad.qs (ab t) _ (ad.qs (G l) _ S)).get m=_
  rw[ad.Dw,ad.Dw];exact e)
theorem b1.Wn{t l n len:Nat}{cs:List bz}(an:S.get (ab t)=some (.aB (.aQ l len)))(ae:S.get (G l)=some (.U (.bG n len cs))):
  b1 E S ((ab t,.aB (.d (ug n len cs)))::ad.iJ (G l) S):=
 (b1.freeze an ae).trans (b1.fj fun m c e=>by
  rw[ej,o7]at e
  show(ad.qs (ab t) _ (ad.iJ (G l) S)).get m=_
  rw[ad.Dw,o7];exact e)
theorem b1.J8{l:Nat}{ds:List bg}{cs:List ai}(ae:S.get (G l)=some (.U (.data ds)))(aj:ds.map .d=cs):b1 E S ((G l,.U (.cells cs))::S):=by
 subst aj
 exact(b1.ui (B':=.cells (ds.map .d)) ae fun V M w h=>h).trans (b1.fj fun n c e=>by rw[<-ra];exact e)
theorem b1.Wo{l:Nat}{ds:List bg}{col:bz}{n:Nat}(ae:S.get (G l)=some (.U (.data ds)))(af:ds.length=n)(aj:BA ds=col):b1 E S ((G l,.U (.fq 1 n [col]))::S):=by
 subst af
 refine(b1.J8 ae D).trans ((b1.Wm (ej _ _ _ _▸if_pos D) aj).trans (b1.fj fun n c e=>?_))
 rw[ej]at e
 rw[<-ra,ej,ej]
 split
 ·rename_i h;rw[if_pos h]at e;exact e
 ·rename_i h;rw[if_neg h]at e;exact e
end
section
variable {P:Program} {S:ad} {ro:eR} {ops:Array Oper}
def fZ(a b n:Nat):Nat:=bif Nat.beq n a then b else bif Nat.beq n b then a else n
theorem mc(a b n:Nat):fZ a b (fZ a b n)=n:=by
 simp only[fZ,ih]
 by_cases J:n=a
 ·subst J
  by_cases W:b=n
  ·subst W;simp
  ·simp[W]
 ·by_cases W:n=b
  ·subst W;simp[J]
  ·simp[J,W]
mutual
def ai.cT(a b:Nat):ai->ai
 | .d x=>.d x
 | .ao l j=>.ao (fZ a b l) j
 | .h4 l n i j=>.h4 (fZ a b l) n i j
 | .cc l=>.cc l
 | .aQ l n=>.aQ (fZ a b l) n
 | .ab l n lo len=>.ab (fZ a b l) n lo len
 | .fn f cs=>.fn f (ai.mE a b cs)
 | .agg cs=>.agg (ai.mE a b cs)
 | .bE cs=>.bE (ai.mE a b cs)
 | .bB c x=>.bB c (ai.cT a b x)
 | .iI l=>.iI (fZ a b l)
 | .lP l n lo len cap=>.lP (fZ a b l) n lo len cap
 | .cE f cs=>.cE f (ai.mE a b cs)
 | .mp l=>.mp (fZ a b l)
 | .qq p=>.qq p
def ai.mE(a b:Nat):List ai->List ai
 |[]=>[]
 |x::r=>ai.cT a b x::ai.mE a b r
end
theorem nQ(a b:Nat)(l:List ai):ai.mE a b l=l.map (ai.cT a b):=by
 induction l with
 |nil=>rfl
 |cons x r aJ=>simp[ai.mE,aJ]
mutual
theorem BE(a b:Nat):∀x:ai,(x.cT a b).cT a b=x
 | .d x=>rfl
 | .ao l j=>by simp[ai.cT,mc]
 | .h4 l n i j=>by simp[ai.cT,mc]
 | .cc l=>rfl
 | .aQ l n=>by simp[ai.cT,mc]
 | .ab l n lo len=>by simp[ai.cT,mc]
 | .fn f cs=>by simp[ai.cT,yh a b cs]
 | .agg cs=>by simp[ai.cT,yh a b cs]
 | .bE cs=>by simp[ai.cT,yh a b cs]
 | .bB c x=>by simp[ai.cT,BE a b x]
 | .iI l=>by simp[ai.cT,mc]
 | .lP l n lo len cap=>by simp[ai.cT,mc]
 | .cE f cs=>by simp[ai.cT,yh a b cs]
 | .mp l=>by simp[ai.cT,mc]
 | .qq p=>rfl
theorem yh(a b:Nat):∀l:List ai,ai.mE a b (ai.mE a b l)=l
 |[]=>rfl
 |x::r=>by simp[ai.mE,BE a b x,yh a b r]
end
def cu.cT(a b:Nat)(V:cu):cu:=⟨fun l=>V.aI (fZ a b l),fun l=>V.bZ (fZ a b l)⟩
theorem Wp(a b:Nat)(V:cu):(V.cT a b).cT a b=V:=by
 cases V;simp[cu.cT,mc]
theorem bU.cT{V:cu}{M:Mem}{x:ai}{v:Value}(a b:Nat)(h:bU V M x v):bU (V.cT a b) M (x.cT a b) v:=by
 have aM:∀(cs:List ai) (j:Nat) (x:ai),(cs.map (ai.cT a b))[j]?=some x->∃y,cs[j]?=some y/\x=y.cT a b:=fun cs j x Y=>by
  simp only[fJ,Option.map_eq_some_iff]at Y
  obtain⟨y,ak,rfl⟩:=Y
  exact⟨y,ak,rfl⟩
 have pn:∀l,V.aI l=(V.cT a b).aI (fZ a b l):=fun l=>by simp[cu.cT,mc]
 have me:∀l,V.bZ l=(V.cT a b).bZ (fZ a b l):=fun l=>by simp[cu.cT,mc]
 induction h with
 |d x v h=>exact .d x v h
 |ao l j=>rw[pn];exact .ao _ _
 |h4 l n i j=>rw[pn];exact .h4 _ _ _ _
 |cc l Wq o c aw h=>exact .cc l Wq o c aw h
 |aQ l len cap K aj=>rw[pn];exact .aQ _ _ _ (by rw[<-me];exact K) aj
 |k1 l K=>exact .k1 _ (by rw[<-me];exact K)
 |ab l n lo len cap aj K=>rw[pn];exact .ab _ _ _ _ _ aj (by rw[<-me];exact K)
 |xP l n lo ajf cap=>exact .xP _ _ _ _ _
 |fn f cs vs aa _ aJ=>simp only[ai.cT,nQ];exact .fn f _ vs (by simpa using aa) fun j x y Y ak=>by obtain⟨z,bd,rfl⟩:=aM cs j x Y;exact aJ j z y bd ak
 |agg cs vs aa _ aJ=>simp only[ai.cT,nQ];exact .agg _ vs (by simpa using aa) fun j x y Y ak=>by obtain⟨z,bd,rfl⟩:=aM cs j x Y;exact aJ j z y bd ak
 |bE cs vs aa _ aJ=>simp only[ai.cT,nQ];exact .bE _ vs (by simpa using aa) fun j x y Y ak=>by obtain⟨z,bd,rfl⟩:=aM cs j x Y;exact aJ j z y bd ak
 |bB c x v _ hu aJ=>exact .bB c _ v (fun aj=>aJ aj) hu
 |iI l=>rw[pn];exact .iI _
 |lP l n lo len cap aj=>rw[pn];exact .lP _ _ _ _ _ aj
 |cE f cs vs aa _ aJ=>simp only[ai.cT,nQ];exact .cE f _ vs (by simpa using aa) fun j x y Y ak=>by obtain⟨z,bd,rfl⟩:=aM cs j x Y;exact aJ j z y bd ak
 |mp l=>rw[pn];exact .mp _
 |qq p hv v bb h=>exact .qq p hv v bb h
def zV(a b:Nat):List (Nat×ai)->List (Nat×ai)
 |[]=>[]
 |p::r=>(p.1,p.2.cT a b)::zV a b r
theorem Wr(a b:Nat)(l:List (Nat×ai)):zV a b l=l.map fun p=>(p.1,p.2.cT a b):=by
 induction l with
 |nil=>rfl
 |cons x r aJ=>simp[zV,aJ]
theorem Ws(a b:Nat)(l:List (Nat×ai)):zV a b (zV a b l)=l:=by
 induction l with
 |nil=>rfl
 |cons x r aJ=>simp[zV,aJ,BE]
theorem gK.cT{x:ai}{m:Nat}(a b:Nat)(h:gK x m):gK (x.cT a b) (fZ a b m):=by
 induction h with
 |ao l j=>exact .ao _ _
 |h4 l n i j=>exact .h4 _ _ _ _
 |aQ l len=>exact .aQ _ _
 |ab l n lo len=>exact .ab _ _ _ _
 |fn f cs x l Y _ aJ=>simp only[ai.cT];exact .fn _ _ _ _ (by rw[nQ];exact List.mem_map.2 ⟨x,Y,rfl⟩) aJ
 |agg cs x l Y _ aJ=>simp only[ai.cT];exact .agg _ _ _ (by rw[nQ];exact List.mem_map.2 ⟨x,Y,rfl⟩) aJ
 |bE cs x l Y _ aJ=>simp only[ai.cT];exact .bE _ _ _ (by rw[nQ];exact List.mem_map.2 ⟨x,Y,rfl⟩) aJ
 |bB c x l _ aJ=>simp only[ai.cT];exact .bB _ _ _ aJ
 |iI l=>exact .iI _
 |lP l n lo len cap=>exact .lP _ _ _ _ _
 |cE f cs x l Y _ aJ=>simp only[ai.cT];exact .cE _ _ _ _ (by rw[nQ];exact List.mem_map.2 ⟨x,Y,rfl⟩) aJ
 |mp l=>exact .mp _
def cO.cT(a b:Nat):cO->cO
 | .cells cs=>.cells (ai.mE a b cs)
 | .eh h ts=>.eh h (zV a b ts)
 | .gR ls cs=>.gR (ai.mE a b ls) (ai.mE a b cs)
 | .k2 cs o=>.k2 (ai.mE a b cs) o
 |B=>B
def dz.cT(a b:Nat):dz->dz
 | .aB x=>.aB (x.cT a b)
 | .U B=>.U (B.cT a b)
def ad.cT(a b:Nat):ad->ad
 |[]=>[]
 |(n,c)::r=>(G (fZ a b (n/2)),c.cT a b)::ad.cT a b r
theorem Wt(a b:Nat)(B:cO):(B.cT a b).cT a b=B:=by
 cases B with
 |cells cs=>simp[cO.cT,yh]
 |eh h ts=>simp[cO.cT,Ws]
 |gR ls cs=>simp[cO.cT,yh]
 |k2 cs o=>simp[cO.cT,yh]
 |_=>rfl
theorem Ox(a b:Nat)(c:dz):(c.cT a b).cT a b=c:=by
 cases c with
 |aB x=>simp[dz.cT,BE]
 |U B=>simp[dz.cT,Wt]
theorem J9(a b m n:Nat):fZ a b m=fZ a b n↔m=n:=⟨fun h=>by rw[<-mc a b m,h,mc],fun h=>by rw[h]⟩
theorem ad.Oy(a b:Nat):∀(S:ad) (_:∀p∈S,p.1%2=1) (l:Nat),(S.cT a b).get (G (fZ a b l))=(S.get (G l)).map (dz.cT a b)
 |[],_,l=>rfl
 |(n,c)::r,h,l=>by
  have af:n%2=1:=h (n,c) (by simp)
  have aJ:=ad.Oy a b r (fun p Z=>h p (by simp[Z])) l
  simp only[ad.cT]
  rw[ej,ej,aJ]
  have J:G (fZ a b (n/2))=G (fZ a b l)↔n=G l:=by
   constructor
   ·intro e
    have:fZ a b (n/2)=fZ a b l:=by unfold G at e;omega
    have:=(J9 a b _ _).1 this
    unfold G;omega
   ·intro e
    have:n/2=l:=by unfold G at e;omega
    rw[this]
  by_cases aj:n=G l
  ·rw[if_pos (J.2 aj),if_pos aj];rfl
  ·rw[if_neg fun e=>aj (J.1 e),if_neg aj]
theorem ad.Oz(a b:Nat):∀(S:ad),∀p∈S.cT a b,p.1%2=1
 |[],p,Z=>by cases Z
 |(n,c)::r,p,Z=>by
  simp only[ad.cT,eb]at Z
  rcases Z with rfl|Z
  ·show G _%2=1
   unfold G;omega
  ·exact ad.Oz a b r p Z
theorem OA(a b:Nat){S:ad}(h:∀p∈S,p.1%2=1)(l:Nat):(S.cT a b).get (G l)=(S.get (G (fZ a b l))).map (dz.cT a b):=by
 have:=ad.Oy a b S h (fZ a b l)
 rwa[mc]at this
theorem gC.cT{V:cu}{M:Mem}{w:World}{l:Nat}{B:cO}(a b:Nat)(h:gC V M w l B):gC (V.cT a b) M w (fZ a b l) (B.cT a b):=by
 have pn:(V.cT a b).aI (fZ a b l)=V.aI l:=by simp[cu.cT,mc]
 have me:(V.cT a b).bZ (fZ a b l)=V.bZ l:=by simp[cu.cT,mc]
 cases B with
 |cells cs=>
  obtain⟨J,vs,t,W,aH,aV⟩:=h
  refine⟨by rw[me];exact J,vs,t,by rw[pn];exact W,by simpa[nQ]using aH,fun j x y Y ak=>?_⟩
  simp only[nQ,fJ,Option.map_eq_some_iff]at Y
  obtain⟨z,bd,rfl⟩:=Y
  exact(aV j z y bd ak).cT a b
 |data ds=>
  obtain⟨J,vs,t,W,aH,aV⟩:=h
  refine⟨by rw[me];exact J,vs,t,by rw[pn];exact W,aH,fun j x y Y ak=>?_⟩
  have:=aV j x y Y ak
  simp only[fJ,Option.map_eq_some_iff]at Y
  obtain⟨z,bd,rfl⟩:=Y
  cases this with|d _ _ h=>exact .d _ _ h
 |fq n len cs=>obtain⟨J,vs,t,W,aH⟩:=h;exact⟨by rw[me];exact J,vs,t,by rw[pn];exact W,aH⟩
 |tR ks=>obtain⟨J,es,c,W,aH⟩:=h;exact⟨by rw[me];exact J,es,c,by rw[pn];exact W,aH⟩
 |rY ds o=>
  obtain⟨J,vs,lq,W,aH,aV,db⟩:=h
  refine⟨by rw[me];exact J,vs,lq,by rw[pn];exact W,aH,fun j x y Y ak=>?_,db⟩
  have:=aV j x y Y ak
  simp only[fJ,Option.map_eq_some_iff]at Y
  obtain⟨z,bd,rfl⟩:=Y
  cases this with|d _ _ h=>exact .d _ _ h
 |k2 cs o=>
  obtain⟨J,vs,lq,W,aH,aV,db⟩:=h
  refine⟨by rw[me];exact J,vs,lq,by rw[pn];exact W,by simpa[nQ]using aH,fun j x y Y ak=>?_,db⟩
  simp only[nQ,fJ,Option.map_eq_some_iff]at Y
  obtain⟨z,bd,rfl⟩:=Y
  exact(aV j z y bd ak).cT a b
 |bG n len cs=>
  obtain⟨J,W,aH⟩:=h
  refine⟨J,W,?_⟩
  rw[me]
  split
  ·rename_i K;rw[K]at aH;exact aH
  ·rename_i cap K
   rw[K]at aH
   obtain⟨aV,vs,t,db,fc⟩:=aH
   exact⟨aV,vs,t,by rw[pn];exact db,fc⟩
 |eh h' ts=>
  obtain⟨K,fn,tmps,d,J,W,aH⟩:=h
  refine⟨by rw[me];exact K,fn,tmps,d,by rw[pn];exact J,W,fun p Z=>?_⟩
  rw[Wr]at Z
  obtain⟨q,bA,rfl⟩:=List.mem_map.1 Z
  obtain⟨v,aK,aq⟩:=aH q bA
  exact⟨v,aK,aq.cT a b⟩
 |gR ls cs=>
  have h:jj V M w l ls cs:=h
  show jj (V.cT a b) M w (fZ a b l) (ai.mE a b ls) (ai.mE a b cs)
  unfold jj at*
  obtain⟨bb,h⟩:=h
  refine⟨fun x Y m aw=>?_,?_⟩
  ·rw[nQ]at Y
   obtain⟨z,bd,rfl⟩:=List.mem_map.1 Y
   have J:=aw.cT a b
   rw[BE]at J
   obtain⟨y,ak,zW⟩:=bb z bd _ J
   have W:=zW.cT a b
   rw[mc]at W
   exact⟨_,by rw[nQ];exact List.mem_map.2 ⟨y,ak,rfl⟩,W⟩
  rw[me,pn]
  cases K:V.bZ l with
  |none=>rw[K]at h;subst h;rfl
  |some cap=>
   rw[K]at h
   obtain⟨J,vs,t,W,aH,aV⟩:=h
   refine⟨by simpa[nQ]using J,vs,t,W,aH,fun j x Y=>?_⟩
   simp only[nQ,fJ,Option.map_eq_some_iff]at Y
   obtain⟨z,bd,rfl⟩:=Y
   obtain⟨v,aK,aq⟩:=aV j z bd
   exact⟨v,aK,aq.cT a b⟩
theorem cl.cT{iu:World}{b4:List Nat}{hv:Mem}{nL:cu}{aA:List Nat}{S:ad}{V:cu}{M:Mem}{w:World}(a b:Nat)(hk:∀p∈S,p.1%2=1)
  (h:cl (.dd iu b4 hv (nL) (aA) 0) S V M w):cl (.dd iu b4 hv (nL.cT a b) (aA.map (fZ a b)) 0) (S.cT a b) (V.cT a b) M w:=by
 have nc:∀l,di (V.cT a b) (S.cT a b) l->di V S (fZ a b l):=by
  rintro l ⟨⟨B,e⟩,k⟩
  rw[OA a b hk,Option.map_eq_some_iff]at e
  obtain⟨c,aj,e⟩:=e
  cases c with
  |aB x=>cases e
  |U B'=>exact⟨⟨B',aj⟩,k⟩
 exact
  {
   dn:=fun l B e=>by
    rw[OA a b hk,Option.map_eq_some_iff]at e
    obtain⟨c,aj,e⟩:=e
    cases c with
    |aB x=>cases e
    |U B'=>
     have:=(h.dn _ _ aj).cT a b
     rw[mc]at this
     simp only[dz.cT,dz.U.injEq]at e
     rw[<-e];exact this
   inj:=fun l l' J W b2=>h.inj _ _ (nc l J) (nc l' W) fun e=>b2 ((J9 a b _ _).1 e)
   dO:=fun l J=>h.dO _ (nc l J)
   dt:=fun l J=>h.dt _ (nc l J)
   cE:=fun l J=>h.cE _ (nc l J)
   mem:=h.mem,dA:=h.dA,er:=h.er,ea:=h.ea
   aA:=fun l aa=>by
    obtain⟨l',e4,rfl⟩:=List.mem_map.1 aa
    have:=h.aA l' e4
    simpa[cu.cT,mc]using this
   b6:=⟨h.b6.os,h.b6.tape,h.b6.output,h.b6.size,h.b6.block⟩}
theorem bw.cT{f:FuncId}{args:List ai}{aS a8:ad}{res:ai}{aA:List Nat}(h:bw P f args aS res a8 aA)(a b:Nat)(J:∀p∈aS,p.1%2=1)(W:∀p∈a8,p.1%2=1):
  bw P f (ai.mE a b args) (aS.cT a b) (res.cT a b) (a8.cT a b) (aA.map (fZ a b)):=by
 intro V M w b4 vs hw aq
 have aX:(aS.cT a b).cT a b=aS:=by
  induction aS with
  |nil=>rfl
  |cons p r aJ=>
   obtain⟨n,c⟩:=p
   have af:n%2=1:=J (n,c) (by simp)
   simp only[ad.cT,Ox]
   have:G (fZ a b (G (fZ a b (n/2))/2))=n:=by
    have:G (fZ a b (n/2))/2=fZ a b (n/2):=by unfold G;omega
    rw[this,mc];unfold G;omega
   rw[this]
   congr 1
   have key:∀r:ad,(∀p∈r,p.1%2=1)->(r.cT a b).cT a b=r:=by
    intro r
    induction r with
    |nil=>intro _;rfl
    |cons p r aJ=>
     obtain⟨n,c⟩:=p
     intro aE
     have af:n%2=1:=aE (n,c) (by simp)
     simp only[ad.cT,Ox]
     have:G (fZ a b (G (fZ a b (n/2))/2))=n:=by
      have:G (fZ a b (n/2))/2=fZ a b (n/2):=by unfold G;omega
      rw[this,mc];unfold G;omega
     rw[this,aJ fun p Z=>aE p (by simp[Z])]
   exact key r fun p Z=>J p (by simp[Z])
 have K:(aA.map (fZ a b)).map (fZ a b)=aA:=by
  rw[List.map_map]
  conv=>rhs;rw[<-List.map_id aA]
  exact List.map_congr_left fun n _=>mc a b n
 have sa:=hw.cT a b (ad.Oz a b aS)
 rw[aX,K]at sa
 have zX:gZ (V.cT a b) M args vs:=⟨by have:=aq.len;simpa[nQ]using this,fun j x y Y ak=>by
  have:=(aq.e6 j (x.cT a b) y (by simp[nQ,Y]) ak).cT a b
  rwa[BE]at this⟩
 refine(h (V.cT a b) M w b4 vs sa zX).mono ?_
 rintro e w' ⟨v,br,bo,rfl,aK,b8⟩
 have lS:=b8.cT a b W
 rw[Wp]at lS
 exact⟨v,br.cT a b,bo,rfl,aK.cT a b,lS⟩
mutual
def ai.qD(ls:List Nat):ai->Bool
 | .d _=>true
 | .ao a _=>hx a ls
 | .h4 a _ _ _=>hx a ls
 | .cc _=>true
 | .aQ a _=>hx a ls
 | .ab a _ _ _=>hx a ls
 | .fn _ cs=>ai.vf ls cs
 | .agg cs=>ai.vf ls cs
 | .bE cs=>ai.vf ls cs
 | .bB _ x=>ai.qD ls x
 | .iI a=>hx a ls
 | .lP a _ _ _ _=>hx a ls
 | .cE _ cs=>ai.vf ls cs
 | .mp a=>hx a ls
 | .qq _=>true
def ai.vf(ls:List Nat):List ai->Bool
 |[]=>true
 |x::r=>ai.qD ls x&&ai.vf ls r
end
theorem sc{ls:List Nat}{cs:List ai}(h:ai.vf ls cs=true){x:ai}(Y:x∈cs):x.qD ls=true:=by
 induction cs with
 |nil=>cases Y
 |cons y r aJ=>
  simp only[ai.vf,eL]at h
  rcases eb.1 Y with rfl|Y
  ·exact h.1
  ·exact aJ h.2 Y
theorem pZ{ls:List Nat}{x:ai}{l:Nat}(aw:gK x l):x.qD ls=true->l∈ls:=by
 induction aw with
 |ao l j=>exact fun h=>h6.1 h
 |h4 l n i j=>exact fun h=>h6.1 h
 |aQ l n=>exact fun h=>h6.1 h
 |ab l n lo len=>exact fun h=>h6.1 h
 |fn f cs x l Y _ aJ=>exact fun h=>aJ (sc (by simpa only[ai.qD]using h) Y)
 |agg cs x l Y _ aJ=>exact fun h=>aJ (sc (by simpa only[ai.qD]using h) Y)
 |bE cs x l Y _ aJ=>exact fun h=>aJ (sc (by simpa only[ai.qD]using h) Y)
 |bB c x l _ aJ=>exact fun h=>aJ (by simpa only[ai.qD]using h)
 |iI l=>exact fun h=>h6.1 h
 |lP l n lo len cap=>exact fun h=>h6.1 h
 |cE f cs x l Y _ aJ=>exact fun h=>aJ (sc (by simpa only[ai.qD]using h) Y)
 |mp l=>exact fun h=>h6.1 h
def BF(ls:List Nat):List (Nat×ai)->Bool
 |[]=>true
 |p::r=>p.2.qD ls&&BF ls r
theorem GP{ls:List Nat}{ts:List (Nat×ai)}(h:BF ls ts=true){p:Nat×ai}(Z:p∈ts):p.2.qD ls=true:=by
 induction ts with
 |nil=>cases Z
 |cons q r aJ=>
  simp only[BF,eL]at h
  rcases eb.1 Z with rfl|Z
  ·exact h.1
  ·exact aJ h.2 Z
def cO.qD(ls:List Nat):cO->Bool
 | .cells cs=>ai.vf ls cs
 | .eh _ ts=>BF ls ts
 | .gR ms _=>ai.vf ls ms
 | .k2 cs _=>ai.vf ls cs
 |_=>true
def GQ(ls:List Nat):dz->Bool
 | .U B=>B.qD ls
 | .aB _=>false
def s6(S:ad):List Nat:=S.map fun p=>p.1/2
def qE(f:Nat->Bool):ad->Bool
 |[]=>true
 |(n,_)::r=>f n&&qE f r
theorem s7{f:Nat->Bool}:∀{S:ad},qE f S=true->∀p∈S,f p.1=true
 |[],_,p,Z=>by cases Z
 |(n,c)::r,h,p,Z=>by
  simp only[qE,eL]at h
  rcases eb.1 Z with rfl|Z
  ·exact h.1
  ·exact s7 h.2 p Z
def yi:ad->List Nat
 |[]=>[]
 |(n,_)::r=>n::yi r
theorem qF:∀(S:ad),yi S=S.map Prod.fst
 |[]=>rfl
 |(n,c)::r=>by simp[yi,qF r]
def GR(f:dz->Bool):ad->Bool
 |[]=>true
 |(_,c)::r=>f c&&GR f r
theorem OB{f:dz->Bool}:∀{S:ad},GR f S=true->∀p∈S,f p.2=true
 |[],_,p,Z=>by cases Z
 |(n,c)::r,h,p,Z=>by
  simp only[GR,eL]at h
  rcases eb.1 Z with rfl|Z
  ·exact h.1
  ·exact OB h.2 p Z
def vg(S:ad):Bool:=qE (fun n=>Nat.beq (n%2) 1) S
theorem bU.Ka{V br:cu}{M:Mem}{x:ai}{v:Value}(h:bU V M x v)(aK:∀l,gK x l->br.aI l=V.aI l/\br.bZ l=V.bZ l):bU br M x v:=h.mono (jH _) aK
def gU(aS:ad):List Nat:=yi aS
def D9:ad->List (Nat×Option dz)
 |[]=>[]
 |(n,c)::r=>D9 r++[(n,some c)]
theorem Ea:∀(S:ad),D9 S=(S.map fun p=>(p.1,some p.2)).reverse
 |[]=>rfl
 |(n,c)::r=>by simp[D9,Ea r]
abbrev im(ds:List Nat)(a8:ad)(d:Nat)(x:ai):List (Nat×Option dz):=x0 ds++(D9 a8++[(ab d,some (.aB x))])
theorem Kb(n:Nat)(d:Option dz):∀(aS:ad),l3 n d (aS.map fun p=>(p.1,some p.2)).reverse=match aS.get n with|some c=>some c|none=>d
 |[]=>rfl
 |(m,c)::r=>by
  simp only[List.map_cons,List.reverse_cons,DR,Kb n d r,l3,ad.get,ih]
  by_cases h:m=n<;>simp[h]
theorem zY(S:ad)(ds:List Nat)(a8:ad)(d:Nat)(x:ai)(n:Nat):
  (S.eK (im ds a8 d x)).get n=if ab d=n then some (.aB x)else match a8.get n with|some c=>some c|none=>if n∈ds then none else S.get n:=by
 rw[mY,DR,DR,JK,Ea,Kb]
 simp only[l3]
abbrev ad.s8(S:ad)(ds:List Nat)(a8:ad)(d:Nat)(x:ai):ad:=(ab d,.aB x)::(a8++ad.sU ds S)
theorem Eb(S:ad)(ds:List Nat)(a8:ad)(d:Nat)(x:ai):∀n,(S.s8 ds a8 d x).get n=(S.eK (im ds a8 d x)).get n:=fun n=>by
 rw[zY,ej,qA,DS]
 all_goals(cases a8.get n<;>rfl)
theorem yj{ds:List Nat}{a8:ad}{d:Nat}{x:ai}{n:Nat}:n∈(im ds a8 d x).map Prod.fst↔n∈ds\/n∈a8.map Prod.fst\/n=ab d:=by
 simp only[im,Ea,x0,List.map_append,List.map_map,List.map_reverse,hy,List.mem_map,List.mem_reverse,Function.comp,List.map_cons,List.map_nil,eb,List.not_mem_nil,or_false]
 constructor
 ·rintro(⟨y,ak,rfl⟩|⟨y,ak,rfl⟩|h)
  ·exact .inl ak
  ·exact .inr (.inl ⟨y,ak,rfl⟩)
  ·exact .inr (.inr h)
 ·rintro(h|⟨y,ak,rfl⟩|h)
  ·exact .inl ⟨n,h,rfl⟩
  ·exact .inr (.inl ⟨y,ak,rfl⟩)
  ·exact .inr (.inr h)
structure s9(aY:ad)(aS a8:ad)(res:ai)(aA new ds:List Nat):Prop where
 sd:∀p∈aS,p.1%2=1
 yk:∀p∈a8,p.1%2=1
 qG:∀p∈aS,aY.get p.1=some p.2
 U:∀p∈aS,∃B,p.2= .U B
 drop:∀p∈aS,p.1∈ds
 tS:∀p∈a8,p.1/2∈new\/p.1/2∈aA
 kept:∀l∈aA,l∉new
 res:res.qD (new++aA)=true
 cell:∀p∈a8,GQ (new++aA) p.2=true
 fL:∀l∈new,G l∈a8.map Prod.fst
theorem gC.lu{V br:cu}{M bo:Mem}{w w':World}{l:Nat}{B:cO}(h:gC V M w l B)(h5:M.le bo)(aa:br.aI l=V.aI l/\br.bZ l=V.bZ l)(aw:∀l',u3 B l'->br.aI l'=V.aI l'/\br.bZ l'=V.bZ l')
  (hw:V.bZ l≠none->w'.heap[V.aI l]?=w.heap[V.aI l]?):gC br bo w' l B:=by
 have J:gC V M w' l B:=h.kept hw
 cases B with
 |cells cs=>
  obtain⟨ca,vs,t,a2,a3,a4⟩:=J
  refine⟨by rw[aa.2];exact ca,vs,t,by rw[aa.1];exact a2,a3,fun j x y Y ak=>(a4 j x y Y ak).mono h5 fun l' k5=>aw l' (.cells cs x l' (List.mem_of_getElem? Y) k5)⟩
 |data ds=>
  obtain⟨ca,vs,t,a2,a3,a4⟩:=J
  refine⟨by rw[aa.2];exact ca,vs,t,by rw[aa.1];exact a2,a3,fun j x y Y ak=>(a4 j x y Y ak).mono h5 fun l' k5=>?_⟩
  simp only[fJ,Option.map_eq_some_iff]at Y
  obtain⟨z,_,rfl⟩:=Y
  cases k5
 |fq n len cs=>obtain⟨ca,vs,t,a2,a3,a4,a5,Bv⟩:=J;exact⟨by rw[aa.2];exact ca,vs,t,by rw[aa.1];exact a2,a3,a4,a5,fun i j c hi aj=>let⟨v,aK,aq⟩:=Bv i j c hi aj;⟨v,aK,aq.mono h5⟩⟩
 |tR ks=>obtain⟨ca,es,c,a2,a3⟩:=J;exact⟨by rw[aa.2];exact ca,es,c,by rw[aa.1];exact a2,a3⟩
 |k2 cs o=>exact lr.lu J h5 aa aw fun _=>rfl
 |rY ds o=>exact lr.Dv J h5 aa fun _=>rfl
 |bG n len cs=>
  obtain⟨ca,a2,a3⟩:=J
  refine⟨ca,a2,?_⟩
  rw[aa.2]
  split
  ·rename_i rk;rw[rk]at a3;exact a3
  ·rename_i cap rk
   rw[rk]at a3
   obtain⟨fK,vs,t,fO,hh,ph,JY,JZ⟩:=a3
   exact⟨fK,vs,t,by rw[aa.1];exact fO,hh,ph,JY,fun i j c hi aj=>let⟨v,aK,aq⟩:=JZ i j c hi aj;⟨v,aK,aq.mono h5⟩⟩
 |eh h' ts=>exact wq.lu J h5 aa aw fun _=>rfl
 |gR ls cs=>exact jj.lu J h5 aa aw fun _=>rfl
theorem OC[jI ro]{aY:ad}{o:Oper}{cD:Call}{t:Nat}{g:FuncId}{args:List ai}{res:ai}{aS a8:ad}{aA new ds:List Nat}(bJ:o.op= .call cD)(gM:o.dst=some t)(fY:o.guard=none)
  (hz:jq aY true cD g args) (aM:hS P g=true) (an:bw P g args aS res a8 aA) (aW:s9 aY aS a8 res aA new ds):
  kA P ro ops o ⟨cQ o++gU aS,aY,im ds a8 t res,new⟩:=by
 intro E S a w kf h3 dX ⟨V,M,aC,hw⟩ Q gD
 have aT:t<E.cg:=dX.2 t (yj.2 (.inr (.inr D)))
 unfold lx
 rw[if_pos (by simp[Region.wanted,fY])]
 obtain⟨vs,aE,aq⟩:=GA bJ (qw kf (fun n af=>by simp[af]) (fun l aa=>by cases aa) rfl aC hw:jc E aY o [] true V M a w) hz aM
 refine Od (fun d h=>by rw[bJ]at h;cases h) aE ?_
 have iN:∀l B,aS.get (G l)=some (.U B)->S.get (G l)=some (.U B):=fun l B e=>by
  have aw:=kB e
  rw[kf (G l) (by simp only[gU,qF,hy,List.mem_map];exact .inr ⟨_,aw,rfl⟩)]
  exact aW.qG _ aw
 have cP:∀l,di V aS l->di V S l:=fun l ⟨⟨B,e⟩,k⟩=>⟨⟨B,iN l B e⟩,k⟩
 let pl:List Nat:=(s6 aS).filter fun l=>(V.bZ l).isSome
 let b4:List Nat:=pl.map V.aI
 have k7:∀l,l∈pl->di V S l/\G l∈ds:=fun l aa=>by
  simp only[pl,List.mem_filter,s6,List.mem_map]at aa
  obtain⟨⟨p,Z,rfl⟩,K⟩:=aa
  have Ec:=aW.sd p Z
  have e:G (p.1/2)=p.1:=by unfold G;omega
  obtain⟨B,yl⟩:=aW.U p Z
  have J:=aW.qG p Z
  rw[yl]at J
  rw[e]
  refine⟨⟨⟨B,?_⟩,by cases Y:V.bZ (p.1/2)<;>simp_all⟩,aW.drop p Z⟩
  rw[e,kf p.1 (by simp only[gU,qF,hy,List.mem_map];exact .inr ⟨p,Z,rfl⟩)]
  exact J
 have nN:cl (.dd w b4 M (V) (aA) 0) aS V M w:=
  {
   dn:=fun l B e=>hw.dn l B (iN l B e),inj:=fun l l' a b=>hw.inj l l' (cP l a) (cP l' b),dO:=fun l a=>hw.dO l (cP l a)
   dt:=fun l a=>.inr (by
    obtain⟨⟨B,e⟩,k⟩:=a
    have aw:=kB e
    simp only[b4,pl,List.mem_map,List.mem_filter,s6]
    exact⟨l,⟨⟨_,aw,by unfold G;omega⟩,by cases Y:V.bZ l<;>simp_all⟩,rfl⟩)
   cE:=fun l a=>hw.cE l (cP l a)
   mem:=hw.mem,dA:=jH M,er:=(hw.xR fun b ae=>by obtain⟨l,aa,rfl⟩:=List.mem_map.1 ae;exact⟨l,(k7 l aa).1,rfl⟩),ea:=fun b o h=>.inl h,aA:=fun l aa=>⟨rfl,rfl⟩,b6:=⟨rfl,rfl,rfl,Nat.le_refl _,fun _ _ _=>rfl⟩}
 refine(an V M w b4 vs nN aq).mono ?_
 rintro e w' ⟨v,br,bo,rfl,eD,b8⟩
 refine⟨v,rfl,?_⟩
 rw[gM]
 have bf:=b8.b6
 let fP:cu:=⟨fun l=>if l∈new then br.aI l else V.aI l,fun l=>if l∈new then br.bZ l else V.bZ l⟩
 have po:∀l,l∉new->fP.aI l=V.aI l/\fP.bZ l=V.bZ l:=fun l aa=>by simp[fP,aa]
 have rr:∀l,l∈new++aA->fP.aI l=br.aI l/\fP.bZ l=br.bZ l:=fun l aa=>by
  by_cases h:l∈new
  ·simp[fP,h]
  ·have K:l∈aA:=by simpa[h]using aa
   have:=b8.aA l K
   simp only[fP,h,if_false]
   exact⟨this.1.symm,this.2.symm⟩
 have Kc:bU fP bo res v:=eD.Ka fun l aa=>rr l (pZ aa aW.res)
 let T:=S.eK (im ds a8 t res)
 have fz:∀n,T.get n=if ab t=n then some (.aB res)else match a8.get n with|some c=>some c|none=>if n∈ds then none else S.get n:=zY S ds a8 t res
 have Ed:∀n c,a8.get n=some c->n%2=1:=fun n c e=>aW.yk _ (kB e)
 have Kd:∀n,n∈(im ds a8 t res).map Prod.fst->n∈ds\/n∈a8.map Prod.fst\/n=ab t:=fun n h=>yj.1 h
 have hold:∀n c,ab t≠n->a8.get n=none->n∉ds->S.get n=some c->∀l,l∈new->¬ov c l:=fun n c J W aH aV l aa=>by
  refine h3 l aa n c aV fun af=>?_
  rcases Kd n af with h|h|h
  ·exact aH h
  ·obtain⟨p,Z,rfl⟩:=List.mem_map.1 h
   have key:∀(B:ad) (p:Nat×dz),p∈B->B.get p.1≠none:=by
    intro B
    induction B with
    |nil=>intro p Z;cases Z
    |cons q r aJ=>
     obtain⟨m,d⟩:=q
     intro p Z b2
     rw[ej]at b2
     by_cases aw:m=p.1
     ·rw[if_pos aw]at b2;cases b2
     ·rw[if_neg aw]at b2
      rcases eb.1 Z with rfl|Z
      ·exact aw D
      ·exact aJ p Z b2
   exact key a8 p Z W
  ·exact J h.symm
 have kj:∀l,di V S l->G l∉ds->V.aI l∉b4:=fun l aa aq Z=>by
  obtain⟨l',e4,he⟩:=List.mem_map.1 Z
  obtain⟨J,W⟩:=k7 l' e4
  have b2:l≠l':=fun e=>aq (e▸W)
  exact hw.inj l l' aa J b2 he.symm
 have ym:∀l B,T.get (G l)=some (.U B)->(a8.get (G l)=some (.U B)/\l∈new++aA)\/(S.get (G l)=some (.U B)/\G l∉ds/\a8.get (G l)=none):=fun l B e=>by
  rw[fz,if_neg (iz t l)]at e
  cases ae:a8.get (G l)with
  |some c=>
   rw[ae]at e
   refine .inl ⟨by rw[<-ae];simpa[ae]using e,?_⟩
   have aw:=kB ae
   have:=aW.tS _ aw
   have bu:G l/2=l:=by unfold G;omega
   simp only[bu]at this
   exact hy.2 this
  |none=>
   rw[ae]at e
   simp only at e
   by_cases aq:G l∈ds
   ·rw[if_pos aq]at e;cases e
   ·rw[if_neg aq]at e;exact .inr ⟨e,aq,rfl⟩
 have vh:∀l B,S.get (G l)=some (.U B)->a8.get (G l)=none->l∉new:=fun l B _ W aa=>by
  have aw:=aW.fL l aa
  obtain⟨p,Z,he⟩:=List.mem_map.1 aw
  have key:∀(B:ad) (p:Nat×dz),p∈B->B.get p.1≠none:=by
   intro B
   induction B with
   |nil=>intro p Z;cases Z
   |cons q r aJ=>
    obtain⟨m,d⟩:=q
    intro p Z b2
    rw[ej]at b2
    by_cases aw:m=p.1
    ·rw[if_pos aw]at b2;cases b2
    ·rw[if_neg aw]at b2
     rcases eb.1 Z with rfl|Z
     ·exact aw D
     ·exact aJ p Z b2
  exact key a8 p Z (he▸W)
 have nA:∀l,di fP T l->(di br a8 l/\fP.aI l=br.aI l)\/(di V S l/\G l∉ds/\fP.aI l=V.aI l):=fun l ⟨⟨B,e⟩,k⟩=>by
  rcases ym l B e with⟨J,W⟩|⟨J,W,aH⟩
  ·have:=rr l W
   exact .inl ⟨⟨⟨B,J⟩,by rw[<-this.2];exact k⟩,this.1⟩
  ·have:=po l (vh l B J aH)
   exact .inr ⟨⟨⟨B,J⟩,by rw[<-this.2];exact k⟩,W,this.1⟩
 have cj:∀l,di br a8 l->w.heap.size<=br.aI l\/br.aI l∈b4:=fun l aa=>b8.dt l aa
 have yn:∀l l',di br a8 l->di V S l'->G l'∉ds->br.aI l≠V.aI l':=fun l l' J W aH e=>by
  rcases cj l J with h|h
  ·have:=hw.cE l' W;omega
  ·exact kj l' W aH (e▸h)
 refine⟨fP,bo,⟨fun s x Y=>?_,by simp[Act.put,aC.size],aC.defers⟩,?_⟩
 ·have Y:T.get (ab s)=some (.aB x):=Y
  rw[fz]at Y
  by_cases cy:t=s
  ·subst cy
   rw[if_pos rfl]at Y
   injection Y with Y;injection Y with Y;subst Y
   exact⟨v,by simp[Act.put,aC.size,aT],Kc⟩
  ·have b2:ab t≠ab s:=fun e=>cy (qx e)
   rw[if_neg b2]at Y
   have ru:a8.get (ab s)=none:=by
    cases ae:a8.get (ab s)with
    |none=>rfl
    |some c=>have:=Ed _ _ ae;unfold ab at this;omega
   rw[ru]at Y
   simp only at Y
   by_cases aq:ab s∈ds
   ·rw[if_pos aq]at Y;cases Y
   ·rw[if_neg aq]at Y
    obtain⟨u,hu,jX⟩:=aC.fT s x Y
    refine⟨u,by simpa[Act.put,wM,cy]using hu,jX.mono b8.dA fun l aa=>po l fun af=>hold (ab s) _ b2 ru aq Y l af aa⟩
 ·exact
  {
   dn:=fun l B e=>by
    rcases ym l B e with⟨J,W⟩|⟨J,W,aH⟩
    ·have aw:=aW.cell _ (kB J)
     exact(b8.dn l B J).lu (jH _) (rr l W) (fun l' e4=>rr l' (by
      cases e4 with
      |cells cs x _ Y jn=>exact pZ jn (sc aw Y)
      |eh h' ts p _ Y jn=>exact pZ jn (GP aw Y)
      |gR ms cs x _ Y jn=>exact pZ jn (sc aw Y)
      |k2 cs o x _ Y jn=>exact pZ jn (sc aw Y))) fun _=>rfl
    ·have BG:=vh l B J aH
     exact(hw.dn l B J).lu b8.dA (po l BG) (fun l' e4=>po l' fun af=>hold (G l) _ (iz t l) aH W J l' af e4) fun K=>bf.block _ (hw.cE l ⟨⟨B,J⟩,K⟩) (kj l ⟨⟨B,J⟩,K⟩ W)
   inj:=fun l l' J W b2=>by
    rcases nA l J with⟨ca,a2⟩|⟨ca,a2,a3⟩
    ·rcases nA l' W with⟨fK,fO⟩|⟨fK,fO,hh⟩
     ·rw[a2,fO];exact b8.inj l l' ca fK b2
     ·rw[a2,hh];exact yn l l' ca fK fO
    ·rcases nA l' W with⟨fK,fO⟩|⟨fK,fO,hh⟩
     ·rw[a3,fO];exact(yn l' l fK ca a2).symm
     ·rw[a3,hh];exact hw.inj l l' ca fK b2
   dO:=fun l J o=>by
    rcases nA l J with⟨ca,a2⟩|⟨ca,a2,a3⟩
    ·rw[a2];exact b8.dO l ca o
    ·rw[a3]
     cases aj:bo (V.aI l) o with
     |none=>rfl
     |some u=>
      rcases b8.ea (V.aI l) o (by rw[aj];simp)with h|h|h
      ·exact absurd (hw.dO l ca o) h
      ·have:=hw.cE l ca
       have h:w.heap.size<=V.aI l:=h
       omega
      ·exact absurd h (kj l ca a2)
   dt:=fun l J=>by
    rcases nA l J with⟨ca,a2⟩|⟨ca,a2,a3⟩
    ·rw[a2]
     rcases cj l ca with h|h
     ·exact .inl (Nat.le_trans hw.b6.size h)
     ·obtain⟨l',e4,he⟩:=List.mem_map.1 h
      rw[<-he]
      exact hw.dt l' (k7 l' e4).1
    ·rw[a3];exact hw.dt l ca
   cE:=fun l J=>by
    rcases nA l J with⟨ca,a2⟩|⟨ca,a2,a3⟩
    ·rw[a2];exact b8.cE l ca
    ·rw[a3];exact Nat.lt_of_lt_of_le (hw.cE l ca) bf.size
   mem:=b8.mem
   dA:=tQ hw.dA b8.dA,er:=hw.er
   ea:=fun b o h=>by
    rcases b8.ea b o h with h|h|h
    ·exact hw.ea b o h
    ·have h:w.heap.size<=b:=h
     exact .inr (.inl (Nat.le_trans hw.b6.size h))
    ·obtain⟨l',e4,he⟩:=List.mem_map.1 h
     rw[<-he]
     rcases hw.dt l' (k7 l' e4).1 with h|h
     ·exact .inr (.inl h)
     ·exact .inr (.inr h)
   aA:=fun l aa=>by
    have af:l∉new:=fun h=>dX.1 l h aa
    have:=po l af
    rw[this.1,this.2]
    exact hw.aA l aa
   b6:=⟨bf.os.trans hw.b6.os,bf.tape.trans hw.b6.tape,bf.output.trans hw.b6.output,Nat.le_trans hw.b6.size bf.size,fun b ae Z=>(bf.block b (Nat.lt_of_lt_of_le ae hw.b6.size) (fun h=>by
    obtain⟨l',e4,he⟩:=List.mem_map.1 h
    rcases hw.dt l' (k7 l' e4).1 with h|h
    ·omega
    ·exact Z (he▸h))).trans (hw.b6.block b ae Z)⟩}
def nR(aY:ad)(aS a8:ad)(res:ai)(aA new ds:List Nat):Bool:=
 vg aS&&vg a8&&qE (fun n=>hx n ds) aS&&qE (fun n=>hx (n/2) (new++aA)) a8&&aA.all (fun l=> !hx l new)&&res.qD (new++aA)&&GR (GQ (new++aA)) a8&&new.all fun l=>hx (G l) (yi a8)
inductive jC(S:ad):ad->Prop
 |nil:jC S []
 |cons {n:Nat} {B:cO} {r:ad} (h:S.get n=some (.U B)) (t:jC S r):jC S ((n,.U B)::r)
theorem uj{aY:ad}{aS a8:ad}{res:ai}{aA new ds:List Nat}(bb:jC aY aS)(h:nR aY aS a8 res aA new ds=true):s9 aY aS a8 res aA new ds:=by
 have aK:∀p∈aS,aY.get p.1=some p.2/\∃B,p.2= .U B:=by
  clear h
  induction bb with
  |nil=>intro p Z;cases Z
  |cons h t aJ=>
   intro p Z
   rcases eb.1 Z with rfl|Z
   ·exact⟨h,_,rfl⟩
   ·exact aJ p Z
 simp only[nR,eL,eZ,Bool.not_eq_true']at h
 obtain⟨⟨⟨⟨⟨⟨⟨J,W⟩,aH⟩,aV⟩,db⟩,fc⟩,gE⟩,h9⟩:=h
 have J:∀p∈aS,p.1%2=1:=fun p Z=>by simpa[ih]using s7 J p Z
 have W:∀p∈a8,p.1%2=1:=fun p Z=>by simpa[ih]using s7 W p Z
 have aH:∀p∈aS,p.1∈ds:=fun p Z=>h6.1 (s7 aH p Z)
 have aV:∀p∈a8,p.1/2∈new++aA:=fun p Z=>h6.1 (s7 aV p Z)
 have gE:∀p∈a8,GQ (new++aA) p.2=true:=fun p Z=>OB gE p Z
 have h9:∀l∈new,G l∈a8.map Prod.fst:=fun l aa=>by rw[<-qF];exact h6.1 (h9 l aa)
 refine⟨J,W,fun p Z=>(aK p Z).1,fun p Z=>(aK p Z).2,aH,fun p Z=>hy.1 (aV p Z),fun l aa af=>?_,fc,gE,h9⟩
 have:=db l aa
 rw[h6.2 af]at this
 cases this
theorem bI.Wu[jI ro]{aY S':ad}{o:Oper}{cD:Call}{r:List Oper}{L:List cx}{t:Nat}{g:FuncId}{args:List ai}{res:ai}{aS a8:ad}{aA:List Nat}(new ds:List Nat)(an:bw P g args aS res a8 aA)(bJ:o.op= .call cD)(gM:o.dst=some t)(fY:o.guard=none)
  (hz:jq aY true cD g args) (aM:hS P g=true) (aK:jC aY aS) (aW:nR aY aS a8 res aA new ds=true) (bf:h7 ⟨cQ o++gU aS,aY,im ds a8 t res,new⟩ aY=true)
  (h:bI P ro ops r (aY.s8 ds a8 t res) L S'):bI P ro ops (o::r) aY (⟨cQ o++gU aS,aY,im ds a8 t res,new⟩::L) S':=
 .cons (OC bJ gM fY hz aM an (uj aK aW)) (fun _ _=>rfl) (sN bf) (Eb _ _ _ _ _) h
theorem lD{S:ad}(h:vg S=true):∀n c,S.get n=some c->n%2=1:=fun n c e=>by
 have:=s7 h _ (kB e)
 simpa[ih]using this
theorem Ke{S:ad}(h:vg S=true):∀p∈S,p.1%2=1:=fun p Z=>by
 have:=s7 h _ Z
 simpa[ih]using this
theorem cU{S T:ad}(h:jC S T):∀l B,T.get (G l)=some (.U B)->S.get (G l)=some (.U B):=by
 intro l B
 generalize G l=m
 induction h with
 |nil=>intro e;cases e
 | @cons n B' r h t aJ=>
  intro e
  rw[ej]at e
  by_cases af:n=m
  ·subst af;rw[if_pos rfl]at e;rw[h];exact e
  ·rw[if_neg af]at e;exact aJ e
theorem bw.Kf{f:FuncId}{args:List ai}{aS a8:ad}{res:ai}{aA:List Nat}(a b:Nat)(h:bw P f args aS res a8 aA)(J:vg aS=true)(W:vg a8=true){OD:List ai}{kR ta:ad}{OE:ai}{zZ:List Nat}
  (aX:ai.mE a b args=OD) (bu:aS.cT a b=kR) (dV:res.cT a b=OE) (iw:a8.cT a b=ta) (sQ:aA.map (fZ a b)=zZ):bw P f OD kR OE ta zZ:=by
 subst aX;subst bu;subst dV;subst iw;subst sQ
 exact h.cT a b (Ke J) (Ke W)
theorem hB{dE ds:List Nat}{l':Nat}(h:dE.all (fun l=>Nat.beq l l'||hx (G l) ds)=true):∀l∈dE,l=l'\/G l∈ds:=fun l aa=>by
 have:=eZ.1 h l aa
 simpa[ih,h6]using this
theorem bz.hT{cs:List bz}(h:cs.all bz.fk=true):∀c∈cs,c.fk=true:=eZ.1 h
theorem ct[jI ro]{aY S':ad}{cD:Call}{ty:TypeId}{pos:String}{a6:Array Edge}{r:List Oper}{L:List cx}{t:Nat}{g:FuncId}{args:List ai}{res:ai}{aS a8:ad}{aA:List Nat}(new ds:List Nat)(hz:jq aY true cD g args)(an:bw P g args aS res a8 aA)(aM:hS P g=true)
  (aK:jC aY aS) (aW:nR aY aS a8 res aA new ds=true) (bf:h7 ⟨cQ ⟨some t,.call cD,ty,pos,a6,none⟩++gU aS,aY,im ds a8 t res,new⟩ aY=true)
  (h:bI P ro ops r (aY.s8 ds a8 t res) L S'):bI P ro ops (⟨some t,.call cD,ty,pos,a6,none⟩::r) aY (⟨cQ ⟨some t,.call cD,ty,pos,a6,none⟩++gU aS,aY,im ds a8 t res,new⟩::L) S':=
 bI.Wu new ds an D D D hz aM aK aW bf h
end
section
section
variable {P:Program} {S:ad} {ro:eR} {ops:Array Oper} {c:Bool} {x y:Operand} {t ty:TypeId} {pos:String} {a6:Array Edge} {bB:Option (Nat×Bool)} {d:Option Nat}
theorem Pure.mF{l n len o sO:Nat}{k:IntKind}{i:Int}{agg:Bool}(aT:pe P t len agg n=true)(aX:cd S c x (.ao l o))(bu:cd S c y (aF k i))(hi:c=true->0<=i/\i.toNat<len)(bJ:o+i.toNat*n=sO):
  Pure P S [] ⟨d,.indexAddr t x y,ty,pos,a6,bB⟩ c (.ao l sO):=by
 subst bJ
 refine⟨rfl,fun E V M a w h aj=>?_⟩
 obtain⟨bb,aG⟩:=hi aj
 have J:=h.ez x (by simp[Op.operands]) _ aX
 have W:=h.val (by simp[Op.operands]) bu
 generalize he:a.eval x=v at J
 generalize a.eval=aI at*
 cases J with
 |ao _ _=>
  unfold pe at aT
  split at aT
  ·rename_i kE e hu
   simp only[eL]at aT
   have hlen:=kN aT.1
   subst hlen
   have qu:i<(kE:Int):=by omega
   exact⟨.pointer (some ⟨V.aI l,o+i.toNat*n,none⟩),by simp[execOp,he,W,Instr.indexAt,asIntOf,run_underlying hu,Instr.sureAddr,r4 aT.2,bb,qu,oA],.ao _ _⟩
  ·cases aT
def ai.GS:ai->Bool
 | .ao _ _=>true
 | .h4 _ _ _ _=>true
 | .cc _=>true
 |_=>false
theorem Pure.nilCheck{u:ai}(aX:cd S c x u)(hu:u.GS=true):Pure P S [] ⟨d,.nilCheck x,ty,pos,a6,bB⟩ c u:=by
 refine⟨rfl,fun E V M a w h aj=>?_⟩
 have J:=h.ez x (by simp[Op.operands]) _ aX
 refine⟨a.eval x,?_,J⟩
 generalize he:a.eval x=v at J
 generalize a.eval=aI at*
 cases J<;>simp[ai.GS]at hu
 all_goals simp[execOp,he]
theorem Pure.mG{f:FuncId}{l:List Operand}{cs:List ai}(h:r7 S c l cs):Pure P S [] ⟨d,.makeFunc (.func f) #[] l.toArray,ty,pos,a6,bB⟩ c (.fn f cs):=
 Pure.func D (by simpa using h.e6.1) fun j x y Y ak=>h.e6.2 j x y (by simpa using Y) ak
end
theorem b1.Kg{E:c7}{S:ad}{t:Nat}{x y:ai}(an:S.get (ab t)=some (.aB x))(h:∀V M v,bU V M x v->bU V M y v):b1 E S ((ab t,.aB y)::S):=by
 rintro a w ⟨V,M,aC,hw⟩
 refine⟨V,M,⟨fun s z e=>?_,aC.size,aC.defers⟩,hw.my fun l B e=>?_⟩
 ·rw[ej]at e
  by_cases cy:ab t=ab s
  ·rw[if_pos cy]at e
   injection e with e;injection e with e;subst e
   have:=qx cy;subst this
   obtain⟨v,aK,aq⟩:=aC.fT t x an
   exact⟨v,aK,h V M v aq⟩
  ·rw[if_neg cy]at e;exact aC.fT s z e
 ·rw[ej,if_neg (iz t l)]at e;exact e
inductive Ee:List bg->List bg->Prop
 |nil:Ee [] []
 |OF {x:bg} {l l':List bg} (h:Ee l l'):Ee (x::l) (x::l')
 |cK {n:Nat} {g:Nat->List bg} {l l':List bg} (h:Ee l l'):Ee (.v (.slice none 0 0)::l) (.cK n 0 g::l')
end
section
variable {P:Program} {S:ad} {ro:eR} {ops:Array Oper} {E:c7}
abbrev kk:ai:=.d (.cK 1 1 fun _=>[])
theorem OG{V:cu}{M:Mem}{v:Value}:¬bU V M kk v:=by
 intro h
 cases h with
 |d _ _ h=>
  cases h with
  |cK _ _ _ b o cap aj aa c aw h=>exact absurd (aa 0 (by decide)) (by simp)
theorem Kh{t:Nat}{a:Act}{w:World}(h:S.get (ab t)=some (.aB kk)):¬ei E S a w:=fun⟨V,M,aC,_⟩=>let⟨v,_,aq⟩:=aC.fT t _ h;OG aq
theorem kA.kk{o:Oper}{aY:ad}{t:Nat}(h:aY.get (ab t)=some (.aB kk)):kA P ro ops o ⟨[ab t],aY,[],[]⟩:=by
 intro E S a w an _ _ aE Q _
 exact absurd aE (Kh (by rw[an (ab t) (by simp)];exact h))
theorem fM{aY S':ad}{o:Oper}{r:List Oper}{L:List cx}(t:Nat)(bb:aY.get (ab t)=some (.aB kk))(h:bI P ro ops r aY L S'):bI P ro ops (o::r) aY (⟨[ab t],aY,[],[]⟩::L) S':=
 .cons (kA.kk bb) (fun _ _=>rfl) (fun l aa=>by cases aa) (fun _=>rfl) h
theorem kH{id:Nat}{S S':ad}{L:List cx}{Q:Exit->ad->Prop}(t:Nat)(h:bI P ro ops ops.toList S L S')(K:mu E L)(ae:S'.get (ab t)=some (.aB Go.Proofs.YtfgcfofjjiinjaaGreatDoor.kk)):c8 P ro E (.region id ops false) S Q:=by
 intro a w aE
 obtain⟨jW,aX,bu,k3,du⟩:=aE.from
 refine wpIn_region ?_
 have:=DA (Q:=rb ro E Q) h (K.mv aX bu) (fun x Z a w aE=>.inr ⟨x,Z,rfl,du _ _ _ aE⟩) (fun a w aE=>absurd aE (Kh ae)) 0 (fun j=>by simp) a w k3
 rw[List.range_eq_range',<-Array.length_toList]
 exact this
theorem se{id:Nat}{S S':ad}{L:List cx}{Q:Exit->ad->Prop}(t:Nat)(aw:P.follows .mixedOrders=true)(h:bI P ro ops ops.toList S L S')(aq:wy ops.toList S L=true)(K:mu E L)(ae:S'.get (ab t)=some (.aB Go.Proofs.YtfgcfofjjiinjaaGreatDoor.kk)):
  c8 P ro E (.region id ops true) S Q:=by
 intro a w aE
 obtain⟨jW,aX,bu,k3,du⟩:=aE.from
 exact wpIn_region_any aw (NX h aq (K.mv aX bu) (fun x Z a w aE=>.inr ⟨x,Z,rfl,du _ _ _ aE⟩) (fun a w aE=>absurd aE (Kh ae)) (k3.drawn _))
theorem Wv(t:TypeId)(u:Value)(w:World):(Instr.panic (.iface t u)).run P w= .halt (.panic (.iface t u)) w:=rfl
theorem Pure.wN{x:Operand}{ty t:TypeId}{pos:String}{a6:Array Edge}{bB:Option (Nat×Bool)}{d:Option Nat}{c:Bool}{u:Value}{k:TypeDesc}(hu:P.underlying t=some k)(K:(∀m,k≠ .interface m))(aX:cd S c x (.d (.v u))):
  Pure P S [] ⟨d,.makeInterface t x,ty,pos,a6,bB⟩ c (.d (.v (.iface t u))):=by
 refine⟨rfl,fun E V M a w h aj=>?_⟩
 have J:=h.ez x (by simp[Op.operands]) _ aX
 have aK:a.eval x=u:=by
  generalize a.eval x=z at J
  cases J with|d _ _ h=>cases h with|v _=>rfl
 refine⟨.iface t u,?_,.d _ _ (.v _)⟩
 generalize a.eval=aI at*
 simp only[execOp,aK,Instr.makeInterface,de,run_underlying hu,Result.andThen]
 cases k<;>first|rfl|exact absurd D (K _)
structure ajg(aY aS cW:ad):Prop where
 sd:∀p∈aS,p.1%2=1
 qG:∀p∈aS,aY.get p.1=some p.2
 U:∀p∈aS,∃B,p.2= .U B
 ajh:∀p∈cW,aY.get p.1=some p.2
 vi:∀p∈cW,∀q∈aS,p.1≠q.1
inductive BH(S:ad):ad->Prop
 |nil:BH S []
 |cons {n:Nat} {c:dz} {r:ad} (h:S.get n=some c) (t:BH S r):BH S ((n,c)::r)
end
section
section
variable {P:Program} {S:ad} {c:Bool} {x:Operand} {t ty e:TypeId} {pos:String} {a6:Array Edge} {bB:Option (Nat×Bool)} {d:Option Nat}
end
end
section
variable {P:Program} {S:ad} {ro:eR} {ops:Array Oper} {E:c7}
theorem cl.ui{V:cu}{M:Mem}{w:World}{l:Nat}{B B':cO}(hw:cl E S V M w)(ae:S.get (G l)=some (.U B))(h:gC V M w l B'):cl E ((G l,.U B')::S) V M w:=by
 have aM:∀m C,ad.get ((G l,.U B')::S) (G m)=some (.U C)->(m=l/\C=B')\/S.get (G m)=some (.U C):=fun m C e=>by
  rw[ej]at e
  by_cases aw:G l=G m
  ·rw[if_pos aw]at e;injection e with e;injection e with e;left;exact⟨by unfold G at aw;omega,e.symm⟩
  ·rw[if_neg aw]at e;exact .inr e
 have aW:∀m,di V ((G l,.U B')::S) m->di V S m:=fun m ⟨⟨C,e⟩,k⟩=>by
  rcases aM m C e with⟨rfl,_⟩|e
  ·exact⟨⟨B,ae⟩,k⟩
  ·exact⟨⟨C,e⟩,k⟩
 exact{
    dn:=fun m C e=>by
     rcases aM m C e with⟨rfl,rfl⟩|e
     ·exact h
     ·exact hw.dn m C e
    inj:=fun m k a b=>hw.inj m k (aW m a) (aW k b),dO:=fun m a=>hw.dO m (aW m a),dt:=fun m a=>hw.dt m (aW m a),cE:=fun m a=>hw.cE m (aW m a),mem:=hw.mem,dA:=hw.dA,er:=hw.er,ea:=hw.ea,aA:=hw.aA,b6:=hw.b6}
theorem jk.U{V:cu}{M:Mem}{a:Act}(h:jk E S V M a)(l:Nat)(B:dz):jk E ((G l,B)::S) V M a:=
 ⟨fun t x e=>by rw[ej,if_neg (Ne.symm (iz t l))]at e;exact h.fT t x e,h.size,h.defers⟩
theorem Ww{V:cu}{M:Mem}{a:Act}{w:World}(aC:jk E S V M a)(hw:cl E S V M w){l n:Nat}{cs:List bz}(bf:h7 ⟨[],S,[(G l,none)],[l]⟩ S=true)(K:l∉E.aA)(af:cs.length=n)(aj:∀c∈cs,c.len=0):
  ∃br:cu,br.bZ l=none/\jk E ((G l,.U (.bG n 0 cs))::S) br M a/\cl E ((G l,.U (.bG n 0 cs))::S) br M w:=by
 have h3:=sN bf
 have aw:∀m c,S.get m=some c->m≠G l->¬ov c l:=fun m c e b2=>h3 l (by simp) m c e (by simp[cx.jl];exact b2)
 refine⟨V.set l 0 none,by simp,⟨fun t x e=>?_,aC.size,aC.defers⟩,?_⟩
 ·rw[ej,if_neg (Ne.symm (iz t l))]at e
  obtain⟨v,aK,aq⟩:=aC.fT t x e
  exact⟨v,aK,aq.pd 0 none (aw _ _ e (iz t l))⟩
 ·have aM:∀m C,ad.get ((G l,.U (.bG n 0 cs))::S) (G m)=some (.U C)->(m=l/\C= .bG n 0 cs)\/(m≠l/\S.get (G m)=some (.U C)):=fun m C e=>by
   rw[ej]at e
   by_cases mb:m=l
   ·subst mb;rw[if_pos rfl]at e;injection e with e;injection e with e;exact .inl ⟨rfl,e.symm⟩
   ·rw[if_neg fun e=>mb (by unfold G at e;omega)]at e;exact .inr ⟨mb,e⟩
  have aW:∀m,di (V.set l 0 none) ((G l,.U (.bG n 0 cs))::S) m->m≠l/\di V S m/\(V.set l 0 none).aI m=V.aI m:=fun m ⟨⟨C,e⟩,k⟩=>by
   rcases aM m C e with⟨rfl,_⟩|⟨b2,e⟩
   ·simp at k
   ·obtain⟨aX,bu⟩:=V.kg 0 none b2
    exact⟨b2,⟨⟨C,e⟩,by rwa[bu]at k⟩,aX⟩
  exact{
     dn:=fun m C e=>by
      rcases aM m C e with⟨rfl,rfl⟩|⟨b2,e⟩
      ·exact⟨af,aj,by simp⟩
      ·exact(hw.dn m C e).pd 0 none b2 (aw _ _ e fun e=>b2 (by unfold G at e;omega)) fun _=>rfl
     inj:=fun m k a b b2=>by
      obtain⟨_,J,aX⟩:=aW m a
      obtain⟨_,W,bu⟩:=aW k b
      rw[aX,bu];exact hw.inj m k J W b2
     dO:=fun m a=>by obtain⟨_,J,aX⟩:=aW m a;rw[aX];exact hw.dO m J
     dt:=fun m a=>by obtain⟨_,J,aX⟩:=aW m a;rw[aX];exact hw.dt m J
     cE:=fun m a=>by obtain⟨_,J,aX⟩:=aW m a;rw[aX];exact hw.cE m J
     mem:=hw.mem,dA:=hw.dA,er:=hw.er,ea:=hw.ea
     aA:=fun m h=>by obtain⟨aX,bu⟩:=V.kg 0 none fun e:m=l=>K (e▸h);rw[aX,bu];exact hw.aA m h
     b6:=hw.b6}
theorem b1.nd{lb j l n:Nat}{cs cs':List ai}{fq:List bz}(ae:S.get (G lb)=some (.U (.cells cs)))(az:cs[j]?=some k4)(bf:h7 ⟨[],S,[(G l,none)],[l]⟩ S=true)(b2:(Nat.beq lb l)=false)(K:l∉E.aA)(af:fq.length=n)(aj:∀c∈fq,c.len=0)
  (fV:cs.set j (.aQ l 0)=cs'):b1 E S ((G lb,.U (.cells cs'))::(G l,.U (.bG n 0 fq))::S):=by
 rintro a w ⟨V,M,aC,hw⟩
 obtain⟨br,me,ix,b8⟩:=Ww (cs:=fq) aC hw bf K af aj
 have Bx:G l≠G lb:=fun e=>by
  have:lb=l:=by unfold G at e;omega
  rw[this]at b2;simp[ih]at b2
 have ij:ad.get ((G l,.U (.bG n 0 fq))::S) (G lb)=some (.U (.cells cs)):=by rw[ej,if_neg Bx];exact ae
 refine⟨br,M,ix.U _ _,b8.ui ij ?_⟩
 obtain⟨J,vs,t,W,aH,aV⟩:=b8.dn lb _ ij
 refine⟨J,vs,t,W,by rw[<-fV];simpa using aH,fun i x y Y ak=>?_⟩
 rw[<-fV,List.getElem?_set]at Y
 split at Y
 ·rename_i iK
  subst iK
  split at Y
  ·injection Y with Y
   subst Y
   have:=qy (aV j k4 y az ak)
   subst this
   exact .k1 l me
  ·cases Y
 ·exact aV i x y Y ak
theorem Wx{V:cu}{M:Mem}{a:Act}{w:World}(aC:jk E S V M a)(hw:cl E S V M w){l n len:Nat}{cs:List bz}(ae:S.get (G l)=some (.U (.bG n len cs))):
  ∃bo:Mem,M.le bo/\(∀v,bU V M (.aQ l len) v->bU V bo (.d (ug n len cs)) v)/\jk E (ad.iJ (G l) S) V bo a/\cl E (ad.iJ (G l) S) V bo w:=by
 have uh:∀m B,(ad.iJ (G l) S).get (G m)=some (.U B)->m≠l/\S.get (G m)=some (.U B):=by
  intro m B h
  rw[o7]at h
  by_cases aw:G l=G m
  ·rw[if_pos aw]at h;cases h
  ·rw[if_neg aw]at h;exact⟨fun e=>aw (by rw[e]),h⟩
 have eO:=hw.dn l _ ae
 obtain⟨fK,fO,hh⟩:=eO
 obtain⟨bo,hle,s5,sb⟩:∃bo:Mem,M.le bo/\(∀b o u,bo b o=some u->M b o=some u\/(b=V.aI l/\V.bZ l≠none/\w.cell? ⟨b,o,none⟩=some u))/\(∀v,bU V M (.aQ l len) v->bU V bo (.d (ug n len cs)) v):=by
  cases K:V.bZ l with
  |none=>
   refine⟨M,jH M,fun b o u h=>.inl h,fun v aq=>?_⟩
   cases aq with
   |aQ _ _ cap gi _=>rw[K]at gi;cases gi
   |k1 _ _=>exact .d _ _ (.ji _ _ _ _)
  |some aji=>
   rw[K]at hh
   obtain⟨ajj,vs,gq,aW,cj,aE⟩:=hh
   have vd:∀o,M (V.aI l) o=none:=hw.dO l ⟨⟨_,ae⟩,by rw[K];simp⟩
   have hle:M.le (fun b o=>if b=V.aI l then vs[o]? else M b o):=fun b o u h=>by
    by_cases e:b=V.aI l
    ·subst e;rw[vd o]at h;cases h
    ·simp only[if_neg e];exact h
   refine⟨fun b o=>if b=V.aI l then vs[o]? else M b o,hle,fun b o u h=>?_,fun v aq=>?_⟩
   ·by_cases e:b=V.aI l
    ·subst e
     simp only[if_true]at h
     right
     exact⟨rfl,by simp,by simp[World.cell?,aW,h]⟩
    ·simp only[if_neg e]at h;exact .inl h
   ·cases aq with
    |k1 _ gi=>rw[K]at gi;cases gi
    |aQ _ _ cap gi aj=>
     refine .d _ _ (Ow (M:=M) hle aE aj fun k u h=>by simpa using h)
 refine⟨bo,hle,sb,⟨fun s x Y=>?_,aC.size,aC.defers⟩,?_⟩
 ·rw[o7,if_neg (Ne.symm (iz s l))]at Y
  obtain⟨u,hu,jX⟩:=aC.fT s x Y
  exact⟨u,hu,jX.mono hle fun _ _=>⟨rfl,rfl⟩⟩
 ·have aW:∀m,di V (ad.iJ (G l) S) m->m≠l/\di V S m:=fun m ⟨⟨B,e⟩,k⟩=>⟨(uh m B e).1,⟨B,(uh m B e).2⟩,k⟩
  have b2:∀m,di V S m->m≠l->V.bZ l≠none->V.aI m≠V.aI l:=fun m aw mb K=>hw.inj m l aw ⟨⟨_,ae⟩,K⟩ mb
  exact{
      dn:=fun m B e=>(hw.dn m B (uh m B e).2).GO hle
      inj:=fun m k aw gi=>hw.inj m k (aW m aw).2 (aW k gi).2
      dO:=fun m aw o=>by
       obtain⟨J,W⟩:=aW m aw
       cases aj:bo (V.aI m) o with
       |none=>rfl
       |some u=>
        rcases s5 _ _ _ aj with h|⟨h,K,_⟩
        ·rw[hw.dO m W o]at h;cases h
        ·exact absurd h (b2 m W J K)
      dt:=fun m aw=>hw.dt m (aW m aw).2
      cE:=fun m aw=>hw.cE m (aW m aw).2
      mem:=fun b o u h=>by
       rcases s5 b o u h with h|⟨_,_,h⟩
       ·exact hw.mem b o u h
       ·exact h
      dA:=tQ hw.dA hle,er:=hw.er
      ea:=fun b o h=>by
       cases aj:bo b o with
       |none=>exact absurd aj h
       |some u=>
        rcases s5 b o u aj with h|⟨h,K,_⟩
        ·exact hw.ea b o (by rw[h];simp)
        ·rw[h]
         rcases hw.dt l ⟨⟨_,ae⟩,K⟩with h|h
         ·exact .inr (.inl h)
         ·exact .inr (.inr h)
      aA:=hw.aA,b6:=hw.b6}
theorem Ki{M:Mem}{n len:Nat}{g g':Nat->List bg}{v:Value}(h:ey M (.cK n len g) v)(aM:∀i,i<len->g i=g' i):ey M (.cK n len g') v:=by
 cases h with
 |ji=>exact .ji _ _ _ _
 |cK _ _ _ b o cap aj aa c aw h=>exact .cK _ _ _ b o cap aj (fun i hi=>by rw[<-aM i hi];exact aa i hi) c aw fun i j x hi Y=>h i j x hi (by rw[aM i hi];exact Y)
theorem b1.mH{lb j l n len:Nat}{cs cs':List ai}{fq:List bz}{g:Nat->List bg}(ae:S.get (G lb)=some (.U (.cells cs)))(az:cs[j]?=some (.aQ l len))(aa:S.get (G l)=some (.U (.bG n len fq)))(b2:(Nat.beq lb l)=false)
  (aM:∀i,i<len->fq.map (bz.at · i)=g i) (fV:cs.set j (.d (.cK n len g))=cs'):b1 E S ((G lb,.U (.cells cs'))::ad.iJ (G l) S):=by
 rintro a w ⟨V,M,aC,hw⟩
 obtain⟨bo,hle,sb,ix,b8⟩:=Wx aC hw aa
 have Bx:G l≠G lb:=fun e=>by
  have:lb=l:=by unfold G at e;omega
  rw[this]at b2;simp[ih]at b2
 have ij:(ad.iJ (G l) S).get (G lb)=some (.U (.cells cs)):=by rw[o7,if_neg Bx];exact ae
 refine⟨V,bo,ix.U _ _,b8.ui ij ?_⟩
 obtain⟨J,vs,t,W,aH,aV⟩:=hw.dn lb _ ae
 refine⟨J,vs,t,W,by rw[<-fV];simpa using aH,fun i x y Y ak=>?_⟩
 rw[<-fV,List.getElem?_set]at Y
 split at Y
 ·rename_i iK
  subst iK
  split at Y
  ·injection Y with Y
   subst Y
   have:=sb y (aV j _ y az ak)
   cases this with
   |d _ _ h=>exact .d _ _ (Ki h aM)
  ·cases Y
 ·exact(aV i x y Y ak).mono hle fun _ _=>⟨rfl,rfl⟩
theorem b1.tb{t l n len:Nat}{fq:List bz}{g:Nat->List bg}(an:S.get (ab t)=some (.aB (.aQ l len)))(aa:S.get (G l)=some (.U (.bG n len fq)))
  (aM:∀i,i<len->fq.map (bz.at · i)=g i):b1 E S ((ab t,.aB (.d (.cK n len g)))::ad.iJ (G l) S):=by
 refine(b1.Wn an aa).trans ?_
 refine(b1.Kg (t:=t) (x:=.d (ug n len fq)) (y:=.d (.cK n len g)) (by rw[ej,if_pos rfl]) fun V M v h=>?_).trans (b1.fj fun m c e=>?_)
 ·cases h with
  |d _ _ h=>exact .d _ _ (Ki h aM)
 ·rw[ej]at e⊢
  by_cases aw:ab t=m
  ·rw[if_pos aw]at e⊢;exact e
  ·rw[if_neg aw]at e⊢;rw[ej,if_neg aw];exact e
def vj(a b n:Nat):Nat:=bif Nat.beq (n%2) 0 then n else G (fZ a b (n/2))
def ad.BI(a b:Nat):ad->ad
 |[]=>[]
 |(n,c)::r=>(vj a b n,c.cT a b)::ad.BI a b r
theorem OH(a b n:Nat):vj a b (vj a b n)=n:=by
 unfold vj
 simp only[ih]
 by_cases h:n%2=0
 ·simp[h]
 ·have e:G (fZ a b (n/2))/2=fZ a b (n/2):=by unfold G;omega
  have bu:G (fZ a b (n/2))%2=1:=by unfold G;omega
  simp only[h,decide_false,cond_false,bu,e,mc]
  unfold G
  simp
  omega
theorem GU(a b:Nat):∀(S:ad) (n:Nat),(S.BI a b).get n=(S.get (vj a b n)).map (dz.cT a b)
 |[],n=>rfl
 |(m,c)::r,n=>by
  simp only[ad.BI]
  rw[ej,ej,GU a b r n]
  by_cases h:vj a b m=n
  ·rw[if_pos h,if_pos (by rw[<-h,OH])];rfl
  ·rw[if_neg h,if_neg fun e=>h (by rw[e,OH])]
theorem Wy(a b t:Nat):vj a b (ab t)=ab t:=by
 unfold vj ab
 simp[ih]
theorem OI(a b l:Nat):vj a b (G l)=G (fZ a b l):=by
 unfold vj
 have:G l%2=1:=by unfold G;omega
 have e:G l/2=l:=by unfold G;omega
 simp[ih,this,e]
theorem b1.swap(a b:Nat){T:ad}(aC:a∉E.aA)(ae:b∉E.aA)(fz:S.BI a b=T):b1 E S T:=by
 subst fz
 rintro ac w ⟨V,M,dk,h⟩
 have nc:∀l,di (V.cT a b) (S.BI a b) l->di V S (fZ a b l):=by
  rintro l ⟨⟨B,e⟩,k⟩
  rw[GU,OI,Option.map_eq_some_iff]at e
  obtain⟨c,aj,e⟩:=e
  cases c with
  |aB x=>cases e
  |U B'=>exact⟨⟨B',aj⟩,k⟩
 refine⟨V.cT a b,M,⟨fun t x e=>?_,dk.size,dk.defers⟩,?_⟩
 ·rw[GU,Wy,Option.map_eq_some_iff]at e
  obtain⟨c,aj,e⟩:=e
  cases c with
  |U B=>cases e
  |aB y=>
   obtain⟨v,aK,aq⟩:=dk.fT t y aj
   simp only[dz.cT,dz.aB.injEq]at e
   subst e
   exact⟨v,aK,aq.cT a b⟩
 ·exact
  {
   dn:=fun l B e=>by
    rw[GU,OI,Option.map_eq_some_iff]at e
    obtain⟨c,aj,e⟩:=e
    cases c with
    |aB x=>cases e
    |U B'=>
     have:=(h.dn _ _ aj).cT a b
     rw[mc]at this
     simp only[dz.cT,dz.U.injEq]at e
     rw[<-e];exact this
   inj:=fun l l' J W b2=>h.inj _ _ (nc l J) (nc l' W) fun e=>b2 ((J9 a b _ _).1 e)
   dO:=fun l J=>h.dO _ (nc l J)
   dt:=fun l J=>h.dt _ (nc l J)
   cE:=fun l J=>h.cE _ (nc l J)
   mem:=h.mem,dA:=h.dA,er:=h.er,ea:=h.ea
   aA:=fun l aa=>by
    have uk:l≠a:=fun e=>aC (e▸aa)
    have vk:l≠b:=fun e=>ae (e▸aa)
    have:fZ a b l=l:=by simp[fZ,ih,uk,vk]
    have:=h.aA l aa
    simp[cu.cT, *]
   b6:=h.b6}
section
variable {x:Operand} {t t' ty:TypeId} {pos:String} {a6:Array Edge} {bB:Option (Nat×Bool)} {d:Option Nat} {c:Bool}
end
theorem Wz{V:cu}{M:Mem}{a:Act}{w w':World}(aC:jk E S V M a)(hw:cl E S V M w)(cy:fb w w' w.heap.size){d:Nat}{x:bg}{v:Value}(aq:d<E.cg){vs:Array Value}
  (aj:∀o u,vs[o]?=some u->w'.cell? ⟨w.heap.size,o,none⟩=some u) (Y:∀bo,(∀o,bo w.heap.size o=vs[o]?)->M.le bo->ey bo x v):ei E (S.eK [(ab d,some (.aB (.d x)))]) (a.put (some d) v) w':=by
 have vd:∀o,M w.heap.size o=none:=fun o=>by
  cases h:M w.heap.size o with
  |none=>rfl
  |some u=>have:=hw.mem _ _ _ h;simp[World.cell?]at this
 have hle:M.le (fun b o=>if b=w.heap.size then vs[o]? else M b o):=fun b o u h=>by
  by_cases e:b=w.heap.size
  ·subst e;rw[vd o]at h;cases h
  ·simp only[if_neg e];exact h
 have ae:∀l,(S.eK [(ab d,some (.aB (.d x)))]).get (G l)=S.get (G l):=fun l=>by rw[pc,if_neg (iz d l)]
 have aW:∀l,di V (S.eK [(ab d,some (.aB (.d x)))]) l->di V S l:=fun l aa=>⟨by simpa only[ae]using aa.1,aa.2⟩
 refine⟨V,fun b o=>if b=w.heap.size then vs[o]? else M b o,⟨fun s y e=>?_,by simp[Act.put,aC.size],aC.defers⟩,?_⟩
 ·rw[pc]at e
  by_cases an:d=s
  ·subst an
   rw[if_pos rfl]at e
   injection e with e;injection e with e;subst e
   exact⟨v,by simp[Act.put,aC.size,aq],.d _ _ (Y _ (fun o=>by simp) hle)⟩
  ·rw[if_neg fun e=>an (qx e)]at e
   obtain⟨u,hu,jX⟩:=aC.fT s y e
   exact⟨u,by simp[Act.put,an,hu],jX.mono hle fun _ _=>⟨rfl,rfl⟩⟩
 ·exact{
    dn:=fun l B e=>by
     rw[ae]at e
     refine((hw.dn l B e).GO hle).kept fun K=>?_
     exact cy.rf _ (Nat.ne_of_lt (hw.cE l ⟨⟨B,e⟩,K⟩)) (hw.cE l ⟨⟨B,e⟩,K⟩)
    inj:=fun l l' a b=>hw.inj l l' (aW l a) (aW l' b)
    dO:=fun l a o=>by
     have:=hw.cE l (aW l a)
     simp only[if_neg (Nat.ne_of_lt this)]
     exact hw.dO l (aW l a) o
    dt:=fun l a=>hw.dt l (aW l a)
    cE:=fun l a=>Nat.lt_of_lt_of_le (hw.cE l (aW l a)) cy.size
    mem:=fun b o u h=>by
     by_cases e:b=w.heap.size
     ·subst e;simp only[if_true]at h;exact aj o u h
     ·simp only[if_neg e]at h;exact cy.cell e (hw.mem b o u h)
    dA:=tQ hw.dA hle,er:=hw.er
    ea:=fun b o h=>by
     by_cases e:b=w.heap.size
     ·subst e;exact .inr (.inl hw.b6.size)
     ·simp only[if_neg e]at h;exact hw.ea b o h
    aA:=hw.aA
    b6:=⟨cy.os.trans hw.b6.os,cy.tape.trans hw.b6.tape,cy.output.trans hw.b6.output,Nat.le_trans hw.b6.size cy.size,fun b ae Z=>by
     rw[<-hw.b6.block b ae Z]
     exact cy.rf b (Nat.ne_of_lt (Nat.lt_of_lt_of_le ae hw.b6.size)) (Nat.lt_of_lt_of_le ae hw.b6.size)⟩}
theorem WA{aY:ad}{o:Oper}{t:Nat}{dE:List Nat}{x:bg}(gM:o.dst=some t)(fY:o.guard=none)(h0:sR o.op=true)
  (h:∀E V M a w,jc E aY o dE true V M a w->∃w' v,∃vs:Array Value,(execOp a.eval o).run P w= .ok (.value v) w'/\fb w w' w.heap.size/\(∀o u,vs[o]?=some u->w'.cell? ⟨w.heap.size,o,none⟩=some u)/\∀bo:Mem,(∀o,bo w.heap.size o=vs[o]?)->M.le bo->ey bo x v):
  kA P ro ops o ⟨cQ o++dE.map G,aY,[(ab t,some (.aB (.d x)))],[]⟩:=by
 intro E S a w an bf dX ⟨V,M,aC,hw⟩ Q gD
 have aT:t<E.cg:=dX.2 t (by simp[cx.jl])
 obtain⟨w',v,vs,aE,cy,cP,Y⟩:=h E V M a w (qw (rn:=cQ o++dE.map G) an (fun n af=>by simp[af]) (fun l aa=>by simp only[hy,List.mem_map];right;exact⟨l,aa,rfl⟩) D aC hw)
 unfold lx
 rw[if_pos (by simp[Region.wanted,fY])]
 refine sS h0 aE ?_
 rw[gM]
 exact Wz aC hw cy aT cP Y
end
section
variable {P:Program} {S:ad} {ro:eR} {ops:Array Oper} {E:c7}
def nS(P:Program)(f:FuncId)(args:List ai)(aS a8:ad)(u hU:FrameMode)(aA:List Nat):Prop:=
 ∀(V:cu) (M:Mem) (w:World) (b4:List Nat) (vs:List Value),cl (.dd w b4 M V aA 0) aS V M w->gZ V M args vs->
  CallsD P f vs.toArray u w fun e m w'=>∃v br bo,e= .returned v/\m=hU/\cl (.dd w b4 M V aA 0) a8 br bo w'
inductive Ef:FrameMode->Value->FrameMode->Prop
 |tc:Ef .returning .nilIface .returning
 |td (v:Value) (yo:List PanicEntry):Ef (.panicking ({v:=v,recovered:=false}::yo)) v (.panicking ({v:=v,recovered:=true}::yo))
theorem wO{args:List ai}{aS:ad}{aA:List Nat}{V:cu}{M:Mem}{w:World}{b4:List Nat}{vs:List Value}(n:Nat)(af:args.length<=n)(lB:∀n c,aS.get n=some c->n%2=1)
  (hw:cl (.dd w b4 M V aA 0) aS V M w) (aq:gZ V M args vs):
  ei (.dd w b4 M V aA n) (j2 0 args++aS) {tmps:=vs.toArray++Array.replicate (n-vs.toArray.size) undef,defers:=[]} w:=by
 refine⟨V,M,⟨fun t x aT=>?_,?_,rfl⟩,?_⟩
 ·rw[qA]at aT
  cases aM:(j2 0 args).get (ab t)with
  |none=>
   rw[aM]at aT
   have:=lB _ _ aT
   unfold ab at this;omega
  |some c=>
   rw[aM]at aT
   simp only[en]at aT
   subst aT
   obtain⟨_,W⟩:=JW args 0 t x aM
   simp only[Nat.sub_zero]at W
   have aG:t<vs.length:=by have:=(List.getElem?_eq_some_iff.1 W).1;rw[<-aq.len];exact this
   exact⟨vs[t],by simp[Array.getElem?_append,aG],aq.e6 t x _ W (dx aG)⟩
 ·have:=aq.len
  simp only[Array.size_append,List.size_toArray,Array.size_replicate]
  show _=n
  omega
 ·refine(hw.mv (E':=.dd w b4 M V aA n) D D D D D).my fun l B aa=>?_
  rw[qA,JX]at aa
  exact aa
theorem BJ{f:FuncId}{fn:Func}{rest:Code}{id a b:Nat}{ts:Array TypeId}{ty wP:TypeId}{pos pos':String}{a6 wQ:Array Edge}{args:List ai}{aS a8:ad}{aA:List Nat}{u hU:FrameMode}{x:Value}(bf:P.funcs[f]?=some fn)
  (ae:fn.body=some (.seq (.region id #[⟨some a,.call ⟨.builtin .recover,#[],ts⟩,ty,pos,a6,none⟩,⟨some b,.assign (.tmp a),wP,pos',wQ,none⟩] false) rest))
  (af:args.length<=fn.ntmps) (lB:∀n c,aS.get n=some c->n%2=1) (aC:a<fn.ntmps) (ru:b<fn.ntmps) (lT:fn.results= #[]) (hu:Ef u x hU)
  (h:∀E:c7,E.aA=aA->E.cg=fn.ntmps->c8 P {} E rest ((ab b,.aB (.d (.v x)))::(j2 0 args++aS).iJ (ab a)) fun e S'=>(e= .normal\/e= .ret)/\∀l B,a8.get (G l)=some (.U B)->S'.get (G l)=some (.U B)):
  nS P f args aS a8 u hU aA:=by
 intro V M w b4 vs hw aq
 refine callsD_of_wpS bf ae fun kl cs aw=>?_
 have kF:=wO fn.ntmps af lB hw aq
 generalize dk:({tmps:=vs.toArray++Array.replicate (fn.ntmps-vs.toArray.size) undef,defers:=[]}:Act)=A at kF⊢
 refine wpS_seq (wpS_region ?_)
 have wR:∀w,(execOp A.eval ⟨some a,.call ⟨.builtin .recover,#[],ts⟩,ty,pos,a6,none⟩).run P w= .ok .recover w:=fun w=>by
  simp[execOp,resolve,invoke,builtin,de,e5,Result.andThen]
 have fA:recoverD (kl::cs)=match u with| .returning=>none|_=>some (x,{kl with mode:=hU}::cs):=by
  cases hu with
  |tc=>simp[recoverD,aw]
  |td v yo=>simp[recoverD,aw]
 have key:∀cs',wpOpsS P #[⟨some a,.call ⟨.builtin .recover,#[],ts⟩,ty,pos,a6,none⟩,⟨some b,.assign (.tmp a),wP,pos',wQ,none⟩] (Exit.thenS (rest.wpS P (bodyPostS P fn kl cs fun e m w'=>∃v br bo,e= .returned v/\m=hU/\cl (.dd w b4 M V aA 0) a8 br bo w')) (bodyPostS P fn kl cs fun e m w'=>∃v br bo,e= .returned v/\m=hU/\cl (.dd w b4 M V aA 0) a8 br bo w'))
   [1] (A.put (some a) x) cs' w↔rest.wpS P (bodyPostS P fn kl cs fun e m w'=>∃v br bo,e= .returned v/\m=hU/\cl (.dd w b4 M V aA 0) a8 br bo w') ((A.put (some a) x).put (some b) ((A.put (some a) x).eval (.tmp a))) cs' w:=by
  intro cs'
  simp[wpOpsS,execOp,Region.wanted,Oper.upon,e5,Exit.thenS]
 have vl:a<A.tmps.size:=by
  obtain⟨_,_,aE,_⟩:=kF
  rw[aE.size];exact aC
 have BK:(A.put (some a) x).eval (.tmp a)=x:=by
  simp[Act.eval,Act.put,vl]
 have Eg:ei (.dd w b4 M V aA fn.ntmps) ((ab b,.aB (.d (.v x)))::(j2 0 args++aS).iJ (ab a)) ((A.put (some a) x).put (some b) x) w:=by
  obtain⟨hC,nT,J,W⟩:=kF
  have aH:jk (.dd w b4 M V aA fn.ntmps) ((j2 0 args++aS).iJ (ab a)) hC nT (A.put (some a) x):=⟨fun t y e=>by
   rw[o7]at e
   by_cases Eh:ab a=ab t
   ·rw[if_pos Eh]at e;cases e
   ·rw[if_neg Eh]at e
    obtain⟨v,aK,eD⟩:=J.fT t y e
    refine⟨v,?_,eD⟩
    have:a≠t:=fun e=>Eh (by rw[e])
    simp[Act.put,this,aK],by simp[Act.put,J.size],J.defers⟩
  have aV:=tX aH b (.d (.v x)) x ru (.d _ _ (.v _))
  refine⟨hC,nT,⟨fun t y e=>aV.fT t y ?_,aV.size,aV.defers⟩,W.my fun l B e=>?_⟩
  ·rw[ej]at e
   rw[pc]
   exact e
  ·rw[ej,if_neg (iz b l),o7,if_neg (iz a l)]at e
   exact e
 have vm:∀cs',cs'={kl with mode:=hU}::cs->rest.wpS P (bodyPostS P fn kl cs fun e m w'=>∃v br bo,e= .returned v/\m=hU/\cl (.dd w b4 M V aA 0) a8 br bo w') ((A.put (some a) x).put (some b) x) cs' w:=by
  intro cs' fV
  refine wpS_of_wp ?_
  have:=wpIn_wide.1 (xT D (h (.dd w b4 M V aA fn.ntmps) D D _ w Eg.m))
  refine Code.wp_mono ?_ this
  rintro e gL w' (⟨S',⟨he,cP⟩,ki⟩|⟨y,ak,_⟩)
  ·obtain⟨br,bo,z1,te⟩:=ki.dB rfl
   have kj:∃v br bo,Ending.returned (Value.tuple #[])= .returned v/\hU=hU/\cl (.dd w b4 M V aA 0) a8 br bo w':=⟨_,br,bo,rfl,rfl,(te.mv (E':=.dd w b4 M V aA 0) D D D D D).my cP⟩
   have um:gL.defers=[]:=z1.defers
   have jN:(results fn gL.tmps).run P w'= .ok (.tuple #[]) w':=by
    rw[DZ,lT]
    simp[e5,de,Result.andThen]
   rcases he with rfl|rfl
   ·exact⟨um,hU,fV,_,jN,kj⟩
   ·exact⟨um,hU,fV,_,jN,kj⟩
  ·cases ak
 show wpOpsS P _ _ (List.range 2) A (kl::cs) w
 have bu:List.range 2=[0,1]:=rfl
 rw[bu]
 unfold wpOpsS
 have BL:Region.wanted (⟨some a,.call ⟨.builtin .recover,#[],ts⟩,ty,pos,a6,none⟩:Oper) (yielded #[⟨some a,.call ⟨.builtin .recover,#[],ts⟩,ty,pos,a6,none⟩,⟨some b,.assign (.tmp a),wP,pos',wQ,none⟩] A.tmps)=true:=by simp[Region.wanted]
 simp only[List.getElem?_toArray,List.getElem?_cons_zero,BL,if_true,wR]
 cases hu with
 |tc=>
  simp only at fA
  rw[fA]
  refine(key (kl::cs)).2 ?_
  rw[BK]
  exact vm _ (by rw[<-aw])
 |td v yo=>
  simp only at fA
  rw[fA]
  refine(key _).2 ?_
  rw[BK]
  exact vm _ D
section
variable {x y:Operand} {t t' ty:TypeId} {pos:String} {a6:Array Edge} {bB:Option (Nat×Bool)} {d:Option Nat} {c:Bool}
theorem Pure.OJ{u:Value}{k:TypeDesc}(hu:P.underlying t'=some k)(K:∀m,k≠ .interface m)(aX:cd S c x (.d (.v (.iface t' u)))):Pure P S [] ⟨d,.typeAssert x t t' false,ty,pos,a6,bB⟩ c (.d (.v u)):=by
 refine⟨rfl,fun E V M a w h aj=>?_⟩
 have J:=h.val (by simp[Op.operands]) aX
 generalize a.eval=aI at*
 refine⟨u,?_,.d _ _ (.v _)⟩
 have:(Instr.typeAssert (.iface t' u) t t' false).run P w= .ok u w:=by
  unfold Instr.typeAssert
  simp only[de,run_underlying hu,Result.andThen]
  cases k<;>first|(exact absurd D (K _))|simp[e5]
 simp[execOp,J,de,this,Result.andThen,e5]
theorem Pure.z6{u:Value}{b:Bool}(hu:P.underlying t=some (.interface (P.methodsAt t)))(aX:cd S c x (.d (.v u)))(ae:(u= .nilIface/\b=false)\/(∃k z,u= .iface k z)/\b=true):Pure P S [] ⟨d,.binOp .neq t x (.const .nilIface) t',ty,pos,a6,bB⟩ c (bk b):=by
 refine⟨rfl,fun E V M a w h aj=>?_⟩
 have J:=h.val (by simp[Op.operands]) aX
 have W:a.eval (.const .nilIface)= .nilIface:=rfl
 generalize a.eval=aI at*
 refine⟨.bool b,?_,.d _ _ (.v _)⟩
 rcases ae with⟨rfl,rfl⟩|⟨⟨k,z,rfl⟩,rfl⟩
 ·simp only[execOp,J,W,eqGuard_nil_constR,de,e5,Result.andThen,run_neq_nil_nil w t hu]
 ·have:eqGuard .neq t x (.const .nilIface) (.iface k z) .nilIface=pure ():=rfl
  simp only[execOp,J,W,this,de,e5,Result.andThen,run_neq_held_nil w t k z hu]
end
end
section
variable {P:Program} {S:ad} {ro:eR} {ops:Array Oper} {E:c7}
section
variable {d:Nat} {t e ty:TypeId} {pos:String} {a6:Array Edge}
theorem j4{S':ad}{r:List Oper}{L:List cx}{parts:Array (Nat×Operand)}{cq:List Value}{n len:Nat}{l:List ai}{dl:List bg}{g:Nat->List bg}
  (aT:kQ P t e n=true) (bd:cZ P e cq) (ue:cq.length=n) (af:0<n) (hlen:len*n<=16777216) (bf:r5 S (fun i=>some (i*n,n)) (bV ((List.range (len*n)).map fun k=>cq.getD (k%n) undef)) parts.toList l)
  (aq:zG l=some dl) (aM:∀i,i<len->(dl.drop (i*n)).take n=g i)
  (h:bI P ro ops r ((ab d,.aB (.d (.cK n len g)))::S) L S'):
  bI P ro ops (⟨some d,.buildSlice t len parts,ty,pos,a6,none⟩::r) S (⟨cQ ⟨some d,.buildSlice t len parts,ty,pos,a6,none⟩++([]:List Nat).map G,S,[(ab d,some (.aB (.d (.cK n len g))))],[]⟩::L) S':=by
 refine .cons (WA D D D fun E V M a w h=>?_) (fun _ _=>rfl) (fun l aa=>by cases aa) (ra S _ _) h
 have ha:∀p∈parts.toList,∀y,cd S true p.2 y->bU V M y (a.eval p.2):=fun p Z y ak=>h.ez p.2 (by simp only[Op.operands,List.mem_toArray,List.mem_map];exact⟨p,Z,rfl⟩) y ak
 clear h
 generalize a.eval=aI at*
 obtain⟨z,pg,aE⟩:=x4 bd
 obtain⟨hu,cj⟩:=ye aT
 obtain⟨j1,oC,hg⟩:=Gx bf ha (Gy V M _)
 have oz:=JP aq
 subst oz
 have u9:j1.length=len*n:=by
  have:∀{place:Nat->Option (Nat×Nat)} {l l':List ai} {ps:List (Nat×Operand)},r5 S place l ps l'->l'.length=l.length:=by
   intro place l l' ps bf
   induction bf with
   |nil=>rfl
   |cons e hu Z bJ h aJ=>rw[aJ,wC bJ]
  have J:=this bf
  rw[<-hg.len,J]
  simp[bV]
 have GK:dl.length=len*n:=by have:=hg.len;simp at this;omega
 have rj:z.cells=cq.toArray:=by rw[<-pg,Array.toArray_toList]
 have sX:(parts.map fun x=>(x.1,aI x.2)).toList=parts.toList.map fun p=>(p.1,aI p.2):=by simp
 refine⟨w.alloc (.cells j1.toArray e),.slice (some ⟨w.heap.size,0,none⟩) len len,j1.toArray,?_,fb.alloc w _,?_,?_⟩
 ·have zS:¬(len*n>2^24):=by omega
  have yf:Instr.fill (fun i=>some (i*n,n)) ((Array.range (len*n)).map fun i=>z.cells[i%z.cells.size]!) ((parts.map fun x=>(x.1,aI x.2)).toList)=some j1.toArray:=by
   rw[sX,rj,BB cq _ (by omega),ue];exact oC
  have ae:(Instr.buildSlice t len (parts.map fun x=>(x.1,aI x.2))).run P w= .ok (.slice (some ⟨w.heap.size,0,none⟩) len len) (w.alloc (.cells j1.toArray e)):=by
   unfold Instr.buildSlice
   simp only[de,run_underlying hu,Result.andThen,cj,zS,if_false]
   refine GJ (P:=P) (aE w) ?_ fun bb=>?_
   ·rw[yf];simp[newRow]
   ·have e0:((Array.range (len*n)).map fun x=>(#[]:Array Value)[x%(#[]:Array Value).size]!)=(Array.range (len*n)).map fun i=>z.cells[i%z.cells.size]!:=by rw[bb];simp
    rw[e0,yf];simp[newRow]
  simp only[execOp,de,ae,Result.andThen]
  rfl
 ·intro o u bJ
  simp only[World.cell?,sW]
  simpa using bJ
 ·intro bo s5 hle
  have hmul:∀i j,i<len->j<n->i*n+j<len*n:=fun i j hi az=>by
   have:(i+1)*n<=len*n:=Nat.mul_le_mul_right _ hi
   rw[Nat.add_mul]at this
   omega
  refine .cK n len g w.heap.size 0 len (Nat.le_refl _) (fun i hi=>?_) (fun i j=>j1.getD (i*n+j) undef) (fun i j hi az=>?_) fun i j x hi Y=>?_
  ·rw[<-aM i hi,rv,h1]
   have:(i+1)*n<=len*n:=Nat.mul_le_mul_right _ hi
   rw[Nat.add_mul]at this
   omega
  ·rw[s5,Nat.zero_add]
   have:=hmul i j hi az
   have aG:i*n+j<j1.length:=by omega
   simp[List.getD,aG]
  ·rw[<-aM i hi,List.getElem?_take]at Y
   split at Y
   ·rename_i az
    rw[List.getElem?_drop]at Y
    have:=hmul i j hi az
    have aG:i*n+j<j1.length:=by omega
    have W:=hg.e6 (i*n+j) (.d x) (j1.getD (i*n+j) undef) (by simp[Y]) (by simp[List.getD,aG])
    cases W with
    |d _ _ h=>exact h.mono hle
   ·cases Y
end
end
section
section
variable {P:Program} {S:ad} {ro:eR} {ops:Array Oper} {c:Bool} {x y:Operand} {t ty e:TypeId} {pos:String} {a6:Array Edge} {bB:Option (Nat×Bool)} {d:Option Nat}
theorem Pure.OK{f:FuncId}{l:List Operand}{cs:List ai}(h:r7 S c l cs):Pure P S [] ⟨d,.makeFunc (.func f) l.toArray #[],ty,pos,a6,bB⟩ c (.cE f cs):=by
 refine⟨rfl,fun E V M a w aM aj=>?_⟩
 have ha:∀y∈l,y∈(⟨d,.makeFunc (.func f) l.toArray #[],ty,pos,a6,bB⟩:Oper).op.operands:=fun y ak=>by simp[Op.operands,ak]
 have aq:∀(j:Nat) (y:Operand) (u:ai),l[j]?=some y->cs[j]?=some u->bU V M u (a.eval y):=fun j y u J W=>aM.ez y (ha y (List.mem_of_getElem? J)) u (h.e6.2 j y u J W)
 have hlen:=h.e6.1
 generalize a.eval=aI at*
 refine⟨.func (.func f) (l.map aI).toArray #[],by simp[execOp,Instr.makeFunc],?_⟩
 exact .cE f cs (l.map aI) (by simpa using hlen) fun j u z J W=>by
  simp only[fJ,Option.map_eq_some_iff]at W
  obtain⟨y,ak,rfl⟩:=W
  exact aq j y u ak J
theorem Pure.OL{ts:Array TypeId}{e:TypeId}(l4:ts[0]?=some t)(hu:P.underlying t=some (.slice e))(aX:cd S c x k4):Pure P S [] ⟨d,.call ⟨.builtin .cap,#[x],ts⟩,ty,pos,a6,bB⟩ c (aF .i64 0):=by
 refine⟨rfl,fun E V M a w h aj=>?_⟩
 have J:=h.val (by simp[Op.operands,Call.operands]) aX
 generalize a.eval=aI at*
 exact⟨.int .i64 0,by simp[execOp,resolve,invoke,builtin,Builtin.cap_,J,l4,run_underlying hu,goInt,go_sem],.d _ _ (.v _)⟩
theorem Pure.WB{il:Option Tmp}{n l h:Nat}{lo hi:Option Operand}(aT:kQ P t e n=true)(aX:cd S c x k4)(rh:uf S c lo 0 l)(oB:uf S c hi 0 h)(aa:l=0)(aW:h=0):
  Pure P S [] ⟨il,.slice t x lo hi none,ty,pos,a6,bB⟩ c k4:=by
 subst aa aW
 refine⟨rfl,fun E V M a w aM aj=>?_⟩
 obtain⟨wK,zU,wL⟩:=D7 (t:=t) (x:=x) (lo:=lo) (hi:=hi) (o:=⟨il,.slice t x lo hi none,ty,pos,a6,bB⟩) D
 have Y:=aM.val wK aX
 have BD:=yg aM aj zU rh
 have s3:=yg aM aj wL oB
 obtain⟨hu,cj⟩:=ye aT
 generalize a.eval=aI at*
 refine⟨.slice none 0 0,?_,.d _ _ (.v _)⟩
 simp only[execOp,Y,Option.map_none,de,zH (cap:=0) (a:=none) hu cj BD s3 (Nat.le_refl 0) (Nat.le_refl 0),Result.andThen];rfl
end
section
variable {P:Program} {S:ad} {ro:eR} {ops:Array Oper} {c:Bool} {x y:Operand} {t t' ty e:TypeId} {pos:String} {a6:Array Edge} {bB:Option (Nat×Bool)} {d:Option Nat}
theorem jc.WC{E:c7}{V:cu}{M:Mem}{a:Act}{w:World}{o:Oper}{dE:List Nat}(h:jc E S o dE c V M a w){g:Nat}{cs:List Value}(aM:(g,cs)∈zr)(j:Nat)(u:Value)(az:cs[j]?=some u):w.cell? ⟨g,j,none⟩=some u:=
 h.mem _ _ _ (h.er.1 (g,cs) aM j u az)
theorem Pure.OM{g n:Nat}{cs:List Value}(aM:(g,cs)∈zr)(aT:dq P t true n=true)(af:cs.length=n):Pure P S [] ⟨d,.load t (.global g),ty,pos,a6,bB⟩ c (.d (.agg (cs.map .v))):=by
 refine⟨rfl,fun E V M a w h aj=>?_⟩
 have aa:(loadVar t ⟨g,0,none⟩).run P w= .ok (.agg cs.toArray) w:=by
  rw[x1 aT (f:=fun j=>cs.getD j undef) fun j az=>by rw[Nat.zero_add];exact h.WC aM j _ (by simp[cN,af▸az])]
  congr 2
  rw[<-af]
  congr 1
  refine List.ext_getElem (by simp) fun i J W=>?_
  simp at J
  simp[J]
 refine⟨.agg cs.toArray,?_,.d _ _ (.agg _ cs (by simp) fun j u v J W=>?_)⟩
 ·simp[execOp,Act.eval,Instr.loadAt,Instr.sureAddr,aa]
 ·simp only[fJ,Option.map_eq_some_iff]at J
  obtain⟨z,bd,rfl⟩:=J
  rw[bd]at W;cases W;exact .v _
end
end
end Go.Proofs.YtfgcfofjjiinjaaGreatDoor

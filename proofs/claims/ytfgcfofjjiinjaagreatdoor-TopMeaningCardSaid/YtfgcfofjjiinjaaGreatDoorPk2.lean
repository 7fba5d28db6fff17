/- TopMeaning: texts of the walk and of the plain law, part 3 of 6. -/
import Derived.Shelf.Strings.Search3
import Derived.Shelf.Strings.Prefix
import Derived.Shelf.Small.Strs
import Derived.Shelf.Strconv.AtoiAll
import Derived.Shelf.Strconv.Itoa3
import Derived.Shelf.Slices.Turned
import Derived.Shelf.Slices.Equal
import Derived.KernelRfl
import Derived.Test.YtfgcfofjjiinjaaGreatDoorPk1
namespace Go.Proofs.YtfgcfofjjiinjaaGreatDoor
open Go Tryz
set_option linter.unusedVariables false
set_option linter.unusedSimpArgs false
set_option maxRecDepth 100000
set_option maxHeartbeats 4000000
section
variable {P:Program} {ro:eR} {ops:Array Oper} {n:Nat} {aS:List cO}
def CA(n:Nat)(aS:List cO)(S:ad):Prop:=∃B∈aS,S.get n=some (.U B)
def HH(n:Nat)(aS:List cO)(A:cx):Prop:=n∉A.jl\/∃B∈aS,∀d,l3 n d A.post=some (.U B)
theorem HH.vJ{A:cx}{S:ad}(h:HH n aS A)(hi:CA n aS S):CA n aS (S.eK A.post):=by
 rcases h with h|⟨B,cP,h⟩
 ·obtain⟨B,cP,e⟩:=hi
  exact⟨B,cP,by rw[mY,rZ h];exact e⟩
 ·exact⟨B,cP,by rw[mY];exact h _⟩
def RB(P:Program)(ro:eR)(ops:Array Oper)(n:Nat)(aS:List cO)(o:Oper)(A:cx):Prop:=
 ∀(E:c7) (S:ad) (a:Act) (w:World),CA n aS S->tT A S->xU A S->zt E A->ei E S a w->
  ∀Q,(∀x,ro.gm x->∀a w,ei E x.2 a w->Q (.panic x.1) a w)->lx P ro ops Q o (ei E (S.eK A.post)) a w
inductive qd(P:Program)(ro:eR)(ops:Array Oper)(n:Nat)(aS:List cO):List Oper->ad->List cx->ad->Prop
 |nil (S:ad):qd P ro ops n aS [] S [] S
 |cons {o:Oper} {A:cx} {S T:ad} {r:List Oper} {l:List cx} {S':ad} (aC:RB P ro ops n aS o A) (af:HH n aS A) (an:tT A S) (bf:xU A S) (he:∀n,T.get n=(S.eK A.post).get n) (h:qd P ro ops n aS r T l S'):
  qd P ro ops n aS (o::r) S (A::l) S'
inductive pB(P:Program)(ro:eR)(ops:Array Oper)(n:Nat)(aS:List cO):List Item->ad->ad->Prop
 |nil {S S':ad} (h:S.Br S'):pB P ro ops n aS [] S S'
 |cons {x:Item} {r:List Item} {S S':ad} (aC:RB P ro ops n aS x.o x.A) (af:HH n aS x.A) (an:tT x.A S) (h:pB P ro ops n aS r (S.eK x.A.post) S'):pB P ro ops n aS (x::r) S S'
theorem pB.congr{l:List Item}{S S':ad}(h:pB P ro ops n aS l S S'):∀{T:ad},S.Br T->pB P ro ops n aS l T S':=by
 induction h with
 |nil h=>intro T e;exact .nil fun n=>(e n).symm.trans (h n)
 |cons aC af an _ aJ=>intro T e;exact .cons aC af (fun p Z=>(e p).symm.trans (an p Z)) (aJ (NQ e _))
theorem pB.swap{x y:Item}{r:List Item}{S S':ad}(hi:zu x.A y.A)(h:pB P ro ops n aS (x::y::r) S S'):pB P ro ops n aS (y::x::r) S S':=by
 cases h with
 |cons Jv Lv Jw h=>
  cases h with
  |cons Jx aaq Jy h=>
   have Jz:tT y.A S:=fun p Z=>by
    have:=Jy p Z
    rw[mY,rZ fun af=>(hi.zv p af).1 Z]at this
    exact this
   have JA:tT x.A (S.eK y.A.post):=fun p Z=>by
    rw[mY,rZ fun af=>hi.NP p af Z]
    exact Jw p Z
   refine .cons Jx aaq Jz (.cons Jv Lv JA (h.congr fun n=>?_))
   simp only[mY]
   by_cases ak:n∈y.A.jl
   ·have Y:n∉x.A.jl:=fun Y=>(hi.zv n Y).2 ak
    rw[rZ (u:=x.A.post) Y,rZ (u:=x.A.post) Y]
   ·rw[rZ (u:=y.A.post) ak,rZ (u:=y.A.post) ak]
theorem pB.DB{x:Item}{r:List Item}{S':ad}:∀{p:List Item} {S:ad},(∀y∈p,zu y.A x.A)->pB P ro ops n aS (p++x::r) S S'->pB P ro ops n aS (x::(p++r)) S S'
 |[],_,_,h=>h
 |y::p,S,hi,h=>by
  cases h with
  |cons aC af an h=>
   have h':=pB.DB (p:=p) (fun z bd=>hi z (by simp[bd])) h
   exact pB.swap (hi y (by simp)) (.cons aC af an h')
theorem aar{Q:Exit->Act->World->Prop}{E:c7}{S':ad}(DF:zy ops.toList 0=true)(gD:∀x,ro.gm x->∀a w,ei E x.2 a w->Q (.panic x.1) a w)(bA:∀a w,ei E S' a w->Q .normal a w):
  ∀(fuel:Nat) (listed:Array Bool) (rem:List Item) (S:ad) (a:Act) (w:World),rem.length=fuel->listed.size=ops.size->
   (∀i,(∃x∈rem,x.i=i)↔i<ops.size/\listed.getD i true=false)->
   (∀i,listed.getD i false=true->∀p,((qt ops.toList []).getD i 0).testBit p=true->listed.getD p false=true)->
   DD (qt ops.toList []) ops rem->(∀x∈rem,zt E x.A)->(∀x∈rem,xU x.A S)->
   pB P ro ops n aS rem S S'->CA n aS S->ei E S a w->wpAnyIn (ja P ro) 0 P .any ops Q fuel listed a w:=by
 intro fuel
 induction fuel with
 |zero=>
  intro listed rem S a w hlen cj pb zA Z K bf r1 hinv aE
  have zB:rem=[]:=List.length_eq_zero_iff.1 hlen
  subst zB
  refine⟨?_,?_⟩
  ·rw[List.eq_nil_iff_forall_not_mem]
   intro i hi
   rw[mem_ready]at hi
   obtain⟨J,o,bJ,_⟩:=hi
   have aG:i<ops.size:=by
    rcases Nat.lt_or_ge i ops.size with h|h
    ·exact h
    ·simp[Array.getElem?_eq_none h]at bJ
   have:=(pb i).2 ⟨aG,J⟩
   simp at this
  ·cases r1 with
   |nil h=>exact bA a w (aE.fj fun n c e=>by rw[h n];exact e)
 |succ fuel aJ=>
  intro listed rem S a w hlen cj pb zA Z K bf r1 hinv aE
  refine⟨?_,?_⟩
  ·intro zB
   exfalso
   cases rem with
   |nil=>simp at hlen
   |cons x r=>
    have Y:=(pb x.i).1 ⟨x,by simp,rfl⟩
    have iL:x.i∈Region.ready .any ops listed:=by
     rw[mem_ready]
     have iM:=Z.op x (by simp)
     refine⟨Y.2,x.o,iM,?_⟩
     intro e he JE
     have aG:=DC ops.toList 0 x.i x.o DF (by simpa using iM) e (by simpa using he) JE
     simp only[Nat.zero_add]at aG
     cases aa:listed.getD e.on false with
     |true=>rfl
     |false=>
      exfalso
      have qu:e.on<ops.size:=by omega
      have:listed.getD e.on true=false:=by
       rw[Array.getD_eq_getD_getElem?]at aa⊢
       have:e.on<listed.size:=by omega
       simpa[this]using aa
      obtain⟨y,ak,VB⟩:=(pb e.on).2 ⟨qu,this⟩
      rcases eb.1 ak with rfl|ak
      ·omega
      ·have:=(List.pairwise_cons.1 Z.DE).1 y ak
       omega
    rw[zB]at iL
    cases iL
  ·intro i hi
   have jb:=hi
   rw[mem_ready]at jb
   obtain⟨kC,sO,tV,DG⟩:=jb
   have DH:i<ops.size:=by
    rcases Nat.lt_or_ge i ops.size with h|h
    ·exact h
    ·simp[Array.getElem?_eq_none h]at tV
   obtain⟨x,Y,rfl⟩:=(pb i).2 ⟨DH,kC⟩
   obtain⟨p,r,rfl⟩:=List.append_of_mem Y
   have iM:=Z.op x Y
   rw[iM]at tV
   injection tV with tV
   subst tV
   have DI:∀q,((qt ops.toList []).getD x.i 0).testBit q=true->listed.getD q false=true:=by
    have aw:=JD ops.toList [] x.i x.o (by simpa using iM)
    simp only[List.length_nil,Nat.zero_add]at aw
    intro q tW
    rw[cN,aw]at tW
    refine NU (p:=fun q=>listed.getD q false=true) x.o.after.toList ?_ q tW
    intro e he ae
    have DJ:listed.getD e.on false=true:=DG e (by simpa using he) ae
    refine⟨DJ,fun t aT=>zA e.on DJ t ?_⟩
    have aG:=DC ops.toList 0 x.i x.o DF (by simpa using iM) e he ae
    simp only[Nat.zero_add]at aG
    rw[cN]at aT⊢
    rwa[pQ aG]at aT
   have wz:=List.pairwise_append.1 Z.DE
   have nN:∀y∈p,zu y.A x.A/\zw x.A y.A:=fun y ak=>by
    obtain⟨aG,nt⟩:=wz.2.2 y ak x (by simp)
    simp only[xX,eL,Bool.or_eq_true]at nt
    rcases nt.1 with ae|ae
    ·exfalso
     have aa:=DI y.i ae
     have zC:=(pb y.i).1 ⟨y,by simp[ak],rfl⟩
     have:listed.getD y.i true=true:=by
      rw[Array.getD_eq_getD_getElem?]at aa⊢
      have:y.i<listed.size:=by omega
      simpa[this]using aa
     rw[this]at zC
     exact absurd zC.2 (by simp)
    ·exact⟨NR ae.1,Gl ae.2⟩
   have sP:∀y∈r,zw x.A y.A:=fun y ak=>by
    have aj:=(List.pairwise_cons.1 wz.2.1).1 y ak
    simp only[xX,eL]at aj
    exact Gl aj.2.2
   have JF:=pB.DB (fun y ak=>(nN y ak).1) r1
   cases JF with
   |cons aC af an h=>
    have u5:=aC E S a w hinv an (bf x Y) (K x Y) aE Q gD
    unfold wpOpIn
    simp only[iM]
    refine wv (fun gL w' ow=>?_) u5
    have ox:(p++r).Sublist (p++x::r):=List.Sublist.append_left (List.sublist_cons_self x r) p
    have h0:∀y∈p++r,y.i≠x.i:=fun y ak e=>by
     rcases hy.1 ak with ak|ak
     ·have:=(wz.2.2 y ak x (by simp)).1;omega
     ·have:=((List.pairwise_cons.1 wz.2.1).1 y ak).1;omega
    have pR:∀q d,(listed.setIfInBounds x.i true).getD q d=if q=x.i then true else listed.getD q d:=by
     intro q d
     by_cases h:q=x.i
     ·subst h
      have:x.i<listed.size:=by omega
      rw[Array.getD_eq_getD_getElem?]
      simp[this]
     ·rw[if_neg h,getD_set_ne d fun e=>h e.symm]
    refine aJ _ (p++r) _ gL w' (by simp at hlen⊢;omega) (by simpa using cj) ?_ ?_ (Z.sub ox) (fun y ak=>K y (ox.subset ak)) ?_ h (af.vJ hinv) ow
    ·intro i
     rw[pR]
     constructor
     ·rintro⟨y,ak,rfl⟩
      have:=(pb y.i).1 ⟨y,ox.subset ak,rfl⟩
      exact⟨this.1,by rw[if_neg (h0 y ak)];exact this.2⟩
     ·rintro⟨J,W⟩
      by_cases h:i=x.i
      ·rw[if_pos h]at W;cases W
      ·rw[if_neg h]at W
       obtain⟨y,ak,DK⟩:=(pb i).2 ⟨J,W⟩
       refine⟨y,?_,DK⟩
       rcases hy.1 ak with ak|ak
       ·exact List.mem_append_left _ ak
       ·rcases eb.1 ak with rfl|ak
        ·exact absurd DK.symm h
        ·exact List.mem_append_right _ ak
    ·intro i nu q tW
     rw[pR]at nu⊢
     by_cases DL:q=x.i
     ·rw[if_pos DL]
     ·rw[if_neg DL]
      by_cases h:i=x.i
      ·subst h;exact DI q tW
      ·rw[if_neg h]at nu;exact zA i nu q tW
    ·intro y ak l aa n c aj af
     rw[mY]at aj
     have iv:zw x.A y.A:=by
      rcases hy.1 ak with ak|ak
      ·exact(nN y ak).2
      ·exact sP y ak
     rcases NO aj with⟨aj,_⟩|aj
     ·exact bf y (ox.subset ak) l aa n c aj af
     ·exact iv l aa _ aj af c D
theorem aas{l:List Oper}{S S':ad}{L:List cx}(h:qd P ro ops n aS l S L S'):∀k,pB P ro ops n aS ((l.zip L).mapIdx fun i x=>⟨k+i,x.1,x.2⟩) S S'/\l.length=L.length:=by
 induction h with
 |nil S=>intro k;exact⟨.nil fun _=>rfl,rfl⟩
 | @cons o A S T r l S' aC af an bf he h aJ=>
  intro k
  obtain⟨J,W⟩:=aJ (k+1)
  refine⟨?_,by simp[W]⟩
  simp only[List.zip_cons_cons,List.mapIdx_cons]
  refine .cons aC af an ?_
  have:((r.zip l).mapIdx fun i x=>(⟨k+(i+1),x.1,x.2⟩:Item))=((r.zip l).mapIdx fun i x=>(⟨k+1+i,x.1,x.2⟩:Item)):=by
   congr 1;funext i x;congr 1;omega
  rw[this]
  exact J.congr fun n=>he n
theorem aat{Q:Exit->Act->World->Prop}{E:c7}{S S':ad}{L:List cx}(h:qd P ro ops n aS ops.toList S L S')(hinv:CA n aS S)(aq:wy ops.toList S L=true)
  (K:mu E L) (gD:∀x,ro.gm x->∀a w,ei E x.2 a w->Q (.panic x.1) a w) (bA:∀a w,ei E S' a w->Q .normal a w) {a:Act} {w:World} (aE:ei E S a w):
  wpAnyIn (ja P ro) 0 P .any ops Q ops.size (Array.replicate ops.size false) a w:=by
 obtain⟨r1,hlen⟩:=aas h 0
 simp only[wy,eL,eZ]at aq
 have iN:∀x∈((ops.toList.zip L).mapIdx fun i x=>(⟨0+i,x.1,x.2⟩:Item)),ops.toList[x.i]?=some x.o/\L[x.i]?=some x.A:=by
  intro x Y
  obtain⟨i,hi,rfl⟩:=List.mem_mapIdx.1 Y
  simp only[List.length_zip]at hi
  have J:i<ops.toList.length:=by omega
  have W:i<L.length:=by omega
  simp only[Nat.zero_add,List.getElem_zip]
  exact⟨by rw[dx J],by rw[dx W]⟩
 have VD:L.length=ops.size:=by simpa using hlen.symm
 refine aar aq.1.1 gD bA ops.size _ _ S a w (by simp[List.length_zip];omega) (by simp) ?_ ?_ ⟨?_,?_⟩ ?_ ?_ r1 hinv aE
 ·intro i
  constructor
  ·rintro⟨x,Y,rfl⟩
   have:=(iN x Y).1
   have aG:x.i<ops.size:=by
    have:=List.getElem?_eq_some_iff.1 this
    simpa using this.1
   exact⟨aG,by simp[Array.getD_eq_getD_getElem?,aG]⟩
  ·rintro⟨J,_⟩
   have W:i<(ops.toList.zip L).length:=by have:L.length=ops.size:=(by simpa using hlen.symm);simp[List.length_zip];omega
   exact⟨⟨0+i,((ops.toList.zip L)[i]).1,((ops.toList.zip L)[i]).2⟩,List.mem_mapIdx.2 ⟨i,W,rfl⟩,by simp⟩
 ·intro i hi
  exfalso
  by_cases h:i<ops.size<;>simp[Array.getD_eq_getD_getElem?,h]at hi
 ·intro x Y;have:=(iN x Y).1;simpa using this
 ·rw[List.pairwise_iff_getElem]
  intro i j hi az iK
  simp only[List.length_mapIdx,List.length_zip]at hi az
  simp only[List.getElem_mapIdx,List.getElem_zip,Nat.zero_add]
  refine⟨iK,?_⟩
  have:=NV L 0 i j L[i] L[j] aq.1.2 (dx _) (dx _) iK
  simpa using this
 ·intro x Y;exact K x.A (List.mem_of_getElem? (iN x Y).2)
 ·intro x Y;exact sN (aq.2 x.A (List.mem_of_getElem? (iN x Y).2))
theorem yN{E:c7}{id:Nat}{S S':ad}{L:List cx}{Q:Exit->ad->Prop}(n:Nat)(aS:List cO)(aw:P.follows .mixedOrders=true)(hinv:CA n aS S)(h:qd P ro ops n aS ops.toList S L S')(aq:wy ops.toList S L=true)(K:mu E L)(bA:Q .normal S'):
  c8 P ro E (.region id ops true) S Q:=by
 intro a w aE
 obtain⟨jW,aX,bu,k3,du⟩:=aE.from
 exact wpIn_region_any aw (aat h hinv aq (K.mv aX bu) (fun x Z a w aE=>.inr ⟨x,Z,rfl,du _ _ _ aE⟩) (fun a w aE=>.inl ⟨S',bA,du _ _ _ aE⟩) (k3.drawn _))
theorem j8{o:Oper}{A:cx}{S ed S':ad}{r:List Oper}{l:List cx}(t:bI P ro ops [o] S [A] ed)(af:hx n A.jl=false)(h:qd P ro ops n aS r ed l S'):qd P ro ops n aS (o::r) S (A::l) S':=by
 cases t with
 |cons aC an bf he aT=>
  cases aT with
  |nil=>exact .cons (fun E S a w _=>aC E S a w) (.inl fun aw=>by rw[h6.2 aw]at af;cases af) an bf he h
theorem tC{o:Oper}{A:cx}{S ed S':ad}{r:List Oper}{l:List cx}(B:cO)(t:bI P ro ops [o] S [A] ed)(cP:B∈aS)(hw:∀d,l3 n d A.post=some (.U B))(h:qd P ro ops n aS r ed l S'):qd P ro ops n aS (o::r) S (A::l) S':=by
 cases t with
 |cons aC an bf he aT=>
  cases aT with
  |nil=>exact .cons (fun E S a w _=>aC E S a w) (.inr ⟨B,cP,hw⟩) an bf he h
def cO.HI(j:Nat):cO->Option ai
 | .cells cs=>cs[j]?
 |_=>none
theorem qe{S S':ad}{r:List Oper}{l:List cx}{d t0 lb j m:Nat}{t ty:TypeId}{pos:String}{a6:Array Edge}{x:ai}(af:n=G lb)(aT:dq P t false m=true)(Y:S.get (ab t0)=some (.aB (.ao lb j)))(k9:aS.map (cO.HI j)=aS.map fun _=>some x)
  (h:qd P ro ops n aS r ((ab d,.aB x)::S) l S'):qd P ro ops n aS (⟨some d,.load t (.tmp t0),ty,pos,a6,none⟩::r) S (⟨cQ ⟨some d,.load t (.tmp t0),ty,pos,a6,none⟩,S,[(ab d,some (.aB x))],[]⟩::l) S':=by
 subst af
 refine .cons (fun E T a w hi an bf dX aE Q gD=>?_) (.inl ?_) (fun _ _=>rfl) (fun l aa=>(nomatch aa)) (ra S _ _) h
 ·obtain⟨B,cP,e⟩:=hi
  have aj:cO.HI j B=some x:=by
   have:cO.HI j B∈aS.map (cO.HI j):=List.mem_map.2 ⟨B,cP,rfl⟩
   rw[k9]at this
   obtain⟨_,_,h⟩:=List.mem_map.1 this
   exact h.symm
  cases B with
  |cells cs=>
   have aau:T.get (ab t0)=some (.aB (.ao lb j)):=by rw[an (ab t0) (by simp[cQ,Op.operands])];exact Y
   have E7:=cH (P:=P) (ro:=ro) (ops:=ops) (aY:=T) (r:=[]) (L:=[]) (t:=d) (ty:=ty) (pos:=pos) (a6:=a6) [lb] (Pure.wB (x:=.tmp t0) aT (.dB (by simp[dK,aau])) e aj) (.nil _)
   cases E7 with
   |cons aC _ _ _ _=>exact aC E T a w (fun _ _=>rfl) (fun l aa=>(nomatch aa)) dX aE Q gD
  |_=>cases aj
 ·simp[cx.jl]
  exact fun e=>iz d lb e.symm
end
theorem RC{ro:eR}{ops:Array Oper}{n:Nat}{aS:List cO}:∀{k:Nat} {l q:List Oper} {S ed:ad} {F lI:List cx->List cx},oP k l S F=some (q,ed,lI)->∃B:List cx,(∀L,lI L=F (B++L))/\((∀A∈B,hx n A.jl=false)->∀ko n9,qd prog ro ops n aS q ed ko n9->qd prog ro ops n aS l S (B++ko) n9)
 |0,l,q,S,ed,F,lI,h=>by
  unfold oP at h
  injection h with h;injection h with J W;injection W with W aH
  subst J;subst W;subst aH
  exact⟨[],fun L=>rfl,fun _ ko n9 h=>h⟩
 |k+1,l,q,S,ed,F,lI,h=>by
  cases l with
  |nil=>simp[oP]at h
  |cons o r=>
   obtain⟨dst,op,ty,pos,a6,bB⟩:=o
   cases dst with
   |none=>simp[oP]at h
   |some t=>
    cases bB with
    |some g=>simp[oP]at h
    |none=>
     simp only[oP]at h
     split at h
     ·rename_i x dE an
      obtain⟨B,J,W⟩:=RC (ro:=ro) (ops:=ops) (n:=n) (aS:=aS) h
      exact⟨_::B,fun L=>J L,fun cP ko n9 fz=>j8 (cH dE (Rr an) (.nil _)) (cP _ (.head _)) (W (fun A dk=>cP A (.tail _ dk)) ko n9 fz)⟩
     ·cases h
theorem hY{ro:eR}{ops:Array Oper}{n:Nat}{aS:List cO}{l q:List Oper}{S ed n9:ad}{ko:List cx}{lI:List cx->List cx}(k:Nat)(h:oP k l S (fun L=>L)=some (q,ed,lI))(K:((lI []).all fun A=> !hx n A.jl)=true)(W:qd prog ro ops n aS q ed ko n9):qd prog ro ops n aS l S (lI ko) n9:=by
 obtain⟨B,aH,aV⟩:=RC (ro:=ro) (ops:=ops) (n:=n) (aS:=aS) h
 rw[aH]at K
 rw[List.append_nil]at K
 rw[aH]
 exact aV (fun A dk=>by simpa using eZ.1 K A dk) ko n9 W
section
section
variable {ro:eR} {ops:Array Oper} {S S':ad} {r:List Oper} {L:List cx} {d:Nat} {x y z:Operand} {t ty:TypeId} {pos:String} {a6:Array Edge}
theorem cX{s f off:Nat}{u v:ai}{g0:List Nat}{bB:Nat×Bool}{c:Bool}(aM:mw ops S ⟨some d,.fieldAddr s x f,ty,pos,a6,some bB⟩=some (g0,c))(bf:gS prog s f off=true)(aX:cd S c x u)(aE:u.shift off=some v)(h:bI prog ro ops r ((ab d,.aB (.bB c v))::S) L S'):
 bI prog ro ops (⟨some d,.fieldAddr s x f,ty,pos,a6,some bB⟩::r) S (⟨cQ ⟨some d,.fieldAddr s x f,ty,pos,a6,some bB⟩++g0++([]:List Nat).map G,S,[(ab d,some (.aB (.bB c v)))],[]⟩::L) S':=cF [] aM (.fieldAddr bf aX aE) h
theorem dp{u:ai}{g0:List Nat}{bB:Nat×Bool}{c:Bool}(aM:mw ops S ⟨some d,.move x,ty,pos,a6,some bB⟩=some (g0,c))(aX:dK S x=some u)(h:bI prog ro ops r ((ab d,.aB (.bB c u))::S) L S'):
 bI prog ro ops (⟨some d,.move x,ty,pos,a6,some bB⟩::r) S (⟨cQ ⟨some d,.move x,ty,pos,a6,some bB⟩++g0++([]:List Nat).map G,S,[(ab d,some (.aB (.bB c u)))],[]⟩::L) S':=cF [] aM (.move (.dB aX)) h
theorem c6{op:BinOp}{k:IntKind}{m n:Int}{v:Bool}{t':TypeId}{g0:List Nat}{bB:Nat×Bool}{c:Bool}(aM:mw ops S ⟨some d,.binOp op t x y t',ty,pos,a6,some bB⟩=some (g0,c))(aX:dK S x=some (.bB c (aF k m)))(bu:cd S c y (aF k n))(aE:DQ op m n=some v)(h:bI prog ro ops r ((ab d,.aB (.bB c (bk v)))::S) L S'):
 bI prog ro ops (⟨some d,.binOp op t x y t',ty,pos,a6,some bB⟩::r) S (⟨cQ ⟨some d,.binOp op t x y t',ty,pos,a6,some bB⟩++g0++([]:List Nat).map G,S,[(ab d,some (.aB (.bB c (bk v))))],[]⟩::L) S':=cF [] aM (.qz (.bB aX fun h=>h) bu aE) h
theorem dP{l j:Nat}{ds:List bg}{v:bg}{n:Nat}{g0:List Nat}{bB:Nat×Bool}{c:Bool}(aM:mw ops S ⟨some d,.load t x,ty,pos,a6,some bB⟩=some (g0,c))(aT:dq prog t false n=true)(aX:dK S x=some (.bB c (.ao l j)))(ae:S.get (G l)=some (.U (.data ds)))(aE:ds[j]?=some v)(h:bI prog ro ops r ((ab d,.aB (.bB c (.d v)))::S) L S'):
 bI prog ro ops (⟨some d,.load t x,ty,pos,a6,some bB⟩::r) S (⟨cQ ⟨some d,.load t x,ty,pos,a6,some bB⟩++g0++[l].map G,S,[(ab d,some (.aB (.bB c (.d v))))],[]⟩::L) S':=cF [l] aM (.h2 aT (.bB aX fun h=>h) ae aE) h
theorem bH{c:Bool}{y:ai}(h:dK S x=some (.bB c y)):cd S c x y:=.bB h fun h=>h
theorem bW{n len:Nat}{g:Nat->List bg}{k:IntKind}{i:Int}(aT:lR prog t n=true)(aX:dK S x=some (.d (.cK n len g)))(bu:dK S y=some (aF k i))(h:bI prog ro ops r ((ab d,.aB (.cc (g i.toNat)))::S) L S')(hi:true=true->0<=i/\i.toNat<len:=by exact fun _=>⟨by omega,by omega⟩):
 bI prog ro ops (⟨some d,.indexAddr t x y,ty,pos,a6,none⟩::r) S (⟨cQ ⟨some d,.indexAddr t x y,ty,pos,a6,none⟩++[]++([]:List Nat).map G,S,[(ab d,some (.aB (.cc (g i.toNat))))],[]⟩::L) S':=cH [] (.pV aT (.dB aX) (.dB bu) hi) h
theorem cp{op:BinOp}{m n v:Int}{t':TypeId}(aX:dK S x=some (aF .i64 m))(bu:dK S y=some (aF .i64 n))(aE:nv op m n=some v)(h:bI prog ro ops r ((ab d,.aB (aF .i64 v))::S) L S')(ae:-9223372036854775808<=v/\v<=9223372036854775807:=by omega):
 bI prog ro ops (⟨some d,.binOp op t x y t',ty,pos,a6,none⟩::r) S (⟨cQ ⟨some d,.binOp op t x y t',ty,pos,a6,none⟩++[]++([]:List Nat).map G,S,[(ab d,some (.aB (aF .i64 v)))],[]⟩::L) S':=cH [] (.nv (.dB aX) (.dB bu) aE fun _=>iO ae) h
theorem eg{b p q c:Bool}(aX:dK S x=some (bk b))(bu:dK S y=some (.bB c (bk p)))(dV:dK S z=some (bk q))(h:bI prog ro ops r ((ab d,.aB (bk (bif b then p else q)))::S) L S')(aj:(true&&b)=true->c=true:=by simp):
 bI prog ro ops (⟨some d,.pick x y z,ty,pos,a6,none⟩::r) S (⟨cQ ⟨some d,.pick x y z,ty,pos,a6,none⟩++[]++([]:List Nat).map G,S,[(ab d,some (.aB (bk (bif b then p else q))))],[]⟩::L) S':=cH [] (.pick (.dB aX) (.bB bu aj) (.dB dV)) h
theorem gQ{b p q c:Bool}(aX:dK S x=some (bk b))(bu:dK S y=some (bk p))(dV:dK S z=some (.bB c (bk q)))(h:bI prog ro ops r ((ab d,.aB (bk (bif b then p else q)))::S) L S')(aj:(true&& !b)=true->c=true:=by simp):
 bI prog ro ops (⟨some d,.pick x y z,ty,pos,a6,none⟩::r) S (⟨cQ ⟨some d,.pick x y z,ty,pos,a6,none⟩++[]++([]:List Nat).map G,S,[(ab d,some (.aB (bk (bif b then p else q))))],[]⟩::L) S':=cH [] (.pick (.dB aX) (.dB bu) (.bB dV aj)) h
theorem ba{place:Nat->Option (Nat×Nat)}{l l' us:List ai}{i off:Nat}{u:ai}{r:List (Nat×Operand)}(e:dK S x=some u)(hu:u.jL=some us)(Z:place i=some (off,us.length))(h:r5 S place (j0 l off us) r l')(bJ:off+us.length<=l.length:=by exact cC D):r5 S place l ((i,x)::r) l':=.cons (.dB e) hu Z bJ h
theorem dZ{l j n:Nat}{cs us cs':List bg}{u:ai}{agg:Bool}(aT:dq prog t agg n=true)(aX:dK S x=some (.ao l j))(bu:dK S y=some u)(ae:S.get (G l)=some (.U (.data cs)))(hu:ri u=some us)(fV:j0 cs j us=cs')(h:bI prog ro ops r ((G l,.U (.data cs'))::S) L S')
 (af:us.length=n:=by rfl) (J:∀x∈us,(ai.d x).fk=true:=by first|exact eZ.1 D|simp[ai.fk,jo]) (az:j+n<=cs.length:=by exact cC D):
 bI prog ro ops (⟨none,.store t x y,ty,pos,a6,none⟩::r) S (⟨cQ ⟨none,.store t x y,ty,pos,a6,none⟩++[G l],S,[(G l,some (.U (.data cs')))],[]⟩::L) S':=bI.zM aT (.dB aX) (.dB bu) ae hu af J az fV h
theorem cL{l n:Nat}{cs us:List bg}{u:ai}{agg:Bool}(aT:dq prog t agg n=true)(aX:dK S x=some (.ao l 0))(bu:dK S y=some u)(ae:S.get (G l)=some (.U (.data cs)))(hu:ri u=some us)(h:bI prog ro ops r ((G l,.U (.data us))::S) L S')
 (af:us.length=n:=by rfl) (J:∀x∈us,(ai.d x).fk=true:=by first|exact eZ.1 D|simp[ai.fk,jo]) (az:0+n<=cs.length:=by exact cC D) (aa:cs.length=us.length:=by rfl):
 bI prog ro ops (⟨none,.store t x y,ty,pos,a6,none⟩::r) S (⟨cQ ⟨none,.store t x y,ty,pos,a6,none⟩++[G l],S,[(G l,some (.U (.data us)))],[]⟩::L) S':=bI.zM aT (.dB aX) (.dB bu) ae hu af J az (J0 aa) h
theorem iG{l j n:Nat}{cs us cs':List ai}{u:ai}{agg:Bool}(aT:dq prog t agg n=true)(aX:dK S x=some (.ao l j))(bu:dK S y=some u)(ae:S.get (G l)=some (.U (.cells cs)))(hu:u.jL=some us)(fV:j0 cs j us=cs')(h:bI prog ro ops r ((G l,.U (.cells cs'))::S) L S')
 (af:us.length=n:=by rfl) (J:∀x∈us,x.fk=true:=by first|exact eZ.1 D|simp[ai.fk,jo]) (az:j+n<=cs.length:=by exact cC D):
 bI prog ro ops (⟨none,.store t x y,ty,pos,a6,none⟩::r) S (⟨cQ ⟨none,.store t x y,ty,pos,a6,none⟩++[G l],S,[(G l,some (.U (.cells cs')))],[]⟩::L) S':=x7 aT (.dB aX) (.dB bu) ae hu af J az fV h
theorem cm{e:TypeId}(l:Nat){cq:List Value}(bd:cZ prog e cq)(bf:h7 ⟨cQ ⟨some d,.alloc e,ty,pos,a6,none⟩,S,fU [] l (.data (cq.map .v)) d (.ao l 0),[l]⟩ S=true)(h:bI prog ro ops r (S.after [] l (.data (cq.map .v)) d (.ao l 0)) L S'):
 bI prog ro ops (⟨some d,.alloc e,ty,pos,a6,none⟩::r) S (⟨cQ ⟨some d,.alloc e,ty,pos,a6,none⟩++([]:List Nat).map G,S,fU [] l (.data (cq.map .v)) d (.ao l 0),[l]⟩::L) S':=bI.alloc l [] (.data _) bd (VQ _) bf h
theorem cV{e:TypeId}(l:Nat){u:ai}{dl:List bg}(aX:dK S x=some u)(fV:ri u=some dl)(bf:h7 ⟨cQ ⟨some d,.box e x,ty,pos,a6,none⟩,S,fU [] l (.data dl) d (.ao l 0),[l]⟩ S=true)(h:bI prog ro ops r (S.after [] l (.data dl) d (.ao l 0)) L S'):
 bI prog ro ops (⟨some d,.box e x,ty,pos,a6,none⟩::r) S (⟨cQ ⟨some d,.box e x,ty,pos,a6,none⟩++([]:List Nat).map G,S,fU [] l (.data dl) d (.ao l 0),[l]⟩::L) S':=bI.VR l [] (.dB aX) fV bf h
end
theorem cf{S:ad}{c:Bool}{ts:Array TypeId}{g:FuncId}{ca:Operand}{hK:ai}(aX:dK S ca=some hK):jq S c ⟨.value (.func g),[ca].toArray,ts⟩ g [hK]:=jr (.cons (.dB aX) .nil)
theorem cn{S:ad}{c:Bool}{ts:Array TypeId}{g:FuncId}{ca a2:Operand}{hK jx:ai}(aX:dK S ca=some hK)(bu:dK S a2=some jx):jq S c ⟨.value (.func g),[ca,a2].toArray,ts⟩ g [hK,jx]:=jr (.cons (.dB aX) (.cons (.dB bu) .nil))
theorem hd{S:ad}{c:Bool}{ts:Array TypeId}{g:FuncId}{ca a2 a3:Operand}{hK jx nn:ai}(aX:dK S ca=some hK)(bu:dK S a2=some jx)(dV:dK S a3=some nn):jq S c ⟨.value (.func g),[ca,a2,a3].toArray,ts⟩ g [hK,jx,nn]:=jr (.cons (.dB aX) (.cons (.dB bu) (.cons (.dB dV) .nil)))
theorem aav{S:ad}{c:Bool}{ts:Array TypeId}{g:FuncId}{ca a2 a3 a4:Operand}{hK jx nn qQ:ai}(aX:dK S ca=some hK)(bu:dK S a2=some jx)(dV:dK S a3=some nn)(iw:dK S a4=some qQ):jq S c ⟨.value (.func g),[ca,a2,a3,a4].toArray,ts⟩ g [hK,jx,nn,qQ]:=jr (.cons (.dB aX) (.cons (.dB bu) (.cons (.dB dV) (.cons (.dB iw) .nil))))
theorem vK{S:ad}{c:Bool}{ts:Array TypeId}{g:FuncId}{ca a2 a3 a4 a5:Operand}{hK jx nn qQ xm:ai}(aX:dK S ca=some hK)(bu:dK S a2=some jx)(dV:dK S a3=some nn)(iw:dK S a4=some qQ)(sQ:dK S a5=some xm):jq S c ⟨.value (.func g),[ca,a2,a3,a4,a5].toArray,ts⟩ g [hK,jx,nn,qQ,xm]:=jr (.cons (.dB aX) (.cons (.dB bu) (.cons (.dB dV) (.cons (.dB iw) (.cons (.dB sQ) .nil)))))
theorem aaw{S:ad}{c:Bool}{ts:Array TypeId}{g:FuncId}{ca a2 a3 a4 a5 Bv RD:Operand}{hK jx nn qQ xm E8 RE:ai}(aX:dK S ca=some hK)(bu:dK S a2=some jx)(dV:dK S a3=some nn)(iw:dK S a4=some qQ)(sQ:dK S a5=some xm)(uB:dK S Bv=some E8)(Ld:dK S RD=some RE):jq S c ⟨.value (.func g),[ca,a2,a3,a4,a5,Bv,RD].toArray,ts⟩ g [hK,jx,nn,qQ,xm,E8,RE]:=jr (.cons (.dB aX) (.cons (.dB bu) (.cons (.dB dV) (.cons (.dB iw) (.cons (.dB sQ) (.cons (.dB uB) (.cons (.dB Ld) .nil)))))))
theorem jC.dy{S:ad}{m1 m2:Nat}{eA eu:cO}(J:S.get m1=some (.U eA))(W:S.get m2=some (.U eu)):jC S [(m1,.U eA),(m2,.U eu)]:=.cons J<|.cons W<|.nil
theorem jC.eC{S:ad}{m1 m2 m3:Nat}{eA eu e8:cO}(J:S.get m1=some (.U eA))(W:S.get m2=some (.U eu))(aH:S.get m3=some (.U e8)):jC S [(m1,.U eA),(m2,.U eu),(m3,.U e8)]:=.cons J<|.cons W<|.cons aH<|.nil
theorem jC.hf{S:ad}{m1 m2 m3 m4:Nat}{eA eu e8 gu:cO}(J:S.get m1=some (.U eA))(W:S.get m2=some (.U eu))(aH:S.get m3=some (.U e8))(aV:S.get m4=some (.U gu)):jC S [(m1,.U eA),(m2,.U eu),(m3,.U e8),(m4,.U gu)]:=.cons J<|.cons W<|.cons aH<|.cons aV<|.nil
theorem jC.tD{S:ad}{m1 m2 m3 m4 m5:Nat}{eA eu e8 gu hQ:cO}(J:S.get m1=some (.U eA))(W:S.get m2=some (.U eu))(aH:S.get m3=some (.U e8))(aV:S.get m4=some (.U gu))(db:S.get m5=some (.U hQ)):jC S [(m1,.U eA),(m2,.U eu),(m3,.U e8),(m4,.U gu),(m5,.U hQ)]:=.cons J<|.cons W<|.cons aH<|.cons aV<|.cons db<|.nil
theorem jC.jT{S:ad}{m1 m2 m3 m4 m5 m6:Nat}{eA eu e8 gu hQ jF:cO}(J:S.get m1=some (.U eA))(W:S.get m2=some (.U eu))(aH:S.get m3=some (.U e8))(aV:S.get m4=some (.U gu))(db:S.get m5=some (.U hQ))(fc:S.get m6=some (.U jF)):jC S [(m1,.U eA),(m2,.U eu),(m3,.U e8),(m4,.U gu),(m5,.U hQ),(m6,.U jF)]:=.cons J<|.cons W<|.cons aH<|.cons aV<|.cons db<|.cons fc<|.nil
theorem jC.sy{S:ad}{m1 m2 m3 m4 m5 m6 m7:Nat}{eA eu e8 gu hQ jF mj:cO}(J:S.get m1=some (.U eA))(W:S.get m2=some (.U eu))(aH:S.get m3=some (.U e8))(aV:S.get m4=some (.U gu))(db:S.get m5=some (.U hQ))(fc:S.get m6=some (.U jF))(gE:S.get m7=some (.U mj)):jC S [(m1,.U eA),(m2,.U eu),(m3,.U e8),(m4,.U gu),(m5,.U hQ),(m6,.U jF),(m7,.U mj)]:=.cons J<|.cons W<|.cons aH<|.cons aV<|.cons db<|.cons fc<|.cons gE<|.nil
theorem jC.kT{S:ad}{m1 m2 m3 m4 m5 m6 m7 m8:Nat}{eA eu e8 gu hQ jF mj rH:cO}(J:S.get m1=some (.U eA))(W:S.get m2=some (.U eu))(aH:S.get m3=some (.U e8))(aV:S.get m4=some (.U gu))(db:S.get m5=some (.U hQ))(fc:S.get m6=some (.U jF))(gE:S.get m7=some (.U mj))(h9:S.get m8=some (.U rH)):jC S [(m1,.U eA),(m2,.U eu),(m3,.U e8),(m4,.U gu),(m5,.U hQ),(m6,.U jF),(m7,.U mj),(m8,.U rH)]:=.cons J<|.cons W<|.cons aH<|.cons aV<|.cons db<|.cons fc<|.cons gE<|.cons h9<|.nil
theorem jC.Lw{S:ad}{m1 m2 m3 m4 m5 m6 m7 m8 m9 m10:Nat}{eA eu e8 gu hQ jF mj rH E9 Fa:cO}(J:S.get m1=some (.U eA))(W:S.get m2=some (.U eu))(aH:S.get m3=some (.U e8))(aV:S.get m4=some (.U gu))(db:S.get m5=some (.U hQ))(fc:S.get m6=some (.U jF))(gE:S.get m7=some (.U mj))(h9:S.get m8=some (.U rH))(nx:S.get m9=some (.U E9))(Lx:S.get m10=some (.U Fa)):jC S [(m1,.U eA),(m2,.U eu),(m3,.U e8),(m4,.U gu),(m5,.U hQ),(m6,.U jF),(m7,.U mj),(m8,.U rH),(m9,.U E9),(m10,.U Fa)]:=.cons J<|.cons W<|.cons aH<|.cons aV<|.cons db<|.cons fc<|.cons gE<|.cons h9<|.cons nx<|.cons Lx<|.nil
theorem ck{S r:ad}{m1 m2:Nat}{pj c2:dz}(J:S.get m1=some pj)(W:S.get m2=some c2)(t:ad.le r S):ad.le ((m1,pj)::(m2,c2)::r) S:=aZ J<|aZ W<|t
theorem da{S r:ad}{m1 m2 m3 m4:Nat}{pj c2 c3 c4:dz}(J:S.get m1=some pj)(W:S.get m2=some c2)(aH:S.get m3=some c3)(aV:S.get m4=some c4)(t:ad.le r S):ad.le ((m1,pj)::(m2,c2)::(m3,c3)::(m4,c4)::r) S:=aZ J<|aZ W<|aZ aH<|aZ aV<|t
theorem fs{S r:ad}{m1 m2 m3 m4 m5 m6 m7 m8:Nat}{pj c2 c3 c4 c5 RF RG RH:dz}(J:S.get m1=some pj)(W:S.get m2=some c2)(aH:S.get m3=some c3)(aV:S.get m4=some c4)(db:S.get m5=some c5)(fc:S.get m6=some RF)(gE:S.get m7=some RG)(h9:S.get m8=some RH)(t:ad.le r S):ad.le ((m1,pj)::(m2,c2)::(m3,c3)::(m4,c4)::(m5,c5)::(m6,RF)::(m7,RG)::(m8,RH)::r) S:=aZ J<|aZ W<|aZ aH<|aZ aV<|aZ db<|aZ fc<|aZ gE<|aZ h9<|t
theorem lf{S:ad}{c:Bool}{ts:Array TypeId}{g:FuncId}{f ca:Operand}{hK:ai}{cs:List ai}(e0:dK S f=some (.fn g cs))(aX:dK S ca=some hK):jq S c ⟨.value f,[ca].toArray,ts⟩ g ([hK]++cs):=zL (.dB e0) (.cons (.dB aX) .nil)
theorem kU{S:ad}{c:Bool}{ts:Array TypeId}{g:FuncId}{f ca a2:Operand}{hK jx:ai}{cs:List ai}(e0:dK S f=some (.fn g cs))(aX:dK S ca=some hK)(bu:dK S a2=some jx):jq S c ⟨.value f,[ca,a2].toArray,ts⟩ g ([hK,jx]++cs):=zL (.dB e0) (.cons (.dB aX) (.cons (.dB bu) .nil))
theorem HJ{S:ad}{c:Bool}{ts:Array TypeId}{g:FuncId}{f ca a2 a3:Operand}{hK jx nn:ai}{cs:List ai}(e0:dK S f=some (.fn g cs))(aX:dK S ca=some hK)(bu:dK S a2=some jx)(dV:dK S a3=some nn):jq S c ⟨.value f,[ca,a2,a3].toArray,ts⟩ g ([hK,jx,nn]++cs):=zL (.dB e0) (.cons (.dB aX) (.cons (.dB bu) (.cons (.dB dV) .nil)))
theorem mM.lg{S:ad}{m1:Nat}{eA:cO}(J:S.get (G m1)=some (.U eA)):mM S [(G m1,.U eA)]:=.cons J (bl.refl _)<|.nil
theorem mM.dy{S:ad}{m1 m2:Nat}{eA eu:cO}(J:S.get (G m1)=some (.U eA))(W:S.get (G m2)=some (.U eu)):mM S [(G m1,.U eA),(G m2,.U eu)]:=.cons J (bl.refl _)<|.cons W (bl.refl _)<|.nil
theorem mM.eC{S:ad}{m1 m2 m3:Nat}{eA eu e8:cO}(J:S.get (G m1)=some (.U eA))(W:S.get (G m2)=some (.U eu))(aH:S.get (G m3)=some (.U e8)):mM S [(G m1,.U eA),(G m2,.U eu),(G m3,.U e8)]:=.cons J (bl.refl _)<|.cons W (bl.refl _)<|.cons aH (bl.refl _)<|.nil
theorem mM.hf{S:ad}{m1 m2 m3 m4:Nat}{eA eu e8 gu:cO}(J:S.get (G m1)=some (.U eA))(W:S.get (G m2)=some (.U eu))(aH:S.get (G m3)=some (.U e8))(aV:S.get (G m4)=some (.U gu)):mM S [(G m1,.U eA),(G m2,.U eu),(G m3,.U e8),(G m4,.U gu)]:=.cons J (bl.refl _)<|.cons W (bl.refl _)<|.cons aH (bl.refl _)<|.cons aV (bl.refl _)<|.nil
theorem mM.tD{S:ad}{m1 m2 m3 m4 m5:Nat}{eA eu e8 gu hQ:cO}(J:S.get (G m1)=some (.U eA))(W:S.get (G m2)=some (.U eu))(aH:S.get (G m3)=some (.U e8))(aV:S.get (G m4)=some (.U gu))(db:S.get (G m5)=some (.U hQ)):mM S [(G m1,.U eA),(G m2,.U eu),(G m3,.U e8),(G m4,.U gu),(G m5,.U hQ)]:=.cons J (bl.refl _)<|.cons W (bl.refl _)<|.cons aH (bl.refl _)<|.cons aV (bl.refl _)<|.cons db (bl.refl _)<|.nil
theorem mM.jT{S:ad}{m1 m2 m3 m4 m5 m6:Nat}{eA eu e8 gu hQ jF:cO}(J:S.get (G m1)=some (.U eA))(W:S.get (G m2)=some (.U eu))(aH:S.get (G m3)=some (.U e8))(aV:S.get (G m4)=some (.U gu))(db:S.get (G m5)=some (.U hQ))(fc:S.get (G m6)=some (.U jF)):mM S [(G m1,.U eA),(G m2,.U eu),(G m3,.U e8),(G m4,.U gu),(G m5,.U hQ),(G m6,.U jF)]:=.cons J (bl.refl _)<|.cons W (bl.refl _)<|.cons aH (bl.refl _)<|.cons aV (bl.refl _)<|.cons db (bl.refl _)<|.cons fc (bl.refl _)<|.nil
theorem mM.sy{S:ad}{m1 m2 m3 m4 m5 m6 m7:Nat}{eA eu e8 gu hQ jF mj:cO}(J:S.get (G m1)=some (.U eA))(W:S.get (G m2)=some (.U eu))(aH:S.get (G m3)=some (.U e8))(aV:S.get (G m4)=some (.U gu))(db:S.get (G m5)=some (.U hQ))(fc:S.get (G m6)=some (.U jF))(gE:S.get (G m7)=some (.U mj)):mM S [(G m1,.U eA),(G m2,.U eu),(G m3,.U e8),(G m4,.U gu),(G m5,.U hQ),(G m6,.U jF),(G m7,.U mj)]:=.cons J (bl.refl _)<|.cons W (bl.refl _)<|.cons aH (bl.refl _)<|.cons aV (bl.refl _)<|.cons db (bl.refl _)<|.cons fc (bl.refl _)<|.cons gE (bl.refl _)<|.nil
theorem mM.kT{S:ad}{m1 m2 m3 m4 m5 m6 m7 m8:Nat}{eA eu e8 gu hQ jF mj rH:cO}(J:S.get (G m1)=some (.U eA))(W:S.get (G m2)=some (.U eu))(aH:S.get (G m3)=some (.U e8))(aV:S.get (G m4)=some (.U gu))(db:S.get (G m5)=some (.U hQ))(fc:S.get (G m6)=some (.U jF))(gE:S.get (G m7)=some (.U mj))(h9:S.get (G m8)=some (.U rH)):mM S [(G m1,.U eA),(G m2,.U eu),(G m3,.U e8),(G m4,.U gu),(G m5,.U hQ),(G m6,.U jF),(G m7,.U mj),(G m8,.U rH)]:=.cons J (bl.refl _)<|.cons W (bl.refl _)<|.cons aH (bl.refl _)<|.cons aV (bl.refl _)<|.cons db (bl.refl _)<|.cons fc (bl.refl _)<|.cons gE (bl.refl _)<|.cons h9 (bl.refl _)<|.nil
theorem mM.Lw{S:ad}{m1 m2 m3 m4 m5 m6 m7 m8 m9 m10:Nat}{eA eu e8 gu hQ jF mj rH E9 Fa:cO}(J:S.get (G m1)=some (.U eA))(W:S.get (G m2)=some (.U eu))(aH:S.get (G m3)=some (.U e8))(aV:S.get (G m4)=some (.U gu))(db:S.get (G m5)=some (.U hQ))(fc:S.get (G m6)=some (.U jF))(gE:S.get (G m7)=some (.U mj))(h9:S.get (G m8)=some (.U rH))(nx:S.get (G m9)=some (.U E9))(Lx:S.get (G m10)=some (.U Fa)):mM S [(G m1,.U eA),(G m2,.U eu),(G m3,.U e8),(G m4,.U gu),(G m5,.U hQ),(G m6,.U jF),(G m7,.U mj),(G m8,.U rH),(G m9,.U E9),(G m10,.U Fa)]:=.cons J (bl.refl _)<|.cons W (bl.refl _)<|.cons aH (bl.refl _)<|.cons aV (bl.refl _)<|.cons db (bl.refl _)<|.cons fc (bl.refl _)<|.cons gE (bl.refl _)<|.cons h9 (bl.refl _)<|.cons nx (bl.refl _)<|.cons Lx (bl.refl _)<|.nil
theorem lX.lg{S:ad}{m1:Nat}{eA:ai}(J:S.get (ab m1)=some (.aB eA)):lX S [(m1,eA)]:=.cons J<|.nil
theorem lX.dy{S:ad}{m1 m2:Nat}{eA eu:ai}(J:S.get (ab m1)=some (.aB eA))(W:S.get (ab m2)=some (.aB eu)):lX S [(m1,eA),(m2,eu)]:=.cons J<|.cons W<|.nil
theorem lX.eC{S:ad}{m1 m2 m3:Nat}{eA eu e8:ai}(J:S.get (ab m1)=some (.aB eA))(W:S.get (ab m2)=some (.aB eu))(aH:S.get (ab m3)=some (.aB e8)):lX S [(m1,eA),(m2,eu),(m3,e8)]:=.cons J<|.cons W<|.cons aH<|.nil
theorem lX.hf{S:ad}{m1 m2 m3 m4:Nat}{eA eu e8 gu:ai}(J:S.get (ab m1)=some (.aB eA))(W:S.get (ab m2)=some (.aB eu))(aH:S.get (ab m3)=some (.aB e8))(aV:S.get (ab m4)=some (.aB gu)):lX S [(m1,eA),(m2,eu),(m3,e8),(m4,gu)]:=.cons J<|.cons W<|.cons aH<|.cons aV<|.nil
theorem lX.tD{S:ad}{m1 m2 m3 m4 m5:Nat}{eA eu e8 gu hQ:ai}(J:S.get (ab m1)=some (.aB eA))(W:S.get (ab m2)=some (.aB eu))(aH:S.get (ab m3)=some (.aB e8))(aV:S.get (ab m4)=some (.aB gu))(db:S.get (ab m5)=some (.aB hQ)):lX S [(m1,eA),(m2,eu),(m3,e8),(m4,gu),(m5,hQ)]:=.cons J<|.cons W<|.cons aH<|.cons aV<|.cons db<|.nil
theorem lX.jT{S:ad}{m1 m2 m3 m4 m5 m6:Nat}{eA eu e8 gu hQ jF:ai}(J:S.get (ab m1)=some (.aB eA))(W:S.get (ab m2)=some (.aB eu))(aH:S.get (ab m3)=some (.aB e8))(aV:S.get (ab m4)=some (.aB gu))(db:S.get (ab m5)=some (.aB hQ))(fc:S.get (ab m6)=some (.aB jF)):lX S [(m1,eA),(m2,eu),(m3,e8),(m4,gu),(m5,hQ),(m6,jF)]:=.cons J<|.cons W<|.cons aH<|.cons aV<|.cons db<|.cons fc<|.nil
theorem lX.sy{S:ad}{m1 m2 m3 m4 m5 m6 m7:Nat}{eA eu e8 gu hQ jF mj:ai}(J:S.get (ab m1)=some (.aB eA))(W:S.get (ab m2)=some (.aB eu))(aH:S.get (ab m3)=some (.aB e8))(aV:S.get (ab m4)=some (.aB gu))(db:S.get (ab m5)=some (.aB hQ))(fc:S.get (ab m6)=some (.aB jF))(gE:S.get (ab m7)=some (.aB mj)):lX S [(m1,eA),(m2,eu),(m3,e8),(m4,gu),(m5,hQ),(m6,jF),(m7,mj)]:=.cons J<|.cons W<|.cons aH<|.cons aV<|.cons db<|.cons fc<|.cons gE<|.nil
theorem lX.kT{S:ad}{m1 m2 m3 m4 m5 m6 m7 m8:Nat}{eA eu e8 gu hQ jF mj rH:ai}(J:S.get (ab m1)=some (.aB eA))(W:S.get (ab m2)=some (.aB eu))(aH:S.get (ab m3)=some (.aB e8))(aV:S.get (ab m4)=some (.aB gu))(db:S.get (ab m5)=some (.aB hQ))(fc:S.get (ab m6)=some (.aB jF))(gE:S.get (ab m7)=some (.aB mj))(h9:S.get (ab m8)=some (.aB rH)):lX S [(m1,eA),(m2,eu),(m3,e8),(m4,gu),(m5,hQ),(m6,jF),(m7,mj),(m8,rH)]:=.cons J<|.cons W<|.cons aH<|.cons aV<|.cons db<|.cons fc<|.cons gE<|.cons h9<|.nil
theorem dr{e:Exit}{S':ad}{t:Nat}{x res:ai}(aE:S'.get (ab t)=some (.aB x))(h:res=kO [x])(he:e= .normal\/e= .ret:=by first|exact .inr D|exact .inl D):(e= .normal\/e= .ret)/\(∃xs,oD prog S' [.tmp t] xs/\res=kO xs)/\∀l B,ad.get [] (G l)=some (.U B)->S'.get (G l)=some (.U B):=⟨he,⟨_,.cons (.tmp aE) .nil,h⟩,by simp[ad.get]⟩
theorem uM{e:Exit}{S':ad}{t1 t2:Nat}{hK jx res:ai}(aX:S'.get (ab t1)=some (.aB hK))(bu:S'.get (ab t2)=some (.aB jx))(h:res=kO [hK,jx])(he:e= .normal\/e= .ret:=by first|exact .inr D|exact .inl D):(e= .normal\/e= .ret)/\(∃xs,oD prog S' [.tmp t1,.tmp t2] xs/\res=kO xs)/\∀l B,ad.get [] (G l)=some (.U B)->S'.get (G l)=some (.U B):=⟨he,⟨_,.cons (.tmp aX) (.cons (.tmp bu) (.nil)),h⟩,by simp[ad.get]⟩
theorem ml{e:Exit}{S':ad}{t1 t2 t3 t4:Nat}{hK jx nn qQ res:ai}(aX:S'.get (ab t1)=some (.aB hK))(bu:S'.get (ab t2)=some (.aB jx))(dV:S'.get (ab t3)=some (.aB nn))(iw:S'.get (ab t4)=some (.aB qQ))(h:res=kO [hK,jx,nn,qQ])(he:e= .normal\/e= .ret:=by first|exact .inr D|exact .inl D):(e= .normal\/e= .ret)/\(∃xs,oD prog S' [.tmp t1,.tmp t2,.tmp t3,.tmp t4] xs/\res=kO xs)/\∀l B,ad.get [] (G l)=some (.U B)->S'.get (G l)=some (.U B):=⟨he,⟨_,.cons (.tmp aX) (.cons (.tmp bu) (.cons (.tmp dV) (.cons (.tmp iw) (.nil)))),h⟩,by simp[ad.get]⟩
section
variable {ro:eR} {ops:Array Oper} {S S':ad} {l:List Oper} {c:Bool} {d:Option Nat} {x y:Operand} {t ty t':TypeId} {pos:String} {a6:Array Edge} {bB:Option (Nat×Bool)}
theorem eN{n len:Nat}{g:Nat->List bg}{k:IntKind}{i:Int}(aT:lR prog t n=true)(aX:dK S x=some (.d (.cK n len g)))(bu:dK S y=some (aF k i))(hi:c=true->0<=i/\i.toNat<len:=by exact fun _=>⟨by omega,by omega⟩):Pure prog S [] ⟨d,.indexAddr t x y,ty,pos,a6,bB⟩ c (.cc (g i.toNat)):=.pV aT (.dB aX) (.dB bu) hi
theorem ib{op:BinOp}{k:IntKind}{m n:Int}{r:Bool}(aX:dK S x=some (aF k m))(bu:dK S y=some (aF k n))(aE:DQ op m n=some r):Pure prog S [] ⟨d,.binOp op t x y t',ty,pos,a6,bB⟩ c (bk r):=.qz (.dB aX) (.dB bu) aE
theorem mQ{l j:Nat}{ds:List bg}{r:bg}{n:Nat}(aT:dq prog t false n=true)(aX:dK S x=some (.ao l j))(ae:S.get (G l)=some (.U (.data ds)))(aE:ds[j]?=some r):Pure prog S [l] ⟨d,.load t x,ty,pos,a6,bB⟩ c (.d r):=.h2 aT (.dB aX) ae aE
theorem aN{lI:List cx->List cx}(k:Nat)(h:oP k l S (fun L=>L)=some ([],S',lI)):bI prog ro ops l S (lI []) S':=O k h (.nil _)
theorem I{u:ai}(h:dK S x=some u):cd S c x u:=.dB h
theorem ag{u:ai}{op:Op}{r:List Oper}{d:Nat}{L:List cx}(Z:Pure prog S [] ⟨some d,op,ty,pos,a6,none⟩ true u)(h:bI prog ro ops r ((ab d,.aB u)::S) L S'):bI prog ro ops (⟨some d,op,ty,pos,a6,none⟩::r) S (⟨cQ ⟨some d,op,ty,pos,a6,none⟩++[]++([]:List Nat).map G,S,[(ab d,some (.aB u))],[]⟩::L) S':=cH [] Z h
theorem aU:ad.le [] S:=Wk S
theorem ar:bI prog ro ops [] S [] S:=.nil _
end
section
variable {ro:eR} {ops:Array Oper} {E:c7} {S S':ad} {L:List cx} {id cg:Nat} {aA:List Nat} {Q:Exit->ad->Prop} {y:Code}
theorem gI{c:Code}{T:ad}(a b:Nat)(fz:S.BI a b=T)(h:c8 prog ro E c T Q)(K:E.aA=aA:=by assumption)(aC:a∉aA:=by decide)(ae:b∉aA:=by decide):c8 prog ro E c S Q:=c1 (b1.swap a b (by rw[K];exact aC) (by rw[K];exact ae) fz) h
theorem bR(K:E.aA=aA:=by assumption)(af:E.cg=cg:=by assumption)(h:L.all (wx aA cg)=true:=by exact rfl):mu E L:=nM K af h
theorem aL(k:Nat){ed:ad}{lI:List cx->List cx}(h:oP k ops.toList S (fun L=>L)=some ([],ed,lI))(bA:c8 prog ro E y ed Q)(K:E.aA=aA:=by assumption)(af:E.cg=cg:=by assumption)(bJ:(lI []).all (wx aA cg)=true:=by exact rfl):c8 prog ro E (.seq (.region id ops false) y) S Q:=al (dm (O k h (.nil _)) (nM K af bJ) bA)
theorem fS(k:Nat){ed:ad}{lI:List cx->List cx}(h:oP k ops.toList S (fun L=>L)=some ([],ed,lI))(bA:Q .normal ed)(K:E.aA=aA:=by assumption)(af:E.cg=cg:=by assumption)(bJ:(lI []).all (wx aA cg)=true:=by exact rfl):c8 prog ro E (.region id ops false) S Q:=dm (O k h (.nil _)) (nM K af bJ) bA
theorem bm(h:bI prog ro ops ops.toList S L S')(bA:Q .normal S')(K:E.aA=aA:=by assumption)(af:E.cg=cg:=by assumption)(bJ:L.all (wx aA cg)=true:=by exact rfl):c8 prog ro E (.region id ops false) S Q:=dm h (nM K af bJ) bA
theorem aO(h:bI prog ro ops ops.toList S L S')(bA:c8 prog ro E y S' Q)(K:E.aA=aA:=by assumption)(af:E.cg=cg:=by assumption)(bJ:L.all (wx aA cg)=true:=by exact rfl):c8 prog ro E (.seq (.region id ops false) y) S Q:=al (dm h (nM K af bJ) bA)
theorem eo(h:bI prog ro ops ops.toList S L S')(bA:Q .normal S')(K:E.aA=aA:=by assumption)(af:E.cg=cg:=by assumption)(aq:wy ops.toList S L=true:=by exact rfl)(bJ:L.all (wx aA cg)=true:=by exact rfl):c8 prog ro E (.region id ops true) S Q:=xZ mixed h aq (nM K af bJ) bA
theorem ft(h:bI prog ro ops ops.toList S L S')(bA:c8 prog ro E y S' Q)(K:E.aA=aA:=by assumption)(af:E.cg=cg:=by assumption)(aq:wy ops.toList S L=true:=by exact rfl)(bJ:L.all (wx aA cg)=true:=by exact rfl):c8 prog ro E (.seq (.region id ops true) y) S Q:=al (xZ mixed h aq (nM K af bJ) bA)
end
section
variable {f:FuncId} {fn:Func} {c:Code} {args:List ai} {aS a8 cw:ad} {res:ai} {aA:List Nat}
theorem cB(rs:List ResultVar)(bf:prog.funcs[f]?=some fn)(ae:fn.body=some c)(mA:fn.results=rs.toArray)
 (h:∀E:c7,E.aA=aA->E.cg=fn.ntmps->c8 prog {} E c (j2 0 args++aS) fun e S'=>(e= .normal\/e= .ret)/\(∃xs,oD prog S' rs xs/\res=kO xs)/\∀l B,a8.get (G l)=some (.U B)->S'.get (G l)=some (.U B))
 (af:args.length<=fn.ntmps:=by exact cC D) (cP:∀n c,aS.get n=some c->n%2=1:=by first|exact lD D|simp[ad.get]):bw prog f args aS res a8 aA:=VY bf ae mA af cP h
theorem kq{X:List PanicEntry->Prop}(rs:List ResultVar)(bf:prog.funcs[f]?=some fn)(ae:fn.body=some c)(mA:fn.results=rs.toArray)
 (h:∀E:c7,E.aA=aA->E.cg=fn.ntmps->c8 prog {gm:=fun x=>X x.1/\∀l B,cw.get (G l)=some (.U B)->∃dS,x.2.get (G l)=some (.U dS)/\bl dS B} E c (j2 0 args++aS) fun e S'=>(e= .normal\/e= .ret)/\(∃xs,oD prog S' rs xs/\∀V M v,bU V M (kO xs) v->bU V M res v)/\∀l B,a8.get (G l)=some (.U B)->∃dS,S'.get (G l)=some (.U dS)/\bl dS B)
 (af:args.length<=fn.ntmps:=by exact cC D) (cP:∀n c,aS.get n=some c->n%2=1:=by first|exact lD D|simp[ad.get]):fC prog f args aS res a8 aA X cw:=YW bf ae mA af cP h
theorem hr{ι:Type}{Φ:ι->Prop}{X:List PanicEntry->Prop}{a8:ι->ad}{res:ι->ai}(rs:List ResultVar)(bf:prog.funcs[f]?=some fn)(ae:fn.body=some c)(mA:fn.results=rs.toArray)
 (h:∀E:c7,E.aA=aA->E.cg=fn.ntmps->c8 prog {gm:=fun x=>X x.1/\∀l B,cw.get (G l)=some (.U B)->∃dS,x.2.get (G l)=some (.U dS)/\bl dS B} E c (j2 0 args++aS) fun e S'=>(e= .normal\/e= .ret)/\∃i,Φ i/\(∃xs,oD prog S' rs xs/\∀V M v,bU V M (kO xs) v->bU V M (res i) v)/\∀l B,(a8 i).get (G l)=some (.U B)->∃dS,S'.get (G l)=some (.U dS)/\bl dS B)
 (af:args.length<=fn.ntmps:=by exact cC D) (cP:∀n c,aS.get n=some c->n%2=1:=by first|exact lD D|simp[ad.get]):dI prog f args aS Φ res a8 aA X cw:=Zt bf ae mA af cP h
end
theorem eJ{i n:Nat}(h:decide ((i:Int)<(n:Int))=true):i<n:=by have:=cJ h;omega
theorem fD{i n:Nat}(h:i<n):n-(i+1)<n-i:=by omega
def RI:List Nat:=[4,5,6,7,8,9,10,11,12,13,14,15,16,17,18,19,20,21,22,23,24,25,26,27,28,29,30,31,32,33,34,35,36,37,38,39,40,41,42,43,44,45,46,47,48,49,50,51,52,53,54,55,56,57,58,59,60,61,62,63,64,65,66,67,68,69,70,71,72,73,74,75,76,77,78,79,80,81,82,83,84,85,86,87,88,89,90,91,92,93,94,95,96,97,98,99,100,101,102,103,104,105,106,108,109,110,111,112,113,114,115,116,117,118,119,120,121,122,123,124,125,126,127,128,129,130,131,132,133,134,135,136,137,138,139,140,141,142,143,144,145,146,147,148,149,150,151,152,153,154,155,156,157,158,159,160,161,162,163,164,166,167,173,174,175,176,177,178,179,180,181,182,183,184,185,186,187,188,189,190,191,192,193,194,195,196,197,198,199,200,201,202,203,204,205,206,207,208,209,210,211,223,224,225,226,227,228,229,230,231,232,233,234,235,236,237,238,239,240,241,242,243,244,245,246,256,257,265,268,269,270,271]
theorem aax:(RI.all fun f=>hS prog f)=true:=by kernel_rfl
theorem au{f:Nat}(h:hx f RI=true):hS prog f=true:=eZ.1 aax f (h6.1 h)
end
section
open Go Go.Shelf
def aay:Go.Shelf.Ren:=⟨fun|143=>107|144=>61|217=>172|219=>165|224=>213|225=>212|266=>222|267=>214|314=>247|n=>n,fun|3=>3|4=>4|5=>5|9=>9|46=>243|51=>255|146=>256|n=>n,fun|1=>0|n=>n⟩
theorem aaz:Lays.n144 prog aay:={
 mixed:=by kernel_rfl
 f143:=func107.trans (congrArg some (by kernel_rfl))
 f144:=func61.trans (congrArg some (by kernel_rfl))
 f217:=func172.trans (congrArg some (by kernel_rfl))
 f219:=func165.trans (congrArg some (by kernel_rfl))
 f224:=func213.trans (congrArg some (by kernel_rfl))
 f225:=func212.trans (congrArg some (by kernel_rfl))
 f266:=func222.trans (congrArg some (by kernel_rfl))
 f267:=func214.trans (congrArg some (by kernel_rfl))
 f314:=func247.trans (congrArg some (by kernel_rfl))
 t3:=underlying3
 a3:=Tryz.isAgg3
 z3:=Tryz.sizeOf3
 v3:=Tryz.zeroValue3
 t4:=underlying4
 a4:=Tryz.isAgg4
 z4:=Tryz.sizeOf4
 v4:=Tryz.zeroValue4
 t5:=underlying5
 a5:=Tryz.isAgg5
 z5:=Tryz.sizeOf5
 v5:=Tryz.zeroValue5
 t9:=underlying9
 a9:=Tryz.isAgg9
 z9:=Tryz.sizeOf9
 v9:=Tryz.zeroValue9
 t46:=underlying243
 a46:=Tryz.isAgg243
 z46:=Tryz.sizeOf243
 v46:=Tryz.zeroValue243
 t51:=underlying255
 a51:=Tryz.isAgg255
 z51:=Tryz.sizeOf255
 v51:=Tryz.zeroValue255
 t146:=underlying256
 a146:=Tryz.isAgg256
 z146:=Tryz.sizeOf256
 v146:=Tryz.zeroValue256
 g1:=by kernel_rfl}
def aaA:Go.Shelf.Ren:=⟨fun|129=>261|171=>113|172=>112|205=>250|243=>170|244=>168|245=>169|246=>221|247=>216|279=>217|280=>218|281=>219|282=>220|283=>251|284=>252|285=>253|286=>254|287=>248|316=>249|317=>260|318=>262|319=>263|320=>264|321=>258|322=>259|337=>266|338=>267|n=>n,fun|0=>0|2=>2|3=>3|4=>4|5=>5|9=>9|20=>20|21=>21|37=>23|46=>243|51=>255|53=>258|75=>195|76=>196|80=>201|85=>246|127=>273|143=>274|145=>276|167=>245|168=>248|171=>265|173=>268|175=>259|210=>263|212=>278|213=>279|232=>282|233=>283|n=>n,fun|15=>2|16=>3|17=>4|18=>5|19=>6|n=>n⟩
theorem HK:LaysC.n172 prog aaA:={
 mixed:=by kernel_rfl
 f129:=func261.trans (congrArg some (by kernel_rfl))
 f171:=func113.trans (congrArg some (by kernel_rfl))
 f172:=func112.trans (congrArg some (by kernel_rfl))
 f205:=func250.trans (congrArg some (by kernel_rfl))
 f243:=func170.trans (congrArg some (by kernel_rfl))
 f244:=func168.trans (congrArg some (by kernel_rfl))
 f245:=func169.trans (congrArg some (by kernel_rfl))
 f246:=func221.trans (congrArg some (by kernel_rfl))
 f247:=func216.trans (congrArg some (by kernel_rfl))
 f279:=func217.trans (congrArg some (by kernel_rfl))
 f280:=func218.trans (congrArg some (by kernel_rfl))
 f281:=func219.trans (congrArg some (by kernel_rfl))
 f282:=func220.trans (congrArg some (by kernel_rfl))
 f283:=func251.trans (congrArg some (by kernel_rfl))
 f284:=func252.trans (congrArg some (by kernel_rfl))
 f285:=func253.trans (congrArg some (by kernel_rfl))
 f286:=func254.trans (congrArg some (by kernel_rfl))
 f287:=func248.trans (congrArg some (by kernel_rfl))
 f316:=func249.trans (congrArg some (by kernel_rfl))
 f317:=func260.trans (congrArg some (by kernel_rfl))
 f318:=func262.trans (congrArg some (by kernel_rfl))
 f319:=func263.trans (congrArg some (by kernel_rfl))
 f320:=func264.trans (congrArg some (by kernel_rfl))
 f321:=func258.trans (congrArg some (by kernel_rfl))
 f322:=func259.trans (congrArg some (by kernel_rfl))
 f337:=func266.trans (congrArg some (by kernel_rfl))
 f338:=func267.trans (congrArg some (by kernel_rfl))
 t0:=underlying0
 a0:=Tryz.isAgg0
 z0:=Tryz.sizeOf0
 v0:=Tryz.zeroValue0
 t2:=underlying2
 a2:=Tryz.isAgg2
 z2:=Tryz.sizeOf2
 v2:=Tryz.zeroValue2
 t3:=underlying3
 a3:=Tryz.isAgg3
 z3:=Tryz.sizeOf3
 v3:=Tryz.zeroValue3
 t4:=underlying4
 a4:=Tryz.isAgg4
 z4:=Tryz.sizeOf4
 v4:=Tryz.zeroValue4
 t5:=underlying5
 a5:=Tryz.isAgg5
 z5:=Tryz.sizeOf5
 v5:=Tryz.zeroValue5
 t9:=underlying9
 a9:=Tryz.isAgg9
 z9:=Tryz.sizeOf9
 v9:=Tryz.zeroValue9
 t20:=underlying20
 a20:=Tryz.isAgg20
 z20:=Tryz.sizeOf20
 v20:=Tryz.zeroValue20
 t21:=underlying21
 a21:=Tryz.isAgg21
 z21:=Tryz.sizeOf21
 v21:=Tryz.zeroValue21
 t37:=underlying23
 a37:=Tryz.isAgg23
 z37:=Tryz.sizeOf23
 v37:=Tryz.zeroValue23
 t46:=underlying243
 a46:=Tryz.isAgg243
 z46:=Tryz.sizeOf243
 v46:=Tryz.zeroValue243
 t51:=underlying255
 a51:=Tryz.isAgg255
 z51:=Tryz.sizeOf255
 v51:=Tryz.zeroValue255
 t53:=underlying258
 a53:=Tryz.isAgg258
 z53:=Tryz.sizeOf258
 v53:=Tryz.zeroValue258
 t75:=underlying195
 a75:=Tryz.isAgg195
 z75:=Tryz.sizeOf195
 v75:=Tryz.zeroValue195
 t76:=underlying196
 a76:=Tryz.isAgg196
 z76:=Tryz.sizeOf196
 v76:=Tryz.zeroValue196
 t85:=underlying246
 a85:=Tryz.isAgg246
 z85:=Tryz.sizeOf246
 v85:=Tryz.zeroValue246
 t127:=underlying273
 a127:=Tryz.isAgg273
 z127:=Tryz.sizeOf273
 v127:=Tryz.zeroValue273
 t143:=underlying274
 a143:=Tryz.isAgg274
 z143:=Tryz.sizeOf274
 v143:=Tryz.zeroValue274
 t145:=underlying276
 a145:=Tryz.isAgg276
 z145:=Tryz.sizeOf276
 v145:=Tryz.zeroValue276
 t167:=underlying245
 a167:=Tryz.isAgg245
 z167:=Tryz.sizeOf245
 v167:=Tryz.zeroValue245
 t168:=underlying248
 a168:=Tryz.isAgg248
 z168:=Tryz.sizeOf248
 v168:=Tryz.zeroValue248
 t171:=underlying265
 a171:=Tryz.isAgg265
 z171:=Tryz.sizeOf265
 v171:=Tryz.zeroValue265
 t173:=underlying268
 a173:=Tryz.isAgg268
 z173:=Tryz.sizeOf268
 v173:=Tryz.zeroValue268
 t175:=underlying259
 a175:=Tryz.isAgg259
 z175:=Tryz.sizeOf259
 v175:=Tryz.zeroValue259
 t210:=underlying263
 a210:=Tryz.isAgg263
 z210:=Tryz.sizeOf263
 v210:=Tryz.zeroValue263
 t212:=underlying278
 a212:=Tryz.isAgg278
 z212:=Tryz.sizeOf278
 v212:=Tryz.zeroValue278
 t213:=underlying279
 a213:=Tryz.isAgg279
 z213:=Tryz.sizeOf279
 t232:=underlying282
 a232:=Tryz.isAgg282
 z232:=Tryz.sizeOf282
 v232:=Tryz.zeroValue282
 t233:=underlying283
 a233:=Tryz.isAgg283
 z233:=Tryz.sizeOf283
 v233:=Tryz.zeroValue283
 g15:=by kernel_rfl
 g16:=by kernel_rfl
 g17:=by kernel_rfl
 g18:=by kernel_rfl
 g19:=by kernel_rfl
 t80:=underlying201
 a80:=Tryz.isAgg201
 z80:=Tryz.sizeOf201
 v80:=Tryz.zeroValue201
 i0:=by kernel_rfl
 i2:=by kernel_rfl
 i3:=by kernel_rfl
 i4:=by kernel_rfl
 i5:=by kernel_rfl
 i9:=by kernel_rfl
 i20:=by kernel_rfl
 i21:=by kernel_rfl
 i37:=by kernel_rfl
 i46:=by kernel_rfl
 i51:=by kernel_rfl
 i53:=by kernel_rfl
 i75:=by kernel_rfl
 i76:=by kernel_rfl
 i80:=by kernel_rfl
 i85:=by kernel_rfl
 i127:=by kernel_rfl
 i143:=by kernel_rfl
 i145:=by kernel_rfl
 i167:=by kernel_rfl
 i168:=by kernel_rfl
 i171:=by kernel_rfl
 i173:=by kernel_rfl
 i175:=by kernel_rfl
 i210:=by kernel_rfl
 i212:=by kernel_rfl
 i232:=by kernel_rfl
 i233:=by kernel_rfl
 m15:=by kernel_rfl
 m16:=by kernel_rfl
 m17:=by kernel_rfl
 m18:=by kernel_rfl
 m19:=by kernel_rfl
 c0:=by kernel_rfl
 c2:=by kernel_rfl
 c3:=by kernel_rfl
 c4:=by kernel_rfl
 c5:=by kernel_rfl
 c9:=by kernel_rfl
 c20:=by kernel_rfl
 c21:=by kernel_rfl
 c37:=by kernel_rfl
 c46:=by kernel_rfl
 c51:=by kernel_rfl
 c53:=by kernel_rfl
 c75:=by kernel_rfl
 c76:=by kernel_rfl
 c80:=by kernel_rfl
 c85:=by kernel_rfl
 c127:=by kernel_rfl
 c143:=by kernel_rfl
 c145:=by kernel_rfl
 c167:=by kernel_rfl
 c168:=by kernel_rfl
 c171:=by kernel_rfl
 c173:=by kernel_rfl
 c175:=by kernel_rfl
 c210:=by kernel_rfl
 c212:=by kernel_rfl
 c213:=by kernel_rfl
 c232:=by kernel_rfl
 c233:=by kernel_rfl}
def aaB:Go.Shelf.Ren:=⟨fun|99=>114|206=>171|n=>n,fun|3=>3|4=>4|9=>9|n=>n,fun n=>n⟩
theorem aaC:Lays.n99 prog aaB:={
 mixed:=by kernel_rfl
 f99:=func114.trans (congrArg some (by kernel_rfl))
 f206:=func171.trans (congrArg some (by kernel_rfl))
 t3:=underlying3
 a3:=Tryz.isAgg3
 z3:=Tryz.sizeOf3
 v3:=Tryz.zeroValue3
 t4:=underlying4
 a4:=Tryz.isAgg4
 z4:=Tryz.sizeOf4
 v4:=Tryz.zeroValue4
 t9:=underlying9
 a9:=Tryz.isAgg9
 z9:=Tryz.sizeOf9
 v9:=Tryz.zeroValue9}
def aaD:Go.Shelf.Ren:=⟨fun|137=>115|217=>172|266=>222|n=>n,fun|3=>3|5=>5|9=>9|n=>n,fun n=>n⟩
theorem aaE:Lays.n137 prog aaD:={
 mixed:=by kernel_rfl
 f137:=func115.trans (congrArg some (by kernel_rfl))
 f217:=func172.trans (congrArg some (by kernel_rfl))
 f266:=func222.trans (congrArg some (by kernel_rfl))
 t3:=underlying3
 a3:=Tryz.isAgg3
 z3:=Tryz.sizeOf3
 v3:=Tryz.zeroValue3
 t5:=underlying5
 a5:=Tryz.isAgg5
 z5:=Tryz.sizeOf5
 v5:=Tryz.zeroValue5
 t9:=underlying9
 a9:=Tryz.isAgg9
 z9:=Tryz.sizeOf9
 v9:=Tryz.zeroValue9}
def aaF:Go.Shelf.Ren:=⟨fun|109=>255|110=>224|n=>n,fun|0=>0|3=>3|4=>4|9=>9|31=>126|n=>n,fun n=>n⟩
theorem RJ:Lays.n110 prog aaF:={
 mixed:=by kernel_rfl
 f109:=func255.trans (congrArg some (by kernel_rfl))
 f110:=func224.trans (congrArg some (by kernel_rfl))
 t0:=underlying0
 a0:=Tryz.isAgg0
 z0:=Tryz.sizeOf0
 v0:=Tryz.zeroValue0
 t3:=underlying3
 a3:=Tryz.isAgg3
 z3:=Tryz.sizeOf3
 v3:=Tryz.zeroValue3
 t4:=underlying4
 a4:=Tryz.isAgg4
 z4:=Tryz.sizeOf4
 v4:=Tryz.zeroValue4
 t9:=underlying9
 a9:=Tryz.isAgg9
 z9:=Tryz.sizeOf9
 v9:=Tryz.zeroValue9
 t31:=underlying126
 a31:=Tryz.isAgg126
 z31:=Tryz.sizeOf126
 v31:=Tryz.zeroValue126}
def aaG:Go.Shelf.Ren:=⟨fun|107=>166|108=>215|n=>n,fun|0=>0|3=>3|4=>4|28=>22|n=>n,fun n=>n⟩
theorem RL:Lays.n107 prog aaG:={
 mixed:=by kernel_rfl
 f107:=func166.trans (congrArg some (by kernel_rfl))
 f108:=func215.trans (congrArg some (by kernel_rfl))
 t0:=underlying0
 a0:=Tryz.isAgg0
 z0:=Tryz.sizeOf0
 v0:=Tryz.zeroValue0
 t3:=underlying3
 a3:=Tryz.isAgg3
 z3:=Tryz.sizeOf3
 v3:=Tryz.zeroValue3
 t4:=underlying4
 a4:=Tryz.isAgg4
 z4:=Tryz.sizeOf4
 v4:=Tryz.zeroValue4
 t28:=underlying22
 a28:=Tryz.isAgg22
 z28:=Tryz.sizeOf22
 v28:=Tryz.zeroValue22}
end
section
open Go Go.Shelf Go.RowKit
theorem cl.aaH{E:c7}{V:cu}{M:Mem}{w w':World}(h:cl E [] V M w)(ae:Below w.heap.size w w'):cl E [] V M w':=
 {
  dn:=fun l B e=>by simp[ad.get]at e
  inj:=fun l l' a=>by obtain⟨⟨B,e⟩,_⟩:=a;simp[ad.get]at e
  dO:=fun l a=>by obtain⟨⟨B,e⟩,_⟩:=a;simp[ad.get]at e
  dt:=fun l a=>by obtain⟨⟨B,e⟩,_⟩:=a;simp[ad.get]at e
  cE:=fun l a=>by obtain⟨⟨B,e⟩,_⟩:=a;simp[ad.get]at e
  mem:=fun b o v aw=>by
   have aj:=h.mem b o v aw
   have aG:b<w.heap.size:=by
    cases Y:w.heap[b]? with
    |none=>simp[World.cell?,Y]at aj
    |some x=>exact(Array.getElem?_eq_some_iff.1 Y).1
   simpa[World.cell?,ae.block b aG]using aj
  dA:=h.dA,er:=h.er,ea:=h.ea,aA:=h.aA
  b6:=⟨ae.os.trans h.b6.os,ae.tape.trans h.b6.tape,ae.output.trans h.b6.output,Nat.le_trans h.b6.size ae.size,fun b aG Z=>(ae.block b (Nat.lt_of_lt_of_le aG h.b6.size)).trans (h.b6.block b aG Z)⟩}
theorem aaI(w:World)(k:Nat)(os:Array Obj):Below w.heap.size w (Go.Sort.grow (w.drewN k) os):=
 ⟨rfl,rfl,rfl,by show w.heap.size<=(w.heap++os).size;simp,fun b ae=>by show(w.heap++os)[b]?=_;rw[Array.getElem?_append_left ae]⟩
theorem AF{f:FuncId}{args:List ai}{res:ai}(h:∀(V:cu) (M:Mem) (w:World) (b4:List Nat) (vs:List Value),cl (.dd w b4 M V [] 0) [] V M w->gZ V M args vs->Calls prog f vs.toArray w fun e w'=>∃v,e= .returned v/\bU V M res v/\Below w.heap.size w w'):
 bw prog f args [] res [] []:=fun V M w b4 vs hw aq=>(h V M w b4 vs hw aq).mono fun e w' ⟨v,J,W,aH⟩=>⟨v,V,M,J,W,hw.aaH aH⟩
theorem RM{V:cu}{M:Mem}{x:ai}{vs:List Value}(h:gZ V M [x] vs):∃v,vs=[v]/\bU V M x v:=by
 obtain⟨aa,aC⟩:=h
 match vs,aa with
 |[v],_=>exact⟨v,rfl,aC 0 _ _ D D⟩
theorem Fb{V:cu}{M:Mem}{x y:ai}{vs:List Value}(h:gZ V M [x,y] vs):∃v u,vs=[v,u]/\bU V M x v/\bU V M y u:=by
 obtain⟨aa,aC⟩:=h
 match vs,aa with
 |[v,u],_=>exact⟨v,u,rfl,aC 0 _ _ D D,aC 1 _ _ D D⟩
theorem aaJ(s sub:ByteArray)(an:s.size<4294967281):bw prog 61 [jm s,jm sub] [] (bk (Lib.contains s.data.toList sub.data.toList)) [] []:=AF fun V M w b4 vs hw aq=>by
 obtain⟨v,u,rfl,J,W⟩:=Fb aq
 obtain rfl:=qy J
 obtain rfl:=qy W
 obtain⟨m,aw,n,rfl,_⟩:=hw.xQ.2 (0,Jr) (.head _)
 refine(Any.strings_Contains aaz s sub n w an (hw.mem _ _ _ aw)).mono ?_
 rintro e w' ⟨rfl,rfl⟩
 exact⟨_,rfl,.d _ _ (.v _),Below.refl _ _⟩
theorem aaK(s p:ByteArray):bw prog 114 [jm s,jm p] [] (bk (Lib.hasPrefix s.data.toList p.data.toList)) [] []:=AF fun V M w b4 vs hw aq=>by
 obtain⟨v,u,rfl,J,W⟩:=Fb aq
 obtain rfl:=qy J
 obtain rfl:=qy W
 refine(Any.strings_HasPrefix aaC s p w).mono ?_
 rintro e w' ⟨rfl,rfl⟩
 exact⟨_,rfl,.d _ _ (.v _),Below.refl _ _⟩
theorem RN(s:ByteArray)(c:Int):bw prog 115 [jm s,aF .u8 c] [] (aF .i64 (Lib.indexByte s.data.toList c.toNat.toUInt8)) [] []:=AF fun V M w b4 vs hw aq=>by
 obtain⟨v,u,rfl,J,W⟩:=Fb aq
 obtain rfl:=qy J
 obtain rfl:=qy W
 refine(Any.strings_IndexByte aaE s c w).mono ?_
 rintro e w' ⟨rfl,rfl⟩
 exact⟨_,rfl,.d _ _ (.v _),Below.refl _ _⟩
def AG(s:ByteArray):Int:=match Lib.atoiAll s.data.toList with
 | .ok v=>v
 | .range=>Lib.atoiSat s.data.toList
 |_=>0
def RO(s:ByteArray):Bool:=match Lib.atoiAll s.data.toList with
 | .ok _=>false
 |_=>true
abbrev Ly(b:Bool):bg:=qJ (fun u:Value=>(u= .nilIface/\b=false)\/(∃k z,u= .iface k z)/\b=true) fun u=>.v u
theorem RP{V:cu}{M:Mem}{k:TypeId}{z:Value}:bU V M (.d (Ly true)) (.iface k z):=.d _ _ (yw (.iface k z) (.inr ⟨⟨k,z,rfl⟩,rfl⟩) ⟨fun _ e=>(nomatch e),fun _ e=>(nomatch e)⟩ (.v _))
theorem aaL{V:cu}{M:Mem}:bU V M (.d (Ly false)) .nilIface:=.d _ _ (yw .nilIface (.inl ⟨rfl,rfl⟩) ⟨fun _ e=>(nomatch e),fun _ e=>(nomatch e)⟩ (.v _))
theorem Lz{V:cu}{M:Mem}{x y:ai}{u v:Value}(J:bU V M x u)(W:bU V M y v):bU V M (.bE [x,y]) (.tuple #[u,v]):=.bE _ [u,v] D fun j a b aC ae=>by
 match j with
 |0=>simp at aC ae;subst aC;subst ae;exact J
 |1=>simp at aC ae;subst aC;subst ae;exact W
 |j+2=>simp at aC
theorem RQ(s:ByteArray):e1 (AG s):=by
 unfold AG
 cases aw:Lib.atoiAll s.data.toList with
 |ok v=>exact Lib.atoiAll_bounds aw
 |range=>exact Lib.atoiSat_bounds _
 |_=>show e1 0;exact⟨by decide,by decide⟩
theorem aaM(s:ByteArray)(an:s.size<=281474976710656):bw prog 112 [jm s] [] (.bE ([.v (.int .i64 (AG s)),Ly (RO s)].map .d)) [] []:=AF fun V M w b4 vs hw aq=>by
 obtain⟨v,rfl,J⟩:=RM aq
 obtain rfl:=qy J
 unfold AG RO
 cases aw:Lib.atoiAll s.data.toList with
 |ok v=>
  refine(Any.strconv_Atoi_ok HK s (by omega) v aw w).mono ?_
  rintro e w' ⟨rfl,h⟩
  refine⟨_,rfl,Lz (.d _ _ (.v _)) aaL,?_⟩
  rcases h with rfl|⟨t,rfl⟩
  ·exact Below.refl _ _
  ·exact Lib.bytesWorld_below _ _ _
 |range=>
  obtain⟨m,oQ,k,z,rfl⟩:=hw.xQ.2 (3,Gg) (.tail _ (.tail _ (.head _)))
  refine(Any.strconv_Atoi_range HK s an aw _ w (hw.mem _ _ _ oQ) (.inr ⟨_,_,rfl⟩)).mono ?_
  rintro e w' ⟨N,rfl,_,_,h⟩
  exact⟨_,rfl,Lz (.d _ _ (.v _)) RP,h⟩
 |_=>
  obtain⟨m,oQ,k,z,rfl⟩:=hw.xQ.2 (2,Gg) (.tail _ (.head _))
  refine(Any.strconv_Atoi_syntax HK s an aw _ w (hw.mem _ _ _ oQ) (.inr ⟨_,_,rfl⟩)).mono ?_
  rintro e w' ⟨N,rfl,_,_,h⟩
  exact⟨_,rfl,Lz (.d _ _ (.v _)) RP,h⟩
theorem aaN(n:Int)(af:e1 n):bw prog 113 [aF .i64 n] [] (jm ⟨(Lib.itoa n).toArray⟩) [] []:=AF fun V M w b4 vs hw aq=>by
 obtain⟨v,rfl,J⟩:=RM aq
 obtain rfl:=qy J
 refine(Any.strconv_Itoa {HK with} n af.1 af.2 w ?_).mono ?_
 ·unfold Lib.TabIs World.var?
  refine(congrArg (Option.bind · _) (?_:_=some 4)).trans ?_
  ·kernel_rfl
  ·obtain⟨_,_,cs,t,z,J,W⟩:=hw.er.2 (4,20) (.head _)
   show(match w.heap[4]? with|some (.cells cs _ _)=>some cs|_=>none)=_
   have J:w.heap[4]?=some (.cells cs t z):=J
   rw[J]
   refine congrArg some (Array.ext (W.trans (by kernel_rfl)) fun j az pX=>?_)
   have LA:j<20:=by have W:cs.size=20:=W;omega
   have aM:∀(j:Nat) (x:Value),(zr.getD 1 (0,[])).2[j]?=some x->M 4 j=some x:=fun j x Y=>hw.xQ.1 (zr.getD 1 (0,[])) (.tail _ (.head _)) j x Y
   have key:(zr.getD 1 (0,[])).2=Lib.pow10Tab.map fun z=>Value.int .u64 z:=by kernel_rfl
   have Y:=aM j (Value.int .u64 (Lib.pow10Tab.getD j 0)) (by
    rw[key,fJ,dx (by simpa[Lib.pow10Tab]using LA)]
    simp[cN,dx (show j<Lib.pow10Tab.length by simpa[Lib.pow10Tab]using LA)])
   have aj:=hw.mem _ _ _ Y
   simp only[World.cell?,J]at aj
   rw[Array.getElem?_eq_getElem az]at aj
   injection aj with aj
   rw[aj]
   simp[cN,dx (show j<Lib.pow10Tab.length by simpa[Lib.pow10Tab]using LA)]
 rintro e w' ⟨rfl,k,os,rfl⟩
 exact⟨_,rfl,.d _ _ (.v _),aaI _ _ _⟩
abbrev HL(cq:List ByteArray):bg:=.cK 1 cq.length fun i=>[.v (.string (cq.getD i ByteArray.empty))]
abbrev LB(cq:List Int):bg:=.cK 1 cq.length fun i=>[.v (.int .i64 (cq.getD i 0))]
theorem aaO{M:Mem}{cq:List ByteArray}{v:Value}(h:ey M (HL cq) v):(cq=[]/\∃a cap,v= .slice a 0 cap)\/∃b o cap,v= .slice (some ⟨b,o,none⟩) cq.length cap/\∀j,j<cq.length->M b (o+j)=some (.string (cq.getD j ByteArray.empty)):=by
 have h:∃n g,n=cq.length/\(g=fun i=>[.v (.string (cq.getD i ByteArray.empty))])/\ey M (.cK 1 n g) v:=⟨_,_,rfl,rfl,h⟩
 obtain⟨n,g,aa,LC,h⟩:=h
 cases h with
 |ji _ _ a cap=>exact .inl ⟨List.eq_nil_of_length_eq_zero aa.symm,a,cap,rfl⟩
 |cK _ _ _ b o cap aj aM c aw aq=>
  refine .inr ⟨b,o,cap,by rw[aa],fun j az=>?_⟩
  have J:=aw j 0 (by omega) (by decide)
  have W:=yx (aq j 0 _ (by omega) (by rw[LC];rfl))
  rw[W]at J
  simpa using J
theorem aaP{M:Mem}{cq:List Int}{v:Value}(h:ey M (LB cq) v):(cq=[]/\∃a cap,v= .slice a 0 cap)\/∃b o cap,v= .slice (some ⟨b,o,none⟩) cq.length cap/\∀j,j<cq.length->M b (o+j)=some (.int .i64 (cq.getD j 0)):=by
 have h:∃n g,n=cq.length/\(g=fun i=>[.v (.int .i64 (cq.getD i 0))])/\ey M (.cK 1 n g) v:=⟨_,_,rfl,rfl,h⟩
 obtain⟨n,g,aa,LC,h⟩:=h
 cases h with
 |ji _ _ a cap=>exact .inl ⟨List.eq_nil_of_length_eq_zero aa.symm,a,cap,rfl⟩
 |cK _ _ _ b o cap aj aM c aw aq=>
  refine .inr ⟨b,o,cap,by rw[aa],fun j az=>?_⟩
  have J:=aw j 0 (by omega) (by decide)
  have W:=yx (aq j 0 _ (by omega) (by rw[LC];rfl))
  rw[W]at J
  simpa using J
theorem aaQ(cq:List ByteArray)(x:ByteArray)(bd:cq.length<=9223372036854775807):bw prog 224 [.d (HL cq),jm x] [] (bk (Lib.containsS cq x)) [] []:=AF fun V M w b4 vs hw aq=>by
 obtain⟨v,u,rfl,J,W⟩:=Fb aq
 obtain rfl:=qy W
 rcases aaO (w2 J)with⟨rfl,a,cap,rfl⟩|⟨b,o,cap,rfl,aj⟩
 ·refine(Any.slices_Contains_string_empty RJ a cap x w).mono ?_
  rintro e w' ⟨rfl,rfl⟩
  exact⟨_,rfl,.d _ _ (.v _),Below.refl _ _⟩
 ·refine(Any.slices_Contains_string RJ b o cq.length cap cq x w (Nat.le_refl _) bd fun j az=>hw.mem _ _ _ (aj j az)).mono ?_
  rintro e w' ⟨rfl,rfl⟩
  exact⟨_,rfl,by rw[List.take_length];exact .d _ _ (.v _),Below.refl _ _⟩
theorem aaR(cq:List Int)(x:Int)(bd:cq.length<=9223372036854775807):bw prog 166 [.d (LB cq),aF .i64 x] [] (bk (cq.contains x)) [] []:=AF fun V M w b4 vs hw aq=>by
 obtain⟨v,u,rfl,J,W⟩:=Fb aq
 obtain rfl:=qy W
 rcases aaP (w2 J)with⟨rfl,a,cap,rfl⟩|⟨b,o,cap,rfl,aj⟩
 ·refine(Any.slices_Contains_int_empty RL a cap x w).mono ?_
  rintro e w' ⟨rfl,rfl⟩
  exact⟨_,rfl,.d _ _ (.v _),Below.refl _ _⟩
 ·refine(Any.slices_Contains_int RL b o cq.length cap cq x w (Nat.le_refl _) bd fun j az=>hw.mem _ _ _ (aj j az)).mono ?_
  rintro e w' ⟨rfl,rfl⟩
  exact⟨_,rfl,by rw[List.take_length];exact .d _ _ (.v _),Below.refl _ _⟩
end
def yO(c:Int):Bool:=bif bif decide (97<=c)then decide (c<=122)else false then true else bif decide (65<=c)then decide (c<=90)else false
def AH(c:Int):Bool:=bif decide (48<=c)then decide (c<=57)else false
def Fc(c:Int):Bool:=bif bif bif decide (c=32)then true else decide (c=9)then true else decide (c=10)then true else decide (c=13)
def HM(c:Int):Bool:=decide (0<=Lib.indexByte (ByteArray.data ⟨#[123,125,40,41,59,44,61,58,46,60,62,33,43,45,42,47]⟩).toList c.toNat.toUInt8)
def jG(c:Int):Int:=bif yO c then 2 else bif AH c then 3 else bif decide (c=95)then 5 else bif Fc c then 1 else bif HM c then 4 else 0
theorem RR(c:Int):0<=jG c/\jG c<=5:=by
 unfold jG
 cases yO c<;>cases AH c<;>cases decide (c=95)<;>cases Fc c<;>cases HM c<;>decide
def pC(s:ByteArray)(i:Nat):Int:=((s.data.getD i 0).toNat:Int)
theorem Fe(c:Int):bw prog 73 [aF .u8 c] [] (aF .i64 (jG c)) [] []:=by
 refine cB [.tmp 2] func73 D D fun E K af=>?_
 refine aL 1 D<|al<|bX<|aO (O 3 D<|dp D D<|c6 D D (I D) D<|eg D D D<|O 1 D<|dp D D<|c6 D D (I D) D<|cF [] D (.move (bH D))<|dp D D<|c6 D D (I D) D<|cF [] D (.pick (bH D) (.bB D (by simp)) (I D))<|gQ D D D<|aN 1 D)<|a7 D (fun aP=>?_) fun aP=>?_
 ·refine aL 1 D<|bp<|dr D ?_
  show aF .i64 (jG c)=aF .i64 _
  unfold jG
  rw[show yO c=true from aP]
  rfl
 refine aO (O 3 D<|dp D D<|c6 D D (I D) D<|eg D D D<|aN 1 D)<|a7 D (fun bq=>?_) fun bq=>?_
 ·refine aL 1 D<|bp<|dr D ?_
  show aF .i64 (jG c)=aF .i64 _
  unfold jG
  rw[show yO c=false from aP,show AH c=true from bq]
  rfl
 refine aL 3 D<|a7 D (fun b3=>?_) fun b3=>?_
 ·refine aL 1 D<|bp<|dr D ?_
  show aF .i64 (jG c)=aF .i64 _
  unfold jG
  rw[show yO c=false from aP,show AH c=false from bq,show decide (c=95)=true from b3]
  rfl
 refine aO (O 3 D<|dp D D<|c6 D D (I D) D<|gQ D D D<|O 1 D<|dp D D<|c6 D D (I D) D<|gQ D D D<|O 1 D<|dp D D<|c6 D D (I D) D<|gQ D D D<|aN 1 D)<|a7 D (fun et=>?_) fun et=>?_
 ·refine aL 1 D<|bp<|dr D ?_
  show aF .i64 (jG c)=aF .i64 _
  unfold jG
  rw[show yO c=false from aP,show AH c=false from bq,show decide (c=95)=false from b3,show Fc c=true from et]
  rfl
 refine aO (O 1 D<|cY (cn D D) (RN _ _) (au D)<|aN 2 D)<|a7 D (fun eQ=>?_) fun eQ=>?_
 ·refine aL 1 D<|bp<|dr D ?_
  show aF .i64 (jG c)=aF .i64 _
  unfold jG
  rw[show yO c=false from aP,show AH c=false from bq,show decide (c=95)=false from b3,show Fc c=false from et,show HM c=true from eQ]
  rfl
 refine bx<|aL 1 D<|bp<|dr D ?_
 show aF .i64 (jG c)=aF .i64 _
 unfold jG
 rw[show yO c=false from aP,show AH c=false from bq,show decide (c=95)=false from b3,show Fc c=false from et,show HM c=false from eQ]
 rfl
def Ff(s:ByteArray):Bool:=bif bif decide (s=⟨#[]⟩)then true else decide (32<(s.size:Int))then true else !decide (jG (pC s 0)=2)
def HN(c:Int):Bool:=bif bif !decide (c=2)then !decide (c=3)else false then !decide (c=5)else false
def uN(s:ByteArray):Bool:=bif Ff s then false else(List.range s.size).all fun i=> !HN (jG (pC s i))
theorem aaS{s:ByteArray}(h:¬s=⟨#[]⟩):0<s.size:=by
 rcases Nat.eq_zero_or_pos s.size with bb|bb
 ·exact absurd (ByteArray.ext (Array.eq_empty_of_size_eq_zero bb)) h
 ·exact bb
theorem RS(s:ByteArray):bw prog 60 [jm s] [] (bk (uN s)) [] []:=by
 refine cB [.tmp 2] func60 D D fun E K af=>?_
 refine aL 1 D<|al<|aO (O 1 D<|ag (.seq (I D) (I D))<|O 1 D<|dp D D<|cF [] D (.sT D underlying9 (bH D))<|c6 D D (I D) D<|gQ D D D<|O 1 D<|dp D D<|cF [] D (.DX underlying9 (bH D) (I D) fun h=>by refine⟨by decide,?_⟩;exact aaS fun e=>by rw[e]at h;simp at h)<|na rfl (jr (.cons (bH D) .nil)) (fun h=>Fe _) (au D)<|c6 D D (I D) D<|gQ D D D<|ar)<|a7 D (fun aP=>?_) fun aP=>?_
 ·have aW:Ff s=true:=aP
  refine aL 1 D<|bp<|dr D ?_
  show bk (uN s)=bk false
  rw[uN,aW]
  rfl
 have aW:Ff s=false:=aP
 have cj:s.size<=32:=by
   unfold Ff at aW
   by_cases aaT:(32:Int)<s.size
   ·rw[gl aaT]at aW
    cases Y:decide (s=⟨#[]⟩)<;>rw[Y]at aW<;>cases aW
   ·omega
 refine bx<|al<|aO (O 1 D<|ag (.sT D underlying9 (I D))<|aN 1 D)<|bX<|eP (σ:=Nat) [(ab 0,_),(ab 19,_)] (fun i=>[(ab 20,.aB (aF .i64 ((i:Nat))))]) (fun i=>i<=s.size/\∀j,j<i->HN (jG (pC s j))=false) (fun i=>s.size-i) 0 (aZ D<|aU) (ck D D<|aU) ⟨Nat.zero_le _,fun j az=>absurd az (by omega)⟩ fun i hi=>?_
 refine aL 1 D<|al<|a7 D (fun bq=>?_) fun bq=>?_
 ·have aG:i<s.size:=eJ bq
  refine bx<|al<|bX<|aL 2 D<|aO (O 2 D<|ag (.DX underlying9 (I D) (I D) fun _=>⟨by omega,by omega⟩)<|cY (cf D) (Fe _) (au D)<|aN 1 D)<|aO (O 3 D<|dp D D<|c6 D D (I D) D<|eg D D D<|O 1 D<|dp D D<|c6 D D (I D) D<|eg D D D<|ar)<|a7 D (fun b3=>?_) fun b3=>?_
  ·have aE:HN (jG (pC s i))=true:=b3
   refine aL 1 D<|bp<|dr D ?_
   show bk (uN s)=bk false
   rw[uN,aW]
   show bk ((List.range s.size).all _)=_
   rw[List.all_eq_false.2 ⟨i,List.mem_range.2 aG,by rw[aE];decide⟩]
  have aE:HN (jG (pC s i))=false:=b3
  refine bx<|bm (cp D D D<|aN 1 D)<|?_
  exact⟨i+1,⟨by omega,fun j az=>by
     by_cases h:j=i
     ·rw[h];exact aE
     ·exact hi.2 j (by omega)⟩,by omega,aZ (ec (by omega))<|aU,ck D D<|aU⟩
 have hle:¬i<s.size:=by have:=dj bq;omega
 refine dW<|aL 1 D<|bp<|dr D ?_
 show bk (uN s)=bk true
 rw[uN,aW]
 show bk ((List.range s.size).all _)=_
 rw[eZ.2 fun j az=>by rw[hi.2 j (by have:=List.mem_range.1 az;omega)];rfl]
structure dQ where
 kind:Int
 iU:ByteArray
 n:Int
 bS:Int
abbrev tE(t:dQ):List bg:=[.v (.int .i64 t.kind),.v (.string t.iU),.v (.int .i64 t.n),.v (.int .i64 t.bS)]
def xn(t:dQ):Bool:=bif decide (t.kind=1)then(bif uN t.iU then decide (t.n=0)else false)else bif decide (t.kind=2)then(bif bif decide (t.iU=⟨#[]⟩)then decide (0<=t.n)else false then decide (t.n<=1099511627776)else false)else
 bif decide (t.kind=3)then(bif bif decide ((t.iU.size:Int)=1)then decide (jG (pC t.iU 0)=4)else false then decide (t.n=0)else false)else false
theorem aaU(t:dQ):bw prog 167 [.d (.agg (tE t))] [] (bk (xn t)) [] []:=by
 refine cB [.tmp 2] func167 D D fun E K af=>?_
 refine aO (cV 1 D D D<|aN 1 D)<|al<|aL 2 D<|bX<|aL 2 D<|a7 D (fun aP=>?_) fun aP=>?_
 ·refine aO (O 2 D<|cY (cf D) (RS _) (au D)<|O 1 D<|cX D BX (I D) D<|dP D bY D D D<|c6 D D (I D) D<|eg D D D<|aN 1 D)<|bp<|dr D ?_
  show bk (xn t)=_
  unfold xn
  rw[aP]
  rfl
 refine aL 2 D<|a7 D (fun bq=>?_) fun bq=>?_
 ·refine aO (O 2 D<|ag (.seq (I D) (I D))<|O 1 D<|cX D BX (I D) D<|dP D bY D D D<|c6 D D (I D) D<|eg D D D<|O 1 D<|cX D BX (I D) D<|dP D bY D D D<|c6 D D (I D) D<|eg D D D<|aN 1 D)<|bp<|dr D ?_
  show bk (xn t)=_
  unfold xn
  rw[aP,bq]
  rfl
 refine aL 2 D<|a7 D (fun b3=>?_) fun b3=>?_
 ·refine aO (O 2 D<|ag (.sT D underlying9 (I D))<|O 2 D<|cX D KC (I D) D<|dP D ry D D D<|cF [] D (.DX underlying9 (bH D) (I D) fun h=>by(simp at h;exact⟨by omega,by omega⟩))<|na D (jr (.cons (bH D) .nil)) (fun h=>Fe _) (au D)<|c6 D D (I D) D<|eg D D D<|O 1 D<|cX D BX (I D) D<|dP D bY D D D<|c6 D D (I D) D<|eg D D D<|aN 1 D)<|bp<|dr D ?_
  show bk (xn t)=_
  unfold xn
  rw[aP,bq,b3]
  rfl
 refine bx<|aL 1 D<|bp<|dr D ?_
 show bk (xn t)=_
 unfold xn
 rw[aP,bq,b3]
 rfl
def rI(s:ByteArray)(cs:List Int)(i:Nat):Bool:=bif decide ((i:Int)<s.size)then cs.contains (jG (pC s i))else false
def HO(s:ByteArray)(cs:List Int):Nat->Nat->Nat
 |0,i=>i
 |f+1,i=>bif rI s cs i then HO s cs f (i+1)else i
abbrev pD(s:ByteArray)(cs:List Int)(i:Nat):Nat:=HO s cs (s.size-i) i
theorem HP{s:ByteArray}{cs:List Int}{i:Nat}(h:rI s cs i=true):i<s.size:=by
 unfold rI at h
 by_cases aa:(i:Int)<s.size
 ·omega
 ·rw[hG aa]at h;cases h
theorem RT{s:ByteArray}{cs:List Int}{i:Nat}(h:rI s cs i=true):pD s cs i=pD s cs (i+1):=by
 have:=HP h
 unfold pD
 rw[show s.size-i=(s.size-(i+1))+1 by omega]
 show(bif rI s cs i then _ else _)=_
 rw[h];rfl
theorem aaV{s:ByteArray}{cs:List Int}{i:Nat}(h:rI s cs i=false):pD s cs i=i:=by
 unfold pD
 cases s.size-i with
 |zero=>rfl
 |succ f=>show(bif rI s cs i then _ else _)=_;rw[h];rfl
theorem RU(s:ByteArray)(cs:List Int):∀(f i:Nat),i<=HO s cs f i/\HO s cs f i<=i+f
 |0,i=>⟨Nat.le_refl _,Nat.le_refl _⟩
 |f+1,i=>by
  show _<=(bif rI s cs i then _ else _)/\(bif rI s cs i then _ else _)<=_
  have:=RU s cs f (i+1)
  cases rI s cs i with
  |true=>exact⟨by simp only[cond_true];omega,by simp only[cond_true];omega⟩
  |false=>exact⟨Nat.le_refl _,by simp only[cond_false];omega⟩
theorem xo(s:ByteArray)(cs:List Int)(i:Nat)(h:i<=s.size):i<=pD s cs i/\pD s cs i<=s.size:=by
 have:=RU s cs (s.size-i) i
 exact⟨this.1,by unfold pD;omega⟩
theorem aaW{s:ByteArray}{cs:List Int}{i:Nat}(h:i<s.size)(aj:cs.contains (jG (pC s i))=true):i<pD s cs i:=by
 have J:rI s cs i=true:=by unfold rI;rw[gl (by omega:(i:Int)<s.size)];exact aj
 rw[RT J]
 exact(xo s cs (i+1) h).1
theorem LD(src:ByteArray)(bS n:Nat)(gT:bS<=src.size)(cj:src.size<=65536)(cs:List Int)(fV:cs.length<=10):bw prog 110 [.ao 0 0,.d (LB cs)] [(G 0,.U (.cells [.d (.v (.string src)),.d (.v (.int .i64 bS)),.aQ 1 n]))] (jm (src.extract bS (pD src cs bS))) [(G 0,.U (.cells [.d (.v (.string src)),.d (.v (.int .i64 bS)),.aQ 1 n]))] [0,1]:=by
 refine cB [.tmp 4] func110 D D fun E K af=>?_
 refine aL 1 D<|aL 5 D<|al<|bX<|eP (σ:=Nat) [(ab 0,_),(ab 1,_),(G 0,_)] (fun i=>[(ab 5,.aB (aF .i64 ((i:Nat))))]) (fun i=>bS<=i/\i<=src.size/\pD src cs i=pD src cs bS) (fun i=>src.size-i) bS (aZ D<|aU) (ck D D<|aZ D<|aU) ⟨Nat.le_refl _,gT,rfl⟩ fun i hi=>?_
 refine al<|aO (O 5 D<|ag (.sT D underlying9 (I D))<|O 2 D<|dp D D<|dp D D<|cF [] D (.nilCheck (bH D) D)<|cX D XF (bH D) D<|cF [_] D (.wB ry (bH D) D D)<|dp D D<|cF [] D (.DX underlying9 (bH D) (bH D) fun h=>by(simp at h;exact⟨by omega,by omega⟩))<|na D (jr (.cons (bH D) .nil)) (fun h=>Fe _) (au D)<|na D (jr (.cons (bH D) (.cons (bH D) .nil))) (fun h=>aaR cs _ (by omega)) (au D)<|eg D D D<|ar)<|a7 D (fun aP=>?_) fun aP=>?_
 ·have aE:rI src cs i=true:=aP
  have aG:=HP aE
  exact bx<|bX<|bm (O 1 D<|cp D D D<|aN 1 D)<|⟨i+1,⟨by omega,HP aE,by rw[<-RT aE];exact hi.2.2⟩,by have:=HP aE;omega,aZ (ec (by omega))<|aU,ck D D<|aZ D<|aU⟩
 have aE:rI src cs i=false:=aP
 have he:i=pD src cs bS:=by rw[<-hi.2.2,aaV aE]
 refine dW<|ft (O 9 D<|ag (.GM underlying9 (I D) (.bK _ (I D) fun _=>by omega) (.bK _ (I D) fun _=>by omega) fun _=>⟨by omega,by omega⟩)<|aN 1 D)<|bp<|⟨.inr D,⟨_,(.cons (.tmp D) .nil),?_⟩,(cU (.cons D .nil))⟩
 show jm (src.extract bS (pD src cs bS))=jm (src.extract bS i)
 rw[<-he]
abbrev sz(l:List dQ):List bz:=[.cv .i64 (l.map dQ.kind),.ds (l.map fun t=>.v (.string t.iU)),.cv .i64 (l.map dQ.n),.cv .i64 (l.map dQ.bS)]
abbrev sA(src:ByteArray)(bS:Nat)(eS:List dQ):ad:=[(G 0,.U (.cells [.d (.v (.string src)),.d (.v (.int .i64 (bS:Int))),.aQ 1 eS.length])),(G 1,.U (.bG 4 eS.length (sz eS)))]
def yP(bc:List PanicEntry):Prop:=∃i:Int,e1 i/\bc=[{v:=.iface 136 (.int .i64 i),recovered:=false}]
theorem aaX(l:List dQ)(t:dQ):ma (sz l) (sz [t])=sz (l++[t]):=by simp[ma,nz,sz,bz.qB]
theorem aaY(l:List dQ):∀c∈sz l,c.len=l.length:=by
 intro c aj
 simp only[sz,eb,List.not_mem_nil,or_false]at aj
 rcases aj with rfl|rfl|rfl|rfl<;>simp[bz.len]
theorem LF(src:ByteArray)(bS:Nat)(eS:List dQ)(gT:bS<=src.size)(cj:src.size<=65536)(mf:eS.length<=65536)(iU:ByteArray)(t:dQ)(mD:bS+iU.size<=src.size):fC prog 111 [.ao 0 0,jm iU,.d (.agg (tE t))] (sA src (bS) (eS)) (.bE []) (sA src (bS+iU.size) (eS++[{t with bS:=bS}])) [0] (yP) []:=by
 refine kq [] func111 D D fun E K af=>?_
 refine aO (cV 5 D D D<|ar)<|al<|aO (O 1 D<|cY (cf D) (aaU _) (au D)<|aN 1 D)<|a7 D (fun aP=>?_) fun aP=>?_
 ·apply kH 0
  ·exact O 4 D<|ag (.wN underlying136 (by intro m h;cases h) (I D))<|uz 0 (I D) .nil (by exact⟨⟨(bS:Int),⟨by omega,by omega⟩,rfl⟩,fun l B e=>by simp[ad.get]at e⟩)<|ar
  ·exact bR
  rfl
 refine bx<|aO (O 5 D<|dZ bY D D D D D<|ar)<|al<|?_
 apply xZ mixed
 ·apply O 6 D
  apply gN 25 [] Eo G6 D (by decide) (by decide) (ba D D D (.nil _ _)) D D D
  apply hA 26 [G 1] Xf Xg (by decide) (.aQ (I D) D) (.aQ (I D) D) (bz.hT D) (hB D) (by omega) (by omega) (cs:=sz (eS++[{t with bS:=bS}])) (aaX eS {t with bS:=bS}) D
  exact O 2 D<|iG oE D D D D D<|ar
 ·rfl
 ·exact bR
 exact gI 1 26 D<|bm (O 5 D<|ag (.sT D underlying9 (I D))<|cp D D D<|O 2 D<|iG bY D D D D D<|ar)<|⟨.inl D,⟨_,(.nil),cM⟩,cI (.cons D (bl.dT (by rw[ef,Int.natCast_add];rfl)) (.cons D (bl.dT (by rw[ef];rfl)) .nil))⟩
abbrev cut(src:ByteArray)(i j:Nat):ByteArray:=src.extract i j
theorem Fg(src:ByteArray)(i j:Nat)(h:i<=j)(az:j<=src.size):(cut src i j).size=j-i:=by simp[ByteArray.size_extract];omega
abbrev oR(src:ByteArray)(cs:List Int)(bS:Nat):ByteArray:=cut src bS (pD src cs bS)
theorem HQ(src:ByteArray)(cs:List Int)(bS:Nat)(h:bS<=src.size):bS+(oR src cs bS).size=pD src cs bS:=by
 have:=xo src cs bS h
 rw[Fg src _ _ this.1 this.2];omega
def AI(src:ByteArray)(bS:Nat):Bool:=Lib.hasPrefix (cut src bS src.size).data.toList (ByteArray.data ⟨#[47,47]⟩).toList
def ob(src:ByteArray)(bS:Nat):Int:=Lib.indexByte (cut src bS src.size).data.toList (10:Int).toNat.toUInt8
def xp(src:ByteArray)(bS:Nat):Nat:=bif AI src bS then(bif decide (0<=ob src bS)then bS+(ob src bS).toNat else src.size)else bS+1
def uO(src:ByteArray)(bS:Nat)(eS:List dQ):List dQ:=bif AI src bS then eS else eS++[⟨3,cut src bS (bS+1),0,bS⟩]
theorem RV{src:ByteArray}{bS:Nat}(h:bS<=src.size)(bb:0<=ob src bS):(ob src bS).toNat<src.size-bS:=by
 have J:=(Lib.indexByte_some (l:=(cut src bS src.size).data.toList) (c:=(10:Int).toNat.toUInt8) (o:=(ob src bS).toNat) (by unfold ob at*;omega)).1
 have W:=(List.getElem?_eq_some_iff.1 J).1
 have aH:(cut src bS src.size).data.toList.length=(cut src bS src.size).size:=rfl
 rw[aH,Fg src _ _ h (Nat.le_refl _)]at W
 exact W
theorem aaZ{src:ByteArray}{bS:Nat}(aj:AI src bS=true)(bb:0<=ob src bS):0<(ob src bS).toNat:=by
 have J:=(Lib.indexByte_some (l:=(cut src bS src.size).data.toList) (c:=(10:Int).toNat.toUInt8) (o:=(ob src bS).toNat) (by unfold ob at*;omega)).1
 rcases Nat.eq_zero_or_pos (ob src bS).toNat with h|h
 ·rw[h]at J
  unfold AI Lib.hasPrefix at aj
  generalize(cut src bS src.size).data.toList=l at J aj
  cases l with
  |nil=>simp at J
  |cons b r=>
   simp only[List.getElem?_cons_zero,en]at J
   subst J
   revert aj
   show([47,47]:List UInt8).isPrefixOf _=true->_
   simp[List.isPrefixOf]
 ·exact h
theorem aa0(src:ByteArray)(bS:Nat)(eS:List dQ)(gT:bS<=src.size)(cj:src.size<=65536)(mf:eS.length<=65536):fC prog 70 [.ao 0 0] (sA src (bS) (eS)) (.bE []) (sA src (bS+(oR src [2,3,5] bS).size) (eS++[⟨1,oR src [2,3,5] bS,0,bS⟩])) [0] (yP) []:=by
 refine kq [] func70 D D fun E K af=>?_
 exact aO (O 1 D<|j4 (g:=fun i=>[.v (.int .i64 ([2,3,5].getD i 0))]) iQ iC D (by decide) (by decide) (ba D D D (ba D D D (ba D D D (.nil _ _)))) D (fun i hi=>by rcases(by omega:i=0\/i=1\/i=2)with rfl|rfl|rfl<;>rfl)<|kI (cn D D) (LD src bS eS.length gT cj [2,3,5] (by decide)) (au D) (.cons D .nil) D<|aN 1 D)<|bm (O 3 D<|ag (.build G6 KG (ba D D D (ba D D D (.nil _ _))) D)<|dH [1] [G 0,G 1] (hd D D D) (LF src bS eS gT cj mf (oR src [2,3,5] bS) ⟨1,oR src [2,3,5] bS,0,0⟩ (by rw[HQ src _ _ gT];exact(xo src _ _ gT).2)) (au D) (.dy D D) D D .nil D (by exact fun bc h=>⟨h,fun l B e=>by simp[ad.get]at e⟩) rfl<|ar)<|⟨.inl rfl,⟨_,(.nil),cM⟩,cI (.dy D D)⟩
theorem aa1(src:ByteArray)(bS:Nat)(eS:List dQ)(gT:bS<=src.size)(cj:src.size<=65536)(mf:eS.length<=65536):fC prog 71 [.ao 0 0] (sA src (bS) (eS)) (.bE []) (sA src (bS+(oR src [3] bS).size) (eS++[⟨2,⟨#[]⟩,AG (oR src [3] bS),bS⟩])) [0] (yP) []:=by
 refine kq [] func71 D D fun E K af=>?_
 refine aO (O 1 D<|j4 (g:=fun i=>[.v (.int .i64 ([3].getD i 0))]) iQ iC D (by decide) (by decide) (ba D D D (.nil _ _)) D (fun i hi=>by obtain rfl:i=0:=(by omega);rfl)<|kI (cn D D) (LD src bS eS.length gT cj [3] (by decide)) (au D) (.cons D .nil) D<|aN 1 D)<|aO (O 1 D<|lC (cf D) (aaM (oR src [3] bS) (by rw[Fg src _ _ (xo src _ _ gT).1 (xo src _ _ gT).2];have:=(xo src [3] _ gT).2;omega)) (au D)<|aN 5 D)<|al<|al<|EF (t:=4) D (EG ld) fun u hu=>?_
 refine bm (O 1 D<|ag (.z6 XV (I D) hu)<|O 1 D<|dp D D<|na D (jr (.cons (bH D) .nil)) (fun h=>aaN _ (RQ _)) (au D)<|dp D D<|cF [] D (.VI (bH D) (bH D))<|gQ D D D<|ar)<|a7 D (fun aP=>?_) fun aP=>?_
 ·apply kH 0
  ·exact O 4 D<|ag (.wN underlying136 (by intro m h;cases h) (I D))<|uz 0 (I D) .nil (by exact⟨⟨(bS:Int),⟨by omega,by omega⟩,rfl⟩,fun l B e=>by simp[ad.get]at e⟩)<|ar
  ·exact bR
  rfl
 exact bx<|bm (O 3 D<|ag (.build G6 KG (ba D D D (ba D D D (.nil _ _))) D)<|dH [1] [G 0,G 1] (hd D D D) (LF src bS eS gT cj mf (oR src [3] bS) ⟨2,⟨#[]⟩,AG (oR src [3] bS),0⟩ (by rw[HQ src _ _ gT];exact(xo src _ _ gT).2)) (au D) (.dy D D) D D .nil D (by exact fun bc h=>⟨h,fun l B e=>by simp[ad.get]at e⟩) rfl<|ar)<|⟨.inl rfl,⟨_,(.nil),cM⟩,cI (.dy D D)⟩
theorem aa2(src:ByteArray)(bS:Nat)(eS:List dQ)(gT:bS<src.size)(cj:src.size<=65536)(mf:eS.length<=65536):fC prog 72 [.ao 0 0] (sA src (bS) (eS)) (.bE []) (sA src (xp src bS) (uO src bS eS)) [0] (yP) []:=by
 refine kq [] func72 D D fun E K af=>?_
 refine al<|ft (O 8 D<|ag (.GM underlying9 (I D) (.bK _ (I D) fun _=>by omega) (.lv _) fun _=>⟨by omega,by omega⟩)<|cY (cn D D) (aaK _ _) (au D)<|ar)<|a7 D (fun aP=>?_) fun aP=>?_
 ·have aj:AI src bS=true:=aP
  refine al<|ft (O 8 D<|ag (.GM underlying9 (I D) (.bK _ (I D) fun _=>by omega) (.lv _) fun _=>⟨by omega,by omega⟩)<|cY (cn D D) (RN _ _) (au D)<|aN 1 D)<|aL 2 D<|a7 D (fun bq=>?_) fun bq=>?_
  ·have bb:0<=ob src bS:=cJ bq
   have aG:=RV (by omega:bS<=src.size) bb
   have e:(ob src bS).toNat=ob src bS:=Int.toNat_of_nonneg bb
   exact bm (O 5 D<|ag (.nv (I D) (I D) D fun _=>iO (by show _<=(bS:Int)+ob src bS/\(bS:Int)+ob src bS<=_;omega))<|O 2 D<|iG bY D D D D D<|ar)<|bp<|⟨.inr D,⟨_,(.nil),cM⟩,cI (.cons D (bl.dT (by show cO.cells [_,.d (.v (.int .i64 ((bS:Int)+ob src bS))),_]=_;rw[xp,uO,aj,gl bb,cond_true,cond_true,cond_true,Int.natCast_add,e])) (.cons D (bl.dT (by rw[uO,aj];rfl)) .nil))⟩
  have bb:¬0<=ob src bS:=dj bq
  exact bm (O 5 D<|ag (.sT D underlying9 (I D))<|O 2 D<|iG bY D D D D D<|ar)<|bp<|⟨.inr D,⟨_,(.nil),cM⟩,cI (.cons D (bl.dT (by rw[xp,uO,aj,hG bb];rfl)) (.cons D (bl.dT (by rw[uO,aj];rfl)) .nil))⟩
 have aj:AI src bS=false:=aP
 exact bx<|ft (O 12 D<|cp D D D<|ag (.GM underlying9 (I D) (.bK _ (I D) fun _=>by omega) (.bK _ (I D) fun _=>by omega) fun _=>⟨by omega,by omega⟩)<|aN 1 D)<|bm (O 3 D<|ag (.build G6 KG (ba D D D (ba D D D (.nil _ _))) D)<|dH [1] [G 0,G 1] (hd D D D) (LF src bS eS (by omega) cj mf (cut src bS (bS+1)) ⟨3,cut src bS (bS+1),0,0⟩ (by rw[Fg src _ _ (by omega) (by omega)];omega)) (au D) (.dy D D) D D .nil D (by exact fun bc h=>⟨h,fun l B e=>by simp[ad.get]at e⟩) rfl<|ar)<|⟨.inl rfl,⟨_,(.nil),cM⟩,cI (.cons D (bl.dT (by rw[xp,uO,aj,Fg src _ _ (by omega) (by omega)];simp only[cond_false];rw[show bS+1-bS=1 by omega])) (.cons D (bl.dT (by rw[uO,aj];rfl)) .nil))⟩
theorem aa3(src:ByteArray)(bS:Nat)(eS:List dQ)(gT:bS<=src.size)(cj:src.size<=65536)(mf:eS.length<=65536):fC prog 69 [.ao 0 0] (sA src (bS) (eS)) (.bE []) (sA src (bS+(oR src [1] bS).size) (eS)) [0,1] (yP) []:=by
 refine kq [] func69 D D fun E K af=>?_
 exact eo (O 5 D<|j4 (g:=fun i=>[.v (.int .i64 ([1].getD i 0))]) iQ iC D (by decide) (by decide) (ba D D D (.nil _ _)) D (fun i hi=>by obtain rfl:i=0:=(by omega);rfl)<|kI (cn D D) (LD src bS eS.length gT cj [1] (by decide)) (au D) (.cons D .nil) D<|ag (.sT D underlying9 (I D))<|ag (.nv (I D) (I D) D fun _=>iO (by have J:bS+(src.extract bS (pD src [1] bS)).size=_:=HQ src [1] bS gT;have W:=(xo src [1] bS gT).2;omega))<|O 2 D<|iG bY D D D D D<|ar)<|⟨.inl D,⟨_,(.nil),cM⟩,cI (.cons D (bl.dT (by rw[Int.natCast_add];rfl)) (.cons D (bl.refl _) .nil))⟩
theorem RW(src:ByteArray)(bS:Nat)(eS:List dQ)(gT:bS<=src.size)(cj:src.size<=65536)(mf:eS.length<=65536)(Ho:ad):fC prog 68 [.ao 0 0] (sA src (bS) (eS)) (.bE []) Ho [0] (yP) []:=by
 refine kq [] func68 D D fun E K af=>?_
 apply kH 0
 ·exact O 4 D<|ag (.wN underlying136 (by intro m h;cases h) (I D))<|uz 0 (I D) .nil (by exact⟨⟨(bS:Int),⟨by omega,by omega⟩,rfl⟩,fun l B e=>by simp[ad.get]at e⟩)<|ar
 ·exact bR
 rfl
def dQ.b5(t:dQ):Prop:=e1 t.kind/\e1 t.n/\e1 t.bS
abbrev hF(ts:List dQ):bg:=.cK 4 ts.length fun i=>tE (ts.getD i ⟨0,⟨#[]⟩,0,0⟩)
abbrev jy(n:Nat):bg:=qJ (fun ts:List dQ=>ts.length<=n/\∀t∈ts,t.b5) hF
def HR(k:Nat):FuncId:=[68,69,70,71,72,68].getD k 68
def CB(src:ByteArray)(k bS:Nat):Nat:=[src.size,bS+(oR src [1] bS).size,bS+(oR src [2,3,5] bS).size,bS+(oR src [3] bS).size,xp src bS,src.size].getD k 0
def HS(src:ByteArray)(k bS:Nat)(eS:List dQ):List dQ:=[eS,eS,eS++[⟨1,oR src [2,3,5] bS,0,bS⟩],eS++[⟨2,⟨#[]⟩,AG (oR src [3] bS),bS⟩],uO src bS eS,eS].getD k []
theorem aa4(src:ByteArray)(bS:Nat)(eS:List dQ)(gT:bS<src.size)(cj:src.size<=65536)(mf:eS.length<=65536){k:Nat}(K:k<6):
  fC prog (HR k) [.ao 0 0] (sA src bS eS) (.bE []) (sA src (CB src k bS) (HS src k bS eS)) [0] yP []:=by
 match k,K with
 |0,_=>exact RW src bS eS (by omega) cj mf _
 |1,_=>exact(aa3 src bS eS (by omega) cj mf).YT (by simp)
 |2,_=>exact aa0 src bS eS (by omega) cj mf
 |3,_=>exact aa1 src bS eS (by omega) cj mf
 |4,_=>exact aa2 src bS eS gT cj mf
 |5,_=>exact RW src bS eS (by omega) cj mf _
theorem aa5{src:ByteArray}{bS:Nat}{eS:List dQ}(gT:bS<src.size)(cj:src.size<=65536)(mf:eS.length<=bS)(dX:∀t∈eS,t.b5){k:Nat}(K:(k:Int)=jG (pC src bS)):
  bS<CB src k bS/\CB src k bS<=src.size/\(HS src k bS eS).length<=CB src k bS/\∀t∈HS src k bS eS,t.b5:=by
 have db:=RR (pC src bS)
 have run:∀cs:List Int,cs.contains (k:Int)=true->bS<bS+(oR src cs bS).size/\bS+(oR src cs bS).size<=src.size:=fun cs aj=>by
  rw[HQ src cs bS (by omega)]
  exact⟨aaW gT (by rw[<-K];exact aj),(xo src cs bS (by omega)).2⟩
 have add:∀t:dQ,t.b5->∀u∈eS++[t],u.b5:=fun t aT u hu=>by
  rcases hy.1 hu with h|h
  ·exact dX u h
  ·obtain rfl:=qc.1 h;exact aT
 have small:∀n:Int,0<=n->n<=65536->e1 n:=fun n J W=>⟨by omega,by omega⟩
 match k,K with
 |0,_=>exact⟨gT,Nat.le_refl _,by show eS.length<=src.size;omega,dX⟩
 |1,K=>have:=run [1] D;exact⟨this.1,this.2,by show eS.length<=bS+_;omega,dX⟩
 |2,K=>
  have:=run [2,3,5] D
  exact⟨this.1,this.2,by show(eS++[_]).length<=bS+_;rw[ef,np];omega,add _ ⟨small 1 (by decide) (by decide),small 0 (by decide) (by decide),small bS (by omega) (by omega)⟩⟩
 |3,K=>
  have:=run [3] D
  exact⟨this.1,this.2,by show(eS++[_]).length<=bS+_;rw[ef,np];omega,add _ ⟨small 2 (by decide) (by decide),RQ _,small bS (by omega) (by omega)⟩⟩
 |4,_=>
  show bS<xp src bS/\xp src bS<=src.size/\(uO src bS eS).length<=xp src bS/\∀t∈uO src bS eS,t.b5
  unfold xp uO
  cases aj:AI src bS with
  |false=>
   simp only[cond_false]
   exact⟨by omega,by omega,by rw[ef,np];omega,add _ ⟨small 3 (by decide) (by decide),small 0 (by decide) (by decide),small bS (by omega) (by omega)⟩⟩
  |true=>
   simp only[cond_true]
   by_cases bb:0<=ob src bS
   ·have J:=aaZ aj bb
    have W:=RV (by omega:bS<=src.size) bb
    rw[gl bb]
    simp only[cond_true]
    exact⟨by omega,by omega,by omega,dX⟩
   ·rw[hG bb]
    simp only[cond_false]
    exact⟨gT,Nat.le_refl _,by omega,dX⟩
 |5,_=>exact⟨gT,Nat.le_refl _,by show eS.length<=src.size;omega,dX⟩
 |k+6,K=>omega
theorem aa6(d0 d1 d2:bg):nS prog 67 [.ao 2 0,.ao 3 0,.ao 4 0] [(G 2,.U (.data [d0])),(G 3,.U (.data [d1])),(G 4,.U (.data [d2]))] [(G 2,.U (.data [d0])),(G 3,.U (.data [d1])),(G 4,.U (.data [d2]))] (.returning) (.returning) [2,3,4]:=by
 refine BJ (x:=.nilIface) func67 D (cC D) (lD D) (by decide) (by decide) D .tc fun E K af=>?_
 refine aO (O 1 D<|ag (.z6 vn (I D) (.inl ⟨rfl,rfl⟩))<|ar)<|a7 D (fun aP=>?_) fun aP=>?_
 ·cases aP
 exact bx<|⟨.inl D,cU (.eC D D D)⟩
theorem aa7(d0 d1 d2:bg)(i:Int):nS prog 67 [.ao 2 0,.ao 3 0,.ao 4 0] [(G 2,.U (.data [d0])),(G 3,.U (.data [d1])),(G 4,.U (.data [d2]))] [(G 2,.U (.data [.v (.slice none 0 0)])),(G 3,.U (.data [.v (.int .i64 i)])),(G 4,.U (.data [.v (.int .i64 30)]))] (.panicking [{v:=.iface 136 (.int .i64 i),recovered:=false}]) (.panicking [{v:=.iface 136 (.int .i64 i),recovered:=true}]) [2,3,4]:=by
 refine BJ (x:=.iface 136 (.int .i64 i)) func67 D (cC D) (lD D) (by decide) (by decide) D (.td _ _) fun E K af=>?_
 refine aO (O 1 D<|ag (.z6 vn (I D) (.inr ⟨⟨_,_,rfl⟩,rfl⟩))<|ar)<|a7 D (fun aP=>?_) fun aP=>?_
 ·exact eo (O 1 D<|ag (.OJ underlying136 (by intro m h;cases h) (I D))<|dZ oE D D D D D<|dZ bY D D D D D<|dZ gF D D D D D<|ar)<|⟨.inl D,cU (.eC D D D)⟩
 cases aP
abbrev Fh(fw:List FuncId):List bg:=fw.map fun f=>.v (.func (.func f) #[] #[])
theorem aa8(fw:List FuncId)(V:cu)(M:Mem)(w:World)(l:Nat)(h:gC V M w l (.cells (fw.map fun f=>.fn f []))):gC V M w l (.fq 1 fw.length [.ds (Fh fw)]):=by
 obtain⟨J,vs,t,W,aH,aV⟩:=h
 simp only[l5]at aH
 refine⟨J,vs,t,W,by omega,rfl,fun c aj=>by obtain rfl:=qc.1 aj;simp[bz.len],fun i j c hi aj=>?_⟩
 have az:j=0:=by have:=(List.getElem?_eq_some_iff.1 aj).1;simpa using this
 subst az
 simp only[List.getElem?_cons_zero,en]at aj
 subst aj
 have aG:i<vs.size:=by omega
 have aq:=aV i (.fn fw[i] []) vs[i] (by simp[hi]) (Array.getElem?_eq_getElem aG)
 refine⟨vs[i],by simp[aG],?_⟩
 have he:bz.at (.ds (Fh fw)) i= .v (.func (.func fw[i]) #[] #[]):=by simp[bz.at,Fh,cN,hi]
 rw[he]
 generalize vs[i]=u at aq
 cases aq with
 |fn _ _ us aa _=>
  obtain rfl:us=[]:=List.eq_nil_of_length_eq_zero (by simpa using aa.symm)
  exact .v _
theorem aa9{k:Nat}(h:k<6):bz.at (.ds (Fh [68,69,70,71,72,68])) k= .v (.func (.func (HR k)) #[] #[]):=by
 match k,h with
 |0,_=>rfl
 |1,_=>rfl
 |2,_=>rfl
 |3,_=>rfl
 |4,_=>rfl
 |5,_=>rfl
theorem aba{k:Nat}(h:k<6):hS prog (HR k)=true:=by
 match k,h with
 |0,_=>exact(au D)
 |1,_=>exact(au D)
 |2,_=>exact(au D)
 |3,_=>exact(au D)
 |4,_=>exact(au D)
 |5,_=>exact(au D)
theorem abb(ts:List dQ)(j:Nat)(az:j<ts.length):(sz ts).map (bz.at · j)=tE (ts.getD j ⟨0,⟨#[]⟩,0,0⟩):=by
 simp[sz,tE,bz.at,cN,az]
theorem abc(src:ByteArray)(cj:src.size<=65536):fC prog 25 [jm src] [] (.bE [.d (jy 65536),.d fi,.d fi]) [] [] ((fun _=>False)) []:=by
 refine dI.one ?_
 refine Am (k:=2) (cap:=[(2,2),(3,3),(4,4)]) (kept:=[(2,2),(3,3),(4,4)]) (rs:=[.cell 2 78,.cell 3 3,.cell 4 30]) (ed:=[(ab 0,.aB (jm src)),(ab 2,.aB (.ao 2 0)),(ab 3,.aB (.ao 3 0)),(ab 4,.aB (.ao 4 0)),(G 2,.U (.data [.v (.slice none 0 0)])),(G 3,.U (.data [.v (.int .i64 0)])),(G 4,.U (.data [.v (.int .i64 0)]))]) (ro:={gm:=fun y=>yP y.1/\y.2=[(ab 2,.aB (.ao 2 0)),(ab 3,.aB (.ao 3 0)),(ab 4,.aB (.ao 4 0)),(G 2,.U (.data [.v (.slice none 0 0)])),(G 3,.U (.data [.v (.int .i64 0)])),(G 4,.U (.data [.v (.int .i64 0)]))]}) (True) func25 D D D (cC D) (by simp[ad.get]) (cC D) (au D) (fun E K af=>?_) (.cons D (.cons D (.cons D (.nil)))) D (fun uu E K af=>?_) (by simp) rfl rfl ?_
 ·refine bm (cm 2 Xe D<|cm 3 iC D<|cm 4 z8 D<|ar)<|aO (O 1 D<|ag (.sT D underlying9 (I D))<|aN 1 D)<|a7 D (fun aP=>?_) (fun aP=>?_)
  ·have h:=cJ aP
   omega
  exact bx<|.inl ⟨rfl,(da D D D D<|ck D D<|aZ D<|aU),trivial⟩
 ·refine aO (cm 5 XD D<|ar)<|al<|dm (ag (.build XB Yb (ba D D D (ba D D D (ba D D D (ba D D D (ba D D D (ba D D D (.nil _ _))))))) D)<|O 1 D<|ny XA (I D) (I D) D D D (eZ.1 D) (cC D) (cs':=[68,69,70,71,72,68].map fun f=>.fn f []) D<|ar) (nM K af D)<|aO (O 1 D<|ag (.build XE Yc (ba D D D (.nil _ _)) D)<|cV 15 D D D<|aN 1 D)<|al<|bX<|gI 0 15 D<|iE (ι:=Unit) (l:=0) (B:=.data [.v (.string src),.v (.int .i64 0),.v (.slice none 0 0)]) (Φ:=fun _=>True) (B':=fun _=>.cells [.d (.v (.string src)),.d (.v (.int .i64 0)),k4]) D (fun V M w h=>⟨(),trivial,h⟩) fun _ _=>?_
  refine c1 (b1.nd (lb:=0) (j:=2) (l:=1) (n:=4) (fq:=sz []) D D D D (by rw[K];decide) D (by intro c aj;rw[aaY _ c aj];rfl) D)<|iE (ι:=Unit) (l:=5) (Φ:=fun _=>True) (B':=fun _=>.fq 1 6 [.ds (Fh [68,69,70,71,72,68])]) D (fun V M w h=>⟨(),trivial,aa8 [68,69,70,71,72,68] V M w _ h⟩) fun _ _=>?_
  refine eP (σ:=Nat×List dQ) [(ab 0,_),(ab 2,_),(ab 3,_),(ab 4,_),(ab 5,_),(ab 6,_),(G 2,_),(G 3,_),(G 4,_),(G 5,_)] (fun i=>[(G 0,.U (.cells [.d (.v (.string src)),.d (.v (.int .i64 (i.1:Int))),.aQ 1 i.2.length])),(G 1,.U (.bG 4 i.2.length (sz i.2)))]) (fun i=>i.1<=src.size/\i.2.length<=i.1/\∀t∈i.2,t.b5) (fun i=>src.size-i.1) (0,[]) (ck D D<|aU) (fs D D D D D D D D<|ck D D<|aU) ⟨Nat.zero_le _,Nat.le_refl _,fun t aT=>by cases aT⟩ fun i hi=>?_
  refine al<|aO (O 5 D<|ag (.sT D underlying9 (I D))<|aN 1 D)<|a7 D (fun bq=>?_) fun bq=>?_
  ·have aG:i.1<src.size:=eJ bq
   have hO:=RR (((src.data.getD (Int.toNat (i.1:Int)) 0).toNat:Nat):Int)
   have cS:(((jG (pC src i.1)).toNat:Nat):Int)=jG (pC src i.1):=Int.toNat_of_nonneg hO.1
   have an:=aa5 aG cj hi.2.1 hi.2.2 cS
   have fc:(jG (pC src i.1)).toNat<6:=by have:jG (pC src i.1)<=5:=hO.2;omega
   exact bx<|bX<|dm (O 5 D<|ag (.DX underlying9 (I D) (I D) fun _=>⟨by omega,by omega⟩)<|cY (cf D) (Fe _) (au D)<|O 1 D<|ag (.N7 XC (I D) (I D) fun _=>⟨by omega,by omega⟩)<|cH [_] ((Pure.pU Pe (I D) D D D fun _=>by omega).bK (y:=.d (.v (.func (.func (HR (jG (pC src i.1)).toNat)) #[] #[]))) (congrArg ai.d (aa9 fc)))<|O 1 D<|dH [1] [G 0,G 1] (wF (I D) (.cons (I D) .nil)) (aa4 src i.1 i.2 aG cj (by omega) fc) (aba fc) (.cons D (.cons D .nil)) D D (.aQ D D (.aQ D D (.aQ D D (.aQ D D (.aQ D D (.aQ D D .nil)))))) D (by exact fun bc h=>⟨h,rfl⟩) D<|ar) (nM K af D)<|⟨(CB src (jG (pC src i.1)).toNat i.1,HS src (jG (pC src i.1)).toNat i.1 i.2),⟨an.2.1,an.2.2.1,an.2.2.2⟩,by have:=an.1;show _-CB _ _ _<_;omega,ck D D<|aU,fs D D D D D D D D<|ck D D<|aU⟩
  exact dW<|al<|c1 (b1.mH (lb:=0) (j:=2) (l:=1) (n:=4) (fq:=sz i.2) (g:=fun j=>tE (i.2.getD j ⟨0,⟨#[]⟩,0,0⟩)) D D D D (fun j az=>abb i.2 j az) D)<|bm (O 4 D<|dZ oE D D D D D<|dZ bY D D D D D<|dZ gF D D D D D<|ar)<|bp<|⟨.inr D,[(G 2,.U (.data [hF i.2])),(G 3,.U (.data [.v (.int .i64 0)])),(G 4,.U (.data [.v (.int .i64 0)]))],(da D D D D<|ck D D<|aU),by simp,.returning,_,rfl,aa6 _ _ _,.inl ⟨rfl,(),trivial,⟨_,(.cons (.hR D D oE D) (.cons (.hR D D bY D) (.cons (.hR D D gF D) .nil))),(sl (.cons (iD (.tj i.2 ⟨by omega,hi.2.2⟩ D)) (.cons (iD (gG (by decide))) (.cons (iD (gG (by decide))) .nil))))⟩,cI .nil⟩⟩
 rintro⟨bc,st⟩ ⟨⟨i,hi,rfl⟩,rfl⟩
 exact⟨[(G 2,.U (.data [.v (.slice none 0 0)])),(G 3,.U (.data [.v (.int .i64 0)])),(G 4,.U (.data [.v (.int .i64 0)]))],rfl,by simp,_,_,rfl,aa7 _ _ _ i,.inl ⟨rfl,(),trivial,⟨_,(.cons (.hR D D oE D) (.cons (.hR D D bY D) (.cons (.hR D D gF D) .nil))),(sl (.cons (iD (.trans .vu (.tj [] ⟨Nat.zero_le _,fun t aT=>by cases aT⟩ rfl))) (.cons (iD (gG hi)) (.cons (iD (gG (by decide))) .nil))))⟩,cI .nil⟩⟩
abbrev yQ:dQ:=⟨0,⟨#[]⟩,0,0⟩
abbrev kr(ts:List dQ)(e d:Int):ad:=[(G 0,.U (.data [hF ts,.v (.int .i64 e),.v (.int .i64 d)]))]
abbrev jz:ad:=[(G 0,.U (.data [jy 65536,fi,fi]))]
structure fh(ts:List dQ)(e d:Int):Prop where
 len:ts.length<=65536
 ok:∀t∈ts,t.b5
 e:e1 e
 d:0<=d/\d<=64
theorem fh.abd{ts:List dQ}{e d:Int}(h:fh ts e d):e1 d:=⟨by have:=h.d;omega,by have:=h.d;omega⟩
theorem fh.drop{ts:List dQ}{e d:Int}(h:fh ts e d)(n:Nat):fh (ts.drop n) e d:=⟨by have:=h.len;simp;omega,fun t aT=>h.ok t (List.mem_of_mem_drop aT),h.e,h.d⟩
theorem fh.aq{ts:List dQ}{e d:Int}(h:fh ts e d)(bb:0<ts.length):(ts.getD 0 yQ).b5:=h.ok _ (by rw[cN,dx bb];exact List.getElem_mem bb)
theorem RX{ts:List dQ}{e d:Int}(h:fh ts e d):∀l B,jz.get (G l)=some (.U B)->∃dS,(kr ts e d).get (G l)=some (.U dS)/\bl dS B:=
 cI (.cons D (bl.data (.cons (.tj ts ⟨h.len,h.ok⟩ D) (.cons (gG h.e) (.cons (gG h.abd) .nil)))) .nil)
def j9(bc:List PanicEntry):Prop:=∃i:Int,e1 i/\bc=[{v:=.iface 146 (.agg #[.int .i64 i]),recovered:=false}]
theorem HT(ts:List dQ)(n:Nat)(g:Nat->List bg)(aM:∀i,g i=tE (ts.getD (n+i) yQ)):bg.cK 4 (ts.length-n) g=hF (ts.drop n):=by
 have:g=fun i=>tE ((ts.drop n).getD i yQ):=funext fun i=>by rw[aM i];simp[cN,List.getElem?_drop]
 rw[this]
 simp[hF]
theorem yR(ts:List dQ)(e d:Int)(Z:fh ts e d):fC prog 174 [.ao 0 0] (kr ts e d) (kk) [] [0] (j9) jz:=by
 refine kq [] func174 D D fun E K af=>?_
 refine al<|aL 6 D<|a7 D (fun aP=>?_) fun aP=>?_
 ·have bb:0<ts.length:=eJ aP
  apply kH 0
  ·exact O 4 D<|bW pt D D<|O 2 D<|ag (.build Ky PC (ba D D D (.nil _ _)) D)<|ag (Pure.Qj [.int .i64 _] underlying146 (by intro m h;cases h) (I D))<|uz 0 (I D) (.cons D .nil) (by exact⟨⟨_,(Z.aq bb).2.2,rfl⟩,RX Z⟩)<|ar
  ·exact bR
  rfl
 refine bx<|?_
 apply kH 0
 ·exact O 4 D<|ag (.build Ky PC (ba D D D (.nil _ _)) D)<|ag (Pure.Qj [.int .i64 _] underlying146 (by intro m h;cases h) (I D))<|uz 0 (I D) (.cons D .nil) (by exact⟨⟨_,Z.e,rfl⟩,RX Z⟩)<|ar
 ·exact bR
 rfl
theorem e9:∀l B,jz.get (G l)=some (.U B)->∃dS,jz.get (G l)=some (.U dS)/\bl dS B:=cI (.lg D)
abbrev aq(ts:List dQ):dQ:=ts.getD 0 yQ
def sB(ts:List dQ)(iU:ByteArray):Bool:=bif bif decide ((0:Int)<ts.length)then !decide ((aq ts).kind=2)else false then decide ((aq ts).iU=iU)else false
def RY(ts:List dQ):Bool:=bif bif decide ((0:Int)<ts.length)then decide ((aq ts).kind=2)else false then decide ((aq ts).n<=2147483648)else false
def HU:List ByteArray:=[⟨#[112,114,111,99,101,115,115,111,114]⟩,
 ⟨#[108,97,116,101,110,99,121]⟩,
 ⟨#[116,97,105,108]⟩,
 ⟨#[102,111,114,101,118,101,114]⟩,
 ⟨#[112,97,114,97,109]⟩,
 ⟨#[115,116,97,116,101]⟩,
 ⟨#[108,105,110,101]⟩,
 ⟨#[116,97,98,108,101]⟩,
 ⟨#[102,114,111,109]⟩,
 ⟨#[116,111]⟩,
 ⟨#[108,101,116]⟩,
 ⟨#[115,101,116]⟩,
 ⟨#[112,117,115,104]⟩,
 ⟨#[111,117,116]⟩,
 ⟨#[105,102]⟩,
 ⟨#[116,104,101,110]⟩,
 ⟨#[101,108,115,101]⟩,
 ⟨#[105,110]⟩,
 ⟨#[115,105,100,101]⟩,
 ⟨#[116,97,112]⟩,
 ⟨#[108,111,111,107]⟩,
 ⟨#[115,97,116]⟩,
 ⟨#[109,105,110]⟩,
 ⟨#[109,97,120]⟩,
 ⟨#[97,98,115]⟩]
def RZ(ts:List dQ):Bool:=bif bif decide ((0:Int)<ts.length)then decide ((aq ts).kind=1)else false then !Lib.containsS HU (aq ts).iU else false
theorem Fi{ts:List dQ}{a b:Bool}(h:(bif bif decide ((0:Int)<ts.length)then a else false then b else false)=true):0<ts.length:=by
 by_cases bb:(0:Int)<ts.length
 ·omega
 ·rw[hG bb]at h;cases h
def jA(ts:List dQ)(iU:ByteArray):List dQ:=bif sB ts iU then ts.drop 1 else ts
theorem ka{ts:List dQ}{e d:Int}(h:fh ts e d){iU:ByteArray}:fh (jA ts iU) e d:=by
 unfold jA
 cases sB ts iU with
 |true=>exact h.drop 1
 |false=>exact h
theorem abe(ts:List dQ)(e d:Int)(Z:fh ts e d)(iU:ByteArray):bw prog 223 [.ao 0 0,jm iU] (kr ts e d) (bk (sB ts iU)) (kr ts e d) [0]:=by
 refine cB [.tmp 4] func223 D D fun E K af=>?_
 exact aL 1 D<|aO (O 7 D<|dp D D<|cF [] D (.nilCheck (bH D) D)<|cX D wW (bH D) D<|dP D oE D D D<|cF [] D (.pV pt (bH D) (I D) fun h=>by(simp at h;exact⟨by omega,by omega⟩))<|cX D Ep (bH D) D<|cF [] D (.fG bY (bH D) D)<|c6 D D (I D) D<|eg D D D<|O 1 D<|dp D D<|cF [] D (.nilCheck (bH D) D)<|cX D wW (bH D) D<|dP D oE D D D<|cF [] D (.pV pt (bH D) (I D) fun h=>by(simp at h;exact⟨by omega,by omega⟩))<|cX D KC (bH D) D<|cF [] D (.fG ry (bH D) D)<|dp D D<|cF [] D (.seq (bH D) (bH D))<|eg D D D<|aN 1 D)<|bp<|⟨.inr D,⟨_,(.cons (.tmp D) .nil),rfl⟩,(cU (.cons D .nil))⟩
theorem HV(ts:List dQ)(e d:Int)(Z:fh ts e d):bw prog 119 [.ao 0 0] (kr ts e d) (bk (RY ts)) (kr ts e d) [0]:=by
 refine cB [.tmp 2] func119 D D fun E K af=>?_
 exact aL 1 D<|aO (O 7 D<|dp D D<|cF [] D (.nilCheck (bH D) D)<|cX D wW (bH D) D<|dP D oE D D D<|cF [] D (.pV pt (bH D) (I D) fun h=>by(simp at h;exact⟨by omega,by omega⟩))<|cX D Ep (bH D) D<|cF [] D (.fG bY (bH D) D)<|c6 D D (I D) D<|eg D D D<|O 1 D<|dp D D<|cF [] D (.nilCheck (bH D) D)<|cX D wW (bH D) D<|dP D oE D D D<|cF [] D (.pV pt (bH D) (I D) fun h=>by(simp at h;exact⟨by omega,by omega⟩))<|cX D BX (bH D) D<|cF [] D (.fG bY (bH D) D)<|c6 D D (I D) D<|eg D D D<|aN 1 D)<|bp<|⟨.inr D,⟨_,(.cons (.tmp D) .nil),rfl⟩,(cU (.cons D .nil))⟩
theorem abf:bw prog 225 [] [] (.d (HL HU)) [] []:=by
 refine cB [.tmp 0] func225 D D fun E K af=>?_
 exact aL 1 D<|al<|dm (j4 (g:=fun i=>[.v (.string (HU.getD i ByteArray.empty))]) mJ mI D (by decide) (by decide) (ba D D D (ba D D D (ba D D D (ba D D D (ba D D D (ba D D D (ba D D D (ba D D D (ba D D D (ba D D D (ba D D D (ba D D D (ba D D D (ba D D D (ba D D D (ba D D D (ba D D D (ba D D D (ba D D D (ba D D D (ba D D D (ba D D D (ba D D D (ba D D D (ba D D D (.nil _ _)))))))))))))))))))))))))) D (fun i hi=>by rcases(by omega:i=0\/i=1\/i=2\/i=3\/i=4\/i=5\/i=6\/i=7\/i=8\/i=9\/i=10\/i=11\/i=12\/i=13\/i=14\/i=15\/i=16\/i=17\/i=18\/i=19\/i=20\/i=21\/i=22\/i=23\/i=24)with rfl|rfl|rfl|rfl|rfl|rfl|rfl|rfl|rfl|rfl|rfl|rfl|rfl|rfl|rfl|rfl|rfl|rfl|rfl|rfl|rfl|rfl|rfl|rfl|rfl<;>rfl)<|aN 1 D) (nM K af D)<|bp<|dr D D
theorem R0(ts:List dQ)(e d:Int)(Z:fh ts e d):bw prog 175 [.ao 0 0] (kr ts e d) (bk (RZ ts)) (kr ts e d) [0]:=by
 refine cB [.tmp 2] func175 D D fun E K af=>?_
 exact aL 1 D<|ft (O 7 D<|dp D D<|cF [] D (.nilCheck (bH D) D)<|cX D wW (bH D) D<|dP D oE D D D<|cF [] D (.pV pt (bH D) (I D) fun h=>by(simp at h;exact⟨by omega,by omega⟩))<|cX D Ep (bH D) D<|cF [] D (.fG bY (bH D) D)<|c6 D D (I D) D<|eg D D D<|O 1 D<|na D (jr .nil) (fun h=>abf) (au D)<|dp D D<|cF [] D (.nilCheck (bH D) D)<|cX D wW (bH D) D<|dP D oE D D D<|cF [] D (.pV pt (bH D) (I D) fun h=>by(simp at h;exact⟨by omega,by omega⟩))<|cX D KC (bH D) D<|cF [] D (.fG ry (bH D) D)<|na D (jr (.cons (bH D) (.cons (bH D) .nil))) (fun h=>aaQ HU _ (by decide)) (au D)<|cF [] D (.not (bH D))<|eg D D D<|aN 1 D)<|bp<|⟨.inr D,⟨_,(.cons (.tmp D) .nil),rfl⟩,(cU (.cons D .nil))⟩
theorem uP(ts:List dQ)(e d:Int)(Z:fh ts e d)(iU:ByteArray):fC prog 173 [.ao 0 0,jm iU] (kr ts e d) (bk (sB ts iU)) (kr (jA ts iU) e d) [0] ((fun _=>False)) []:=by
 refine kq [.tmp 4] func173 D D fun E K af=>?_
 refine aL 1 D<|aO (O 2 D<|kI (cn D D) (abe ts e d Z iU) (au D) (.cons D .nil) D<|aN 1 D)<|al<|aL 1 D<|a7 D (fun aP=>?_) fun aP=>?_
 ·have bb:=Fi aP
  exact bm (O 5 D<|ag (.rq Eo (I D) (.bK _ (I D) fun _=>by decide) (.lv _) fun _=>⟨by omega,by omega⟩)<|O 2 D<|dZ oE D D D D D<|ar)<|aL 2 D<|bp<|⟨.inr D,⟨_,(.cons (.tmp D) .nil),cM⟩,cI (.cons D (bl.dT (by rw[jA,aP,cond_true,<-HT ts 1 (fun i=>tE (ts.getD (1+i) yQ)) fun i=>rfl];rfl)) .nil)⟩
 exact bx<|aL 2 D<|bp<|⟨.inr D,⟨_,(.cons (.tmp D) .nil),cM⟩,cI (.cons D (bl.dT (by rw[jA,aP];rfl)) .nil)⟩
theorem CC(ts:List dQ)(e d:Int)(Z:fh ts e d):fC prog 118 [.ao 0 0] (kr ts e d) (aF .i64 (aq ts).n) (kr (ts.drop 1) e d) [0] (j9) jz:=by
 refine kq [.tmp 2] func118 D D fun E K af=>?_
 refine aL 1 D<|al<|aO (O 1 D<|kI (cf D) (HV ts e d Z) (au D) (.cons D .nil) D<|aN 1 D)<|a7 D (fun aP=>?_) fun aP=>?_
 ·apply kH 8
  ·exact O 1 D<|dH [] [G 0] (cf D) (yR ts e d Z) (au D) (.cons D .nil) D D (.du D .nil) D (by exact fun bc h=>⟨h,e9⟩) D<|ar
  ·exact bR
  rfl
 have ae:RY ts=true:=by simpa using aP
 have bb:0<ts.length:=Fi ae
 exact bx<|aO (O 4 D<|bW pt D D<|aN 3 D)<|aO (O 5 D<|ag (.rq Eo (I D) (.bK _ (I D) fun _=>by decide) (.lv _) fun _=>⟨by omega,by omega⟩)<|O 2 D<|dZ oE D D D D D<|ar)<|aL 2 D<|bp<|⟨.inr D,⟨_,(.cons (.tmp D) .nil),cM⟩,cI (.cons D (bl.dT (by rw[<-HT ts 1 (fun i=>tE (ts.getD (1+i) yQ)) fun i=>rfl];rfl)) .nil)⟩
theorem AJ(ts:List dQ)(e d:Int)(Z:fh ts e d):fC prog 117 [.ao 0 0] (kr ts e d) (jm (aq ts).iU) (kr (ts.drop 1) e d) [0] (j9) jz:=by
 refine kq [.tmp 2] func117 D D fun E K af=>?_
 refine aL 1 D<|al<|aO (O 1 D<|kI (cf D) (R0 ts e d Z) (au D) (.cons D .nil) D<|aN 1 D)<|a7 D (fun aP=>?_) fun aP=>?_
 ·apply kH 8
  ·exact O 1 D<|dH [] [G 0] (cf D) (yR ts e d Z) (au D) (.cons D .nil) D D (.du D .nil) D (by exact fun bc h=>⟨h,e9⟩) D<|ar
  ·exact bR
  rfl
 have ae:RZ ts=true:=by simpa using aP
 have bb:0<ts.length:=Fi ae
 exact bx<|aO (O 4 D<|bW pt D D<|aN 3 D)<|aO (O 5 D<|ag (.rq Eo (I D) (.bK _ (I D) fun _=>by decide) (.lv _) fun _=>⟨by omega,by omega⟩)<|O 2 D<|dZ oE D D D D D<|ar)<|aL 2 D<|bp<|⟨.inr D,⟨_,(.cons (.tmp D) .nil),cM⟩,cI (.cons D (bl.dT (by rw[<-HT ts 1 (fun i=>tE (ts.getD (1+i) yQ)) fun i=>rfl];rfl)) .nil)⟩
theorem oc(ts:List dQ)(e d:Int)(Z:fh ts e d)(ws:List ByteArray)(hw:ws.length<=100):fC prog 116 [.ao 0 0,.d (HL ws)] (kr ts e d) (.bE []) (kr (ts.drop ws.length) e d) [0] (j9) jz:=by
 refine kq [] func116 D D fun E K af=>?_
 refine aL 3 D<|bX<|eP (σ:=Nat) [(ab 0,_),(ab 6,_),(ab 7,_)] (fun i=>[(ab 8,.aB (aF .i64 ((i:Nat)))),(G 0,.U (.data [hF (ts.drop i),.v (.int .i64 e),.v (.int .i64 d)]))]) (fun i=>i<=ws.length) (fun i=>ws.length-i) 0 (ck D D<|aU) (ck D D<|aZ D<|aU) (Nat.zero_le _) fun i hi=>?_
 refine aL 1 D<|al<|a7 D (fun aP=>?_) fun aP=>?_
 ·have aG:i<ws.length:=eJ aP
  refine bx<|al<|bX<|aO (bW Kx D D<|aN 2 D)<|aO (O 2 D<|ct [] [G 0] (cn D D) (uP (ts.drop i) e d (Z.drop i) (ws.getD i ByteArray.empty)).fn (au D) (.cons D .nil) D D<|aN 1 D)<|a7 D (fun bq=>?_) fun bq=>?_
  ·apply kH 17
   ·exact O 1 D<|dH [] [G 0] (cf D) (yR _ e d (ka (Z.drop i))) (au D) (.cons D .nil) D D (.du D .nil) D (by exact fun bc h=>⟨h,e9⟩) D<|ar
   ·exact bR
   rfl
  have ae:sB (ts.drop i) (ws.getD i ByteArray.empty)=true:=by simpa using bq
  have Lv:jA (ts.drop i) (ws.getD i ByteArray.empty)=ts.drop (i+1):=by rw[jA,ae,cond_true,List.drop_drop]
  exact bx<|bm (cp D D D<|aN 1 D)<|⟨i+1,(by omega),by omega,aZ (ec (by omega))<|aZ (by rw[Lv];rfl)<|aU,ck D D<|aZ D<|aU⟩
 have hle:i=ws.length:=by have:=dj aP;omega
 exact dW<|⟨.inl D,⟨_,(.nil),cM⟩,cI (.cons D (bl.dT (by rw[hle])) .nil)⟩
abbrev sC(m:Nat)(e d:Int):ad:=[(G 0,.U (.data [jy m,.v (.int .i64 e),.v (.int .i64 d)]))]
def rJ(f:FuncId)(n:Nat):Prop:=∀(ts:List dQ) (e d:Int),fh ts e d->d<=63->ts.length<=n->fC prog f [.ao 0 0] (kr ts e d) (.d (.agg jt)) (sC (ts.length-1) e d) [0] j9 jz
theorem pE{m:Nat}{e d:Int}:∀V M w,gC V M w 0 (.data [jy m,.v (.int .i64 e),.v (.int .i64 d)])->∃ts:List dQ,(ts.length<=m/\∀t∈ts,t.b5)/\gC V M w 0 (.data [hF ts,.v (.int .i64 e),.v (.int .i64 d)]):=B7 (j:=0) D ld
theorem od{ts:List dQ}{m:Nat}{e d:Int}(h:ts.length<=m)(dX:∀t∈ts,t.b5):bl (.data [hF ts,.v (.int .i64 e),.v (.int .i64 d)]) (.data [jy m,.v (.int .i64 e),.v (.int .i64 d)]):=bl.data (.cons (.tj ts ⟨h,dX⟩ D) (jP.refl _))
theorem R1{ts:List dQ}{s:ByteArray}(h:sB ts s=true):0<ts.length:=Fi h
theorem CD{ts:List dQ}{s:ByteArray}(h:sB ts s=true):jA ts s=ts.drop 1:=by rw[jA,h];rfl
theorem vL{ts:List dQ}{s:ByteArray}(h:sB ts s=false):jA ts s=ts:=by rw[jA,h];rfl
structure Fj where
 (a b c d e:bg)
abbrev Fj.l(x:Fj):List bg:=[x.a,x.b,x.c,x.d,x.e]
abbrev yS(x:aR):List bg:=[.v (.int .i64 x.kind),.v (.string x.name),.v (.int .i64 x.index),.v (.int .i64 x.n),rB x.l]
theorem CE{x:aR}(h:x.b5):jP (yS x) jt:=by have:=Zb h;rw[yz]at this;exact this
theorem R2{l:Nat}{c:Fj}(h:jP c.l jt):∀V M w,gC V M w l (.data c.l)->∃x:aR,x.b5/\gC V M w l (.data (yS x)):=fun V M w e=>by
 obtain⟨J,vs,t,W,aH,aV⟩:=bl.data h V M w l e
 obtain⟨x,Y,aj⟩:=K2 (M:=M) (c:=fun j=>vs.getD j undef) fun j y ak=>by
  have az:j<vs.size:=by have:=(List.getElem?_eq_some_iff.1 ak).1;rw[l5]at aH;omega
  exact w2 (aV j (.d y) _ (by rw[fJ,ak];rfl) (by simp[Array.getD,az]))
 refine⟨x,Y,J,vs,t,W,by simpa using aH,fun j y z ak bd=>?_⟩
 simp only[fJ,Option.map_eq_some_iff]at ak
 obtain⟨u,hu,rfl⟩:=ak
 have:=aj j u (by rw[yz];exact hu)
 have r3:vs.getD j undef=z:=by
  obtain⟨az,bd⟩:=Array.getElem?_eq_some_iff.1 bd
  simp[Array.getD,az,bd]
 rw[r3]at this
 exact .d _ _ this
theorem LG{k n:Int}{c gp:List bg}{g:Nat->List bg}(K:e1 k)(af:e1 n)(aj:jP c jt)(iy:jP gp jt)(bb:g 0=c)(J:g 1=gp):jP [.v (.int .i64 k),.v (.string ⟨#[]⟩),.v (.int .i64 0),.v (.int .i64 n),.cK 5 2 g] jt:=by
 refine .cons (gG K) (.cons oH (.cons (gG (by decide)) (.cons (gG af) (.cons (EL (by decide) fun i hi=>?_) .nil))))
 rcases(by omega:i=0\/i=1)with rfl|rfl
 ·rw[bb];exact aj
 ·rw[J];exact iy
theorem abg{k:Int}{c:List bg}{g:Nat->List bg}(K:e1 k)(aj:jP c jt)(bb:g 0=c):jP [.v (.int .i64 k),.v (.string ⟨#[]⟩),.v (.int .i64 0),fi,.cK 5 1 g] jt:=by
 refine .cons (gG K) (.cons oH (.cons (gG (by decide)) (.cons (.refl _) (.cons (EL (by decide) fun i hi=>?_) .nil))))
 obtain rfl:i=0:=by omega
 rw[bb];exact aj
theorem rK{us:List dQ}{s:ByteArray}{m:Nat}(h:sB us s=true)(aw:us.length<=m):(jA us s).length-1<m:=by
 rw[CD h];have:=R1 h;simp;omega
theorem R3{us:List dQ}{e d:Int}(Z:fh us e d):fC prog 118 [.ao 0 0] (kr us e d) (.d fi) (sC (us.length-1) e d) [0] j9 jz:=
 (CC us e d Z).bQ (iD (gG (by
  by_cases bb:0<us.length
  ·exact(Z.aq bb).2.1
  ·have:us=[]:=List.eq_nil_of_length_eq_zero (by omega)
   subst this;exact⟨by decide,by decide⟩))) (cI (.cons D (od (by simp) (Z.drop 1).ok) .nil))
theorem abh(ts:List dQ)(e d:Int)(Z:fh ts e d)(iV:d<=63)(n:Nat)(yT:rJ 265 n)(nZ:ts.length<=n):fC prog 256 [.ao 0 0] (kr ts e d) (.d (.agg jt)) (sC (ts.length-1) e d) [0] (j9) jz:=by
 have hlen:=Z.len
 refine kq [.cell 2 65] func256 D D fun E K af=>?_
 refine aO (cm 2 hn D<|ar)<|aO (O 1 D<|dH [] [G 0] (cf D) (yT ts e d Z iV nZ) (au D) (.cons D .nil) D D (.du D .nil) D (by exact fun bc h=>⟨h,e9⟩) D<|cm 3 hn D<|cL dL D D D D<|ar)<|bX<|eP (σ:=Nat×Fj) [(ab 0,_),(ab 2,_),(ab 3,_),(G 2,_)] (fun i=>[(G 0,.U (.data [jy i.1,.v (.int .i64 e),.v (.int .i64 d)])),(G 3,.U (.data i.2.l))]) (fun i=>i.1<=ts.length-1/\jP i.2.l jt) (fun i=>i.1) (ts.length-1,⟨fi,n0,fi,fi,Cb⟩) (ck D D<|aU) (da D D D D<|aU) ⟨Nat.le_refl _,jP.refl _⟩ fun i hi=>?_
 refine bX<|bX<|al<|iE (l:=0) (B':=fun ts=>.data [hF ts,.v (.int .i64 e),.v (.int .i64 d)]) D pE fun us hb=>?_
 have gv:fh us e d:=⟨by omega,hb.2,Z.e,Z.d⟩
 refine iE (l:=3) (B':=fun x=>.data (yS x)) D (R2 hi.2) fun x Y=>?_
 refine bm (O 1 D<|ct [] [G 0] (cn D D) (uP us e d gv _).fn (au D) (.cons D .nil) D D<|aN 1 D)<|a7 D (fun aP=>?_) fun aP=>?_
 ·exact eo (O 2 D<|dH [] [G 0] (cf D) (yT _ e d (ka gv) iV (by have:=rK aP hb.1;omega)) (au D) (.cons D .nil) D D (.du D .nil) D (by exact fun bc h=>⟨h,e9⟩) D<|j4 (g:=fun i=>[yS x,jt].getD i []) tg hn D (by decide) (by decide) (ba D D D (ba D D D (.nil _ _))) D (fun i hi=>by rcases(by omega:i=0\/i=1)with rfl|rfl<;>rfl)<|ag (.build hn wX (ba D D D (ba D D D (.nil _ _))) D)<|cL dL D D D D<|ar)<|⟨(((jA us _).length-1),⟨_,_,_,_,_⟩),⟨Nat.le_trans (Nat.le_of_lt (rK aP hb.1)) hi.1,LG (by decide) (by decide) (CE Y) (jP.refl _) D D⟩,rK aP hb.1,ck D D<|aU,da D D D D<|aU⟩
 have AK:(jA us ⟨#[43]⟩).length<=i.1:=by rw[vL aP];exact hb.1
 refine aO (O 1 D<|ct [] [G 0] (cn D D) (uP _ e d (ka gv) _).fn (au D) (.cons D .nil) D D<|aN 1 D)<|a7 D (fun bq=>?_) fun bq=>?_
 ·exact eo (O 2 D<|dH [] [G 0] (cf D) (yT _ e d (ka (ka gv)) iV (by have:=rK bq AK;omega)) (au D) (.cons D .nil) D D (.du D .nil) D (by exact fun bc h=>⟨h,e9⟩) D<|j4 (g:=fun i=>[yS x,jt].getD i []) tg hn D (by decide) (by decide) (ba D D D (ba D D D (.nil _ _))) D (fun i hi=>by rcases(by omega:i=0\/i=1)with rfl|rfl<;>rfl)<|ag (.build hn wX (ba D D D (ba D D D (.nil _ _))) D)<|cL dL D D D D<|ar)<|⟨(((jA (jA us _) _).length-1),⟨_,_,_,_,_⟩),⟨by have:=rK bq AK;omega,LG (by decide) (by decide) (CE Y) (jP.refl _) D D⟩,rK bq AK,ck D D<|aU,da D D D D<|aU⟩
 have ajn:(jA (jA us ⟨#[43]⟩) ⟨#[45]⟩).length<=i.1:=by rw[vL bq];exact AK
 exact aO (O 1 D<|cL dL D D D D<|ar)<|bp<|⟨.inr D,⟨_,(.cons (.iP D D dL D) .nil),(iD (.agg (CE Y)))⟩,cI (.cons D (od (by omega) (ka (ka gv)).ok) .nil)⟩
theorem abi(ts:List dQ)(e d:Int)(Z:fh ts e d)(iV:d<=63)(n:Nat)(yT:rJ 268 n)(nZ:ts.length<=n):fC prog 265 [.ao 0 0] (kr ts e d) (.d (.agg jt)) (sC (ts.length-1) e d) [0] (j9) jz:=by
 have hlen:=Z.len
 refine kq [.cell 2 65] func265 D D fun E K af=>?_
 refine aO (cm 2 hn D<|ar)<|aO (O 1 D<|dH [] [G 0] (cf D) (yT ts e d Z iV nZ) (au D) (.cons D .nil) D D (.du D .nil) D (by exact fun bc h=>⟨h,e9⟩) D<|cm 3 hn D<|cL dL D D D D<|ar)<|bX<|eP (σ:=Nat×Fj) [(ab 0,_),(ab 2,_),(ab 3,_),(G 2,_)] (fun i=>[(G 0,.U (.data [jy i.1,.v (.int .i64 e),.v (.int .i64 d)])),(G 3,.U (.data i.2.l))]) (fun i=>i.1<=ts.length-1/\jP i.2.l jt) (fun i=>i.1) (ts.length-1,⟨fi,n0,fi,fi,Cb⟩) (ck D D<|aU) (da D D D D<|aU) ⟨Nat.le_refl _,jP.refl _⟩ fun i hi=>?_
 refine bX<|bX<|al<|iE (l:=0) (B':=fun ts=>.data [hF ts,.v (.int .i64 e),.v (.int .i64 d)]) D pE fun us hb=>?_
 have gv:fh us e d:=⟨by omega,hb.2,Z.e,Z.d⟩
 refine iE (l:=3) (B':=fun x=>.data (yS x)) D (R2 hi.2) fun x Y=>?_
 refine bm (O 1 D<|ct [] [G 0] (cn D D) (uP us e d gv _).fn (au D) (.cons D .nil) D D<|aN 1 D)<|a7 D (fun aP=>?_) fun aP=>?_
 ·exact eo (O 2 D<|dH [] [G 0] (cf D) (yT _ e d (ka gv) iV (by have:=rK aP hb.1;omega)) (au D) (.cons D .nil) D D (.du D .nil) D (by exact fun bc h=>⟨h,e9⟩) D<|j4 (g:=fun i=>[yS x,jt].getD i []) tg hn D (by decide) (by decide) (ba D D D (ba D D D (.nil _ _))) D (fun i hi=>by rcases(by omega:i=0\/i=1)with rfl|rfl<;>rfl)<|ag (.build hn wX (ba D D D (ba D D D (.nil _ _))) D)<|cL dL D D D D<|ar)<|⟨(((jA us _).length-1),⟨_,_,_,_,_⟩),⟨Nat.le_trans (Nat.le_of_lt (rK aP hb.1)) hi.1,LG (by decide) (by decide) (CE Y) (jP.refl _) D D⟩,rK aP hb.1,ck D D<|aU,da D D D D<|aU⟩
 have AK:(jA us ⟨#[42]⟩).length<=i.1:=by rw[vL aP];exact hb.1
 refine aO (O 1 D<|ct [] [G 0] (cn D D) (uP _ e d (ka gv) _).fn (au D) (.cons D .nil) D D<|aN 1 D)<|a7 D (fun bq=>?_) fun bq=>?_
 ·refine al<|aO (O 1 D<|kI (cf D) (HV _ e d (ka (ka gv))) (au D) (.cons D .nil) D<|O 1 D<|dp D D<|cF [] D (.nilCheck (bH D) D)<|cX D wW (bH D) D<|dP D oE D D D<|cF [] D (.pV pt (bH D) (I D) fun h=>by refine⟨by omega,?_⟩;exact Fi (beq_iff_eq.1 h))<|cX D BX (bH D) D<|cF [] D (.fG bY (bH D) D)<|c6 D D (I D) D<|eg D D D<|ar)<|a7 D (fun b3=>?_) (fun b3=>?_)
  ·apply kH 31
   ·exact O 1 D<|dH [] [G 0] (cf D) (yR _ e d (ka (ka gv))) (au D) (.cons D .nil) D D (.du D .nil) D (by exact fun bc h=>⟨h,e9⟩) D<|ar
   ·exact bR
   rfl
  exact bx<|eo (O 1 D<|dH [] [G 0] (cf D) (R3 (ka (ka gv))) (au D) (.cons D .nil) D D (.du D .nil) D (by exact fun bc h=>⟨h,e9⟩) D<|O 1 D<|j4 (g:=fun i=>[yS x].getD i []) tg hn D (by decide) (by decide) (ba D D D (.nil _ _)) D (fun i hi=>by obtain rfl:i=0:=(by omega);rfl)<|ag (.build hn wX (ba D D D (ba D D D (ba D D D (.nil _ _)))) D)<|cL dL D D D D<|ar)<|⟨(((jA (jA us _) _).length-1),⟨_,_,_,_,_⟩),⟨by have:=rK bq AK;omega,abg (by decide) (CE Y) D⟩,rK bq AK,ck D D<|aU,da D D D D<|aU⟩
 exact aO (O 1 D<|cL dL D D D D<|ar)<|bp<|⟨.inr D,⟨_,(.cons (.iP D D dL D) .nil),(iD (.agg (CE Y)))⟩,cI (.cons D (od (by rw[vL bq];omega) (ka (ka gv)).ok) .nil)⟩
theorem abj(ts:List dQ)(e d:Int)(Z:fh ts e d)(iV:d<=63)(n:Nat)(hk:rJ 256 n)(nC:∀m,m<n->rJ 226 m)(nZ:ts.length<=n):fC prog 226 [.ao 0 0] (kr ts e d) (.d (.agg jt)) (sC (ts.length-1) e d) [0] (j9) jz:=by
 have hlen:=Z.len
 refine kq [.cell 2 65] func226 D D fun E K af=>?_
 refine aO (cm 2 hn D<|ar)<|al<|aO (O 1 D<|ct [] [G 0] (cn D D) (uP ts e d Z _).fn (au D) (.cons D .nil) D D<|aN 1 D)<|a7 D (fun aP=>?_) fun aP=>?_
 ·have ae:sB ts ⟨#[105,102]⟩=false:=by simpa using aP
  have aT:=vL ae
  exact aO (O 1 D<|dH [] [G 0] (cf D) (hk _ e d (ka Z) iV (by rw[aT];exact nZ)) (au D) (.cons D .nil) D D (.du D .nil) D (by exact fun bc h=>⟨h,e9⟩) D<|cL dL D D D D<|ar)<|bp<|⟨.inr D,⟨_,(.cons (.iP D D dL D) .nil),cM⟩,cI (.cons D (bl.dT (by rw[aT])) .nil)⟩
 have ae:sB ts ⟨#[105,102]⟩=true:=by simpa using aP
 have bb:=R1 ae
 have aT:(jA ts ⟨#[105,102]⟩).length=ts.length-1:=by rw[CD ae];simp
 refine bx<|aO (O 1 D<|dH [] [G 0] (cf D) (hk _ e d (ka Z) iV (by omega)) (au D) (.cons D .nil) D D (.du D .nil) D (by exact fun bc h=>⟨h,e9⟩) D<|gN 11 [] tg hn D (by decide) (by decide) (ba D D D (.nil _ _)) D D D<|aN 1 D)<|al<|iE (l:=0) (B':=fun ts=>.data [hF ts,.v (.int .i64 e),.v (.int .i64 d)]) D pE fun us hb=>?_
 have qR:=hb.1
 try simp only[h1]at qR
 have gv:fh us e d:=⟨by omega,hb.2,Z.e,Z.d⟩
 refine bm (O 1 D<|j4 (g:=fun i=>[.v (.string ([⟨#[60]⟩].getD i ByteArray.empty))]) mJ mI D (by decide) (by decide) (ba D D D (.nil _ _)) D (fun i hi=>by obtain rfl:i=0:=(by omega);rfl)<|dH [] [G 0] (cn D D) (oc us e d gv [⟨#[60]⟩] (by decide)) (au D) (.cons D .nil) D D (.du D .nil) D (by exact fun bc h=>⟨h,e9⟩) D<|ar)<|aO (O 2 D<|dH [] [G 0] (cf D) (hk _ e d (gv.drop _) iV (by simp only[h1];omega)) (au D) (.cons D .nil) D D (.du D .nil) D (by exact fun bc h=>⟨h,e9⟩) D<|gN 18 [] tg hn D (by decide) (by decide) (ba D D D (.nil _ _)) D D D<|hA 19 [G 11] BS BT (by decide) (.aQ (I D) D) (.aQ (I D) D) (bz.hT D) (hB D) (by decide) (by decide) D D<|aN 1 D)<|al<|iE (l:=0) (B':=fun ts=>.data [hF ts,.v (.int .i64 e),.v (.int .i64 d)]) D pE fun kt vM=>?_
 have HW:=vM.1
 try simp only[h1]at HW
 have xq:fh kt e d:=⟨by omega,vM.2,Z.e,Z.d⟩
 refine bm (O 1 D<|j4 (g:=fun i=>[.v (.string ([⟨#[116,104,101,110]⟩].getD i ByteArray.empty))]) mJ mI D (by decide) (by decide) (ba D D D (.nil _ _)) D (fun i hi=>by obtain rfl:i=0:=(by omega);rfl)<|dH [] [G 0] (cn D D) (oc kt e d xq [⟨#[116,104,101,110]⟩] (by decide)) (au D) (.cons D .nil) D D (.du D .nil) D (by exact fun bc h=>⟨h,e9⟩) D<|ar)<|aO (O 2 D<|dH [] [G 0] (cf D) (nC (n-1) (by omega) _ e d (xq.drop _) iV (by simp only[h1];omega)) (au D) (.cons D .nil) D D (.du D .nil) D (by exact fun bc h=>⟨h,e9⟩) D<|gN 26 [] tg hn D (by decide) (by decide) (ba D D D (.nil _ _)) D D D<|hA 27 [G 19] BS BT (by decide) (.aQ (I D) D) (.aQ (I D) D) (bz.hT D) (hB D) (by decide) (by decide) D D<|aN 1 D)<|al<|iE (l:=0) (B':=fun ts=>.data [hF ts,.v (.int .i64 e),.v (.int .i64 d)]) D pE fun oS CF=>?_
 have R4:=CF.1
 try simp only[h1]at R4
 have yU:fh oS e d:=⟨by omega,CF.2,Z.e,Z.d⟩
 exact bm (O 1 D<|j4 (g:=fun i=>[.v (.string ([⟨#[101,108,115,101]⟩].getD i ByteArray.empty))]) mJ mI D (by decide) (by decide) (ba D D D (.nil _ _)) D (fun i hi=>by obtain rfl:i=0:=(by omega);rfl)<|dH [] [G 0] (cn D D) (oc oS e d yU [⟨#[101,108,115,101]⟩] (by decide)) (au D) (.cons D .nil) D D (.du D .nil) D (by exact fun bc h=>⟨h,e9⟩) D<|ar)<|aO (O 2 D<|dH [] [G 0] (cf D) (nC (n-1) (by omega) _ e d (yU.drop _) iV (by simp only[h1];omega)) (au D) (.cons D .nil) D D (.du D .nil) D (by exact fun bc h=>⟨h,e9⟩) D<|gN 34 [] tg hn D (by decide) (by decide) (ba D D D (.nil _ _)) D D D<|hA 35 [G 27] BS BT (by decide) (.aQ (I D) D) (.aQ (I D) D) (bz.hT D) (hB D) (by decide) (by decide) D D<|ag (.build hn wX (ba D D D (ba D D D (.nil _ _))) D)<|ny dL (I D) (I D) D D D (eZ.1 D) (cC D) D<|ar)<|c1 (b1.mH (lb:=2) (j:=4) (l:=35) (n:=5) (g:=fun _=>jt) D D D D (fun j az=>by rcases(by omega:j=0\/j=1\/j=2\/j=3)with rfl|rfl|rfl|rfl<;>rfl) D)<|bp<|⟨.inr D,⟨_,(.cons (.va D D dL D) .nil),(iD (.agg (.cons (gG (by decide)) (.cons oH (.cons (gG (by decide)) (.cons (gG (by decide)) (.cons (EL (by decide) fun i hi=>.refl _) .nil)))))))⟩,cI (.cons D (bl.data (.cons (.gn fun l aa=>⟨l,⟨by have:=aa.1;simp only[h1]at this;omega,aa.2⟩,.refl _⟩) (.refl _))) .nil)⟩
theorem R5(n:Int):e1 (IntKind.wrap .i64 n):=by
 unfold e1
 simp[IntKind.wrap,IntKind.bits,IntKind.signed]
 constructor<;>split<;>omega
theorem HX(ts:List dQ)(e d:Int)(Z:fh ts e d):fC prog 179 [.ao 0 0] (kr ts e d) (.d fi) (sC (ts.length-1) e d) [0] (j9) jz:=by
 refine kq [.tmp 2] func179 D D fun E K af=>?_
 refine aL 1 D<|al<|aO (O 1 D<|ct [] [G 0] (cn D D) (uP ts e d Z _).fn (au D) (.cons D .nil) D D<|ar)<|a7 D (fun aP=>?_) fun aP=>?_
 ·exact aO (O 1 D<|dH [] [G 0] (cf D) (CC _ e d (ka Z)) (au D) (.cons D .nil) D D (.du D .nil) D (by exact fun bc h=>⟨h,e9⟩) D<|ag (.Ht (I D))<|aN 1 D)<|bp<|⟨.inr D,⟨_,(.cons (.tmp D) .nil),(iD (gG (R5 _)))⟩,cI (.cons D (od (by rw[CD aP];simp;omega) ((ka Z).drop 1).ok) .nil)⟩
 exact bx<|aO (O 1 D<|dH [] [G 0] (cf D) (R3 (ka Z)) (au D) (.cons D .nil) D D (.du D .nil) D (by exact fun bc h=>⟨h,e9⟩) D<|aN 1 D)<|bp<|⟨.inr D,⟨_,(.cons (.tmp D) .nil),cM⟩,cI (.cons D (bl.dT (by rw[vL aP])) .nil)⟩
abbrev pF(k n:Int)(b:Bool):bg:=.agg [.v (.int .i64 k),.v (.int .i64 n),.v (.bool b)]
abbrev LH:List (ByteArray×bg):=(dM (dM (dM (dM (dM (dM (dM (dM [] ⟨#[105,110]⟩ (pF 6 1 false)) ⟨#[115,105,100,101]⟩ (pF 7 1 false)) ⟨#[115,97,116]⟩ (pF 10 1 false)) ⟨#[97,98,115]⟩ (pF 13 1 false)) ⟨#[116,97,112]⟩ (pF 8 1 true)) ⟨#[108,111,111,107]⟩ (pF 9 1 true)) ⟨#[109,105,110]⟩ (pF 11 2 false)) ⟨#[109,97,120]⟩ (pF 12 2 false))
theorem vN:rC prog 287 hD (pF 0 0 false):=As underlying287 (K6 underlying9) (by kernel_rfl) fun M=>K7 [.int .i64 0,.int .i64 0,.bool false]
theorem abk{s:ByteArray}{x:bg}(h:cb LH s=some x):∃k n b,x=pF k n b/\e1 k/\(n=1\/n=2):=by
 have key:∀(m:List (ByteArray×bg)) (t:ByteArray) (k n:Int) (b:Bool),e1 k->(n=1\/n=2)->(cb m s=some x->∃k n b,x=pF k n b/\e1 k/\(n=1\/n=2))->cb (dM m t (pF k n b)) s=some x->∃k n b,x=pF k n b/\e1 k/\(n=1\/n=2):=fun m t k n b K af aJ h=>by
  rw[oI]at h
  by_cases aT:t=s
  ·rw[if_pos aT]at h;injection h with h;exact⟨k,n,b,h.symm,K,af⟩
  ·rw[if_neg aT]at h;exact aJ h
 refine key _ _ _ _ _ ?_ ?_ (key _ _ _ _ _ ?_ ?_ (key _ _ _ _ _ ?_ ?_ (key _ _ _ _ _ ?_ ?_ (key _ _ _ _ _ ?_ ?_ (key _ _ _ _ _ ?_ ?_ (key _ _ _ _ _ ?_ ?_ (key _ _ _ _ _ ?_ ?_ fun h=>by cases h))))))) h<;>decide
theorem R6:bw prog 270 [] [] (.mp 1) [(G 1,.U (hE hD id LH))] []:=by
 refine cB [.tmp 0] func270 D D fun E K af=>?_
 exact aL 1 D<|aO (sn hD id 1 [] D<|ag (.build vq yr (ba D D D (ba D D D (ba D D D (.nil _ _)))) D)<|hP (kv:=hD) (f:=id) vN (I D) (.v (I D)) (.d (I D)) D<|ag (.build vq yr (ba D D D (ba D D D (ba D D D (.nil _ _)))) D)<|hP (kv:=hD) (f:=id) vN (I D) (.v (I D)) (.d (I D)) D<|ag (.build vq yr (ba D D D (ba D D D (ba D D D (.nil _ _)))) D)<|hP (kv:=hD) (f:=id) vN (I D) (.v (I D)) (.d (I D)) D<|ag (.build vq yr (ba D D D (ba D D D (ba D D D (.nil _ _)))) D)<|hP (kv:=hD) (f:=id) vN (I D) (.v (I D)) (.d (I D)) D<|ag (.build vq yr (ba D D D (ba D D D (ba D D D (.nil _ _)))) D)<|hP (kv:=hD) (f:=id) vN (I D) (.v (I D)) (.d (I D)) D<|ag (.build vq yr (ba D D D (ba D D D (ba D D D (.nil _ _)))) D)<|hP (kv:=hD) (f:=id) vN (I D) (.v (I D)) (.d (I D)) D<|ag (.build vq yr (ba D D D (ba D D D (ba D D D (.nil _ _)))) D)<|hP (kv:=hD) (f:=id) vN (I D) (.v (I D)) (.d (I D)) D<|ag (.build vq yr (ba D D D (ba D D D (ba D D D (.nil _ _)))) D)<|hP (kv:=hD) (f:=id) vN (I D) (.v (I D)) (.d (I D)) D<|aN 2 D)<|bp<|⟨.inr D,⟨_,(.cons (.tmp D) .nil),rfl⟩,(cU (.cons D .nil))⟩
abbrev ic(l:List bg)(n:Nat):List bz:=l.map fun x=>.ds (List.replicate n x)
theorem yV(l:List bg)(n i:Nat)(h:i<n):(ic l n).map (bz.at · i)=l:=by
 rw[List.map_map]
 have:((fun x:bz=>x.at i)∘fun x=>bz.ds (List.replicate n x))=id:=funext fun x=>by simp[bz.at,cN,h]
 rw[this,List.map_id]
theorem AL(l:List bg)(n:Nat):∀c∈ic l n,c.len=n:=fun c aj=>by
 obtain⟨x,_,rfl⟩:=List.mem_map.1 aj
 simp[bz.len]
theorem xr(l:List bg)(n:Nat):ic l (n+1)=l.map fun x=>.ds (List.replicate n x++[x]):=by simp[ic,List.replicate_succ']
theorem abl(ts:List dQ)(e d:Int)(Z:fh ts e d)(kind n:Int)(named:Bool)(AM:e1 kind)(lV:n=1\/n=2)(iV:d<=63)(N:Nat)(nC:rJ 226 N)(aa:ts.length<=N):fC prog 271 [.ao 0 0,aF .i64 kind,aF .i64 n,bk named] (kr ts e d) (.d (.agg jt)) (sC (ts.length-1) e d) [0] (j9) jz:=by
 have hlen:=Z.len
 refine kq [.cell 8 65] func271 D D fun E K af=>?_
 refine aO (cm 8 hn D<|ar)<|aO (O 1 D<|j4 (g:=fun i=>[.v (.string ([⟨#[40]⟩].getD i ByteArray.empty))]) mJ mI D (by decide) (by decide) (ba D D D (.nil _ _)) D (fun i hi=>by obtain rfl:i=0:=(by omega);rfl)<|dH [] [G 0] (cn D D) (oc ts e d Z [⟨#[40]⟩] (by decide)) (au D) (.cons D .nil) D D (.du D .nil) D (by exact fun bc h=>⟨h,e9⟩) D<|ar)<|aO (O 2 D<|dZ bY D D D D D<|ar)<|w9 [(ab 0,.aB (.ao 0 0)),(ab 2,.aB (aF .i64 n)),(ab 8,.aB (.ao 8 0)),(G 0,.U (.data [jy (ts.length-1),.v (.int .i64 e),.v (.int .i64 d)])),(G 8,.U (.data [.v (.int .i64 kind),n0,.v (.int .i64 0),.v (.int .i64 0),.v (.slice none 0 0)]))] ?_ ?_
 ·refine aL 1 D<|a7 D (fun aP=>?_) (fun aP=>?_)
  ·exact aO (O 1 D<|dH [] [G 0] (cf D) (AJ _ e d (Z.drop 1)) (au D) (.cons D .nil) D D (.du D .nil) D (by exact fun bc h=>⟨h,e9⟩) D<|O 1 D<|dZ ry D D D D D<|ar)<|bm (O 1 D<|j4 (g:=fun i=>[.v (.string ([⟨#[44]⟩].getD i ByteArray.empty))]) mJ mI D (by decide) (by decide) (ba D D D (.nil _ _)) D (fun i hi=>by obtain rfl:i=0:=(by omega);rfl)<|dH [] [G 0] (cn D D) (oc _ e d ((Z.drop 1).drop 1) [⟨#[44]⟩] (by decide)) (au D) (.cons D .nil) D D (.du D .nil) D (by exact fun bc h=>⟨h,e9⟩) D<|ar)<|(eH (.s D (.s D (.s D (.b D (od (by simp;omega) (((Z.drop 1).drop 1).drop 1).ok) (.b D (bl.data (.cons (.refl _) (.cons oH (.refl _)))) (.nil)))))))
  exact bx<|(eH (.s D (.s D (.s D (.b D (od (by simp) (Z.drop 1).ok) (.b D (bl.data (.cons (.refl _) (.cons oH (.refl _)))) (.nil)))))))
 refine al<|aL 2 D<|bX<|iE (ι:=Unit) (l:=8) (Φ:=fun _=>True) (B':=fun _=>.cells [aF .i64 kind,.d n0,aF .i64 0,aF .i64 0,k4]) D (fun V M w h=>⟨(),trivial,h⟩) fun _ _=>?_
 refine c1 (b1.nd (lb:=8) (j:=4) (l:=20) (n:=5) (fq:=ic jt 0) D D D D (by rw[K];decide) D (AL _ _) D)<|pz (σ:=Nat) [(ab 0,_),(ab 8,_),(ab 22,_)] (fun i=>[(G 0,.U (.data [jy (ts.length-1),.v (.int .i64 e),.v (.int .i64 d)])),(ab 23,.aB (aF .i64 (i:Int))),(G 8,.U (.cells [aF .i64 kind,.d n0,aF .i64 0,aF .i64 0,.aQ 20 i])),(G 20,.U (.bG 5 i (ic jt i)))]) (fun i=>(i:Int)<=n) (fun i=>(n-i).toNat) 0 (eH (.s D (.s D (.s D (.s D (.nil)))))) (ck D D<|aZ D<|aU) (by omega) fun i hi=>?_
 refine aL 1 D<|al<|a7 D (fun bq=>?_) fun bq=>?_
 ·have aG:(i:Int)<n:=cJ bq
  refine iE (l:=0) (B':=fun ts=>.data [hF ts,.v (.int .i64 e),.v (.int .i64 d)]) D pE fun us hb=>?_
  have qR:=hb.1
  try simp only[h1]at qR
  have gv:fh us e d:=⟨by omega,hb.2,Z.e,Z.d⟩
  refine bx<|al<|bX<|aL 2 D<|al<|aL 2 D<|a7 D (fun b3=>?_) fun b3=>?_
  ·exact bm (O 1 D<|j4 (g:=fun i=>[.v (.string ([⟨#[44]⟩].getD i ByteArray.empty))]) mJ mI D (by decide) (by decide) (ba D D D (.nil _ _)) D (fun i hi=>by obtain rfl:i=0:=(by omega);rfl)<|dH [] [G 0] (cn D D) (oc us e d gv [⟨#[44]⟩] (by decide)) (au D) (.cons D .nil) D D (.du D .nil) D (by exact fun bc h=>⟨h,e9⟩) D<|ar)<|gI 20 37 D<|eo (O 3 D<|dH [] [G 0] (cf D) (nC _ e d (by exact gv.drop _) iV (by(simp only[h1];omega))) (au D) (.cons D .nil) D D (.du D .nil) D (by exact fun bc h=>⟨h,e9⟩) D<|gN 35 [] tg hn D (by decide) (by decide) (ba D D D (.nil _ _)) D D D<|hA 20 [G 37] BS BT (by decide) (.aQ (I D) D) (.aQ (I D) D) (bz.hT D) (hB D) (by omega) (by omega) D D<|O 1 D<|iG kn D D D D D<|ar)<|bm (cp D D D<|aN 1 D)<|⟨i+1,(by omega),by omega,eH (.b D (bl.data (.cons (.gn fun l aa=>⟨l,⟨by first|(have:=aa.1;omega)|(have:=aa.1;simp only[h1]at this;omega),aa.2⟩,.refl _⟩) (.refl _))) (.a D (by rw[show((i+1:Nat):Int)=(i:Int)+1 by omega];exact cM) (.s D (.b D (bl.dT (by rw[show ic jt (i+1)=_ from xr jt i];rfl)) (.nil))))),ck D D<|aZ D<|aU⟩
  refine bx<|gI 20 37 D<|?_
  apply xZ mixed
  ·apply O 1 D
   first|apply cH [_] (.h2 kn (I D) D D)|apply cH [_] (.wB kn (I D) D D)|apply ag (.fG kn (I D) D)|apply cH [_] (.pU kn (I D) D D D fun _=>by omega)
   apply O 1 D
   apply dH [] [G 0] (cf D) (nC _ e d (by first|exact gv|exact gv.drop _) iV (by first|omega|(simp only[h1];omega))) (au D) (.cons D .nil) D D (.du D .nil) D (by exact fun bc h=>⟨h,e9⟩) D
   apply gN 35 [] tg hn D (by decide) (by decide) (ba D D D (.nil _ _)) D D D
   apply hA 20 [G 37] BS BT (by decide) (.aQ (I D) D) (.aQ (I D) D) (bz.hT D) (hB D) (by omega) (by omega) D D
   apply O 1 D
   first|apply dZ kn D D D D D|apply ny kn (I D) (I D) D D D (by simp[ai.fk,jo]) (cC D) D|apply iG kn D D D D D|apply x9 kn (I D) (I D) D D D D (by decide) (by simp[ai.fk,jo]) rfl (by omega)
   exact .nil _
  ·rfl
  ·exact bR
  exact bm (cp D D D<|aN 1 D)<|⟨i+1,(by omega),by omega,eH (.b D (bl.data (.cons (.gn fun l aa=>⟨l,⟨by first|(have:=aa.1;omega)|(have:=aa.1;simp only[h1]at this;omega),aa.2⟩,.refl _⟩) (.refl _))) (.a D (by rw[show((i+1:Nat):Int)=(i:Int)+1 by omega];exact cM) (.s D (.b D (bl.dT (by rw[show ic jt (i+1)=_ from xr jt i];rfl)) (.nil))))),ck D D<|aZ D<|aU⟩
 have hle:n<=(i:Int):=by have:=dj bq;omega
 refine iE (l:=0) (B':=fun ts=>.data [hF ts,.v (.int .i64 e),.v (.int .i64 d)]) D pE fun us hb=>?_
 have qR:=hb.1
 try simp only[h1]at qR
 have gv:fh us e d:=⟨by omega,hb.2,Z.e,Z.d⟩
 refine dW<|aO (O 1 D<|j4 (g:=fun i=>[.v (.string ([⟨#[41]⟩].getD i ByteArray.empty))]) mJ mI D (by decide) (by decide) (ba D D D (.nil _ _)) D (fun i hi=>by obtain rfl:i=0:=(by omega);rfl)<|dH [] [G 0] (cn D D) (oc us e d gv [⟨#[41]⟩] (by decide)) (au D) (.cons D .nil) D D (.du D .nil) D (by exact fun bc h=>⟨h,e9⟩) D<|ar)<|al<|c1 (b1.mH (lb:=8) (j:=4) (l:=20) (n:=5) (g:=fun _=>jt) D D D D (fun j az=>yV jt i j az) D)<|?_
 apply dm
 ·first|apply cH [_] (.GC dL (I D) D (by first|rfl|(simp<;>trivial)))|apply cH [_] (.pT dL (I D) D fun _=>by first|exact cC D|(simp<;>trivial))|apply cH [_] (.x2 dL (I D) D fun _=>cC D)|apply ag (.kD dL (I D) fun _=>by decide)|apply ag (.kD dL (I D) fun _=>cC D)|apply cH [_] (.N5 dL (I D) D D (fun _=>by decide) fun _=>by omega)|apply cH [_] (.ajo dL (I D) D)
  first|apply bI.zM dL (I D) (I D) D D (by first|rfl|exact cC D|(simp<;>trivial)) (by exact eZ.1 D) (by first|rfl|exact cC D|(simp<;>trivial)) (J0 (by first|rfl|exact cC D|(simp<;>trivial)))|apply bI.zM dL (I D) (I D) D D (by first|rfl|exact cC D|(simp<;>trivial)) (by exact eZ.1 D) (by first|rfl|exact cC D|(simp<;>trivial)) D|apply ny dL (I D) (I D) D D (by first|rfl|exact cC D|(simp<;>trivial)) (by exact eZ.1 D) (by first|rfl|exact cC D|(simp<;>trivial)) D|apply x7 dL (I D) (I D) D D (by first|rfl|exact cC D|(simp<;>trivial)) (by exact eZ.1 D) (by simp) rfl|apply x9 dL (I D) (I D) D D D D (by decide) (by simp[ai.fk,jo]) rfl (by omega)
  exact .nil _
 ·exact bR
 exact bp<|⟨.inr D,⟨_,(.cons (.va D D dL D) .nil),(iD (.agg (.cons (gG AM) (.cons (.refl _) (.cons (gG (by decide)) (.cons (gG (by decide)) (.cons (EL (by omega) fun i hi=>.refl _) .nil)))))))⟩,cI (.cons D (od (by simp;omega) (gv.drop 1).ok) .nil)⟩
theorem Fk(x:bg)(e d:Int)(aq:0<=d/\d<=64)(B:cO)(u:FrameMode):nS prog 269 [.ao 1 0] [(G 0,.U (.data [x,.v (.int .i64 e),.v (.int .i64 (d+1))])),(G 1,.U (.cells [.ao 0 0])),(G 2,.U B)] [(G 0,.U (.data [x,.v (.int .i64 e),.v (.int .i64 d)])),(G 1,.U (.cells [.ao 0 0])),(G 2,.U B)] (u) (u) [1,2,0]:=by
 exact bw.QP _ func269 D (cC D) (lD D) D fun E K af=>(bm (O 4 D<|cp D D D<|O 2 D<|dZ bY D D D D D<|ar)<|⟨.inl D,cI (.cons D (bl.dT (by rw[show d+1-1=d by omega];rfl)) (.cons D (bl.refl _) (.cons D (bl.refl _) .nil)))⟩)
theorem abm(u:FrameMode):nS prog 269 [.ao 1 0] [(G 0,.U (.data [jy 65536,fi,fi])),(G 1,.U (.cells [.ao 0 0]))] [(G 0,.U (.data [jy 65536,fi,fi])),(G 1,.U (.cells [.ao 0 0]))] (u) (u) [1,2,0]:=by
 refine bw.QP _ func269 D (cC D) (lD D) D fun E K af=>?_
 exact iE (l:=0) (B':=fun n=>.data [jy 65536,fi,.v (.int .i64 n)]) D (B7 (j:=2) D ld) fun J7 ajp=>(bm (O 4 D<|ag (.u6 (I D) (I D) D)<|O 2 D<|dZ bY D D D D D<|ar)<|⟨.inl D,cI (.cons D (bl.data (.cons (.refl _) (.cons (.refl _) (.cons (gG (R5 _)) .nil)))) (.cons D (bl.refl _) .nil))⟩)
theorem abn(ts:List dQ)(e d:Int)(Z:fh ts e d)(n:Nat)(nC:∀m,m<n->rJ 226 m)(yT:∀m,m<n->rJ 268 m)(iV:d<=63)(nZ:ts.length<=n):fC prog 268 [.ao 0 0] (kr ts e d) (.d (.agg jt)) (sC (ts.length-1) e d) [0] (j9) jz:=by
 have hlen:=Z.len
 have ajq:=Z.d
 have qf:fh ts e (d+1):=⟨Z.len,Z.ok,Z.e,by have:=Z.d;omega⟩
 refine dI.one ?_
 refine Am (k:=3) (cap:=[(1,1)]) (kept:=[(1,1),(2,2)]) (rs:=[.cell 2 65]) (ed:=[(ab 1,.aB (.ao 1 0)),(ab 2,.aB (.ao 2 0)),(G 0,.U (.data [hF ts,.v (.int .i64 e),.v (.int .i64 (d+1))])),(G 1,.U (.cells [.ao 0 0])),(G 2,.U (.data [.v (.int .i64 0),.v (.string ⟨#[]⟩),.v (.int .i64 0),.v (.int .i64 0),.v (.slice none 0 0)]))]) (ro:={gm:=fun y=>j9 y.1/\y.2=[(ab 1,.aB (.ao 1 0)),(ab 2,.aB (.ao 2 0)),(G 0,.U (.data [jy 65536,fi,fi])),(G 1,.U (.cells [.ao 0 0]))]}) (0<ts.length) func268 D D D (cC D) (lD D) (cC D) (au D) (fun E K af=>?_) (.cons D (.nil)) D (fun uu E K af=>?_) (by simp) rfl rfl ?_
 ·refine bm (wE 1 [] (I D) D D D<|cm 2 hn D<|ar)<|aL 6 D<|a7 D (fun aP=>?_) (fun aP=>?_)
  ·apply kH 12
   ·exact O 1 D<|dH [] [G 0] (cf D) (yR ts e d Z) (au D) (.cons D .nil) D D (.du D .nil) D (by exact fun bc h=>⟨h,e9⟩) D<|ar
   ·exact bR
   rfl
  have bb:0<ts.length:=by have:=dj aP;omega
  exact bx<|bm (O 4 D<|cp D D D<|O 2 D<|dZ bY D D D D D<|ar)<|.inl ⟨rfl,(da D D D D<|aZ D<|aU),bb⟩
 ·refine al<|bX<|al<|?_
  have bb:0<ts.length:=uu
  refine bm (O 1 D<|kI (cf D) (HV ts e _ qf) (au D) (.cons D .nil) D<|aN 1 D)<|a7 D (fun bq=>?_) fun bq=>?_
  ·refine aO (O 1 D<|dH [] [G 0] (cf D) (CC ts e _ qf) (au D) (.cons D .nil) D D (.aQ D D (.aQ D D (.du D (.aQ D D .nil)))) D (by exact fun bc h=>⟨h,rfl⟩) D<|ag (.build hn wX (ba D D D (ba D D D (.nil _ _))) D)<|cL dL D D D D<|ar)<|bp<|⟨.inr D,[(G 0,.U (.data [hF (ts.drop 1),.v (.int .i64 e),.v (.int .i64 (d+1))])),(G 1,.U (.cells [.ao 0 0])),(G 2,.U (.data _))],(da D D D D<|aZ D<|aU),by simp,.returning,_,rfl,Fk _ e d Z.d _ _,.inl ⟨rfl,(),trivial,⟨_,(.cons (.iP D D dL D) .nil),iD (.agg (.cons (gG (by decide)) (.cons oH (.cons (gG (by decide)) (.cons (gG (Z.aq bb).2.1) (.cons (.trans .vu (.tj [] ⟨by decide,fun t aT=>by cases aT⟩ rfl)) .nil))))))⟩,cI (.cons D (bl.data (.cons (.tj _ ⟨by simp,(Z.drop 1).ok⟩ D) (.refl _))) .nil)⟩⟩
  refine aO (O 1 D<|kI (cf D) (R0 ts e _ qf) (au D) (.cons D .nil) D<|aN 1 D)<|a7 D (fun b3=>?_) fun b3=>?_
  ·refine aO (O 1 D<|dH [] [G 0] (cf D) (AJ ts e _ qf) (au D) (.cons D .nil) D D (.aQ D D (.aQ D D (.du D (.aQ D D .nil)))) D (by exact fun bc h=>⟨h,rfl⟩) D<|ag (.build hn wX (ba D D D (ba D D D (.nil _ _))) D)<|cL dL D D D D<|ar)<|bp<|⟨.inr D,[(G 0,.U (.data [hF (ts.drop 1),.v (.int .i64 e),.v (.int .i64 (d+1))])),(G 1,.U (.cells [.ao 0 0])),(G 2,.U (.data _))],(da D D D D<|aZ D<|aU),by simp,.returning,_,rfl,Fk _ e d Z.d _ _,.inl ⟨rfl,(),trivial,⟨_,(.cons (.iP D D dL D) .nil),iD (.agg (.cons (gG (by decide)) (.cons oH (.cons (gG (by decide)) (.cons (gG (by decide)) (.cons (.trans .vu (.tj [] ⟨by decide,fun t aT=>by cases aT⟩ rfl)) .nil))))))⟩,cI (.cons D (bl.data (.cons (.tj _ ⟨by simp,(Z.drop 1).ok⟩ D) (.refl _))) .nil)⟩⟩
  refine aL 6 D<|a7 D (fun et=>?_) fun et=>?_
  ·apply kH 40
   ·exact O 1 D<|dH [] [G 0] (cf D) (yR ts e _ qf) (au D) (.cons D .nil) D D (.aQ D D (.aQ D D (.du D (.aQ D D .nil)))) D (by exact fun bc h=>⟨h,rfl⟩) D<|ar
   ·exact bR
   rfl
  have ajr:d+1<64:=by
      have aV:decide (64<=d+1)=false:=et
      have:=dj aV
      omega
  refine aO (O 1 D<|ct [] [G 0] (cn D D) (uP ts e _ qf _).fn (au D) (.cons D .nil) D D<|aN 1 D)<|a7 D (fun eQ=>?_) fun eQ=>?_
  ·have aT:=CD eQ
   have Fl:(jA ts ⟨#[45]⟩).length=ts.length-1:=by rw[aT];simp
   refine aO (O 1 D<|dH [] [G 0] (cf D) (yT (n-1) (by omega) _ e _ (ka qf) (by omega) (by omega)) (au D) (.cons D .nil) D D (.aQ D D (.aQ D D (.du D (.aQ D D .nil)))) D (by exact fun bc h=>⟨h,rfl⟩) D<|j4 (g:=fun i=>[jt].getD i []) tg hn D (by decide) (by decide) (ba D D D (.nil _ _)) D (fun i hi=>by obtain rfl:i=0:=(by omega);rfl)<|ag (.build hn wX (ba D D D (ba D D D (.nil _ _))) D)<|cL dL D D D D<|ar)<|bp<|⟨.inr D,[(G 0,.U (.data [jy ((jA ts ⟨#[45]⟩).length-1),.v (.int .i64 e),.v (.int .i64 (d+1))])),(G 1,.U (.cells [.ao 0 0])),(G 2,.U (.data _))],(da D D D D<|aZ D<|aU),by simp,.returning,_,rfl,Fk _ e d Z.d _ _,.inl ⟨rfl,(),trivial,⟨_,(.cons (.iP D D dL D) .nil),iD (.agg (.cons (gG (by decide)) (.cons oH (.cons (gG (by decide)) (.cons (gG (by decide)) (.cons (EL (by decide) fun i hi=>by obtain rfl:i=0:=(by omega);exact .refl _) .nil))))))⟩,cI (.cons D (bl.data (.cons (.gn fun l aa=>⟨l,⟨by have:=aa.1;omega,aa.2⟩,.refl _⟩) (.refl _))) .nil)⟩⟩
  have aT:=vL eQ
  refine aO (O 1 D<|ct [] [G 0] (cn D D) (uP _ e _ (ka qf) _).fn (au D) (.cons D .nil) D D<|aN 1 D)<|a7 D (fun ie=>?_) fun ie=>?_
  ·have pk:=CD ie
   have Fl:(jA (jA ts ⟨#[45]⟩) ⟨#[40]⟩).length=ts.length-1:=by rw[pk,aT];simp
   refine aO (O 1 D<|dH [] [G 0] (cf D) (nC (n-1) (by omega) _ e _ (ka (ka qf)) (by omega) (by omega)) (au D) (.cons D .nil) D D (.aQ D D (.aQ D D (.du D (.aQ D D .nil)))) D (by exact fun bc h=>⟨h,rfl⟩) D<|cL dL D D D D<|ar)<|al<|iE (l:=0) (B':=fun ts=>.data [hF ts,.v (.int .i64 e),.v (.int .i64 (d+1))]) D pE fun us hb=>?_
   have gv:fh us e (d+1):=⟨by omega,hb.2,qf.e,qf.d⟩
   refine bm (O 1 D<|j4 (g:=fun i=>[.v (.string ([⟨#[41]⟩].getD i ByteArray.empty))]) mJ mI D (by decide) (by decide) (ba D D D (.nil _ _)) D (fun i hi=>by obtain rfl:i=0:=(by omega);rfl)<|dH [] [G 0] (cn D D) (oc us e _ gv [⟨#[41]⟩] (by decide)) (au D) (.cons D .nil) D D (.aQ D D (.aQ D D (.du D (.aQ D D .nil)))) D (by exact fun bc h=>⟨h,rfl⟩) D<|ar)<|aO (O 1 D<|cL dL D D D D<|ar)<|bp<|⟨.inr D,[(G 0,.U (.data [hF (us.drop 1),.v (.int .i64 e),.v (.int .i64 (d+1))])),(G 1,.U (.cells [.ao 0 0])),(G 2,.U (.data _))],(da D D D D<|aZ D<|aU),by simp,.returning,_,rfl,Fk _ e d Z.d _ _,.inl ⟨rfl,(),trivial,⟨_,(.cons (.iP D D dL D) .nil),iD (.agg (.refl _))⟩,cI (.cons D (bl.data (.cons (.tj _ ⟨by simp;omega,(gv.drop 1).ok⟩ D) (.refl _))) .nil)⟩⟩
  have pk:=vL ie
  have l4:jA (jA ts ⟨#[45]⟩) ⟨#[40]⟩=ts:=by rw[pk,aT]
  rw[l4]
  refine bx<|al<|?_
  rcases aM:cb LH (aq ts).iU with _|x
  ·refine eo (ct [9] [] (jr .nil) (R6.Kf 1 9 D D D D D D D) (au D) .nil D D<|O 4 D<|bW pt D D<|O 2 D<|cH [_] ((Pure.oJ (kv:=hD) (f:=id) vN (I D) (.v (I D)) D).bK (y:=.bE [.d (pF 0 0 false),bk false]) (congrArg (fun o:Option bg=>ai.bE [.d (o.elim (pF 0 0 false) id),bk o.isSome]) aM))<|O 3 D<|cm 3 vq D<|cL Py D D D D<|aN 1 D)<|al<|aO (O 3 D<|cF [_] D (.wB Pf (I D) D D)<|cF [] D (.nilCheck (bH D) D)<|cX D wW (bH D) D<|dP D oE D D D<|cF [] D (.pV pt (bH D) (I D) fun h=>by exact⟨by omega,by omega⟩)<|cX D Ep (bH D) D<|cF [] D (.fG bY (bH D) D)<|c6 D D (I D) D<|gQ D D D<|ar)<|a7 D (fun kb=>?_) (fun kb=>?_)
   ·apply kH 82
    ·exact O 1 D<|dH [] [G 0] (cf D) (yR ts e _ qf) (au D) (.cons D .nil) D D (.aQ D D (.aQ D D (.du D (.aQ D D .nil)))) D (by exact fun bc h=>⟨h,rfl⟩) D<|ar
    ·exact bR
    rfl
   cases kb
  obtain⟨k,R7,b,rfl,CG,lV⟩:=abk aM
  refine eo (ct [9] [] (jr .nil) (R6.Kf 1 9 D D D D D D D) (au D) .nil D D<|O 4 D<|bW pt D D<|O 2 D<|cH [_] ((Pure.oJ (kv:=hD) (f:=id) vN (I D) (.v (I D)) D).bK (y:=.bE [.d (pF k R7 b),bk true]) (congrArg (fun o:Option bg=>ai.bE [.d (o.elim (pF 0 0 false) id),bk o.isSome]) aM))<|O 3 D<|cm 3 vq D<|cL Py D D D D<|aN 1 D)<|al<|aO (O 3 D<|cF [_] D (.wB Pf (I D) D D)<|cF [] D (.nilCheck (bH D) D)<|cX D wW (bH D) D<|dP D oE D D D<|cF [] D (.pV pt (bH D) (I D) fun h=>by exact⟨by omega,by omega⟩)<|cX D Ep (bH D) D<|cF [] D (.fG bY (bH D) D)<|c6 D D (I D) D<|gQ D D D<|ar)<|a7 D (fun pG=>?_) fun pG=>?_
  ·apply kH 82
   ·exact O 1 D<|dH [] [G 0] (cf D) (yR ts e _ qf) (au D) (.cons D .nil) D D (.aQ D D (.aQ D D (.du D (.aQ D D .nil)))) D (by exact fun bc h=>⟨h,rfl⟩) D<|ar
   ·exact bR
   rfl
  refine bx<|ft (O 5 D<|ag (.rq Eo (I D) (.bK _ (I D) fun _=>by decide) (.lv _) fun _=>⟨by omega,by omega⟩)<|O 2 D<|dZ oE D D D D D<|ar)<|al<|iE (ι:=Unit) (l:=0) (Φ:=fun _=>True) (B':=fun _=>.data [hF (ts.drop 1),.v (.int .i64 e),.v (.int .i64 (d+1))]) D (fun V M w h=>⟨(),trivial,by rw[<-HT ts 1 (fun i=>tE (ts.getD (1+i) yQ)) fun i=>rfl];exact h⟩) fun _ _=>?_
  refine bm (O 7 D<|dH [] [G 0] (aav D D D D) (abl _ e _ (qf.drop 1) k R7 b CG lV (by omega) (n-1) (nC (n-1) (by omega)) (by simp;omega)) (au D) (.cons D .nil) D D (.aQ D D (.aQ D D (.du D (.aQ D D .nil)))) D (by exact fun bc h=>⟨h,rfl⟩) D<|cL dL D D D D<|ar)<|bp<|⟨.inr D,[(G 0,.U (.data [jy ((ts.drop 1).length-1),.v (.int .i64 e),.v (.int .i64 (d+1))])),(G 1,.U (.cells [.ao 0 0])),(G 2,.U (.data _))],(da D D D D<|aZ D<|aU),by simp,.returning,_,rfl,Fk _ e d Z.d _ _,.inl ⟨rfl,(),trivial,⟨_,(.cons (.iP D D dL D) .nil),iD (.agg (.refl _))⟩,cI (.cons D (bl.data (.cons (.gn fun l aa=>⟨l,⟨by have:=aa.1;simp only[h1]at this;omega,aa.2⟩,.refl _⟩) (.refl _))) .nil)⟩⟩
 rintro⟨bc,st⟩ ⟨⟨i,hi,rfl⟩,rfl⟩
 exact⟨[(G 0,.U (.data [jy 65536,fi,fi])),(G 1,.U (.cells [.ao 0 0]))],rfl,by simp,_,_,rfl,abm _,.inr ⟨_,rfl,⟨i,hi,rfl⟩,cI (.lg D)⟩⟩
theorem abo:∀n,rJ 268 n/\rJ 265 n/\rJ 256 n/\rJ 226 n:=fun n=>by
 induction n using Nat.strongRecOn with
 |ind n aJ=>
  have J:rJ 268 n:=fun ts e d Z aq aa=>abn ts e d Z n (fun m aw=>(aJ m aw).2.2.2) (fun m aw=>(aJ m aw).1) aq aa
  have W:rJ 265 n:=fun ts e d Z aq aa=>abi ts e d Z aq n J aa
  have aH:rJ 256 n:=fun ts e d Z aq aa=>abh ts e d Z aq n W aa
  exact⟨J,W,aH,fun ts e d Z aq aa=>abj ts e d Z aq n aH (fun m aw=>(aJ m aw).2.2.2) aa⟩
theorem abp(ts:List dQ)(e d:Int)(Z:fh ts e d)(aq:d<=63):fC prog 226 [.ao 0 0] (kr ts e d) (.d (.agg jt)) (sC (ts.length-1) e d) [0] j9 jz:=(abo _).2.2.2 ts e d Z aq (Nat.le_refl _)
abbrev abq:bg:=yD 65536 1 e1 fun n:Int=>[av n]
theorem HY(ts:List dQ){e d:Int}(Z:fh ts e d):e1 (aq ts).n:=by
 by_cases bb:0<ts.length
 ·exact(Z.aq bb).2.1
 ·have:ts=[]:=List.eq_nil_of_length_eq_zero (by omega)
  subst this;exact⟨by decide,by decide⟩
abbrev mR(x:bg)(e d:Int)(a b c t s:Nat):ad:=[(G 0,.U (.data [x,.v (.int .i64 e),.v (.int .i64 d)])),(G 40,.U (.cells [.d n0,.d fi,.d fi,.aQ 50 a,.aQ 51 b,.aQ 52 c,.aQ 53 t,.aQ 54 s])),
 (G 50,.U (.bG 3 a (ic oK a))),(G 51,.U (.bG 3 b (ic oK b))),(G 52,.U (.bG 4 c (ic vA c))),(G 53,.U (.bG 2 t (ic vB t))),(G 54,.U (.bG 8 s (ic vC s)))]
theorem abr(ts:List dQ)(e d:Int)(Z:fh ts e d):fC prog 178 [.ao 0 0,.fn 179 []] (kr ts e d) (.d abq) (sC (ts.length-1) e d) [0] (j9) jz:=by
 have hlen:=Z.len
 refine kq [.tmp 4] func178 D D fun E K af=>?_
 refine aL 1 D<|aO (O 2 D<|dH [] [G 0] (lf D D) (HX ts e d Z) (au D) (.cons D .nil) D D (.du D .nil) D (by exact fun bc h=>⟨h,e9⟩) D<|gN 30 [] iQ iC D (by decide) (by decide) (ba D D D (.nil _ _)) D D D<|aN 1 D)<|al<|bX<|pz (σ:=Nat×Nat) [(ab 0,_),(ab 1,_)] (fun i=>[(G 0,.U (.data [jy i.1,.v (.int .i64 e),.v (.int .i64 d)])),(ab 5,.aB (.aQ 30 i.2)),(G 30,.U (.bG 1 i.2 (ic [fi] i.2)))]) (fun i=>i.1+i.2<=65536/\i.1<=ts.length-1) (fun i=>i.1) (ts.length-1,1) (eH (.s D (.s D (.b D (bl.dT D) (.nil))))) (ck D D<|aU) ⟨by omega,Nat.le_refl _⟩ fun i hi=>?_
 refine al<|al<|iE (l:=0) (B':=fun ts=>.data [hF ts,.v (.int .i64 e),.v (.int .i64 d)]) D pE fun us hb=>?_
 have qR:=hb.1
 try simp only[h1]at qR
 have gv:fh us e d:=⟨by omega,hb.2,Z.e,Z.d⟩
 refine bm (O 1 D<|ct [] [G 0] (cn D D) (uP us e d gv _).fn (au D) (.cons D .nil) D D<|ar)<|a7 D (fun aP=>?_) fun aP=>?_
 ·exact bx<|bX<|gI 30 60 D<|bm (O 3 D<|dH [] [G 0] (lf D D) (HX _ e d (ka gv)) (au D) (.cons D .nil) D D (.du D .nil) D (by exact fun bc h=>⟨h,e9⟩) D<|gN 16 [] iQ iC D (by decide) (by decide) (ba D D D (.nil _ _)) D D D<|hA 30 [G 60] p0 p1 (by decide) (.aQ (I D) D) (.aQ (I D) D) (bz.hT D) (hB D) (by omega) (by omega) D D<|aN 1 D)<|⟨((jA us _).length-1,i.2+1),⟨by have:=rK aP hb.1;omega,by have:=rK aP hb.1;omega⟩,rK aP hb.1,eH (.b D (bl.data (.cons (.gn fun l aa=>⟨l,⟨by have:=aa.1;omega,aa.2⟩,.refl _⟩) (.refl _))) (.s D (.b D (bl.dT (by rw[show ic [fi] (_+1)=_ from xr [fi] _];rfl)) (.nil)))),ck D D<|aU⟩
 exact dW<|al<|c1 (b1.tb (t:=5) (l:=30) (n:=1) (g:=fun _=>[fi]) D D fun j az=>yV [fi] i.2 j az)<|fS 2 D<|bp<|⟨.inr D,⟨_,(.cons (.tmp D) .nil),(iD (Av Zy D (fun _=>rfl) (by omega) fun i hi=>.refl _))⟩,cI (.cons D (od (by rw[vL aP];omega) (ka gv).ok) .nil)⟩
theorem R8(ts:List dQ)(e d:Int)(Z:fh ts e d):fC prog 177 [.ao 0 0] (kr ts e d) (.bE [.d fi,.d fi]) (sC (ts.length-1) e d) [0] (j9) jz:=by
 have hlen:=Z.len
 refine kq [.tmp 2,.tmp 3] func177 D D fun E K af=>?_
 refine aL 2 D<|aO (O 1 D<|j4 (g:=fun i=>[.v (.string ([⟨#[102,114,111,109]⟩].getD i ByteArray.empty))]) mJ mI D (by decide) (by decide) (ba D D D (.nil _ _)) D (fun i hi=>by obtain rfl:i=0:=(by omega);rfl)<|dH [] [G 0] (cn D D) (oc ts e d Z [⟨#[102,114,111,109]⟩] (by decide)) (au D) (.cons D .nil) D D (.du D .nil) D (by exact fun bc h=>⟨h,e9⟩) D<|ar)<|aO (O 1 D<|dH [] [G 0] (cf D) (HX _ e d (Z.drop 1)) (au D) (.cons D .nil) D D (.du D .nil) D (by exact fun bc h=>⟨h,e9⟩) D<|aN 1 D)<|al<|iE (l:=0) (B':=fun ts=>.data [hF ts,.v (.int .i64 e),.v (.int .i64 d)]) D pE fun us hb=>?_
 have qR:=hb.1
 try simp only[h1]at qR
 have gv:fh us e d:=⟨by omega,hb.2,Z.e,Z.d⟩
 exact bm (O 1 D<|j4 (g:=fun i=>[.v (.string ([⟨#[116,111]⟩].getD i ByteArray.empty))]) mJ mI D (by decide) (by decide) (ba D D D (.nil _ _)) D (fun i hi=>by obtain rfl:i=0:=(by omega);rfl)<|dH [] [G 0] (cn D D) (oc us e d gv [⟨#[116,111]⟩] (by decide)) (au D) (.cons D .nil) D D (.du D .nil) D (by exact fun bc h=>⟨h,e9⟩) D<|ar)<|aO (O 2 D<|dH [] [G 0] (cf D) (HX _ e d (gv.drop 1)) (au D) (.cons D .nil) D D (.du D .nil) D (by exact fun bc h=>⟨h,e9⟩) D<|aN 2 D)<|bp<|⟨.inr D,⟨_,(.cons (.tmp D) (.cons (.tmp D) .nil)),cM⟩,cI (.cons D (bl.data (.cons (.gn fun l aa=>⟨l,⟨by first|(have:=aa.1;omega)|(have:=aa.1;simp only[h1]at this;omega),aa.2⟩,.refl _⟩) (.refl _))) .nil)⟩
theorem R9(ts:List dQ)(e d:Int)(Z:fh ts e d):fC prog 176 [.ao 0 0] (kr ts e d) (.d (.agg oK)) (sC (ts.length-1) e d) [0] (j9) jz:=by
 have hlen:=Z.len
 refine kq [.cell 2 97] func176 D D fun E K af=>?_
 exact aO (cm 2 uq D<|ar)<|aO (O 1 D<|dH [] [G 0] (cf D) (AJ ts e d Z) (au D) (.cons D .nil) D D (.du D .nil) D (by exact fun bc h=>⟨h,e9⟩) D<|O 1 D<|dZ ry D D D D D<|ar)<|aO (O 1 D<|dH [] [G 0] (cf D) (R8 _ e d (Z.drop 1)) (au D) (.cons D .nil) D D (.du D .nil) D (by exact fun bc h=>⟨h,e9⟩) D<|O 4 D<|dZ bY D D D D D<|O 1 D<|dZ bY D D D D D<|ar)<|aO (O 1 D<|cL yq D D D D<|ar)<|bp<|⟨.inr D,⟨_,(.cons (.iP D D yq D) .nil),(iD (.agg (.cons oH (.refl _))))⟩,cI (.cons D (bl.data (.cons (.gn fun l aa=>⟨l,⟨by first|(have:=aa.1;omega)|(have:=aa.1;simp only[h1]at this;omega),aa.2⟩,.refl _⟩) (.refl _))) .nil)⟩
theorem abt(ts:List dQ)(e d:Int)(Z:fh ts e d)(hL ks hM ho hN:Nat)(bA:hL<=65536/\ks<=65536/\hM<=65536/\ho<=65536/\hN<=65536):fC prog 121 [.ao 0 0,.ao 40 0] (mR (hF ts) e d hL ks hM ho hN) (.bE []) (mR (jy (ts.length-1)) e d (hL+1) ks hM ho hN) [0,40] (j9) jz:=by
 have hlen:=Z.len
 obtain⟨eE,eV,hl,je,mN⟩:=bA
 refine kq [] func121 D D fun E K af=>?_
 exact gI 50 60 D<|eo (O 6 D<|dH [] [G 0] (cf D) (R9 ts e d Z) (au D) (.cons D .nil) D D (.du D .nil) D (by exact fun bc h=>⟨h,e9⟩) D<|gN 30 [] Ej uq D (by decide) (by decide) (ba D D D (.nil _ _)) D D D<|hA 50 [G 60] Ek GW (by decide) (.aQ (I D) D) (.aQ (I D) D) (bz.hT D) (hB D) (by omega) (by omega) D D<|O 2 D<|iG p2 D D D D D<|ar)<|⟨.inl D,⟨_,(.nil),cM⟩,cI (.cons D (bl.refl _) (.cons D (bl.refl _) (.cons D (bl.dT (by rw[show ic oK (_+1)=_ from xr oK _];rfl)) (.cons D (bl.refl _) (.cons D (bl.refl _) (.cons D (bl.refl _) (.cons D (bl.refl _) (.nil))))))))⟩
theorem abu(ts:List dQ)(e d:Int)(Z:fh ts e d)(hL ks hM ho hN:Nat)(bA:hL<=65536/\ks<=65536/\hM<=65536/\ho<=65536/\hN<=65536):fC prog 122 [.ao 0 0,.ao 40 0] (mR (hF ts) e d hL ks hM ho hN) (.bE []) (mR (jy (ts.length-1)) e d hL (ks+1) hM ho hN) [0,40] (j9) jz:=by
 have hlen:=Z.len
 obtain⟨eE,eV,hl,je,mN⟩:=bA
 refine kq [] func122 D D fun E K af=>?_
 exact gI 51 60 D<|eo (O 6 D<|dH [] [G 0] (cf D) (R9 ts e d Z) (au D) (.cons D .nil) D D (.du D .nil) D (by exact fun bc h=>⟨h,e9⟩) D<|gN 30 [] Ej uq D (by decide) (by decide) (ba D D D (.nil _ _)) D D D<|hA 51 [G 60] Ek GW (by decide) (.aQ (I D) D) (.aQ (I D) D) (bz.hT D) (hB D) (by omega) (by omega) D D<|O 2 D<|iG p2 D D D D D<|ar)<|⟨.inl D,⟨_,(.nil),cM⟩,cI (.cons D (bl.refl _) (.cons D (bl.refl _) (.cons D (bl.refl _) (.cons D (bl.dT (by rw[show ic oK (_+1)=_ from xr oK _];rfl)) (.cons D (bl.refl _) (.cons D (bl.refl _) (.cons D (bl.refl _) (.nil))))))))⟩
theorem abv(ts:List dQ)(e d:Int)(Z:fh ts e d)(hL ks hM ho hN:Nat)(bA:hL<=65536/\ks<=65536/\hM<=65536/\ho<=65536/\hN<=65536):fC prog 123 [.ao 0 0,.ao 40 0] (mR (hF ts) e d hL ks hM ho hN) (.bE []) (mR (jy (ts.length-1)) e d hL ks (hM+1) ho hN) [0,40] (j9) jz:=by
 have hlen:=Z.len
 obtain⟨eE,eV,hl,je,mN⟩:=bA
 refine kq [] func123 D D fun E K af=>?_
 refine aO (O 1 D<|dH [] [G 0] (cf D) (AJ ts e d Z) (au D) (.cons D .nil) D D (.du D .nil) D (by exact fun bc h=>⟨h,e9⟩) D<|O 1 D<|dH [] [G 0] (cf D) (CC _ e d (Z.drop 1)) (au D) (.cons D .nil) D D (.du D .nil) D (by exact fun bc h=>⟨h,e9⟩) D<|ag (.build vp X4 (ba D D D (ba D D D (.nil _ _))) D)<|cm 4 vp D<|cL wU D D D D<|ar)<|aO (O 1 D<|dH [] [G 0] (cf D) (R8 _ e d ((Z.drop 1).drop 1)) (au D) (.cons D .nil) D D (.du D .nil) D (by exact fun bc h=>⟨h,e9⟩) D<|O 4 D<|dZ bY D D D D D<|O 1 D<|dZ bY D D D D D<|ar)<|gI 52 60 D<|c8.yB (l:=4) (B':=.data vA) D (bl.data (.cons oH (.cons (gG ?_) (.refl _)))) ?_
 ·exact HY _ ((Z.drop 1))
 exact eo (O 6 D<|gN 30 [] WV vp D (by decide) (by decide) (ba D D D (.nil _ _)) D D D<|hA 52 [G 60] WW WX (by decide) (.aQ (I D) D) (.aQ (I D) D) (bz.hT D) (hB D) (by omega) (by omega) D D<|O 2 D<|iG uo D D D D D<|ar)<|⟨.inl D,⟨_,(.nil),cM⟩,cI (.cons D (bl.data (.cons (.gn fun l aa=>⟨l,⟨by first|(have:=aa.1;omega)|(have:=aa.1;simp only[h1]at this;omega),aa.2⟩,.refl _⟩) (.refl _))) (.cons D (bl.refl _) (.cons D (bl.refl _) (.cons D (bl.refl _) (.cons D (bl.dT (by rw[show ic vA (_+1)=_ from xr vA _];rfl)) (.cons D (bl.refl _) (.cons D (bl.refl _) (.nil))))))))⟩
theorem abw(ts:List dQ)(e d:Int)(Z:fh ts e d)(hL ks hM ho hN:Nat)(bA:hL<=65536/\ks<=65536/\hM<=65536/\ho<=65536/\hN<=65536):fC prog 124 [.ao 0 0,.ao 40 0] (mR (hF ts) e d hL ks hM ho hN) (.bE []) (mR (jy (ts.length-1)) e d hL ks hM (ho+1) hN) [0,40] (j9) jz:=by
 have hlen:=Z.len
 obtain⟨eE,eV,hl,je,mN⟩:=bA
 refine kq [] func124 D D fun E K af=>?_
 exact aO (O 1 D<|dH [] [G 0] (cf D) (AJ ts e d Z) (au D) (.cons D .nil) D D (.du D .nil) D (by exact fun bc h=>⟨h,e9⟩) D<|ag (.build wV X7 (ba D D D (.nil _ _)) D)<|cm 4 wV D<|cL Ad D D D D<|ar)<|aO (O 1 D<|j4 (g:=fun i=>[.v (.string ([⟨#[61]⟩].getD i ByteArray.empty))]) mJ mI D (by decide) (by decide) (ba D D D (.nil _ _)) D (fun i hi=>by obtain rfl:i=0:=(by omega);rfl)<|dH [] [G 0] (cn D D) (oc _ e d (Z.drop 1) [⟨#[61]⟩] (by decide)) (au D) (.cons D .nil) D D (.du D .nil) D (by exact fun bc h=>⟨h,e9⟩) D<|ar)<|aO (O 1 D<|dH [] [G 0] (cn D D) (abr _ e d ((Z.drop 1).drop 1)) (au D) (.cons D .nil) D D (.du D .nil) D (by exact fun bc h=>⟨h,e9⟩) D<|O 1 D<|dZ km D D D D D<|ar)<|gI 53 60 D<|c8.yB (l:=4) (B':=.data vB) D (bl.data (.cons oH (.refl _)))<|eo (O 6 D<|gN 30 [] WY wV D (by decide) (by decide) (ba D D D (.nil _ _)) D D D<|hA 53 [G 60] WZ W0 (by decide) (.aQ (I D) D) (.aQ (I D) D) (bz.hT D) (hB D) (by omega) (by omega) D D<|O 2 D<|iG GX D D D D D<|ar)<|⟨.inl D,⟨_,(.nil),cM⟩,cI (.cons D (bl.data (.cons (.gn fun l aa=>⟨l,⟨by first|(have:=aa.1;omega)|(have:=aa.1;simp only[h1]at this;omega),aa.2⟩,.refl _⟩) (.refl _))) (.cons D (bl.refl _) (.cons D (bl.refl _) (.cons D (bl.refl _) (.cons D (bl.refl _) (.cons D (bl.dT (by rw[show ic vB (_+1)=_ from xr vB _];rfl)) (.cons D (bl.refl _) (.nil))))))))⟩
theorem HZ(ts:List dQ)(e d:Int)(Z:fh ts e d)(hL ks hM ho hN:Nat)(bA:hL<=65536/\ks<=65536/\hM<=65536/\ho<=65536/\hN<=65536)(kind:Int)(AM:e1 kind)(iV:d<=63):fC prog 180 [.ao 0 0,.ao 40 0,aF .i64 kind] (mR (hF ts) e d hL ks hM ho hN) (.bE []) (mR (jy (ts.length-1)) e d hL ks hM ho (hN+1)) [0,40] (j9) jz:=by
 have hlen:=Z.len
 obtain⟨eE,eV,hl,je,mN⟩:=bA
 refine kq [] func180 D D fun E K af=>?_
 refine aO (O 1 D<|ag (.build nX PB (ba D D D (.nil _ _)) D)<|cm 6 nX D<|cL qI D D D D<|ar)<|w9 [(ab 0,.aB (.ao 0 0)),(ab 1,.aB (.ao 40 0)),(ab 6,.aB (.ao 6 0)),(G 0,.U (.data [jy ts.length,.v (.int .i64 e),.v (.int .i64 d)])),(G 6,.U (.data vC)),(G 40,.U (.cells [.d n0,.d fi,.d fi,.aQ 50 hL,.aQ 51 ks,.aQ 52 hM,.aQ 53 ho,.aQ 54 hN])),(G 50,.U (.bG 3 hL (ic oK hL))),(G 51,.U (.bG 3 ks (ic oK ks))),(G 52,.U (.bG 4 hM (ic vA hM))),(G 53,.U (.bG 2 ho (ic vB ho))),(G 54,.U (.bG 8 hN (ic vC hN)))] ?_ ?_
 ·refine aL 2 D<|a7 D (fun aP=>?_) (fun aP=>?_)
  ·exact aO (O 1 D<|dH [] [G 0] (cf D) (AJ ts e d Z) (au D) (.cons D .nil) D D (.du D .nil) D (by exact fun bc h=>⟨h,e9⟩) D<|O 1 D<|dZ ry D D D D D<|ar)<|bm (O 1 D<|j4 (g:=fun i=>[.v (.string ([⟨#[61]⟩].getD i ByteArray.empty))]) mJ mI D (by decide) (by decide) (ba D D D (.nil _ _)) D (fun i hi=>by obtain rfl:i=0:=(by omega);rfl)<|dH [] [G 0] (cn D D) (oc _ e d (Z.drop 1) [⟨#[61]⟩] (by decide)) (au D) (.cons D .nil) D D (.du D .nil) D (by exact fun bc h=>⟨h,e9⟩) D<|ar)<|(eH (.s D (.s D (.s D (.b D (od (by simp<;>omega) ((Z.drop 1).drop 1).ok) (.b D (bl.data (.cons (gG AM) (.cons oH (.cons (gG (by decide)) (.cons (gG (by decide)) (.cons oH (.cons (gG (by decide)) (.cons (gG (by decide)) (.cons (.trans .vu (.tj [] ⟨by decide,fun t aT=>by cases aT⟩ rfl)) .nil))))))))) (.s D (.s D (.s D (.s D (.s D (.s D (.nil)))))))))))))
  exact bx<|(eH (.s D (.s D (.s D (.b D (od (Nat.le_refl _) Z.ok) (.b D (bl.data (.cons (gG AM) (.cons oH (.cons (gG (by decide)) (.cons (gG (by decide)) (.cons oH (.cons (gG (by decide)) (.cons (gG (by decide)) (.cons (.trans .vu (.tj [] ⟨by decide,fun t aT=>by cases aT⟩ rfl)) .nil))))))))) (.s D (.s D (.s D (.s D (.s D (.s D (.nil)))))))))))))
 refine al<|iE (l:=0) (B':=fun ts=>.data [hF ts,.v (.int .i64 e),.v (.int .i64 d)]) D pE fun us hb=>?_
 have qR:=hb.1
 try simp only[h1]at qR
 have gv:fh us e d:=⟨by omega,hb.2,Z.e,Z.d⟩
 exact bm (O 1 D<|dH [] [G 0] (cf D) (abp us e d gv iV) (au D) (.cons D .nil) D D (.du D .nil) D (by exact fun bc h=>⟨h,e9⟩) D<|O 1 D<|bI.zM dL (I D) (I D) D D (by rfl) (by exact eZ.1 D) (by exact cC D) D<|ar)<|gI 54 60 D<|eo (O 6 D<|gN 30 [] OT nX D (by decide) (by decide) (ba D D D (.nil _ _)) D D D<|hA 54 [G 60] OU OV (by decide) (.aQ (I D) D) (.aQ (I D) D) (bz.hT D) (hB D) (by omega) (by omega) D D<|O 2 D<|iG vo D D D D D<|ar)<|⟨.inl D,⟨_,(.nil),cM⟩,cI (.cons D (bl.data (.cons (.gn fun l aa=>⟨l,⟨by first|(have:=aa.1;omega)|(have:=aa.1;simp only[h1]at this;omega),aa.2⟩,.refl _⟩) (.refl _))) (.cons D (bl.refl _) (.cons D (bl.refl _) (.cons D (bl.refl _) (.cons D (bl.refl _) (.cons D (bl.refl _) (.cons D (bl.dT (by rw[show ic vC (_+1)=_ from xr vC _];rfl)) (.nil))))))))⟩
theorem abx(ts:List dQ)(e d:Int)(Z:fh ts e d)(hL ks hM ho hN:Nat)(bA:hL<=65536/\ks<=65536/\hM<=65536/\ho<=65536/\hN<=65536)(iV:d<=63):fC prog 125 [.ao 0 0,.ao 40 0] (mR (hF ts) e d hL ks hM ho hN) (.bE []) (mR (jy (ts.length-1)) e d hL ks hM ho (hN+1)) [0,40] (j9) jz:=by
 have hlen:=Z.len
 obtain⟨eE,eV,hl,je,mN⟩:=bA
 refine kq [] func125 D D fun E K af=>?_
 exact bm (O 2 D<|dH [50,51,52,53,54] [G 0,G 40,G 50,G 51,G 52,G 53,G 54] (hd D D D) (HZ ts e d Z hL ks hM ho hN ⟨eE,eV,hl,je,mN⟩ 1 (by decide) iV) (au D) (.sy D D D D D D D) D D (.du D .nil) D (by exact fun bc h=>⟨h,e9⟩) D<|ar)<|⟨.inl D,⟨_,(.nil),cM⟩,cI (.sy D D D D D D D)⟩
theorem aby(ts:List dQ)(e d:Int)(Z:fh ts e d)(hL ks hM ho hN:Nat)(bA:hL<=65536/\ks<=65536/\hM<=65536/\ho<=65536/\hN<=65536)(iV:d<=63):fC prog 126 [.ao 0 0,.ao 40 0] (mR (hF ts) e d hL ks hM ho hN) (.bE []) (mR (jy (ts.length-1)) e d hL ks hM ho (hN+1)) [0,40] (j9) jz:=by
 have hlen:=Z.len
 obtain⟨eE,eV,hl,je,mN⟩:=bA
 refine kq [] func126 D D fun E K af=>?_
 exact bm (O 2 D<|dH [50,51,52,53,54] [G 0,G 40,G 50,G 51,G 52,G 53,G 54] (hd D D D) (HZ ts e d Z hL ks hM ho hN ⟨eE,eV,hl,je,mN⟩ 2 (by decide) iV) (au D) (.sy D D D D D D D) D D (.du D .nil) D (by exact fun bc h=>⟨h,e9⟩) D<|ar)<|⟨.inl D,⟨_,(.nil),cM⟩,cI (.sy D D D D D D D)⟩
theorem abz(ts:List dQ)(e d:Int)(Z:fh ts e d)(hL ks hM ho hN:Nat)(bA:hL<=65536/\ks<=65536/\hM<=65536/\ho<=65536/\hN<=65536)(iV:d<=63):fC prog 127 [.ao 0 0,.ao 40 0] (mR (hF ts) e d hL ks hM ho hN) (.bE []) (mR (jy (ts.length-1)) e d hL ks hM ho (hN+1)) [0,40] (j9) jz:=by
 have hlen:=Z.len
 obtain⟨eE,eV,hl,je,mN⟩:=bA
 refine kq [] func127 D D fun E K af=>?_
 exact bm (O 2 D<|dH [50,51,52,53,54] [G 0,G 40,G 50,G 51,G 52,G 53,G 54] (hd D D D) (HZ ts e d Z hL ks hM ho hN ⟨eE,eV,hl,je,mN⟩ 3 (by decide) iV) (au D) (.sy D D D D D D D) D D (.du D .nil) D (by exact fun bc h=>⟨h,e9⟩) D<|ar)<|⟨.inl D,⟨_,(.nil),cM⟩,cI (.sy D D D D D D D)⟩
theorem abA(ts:List dQ)(e d:Int)(Z:fh ts e d)(hL ks hM ho hN:Nat)(bA:hL<=65536/\ks<=65536/\hM<=65536/\ho<=65536/\hN<=65536)(iV:d<=63):fC prog 128 [.ao 0 0,.ao 40 0] (mR (hF ts) e d hL ks hM ho hN) (.bE []) (mR (jy (ts.length-1)) e d hL ks hM ho (hN+1)) [0,40] (j9) jz:=by
 have hlen:=Z.len
 obtain⟨eE,eV,hl,je,mN⟩:=bA
 refine kq [] func128 D D fun E K af=>?_
 exact bm (O 2 D<|dH [50,51,52,53,54] [G 0,G 40,G 50,G 51,G 52,G 53,G 54] (hd D D D) (HZ ts e d Z hL ks hM ho hN ⟨eE,eV,hl,je,mN⟩ 4 (by decide) iV) (au D) (.sy D D D D D D D) D D (.du D .nil) D (by exact fun bc h=>⟨h,e9⟩) D<|ar)<|⟨.inl D,⟨_,(.nil),cM⟩,cI (.sy D D D D D D D)⟩
structure kc where
 (b s l t m:Nat)
def kc.sum(c:kc):Nat:=c.b+c.s+c.l+c.t+c.m
def rL(f:FuncId):Prop:=hS prog f=true/\∀(ts:List dQ) (e d:Int),fh ts e d->d<=63->∀c:kc,c.sum<=65536->∃k:kc,k.sum=c.sum+1/\
 fC prog f [.ao 0 0,.ao 40 0] (mR (hF ts) e d c.b c.s c.l c.t c.m) (.bE []) (mR (jy (ts.length-1)) e d k.b k.s k.l k.t k.m) [0,40] j9 jz
theorem kc.yW{c:kc}(h:c.sum<=65536):c.b<=65536/\c.s<=65536/\c.l<=65536/\c.t<=65536/\c.m<=65536:=by unfold kc.sum at h;omega
theorem abB:rL 121:=⟨(au D),fun ts e d Z aq c aj=>⟨⟨c.b+1,c.s,c.l,c.t,c.m⟩,by simp only[kc.sum];omega,abt ts e d Z _ _ _ _ _ (kc.yW aj)⟩⟩
theorem abC:rL 122:=⟨(au D),fun ts e d Z aq c aj=>⟨⟨c.b,c.s+1,c.l,c.t,c.m⟩,by simp only[kc.sum];omega,abu ts e d Z _ _ _ _ _ (kc.yW aj)⟩⟩
theorem abD:rL 123:=⟨(au D),fun ts e d Z aq c aj=>⟨⟨c.b,c.s,c.l+1,c.t,c.m⟩,by simp only[kc.sum];omega,abv ts e d Z _ _ _ _ _ (kc.yW aj)⟩⟩
theorem abE:rL 124:=⟨(au D),fun ts e d Z aq c aj=>⟨⟨c.b,c.s,c.l,c.t+1,c.m⟩,by simp only[kc.sum];omega,abw ts e d Z _ _ _ _ _ (kc.yW aj)⟩⟩
theorem abF:rL 125:=⟨(au D),fun ts e d Z aq c aj=>⟨⟨c.b,c.s,c.l,c.t,c.m+1⟩,by simp only[kc.sum];omega,abx ts e d Z _ _ _ _ _ (kc.yW aj) aq⟩⟩
theorem abG:rL 126:=⟨(au D),fun ts e d Z aq c aj=>⟨⟨c.b,c.s,c.l,c.t,c.m+1⟩,by simp only[kc.sum];omega,aby ts e d Z _ _ _ _ _ (kc.yW aj) aq⟩⟩
theorem abH:rL 127:=⟨(au D),fun ts e d Z aq c aj=>⟨⟨c.b,c.s,c.l,c.t,c.m+1⟩,by simp only[kc.sum];omega,abz ts e d Z _ _ _ _ _ (kc.yW aj) aq⟩⟩
theorem abI:rL 128:=⟨(au D),fun ts e d Z aq c aj=>⟨⟨c.b,c.s,c.l,c.t,c.m+1⟩,by simp only[kc.sum];omega,abA ts e d Z _ _ _ _ _ (kc.yW aj) aq⟩⟩
theorem vO:rC prog 207 hD (.v .nilFunc):=As underlying207 (K6 underlying9) (by kernel_rfl) fun M=>.v _
abbrev qS(f:FuncId):bg:=.v (.func (.func f) #[] #[])
theorem Sa(ts:List dQ)(e d:Int)(Z:fh ts e d)(iV:d<=63)(c:kc)(aj:c.sum+ts.length<=65536)(LI:List (ByteArray×bg))(abJ:∀s x,cb LI s=some x->∃f,x=qS f/\rL f):dI (ι:=Nat×kc) prog 120 [.ao 0 0,.ao 40 0,.mp 41] (mR (hF ts) e d c.b c.s c.l c.t c.m++[(G 41,.U (hE hD id LI))]) (fun i=>i.1<=ts.length/\i.1+i.2.sum<=c.sum+ts.length) (fun _=>.bE []) (fun i=>mR (jy i.1) e d i.2.b i.2.s i.2.l i.2.t i.2.m) [0,40] (j9) jz:=by
 have hlen:=Z.len
 refine hr [] func120 D D fun E K af=>?_
 refine bX<|pz (σ:=Nat×kc) [(ab 0,_),(ab 1,_),(ab 2,_),(G 41,_)] (fun i=>[(G 0,.U (.data [jy i.1,.v (.int .i64 e),.v (.int .i64 d)])),(G 40,.U (.cells [.d n0,.d fi,.d fi,.aQ 50 i.2.b,.aQ 51 i.2.s,.aQ 52 i.2.l,.aQ 53 i.2.t,.aQ 54 i.2.m])),(G 50,.U (.bG 3 i.2.b (ic oK i.2.b))),(G 51,.U (.bG 3 i.2.s (ic oK i.2.s))),(G 52,.U (.bG 4 i.2.l (ic vA i.2.l))),(G 53,.U (.bG 2 i.2.t (ic vB i.2.t))),(G 54,.U (.bG 8 i.2.m (ic vC i.2.m)))]) (fun i=>i.1<=ts.length/\i.1+i.2.sum<=c.sum+ts.length) (fun i=>i.1) (ts.length,c) (eH (.b D (od (Nat.le_refl _) Z.ok) (.s D (.s D (.s D (.s D (.s D (.s D (.nil))))))))) (da D D D D<|aU) ⟨Nat.le_refl _,by show ts.length+c.sum<=_;omega⟩ fun i hi=>?_
 refine al<|al<|iE (l:=0) (B':=fun ts=>.data [hF ts,.v (.int .i64 e),.v (.int .i64 d)]) D pE fun us hb=>?_
 have qR:=hb.1
 try simp only[h1]at qR
 have gv:fh us e d:=⟨by omega,hb.2,Z.e,Z.d⟩
 refine fS 6 D<|a7 D (fun aP=>?_) fun aP=>?_
 ·have bb:0<us.length:=eJ aP
  refine bx<|bX<|al<|?_
  rcases aM:cb LI (aq us).iU with _|x
  ·refine bm (O 5 D<|bW pt D D<|O 2 D<|cH [_] ((Pure.oJ (kv:=hD) (f:=id) vO (I D) (.v (I D)) D).bK (y:=.bE [.d (.v .nilFunc),bk false]) (congrArg (fun o:Option bg=>ai.bE [.d (o.elim (.v .nilFunc) id),bk o.isSome]) aM))<|aN 5 D)<|al<|al<|?_
   skip
   ·refine bm (O 3 D<|so (bk false) D<|so (bk false) D<|so (bk false) D<|so (bk false) D<|so (bk false) D<|so (bk false) D<|so (bk false) D<|so (bk false) D<|so (bk false) D<|so (bk false) D<|gQ D D D<|ar)<|a7 D (fun bq=>?_) (fun bq=>?_)
    ·exact bp<|⟨.inr D,⟨us.length,i.2⟩,⟨by show us.length<=_;omega,by show us.length+i.2.sum<=_;omega⟩,⟨_,(.nil),cM⟩,cI (.cons D (od (Nat.le_refl _) gv.ok) (.cons D (bl.refl _) (.cons D (bl.refl _) (.cons D (bl.refl _) (.cons D (bl.refl _) (.cons D (bl.refl _) (.cons D (bl.refl _) .nil)))))))⟩
    cases bq
  obtain⟨f,rfl,hit⟩:=abJ _ _ aM
  refine bm (O 5 D<|bW pt D D<|O 2 D<|cH [_] ((Pure.oJ (kv:=hD) (f:=id) vO (I D) (.v (I D)) D).bK (y:=.bE [.d (qS f),bk true]) (congrArg (fun o:Option bg=>ai.bE [.d (o.elim (.v .nilFunc) id),bk o.isSome]) aM))<|aN 5 D)<|al<|al<|?_
  skip
  ·refine bm (O 3 D<|cz D<|O 1 D<|cz D<|O 1 D<|cz D<|O 1 D<|cz D<|O 1 D<|cz D<|O 1 D<|cz D<|bW pt D D<|cz D<|O 1 D<|cz D<|O 1 D<|cz D<|ct [] [G 0] (cn D D) (uP us e d gv _).fn (au D) (.cons D .nil) D D<|cz D<|O 1 D<|ag (.pick (I D) (I D) (I D))<|ar)<|a7 D (fun b3=>?_) (fun b3=>?_)
   ·have ae:sB us (aq us).iU=false:=by simpa using b3
    exact bp<|⟨.inr D,⟨us.length,i.2⟩,⟨by show us.length<=_;omega,by show us.length+i.2.sum<=_;omega⟩,⟨_,(.nil),cM⟩,cI (.cons D (od (by show(jA us (aq us).iU).length<=us.length;rw[vL ae];exact Nat.le_refl _) (ka gv).ok) (.cons D (bl.refl _) (.cons D (bl.refl _) (.cons D (bl.refl _) (.cons D (bl.refl _) (.cons D (bl.refl _) (.cons D (bl.refl _) .nil)))))))⟩
   have ae:sB us (aq us).iU=true:=by simpa using b3
   have aT:(jA us (aq us).iU).length=us.length-1:=by rw[CD ae];simp
   obtain⟨k,QN,jd⟩:=hit.2 (jA us (aq us).iU) e d (ka gv) iV i.2 (by omega)
   refine bx<|aO (O 3 D<|dH [50,51,52,53,54] [G 0,G 40,G 50,G 51,G 52,G 53,G 54] (wF (I D) (.cons (I D) (.cons (I D) .nil))) jd hit.1 (.cons D (.cons D (.cons D (.cons D (.cons D (.cons D (.cons D .nil))))))) D D (.du D .nil) D (by exact fun bc h=>⟨h,e9⟩) D<|ar)<|iE (l:=0) (B':=fun ts=>.data [hF ts,.v (.int .i64 e),.v (.int .i64 d)]) D pE fun kt vM=>?_
   have HW:=vM.1
   try simp only[h1]at HW
   have xq:fh kt e d:=⟨by omega,vM.2,Z.e,Z.d⟩
   exact bm (O 1 D<|j4 (g:=fun i=>[.v (.string ([⟨#[59]⟩].getD i ByteArray.empty))]) mJ mI D (by decide) (by decide) (ba D D D (.nil _ _)) D (fun i hi=>by obtain rfl:i=0:=(by omega);rfl)<|dH [] [G 0] (cn D D) (oc kt e d xq [⟨#[59]⟩] (by decide)) (au D) (.cons D .nil) D D (.du D .nil) D (by exact fun bc h=>⟨h,e9⟩) D<|ar)<|⟨(kt.length-1,k),⟨by omega,by show kt.length-1+k.sum<=_;omega⟩,by show kt.length-1<i.1;omega,eH (.b D (od (by simp) (xq.drop 1).ok) (.s D (.s D (.s D (.s D (.s D (.s D (.nil)))))))),da D D D D<|aU⟩
 exact dW<|⟨.inl D,⟨us.length,i.2⟩,⟨by show us.length<=_;omega,by show us.length+i.2.sum<=_;omega⟩,⟨_,(.nil),cM⟩,cI (.cons D (od (Nat.le_refl _) gv.ok) (.cons D (bl.refl _) (.cons D (bl.refl _) (.cons D (bl.refl _) (.cons D (bl.refl _) (.cons D (bl.refl _) (.cons D (bl.refl _) .nil)))))))⟩
theorem yX{m:List (ByteArray×bg)}{s t:ByteArray}{x:bg}{f:FuncId}(bf:rL f)(aJ:cb m s=some x->∃f,x=qS f/\rL f)(h:cb (dM m t (qS f)) s=some x):∃f,x=qS f/\rL f:=by
 rw[oI]at h
 by_cases aT:t=s
 ·rw[if_pos aT]at h;injection h with h;exact⟨f,h.symm,bf⟩
 ·rw[if_neg aT]at h;exact aJ h
abbrev Sb:List (ByteArray×bg):=(dM (dM (dM (dM [] ⟨#[112,97,114,97,109]⟩ (qS 121)) ⟨#[115,116,97,116,101]⟩ (qS 122)) ⟨#[108,105,110,101]⟩ (qS 123)) ⟨#[116,97,98,108,101]⟩ (qS 124))
abbrev Sc:List (ByteArray×bg):=(dM (dM (dM (dM [] ⟨#[108,101,116]⟩ (qS 125)) ⟨#[115,101,116]⟩ (qS 126)) ⟨#[112,117,115,104]⟩ (qS 127)) ⟨#[111,117,116]⟩ (qS 128))
theorem abK(s:ByteArray)(x:bg):cb Sb s=some x->∃f,x=qS f/\rL f:=(yX abE (yX abD (yX abC (yX abB fun h=>by cases h))))
theorem abL(s:ByteArray)(x:bg):cb Sc s=some x->∃f,x=qS f/\rL f:=(yX abI (yX abH (yX abG (yX abF fun h=>by cases h))))
theorem abM(ts:List dQ)(e d:Int)(Z:fh ts e d)(iV:d<=63):fC prog 75 [.ao 0 0] (kr ts e d) (.d (.agg xb)) (sC (ts.length-1) e d) [0] (j9) jz:=by
 have hlen:=Z.len
 refine kq [.cell 2 29] func75 D D fun E K af=>?_
 refine aO (cm 40 tf D<|ar)<|aO (O 1 D<|j4 (g:=fun i=>[.v (.string ([⟨#[112,114,111,99,101,115,115,111,114]⟩].getD i ByteArray.empty))]) mJ mI D (by decide) (by decide) (ba D D D (.nil _ _)) D (fun i hi=>by obtain rfl:i=0:=(by omega);rfl)<|dH [] [G 0] (cn D D) (oc ts e d Z [⟨#[112,114,111,99,101,115,115,111,114]⟩] (by decide)) (au D) (.cons D .nil) D D (.du D .nil) D (by exact fun bc h=>⟨h,e9⟩) D<|ar)<|aO (O 1 D<|dH [] [G 0] (cf D) (AJ _ e d (Z.drop 1)) (au D) (.cons D .nil) D D (.du D .nil) D (by exact fun bc h=>⟨h,e9⟩) D<|O 1 D<|dZ ry D D D D D<|ar)<|aO (O 1 D<|j4 (g:=fun i=>[.v (.string ([⟨#[108,97,116,101,110,99,121]⟩].getD i ByteArray.empty))]) mJ mI D (by decide) (by decide) (ba D D D (.nil _ _)) D (fun i hi=>by obtain rfl:i=0:=(by omega);rfl)<|dH [] [G 0] (cn D D) (oc _ e d ((Z.drop 1).drop 1) [⟨#[108,97,116,101,110,99,121]⟩] (by decide)) (au D) (.cons D .nil) D D (.du D .nil) D (by exact fun bc h=>⟨h,e9⟩) D<|ar)<|aO (O 1 D<|dH [] [G 0] (cf D) (CC _ e d (((Z.drop 1).drop 1).drop 1)) (au D) (.cons D .nil) D D (.du D .nil) D (by exact fun bc h=>⟨h,e9⟩) D<|O 1 D<|dZ bY D D D D D<|ar)<|aO (O 1 D<|j4 (g:=fun i=>[.v (.string ([⟨#[116,97,105,108]⟩].getD i ByteArray.empty))]) mJ mI D (by decide) (by decide) (ba D D D (.nil _ _)) D (fun i hi=>by obtain rfl:i=0:=(by omega);rfl)<|dH [] [G 0] (cn D D) (oc _ e d ((((Z.drop 1).drop 1).drop 1).drop 1) [⟨#[116,97,105,108]⟩] (by decide)) (au D) (.cons D .nil) D D (.du D .nil) D (by exact fun bc h=>⟨h,e9⟩) D<|ar)<|w9 [(ab 0,.aB (.ao 0 0)),(ab 2,.aB (.ao 40 0)),(G 0,.U (.data [jy (ts.length-1),.v (.int .i64 e),.v (.int .i64 d)])),(G 40,.U (.data [n0,fi,fi,.v (.slice none 0 0),.v (.slice none 0 0),.v (.slice none 0 0),.v (.slice none 0 0),.v (.slice none 0 0)]))] ?_ ?_
 ·refine aO (O 1 D<|dZ bY D D D D D<|ar)<|aO (O 1 D<|kI (cf D) (HV _ e d (((((Z.drop 1).drop 1).drop 1).drop 1).drop 1)) (au D) (.cons D .nil) D<|ar)<|a7 D (fun aP=>?_) (fun aP=>?_)
  ·exact bm (O 1 D<|dH [] [G 0] (cf D) (CC _ e d (((((Z.drop 1).drop 1).drop 1).drop 1).drop 1)) (au D) (.cons D .nil) D D (.du D .nil) D (by exact fun bc h=>⟨h,e9⟩) D<|O 1 D<|dZ bY D D D D D<|ar)<|(eH (.s D (.s D (.b D (od (by simp;omega) ((((((Z.drop 1).drop 1).drop 1).drop 1).drop 1).drop 1).ok) (.b D (bl.data (.cons oH (.cons (gG (HY _ (((Z.drop 1).drop 1).drop 1))) (.cons (gG (HY _ (((((Z.drop 1).drop 1).drop 1).drop 1).drop 1))) (.refl _))))) (.nil))))))
  exact bm (O 1 D<|j4 (g:=fun i=>[.v (.string ([⟨#[102,111,114,101,118,101,114]⟩].getD i ByteArray.empty))]) mJ mI D (by decide) (by decide) (ba D D D (.nil _ _)) D (fun i hi=>by obtain rfl:i=0:=(by omega);rfl)<|dH [] [G 0] (cn D D) (oc _ e d (((((Z.drop 1).drop 1).drop 1).drop 1).drop 1) [⟨#[102,111,114,101,118,101,114]⟩] (by decide)) (au D) (.cons D .nil) D D (.du D .nil) D (by exact fun bc h=>⟨h,e9⟩) D<|ar)<|(eH (.s D (.s D (.b D (od (by simp;omega) ((((((Z.drop 1).drop 1).drop 1).drop 1).drop 1).drop 1).ok) (.b D (bl.data (.cons oH (.cons (gG (HY _ (((Z.drop 1).drop 1).drop 1))) (.cons (gG (by decide)) (.refl _))))) (.nil))))))
 refine al<|iE (l:=0) (B':=fun ts=>.data [hF ts,.v (.int .i64 e),.v (.int .i64 d)]) D pE fun us hb=>?_
 have qR:=hb.1
 have gv:fh us e d:=⟨by have:=hb.1;omega,hb.2,Z.e,Z.d⟩
 refine bm (O 1 D<|j4 (g:=fun i=>[.v (.string ([⟨#[123]⟩].getD i ByteArray.empty))]) mJ mI D (by decide) (by decide) (ba D D D (.nil _ _)) D (fun i hi=>by obtain rfl:i=0:=(by omega);rfl)<|dH [] [G 0] (cn D D) (oc us e d gv [⟨#[123]⟩] (by decide)) (au D) (.cons D .nil) D D (.du D .nil) D (by exact fun bc h=>⟨h,e9⟩) D<|ar)<|al<|?_
 refine iE (ι:=Unit) (l:=40) (Φ:=fun _=>True) (B':=fun _=>.cells [.d n0,.d fi,.d fi,k4,k4,k4,k4,k4]) D (fun V M w h=>⟨(),trivial,h⟩) fun _ _=>?_
 refine c1 (b1.nd (lb:=40) (j:=3) (l:=50) (n:=3) (fq:=ic oK 0) D D D D (by rw[K];decide) D (AL _ _) D)<|c1 (b1.nd (lb:=40) (j:=4) (l:=51) (n:=3) (fq:=ic oK 0) D D D D (by rw[K];decide) D (AL _ _) D)<|c1 (b1.nd (lb:=40) (j:=5) (l:=52) (n:=4) (fq:=ic vA 0) D D D D (by rw[K];decide) D (AL _ _) D)<|c1 (b1.nd (lb:=40) (j:=6) (l:=53) (n:=2) (fq:=ic vB 0) D D D D (by rw[K];decide) D (AL _ _) D)<|c1 (b1.nd (lb:=40) (j:=7) (l:=54) (n:=8) (fq:=ic vC 0) D D D D (by rw[K];decide) D (AL _ _) D)<|?_
 apply jD (new:=[50,51,52,53,54]) (ds:=[G 0,G 40,G 50,G 51,G 52,G 53,G 54,G 41]) (cW:=jz) 7
 ·exact O 1 D<|sn hD id 41 [] D<|hP (kv:=hD) (f:=id) vO (I D) (.v (I D)) (.f (I D)) D<|hP (kv:=hD) (f:=id) vO (I D) (.v (I D)) (.f (I D)) D<|hP (kv:=hD) (f:=id) vO (I D) (.v (I D)) (.f (I D)) D<|hP (kv:=hD) (f:=id) vO (I D) (.v (I D)) (.f (I D)) D<|aN 1 D
 ·exact bR
 ·rfl
 ·exact(hd D D D)
 ·exact(au D)
 ·exact Sa (us.drop 1) e d (gv.drop 1) iV ⟨0,0,0,0,0⟩ (by have:=gv.len;simp only[kc.sum,h1];omega) Sb abK
 ·exact(.cons D (.cons D (.cons D (.cons D (.cons D (.cons D (.cons D (.cons D .nil))))))))
 ·intro q;rfl
 ·rfl
 ·exact .du D .nil
 ·rfl
 ·exact fun bc h=>⟨h,e9⟩
 ·rfl
 ·rw[K,af];rfl
 intro i hi
 apply ju
 ·exact .nil _
 ·exact bR
 refine al<|?_
 have kC:=hi.2
 simp only[kc.sum,h1]at kC
 refine c8.fj (T:=[(ab 0,_),(ab 2,_),(G 0,_),(G 40,_),(G 50,_),(G 51,_),(G 52,_),(G 53,_),(G 54,_)]) ?_ (fs D D D D D D D D<|aZ D<|aU)
 refine iE (l:=0) (B':=fun ts=>.data [hF ts,.v (.int .i64 e),.v (.int .i64 d)]) D pE fun kt vM=>?_
 have HW:=vM.1
 have xq:fh kt e d:=⟨by have:=vM.1;omega,vM.2,Z.e,Z.d⟩
 apply jD (new:=[50,51,52,53,54]) (ds:=[G 0,G 40,G 50,G 51,G 52,G 53,G 54,G 41]) (cW:=jz) 7
 ·exact O 1 D<|sn hD id 41 [] D<|hP (kv:=hD) (f:=id) vO (I D) (.v (I D)) (.f (I D)) D<|hP (kv:=hD) (f:=id) vO (I D) (.v (I D)) (.f (I D)) D<|hP (kv:=hD) (f:=id) vO (I D) (.v (I D)) (.f (I D)) D<|hP (kv:=hD) (f:=id) vO (I D) (.v (I D)) (.f (I D)) D<|aN 1 D
 ·exact bR
 ·rfl
 ·exact(hd D D D)
 ·exact(au D)
 ·exact Sa kt e d xq iV i.2 (by have:=vM.1;unfold kc.sum;omega) Sc abL
 ·exact(.cons D (.cons D (.cons D (.cons D (.cons D (.cons D (.cons D (.cons D .nil))))))))
 ·intro q;rfl
 ·rfl
 ·exact .du D .nil
 ·rfl
 ·exact fun bc h=>⟨h,e9⟩
 ·rfl
 ·rw[K,af];rfl
 intro j az
 apply ju
 ·exact .nil _
 ·exact bR
 refine al<|?_
 have pH:=az.2
 simp only[kc.sum]at pH
 refine iE (l:=0) (B':=fun ts=>.data [hF ts,.v (.int .i64 e),.v (.int .i64 d)]) D pE fun oS CF=>?_
 have R4:=CF.1
 have yU:fh oS e d:=⟨by have:=CF.1;omega,CF.2,Z.e,Z.d⟩
 refine bm (O 1 D<|j4 (g:=fun i=>[.v (.string ([⟨#[125]⟩].getD i ByteArray.empty))]) mJ mI D (by decide) (by decide) (ba D D D (.nil _ _)) D (fun i hi=>by obtain rfl:i=0:=(by omega);rfl)<|dH [] [G 0] (cn D D) (oc oS e d yU [⟨#[125]⟩] (by decide)) (au D) (.cons D .nil) D D (.du D .nil) D (by exact fun bc h=>⟨h,e9⟩) D<|ar)<|al<|c8.fj (T:=[(ab 2,_),(G 0,_),(G 40,_),(G 50,_),(G 51,_),(G 52,_),(G 53,_),(G 54,_)]) ?_ (fs D D D D D D D D<|aU)
 refine c1 (b1.mH (lb:=40) (j:=3) (l:=50) (n:=3) (g:=fun _=>oK) D D D D (fun i hi=>yV oK _ i hi) D)<|c1 (b1.mH (lb:=40) (j:=4) (l:=51) (n:=3) (g:=fun _=>oK) D D D D (fun i hi=>yV oK _ i hi) D)<|c1 (b1.mH (lb:=40) (j:=5) (l:=52) (n:=4) (g:=fun _=>vA) D D D D (fun i hi=>yV vA _ i hi) D)<|c1 (b1.mH (lb:=40) (j:=6) (l:=53) (n:=2) (g:=fun _=>vB) D D D D (fun i hi=>yV vB _ i hi) D)<|c1 (b1.mH (lb:=40) (j:=7) (l:=54) (n:=8) (g:=fun _=>vC) D D D D (fun i hi=>yV vC _ i hi) D)<|c8.fj (T:=[(ab 2,_),(G 0,_),(G 40,_)]) ?_ (ck D D<|aZ D<|aU)
 exact bm (cH [_] (.x2 pq (I D) D fun _=>cC D)<|x7 pq (I D) (I D) D D (by rfl) (by exact eZ.1 D) (by simp) rfl<|ar)<|bp<|⟨.inr rfl,⟨_,(.cons (.va D D pq D) .nil),(iD (.agg (.cons (.refl _) (.cons (.refl _) (.cons (.refl _) (.cons (Av QV D (fun _=>rfl) (by omega) fun i hi=>.refl _) (.cons (Av QV D (fun _=>rfl) (by omega) fun i hi=>.refl _) (.cons (Av Zz D (fun _=>rfl) (by omega) fun i hi=>.refl _) (.cons (Av ZA D (fun _=>rfl) (by omega) fun i hi=>.refl _) (.cons (Av ZB D (fun _=>rfl) (by omega) fun i hi=>.refl _) .nil))))))))))⟩,cI (.cons D (od (by simp;omega) (yU.drop 1).ok) .nil)⟩
theorem abN(B:cO)(d1 d2:bg):nS prog 74 [.ao 4 0,.ao 5 0,.ao 6 0] [(G 4,.U B),(G 5,.U (.data [d1])),(G 6,.U (.data [d2]))] [(G 4,.U B),(G 5,.U (.data [d1])),(G 6,.U (.data [d2]))] (.returning) (.returning) [4,5,6]:=by
 refine BJ (x:=.nilIface) func74 D (cC D) (lD D) (by decide) (by decide) D .tc fun E K af=>?_
 refine aO (O 1 D<|ag (.z6 vn (I D) (.inl ⟨rfl,rfl⟩))<|ar)<|a7 D (fun aP=>?_) fun aP=>?_
 ·cases aP
 exact bx<|⟨.inl D,cU (.eC D D D)⟩
theorem abO(k:Nat)(d1 d2:bg)(i:Int):nS prog 74 [.ao 4 0,.ao 5 0,.ao 6 0] [(G 4,.U (.cells [.aQ 60 k])),(G 5,.U (.data [d1])),(G 6,.U (.data [d2]))] [(G 4,.U (.cells [.d (.v (.slice none 0 0))])),(G 5,.U (.data [av i])),(G 6,.U (.data [av 140]))] (.panicking [{v:=.iface 146 (.agg #[.int .i64 i]),recovered:=false}]) (.panicking [{v:=.iface 146 (.agg #[.int .i64 i]),recovered:=true}]) [4,5,6]:=by
 refine BJ (x:=.iface 146 (.agg #[.int .i64 i])) func74 D (cC D) (lD D) (by decide) (by decide) D (.td _ _) fun E K af=>?_
 refine aO (O 1 D<|ag (.z6 vn (I D) (.inr ⟨⟨_,_,rfl⟩,rfl⟩))<|ar)<|a7 D (fun aP=>?_) fun aP=>?_
 ·refine aO (O 1 D<|ag (Pure.Hx (z:=.agg [av i]) underlying146 (by intro m h;cases h) (fun M=>K7 [.int .i64 i]) (I D))<|O 3 D<|cm 20 Ky D<|cL XG D D D D<|aN 1 D)<|al<|aL 2 D<|a7 D (fun bq=>?_) (fun bq=>?_)
  ·cases bq
  exact bx<|eo (O 2 D<|iG El D D D D D<|dZ bY D D D D D<|dZ gF D D D D D<|ar)<|⟨.inl D,cU (.eC D D D)⟩
 cases aP
theorem abP(ts:List dQ)(e:Int)(Z:fh ts e 0):dI (ι:=Bool) prog 26 [.d (hF ts),aF .i64 e] [] (fun _=>True) (fun b=>bif b then .bE [.d QW,.d (av 0),.d (av 0)]else .bE [.d (.v (.slice none 0 0)),.d fi,.d (av 140)]) (fun _=>[]) [] ((fun _=>False)) []:=by
 have hlen:=Z.len
 refine Am (k:=1) (cap:=[(4,4),(5,5),(6,6)]) (kept:=[(4,4),(5,5),(6,6)]) (rs:=[.cell 4 33,.cell 5 3,.cell 6 30]) (ed:=[(ab 0,.aB (.d (hF ts))),(ab 1,.aB (.d (av e))),(ab 4,.aB (.ao 4 0)),(ab 5,.aB (.ao 5 0)),(ab 6,.aB (.ao 6 0)),(G 4,.U (.data [.v (.slice none 0 0)])),(G 5,.U (.data [.v (.int .i64 0)])),(G 6,.U (.data [.v (.int .i64 0)]))]) (ro:={gm:=fun y=>j9 y.1/\∃k,y.2=[(ab 4,.aB (.ao 4 0)),(ab 5,.aB (.ao 5 0)),(ab 6,.aB (.ao 6 0)),(G 4,.U (.cells [.aQ 60 k])),(G 5,.U (.data [.v (.int .i64 0)])),(G 6,.U (.data [.v (.int .i64 0)]))]}) (True) func26 D D D (cC D) (by simp[ad.get]) (cC D) (au D) (fun E K af=>?_) (.cons D (.cons D (.cons D (.nil)))) D (fun uu E K af=>?_) (by simp) rfl rfl ?_
 ·exact bm (cm 4 W1 D<|cm 5 iC D<|cm 6 z8 D<|ar)<|.inl ⟨rfl,(fs D D D D D D D D<|aU),trivial⟩
 ·refine al<|al<|iE (ι:=Unit) (l:=4) (Φ:=fun _=>True) (B':=fun _=>.cells [k4]) D (fun V M w h=>⟨(),trivial,h⟩) fun _ _=>?_
  refine c1 (b1.nd (lb:=4) (j:=0) (l:=50) (n:=8) (fq:=ic xb 0) D D D D (by rw[K];decide) D (AL _ _) D)<|bm (O 2 D<|ag (.build XH Yd (ba D D D (ba D D D (.nil _ _))) D)<|cV 0 D D D<|aN 1 D)<|bX<|pz (σ:=Nat×Nat) [(ab 4,_),(ab 5,_),(ab 6,_),(ab 7,_),(G 5,_),(G 6,_)] (fun i=>[(G 0,.U (.data [jy i.1,.v (.int .i64 e),.v (.int .i64 0)])),(G 4,.U (.cells [.aQ 50 i.2])),(G 50,.U (.bG 8 i.2 (ic xb i.2)))]) (fun i=>i.1+i.2<=65536/\i.1<=ts.length) (fun i=>i.1) (ts.length,0) (eH (.b D (od (Nat.le_refl _) Z.ok) (.s D (.s D (.nil))))) (da D D D D<|ck D D<|aU) ⟨by show ts.length+0<=_;omega,Nat.le_refl _⟩ fun i hi=>?_
  refine al<|al<|iE (l:=0) (B':=fun ts=>.data [hF ts,.v (.int .i64 e),.v (.int .i64 0)]) D pE fun us hb=>?_
  have qR:=hb.1
  have gv:fh us e 0:=⟨by omega,hb.2,Z.e,by decide⟩
  refine fS 6 D<|a7 D (fun aP=>?_) fun aP=>?_
  ·have bb:0<us.length:=eJ aP
   exact bx<|bX<|gI 50 60 D<|eo (O 2 D<|dH [] [G 0] (cf D) (abM us e 0 gv (by decide)) (au D) (.cons D .nil) D D (.aQ D D (.aQ D D (.aQ D D (.aQ D D (.aQ D D (.aQ D D .nil)))))) D (by exact fun bc h=>⟨h,i.2,rfl⟩) D<|gN 30 [] W2 tf D (by decide) (by decide) (ba D D D (.nil _ _)) D D D<|hA 50 [G 60] W3 W4 (by decide) (.aQ (I D) D) (.aQ (I D) D) (bz.hT D) (hB D) (by omega) (by omega) D D<|iG El D D D D D<|ar)<|⟨(us.length-1,i.2+1),⟨by show us.length-1+(i.2+1)<=_;omega,by show us.length-1<=_;omega⟩,by show us.length-1<i.1;omega,eH (.s D (.s D (.b D (bl.dT (by rw[show ic xb (_+1)=_ from xr xb _];rfl)) (.nil)))),da D D D D<|ck D D<|aU⟩
  exact dW<|al<|c1 (b1.mH (lb:=4) (j:=0) (l:=50) (n:=8) (g:=fun _=>xb) D D D D (fun i hi=>yV xb _ i hi) D)<|bm (O 1 D<|iG El D D D D D<|dZ bY D D D D D<|dZ gF D D D D D<|ar)<|bp<|⟨.inr D,[(G 4,.U (.cells [.d (.cK 8 i.2 fun _=>xb)])),(G 5,.U (.data [.v (.int .i64 0)])),(G 6,.U (.data [.v (.int .i64 0)]))],(da D D D D<|ck D D<|aU),by simp,.returning,_,rfl,abN _ _ _,.inl ⟨rfl,true,trivial,⟨_,(.cons (.Gz D D El D) (.cons (.hR D D bY D) (.cons (.hR D D gF D) .nil))),(sl (.cons (iD (Av ZC D (fun _=>rfl) (by omega) fun i hi=>.refl _)) (.cons cM (.cons cM .nil))))⟩,cI .nil⟩⟩
 rintro⟨bc,st⟩ ⟨⟨i,hi,rfl⟩,k,rfl⟩
 exact⟨[(G 4,.U (.cells [.aQ 60 k])),(G 5,.U (.data [.v (.int .i64 0)])),(G 6,.U (.data [.v (.int .i64 0)]))],rfl,by simp,_,_,rfl,abO _ _ _ i,.inl ⟨rfl,false,trivial,⟨_,(.cons (.Gz D D El D) (.cons (.hR D D bY D) (.cons (.hR D D gF D) .nil))),(sl (.cons cM (.cons (iD (gG hi)) (.cons cM .nil))))⟩,cI .nil⟩⟩
abbrev oe:bg:=qJ (fun n:Int=>e1 n/\n≠0) av
def abQ:Bool->ai
 |true=>.bE [.d QW,.d (av 0),.d (av 0)]
 |false=>.bE [.d (.v (.slice none 0 0)),.d fi,.d oe]
theorem abR(src:ByteArray)(cj:src.size<=65536):dI (ι:=Bool) prog 5 [jm src] [] (fun _=>True) (abQ) (fun _=>[]) [] ((fun _=>False)) []:=by
 refine hr [.tmp 2,.tmp 3,.tmp 4] func5 D D fun E K af=>?_
 refine aL 3 D<|aO (O 1 D<|lC (ds:=[jy 65536,fi,fi]) (cf D) (abc src cj).fn (au D)<|aN 7 D)<|al<|al<|EF (t:=4) D (EG ld) fun Sd abS=>?_
 refine EF (t:=5) D (EG ld) fun ts l4=>?_
 refine fS 2 D<|a7 D (fun aP=>?_) fun aP=>?_
 ·have b2:Sd≠0:=by simpa using aP
  exact aL 5 D<|bp<|⟨.inr D,false,trivial,⟨_,(.cons (.tmp D) (.cons (.tmp D) (.cons (.tmp D) .nil))),(sl (.cons cM (.cons cM (.cons (iD (.py Sd ⟨abS,b2⟩ D ⟨fun _ e=>(nomatch e),fun _ e=>(nomatch e)⟩)) .nil))))⟩,cI .nil⟩
 refine bx<|al<|?_
 apply jD (new:=[]) (ds:=[]) (cW:=[]) 3
 ·exact O 2 D<|ag (.sT D underlying9 (I D))<|ar
 ·exact bR
 ·rfl
 ·exact(cn D D)
 ·exact(au D)
 ·exact abP ts src.size ⟨l4.1,l4.2,⟨by omega,by omega⟩,by decide⟩
 ·exact .nil
 ·intro q;(cases q<;>rfl)
 ·rfl
 ·exact .nil
 ·rfl
 ·exact fun bc h=>h.elim
 ·rfl
 ·rw[K,af];rfl
 intro b ae
 cases b
 ·apply ju
  ·exact O 6 D<|ar
  ·exact bR
  exact bp<|⟨.inr D,false,trivial,⟨_,(.cons (.tmp D) (.cons (.tmp D) (.cons (.tmp D) .nil))),(sl (.cons cM (.cons cM (.cons (iD (.py 140 (by decide) D ⟨fun _ e=>(nomatch e),fun _ e=>(nomatch e)⟩)) .nil))))⟩,cI .nil⟩
 apply ju
 ·exact O 6 D<|ar
 ·exact bR
 exact bp<|⟨.inr D,true,trivial,⟨_,(.cons (.tmp D) (.cons (.tmp D) (.cons (.tmp D) .nil))),cM⟩,cI .nil⟩
theorem Se(k:Int):bw prog 23 [aF .i64 k] [] (.bE [.d (av (mg k)),.d (.v (.bool (n3 k)))]) [] []:=by
 refine cB [.tmp 2,.tmp 3] func23 D D fun E K af=>?_
 refine aL 2 D<|al<|aL 1 D<|bX<|aL 2 D<|a7 D (fun aP=>?_) fun aP=>?_
 ·refine aL 2 D<|bp<|uM D D ?_
  show ai.bE _=_;simp_all [mg,n3,kO]
  exact⟨rfl,rfl⟩
 refine w9 [(ab 4,.aB (aF .i64 k)),(ab 7,.aB (bk (xc k)))] ?_ ?_
 ·refine aL 2 D<|a7 D (fun bq=>?_) (fun bq=>?_)
  ·exact bx<|(eH (.s D (.a D (ng (by simp_all [xc])) (.nil))))
  refine aL 2 D<|a7 D (fun b3=>?_) fun b3=>?_
  ·exact bx<|(eH (.s D (.a D (ng (by simp_all [xc])) (.nil))))
  refine aL 2 D<|a7 D (fun et=>?_) fun et=>?_
  ·exact bx<|(eH (.s D (.a D (ng (by simp_all [xc])) (.nil))))
  exact fS 2 D<|(eH (.s D (.a D (ng (by simp_all [xc])) (.nil))))
 refine a7 D (fun eQ=>?_) fun eQ=>?_
 ·refine aL 2 D<|bp<|uM D D ?_
  show ai.bE _=_;simp_all [mg,n3,kO]
  exact⟨rfl,rfl⟩
 refine w9 [(ab 4,.aB (aF .i64 k)),(ab 12,.aB (bk (Ax k)))] ?_ ?_
 ·refine aL 2 D<|a7 D (fun ie=>?_) (fun ie=>?_)
  ·exact bx<|(eH (.s D (.a D (ng (by simp_all [Ax])) (.nil))))
  exact fS 2 D<|(eH (.s D (.a D (ng (by simp_all [Ax])) (.nil))))
 refine a7 D (fun kb=>?_) fun kb=>?_
 ·refine aL 2 D<|bp<|uM D D ?_
  show ai.bE _=_;simp_all [mg,n3,kO]
  exact⟨rfl,rfl⟩
 refine w9 [(ab 4,.aB (aF .i64 k)),(ab 15,.aB (bk (xd k)))] ?_ ?_
 ·refine aL 2 D<|a7 D (fun pG=>?_) (fun pG=>?_)
  ·exact bx<|(eH (.s D (.a D (ng (by simp_all [xd])) (.nil))))
  refine aL 2 D<|a7 D (fun uQ=>?_) fun uQ=>?_
  ·exact bx<|(eH (.s D (.a D (ng (by simp_all [xd])) (.nil))))
  refine aL 2 D<|a7 D (fun yY=>?_) fun yY=>?_
  ·exact bx<|(eH (.s D (.a D (ng (by simp_all [xd])) (.nil))))
  refine aL 2 D<|a7 D (fun xt=>?_) fun xt=>?_
  ·exact bx<|(eH (.s D (.a D (ng (by simp_all [xd])) (.nil))))
  refine aL 2 D<|a7 D (fun xu=>?_) fun xu=>?_
  ·exact bx<|(eH (.s D (.a D (ng (by simp_all [xd])) (.nil))))
  exact fS 2 D<|(eH (.s D (.a D (ng (by simp_all [xd])) (.nil))))
 refine a7 D (fun yZ=>?_) fun yZ=>?_
 ·refine aL 2 D<|bp<|uM D D ?_
  show ai.bE _=_;simp_all [mg,n3,kO]
  exact⟨rfl,rfl⟩
 refine w9 [(ab 4,.aB (aF .i64 k)),(ab 22,.aB (bk (yE k)))] ?_ ?_
 ·refine aL 2 D<|a7 D (fun xv=>?_) (fun xv=>?_)
  ·exact bx<|(eH (.s D (.a D (ng (by simp_all [yE])) (.nil))))
  refine aL 2 D<|a7 D (fun AN=>?_) fun AN=>?_
  ·exact bx<|(eH (.s D (.a D (ng (by simp_all [yE])) (.nil))))
  refine aL 2 D<|a7 D (fun xw=>?_) fun xw=>?_
  ·exact bx<|(eH (.s D (.a D (ng (by simp_all [yE])) (.nil))))
  refine aL 2 D<|a7 D (fun AO=>?_) fun AO=>?_
  ·exact bx<|(eH (.s D (.a D (ng (by simp_all [yE])) (.nil))))
  exact fS 2 D<|(eH (.s D (.a D (ng (by simp_all [yE])) (.nil))))
 refine a7 D (fun xx=>?_) fun xx=>?_
 ·refine aL 2 D<|bp<|uM D D ?_
  show ai.bE _=_;simp_all [mg,n3,kO]
  exact⟨rfl,rfl⟩
 refine aL 2 D<|a7 D (fun H0=>?_) fun H0=>?_
 ·refine aL 2 D<|bp<|uM D D ?_
  show ai.bE _=_;simp_all [mg,n3,kO]
  exact⟨rfl,rfl⟩
 refine bx<|aL 2 D<|bp<|uM D D ?_
 show ai.bE _=_;simp_all [mg,n3,kO]
 exact⟨rfl,rfl⟩
theorem abT(b:Bool)(n:Int)(lV:e1 n)(nZ:n≠0):dI (ι:=Unit) prog 24 [bk b,aF .i64 n] [] (fun _=>b=true) (fun _=>.bE []) (fun _=>[]) [] ((fun bc=>hp bc/\b=false)) []:=by
 refine hr [] func24 D D fun E K af=>?_
 refine aL 2 D<|a7 D (fun aP=>?_) fun aP=>?_
 ·have ae:b=false:=by simpa using aP
  apply kH 0
  ·exact O 1 D<|ag (.wN underlying30 (by intro m h;cases h) (I D))<|uz 0 (I D) .nil (by exact⟨⟨⟨n,lV,nZ,rfl⟩,ae⟩,fun l B e=>by simp[ad.get]at e⟩)<|ar
  ·exact bR
  rfl
 have ae:b=true:=by simpa using aP
 exact bx<|⟨.inl D,(),ae,⟨_,(.nil),cM⟩,cI .nil⟩
theorem qg(b:Bool)(n:Int)(lV:e1 n)(nZ:n≠0):Ch prog 24 [bk b,aF .i64 n] b:=abT b n lV nZ
theorem abU(x:aR):dI (ι:=Unit) prog 57 [.d (.agg (cr x))] [] (fun _=>tt x=true) (fun _=>.bE []) (fun _=>[]) [] ((fun bc=>hp bc/\tt x=false)) []:=by
 refine hr [] func57 D D fun E K af=>?_
 refine aO (cV 1 D D D<|ar)<|aO (O 2 D<|lC (ds:=[av (mg x.kind),.v (.bool (n3 x.kind))]) (cf D) (Se x.kind) (au D)<|aN 5 D)<|aO (O 4 D<|cX D Aa (I D) D<|dP D bY D D D<|c6 D D (I D) D<|gQ D D D<|aN 1 D)<|?_
 apply jD (new:=[]) (ds:=[]) (cW:=[]) 26
 ·exact O 6 D<|dp D D<|cF [] D (.move (bH D))<|cX D Kq (I D) D<|dP D ry D D D<|cF [] D (.seq (bH D) (I D))<|cF [] D (.pick (bH D) (I D) (.bB D (by simp)))<|eg rfl rfl rfl<|O 1 rfl<|cX rfl Ab (I D) D<|dP D bY D D D<|c6 D D (I D) D<|eg D D D<|O 1 D<|dp D D<|cF [] D (.move (bH D))<|cX D Ab (I D) D<|dP D bY D D D<|c6 D D (I D) D<|cF [] D (.pick (bH D) (I D) (.bB D (by simp)))<|eg rfl rfl rfl<|ar
 ·exact bR
 ·rfl
 ·exact(cn D D)
 ·exact(au D)
 ·exact qg (tt x) 1 (by decide) (by decide)
 ·exact .nil
 ·intro q;rfl
 ·rfl
 ·exact .nil
 ·rfl
 ·exact fun bc h=>⟨h,fun l B e=>by simp[ad.get]at e⟩
 ·rfl
 ·rw[K,af];rfl
 intro _ hi
 apply ju
 ·exact .nil _
 ·exact bR
 exact⟨.inl D,(),hi,⟨_,(.nil),cM⟩,cI .nil⟩
theorem abV(x:aR):Ch prog 57 [.d (.agg (cr x))] (tt x):=abU x
theorem abW(g:FuncId)(c:aR->Bool)(oT:hS prog g=true)(aM:∀x:aR,x.b5->Ch prog g [.d (.agg (cr x))] (c x))(x:aR)(Y:x.b5)(aJ:∀y∈x.l,Ch prog 56 [.d (.agg (cr y)),.fn g []] (n4 c y)):dI (ι:=Unit) prog 56 [.d (.agg (cr x)),.fn g []] [] (fun _=>n4 c x=true) (fun _=>.bE []) (fun _=>[]) [] ((fun bc=>hp bc/\n4 c x=false)) []:=by
 refine hr [] func56 D D fun E K af=>?_
 refine aO (cV 2 D D D<|ar)<|al<|?_
 apply jD (new:=[]) (ds:=[]) (cW:=[]) 2
 ·exact O 2 D<|ar
 ·exact bR
 ·rfl
 ·exact zL (I D) (.cons (I D) .nil)
 ·exact oT
 ·exact aM x Y
 ·exact .nil
 ·intro q;rfl
 ·rfl
 ·exact .nil
 ·rfl
 ·exact fun bc h=>⟨⟨h.1,by rw[EV,h.2];rfl⟩,fun l B e=>by simp[ad.get]at e⟩
 ·rfl
 ·rw[K,af];rfl
 intro _ abX
 apply ju
 ·exact .nil _
 ·exact bR
 refine al<|?_
 have aV:=Y.len
 refine fS 4 D<|bX<|eP (σ:=Nat) [(ab 1,_),(ab 10,_),(ab 11,_)] (fun i=>[(ab 12,.aB (aF .i64 ((i:Int))))]) (fun i=>i<=x.l.length/\∀j,j<i->n4 c (x.l.getD j default)=true) (fun i=>x.l.length-i) 0 (aZ D<|aU) (ck D D<|aZ D<|aU) ⟨Nat.zero_le _,fun j az=>by omega⟩ fun i hi=>?_
 refine aL 1 D<|al<|a7 D (fun aP=>?_) fun aP=>?_
 ·have aG:i<x.l.length:=eJ aP
  have iL:=dJ aG
  refine bx<|al<|bX<|aO (ag ((eN iR D D).bK (iT aG))<|O 1 D<|cm 5 hn D<|cL dL D D D D<|ar)<|?_
  apply jD (new:=[]) (ds:=[]) (cW:=[]) 2
  ·exact O 2 D<|ar
  ·exact bR
  ·rfl
  ·exact(cn D D)
  ·exact(au D)
  ·exact aJ _ iL
  ·exact .nil
  ·intro q;rfl
  ·rfl
  ·exact .nil
  ·rfl
  ·exact fun bc h=>⟨⟨h.1,by rw[EV,EW];rw[Ay aG h.2,Bool.and_false]⟩,fun l B e=>by simp[ad.get]at e⟩
  ·rfl
  ·rw[K,af];rfl
  intro _ Sf
  apply ju
  ·exact .nil _
  ·exact bR
  exact bm (cp D D D<|aN 1 D)<|⟨i+1,⟨aG,fun j az=>by rcases Nat.lt_succ_iff_lt_or_eq.1 az with h|rfl<;>first|exact hi.2 j h|exact Sf⟩,by omega,aZ (ec (by omega))<|aU,ck D D<|aZ D<|aU⟩
 have eW:i=x.l.length:=by have:=dj aP;omega
 exact dW<|⟨.inl D,(),by rw[EV,abX,EW,Bool.true_and];exact Ci (Nat.le_of_eq eW.symm) fun j az _=>hi.2 j az,⟨_,(.nil),cM⟩,cI .nil⟩
theorem Sg(g:FuncId)(c:aR->Bool)(oT:hS prog g=true)(aM:∀x:aR,x.b5->Ch prog g [.d (.agg (cr x))] (c x)):∀x:aR,x.b5->Ch prog 56 [.d (.agg (cr x)),.fn g []] (n4 c x):=
 aR.ind fun x aJ Y=>abW g c oT aM x Y fun y ak=>aJ y ak (Y.part y ak)
theorem abY(p:aD)(Z:p.b5):dI (ι:=Unit) prog 18 [.d (fR p)] [] (fun _=>Cj p=true) (fun _=>.bE []) (fun _=>[]) [] ((fun bc=>hp bc/\Cj p=false)) []:=by
 refine hr [] func18 D D fun E K af=>?_
 refine al<|?_
 have aw:=Z.kJ
 refine bm (cV 1 D D D<|ar)<|aL 4 D<|bX<|eP (σ:=Nat) [(ab 5,_),(ab 6,_)] (fun i=>[(ab 7,.aB (aF .i64 ((i:Int))))]) (fun i=>i<=p.ah.length/\∀j,j<i->(fun s:eM=>xg s&&n4 tt s.x) (p.ah.getD j default)=true) (fun i=>p.ah.length-i) 0 (aZ D<|aU) (ck D D<|aU) ⟨Nat.zero_le _,fun j az=>by omega⟩ fun i hi=>?_
 refine aL 1 D<|al<|a7 D (fun aP=>?_) fun aP=>?_
 ·have aG:i<p.ah.length:=eJ aP
  have iL:=dJ aG
  refine bx<|al<|bX<|aO (bW qH D D<|O 1 D<|cm 3 nX D<|cL qI D D D D<|ar)<|al<|?_
  apply jD (new:=[]) (ds:=[]) (cW:=[]) 18
  ·exact O 4 D<|cX D BU (I D) D<|dP D bY D D D<|c6 D D (I D) D<|eg D D D<|O 1 D<|cX D BU (I D) D<|dP D bY D D D<|c6 D D (I D) D<|cF [] D (.move (bH D))<|cX D Kr (I D) D<|dP D ry D D D<|cF [] D (.seq (bH D) (I D))<|cF [] D (.pick (bH D) (I D) (.bB D (by simp)))<|eg rfl rfl rfl<|ar
  ·exact bR
  ·rfl
  ·exact(cn D D)
  ·exact(au D)
  ·exact qg (xg (p.ah.getD i default)) 1 (by decide) (by decide)
  ·exact .nil
  ·intro q;rfl
  ·rfl
  ·exact .nil
  ·rfl
  ·exact fun bc h=>⟨⟨h.1,Ay aG (by show(xg _&&n4 tt _)=false;rw[h.2];rfl)⟩,fun l B e=>by simp[ad.get]at e⟩
  ·rfl
  ·rw[K,af];rfl
  intro _ J
  apply ju
  ·exact .nil _
  ·exact bR
  apply jD (new:=[]) (ds:=[]) (cW:=[]) 2
  ·exact O 1 D<|cH [_] (.pT dL (I D) D fun _=>by exact cC D)<|ar
  ·exact bR
  ·rfl
  ·exact(cn D D)
  ·exact(au D)
  ·exact Sg 57 tt (au D) (fun x _=>abV x) (p.ah.getD i default).x (Z.ah _ iL).2.2
  ·exact .nil
  ·intro q;rfl
  ·rfl
  ·exact .nil
  ·rfl
  ·exact fun bc h=>⟨⟨h.1,Ay aG (by show(xg _&&n4 tt _)=false;rw[h.2,Bool.and_false])⟩,fun l B e=>by simp[ad.get]at e⟩
  ·rfl
  ·rw[K,af];rfl
  intro _ W
  apply ju
  ·exact .nil _
  ·exact bR
  exact bm (cp D D D<|aN 1 D)<|⟨i+1,⟨aG,fun j az=>by rcases Nat.lt_succ_iff_lt_or_eq.1 az with h|rfl<;>first|exact hi.2 j h|exact(by show(xg _&&n4 tt _)=true;rw[J,W];rfl)⟩,by omega,aZ (ec (by omega))<|aU,ck D D<|aU⟩
 have eW:i=p.ah.length:=by have:=dj aP;omega
 exact dW<|⟨.inl D,(),Ci (Nat.le_of_eq eW.symm) fun j az _=>hi.2 j az,⟨_,(.nil),cM⟩,cI .nil⟩
theorem abZ(x:bg)(k:Int)(l:List bg)(aa:x= .agg l):bw prog 58 [.d x,.ao 0 0] [(G 0,.U (.data [av k]))] (.bE []) [(G 0,.U (.data [av (eI (k+1))]))] [0]:=by
 subst aa
 refine cB [] func58 D D fun E K af=>?_
 exact aO (cV 2 D D D<|ar)<|bm (O 1 D<|ag (.u6 (I D) (I D) D)<|dZ bY D D D D D<|ar)<|⟨.inl D,⟨_,(.nil),rfl⟩,(cU (.cons D .nil))⟩
theorem ab0(x:aR)(Y:x.b5)(aJ:∀y∈x.l,∀k:Int,bw prog 56 [.d (.agg (cr y)),.fn 58 [.ao 0 0]] [(G 0,.U (.data [av k]))] (.bE []) [(G 0,.U (.data [av (eI (k+dY y))]))] [0])(k:Int):bw prog 56 [.d (.agg (cr x)),.fn 58 [.ao 0 0]] [(G 0,.U (.data [av k]))] (.bE []) [(G 0,.U (.data [av (eI (k+dY x))]))] [0]:=by
 refine cB [] func56 D D fun E K af=>?_
 refine aO (cV 2 D D D<|ar)<|aO (O 2 D<|ct [] [G 0] (lf D D) (abZ _ k _ D) (au D) (.cons D .nil) D D<|ar)<|al<|?_
 have aV:=Y.len
 refine fS 4 D<|bX<|pz (σ:=Nat) [(ab 1,_),(ab 10,_),(ab 11,_)] (fun i=>[(ab 12,.aB (aF .i64 ((i:Int)))),(G 0,.U (.data [av (eI (k+(1+jE (x.l.take i))))]))]) (fun i=>i<=x.l.length) (fun i=>x.l.length-i) 0 (eH (.s D (.b D (bl.dT D) (.nil)))) (ck D D<|aZ D<|aU) (Nat.zero_le _) fun i hi=>?_
 refine aL 1 D<|al<|a7 D (fun aP=>?_) fun aP=>?_
 ·have aG:i<x.l.length:=eJ aP
  have iL:=dJ aG
  exact bx<|al<|bX<|aO (ag ((eN iR D D).bK (iT aG))<|O 1 D<|cm 5 hn D<|cL dL D D D D<|ar)<|bm (O 2 D<|ct [] [G 0] (cn D D) (aJ _ iL _) (au D) (.cons D .nil) D D<|ar)<|bm (cp D D D<|aN 1 D)<|⟨i+1,aG,by omega,eH (.a D (by rw[show((i+1:Nat):Int)=(i:Int)+1 by omega];exact cM) (.b D (bl.dT (by rw[ZG,xf aG];congr 4;omega)) (.nil))),ck D D<|aZ D<|aU⟩
 have eW:i=x.l.length:=by have:=dj aP;omega
 exact dW<|⟨.inl D,⟨_,(.nil),rfl⟩,(cU (.cons (by rw[tr,eW,List.take_length];show some (dz.U (.data [av (eI (k+(1+_)))]))=some (dz.U (.data [av (eI (k+(_+1:Nat)))]));congr 6;omega) .nil))⟩
theorem ab1(l:List cA):∀c∈n5 l,c.fk=true:=by
 intro c aj
 simp only[n5,eb,List.not_mem_nil,or_false]at aj
 rcases aj with rfl|rfl|rfl
 ·simp[bz.fk];exact fun _ _=>rfl
 ·rfl
 ·rfl
theorem ab2:∀x:aR,x.b5->∀k:Int,bw prog 56 [.d (.agg (cr x)),.fn 58 [.ao 0 0]] [(G 0,.U (.data [av k]))] (.bE []) [(G 0,.U (.data [av (eI (k+dY x))]))] [0]:=
 aR.ind fun x aJ Y k=>ab0 x Y (fun y ak k=>aJ y ak (Y.part y ak) k) k
theorem LJ(n:Int):bw prog 63 [aF .i64 n] [] (bk (sr n)) [] []:=by
 refine cB [.tmp 2] func63 D D fun E K af=>?_
 exact aL 1 D<|aO (O 3 D<|dp D D<|c6 D D (I D) D<|eg D D D<|aN 1 D)<|bp<|dr D D
theorem ab3(n:Int):bw prog 65 [aF .i64 n] [] (bk (!sr n)) [] []:=by
 refine cB [.tmp 2] func65 D D fun E K af=>?_
 exact aL 1 D<|aO (O 1 D<|cY (cf D) (LJ n) (au D)<|aN 2 D)<|bp<|dr D D
theorem ab4(x:aR):dI (ι:=Unit) prog 66 [.d (.agg (cr x))] [] (fun _=>yG x=true) (fun _=>.bE []) (fun _=>[]) [] ((fun bc=>hp bc/\yG x=false)) []:=by
 refine hr [] func66 D D fun E K af=>?_
 refine aO (cV 1 D D D<|ar)<|?_
 apply jD (new:=[]) (ds:=[]) (cW:=[]) 13
 ·exact O 4 D<|cX D Aa (I D) D<|dP D bY D D D<|c6 D D (I D) D<|cF [] D (.move (bH D))<|cX D Ab (I D) D<|dP D bY D D D<|c6 D D (I D) D<|cF [] D (.pick (bH D) (I D) (.bB D (by simp)))<|eg rfl rfl rfl<|ar
 ·exact bR
 ·rfl
 ·exact(cn D D)
 ·exact(au D)
 ·exact qg (yG x) 161 (by decide) (by decide)
 ·exact .nil
 ·intro q;rfl
 ·rfl
 ·exact .nil
 ·rfl
 ·exact fun bc h=>⟨h,fun l B e=>by simp[ad.get]at e⟩
 ·rfl
 ·rw[K,af];rfl
 intro _ hi
 apply ju
 ·exact .nil _
 ·exact bR
 exact⟨.inl D,(),hi,⟨_,(.nil),cM⟩,cI .nil⟩
theorem ab5(l:List Int)(aa:l.length<=9223372036854775807)(g:FuncId)(cs:List ai)(c:Int->Bool)(oT:hS prog g=true)(aM:∀n,bw prog g (aF .i64 n::cs) [] (bk (c n)) [] []):bw prog 109 [.d (ch l),.fn g cs] [] (aF .i64 (Az c l)) [] []:=by
 refine cB [.tmp 4] func109 D D fun E K af=>?_
 refine aL 1 D<|al<|aL 3 D<|bX<|eP (σ:=Nat) [(ab 0,_),(ab 1,_),(ab 7,_)] (fun i=>[(ab 8,.aB (aF .i64 ((i:Int))))]) (fun i=>i<=l.length/\∀j,j<i->c (l.getD j default)=false) (fun i=>l.length-i) 0 (aZ D<|aU) (ck D D<|aZ D<|aU) ⟨Nat.zero_le _,fun j az=>by omega⟩ fun i hi=>?_
 refine aL 1 D<|al<|a7 D (fun aP=>?_) fun aP=>?_
 ·have aG:i<l.length:=eJ aP
  refine bx<|al<|bX<|aL 2 D<|aO (O 3 D<|bW fB D D<|O 1 D<|cY (lf D D) (aM (l.getD i default)) oT<|ar)<|a7 D (fun bq=>?_) fun bq=>?_
  ·refine aL 2 D<|bp<|dr D ?_
   show aF .i64 _=_;rw[ZJ aG bq hi.2];rfl
  exact bx<|bm (cp D D D<|aN 1 D)<|⟨i+1,⟨aG,fun j az=>by rcases Nat.lt_succ_iff_lt_or_eq.1 az with h|rfl<;>first|exact hi.2 j h|exact bq⟩,by omega,aZ (ec (by omega))<|aU,ck D D<|aZ D<|aU⟩
 have eW:i=l.length:=by have:=dj aP;omega
 refine dW<|aL 1 D<|bp<|dr D ?_
 show aF .i64 _=_;rw[ZK fun j az=>hi.2 j (by omega)];rfl
theorem CH(l:List Int)(aa:l.length<=9223372036854775807)(g:FuncId)(cs:List ai)(c:Int->Bool)(oT:hS prog g=true)(aM:∀n,bw prog g (aF .i64 n::cs) [] (bk (c n)) [] []):bw prog 64 [.d (ch l),.fn g cs] [] (bk (l.any c)) [] []:=by
 refine cB [.tmp 4] func64 D D fun E K af=>?_
 refine aL 1 D<|aO (O 2 D<|cY (cn D D) (ab5 l aa g cs c oT aM) (au D)<|aN 2 D)<|bp<|dr D ?_
 show bk _=_;rw[ZL];rfl
theorem ab6(n:Nat)(J:n<=1000000):bw prog 108 [k4,aF .i64 n] [] (.aQ 1 0) [(G 1,.U (.bG 3 0 (n5 [])))] []:=by
 refine cB [.tmp 4] func108 D D fun E K af=>?_
 refine aL 1 D<|al<|aL 2 D<|a7 D (fun aP=>?_) fun aP=>?_
 ·simp at aP;omega
 refine bx<|al<|aO (O 2 D<|ag (.OL D underlying24 (I D))<|O 2 D<|cp D D D<|cp D D D<|aN 1 D)<|aL 2 D<|a7 D (fun bq=>?_) fun bq=>?_
 ·have bb:0<n:=by simp at bq;omega
  refine bm (O 2 D<|ag (.OL D underlying24 (I D))<|ag (.WB Ej (I D) (.lv _) (.bK _ (I D) fun _=>by decide) D D)<|O 1 D<|bI.WE 1 [] Ek (fun e he=>by rw[underlying24]at he;cases he;exact uq) underlying3 D (by decide) (I D) (I D) (by omega) (by omega) (by omega) (cs:=s0 n [.string ⟨#[]⟩,.int .i64 0,.int .i64 0]) (by congr 1<;>omega) D<|O 2 D<|ag (.WN Ej (I D) (.bK _ (I D) fun _=>by decide) D)<|aN 1 D)<|al<|?_
  (refine c1 (b1.WQ (l:=1) (cs':=n5 []) D D (by simp[bz.len])) ?_)
  exact fS 2 D<|bp<|⟨.inr D,⟨_,(.cons (.tmp D) .nil),rfl⟩,cU (.cons D .nil)⟩
 refine bx<|al<|?_
 (refine c1 (b1.ve (t:=0) (l:=1) (n:=3) (cs:=n5 []) D D (by rw[K];simp) (by rw[af];exact cC D) D (by simp[bz.len])) ?_)
 exact fS 2 D<|bp<|⟨.inr D,⟨_,(.cons (.tmp D) .nil),rfl⟩,cU (.cons D .nil)⟩
theorem Sh(L:List (List cA))(gy:L.flatten.length<=1000000)(ajs:L.length<=1000):bw prog 62 [.d (.cK 1 L.length fun i=>[dN (L.getD i [])])] [] (.aQ 1 L.flatten.length) [(G 1,.U (.bG 3 L.flatten.length (n5 L.flatten)))] []:=by
 refine cB [.tmp 2] func62 D D fun E K af=>?_
 refine aL 1 D<|aL 1 D<|al<|aL 3 D<|bX<|eP (σ:=Nat) [(ab 0,_),(ab 9,_),(ab 10,_)] (fun i=>[(ab 3,.aB (aF .i64 ((L.take i).flatten.length))),(ab 11,.aB (aF .i64 (i)))]) (fun i=>i<=L.length) (fun i=>L.length-i) 0 (ck D D<|aU) (ck D D<|aZ D<|aU) (Nat.zero_le _) fun i hi=>?_
 refine aL 1 D<|al<|a7 D (fun aP=>?_) fun aP=>?_
 ·have aG:i<L.length:=by simp at aP;omega
  have H2:=Q0 aG
  have Fl:=Q1 L (i+1)
  have LK:(L.take (i+1)).flatten.length=(L.take i).flatten.length+(L.getD i []).length:=by rw[H2,ef]
  refine bx<|al<|bX<|aO (bW Pn D D<|ag (.fG p2 (I D) (r:=dN (L.getD i [])) D)<|aN 1 D)<|aO (O 3 D<|cp D D D<|aN 1 D)<|aL 2 D<|a7 D (fun bq=>?_) fun bq=>?_
  ·simp at bq;omega
  exact bx<|bm (cp D D D<|aN 1 D)<|⟨i+1,(by omega),by omega,aZ (ec (by omega))<|aZ (ec (by omega))<|aU,ck D D<|aZ D<|aU⟩
 have mK:i=L.length:=by simp at aP;omega
 subst mK
 rw[List.take_length]
 refine dW<|aO (O 1 D<|ct [1] [] (cn D D) (ab6 L.flatten.length gy) (au D) .nil D D<|aN 1 D)<|al<|aL 3 D<|bX<|eP (σ:=Nat) [(ab 25,_),(ab 26,_)] (fun i=>[(ab 27,.aB (aF .i64 (i))),(ab 6,.aB (.aQ 1 (L.take i).flatten.length)),(G 1,.U (.bG 3 (L.take i).flatten.length (n5 (L.take i).flatten)))]) (fun i=>i<=L.length) (fun i=>L.length-i) 0 (ck D D<|aZ D<|aU) (ck D D<|aU) (Nat.zero_le _) fun i hi=>?_
 refine aL 1 D<|al<|a7 D (fun b3=>?_) fun b3=>?_
 ·have aG:i<L.length:=by simp at b3;omega
  have H2:=Q0 aG
  have Fl:=Q1 L (i+1)
  have LK:(L.take (i+1)).flatten.length=(L.take i).flatten.length+(L.getD i []).length:=by rw[H2,ef]
  exact bx<|al<|bX<|aO (bW Pn D D<|ag (.fG p2 (I D) (r:=dN (L.getD i [])) D)<|aN 1 D)<|bm (O 2 D<|hA 1 [ab 6,ab 31] Ek GW (by decide) (.aQ (I D) D) (.cK (cs:=n5 (L.getD i [])) (I D) D (ZI _) fun j az=>(Lh _ j az).symm) (ab1 _) (hB D) (by omega) (by omega) (cs:=n5 ((L.take i).flatten++L.getD i [])) (QZ _ _) D<|aN 1 D)<|bm (cp D D D<|aN 1 D)<|⟨i+1,(by omega),by omega,aZ (ec (by omega))<|aZ (by rw[LK];rfl)<|aZ (by rw[LK,H2];rfl)<|aU,ck D D<|aU⟩
 have mK:i=L.length:=by simp at b3;omega
 subst mK
 rw[List.take_length]
 exact dW<|aL 2 D<|bp<|⟨.inr D,⟨_,(.cons (.tmp D) .nil),rfl⟩,cU (.cons D .nil)⟩
theorem ab7(p:aD)(Z:p.b5):dI (ι:=Unit) prog 19 [.d (fR p)] [] (fun _=>xe p=true) (fun _=>.bE []) (fun _=>[]) [] ((fun bc=>hp bc/\xe p=false)) []:=by
 refine hr [] func19 D D fun E K af=>?_
 refine al<|?_
 obtain⟨_,_,lg,dy,eC,hf,tD,_,_,_,_,cy⟩:=Z
 refine bm (cV 1 D D D<|ar)<|aO (O 12 D<|ag (.QT (I D) (I D) (I D) (I D))<|aN 1 D)<|aO (O 3 D<|cX D z7 (I D) D<|dP D vo D D D<|cF [] D (.len D underlying27 (bH D) D)<|c6 D D (I D) D<|eg D D D<|O 1 D<|cX D BO (I D) D<|dP D bY D D D<|c6 D D (I D) D<|eg D D D<|O 1 D<|cX D BO (I D) D<|dP D bY D D D<|c6 D D (I D) D<|eg D D D<|O 1 D<|cX D BP (I D) D<|dP D bY D D D<|c6 D D (I D) D<|eg D D D<|O 1 D<|cX D BP (I D) D<|dP D bY D D D<|c6 D D (I D) D<|eg D D D<|aN 1 D)<|al<|aL 4 D<|bX<|eP (σ:=Nat) [(ab 1,_),(ab 53,_),(ab 54,_),(G 1,_)] (fun i=>[(ab 55,.aB (aF .i64 ((i:Int)))),(ab 3,.aB (bk (HA p&&(p.a1.take i).all Hz)))]) (fun i=>i<=p.a1.length) (fun i=>p.a1.length-i) 0 (aZ D<|aZ (by rw[List.take_zero,List.all_nil,Bool.and_true];rfl)<|aU) (da D D D D<|aU) (Nat.zero_le _) fun i hi=>?_
 refine aL 1 D<|al<|a7 D (fun aP=>?_) fun aP=>?_
 ·have aG:i<p.a1.length:=eJ aP
  exact bx<|al<|bX<|aO (bW nV D D<|O 1 D<|cm 5 vp D<|cL wU D D D D<|ar)<|bm (O 2 D<|cX D G0 (I D) D<|dP D bY D D D<|c6 D D (I D) D<|eg D D D<|O 1 D<|cX D G0 (I D) D<|dP D bY D D D<|c6 D D (I D) D<|eg D D D<|aN 1 D)<|bm (cp D D D<|aN 1 D)<|⟨i+1,(by omega),by omega,aZ (ec (by omega))<|aZ (by rw[Lg aG,<-Bool.and_assoc];exact QY _ _ _)<|aU,da D D D D<|aU⟩
 have eW:p.a1.length<=i:=by have:=dj aP;omega
 rw[List.take_of_length_le eW]
 refine dW<|al<|aL 4 D<|bX<|eP (σ:=Nat) [(ab 1,_),(ab 72,_),(ab 73,_),(G 1,_)] (fun i=>[(ab 74,.aB (aF .i64 ((i:Int)))),(ab 3,.aB (bk (HA p&&p.a1.all Hz&&(p.bM.take i).all Le)))]) (fun i=>i<=p.bM.length) (fun i=>p.bM.length-i) 0 (aZ D<|aZ (by rw[List.take_zero,List.all_nil,Bool.and_true];rfl)<|aU) (da D D D D<|aU) (Nat.zero_le _) fun i hi=>?_
 refine aL 1 D<|al<|a7 D (fun bq=>?_) fun bq=>?_
 ·have aG:i<p.bM.length:=eJ bq
  exact bx<|al<|bX<|aO (bW wS D D<|O 1 D<|cm 7 wV D<|cL Ad D D D D<|ar)<|bm (O 2 D<|cX D G1 (I D) D<|dP D km D D D<|cF [] D (.len D underlying22 (bH D) D)<|c6 D D (I D) D<|eg D D D<|O 1 D<|cX D G1 (I D) D<|dP D km D D D<|cF [] D (.len D underlying22 (bH D) D)<|c6 D D (I D) D<|eg D D D<|aN 1 D)<|bm (cp D D D<|aN 1 D)<|⟨i+1,(by omega),by omega,aZ (ec (by omega))<|aZ (by rw[Lg aG,<-Bool.and_assoc];exact QY _ _ _)<|aU,da D D D D<|aU⟩
 have eW:p.bM.length<=i:=by have:=dj bq;omega
 rw[List.take_of_length_le eW]
 refine dW<|al<|aL 4 D<|bX<|eP (σ:=Nat) [(ab 93,_),(ab 94,_),(G 1,_)] (fun i=>[(ab 95,.aB (aF .i64 ((i:Int)))),(ab 3,.aB (bk (HA p&&p.a1.all Hz&&p.bM.all Le&&(p.ah.take i).all QX)))]) (fun i=>i<=p.ah.length) (fun i=>p.ah.length-i) 0 (aZ D<|aZ (by rw[List.take_zero,List.all_nil,Bool.and_true];rfl)<|aU) (ck D D<|aZ D<|aU) (Nat.zero_le _) fun i hi=>?_
 refine aL 1 D<|al<|a7 D (fun b3=>?_) fun b3=>?_
 ·have aG:i<p.ah.length:=eJ b3
  have Y:=(cy _ (dJ aG)).2.2
  exact bx<|al<|bX<|aO (bW qH D D<|O 1 D<|cm 9 nX D<|cL qI D D D D<|ar)<|aO (cm 10 iC D<|dZ bY D D D D D<|ar)<|aO (O 1 D<|cH [_] (.pT dL (I D) D fun _=>by exact cC D)<|ag (.mG (.cons (I D) .nil))<|ct [] [G 10] (cn D D) ((ab2 _ Y 0).Kf 0 10 D D D D D D D) (au D) (.cons D .nil) D D<|ar)<|bm (O 2 D<|cF [_] D (.h2 bY (I D) D D)<|c6 D D (I D) D<|eg D D D<|aN 1 D)<|bm (cp D D D<|aN 1 D)<|⟨i+1,(by omega),by omega,aZ (ec (by omega))<|aZ (by rw[Lg aG,<-Bool.and_assoc];exact ZH _ _)<|aU,ck D D<|aZ D<|aU⟩
 have eW:p.ah.length<=i:=by have:=dj b3;omega
 rw[List.take_of_length_le eW]
 refine dW<|?_
 apply jD (new:=[]) (ds:=[]) (cW:=[]) 1
 ·exact O 1 D<|ar
 ·exact bR
 ·rfl
 ·exact(cn D D)
 ·exact(au D)
 ·exact qg (xe p) 2 (by decide) (by decide)
 ·exact .nil
 ·intro q;rfl
 ·rfl
 ·exact .nil
 ·rfl
 ·exact fun bc h=>⟨h,fun l B e=>by simp[ad.get]at e⟩
 ·rfl
 ·rw[K,af];rfl
 intro _ hi
 apply ju
 ·exact .nil _
 ·exact bR
 exact⟨.inl D,(),hi,⟨_,(.nil),cM⟩,cI .nil⟩
theorem ab8(p:aD)(Z:p.b5):dI (ι:=Unit) prog 21 [.d (fR p)] [] (fun _=>ss p=true) (fun _=>.bE []) (fun _=>[]) [] ((fun bc=>hp bc/\ss p=false)) []:=by
 refine hr [] func21 D D fun E K af=>?_
 refine al<|?_
 obtain⟨_,_,lg,dy,eC,hf,tD,_,_,_,LL,cy⟩:=Z
 refine bm (cV 11 D D D<|ar)<|aO (O 4 D<|j4 (g:=fun i=>[dN ([p.params,p.bt].getD i [])]) Po OS D (by decide) (by decide) (ba D D D (ba D D D (.nil _ _))) D (fun i hi=>by rcases(by omega:i=0\/i=1)with rfl|rfl<;>rfl)<|ct [1] [] (cf D) (Sh [p.params,p.bt] (by simp;omega) (by simp)) (au D) .nil D D<|aN 1 D)<|al<|aL 4 D<|bX<|pz (σ:=Nat) [(ab 1,_),(ab 18,_),(ab 19,_),(G 11,_)] (fun i=>[(ab 20,.aB (aF .i64 ((i:Int)))),(ab 2,.aB (.aQ 1 (p.params++p.bt++(p.a1.take i).map oL).length)),(G 1,.U (.bG 3 (p.params++p.bt++(p.a1.take i).map oL).length (n5 (p.params++p.bt++(p.a1.take i).map oL))))]) (fun i=>i<=p.a1.length) (fun i=>p.a1.length-i) 0 (eH (.s D (.a D (by rw[show[p.params,p.bt].flatten=p.params++p.bt++(p.a1.take 0).map oL by simp];exact cM) (.b D (bl.dT (by rw[show[p.params,p.bt].flatten=p.params++p.bt++(p.a1.take 0).map oL by simp])) (.nil))))) (da D D D D<|aU) (Nat.zero_le _) fun i hi=>?_
 refine aL 1 D<|al<|a7 D (fun aP=>?_) fun aP=>?_
 ·have aG:i<p.a1.length:=eJ aP
  refine bx<|al<|bX<|aO (bW nV D D<|O 1 D<|cm 4 vp D<|cL wU D D D D<|ar)<|gI 1 41 D<|?_
  have sZ:(p.params++p.bt++(p.a1.take i).map oL).length<=300000:=by simp;omega
  exact bm (O 5 D<|ag (.build uq X8 (ba D D D (ba D D D (.nil _ _))) D)<|gN 30 [] Ej uq D (by decide) (by decide) (ba D D D (.nil _ _)) D D D<|hA 1 [G 41] Ek GW (by decide) (.aQ (I D) D) (.aQ (I D) D) (bz.hT D) (hB D) (by omega) (by omega) (cs:=n5 (p.params++p.bt++(p.a1.take i).map oL++[oL (p.a1.getD i default)])) (QZ _ [oL (p.a1.getD i default)]) D<|aN 1 D)<|bm (cp D D D<|aN 1 D)<|⟨i+1,aG,by omega,eH (.a D (by rw[show((i+1:Nat):Int)=(i:Int)+1 by omega];exact cM) (.a D (by rw[uD aG,List.map_append,<-List.append_assoc,ef (bs:=List.map oL [_])];exact cM) (.b D (bl.dT (by rw[uD aG,List.map_append,<-List.append_assoc,ef (bs:=List.map oL [_])];rfl)) (.nil)))),da D D D D<|aU⟩
 have eW:p.a1.length<=i:=by have:=dj aP;omega
 rw[List.take_of_length_le eW]
 refine dW<|al<|al<|c1 (b1.tb (t:=2) (l:=1) (n:=3) (g:=fun j=>tq ((p.params++p.bt++p.a1.map oL).getD j default)) D D fun j az=>Lh _ j az)<|?_
 have sZ:(p.params++p.bt++p.a1.map oL).length<=300000:=by simp;omega
 generalize Si:p.params++p.bt++p.a1.map oL=bs at sZ⊢
 refine fS 3 D<|bX<|eP (σ:=Nat) [(ab 1,_),(ab 33,_),(ab 34,_),(G 11,_)] (fun i=>[(ab 35,.aB (aF .i64 ((i:Int))))]) (fun i=>i<=bs.length/\∀j,j<i->yF (bs.getD j default)=true) (fun i=>bs.length-i) 0 (aZ D<|aU) (da D D D D<|aU) ⟨Nat.zero_le _,fun j az=>by omega⟩ fun i hi=>?_
 refine aL 1 D<|al<|a7 D (fun bq=>?_) fun bq=>?_
 ·have aG:i<bs.length:=eJ bq
  refine bx<|al<|bX<|aO (bW lE D D<|O 1 D<|cm 6 uq D<|cL yq D D D D<|ar)<|?_
  apply jD (new:=[]) (ds:=[]) (cW:=[]) 15
  ·exact O 2 D<|cY (cf D) (LJ _) (au D)<|O 1 D<|cX D G2 (I D) D<|dP D bY D D D<|na D (jr (.cons (bH D) .nil)) (fun h=>LJ _) (au D)<|eg D D D<|O 1 D<|cX D O9 (I D) D<|dP D bY D D D<|cX D G2 (I D) D<|dP D bY D D D<|c6 D D (bH D) D<|eg D D D<|ar
  ·exact bR
  ·rfl
  ·exact(cn D D)
  ·exact(au D)
  ·exact qg (yF (bs.getD i default)) 161 (by decide) (by decide)
  ·exact .nil
  ·intro q;rfl
  ·rfl
  ·exact .nil
  ·rfl
  ·exact fun bc h=>⟨⟨h.1,by unfold ss;rw[Si,Ay aG h.2];rfl⟩,fun l B e=>by simp[ad.get]at e⟩
  ·rfl
  ·rw[K,af];rfl
  intro _ l8
  apply ju
  ·exact .nil _
  ·exact bR
  exact bm (cp D D D<|aN 1 D)<|⟨i+1,⟨aG,fun j az=>by rcases Nat.lt_succ_iff_lt_or_eq.1 az with h|rfl<;>first|exact hi.2 j h|exact l8⟩,by omega,aZ (ec (by omega))<|aU,da D D D D<|aU⟩
 have J:(p.params++p.bt++p.a1.map oL).all yF=true:=by rw[Si];exact Ci (by have:=dj bq;omega) fun j az _=>hi.2 j az
 refine dW<|al<|aL 4 D<|bX<|eP (σ:=Nat) [(ab 1,_),(ab 57,_),(ab 58,_),(G 11,_)] (fun i=>[(ab 59,.aB (aF .i64 ((i:Int))))]) (fun i=>i<=p.bM.length/\∀j,j<i->Ck (p.bM.getD j default)=true) (fun i=>p.bM.length-i) 0 (aZ D<|aU) (da D D D D<|aU) ⟨Nat.zero_le _,fun j az=>by omega⟩ fun i hi=>?_
 refine aL 1 D<|al<|a7 D (fun b3=>?_) fun b3=>?_
 ·have aG:i<p.bM.length:=eJ b3
  have Fl:=(LL _ (dJ aG)).1
  refine bx<|al<|bX<|aO (bW wS D D<|O 1 D<|cm 8 wV D<|cL Ad D D D D<|ar)<|?_
  apply jD (new:=[]) (ds:=[]) (cW:=[]) 4
  ·exact O 2 D<|cY (cn D D) (CH (p.bM.getD i default).dU (by omega) 65 [] (fun n=> !sr n) (au D) fun n=>ab3 n) (au D)<|aN 1 D
  ·exact bR
  ·rfl
  ·exact(cn D D)
  ·exact(au D)
  ·exact qg (Ck (p.bM.getD i default)) 161 (by decide) (by decide)
  ·exact .nil
  ·intro q;rfl
  ·rfl
  ·exact .nil
  ·rfl
  ·exact fun bc h=>⟨⟨h.1,by unfold ss;rw[Ay aG h.2,Bool.and_false];rfl⟩,fun l B e=>by simp[ad.get]at e⟩
  ·rfl
  ·rw[K,af];rfl
  intro _ l8
  apply ju
  ·exact .nil _
  ·exact bR
  exact bm (cp D D D<|aN 1 D)<|⟨i+1,⟨aG,fun j az=>by rcases Nat.lt_succ_iff_lt_or_eq.1 az with h|rfl<;>first|exact hi.2 j h|exact l8⟩,by omega,aZ (ec (by omega))<|aU,da D D D D<|aU⟩
 have W:p.bM.all Ck=true:=Ci (by have:=dj b3;omega) fun j az _=>hi.2 j az
 refine dW<|aL 4 D<|bX<|eP (σ:=Nat) [(ab 70,_),(ab 71,_)] (fun i=>[(ab 72,.aB (aF .i64 ((i:Int))))]) (fun i=>i<=p.ah.length/\∀j,j<i->(fun s:eM=>n4 yG s.x) (p.ah.getD j default)=true) (fun i=>p.ah.length-i) 0 (aZ D<|aU) (ck D D<|aU) ⟨Nat.zero_le _,fun j az=>by omega⟩ fun i hi=>?_
 refine aL 1 D<|al<|a7 D (fun et=>?_) fun et=>?_
 ·have aG:i<p.ah.length:=eJ et
  have Y:=(cy _ (dJ aG)).2.2
  refine bx<|al<|bX<|aO (bW qH D D<|O 1 D<|cm 10 nX D<|cL qI D D D D<|ar)<|?_
  apply jD (new:=[]) (ds:=[]) (cW:=[]) 2
  ·exact O 1 D<|cH [_] (.pT dL (I D) D fun _=>by exact cC D)<|ar
  ·exact bR
  ·rfl
  ·exact(cn D D)
  ·exact(au D)
  ·exact Sg 66 yG (au D) (fun x _=>ab4 x) (p.ah.getD i default).x Y
  ·exact .nil
  ·intro q;rfl
  ·rfl
  ·exact .nil
  ·rfl
  ·exact fun bc h=>⟨⟨h.1,by unfold ss;rw[Ay aG h.2,Bool.and_false]⟩,fun l B e=>by simp[ad.get]at e⟩
  ·rfl
  ·rw[K,af];rfl
  intro _ l8
  apply ju
  ·exact .nil _
  ·exact bR
  exact bm (cp D D D<|aN 1 D)<|⟨i+1,⟨aG,fun j az=>by rcases Nat.lt_succ_iff_lt_or_eq.1 az with h|rfl<;>first|exact hi.2 j h|exact l8⟩,by omega,aZ (ec (by omega))<|aU,ck D D<|aU⟩
 have aH:p.ah.all (fun s:eM=>n4 yG s.x)=true:=Ci (by have:=dj et;omega) fun j az _=>hi.2 j az
 exact dW<|⟨.inl D,(),by unfold ss;rw[J,W,aH];rfl,⟨_,(.nil),cM⟩,cI .nil⟩
def CI(s:ByteArray):Bool:=bif uN s then !Lib.contains Q3.data.toList (⟨#[32]⟩++s++⟨#[32]⟩:ByteArray).data.toList else false
def uE(p:aD):Bool:=(p.name::(gV p).map Prod.fst).all CI&&EX (gV p)
theorem AP:rC prog 60 hD (jw default):=As underlying60 (K6 underlying9) (by kernel_rfl) fun M=>K7 [.int .i64 0,.int .i64 0,.int .i64 0]
theorem Sj{s:ByteArray}(h:uN s=true):s.size<=32:=by
 unfold uN Ff at h
 by_cases J:(32:Int)<s.size
 ·simp[J]at h
 ·omega
theorem ab9(l:List gj):∀c∈p9 l,c.fk=true:=by
 intro c aj
 simp only[p9,eb,List.not_mem_nil,or_false]at aj
 subst aj
 simp[bz.fk];exact fun _ _ _=>rfl
theorem Sk(s:ByteArray)(l:List gj):(s::l.map Prod.fst).all CI=(((s,default):gj)::l).all (fun d=>CI d.1):=by simp[Function.comp_def]
theorem aca{l:List gj}{i:Nat}{x:pA}(hi:i<l.length)(aM:cb (l.take i) (l.getD i default).1=some x):EX l=false:=by
 unfold EX
 exact List.all_eq_false.2 ⟨i,List.mem_range.2 hi,by rw[aM];simp⟩
theorem Fm(l:List gj)(aa:l.length<=1000000)(s:ByteArray)(k i f:Int):bw prog 59 [.ao 3 0,jm s,aF .i64 k,aF .i64 i,aF .i64 f] (oM l) (.bE []) (oM (l++[(s,⟨k,i,f⟩)])) [3]:=by
 refine cB [] func59 D D fun E K af=>?_
 refine gI 51 61 D<|gI 52 62 D<|?_
 apply xZ mixed
 ·apply O 7 D
  apply gN 17 [] mJ mI D (by decide) (by decide) (ba D D D (.nil _ _)) D D D
  apply hA 51 [G 61] Pc Pd (by decide) (.aQ (I D) D) (.aQ (I D) D) (bz.hT D) (hB D) (by omega) (by omega) (cs:=p9 (l++[(s,⟨k,i,f⟩)])) (ZM l s ⟨k,i,f⟩) D
  apply O 6 D
  apply ag (.build Xc X2 (ba D D D (ba D D D (.nil _ _))) D)
  apply O 1 D
  apply ag (.build yp X3 (ba D D D (ba D D D (.nil _ _))) D)
  apply gN 28 [] Xw yp D (by decide) (by decide) (ba D D D (.nil _ _)) D D D
  apply hA 52 [G 62] Xx Xy (by decide) (.aQ (I D) D) (.aQ (I D) D) (bz.hT D) (hB D) (by omega) (by omega) (cs:=su (l++[(s,⟨k,i,f⟩)])) (ZN l s ⟨k,i,f⟩) D
  exact O 2 D<|iG Xt D D D D D<|O 2 D<|iG Xu D D D D D<|ar
 ·rfl
 ·exact bR
 exact⟨.inl D,⟨_,(.nil),rfl⟩,cU (.cons (by rw[ef];rfl) (.cons (by rw[ef];rfl) (.cons (by rw[ef];rfl) .nil)))⟩
theorem acb(p:aD)(Z:p.b5):dI (ι:=Unit) prog 20 [.d (fR p)] [] (fun _=>uE p=true) (fun _=>.mp 70) (fun _=>[(G 70,.U (hE hD jw (gV p)))]) [] ((fun bc=>hp bc/\uE p=false)) []:=by
 refine hr [.tmp 2] func20 D D fun E K af=>?_
 refine aO (cV 1 D D D<|aN 1 D)<|aO (cm 3 Xz D<|ar)<|al<|al<|iE (ι:=Unit) (l:=3) (Φ:=fun _=>True) (B':=fun _=>.cells [k4,k4]) D (fun V M w h=>⟨(),trivial,h⟩) fun _ _=>?_
 refine c1 (b1.nd (lb:=3) (j:=0) (l:=51) (n:=1) (fq:=p9 []) D D D D (by rw[K];simp) rfl (by simp[bz.len]) rfl)<|c1 (b1.nd (lb:=3) (j:=1) (l:=52) (n:=3) (fq:=su []) D D D D (by rw[K];simp) rfl (by simp[bz.len]) rfl)<|?_
 obtain⟨_,_,lg,dy,eC,hf,tD,_,_,_,_,_⟩:=Z
 refine fS 4 D<|bX<|pz (σ:=Nat) [(ab 1,_),(ab 3,_),(ab 22,_),(ab 23,_),(G 1,_)] (fun i=>[(ab 24,.aB (aF .i64 ((i:Int)))),(G 3,.U (.cells [.aQ 51 (b7 3 cA.name p.params i).length,.aQ 52 (b7 3 cA.name p.params i).length])),(G 51,.U (.bG 1 (b7 3 cA.name p.params i).length (p9 (b7 3 cA.name p.params i)))),(G 52,.U (.bG 3 (b7 3 cA.name p.params i).length (su (b7 3 cA.name p.params i))))]) (fun i=>i<=p.params.length) (fun i=>p.params.length-i) 0 (eH (.s D (.b D (bl.dT D) (.b D (bl.dT D) (.b D (bl.dT D) (.nil)))))) (da D D D D<|aZ D<|aU) (Nat.zero_le _) fun i hi=>?_
 refine aL 1 D<|al<|a7 D (fun aP=>?_) fun aP=>?_
 ·have aG:i<p.params.length:=eJ aP
  exact bx<|al<|bX<|aO (O 1 D<|bW lE D D<|O 1 D<|cm 5 uq D<|O 1 D<|cL yq D D D D<|ar)<|bm (O 3 D<|ct [51,52] [G 3,G 51,G 52] (vK D D D D D) (Fm (b7 3 cA.name p.params i) (by simp only[ef,Cl];omega) ((p.params.getD i default).name) (3) (i) (0)) (au D) (.eC D D D) D D<|ar)<|bm (cp D D D<|aN 1 D)<|⟨i+1,aG,by omega,eH (.a D (by rw[show((i+1:Nat):Int)=(i:Int)+1 by omega];exact cM) (.b D (bl.dT (by rw[tu])) (.b D (bl.dT (by rw[tu])) (.b D (bl.dT (by rw[tu])) (.nil))))),da D D D D<|aZ D<|aU⟩
 have eW:i=p.params.length:=by have:=dj aP;omega
 subst eW
 refine dW<|al<|aL 4 D<|bX<|pz (σ:=Nat) [(ab 1,_),(ab 3,_),(ab 35,_),(ab 36,_),(G 1,_)] (fun i=>[(ab 37,.aB (aF .i64 ((i:Int)))),(G 3,.U (.cells [.aQ 51 ((b7 3 cA.name p.params p.params.length)++b7 4 cA.name p.bt i).length,.aQ 52 ((b7 3 cA.name p.params p.params.length)++b7 4 cA.name p.bt i).length])),(G 51,.U (.bG 1 ((b7 3 cA.name p.params p.params.length)++b7 4 cA.name p.bt i).length (p9 ((b7 3 cA.name p.params p.params.length)++b7 4 cA.name p.bt i)))),(G 52,.U (.bG 3 ((b7 3 cA.name p.params p.params.length)++b7 4 cA.name p.bt i).length (su ((b7 3 cA.name p.params p.params.length)++b7 4 cA.name p.bt i))))]) (fun i=>i<=p.bt.length) (fun i=>p.bt.length-i) 0 (eH (.s D (.b D (bl.dT (by rw[show(b7 3 cA.name p.params p.params.length)++b7 4 cA.name p.bt 0=(b7 3 cA.name p.params p.params.length)from List.append_nil _])) (.b D (bl.dT (by rw[show(b7 3 cA.name p.params p.params.length)++b7 4 cA.name p.bt 0=(b7 3 cA.name p.params p.params.length)from List.append_nil _])) (.b D (bl.dT (by rw[show(b7 3 cA.name p.params p.params.length)++b7 4 cA.name p.bt 0=(b7 3 cA.name p.params p.params.length)from List.append_nil _])) (.nil)))))) (da D D D D<|aZ D<|aU) (Nat.zero_le _) fun i hi=>?_
 refine aL 1 D<|al<|a7 D (fun bq=>?_) fun bq=>?_
 ·have aG:i<p.bt.length:=eJ bq
  exact bx<|al<|bX<|aO (O 1 D<|bW lE D D<|O 1 D<|cm 7 uq D<|O 1 D<|cL yq D D D D<|ar)<|bm (O 3 D<|ct [51,52] [G 3,G 51,G 52] (vK D D D D D) (Fm ((b7 3 cA.name p.params p.params.length)++b7 4 cA.name p.bt i) (by simp only[ef,Cl];omega) ((p.bt.getD i default).name) (4) (i) (0)) (au D) (.eC D D D) D D<|ar)<|bm (cp D D D<|aN 1 D)<|⟨i+1,aG,by omega,eH (.a D (by rw[show((i+1:Nat):Int)=(i:Int)+1 by omega];exact cM) (.b D (bl.dT (by rw[tu,<-List.append_assoc])) (.b D (bl.dT (by rw[tu,<-List.append_assoc])) (.b D (bl.dT (by rw[tu,<-List.append_assoc])) (.nil))))),da D D D D<|aZ D<|aU⟩
 have eW:i=p.bt.length:=by have:=dj bq;omega
 subst eW
 refine dW<|al<|aL 4 D<|bX<|pz (σ:=Nat) [(ab 1,_),(ab 3,_),(ab 48,_),(ab 49,_),(G 1,_)] (fun i=>[(ab 50,.aB (aF .i64 ((i:Int)))),(G 3,.U (.cells [.aQ 51 ((b7 3 cA.name p.params p.params.length)++b7 4 cA.name p.bt p.bt.length++b7 8 fQ.name p.a1 i).length,.aQ 52 ((b7 3 cA.name p.params p.params.length)++b7 4 cA.name p.bt p.bt.length++b7 8 fQ.name p.a1 i).length])),(G 51,.U (.bG 1 ((b7 3 cA.name p.params p.params.length)++b7 4 cA.name p.bt p.bt.length++b7 8 fQ.name p.a1 i).length (p9 ((b7 3 cA.name p.params p.params.length)++b7 4 cA.name p.bt p.bt.length++b7 8 fQ.name p.a1 i)))),(G 52,.U (.bG 3 ((b7 3 cA.name p.params p.params.length)++b7 4 cA.name p.bt p.bt.length++b7 8 fQ.name p.a1 i).length (su ((b7 3 cA.name p.params p.params.length)++b7 4 cA.name p.bt p.bt.length++b7 8 fQ.name p.a1 i))))]) (fun i=>i<=p.a1.length) (fun i=>p.a1.length-i) 0 (eH (.s D (.b D (bl.dT (by rw[show(b7 3 cA.name p.params p.params.length)++b7 4 cA.name p.bt p.bt.length++b7 8 fQ.name p.a1 0=(b7 3 cA.name p.params p.params.length)++b7 4 cA.name p.bt p.bt.length from List.append_nil _])) (.b D (bl.dT (by rw[show(b7 3 cA.name p.params p.params.length)++b7 4 cA.name p.bt p.bt.length++b7 8 fQ.name p.a1 0=(b7 3 cA.name p.params p.params.length)++b7 4 cA.name p.bt p.bt.length from List.append_nil _])) (.b D (bl.dT (by rw[show(b7 3 cA.name p.params p.params.length)++b7 4 cA.name p.bt p.bt.length++b7 8 fQ.name p.a1 0=(b7 3 cA.name p.params p.params.length)++b7 4 cA.name p.bt p.bt.length from List.append_nil _])) (.nil)))))) (da D D D D<|aZ D<|aU) (Nat.zero_le _) fun i hi=>?_
 refine aL 1 D<|al<|a7 D (fun b3=>?_) fun b3=>?_
 ·have aG:i<p.a1.length:=eJ b3
  exact bx<|al<|bX<|aO (O 1 D<|bW nV D D<|O 1 D<|cm 9 vp D<|O 1 D<|cL wU D D D D<|ar)<|bm (O 3 D<|ct [51,52] [G 3,G 51,G 52] (vK D D D D D) (Fm ((b7 3 cA.name p.params p.params.length)++b7 4 cA.name p.bt p.bt.length++b7 8 fQ.name p.a1 i) (by simp only[ef,Cl];omega) ((p.a1.getD i default).name) (8) (i) (0)) (au D) (.eC D D D) D D<|ar)<|bm (cp D D D<|aN 1 D)<|⟨i+1,aG,by omega,eH (.a D (by rw[show((i+1:Nat):Int)=(i:Int)+1 by omega];exact cM) (.b D (bl.dT (by rw[tu,<-List.append_assoc])) (.b D (bl.dT (by rw[tu,<-List.append_assoc])) (.b D (bl.dT (by rw[tu,<-List.append_assoc])) (.nil))))),da D D D D<|aZ D<|aU⟩
 have eW:i=p.a1.length:=by have:=dj b3;omega
 subst eW
 refine dW<|al<|aL 4 D<|bX<|pz (σ:=Nat) [(ab 1,_),(ab 3,_),(ab 61,_),(ab 62,_),(G 1,_)] (fun i=>[(ab 63,.aB (aF .i64 ((i:Int)))),(G 3,.U (.cells [.aQ 51 ((b7 3 cA.name p.params p.params.length)++b7 4 cA.name p.bt p.bt.length++b7 8 fQ.name p.a1 p.a1.length++b7 9 e2.name p.bM i).length,.aQ 52 ((b7 3 cA.name p.params p.params.length)++b7 4 cA.name p.bt p.bt.length++b7 8 fQ.name p.a1 p.a1.length++b7 9 e2.name p.bM i).length])),(G 51,.U (.bG 1 ((b7 3 cA.name p.params p.params.length)++b7 4 cA.name p.bt p.bt.length++b7 8 fQ.name p.a1 p.a1.length++b7 9 e2.name p.bM i).length (p9 ((b7 3 cA.name p.params p.params.length)++b7 4 cA.name p.bt p.bt.length++b7 8 fQ.name p.a1 p.a1.length++b7 9 e2.name p.bM i)))),(G 52,.U (.bG 3 ((b7 3 cA.name p.params p.params.length)++b7 4 cA.name p.bt p.bt.length++b7 8 fQ.name p.a1 p.a1.length++b7 9 e2.name p.bM i).length (su ((b7 3 cA.name p.params p.params.length)++b7 4 cA.name p.bt p.bt.length++b7 8 fQ.name p.a1 p.a1.length++b7 9 e2.name p.bM i))))]) (fun i=>i<=p.bM.length) (fun i=>p.bM.length-i) 0 (eH (.s D (.b D (bl.dT (by rw[show(b7 3 cA.name p.params p.params.length)++b7 4 cA.name p.bt p.bt.length++b7 8 fQ.name p.a1 p.a1.length++b7 9 e2.name p.bM 0=(b7 3 cA.name p.params p.params.length)++b7 4 cA.name p.bt p.bt.length++b7 8 fQ.name p.a1 p.a1.length from List.append_nil _])) (.b D (bl.dT (by rw[show(b7 3 cA.name p.params p.params.length)++b7 4 cA.name p.bt p.bt.length++b7 8 fQ.name p.a1 p.a1.length++b7 9 e2.name p.bM 0=(b7 3 cA.name p.params p.params.length)++b7 4 cA.name p.bt p.bt.length++b7 8 fQ.name p.a1 p.a1.length from List.append_nil _])) (.b D (bl.dT (by rw[show(b7 3 cA.name p.params p.params.length)++b7 4 cA.name p.bt p.bt.length++b7 8 fQ.name p.a1 p.a1.length++b7 9 e2.name p.bM 0=(b7 3 cA.name p.params p.params.length)++b7 4 cA.name p.bt p.bt.length++b7 8 fQ.name p.a1 p.a1.length from List.append_nil _])) (.nil)))))) (da D D D D<|aZ D<|aU) (Nat.zero_le _) fun i hi=>?_
 refine aL 1 D<|al<|a7 D (fun et=>?_) fun et=>?_
 ·have aG:i<p.bM.length:=eJ et
  exact bx<|al<|bX<|aO (O 1 D<|bW wS D D<|O 1 D<|cm 11 wV D<|O 1 D<|cL Ad D D D D<|ar)<|bm (O 3 D<|ct [51,52] [G 3,G 51,G 52] (vK D D D D D) (Fm ((b7 3 cA.name p.params p.params.length)++b7 4 cA.name p.bt p.bt.length++b7 8 fQ.name p.a1 p.a1.length++b7 9 e2.name p.bM i) (by simp only[ef,Cl];omega) ((p.bM.getD i default).name) (9) (i) (0)) (au D) (.eC D D D) D D<|ar)<|bm (cp D D D<|aN 1 D)<|⟨i+1,aG,by omega,eH (.a D (by rw[show((i+1:Nat):Int)=(i:Int)+1 by omega];exact cM) (.b D (bl.dT (by rw[tu,<-List.append_assoc])) (.b D (bl.dT (by rw[tu,<-List.append_assoc])) (.b D (bl.dT (by rw[tu,<-List.append_assoc])) (.nil))))),da D D D D<|aZ D<|aU⟩
 have eW:i=p.bM.length:=by have:=dj et;omega
 subst eW
 refine dW<|al<|aL 4 D<|bX<|pz (σ:=Nat) [(ab 1,_),(ab 3,_),(ab 74,_),(ab 75,_),(G 1,_)] (fun i=>[(ab 76,.aB (aF .i64 ((i:Int)))),(G 3,.U (.cells [.aQ 51 ((b7 3 cA.name p.params p.params.length)++b7 4 cA.name p.bt p.bt.length++b7 8 fQ.name p.a1 p.a1.length++b7 9 e2.name p.bM p.bM.length++n6 p.ah i).length,.aQ 52 ((b7 3 cA.name p.params p.params.length)++b7 4 cA.name p.bt p.bt.length++b7 8 fQ.name p.a1 p.a1.length++b7 9 e2.name p.bM p.bM.length++n6 p.ah i).length])),(G 51,.U (.bG 1 ((b7 3 cA.name p.params p.params.length)++b7 4 cA.name p.bt p.bt.length++b7 8 fQ.name p.a1 p.a1.length++b7 9 e2.name p.bM p.bM.length++n6 p.ah i).length (p9 ((b7 3 cA.name p.params p.params.length)++b7 4 cA.name p.bt p.bt.length++b7 8 fQ.name p.a1 p.a1.length++b7 9 e2.name p.bM p.bM.length++n6 p.ah i)))),(G 52,.U (.bG 3 ((b7 3 cA.name p.params p.params.length)++b7 4 cA.name p.bt p.bt.length++b7 8 fQ.name p.a1 p.a1.length++b7 9 e2.name p.bM p.bM.length++n6 p.ah i).length (su ((b7 3 cA.name p.params p.params.length)++b7 4 cA.name p.bt p.bt.length++b7 8 fQ.name p.a1 p.a1.length++b7 9 e2.name p.bM p.bM.length++n6 p.ah i))))]) (fun i=>i<=p.ah.length) (fun i=>p.ah.length-i) 0 (eH (.s D (.b D (bl.dT (by rw[show(b7 3 cA.name p.params p.params.length)++b7 4 cA.name p.bt p.bt.length++b7 8 fQ.name p.a1 p.a1.length++b7 9 e2.name p.bM p.bM.length++n6 p.ah 0=(b7 3 cA.name p.params p.params.length)++b7 4 cA.name p.bt p.bt.length++b7 8 fQ.name p.a1 p.a1.length++b7 9 e2.name p.bM p.bM.length from List.append_nil _])) (.b D (bl.dT (by rw[show(b7 3 cA.name p.params p.params.length)++b7 4 cA.name p.bt p.bt.length++b7 8 fQ.name p.a1 p.a1.length++b7 9 e2.name p.bM p.bM.length++n6 p.ah 0=(b7 3 cA.name p.params p.params.length)++b7 4 cA.name p.bt p.bt.length++b7 8 fQ.name p.a1 p.a1.length++b7 9 e2.name p.bM p.bM.length from List.append_nil _])) (.b D (bl.dT (by rw[show(b7 3 cA.name p.params p.params.length)++b7 4 cA.name p.bt p.bt.length++b7 8 fQ.name p.a1 p.a1.length++b7 9 e2.name p.bM p.bM.length++n6 p.ah 0=(b7 3 cA.name p.params p.params.length)++b7 4 cA.name p.bt p.bt.length++b7 8 fQ.name p.a1 p.a1.length++b7 9 e2.name p.bM p.bM.length from List.append_nil _])) (.nil)))))) (da D D D D<|aZ D<|aU) (Nat.zero_le _) fun i hi=>?_
 refine aL 1 D<|al<|a7 D (fun eQ=>?_) fun eQ=>?_
 ·have aG:i<p.ah.length:=eJ eQ
  refine bx<|al<|bX<|aO (O 1 D<|bW qH D D<|O 1 D<|cm 13 nX D<|O 1 D<|cL qI D D D D<|ar)<|aL 3 D<|a7 D (fun ie=>?_) fun ie=>?_
  ·have ae:decide ((p.ah.getD i default).kind=1)=true:=ie
   have qL:=Li p.ah i
   exact bm (O 4 D<|cp D D D<|ct [51,52] [G 3,G 51,G 52] (vK D D D D D) (Fm ((b7 3 cA.name p.params p.params.length)++b7 4 cA.name p.bt p.bt.length++b7 8 fQ.name p.a1 p.a1.length++b7 9 e2.name p.bM p.bM.length++n6 p.ah i) (by simp only[ef,Cl];omega) ((p.ah.getD i default).name) (5) (i) (i+1)) (au D) (.eC D D D) D D<|ar)<|bm (cp D D D<|aN 1 D)<|⟨i+1,aG,by omega,eH (.a D (by rw[show((i+1:Nat):Int)=(i:Int)+1 by omega];exact cM) (.b D (bl.dT (by rw[AA,ae,cond_true,<-List.append_assoc])) (.b D (bl.dT (by rw[AA,ae,cond_true,<-List.append_assoc])) (.b D (bl.dT (by rw[AA,ae,cond_true,<-List.append_assoc])) (.nil))))),da D D D D<|aZ D<|aU⟩
  have ae:decide ((p.ah.getD i default).kind=1)=false:=ie
  exact bx<|bm (cp D D D<|aN 1 D)<|⟨i+1,aG,by omega,eH (.a D (by rw[show((i+1:Nat):Int)=(i:Int)+1 by omega];exact cM) (.b D (bl.dT (by rw[AA,ae,cond_false,List.append_nil])) (.b D (bl.dT (by rw[AA,ae,cond_false,List.append_nil])) (.b D (bl.dT (by rw[AA,ae,cond_false,List.append_nil])) (.nil))))),da D D D D<|aZ D<|aU⟩
 have eW:i=p.ah.length:=by have:=dj eQ;omega
 subst eW
 have GK:(gV p).length<=327680:=by have:=Li p.ah p.ah.length;simp only[gV,ef,Cl];omega
 change c8 _ _ _ _ _ _
 generalize gy:(b7 3 cA.name p.params p.params.length)++b7 4 cA.name p.bt p.bt.length++b7 8 fQ.name p.a1 p.a1.length++b7 9 e2.name p.bM p.bM.length++n6 p.ah p.ah.length=l
 have Fo:gV p=l:=gy
 rw[Fo]at GK
 refine dW<|al<|aO (O 2 D<|gN 93 [] mJ mI D (by decide) (by decide) (ba D D D (.nil _ _)) D D D<|O 2 D<|hA 96 [G 93] Pc Pd (by decide) (.aQ (I D) D) (.aQ (I D) D) (ab9 l) (hB D) (by omega) (by omega) (cs:=p9 ((p.name,default)::l)) D D<|aN 2 D)<|bX<|c1 (b1.tb (t:=96) (l:=96) (n:=1) (g:=fun j=>[ev (((p.name,default)::l).getD j default:gj).1]) D D fun j az=>Q2 ((p.name,default)::l) (by simp;omega))<|eP (σ:=Nat) [(ab 3,_),(ab 96,_),(ab 97,_),(G 3,_),(G 51,_),(G 52,_)] (fun i=>[(ab 98,.aB (aF .i64 ((i:Int))))]) (fun i=>i<=l.length+1/\∀j,j<i->(fun d:gj=>CI d.1) (((p.name,default)::l).getD j default)=true) (fun i=>l.length+1-i) 0 (aZ D<|aU) (da D D D D<|ck D D<|aU) ⟨Nat.zero_le _,fun j az=>by omega⟩ fun i hi=>?_
 refine aL 1 D<|al<|a7 D (fun kb=>?_) fun kb=>?_
 ·have AQ:(⟨#[32]⟩:ByteArray).size=1:=rfl
  have iF:(((p.name,default)::l:List gj).length:Int)=l.length+1:=by simp
  have aG:i<((p.name,default)::l:List gj).length:=by have:=cJ kb;simp;omega
  refine bx<|al<|bX<|aO (bW Kx D D<|aN 2 D)<|?_
  apply jD (new:=[]) (ds:=[]) (cW:=[]) 9
  ·exact O 1 D<|cY (cf D) (RS _) (au D)<|O 1 D<|dp D D<|cF [] D (.QS (I D) (bH D) fun h=>by have:=Sj (by simpa using h);simp;omega)<|cF [] D (.QS (bH D) (I D) fun h=>by have:=Sj (by simpa using h);simp;omega)<|na D (jr (.cons (I D) (.cons (bH D) .nil))) (fun h=>aaJ Q3 _ (by decide)) (au D)<|cF [] D (.not (bH D))<|eg D D D<|ar
  ·exact bR
  ·rfl
  ·exact(cn D D)
  ·exact(au D)
  ·exact qg (CI (((p.name,default)::l).getD i default:gj).1) 150 (by decide) (by decide)
  ·exact .nil
  ·intro q;rfl
  ·rfl
  ·exact .nil
  ·rfl
  ·exact fun bc h=>⟨⟨h.1,by unfold uE;rw[Fo,Sk,Ay aG h.2];rfl⟩,fun l B e=>by simp[ad.get]at e⟩
  ·rfl
  ·rw[K,af];rfl
  intro _ l8
  apply ju
  ·exact .nil _
  ·exact bR
  exact bm (cp D D D<|aN 1 D)<|⟨i+1,⟨by omega,fun j az=>by rcases Nat.lt_succ_iff_lt_or_eq.1 az with h|rfl<;>first|exact hi.2 j h|exact l8⟩,by omega,aZ (ec (by omega))<|aU,da D D D D<|ck D D<|aU⟩
 have hw:((p.name::l.map Prod.fst).all CI)=true:=by rw[Sk];exact Ci (by have:=dj kb;simp;omega) fun j az _=>hi.2 j az
 refine dW<|aO (sn hD jw 70 [] D<|aN 1 D)<|al<|al<|c1 (b1.mH (lb:=3) (j:=0) (l:=51) (n:=1) (g:=fun j=>[ev (l.getD j default).1]) D D D D (fun j az=>Q2 l az) D)<|c1 (b1.mH (lb:=3) (j:=1) (l:=52) (n:=3) (g:=fun j=>[av (l.getD j default).2.kind,av (l.getD j default).2.index,av (l.getD j default).2.rX]) D D D D (fun j az=>ZP l az) D)<|fS 4 D<|bX<|pz (σ:=Nat) [(ab 3,_),(ab 16,_),(ab 115,_),(ab 116,_),(G 3,_)] (fun i=>[(ab 117,.aB (aF .i64 ((i:Int)))),(G 70,.U (hE hD jw (l.take i)))]) (fun i=>i<=l.length/\∀j,j<i->(!(cb (l.take j) (l.getD j default).1).isSome)=true) (fun i=>l.length-i) 0 (eH (.s D (.b D (bl.dT D) (.nil)))) (da D D D D<|aZ D<|aU) ⟨Nat.zero_le _,fun j az=>by omega⟩ fun i hi=>?_
 refine aL 1 D<|al<|a7 D (fun pG=>?_) fun pG=>?_
 ·have aG:i<l.length:=eJ pG
  refine bx<|al<|bX<|aO (O 1 D<|bW Kx D D<|aN 3 D)<|al<|?_
  rcases aM:cb (l.take i) (l.getD i default).1 with _|x
  ·refine bm (O 2 D<|cH [_] ((Pure.oJ (kv:=hD) (f:=jw) AP (I D) (.v (I D)) D).bK (y:=.bE [.d (jw default),bk false]) (congrArg (fun o:Option pA=>ai.bE [.d (o.elim (jw default) jw),bk o.isSome]) aM))<|O 3 D<|cm 19 yp D<|cL BW D D D D<|aN 1 D)<|al<|?_
   apply jD (new:=[]) (ds:=[]) (cW:=[]) 2
   ·exact O 2 D<|ar
   ·exact bR
   ·rfl
   ·exact(cn D D)
   ·exact(au D)
   ·exact qg (!false) 151 (by decide) (by decide)
   ·exact .nil
   ·intro q;rfl
   ·rfl
   ·exact .nil
   ·rfl
   ·exact fun bc h=>by cases h.2
   ·rfl
   ·rw[K,af];rfl
   intro _ CJ
   apply ju
   ·exact .nil _
   ·exact bR
   exact bm (O 5 D<|bW Xv D D<|O 1 D<|bI.put (kv:=hD) (f:=jw) (u:=(l.getD i default).2) AP (I D) (.v (I D)) (.d (I D)) D<|ar)<|bm (cp D D D<|aN 1 D)<|⟨i+1,⟨aG,fun j az=>by rcases Nat.lt_succ_iff_lt_or_eq.1 az with h|rfl<;>first|exact hi.2 j h|(rw[aM];rfl)⟩,by omega,eH (.a D (by rw[show((i+1:Nat):Int)=(i:Int)+1 by omega];exact cM) (.b D (bl.dT (congrArg (hE hD jw) (ZO aG aM))) (.nil))),da D D D D<|aZ D<|aU⟩
  refine bm (O 2 D<|cH [_] ((Pure.oJ (kv:=hD) (f:=jw) AP (I D) (.v (I D)) D).bK (y:=.bE [.d (jw x),bk true]) (congrArg (fun o:Option pA=>ai.bE [.d (o.elim (jw default) jw),bk o.isSome]) aM))<|O 3 D<|cm 19 yp D<|cL BW D D D D<|aN 1 D)<|al<|?_
  apply jD (new:=[]) (ds:=[]) (cW:=[]) 2
  ·exact O 2 D<|ar
  ·exact bR
  ·rfl
  ·exact(cn D D)
  ·exact(au D)
  ·exact qg (!true) 151 (by decide) (by decide)
  ·exact .nil
  ·intro q;rfl
  ·rfl
  ·exact .nil
  ·rfl
  ·exact fun bc h=>⟨⟨h.1,by unfold uE;rw[Fo,aca aG aM,Bool.and_false]⟩,fun l B e=>by simp[ad.get]at e⟩
  ·rfl
  ·rw[K,af];rfl
  intro _ CJ
  cases CJ
 have eW:l.length<=i:=by have:=dj pG;omega
 have aq:EX l=true:=by unfold EX;rw[eZ];intro j az;exact hi.2 j (by have:=List.mem_range.1 az;omega)
 exact dW<|aL 2 D<|bp<|⟨.inr D,(),by unfold uE;rw[Fo,hw,aq];rfl,⟨_,(.cons (.tmp D) .nil),cM⟩,cI (.cons D (bl.dT (by rw[List.take_of_length_le eW,Fo])) .nil)⟩
abbrev y0(d:List gj)(i:Int):ad:=[(G 70,.U (hE hD jw d)),(G 74,.U (.cells [.mp 70])),(G 77,.U (.data [av i])),(G 79,.U (.cells [.fn 22 [.ao 74 0,.ao 77 0,.ao 79 0]]))]
def CK(d:List gj)(i:Int)(x:aR):Prop:=dI (ι:=aR) prog 22 [.d (.agg (cr x)),.ao 74 0,.ao 77 0,.ao 79 0] (y0 d i) (fun z=>kp d i x=some z) (fun z=>.d (.agg (cr z))) (fun _=>y0 d i) [70,74,77,79] (fun bc=>hp bc/\kp d i x=none) []
theorem CK.ok{d:List gj}{i:Int}{x z:aR}(h:CK d i x)(bd:kp d i x=some z):bw prog 22 [.d (.agg (cr x)),.ao 74 0,.ao 77 0,.ao 79 0] (y0 d i) (.d (.agg (cr z))) (y0 d i) [70,74,77,79]:=
 dI.nD h z (fun j az=>by rw[bd]at az;injection az with az;exact az.symm) fun bc aj=>by rw[bd]at aj;cases aj.2
theorem CK.lv{d:List gj}{i:Int}{x:aR}(h:CK d i x)(bd:kp d i x=none):fC prog 22 [.d (.agg (cr x)),.ao 74 0,.ao 77 0,.ao 79 0] (y0 d i) kk (y0 d i) [70,74,77,79] hp []:=
 dI.gm h (fun j az=>by rw[bd]at az;cases az) _ _ fun bc aj=>aj.1
theorem acd(d:List gj)(i:Int)(x:aR)(Y:x.b5)(aJ:∀y∈x.l,CK d i y):dI (ι:=aR) prog 22 [.d (.agg (cr x)),.ao 74 0,.ao 77 0,.ao 79 0] (y0 d i) (fun z=>kp d i x=some z) (fun z=>.d (.agg (cr z))) (fun _=>y0 d i) [70,74,77,79] ((fun bc=>hp bc/\kp d i x=none)) []:=by
 refine hr [.cell 5 65] func22 D D fun E K af=>?_
 refine aO (cV 4 D D D<|cm 5 hn D<|ar)<|aO (O 6 D<|ag (.build hn wX (ba D D D (ba D D D (ba D D D (.nil _ _)))) D)<|cm 6 hn D<|cL dL D D D D<|ar)<|QO (nh d i x.kind x.name=some ((nh d i x.kind x.name).getD (0,0))) [(ab 3,.aB (.ao 79 0)),(ab 4,.aB (.ao 4 0)),(ab 5,.aB (.ao 5 0)),(ab 6,.aB (.ao 6 0)),(G 4,.U (.data (cr x))),(G 5,.U (.data [av 0,ev ⟨#[]⟩,av 0,av 0,.v (.slice none 0 0)])),(G 6,.U (.data [av ((nh d i x.kind x.name).getD (0,0)).1,ev x.name,av ((nh d i x.kind x.name).getD (0,0)).2,av x.n,.v (.slice none 0 0)])),(G 70,.U (hE hD jw d)),(G 74,.U (.cells [.mp 70])),(G 77,.U (.data [av i])),(G 79,.U (.cells [.fn 22 [.ao 74 0,.ao 77 0,.ao 79 0]]))] ?_ fun Sl=>?_
 ·refine aO (O 2 D<|lC (ds:=[av (mg x.kind),.v (.bool (n3 x.kind))]) (cf D) (Se x.kind) (au D)<|aN 5 D)<|aL 1 D<|a7 D (fun aP=>?_) (fun aP=>?_)
  ·have iv:n3 x.kind=true:=aP
   refine al<|?_
   rcases aM:cb d x.name with _|t
   ·refine bm (O 3 D<|cH [_] ((Pure.oJ (kv:=hD) (f:=jw) AP (I D) (.v (I D)) D).bK (y:=.bE [.d (jw default),bk false]) (congrArg (fun o:Option pA=>ai.bE [.d (o.elim (jw default) jw),bk o.isSome]) aM))<|O 3 D<|cm 9 yp D<|cL BW D D D D<|aN 1 D)<|aO (O 5 D<|cX D Ac (I D) D<|cX D BV (bH D) D<|dP D bY D D D<|c6 D D (I D) D<|gQ D D D<|aN 1 D)<|aO (O 4 D<|cX D Aa (I D) D<|dP D bY D D D<|c6 D D (I D) D<|gQ D D D<|aN 1 D)<|al<|?_
    apply jD (new:=[]) (ds:=[]) (cW:=[]) 23
    ·exact O 2 D<|cF [_] D (.h2 bY (I D) D D)<|cX D O8 (I D) D<|dP D bY D D D<|c6 D D (bH D) D<|eg D D D<|O 1 D<|cX D Ac (I D) D<|cX D BV (bH D) D<|dP D bY D D D<|cX D Aa (I D) D<|dP D bY D D D<|c6 D D (bH D) D<|cF [] D (.move (bH D))<|dp D D<|cF [] D (.not (bH D))<|cF [] D (.move (bH D))<|dp D D<|cF [] D (.not (bH D))<|cF [] D (.pick (bH D) (.bB D (by simp)) (I D))<|cF [] D (.pick (bH D) (I D) (.bB D (by simp)))<|eg rfl rfl rfl<|ar
    ·exact bR
    ·rfl
    ·exact(cn D D)
    ·exact(au D)
    ·exact qg (Cm false i default x.kind) 150 (by decide) (by decide)
    ·exact .nil
    ·intro q;rfl
    ·rfl
    ·exact .nil
    ·rfl
    ·exact fun bc h=>⟨⟨h.1,by rw[AB];unfold nh;rw[iv,cond_true,aM]⟩,fun l B e=>by simp[ad.get]at e⟩
    ·rfl
    ·rw[K,af];rfl
    intro _ CJ
    cases CJ
   refine bm (O 3 D<|cH [_] ((Pure.oJ (kv:=hD) (f:=jw) AP (I D) (.v (I D)) D).bK (y:=.bE [.d (jw t),bk true]) (congrArg (fun o:Option pA=>ai.bE [.d (o.elim (jw default) jw),bk o.isSome]) aM))<|O 3 D<|cm 9 yp D<|cL BW D D D D<|aN 1 D)<|aO (O 5 D<|cX D Ac (I D) D<|cX D BV (bH D) D<|dP D bY D D D<|c6 D D (I D) D<|gQ D D D<|aN 1 D)<|aO (O 4 D<|cX D Aa (I D) D<|dP D bY D D D<|c6 D D (I D) D<|gQ D D D<|aN 1 D)<|al<|?_
   apply jD (new:=[]) (ds:=[]) (cW:=[]) 23
   ·exact O 2 D<|cF [_] D (.h2 bY (I D) D D)<|cX D O8 (I D) D<|dP D bY D D D<|c6 D D (bH D) D<|eg D D D<|O 1 D<|cX D Ac (I D) D<|cX D BV (bH D) D<|dP D bY D D D<|cX D Aa (I D) D<|dP D bY D D D<|c6 D D (bH D) D<|cF [] D (.move (bH D))<|dp D D<|cF [] D (.not (bH D))<|cF [] D (.move (bH D))<|dp D D<|cF [] D (.not (bH D))<|cF [] D (.pick (bH D) (.bB D (by simp)) (I D))<|cF [] D (.pick (bH D) (I D) (.bB D (by simp)))<|eg rfl rfl rfl<|ar
   ·exact bR
   ·rfl
   ·exact(cn D D)
   ·exact(au D)
   ·exact qg (Cm true i t x.kind) 150 (by decide) (by decide)
   ·exact .nil
   ·intro q;rfl
   ·rfl
   ·exact .nil
   ·rfl
   ·exact fun bc h=>⟨⟨h.1,by rw[AB];unfold nh;rw[iv,cond_true,aM];simp only[h.2,cond_false]⟩,fun l B e=>by simp[ad.get]at e⟩
   ·rfl
   ·rw[K,af];rfl
   intro _ uR
   apply ju
   ·exact .nil _
   ·exact bR
   refine eo (O 7 D<|dZ bY D D D D D<|O 1 D<|dZ bY D D D D D<|ar)<|?_
   have kP:nh d i x.kind x.name=some (t.kind,t.index):=by unfold nh;rw[iv,cond_true,aM];simp only[uR,cond_true]
   exact⟨(eH (.s D (.s D (.s D (.s D (.s D (.s D (.b D (bl.dT (by rw[kP];rfl)) (.s D (.s D (.s D (.s D (.nil))))))))))))),(by rw[kP];rfl)⟩
  have iv:n3 x.kind=false:=aP
  refine bx<|?_
  have kP:nh d i x.kind x.name=some (x.kind,0):=by unfold nh;rw[iv];rfl
  exact⟨(eH (.s D (.s D (.s D (.s D (.s D (.s D (.b D (bl.dT (by rw[kP];rfl)) (.s D (.s D (.s D (.s D (.nil))))))))))))),(by rw[kP];rfl)⟩
 refine al<|al<|?_
 generalize(nh d i x.kind x.name).getD (0,0)=h at Sl⊢
 have aV:=Y.len
 refine iE (ι:=Unit) (l:=6) (Φ:=fun _=>True) (B':=fun _=>.cells [.d (av h.1),.d (ev x.name),.d (av h.2),.d (av x.n),k4]) D (fun V M w h=>⟨(),trivial,h⟩) fun _ _=>?_
 refine c1 (b1.nd (lb:=6) (j:=4) (l:=80) (n:=5) (fq:=yH []) D D D D (by rw[K];decide) D (by simp[bz.len]) rfl)<|fS 4 rfl<|bX<|pz (σ:=Nat×List aR) [(ab 3,_),(ab 5,_),(ab 6,_),(ab 87,_),(ab 88,_),(G 5,_),(G 70,_),(G 74,_),(G 77,_),(G 79,_)] (fun vP=>[(ab 89,.aB (aF .i64 ((vP.1:Int)))),(G 6,.U (.cells [.d (av h.1),.d (ev x.name),.d (av h.2),.d (av x.n),.aQ 80 vP.2.length])),(G 80,.U (.bG 5 vP.2.length (yH vP.2)))]) (fun vP=>vP.1<=x.l.length/\ni d i (x.l.take vP.1)=some vP.2) (fun vP=>x.l.length-vP.1) (0,[]) (eH (.s D (.s D (.s D (.nil))))) (fs D D D D D D D D<|ck D D<|aU) ⟨Nat.zero_le _,rfl⟩ fun c hi=>?_
 refine aL 1 D<|al<|a7 D (fun bq=>?_) fun bq=>?_
 ·have aG:c.1<x.l.length:=eJ bq
  have iL:=dJ aG
  have y1:=Lj hi.2
  rw[rv]at y1
  refine bx<|al<|bX<|aO (ag ((eN iR D D).bK (iT aG))<|O 1 D<|cm 14 hn D<|cL dL D D D D<|ar)<|gI 80 81 D<|?_
  rcases aK:kp d i (x.l.getD c.1 default)with _|z
  ·apply se 97 mixed
   ·exact O 4 D<|dH [] [G 70,G 74,G 77,G 79] (lf D D) ((aJ _ iL).lv aK) (au D) (.hf D D D D) D D .nil D (by exact fun bc h=>⟨⟨h,by rw[AB,Q6 iL aK];cases nh d i x.kind x.name<;>rfl⟩,fun l B e=>by simp[ad.get]at e⟩) rfl<|fM 97 rfl<|fM 97 rfl<|fM 97 rfl<|fM 97 rfl<|ar
   ·rfl
   ·exact bR
   rfl
  exact eo (O 4 D<|kI (lf D D) ((aJ _ iL).ok aK) (au D) (.hf D D D D) D<|gN 98 [] tg hn D (by decide) (by decide) (ba D D D (.nil _ _)) D D D<|hA 80 [G 81] BS BT (by decide) (.aQ (I D) D) (.aQ (I D) D) (bz.hT D) (hB D) (by omega) (by omega) (cs:=yH (c.2++[z])) (ZQ c.2 z) D<|O 1 D<|iG kn D D D D D<|ar)<|bm (cp D D D<|aN 1 D)<|⟨(c.1+1,c.2++[z]),⟨aG,by rw[uD aG,Q5,hi.2,aK]⟩,fD (by assumption),eH (.a D (by rw[show((c.1+1:Nat):Int)=(c.1:Int)+1 by omega];exact cM) (.b D (bl.dT (by rw[ef];rfl)) (.b D (bl.dT (by rw[ef];rfl)) (.nil)))),fs D D D D D D D D<|ck D D<|aU⟩
 have eW:x.l.length<=c.1:=by have:=dj bq;omega
 have bd:=hi.2
 rw[List.take_of_length_le eW]at bd
 exact dW<|al<|c1 (b1.mH (lb:=6) (j:=4) (l:=80) (n:=5) (g:=fun j=>(vv c.2).getD j []) D D D D (fun j az=>ZR c.2 az) D)<|bm (cH [_] (.x2 dL (I D) D fun _=>cC D)<|cL dL D D D D<|ar)<|bp<|⟨.inr D,.mk h.1 x.name h.2 x.n c.2,by rw[AB,Sl,bd],⟨_,(.cons (.iP D D dL D) .nil),cM⟩,cI (.hf D D D D)⟩
theorem Sm(d:List gj)(i:Int):∀x:aR,x.b5->CK d i x:=aR.ind fun x aJ Y=>acd d i x Y fun y ak=>aJ y ak (Y.part y ak)
abbrev hZ(p:aD):Option aD:=rE uE p
theorem Sn:rC prog 62 hW (qM false):=As underlying62 (QE (by kernel_rfl) (by kernel_rfl)) (by kernel_rfl) fun M=>.v _
theorem iW:rC prog 77 fe (av 0):=As underlying77 (QA underlying3) (by kernel_rfl) fun M=>.v _
theorem ace{k:Int}(h:tv k=true):ai.d ((cb (dM (dM ([]:List (Int×Int)) 2 4) 3 8) k).elim (av 0) av)=aF .i64 (qa k):=by
 unfold tv at h
 unfold qa
 by_cases W:k=2
 ·subst W;rfl
 ·by_cases aH:k=3
  ·subst aH;rfl
  ·simp[W,aH]at h
theorem So(o:Option Bool):ai.d (o.elim (qM false) qM)=bk (o.getD false):=by cases o<;>rfl
theorem acf{d:List gj}{i:Int}{gP:mh}{bQ:Bool}{s:eM}(h:kp d i s.x=none):vD d i gP bQ s=none:=by simp only[vD,h]
theorem LM{d:List gj}{i:Int}{gP:mh}{bQ:Bool}{s:eM}(h:kK d gP bQ s=none):vD d i gP bQ s=none:=by simp only[vD,h];cases kp d i s.x<;>rfl
theorem acg{d:List gj}{i:Int}{gP:mh}{bQ:Bool}{s:eM}(h:(!bQ)=false):vD d i gP bQ s=none:=by simp only[vD,h,cond_false];cases kp d i s.x<;>cases kK d gP bQ s<;>rfl
theorem Fp{q:Option (mh×Bool×List eM)}{p:aD}(h:q=none):(bif true&&true&&true&&true then Cn q p else none)=none:=by rw[h];rfl
def Sp:Option aD->ai
 |some q=>.bE [.d (fR q),.d (av 0)]
 |none=>.bE [.d (.agg [ev ⟨#[]⟩,av 0,av 0,.v (.slice none 0 0),.v (.slice none 0 0),.v (.slice none 0 0),.v (.slice none 0 0),.v (.slice none 0 0)]),.d oe]
theorem ach(B:cO)(d:bg):nS prog 17 [.ao 2 0,.ao 3 0] [(G 2,.U B),(G 3,.U (.data [d]))] [(G 2,.U B),(G 3,.U (.data [d]))] (.returning) (.returning) [2,3]:=by
 refine BJ (x:=.nilIface) func17 D (cC D) (lD D) (by decide) (by decide) D .tc fun E K af=>?_
 refine aO (O 1 D<|ag (.z6 vn (I D) (.inl ⟨rfl,rfl⟩))<|ar)<|a7 D (fun aP=>?_) fun aP=>?_
 ·cases aP
 exact bx<|⟨.inl D,cU (.dy D D)⟩
theorem aci(cs:List ai)(fV:cs.length=8)(i:Int):nS prog 17 [.ao 2 0,.ao 3 0] [(G 2,.U (.cells cs)),(G 3,.U (.data [av 0]))] [(G 2,.U (.cells [.d (ev ⟨#[]⟩),.d (av 0),.d (av 0),.d (.v (.slice none 0 0)),.d (.v (.slice none 0 0)),.d (.v (.slice none 0 0)),.d (.v (.slice none 0 0)),.d (.v (.slice none 0 0))])),(G 3,.U (.data [av i]))] (.panicking [{v:=.iface 30 (.int .i64 i),recovered:=false}]) (.panicking [{v:=.iface 30 (.int .i64 i),recovered:=true}]) [2,3]:=by
 refine BJ (x:=.iface 30 (.int .i64 i)) func17 D (cC D) (lD D) (by decide) (by decide) D (.td _ _) fun E K af=>?_
 refine aO (O 1 D<|ag (.z6 vn (I D) (.inr ⟨⟨_,_,rfl⟩,rfl⟩))<|ar)<|a7 D (fun aP=>?_) fun aP=>?_
 ·exact eo (ag (.build tf Pz (.nil _ _) D)<|O 1 D<|ag (.OJ underlying30 (by intro m h;cases h) (I D))<|x7 pq (I D) (I D) D D D (eZ.1 D) (by omega) (cs':=[.d (ev ⟨#[]⟩),.d (av 0),.d (av 0),.d (.v (.slice none 0 0)),.d (.v (.slice none 0 0)),.d (.v (.slice none 0 0)),.d (.v (.slice none 0 0)),.d (.v (.slice none 0 0))]) (J0 (by rw[fV];rfl))<|dZ gF D D D D D<|ar)<|⟨.inl D,cU (.dy D D)⟩
 cases aP
theorem acj(p:aD)(Z:p.b5):dI (ι:=Option aD) prog 4 [.d (fR p)] [] (fun o=>hZ p=o) (Sp) (fun _=>[]) [] ((fun _=>False)) []:=by
 refine Am (k:=1) (cap:=[(2,2),(3,3)]) (kept:=[(2,2),(3,3)]) (rs:=[.cell 2 29,.cell 3 30]) (ed:=[(ab 1,.aB (.ao 1 0)),(ab 2,.aB (.ao 2 0)),(ab 3,.aB (.ao 3 0)),(G 1,.U (.data (jQ p))),(G 2,.U (.data [ev ⟨#[]⟩,av 0,av 0,.v (.slice none 0 0),.v (.slice none 0 0),.v (.slice none 0 0),.v (.slice none 0 0),.v (.slice none 0 0)])),(G 3,.U (.data [av 0]))]) (ro:={gm:=fun y=>hp y.1/\hZ p=none/\∃cs,cs.length=8/\y.2=[(ab 2,.aB (.ao 2 0)),(ab 3,.aB (.ao 3 0)),(G 2,.U (.cells cs)),(G 3,.U (.data [av 0]))]}) (True) func4 D D D (cC D) (by simp[ad.get]) (cC D) (au D) (fun E K af=>?_) (.cons D (.cons D (.nil))) D (fun uu E K af=>?_) (by simp) rfl rfl ?_
 ·exact bm (cV 1 D D D<|cm 2 tf D<|cm 3 z8 D<|ar)<|.inl ⟨rfl,(da D D D D<|ck D D<|aU),trivial⟩
 ·refine al<|iE (ι:=Unit) (l:=2) (Φ:=fun _=>True) (B':=fun _=>.cells [.d (ev ⟨#[]⟩),.d (av 0),.d (av 0),.d (.v (.slice none 0 0)),.d (.v (.slice none 0 0)),.d (.v (.slice none 0 0)),.d (.v (.slice none 0 0)),.d (.v (.slice none 0 0))]) D (fun V M w h=>⟨(),trivial,h⟩) fun _ _=>?_
  have iv:=Z.kJ
  apply jD (new:=[]) (ds:=[]) (cW:=[(ab 2,.aB (.ao 2 0)),(ab 3,.aB (.ao 3 0)),(G 2,.U (.cells [.d (ev ⟨#[]⟩),.d (av 0),.d (av 0),.d (.v (.slice none 0 0)),.d (.v (.slice none 0 0)),.d (.v (.slice none 0 0)),.d (.v (.slice none 0 0)),.d (.v (.slice none 0 0))])),(G 3,.U (.data [av 0]))]) 1
  ·exact O 1 D<|ar
  ·exact bR
  ·rfl
  ·exact(cf D)
  ·exact(au D)
  ·exact abY p Z
  ·exact .nil
  ·intro q;rfl
  ·rfl
  ·exact(.aQ D D (.aQ D D (.aQ D D (.aQ D D .nil))))
  ·rfl
  ·exact fun bc h=>⟨h.1,by unfold hZ rE;rw[h.2];rfl,_,rfl,rfl⟩
  ·rfl
  ·rw[K,af];rfl
  intro _ k6
  apply ju
  ·exact .nil _
  ·exact bR
  refine al<|?_
  apply jD (new:=[]) (ds:=[]) (cW:=[(ab 2,.aB (.ao 2 0)),(ab 3,.aB (.ao 3 0)),(G 2,.U (.cells [.d (ev ⟨#[]⟩),.d (av 0),.d (av 0),.d (.v (.slice none 0 0)),.d (.v (.slice none 0 0)),.d (.v (.slice none 0 0)),.d (.v (.slice none 0 0)),.d (.v (.slice none 0 0))])),(G 3,.U (.data [av 0]))]) 1
  ·exact O 1 D<|ar
  ·exact bR
  ·rfl
  ·exact(cf D)
  ·exact(au D)
  ·exact ab7 p Z
  ·exact .nil
  ·intro q;rfl
  ·rfl
  ·exact(.aQ D D (.aQ D D (.aQ D D (.aQ D D .nil))))
  ·rfl
  ·exact fun bc h=>⟨h.1,by unfold hZ rE;rw[h.2,Bool.and_false];rfl,_,rfl,rfl⟩
  ·rfl
  ·rw[K,af];rfl
  intro _ nu
  apply ju
  ·exact .nil _
  ·exact bR
  refine al<|?_
  apply jD (new:=[70]) (ds:=[]) (cW:=[(ab 2,.aB (.ao 2 0)),(ab 3,.aB (.ao 3 0)),(G 2,.U (.cells [.d (ev ⟨#[]⟩),.d (av 0),.d (av 0),.d (.v (.slice none 0 0)),.d (.v (.slice none 0 0)),.d (.v (.slice none 0 0)),.d (.v (.slice none 0 0)),.d (.v (.slice none 0 0))])),(G 3,.U (.data [av 0]))]) 1
  ·exact O 1 D<|ar
  ·exact bR
  ·rfl
  ·exact(cf D)
  ·exact(au D)
  ·exact acb p Z
  ·exact .nil
  ·intro q;rfl
  ·rfl
  ·exact(.aQ D D (.aQ D D (.aQ D D (.aQ D D .nil))))
  ·rfl
  ·exact fun bc h=>⟨h.1,by unfold hZ rE;rw[h.2,Bool.and_false];rfl,_,rfl,rfl⟩
  ·rfl
  ·rw[K,af];rfl
  intro _ AR
  apply ju
  ·exact cm 74 W9 D<|ny W8 (I D) (I D) D D D (by simp[ai.fk,jo]) (cC D) D<|ar
  ·exact bR
  refine al<|?_
  apply jD (new:=[]) (ds:=[]) (cW:=[(ab 2,.aB (.ao 2 0)),(ab 3,.aB (.ao 3 0)),(G 2,.U (.cells [.d (ev ⟨#[]⟩),.d (av 0),.d (av 0),.d (.v (.slice none 0 0)),.d (.v (.slice none 0 0)),.d (.v (.slice none 0 0)),.d (.v (.slice none 0 0)),.d (.v (.slice none 0 0))])),(G 3,.U (.data [av 0]))]) 1
  ·exact O 1 D<|ar
  ·exact bR
  ·rfl
  ·exact(cf D)
  ·exact(au D)
  ·exact ab8 p Z
  ·exact .nil
  ·intro q;rfl
  ·rfl
  ·exact(.aQ D D (.aQ D D (.aQ D D (.aQ D D .nil))))
  ·rfl
  ·exact fun bc h=>⟨h.1,by unfold hZ rE;rw[h.2,Bool.and_false];rfl,_,rfl,rfl⟩
  ·rfl
  ·rw[K,af];rfl
  intro _ AS
  apply ju
  ·exact .nil _
  ·exact bR
  refine aO (O 1 D<|x7 pq (I D) (I D) D D D (eZ.1 D) (cC D) (cs':=[.d (ev p.name),.d (av p.cR),.d (av p.tail),.d (dN p.params),.d (dN p.bt),.d (hJ p.a1),.d (ia p.bM),.d (iS p.ah)]) D<|ar)<|aO (O 1 D<|iG vo D D D D D<|ar)<|al<|c1 (b1.nd (lb:=2) (j:=7) (l:=80) (n:=8) (fq:=xh []) D D D D (by rw[K];decide) D (by simp[bz.len]) rfl)<|bm (sn hW qM 75 [] D<|aN 1 D)<|aL 1 D<|al<|aL 4 D<|bX<|pz (σ:=Nat×mh×Bool×List eM) [(ab 2,_),(ab 3,_),(ab 4,_),(ab 5,_),(ab 27,_),(ab 28,_),(G 1,_),(G 3,_),(G 70,_),(G 74,_)] (fun c=>[(ab 29,.aB (aF .i64 ((c.1:Int)))),(ab 6,.aB (bk c.2.2.1)),(G 75,.U (hE hW qM c.2.1)),(G 2,.U (.cells [.d (ev p.name),.d (av p.cR),.d (av p.tail),.d (dN p.params),.d (dN p.bt),.d (hJ p.a1),.d (ia p.bM),.aQ 80 c.2.2.2.length])),(G 80,.U (.bG 8 c.2.2.2.length (xh c.2.2.2)))]) (fun c=>c.1<=p.ah.length/\jR (gV p) p.ah c.1=some c.2) (fun c=>p.ah.length-c.1) (0,[],false,[]) (eH (.s D (.s D (.s D (.s D (.s D (.nil))))))) (fs D D D D D D D D<|ck D D<|aU) ⟨Nat.zero_le _,rfl⟩ fun c hi=>?_
  refine aL 1 D<|al<|a7 D (fun aP=>?_) fun aP=>?_
  ·have aG:c.1<p.ah.length:=eJ aP
   have iM:=(Z.ah _ (dJ aG)).2.2
   have y1:=EZ hi.2
   have ajt:True:=trivial
   refine bx<|al<|bX<|aO (O 1 D<|bW qH D D<|O 1 D<|cm 77 iC D<|cm 8 nX D<|dZ bY D D D D D<|cL qI D D D D<|ar)<|aO (cm 79 Xb D<|ar)<|aO (ag (.mG (.cons (I D) (.cons (I D) (.cons (I D) .nil))))<|ny Xa (I D) (I D) D D D (by simp[ai.fk,jo]) (cC D) D<|ar)<|al<|?_
   rcases aK:kp (gV p) c.1 (p.ah.getD c.1 default).x with _|z
   ·apply se 42 mixed
    ·exact O 6 D<|cH [_] (.pT dL (I D) D fun _=>by exact cC D)<|dH (cW:=[(ab 2,.aB (.ao 2 0)),(ab 3,.aB (.ao 3 0)),(G 2,.U (.cells [.d (ev p.name),.d (av p.cR),.d (av p.tail),.d (dN p.params),.d (dN p.bt),.d (hJ p.a1),.d (ia p.bM),.aQ 80 c.2.2.2.length])),(G 3,.U (.data [av 0]))]) [] [G 70,G 74,G 77,G 79] (lf D D) ((Sm (gV p) c.1 _ iM).lv aK) (au D) (.hf D D D D) D D (.aQ D D (.aQ D D (.aQ D D (.aQ D D .nil)))) D (by exact fun bc h=>⟨h,by unfold hZ rE;rw[k6,nu,AR,AS];exact Fp (EY aG (by simp only[jR,hi.2];rw[acf aK];rfl)),_,rfl,rfl⟩) D<|fM 42 D<|cm 10 nX D<|fM 42 D<|ar
    ·rfl
    ·exact bR
    rfl
   refine eo (O 6 D<|cH [_] (.pT dL (I D) D fun _=>by exact cC D)<|kI (lf D D) ((Sm (gV p) c.1 _ iM).ok aK) (au D) (.hf D D D D) D<|ag (.build nX PB (ba D D D (ba D D D (ba D D D (.nil _ _)))) D)<|cm 10 nX D<|cL qI D D D D<|ar)<|QO (kK (gV p) c.2.1 c.2.2.1 (p.ah.getD c.1 default)=some ((kK (gV p) c.2.1 c.2.2.1 (p.ah.getD c.1 default)).getD (0,c.2.1))) [(ab 2,.aB (.ao 2 0)),(ab 3,.aB (.ao 3 0)),(ab 4,.aB (.ao 74 0)),(ab 5,.aB (.mp 75)),(ab 6,.aB (bk c.2.2.1)),(ab 8,.aB (.ao 8 0)),(ab 10,.aB (.ao 10 0)),(ab 27,.aB (.d (iS p.ah))),(ab 28,.aB (aF .i64 p.ah.length)),(ab 29,.aB (aF .i64 c.1)),(G 1,.U (.data (jQ p))),(G 2,.U (.cells [.d (ev p.name),.d (av p.cR),.d (av p.tail),.d (dN p.params),.d (dN p.bt),.d (hJ p.a1),.d (ia p.bM),.aQ 80 c.2.2.2.length])),(G 3,.U (.data [av 0])),(G 8,.U (.data (jf (p.ah.getD c.1 default)))),(G 10,.U (.data [av (p.ah.getD c.1 default).kind,ev (p.ah.getD c.1 default).name,av ((kK (gV p) c.2.1 c.2.2.1 (p.ah.getD c.1 default)).getD (0,c.2.1)).1,av z.kind,ev z.name,av z.index,av z.n,rB z.l])),(G 70,.U (hE hD jw (gV p))),(G 74,.U (.cells [.mp 70])),(G 75,.U (hE hW qM ((kK (gV p) c.2.1 c.2.2.1 (p.ah.getD c.1 default)).getD (0,c.2.1)).2)),(G 80,.U (.bG 8 c.2.2.2.length (xh c.2.2.2)))] ?_ fun cy=>?_
   ·refine aO (O 4 D<|cX D BU (I D) D<|dP D bY D D D<|c6 D D (I D) D<|gQ D D D<|ar)<|a7 D (fun bq=>?_) (fun bq=>?_)
    ·have oU:tv (p.ah.getD c.1 default).kind=true:=bq
     refine aO (sn fe av 82 [] D<|hP (kv:=fe) (f:=av) iW (I D) (.v (I D)) (.d (I D)) D<|hP (kv:=fe) (f:=av) iW (I D) (.v (I D)) (.d (I D)) D<|O 3 D<|cH [_] ((Pure.rD (kv:=fe) (f:=av) iW (I D) (.v (I D)) D).bK (y:=aF .i64 (qa (p.ah.getD c.1 default).kind)) (ace oU))<|aN 1 D)<|al<|?_
     rcases aM:cb (gV p) (p.ah.getD c.1 default).name with _|t
     ·refine bm (O 3 D<|cH [_] ((Pure.oJ (kv:=hD) (f:=jw) AP (I D) (.v (I D)) D).bK (y:=.bE [.d (jw default),bk false]) (congrArg (fun o:Option pA=>ai.bE [.d (o.elim (jw default) jw),bk o.isSome]) aM))<|O 3 D<|cm 12 yp D<|cL BW D D D D<|aN 1 D)<|al<|?_
      apply jD (new:=[]) (ds:=[]) (cW:=[(ab 2,.aB (.ao 2 0)),(ab 3,.aB (.ao 3 0)),(G 2,.U (.cells [.d (ev p.name),.d (av p.cR),.d (av p.tail),.d (dN p.params),.d (dN p.bt),.d (hJ p.a1),.d (ia p.bM),.aQ 80 c.2.2.2.length])),(G 3,.U (.data [av 0]))]) 8
      ·exact O 2 D<|cX D Ac (I D) D<|cX D BV (bH D) D<|dP D bY D D D<|dp D D<|c6 D D (bH D) D<|eg D D D<|ar
      ·exact bR
      ·rfl
      ·exact(cn D D)
      ·exact(au D)
      ·exact qg (bif false then decide ((default:pA).kind=qa (p.ah.getD c.1 default).kind)else false) 150 (by decide) (by decide)
      ·exact .nil
      ·intro q;rfl
      ·rfl
      ·exact(.aQ D D (.aQ D D (.aQ D D (.aQ D D .nil))))
      ·rfl
      ·exact fun bc h=>⟨h.1,by unfold hZ rE;rw[k6,nu,AR,AS];exact Fp (EY aG (by simp only[jR,hi.2];rw[LM (by unfold kK;rw[oU,cond_true,aM])];rfl)),_,rfl,rfl⟩
      ·rfl
      ·rw[K,af];rfl
      intro _ CJ
      cases CJ
     refine bm (O 3 D<|cH [_] ((Pure.oJ (kv:=hD) (f:=jw) AP (I D) (.v (I D)) D).bK (y:=.bE [.d (jw t),bk true]) (congrArg (fun o:Option pA=>ai.bE [.d (o.elim (jw default) jw),bk o.isSome]) aM))<|O 3 D<|cm 12 yp D<|cL BW D D D D<|aN 1 D)<|al<|?_
     apply jD (new:=[]) (ds:=[]) (cW:=[(ab 2,.aB (.ao 2 0)),(ab 3,.aB (.ao 3 0)),(G 2,.U (.cells [.d (ev p.name),.d (av p.cR),.d (av p.tail),.d (dN p.params),.d (dN p.bt),.d (hJ p.a1),.d (ia p.bM),.aQ 80 c.2.2.2.length])),(G 3,.U (.data [av 0]))]) 8
     ·exact O 2 D<|cX D Ac (I D) D<|cX D BV (bH D) D<|dP D bY D D D<|dp D D<|c6 D D (bH D) D<|eg D D D<|ar
     ·exact bR
     ·rfl
     ·exact(cn D D)
     ·exact(au D)
     ·exact qg (bif true then decide (t.kind=qa (p.ah.getD c.1 default).kind)else false) 150 (by decide) (by decide)
     ·exact .nil
     ·intro q;rfl
     ·rfl
     ·exact(.aQ D D (.aQ D D (.aQ D D (.aQ D D .nil))))
     ·rfl
     ·exact fun bc h=>⟨h.1,by unfold hZ rE;rw[k6,nu,AR,AS];exact Fp (EY aG (by simp only[jR,hi.2];rw[LM (by unfold kK;rw[oU,cond_true,aM];simp only[show decide (t.kind=qa (p.ah.getD c.1 default).kind)=false from h.2,cond_false])];rfl)),_,rfl,rfl⟩
     ·rfl
     ·rw[K,af];rfl
     intro _ cS
     apply ju
     ·exact .nil _
     ·exact bR
     refine aO (O 4 D<|dZ bY D D D D D<|ar)<|al<|?_
     apply jD (new:=[]) (ds:=[]) (cW:=[(ab 2,.aB (.ao 2 0)),(ab 3,.aB (.ao 3 0)),(G 2,.U (.cells [.d (ev p.name),.d (av p.cR),.d (av p.tail),.d (dN p.params),.d (dN p.bt),.d (hJ p.a1),.d (ia p.bM),.aQ 80 c.2.2.2.length])),(G 3,.U (.data [av 0]))]) 9
     ·exact O 3 D<|dp D D<|cX D Ac (I D) D<|cF [_] D (.pT O7 (bH D) D fun _=>cC D)<|cF [_] D ((Pure.rD (kv:=hW) (k:=(t.kind,t.index)) (f:=qM) Sn (bH D) (.f [.i t.kind,.i t.index] (bH D)) D).bK (y:=bk ((cb c.2.1 (t.kind,t.index)).getD false)) (So _))<|cF [] D (.not (bH D))<|eg D D D<|ar
     ·exact bR
     ·rfl
     ·exact(cn D D)
     ·exact(au D)
     ·exact qg (bif !c.2.2.1 then !(cb c.2.1 (t.kind,t.index)).getD false else false) 151 (by decide) (by decide)
     ·exact .nil
     ·intro q;rfl
     ·rfl
     ·exact(.aQ D D (.aQ D D (.aQ D D (.aQ D D .nil))))
     ·rfl
     ·exact fun bc h=>⟨h.1,by unfold hZ rE;rw[k6,nu,AR,AS];exact Fp (EY aG (by simp only[jR,hi.2];rw[LM (by unfold kK;rw[oU,cond_true,aM];simp only[show decide (t.kind=qa (p.ah.getD c.1 default).kind)=true from cS,cond_true,h.2,cond_false])];rfl)),_,rfl,rfl⟩
     ·rfl
     ·rw[K,af];rfl
     intro _ G8
     apply ju
     ·exact .nil _
     ·exact bR
     refine bm (O 2 D<|cH [_] (.pT O7 (I D) D fun _=>cC D)<|bI.put (kv:=hW) (k:=(t.kind,t.index)) (f:=qM) (u:=true) Sn (I D) (.f [.i t.kind,.i t.index] (I D)) (.d (I D)) D<|ar)<|?_
     have kP:kK (gV p) c.2.1 c.2.2.1 (p.ah.getD c.1 default)=some (t.index,dM c.2.1 (t.kind,t.index) true):=by unfold kK;rw[oU,cond_true,aM];simp only[show decide (t.kind=qa (p.ah.getD c.1 default).kind)=true from cS,cond_true,G8]
     exact⟨(eH (.s D (.s D (.s D (.s D (.s D (.s D (.s D (.s D (.s D (.s D (.s D (.s D (.s D (.s D (.b D (bl.dT (by rw[kP];rfl)) (.s D (.s D (.b D (bl.dT (by rw[kP];rfl)) (.s D (.nil))))))))))))))))))))),(by rw[kP];rfl)⟩
    have oU:tv (p.ah.getD c.1 default).kind=false:=bq
    refine bx<|?_
    have kP:kK (gV p) c.2.1 c.2.2.1 (p.ah.getD c.1 default)=some (0,c.2.1):=by unfold kK;rw[oU];rfl
    exact⟨(eH (.s D (.s D (.s D (.s D (.s D (.s D (.s D (.s D (.s D (.s D (.s D (.s D (.s D (.s D (.b D (bl.dT (by rw[kP];rfl)) (.s D (.s D (.b D (bl.dT (by rw[kP];rfl)) (.s D (.nil))))))))))))))))))))),(by rw[kP];rfl)⟩
   refine al<|?_
   apply jD (new:=[]) (ds:=[]) (cW:=[(ab 2,.aB (.ao 2 0)),(ab 3,.aB (.ao 3 0)),(G 2,.U (.cells [.d (ev p.name),.d (av p.cR),.d (av p.tail),.d (dN p.params),.d (dN p.bt),.d (hJ p.a1),.d (ia p.bM),.aQ 80 c.2.2.2.length])),(G 3,.U (.data [av 0]))]) 2
   ·exact O 2 D<|ar
   ·exact bR
   ·rfl
   ·exact(cn D D)
   ·exact(au D)
   ·exact qg (!c.2.2.1) 151 (by decide) (by decide)
   ·exact .nil
   ·intro q;rfl
   ·rfl
   ·exact(.aQ D D (.aQ D D (.aQ D D (.aQ D D .nil))))
   ·rfl
   ·exact fun bc h=>⟨h.1,by unfold hZ rE;rw[k6,nu,AR,AS];exact Fp (EY aG (by simp only[jR,hi.2];rw[acg h.2];rfl)),_,rfl,rfl⟩
   ·rfl
   ·rw[K,af];rfl
   intro _ nm
   apply ju
   ·exact .nil _
   ·exact bR
   refine aL 4 D<|gI 80 81 D<|?_
   apply dm
   ·apply O 3 D
    apply gN 30 [] OT nX D (by decide) (by decide) (ba D D D (.nil _ _)) D D D
    apply hA 80 [G 81] OU OV (by decide) (.aQ (I D) D) (.aQ (I D) D) (bz.hT D) (hB D) (by omega) (by omega) (cs:=xh (c.2.2.2++[⟨(p.ah.getD c.1 default).kind,(p.ah.getD c.1 default).name,((kK (gV p) c.2.1 c.2.2.1 (p.ah.getD c.1 default)).getD (0,c.2.1)).1,z⟩])) (ZS c.2.2.2 ⟨_,_,_,z⟩) D
    exact O 1 D<|iG vo D D D D D<|ar
   ·exact bR
   refine bm (cp D D D<|aN 1 D)<|?_
   have ack:jR (gV p) p.ah (c.1+1)=some (((kK (gV p) c.2.1 c.2.2.1 (p.ah.getD c.1 default)).getD (0,c.2.1)).2,decide ((p.ah.getD c.1 default).kind=4),c.2.2.2++[⟨(p.ah.getD c.1 default).kind,(p.ah.getD c.1 default).name,((kK (gV p) c.2.1 c.2.2.1 (p.ah.getD c.1 default)).getD (0,c.2.1)).1,z⟩]):=by simp only[jR,hi.2,vD];rw[aK,cy];simp only[nm,cond_true,Option.map_some,Option.getD_some]
   exact⟨(c.1+1,((kK (gV p) c.2.1 c.2.2.1 (p.ah.getD c.1 default)).getD (0,c.2.1)).2,decide ((p.ah.getD c.1 default).kind=4),c.2.2.2++[⟨(p.ah.getD c.1 default).kind,(p.ah.getD c.1 default).name,((kK (gV p) c.2.1 c.2.2.1 (p.ah.getD c.1 default)).getD (0,c.2.1)).1,z⟩]),⟨aG,ack⟩,fD (by assumption),eH (.a D (by rw[show((c.1+1:Nat):Int)=(c.1:Int)+1 by omega];exact cM) (.s D (.s D (.b D (bl.dT (by rw[ef];rfl)) (.b D (bl.dT (by rw[ef];rfl)) (.nil)))))),fs D D D D D D D D<|ck D D<|aU⟩
  have eW:p.ah.length=c.1:=by have:=dj aP;omega
  have bd:=hi.2
  rw[<-eW]at bd
  refine dW<|al<|?_
  apply jD (new:=[]) (ds:=[]) (cW:=[(ab 2,.aB (.ao 2 0)),(ab 3,.aB (.ao 3 0)),(G 2,.U (.cells [.d (ev p.name),.d (av p.cR),.d (av p.tail),.d (dN p.params),.d (dN p.bt),.d (hJ p.a1),.d (ia p.bM),.aQ 80 c.2.2.2.length])),(G 3,.U (.data [av 0]))]) 1
  ·exact O 1 D<|ar
  ·exact bR
  ·rfl
  ·exact(cn D D)
  ·exact(au D)
  ·exact qg c.2.2.1 150 (by decide) (by decide)
  ·exact .nil
  ·intro q;rfl
  ·rfl
  ·exact(.aQ D D (.aQ D D (.aQ D D (.aQ D D .nil))))
  ·rfl
  ·exact fun bc h=>⟨h.1,by unfold hZ rE;rw[k6,nu,AR,AS,bd];simp only[Cn,h.2];rfl,_,rfl,rfl⟩
  ·rfl
  ·rw[K,af];rfl
  intro _ acm
  apply ju
  ·exact .nil _
  ·exact bR
  refine al<|c1 (b1.mH (lb:=2) (j:=7) (l:=80) (n:=8) (g:=fun j=>jf (c.2.2.2.getD j default)) D D D D (fun j az=>ZT c.2.2.2 j az) D)<|bm (cH [_] (.x2 pq (I D) D fun _=>cC D)<|x7 pq (I D) (I D) D D (by rfl) (by exact eZ.1 D) (by simp) rfl<|dZ gF rfl rfl rfl rfl rfl<|ar)<|bp<|⟨.inr rfl,[(G 2,.U (.cells ((jQ {p with ah:=c.2.2.2}).map .d))),(G 3,.U (.data [av 0]))],(da D D D D<|aU),by simp,.returning,_,rfl,ach _ _,.inl ⟨rfl,some {p with ah:=c.2.2.2},?_,⟨_,(.cons (.va D D pq D) (.cons (.hR D D gF D) .nil)),cM⟩,cI .nil⟩⟩
  unfold hZ rE
  rw[k6,nu,AR,AS,bd]
  simp only[Cn,acm]
  rfl
 rintro⟨bc,st⟩ ⟨⟨i,hi,bb,rfl⟩,nm,cs,fV,rfl⟩
 exact⟨[(G 2,.U (.cells cs)),(G 3,.U (.data [av 0]))],rfl,by simp,_,_,rfl,aci cs fV i,.inl ⟨rfl,none,nm,⟨_,(.cons (.va D D pq D) (.cons (.hR D D gF D) .nil)),(sl (.cons cM (.cons (iD (.py i ⟨hi,bb⟩ D ⟨fun _ e=>(nomatch e),fun _ e=>(nomatch e)⟩)) .nil)))⟩,cI .nil⟩⟩
theorem H3(p:aD)(Z:p.b5):bw prog 4 [.d (fR p)] [] (Sp (hZ p)) [] []:=dI.nD (acj p Z) (hZ p) (fun _ h=>h.symm) fun _ h=>h
theorem Fq{bZ α:Type}[DecidableEq bZ]{m:List (bZ×α)}{k:bZ}{x:α}(h:cb m k=some x):(k,x)∈m:=by
 induction m with
 |nil=>cases h
 |cons p r aJ=>
  obtain⟨a,b⟩:=p
  unfold cb at h
  split at h
  ·rename_i e;injection h with h;subst h;subst e;simp
  ·exact List.mem_cons_of_mem _ (aJ h)
theorem H4{α:Type}[Inhabited α]{kind:Int}{kJ:α->ByteArray}{l:List α}{n:Nat}{s:ByteArray}{t:pA}(h:(s,t)∈b7 kind kJ l n):∃j:Nat,j<n/\t.kind=kind/\t.index=j/\t.rX=0:=by
 simp only[b7,List.mem_map,List.mem_range,Prod.mk.injEq]at h
 obtain⟨j,az,_,rfl⟩:=h
 exact⟨j,az,rfl,rfl,rfl⟩
theorem acn{l:List eM}{n:Nat}{s:ByteArray}{t:pA}(h:(s,t)∈n6 l n):∃j:Nat,j<n/\t.kind=5/\t.index=j/\t.rX=j+1/\(l.getD j default).kind=1:=by
 simp only[n6,List.mem_flatMap,List.mem_range]at h
 obtain⟨j,az,h⟩:=h
 cases ae:decide ((l.getD j default).kind=1)with
 |false=>rw[ae]at h;cases h
 |true=>
  rw[ae]at h
  simp only[cond_true,qc,Prod.mk.injEq]at h
  obtain⟨_,rfl⟩:=h
  exact⟨j,az,rfl,rfl,rfl,cJ ae⟩
theorem xy{p:aD}{s:ByteArray}{t:pA}(h:(s,t)∈gV p):(t.kind=3/\0<=t.index/\t.index<p.params.length)\/(t.kind=4/\0<=t.index/\t.index<p.bt.length)\/(t.kind=8/\0<=t.index/\t.index<p.a1.length)\/(t.kind=9/\0<=t.index/\t.index<p.bM.length)\/(t.kind=5/\0<=t.index/\t.rX=t.index+1/\t.index<p.ah.length/\(p.ah.getD t.index.toNat default).kind=1):=by
 unfold gV at h
 simp only[hy]at h
 rcases h with(((h|h)|h)|h)|h
 ·obtain⟨j,J,W,aH,aV⟩:=H4 h;exact .inl ⟨W,by omega,by omega⟩
 ·obtain⟨j,J,W,aH,aV⟩:=H4 h;exact .inr (.inl ⟨W,by omega,by omega⟩)
 ·obtain⟨j,J,W,aH,aV⟩:=H4 h;exact .inr (.inr (.inl ⟨W,by omega,by omega⟩))
 ·obtain⟨j,J,W,aH,aV⟩:=H4 h;exact .inr (.inr (.inr (.inl ⟨W,by omega,by omega⟩)))
 ·obtain⟨j,J,W,aH,aV,db⟩:=acn h
  exact .inr (.inr (.inr (.inr ⟨W,by omega,by omega,by omega,by rw[aH];simpa using db⟩)))
theorem H5{d:List gj}{i:Int}:∀{l z:List aR},ni d i l=some z->∀j,j<l.length->kp d i (l.getD j default)=some (z.getD j default)
 |[],z,h,j,az=>by simp at az
 |x::r,z,h,j,az=>by
  simp only[ni]at h
  cases J:kp d i x with
  |none=>rw[J]at h;cases h
  |some y=>
   cases W:ni d i r with
   |none=>rw[J,W]at h;cases h
   |some w=>
    rw[J,W]at h;injection h with h;subst h
    cases j with
    |zero=>simpa using J
    |succ j=>simpa using H5 W j (by simpa using az)
theorem LN{n:Int}(h:sr n=true):-2147483648<=n/\n<=2147483647:=by
 unfold sr at h
 cases J:decide (-2147483648<=n)with
 |false=>rw[J]at h;cases h
 |true=>rw[J]at h;exact⟨cJ J,cJ h⟩
theorem iX{a b:Bool}(h:(bif a then b else false)=true):a=true/\b=true:=by cases a<;>cases b<;>simp_all
theorem aco{p:aD}{i:Nat}:∀x:aR,n4 tt x=true->n4 yG x=true->kp (gV p) i x=some x->ff p i x:=aR.ind fun x aJ bf aE aK=>by
 rw[EV,eL,EW,eZ]at bf aE
 rw[AB]at aK
 cases aW:nh (gV p) i x.kind x.name with
 |none=>rw[aW]at aK;cases aK
 |some h=>
  cases aa:ni (gV p) i x.l with
  |none=>rw[aW,aa]at aK;cases aK
  |some z=>
   rw[aW,aa]at aK
   simp only[en]at aK
   have bd:z=x.l:=congrArg aR.l aK
   have x6:h.1=x.kind:=congrArg aR.kind aK
   have jM:h.2=x.index:=congrArg aR.index aK
   subst bd
   obtain⟨J,W⟩:=iX bf.1
   obtain⟨J,aH⟩:=iX J
   obtain⟨J,aV⟩:=iX J
   have hlen:=cJ J
   have nZ:=cJ aH
   obtain⟨gO,s4⟩:=iX aE.1
   have lV:=cJ gO
   have H6:0<=mg x.kind:=by omega
   have iv:n3 x.kind=true->∃t,(x.name,t)∈gV p/\t.rX<=i/\t.kind=x.kind/\t.index=x.index:=fun ae=>by
    unfold nh at aW
    rw[ae,cond_true]at aW
    cases aM:cb (gV p) x.name with
    |none=>rw[aM]at aW;cases aW
    |some t=>
     rw[aM]at aW
     simp only at aW
     cases uR:Cm true i t x.kind with
     |false=>rw[uR]at aW;cases aW
     |true=>
      rw[uR]at aW
      injection aW with aW
      have:=iX uR
      have db:=iX this.1
      exact⟨t,Fq aM,cJ db.2,by rw[<-x6,<-aW],by rw[<-jM,<-aW]⟩
   have ep:x.kind=1\/x.kind=2\/x.kind=3\/x.kind=4\/x.kind=5\/x.kind=6\/x.kind=7\/x.kind=8\/x.kind=9\/x.kind=10\/x.kind=11\/x.kind=12\/x.kind=13\/x.kind=14\/x.kind=15\/x.kind=16\/x.kind=17\/x.kind=18\/x.kind=19:=by
    refine Classical.byContradiction fun nm=>?_
    have:mg x.kind=-1:=by
     unfold mg xc Ax xd yE
     simp only[not_or]at nm
     simp[nm]
    omega
   refine .mk ⟨?_,hlen,fun _=>⟨nZ,lV⟩,fun K=>⟨?_,lV⟩,fun K=>?_,fun K=>?_,fun K=>?_,fun K=>?_,fun K=>?_⟩ fun y ak=>?_
   ·refine⟨by omega,by omega,fun W=>?_⟩
    obtain⟨t,aT,_,K,_⟩:=iv (by rw[W];rfl)
    have:=xy aT
    omega
   ·rw[K]at s4
    have:decide (0<x.n)=true:=by simpa using s4
    have:=cJ this
    omega
   ·obtain⟨t,aT,_,J,W⟩:=iv (by rw[K];rfl);have:=xy aT;omega
   ·obtain⟨t,aT,_,J,W⟩:=iv (by rw[K];rfl);have:=xy aT;omega
   ·obtain⟨t,aT,_,J,W⟩:=iv (by rw[K];rfl);have:=xy aT;omega
   ·obtain⟨t,aT,_,J,W⟩:=iv (by rw[K];rfl);have:=xy aT;omega
   ·obtain⟨t,aT,_,J,W⟩:=iv (by rw[K];rfl);have:=xy aT;omega
   ·obtain⟨j,az,rfl⟩:=List.getElem_of_mem ak
    have aM:x.l.getD j default=x.l[j]:=by rw[cN,dx az];rfl
    have pI:=H5 aa j az
    rw[aM]at pI
    exact aJ _ ak (bf.2 _ ak) (aE.2 _ ak) pI
theorem CL{d:List gj}{l:List eM}:∀{n:Nat} {q:mh×Bool×List eM},jR d l n=some q->∀i,i<n->∃(gP:mh) (x:aR) (r:Int×mh),jR d l i=some (gP,false,q.2.2.take i)/\kp d i (l.getD i default).x=some x/\kK d gP false (l.getD i default)=some r/\q.2.2.getD i default=⟨(l.getD i default).kind,(l.getD i default).name,r.1,x⟩
 |0,q,h,i,hi=>by omega
 |n+1,q,h,i,hi=>by
  simp only[jR]at h
  cases J:jR d l n with
  |none=>rw[J]at h;cases h
  |some eE=>
   rw[J]at h
   simp only[Option.map_eq_some_iff]at h
   obtain⟨r,aE,rfl⟩:=h
   have hlen:=EZ J
   by_cases js:i<n
   ·obtain⟨gP,x,gO,aX,bu,dV,iw⟩:=CL J i js
    refine⟨gP,x,gO,?_,bu,dV,?_⟩
    ·rw[aX]
     simp only[List.take_append,Nat.sub_eq_zero_of_le (show i<=eE.2.2.length by omega),List.take_zero,List.append_nil]
    ·rw[<-iw]
     simp only[cN,pf (show i<eE.2.2.length by omega)]
   ·have:i=n:=by omega
    subst this
    unfold vD at aE
    cases Y:kp d i (l.getD i default).x with
    |none=>rw[Y]at aE;cases aE
    |some x=>
     cases aC:kK d eE.1 eE.2.1 (l.getD i default)with
     |none=>rw[Y,aC]at aE;cases aE
     |some gO=>
      rw[Y,aC]at aE
      simp only at aE
      cases bJ:eE.2.1 with
      |true=>rw[bJ]at aE;cases aE
      |false=>
       rw[bJ]at aE aC
       simp only[Bool.not_false,cond_true,en]at aE
       subst aE
       refine⟨eE.1,x,gO,?_,rfl,aC,?_⟩
       ·rw[J,<-bJ,<-hlen]
        simp
       ·simp[cN,<-hlen]
theorem y2{p:aD}(h:hZ p=some p):Cj p=true/\xe p=true/\uE p=true/\ss p=true/\∃gP,jR (gV p) p.ah p.ah.length=some (gP,true,p.ah):=by
 unfold hZ rE at h
 cases ae:(Cj p&&xe p&&uE p&&ss p)with
 |false=>rw[ae]at h;cases h
 |true=>
  rw[ae,cond_true]at h
  simp only[eL]at ae
  refine⟨ae.1.1.1,ae.1.1.2,ae.1.2,ae.2,?_⟩
  cases aE:jR (gV p) p.ah p.ah.length with
  |none=>rw[aE]at h;cases h
  |some q=>
   rw[aE]at h
   simp only[Cn]at h
   cases bJ:q.2.1 with
   |false=>rw[bJ]at h;cases h
   |true=>
    rw[bJ,cond_true]at h
    injection h with h
    have:=congrArg aD.ah h
    simp only at this
    exact⟨q.1,by rw[<-bJ];congr 1;rw[<-this]⟩
theorem oV{α:Type}[Inhabited α]{l:List α}{f:α->Bool}(h:l.all f=true){i:Nat}(hi:i<l.length):f (l.getD i default)=true:=eZ.1 h _ (dJ hi)
theorem LO{b:cA}(h:yF b=true):(-2147483648<=b.lo/\b.lo<=2147483647)/\(-2147483648<=b.hi/\b.hi<=2147483647)/\b.lo<=b.hi:=by
 unfold yF at h
 obtain⟨J,aH⟩:=iX h
 obtain⟨J,W⟩:=iX J
 exact⟨LN J,LN W,cJ aH⟩
theorem LP{p:aD}(h:hZ p=some p){i:Nat}(hi:i<p.ah.length):ff p i (p.ah.getD i default).x/\((p.ah.getD i default).kind=2->0<=(p.ah.getD i default).index/\(p.ah.getD i default).index<p.bt.length)/\((p.ah.getD i default).kind=3->0<=(p.ah.getD i default).index/\(p.ah.getD i default).index<p.a1.length):=by
 obtain⟨bf,aa,aq,aE,gP,aT⟩:=y2 h
 obtain⟨gP,x,r,_,bu,dV,iw⟩:=CL aT i hi
 simp only at iw
 have Y:(p.ah.getD i default).x=x:=by rw[iw]
 have Sq:(p.ah.getD i default).index=r.1:=by rw[iw]
 have J:=oV bf hi
 simp only[eL]at J
 unfold ss at aE
 simp only[eL]at aE
 refine⟨aco _ J.2 (oV aE.2 hi) (by rw[Y];rw[<-Y];rw[Y]at bu⊢;exact bu),fun K=>?_,fun K=>?_⟩
 all_goals
  rw[Sq]
  unfold kK at dV
  have an:tv (p.ah.getD i default).kind=true:=by rw[K];rfl
  rw[an,cond_true]at dV
  cases aM:cb (gV p) (p.ah.getD i default).name with
  |none=>rw[aM]at dV;cases dV
  |some t=>
   rw[aM]at dV
   simp only at dV
   cases ae:decide (t.kind=qa (p.ah.getD i default).kind)with
   |false=>rw[ae]at dV;cases dV
   |true=>
    rw[ae,cond_true]at dV
    cases aj:(bif(!false)then !(cb gP (t.kind,t.index)).getD false else false)with
    |false=>rw[aj]at dV;cases dV
    |true=>
     rw[aj,cond_true]at dV
     injection dV with dV
     have Fs:=cJ ae
     rw[K]at Fs
     have:=xy (Fq aM)
     rw[<-dV]
     unfold qa at Fs
     simp at Fs
     simp only
     omega
theorem Sr{α β:Type}[Inhabited α][Inhabited β]{l:List α}{f:α->β}{i:Nat}(hi:i<l.length):(l.map f).getD i default=f (l.getD i default):=by simp[cN,hi]
theorem AT{n:Int}(h:-2147483648<=n/\n<=2147483647):dw n:=⟨by omega,by omega⟩
theorem H7{p:aD}(Z:p.b5)(h:hZ p=some p):nk p:=by
 obtain⟨bf,aa,aq,aE,gP,aT⟩:=y2 h
 unfold ss at aE
 simp only[eL]at aE
 obtain⟨⟨ae,pk⟩,_⟩:=aE
 rw[List.all_append,List.all_append,eL,eL]at ae
 unfold xe at aa
 simp only[eL]at aa
 refine⟨⟨Z,fun i hi=>?_,fun i hi=>?_,fun i hi=>?_,fun i hi=>⟨?_,?_,fun j=>?_⟩⟩,fun i hi=>(LP h hi).1,fun i hi=>(LP h hi).2.1,fun i hi=>(LP h hi).2.2⟩
 ·have:=LO (oV ae.1.1 hi);exact⟨AT this.1,AT this.2.1⟩
 ·have:=LO (oV ae.1.2 hi);exact⟨AT this.1,AT this.2.1⟩
 ·have:=LO (b:=oL (p.a1.getD i default)) (by have:=oV ae.2 (i:=i) (by simpa using hi);rwa[Sr hi]at this);exact⟨AT this.1,AT this.2.1⟩
 ·have:=oV aa.1.2 hi
  have:=cJ (iX this).1
  omega
 ·have:=oV aa.1.2 hi
  have:=cJ (iX this).2
  omega
 ·have:=oV pk hi
  unfold Ck at this
  have nm:((p.bM.getD i default).dU.any fun n=> !sr n)=false:=by simpa using this
  rw[List.any_eq_false]at nm
  by_cases az:j<(p.bM.getD i default).dU.length
  ·have:=nm _ (List.getElem_mem az)
   rw[cN,dx az]
   exact AT (LN (by simpa using this))
  ·rw[cN,List.getElem?_eq_none (by omega)];exact⟨by decide,by decide⟩
theorem acp{p:aD}(Z:p.b5):∀q,hZ p=some q->tw p q=true->nk p:=fun q h an=>by
 have:=(Ll p q).1 an
 subst this
 exact H7 Z h
theorem H8{α:Type}[Inhabited α]{l:List α}{x:α}(h:x∈l):∃j,j<l.length/\l.getD j default=x:=by
 obtain⟨j,az,rfl⟩:=List.getElem_of_mem h
 exact⟨j,az,by rw[cN,dx az];rfl⟩
theorem acq{d:List gj}(aq:∀s t,(s,t)∈d->e1 t.kind/\e1 t.index){i:Int}:∀x:aR,x.b5->∀z,kp d i x=some z->z.b5:=aR.ind fun x aJ Y z aK=>by
 rw[AB]at aK
 cases aW:nh d i x.kind x.name with
 |none=>rw[aW]at aK;cases aK
 |some h=>
  cases aa:ni d i x.l with
  |none=>rw[aW,aa]at aK;cases aK
  |some r=>
   rw[aW,aa]at aK
   simp only[en]at aK
   subst aK
   have hlen:=Lj aa
   have hI:e1 h.1/\e1 h.2:=by
    unfold nh at aW
    cases ae:n3 x.kind with
    |false=>rw[ae,cond_false]at aW;injection aW with aW;subst aW;exact⟨Y.kind,show e1 (0:Int)from⟨by decide,by decide⟩⟩
    |true=>
     rw[ae,cond_true]at aW
     cases aM:cb d x.name with
     |none=>rw[aM]at aW;cases aW
     |some t=>
      rw[aM]at aW
      simp only at aW
      cases uR:Cm true i t x.kind with
      |false=>rw[uR]at aW;cases aW
      |true=>rw[uR]at aW;injection aW with aW;subst aW;exact aq _ _ (Fq aM)
   refine .mk hI.1 hI.2 Y.Cg (by have:=Y.len;omega) fun y ak=>?_
   obtain⟨j,az,rfl⟩:=H8 ak
   exact aJ _ (dJ (by omega)) (Y.part _ (dJ (by omega))) _ (H5 aa j (by omega))
theorem Ss{p q:aD}(Z:p.b5)(h:hZ p=some q):q.b5:=by
 unfold hZ rE at h
 cases ae:(Cj p&&xe p&&uE p&&ss p)with
 |false=>rw[ae]at h;cases h
 |true=>
  rw[ae,cond_true]at h
  cases aE:jR (gV p) p.ah p.ah.length with
  |none=>rw[aE]at h;cases h
  |some r=>
   rw[aE]at h
   simp only[Cn]at h
   cases bJ:r.2.1 with
   |false=>rw[bJ]at h;cases h
   |true=>
    rw[bJ,cond_true]at h
    injection h with h
    subst h
    have hlen:=EZ aE
    have og:∀s t,(s,t)∈gV p->e1 t.kind/\e1 t.index:=fun s t aT=>by
     have J:=Z.nf;have W:=Z.hH;have aH:=Z.gH;have aV:=Z.cg;have db:=Z.kJ
     have:=xy aT
     exact⟨⟨by omega,by omega⟩,⟨by omega,by omega⟩⟩
    refine⟨Z.n2,Z.tail,Z.nf,Z.hH,Z.gH,Z.cg,by show r.2.2.length<=_;rw[hlen];exact Z.kJ,Z.params,Z.bt,Z.a1,Z.bM,fun s an=>?_⟩
    obtain⟨j,az,rfl⟩:=H8 an
    have pH:j<p.ah.length:=by rw[<-hlen];exact az
    obtain⟨gP,x,gO,_,bu,dV,iw⟩:=CL aE j pH
    have ES:=Z.ah _ (dJ pH)
    show eM.b5 (r.2.2.getD j default)
    rw[iw]
    refine⟨ES.1,?_,acq og _ ES.2.2 _ bu⟩
    show e1 gO.1
    unfold kK at dV
    cases an:tv (p.ah.getD j default).kind with
    |false=>rw[an,cond_false]at dV;injection dV with dV;subst dV;exact show e1 (0:Int)from⟨by decide,by decide⟩
    |true=>
     rw[an,cond_true]at dV
     cases aM:cb (gV p) (p.ah.getD j default).name with
     |none=>rw[aM]at dV;cases dV
     |some t=>
      rw[aM]at dV
      simp only at dV
      have zT:=(og _ _ (Fq aM)).2
      cases l8:decide (t.kind=qa (p.ah.getD j default).kind)with
      |false=>rw[l8]at dV;cases dV
      |true=>
       rw[l8,cond_true]at dV
       cases l9:(bif(!false)then !(cb gP (t.kind,t.index)).getD false else false)with
       |false=>rw[l9]at dV;cases dV
       |true=>rw[l9,cond_true]at dV;injection dV with dV;subst dV;exact zT
section
variable {P:Program} {S:ad} {ro:eR} {ops:Array Oper} {E:c7}
class LQ (ro:eR) (e:Bool):Prop where
 gn:ro.gn=e
instance {r:Option Nat} {p:List PanicEntry×ad->Prop} {m e:Bool}:LQ ⟨r,p,m,e⟩ e:=⟨rfl⟩
theorem qT{e0:Bool}[he:LQ ro e0]{aY S':ad}{cD:Call}{ty:TypeId}{pos:String}{a6:Array Edge}{r:List Oper}{L:List cx}{t:Nat}{g:FuncId}{args:List ai}{res:ai}{aS a8 cw cW:ad}{aA:List Nat}{X:List PanicEntry->Prop}(new ds:List Nat)(hz:jq aY true cD g args)(an:oG P e0 g args aS res a8 aA X cw)(aM:hS P g=true)
  (aK:jC aY aS) (aW:nR aY aS a8 res aA new ds=true) (uy:nR aY aS cw (.bE []) aA [] ds=true) (hg:tk aY cw cW) (nt:B8 cw cW ds t=true) (Z:∀bc,X bc->ro.gm (bc,cW))
  (bf:h7 ⟨cQ ⟨some t,.call cD,ty,pos,a6,none⟩++(gU aS++gU cW),aY,im ds a8 t res,new⟩ aY=true) (h:bI P ro ops r (aY.s8 ds a8 t res) L S'):
  bI P ro ops (⟨some t,.call cD,ty,pos,a6,none⟩::r) aY (⟨cQ ⟨some t,.call cD,ty,pos,a6,none⟩++(gU aS++gU cW),aY,im ds a8 t res,new⟩::L) S':=
 bI.Qi new ds hz (by rw[he.gn];exact an) aM aK aW uy hg nt Z bf h
theorem bI.St{e0:Bool}[he:LQ ro e0]{aY S':ad}{cD:Call}{ty:TypeId}{pos:String}{a6:Array Edge}{r:List Oper}{L:List cx}{t:Nat}{rz:Nat}{args:List ai}{res:ai}{aS a8 cw cW:ad}{aA:List Nat}{X:List PanicEntry->Prop}(new ds:List Nat)(hz:Et aY cD rz args)(an:G9 P e0 rz args aS res a8 aA X cw)
  (aK:jC aY aS) (aW:nR aY aS a8 res aA new ds=true) (uy:nR aY aS cw (.bE []) aA [] ds=true) (hg:tk aY cw cW) (nt:B8 cw cW ds t=true) (Z:∀bc,X bc->ro.gm (bc,cW))
  (bf:h7 ⟨cQ ⟨some t,.call cD,ty,pos,a6,none⟩++(gU aS++gU cW),aY,im ds a8 t res,new⟩ aY=true) (h:bI P ro ops r (aY.s8 ds a8 t res) L S'):
  bI P ro ops (⟨some t,.call cD,ty,pos,a6,none⟩::r) aY (⟨cQ ⟨some t,.call cD,ty,pos,a6,none⟩++(gU aS++gU cW),aY,im ds a8 t res,new⟩::L) S':=
 bI.YV new ds hz (by rw[he.gn];exact an) aK aW uy hg nt Z bf h
end
abbrev eX:=List (Int×Int)×List (Int×Bool)
abbrev hs:=Option (eX×Int)
abbrev Ft(f:Int->Int):Option hs->Option hs
 |some (some r)=>some (some (r.1,f r.2))
 |some none=>some none
 |none=>none
mutual
def rM(gJ:aR->eX->Int->Option hs):aR->eX->Int->Option hs
 | .mk k s i m l,bC,n=>match gJ (.mk k s i m l) bC n with
  |none=>none
  |some none=>some none
  |some (some r)=>sD gJ l r.1 r.2
def sD(gJ:aR->eX->Int->Option hs):List aR->eX->Int->Option hs
 |[],bC,n=>some (some (bC,n))
 |y::r,bC,n=>match rM gJ y bC n with
  |none=>none
  |some none=>some none
  |some (some q)=>sD gJ r q.1 q.2
end
theorem LR(gJ:aR->eX->Int->Option hs)(x:aR)(bC:eX)(n:Int):rM gJ x bC n=match gJ x bC n with
 |none=>none
 |some none=>some none
 |some (some r)=>sD gJ x.l r.1 r.2:=by cases x;rw[rM];rfl
theorem LS{gJ:aR->eX->Int->Option hs}{l:List aR}{i:Nat}(h:i<l.length)(bC:eX)(n:Int):sD gJ (l.drop i) bC n=match rM gJ (l.getD i default) bC n with
 |none=>none
 |some none=>some none
 |some (some q)=>sD gJ (l.drop (i+1)) q.1 q.2:=by rw[E4 h,sD]
abbrev AU(n:Int):Int:=IntKind.wrap .i64 n
def tF(p:aD)(cG:List ((Int×Int)×Int))(lh:Int->eX->Option hs)(a:Int)(x:aR)(bC:eX):Option hs:=
 bif decide (x.kind=5)then lh x.index bC
 else bif decide (x.kind=4)then match cb cG (2,x.index)with
  |some b=>bif decide (b<a)then lh b bC else Ft (fun v=>AU (v+1)) (lh b bC)
  |none=>some (some (bC,0))
 else bif decide (x.kind=8)then match cb cG (3,x.index)with
  |some b=>Ft (fun v=>AU (v+(p.a1.getD x.index.toNat default).size)) (lh b bC)
  |none=>some (some (bC,0))
 else some (some (bC,0))
def vQ(p:aD)(cG:List ((Int×Int)×Int))(lh:Int->eX->Option hs)(a:Int)(x:aR)(bC:eX)(n:Int):Option hs:=Ft (fun v=>max n v) (tF p cG lh a x bC)
def oW(p:aD)(cG:List ((Int×Int)×Int)):Nat->Int->eX->Option hs
 |0,_,_=>none
 |f+1,a,bC=>bif(cb bC.2 a).getD false then some none else match cb bC.1 a with
  |some n=>some (some (bC,n))
  |none=>match rM (vQ p cG (oW p cG f) a) (p.ah.getD a.toNat default).x (bC.1,dM bC.2 a true) 0 with
   |none=>none
   |some none=>some none
   |some (some r)=>some (some ((dM r.1.1 a r.2,dM r.1.2 a false),r.2))
def iY(p:aD):Nat->List ((Int×Int)×Int)
 |0=>[]
 |n+1=>bif(bif decide ((p.ah.getD n default).kind=2)then true else decide ((p.ah.getD n default).kind=3))then dM (iY p n) ((p.ah.getD n default).kind,(p.ah.getD n default).index) (n:Int)else iY p n
theorem CM(p:aD):∀n k v,cb (iY p n) k=some v->0<=v/\v<n
 |0,k,v,h=>by cases h
 |n+1,k,v,h=>by
  unfold iY at h
  cases ae:(bif decide ((p.ah.getD n default).kind=2)then true else decide ((p.ah.getD n default).kind=3))with
  |false=>
   rw[ae,cond_false]at h
   have:=CM p n k v h
   omega
  |true=>
   rw[ae,cond_true,oI]at h
   split at h
   ·injection h with h;omega
   ·have:=CM p n k v h
    omega
abbrev y3:hs->eX
 |some r=>r.1
 |none=>([],[])
abbrev H9:hs->Int
 |some r=>r.2
 |none=>0
theorem acr(a b:List Int)(aC:a.length<=65536):bw prog 135 [.d (ch a),.d (ch b)] [] (bk (mO xi a b)) [] []:=by
 refine cB [.tmp 4] func135 D D fun E K af=>?_
 refine aL 1 D<|al<|aL 5 D<|a7 D (fun aP=>?_) fun aP=>?_
 ·have b2:a.length≠b.length:=by have h:(!decide ((a.length:Int)=b.length))=true:=aP;simp at h;omega
  refine aL 1 D<|bp<|dr D ?_
  show bk _=_;rw[yI b2];rfl
 have aa:a.length=b.length:=by have h:(!decide ((a.length:Int)=b.length))=false:=aP;simp at h;omega
 refine bx<|al<|aL 3 D<|bX<|eP (σ:=Nat) [(ab 0,_),(ab 1,_),(ab 12,_)] (fun i=>[(ab 13,.aB (aF .i64 ((i:Int))))]) (fun i=>i<=a.length/\∀j,j<i->xi (a.getD j default) (b.getD j default)=true) (fun i=>a.length-i) 0 (aZ D<|aU) (ck D D<|aZ D<|aU) ⟨Nat.zero_le _,fun j az=>by omega⟩ fun i hi=>?_
 refine aL 1 D<|al<|a7 D (fun bq=>?_) fun bq=>?_
 ·have aG:i<a.length:=eJ bq
  have vk:i<b.length:=by omega
  refine bx<|al<|bX<|aL 2 D<|ft (O 2 D<|bW fB D D<|O 3 D<|bW fB D D<|aN 2 D)<|a7 D (fun b3=>?_) fun b3=>?_
  ·have eG:xi (a.getD i default) (b.getD i default)=false:=by have h:(!xi (a.getD i default) (b.getD i default))=true:=b3;simpa using h
   refine aL 1 D<|bp<|dr D ?_
   show bk _=_;rw[Cp aG eG];rfl
  have eG:xi (a.getD i default) (b.getD i default)=true:=by have h:(!xi (a.getD i default) (b.getD i default))=false:=b3;simpa using h
  exact bx<|bm (cp D D D<|aN 1 D)<|⟨i+1,⟨aG,fun j az=>by rcases Nat.lt_succ_iff_lt_or_eq.1 az with h|rfl<;>first|exact hi.2 j h|exact eG⟩,by omega,aZ (ec (by omega))<|aU,ck D D<|aZ D<|aU⟩
 have eW:a.length<=i:=by have:=dj bq;omega
 refine dW<|aL 1 D<|bp<|dr D ?_
 show bk _=_;rw[Co aa eW hi.2];rfl
theorem Su(a b:List cA)(aC:a.length<=65536):bw prog 138 [.d (dN a),.d (dN b)] [] (bk (mO uF a b)) [] []:=by
 refine cB [.tmp 4] func138 D D fun E K af=>?_
 refine aL 1 D<|al<|aL 5 D<|a7 D (fun aP=>?_) fun aP=>?_
 ·have b2:a.length≠b.length:=by have h:(!decide ((a.length:Int)=b.length))=true:=aP;simp at h;omega
  refine aL 1 D<|bp<|dr D ?_
  show bk _=_;rw[yI b2];rfl
 have aa:a.length=b.length:=by have h:(!decide ((a.length:Int)=b.length))=false:=aP;simp at h;omega
 refine bx<|al<|aL 3 D<|bX<|eP (σ:=Nat) [(ab 0,_),(ab 1,_),(ab 12,_)] (fun i=>[(ab 13,.aB (aF .i64 ((i:Int))))]) (fun i=>i<=a.length/\∀j,j<i->uF (a.getD j default) (b.getD j default)=true) (fun i=>a.length-i) 0 (aZ D<|aU) (ck D D<|aZ D<|aU) ⟨Nat.zero_le _,fun j az=>by omega⟩ fun i hi=>?_
 refine aL 1 D<|al<|a7 D (fun bq=>?_) fun bq=>?_
 ·have aG:i<a.length:=eJ bq
  have vk:i<b.length:=by omega
  refine bx<|al<|bX<|aL 2 D<|ft (O 2 D<|bW lE D D<|O 3 D<|bW lE D D<|O 1 D<|ag (.K4 (p:=E0 (a.getD i default)) (q:=E0 (b.getD i default)) (by kernel_rfl) D (I D) (I D))<|ar)<|a7 D (fun b3=>?_) fun b3=>?_
  ·have eG:uF (a.getD i default) (b.getD i default)=false:=by have h:(!uF (a.getD i default) (b.getD i default))=true:=b3;simpa using h
   refine aL 1 D<|bp<|dr D ?_
   show bk _=_;rw[Cp aG eG];rfl
  have eG:uF (a.getD i default) (b.getD i default)=true:=by have h:(!uF (a.getD i default) (b.getD i default))=false:=b3;simpa using h
  exact bx<|bm (cp D D D<|aN 1 D)<|⟨i+1,⟨aG,fun j az=>by rcases Nat.lt_succ_iff_lt_or_eq.1 az with h|rfl<;>first|exact hi.2 j h|exact eG⟩,by omega,aZ (ec (by omega))<|aU,ck D D<|aZ D<|aU⟩
 have eW:a.length<=i:=by have:=dj bq;omega
 refine dW<|aL 1 D<|bp<|dr D ?_
 show bk _=_;rw[Co aa eW hi.2];rfl
theorem acs(a b:List fQ)(aC:a.length<=65536):bw prog 139 [.d (hJ a),.d (hJ b)] [] (bk (mO vE a b)) [] []:=by
 refine cB [.tmp 4] func139 D D fun E K af=>?_
 refine aL 1 D<|al<|aL 5 D<|a7 D (fun aP=>?_) fun aP=>?_
 ·have b2:a.length≠b.length:=by have h:(!decide ((a.length:Int)=b.length))=true:=aP;simp at h;omega
  refine aL 1 D<|bp<|dr D ?_
  show bk _=_;rw[yI b2];rfl
 have aa:a.length=b.length:=by have h:(!decide ((a.length:Int)=b.length))=false:=aP;simp at h;omega
 refine bx<|al<|aL 3 D<|bX<|eP (σ:=Nat) [(ab 0,_),(ab 1,_),(ab 12,_)] (fun i=>[(ab 13,.aB (aF .i64 ((i:Int))))]) (fun i=>i<=a.length/\∀j,j<i->vE (a.getD j default) (b.getD j default)=true) (fun i=>a.length-i) 0 (aZ D<|aU) (ck D D<|aZ D<|aU) ⟨Nat.zero_le _,fun j az=>by omega⟩ fun i hi=>?_
 refine aL 1 D<|al<|a7 D (fun bq=>?_) fun bq=>?_
 ·have aG:i<a.length:=eJ bq
  have vk:i<b.length:=by omega
  refine bx<|al<|bX<|aL 2 D<|ft (O 2 D<|bW nV D D<|O 3 D<|bW nV D D<|O 1 D<|ag (.K4 (p:=E1 (a.getD i default)) (q:=E1 (b.getD i default)) (by kernel_rfl) D (I D) (I D))<|ar)<|a7 D (fun b3=>?_) fun b3=>?_
  ·have eG:vE (a.getD i default) (b.getD i default)=false:=by have h:(!vE (a.getD i default) (b.getD i default))=true:=b3;simpa using h
   refine aL 1 D<|bp<|dr D ?_
   show bk _=_;rw[Cp aG eG];rfl
  have eG:vE (a.getD i default) (b.getD i default)=true:=by have h:(!vE (a.getD i default) (b.getD i default))=false:=b3;simpa using h
  exact bx<|bm (cp D D D<|aN 1 D)<|⟨i+1,⟨aG,fun j az=>by rcases Nat.lt_succ_iff_lt_or_eq.1 az with h|rfl<;>first|exact hi.2 j h|exact eG⟩,by omega,aZ (ec (by omega))<|aU,ck D D<|aZ D<|aU⟩
 have eW:a.length<=i:=by have:=dj bq;omega
 refine dW<|aL 1 D<|bp<|dr D ?_
 show bk _=_;rw[Co aa eW hi.2];rfl
theorem acu(a b:e2)(aC:a.dU.length<=65536):bw prog 134 [.d (.agg (xa a)),.d (.agg (xa b))] [] (bk (uG a b)) [] []:=by
 refine cB [.tmp 4] func134 D D fun E K af=>?_
 exact aO (cV 2 D D D<|cV 3 D D D<|aN 1 D)<|aO (O 4 D<|ag (.seq (I D) (I D))<|O 1 D<|cX D G1 (I D) D<|dP D km D D D<|cX D G1 (I D) D<|dP D km D D D<|na D (jr (.cons (bH D) (.cons (bH D) .nil))) (fun h=>acr _ _ aC) (au D)<|eg D D D<|aN 1 D)<|bp<|dr D D
theorem acv(a b:List e2)(aC:a.length<=65536)(dX:∀x∈a,x.dU.length<=65536):bw prog 140 [.d (ia a),.d (ia b),.fn 134 []] [] (bk (mO uG a b)) [] []:=by
 refine cB [.tmp 6] func140 D D fun E K af=>?_
 refine aL 1 D<|al<|aL 5 D<|a7 D (fun aP=>?_) fun aP=>?_
 ·have b2:a.length≠b.length:=by have h:(!decide ((a.length:Int)=b.length))=true:=aP;simp at h;omega
  refine aL 1 D<|bp<|dr D ?_
  show bk _=_;rw[yI b2];rfl
 have aa:a.length=b.length:=by have h:(!decide ((a.length:Int)=b.length))=false:=aP;simp at h;omega
 refine bx<|al<|aL 3 D<|bX<|eP (σ:=Nat) [(ab 1,_),(ab 2,_),(ab 15,_),(ab 16,_)] (fun i=>[(ab 17,.aB (aF .i64 ((i:Int))))]) (fun i=>i<=a.length/\∀j,j<i->uG (a.getD j default) (b.getD j default)=true) (fun i=>a.length-i) 0 (aZ D<|aU) (da D D D D<|aU) ⟨Nat.zero_le _,fun j az=>by omega⟩ fun i hi=>?_
 refine aL 1 D<|al<|a7 D (fun bq=>?_) fun bq=>?_
 ·have aG:i<a.length:=eJ bq
  have vk:i<b.length:=by omega
  refine bx<|al<|bX<|aO (O 1 D<|bW wS D D<|O 1 D<|cm 8 wV D<|O 1 D<|cL Ad D D D D<|ar)<|aO (O 2 D<|bW wS D D<|O 1 D<|cm 9 wV D<|cL Ad D D D D<|ar)<|aO (O 3 D<|cY (kU D D D) (acu (a.getD i default) (b.getD i default) (dX _ (dJ aG))) (au D)<|aN 1 D)<|a7 D (fun b3=>?_) fun b3=>?_
  ·have eG:uG (a.getD i default) (b.getD i default)=false:=by have h:(!uG (a.getD i default) (b.getD i default))=true:=b3;simpa using h
   refine aL 1 D<|bp<|dr D ?_
   show bk _=_;rw[Cp aG eG];rfl
  have eG:uG (a.getD i default) (b.getD i default)=true:=by have h:(!uG (a.getD i default) (b.getD i default))=false:=b3;simpa using h
  exact bx<|bm (cp D D D<|aN 1 D)<|⟨i+1,⟨aG,fun j az=>by rcases Nat.lt_succ_iff_lt_or_eq.1 az with h|rfl<;>first|exact hi.2 j h|exact eG⟩,by omega,aZ (ec (by omega))<|aU,da D D D D<|aU⟩
 have eW:a.length<=i:=by have:=dj bq;omega
 refine dW<|aL 1 D<|bp<|dr D ?_
 show bk _=_;rw[Co aa eW hi.2];rfl
theorem acw(a b:List aR)(aC:a.length<=65536)(aJ:∀x∈a,∀y,bw prog 137 [.d (.agg (cr x)),.d (.agg (cr y))] [] (bk (n7 x y)) [] []):bw prog 184 [.d (rB a),.d (rB b),.fn 137 []] [] (bk (mO n7 a b)) [] []:=by
 refine cB [.tmp 6] func184 D D fun E K af=>?_
 refine aL 1 D<|al<|aL 5 D<|a7 D (fun aP=>?_) fun aP=>?_
 ·have b2:a.length≠b.length:=by have h:(!decide ((a.length:Int)=b.length))=true:=aP;simp at h;omega
  refine aL 1 D<|bp<|dr D ?_
  show bk _=_;rw[yI b2];rfl
 have aa:a.length=b.length:=by have h:(!decide ((a.length:Int)=b.length))=false:=aP;simp at h;omega
 refine bx<|al<|aL 3 D<|bX<|eP (σ:=Nat) [(ab 1,_),(ab 2,_),(ab 15,_),(ab 16,_)] (fun i=>[(ab 17,.aB (aF .i64 ((i:Int))))]) (fun i=>i<=a.length/\∀j,j<i->n7 (a.getD j default) (b.getD j default)=true) (fun i=>a.length-i) 0 (aZ D<|aU) (da D D D D<|aU) ⟨Nat.zero_le _,fun j az=>by omega⟩ fun i hi=>?_
 refine aL 1 D<|al<|a7 D (fun bq=>?_) fun bq=>?_
 ·have aG:i<a.length:=eJ bq
  have vk:i<b.length:=by omega
  refine bx<|al<|bX<|aO (O 1 D<|ag ((eN iR D D).bK (iT aG))<|O 1 D<|cm 8 hn D<|O 1 D<|cL dL D D D D<|ar)<|aO (O 2 D<|ag ((eN iR D D).bK (iT vk))<|O 1 D<|cm 9 hn D<|cL dL D D D D<|ar)<|aO (O 3 D<|cY (kU D D D) (aJ (a.getD i default) (dJ aG) (b.getD i default)) (au D)<|aN 1 D)<|a7 D (fun b3=>?_) fun b3=>?_
  ·have eG:n7 (a.getD i default) (b.getD i default)=false:=by have h:(!n7 (a.getD i default) (b.getD i default))=true:=b3;simpa using h
   refine aL 1 D<|bp<|dr D ?_
   show bk _=_;rw[Cp aG eG];rfl
  have eG:n7 (a.getD i default) (b.getD i default)=true:=by have h:(!n7 (a.getD i default) (b.getD i default))=false:=b3;simpa using h
  exact bx<|bm (cp D D D<|aN 1 D)<|⟨i+1,⟨aG,fun j az=>by rcases Nat.lt_succ_iff_lt_or_eq.1 az with h|rfl<;>first|exact hi.2 j h|exact eG⟩,by omega,aZ (ec (by omega))<|aU,da D D D D<|aU⟩
 have eW:a.length<=i:=by have:=dj bq;omega
 refine dW<|aL 1 D<|bp<|dr D ?_
 show bk _=_;rw[Co aa eW hi.2];rfl
theorem acx(x:aR)(Y:x.b5)(y:aR)(aJ:∀z∈x.l,∀y,bw prog 137 [.d (.agg (cr z)),.d (.agg (cr y))] [] (bk (n7 z y)) [] []):bw prog 137 [.d (.agg (cr x)),.d (.agg (cr y))] [] (bk (n7 x y)) [] []:=by
 refine cB [.tmp 4] func137 D D fun E K af=>?_
 refine aO (cV 2 D D D<|cV 3 D D D<|aN 1 D)<|aO (O 6 D<|cX D Kq (I D) D<|dP D ry D D D<|cX D Kq (I D) D<|dP D ry D D D<|cF [] D (.seq (bH D) (bH D))<|eg D D D<|O 1 D<|cX D GZ (I D) D<|dP D bY D D D<|cX D GZ (I D) D<|dP D bY D D D<|c6 D D (bH D) D<|eg D D D<|O 1 D<|cX D Ab (I D) D<|dP D bY D D D<|cX D Ab (I D) D<|dP D bY D D D<|c6 D D (bH D) D<|eg D D D<|O 1 D<|cX D nW (I D) D<|dP D kn D D D<|cX D nW (I D) D<|dP D kn D D D<|na D (jr (.cons (bH D) (.cons (bH D) (.cons (I D) .nil)))) (fun h=>acw x.l y.l (by have:=Y.len;omega) aJ) (au D)<|eg D D D<|aN 1 D)<|bp<|dr D ?_
 show bk _=_;rw[Q7,Lk];rfl
theorem acy:∀x:aR,x.b5->∀y,bw prog 137 [.d (.agg (cr x)),.d (.agg (cr y))] [] (bk (n7 x y)) [] []:=aR.ind fun x aJ Y y=>acx x Y y fun z bd y=>aJ z bd (Y.part z bd) y
theorem acz(a b:eM)(Y:a.x.b5):bw prog 136 [.d (.agg (jf a)),.d (.agg (jf b))] [] (bk (uH a b)) [] []:=by
 refine cB [.tmp 4] func136 D D fun E K af=>?_
 exact aO (cV 2 D D D<|cV 3 D D D<|aN 1 D)<|aO (O 6 D<|cX D Kr (I D) D<|dP D ry D D D<|cX D Kr (I D) D<|dP D ry D D D<|cF [] D (.seq (bH D) (bH D))<|eg D D D<|O 1 D<|cX D Ks (I D) D<|dP D bY D D D<|cX D Ks (I D) D<|dP D bY D D D<|c6 D D (bH D) D<|eg D D D<|O 1 D<|cX D O6 (I D) D<|cF [_] D (.pT dL (bH D) D fun _=>cC D)<|cX D O6 (I D) D<|cF [_] D (.pT dL (bH D) D fun _=>cC D)<|na D (jr (.cons (bH D) (.cons (bH D) .nil))) (fun h=>acy a.x Y b.x) (au D)<|eg D D D<|aN 1 D)<|bp<|dr D D
theorem acA(a b:List eM)(aC:a.length<=65536)(dX:∀x∈a,x.x.b5):bw prog 141 [.d (iS a),.d (iS b),.fn 136 []] [] (bk (mO uH a b)) [] []:=by
 refine cB [.tmp 6] func141 D D fun E K af=>?_
 refine aL 1 D<|al<|aL 5 D<|a7 D (fun aP=>?_) fun aP=>?_
 ·have b2:a.length≠b.length:=by have h:(!decide ((a.length:Int)=b.length))=true:=aP;simp at h;omega
  refine aL 1 D<|bp<|dr D ?_
  show bk _=_;rw[yI b2];rfl
 have aa:a.length=b.length:=by have h:(!decide ((a.length:Int)=b.length))=false:=aP;simp at h;omega
 refine bx<|al<|aL 3 D<|bX<|eP (σ:=Nat) [(ab 1,_),(ab 2,_),(ab 15,_),(ab 16,_)] (fun i=>[(ab 17,.aB (aF .i64 ((i:Int))))]) (fun i=>i<=a.length/\∀j,j<i->uH (a.getD j default) (b.getD j default)=true) (fun i=>a.length-i) 0 (aZ D<|aU) (da D D D D<|aU) ⟨Nat.zero_le _,fun j az=>by omega⟩ fun i hi=>?_
 refine aL 1 D<|al<|a7 D (fun bq=>?_) fun bq=>?_
 ·have aG:i<a.length:=eJ bq
  have vk:i<b.length:=by omega
  refine bx<|al<|bX<|aO (O 1 D<|bW qH D D<|O 1 D<|cm 8 nX D<|O 1 D<|cL qI D D D D<|ar)<|aO (O 2 D<|bW qH D D<|O 1 D<|cm 9 nX D<|cL qI D D D D<|ar)<|aO (O 3 D<|cY (kU D D D) (acz (a.getD i default) (b.getD i default) (dX _ (dJ aG))) (au D)<|aN 1 D)<|a7 D (fun b3=>?_) fun b3=>?_
  ·have eG:uH (a.getD i default) (b.getD i default)=false:=by have h:(!uH (a.getD i default) (b.getD i default))=true:=b3;simpa using h
   refine aL 1 D<|bp<|dr D ?_
   show bk _=_;rw[Cp aG eG];rfl
  have eG:uH (a.getD i default) (b.getD i default)=true:=by have h:(!uH (a.getD i default) (b.getD i default))=false:=b3;simpa using h
  exact bx<|bm (cp D D D<|aN 1 D)<|⟨i+1,⟨aG,fun j az=>by rcases Nat.lt_succ_iff_lt_or_eq.1 az with h|rfl<;>first|exact hi.2 j h|exact eG⟩,by omega,aZ (ec (by omega))<|aU,da D D D D<|aU⟩
 have eW:a.length<=i:=by have:=dj bq;omega
 refine dW<|aL 1 D<|bp<|dr D ?_
 show bk _=_;rw[Co aa eW hi.2];rfl
theorem Sv(p q:aD)(Z:p.b5):bw prog 83 [.d (fR p),.d (fR q)] [] (bk (tw p q)) [] []:=by
 refine cB [.tmp 4] func83 D D fun E K af=>?_
 exact aO (cV 2 D D D<|cV 3 D D D<|aN 1 D)<|aL 1 D<|aL 1 D<|aO (O 4 D<|ag (.seq (I D) (I D))<|O 1 D<|cX D BO (I D) D<|dP D bY D D D<|cX D BO (I D) D<|dP D bY D D D<|c6 D D (bH D) D<|eg D D D<|O 1 D<|cX D BP (I D) D<|dP D bY D D D<|cX D BP (I D) D<|dP D bY D D D<|c6 D D (bH D) D<|eg D D D<|aN 1 D)<|aO (O 2 D<|cX D Kk (I D) D<|dP D p2 D D D<|cX D Kk (I D) D<|dP D p2 D D D<|na D (jr (.cons (bH D) (.cons (bH D) .nil))) (fun h=>Su p.params q.params Z.nf) (au D)<|eg D D D<|O 1 D<|cX D Kl (I D) D<|dP D p2 D D D<|cX D Kl (I D) D<|dP D p2 D D D<|na D (jr (.cons (bH D) (.cons (bH D) .nil))) (fun h=>Su p.bt q.bt Z.hH) (au D)<|eg D D D<|O 1 D<|cX D GY (I D) D<|dP D uo D D D<|cX D GY (I D) D<|dP D uo D D D<|na D (jr (.cons (bH D) (.cons (bH D) .nil))) (fun h=>acs p.a1 q.a1 Z.gH) (au D)<|eg D D D<|O 1 D<|cX D Km (I D) D<|dP D GX D D D<|cX D Km (I D) D<|dP D GX D D D<|dp D D<|na D (jr (.cons (bH D) (.cons (bH D) (.cons (bH D) .nil)))) (fun h=>acv p.bM q.bM Z.cg fun t aT=>(Z.bM t aT).1) (au D)<|eg D D D<|O 1 D<|cX D z7 (I D) D<|dP D vo D D D<|cX D z7 (I D) D<|dP D vo D D D<|dp D D<|na D (jr (.cons (bH D) (.cons (bH D) (.cons (bH D) .nil)))) (fun h=>acA p.ah q.ah Z.kJ fun t aT=>(Z.ah t aT).2.2) (au D)<|eg D D D<|aN 1 D)<|bp<|dr D D
end Go.Proofs.YtfgcfofjjiinjaaGreatDoor

/- TopMeaning: texts of the walk and of the plain law, part 5 of 6. -/
import Derived.Maps.RangeRun
import Derived.Test.YtfgcfofjjiinjaaGreatDoorPk3
namespace Go.Proofs.YtfgcfofjjiinjaaGreatDoor
open Go Tryz
set_option linter.unusedVariables false
set_option linter.unusedSimpArgs false
set_option maxRecDepth 100000
set_option maxHeartbeats 4000000
theorem MC{l:List Int}{B:Int}(bb:0<=B)(h:∀i,i<l.length->l.getD i 0<=B):∀n,n<=l.length->0<=(iq l n).1/\(iq l n).1<=B
 |0,_=>⟨Int.le_refl _,bb⟩
 |n+1,af=>by
  have aJ:=MC bb h n (by omega)
  have:=h n (by omega)
  unfold iq
  cases ae:decide ((iq l n).1<l.getD n 0)with
  |true=>have:=cJ ae;simp only[cond_true];omega
  |false=>simp only[cond_false];exact aJ
theorem TM{l:List Int}{B n:Int}(af:0<=n/\n<=B)(h:∀i,i<l.length->l.getD i 0+i<=B):∀k,k<=l.length->0<=qZ l n k/\qZ l n k<=B
 |0,_=>af
 |k+1,K=>by
  have aJ:=TM af h k (by omega)
  have:=h k (by omega)
  unfold qZ
  omega
theorem TN{x:aR}{i:Nat}(hi:i<x.l.length):dY (x.l.getD i default)<=dY x:=by
 rw[tr x]
 have J:=xf hi
 have W:jE (x.l.take (i+1))<=jE x.l:=by
  rw[uC,uC,<-List.take_append_drop (i+1) (x.l.map dY)]
  rw[List.map_take,List.sum_append]
  omega
 omega
theorem afe{l:List Int}{B:Int}(aV:l.length<=4)(bb:1<=B)(h:∀i,i<l.length->0<=l.getD i 0/\l.getD i 0<=B):0<=q0 l/\q0 l<=B+3:=by
 have aw:=MC (by omega) (fun i hi=>(h i hi).2) l.length (Nat.le_refl _)
 have oQ:bT l=iq l l.length:=rfl
 rw[<-oQ]at aw
 unfold q0
 cases decide (l.length=0)with
 |true=>simp only[cond_true];omega
 |false=>
  rw[cond_false]
  cases decide (l.length=1)with
  |true=>simp only[cond_true];omega
  |false=>
   rw[cond_false]
   cases decide (l.length=2)with
   |true=>
    rw[cond_true]
    have:l.getD (1-(bT l).2).toNat 0<=B:=by
     by_cases hi:(1-(bT l).2).toNat<l.length
     ·exact(h _ hi).2
     ·rw[cN,List.getElem?_eq_none (by omega)];show(0:Int)<=B;omega
    omega
   |false=>
    rw[cond_false]
    exact TM ⟨by omega,by omega⟩ (fun i hi=>by
     rw[nH]at hi
     rw[oj]
     have:=(h i hi).2
     split<;>omega) _ (by rw[nH];exact Nat.le_refl _)
theorem aff:∀x:aR,x.b5->0<=eF x/\eF x<=3*dY x:=aR.ind fun x aJ Y=>by
 rw[xF,tr]
 have aV:=Y.len
 have uY:∀i,i<x.l.length->dY (x.l.getD i default)<=jE x.l:=fun i hi=>by
  have J:=xf hi
  have W:jE (x.l.take (i+1))<=jE x.l:=by
   rw[uC,uC,<-List.take_append_drop (i+1) (x.l.map dY)]
   rw[List.map_take,List.sum_append]
   omega
  omega
 by_cases aa:x.l.length=0
 ·have e:q0 (bn x.l)=1:=by unfold q0;rw[gl (by rw[mS];exact aa),cond_true]
  rw[e]
  omega
 have J:=uY 0 (by omega)
 have W:1<=dY (x.l.getD 0 default):=by rw[tr];omega
 have:=afe (l:=bn x.l) (B:=3*(jE x.l:Int)) (by rw[mS];exact aV) (by omega) (fun i hi=>by
  rw[mS]at hi
  rw[xG hi]
  have J:=aJ _ (dJ hi) (Y.part _ (dJ hi))
  have W:=uY i hi
  omega)
 omega
theorem ID(l:List Int)(aa:l.length<=65536):bw prog 81 [.aQ 18 l.length] [(G 18,.U (.bG 1 l.length [.cv .i64 l]))] (.bE [.d (av (bT l).1),.d (av (bT l).2)]) [(G 18,.U (.bG 1 l.length [.cv .i64 l]))] [18]:=by
 refine cB [.tmp 2,.tmp 3] func81 D D fun E K af=>?_
 refine aL 2 D<|al<|aL 3 D<|bX<|eP (σ:=Nat) [(ab 6,_),(ab 7,_),(G 18,_)] (fun i=>[(ab 8,.aB (aF .i64 (i:Int))),(ab 2,.aB (aF .i64 (iq l i).1)),(ab 3,.aB (aF .i64 (iq l i).2))]) (fun i=>i<=l.length) (fun i=>l.length-i) 0 (ck D D<|aZ D<|aU) (ck D D<|aZ D<|aU) (Nat.zero_le _) fun i hi=>?_
 refine aL 1 D<|al<|a7 D (fun aP=>?_) fun aP=>?_
 ·have aG:i<l.length:=eJ aP
  refine bx<|al<|bX<|aO (O 1 D<|ag (.mx fB (I D) (I D) fun _=>⟨by omega,by omega⟩)<|cH [_] (.pU bY (I D) D D D fun _=>by omega)<|aN 2 D)<|aL 3 D<|a7 D (fun bq=>?_) fun bq=>?_
  ·have h5:iq l (i+1)=(l.getD i 0,(i:Int)):=by rw[iq,show decide ((iq l i).1<l.getD i 0)=true from bq,cond_true]
   exact fS 4 D<|bm (cp D D D<|aN 1 D)<|⟨i+1,aG,fD (by assumption),aZ (ec (by omega))<|aZ (by rw[h5];rfl)<|aZ (by rw[h5];rfl)<|aU,ck D D<|aZ D<|aU⟩
  have h5:iq l (i+1)=iq l i:=by rw[iq,show decide ((iq l i).1<l.getD i 0)=false from bq,cond_false]
  exact bx<|bm (cp D D D<|aN 1 D)<|⟨i+1,aG,fD (by assumption),aZ (ec (by omega))<|aZ (by rw[h5];rfl)<|aZ (by rw[h5];rfl)<|aU,ck D D<|aZ D<|aU⟩
 obtain rfl:i=l.length:=by have:=dj aP;omega
 exact dW<|aL 4 D<|bp<|⟨.inr D,⟨_,(.cons (.tmp D) (.cons (.tmp D) .nil)),rfl⟩,cU (.cons D .nil)⟩
theorem afg(x:aR)(Y:x.b5)(ae:dY x<=65536)(aJ:∀y,y∈x.l->bw prog 82 [.d (.agg (cr y))] [] (aF .i64 (eF y)) [] []):bw prog 82 [.d (.agg (cr x))] [] (aF .i64 (eF x)) [] []:=by
 have Tt:=Y.len
 have qC:(bn x.l).length=x.l.length:=mS _
 have nt:∀i,i<(bn x.l).length->0<=(bn x.l).getD i default/\(bn x.l).getD i default<=3*65536:=fun i hi=>by
  rw[qC]at hi
  rw[show(bn x.l).getD i default=_ from xG hi]
  have J:=aff _ (Y.part _ (dJ hi))
  have W:dY (x.l.getD i default)<=dY x:=TN hi
  omega
 have px:=y7 (bn x.l) (bn x.l).length
 have oQ:bT (bn x.l)=iq (bn x.l) (bn x.l).length:=rfl
 rw[<-oQ]at px
 refine cB [.tmp 2] func82 D D fun E K af=>?_
 refine aO (cV 1 D D D<|aN 1 D)<|aL 1 D<|al<|al<|c1 (b1.ve (t:=3) (l:=18) (n:=1) (cs:=[.cv .i64 []]) D D (by rw[K];decide) (by rw[af];exact cC D) D (by simp[bz.len]))<|fS 4 rfl<|bX<|eP (σ:=Nat) [(ab 11,_),(ab 12,_),(G 1,_)] (fun i=>[(ab 13,.aB (aF .i64 (i:Int))),(ab 3,.aB (.aQ 18 i)),(G 18,.U (.bG 1 i [.cv .i64 ((bn x.l).take i)]))]) (fun i=>i<=x.l.length) (fun i=>x.l.length-i) 0 (ck D D<|aZ D<|aU) (ck D D<|aZ D<|aU) (Nat.zero_le _) fun i hi=>?_
 refine aL 1 D<|al<|a7 D (fun aP=>?_) fun aP=>?_
 ·have aG:i<x.l.length:=eJ aP
  have fz:(bn x.l).take (i+1)=(bn x.l).take i++[eF (x.l.getD i default)]:=by rw[uD (by rw[mS];exact aG),show(bn x.l).getD i default=_ from xG aG]
  have Mq:((bn x.l).take i).length=i:=by rw[rv,mS];omega
  exact bx<|al<|bX<|aO (ag ((eN iR D D).bK (y:=.cc (cr (x.l.getD i default))) (iT (by omega)))<|O 1 D<|cm 5 hn D<|cL dL D D D D<|ar)<|gI 18 19 D<|bm (O 2 D<|cY (cf D) (aJ (x.l.getD i default) (dJ aG)) (au D)<|gN 20 [] iQ iC D (by decide) (by decide) (ba D D D (.nil _ _)) D D D<|hA 18 [G 19] p0 p1 (by decide) (.aQ (I D) D) (.aQ (I D) D) (bz.hT D) (hB D) (by omega) (by omega) (cs:=[.cv .i64 ((bn x.l).take i++[eF (x.l.getD i default)])]) D D<|aN 1 D)<|bm (cp D D D<|aN 1 D)<|⟨i+1,aG,fD (by assumption),aZ (ec (by omega))<|aZ D<|aZ (by rw[fz];rfl)<|aU,ck D D<|aZ D<|aU⟩
 obtain rfl:i=(bn x.l).length:=by have:=dj aP;rw[mS];omega
 rw[List.take_length]
 refine dW<|aO (O 1 D<|kI (cf D) (ID (bn x.l) (by omega)) (au D) (.cons D .nil) D<|aN 5 D)<|al<|aL 2 D<|bX<|aL 2 D<|a7 D (fun bq=>?_) fun bq=>?_
 ·have oa:decide ((bn x.l).length=0)=true:=gl (by have:=cJ bq;omega)
  have e:eF x=1:=by rw[xF,q0,oa,cond_true]
  refine aL 1 D<|bp<|dr D ?_
  rw[e];rfl
 have oa:decide ((bn x.l).length=0)=false:=hG (by have:=dj bq;omega)
 refine aL 2 D<|a7 D (fun b3=>?_) fun b3=>?_
 ·have iF:decide ((bn x.l).length=1)=true:=gl (by have:=cJ b3;omega)
  have e:eF x=(bT (bn x.l)).1:=by rw[xF,q0,oa,cond_false,iF,cond_true]
  refine aL 2 D<|bp<|dr D ?_
  rw[e];rfl
 have iF:decide ((bn x.l).length=1)=false:=hG (by have:=dj b3;omega)
 refine aL 2 D<|a7 D (fun et=>?_) fun et=>?_
 ·have afh:(bn x.l).length=2:=by have:=cJ et;omega
  have gr:decide ((bn x.l).length=2)=true:=gl afh
  have e:eF x=max (bT (bn x.l)).1 ((bn x.l).getD (1-(bT (bn x.l)).2).toNat 0+1):=by rw[xF,q0,oa,cond_false,iF,cond_false,gr,cond_true]
  have aM:=nt (1-(bT (bn x.l)).2).toNat (by omega)
  have IE:(bn x.l).getD (1-(bT (bn x.l)).2).toNat 0<=3*65536:=aM.2
  have MD:0<=(bn x.l).getD (1-(bT (bn x.l)).2).toNat 0:=aM.1
  refine aO (O 3 D<|cp D D D<|ag (.mx fB (I D) (I D) fun _=>⟨by omega,by omega⟩)<|cH [_] (.pU bY (I D) D D D fun _=>by omega)<|cp D D D<|ag (.max2 (I D) (I D))<|aN 1 D)<|bp<|dr D ?_
  rw[e];rfl
 have gr:decide ((bn x.l).length=2)=false:=hG (by have:=dj et;omega)
 have b2:(bn x.l).length≠0:=dj oa
 have e:eF x=qZ ((bn x.l).set (bT (bn x.l)).2.toNat 1) (bT (bn x.l)).1 (bn x.l).length:=by rw[xF,q0,oa,cond_false,iF,cond_false,gr,cond_false]
 refine bx<|aO (O 2 D<|ag (.mx fB (I D) (I D) fun _=>⟨by omega,by omega⟩)<|x9 bY (I D) (I D) D D D D (by decide) (by simp[ai.fk,jo]) rfl (by omega)<|ar)<|al<|aL 3 D<|bX<|eP (σ:=Nat) [(ab 48,_),(ab 49,_),(G 18,_)] (fun k=>[(ab 50,.aB (aF .i64 (k:Int))),(ab 6,.aB (aF .i64 (qZ ((bn x.l).set (bT (bn x.l)).2.toNat 1) (bT (bn x.l)).1 k)))]) (fun k=>k<=(bn x.l).length) (fun k=>(bn x.l).length-k) 0 (ck D D<|aU) (ck D D<|aZ D<|aU) (Nat.zero_le _) fun k kC=>?_
 refine aL 1 D<|al<|a7 D (fun eQ=>?_) fun eQ=>?_
 ·have l1:k<(bn x.l).length:=eJ eQ
  have ajF:0<=((bn x.l).set (bT (bn x.l)).2.toNat 1).getD (k:Int).toNat 0/\((bn x.l).set (bT (bn x.l)).2.toNat 1).getD (k:Int).toNat 0<=3*65536:=by
   rw[show(k:Int).toNat=k from rfl,oj]
   split
   ·omega
   ·exact nt k l1
  exact bx<|al<|bX<|aO (O 1 D<|ag (.mx fB (I D) (I D) fun _=>⟨by omega,by omega⟩)<|cH [_] (.pU bY (I D) D D D fun _=>by omega)<|aN 2 D)<|bm (O 3 D<|cp D D D<|ag (.max2 (I D) (I D))<|aN 1 D)<|bm (cp D D D<|aN 1 D)<|⟨k+1,l1,by show(bn x.l).length-(k+1)<(bn x.l).length-k;omega,aZ (ec (by omega))<|aZ D<|aU,ck D D<|aZ D<|aU⟩
 obtain rfl:k=(bn x.l).length:=by have:=dj eQ;omega
 refine dW<|aL 2 D<|bp<|dr D ?_
 rw[e];rfl
theorem zb:∀x:aR,x.b5->dY x<=65536->bw prog 82 [.d (.agg (cr x))] [] (aF .i64 (eF x)) [] []:=aR.ind fun x aJ Y ae=>afg x Y ae fun y ak=>by
 obtain⟨j,az,rfl⟩:=H8 ak
 exact aJ _ ak (Y.part _ ak) (Nat.le_trans (TN az) ae)
abbrev Bb(p:aD)(L:Nat)(c:dC)(r:Int):cO:=.cells [.d (av p.cR),.d (av p.tail),.d (dN p.params),.d (dN p.bt),.d (hJ p.a1),.d (nI (p.bM.map e2.dU)),.d (av r),.aQ L c.length,.mp 42,.d (.v .nilFunc),.fn 29 [],.d (.v .nilFunc),.fn 78 [.cc [av 2]],.fn 78 [.cc [av 3]],.fn 32 [],.fn 79 [.cc [av 8]],.fn 79 [.cc [av 9]],.fn 79 [.cc [av 10]],.fn 79 [.cc [av 11]],.fn 79 [.cc [av 12]],.fn 80 [.cc [av 13]],.fn 80 [.cc [av 14]],.fn 79 [.cc [av 15]],.fn 79 [.cc [av 16]],.fn 80 [.cc [av 17]],.fn 35 [],.fn 80 [.cc [av 19]],.fn 79 [.cc [av 20]],.fn 36 []]
abbrev wb(c:dC):List bz:=[.cv .i64 (c.map Prod.fst),.cv .i64 (c.map Prod.snd)]
theorem afi(c:dC)(i:Int×Int):ma (wb c) [.cv .i64 [i.1],.cv .i64 [i.2]]=wb (c++[i]):=by simp[ma,nz,wb,bz.qB]
abbrev mU(p:aD)(rg:List (Int×Int))(c:dC)(r:Int)(L:Nat):ad:=[(G 40,.U (Bb p L c r)),(G L,.U (.bG 2 c.length (wb c))),(G 42,.U (hE fe av rg))]
def C6(p:aD)(rg:List (Int×Int))(x:aR):Prop:=∀(c:dC) (r:Int),c.length+3*dY x<=100000->0<=r->r+dY x<=100000->bw prog 37 [.ao 40 0,.d (.agg (cr x))] (mU p rg c r 41) (.bE []) (mU p rg (c++(bP rg x r).1) (bP rg x r).2 45) [40,42]
theorem ME{x:aR}(h:x.l.length=1):dY x=dY (x.l.getD 0 default)+1:=by
 rw[tr x]
 match aa:x.l,h with
 |[a],_=>simp[jE]
theorem FU{x:aR}(h:x.l.length=2):dY x=dY (x.l.getD 0 default)+dY (x.l.getD 1 default)+1:=by
 rw[tr x]
 match aa:x.l,h with
 |[a,b],_=>simp[jE]
theorem MF{x:aR}(h:x.l.length=4):dY x=dY (x.l.getD 0 default)+dY (x.l.getD 1 default)+dY (x.l.getD 2 default)+dY (x.l.getD 3 default)+1:=by
 rw[tr x]
 match aa:x.l,h with
 |[a,b,c,d],_=>simp[jE];omega
def ql(c:kd)(n:Nat):Prop:=∀r:Int,(c r).1.length<=3*n/\r<=(c r).2/\(c r).2<=r+n
theorem ql.xL{op a:Int}{n:Nat}(h:1<=n):ql (pM op a) n:=fun r=>⟨by show 1<=_;omega,Int.le_refl _,by show r<=_;omega⟩
theorem ql.IF{op a:Int}{c:kd}{n m:Nat}(h:ql c n)(aw:n+1<=m):ql (jU op a c) m:=fun r=>by
 have:=h r
 refine⟨?_,this.2.1,?_⟩
 ·show((c r).1++[(op,a)]).length<=_;rw[ef];simp only[np];omega
 ·show(c r).2<=_;omega
theorem ql.zc{op:Int}{c d:kd}{n k m:Nat}(h:ql c n)(h':ql d k)(aw:n+k+1<=m):ql (jV op c d) m:=fun r=>by
 have J:=h r
 have W:=h' (c r).2
 refine⟨?_,?_,?_⟩
 ·show((c r).1++(d (c r).2).1++[(op,0)]).length<=_;rw[ef,ef];simp only[np];omega
 ·show r<=(d (c r).2).2;omega
 ·show(d (c r).2).2<=_;omega
theorem ql.MG{ps:List kd}{k:Nat}{n:Nat->Nat}{m:Nat}(K:k<4)(h:∀i,i<4->ql (ps.getD i default) (n i))(af:∀i,i<4->1<=n i)(aw:n 0+n 1+n 2+n 3+1<=m):ql (xE ps (k:Int)) m:=fun r=>by
 have key:∀(r0 r:Int) (j:Nat),j<=4->((ew ps k r0 r j).1.length+(if k<j then 3*n k else 0)<=3*((List.range j).map n).sum+(if k<j then 1 else 0))/\r<=(ew ps k r0 r j).2/\(ew ps k r0 r j).2+(if k<j then(n k:Int)else 0)<=r+((List.range j).map n).sum:=by
  intro r0 r j
  induction j with
  |zero=>intro _;refine⟨?_,Int.le_refl _,?_⟩<;>simp[ew]
  |succ j aJ=>
   intro az
   obtain⟨i1,i2,i3⟩:=aJ (by omega)
   have an:((List.range (j+1)).map n).sum=((List.range j).map n).sum+n j:=by rw[List.range_succ];simp
   rw[an]
   unfold ew
   by_cases e:j=k
   ·subst e
    rw[gl rfl,cond_true]
    simp only[ef,np]
    split at i1<;>split at i3<;>simp only[qk,if_true]<;>omega
   ·rw[hG (by omega),cond_false]
    have Z:=h j (by omega) (ew ps k r0 r j).2
    simp only[ef]
    by_cases J:k<j
    ·rw[if_pos J]at i1 i3
     rw[if_pos J]at i1
     rw[if_pos (show k<j+1 by omega),if_pos (show k<j+1 by omega),if_pos (show k<j+1 by omega)]
     omega
    ·rw[if_neg J]at i1 i3
     rw[if_neg J]at i1
     rw[if_neg (show¬k<j+1 by omega),if_neg (show¬k<j+1 by omega),if_neg (show¬k<j+1 by omega)]
     omega
 have Z:=h k K (r+1)
 obtain⟨ca,a2,a3⟩:=key r (ps.getD k default (r+1)).2 4 (by omega)
 rw[if_pos (show k<4 by omega)]at ca a3
 rw[if_pos (show k<4 by omega)]at ca
 have an:((List.range 4).map n).sum=n 0+n 1+n 2+n 3:=by simp[List.range_succ];omega
 rw[an]at ca a3
 refine⟨?_,?_,?_⟩
 ·show((ps.getD (k:Int).toNat default (r+1)).1++[(5,r)]++(ew ps k r (ps.getD (k:Int).toNat default (r+1)).2 4).1++[(21,0)]).length<=_
  rw[show(k:Int).toNat=k from rfl]
  simp only[ef,np]
  omega
 ·show r<=(ew ps k r (ps.getD (k:Int).toNat default (r+1)).2 4).2
  rw[show(k:Int).toNat=k from rfl]
  omega
 ·show(ew ps k r (ps.getD (k:Int).toNat default (r+1)).2 4).2<=_
  rw[show(k:Int).toNat=k from rfl]
  omega
theorem zd(x:aR):1<=dY x:=by rw[tr];omega
theorem afj{p:aD}{m:Nat}{rg:List (Int×Int)}:∀x:aR,ff p m x->ql (bP rg x) (dY x):=aR.ind fun x aJ Y=>by
 cases Y with
 |mk h Z=>
  have fl:∀i,i<x.l.length->ql ((fo rg x.l).getD i default) (dY (x.l.getD i default)):=fun i hi=>by rw[kX _ hi];exact aJ _ (dJ hi) (Z _ (dJ hi))
  have ir:=y7 (bn x.l) (bn x.l).length
  rw[mS]at ir
  have rT:bT (bn x.l)=iq (bn x.l) x.l.length:=by unfold bT;rw[mS]
  rw[<-rT]at ir
  have hlen:=h.len
  have oh:=zd x
  rw[nr]
  rcases h.cases with K|K|K|K|K|K|K|K|K|K|K|K|K|K|K|K|K|K<;>(unfold mn;rw[K]at hlen⊢;change ql (_:kd) _)
  ·exact .xL oh
  ·exact .xL oh
  ·exact .xL oh
  ·exact .xL oh
  all_goals first
   |(
     have J:x.l.length=1:=by(have:(x.l.length:Int)=1:=hlen);omega
     exact(fl 0 (by omega)).IF (by rw[ME J];omega))
   |(
     have J:x.l.length=2:=by(have:(x.l.length:Int)=2:=hlen);omega
     have af:=FU J
     rcases xJ ir.1 (by have:=ir.2.2 (by omega);omega)with⟨_,aX,bu⟩|⟨_,aX,bu⟩<;>rw[aX,bu]
     · exact(fl 0 (by omega)).zc (fl 1 (by omega)) (by omega)
     · exact(fl 1 (by omega)).zc (fl 0 (by omega)) (by omega))
   |skip
  ·have J:x.l.length=2:=by(have:(x.l.length:Int)=2:=hlen);omega
   have af:=FU J
   cases decide ((bn x.l).getD 1 0<=(bn x.l).getD 0 0)with
   |true=>exact(fl 0 (by omega)).zc (fl 1 (by omega)) (by omega)
   |false=>
    intro r
    have ca:=fl 1 (by omega) r
    have a2:=fl 0 (by omega) ((fo rg x.l).getD 1 default r).2
    refine⟨?_,?_,?_⟩
    · show((((fo rg x.l).getD 1 default r).1++[(16,0)])++((fo rg x.l).getD 0 default ((fo rg x.l).getD 1 default r).2).1++[(17,0)]).length<=_
      simp only[ef,np]
      omega
    · show r<=((fo rg x.l).getD 0 default ((fo rg x.l).getD 1 default r).2).2;omega
    · show((fo rg x.l).getD 0 default ((fo rg x.l).getD 1 default r).2).2<=_;omega
  ·have J:x.l.length=4:=by(have:(x.l.length:Int)=4:=hlen);omega
   have af:=MF J
   have CS:=ir.2.2 (by omega)
   have cS:(bT (bn x.l)).2=(((bT (bn x.l)).2.toNat:Nat):Int):=by omega
   rw[cS]
   exact ql.MG (n:=fun i=>dY (x.l.getD i default)) (by omega) (fun i hi=>fl i (by omega)) (fun i hi=>zd _) (by omega)
theorem q2{p:aD}{m:Nat}{rg:List (Int×Int)}(x:aR)(h:ff p m x)(r:Int):(bP rg x r).1.length<=3*dY x/\r<=(bP rg x r).2/\(bP rg x r).2<=r+dY x:=afj x h r
theorem afk(o:Option Int):ai.d (o.elim (av 0) av)=aF .i64 (o.getD 0):=by cases o<;>rfl
theorem ze{p:aD}{m:Nat}{x:aR}{k:Int}(dh:ff p m x)(K:x.kind=k)(aC:mg k=2):(bT (bn x.l)).2.toNat<x.l.length/\(1-(bT (bn x.l)).2).toNat<x.l.length:=by
 have hlen:=dh.fy.1.len
 rw[K,aC]at hlen
 have ir:=y7 (bn x.l) (bn x.l).length
 have rT:bT (bn x.l)=iq (bn x.l) (bn x.l).length:=rfl
 rw[<-rT,mS]at ir
 omega
theorem q3(p:aD)(rg:List (Int×Int))(c:dC)(r op a:Int)(aj:c.length<=400000):bw prog 30 [.ao 40 0,aF .i64 op,aF .i64 a] (mU p rg c r 41) (.bE []) (mU p rg (c++[(op,a)]) r 45) [40,42]:=by
 refine cB [] func30 D D fun E K af=>?_
 exact bm (O 8 D<|ag (.build G3 Ye (ba D D D (ba D D D (.nil _ _))) D)<|gN 15 [] W5 G3 D (by decide) (by decide) (ba D D D (.nil _ _)) D D D<|hA 45 [G 41] W6 W7 (by decide) (.aQ (I D) D) (.aQ (I D) D) (bz.hT D) (hB D) (by omega) (by omega) (cs:=wb (c++[(op,a)])) (afi c (op,a)) D<|O 3 D<|iG Kn D D D D D<|ar)<|⟨.inl D,⟨_,(.nil),rfl⟩,cU (.cons (by unfold Bb;rw[ef];rfl) (.cons (by rw[ef];rfl) (.cons D .nil)))⟩
theorem TO(p:aD)(rg:List (Int×Int))(c:dC)(r:Int)(bb:0<=r)(J:r<=400000):bw prog 38 [.ao 40 0] (mU p rg c r 41) (aF .i64 r) (mU p rg c (r+1) 41) [40,41,42]:=by
 refine cB [.tmp 2] func38 D D fun E K af=>?_
 refine aL 1 D<|aO (O 5 D<|cp D D D<|O 3 D<|iG bY D D D D D<|ar)<|aO (O 5 D<|cp D D D<|aN 1 D)<|bp<|⟨.inr D,⟨_,(.cons (.tmp D) .nil),?_⟩,cU (.eC D D D)⟩
 show aF .i64 r=aF .i64 (r+1-1);rw[Int.add_sub_cancel]
theorem afl{p:aD}{rg:List (Int×Int)}(x:aR)(c:dC)(r:Int)(aj:c.length<=400000):bw prog 29 [.ao 40 0,.d (.agg (cr x))] (mU p rg c r 41) (.bE []) (mU p rg (c++(pM 1 x.n r).1) (pM 1 x.n r).2 45) [40,42]:=by
 refine cB [] func29 D D fun E K af=>?_
 exact aO (cV 3 D D D<|ar)<|bm (O 3 D<|ct [45] [G 40,G 41,G 42] (hd D D D) (q3 p rg c r 1 x.n (by omega)) (au D) (.eC D D D) D D<|ar)<|⟨.inl D,⟨_,(.nil),rfl⟩,cU (.eC D D D)⟩
theorem TP{p:aD}{rg:List (Int×Int)}(op:Int)(x:aR)(c:dC)(r:Int)(aj:c.length<=400000):bw prog 78 [.ao 40 0,.d (.agg (cr x)),.cc [av op]] (mU p rg c r 41) (.bE []) (mU p rg (c++(pM op x.index r).1) (pM op x.index r).2 45) [40,42]:=by
 refine cB [] func78 D D fun E K af=>?_
 exact aO (cV 4 D D D<|ar)<|bm (O 4 D<|ct [45] [G 40,G 41,G 42] (hd D D D) (q3 p rg c r op x.index (by omega)) (au D) (.eC D D D) D D<|ar)<|⟨.inl D,⟨_,(.nil),rfl⟩,cU (.eC D D D)⟩
theorem afm{p:aD}{rg:List (Int×Int)}(x:aR)(c:dC)(r:Int)(aj:c.length<=400000):bw prog 32 [.ao 40 0,.d (.agg (cr x))] (mU p rg c r 41) (.bE []) (mU p rg (c++(pM 4 ((cb rg x.index).getD 0) r).1) (pM 4 ((cb rg x.index).getD 0) r).2 45) [40,42]:=by
 refine cB [] func32 D D fun E K af=>?_
 exact aO (cV 3 D D D<|ar)<|eo (O 7 D<|cH [_] ((Pure.rD (kv:=fe) (k:=x.index) (f:=av) iW (I D) (.v (I D)) D).bK (y:=aF .i64 ((cb rg x.index).getD 0)) (afk _))<|ct [45] [G 40,G 41,G 42] (hd D D D) (q3 p rg c r 4 ((cb rg x.index).getD 0) (by omega)) (au D) (.eC D D D) D D<|ar)<|⟨.inl D,⟨_,(.nil),rfl⟩,cU (.eC D D D)⟩
theorem zf{p:aD}{rg:List (Int×Int)}{m:Nat}(op:Int)(x:aR)(Y:x.b5)(dh:ff p m x)(W:AY p x)(H6:mg x.kind=1)(rk:x.kind≠1/\6<=x.kind)(aJ:∀y,y∈x.l->C6 p rg y)(c:dC)(r:Int)(aj:c.length+3*dY x<=100000)(jY:0<=r)(aE:r+dY x<=100000):bw prog 79 [.ao 40 0,.d (.agg (cr x)),.cc [av op]] (mU p rg c r 41) (.bE []) (mU p rg (c++(jU op (x.index+x.n) (bP rg (x.l.getD 0 default)) r).1) (jU op (x.index+x.n) (bP rg (x.l.getD 0 default)) r).2 45) [40,42]:=by
 have hlen:=dh.fy.1.len
 rw[H6]at hlen
 have iF:x.l.length=1:=by omega
 have lJ:=ME iF
 have zg:=q2 (rg:=rg) (x.l.getD 0 default) (dh.fy.2 _ (dJ (show 0<x.l.length by omega))) r
 have afn:=Y.ZF
 have afo:=Y.Cg
 have uY:e1 (x.index+x.n):=by
  by_cases Mj:x.kind=18
  ·rw[W.y5 (by omega) (by omega) (by omega),Int.zero_add];exact afo
  ·rw[W.n rk.1 Mj,Int.add_zero];exact afn
 have AQ:=uY.1
 have Ah:=uY.2
 have rW:c++(jU op (x.index+x.n) (bP rg (x.l.getD 0 default)) r).1=c++(bP rg (x.l.getD 0 default) r).1++[(op,x.index+x.n)]:=by show c++(_++_)=_;rw[List.append_assoc]
 refine cB [] func79 D D fun E K af=>?_
 exact aO (cV 4 D D D<|ar)<|aO (O 3 D<|ag ((eN iR D D).bK (y:=.cc (cr (x.l.getD 0 default))) (iT (by omega)))<|O 1 D<|ct [45] [G 40,G 41,G 42] (cn D D) (aJ (x.l.getD 0 default) (dJ (show 0<x.l.length by omega)) c r (by omega) (by omega) (by omega)) (au D) (.eC D D D) D D<|ar)<|gI 45 41 D<|bm (O 6 D<|cp D D D<|ct [45] [G 40,G 41,G 42] (hd D D D) (q3 p rg (c++(bP rg (x.l.getD 0 default) r).1) (bP rg (x.l.getD 0 default) r).2 op (x.index+x.n) (by(simp only[ef,ek,List.length_nil];omega))) (au D) (.eC D D D) D D<|ar)<|⟨.inl D,⟨_,(.nil),rfl⟩,cU (.cons (by rw[rW];rfl) (.cons (by rw[rW];rfl) (.cons D .nil)))⟩
theorem IG{p:aD}{rg:List (Int×Int)}{m:Nat}(op:Int)(x:aR)(Y:x.b5)(dh:ff p m x)(W:AY p x)(H6:mg x.kind=2)(rk:6<=x.kind)(aJ:∀y,y∈x.l->C6 p rg y)(c:dC)(r:Int)(aj:c.length+3*dY x<=100000)(jY:0<=r)(aE:r+dY x<=100000):bw prog 80 [.ao 40 0,.d (.agg (cr x)),.cc [av op]] (mU p rg c r 41) (.bE []) (mU p rg (c++((jV op (bP rg (x.l.getD (bT (bn x.l)).2.toNat default)) (bP rg (x.l.getD (1-(bT (bn x.l)).2).toNat default))) r).1) ((jV op (bP rg (x.l.getD (bT (bn x.l)).2.toNat default)) (bP rg (x.l.getD (1-(bT (bn x.l)).2).toNat default))) r).2 45) [40,42]:=by
 have hlen:=dh.fy.1.len
 rw[H6]at hlen
 have xD:x.l.length=2:=by omega
 have lJ:=FU xD
 have iv:bn x.l=[eF (x.l.getD 0 default),eF (x.l.getD 1 default)]:=by
  match aa:x.l,xD with
  |[a,b],_=>rfl
 have MH:bw prog 81 [.aQ 18 2] [(G 18,.U (.bG 1 2 [.cv .i64 [eF (x.l.getD 0 default),eF (x.l.getD 1 default)]]))] (.bE [.d (av (bT (bn x.l)).1),.d (av (bT (bn x.l)).2)]) [(G 18,.U (.bG 1 2 [.cv .i64 [eF (x.l.getD 0 default),eF (x.l.getD 1 default)]]))] [18]:=by
  rw[iv]
  exact ID [eF (x.l.getD 0 default),eF (x.l.getD 1 default)] (by simp)
 have ir:=y7 (bn x.l) (bn x.l).length
 have rT:bT (bn x.l)=iq (bn x.l) (bn x.l).length:=rfl
 rw[<-rT,mS,xD]at ir
 have TQ:=ir.2.2 (by decide)
 have cS:dY (x.l.getD (bT (bn x.l)).2.toNat default)+dY (x.l.getD (1-(bT (bn x.l)).2).toNat default)+1=dY x:=by
  rcases xJ ir.1 (by omega)with⟨_,aX,bu⟩|⟨_,aX,bu⟩<;>rw[aX,bu]<;>omega
 have zg:=q2 (rg:=rg) (x.l.getD (bT (bn x.l)).2.toNat default) (dh.fy.2 _ (dJ (show(bT (bn x.l)).2.toNat<x.l.length by omega))) r
 have BM:=q2 (rg:=rg) (x.l.getD (1-(bT (bn x.l)).2).toNat default) (dh.fy.2 _ (dJ (show(1-(bT (bn x.l)).2).toNat<x.l.length by omega))) (bP rg (x.l.getD (bT (bn x.l)).2.toNat default) r).2
 have rW:c++((jV op (bP rg (x.l.getD (bT (bn x.l)).2.toNat default)) (bP rg (x.l.getD (1-(bT (bn x.l)).2).toNat default))) r).1=(c++(bP rg (x.l.getD (bT (bn x.l)).2.toNat default) r).1++(bP rg (x.l.getD (1-(bT (bn x.l)).2).toNat default) (bP rg (x.l.getD (bT (bn x.l)).2.toNat default) r).2).1)++[(op,0)]:=by show c++(_++_++_)=_;simp only[List.append_assoc]
 refine cB [] func80 D D fun E K af=>?_
 apply al
 apply dm
 ·apply cV 4 D D D
  exact .nil _
 ·exact bR
 apply al
 apply xZ mixed
 ·apply ag (.fieldAddr nW (I D) D)
  apply cH [_] (.h2 kn (I D) D D)
  apply ag ((eN iR D D).bK (y:=.cc (cr (x.l.getD 0 default))) (iT (by omega)))
  apply ag (.kD dL (I D) fun _=>cC D)
  apply cY (cf D) (zb (x.l.getD 0 default) (Y.part _ (dJ (show 0<x.l.length by omega))) (by omega)) (au D)
  apply ag (.fieldAddr nW (I D) D)
  apply cH [_] (.h2 kn (I D) D D)
  apply ag ((eN iR D D).bK (y:=.cc (cr (x.l.getD 1 default))) (iT (by omega)))
  apply ag (.kD dL (I D) fun _=>cC D)
  apply cY (cf D) (zb (x.l.getD 1 default) (Y.part _ (dJ (show 1<x.l.length by omega))) (by omega)) (au D)
  apply gN 18 [] iQ iC D (by decide) (by decide) (ba D D D (ba D D D (.nil _ _))) D D D
  apply kI (cf D) MH (au D) (.cons D .nil) D
  apply ag (.move (I D))
  apply ag (.extract (I D) D)
  apply ag (.extract (I D) D)
  apply ag (.assign (I D))
  apply ag (.assign (I D))
  exact .nil _
 ·rfl
 ·exact bR
 apply al
 apply dm
 ·apply ag (.move (I D))
  apply ag (.fieldAddr nW (I D) D)
  apply cH [_] (.h2 kn (I D) D D)
  apply ag (.move (I D))
  apply ag ((eN iR D D).bK (y:=.cc (cr (x.l.getD (bT (bn x.l)).2.toNat default))) (iT (by omega)))
  apply ag (.kD dL (I D) fun _=>cC D)
  apply ct [45] [G 40,G 41,G 42] (cn D D) (aJ (x.l.getD (bT (bn x.l)).2.toNat default) (dJ (show(bT (bn x.l)).2.toNat<x.l.length by omega)) c r (by omega) (by omega) (by omega)) (au D) (.eC D D D) D D
  exact .nil _
 ·exact bR
 apply al
 refine gI 45 41 D ?_
 apply dm
 ·apply ag (.move (I D))
  apply ag (.fieldAddr nW (I D) D)
  apply cH [_] (.h2 kn (I D) D D)
  apply ag (.move (I D))
  apply cp D D D
  apply ag ((eN iR D D).bK (y:=.cc (cr (x.l.getD (1-(bT (bn x.l)).2).toNat default))) (iT (by omega)))
  apply ag (.kD dL (I D) fun _=>cC D)
  apply ct [45] [G 40,G 41,G 42] (cn D D) (aJ (x.l.getD (1-(bT (bn x.l)).2).toNat default) (dJ (show(1-(bT (bn x.l)).2).toNat<x.l.length by omega)) (c++(bP rg (x.l.getD (bT (bn x.l)).2.toNat default) r).1) (bP rg (x.l.getD (bT (bn x.l)).2.toNat default) r).2 (by(simp only[ef,ek,List.length_nil];omega)) (by omega) (by omega)) (au D) (.eC D D D) D D
  exact .nil _
 ·exact bR
 refine gI 45 41 D ?_
 apply dm
 ·apply ag (.move (I D))
  apply ag (.fG bY (I D) D)
  apply ct [45] [G 40,G 41,G 42] (hd D D D) (q3 p rg (c++(bP rg (x.l.getD (bT (bn x.l)).2.toNat default) r).1++(bP rg (x.l.getD (1-(bT (bn x.l)).2).toNat default) (bP rg (x.l.getD (bT (bn x.l)).2.toNat default) r).2).1) (bP rg (x.l.getD (1-(bT (bn x.l)).2).toNat default) (bP rg (x.l.getD (bT (bn x.l)).2.toNat default) r).2).2 op 0 (by(simp only[ef,ek,List.length_nil];omega))) (au D) (.eC D D D) D D
  exact .nil _
 ·exact bR
 refine⟨.inl D,⟨_,(.nil),?_⟩,cU (.cons (by rw[rW];rfl) (.cons (by rw[rW];rfl) (.cons D .nil)))⟩
 rfl
theorem MI(x:aR)(i:Nat):jE (x.l.take i)+1<=dY x:=by
 rw[tr x]
 have W:jE (x.l.take i)<=jE x.l:=by
  rw[uC,uC,<-List.take_append_drop i (x.l.map dY)]
  rw[List.map_take,List.sum_append]
  omega
 omega
theorem IH{x:aR}{i:Nat}(h:i<x.l.length):jE (x.l.take i)+dY (x.l.getD i default)+1<=dY x:=by
 have J:=xf h
 have W:=MI x (i+1)
 omega
theorem MJ{p:aD}{m:Nat}{rg:List (Int×Int)}{x:aR}(dh:ff p m x)(aV:x.l.length=4)(k r0 r:Int):∀j,j<=4->(ew (fo rg x.l) k r0 r j).1.length<=3*jE (x.l.take j)+j/\r<=(ew (fo rg x.l) k r0 r j).2/\(ew (fo rg x.l) k r0 r j).2<=r+jE (x.l.take j)
 |0,_=>⟨Nat.zero_le _,Int.le_refl _,by simp[ew,jE]⟩
 |j+1,az=>by
  obtain⟨i1,i2,i3⟩:=MJ (rg:=rg) dh aV k r0 r j (by omega)
  have he:=xf (show j<x.l.length by omega)
  unfold ew
  rw[he]
  cases decide ((j:Int)=k)with
  |true=>
   rw[cond_true]
   simp only[ef,np]
   omega
  |false=>
   rw[cond_false,kX rg (show j<x.l.length by omega)]
   have Z:=q2 (rg:=rg) _ (dh.fy.2 _ (dJ (show j<x.l.length by omega))) (ew (fo rg x.l) k r0 r j).2
   simp only[ef]
   omega
theorem TR{p:aD}{m:Nat}{rg:List (Int×Int)}{x:aR}(dh:ff p m x)(aV:x.l.length=4){k:Nat}(K:k<4)(r0 r:Int):∀j,j<=4->((ew (fo rg x.l) (k:Int) r0 r j).1.length+(if k<j then 3*dY (x.l.getD k default)else 0)<=3*jE (x.l.take j)+(if k<j then 1 else 0))/\(ew (fo rg x.l) (k:Int) r0 r j).2+(if k<j then(dY (x.l.getD k default):Int)else 0)<=r+jE (x.l.take j)
 |0,_=>by refine⟨?_,?_⟩<;>simp[ew,jE]
 |j+1,az=>by
  obtain⟨i1,i3⟩:=TR (rg:=rg) dh aV K r0 r j (by omega)
  have he:=xf (show j<x.l.length by omega)
  unfold ew
  rw[he]
  by_cases e:j=k
  ·subst e
   rw[gl rfl,cond_true]
   simp only[ef,np]
   rw[if_neg (Nat.lt_irrefl _)]at i1 i3
   rw[if_neg (Nat.lt_irrefl _)]at i1
   rw[if_pos (qk _),if_pos (qk _),if_pos (qk _)]
   omega
  ·rw[hG (by omega),cond_false,kX rg (show j<x.l.length by omega)]
   have Z:=q2 (rg:=rg) _ (dh.fy.2 _ (dJ (show j<x.l.length by omega))) (ew (fo rg x.l) (k:Int) r0 r j).2
   simp only[ef]
   by_cases J:k<j
   ·rw[if_pos J]at i1 i3
    rw[if_pos J]at i1
    rw[if_pos (show k<j+1 by omega),if_pos (show k<j+1 by omega),if_pos (show k<j+1 by omega)]
    omega
   ·rw[if_neg J]at i1 i3
    rw[if_neg J]at i1
    rw[if_neg (show¬k<j+1 by omega),if_neg (show¬k<j+1 by omega),if_neg (show¬k<j+1 by omega)]
    omega
theorem afp(x:aR){i j:Nat}(h:i<=j):jE (x.l.take i)<=jE (x.l.take j):=by
 have e:x.l.take i=(x.l.take j).take i:=by rw[List.take_take];congr 1;omega
 rw[e,uC,uC,<-List.take_append_drop i ((x.l.take j).map dY),List.map_take,List.sum_append]
 omega
theorem afq{p:aD}{m:Nat}{rg:List (Int×Int)}{x:aR}(dh:ff p m x)(aV:x.l.length=4){k:Int}(AM:0<=k)(K:k<4){i:Nat}(hi:i<4)(b2:(i:Int)≠k)(r0 r:Int):(bP rg (x.l.getD k.toNat default) (r+1)).1.length+(ew (fo rg x.l) k r0 (bP rg (x.l.getD k.toNat default) (r+1)).2 i).1.length+3*dY (x.l.getD i default)+2<=3*dY x/\(ew (fo rg x.l) k r0 (bP rg (x.l.getD k.toNat default) (r+1)).2 i).2+dY (x.l.getD i default)<=r+dY x:=by
 obtain⟨n,rfl⟩:∃n:Nat,k=n:=⟨k.toNat,by omega⟩
 rw[show(n:Int).toNat=n from rfl]
 have Z:=q2 (rg:=rg) _ (dh.fy.2 _ (dJ (show n<x.l.length by omega))) (r+1)
 obtain⟨i1,i3⟩:=TR (rg:=rg) dh aV (show n<4 by omega) r0 (bP rg (x.l.getD n default) (r+1)).2 i (by omega)
 have zT:=IH (x:=x) (i:=i) (by omega)
 have sq:=IH (x:=x) (i:=n) (by omega)
 have het:=xf (show i<x.l.length by omega)
 by_cases J:n<i
 ·rw[if_pos J]at i1 i3
  rw[if_pos J]at i1
  omega
 ·rw[if_neg J]at i1 i3
  rw[if_neg J]at i1
  have ir:=afp x (show i+1<=n by omega)
  omega
theorem afr{p:aD}{rg:List (Int×Int)}{m:Nat}(x:aR)(Y:x.b5)(dh:ff p m x)(W:AY p x)(ep:x.kind=16)(aJ:∀y,y∈x.l->C6 p rg y)(c:dC)(r:Int)(aj:c.length+3*dY x<=100000)(jY:0<=r)(aE:r+dY x<=100000):bw prog 35 [.ao 40 0,.d (.agg (cr x))] (mU p rg c r 41) (.bE []) (mU p rg (c++((bif decide (eF (x.l.getD 1 default)<=eF (x.l.getD 0 default))then jV 18 (bP rg (x.l.getD 0 default)) (bP rg (x.l.getD 1 default))else jV 17 (jU 16 0 (bP rg (x.l.getD 1 default))) (bP rg (x.l.getD 0 default))) r).1) ((bif decide (eF (x.l.getD 1 default)<=eF (x.l.getD 0 default))then jV 18 (bP rg (x.l.getD 0 default)) (bP rg (x.l.getD 1 default))else jV 17 (jU 16 0 (bP rg (x.l.getD 1 default))) (bP rg (x.l.getD 0 default))) r).2 45) [40,42]:=by
 have hlen:=dh.fy.1.len
 rw[ep]at hlen
 have xD:x.l.length=2:=by have:(x.l.length:Int)=2:=hlen;omega
 have lJ:=FU xD
 refine cB [] func35 D D fun E K af=>?_
 apply al
 apply dm
 ·apply cV 3 D D D
  exact .nil _
 ·exact bR
 apply al
 apply al
 apply xZ mixed
 ·apply ag (.fieldAddr nW (I D) D)
  apply cH [_] (.h2 kn (I D) D D)
  apply ag ((eN iR D D).bK (y:=.cc (cr (x.l.getD 1 default))) (iT (by omega)))
  apply ag (.kD dL (I D) fun _=>cC D)
  apply cY (cf D) (zb (x.l.getD 1 default) (Y.part _ (dJ (show 1<x.l.length by omega))) (by omega)) (au D)
  apply ag (.fieldAddr nW (I D) D)
  apply cH [_] (.h2 kn (I D) D D)
  apply ag ((eN iR D D).bK (y:=.cc (cr (x.l.getD 0 default))) (iT (by omega)))
  apply ag (.kD dL (I D) fun _=>cC D)
  apply cY (cf D) (zb (x.l.getD 0 default) (Y.part _ (dJ (show 0<x.l.length by omega))) (by omega)) (au D)
  apply ag (.qz (I D) (I D) D)
  exact .nil _
 ·rfl
 ·exact bR
 refine a7 D (fun aP=>?_) fun aP=>?_
 ·have aq:decide (eF (x.l.getD 1 default)<=eF (x.l.getD 0 default))=true:=aP
  have MK:(bif decide (eF (x.l.getD 1 default)<=eF (x.l.getD 0 default))then jV 18 (bP rg (x.l.getD 0 default)) (bP rg (x.l.getD 1 default))else jV 17 (jU 16 0 (bP rg (x.l.getD 1 default))) (bP rg (x.l.getD 0 default)))=jV 18 (bP rg (x.l.getD 0 default)) (bP rg (x.l.getD 1 default)):=by rw[aq,cond_true]
  have rW:c++(jV 18 (bP rg (x.l.getD 0 default)) (bP rg (x.l.getD 1 default)) r).1=(c++(bP rg (x.l.getD 0 default) r).1++(bP rg (x.l.getD 1 default) (bP rg (x.l.getD 0 default) r).2).1)++[(18,0)]:=by show c++(_++_++_)=_;simp only[List.append_assoc]
  have zg:=q2 (rg:=rg) (x.l.getD 0 default) (dh.fy.2 _ (dJ (show 0<x.l.length by omega))) r
  have BM:=q2 (rg:=rg) (x.l.getD 1 default) (dh.fy.2 _ (dJ (show 1<x.l.length by omega))) (bP rg (x.l.getD 0 default) r).2
  rw[MK]
  apply al
  apply dm
  ·apply ag (.move (I D))
   apply ag (.fieldAddr nW (I D) D)
   apply cH [_] (.h2 kn (I D) D D)
   apply ag ((eN iR D D).bK (y:=.cc (cr (x.l.getD 0 default))) (iT (by omega)))
   apply ag (.kD dL (I D) fun _=>cC D)
   apply ct [45] [G 40,G 41,G 42] (cn D D) (aJ (x.l.getD 0 default) (dJ (show 0<x.l.length by omega)) c r (by omega) (by omega) (by omega)) (au D) (.eC D D D) D D
   exact .nil _
  ·exact bR
  apply al
  refine gI 45 41 D ?_
  apply dm
  ·apply ag (.move (I D))
   apply ag (.fieldAddr nW (I D) D)
   apply cH [_] (.h2 kn (I D) D D)
   apply ag ((eN iR D D).bK (y:=.cc (cr (x.l.getD 1 default))) (iT (by omega)))
   apply ag (.kD dL (I D) fun _=>cC D)
   apply ct [45] [G 40,G 41,G 42] (cn D D) (aJ (x.l.getD 1 default) (dJ (show 1<x.l.length by omega)) (c++(bP rg (x.l.getD 0 default) r).1) (bP rg (x.l.getD 0 default) r).2 (by(simp only[ef,ek,List.length_nil];omega)) (by omega) (by omega)) (au D) (.eC D D D) D D
   exact .nil _
  ·exact bR
  apply al
  refine gI 45 41 D ?_
  apply dm
  ·apply ag (.move (I D))
   apply ct [45] [G 40,G 41,G 42] (hd D D D) (q3 p rg (c++(bP rg (x.l.getD 0 default) r).1++(bP rg (x.l.getD 1 default) (bP rg (x.l.getD 0 default) r).2).1) (bP rg (x.l.getD 1 default) (bP rg (x.l.getD 0 default) r).2).2 18 0 (by(simp only[ef,ek,List.length_nil];omega))) (au D) (.eC D D D) D D
   exact .nil _
  ·exact bR
  apply bp
  refine⟨.inr D,⟨_,(.nil),?_⟩,cU (.cons (by rw[rW];rfl) (.cons (by rw[rW];rfl) (.cons D .nil)))⟩
  rfl
 ·have aq:decide (eF (x.l.getD 1 default)<=eF (x.l.getD 0 default))=false:=aP
  have MK:(bif decide (eF (x.l.getD 1 default)<=eF (x.l.getD 0 default))then jV 18 (bP rg (x.l.getD 0 default)) (bP rg (x.l.getD 1 default))else jV 17 (jU 16 0 (bP rg (x.l.getD 1 default))) (bP rg (x.l.getD 0 default)))=jV 17 (jU 16 0 (bP rg (x.l.getD 1 default))) (bP rg (x.l.getD 0 default)):=by rw[aq,cond_false]
  have rW:c++(jV 17 (jU 16 0 (bP rg (x.l.getD 1 default))) (bP rg (x.l.getD 0 default)) r).1=(c++(bP rg (x.l.getD 1 default) r).1++[(16,0)]++(bP rg (x.l.getD 0 default) (bP rg (x.l.getD 1 default) r).2).1)++[(17,0)]:=by show c++((_++_)++_++_)=_;simp only[List.append_assoc];rfl
  have zg:=q2 (rg:=rg) (x.l.getD 1 default) (dh.fy.2 _ (dJ (show 1<x.l.length by omega))) r
  have BM:=q2 (rg:=rg) (x.l.getD 0 default) (dh.fy.2 _ (dJ (show 0<x.l.length by omega))) (bP rg (x.l.getD 1 default) r).2
  rw[MK]
  apply bx
  apply al
  apply dm
  ·apply ag (.move (I D))
   apply ag (.fieldAddr nW (I D) D)
   apply cH [_] (.h2 kn (I D) D D)
   apply ag ((eN iR D D).bK (y:=.cc (cr (x.l.getD 1 default))) (iT (by omega)))
   apply ag (.kD dL (I D) fun _=>cC D)
   apply ct [45] [G 40,G 41,G 42] (cn D D) (aJ (x.l.getD 1 default) (dJ (show 1<x.l.length by omega)) c r (by omega) (by omega) (by omega)) (au D) (.eC D D D) D D
   exact .nil _
  ·exact bR
  apply al
  refine gI 45 41 D ?_
  apply dm
  ·apply ag (.move (I D))
   apply ct [45] [G 40,G 41,G 42] (hd D D D) (q3 p rg (c++(bP rg (x.l.getD 1 default) r).1) (bP rg (x.l.getD 1 default) r).2 16 0 (by(simp only[ef,ek,List.length_nil];omega))) (au D) (.eC D D D) D D
   exact .nil _
  ·exact bR
  apply al
  refine gI 45 41 D ?_
  apply dm
  ·apply ag (.move (I D))
   apply ag (.fieldAddr nW (I D) D)
   apply cH [_] (.h2 kn (I D) D D)
   apply ag ((eN iR D D).bK (y:=.cc (cr (x.l.getD 0 default))) (iT (by omega)))
   apply ag (.kD dL (I D) fun _=>cC D)
   apply ct [45] [G 40,G 41,G 42] (cn D D) (aJ (x.l.getD 0 default) (dJ (show 0<x.l.length by omega)) (c++(bP rg (x.l.getD 1 default) r).1++[(16,0)]) (bP rg (x.l.getD 1 default) r).2 (by(simp only[ef,ek,List.length_nil];omega)) (by omega) (by omega)) (au D) (.eC D D D) D D
   exact .nil _
  ·exact bR
  refine gI 45 41 D ?_
  apply dm
  ·apply ag (.move (I D))
   apply ct [45] [G 40,G 41,G 42] (hd D D D) (q3 p rg (c++(bP rg (x.l.getD 1 default) r).1++[(16,0)]++(bP rg (x.l.getD 0 default) (bP rg (x.l.getD 1 default) r).2).1) (bP rg (x.l.getD 0 default) (bP rg (x.l.getD 1 default) r).2).2 17 0 (by(simp only[ef,ek,List.length_nil];omega))) (au D) (.eC D D D) D D
   exact .nil _
  ·exact bR
  refine⟨.inl D,⟨_,(.nil),?_⟩,cU (.cons (by rw[rW];rfl) (.cons (by rw[rW];rfl) (.cons D .nil)))⟩
  rfl
theorem afs{p:aD}{rg:List (Int×Int)}{m:Nat}(x:aR)(Y:x.b5)(dh:ff p m x)(W:AY p x)(ep:x.kind=19)(aJ:∀y,y∈x.l->C6 p rg y)(c:dC)(r:Int)(aj:c.length+3*dY x<=100000)(jY:0<=r)(aE:r+dY x<=100000):bw prog 36 [.ao 40 0,.d (.agg (cr x))] (mU p rg c r 41) (.bE []) (mU p rg (c++((xE (fo rg x.l) (bT (bn x.l)).2) r).1) ((xE (fo rg x.l) (bT (bn x.l)).2) r).2 45) [40,42]:=by
 have hlen:=dh.fy.1.len
 rw[ep]at hlen
 have xI:x.l.length=4:=by have:(x.l.length:Int)=4:=hlen;omega
 have lJ:=MF xI
 have iv:bn x.l=[eF (x.l.getD 0 default),eF (x.l.getD 1 default),eF (x.l.getD 2 default),eF (x.l.getD 3 default)]:=by
  match aa:x.l,xI with
  |[a,b,c,d],_=>rfl
 have MH:bw prog 81 [.aQ 18 4] [(G 18,.U (.bG 1 4 [.cv .i64 [eF (x.l.getD 0 default),eF (x.l.getD 1 default),eF (x.l.getD 2 default),eF (x.l.getD 3 default)]]))] (.bE [.d (av (bT (bn x.l)).1),.d (av (bT (bn x.l)).2)]) [(G 18,.U (.bG 1 4 [.cv .i64 [eF (x.l.getD 0 default),eF (x.l.getD 1 default),eF (x.l.getD 2 default),eF (x.l.getD 3 default)]]))] [18]:=by
  rw[iv]
  exact ID [eF (x.l.getD 0 default),eF (x.l.getD 1 default),eF (x.l.getD 2 default),eF (x.l.getD 3 default)] (by simp)
 have ir:=y7 (bn x.l) (bn x.l).length
 have rT:bT (bn x.l)=iq (bn x.l) (bn x.l).length:=rfl
 rw[<-rT,mS,xI]at ir
 have TQ:=ir.2.2 (by decide)
 have zg:=q2 (rg:=rg) (x.l.getD (bT (bn x.l)).2.toNat default) (dh.fy.2 _ (dJ (by omega))) (r+1)
 have TS:=IH (x:=x) (i:=(bT (bn x.l)).2.toNat) (by omega)
 have rW:c++((xE (fo rg x.l) (bT (bn x.l)).2) r).1=(c++(bP rg (x.l.getD (bT (bn x.l)).2.toNat default) (r+1)).1++((5,r)::(ew (fo rg x.l) (bT (bn x.l)).2 r (bP rg (x.l.getD (bT (bn x.l)).2.toNat default) (r+1)).2 4).1))++[(21,0)]:=by
  show c++((((fo rg x.l).getD (bT (bn x.l)).2.toNat default (r+1)).1++[(5,r)]++(ew (fo rg x.l) (bT (bn x.l)).2 r ((fo rg x.l).getD (bT (bn x.l)).2.toNat default (r+1)).2 4).1)++[(21,0)])=_
  rw[kX rg (show(bT (bn x.l)).2.toNat<x.l.length by omega)]
  simp only[List.append_assoc,List.cons_append,List.nil_append]
 have aft:((xE (fo rg x.l) (bT (bn x.l)).2) r).2=(ew (fo rg x.l) (bT (bn x.l)).2 r (bP rg (x.l.getD (bT (bn x.l)).2.toNat default) (r+1)).2 4).2:=by
  show(ew (fo rg x.l) (bT (bn x.l)).2 r ((fo rg x.l).getD (bT (bn x.l)).2.toNat default (r+1)).2 4).2=_
  rw[kX rg (show(bT (bn x.l)).2.toNat<x.l.length by omega)]
 rw[aft]
 refine cB [] func36 D D fun E K af=>?_
 apply al
 apply dm
 ·apply cV 3 D D D
  exact .nil _
 ·exact bR
 apply al
 apply xZ mixed
 ·apply ag (.fieldAddr nW (I D) D)
  apply cH [_] (.h2 kn (I D) D D)
  apply ag ((eN iR D D).bK (y:=.cc (cr (x.l.getD 0 default))) (iT (by omega)))
  apply ag (.kD dL (I D) fun _=>cC D)
  apply cY (cf D) (zb (x.l.getD 0 default) (Y.part _ (dJ (show 0<x.l.length by omega))) (by omega)) (au D)
  apply ag (.fieldAddr nW (I D) D)
  apply cH [_] (.h2 kn (I D) D D)
  apply ag ((eN iR D D).bK (y:=.cc (cr (x.l.getD 1 default))) (iT (by omega)))
  apply ag (.kD dL (I D) fun _=>cC D)
  apply cY (cf D) (zb (x.l.getD 1 default) (Y.part _ (dJ (show 1<x.l.length by omega))) (by omega)) (au D)
  apply ag (.fieldAddr nW (I D) D)
  apply cH [_] (.h2 kn (I D) D D)
  apply ag ((eN iR D D).bK (y:=.cc (cr (x.l.getD 2 default))) (iT (by omega)))
  apply ag (.kD dL (I D) fun _=>cC D)
  apply cY (cf D) (zb (x.l.getD 2 default) (Y.part _ (dJ (show 2<x.l.length by omega))) (by omega)) (au D)
  apply ag (.fieldAddr nW (I D) D)
  apply cH [_] (.h2 kn (I D) D D)
  apply ag ((eN iR D D).bK (y:=.cc (cr (x.l.getD 3 default))) (iT (by omega)))
  apply ag (.kD dL (I D) fun _=>cC D)
  apply cY (cf D) (zb (x.l.getD 3 default) (Y.part _ (dJ (show 3<x.l.length by omega))) (by omega)) (au D)
  apply gN 18 [] iQ iC D (by decide) (by decide) (ba D D D (ba D D D (ba D D D (ba D D D (.nil _ _))))) D D D
  apply kI (cf D) MH (au D) (.cons D .nil) D
  apply ag (.move (I D))
  apply ag (.extract (I D) D)
  apply ag (.extract (I D) D)
  apply ag (.assign (I D))
  apply ag (.assign (I D))
  exact .nil _
 ·rfl
 ·exact bR
 apply al
 apply dm
 ·apply ag (.move (I D))
  apply ct [] [G 40,G 41,G 42] (cf D) (TO p rg c r jY (by omega)) (au D) (.eC D D D) D D
  apply ag (.assign (I D))
  exact .nil _
 ·exact bR
 apply al
 apply dm
 ·apply ag (.move (I D))
  apply ag (.fieldAddr nW (I D) D)
  apply cH [_] (.h2 kn (I D) D D)
  apply ag (.move (I D))
  apply ag ((eN iR D D).bK (y:=.cc (cr (x.l.getD (bT (bn x.l)).2.toNat default))) (iT (by omega)))
  apply ag (.kD dL (I D) fun _=>cC D)
  apply ct [45] [G 40,G 41,G 42] (cn D D) (aJ (x.l.getD (bT (bn x.l)).2.toNat default) (dJ (show(bT (bn x.l)).2.toNat<x.l.length by omega)) c (r+1) (by omega) (by omega) (by omega)) (au D) (.eC D D D) D D
  exact .nil _
 ·exact bR
 apply al
 refine gI 45 41 D ?_
 apply dm
 ·apply ag (.move (I D))
  apply ag (.move (I D))
  apply ct [45] [G 40,G 41,G 42] (hd D D D) (q3 p rg (c++(bP rg (x.l.getD (bT (bn x.l)).2.toNat default) (r+1)).1) (bP rg (x.l.getD (bT (bn x.l)).2.toNat default) (r+1)).2 5 r (by(simp only[ef,ek,List.length_nil];omega))) (au D) (.eC D D D) D D
  exact .nil _
 ·exact bR
 apply al
 apply al
 refine gI 45 41 D ?_
 apply dm
 ·apply ag (.fieldAddr nW (I D) D)
  apply cH [_] (.h2 kn (I D) D D)
  apply ag (.len D underlying63 (I D) D)
  apply ag (.move (I D))
  exact .nil _
 ·exact bR
 apply bX
 refine eP (σ:=Nat) [(ab 0,_),(ab 5,_),(ab 6,_),(ab 47,_),(ab 48,_),(G 42,_),(G 3,_)] (fun i=>[(ab 49,.aB (aF .i64 (i:Int))),(G 40,.U (Bb p 41 (c++(bP rg (x.l.getD (bT (bn x.l)).2.toNat default) (r+1)).1++((5,r)::(ew (fo rg x.l) (bT (bn x.l)).2 r (bP rg (x.l.getD (bT (bn x.l)).2.toNat default) (r+1)).2 i).1)) (ew (fo rg x.l) (bT (bn x.l)).2 r (bP rg (x.l.getD (bT (bn x.l)).2.toNat default) (r+1)).2 i).2)),(G 41,.U (.bG 2 (c++(bP rg (x.l.getD (bT (bn x.l)).2.toNat default) (r+1)).1++((5,r)::(ew (fo rg x.l) (bT (bn x.l)).2 r (bP rg (x.l.getD (bT (bn x.l)).2.toNat default) (r+1)).2 i).1)).length (wb (c++(bP rg (x.l.getD (bT (bn x.l)).2.toNat default) (r+1)).1++((5,r)::(ew (fo rg x.l) (bT (bn x.l)).2 r (bP rg (x.l.getD (bT (bn x.l)).2.toNat default) (r+1)).2 i).1)))))]) (fun i=>i<=4) (fun i=>4-i) 0 (ck D D<|aZ D<|aU) (da D D D D<|ck D D<|aZ D<|aU) (Nat.zero_le _) fun i hi=>?_
 apply al
 apply dm
 ·apply ag (.qz (I D) (I D) D)
  exact .nil _
 ·exact bR
 apply al
 refine a7 D (fun aP=>?_) fun aP=>?_
 ·have aG:i<4:=by have:=cJ aP;rw[xI]at this;omega
  have lO:i<x.l.length:=by omega
  have fV:=MJ (p:=p) (m:=m) (rg:=rg) dh xI (bT (bn x.l)).2 r (bP rg (x.l.getD (bT (bn x.l)).2.toNat default) (r+1)).2 i (by omega)
  have ajG:=xf lO
  have het:=MI x i
  have zT:=IH lO
  apply bx
  apply al
  apply bX
  apply al
  apply dm
  ·apply ag (.move (I D))
   apply ag ((eN iR D D).bK (y:=.cc (cr (x.l.getD i default))) (iT (by omega)))
   apply ag (.kD dL (I D) fun _=>cC D)
   apply cm 8 hn D
   apply ag (.assign (I D))
   apply cL dL D D D D
   exact .nil _
  ·exact bR
  apply al
  apply dm
  ·apply ag (.move (I D))
   apply ag (.move (I D))
   apply ag (.qz (I D) (I D) D)
   exact .nil _
  ·exact bR
  refine a7 D (fun bq=>?_) fun bq=>?_
  ·have jM:decide ((i:Int)=(bT (bn x.l)).2)=true:=bq
   have FV:(c++(bP rg (x.l.getD (bT (bn x.l)).2.toNat default) (r+1)).1++((5,r)::(ew (fo rg x.l) (bT (bn x.l)).2 r (bP rg (x.l.getD (bT (bn x.l)).2.toNat default) (r+1)).2 (i+1)).1))=(c++(bP rg (x.l.getD (bT (bn x.l)).2.toNat default) (r+1)).1++((5,r)::(ew (fo rg x.l) (bT (bn x.l)).2 r (bP rg (x.l.getD (bT (bn x.l)).2.toNat default) (r+1)).2 i).1))++[(4,r)]:=by rw[ew,jM,cond_true];simp only[List.append_assoc,List.cons_append]
   have ML:(ew (fo rg x.l) (bT (bn x.l)).2 r (bP rg (x.l.getD (bT (bn x.l)).2.toNat default) (r+1)).2 (i+1)).2=(ew (fo rg x.l) (bT (bn x.l)).2 r (bP rg (x.l.getD (bT (bn x.l)).2.toNat default) (r+1)).2 i).2:=by rw[ew,jM,cond_true]
   apply dm
   ·apply ag (.move (I D))
    apply ag (.move (I D))
    apply ct [45] [G 40,G 41,G 42] (hd D D D) (q3 p rg (c++(bP rg (x.l.getD (bT (bn x.l)).2.toNat default) (r+1)).1++((5,r)::(ew (fo rg x.l) (bT (bn x.l)).2 r (bP rg (x.l.getD (bT (bn x.l)).2.toNat default) (r+1)).2 i).1)) (ew (fo rg x.l) (bT (bn x.l)).2 r (bP rg (x.l.getD (bT (bn x.l)).2.toNat default) (r+1)).2 i).2 4 r (by(simp only[ef,ek,List.length_nil];omega))) (au D) (.eC D D D) D D
    exact .nil _
   ·exact bR
   refine gI 45 41 D ?_
   apply dm
   ·apply cp D D D
    apply ag (.move (I D))
    exact .nil _
   ·exact bR
   exact⟨i+1,aG,fD (by assumption),aZ (ec (by omega))<|aZ (by rw[FV,ML];rfl)<|aZ (by rw[FV];rfl)<|aU,da D D D D<|ck D D<|aZ D<|aU⟩
  ·have jM:decide ((i:Int)=(bT (bn x.l)).2)=false:=bq
   have o9:=afq (rg:=rg) dh xI ir.1 TQ aG (dj jM) r r
   have FV:(c++(bP rg (x.l.getD (bT (bn x.l)).2.toNat default) (r+1)).1++((5,r)::(ew (fo rg x.l) (bT (bn x.l)).2 r (bP rg (x.l.getD (bT (bn x.l)).2.toNat default) (r+1)).2 (i+1)).1))=(c++(bP rg (x.l.getD (bT (bn x.l)).2.toNat default) (r+1)).1++((5,r)::(ew (fo rg x.l) (bT (bn x.l)).2 r (bP rg (x.l.getD (bT (bn x.l)).2.toNat default) (r+1)).2 i).1))++(bP rg (x.l.getD i default) (ew (fo rg x.l) (bT (bn x.l)).2 r (bP rg (x.l.getD (bT (bn x.l)).2.toNat default) (r+1)).2 i).2).1:=by rw[ew,jM,cond_false,kX rg lO];simp only[List.append_assoc,List.cons_append]
   have ML:(ew (fo rg x.l) (bT (bn x.l)).2 r (bP rg (x.l.getD (bT (bn x.l)).2.toNat default) (r+1)).2 (i+1)).2=(bP rg (x.l.getD i default) (ew (fo rg x.l) (bT (bn x.l)).2 r (bP rg (x.l.getD (bT (bn x.l)).2.toNat default) (r+1)).2 i).2).2:=by rw[ew,jM,cond_false,kX rg lO]
   apply dm
   ·apply ag (.move (I D))
    apply cH [_] (.GC dL (I D) D (by rfl))
    apply ct [45] [G 40,G 41,G 42] (cn D D) (aJ (x.l.getD i default) (dJ lO) (c++(bP rg (x.l.getD (bT (bn x.l)).2.toNat default) (r+1)).1++((5,r)::(ew (fo rg x.l) (bT (bn x.l)).2 r (bP rg (x.l.getD (bT (bn x.l)).2.toNat default) (r+1)).2 i).1)) (ew (fo rg x.l) (bT (bn x.l)).2 r (bP rg (x.l.getD (bT (bn x.l)).2.toNat default) (r+1)).2 i).2 (by(simp only[ef,ek,List.length_nil];omega)) (by omega) (by omega)) (au D) (.eC D D D) D D
    exact .nil _
   ·exact bR
   refine gI 45 41 D ?_
   apply dm
   ·apply cp D D D
    apply ag (.move (I D))
    exact .nil _
   ·exact bR
   exact⟨i+1,aG,fD (by assumption),aZ (ec (by omega))<|aZ (by rw[FV,ML];rfl)<|aZ (by rw[FV];rfl)<|aU,da D D D D<|ck D D<|aZ D<|aU⟩
 ·obtain rfl:i=4:=by have:=dj aP;rw[xI]at this;omega
  have fV:=MJ (p:=p) (m:=m) (rg:=rg) dh xI (bT (bn x.l)).2 r (bP rg (x.l.getD (bT (bn x.l)).2.toNat default) (r+1)).2 4 (by omega)
  have het:=MI x 4
  apply dW
  apply dm
  ·apply ag (.move (I D))
   apply ct [45] [G 40,G 41,G 42] (hd D D D) (q3 p rg (c++(bP rg (x.l.getD (bT (bn x.l)).2.toNat default) (r+1)).1++((5,r)::(ew (fo rg x.l) (bT (bn x.l)).2 r (bP rg (x.l.getD (bT (bn x.l)).2.toNat default) (r+1)).2 4).1)) (ew (fo rg x.l) (bT (bn x.l)).2 r (bP rg (x.l.getD (bT (bn x.l)).2.toNat default) (r+1)).2 4).2 21 0 (by(simp only[ef,ek,List.length_nil];omega))) (au D) (.eC D D D) D D
   exact .nil _
  ·exact bR
  refine⟨.inl D,⟨_,(.nil),?_⟩,cU (.cons (by rw[rW];rfl) (.cons (by rw[rW];rfl) (.cons D .nil)))⟩
  rfl
theorem afu{p:aD}{rg:List (Int×Int)}{m:Nat}(x:aR)(Y:x.b5)(dh:ff p m x)(W:AY p x)(aJ:∀y,y∈x.l->C6 p rg y)(c:dC)(r:Int)(aj:c.length+3*dY x<=100000)(jY:0<=r)(aE:r+dY x<=100000):bw prog 37 [.ao 40 0,.d (.agg (cr x))] (mU p rg c r 41) (.bE []) (mU p rg (c++(bP rg x r).1) (bP rg x r).2 45) [40,42]:=by
 have II:c.length<=400000:=by omega
 refine cB [] func37 D D fun E K af=>?_
 refine aO (cV 3 D D D<|ar)<|?_
 rcases dh.fy.1.cases with cS|cS|cS|cS|cS|cS|cS|cS|cS|cS|cS|cS|cS|cS|cS|cS|cS|cS
 ·have e:bP rg x=pM 1 x.n:=by rw[nr];unfold mn;rw[cS];rfl
  exact eo (O 2 D<|cH [_] ((mQ bY D D D).bK (y:=aF .i64 1) (congrArg (aF .i64) cS))<|O 2 D<|ag (.mF oF (I D) (I D) (fun _=>by decide) D)<|O 3 D<|ct [45] [G 40,G 41,G 42] (kU D D D) (afl x c r II) (au D) (.eC D D D) D D<|ar)<|⟨.inl D,⟨_,(.nil),rfl⟩,cU (.cons (by rw[e];rfl) (.cons (by rw[e];rfl) (.cons D .nil)))⟩
 ·have e:bP rg x=pM 2 x.index:=by rw[nr];unfold mn;rw[cS];rfl
  exact eo (O 2 D<|cH [_] ((mQ bY D D D).bK (y:=aF .i64 3) (congrArg (aF .i64) cS))<|O 2 D<|ag (.mF oF (I D) (I D) (fun _=>by decide) D)<|O 3 D<|ct [45] [G 40,G 41,G 42] (kU D D D) (TP 2 x c r II) (au D) (.eC D D D) D D<|ar)<|⟨.inl D,⟨_,(.nil),rfl⟩,cU (.cons (by rw[e];rfl) (.cons (by rw[e];rfl) (.cons D .nil)))⟩
 ·have e:bP rg x=pM 3 x.index:=by rw[nr];unfold mn;rw[cS];rfl
  exact eo (O 2 D<|cH [_] ((mQ bY D D D).bK (y:=aF .i64 4) (congrArg (aF .i64) cS))<|O 2 D<|ag (.mF oF (I D) (I D) (fun _=>by decide) D)<|O 3 D<|ct [45] [G 40,G 41,G 42] (kU D D D) (TP 3 x c r II) (au D) (.eC D D D) D D<|ar)<|⟨.inl D,⟨_,(.nil),rfl⟩,cU (.cons (by rw[e];rfl) (.cons (by rw[e];rfl) (.cons D .nil)))⟩
 ·have e:bP rg x=pM 4 ((cb rg x.index).getD 0):=by rw[nr];unfold mn;rw[cS];rfl
  exact eo (O 2 D<|cH [_] ((mQ bY D D D).bK (y:=aF .i64 5) (congrArg (aF .i64) cS))<|O 2 D<|ag (.mF oF (I D) (I D) (fun _=>by decide) D)<|O 3 D<|ct [45] [G 40,G 41,G 42] (kU D D D) (afm x c r II) (au D) (.eC D D D) D D<|ar)<|⟨.inl D,⟨_,(.nil),rfl⟩,cU (.cons (by rw[e];rfl) (.cons (by rw[e];rfl) (.cons D .nil)))⟩
 ·have e:bP rg x=jU 8 (x.index+x.n) (bP rg (x.l.getD 0 default)):=by rw[nr];unfold mn;rw[cS];rw[<-kX rg (i:=0) (by have:(x.l.length:Int)=1:=dh.fy.1.len.trans (by rw[cS];rfl);omega)];rfl
  exact eo (O 2 D<|cH [_] ((mQ bY D D D).bK (y:=aF .i64 6) (congrArg (aF .i64) cS))<|O 2 D<|ag (.mF oF (I D) (I D) (fun _=>by decide) D)<|O 3 D<|ct [45] [G 40,G 41,G 42] (kU D D D) (zf 8 x Y dh W (by rw[cS];rfl) (by omega) aJ c r aj jY aE) (au D) (.eC D D D) D D<|ar)<|⟨.inl D,⟨_,(.nil),rfl⟩,cU (.cons (by rw[e];rfl) (.cons (by rw[e];rfl) (.cons D .nil)))⟩
 ·have e:bP rg x=jU 9 (x.index+x.n) (bP rg (x.l.getD 0 default)):=by rw[nr];unfold mn;rw[cS];rw[<-kX rg (i:=0) (by have:(x.l.length:Int)=1:=dh.fy.1.len.trans (by rw[cS];rfl);omega)];rfl
  exact eo (O 2 D<|cH [_] ((mQ bY D D D).bK (y:=aF .i64 7) (congrArg (aF .i64) cS))<|O 2 D<|ag (.mF oF (I D) (I D) (fun _=>by decide) D)<|O 3 D<|ct [45] [G 40,G 41,G 42] (kU D D D) (zf 9 x Y dh W (by rw[cS];rfl) (by omega) aJ c r aj jY aE) (au D) (.eC D D D) D D<|ar)<|⟨.inl D,⟨_,(.nil),rfl⟩,cU (.cons (by rw[e];rfl) (.cons (by rw[e];rfl) (.cons D .nil)))⟩
 ·have e:bP rg x=jU 10 (x.index+x.n) (bP rg (x.l.getD 0 default)):=by rw[nr];unfold mn;rw[cS];rw[<-kX rg (i:=0) (by have:(x.l.length:Int)=1:=dh.fy.1.len.trans (by rw[cS];rfl);omega)];rfl
  exact eo (O 2 D<|cH [_] ((mQ bY D D D).bK (y:=aF .i64 8) (congrArg (aF .i64) cS))<|O 2 D<|ag (.mF oF (I D) (I D) (fun _=>by decide) D)<|O 3 D<|ct [45] [G 40,G 41,G 42] (kU D D D) (zf 10 x Y dh W (by rw[cS];rfl) (by omega) aJ c r aj jY aE) (au D) (.eC D D D) D D<|ar)<|⟨.inl D,⟨_,(.nil),rfl⟩,cU (.cons (by rw[e];rfl) (.cons (by rw[e];rfl) (.cons D .nil)))⟩
 ·have e:bP rg x=jU 11 (x.index+x.n) (bP rg (x.l.getD 0 default)):=by rw[nr];unfold mn;rw[cS];rw[<-kX rg (i:=0) (by have:(x.l.length:Int)=1:=dh.fy.1.len.trans (by rw[cS];rfl);omega)];rfl
  exact eo (O 2 D<|cH [_] ((mQ bY D D D).bK (y:=aF .i64 9) (congrArg (aF .i64) cS))<|O 2 D<|ag (.mF oF (I D) (I D) (fun _=>by decide) D)<|O 3 D<|ct [45] [G 40,G 41,G 42] (kU D D D) (zf 11 x Y dh W (by rw[cS];rfl) (by omega) aJ c r aj jY aE) (au D) (.eC D D D) D D<|ar)<|⟨.inl D,⟨_,(.nil),rfl⟩,cU (.cons (by rw[e];rfl) (.cons (by rw[e];rfl) (.cons D .nil)))⟩
 ·have e:bP rg x=jU 12 (x.index+x.n) (bP rg (x.l.getD 0 default)):=by rw[nr];unfold mn;rw[cS];rw[<-kX rg (i:=0) (by have:(x.l.length:Int)=1:=dh.fy.1.len.trans (by rw[cS];rfl);omega)];rfl
  exact eo (O 2 D<|cH [_] ((mQ bY D D D).bK (y:=aF .i64 10) (congrArg (aF .i64) cS))<|O 2 D<|ag (.mF oF (I D) (I D) (fun _=>by decide) D)<|O 3 D<|ct [45] [G 40,G 41,G 42] (kU D D D) (zf 12 x Y dh W (by rw[cS];rfl) (by omega) aJ c r aj jY aE) (au D) (.eC D D D) D D<|ar)<|⟨.inl D,⟨_,(.nil),rfl⟩,cU (.cons (by rw[e];rfl) (.cons (by rw[e];rfl) (.cons D .nil)))⟩
 ·have e:bP rg x=jV 13 (bP rg (x.l.getD (bT (bn x.l)).2.toNat default)) (bP rg (x.l.getD (1-(bT (bn x.l)).2).toNat default)):=by rw[nr];unfold mn;rw[cS];rw[<-kX rg (i:=(bT (bn x.l)).2.toNat) (ze dh cS D).1,<-kX rg (i:=(1-(bT (bn x.l)).2).toNat) (ze dh cS D).2];rfl
  exact eo (O 2 D<|cH [_] ((mQ bY D D D).bK (y:=aF .i64 11) (congrArg (aF .i64) cS))<|O 2 D<|ag (.mF oF (I D) (I D) (fun _=>by decide) D)<|O 3 D<|ct [45] [G 40,G 41,G 42] (kU D D D) (IG 13 x Y dh W (by rw[cS];rfl) (by omega) aJ c r aj jY aE) (au D) (.eC D D D) D D<|ar)<|⟨.inl D,⟨_,(.nil),rfl⟩,cU (.cons (by rw[e];rfl) (.cons (by rw[e];rfl) (.cons D .nil)))⟩
 ·have e:bP rg x=jV 14 (bP rg (x.l.getD (bT (bn x.l)).2.toNat default)) (bP rg (x.l.getD (1-(bT (bn x.l)).2).toNat default)):=by rw[nr];unfold mn;rw[cS];rw[<-kX rg (i:=(bT (bn x.l)).2.toNat) (ze dh cS D).1,<-kX rg (i:=(1-(bT (bn x.l)).2).toNat) (ze dh cS D).2];rfl
  exact eo (O 2 D<|cH [_] ((mQ bY D D D).bK (y:=aF .i64 12) (congrArg (aF .i64) cS))<|O 2 D<|ag (.mF oF (I D) (I D) (fun _=>by decide) D)<|O 3 D<|ct [45] [G 40,G 41,G 42] (kU D D D) (IG 14 x Y dh W (by rw[cS];rfl) (by omega) aJ c r aj jY aE) (au D) (.eC D D D) D D<|ar)<|⟨.inl D,⟨_,(.nil),rfl⟩,cU (.cons (by rw[e];rfl) (.cons (by rw[e];rfl) (.cons D .nil)))⟩
 ·have e:bP rg x=jU 15 (x.index+x.n) (bP rg (x.l.getD 0 default)):=by rw[nr];unfold mn;rw[cS];rw[<-kX rg (i:=0) (by have:(x.l.length:Int)=1:=dh.fy.1.len.trans (by rw[cS];rfl);omega)];rfl
  exact eo (O 2 D<|cH [_] ((mQ bY D D D).bK (y:=aF .i64 13) (congrArg (aF .i64) cS))<|O 2 D<|ag (.mF oF (I D) (I D) (fun _=>by decide) D)<|O 3 D<|ct [45] [G 40,G 41,G 42] (kU D D D) (zf 15 x Y dh W (by rw[cS];rfl) (by omega) aJ c r aj jY aE) (au D) (.eC D D D) D D<|ar)<|⟨.inl D,⟨_,(.nil),rfl⟩,cU (.cons (by rw[e];rfl) (.cons (by rw[e];rfl) (.cons D .nil)))⟩
 ·have e:bP rg x=jU 16 (x.index+x.n) (bP rg (x.l.getD 0 default)):=by rw[nr];unfold mn;rw[cS];rw[<-kX rg (i:=0) (by have:(x.l.length:Int)=1:=dh.fy.1.len.trans (by rw[cS];rfl);omega)];rfl
  exact eo (O 2 D<|cH [_] ((mQ bY D D D).bK (y:=aF .i64 14) (congrArg (aF .i64) cS))<|O 2 D<|ag (.mF oF (I D) (I D) (fun _=>by decide) D)<|O 3 D<|ct [45] [G 40,G 41,G 42] (kU D D D) (zf 16 x Y dh W (by rw[cS];rfl) (by omega) aJ c r aj jY aE) (au D) (.eC D D D) D D<|ar)<|⟨.inl D,⟨_,(.nil),rfl⟩,cU (.cons (by rw[e];rfl) (.cons (by rw[e];rfl) (.cons D .nil)))⟩
 ·have e:bP rg x=jV 17 (bP rg (x.l.getD (bT (bn x.l)).2.toNat default)) (bP rg (x.l.getD (1-(bT (bn x.l)).2).toNat default)):=by rw[nr];unfold mn;rw[cS];rw[<-kX rg (i:=(bT (bn x.l)).2.toNat) (ze dh cS D).1,<-kX rg (i:=(1-(bT (bn x.l)).2).toNat) (ze dh cS D).2];rfl
  exact eo (O 2 D<|cH [_] ((mQ bY D D D).bK (y:=aF .i64 15) (congrArg (aF .i64) cS))<|O 2 D<|ag (.mF oF (I D) (I D) (fun _=>by decide) D)<|O 3 D<|ct [45] [G 40,G 41,G 42] (kU D D D) (IG 17 x Y dh W (by rw[cS];rfl) (by omega) aJ c r aj jY aE) (au D) (.eC D D D) D D<|ar)<|⟨.inl D,⟨_,(.nil),rfl⟩,cU (.cons (by rw[e];rfl) (.cons (by rw[e];rfl) (.cons D .nil)))⟩
 ·have e:bP rg x=bif decide (eF (x.l.getD 1 default)<=eF (x.l.getD 0 default))then jV 18 (bP rg (x.l.getD 0 default)) (bP rg (x.l.getD 1 default))else jV 17 (jU 16 0 (bP rg (x.l.getD 1 default))) (bP rg (x.l.getD 0 default)):=by rw[nr];unfold mn;rw[cS];rw[<-xG (i:=1) (by have:(x.l.length:Int)=2:=dh.fy.1.len.trans (by rw[cS];rfl);omega),<-xG (i:=0) (by have:(x.l.length:Int)=2:=dh.fy.1.len.trans (by rw[cS];rfl);omega),<-kX rg (i:=0) (by have:(x.l.length:Int)=2:=dh.fy.1.len.trans (by rw[cS];rfl);omega),<-kX rg (i:=1) (by have:(x.l.length:Int)=2:=dh.fy.1.len.trans (by rw[cS];rfl);omega)];rfl
  exact eo (O 2 D<|cH [_] ((mQ bY D D D).bK (y:=aF .i64 16) (congrArg (aF .i64) cS))<|O 2 D<|ag (.mF oF (I D) (I D) (fun _=>by decide) D)<|O 3 D<|ct [45] [G 40,G 41,G 42] (kU D D D) (afr x Y dh W cS aJ c r aj jY aE) (au D) (.eC D D D) D D<|ar)<|⟨.inl D,⟨_,(.nil),rfl⟩,cU (.cons (by rw[e];rfl) (.cons (by rw[e];rfl) (.cons D .nil)))⟩
 ·have e:bP rg x=jV 19 (bP rg (x.l.getD (bT (bn x.l)).2.toNat default)) (bP rg (x.l.getD (1-(bT (bn x.l)).2).toNat default)):=by rw[nr];unfold mn;rw[cS];rw[<-kX rg (i:=(bT (bn x.l)).2.toNat) (ze dh cS D).1,<-kX rg (i:=(1-(bT (bn x.l)).2).toNat) (ze dh cS D).2];rfl
  exact eo (O 2 D<|cH [_] ((mQ bY D D D).bK (y:=aF .i64 17) (congrArg (aF .i64) cS))<|O 2 D<|ag (.mF oF (I D) (I D) (fun _=>by decide) D)<|O 3 D<|ct [45] [G 40,G 41,G 42] (kU D D D) (IG 19 x Y dh W (by rw[cS];rfl) (by omega) aJ c r aj jY aE) (au D) (.eC D D D) D D<|ar)<|⟨.inl D,⟨_,(.nil),rfl⟩,cU (.cons (by rw[e];rfl) (.cons (by rw[e];rfl) (.cons D .nil)))⟩
 ·have e:bP rg x=jU 20 (x.index+x.n) (bP rg (x.l.getD 0 default)):=by rw[nr];unfold mn;rw[cS];rw[<-kX rg (i:=0) (by have:(x.l.length:Int)=1:=dh.fy.1.len.trans (by rw[cS];rfl);omega)];rfl
  exact eo (O 2 D<|cH [_] ((mQ bY D D D).bK (y:=aF .i64 18) (congrArg (aF .i64) cS))<|O 2 D<|ag (.mF oF (I D) (I D) (fun _=>by decide) D)<|O 3 D<|ct [45] [G 40,G 41,G 42] (kU D D D) (zf 20 x Y dh W (by rw[cS];rfl) (by omega) aJ c r aj jY aE) (au D) (.eC D D D) D D<|ar)<|⟨.inl D,⟨_,(.nil),rfl⟩,cU (.cons (by rw[e];rfl) (.cons (by rw[e];rfl) (.cons D .nil)))⟩
 have e:bP rg x=xE (fo rg x.l) (bT (bn x.l)).2:=by rw[nr];unfold mn;rw[cS];rfl
 exact eo (O 2 D<|cH [_] ((mQ bY D D D).bK (y:=aF .i64 19) (congrArg (aF .i64) cS))<|O 2 D<|ag (.mF oF (I D) (I D) (fun _=>by decide) D)<|O 3 D<|ct [45] [G 40,G 41,G 42] (kU D D D) (afs x Y dh W cS aJ c r aj jY aE) (au D) (.eC D D D) D D<|ar)<|⟨.inl D,⟨_,(.nil),rfl⟩,cU (.cons (by rw[e];rfl) (.cons (by rw[e];rfl) (.cons D .nil)))⟩
theorem afv{p:aD}{rg:List (Int×Int)}{m:Nat}:∀x:aR,x.b5->ff p m x->AZ p x->C6 p rg x:=aR.ind fun x aJ Y bf rA c r aj jY aE=>by
 cases rA with
 |mk W xD=>exact afu x Y bf W (fun y ak=>aJ y ak (Y.part y ak) (bf.fy.2 y ak) (xD y ak)) c r aj jY aE
abbrev TT(c:dC):bg:=h8 2 (fun i:Int×Int=>[av i.1,av i.2]) c
abbrev MM(p:aD)(c:dC)(r:Int):List bg:=[av p.cR,av p.tail,dN p.params,dN p.bt,hJ p.a1,nI (p.bM.map e2.dU),av r,TT c]
abbrev tL(p:aD)(c:dC)(r:Int):bg:=.agg (MM p c r)
theorem afw{c:dC}{k:Nat}(h:k<c.length):(wb c).map (bz.at · k)=[av (c.getD k default).1,av (c.getD k default).2]:=by
 simp[wb,bz.at,cN,h]
theorem afx{p:aD}(h:hZ p=some p)(i:Nat)(hi:i<p.ah.length):(p.ah.getD i default).kind=1\/(p.ah.getD i default).kind=2\/(p.ah.getD i default).kind=3\/(p.ah.getD i default).kind=4:=by
 have bf:=(y2 h).1
 have J:=oV bf hi
 simp only[eL]at J
 have J:=J.1
 unfold xg at J
 obtain⟨J,_⟩:=iX J
 obtain⟨J,W⟩:=iX J
 have:=cJ J
 have:=cJ W
 omega
theorem MN{p:aD}(eT:nk p)(cj:∀i,i<p.ah.length->dY (p.ah.getD i default).x<=512):∀n,n<=p.ah.length->(bN p n).c.length<=1537*n/\0<=(bN p n).r/\(bN p n).r<=513*n
 |0,_=>⟨Nat.le_refl _,Int.le_refl _,Int.le_refl _⟩
 |n+1,af=>by
  obtain⟨J,W,aH⟩:=MN eT cj n (by omega)
  have aa:=q2 (rg:=(bN p n).rg) (p.ah.getD n default).x (eT.lZ n (by omega)) (bN p n).r
  have ae:=cj n (by omega)
  have key:∀q:C1,(q.c.length<=(bN p n).c.length+(bP (bN p n).rg (b9 p n).x (bN p n).r).1.length+1/\(bP (bN p n).rg (b9 p n).x (bN p n).r).2<=q.r/\q.r<=(bP (bN p n).rg (b9 p n).x (bN p n).r).2+1)->q.c.length<=1537*(n+1)/\0<=q.r/\q.r<=513*((n+1:Nat):Int):=fun q bA=>by
   have iF:(bP (bN p n).rg (b9 p n).x (bN p n).r).1.length<=3*dY (p.ah.getD n default).x:=aa.1
   have gr:(bN p n).r<=(bP (bN p n).rg (b9 p n).x (bN p n).r).2:=aa.2.1
   have IJ:(bP (bN p n).rg (b9 p n).x (bN p n).r).2<=(bN p n).r+dY (p.ah.getD n default).x:=aa.2.2
   omega
  rw[bN]
  refine key _ ?_
  unfold pN
  simp only
  split<;>simp only[ef,np]<;>omega
theorem TU(op:Int):bw prog 31 [aF .i64 op] [] (.fn 78 [.cc [av op]]) [] []:=by
 refine cB [.tmp 2] func31 D D fun E K af=>?_
 exact aO (cV 1 D D D<|aN 1 D)<|al<|c1 (b1.hV (t:=1) (l:=1) D D)<|bm (ag (.mG (.cons (I D) .nil))<|aN 1 D)<|bp<|dr D D
theorem zh(op:Int):bw prog 33 [aF .i64 op] [] (.fn 79 [.cc [av op]]) [] []:=by
 refine cB [.tmp 2] func33 D D fun E K af=>?_
 exact aO (cV 1 D D D<|aN 1 D)<|al<|c1 (b1.hV (t:=1) (l:=1) D D)<|bm (ag (.mG (.cons (I D) .nil))<|aN 1 D)<|bp<|dr D D
theorem IK(op:Int):bw prog 34 [aF .i64 op] [] (.fn 80 [.cc [av op]]) [] []:=by
 refine cB [.tmp 2] func34 D D fun E K af=>?_
 exact aO (cV 1 D D D<|aN 1 D)<|al<|c1 (b1.hV (t:=1) (l:=1) D D)<|bm (ag (.mG (.cons (I D) .nil))<|aN 1 D)<|bp<|dr D D
theorem afy(p:aD)(Z:p.b5){fd:List bh}(eG:qi p fd)(eU:rP p=true)(cj:∀i,i<p.ah.length->dY (p.ah.getD i default).x<=512):bw prog 8 [.d (fR p)] [] (.bE [.d (tL p (bN p p.ah.length).c (bN p p.ah.length).r),.d (av 0)]) [] []:=by
 have An:bw prog 6 [.d (fR p)] [] (.d (av 0)) [] []:=by
  have:=FD Z
  rw[eU]at this
  exact this
 have gy:=y9 eG.res
 have eT:=eG.pL.wf
 have mf:=gy.cg
 have iv:=gy.kJ
 have ep:=afx eG.res
 refine cB [.cell 2 41,.tmp 3] func8 D D fun E K af=>?_
 refine aO (cV 1 D D D<|cm 2 Ko D<|aN 1 D)<|al<|aO (O 1 D<|cY (cf D) An (au D)<|aN 1 D)<|aL 2 D<|a7 D (fun aP=>?_) fun aP=>?_
 ·cases aP
 refine bx<|al<|c1 (b1.hV (t:=1) (l:=1) D D)<|bm (O 10 D<|ag (.build Ko X1 (ba D D D (ba D D D (ba D D D (ba D D D (ba D D D (.nil _ _)))))) D)<|sn fe av 42 [] D<|ag (.build Xk X6 (ba D D D (ba D D D (.nil _ _))) D)<|wE 40 [] (I D) D D D<|aN 1 D)<|al<|al<|c1 (b1.nd (lb:=40) (j:=5) (l:=43) (n:=1) (fq:=[.ds []]) D D D D (by rw[K];decide) D (by simp[bz.len]) rfl)<|c1 (b1.nd (lb:=40) (j:=7) (l:=41) (n:=2) (fq:=wb []) D D D D (by rw[K];decide) D (by simp[bz.len]) rfl)<|fS 4 rfl<|bX<|eP (σ:=Nat) [(ab 1,_),(ab 2,_),(ab 5,_),(ab 32,_),(ab 33,_),(G 2,_),(G 41,_),(G 42,_)] (fun i=>[(ab 34,.aB (aF .i64 (i:Int))),(G 40,.U (.cells [.d (av p.cR),.d (av p.tail),.d (dN p.params),.d (dN p.bt),.d (hJ p.a1),.aQ 43 i,.d (av 0),.aQ 41 0,.mp 42,.d (.v .nilFunc),.d (.v .nilFunc),.d (.v .nilFunc),.d (.v .nilFunc),.d (.v .nilFunc),.d (.v .nilFunc),.d (.v .nilFunc),.d (.v .nilFunc),.d (.v .nilFunc),.d (.v .nilFunc),.d (.v .nilFunc),.d (.v .nilFunc),.d (.v .nilFunc),.d (.v .nilFunc),.d (.v .nilFunc),.d (.v .nilFunc),.d (.v .nilFunc),.d (.v .nilFunc),.d (.v .nilFunc),.d (.v .nilFunc)])),(G 43,.U (.bG 1 i [.ds (((p.bM.map e2.dU).take i).map ch)]))]) (fun i=>i<=p.bM.length) (fun i=>p.bM.length-i) 0 (ck D D<|aZ D<|aU) (fs D D D D D D D D<|aU) (Nat.zero_le _) fun i hi=>?_
 refine aL 1 D<|al<|a7 D (fun bq=>?_) fun bq=>?_
 ·have aG:i<p.bM.length:=eJ bq
  have fz:(p.bM.map e2.dU).take (i+1)=(p.bM.map e2.dU).take i++[(p.bM.getD i default).dU]:=by rw[uD (by rw[l5];exact aG)];congr 2;simp[cN,aG]
  exact bx<|al<|bX<|aO (ag ((eN wS D D).bK (y:=.cc (xa (p.bM.getD i default))) D)<|O 1 D<|cm 7 wV D<|cL Ad D D D D<|ar)<|eo (O 8 D<|gN 46 [] BQ BN D (by decide) (by decide) (ba D D D (.nil _ _)) D D D<|hA 73 [G 43] Em En (by decide) (.aQ (I D) D) (.aQ (I D) D) (bz.hT D) (hB D) (by omega) (by omega) (cs:=[.ds (((p.bM.map e2.dU).take i).map ch++[ch (p.bM.getD i default).dU])]) D D<|O 3 D<|iG wT D D D D D<|ar)<|gI 73 43 D<|bm (cp D D D<|aN 1 D)<|⟨i+1,aG,fD (by assumption),aZ (ec (by omega))<|aZ D<|aZ (by rw[fz,List.map_append];rfl)<|aU,fs D D D D D D D D<|aU⟩
 obtain rfl:i=(p.bM.map e2.dU).length:=by have:=dj bq;rw[l5];omega
 rw[List.take_length]
 refine dW<|al<|c1 (b1.mH (lb:=40) (j:=5) (l:=43) (n:=1) (g:=fun i=>[ch ((p.bM.map e2.dU).getD i default)]) D D D D (fun i hi=>(C5 hi).symm) D)<|dm (O 1 D<|ct [] [] (cf D) (TU 2) (au D) .nil D D<|ct [] [] (cf D) (TU 3) (au D) .nil D D<|ct [] [] (cf D) (zh 8) (au D) .nil D D<|ct [] [] (cf D) (zh 9) (au D) .nil D D<|ct [] [] (cf D) (zh 10) (au D) .nil D D<|ct [] [] (cf D) (zh 11) (au D) .nil D D<|ct [] [] (cf D) (zh 12) (au D) .nil D D<|ct [] [] (cf D) (zh 15) (au D) .nil D D<|ct [] [] (cf D) (zh 16) (au D) .nil D D<|ct [] [] (cf D) (zh 20) (au D) .nil D D<|ct [] [] (cf D) (IK 13) (au D) .nil D D<|ct [] [] (cf D) (IK 14) (au D) .nil D D<|ct [] [] (cf D) (IK 17) (au D) .nil D D<|ct [] [] (cf D) (IK 19) (au D) .nil D D<|ag (.build Xj X5 (ba D D D (ba D D D (ba D D D (ba D D D (ba D D D (ba D D D (ba D D D (ba D D D (ba D D D (ba D D D (ba D D D (ba D D D (ba D D D (ba D D D (ba D D D (ba D D D (ba D D D (ba D D D (.nil _ _))))))))))))))))))) D)<|O 2 D<|x7 Xi (I D) (I D) D D (by rfl) (by exact eZ.1 D) (by simp) rfl<|ar) (nM K af D)<|aL 1 D<|al<|aL 4 D<|bX<|eP (σ:=Nat) [(ab 2,_),(ab 5,_),(ab 8,_),(ab 71,_),(ab 72,_),(G 2,_)] (fun i=>[(ab 73,.aB (aF .i64 (i:Int))),(G 40,.U (Bb p 41 (bN p i).c (bN p i).r)),(G 41,.U (.bG 2 (bN p i).c.length (wb (bN p i).c))),(G 42,.U (hE fe av (bN p i).rg))]) (fun i=>i<=p.ah.length) (fun i=>p.ah.length-i) 0 (da D D D D<|aU) (da D D D D<|ck D D<|aU) (Nat.zero_le _) fun i hi=>?_
 refine aL 1 D<|al<|a7 D (fun b3=>?_) fun b3=>?_
 ·have aG:i<p.ah.length:=eJ b3
  have iM:=(Z.ah _ (dJ aG)).2.2
  have dh:ff p i (p.ah.getD i default).x:=eT.lZ i aG
  have rA:AZ p (p.ah.getD i default).x:=Th eG.res aG
  have Qq:=cj i aG
  have fV:=MN eT cj i (Nat.le_of_lt aG)
  have ajH:=q2 (rg:=(bN p i).rg) (p.ah.getD i default).x dh (bN p i).r
  refine bx<|al<|bX<|aO (O 1 D<|ag ((eN qH D D).bK (y:=.cc (jf (p.ah.getD i default))) D)<|O 1 D<|cm 10 nX D<|O 1 D<|cL qI D D D D<|ar)<|aO (O 2 D<|cH [_] ((Pure.pT dL (I D) D fun _=>cC D).bK (y:=.d (.agg (cr (p.ah.getD i default).x))) D)<|ct [45] [G 40,G 41,G 42] (cn D D) (afv (m:=i) (p.ah.getD i default).x iM dh rA (bN p i).c (bN p i).r (by omega) (by omega) (by omega)) (au D) (.eC D D D) D D<|ar)<|al<|gI 45 41 D<|fS 2 D<|bX<|aL 2 D<|a7 D (fun et=>?_) fun et=>?_
  ·have kz:bN p (i+1)=⟨((bN p i).c++(bP (bN p i).rg (p.ah.getD i default).x (bN p i).r).1)++[(5,(bP (bN p i).rg (p.ah.getD i default).x (bN p i).r).2)],(bP (bN p i).rg (p.ah.getD i default).x (bN p i).r).2+1,(dM (bN p i).rg (i:Int) (bP (bN p i).rg (p.ah.getD i default).x (bN p i).r).2)⟩:=by rw[bN,pN,show(b9 p i).kind=1 from cJ et];rfl
   refine al<|?_
   apply yN (G 40) [Bb p 41 ((bN p i).c++(bP (bN p i).rg (p.ah.getD i default).x (bN p i).r).1) (bP (bN p i).rg (p.ah.getD i default).x (bN p i).r).2,Bb p 41 ((bN p i).c++(bP (bN p i).rg (p.ah.getD i default).x (bN p i).r).1) ((bP (bN p i).rg (p.ah.getD i default).x (bN p i).r).2+1)] mixed ⟨_,.head _,rfl⟩
   ·exact hY 3 D D<|qe D Kt D D<|hY 2 D D<|tC (Bb p 41 ((bN p i).c++(bP (bN p i).rg (p.ah.getD i default).x (bN p i).r).1) ((bP (bN p i).rg (p.ah.getD i default).x (bN p i).r).2+1)) (ct [] [G 40,G 41,G 42] (cf D) (TO p (bN p i).rg ((bN p i).c++(bP (bN p i).rg (p.ah.getD i default).x (bN p i).r).1) (bP (bN p i).rg (p.ah.getD i default).x (bN p i).r).2 (by omega) (by omega)) (au D) (.eC D D D) D D<|ar) (.tail _ (.head _)) (fun d=>rfl)<|j8 (bI.put (kv:=fe) (k:=(i:Int)) (f:=av) (u:=(bP (bN p i).rg (p.ah.getD i default).x (bN p i).r).2) iW (I D) (.v (I D)) (.d (I D)) D<|ar) D<|.nil _
   ·rfl
   ·exact bR
   exact bm (O 7 D<|cH [_] ((Pure.rD (kv:=fe) (k:=(i:Int)) (f:=av) iW (I D) (.v (I D)) D).bK (y:=aF .i64 (bP (bN p i).rg (p.ah.getD i default).x (bN p i).r).2) (by rw[oI,if_pos rfl];rfl))<|ct [45] [G 40,G 41,G 42] (HJ D D D D) (q3 p (dM (bN p i).rg (i:Int) (bP (bN p i).rg (p.ah.getD i default).x (bN p i).r).2) ((bN p i).c++(bP (bN p i).rg (p.ah.getD i default).x (bN p i).r).1) ((bP (bN p i).rg (p.ah.getD i default).x (bN p i).r).2+1) 5 (bP (bN p i).rg (p.ah.getD i default).x (bN p i).r).2 (by simp only[ef];omega)) (au D) (.eC D D D) D D<|ar)<|gI 45 41 D<|bm (cp D D D<|aN 1 D)<|⟨i+1,aG,fD (by assumption),aZ (ec (by omega))<|aZ (by rw[kz];rfl)<|aZ (by rw[kz];rfl)<|aZ (by rw[kz];rfl)<|aU,da D D D D<|ck D D<|aU⟩
  refine aL 2 D<|a7 D (fun eQ=>?_) fun eQ=>?_
  ·have kz:bN p (i+1)=⟨((bN p i).c++(bP (bN p i).rg (p.ah.getD i default).x (bN p i).r).1)++[(6,(p.ah.getD i default).index)],(bP (bN p i).rg (p.ah.getD i default).x (bN p i).r).2,(bN p i).rg⟩:=by rw[bN,pN,show(b9 p i).kind=2 from cJ eQ];rfl
   exact bm (O 4 D<|ct [45] [G 40,G 41,G 42] (HJ D D D D) (q3 p (bN p i).rg ((bN p i).c++(bP (bN p i).rg (p.ah.getD i default).x (bN p i).r).1) (bP (bN p i).rg (p.ah.getD i default).x (bN p i).r).2 6 (p.ah.getD i default).index (by simp only[ef];omega)) (au D) (.eC D D D) D D<|ar)<|gI 45 41 D<|bm (cp D D D<|aN 1 D)<|⟨i+1,aG,fD (by assumption),aZ (ec (by omega))<|aZ (by rw[kz];rfl)<|aZ (by rw[kz];rfl)<|aZ (by rw[kz];rfl)<|aU,da D D D D<|ck D D<|aU⟩
  refine aL 2 D<|a7 D (fun ie=>?_) fun ie=>?_
  ·have kz:bN p (i+1)=⟨((bN p i).c++(bP (bN p i).rg (p.ah.getD i default).x (bN p i).r).1)++[(7,(p.ah.getD i default).index)],(bP (bN p i).rg (p.ah.getD i default).x (bN p i).r).2,(bN p i).rg⟩:=by rw[bN,pN,show(b9 p i).kind=3 from cJ ie];rfl
   exact bm (O 4 D<|ct [45] [G 40,G 41,G 42] (HJ D D D D) (q3 p (bN p i).rg ((bN p i).c++(bP (bN p i).rg (p.ah.getD i default).x (bN p i).r).1) (bP (bN p i).rg (p.ah.getD i default).x (bN p i).r).2 7 (p.ah.getD i default).index (by simp only[ef];omega)) (au D) (.eC D D D) D D<|ar)<|gI 45 41 D<|bm (cp D D D<|aN 1 D)<|⟨i+1,aG,fD (by assumption),aZ (ec (by omega))<|aZ (by rw[kz];rfl)<|aZ (by rw[kz];rfl)<|aZ (by rw[kz];rfl)<|aU,da D D D D<|ck D D<|aU⟩
  refine aL 2 D<|a7 D (fun kb=>?_) fun kb=>?_
  ·have kz:bN p (i+1)=⟨((bN p i).c++(bP (bN p i).rg (p.ah.getD i default).x (bN p i).r).1)++[(22,0)],(bP (bN p i).rg (p.ah.getD i default).x (bN p i).r).2,(bN p i).rg⟩:=by rw[bN,pN,show(b9 p i).kind=4 from cJ kb];rfl
   exact bm (O 2 D<|ct [45] [G 40,G 41,G 42] (HJ D D D D) (q3 p (bN p i).rg ((bN p i).c++(bP (bN p i).rg (p.ah.getD i default).x (bN p i).r).1) (bP (bN p i).rg (p.ah.getD i default).x (bN p i).r).2 22 0 (by simp only[ef];omega)) (au D) (.eC D D D) D D<|ar)<|gI 45 41 D<|bm (cp D D D<|aN 1 D)<|⟨i+1,aG,fD (by assumption),aZ (ec (by omega))<|aZ (by rw[kz];rfl)<|aZ (by rw[kz];rfl)<|aZ (by rw[kz];rfl)<|aU,da D D D D<|ck D D<|aU⟩
  exfalso
  have J:=dj et
  have W:=dj eQ
  have aH:=dj ie
  have aV:=dj kb
  have:=ep i aG
  omega
 obtain rfl:i=p.ah.length:=by have:=dj b3;omega
 exact dW<|al<|c1 (b1.mH (lb:=40) (j:=7) (l:=41) (n:=2) (g:=fun k=>[av ((bN p p.ah.length).c.getD k default).1,av ((bN p p.ah.length).c.getD k default).2]) D D D D (fun i hi=>afw hi) D)<|bm (O 3 D<|cH [_] (.x2 BR (I D) D fun _=>cC D)<|cL BR D D D D<|aN 1 D)<|bp<|⟨.inr D,⟨_,(.cons (.iP D D BR D) (.cons (.tmp D) .nil)),rfl⟩,by simp[ad.get]⟩
def fp(p:aD)(r op:Int):Int×Int×Int×Int:=
 bif decide (op=1)then(0,1,-4611686018427387904,4611686018427387904)else
 bif decide (op=2)then(0,1,0,p.params.length-1)else
 bif decide (op=3)then(0,1,0,p.bt.length-1)else
 bif decide (op=4)then(0,1,0,r-1)else
 bif decide (op=5)then(1,0,0,r-1)else
 bif decide (op=6)then(1,0,0,p.bt.length-1)else
 bif decide (op=7)then(1,0,0,p.a1.length-1)else
 bif decide (op=22)then(1,0,0,0)else
 bif decide (op=10)then(1,1,0,p.a1.length-1)else
 bif decide (op=11)then(1,1,0,p.bM.length-1)else
 bif decide (op=20)then(1,1,1,2147483648)else
 bif decide (op=8)then(1,1,0,0)else
 bif decide (op=9)then(1,1,0,0)else
 bif decide (op=12)then(1,1,0,0)else
 bif decide (op=15)then(1,1,0,0)else
 bif decide (op=16)then(1,1,0,0)else
 bif decide (op=13)then(2,1,0,0)else
 bif decide (op=14)then(2,1,0,0)else
 bif decide (op=17)then(2,1,0,0)else
 bif decide (op=18)then(2,1,0,0)else
 bif decide (op=19)then(2,1,0,0)else
 bif decide (op=21)then(4,1,0,0)else
 (-1,0,0,0)
theorem afz{g:FuncId}:∀V M v,bU V M (.fn g []) v->bU V M (.d (.v (.func (.func g) #[] #[]))) v:=fun V M v h=>by
 cases h with
 |fn _ _ vs aa _=>
  have:vs=[]:=List.eq_nil_of_length_eq_zero (by simpa using aa.symm)
  subst this;exact bU.d _ _ (ey.v _)
theorem afA(p:aD)(Z:p.b5)(c:dC)(r op:Int)(aE:0<=r)(k3:r<=65536):bw prog 100 [.d (tL p c r),.d (av op)] [] (.bE [.d (av (fp p r op).1),.d (av (fp p r op).2.1),.d (av (fp p r op).2.2.1),.d (av (fp p r op).2.2.2)]) [] []:=by
 have MO:=Z.nf
 have IL:=Z.hH
 have IM:=Z.gH
 have TV:(p.bM.map e2.dU).length<=65536:=by rw[l5];exact Z.cg
 refine cB [.tmp 4,.tmp 5,.tmp 6,.tmp 7] func100 D D fun E K af=>?_
 refine aO (cV 2 D D D<|aN 4 D)<|al<|al<|c1 (b1.hV (t:=2) (l:=2) D D)<|fS 1 D<|bX<|aL 2 D<|a7 D (fun aP=>?_) fun aP=>?_
 ·refine aL 4 D<|bp<|ml D D D D ?_
  obtain rfl:=cJ aP
  rfl
 refine aL 2 D<|a7 D (fun bq=>?_) fun bq=>?_
 ·refine ft (O 3 D<|cp D D D<|aN 4 D)<|bp<|ml D D D D ?_
  obtain rfl:=cJ bq
  rfl
 refine aL 2 D<|a7 D (fun b3=>?_) fun b3=>?_
 ·refine ft (O 3 D<|cp D D D<|aN 4 D)<|bp<|ml D D D D ?_
  obtain rfl:=cJ b3
  rfl
 refine aL 2 D<|a7 D (fun et=>?_) fun et=>?_
 ·refine ft (O 2 D<|cp D D D<|aN 4 D)<|bp<|ml D D D D ?_
  obtain rfl:=cJ et
  rfl
 refine aL 2 D<|a7 D (fun eQ=>?_) fun eQ=>?_
 ·refine ft (O 2 D<|cp D D D<|aN 4 D)<|bp<|ml D D D D ?_
  obtain rfl:=cJ eQ
  rfl
 refine aL 2 D<|a7 D (fun ie=>?_) fun ie=>?_
 ·refine ft (O 3 D<|cp D D D<|aN 4 D)<|bp<|ml D D D D ?_
  obtain rfl:=cJ ie
  rfl
 refine aL 2 D<|a7 D (fun kb=>?_) fun kb=>?_
 ·refine ft (O 3 D<|cp D D D<|aN 4 D)<|bp<|ml D D D D ?_
  obtain rfl:=cJ kb
  rfl
 refine aL 2 D<|a7 D (fun pG=>?_) fun pG=>?_
 ·refine aL 4 D<|bp<|ml D D D D ?_
  obtain rfl:=cJ pG
  rfl
 refine aL 2 D<|a7 D (fun uQ=>?_) fun uQ=>?_
 ·refine ft (O 3 D<|cp D D D<|aN 4 D)<|bp<|ml D D D D ?_
  obtain rfl:=cJ uQ
  rfl
 refine aL 2 D<|a7 D (fun yY=>?_) fun yY=>?_
 ·refine ft (O 3 D<|cp D D D<|aN 4 D)<|bp<|ml D D D D ?_
  obtain rfl:=cJ yY
  rw[l5]
  rfl
 refine aL 2 D<|a7 D (fun xt=>?_) fun xt=>?_
 ·refine aL 4 D<|bp<|ml D D D D ?_
  obtain rfl:=cJ xt
  rfl
 refine al<|aL 2 D<|a7 D (fun xu=>?_) fun xu=>?_
 ·refine bx<|a7 D (fun yZ=>?_) (fun yZ=>?_)
  ·refine aL 4 D<|bp<|ml D D D D ?_
   obtain rfl:=cJ xu
   rfl
  exact Bool.noConfusion (xu.symm.trans yZ)
 refine aL 2 D<|a7 D (fun xv=>?_) fun xv=>?_
 ·refine bx<|a7 D (fun AN=>?_) (fun AN=>?_)
  ·refine aL 4 D<|bp<|ml D D D D ?_
   obtain rfl:=cJ xv
   rfl
  exact Bool.noConfusion (xv.symm.trans AN)
 refine aL 2 D<|a7 D (fun xw=>?_) fun xw=>?_
 ·refine bx<|a7 D (fun AO=>?_) (fun AO=>?_)
  ·refine aL 4 D<|bp<|ml D D D D ?_
   obtain rfl:=cJ xw
   rfl
  exact Bool.noConfusion (xw.symm.trans AO)
 refine aL 2 D<|a7 D (fun xx=>?_) fun xx=>?_
 ·refine bx<|a7 D (fun H0=>?_) (fun H0=>?_)
  ·refine aL 4 D<|bp<|ml D D D D ?_
   obtain rfl:=cJ xx
   rfl
  exact Bool.noConfusion (xx.symm.trans H0)
 refine fS 2 D<|a7 D (fun MP=>?_) fun MP=>?_
 ·refine aL 4 D<|bp<|ml D D D D ?_
  obtain rfl:=cJ MP
  rfl
 refine al<|aL 2 D<|a7 D (fun IN=>?_) fun IN=>?_
 ·refine bx<|a7 D (fun TW=>?_) (fun TW=>?_)
  ·refine aL 4 D<|bp<|ml D D D D ?_
   obtain rfl:=cJ IN
   rfl
  exact Bool.noConfusion (IN.symm.trans TW)
 refine aL 2 D<|a7 D (fun IP=>?_) fun IP=>?_
 ·refine bx<|a7 D (fun TX=>?_) (fun TX=>?_)
  ·refine aL 4 D<|bp<|ml D D D D ?_
   obtain rfl:=cJ IP
   rfl
  exact Bool.noConfusion (IP.symm.trans TX)
 refine aL 2 D<|a7 D (fun IQ=>?_) fun IQ=>?_
 ·refine bx<|a7 D (fun TY=>?_) (fun TY=>?_)
  ·refine aL 4 D<|bp<|ml D D D D ?_
   obtain rfl:=cJ IQ
   rfl
  exact Bool.noConfusion (IQ.symm.trans TY)
 refine aL 2 D<|a7 D (fun IS=>?_) fun IS=>?_
 ·refine bx<|a7 D (fun TZ=>?_) (fun TZ=>?_)
  ·refine aL 4 D<|bp<|ml D D D D ?_
   obtain rfl:=cJ IS
   rfl
  exact Bool.noConfusion (IS.symm.trans TZ)
 refine fS 2 D<|a7 D (fun MQ=>?_) fun MQ=>?_
 ·refine aL 4 D<|bp<|ml D D D D ?_
  obtain rfl:=cJ MQ
  rfl
 refine aL 2 D<|a7 D (fun MR=>?_) fun MR=>?_
 ·refine aL 4 D<|bp<|ml D D D D ?_
  obtain rfl:=cJ MR
  rfl
 refine bx<|aL 4 D<|bp<|ml D D D D ?_
 simp only[fp,show decide (op=1)=false from aP,show decide (op=2)=false from bq,show decide (op=3)=false from b3,show decide (op=4)=false from et,show decide (op=5)=false from eQ,show decide (op=6)=false from ie,show decide (op=7)=false from kb,show decide (op=22)=false from pG,show decide (op=10)=false from uQ,show decide (op=11)=false from yY,show decide (op=20)=false from xt,show decide (op=8)=false from xu,show decide (op=9)=false from xv,show decide (op=12)=false from xw,show decide (op=15)=false from xx,show decide (op=16)=false from MP,show decide (op=13)=false from IN,show decide (op=14)=false from IP,show decide (op=17)=false from IQ,show decide (op=18)=false from IS,show decide (op=19)=false from MQ,show decide (op=21)=false from MR,cond_true,cond_false]
 rfl
def tM(lo hi:Int):Bool:=bif(bif decide (lo< -2147483648)then true else decide (hi<lo))then true else decide (2147483647<hi)
structure IT(p:aD)(c:dC)(r:Int):Prop where
 b:∀i,i<(p.params++p.bt).length->tM ((p.params++p.bt).getD i default).lo ((p.params++p.bt).getD i default).hi=false
 l:∀i,i<p.a1.length->tM (p.a1.getD i default).lo (p.a1.getD i default).hi=false/\1<=(p.a1.getD i default).size/\(p.a1.getD i default).size<=65536
 t:∀i,i<p.bM.length->1<=((p.bM.map e2.dU).getD i default).length/\((p.bM.map e2.dU).getD i default).length<=1024/\((p.bM.map e2.dU).getD i default).any (fun v=>tM v v)=false
 n:p.params.length<=16/\p.bt.length<=16/\p.a1.length<=16/\p.bM.length<=16
 a:0<=p.cR/\p.cR<=4096
 m:-1<=p.tail/\p.tail<=1048576
 r:0<=r/\r<=65536
 c:c.length<=65536
theorem MS(lo hi:Int):bw prog 162 [aF .i64 lo,aF .i64 hi] [] (bk (tM lo hi)) [] []:=by
 refine cB [.tmp 4] func162 D D fun E K af=>?_
 exact aL 1 D<|aO (O 3 D<|dp D D<|dp D D<|c6 D D (bH D) D<|gQ D D D<|O 1 D<|dp D D<|c6 D D (I D) D<|gQ D D D<|aN 1 D)<|bp<|dr D D
theorem afB{lo hi:Int}(h:tM lo hi=false):bw prog 162 [aF .i64 lo,aF .i64 hi] [] (bk false) [] []:=h▸MS lo hi
theorem afC(v:Int):bw prog 163 [aF .i64 v,.cc [.v (.func (.func 162) #[] #[])]] [] (bk (tM v v)) [] []:=by
 refine cB [.tmp 3] func163 D D fun E K af=>?_
 exact aL 1 D<|aO (O 3 D<|cY (wF (I D) (.cons (I D) (.cons (I D) .nil))) (MS v v) (au D)<|aN 1 D)<|bp<|dr D D
theorem afD{l:List Int}(aa:l.length<=9223372036854775807)(h:l.any (fun v=>tM v v)=false):bw prog 64 [.d (ch l),.fn 163 [.cc [.v (.func (.func 162) #[] #[])]]] [] (bk false) [] []:=h▸CH l aa 163 [.cc [.v (.func (.func 162) #[] #[])]] (fun v=>tM v v) (au D) afC
theorem afE(p:aD)(Z:p.b5)(c:dC)(r:Int)(og:IT p c r):bw prog 99 [.d (tL p c r)] [] (bk true) [] []:=by
 have MO:=Z.nf
 have IL:=Z.hH
 have IM:=Z.gH
 have TV:(p.bM.map e2.dU).length<=65536:=by rw[l5];exact Z.cg
 refine cB [.tmp 2] func99 D D fun E K af=>?_
 apply al
 apply dm
 ·apply cV 1 D D D
  apply ag (.assign (I D))
  exact .nil _
 ·exact bR
 apply al
 apply dm
 ·apply cm 3 XW D
  apply ny KD (I D) (I D) D D D (by simp[ai.fk,jo]) (cC D) D
  exact .nil _
 ·exact bR
 apply al
 apply al
 refine c1 (b1.hV (t:=1) (l:=1) D D) ?_
 refine c8.yB (l:=3) (B':=.data [.v (.func (.func 162) #[] #[])]) D (bl.YR (.cons afz .nil)) ?_
 refine c1 (b1.hV (t:=3) (l:=3) D D) ?_
 apply dm
 ·apply ag (.fieldAddr O0 (I D) D)
  apply ag (.fG p2 (I D) D)
  apply ag (.fieldAddr O1 (I D) D)
  apply ag (.fG p2 (I D) D)
  apply j4 (g:=fun i=>[dN ([p.params,p.bt].getD i [])]) Po OS D (by decide) (by decide) (ba D D D (ba D D D (.nil _ _))) D fun i hi=>by rcases(by omega:i=0\/i=1)with rfl|rfl<;>rfl
  apply ct [1] [] (cf D) (Sh [p.params,p.bt] (by simp;omega) (by simp)) (au D) .nil D D
  apply ag (.len D underlying24 (I D) D)
  apply ag (.move (I D))
  exact .nil _
 ·exact bR
 apply bX
 have oC:[p.params,p.bt].flatten=p.params++p.bt:=by simp
 rw[oC]
 have k7:(p.params++p.bt).length<=131072:=by rw[ef];omega
 refine c1 (b1.tb (t:=17) (l:=1) (n:=3) (g:=fun j=>tq ((p.params++p.bt).getD j default)) D D fun j az=>Lh _ j az) ?_
 refine eP (σ:=Nat) [(ab 1,_),(ab 3,_),(ab 17,_),(ab 18,_)] (fun i=>[(ab 19,.aB (aF .i64 (i:Int)))]) (fun i=>i<=(p.params++p.bt).length) (fun i=>(p.params++p.bt).length-i) 0 (aZ D<|aU) (da D D D D<|aU) (Nat.zero_le _) fun i hi=>?_
 apply al
 apply dm
 ·apply ag (.qz (I D) (I D) D)
  exact .nil _
 ·exact bR
 apply al
 refine a7 D (fun aP=>?_) fun aP=>?_
 ·have aG:i<(p.params++p.bt).length:=eJ aP
  have afF:=og.b i aG
  apply bx
  apply al
  apply bX
  apply al
  apply dm
  ·apply bW lE D D
   apply ag (.kD yq (I D) fun _=>cC D)
   apply cm 5 uq D
   apply cL yq D D D D
   exact .nil _
  ·exact bR
  apply al
  apply dm
  ·apply ag (.fG KD (I D) D)
   apply ag (.fieldAddr O9 (I D) D)
   apply cH [_] (.h2 bY (I D) D D)
   apply ag (.fieldAddr G2 (I D) D)
   apply cH [_] (.h2 bY (I D) D D)
   apply cY (wF (I D) (.cons (I D) (.cons (I D) .nil))) (MS _ _) (au D)
   exact .nil _
  ·exact bR
  refine a7 D (fun bq=>?_) fun bq=>?_
  ·exact Bool.noConfusion (Eq.trans (show true=tM _ _ from(show tM _ _=true from bq).symm) afF)
  ·apply bx
   apply dm
   ·apply cp D D D
    apply ag (.move (I D))
    exact .nil _
   ·exact bR
   exact⟨i+1,aG,by show(p.params++p.bt).length-(i+1)<(p.params++p.bt).length-i;omega,aZ (ec (by omega))<|aU,da D D D D<|aU⟩
 ·apply dW
  apply al
  apply al
  apply dm
  ·apply ag (.fieldAddr Kp (I D) D)
   apply ag (.fG uo (I D) D)
   apply ag (.len D underlying25 (I D) D)
   apply ag (.move (I D))
   exact .nil _
  ·exact bR
  apply bX
  refine eP (σ:=Nat) [(ab 1,_),(ab 3,_),(ab 31,_),(ab 32,_)] (fun i=>[(ab 33,.aB (aF .i64 (i:Int)))]) (fun i=>i<=p.a1.length) (fun i=>p.a1.length-i) 0 (aZ D<|aU) (da D D D D<|aU) (Nat.zero_le _) fun i hi=>?_
  apply al
  apply dm
  ·apply ag (.qz (I D) (I D) D)
   exact .nil _
  ·exact bR
  apply al
  refine a7 D (fun b3=>?_) fun b3=>?_
  ·have aG:i<p.a1.length:=eJ b3
   obtain⟨iF,gr,IJ⟩:=og.l i aG
   apply bx
   apply al
   apply bX
   apply al
   apply dm
   ·apply bW nV D D
    apply ag (.kD wU (I D) fun _=>cC D)
    apply cm 7 vp D
    apply cL wU D D D D
    exact .nil _
   ·exact bR
   apply al
   apply dm
   ·apply ag (.fG KD (I D) D)
    apply ag (.fieldAddr Ku (I D) D)
    apply cH [_] (.h2 bY (I D) D D)
    apply ag (.fieldAddr Kv (I D) D)
    apply cH [_] (.h2 bY (I D) D D)
    apply cY (wF (I D) (.cons (I D) (.cons (I D) .nil))) (afB iF) (au D)
    apply ag (.move (I D))
    apply cz D
    apply ag (.fieldAddr G0 (I D) D)
    apply cz D
    apply cH [_] (.h2 bY (I D) D D)
    apply cz D
    apply ag ((ib D D D).bK (y:=bk false) (congrArg bk (hG (Int.not_lt.2 gr))))
    apply ag (.pick (I D) (I D) (I D))
    apply ag (.move (I D))
    apply cz D
    apply ag (.fieldAddr G0 (I D) D)
    apply cz D
    apply cH [_] (.h2 bY (I D) D D)
    apply cz D
    apply ag ((ib D D D).bK (y:=bk false) (congrArg bk (hG (Int.not_lt.2 IJ))))
    apply ag (.pick (I D) (I D) (I D))
    exact .nil _
   ·exact bR
   refine a7 D (fun et=>?_) fun et=>?_
   ·cases et
   ·apply bx
    apply dm
    ·apply cp D D D
     apply ag (.move (I D))
     exact .nil _
    ·exact bR
    exact⟨i+1,aG,fD (by assumption),aZ (ec (by omega))<|aU,da D D D D<|aU⟩
  ·apply dW
   apply al
   apply al
   apply dm
   ·apply ag (.fieldAddr O2 (I D) D)
    apply ag (.fG wT (I D) D)
    apply ag (.len D underlying38 (I D) D)
    apply ag (.move (I D))
    exact .nil _
   ·exact bR
   apply bX
   refine eP (σ:=Nat) [(ab 1,_),(ab 3,_),(ab 55,_),(ab 56,_)] (fun i=>[(ab 57,.aB (aF .i64 (i:Int)))]) (fun i=>i<=p.bM.length) (fun i=>p.bM.length-i) 0 (aZ D<|aU) (da D D D D<|aU) (Nat.zero_le _) fun i hi=>?_
   apply al
   apply dm
   ·apply ag (.qz (I D) (I D) D)
    exact .nil _
   ·exact bR
   apply al
   refine a7 D (fun eQ=>?_) fun eQ=>?_
   ·have l1:i<(p.bM.map e2.dU).length:=eJ eQ
    have aG:i<p.bM.length:=by have:=cJ eQ;rw[l5]at this;omega
    obtain⟨ud,pk,rp⟩:=og.t i aG
    apply bx
    apply al
    apply bX
    apply al
    apply dm
    ·apply bW pr D D
     apply ag ((Pure.fG km (I D) D).bK (y:=.d (ch ((p.bM.map e2.dU).getD i default))) D)
     apply ag (.assign (I D))
     exact .nil _
    ·exact bR
    apply al
    apply dm
    ·apply ag (.move (I D))
     apply ag (.len D underlying22 (I D) D)
     apply ag ((ib D D D).bK (y:=bk false) (congrArg bk (hG (Int.not_lt.2 (Int.ofNat_le.2 ud)))))
     apply ag (.move (I D))
     apply cz D
     apply ag (.move (I D))
     apply cz D
     apply ag (.len D underlying22 (I D) D)
     apply cz D
     apply ag ((ib D D D).bK (y:=bk false) (congrArg bk (hG (Int.not_lt.2 (Int.ofNat_le.2 pk)))))
     apply ag (.pick (I D) (I D) (I D))
     apply ag (.move (I D))
     apply cz D
     apply ag (.move (I D))
     apply cz D
     apply ag (.mG (.cons (I D) .nil))
     apply cz D
     apply cY (cn D D) (afD (by omega) rp) (au D)
     apply ag (.pick (I D) (I D) (I D))
     exact .nil _
    ·exact bR
    refine a7 D (fun ie=>?_) fun ie=>?_
    ·cases ie
    ·apply bx
     apply dm
     ·apply cp D D D
      apply ag (.move (I D))
      exact .nil _
     ·exact bR
     exact⟨i+1,aG,fD (by assumption),aZ (ec (by omega))<|aU,da D D D D<|aU⟩
   ·have ir:(bT [(p.params.length:Int),p.bt.length,p.a1.length,(p.bM.map e2.dU).length]).1<=16:=by
     obtain⟨J,W,aH,aV⟩:=og.n
     refine(MC (B:=16) (by omega) (fun i hi=>?_) 4 (Nat.le_refl _)).2
     match i,hi with
     |0,_=>show(p.params.length:Int)<=16;omega
     |1,_=>show(p.bt.length:Int)<=16;omega
     |2,_=>show(p.a1.length:Int)<=16;omega
     |3,_=>show((p.bM.map e2.dU).length:Int)<=16;rw[l5];omega
    apply dW
    apply al
    apply dm
    ·apply ag (.fieldAddr O0 (I D) D)
     apply ag (.fG p2 (I D) D)
     apply ag (.len D underlying24 (I D) D)
     apply ag (.fieldAddr O1 (I D) D)
     apply ag (.fG p2 (I D) D)
     apply ag (.len D underlying24 (I D) D)
     apply ag (.fieldAddr Kp (I D) D)
     apply ag (.fG uo (I D) D)
     apply ag (.len D underlying25 (I D) D)
     apply ag (.fieldAddr O2 (I D) D)
     apply ag (.fG wT (I D) D)
     apply ag (.len D underlying38 (I D) D)
     apply gN 18 [] iQ iC D (by decide) (by decide) (ba D D D (ba D D D (ba D D D (ba D D D (.nil _ _))))) D D D
     apply kI (cf D) (ID [(p.params.length:Int),p.bt.length,p.a1.length,(p.bM.map e2.dU).length] (by simp)) (au D) (.cons D .nil) D
     apply ag (.move (I D))
     apply ag (.extract (I D) D)
     apply ag (.extract (I D) D)
     apply ag (.assign (I D))
     apply ag (.assign (I D))
     exact .nil _
    ·exact bR
    apply al
    apply dm
    ·apply ag (.move (I D))
     apply ag ((ib D D D).bK (y:=bk true) (congrArg bk (gl ir)))
     apply ag (.move (I D))
     apply cz D
     apply ag (.fieldAddr OY (I D) D)
     apply cz D
     apply ag (.fG bY (I D) D)
     apply cz D
     apply ag ((ib D D D).bK (y:=bk true) (congrArg bk (gl (og.a.1))))
     apply ag (.pick (I D) (I D) (I D))
     apply ag (.move (I D))
     apply cz D
     apply ag (.fieldAddr OY (I D) D)
     apply cz D
     apply ag (.fG bY (I D) D)
     apply cz D
     apply ag ((ib D D D).bK (y:=bk true) (congrArg bk (gl (og.a.2))))
     apply ag (.pick (I D) (I D) (I D))
     apply ag (.move (I D))
     apply cz D
     apply ag (.fieldAddr OZ (I D) D)
     apply cz D
     apply ag (.fG bY (I D) D)
     apply cz D
     apply ag ((ib D D D).bK (y:=bk true) (congrArg bk (gl (og.m.1))))
     apply ag (.pick (I D) (I D) (I D))
     apply ag (.move (I D))
     apply cz D
     apply ag (.fieldAddr OZ (I D) D)
     apply cz D
     apply ag (.fG bY (I D) D)
     apply cz D
     apply ag ((ib D D D).bK (y:=bk true) (congrArg bk (gl (og.m.2))))
     apply ag (.pick (I D) (I D) (I D))
     apply ag (.move (I D))
     apply cz D
     apply ag (.fieldAddr O3 (I D) D)
     apply cz D
     apply ag (.fG bY (I D) D)
     apply cz D
     apply ag ((ib D D D).bK (y:=bk true) (congrArg bk (gl (og.r.1))))
     apply ag (.pick (I D) (I D) (I D))
     apply ag (.move (I D))
     apply cz D
     apply ag (.fieldAddr O3 (I D) D)
     apply cz D
     apply ag (.fG bY (I D) D)
     apply cz D
     apply ag ((ib D D D).bK (y:=bk true) (congrArg bk (gl (og.r.2))))
     apply ag (.pick (I D) (I D) (I D))
     apply ag (.move (I D))
     apply cz D
     apply ag (.fieldAddr O4 (I D) D)
     apply cz D
     apply ag (.fG Kn (I D) D)
     apply cz D
     apply ag (.len D underlying39 (I D) D)
     apply cz D
     apply ag ((ib D D D).bK (y:=bk true) (congrArg bk (gl (Int.ofNat_le.2 og.c))))
     apply ag (.pick (I D) (I D) (I D))
     apply ag (.assign (I D))
     exact .nil _
    ·exact bR
    apply bp
    refine dr D ?_
    rfl
def oq(p:aD)(r:Int)(c:dC):Nat->Int
 |0=>0
 |i+1=>oq p r c i+((fp p r (c.getD i default).1).2.1-(fp p r (c.getD i default).1).1)
def q4(c:dC):Nat->Int
 |0=>0
 |i+1=>bif decide ((c.getD i default).1=22)then q4 c i+1 else q4 c i
def ot(c:dC)(n:Nat):Nat->List Bool
 |0=>List.replicate n false
 |i+1=>bif decide ((c.getD i default).1=7)then(ot c n i).set (c.getD i default).2.toNat true else ot c n i
theorem T0(c:dC):∀i:Nat,0<=q4 c i/\q4 c i<=i
 |0=>⟨Int.le_refl _,Int.le_refl _⟩
 |i+1=>by
  have aJ:=T0 c i
  unfold q4
  cases decide ((c.getD i default).1=22)with
  |true=>simp only[cond_true];omega
  |false=>simp only[cond_false];omega
theorem T1(c:dC)(n:Nat):∀i,(ot c n i).length=n
 |0=>List.length_replicate
 |i+1=>by
  have aJ:=T1 c n i
  unfold ot
  cases decide ((c.getD i default).1=7)with
  |true=>rw[cond_true,nH];exact aJ
  |false=>exact aJ
theorem MT(c:dC)(n:Nat):∀i k,(ot c n i).getD k false=true->∃j,j<i/\(c.getD j default).1=7/\(c.getD j default).2.toNat=k
 |0,k,h=>by
  rw[ot,cN,List.getElem?_replicate]at h
  split at h<;>cases h
 |i+1,k,h=>by
  rw[ot]at h
  cases ae:decide ((c.getD i default).1=7)with
  |true=>
   rw[ae,cond_true]at h
   by_cases K:(c.getD i default).2.toNat=k
   ·exact⟨i,qk i,cJ ae,K⟩
   ·rw[cN,List.getElem?_set_ne K,<-cN]at h
    obtain⟨j,az,J⟩:=MT c n i k h
    exact⟨j,by omega,J⟩
  |false=>
   rw[ae,cond_false]at h
   obtain⟨j,az,J⟩:=MT c n i k h
   exact⟨j,by omega,J⟩
def zi(e:Int×Int×Int×Int):Prop:=-1<=e.1/\e.1<=4/\0<=e.2.1/\e.2.1<=1
theorem afG{b:Bool}{x y:Int×Int×Int×Int}(Y:zi x)(ak:zi y):zi (bif b then x else y):=by cases b<;>assumption
theorem afH(p:aD)(r op:Int):zi (fp p r op):=by
 unfold fp
 repeat (refine afG (by unfold zi;dsimp only;omega) ?_)
 unfold zi;dsimp only;omega
structure tN(p:aD)(c:dC)(r:Int):Prop where
 oM:IT p c r
 qs:∀i,i<c.length->0<=(fp p r (c.getD i default).1).1/\(fp p r (c.getD i default).1).2.2.1<=(c.getD i default).2/\(c.getD i default).2<=(fp p r (c.getD i default).1).2.2.2/\(fp p r (c.getD i default).1).1<=oq p r c i/\oq p r c i-(fp p r (c.getD i default).1).1+(fp p r (c.getD i default).1).2.1<=64
 bO:∀i,i<=c.length->0<=oq p r c i/\oq p r c i<=64
 lF:oq p r c c.length=0
 bQ:q4 c c.length=1
 ge:∀i,i<c.length->(c.getD i default).1=7->0<=(c.getD i default).2
 one:∀i j,i<j->j<c.length->(c.getD i default).1=7->(c.getD j default).1=7->(c.getD i default).2≠(c.getD j default).2
theorem afI(p:aD)(Z:p.b5)(c:dC)(r:Int)(gg:tN p c r):bw prog 47 [.d (tL p c r)] [] (.d (av 0)) [] []:=by
 have MO:=Z.nf
 have IL:=Z.hH
 have IM:=Z.gH
 have TV:(p.bM.map e2.dU).length<=65536:=by rw[l5];exact Z.cg
 refine cB [.tmp 2] func47 D D fun E K af=>?_
 apply al
 apply dm
 ·apply cV 1 D D D
  apply ag (.assign (I D))
  exact .nil _
 ·exact bR
 apply al
 apply al
 refine c1 (b1.hV (t:=1) (l:=1) D D) ?_
 apply dm
 ·apply ag (.kD BR (I D) fun _=>cC D)
  apply cY (cf D) (afE p Z c r gg.oM) (au D)
  apply ag (.not (I D))
  exact .nil _
 ·exact bR
 refine a7 D (fun aP=>?_) fun aP=>?_
 ·cases aP
 ·apply bx
  apply al
  apply dm
  ·apply ag (.assign (I D))
   apply ag (.assign (I D))
   exact .nil _
  ·exact bR
  apply al
  apply dm
  ·apply ag (.fieldAddr Kp (I D) D)
   apply ag (.fG uo (I D) D)
   apply ag (.len D underlying25 (I D) D)
   apply bI.makeSlice 18 [] XU WU WT D (by decide) (I D) (I D) ⟨by omega,by omega⟩ (by omega) (by omega) D D
   apply ag (.assign (I D))
   exact .nil _
  ·exact bR
  apply al
  apply al
  apply dm
  ·apply ag (.fieldAddr O4 (I D) D)
   apply ag (.fG Kn (I D) D)
   apply ag (.len D underlying39 (I D) D)
   apply ag (.move (I D))
   exact .nil _
  ·exact bR
  apply bX
  refine eP (σ:=Nat) [(ab 1,_),(ab 5,_),(ab 20,_),(ab 21,_)] (fun i=>[(ab 22,.aB (aF .i64 (i:Int))),(ab 3,.aB (aF .i64 (oq p r c i))),(ab 4,.aB (aF .i64 (q4 c i))),(G 18,.U (.bG 1 p.a1.length [.o6 (ot c p.a1.length i)]))]) (fun i=>i<=c.length) (fun i=>c.length-i) 0 (da D D D D<|aU) (da D D D D<|aU) (Nat.zero_le _) fun i hi=>?_
  apply al
  apply dm
  ·apply ag (.qz (I D) (I D) D)
   exact .nil _
  ·exact bR
  apply al
  refine a7 D (fun bq=>?_) fun bq=>?_
  ·have aG:i<c.length:=eJ bq
   obtain⟨J,W,aH,aV,db⟩:=gg.qs i aG
   have oU:=gg.bO i (Nat.le_of_lt aG)
   have IU:=T0 c i
   have hO:=gg.oM.c
   have afJ:zi (fp p r (c.getD i default).1):=afH p r (c.getD i default).1
   unfold zi at afJ
   have hk:oq p r c (i+1)=oq p r c i+((fp p r (c.getD i default).1).2.1-(fp p r (c.getD i default).1).1):=rfl
   apply bx
   apply al
   apply bX
   apply al
   apply dm
   ·apply ag ((eN OX D D).bK (y:=.cc [av (c.getD i default).1,av (c.getD i default).2]) D)
    apply ag (.kD Kz (I D) fun _=>cC D)
    apply cm 7 G3 D
    apply cL Kz D D D D
    exact .nil _
   ·exact bR
   apply al
   apply dm
   ·apply ag (.kD BR (I D) fun _=>cC D)
    apply ag (.fieldAddr Pg (I D) D)
    apply cH [_] (.h2 bY (I D) D D)
    apply kI (cn D D) (afA p Z c r (c.getD i default).1 gg.oM.r.1 gg.oM.r.2) (au D) .nil D
    apply ag (.move (I D))
    apply ag (.extract (I D) D)
    apply ag (.extract (I D) D)
    apply ag (.extract (I D) D)
    apply ag (.extract (I D) D)
    apply ag (.assign (I D))
    apply ag (.assign (I D))
    apply ag (.assign (I D))
    apply ag (.assign (I D))
    exact .nil _
   ·exact bR
   apply al
   apply al
   apply dm
   ·apply ag (.move (I D))
    apply ag ((ib D D D).bK (y:=bk false) (congrArg bk (hG (Int.not_lt.2 J))))
    apply ag (.move (I D))
    apply cz D
    apply ag (.fieldAddr G4 (I D) D)
    apply cz D
    apply cH [_] (.h2 bY (I D) D D)
    apply cz D
    apply ag (.move (I D))
    apply cz D
    apply ag ((ib D D D).bK (y:=bk false) (congrArg bk (hG (Int.not_lt.2 W))))
    apply ag (.pick (I D) (I D) (I D))
    apply ag (.move (I D))
    apply cz D
    apply ag (.fieldAddr G4 (I D) D)
    apply cz D
    apply cH [_] (.h2 bY (I D) D D)
    apply cz D
    apply ag (.move (I D))
    apply cz D
    apply ag ((ib D D D).bK (y:=bk false) (congrArg bk (hG (Int.not_lt.2 aH))))
    apply ag (.pick (I D) (I D) (I D))
    apply ag (.move (I D))
    apply cz D
    apply ag (.move (I D))
    apply cz D
    apply ag (.move (I D))
    apply cz D
    apply ag ((ib D D D).bK (y:=bk false) (congrArg bk (hG (Int.not_lt.2 aV))))
    apply ag (.pick (I D) (I D) (I D))
    apply ag (.move (I D))
    apply cz D
    apply ag (.move (I D))
    apply cz D
    apply ag (.move (I D))
    apply cz D
    apply cp D D D
    apply cz D
    apply ag (.move (I D))
    apply cz D
    apply cp D D D
    apply cz D
    apply ag ((ib D D D).bK (y:=bk false) (congrArg bk (hG (Int.not_lt.2 db))))
    apply ag (.pick (I D) (I D) (I D))
    exact .nil _
   ·exact bR
   refine a7 D (fun b3=>?_) fun b3=>?_
   ·cases b3
   ·apply bx
    apply al
    apply dm
    ·apply ag (.move (I D))
     apply ag (.move (I D))
     apply ag (.move (I D))
     apply cp D D D
     apply cp D D D
     apply ag (.assign (I D))
     exact .nil _
    ·exact bR
    apply al
    apply dm
    ·apply ag (.fieldAddr Pg (I D) D)
     apply cH [_] (.h2 bY (I D) D D)
     exact .nil _
    ·exact bR
    apply bX
    apply al
    apply dm
    ·apply ag (.qz (I D) (I D) D)
     apply ag (.assign (I D))
     exact .nil _
    ·exact bR
    refine a7 D (fun et=>?_) fun et=>?_
    ·have ha:(c.getD i default).1=22:=cJ et
     have qV:q4 c (i+1)=q4 c i+1:=by rw[q4,ha];rfl
     have FW:(ot c p.a1.length (i+1))=(ot c p.a1.length i):=by rw[ot,ha];rfl
     apply dm
     ·apply ag (.move (I D))
      apply cp D D D
      apply ag (.assign (I D))
      exact .nil _
     ·exact bR
     apply dm
     ·apply cp D D D
      apply ag (.move (I D))
      exact .nil _
     ·exact bR
     exact⟨i+1,aG,fD (by assumption),aZ (ec (by omega))<|aZ (by rw[hk];rfl)<|aZ (by rw[qV];rfl)<|aZ (by rw[FW];rfl)<|aU,da D D D D<|aU⟩
    ·have qV:q4 c (i+1)=q4 c i:=by rw[q4,show decide ((c.getD i default).1=22)=false from et,cond_false]
     apply al
     apply dm
     ·apply ag (.qz (I D) (I D) D)
      apply ag (.assign (I D))
      exact .nil _
     ·exact bR
     refine a7 D (fun eQ=>?_) fun eQ=>?_
     ·have ha:(c.getD i default).1=7:=cJ eQ
      have FW:(ot c p.a1.length (i+1))=(ot c p.a1.length i).set (c.getD i default).2.toNat true:=by rw[ot,ha];rfl
      have ajI:0<=(c.getD i default).2:=by rw[ha]at W;exact W
      have uS:(c.getD i default).2<p.a1.length:=by rw[ha]at aH;have aH:(c.getD i default).2<=(p.a1.length:Int)-1:=aH;omega
      have k7:=T1 c p.a1.length i
      have afK:(ot c p.a1.length i).getD (c.getD i default).2.toNat false=false:=by
       cases ae:(ot c p.a1.length i).getD (c.getD i default).2.toNat false with
       |false=>rfl
       |true=>
        obtain⟨j,az,bJ,aC⟩:=MT c p.a1.length i _ ae
        exact absurd (gg.one j i az aG bJ ha) (by have:=gg.ge j (Nat.lt_trans az aG) bJ;omega)
      apply al
      apply al
      apply dm
      ·apply ag (.move (I D))
       apply ag (.fieldAddr G4 (I D) D)
       apply cH [_] (.h2 bY (I D) D D)
       apply ag (.mx Pm (I D) (I D) fun _=>⟨by omega,by omega⟩)
       apply cH [_] ((Pure.pU OQ (I D) D D D fun _=>by omega).bK (y:=bk false) (by exact congrArg bk afK))
       exact .nil _
      ·exact bR
      refine a7 D (fun ie=>?_) fun ie=>?_
      ·cases ie
      ·apply bx
       apply dm
       ·apply ag (.move (I D))
        apply ag (.fieldAddr G4 (I D) D)
        apply cH [_] (.h2 bY (I D) D D)
        apply ag (.mx Pm (I D) (I D) fun _=>⟨by omega,by omega⟩)
        apply x9 OQ (I D) (I D) D D D D (by decide) (by simp[ai.fk,jo]) rfl (by omega)
        exact .nil _
       ·exact bR
       apply dm
       ·apply cp D D D
        apply ag (.move (I D))
        exact .nil _
       ·exact bR
       exact⟨i+1,aG,fD (by assumption),aZ (ec (by omega))<|aZ (by rw[hk];rfl)<|aZ (by rw[qV];rfl)<|aZ (by rw[FW];rfl)<|aU,da D D D D<|aU⟩
     ·have FW:(ot c p.a1.length (i+1))=(ot c p.a1.length i):=by rw[ot,show decide ((c.getD i default).1=7)=false from eQ,cond_false]
      apply bx
      apply dm
      ·apply cp D D D
       apply ag (.move (I D))
       exact .nil _
      ·exact bR
      exact⟨i+1,aG,fD (by assumption),aZ (ec (by omega))<|aZ (by rw[hk];rfl)<|aZ (by rw[qV];rfl)<|aZ (by rw[FW];rfl)<|aU,da D D D D<|aU⟩
  ·obtain rfl:i=c.length:=by have:=dj bq;omega
   apply dW
   apply al
   apply al
   apply dm
   ·apply ag (.move (I D))
    apply ag ((ib D D D).bK (y:=bk false) (by rw[gg.lF];rfl))
    apply ag (.move (I D))
    apply cz D
    apply ag (.move (I D))
    apply cz D
    apply ag ((ib D D D).bK (y:=bk false) (by rw[gg.bQ];rfl))
    apply ag (.pick (I D) (I D) (I D))
    exact .nil _
   ·exact bR
   refine a7 D (fun kb=>?_) fun kb=>?_
   ·cases kb
   ·apply bx
    apply al
    apply dm
    ·apply ag (.assign (I D))
     exact .nil _
    ·exact bR
    apply bp
    refine dr D ?_
    rfl
theorem wc(v lo hi:Int):bw prog 103 [aF .i64 v,aF .i64 lo,aF .i64 hi] [] (aF .i64 (fu v lo hi)) [] []:=by
 refine cB [.tmp 6] func103 D D fun E K af=>?_
 exact aL 1 D<|aO (O 3 D<|ag (.min2 (I D) (I D))<|ag (.max2 (I D) (I D))<|aN 1 D)<|bp<|dr D D
theorem T2(a b:Int):bw prog 204 [aF .i64 a,aF .i64 b] [] (aF .i64 (mo a b)) [] []:=by
 refine cB [.tmp 4] func204 D D fun E K af=>?_
 refine aL 1 D<|aO (O 2 D<|ag ((Pure.u6 (I D) (I D) D).bK (y:=aF .i64 (eI (a+b))) D)<|aN 1 D)<|bX<|aO (O 3 D<|dp D D<|c6 D D (I D) D<|eg D D D<|O 1 D<|dp D D<|c6 D D (I D) D<|eg D D D<|aN 1 D)<|a7 D (fun aP=>?_) fun aP=>?_
 ·have e:mo a b=4611686018427387904:=by unfold mo;rw[show(bif(bif decide (0<a)then decide (0<b)else false)then decide (eI (a+b)<0)else false)=true from aP,cond_true]
  refine aL 1 D<|bp<|dr D ?_
  rw[e];rfl
 have aX:(bif(bif decide (0<a)then decide (0<b)else false)then decide (eI (a+b)<0)else false)=false:=aP
 refine aO (O 3 D<|dp D D<|c6 D D (I D) D<|eg D D D<|O 1 D<|dp D D<|c6 D D (I D) D<|eg D D D<|aN 1 D)<|a7 D (fun bq=>?_) fun bq=>?_
 ·have e:mo a b=-4611686018427387904:=by unfold mo;rw[aX,cond_false,show(bif(bif decide (a<0)then decide (b<0)else false)then decide (0<=eI (a+b))else false)=true from bq,cond_true]
  refine aL 1 D<|bp<|dr D ?_
  rw[e];rfl
 have e:mo a b=eI (a+b):=by unfold mo;rw[aX,cond_false,show(bif(bif decide (a<0)then decide (b<0)else false)then decide (0<=eI (a+b))else false)=false from bq,cond_false]
 refine aL 2 D<|bp<|dr D ?_
 rw[e];rfl
theorem afL(a b:Int):bw prog 207 [aF .i64 a,aF .i64 b] [] (aF .i64 (o1 a b)) [] []:=by
 refine cB [.tmp 4] func207 D D fun E K af=>?_
 refine aL 1 D<|al<|aO (O 3 D<|dp D D<|c6 D D (I D) D<|gQ D D D<|ar)<|a7 D (fun aP=>?_) fun aP=>?_
 ·have e:o1 a b=0:=by unfold o1;rw[show(bif decide (a=0)then true else decide (b=0))=true from aP,cond_true]
  refine aL 1 D<|bp<|dr D ?_
  rw[e];rfl
 have aX:(bif decide (a=0)then true else decide (b=0))=false:=aP
 have p3:b≠0:=by
   intro ae
   rw[gl ae]at aX
   cases h:decide (a=0)<;>rw[h]at aX<;>cases aX
 refine bx<|al<|aO (O 2 D<|ag ((Pure.u6 (I D) (I D) D).bK (y:=aF .i64 (eI (a*b))) D)<|aN 1 D)<|aO (O 2 D<|ag ((Pure.quo (I D) (I D) fun _=>p3).bK (y:=aF .i64 (eI ((eI (a*b)).tdiv b))) D)<|O 3 D<|dp D D<|na D (jr (.cons (bH D) (.cons (I D) (.cons (I D) .nil)))) (fun h=>wc _ _ _) (au D)<|dp D D<|c6 D D (bH D) D<|eg D D D<|ar)<|a7 D (fun bq=>?_) fun bq=>?_
 ·have e:o1 a b=eI (a*b):=by unfold o1;rw[aX,cond_false,show(bif decide (eI ((eI (a*b)).tdiv b)=a)then decide (gX (eI (a*b))=eI (a*b))else false)=true from bq,cond_true]
  refine aL 2 D<|bp<|dr D ?_
  rw[e];rfl
 have bu:(bif decide (eI ((eI (a*b)).tdiv b)=a)then decide (gX (eI (a*b))=eI (a*b))else false)=false:=bq
 refine bx<|al<|aO (O 4 D<|ag (.beq underlying4 (I D) (I D))<|ar)<|a7 D (fun b3=>?_) fun b3=>?_
 ·have e:o1 a b=4611686018427387904:=by unfold o1;rw[aX,cond_false,bu,cond_false,show decide (decide (a<0)=decide (b<0))=true from b3,cond_true]
  refine aL 1 D<|bp<|dr D ?_
  rw[e];rfl
 have e:o1 a b=-4611686018427387904:=by unfold o1;rw[aX,cond_false,bu,cond_false,show decide (decide (a<0)=decide (b<0))=false from b3,cond_false]
 refine bx<|aL 1 D<|bp<|dr D ?_
 rw[e];rfl
theorem afM(a b:Int)(ae:0<b):bw prog 209 [aF .i64 a,aF .i64 b] [] (aF .i64 (tJ a b)) [] []:=by
 refine cB [.tmp 4] func209 D D fun E K af=>?_
 refine aL 1 D<|aO (O 2 D<|ag ((Pure.quo (I D) (I D) fun _=>by omega).bK (y:=aF .i64 (eI (a.tdiv b))) D)<|aN 1 D)<|al<|aO (O 2 D<|ag ((Pure.u6 (I D) (I D) D).bK (y:=aF .i64 (eI (eI (a.tdiv b)*b))) D)<|aN 2 D)<|a7 D (fun aP=>?_) fun aP=>?_
 ·have e:tJ a b=eI (eI (a.tdiv b)-1):=by unfold tJ;rw[show decide (a<eI (eI (a.tdiv b)*b))=true from aP,cond_true]
  refine bm (O 1 D<|ag ((Pure.u6 (I D) (I D) D).bK (y:=aF .i64 (eI (eI (a.tdiv b)-1))) D)<|aN 1 D)<|aL 2 D<|bp<|dr D ?_
  rw[e];rfl
 have e:tJ a b=eI (a.tdiv b):=by unfold tJ;rw[show decide (a<eI (eI (a.tdiv b)*b))=false from aP,cond_false]
 refine bx<|aL 2 D<|bp<|dr D ?_
 rw[e];rfl
def IV(bs:List cA)(l:List Int):Prop:=l.length=bs.length/\∀i:Nat,i<l.length->fu (l.getD i default) (bs.getD i default).lo (bs.getD i default).hi=l.getD i default
def zj(v:Int):Bool:= !decide (v=j6 v)
def IW(lo hi v:Int):Bool:=bif !decide (v=0)then !decide (v=fu v lo hi)else false
structure MU(p:aD)(s:fa):Prop where
 v:IV p.bt s.bV
 n:s.bF.length=p.a1.length
 l:∀i:Nat,i<p.a1.length->((s.bF.getD i default).length:Int)=(p.a1.getD i default).size/\(s.bF.getD i default).any (IW (p.a1.getD i default).lo (p.a1.getD i default).hi)=false
theorem T3{v lo hi:Int}(h:fu v lo hi=v):bw prog 103 [aF .i64 v,aF .i64 lo,aF .i64 hi] [] (aF .i64 v) [] []:=by
 have:=wc v lo hi
 rw[h]at this
 exact this
theorem afN(v:Int):bw prog 101 [aF .i64 v] [] (bk (zj v)) [] []:=by
 refine cB [.tmp 2] func101 D D fun E K af=>?_
 exact aL 1 D<|aO (O 2 D<|cY (cf D) (CN v) (au D)<|aN 2 D)<|bp<|dr D D
theorem T4(p:aD)(Z:p.b5)(c:dC)(r:Int)(l:List Int)(n:Int)(aa:(l.length:Int)=n+p.cR)(ae:l.length<=9223372036854775807)(aC:l.any zj=false):bw prog 48 [.d (tL p c r),.d (ch l),aF .i64 n] [] (bk true) [] []:=by
 refine cB [.tmp 6] func48 D D fun E K af=>?_
 exact aO (cV 3 D D D<|aN 1 D)<|al<|c1 (b1.hV (t:=3) (l:=3) D D)<|bm (O 5 D<|cp D D D<|ag ((ib D D D).bK (y:=bk true) (congrArg bk (gl aa)))<|O 1 D<|cz D<|O 1 D<|cz D<|cY (cn D D) (aC▸CH l ae 101 [] zj (au D) afN:bw prog 64 [.d (ch l),.fn 101 []] [] (bk false) [] []) (au D)<|cz D<|O 1 D<|ag (.pick (I D) (I D) (I D))<|aN 1 D)<|bp<|dr D D
theorem afO(p:aD)(Z:p.b5)(c:dC)(r:Int)(l:List Int)(h:IV p.params l):bw prog 51 [.d (tL p c r),.d (ch l)] [] (bk true) [] []:=by
 have MO:=Z.nf
 refine cB [.tmp 4] func51 D D fun E K af=>?_
 refine aO (cV 2 D D D<|aN 1 D)<|al<|al<|c1 (b1.hV (t:=2) (l:=2) D D)<|bm (O 5 D<|ag ((ib D D D).bK (y:=bk false) (congrArg (fun b=>bk (!b)) (gl (congrArg Nat.cast h.1:(l.length:Int)=(p.params.length:Int)))))<|ar)<|a7 D (fun aP=>?_) fun aP=>?_
 ·cases aP
 refine bx<|al<|aL 3 D<|bX<|eP (σ:=Nat) [(ab 2,_),(ab 13,_),(ab 14,_)] (fun i=>[(ab 15,.aB (aF .i64 (i:Int)))]) (fun i=>i<=l.length) (fun i=>l.length-i) 0 (aZ D<|aU) (ck D D<|aZ D<|aU) (Nat.zero_le _) fun i hi=>?_
 refine aL 1 D<|al<|a7 D (fun bq=>?_) fun bq=>?_
 ·have aG:i<l.length:=eJ bq
  have MV:i<p.params.length:=h.1▸aG
  have aK:=h.2 i aG
  refine bx<|al<|bX<|aO (O 1 D<|bW fB D D<|aN 3 D)<|ft (O 5 D<|bW lE D D<|O 5 D<|bW lE D D<|O 2 D<|cY (hd D D D) (T3 aK) (au D)<|ag ((ib D D D).bK (y:=bk false) (congrArg (fun b=>bk (!b)) (gl (rfl))))<|ar)<|a7 D (fun b3=>?_) fun b3=>?_
  ·cases b3
  exact bx<|bm (cp D D D<|aN 1 D)<|⟨i+1,aG,fD (by assumption),aZ (ec (by omega))<|aU,ck D D<|aZ D<|aU⟩
 exact dW<|aL 1 D<|bp<|dr D D
theorem afP(b:fQ)(v:Int):bw prog 104 [aF .i64 v,.cc (p8 b)] [] (bk (IW b.lo b.hi v)) [] []:=by
 refine cB [.tmp 3] func104 D D fun E K af=>?_
 exact aL 1 D<|aO (O 3 D<|dp D D<|dp D D<|cX D Ku (I D) D<|cF [] D (.fG bY (bH D) D)<|cX D Kv (I D) D<|cF [] D (.fG bY (bH D) D)<|na D (jr (.cons (bH D) (.cons (bH D) (.cons (bH D) .nil)))) (fun h=>wc _ _ _) (au D)<|c6 D D (bH D) D<|eg D D D<|aN 1 D)<|bp<|dr D D
theorem afQ(p:aD)(Z:p.b5)(c:dC)(r:Int)(s:fa)(h:MU p s)(bd:∀i,(s.bF.getD i default).length<=9223372036854775807):bw prog 52 [.d (tL p c r),.d (lN s)] [] (bk true) [] []:=by
 have IL:=Z.hH
 have IM:=Z.gH
 refine cB [.tmp 4] func52 D D fun E K af=>?_
 refine aO (cV 2 D D D<|cV 3 D D D<|aN 1 D)<|al<|al<|c1 (b1.hV (t:=2) (l:=2) D D)<|c1 (b1.hV (t:=3) (l:=3) D D)<|bm (O 6 D<|ag ((ib D D D).bK (y:=bk false) (congrArg (fun b=>bk (!b)) (gl (congrArg Nat.cast h.v.1:(s.bV.length:Int)=(p.bt.length:Int)))))<|O 1 D<|cz D<|O 1 D<|cz D<|O 1 D<|cz D<|O 1 D<|cz D<|O 1 D<|cz D<|O 1 D<|cz D<|O 1 D<|cz D<|ag ((ib D D D).bK (y:=bk false) (congrArg (fun b=>bk (!b)) (gl (congrArg Nat.cast h.n:(s.bF.length:Int)=(p.a1.length:Int)))))<|ag (.pick (I D) (I D) (I D))<|ar)<|a7 D (fun aP=>?_) fun aP=>?_
 ·cases aP
 refine bx<|al<|aL 4 D<|bX<|eP (σ:=Nat) [(ab 2,_),(ab 3,_),(ab 27,_),(ab 28,_)] (fun i=>[(ab 29,.aB (aF .i64 (i:Int)))]) (fun i=>i<=s.bV.length) (fun i=>s.bV.length-i) 0 (aZ D<|aU) (da D D D D<|aU) (Nat.zero_le _) fun i hi=>?_
 refine aL 1 D<|al<|a7 D (fun bq=>?_) fun bq=>?_
 ·have aG:i<s.bV.length:=eJ bq
  have MV:i<p.bt.length:=h.v.1▸aG
  have aK:=h.v.2 i aG
  refine bx<|al<|bX<|aO (O 1 D<|bW fB D D<|aN 3 D)<|ft (O 5 D<|bW lE D D<|O 5 D<|bW lE D D<|O 2 D<|cY (hd D D D) (T3 aK) (au D)<|ag ((ib D D D).bK (y:=bk false) (congrArg (fun b=>bk (!b)) (gl (rfl))))<|ar)<|a7 D (fun b3=>?_) fun b3=>?_
  ·cases b3
  exact bx<|bm (cp D D D<|aN 1 D)<|⟨i+1,aG,fD (by assumption),aZ (ec (by omega))<|aU,da D D D D<|aU⟩
 refine dW<|al<|aL 4 D<|bX<|eP (σ:=Nat) [(ab 2,_),(ab 52,_),(ab 53,_)] (fun i=>[(ab 54,.aB (aF .i64 (i:Int)))]) (fun i=>i<=s.bF.length) (fun i=>s.bF.length-i) 0 (aZ D<|aU) (ck D D<|aZ D<|aU) (Nat.zero_le _) fun i hi=>?_
 refine aL 1 D<|al<|a7 D (fun et=>?_) fun et=>?_
 ·have aG:i<s.bF.length:=eJ et
  have MV:i<p.a1.length:=h.n▸aG
  obtain⟨Bc,pI⟩:=h.l i MV
  have afR:=bd i
  refine bx<|al<|bX<|aO (O 1 D<|bW pr D D<|aN 3 D)<|aO (O 3 D<|bW nV D D<|O 1 D<|cm 9 vp D<|cL wU D D D D<|ar)<|al<|c1 (b1.hV (t:=9) (l:=9) D D)<|bm (O 4 D<|ag ((ib D D D).bK (y:=bk false) (congrArg (fun b=>bk (!b)) (gl (Bc))))<|O 1 D<|cz D<|O 1 D<|cz D<|ag (.mG (.cons (I D) .nil))<|cz D<|cY (cn D D) (pI▸CH (s.bF.getD i default) afR 104 [.cc (p8 (p.a1.getD i default))] (IW (p.a1.getD i default).lo (p.a1.getD i default).hi) (au D) (afP (p.a1.getD i default)):bw prog 64 [.d (ch (s.bF.getD i default)),.fn 104 [.cc (p8 (p.a1.getD i default))]] [] (bk false) [] []) (au D)<|ag (.pick (I D) (I D) (I D))<|ar)<|a7 D (fun eQ=>?_) fun eQ=>?_
  ·cases eQ
  exact bx<|bm (cp D D D<|aN 1 D)<|⟨i+1,aG,fD (by assumption),aZ (ec (by omega))<|aU,ck D D<|aZ D<|aU⟩
 exact dW<|aL 1 D<|bp<|dr D D
theorem afS(L:List (List Int))(gy:L.length<=5000000000000)(g:FuncId)(cs:List ai)(oT:hS prog g=true)(aM:∀i,i<L.length->bw prog g (.d (ch (L.getD i default))::cs) [] (bk false) [] []):bw prog 102 [.d (nI L),.fn g cs] [] (aF .i64 (-1)) [] []:=by
 refine cB [.tmp 4] func102 D D fun E K af=>?_
 refine aL 1 D<|al<|aL 3 D<|bX<|eP (σ:=Nat) [(ab 0,_),(ab 1,_),(ab 7,_)] (fun i=>[(ab 8,.aB (aF .i64 (i:Int)))]) (fun i=>i<=L.length) (fun i=>L.length-i) 0 (aZ D<|aU) (ck D D<|aZ D<|aU) (Nat.zero_le _) fun i hi=>?_
 refine aL 1 D<|al<|a7 D (fun aP=>?_) fun aP=>?_
 ·have aG:i<L.length:=eJ aP
  refine bx<|al<|bX<|aL 2 D<|aO (O 3 D<|bW pr D D<|O 1 D<|cY (lf D D) (aM i aG) oT<|ar)<|a7 D (fun bq=>?_) fun bq=>?_
  ·cases bq
  exact bx<|bm (cp D D D<|aN 1 D)<|⟨i+1,aG,fD (by assumption),aZ (ec (by omega))<|aU,ck D D<|aZ D<|aU⟩
 exact dW<|aL 1 D<|bp<|dr D D
theorem afT(L:List (List Int))(gy:L.length<=5000000000000)(g:FuncId)(cs:List ai)(oT:hS prog g=true)(aM:∀i,i<L.length->bw prog g (.d (ch (L.getD i default))::cs) [] (bk false) [] []):bw prog 49 [.d (nI L),.fn g cs] [] (bk false) [] []:=by
 refine cB [.tmp 4] func49 D D fun E K af=>?_
 exact aL 1 D<|aO (O 2 D<|cY (cn D D) (afS L gy g cs oT aM) (au D)<|aN 2 D)<|bp<|dr D D
theorem afU(p:aD)(Z:p.b5)(c:dC)(r:Int)(l:List Int)(h:IV p.params l):bw prog 50 [.d (ch l),.cc (MM p c r)] [] (bk false) [] []:=by
 refine cB [.tmp 3] func50 D D fun E K af=>?_
 exact aL 1 D<|aO (O 2 D<|cY (cn D D) (afO p Z c r l h) (au D)<|aN 2 D)<|bp<|dr D D
section
variable {P:Program} {S:ad} {ro:eR} {ops:Array Oper} {E:c7}
theorem Pure.afV{c:Bool}{x:Operand}{t ty e:TypeId}{pos:String}{a6:Array Edge}{il:Option Tmp}{bB:Option (Nat×Bool)}{n len lb h:Nat}{hi:Option Operand}(aT:kQ P t e n=true)(aX:cd S c x (.aQ lb len))(oB:uf S c hi len h)(aW:c=true->h<=len):
  Pure P S [] ⟨il,.slice t x none hi none,ty,pos,a6,bB⟩ c (.aQ lb h):=by
 refine⟨rfl,fun E V M a w aM aj=>?_⟩
 have aW:=aW aj
 obtain⟨wK,zU,wL⟩:=D7 (t:=t) (x:=x) (lo:=none) (hi:=hi) (o:=⟨il,.slice t x none hi none,ty,pos,a6,bB⟩) D
 have Y:=aM.ez x wK _ aX
 have s3:=yg aM aj wL oB
 obtain⟨hu,cj⟩:=ye aT
 generalize hex:a.eval x=v at Y
 generalize a.eval=aI at*
 cases Y with
 |k1 _ K=>
  have:h=0:=by omega
  subst this
  refine⟨.slice none 0 0,?_,.k1 _ K⟩
  simp only[execOp,hex,Option.map_none,de,zH (cap:=0) (a:=none) hu cj (.inl ⟨rfl,rfl⟩) s3 (Nat.le_refl _) (Nat.zero_le _),Result.andThen];rfl
 |aQ _ _ cap K l7=>
  refine⟨.slice (some ⟨V.aI lb,0,none⟩) h cap,?_,.aQ _ _ _ K (by omega)⟩
  have e:(if cap=0 then some (⟨V.aI lb,0,none⟩:Addr)else(some (⟨V.aI lb,0,none⟩:Addr)).map (·.add (0*n)))=some ⟨V.aI lb,0,none⟩:=by split<;>simp[oA]
  simp only[execOp,hex,Option.map_none,de,zH (cap:=cap) hu cj (.inl ⟨rfl,rfl⟩) s3 (Nat.zero_le _) (by omega),Result.andThen,Nat.sub_zero,e];rfl
theorem bl.afW{k:IntKind}{xs:List Int}{v:Int}:bl (.bG 1 (xs++[v]).length [.cv k (xs++[v])]) (.bG 1 xs.length [.cv k xs]):=fun V M w b h=>by
 obtain⟨J,W,aH⟩:=h
 refine⟨rfl,fun c aj=>by simp only[qc]at aj;subst aj;rfl,?_⟩
 cases K:V.bZ b with
 |none=>rw[K]at aH;simp at aH
 |some cap=>
  rw[K]at aH
  obtain⟨aV,vs,t,db,fc,_,h9,gE⟩:=aH
  refine⟨by simp at aV;omega,vs,t,db,fc,rfl,fun c aj=>by simp only[qc]at aj;subst aj;rfl,fun i j c hi aj=>?_⟩
  match j with
  |0=>
   simp at aj;subst aj
   obtain⟨u,hu,aq⟩:=gE i 0 (.cv k (xs++[v])) (by simp;omega) D
   refine⟨u,hu,?_⟩
   have e:bz.at (.cv k (xs++[v])) i=bz.at (.cv k xs) i:=by
    simp only[bz.at,cN,pf hi]
   rw[<-e];exact aq
  |j+1=>simp at aj
theorem C7{c:Code}{S:ad}{Q:Exit->ad->Prop}(h:c8 P ro E c S fun e T=>∃vc,b1 E T vc/\Q e vc):c8 P ro E c S Q:=fun a w aE=>wpIn_mono (h a w aE) fun e a w Z=>by
 rcases Z with⟨S',⟨vc,g,q⟩,⟨ms,bb,J,W,aH⟩⟩|Z
 ·exact .inl ⟨vc,q,⟨ms,bb,J,W,g _ w aH⟩⟩
 ·exact .inr Z
theorem b1.comp{S T vc:ad}(h:b1 E S T)(k:b1 E T vc):b1 E S vc:=fun a w aE=>k a w (h a w aE)
theorem b1.yB{S:ad}{l:Nat}{B B':cO}(ae:S.get (G l)=some (.U B))(he:bl B B'):b1 E S ((G l,.U B')::S):=fun a w ⟨V,M,aC,hw⟩=>⟨V,M,aC.U _ _,hw.ui ae (he V M w l (hw.dn l _ ae))⟩
theorem bl.afX{k:IntKind}{xs:List Int}{v:Int}{n:Nat}(af:xs.length=n):bl (.bG 1 (n+1) [.cv k (xs++[v])]) (.bG 1 n [.cv k xs]):=by
 subst af
 have:=bl.afW (k:=k) (xs:=xs) (v:=v)
 rwa[ef,np]at this
end
abbrev ht(p:aD)(c:dC)(r:Int)(n L Bd lj gH:Nat)(e:gw)(bQ:Int):cO:=.cells [.d (av p.cR),.d (av p.tail),.d (dN p.params),.d (dN p.bt),.d (hJ p.a1),.d (nI (p.bM.map e2.dU)),.d (av r),.d (TT c),
 .aQ L n,.aQ 22 Bd,.d (ch e.bj),.d (ch e.ay),.d (ch e.ax),.aQ 32 lj,.aQ 33 gH,.mp 25,.d (av bQ)]
def tO:List Int->List Int
 |[]=>[]
 |v::s=>tO s++[v]
theorem IX:∀s,(tO s).length=s.length
 |[]=>rfl
 |v::s=>by rw[tO,ef,IX s];rfl
theorem afY(v:Int)(s:List Int)(i:Nat)(h:i=s.length):(tO (v::s)).getD i 0=v:=by
 subst h
 rw[tO,cN,List.getElem?_append_right (by rw[IX];exact Nat.le_refl _),IX,Nat.sub_self];rfl
theorem lk{p:aD}{c:dC}{r:Int}{Bd lj gH:Nat}{e:gw}{bQ:Int}(v:Int)(s:List Int)(an:s.length<=1000):bw prog 191 [.ao 20 0] [(G 20,.U (ht p c r (s.length+1) 21 Bd lj gH e bQ)),(G 21,.U (.bG 1 (s.length+1) [.cv .i64 (tO (v::s))]))] (aF .i64 v) [(G 20,.U (ht p c r s.length 21 Bd lj gH e bQ)),(G 21,.U (.bG 1 s.length [.cv .i64 (tO s)]))] [20,21,22,32,33,25]:=by
 refine cB [.tmp 2] func191 D D fun E K af=>?_
 exact aL 1 D<|aO (O 5 D<|cp D D D<|aN 1 D)<|aO (O 5 D<|ag (.mx fB (I D) (I D) fun _=>⟨by omega,by omega⟩)<|cH [_] ((Pure.pU bY (I D) D D D fun _=>by omega).bK (y:=aF .i64 v) (by exact congrArg (aF .i64) (afY v s _ (by omega))))<|aN 1 D)<|aO (O 6 D<|ag ((Pure.afV iQ (I D) (.bK _ (I D) fun _=>by omega) fun _=>by omega).bK (y:=.aQ 21 s.length) (by exact congrArg (ai.aQ 21) (by omega)))<|O 2 D<|iG km D D D D D<|ar)<|al<|c8.yB (l:=21) D (bl.afX (IX s))<|fS 2 D<|bp<|⟨.inr D,⟨_,(.cons (.tmp D) .nil),rfl⟩,cU (.dy D D)⟩
theorem ou{p:aD}{c:dC}{r:Int}{Bd lj gH:Nat}{e:gw}{bQ:Int}(v:Int)(s:List Int)(an:s.length<=1000):bw prog 186 [.ao 20 0,aF .i64 v] [(G 20,.U (ht p c r s.length 21 Bd lj gH e bQ)),(G 21,.U (.bG 1 s.length [.cv .i64 (tO s)]))] (.bE []) [(G 20,.U (ht p c r (s.length+1) 26 Bd lj gH e bQ)),(G 26,.U (.bG 1 (s.length+1) [.cv .i64 (tO (gX v::s))]))] [20,22,32,33,25]:=by
 refine cB [] func186 D D fun E K af=>?_
 exact eo (O 6 D<|cY (hd D D D) (wc v _ _) (au D)<|gN 11 [] iQ iC D (by decide) (by decide) (ba D D D (.nil _ _)) D D D<|hA 26 [G 21] p0 p1 (by decide) (.aQ (I D) D) (.aQ (I D) D) (bz.hT D) (hB D) (by omega) (by omega) (cs:=[.cv .i64 (tO (gX v::s))]) D D<|O 2 D<|iG km D D D D D<|ar)<|⟨.inl D,⟨_,(.nil),rfl⟩,cU (.dy D D)⟩
abbrev gk(p:aD)(c:dC)(r:Int)(e:gw)(s g vs:List Int)(ps:List (Int×Int))(bQ:Int)(L:Nat):ad:=[(G 20,.U (ht p c r s.length L g.length vs.length e.bF.length e bQ)),(G L,.U (.bG 1 s.length [.cv .i64 (tO s)])),(G 22,.U (.bG 1 g.length [.cv .i64 g])),(G 32,.U (.bG 1 vs.length [.cv .i64 vs])),(G 33,.U (.bG 1 e.bF.length [.ds (e.bF.map ch)])),(G 25,.U (hE fe av ps))]
theorem FX(v:Int){n:Int}(h:0<=n):0<=fu v 0 n/\fu v 0 n<=n:=by unfold fu;omega
theorem T5{l:List (List Int)}{i:Nat}(h:i<l.length):bz.at (.ds (l.map ch)) i=ch (l.getD i default):=by
 simp only[bz.at,cN,fJ,dx h,Option.map_some,Option.getD_some]
theorem T6{l:List e2}{i:Nat}(h:i<l.length):(l.map e2.dU).getD i default=(l.getD i default).dU:=by
 simp only[cN,fJ,dx h,Option.map_some,Option.getD_some]
theorem afZ{p:aD}{c:dC}{r:Int}{e:gw}(s g vs:List Int)(ps:List (Int×Int))(bQ:Int)(an:s.length<=900)(a:Int):bw prog 185 [.ao 20 0,aF .i64 a] (gk p c r e s g vs ps bQ 21) (.bE []) (gk p c r e (gX a::s) g vs ps bQ 26) [20,22,32,33,25]:=by
 refine cB [] func185 D D fun E K af=>?_
 exact bm (O 2 D<|ct [26] [G 20,G 21] (cn D D) (ou (a) (s) (by omega)) (au D) (.dy D D) D D<|ar)<|⟨.inl D,⟨_,(.nil),rfl⟩,cU (.jT D D D D D D)⟩
theorem af0{p:aD}{c:dC}{r:Int}{e:gw}(s g vs:List Int)(ps:List (Int×Int))(bQ:Int)(an:s.length<=900)(a:Int)(bb:0<=a)(J:a<e.bj.length):bw prog 187 [.ao 20 0,aF .i64 a] (gk p c r e s g vs ps bQ 21) (.bE []) (gk p c r e (gX (e.bj.getD a.toNat 0)::s) g vs ps bQ 26) [20,22,32,33,25]:=by
 refine cB [] func187 D D fun E K af=>?_
 exact bm (O 6 D<|bW fB D D<|O 1 D<|ct [26] [G 20,G 21] (cn D D) (ou ((e.bj.getD a.toNat 0)) (s) (by omega)) (au D) (.dy D D) D D<|ar)<|⟨.inl D,⟨_,(.nil),rfl⟩,cU (.jT D D D D D D)⟩
theorem af1{p:aD}{c:dC}{r:Int}{e:gw}(s g vs:List Int)(ps:List (Int×Int))(bQ:Int)(an:s.length<=900)(a:Int)(bb:0<=a)(J:a<vs.length):bw prog 188 [.ao 20 0,aF .i64 a] (gk p c r e s g vs ps bQ 21) (.bE []) (gk p c r e (gX (vs.getD a.toNat 0)::s) g vs ps bQ 26) [20,22,32,33,25]:=by
 refine cB [] func188 D D fun E K af=>?_
 exact bm (O 7 D<|ag (.mx fB (I D) (I D) fun _=>⟨by omega,by omega⟩)<|cH [_] (.pU bY (I D) D D D fun _=>by omega)<|ct [26] [G 20,G 21] (cn D D) (ou ((vs.getD a.toNat 0)) (s) (by omega)) (au D) (.dy D D) D D<|ar)<|⟨.inl D,⟨_,(.nil),rfl⟩,cU (.jT D D D D D D)⟩
theorem af2{p:aD}{c:dC}{r:Int}{e:gw}(s g vs:List Int)(ps:List (Int×Int))(bQ:Int)(an:s.length<=900)(a:Int)(bb:0<=a)(J:a<g.length):bw prog 189 [.ao 20 0,aF .i64 a] (gk p c r e s g vs ps bQ 21) (.bE []) (gk p c r e (gX (g.getD a.toNat 0)::s) g vs ps bQ 26) [20,22,32,33,25]:=by
 refine cB [] func189 D D fun E K af=>?_
 exact bm (O 6 D<|ag (.mx fB (I D) (I D) fun _=>⟨by omega,by omega⟩)<|cH [_] (.pU bY (I D) D D D fun _=>by omega)<|ct [26] [G 20,G 21] (cn D D) (ou ((g.getD a.toNat 0)) (s) (by omega)) (au D) (.dy D D) D D<|ar)<|⟨.inl D,⟨_,(.nil),rfl⟩,cU (.jT D D D D D D)⟩
theorem af3{p:aD}{c:dC}{r:Int}{e:gw}(s g vs:List Int)(ps:List (Int×Int))(bQ:Int)(an:s.length<=900)(a v:Int)(bb:0<=a)(J:a<g.length):bw prog 190 [.ao 20 0,aF .i64 a] (gk p c r e (v::s) g vs ps bQ 21) (.bE []) (gk p c r e s (g.set a.toNat v) vs ps bQ 26) [20,22,32,33,25]:=by
 refine cB [] func190 D D fun E K af=>?_
 refine C7 ?_
 apply yN (G 20) [(ht p c r (v::s).length 21 g.length vs.length e.bF.length e bQ),(ht p c r (s).length 21 g.length vs.length e.bF.length e bQ)] mixed ⟨_,.head _,rfl⟩
 ·exact hY 3 D D<|qe D km D D<|hY 2 D D<|tC ((ht p c r (s).length 21 g.length vs.length e.bF.length e bQ)) (ct [] [G 20,G 21] (cf D) (lk (v) (s) (by omega)) (au D) (.dy D D) D D<|ar) (.tail _ (.head _)) (fun d=>rfl)<|j8 (ag (.mx fB (I D) (I D) fun _=>⟨by omega,by omega⟩)<|ar) D<|j8 (x9 bY (I D) (I D) D D D D (by decide) (by simp[ai.fk,jo]) rfl (by omega)<|ar) D<|.nil _
 ·rfl
 ·exact bR
 refine⟨_,b1.swap 21 26 (by rw[K];decide) (by rw[K];decide) D,?_⟩
 exact⟨.inl D,⟨_,(.nil),rfl⟩,cU (.cons (by rw[nH];rfl) (.cons D (.cons (by rw[nH];rfl) (.cons D (.cons D (.cons D .nil))))))⟩
theorem af4{p:aD}{c:dC}{r:Int}{e:gw}(s g vs:List Int)(ps:List (Int×Int))(bQ:Int)(an:s.length<=900)(a v:Int)(bb:0<=a)(J:a<vs.length)(W:a<p.bt.length):bw prog 192 [.ao 20 0,aF .i64 a] (gk p c r e (v::s) g vs ps bQ 21) (.bE []) (gk p c r e s g (vs.set a.toNat (fu v (p.bt.getD a.toNat default).lo (p.bt.getD a.toNat default).hi)) ps bQ 26) [20,22,32,33,25]:=by
 refine cB [] func192 D D fun E K af=>?_
 refine C7 ?_
 apply yN (G 20) [(ht p c r (v::s).length 21 g.length vs.length e.bF.length e bQ),(ht p c r (s).length 21 g.length vs.length e.bF.length e bQ)] mixed ⟨_,.head _,rfl⟩
 ·exact hY 4 D D<|qe D km D D<|hY 2 D D<|tC ((ht p c r (s).length 21 g.length vs.length e.bF.length e bQ)) (ct [] [G 20,G 21] (cf D) (lk (v) (s) (by omega)) (au D) (.dy D D) D D<|ar) (.tail _ (.head _)) (fun d=>rfl)<|hY 4 D D<|qe D p2 D D<|hY 1 D D<|j8 (bW lE D D<|ar) D<|hY 6 D D<|qe D p2 D D<|hY 1 D D<|j8 (bW lE D D<|ar) D<|hY 2 D D<|j8 (cY (hd D D D) (wc _ _ _) (au D)<|ar) D<|j8 (ag (.mx fB (I D) (I D) fun _=>⟨by omega,by omega⟩)<|ar) D<|j8 (x9 bY (I D) (I D) D D D D (by decide) (by simp[ai.fk,jo]) rfl (by omega)<|ar) D<|.nil _
 ·rfl
 ·exact bR
 refine⟨_,b1.swap 21 26 (by rw[K];decide) (by rw[K];decide) D,?_⟩
 exact⟨.inl D,⟨_,(.nil),rfl⟩,cU (.cons (by rw[nH];rfl) (.cons D (.cons D (.cons (by rw[nH];rfl) (.cons D (.cons D .nil))))))⟩
theorem af5{p:aD}{c:dC}{r:Int}{e:gw}(s g vs:List Int)(ps:List (Int×Int))(bQ:Int)(an:s.length<=900)(a v:Int)(bb:0<=a)(W:a<p.a1.length):bw prog 193 [.ao 20 0,aF .i64 a] (gk p c r e (v::s) g vs ps bQ 21) (.bE []) (gk p c r e s g vs (dM ps a (fu v (p.a1.getD a.toNat default).lo (p.a1.getD a.toNat default).hi)) bQ 26) [20,22,32,33,25]:=by
 refine cB [] func193 D D fun E K af=>?_
 refine C7 ?_
 apply yN (G 20) [(ht p c r (v::s).length 21 g.length vs.length e.bF.length e bQ),(ht p c r (s).length 21 g.length vs.length e.bF.length e bQ)] mixed ⟨_,.head _,rfl⟩
 ·exact hY 3 D D<|qe D Kt D D<|hY 2 D D<|tC ((ht p c r (s).length 21 g.length vs.length e.bF.length e bQ)) (ct [] [G 20,G 21] (cf D) (lk (v) (s) (by omega)) (au D) (.dy D D) D D<|ar) (.tail _ (.head _)) (fun d=>rfl)<|hY 4 D D<|qe D uo D D<|hY 1 D D<|j8 (bW nV D D<|ar) D<|hY 6 D D<|qe D uo D D<|hY 1 D D<|j8 (bW nV D D<|ar) D<|hY 2 D D<|j8 (cY (hd D D D) (wc _ _ _) (au D)<|ar) D<|j8 (bI.put (kv:=fe) (k:=a) (f:=av) (u:=(fu v (p.a1.getD a.toNat default).lo (p.a1.getD a.toNat default).hi)) iW (I D) (.v (I D)) (.d (I D)) D<|ar) D<|.nil _
 ·rfl
 ·exact bR
 refine⟨_,b1.swap 21 26 (by rw[K];decide) (by rw[K];decide) D,?_⟩
 exact⟨.inl D,⟨_,(.nil),rfl⟩,cU (.jT D D D D D D)⟩
theorem af6{p:aD}{c:dC}{r:Int}{e:gw}(s g vs:List Int)(ps:List (Int×Int))(bQ:Int)(an:s.length<=900)(a v:Int)(bb:0<=p.cR)(J:p.cR<e.ay.length):bw prog 194 [.ao 20 0,aF .i64 a] (gk p c r e (v::s) g vs ps bQ 21) (.bE []) (gk p c r e (gX (e.ay.getD (fu v 0 p.cR).toNat 0)::s) g vs ps bQ 26) [20,22,32,33,25]:=by
 have hO:=FX v bb
 refine cB [] func194 D D fun E K af=>?_
 apply yN (G 20) [(ht p c r (v::s).length 21 g.length vs.length e.bF.length e bQ),(ht p c r (s).length 21 g.length vs.length e.bF.length e bQ),(ht p c r (s.length+1) 26 g.length vs.length e.bF.length e bQ)] mixed ⟨_,.head _,rfl⟩
 ·exact hY 4 D D<|qe D km D D<|hY 1 D D<|tC ((ht p c r (s).length 21 g.length vs.length e.bF.length e bQ)) (ct [] [G 20,G 21] (cf D) (lk (v) (s) (by omega)) (au D) (.dy D D) D D<|ar) (.tail _ (.head _)) (fun d=>rfl)<|hY 4 D D<|qe D bY D D<|j8 (cY (hd D D D) (wc _ _ _) (au D)<|ar) D<|j8 (bW fB D D<|ar) D<|hY 1 D D<|tC ((ht p c r (s.length+1) 26 g.length vs.length e.bF.length e bQ)) (ct [26] [G 20,G 21] (cn D D) (ou ((e.ay.getD (fu v 0 p.cR).toNat 0)) (s) (by omega)) (au D) (.dy D D) D D<|ar) (.tail _ (.tail _ (.head _))) (fun d=>rfl)<|.nil _
 ·rfl
 ·exact bR
 exact⟨.inl D,⟨_,(.nil),rfl⟩,cU (.jT D D D D D D)⟩
theorem af7{p:aD}{c:dC}{r:Int}{e:gw}(s g vs:List Int)(ps:List (Int×Int))(bQ:Int)(an:s.length<=900)(a v:Int)(bb:0<=p.cR)(J:p.cR<e.ax.length):bw prog 195 [.ao 20 0,aF .i64 a] (gk p c r e (v::s) g vs ps bQ 21) (.bE []) (gk p c r e (gX (e.ax.getD (fu v 0 p.cR).toNat 0)::s) g vs ps bQ 26) [20,22,32,33,25]:=by
 have hO:=FX v bb
 refine cB [] func195 D D fun E K af=>?_
 apply yN (G 20) [(ht p c r (v::s).length 21 g.length vs.length e.bF.length e bQ),(ht p c r (s).length 21 g.length vs.length e.bF.length e bQ),(ht p c r (s.length+1) 26 g.length vs.length e.bF.length e bQ)] mixed ⟨_,.head _,rfl⟩
 ·exact hY 4 D D<|qe D km D D<|hY 1 D D<|tC ((ht p c r (s).length 21 g.length vs.length e.bF.length e bQ)) (ct [] [G 20,G 21] (cf D) (lk (v) (s) (by omega)) (au D) (.dy D D) D D<|ar) (.tail _ (.head _)) (fun d=>rfl)<|hY 4 D D<|qe D bY D D<|j8 (cY (hd D D D) (wc _ _ _) (au D)<|ar) D<|j8 (bW fB D D<|ar) D<|hY 1 D D<|tC ((ht p c r (s.length+1) 26 g.length vs.length e.bF.length e bQ)) (ct [26] [G 20,G 21] (cn D D) (ou ((e.ax.getD (fu v 0 p.cR).toNat 0)) (s) (by omega)) (au D) (.dy D D) D D<|ar) (.tail _ (.tail _ (.head _))) (fun d=>rfl)<|.nil _
 ·rfl
 ·exact bR
 exact⟨.inl D,⟨_,(.nil),rfl⟩,cU (.jT D D D D D D)⟩
theorem af8{p:aD}{c:dC}{r:Int}{e:gw}(s g vs:List Int)(ps:List (Int×Int))(bQ:Int)(an:s.length<=900)(a v:Int)(bb:0<=a)(J:a<e.bF.length)(W:a<p.a1.length)(aH:1<=(p.a1.getD a.toNat default).size/\(p.a1.getD a.toNat default).size<=65536)(aV:((e.bF.getD a.toNat default).length:Int)=(p.a1.getD a.toNat default).size):bw prog 196 [.ao 20 0,aF .i64 a] (gk p c r e (v::s) g vs ps bQ 21) (.bE []) (gk p c r e (gX ((e.bF.getD a.toNat default).getD (fu v 0 ((p.a1.getD a.toNat default).size-1)).toNat 0)::s) g vs ps bQ 26) [20,22,32,33,25]:=by
 have hO:=FX v (show 0<=((p.a1.getD a.toNat default).size-1) by omega)
 refine cB [] func196 D D fun E K af=>?_
 apply yN (G 20) [(ht p c r (v::s).length 21 g.length vs.length e.bF.length e bQ),(ht p c r (s).length 21 g.length vs.length e.bF.length e bQ),(ht p c r (s.length+1) 26 g.length vs.length e.bF.length e bQ)] mixed ⟨_,.head _,rfl⟩
 ·exact hY 5 D D<|qe D wT D D<|hY 1 D D<|j8 (ag (.mx pr (I D) (I D) fun _=>⟨by omega,by omega⟩)<|ar) D<|j8 (cH [_] ((Pure.pU km (I D) D D D fun _=>by omega).bK (y:=.d (ch (e.bF.getD a.toNat default))) (by exact congrArg ai.d (T5 (by omega))))<|ar) D<|hY 1 D D<|tC ((ht p c r (s).length 21 g.length vs.length e.bF.length e bQ)) (ct [] [G 20,G 21] (cf D) (lk (v) (s) (by omega)) (au D) (.dy D D) D D<|ar) (.tail _ (.head _)) (fun d=>rfl)<|hY 4 D D<|qe D uo D D<|hY 1 D D<|j8 (bW nV D D<|ar) D<|hY 2 D D<|j8 (cp D D D<|ar) D<|j8 (cY (hd D D D) (wc _ _ _) (au D)<|ar) D<|j8 (bW fB D D<|ar) D<|hY 1 D D<|tC ((ht p c r (s.length+1) 26 g.length vs.length e.bF.length e bQ)) (ct [26] [G 20,G 21] (cn D D) (ou (((e.bF.getD a.toNat default).getD (fu v 0 ((p.a1.getD a.toNat default).size-1)).toNat 0)) (s) (by omega)) (au D) (.dy D D) D D<|ar) (.tail _ (.tail _ (.head _))) (fun d=>rfl)<|.nil _
 ·rfl
 ·exact bR
 exact⟨.inl D,⟨_,(.nil),rfl⟩,cU (.jT D D D D D D)⟩
theorem af9{p:aD}{c:dC}{r:Int}{e:gw}(s g vs:List Int)(ps:List (Int×Int))(bQ:Int)(an:s.length<=900)(a v:Int)(bb:0<=a)(J:a<p.bM.length)(aH:1<=(p.bM.getD a.toNat default).dU.length/\(p.bM.getD a.toNat default).dU.length<=65536):bw prog 197 [.ao 20 0,aF .i64 a] (gk p c r e (v::s) g vs ps bQ 21) (.bE []) (gk p c r e (gX ((p.bM.getD a.toNat default).dU.getD (fu v 0 (((p.bM.getD a.toNat default).dU.length:Int)-1)).toNat 0)::s) g vs ps bQ 26) [20,22,32,33,25]:=by
 have hO:=FX v (show 0<=((p.bM.getD a.toNat default).dU.length:Int)-1 by omega)
 have fz:(p.bM.map e2.dU).getD a.toNat default=(p.bM.getD a.toNat default).dU:=T6 (by omega)
 have Mq:(p.bM.map e2.dU).length=p.bM.length:=l5 ..
 refine cB [] func197 D D fun E K af=>?_
 apply yN (G 20) [(ht p c r (v::s).length 21 g.length vs.length e.bF.length e bQ),(ht p c r (s).length 21 g.length vs.length e.bF.length e bQ),(ht p c r (s.length+1) 26 g.length vs.length e.bF.length e bQ)] mixed ⟨_,.head _,rfl⟩
 ·exact hY 5 D D<|qe D wT D D<|hY 1 D D<|j8 (bW pr D D<|ar) D<|j8 (ag ((Pure.fG km (I D) D).bK (y:=.d (ch (p.bM.getD a.toNat default).dU)) (by exact congrArg (fun l=>ai.d (ch l)) fz))<|ar) D<|hY 1 D D<|tC ((ht p c r (s).length 21 g.length vs.length e.bF.length e bQ)) (ct [] [G 20,G 21] (cf D) (lk (v) (s) (by omega)) (au D) (.dy D D) D D<|ar) (.tail _ (.head _)) (fun d=>rfl)<|hY 4 D D<|qe D wT D D<|hY 1 D D<|j8 (bW pr D D<|ar) D<|j8 (ag ((Pure.fG km (I D) D).bK (y:=.d (ch (p.bM.getD a.toNat default).dU)) (by exact congrArg (fun l=>ai.d (ch l)) fz))<|ar) D<|hY 1 D D<|j8 (cp D D D<|ar) D<|j8 (cY (hd D D D) (wc _ _ _) (au D)<|ar) D<|j8 (bW fB D D<|ar) D<|hY 1 D D<|tC ((ht p c r (s.length+1) 26 g.length vs.length e.bF.length e bQ)) (ct [26] [G 20,G 21] (cn D D) (ou (((p.bM.getD a.toNat default).dU.getD (fu v 0 (((p.bM.getD a.toNat default).dU.length:Int)-1)).toNat 0)) (s) (by omega)) (au D) (.dy D D) D D<|ar) (.tail _ (.tail _ (.head _))) (fun d=>rfl)<|.nil _
 ·rfl
 ·exact bR
 exact⟨.inl D,⟨_,(.nil),rfl⟩,cU (.jT D D D D D D)⟩
theorem aga{p:aD}{c:dC}{r:Int}{e:gw}(s g vs:List Int)(ps:List (Int×Int))(bQ:Int)(an:s.length<=900)(a v:Int):bw prog 198 [.ao 20 0,aF .i64 a] (gk p c r e (v::s) g vs ps bQ 21) (.bE []) (gk p c r e (gX (j6 v)::s) g vs ps bQ 26) [20,22,32,33,25]:=by
 refine cB [] func198 D D fun E K af=>?_
 exact bm (O 2 D<|ct [] [G 20,G 21] (cf D) (lk (v) (s) (by omega)) (au D) (.dy D D) D D<|cY (cf D) (CN v) (au D)<|ct [26] [G 20,G 21] (cn D D) (ou (j6 v) (s) (by omega)) (au D) (.dy D D) D D<|ar)<|⟨.inl D,⟨_,(.nil),rfl⟩,cU (.jT D D D D D D)⟩
theorem agb{p:aD}{c:dC}{r:Int}{e:gw}(s g vs:List Int)(ps:List (Int×Int))(bQ:Int)(an:s.length<=900)(a v w:Int):bw prog 199 [.ao 20 0,aF .i64 a] (gk p c r e (v::w::s) g vs ps bQ 21) (.bE []) (gk p c r e (gX (min v w)::s) g vs ps bQ 26) [20,22,32,33,25]:=by
 refine cB [] func199 D D fun E K af=>?_
 exact bm (O 2 D<|ct [] [G 20,G 21] (cf D) (lk (v) (w::s) (by(simp only[ek];omega))) (au D) (.dy D D) D D<|O 1 D<|ct [] [G 20,G 21] (cf D) (lk (w) (s) (by omega)) (au D) (.dy D D) D D<|ag (.min2 (I D) (I D))<|ct [26] [G 20,G 21] (cn D D) (ou (min v w) (s) (by omega)) (au D) (.dy D D) D D<|ar)<|⟨.inl D,⟨_,(.nil),rfl⟩,cU (.jT D D D D D D)⟩
theorem agc{p:aD}{c:dC}{r:Int}{e:gw}(s g vs:List Int)(ps:List (Int×Int))(bQ:Int)(an:s.length<=900)(a v w:Int):bw prog 200 [.ao 20 0,aF .i64 a] (gk p c r e (v::w::s) g vs ps bQ 21) (.bE []) (gk p c r e (gX (max v w)::s) g vs ps bQ 26) [20,22,32,33,25]:=by
 refine cB [] func200 D D fun E K af=>?_
 exact bm (O 2 D<|ct [] [G 20,G 21] (cf D) (lk (v) (w::s) (by(simp only[ek];omega))) (au D) (.dy D D) D D<|O 1 D<|ct [] [G 20,G 21] (cf D) (lk (w) (s) (by omega)) (au D) (.dy D D) D D<|ag (.max2 (I D) (I D))<|ct [26] [G 20,G 21] (cn D D) (ou (max v w) (s) (by omega)) (au D) (.dy D D) D D<|ar)<|⟨.inl D,⟨_,(.nil),rfl⟩,cU (.jT D D D D D D)⟩
theorem agd{p:aD}{c:dC}{r:Int}{e:gw}(s g vs:List Int)(ps:List (Int×Int))(bQ:Int)(an:s.length<=900)(a v:Int)(aK:dw v):bw prog 201 [.ao 20 0,aF .i64 a] (gk p c r e (v::s) g vs ps bQ 21) (.bE []) (gk p c r e (gX (max v (-v))::s) g vs ps bQ 26) [20,22,32,33,25]:=by
 have Bc:=aK.1
 have pI:=aK.2
 refine cB [] func201 D D fun E K af=>?_
 exact aO (O 1 D<|ct [] [G 20,G 21] (cf D) (lk (v) (s) (by omega)) (au D) (.dy D D) D D<|aN 1 D)<|bm (O 3 D<|ag (.neg (I D) fun _=>iO (by omega))<|ag (.max2 (I D) (I D))<|ct [26] [G 20,G 21] (cn D D) (ou (max v (-v)) (s) (by omega)) (au D) (.dy D D) D D<|ar)<|⟨.inl D,⟨_,(.nil),rfl⟩,cU (.jT D D D D D D)⟩
theorem age{p:aD}{c:dC}{r:Int}{e:gw}(s g vs:List Int)(ps:List (Int×Int))(bQ:Int)(an:s.length<=900)(a v:Int)(aK:dw v):bw prog 202 [.ao 20 0,aF .i64 a] (gk p c r e (v::s) g vs ps bQ 21) (.bE []) (gk p c r e (gX (-v)::s) g vs ps bQ 26) [20,22,32,33,25]:=by
 have Bc:=aK.1
 have pI:=aK.2
 refine cB [] func202 D D fun E K af=>?_
 exact bm (O 2 D<|ct [] [G 20,G 21] (cf D) (lk (v) (s) (by omega)) (au D) (.dy D D) D D<|ag (.neg (I D) fun _=>iO (by omega))<|ct [26] [G 20,G 21] (cn D D) (ou (-v) (s) (by omega)) (au D) (.dy D D) D D<|ar)<|⟨.inl D,⟨_,(.nil),rfl⟩,cU (.jT D D D D D D)⟩
theorem agf{p:aD}{c:dC}{r:Int}{e:gw}(s g vs:List Int)(ps:List (Int×Int))(bQ:Int)(an:s.length<=900)(a v w:Int):bw prog 203 [.ao 20 0,aF .i64 a] (gk p c r e (v::w::s) g vs ps bQ 21) (.bE []) (gk p c r e (gX (mo v w)::s) g vs ps bQ 26) [20,22,32,33,25]:=by
 refine cB [] func203 D D fun E K af=>?_
 exact bm (O 2 D<|ct [] [G 20,G 21] (cf D) (lk (v) (w::s) (by(simp only[ek];omega))) (au D) (.dy D D) D D<|O 1 D<|ct [] [G 20,G 21] (cf D) (lk (w) (s) (by omega)) (au D) (.dy D D) D D<|cY (cn D D) (T2 v w) (au D)<|ct [26] [G 20,G 21] (cn D D) (ou (mo v w) (s) (by omega)) (au D) (.dy D D) D D<|ar)<|⟨.inl D,⟨_,(.nil),rfl⟩,cU (.jT D D D D D D)⟩
theorem agh{p:aD}{c:dC}{r:Int}{e:gw}(s g vs:List Int)(ps:List (Int×Int))(bQ:Int)(an:s.length<=900)(a v w:Int)(aK:dw v):bw prog 205 [.ao 20 0,aF .i64 a] (gk p c r e (v::w::s) g vs ps bQ 21) (.bE []) (gk p c r e (gX (mo w (-v))::s) g vs ps bQ 26) [20,22,32,33,25]:=by
 have Bc:=aK.1
 have pI:=aK.2
 refine cB [] func205 D D fun E K af=>?_
 exact aO (O 1 D<|ct [] [G 20,G 21] (cf D) (lk (v) (w::s) (by(simp only[ek];omega))) (au D) (.dy D D) D D<|O 1 D<|ct [] [G 20,G 21] (cf D) (lk (w) (s) (by omega)) (au D) (.dy D D) D D<|aN 2 D)<|bm (O 3 D<|ag (.neg (I D) fun _=>iO (by omega))<|cY (cn D D) (T2 w (-v)) (au D)<|ct [26] [G 20,G 21] (cn D D) (ou (mo w (-v)) (s) (by omega)) (au D) (.dy D D) D D<|ar)<|⟨.inl D,⟨_,(.nil),rfl⟩,cU (.jT D D D D D D)⟩
theorem agi{p:aD}{c:dC}{r:Int}{e:gw}(s g vs:List Int)(ps:List (Int×Int))(bQ:Int)(an:s.length<=900)(a v w:Int):bw prog 206 [.ao 20 0,aF .i64 a] (gk p c r e (v::w::s) g vs ps bQ 21) (.bE []) (gk p c r e (gX (o1 v w)::s) g vs ps bQ 26) [20,22,32,33,25]:=by
 refine cB [] func206 D D fun E K af=>?_
 exact bm (O 2 D<|ct [] [G 20,G 21] (cf D) (lk (v) (w::s) (by(simp only[ek];omega))) (au D) (.dy D D) D D<|O 1 D<|ct [] [G 20,G 21] (cf D) (lk (w) (s) (by omega)) (au D) (.dy D D) D D<|cY (cn D D) (afL v w) (au D)<|ct [26] [G 20,G 21] (cn D D) (ou (o1 v w) (s) (by omega)) (au D) (.dy D D) D D<|ar)<|⟨.inl D,⟨_,(.nil),rfl⟩,cU (.jT D D D D D D)⟩
theorem agj{p:aD}{c:dC}{r:Int}{e:gw}(s g vs:List Int)(ps:List (Int×Int))(bQ:Int)(an:s.length<=900)(a v:Int)(bb:0<a):bw prog 208 [.ao 20 0,aF .i64 a] (gk p c r e (v::s) g vs ps bQ 21) (.bE []) (gk p c r e (gX (tJ v a)::s) g vs ps bQ 26) [20,22,32,33,25]:=by
 refine cB [] func208 D D fun E K af=>?_
 exact bm (O 2 D<|ct [] [G 20,G 21] (cf D) (lk (v) (s) (by omega)) (au D) (.dy D D) D D<|O 1 D<|cY (cn D D) (afM v a bb) (au D)<|ct [26] [G 20,G 21] (cn D D) (ou (tJ v a) (s) (by omega)) (au D) (.dy D D) D D<|ar)<|⟨.inl D,⟨_,(.nil),rfl⟩,cU (.jT D D D D D D)⟩
theorem agk{p:aD}{c:dC}{r:Int}{e:gw}(s g vs:List Int)(ps:List (Int×Int))(bQ:Int)(an:s.length<=900)(a v w y x:Int):bw prog 210 [.ao 20 0,aF .i64 a] (gk p c r e (v::w::y::x::s) g vs ps bQ 21) (.bE []) (gk p c r e (gX (bif decide (x<y)then w else v)::s) g vs ps bQ 26) [20,22,32,33,25]:=by
 refine cB [] func210 D D fun E K af=>?_
 refine aO (O 1 D<|ct [] [G 20,G 21] (cf D) (lk (v) (w::y::x::s) (by(simp only[ek];omega))) (au D) (.dy D D) D D<|O 1 D<|ct [] [G 20,G 21] (cf D) (lk (w) (y::x::s) (by(simp only[ek];omega))) (au D) (.dy D D) D D<|O 1 D<|ct [] [G 20,G 21] (cf D) (lk (y) (x::s) (by(simp only[ek];omega))) (au D) (.dy D D) D D<|O 1 D<|ct [] [G 20,G 21] (cf D) (lk (x) (s) (by omega)) (au D) (.dy D D) D D<|aN 4 D)<|al<|aL 3 D<|a7 D (fun aP=>?_) fun aP=>?_
 ·have MW:(bif decide (x<y)then w else v)=w:=by rw[show decide (x<y)=true from aP,cond_true]
  rw[MW]
  refine fS 2 D<|?_
  apply dm
  ·apply O 2 D
   (apply ct [26] [G 20,G 21] (cn D D) (ou (w) (s) (by omega)) (au D) (.dy D D) D D)
   exact .nil _
  ·exact bR
  exact⟨.inl D,⟨_,(.nil),rfl⟩,cU (.jT D D D D D D)⟩
 have MW:(bif decide (x<y)then w else v)=v:=by rw[show decide (x<y)=false from aP,cond_false]
 rw[MW]
 refine bx<|?_
 apply dm
 ·apply O 2 D
  (apply ct [26] [G 20,G 21] (cn D D) (ou (v) (s) (by omega)) (au D) (.dy D D) D D)
  exact .nil _
 ·exact bR
 exact⟨.inl D,⟨_,(.nil),rfl⟩,cU (.jT D D D D D D)⟩
theorem agl{p:aD}{c:dC}{r:Int}{e:gw}(s g vs:List Int)(ps:List (Int×Int))(bQ:Int)(an:s.length<=900)(a v:Int):bw prog 211 [.ao 20 0,aF .i64 a] (gk p c r e (v::s) g vs ps bQ 21) (.bE []) (gk p c r e s g vs ps (j6 v) 26) [20,22,32,33,25]:=by
 refine cB [] func211 D D fun E K af=>?_
 refine C7 ?_
 refine bm (O 2 D<|ct [] [G 20,G 21] (cf D) (lk (v) (s) (by omega)) (au D) (.dy D D) D D<|cY (cf D) (CN v) (au D)<|O 2 D<|iG bY D D D D D<|ar)<|⟨_,b1.swap 21 26 (by rw[K];decide) (by rw[K];decide) D,?_⟩
 exact⟨.inl D,⟨_,(.nil),rfl⟩,cU (.jT D D D D D D)⟩
structure C8(p:aD)(e:gw):Prop where
 bj:e.bj.length=p.params.length
 n2:0<=p.cR
 ay:p.cR<e.ay.length
 ax:p.cR<e.ax.length
 bF:e.bF.length=p.a1.length
 lY:∀i:Nat,i<p.a1.length->((e.bF.getD i default).length:Int)=(p.a1.getD i default).size
theorem MX{p:aD}{r op:Int}(h:0<=(fp p r op).1):1<=op/\op<=22:=by
 by_cases aj:1<=op/\op<=22
 ·exact aj
 ·exfalso
  have e:∀k:Int,1<=k->k<=22->decide (op=k)=false:=fun k J W=>hG (by omega)
  simp only[fp,e 1 (by decide) (by decide),e 2 (by decide) (by decide),e 3 (by decide) (by decide),e 4 (by decide) (by decide),e 5 (by decide) (by decide),e 6 (by decide) (by decide),e 7 (by decide) (by decide),e 22 (by decide) (by decide),e 10 (by decide) (by decide),e 11 (by decide) (by decide),e 20 (by decide) (by decide),e 8 (by decide) (by decide),e 9 (by decide) (by decide),e 12 (by decide) (by decide),e 15 (by decide) (by decide),e 16 (by decide) (by decide),e 13 (by decide) (by decide),e 14 (by decide) (by decide),e 17 (by decide) (by decide),e 18 (by decide) (by decide),e 19 (by decide) (by decide),e 21 (by decide) (by decide),cond_false]at h
  omega
theorem agm{p:aD}{c:dC}{r:Int}(og:IT p c r){i:Nat}(h:i<p.bM.length):1<=(p.bM.getD i default).dU.length/\(p.bM.getD i default).dU.length<=65536:=by
 obtain⟨J,W,_⟩:=og.t i h
 rw[T6 h]at J W
 exact⟨J,by omega⟩
def IY:Nat->FuncId
 |1=>185
 |2=>187
 |3=>188
 |4=>189
 |5=>190
 |6=>192
 |7=>193
 |8=>194
 |9=>195
 |10=>196
 |11=>197
 |12=>198
 |13=>199
 |14=>200
 |15=>201
 |16=>202
 |17=>203
 |18=>205
 |19=>206
 |20=>208
 |21=>210
 |22=>211
 |_=>0
theorem agn:∀n:Nat,1<=n->n<=22->hS prog (IY n)=true
 |1,_,_=>(au D)
 |2,_,_=>(au D)
 |3,_,_=>(au D)
 |4,_,_=>(au D)
 |5,_,_=>(au D)
 |6,_,_=>(au D)
 |7,_,_=>(au D)
 |8,_,_=>(au D)
 |9,_,_=>(au D)
 |10,_,_=>(au D)
 |11,_,_=>(au D)
 |12,_,_=>(au D)
 |13,_,_=>(au D)
 |14,_,_=>(au D)
 |15,_,_=>(au D)
 |16,_,_=>(au D)
 |17,_,_=>(au D)
 |18,_,_=>(au D)
 |19,_,_=>(au D)
 |20,_,_=>(au D)
 |21,_,_=>(au D)
 |22,_,_=>(au D)
 |0,h,_=>absurd h (by decide)
 |n+23,_,h=>absurd h (by omega)
abbrev FY:List bg:=[.v .nilFunc,.v (.func (.func 185) #[] #[]),.v (.func (.func 187) #[] #[]),.v (.func (.func 188) #[] #[]),.v (.func (.func 189) #[] #[]),.v (.func (.func 190) #[] #[]),.v (.func (.func 192) #[] #[]),.v (.func (.func 193) #[] #[]),.v (.func (.func 194) #[] #[]),.v (.func (.func 195) #[] #[]),.v (.func (.func 196) #[] #[]),.v (.func (.func 197) #[] #[]),.v (.func (.func 198) #[] #[]),.v (.func (.func 199) #[] #[]),.v (.func (.func 200) #[] #[]),.v (.func (.func 201) #[] #[]),.v (.func (.func 202) #[] #[]),.v (.func (.func 203) #[] #[]),.v (.func (.func 205) #[] #[]),.v (.func (.func 206) #[] #[]),.v (.func (.func 208) #[] #[]),.v (.func (.func 210) #[] #[]),.v (.func (.func 211) #[] #[])]
theorem ago:∀n:Nat,1<=n->n<=22->FY.getD n (.v .nilFunc)= .v (.func (.func (IY n)) #[] #[])
 |1,_,_=>rfl
 |2,_,_=>rfl
 |3,_,_=>rfl
 |4,_,_=>rfl
 |5,_,_=>rfl
 |6,_,_=>rfl
 |7,_,_=>rfl
 |8,_,_=>rfl
 |9,_,_=>rfl
 |10,_,_=>rfl
 |11,_,_=>rfl
 |12,_,_=>rfl
 |13,_,_=>rfl
 |14,_,_=>rfl
 |15,_,_=>rfl
 |16,_,_=>rfl
 |17,_,_=>rfl
 |18,_,_=>rfl
 |19,_,_=>rfl
 |20,_,_=>rfl
 |21,_,_=>rfl
 |22,_,_=>rfl
 |0,h,_=>absurd h (by decide)
 |n+23,_,h=>absurd h (by omega)
theorem agp{p:aD}{c:dC}{r:Int}{e:gw}(og:IT p c r)(he:C8 p e)(bO g vs:List Int)(ps:List (Int×Int))(bQ:Int)(aa:bO.length<=800)(hw:∀v∈bO,dw v)(aM:(g.length:Int)=r)(aK:vs.length=p.bt.length)
  (op a:Int) (J:0<=(fp p r op).1) (W:(fp p r op).2.2.1<=a) (aH:a<=(fp p r op).2.2.2) (aV:(fp p r op).1<=bO.length):
  bw prog (IY op.toNat) [.ao 20 0,aF .i64 a] (gk p c r e bO g vs ps bQ 21) (.bE []) (gk p c r e (o2 p e ⟨bO,g,vs,ps,bQ⟩ (op,a)).bO (o2 p e ⟨bO,g,vs,ps,bQ⟩ (op,a)).iH (o2 p e ⟨bO,g,vs,ps,bQ⟩ (op,a)).bV (o2 p e ⟨bO,g,vs,ps,bQ⟩ (op,a)).gW (o2 p e ⟨bO,g,vs,ps,bQ⟩ (op,a)).bQ 26) [20,22,32,33,25]:=by
 obtain⟨xB,Be⟩:=MX J
 obtain⟨n,rfl⟩:∃n:Nat,op=(n:Int):=⟨op.toNat,by omega⟩
 match n with
 |0=>exact absurd xB (by decide)
 |1=>exact afZ bO g vs ps bQ (by omega) a
 |2=>exact af0 bO g vs ps bQ (by omega) a W (by have:=he.bj;have aH:a<=(p.params.length:Int)-1:=aH;omega)
 |3=>exact af1 bO g vs ps bQ (by omega) a W (by have:=aK;have aH:a<=(p.bt.length:Int)-1:=aH;omega)
 |4=>exact af2 bO g vs ps bQ (by omega) a W (by have:=aM;have aH:a<=r-1:=aH;omega)
 |5=>
  have aV:1<=bO.length:=Int.ofNat_le.1 aV
  match bO,aV,aa,hw with
  |v::s,_,aa,hw=>
  have hc:s.length<=900:=by simp only[ek]at aa;omega
  exact af3 s g vs ps bQ hc a v W (by have:=aM;have aH:a<=r-1:=aH;omega)
 |6=>
  have aV:1<=bO.length:=Int.ofNat_le.1 aV
  match bO,aV,aa,hw with
  |v::s,_,aa,hw=>
  have hc:s.length<=900:=by simp only[ek]at aa;omega
  exact af4 s g vs ps bQ hc a v W (by have:=aK;have aH:a<=(p.bt.length:Int)-1:=aH;omega) (by have aH:a<=(p.bt.length:Int)-1:=aH;omega)
 |7=>
  have aV:1<=bO.length:=Int.ofNat_le.1 aV
  match bO,aV,aa,hw with
  |v::s,_,aa,hw=>
  have hc:s.length<=900:=by simp only[ek]at aa;omega
  exact af5 s g vs ps bQ hc a v W (by have aH:a<=(p.a1.length:Int)-1:=aH;omega)
 |8=>
  have aV:1<=bO.length:=Int.ofNat_le.1 aV
  match bO,aV,aa,hw with
  |v::s,_,aa,hw=>
  have hc:s.length<=900:=by simp only[ek]at aa;omega
  exact af6 s g vs ps bQ hc a v he.n2 he.ay
 |9=>
  have aV:1<=bO.length:=Int.ofNat_le.1 aV
  match bO,aV,aa,hw with
  |v::s,_,aa,hw=>
  have hc:s.length<=900:=by simp only[ek]at aa;omega
  exact af7 s g vs ps bQ hc a v he.n2 he.ax
 |10=>
  have aV:1<=bO.length:=Int.ofNat_le.1 aV
  match bO,aV,aa,hw with
  |v::s,_,aa,hw=>
  have hc:s.length<=900:=by simp only[ek]at aa;omega
  have nu:a<p.a1.length:=by have aH:a<=(p.a1.length:Int)-1:=aH;omega
  have W:0<=a:=W
  exact af8 s g vs ps bQ hc a v W (by have:=he.bF;have aH:a<=(p.a1.length:Int)-1:=aH;omega) (nu:a<p.a1.length) (og.l a.toNat (by omega)).2 (he.lY a.toNat (by omega))
 |11=>
  have aV:1<=bO.length:=Int.ofNat_le.1 aV
  match bO,aV,aa,hw with
  |v::s,_,aa,hw=>
  have hc:s.length<=900:=by simp only[ek]at aa;omega
  have zT:a<p.bM.length:=by have aH:a<=(p.bM.length:Int)-1:=aH;omega
  have W:0<=a:=W
  exact af9 s g vs ps bQ hc a v W zT (agm og (by omega))
 |12=>
  have aV:1<=bO.length:=Int.ofNat_le.1 aV
  match bO,aV,aa,hw with
  |v::s,_,aa,hw=>
  have hc:s.length<=900:=by simp only[ek]at aa;omega
  exact aga s g vs ps bQ hc a v
 |13=>
  have aV:2<=bO.length:=Int.ofNat_le.1 aV
  match bO,aV,aa,hw with
  |v::w::s,_,aa,hw=>
  have hc:s.length<=900:=by simp only[ek]at aa;omega
  exact agb s g vs ps bQ hc a v w
 |14=>
  have aV:2<=bO.length:=Int.ofNat_le.1 aV
  match bO,aV,aa,hw with
  |v::w::s,_,aa,hw=>
  have hc:s.length<=900:=by simp only[ek]at aa;omega
  exact agc s g vs ps bQ hc a v w
 |15=>
  have aV:1<=bO.length:=Int.ofNat_le.1 aV
  match bO,aV,aa,hw with
  |v::s,_,aa,hw=>
  have hc:s.length<=900:=by simp only[ek]at aa;omega
  exact agd s g vs ps bQ hc a v (hw v (List.mem_cons_self ..))
 |16=>
  have aV:1<=bO.length:=Int.ofNat_le.1 aV
  match bO,aV,aa,hw with
  |v::s,_,aa,hw=>
  have hc:s.length<=900:=by simp only[ek]at aa;omega
  exact age s g vs ps bQ hc a v (hw v (List.mem_cons_self ..))
 |17=>
  have aV:2<=bO.length:=Int.ofNat_le.1 aV
  match bO,aV,aa,hw with
  |v::w::s,_,aa,hw=>
  have hc:s.length<=900:=by simp only[ek]at aa;omega
  exact agf s g vs ps bQ hc a v w
 |18=>
  have aV:2<=bO.length:=Int.ofNat_le.1 aV
  match bO,aV,aa,hw with
  |v::w::s,_,aa,hw=>
  have hc:s.length<=900:=by simp only[ek]at aa;omega
  exact agh s g vs ps bQ hc a v w (hw v (List.mem_cons_self ..))
 |19=>
  have aV:2<=bO.length:=Int.ofNat_le.1 aV
  match bO,aV,aa,hw with
  |v::w::s,_,aa,hw=>
  have hc:s.length<=900:=by simp only[ek]at aa;omega
  exact agi s g vs ps bQ hc a v w
 |20=>
  have aV:1<=bO.length:=Int.ofNat_le.1 aV
  match bO,aV,aa,hw with
  |v::s,_,aa,hw=>
  have hc:s.length<=900:=by simp only[ek]at aa;omega
  have W:0<a:=W
  exact agj s g vs ps bQ hc a v W
 |21=>
  have aV:4<=bO.length:=Int.ofNat_le.1 aV
  match bO,aV,aa,hw with
  |v::w::y::x::s,_,aa,hw=>
  have hc:s.length<=900:=by simp only[ek]at aa;omega
  exact agk s g vs ps bQ hc a v w y x
 |22=>
  have aV:1<=bO.length:=Int.ofNat_le.1 aV
  match bO,aV,aa,hw with
  |v::s,_,aa,hw=>
  have hc:s.length<=900:=by simp only[ek]at aa;omega
  exact agl s g vs ps bQ hc a v
 |n+23=>exact absurd Be (by omega)
theorem agq:dI (ι:=Unit) prog 164 [] [] (fun _=>True) (fun _=>.d (.agg FY)) (fun _=>[]) [] ((fun _=>False)) []:=by
 refine hr [.cell 0 225] func164 D D fun E K af=>?_
 exact aO (cm 0 KF D<|ar)<|al<|dm (ag (.build KF Yi (ba D D D (ba D D D (ba D D D (ba D D D (ba D D D (ba D D D (ba D D D (ba D D D (ba D D D (ba D D D (ba D D D (ba D D D (ba D D D (ba D D D (ba D D D (ba D D D (ba D D D (ba D D D (ba D D D (ba D D D (ba D D D (ba D D D (.nil _ _))))))))))))))))))))))) D)<|ny KE (I D) (I D) D D (by rfl) (by exact eZ.1 D) (by exact cC D) D<|ar) (nM K af D)<|bp<|⟨.inr D,(),trivial,⟨_,(.cons (.va D D KE D) .nil),(Lp D)⟩,cI .nil⟩
theorem agr:bw prog 164 [] [] (.d (.agg FY)) [] []:=dI.nD agq () (fun _ _=>rfl) fun _ h=>h
section
variable {bZ α:Type} [DecidableEq bZ] {kv:bZ->Value} {f:α->bg} {m:List (bZ×α)}
variable {P:Program} {S:ad} {ro:eR} {ops:Array Oper} {E:c7} {x:Operand} {t ty e:TypeId} {pos:String} {a6:Array Edge} {bB:Option (Nat×Bool)} {d:Option Nat} {l:Nat}
theorem T7{aY:ad}{o:Oper}{l:Nat}{dE:List Nat}{B B':cO}(gM:o.dst=none)(fY:o.guard=none)(h0:sR o.op=true)(aa:l∈dE)(ae:aY.get (G l)=some (.U B))
  (h:∀E V M a w,jc E aY o dE true V M a w->(V.bZ l≠none->V.aI l<w.heap.size)->∃w' v,(execOp a.eval o).run P w= .ok (.value v) w'/\(V.bZ l=none->w'=w)/\(V.bZ l≠none->fb w w' (V.aI l))/\gC V M w' l B'):
  kA P ro ops o ⟨cQ o++dE.map G,aY,[(G l,some (.U B'))],[]⟩:=by
 intro E S a w an _ dX ⟨V,M,aC,hw⟩ Q gD
 have aM:jc E aY o dE true V M a w:=qw (rn:=cQ o++dE.map G) an (fun n af=>by simp[af]) (fun m aw=>by simp only[hy,List.mem_map];exact .inr ⟨m,aw,rfl⟩) D aC hw
 have r8:S.get (G l)=some (.U B):=by rw[an (G l) (by simp only[hy,List.mem_map];exact .inr ⟨l,aa,rfl⟩)];exact ae
 obtain⟨w',v,aE,bb,J,cP⟩:=h E V M a w aM fun K=>hw.cE l ⟨⟨_,r8⟩,K⟩
 unfold lx
 rw[if_pos (by simp[Region.wanted,fY])]
 refine sS h0 aE ?_
 rw[gM]
 by_cases K:V.bZ l=none
 ·have:=bb K
  subst this
  exact ei.fj ⟨V,M,aC.U _ _,hw.ui r8 cP⟩ fun n c e=>(ra S _ _ n).trans e
 ·exact⟨V,M,DU aC l _,Gu hw r8 K (J K) cP⟩
theorem bI.ags{S':ad}{r:List Oper}{L:List cx}{k e:TypeId}(hu:P.underlying t=some (.map k e))(aX:cd S true x (.mp l))(ae:S.get (G l)=some (.U (hE kv f m)))
  (h:bI P ro ops r ((G l,.U (hE kv f []))::S) L S'):
  bI P ro ops (⟨none,.call ⟨.builtin .clear,#[x],#[t]⟩,ty,pos,a6,none⟩::r) S (⟨cQ ⟨none,.call ⟨.builtin .clear,#[x],#[t]⟩,ty,pos,a6,none⟩++[l].map G,S,[(G l,some (.U (hE kv f [])))],[]⟩::L) S':=by
 have _:=‹DecidableEq bZ›
 refine bI.GV (T7 D D D (by simp) ae fun E V M a w aM aG=>?_) h
 have Y:=aM.ez x (by simp[Op.operands,Call.operands]) _ aX
 obtain⟨me,vs,lq,J,W,aH,e3,cD,xs,rfl,hI⟩:=aM.U l (by simp) _ ae
 have aG:=aG me
 generalize he:a.eval x=v at Y
 generalize a.eval=aI at*
 cases Y with
 |mp=>
  refine⟨{w with heap:=w.heap.setIfInBounds (V.aI l) (.map #[] cD)},.tuple #[],?_,fun h=>absurd h me,fun _=>fb.ER w _ _ aG,me,[],_,by simp[wM,aG],rfl,fun j a b aC _=>by simp at aC,[],cD,#[],rfl,⟨rfl,rfl,rfl,.nil,.nil,by simp⟩⟩
  simp only[execOp,resolve,de,e5,Result.andThen,invoke,builtin]
  simp[he,Builtin.clear_,run_underlying hu,getObj,setObj,Sem.run,J,Result.andThen]
theorem bI.agt{S':ad}{r:List Oper}{L:List cx}{el:TypeId}{k:IntKind}{n:Nat}{xs:List Int}(hu:P.underlying t=some (.slice el))(bd:cZ P el [.int k 0])(aX:cd S true x (.aQ l n))(ae:S.get (G l)=some (.U (.bG 1 n [.cv k xs])))
  (h:bI P ro ops r ((G l,.U (.bG 1 n [.cv k (List.replicate n 0)]))::S) L S'):
  bI P ro ops (⟨none,.call ⟨.builtin .clear,#[x],#[t]⟩,ty,pos,a6,none⟩::r) S (⟨cQ ⟨none,.call ⟨.builtin .clear,#[x],#[t]⟩,ty,pos,a6,none⟩++[l].map G,S,[(G l,some (.U (.bG 1 n [.cv k (List.replicate n 0)])))],[]⟩::L) S':=by
 refine bI.GV (T7 D D D (by simp) ae fun E V M a w aM aG=>?_) h
 have Y:=aM.ez x (by simp[Op.operands,Call.operands]) _ aX
 obtain⟨g1,g2,g3⟩:=aM.U l (by simp) _ ae
 obtain⟨tp,y1,agu⟩:=x4 bd
 have rj:(Builtin.zeroCells tp.cells n).toList=List.replicate n (.int k 0):=by
  have:tp.cells= #[.int k 0]:=by apply Array.ext';simpa using y1
  rw[this]
  refine List.ext_getElem (by simp[Builtin.zeroCells]) fun i J W=>?_
  simp[Builtin.zeroCells,Nat.mod_one]
 have gr:∀c∈[bz.cv k (List.replicate n 0)],c.len=n:=fun c aj=>by simp only[qc]at aj;subst aj;exact List.length_replicate
 generalize he:a.eval x=v at Y
 generalize a.eval=aI at*
 cases Y with
 |k1 _ K=>
  refine⟨w,.tuple #[],?_,fun _=>rfl,fun h=>absurd K h,rfl,gr,by rw[K]⟩
  simp only[execOp,resolve,de,e5,Result.andThen,invoke,builtin]
  simp[he,Builtin.clear_,run_underlying hu,Result.andThen]
 |aQ _ _ cap K l7=>
  rw[K]at g3
  obtain⟨MY,vs,gq,aW,cj,aE⟩:=g3
  have aG:=aG (by rw[K];simp)
  by_cases af:n=0
  ·subst af
   refine⟨w,.tuple #[],?_,fun h=>absurd (K.symm.trans h) (by simp),fun _=>⟨rfl,rfl,rfl,Nat.le_refl _,fun _ _ _=>rfl,aG⟩,rfl,gr,?_⟩
   ·simp only[execOp,resolve,de,e5,Result.andThen,invoke,builtin]
    simp[he,Builtin.clear_,run_underlying hu,Result.andThen]
   ·rw[K];exact⟨MY,vs,gq,aW,cj,rfl,gr,fun i j c hi=>absurd hi (Nat.not_lt_zero _)⟩
  ·have Bw:(Value.int k 0).oneCell'=true:=rfl
   have cy:=run_storeCells_at (P:=P) (V.aI l) 0 gq (List.replicate n (.int k 0)) 0 vs w aW (by rw[List.length_replicate];omega) fun u hu=>by rw[List.eq_of_mem_replicate hu];exact Bw
   refine⟨_,.tuple #[],?_,fun h=>absurd (K.symm.trans h) (by simp),fun _=>fb.setRow w _ ((vs.toList.take (0+0)++List.replicate n (Value.int k 0)++vs.toList.drop (0+0+(List.replicate n (Value.int k 0)).length)).toArray) aG,rfl,gr,?_⟩
   ·simp only[execOp,resolve,de,e5,Result.andThen,invoke,builtin]
    cases n with
    |zero=>exact absurd D af
    |succ n=>simp[he,Builtin.clear_,run_underlying hu,agu,rj,cy,Result.andThen]
   ·rw[K]
    refine⟨MY,_,gq,setRow_heap w _ _ _ _ _ aW,?_,rfl,gr,fun i j c hi aj=>?_⟩
    ·simp;omega
    ·match j with
     |0=>
      simp at aj;subst aj
      refine⟨.int k 0,?_,?_⟩
      ·simp[List.getElem?_append,hi]
      ·simp only[bz.at,cN,List.getElem?_replicate,if_pos hi,Option.getD_some];exact .v _
     |j+1=>simp at aj
abbrev Bf(kv:bZ->Value)(f:α->bg)(m:List (bZ×α))(e3:List Nat)(c:Nat):cO:=.rY (m.map fun p=>f p.2) (.Js (m.map fun p=>kv p.1) e3 c)
theorem c8.agv{T8:Code}{Q:Exit->ad->Prop}(ae:S.get (G l)=some (.U (hE kv f m)))(h:∀e3 c,c8 P ro E T8 ((G l,.U (Bf kv f m e3 c))::S) Q):c8 P ro E T8 S Q:=by
 have _:=‹DecidableEq bZ›
 exact iE (ι:=List Nat×Nat) (Φ:=fun _=>True) (B':=fun i=>Bf kv f m i.1 i.2) ae (fun V M w ⟨J,vs,lq,W,aH,aV,e3,c,xs,db,fc⟩=>⟨(e3,c),trivial,J,vs,lq,W,aH,aV,xs,db,fc⟩) fun i _=>h i.1 i.2
theorem bl.agw{e3:List Nat}{c:Nat}:bl (Bf kv f m e3 c) (hE kv f m):=by have _:=‹DecidableEq bZ›;exact fun V M w b ⟨J,vs,lq,W,aH,aV,xs,db,fc⟩=>⟨J,vs,lq,W,aH,aV,e3,c,xs,db,fc⟩
abbrev uZ(l:Nat)(e3:List Nat)(c:Nat)(dR:List Nat):cO:=.k2 [.mp l] (.Jt c (dR.map fun j=>e3.getD j 0) c)
theorem bI.agx{S':ad}{r:List Oper}{L:List cx}{k e:TypeId}{it il:Nat}{e3:List Nat}{c:Nat}(hu:P.underlying t=some (.map k e))(aX:cd S true x (.mp l))(ae:S.get (G l)=some (.U (Bf kv f m e3 c)))(b2:l≠it)
  (bf:h7 ⟨cQ ⟨some il,.range t x,ty,pos,a6,none⟩++[l].map G,S,fU [] it (uZ l e3 c []) il (.ao it 0),[it]⟩ S=true) (h:bI P ro ops r (S.after [] it (uZ l e3 c []) il (.ao it 0)) L S'):
  bI P ro ops (⟨some il,.range t x,ty,pos,a6,none⟩::r) S (⟨cQ ⟨some il,.range t x,ty,pos,a6,none⟩++[l].map G,S,fU [] it (uZ l e3 c []) il (.ao it 0),[it]⟩::L) S':=by
 have _:=‹DecidableEq bZ›
 refine tZ [] (wD D D D fun E V M a w h=>?_) bf h
 have Y:=h.ez x (by simp[Op.operands]) _ aX
 obtain⟨J,vs,lq,W,aH,aV,xs,rfl,hI⟩:=h.U l (by simp) _ ae
 generalize he:a.eval x=v at Y
 generalize a.eval=aI at*
 cases Y with
 |mp=>
  refine⟨w.alloc (.mapIter (some (V.aI l)) c #[] c),.pointer (some ⟨w.heap.size,0,none⟩),some 0,?_,fb.alloc w _,⟨by simp,[.map (some (V.aI l))],_,by rw[jK];exact sW w _,rfl,fun j p q Z bA=>?_,V.aI l,rfl,rfl⟩,?_⟩
  ·simp only[execOp,he]
   simp[Instr.range,run_underlying hu,getObj,newObj,Sem.run,W,Result.andThen]
  ·match j with
   |0=>
    simp at Z bA;subst Z;subst bA
    have:=bU.mp (V:=V.set it w.heap.size (some 0)) (M:=M) l
    rwa[(cu.kg V w.heap.size (some 0) b2).1]at this
   |j+1=>simp at Z
  ·have:=bU.ao (V:=V.set it w.heap.size (some 0)) (M:=M) it 0
   rwa[jK]at this
theorem Dt.entry{ks vs:List Value}{e3:List Nat}{c:Nat}{xs:Array MapEntry}(h:Dt ks vs e3 c xs):ks.length=xs.size/\vs.length=xs.size/\e3.length=xs.size/\∀(j:Nat) (e:MapEntry),xs[j]?=some e->ks[j]?=some e.key/\vs[j]?=some e.val/\e3[j]?=some e.born:=by
 refine⟨by rw[<-h.key];simp,by rw[<-h.val];simp,by rw[<-h.born];simp,fun j e he=>⟨?_,?_,?_⟩⟩
 ·rw[<-h.key];simp[he]
 ·rw[<-h.val];simp[he]
 ·rw[<-h.born];simp[he]
theorem agy[jI ro]{o:Oper}{it il:Nat}{dR e3:List Nat}{c:Nat}{a:Act}{w:World}(bJ:o.op= .next x false)(gM:o.dst=some il)(fY:o.guard=none)(gn:cd S true x (.ao it 0))(hi:S.get (G it)=some (.U (uZ l e3 c dR)))
  (ae:S.get (G l)=some (.U (Bf kv f m e3 c))) (u0:∀j∈dR,j<m.length) (aT:il<E.cg) (aE:ei E S a w) (Q:Exit->Act->World->Prop):
  lx P ro ops Q o (fun a w=>((∀j,j<m.length->j∈dR)/\ei E ((ab il,.aB (.bE [bk false]))::S) a w)\/
   ∃j p,m[j]?=some p/\j∉dR/\ei E ((ab il,.aB (.bE [bk true,.d (.v (kv p.1)),.d (f p.2)]))::(G it,.U (uZ l e3 c (dR++[j])))::S) a w) a w:=by
 have _:=‹DecidableEq bZ›
 obtain⟨V,M,aC,hw⟩:=aE
 have Y:bU V M (.ao it 0) (a.eval x):=(qw (rn:=cQ o) (S:=S) (aY:=S) (fun _ _=>rfl) (fun n af=>af) (fun l aa=>by cases aa) rfl aC hw:jc E S o [] true V M a w).ez x (by rw[bJ];simp[Op.operands]) _ gn
 obtain⟨k8,T9,agz,i1,i2,i3,r,kP,IU⟩:=hw.dn it _ hi
 subst kP
 have jB:V.aI l=r:=by
  have:=i3 0 (.mp l) (.map (some r)) D D
  cases this;rfl
 obtain⟨mz,vs,lq,W,aH,aV,xs,rfl,hI⟩:=hw.dn l _ ae
 obtain⟨FZ,z2,z3,z4⟩:=hI.entry
 have mb:m.length=xs.size:=by rw[<-FZ];simp
 have agA:∀e∈xs.toList,e.born<c:=fun e he=>hI.lt _ (by rw[<-hI.born];exact List.mem_map_of_mem he)
 subst IU
 rw[<-jB]at i1
 have MZ:∀(j:Nat) (e:MapEntry),xs[j]?=some e->e.born=e3.getD j 0:=fun j e he=>by rw[cN,(z4 j e he).2.2];rfl
 unfold lx
 rw[if_pos (by simp[Region.wanted,fY])]
 have h0:sR o.op=true:=by rw[bJ];rfl
 generalize hex:a.eval x=v at Y
 cases Y with
 |ao=>
  rcases run_next_at (P:=P) w o.type (V.aI it) (V.aI l) c c _ xs c i1 W agA (Nat.le_refl _)with⟨eE,eV⟩|⟨e,eE,gd,eV,hl⟩
  ·refine sS h0 (v:=.tuple #[.bool false]) (w':=w) (by simp only[execOp,bJ,hex,de,eV,Result.andThen];rfl) ?_
   rw[gM]
   refine .inl ⟨fun j az=>?_,?_⟩
   ·have pX:j<xs.size:=by omega
    have b2:¬(!((dR.map fun j=>e3.getD j 0).toArray.contains xs[j].born))=true:=fun aj=>by
     have:xs[j]∈(leftOf xs (dR.map fun j=>e3.getD j 0).toArray):=by
      unfold leftOf
      rw[Array.mem_filter]
      exact⟨Array.getElem_mem pX,aj⟩
     rw[Array.eq_empty_of_size_eq_zero eE]at this
     simp at this
    simp only[Bool.not_eq_true',Bool.not_eq_false,List.contains_toArray,List.contains_iff_mem,List.mem_map]at b2
    obtain⟨i,iK,bu⟩:=b2
    have jb:i<xs.size:=by have:=u0 i iK;omega
    rw[MZ j xs[j] (Array.getElem?_eq_getElem pX),cN,cN,dx (by omega),dx (by omega)]at bu
    have:=(List.getElem_inj hI.Gh).1 bu
    rw[<-this];exact iK
   ·exact ei.fj ⟨V,M,tX aC il (.bE [bk false]) (.tuple #[.bool false]) aT (.bE [bk false] [.bool false] D fun j p q Z bA=>by
     match j with
     |0=>simp at Z bA;subst Z;subst bA;exact .d _ _ (.v _)
     |j+1=>simp at Z),xY hw il _⟩ fun n c e=>(ra S _ _ n).symm.trans e
  ·have iL:e∈xs:=by
    unfold leftOf at eE
    have:=Array.mem_toList_iff.1 eE
    exact(Array.mem_filter.1 this).1
   have xz:(dR.map fun j=>e3.getD j 0).toArray.contains e.born=false:=by
    unfold leftOf at eE
    have:=(Array.mem_filter.1 (Array.mem_toList_iff.1 eE)).2
    simpa using this
   obtain⟨j,az,he⟩:=Array.mem_iff_getElem.1 iL
   have F0:xs[j]?=some e:=by rw[Array.getElem?_eq_getElem az,he]
   obtain⟨u1,C9,Da⟩:=z4 j e F0
   rw[fJ,Option.map_eq_some_iff]at u1
   obtain⟨p,Z,M0⟩:=u1
   have aG:V.aI it<w.heap.size:=hw.cE it ⟨⟨_,hi⟩,k8⟩
   have cy:fb w (ChangeMaps.setBlock gd (V.aI it) (.mapIter (some (V.aI l)) c ((dR.map fun j=>e3.getD j 0).toArray.push e.born) c)) (V.aI it):=by
    rcases eV with rfl|rfl
    ·exact fb.ER _ _ _ aG
    ·exact fb.drew (fb.ER w _ _ aG) _
   refine sS h0 (v:=.tuple #[.bool true,e.key,e.val]) (by simp only[execOp,bJ,hex,de,hl,Result.andThen];rfl) ?_
   rw[gM]
   refine .inr ⟨j,p,Z,fun Cf=>?_,?_⟩
   ·have:e.born∈dR.map fun j=>e3.getD j 0:=List.mem_map.2 ⟨j,Cf,(MZ j e F0).symm⟩
    simp only[List.contains_toArray]at xz
    rw[List.contains_iff_mem.2 this]at xz
    cases xz
   ·have agB:gC V M (ChangeMaps.setBlock gd (V.aI it) (.mapIter (some (V.aI l)) c ((dR.map fun j=>e3.getD j 0).toArray.push e.born) c)) it (uZ l e3 c (dR++[j])):=by
     refine⟨k8,[.map (some (V.aI l))],.mapIter (some (V.aI l)) c ((dR.map fun j=>e3.getD j 0).toArray.push e.born) c,?_,rfl,fun i p q Z bA=>?_,V.aI l,rfl,?_⟩
     ·have:V.aI it<gd.heap.size:=by rcases eV with rfl|rfl<;>exact aG
      simp[ChangeMaps.setBlock,wM,this]
     ·match i with
      |0=>simp at Z bA;subst Z;subst bA;exact .mp l
      |i+1=>simp at Z
     ·rw[MZ j e F0];simp
    have J:=tX (DU aC it (uZ l e3 c (dR++[j]))) il (.bE [bk true,.d (.v (kv p.1)),.d (f p.2)]) (.tuple #[.bool true,e.key,e.val]) aT (.bE _ [.bool true,e.key,e.val] D fun i u q hu bA=>by
     match i with
     |0=>simp at hu bA;subst hu;subst bA;exact .d _ _ (.v _)
     |1=>simp at hu bA;subst hu;subst bA;rw[M0];exact .d _ _ (.v _)
     |2=>
      simp at hu bA;subst hu;subst bA
      exact aV j (.d (f p.2)) e.val (by simp[Z]) C9
     |i+3=>simp at hu)
    have W:=xY (Gu hw hi k8 cy agB) il (.bE [bk true,.d (.v (kv p.1)),.d (f p.2)])
    refine ei.fj ⟨V,M,J,W⟩ fun n c e=>?_
    rw[pc,pc]
    rw[ej,ej]at e
    exact e
theorem c8.agC[jI ro]{id it il:Nat}{dR e3:List Nat}{c:Nat}{Q:Exit->ad->Prop}{r:List Oper}(EJ:ops.toList=⟨some il,.next x false,ty,pos,a6,none⟩::r)(gn:cd S true x (.ao it 0))(hi:S.get (G it)=some (.U (uZ l e3 c dR)))
  (ae:S.get (G l)=some (.U (Bf kv f m e3 c))) (u0:∀j∈dR,j<m.length) (aT:Nat.blt il E.cg=true)
  (bb:(∀j,j<m.length->j∈dR)->∃L S',bI P ro ops r ((ab il,.aB (.bE [bk false]))::S) L S'/\mu E L/\Q .normal S')
  (J:∀j p,m[j]?=some p->j∉dR->∃L S',bI P ro ops r ((ab il,.aB (.bE [bk true,.d (.v (kv p.1)),.d (f p.2)]))::(G it,.U (uZ l e3 c (dR++[j])))::S) L S'/\mu E L/\Q .normal S'):
  c8 P ro E (.region id ops false) S Q:=by
 intro a w aE
 obtain⟨jW,aX,bu,k3,du⟩:=aE.from
 refine wpIn_region ?_
 have gD:∀x,ro.gm x->∀a w,ei jW x.2 a w->rb ro E Q (.panic x.1) a w:=fun x Z a w aE=>.inr ⟨x,Z,rfl,du _ _ _ aE⟩
 have hlen:=congrArg List.length EJ
 simp only[ek]at hlen
 have dX:ops[0]?=some ⟨some il,.next x false,ty,pos,a6,none⟩:=by
  have:=congrArg (·[0]?) EJ
  simpa using this
 have sq:il<jW.cg:=by rw[bu];rwa[Nat.blt_eq]at aT
 have e:List.range ops.size=0::List.range' 1 r.length:=by
  rw[List.range_eq_range',<-Array.length_toList,hlen,List.range'_succ]
 rw[e,wpOpsIn_cons]
 unfold wpOpIn
 simp only[dX]
 refine wv (fun a w aE=>?_) (agy (E:=jW) D D D gn hi ae u0 sq k3 _)
 have gT:∀j,r[j]?=ops[1+j]?:=fun j=>by
  have:=congrArg (·[j+1]?) EJ
  simp only[List.getElem?_cons_succ]at this
  rw[<-this,vx,Nat.add_comm]
 rcases aE with⟨k9,aE⟩|⟨j,p,Z,az,aE⟩
 ·obtain⟨L,S',t,k,q⟩:=bb k9
  exact DA (Q:=rb ro E Q) t (k.mv aX bu) gD (fun a w aE=>.inl ⟨S',q,du _ _ _ aE⟩) 1 gT a w aE
 ·obtain⟨L,S',t,k,q⟩:=J j p Z az
  exact DA (Q:=rb ro E Q) t (k.mv aX bu) gD (fun a w aE=>.inl ⟨S',q,du _ _ _ aE⟩) 1 gT a w aE
theorem Pure.agD{it:Nat}{dR e3:List Nat}{c:Nat}{j:Nat}{p:bZ×α}{qm:Bool}(gn:cd S qm x (.ao it 0))(hi:S.get (G it)=some (.U (uZ l e3 c (dR++[j]))))(ae:S.get (G l)=some (.U (Bf kv f m e3 c)))(Z:m[j]?=some p):
  Pure P S [it,l] ⟨d,.entry x,ty,pos,a6,bB⟩ qm (.bE [.d (.v (kv p.1)),.d (f p.2)]):=by
 have _:=‹DecidableEq bZ›
 refine⟨rfl,fun E V M a w aM aj=>?_⟩
 have Y:=aM.ez x (by simp[Op.operands]) _ gn
 obtain⟨k8,T9,agz,i1,i2,i3,r,kP,IU⟩:=aM.U it (by simp) _ hi
 subst kP
 have jB:V.aI l=r:=by
  have:=i3 0 (.mp l) (.map (some r)) D D
  cases this;rfl
 obtain⟨mz,vs,lq,W,aH,aV,xs,rfl,hI⟩:=aM.U l (by simp) _ ae
 obtain⟨FZ,z2,z3,z4⟩:=hI.entry
 have mb:m.length=xs.size:=by rw[<-FZ];simp
 subst IU
 rw[<-jB]at i1
 have az:j<xs.size:=by have:=(List.getElem?_eq_some_iff.1 Z).1;omega
 have F0:xs[j]?=some xs[j]:=Array.getElem?_eq_getElem az
 obtain⟨u1,C9,Da⟩:=z4 j _ F0
 have M0:xs[j].key=kv p.1:=by rw[fJ,Z]at u1;injection u1 with u1;exact u1.symm
 have agE:e3.getD j 0=xs[j].born:=by rw[cN,Da];rfl
 have aX:((dR++[j]).map fun j=>e3.getD j 0).toArray=(dR.map fun j=>e3.getD j 0).toArray.push xs[j].born:=by rw[<-agE];simp
 rw[aX]at i1
 have jN:=run_entry_at (P:=P) w (V.aI it) (V.aI l) c _ xs c xs[j] i1 W (by simp) (by rw[hI.born];exact hI.Gh)
 generalize hex:a.eval x=v at Y
 generalize a.eval=aI at*
 cases Y with
 |ao=>
  refine⟨.tuple #[xs[j].key,xs[j].val],by simp only[execOp,hex,de,jN,Result.andThen];rfl,.bE _ [xs[j].key,xs[j].val] D fun i u q hu bA=>?_⟩
  match i with
  |0=>simp at hu bA;subst hu;subst bA;rw[M0];exact .d _ _ (.v _)
  |1=>
   simp at hu bA;subst hu;subst bA
   exact aV j (.d (f p.2)) _ (by simp[Z]) C9
  |i+2=>simp at hu
end
section
def qn(l:List (List Int))(q:Int×Int):List (List Int):=l.set q.1.toNat (q.2::(l.getD q.1.toNat default).dropLast)
def ll(ps:List (Int×Int))(l:List (List Int))(dR:List Nat):List (List Int):=dR.foldl (fun l j=>qn l (ps.getD j default)) l
theorem Ua(ps:List (Int×Int))(l:List (List Int))(dR:List Nat)(j:Nat):ll ps l (dR++[j])=qn (ll ps l dR) (ps.getD j default):=by simp[ll,List.foldl_append]
theorem F1(l:List (List Int))(q:Int×Int):(qn l q).length=l.length:=nH ..
theorem F2(ps:List (Int×Int)):∀(dR:List Nat) (l:List (List Int)),(ll ps l dR).length=l.length
 |[],l=>rfl
 |j::dR,l=>by
  show(ll ps (qn l (ps.getD j default)) dR).length=_
  rw[F2 ps dR,F1]
theorem Ub{l:List (List Int)}{q:Int×Int}{i:Nat}(h:i<l.length)(e:q.1.toNat=i):(qn l q).getD i default=q.2::(l.getD i default).dropLast:=by
 subst e
 simp[qn,cN,h]
theorem M1{l:List (List Int)}{q:Int×Int}{i:Nat}(e:q.1.toNat≠i):(qn l q).getD i default=l.getD i default:=by
 simp[qn,cN,List.getElem?_set_ne e]
section
variable {ps:List (Int×Int)}
structure xM(ps:List (Int×Int))(n:Nat):Prop where
 CZ:(ps.map Prod.fst).Nodup
 rg:∀q∈ps,0<=q.1/\q.1<n
theorem xM.e6{n:Nat}(h:xM ps n){j:Nat}(az:j<ps.length):0<=(ps.getD j default).1/\(ps.getD j default).1<n:=h.rg _ (by rw[cN,dx az];exact List.getElem_mem az)
theorem xM.vi{n:Nat}(h:xM ps n){i j:Nat}(hi:i<ps.length)(az:j<ps.length)(e:(ps.getD i default).1.toNat=(ps.getD j default).1.toNat):i=j:=by
 have J:=(h.e6 hi).1
 have W:=(h.e6 az).1
 have e:(ps.getD i default).1=(ps.getD j default).1:=by omega
 rw[cN,cN,dx hi,dx az]at e
 refine(List.getElem_inj (i:=i) (j:=j) (h₀:=by simpa using hi) (h₁:=by simpa using az) h.CZ).1 ?_
 simpa using e
theorem F3{l:List (List Int)}:∀{dR:List Nat} {l:List (List Int)} {i:Nat},(∀j∈dR,(ps.getD j default).1.toNat≠i)->(ll ps l dR).getD i default=l.getD i default
 |[],_,_,_=>rfl
 |j::dR,l,i,h=>by
  show(ll ps (qn l (ps.getD j default)) dR).getD i default=_
  rw[F3 (l:=l) fun k K=>h k (List.mem_cons_of_mem _ K),M1 (h j (List.mem_cons_self ..))]
theorem M3{n:Nat}(h:xM ps n):∀{dR:List Nat} {l:List (List Int)},l.length=n->dR.Nodup->(∀j∈dR,j<ps.length)->∀j∈dR,(ll ps l dR).getD (ps.getD j default).1.toNat default=(ps.getD j default).2::(l.getD (ps.getD j default).1.toNat default).dropLast
 |[],_,_,_,_,j,az=>nomatch az
 |k::dR,l,aa,af,u0,j,az=>by
  show(ll ps (qn l (ps.getD k default)) dR).getD _ default=_
  have K:=u0 k (List.mem_cons_self ..)
  rw[List.nodup_cons]at af
  rcases eb.1 az with rfl|az
  ·rw[F3 (l:=l) fun i hi e=>?_]
   ·exact Ub (by have:=h.e6 K;omega) D
   ·have:=h.vi (u0 i (List.mem_cons_of_mem _ hi)) K e
    subst this
    exact af.1 hi
  ·rw[M3 h (by rw[F1];exact aa) af.2 (fun i hi=>u0 i (List.mem_cons_of_mem _ hi)) j az,M1 fun e=>?_]
   have:=h.vi K (u0 j (List.mem_cons_of_mem _ az)) e
   subst this
   exact af.1 az
theorem agF{n:Nat}(h:xM ps n){l:List (List Int)}(aa:l.length=n){dR ks:List Nat}(az:dR.Nodup)(K:ks.Nodup)(pX:∀j∈dR,j<ps.length)(aw:∀j,j∈dR↔j∈ks):ll ps l dR=ll ps l ks:=by
 refine List.ext_getElem (by rw[F2,F2]) fun i J W=>?_
 have key:(ll ps l dR).getD i default=(ll ps l ks).getD i default:=by
  by_cases he:∃j∈dR,(ps.getD j default).1.toNat=i
  ·obtain⟨j,u0,rfl⟩:=he
   rw[M3 h aa az pX j u0,M3 h aa K (fun j az=>pX j ((aw j).2 az)) j ((aw j).1 u0)]
  ·have b2:∀j∈dR,(ps.getD j default).1.toNat≠i:=fun j az e=>he ⟨j,az,e⟩
   rw[F3 (l:=l) b2,F3 (l:=l) fun j az=>b2 j ((aw j).2 az)]
 rw[cN,cN,dx J,dx W]at key
 exact key
def q5(ps:List (Int×Int))(l:List (List Int)):List (List Int):=ps.foldl qn l
theorem agG(l:List (List Int)):ll ps l (List.range ps.length)=q5 ps l:=by
 have:∀n,n<=ps.length->ll ps l (List.range n)=(ps.take n).foldl qn l:=fun n=>by
  induction n with
  |zero=>intro _;rfl
  |succ n aJ=>
   intro af
   rw[List.range_succ,Ua,aJ (by omega),List.take_add_one,List.foldl_append,cN,dx (by omega)]
   rfl
 rw[this _ (Nat.le_refl _),List.take_length];rfl
end
theorem agH{ps:List (Int×Int)}{n:Nat}{a v:Int}(h:xM ps n)(bb:0<=a)(J:a<n):xM (dM ps a v) n:=by
 refine⟨?_,fun q bA=>(QF bA).elim (fun e=>e▸⟨bb,J⟩) (h.rg q)⟩
 have key:∀m:List (Int×Int),(m.map Prod.fst).Nodup->((dM m a v).map Prod.fst).Nodup:=fun m=>by
  induction m with
  |nil=>intro _;simp[dM]
  |cons p r aJ=>
   intro af
   rw[List.map_cons,List.nodup_cons]at af
   unfold dM
   split
   ·rename_i e
    rw[List.map_cons,List.nodup_cons]
    exact⟨by rw[<-e];exact af.1,af.2⟩
   ·rename_i e
    rw[List.map_cons,List.nodup_cons]
    refine⟨fun aw=>?_,aJ af.2⟩
    obtain⟨q,bA,IC⟩:=List.mem_map.1 aw
    rcases QF bA with rfl|bA
    ·exact e IC.symm
    ·exact af.1 (List.mem_map.2 ⟨q,bA,IC⟩)
 exact key ps h.CZ
end
structure Bg(p:aD)(r n:Int)(m:lL):Prop where
 n:(m.bO.length:Int)=n
 w:∀v∈m.bO,dw v
 g:(m.iH.length:Int)=r
 v:m.bV.length=p.bt.length
 p:xM m.gW p.a1.length
theorem o5(v:Int):dw (gX v):=by unfold gX fu;exact⟨by omega,by omega⟩
theorem agI{p:aD}{e:gw}{r n:Int}{m:lL}{op a:Int}(h:Bg p r n m)(J:0<=(fp p r op).1)(W:(fp p r op).2.2.1<=a)(aH:a<=(fp p r op).2.2.2)(aV:(fp p r op).1<=n):Bg p r (n+((fp p r op).2.1-(fp p r op).1)) (o2 p e m (op,a)):=by
 obtain⟨af,hw,aM,aK,Z⟩:=h
 obtain⟨bO,g,vs,ps,bQ⟩:=m
 dsimp only at af hw aM aK Z
 subst af
 obtain⟨xB,Be⟩:=MX J
 obtain⟨k,rfl⟩:∃n:Nat,op=(n:Int):=⟨op.toNat,by omega⟩
 match k with
 |0=>exact absurd xB (by decide)
 |1=>exact⟨by show(((gX _::bO:List Int).length:Nat):Int)=(((bO:List Int).length:Nat):Int)+(1-0);simp only[ek];omega,fun z bd=>(eb.1 bd).elim (fun e=>e▸o5 _) fun bd=>hw z (bd),aM,aK,Z⟩
 |2=>exact⟨by show(((gX _::bO:List Int).length:Nat):Int)=(((bO:List Int).length:Nat):Int)+(1-0);simp only[ek];omega,fun z bd=>(eb.1 bd).elim (fun e=>e▸o5 _) fun bd=>hw z (bd),aM,aK,Z⟩
 |3=>exact⟨by show(((gX _::bO:List Int).length:Nat):Int)=(((bO:List Int).length:Nat):Int)+(1-0);simp only[ek];omega,fun z bd=>(eb.1 bd).elim (fun e=>e▸o5 _) fun bd=>hw z (bd),aM,aK,Z⟩
 |4=>exact⟨by show(((gX _::bO:List Int).length:Nat):Int)=(((bO:List Int).length:Nat):Int)+(1-0);simp only[ek];omega,fun z bd=>(eb.1 bd).elim (fun e=>e▸o5 _) fun bd=>hw z (bd),aM,aK,Z⟩
 |5=>
  have aV:1<=bO.length:=Int.ofNat_le.1 aV
  match bO,aV,hw with
  |v::s,_,hw=>exact⟨by show(((s:List Int).length:Nat):Int)=(((v::s:List Int).length:Nat):Int)+(0-1);simp only[ek];omega,fun z bd=>hw z (List.mem_cons_of_mem _ (bd)),(by show((List.length (List.set g _ _):Nat):Int)=r;rw[nH];exact aM),aK,Z⟩
 |6=>
  have aV:1<=bO.length:=Int.ofNat_le.1 aV
  match bO,aV,hw with
  |v::s,_,hw=>exact⟨by show(((s:List Int).length:Nat):Int)=(((v::s:List Int).length:Nat):Int)+(0-1);simp only[ek];omega,fun z bd=>hw z (List.mem_cons_of_mem _ (bd)),aM,(by show List.length (List.set vs _ _)=_;rw[nH];exact aK),Z⟩
 |7=>
  have aV:1<=bO.length:=Int.ofNat_le.1 aV
  match bO,aV,hw with
  |v::s,_,hw=>exact⟨by show(((s:List Int).length:Nat):Int)=(((v::s:List Int).length:Nat):Int)+(0-1);simp only[ek];omega,fun z bd=>hw z (List.mem_cons_of_mem _ (bd)),aM,aK,agH Z W (by have aH:a<=(p.a1.length:Int)-1:=aH;omega)⟩
 |8=>
  have aV:1<=bO.length:=Int.ofNat_le.1 aV
  match bO,aV,hw with
  |v::s,_,hw=>exact⟨by show(((gX _::s:List Int).length:Nat):Int)=(((v::s:List Int).length:Nat):Int)+(1-1);simp only[ek];omega,fun z bd=>(eb.1 bd).elim (fun e=>e▸o5 _) fun bd=>hw z (List.mem_cons_of_mem _ (bd)),aM,aK,Z⟩
 |9=>
  have aV:1<=bO.length:=Int.ofNat_le.1 aV
  match bO,aV,hw with
  |v::s,_,hw=>exact⟨by show(((gX _::s:List Int).length:Nat):Int)=(((v::s:List Int).length:Nat):Int)+(1-1);simp only[ek];omega,fun z bd=>(eb.1 bd).elim (fun e=>e▸o5 _) fun bd=>hw z (List.mem_cons_of_mem _ (bd)),aM,aK,Z⟩
 |10=>
  have aV:1<=bO.length:=Int.ofNat_le.1 aV
  match bO,aV,hw with
  |v::s,_,hw=>exact⟨by show(((gX _::s:List Int).length:Nat):Int)=(((v::s:List Int).length:Nat):Int)+(1-1);simp only[ek];omega,fun z bd=>(eb.1 bd).elim (fun e=>e▸o5 _) fun bd=>hw z (List.mem_cons_of_mem _ (bd)),aM,aK,Z⟩
 |11=>
  have aV:1<=bO.length:=Int.ofNat_le.1 aV
  match bO,aV,hw with
  |v::s,_,hw=>exact⟨by show(((gX _::s:List Int).length:Nat):Int)=(((v::s:List Int).length:Nat):Int)+(1-1);simp only[ek];omega,fun z bd=>(eb.1 bd).elim (fun e=>e▸o5 _) fun bd=>hw z (List.mem_cons_of_mem _ (bd)),aM,aK,Z⟩
 |12=>
  have aV:1<=bO.length:=Int.ofNat_le.1 aV
  match bO,aV,hw with
  |v::s,_,hw=>exact⟨by show(((gX _::s:List Int).length:Nat):Int)=(((v::s:List Int).length:Nat):Int)+(1-1);simp only[ek];omega,fun z bd=>(eb.1 bd).elim (fun e=>e▸o5 _) fun bd=>hw z (List.mem_cons_of_mem _ (bd)),aM,aK,Z⟩
 |13=>
  have aV:2<=bO.length:=Int.ofNat_le.1 aV
  match bO,aV,hw with
  |v::w::s,_,hw=>exact⟨by show(((gX _::s:List Int).length:Nat):Int)=(((v::w::s:List Int).length:Nat):Int)+(1-2);simp only[ek];omega,fun z bd=>(eb.1 bd).elim (fun e=>e▸o5 _) fun bd=>hw z (List.mem_cons_of_mem _ (List.mem_cons_of_mem _ (bd))),aM,aK,Z⟩
 |14=>
  have aV:2<=bO.length:=Int.ofNat_le.1 aV
  match bO,aV,hw with
  |v::w::s,_,hw=>exact⟨by show(((gX _::s:List Int).length:Nat):Int)=(((v::w::s:List Int).length:Nat):Int)+(1-2);simp only[ek];omega,fun z bd=>(eb.1 bd).elim (fun e=>e▸o5 _) fun bd=>hw z (List.mem_cons_of_mem _ (List.mem_cons_of_mem _ (bd))),aM,aK,Z⟩
 |15=>
  have aV:1<=bO.length:=Int.ofNat_le.1 aV
  match bO,aV,hw with
  |v::s,_,hw=>exact⟨by show(((gX _::s:List Int).length:Nat):Int)=(((v::s:List Int).length:Nat):Int)+(1-1);simp only[ek];omega,fun z bd=>(eb.1 bd).elim (fun e=>e▸o5 _) fun bd=>hw z (List.mem_cons_of_mem _ (bd)),aM,aK,Z⟩
 |16=>
  have aV:1<=bO.length:=Int.ofNat_le.1 aV
  match bO,aV,hw with
  |v::s,_,hw=>exact⟨by show(((gX _::s:List Int).length:Nat):Int)=(((v::s:List Int).length:Nat):Int)+(1-1);simp only[ek];omega,fun z bd=>(eb.1 bd).elim (fun e=>e▸o5 _) fun bd=>hw z (List.mem_cons_of_mem _ (bd)),aM,aK,Z⟩
 |17=>
  have aV:2<=bO.length:=Int.ofNat_le.1 aV
  match bO,aV,hw with
  |v::w::s,_,hw=>exact⟨by show(((gX _::s:List Int).length:Nat):Int)=(((v::w::s:List Int).length:Nat):Int)+(1-2);simp only[ek];omega,fun z bd=>(eb.1 bd).elim (fun e=>e▸o5 _) fun bd=>hw z (List.mem_cons_of_mem _ (List.mem_cons_of_mem _ (bd))),aM,aK,Z⟩
 |18=>
  have aV:2<=bO.length:=Int.ofNat_le.1 aV
  match bO,aV,hw with
  |v::w::s,_,hw=>exact⟨by show(((gX _::s:List Int).length:Nat):Int)=(((v::w::s:List Int).length:Nat):Int)+(1-2);simp only[ek];omega,fun z bd=>(eb.1 bd).elim (fun e=>e▸o5 _) fun bd=>hw z (List.mem_cons_of_mem _ (List.mem_cons_of_mem _ (bd))),aM,aK,Z⟩
 |19=>
  have aV:2<=bO.length:=Int.ofNat_le.1 aV
  match bO,aV,hw with
  |v::w::s,_,hw=>exact⟨by show(((gX _::s:List Int).length:Nat):Int)=(((v::w::s:List Int).length:Nat):Int)+(1-2);simp only[ek];omega,fun z bd=>(eb.1 bd).elim (fun e=>e▸o5 _) fun bd=>hw z (List.mem_cons_of_mem _ (List.mem_cons_of_mem _ (bd))),aM,aK,Z⟩
 |20=>
  have aV:1<=bO.length:=Int.ofNat_le.1 aV
  match bO,aV,hw with
  |v::s,_,hw=>exact⟨by show(((gX _::s:List Int).length:Nat):Int)=(((v::s:List Int).length:Nat):Int)+(1-1);simp only[ek];omega,fun z bd=>(eb.1 bd).elim (fun e=>e▸o5 _) fun bd=>hw z (List.mem_cons_of_mem _ (bd)),aM,aK,Z⟩
 |21=>
  have aV:4<=bO.length:=Int.ofNat_le.1 aV
  match bO,aV,hw with
  |v::w::y::x::s,_,hw=>exact⟨by show(((gX _::s:List Int).length:Nat):Int)=(((v::w::y::x::s:List Int).length:Nat):Int)+(1-4);simp only[ek];omega,fun z bd=>(eb.1 bd).elim (fun e=>e▸o5 _) fun bd=>hw z (List.mem_cons_of_mem _ (List.mem_cons_of_mem _ (List.mem_cons_of_mem _ (List.mem_cons_of_mem _ (bd))))),aM,aK,Z⟩
 |22=>
  have aV:1<=bO.length:=Int.ofNat_le.1 aV
  match bO,aV,hw with
  |v::s,_,hw=>exact⟨by show(((s:List Int).length:Nat):Int)=(((v::s:List Int).length:Nat):Int)+(0-1);simp only[ek];omega,fun z bd=>hw z (List.mem_cons_of_mem _ (bd)),aM,aK,Z⟩
 |k+23=>exact absurd Be (by omega)
def kM(p:aD)(e:gw)(m:lL)(c:dC):Nat->lL
 |0=>m
 |i+1=>o2 p e (kM p e m c i) (c.getD i default)
theorem IZ{p:aD}{c:dC}{r:Int}{e:gw}{m:lL}(gg:tN p c r)(he:C8 p e)(aw:Bg p r 0 m):∀i,i<=c.length->Bg p r (oq p r c i) (kM p e m c i)
 |0,_=>aw
 |i+1,hi=>by
  obtain⟨J,W,aH,aV,db⟩:=gg.qs i (by omega)
  exact agI (IZ gg he aw i (by omega)) J W aH aV
theorem agJ{n:Nat}{dR:List Nat}{j:Nat}(h:dR.Nodup)(aa:∀i∈dR,i<n)(az:j<n)(af:j∉dR):dR.length<n:=by
 have J:(j::dR).Nodup:=List.nodup_cons.2 ⟨af,h⟩
 have W:=List.Nodup.length_le_of_subset (l₂:=List.range n) J fun i hi=>List.mem_range.2 ((eb.1 hi).elim (fun e=>e▸az) (aa i))
 simp only[ek,List.length_range]at W
 omega
theorem agK{p:aD}{c:dC}{r:Int}{e:gw}(gg:tN p c r)(he:C8 p e)(g vs:List Int)(ps:List (Int×Int))(bQ:Int)(aM:(g.length:Int)=r)(aK:vs.length=p.bt.length):bw prog 106 [.ao 20 0] (gk p c r e [] g vs ps bQ 21) (.bE []) (gk p c r {e with bF:=q5 (kM p e ⟨[],List.replicate g.length 0,vs,[],bQ⟩ c c.length).gW e.bF} (kM p e ⟨[],List.replicate g.length 0,vs,[],bQ⟩ c c.length).bO (kM p e ⟨[],List.replicate g.length 0,vs,[],bQ⟩ c c.length).iH (kM p e ⟨[],List.replicate g.length 0,vs,[],bQ⟩ c c.length).bV (kM p e ⟨[],List.replicate g.length 0,vs,[],bQ⟩ c c.length).gW (kM p e ⟨[],List.replicate g.length 0,vs,[],bQ⟩ c c.length).bQ 26) [20,22,32,33,25]:=by
 have nU:Bg p r 0 ⟨[],List.replicate g.length 0,vs,[],bQ⟩:=⟨rfl,fun z bd=>(nomatch bd),by rw[List.length_replicate];exact aM,aK,⟨.nil,fun q bA=>nomatch bA⟩⟩
 generalize aw:(⟨[],List.replicate g.length 0,vs,[],bQ⟩:lL)=m0 at nU⊢
 refine cB [] func106 D D fun E K af=>?_
 refine C7 ?_
 refine aO (O 4 D<|bI.agt (k:=.i64) underlying22 iC (I D) D<|ar)<|aO (O 4 D<|bI.ags (kv:=fe) (f:=av) underlying77 (I D) D<|ar)<|aO (cY (jr .nil) agr (au D)<|cm 2 KF D<|cL KE D D D D<|ar)<|al<|al<|c1 (b1.Wo (l:=2) (ds:=FY) (n:=23) (col:=.ds FY) D D D)<|fS 7 D<|bX<|eP (σ:=Nat) [(ab 0,_),(ab 2,_),(ab 21,_),(ab 22,_),(G 33,_),(G 2,_)] (fun i=>[(ab 23,.aB (aF .i64 (i:Int))),(G 20,.U (ht p c r (kM p e m0 c i).bO.length 21 (kM p e m0 c i).iH.length (kM p e m0 c i).bV.length e.bF.length e (kM p e m0 c i).bQ)),(G 21,.U (.bG 1 (kM p e m0 c i).bO.length [.cv .i64 (tO (kM p e m0 c i).bO)])),(G 22,.U (.bG 1 (kM p e m0 c i).iH.length [.cv .i64 (kM p e m0 c i).iH])),(G 32,.U (.bG 1 (kM p e m0 c i).bV.length [.cv .i64 (kM p e m0 c i).bV])),(G 25,.U (hE fe av (kM p e m0 c i).gW))]) (fun i=>i<=c.length) (fun i=>c.length-i) 0 (aZ D<|aZ (by rw[<-aw];show some (dz.U (ht p c r 0 21 g.length vs.length e.bF.length e bQ))=some (dz.U (ht p c r 0 21 (List.replicate g.length 0).length vs.length e.bF.length e bQ));rw[List.length_replicate])<|aZ (by rw[<-aw];rfl)<|aZ (by rw[<-aw];show some (dz.U (.bG 1 g.length [.cv .i64 (List.replicate g.length 0)]))=some (dz.U (.bG 1 (List.replicate g.length 0).length [.cv .i64 (List.replicate g.length 0)]));rw[List.length_replicate])<|aZ (by rw[<-aw];rfl)<|aZ (by rw[<-aw];rfl)<|aU) (da D D D D<|ck D D<|aU) (Nat.zero_le _) fun i hi=>?_
 refine aL 1 D<|al<|a7 D (fun aP=>?_) fun aP=>?_
 ·have aG:i<c.length:=eJ aP
  have hO:=gg.oM.c
  obtain⟨eE,eV,hl,je,mN⟩:=gg.qs i aG
  obtain⟨gd,jO,pw,uI,F4⟩:=IZ gg he nU i (Nat.le_of_lt aG)
  have oU:=gg.bO i (Nat.le_of_lt aG)
  obtain⟨xB,Be⟩:=MX eE
  exact bx<|al<|bX<|aO (ag ((eN OX D D).bK (y:=.cc [av (c.getD i default).1,av (c.getD i default).2]) D)<|O 1 D<|cm 4 G3 D<|cL Kz D D D D<|ar)<|eo (O 2 D<|ag (.N7 XX (I D) (I D) fun _=>⟨by omega,by omega⟩)<|cH [_] ((Pure.pU Pr (I D) D D D fun _=>by omega).bK (y:=.d (.v (.func (.func (IY (c.getD i default).1.toNat)) #[] #[]))) (by exact congrArg ai.d (ago _ (by omega) (by omega))))<|O 3 D<|ct [26] [G 20,G 21,G 22,G 32,G 33,G 25] (wF (I D) (.cons (I D) (.cons (I D) .nil))) (agp gg.oM he (kM p e m0 c i).bO (kM p e m0 c i).iH (kM p e m0 c i).bV (kM p e m0 c i).gW (kM p e m0 c i).bQ (by omega) jO pw uI (c.getD i default).1 (c.getD i default).2 eE eV hl (by omega)) (agn _ (by omega) (by omega)) (.cons D (.cons D (.cons D (.cons D (.cons D (.cons D (.nil))))))) D D<|ar)<|gI 26 21 D<|bm (cp D D D<|aN 1 D)<|⟨i+1,aG,fD (by assumption),aZ (ec (by omega))<|da D D D D<|aZ D<|aU,da D D D D<|ck D D<|aU⟩
 obtain rfl:i=c.length:=by have:=dj aP;omega
 obtain⟨gd,jO,pw,uI,F4⟩:=IZ gg he nU c.length (Nat.le_refl _)
 generalize ajJ:kM p e m0 c c.length=kZ at gd jO pw uI F4⊢
 refine dW<|al<|c8.agv (l:=25) D fun e3 cD=>?_
 refine bm (O 4 D<|bI.agx (it:=40) underlying77 (I D) D (by decide) D<|ar)<|bX<|eP (σ:=List Nat) [(ab 0,_),(ab 40,_),(G 20,_),(G 21,_),(G 22,_),(G 32,_),(G 25,_)] (fun dR=>[(G 40,.U (uZ 25 e3 cD dR)),(G 33,.U (.bG 1 (ll kZ.gW e.bF dR).length [.ds ((ll kZ.gW e.bF dR).map ch)]))]) (fun dR=>dR.Nodup/\(∀j∈dR,j<kZ.gW.length)) (fun dR=>kZ.gW.length-dR.length) [] (ck D D<|aU) (da D D D D<|ck D D<|aZ D<|aU) ⟨.nil,fun j az=>nomatch az⟩ fun dR kC=>?_
 refine al<|c8.agC (l:=25) (it:=40) (m:=kZ.gW) (kv:=fe) (f:=av) (dR:=dR) (e3:=e3) (c:=cD) D (I D) D D kC.2 (by rw[af];rfl) (fun k9=>?_) fun j q bA az=>?_
 ·apply ju
  ·exact O 1 D<|ar
  ·exact bR
  refine al<|a7 D (fun bq=>?_) fun bq=>?_
  ·cases bq
  have kj:(ll kZ.gW e.bF dR)=q5 kZ.gW e.bF:=by
    rw[<-agG]
    exact agF F4 he.bF kC.1 List.nodup_range kC.2 fun j=>⟨fun h=>List.mem_range.2 (kC.2 j h),fun h=>k9 j (List.mem_range.1 h)⟩
  have oC:(q5 kZ.gW e.bF).length=e.bF.length:=by rw[<-kj,F2]
  rw[kj]
  refine dW<|⟨_,b1.comp (b1.yB (l:=25) D bl.agw) (b1.swap 21 26 (by rw[K];decide) (by rw[K];decide) D),?_⟩
  exact⟨.inl D,⟨_,(.nil),rfl⟩,cU (.cons (by show _=some (dz.U (ht p c r kZ.bO.length 26 kZ.iH.length kZ.bV.length (q5 kZ.gW e.bF).length _ kZ.bQ));rw[oC];rfl) (.cons D (.cons D (.cons D (.cons D (.cons D (.nil)))))))⟩
 apply ju
 ·exact O 1 D<|ar
 ·exact bR
 refine al<|a7 D (fun b3=>?_) fun b3=>?_
 ·have u2:j<kZ.gW.length:=(List.getElem?_eq_some_iff.1 bA).1
  have M4:kZ.gW.getD j default=q:=by rw[cN,bA];rfl
  have agL:=F4.e6 u2
  rw[M4]at agL
  have qL:=F2 kZ.gW dR e.bF
  have M5:=he.bF
  have jB:((ll kZ.gW e.bF dR).getD q.1.toNat default).length=(e.bF.getD q.1.toNat default).length:=by
    rw[F3 (l:=e.bF) fun i hi h=>az (by have:=F4.vi (kC.2 i hi) u2 (by rw[M4];exact h);exact this▸hi)]
  have cj:=gg.oM.l q.1.toNat (by omega)
  have BG:=he.lY q.1.toNat (by omega)
  have uw:bg.cK 1 (1+(((((ll kZ.gW e.bF dR).getD q.1.toNat default).length:Int)-1).toNat-0)) (fun i=>[av ((q.2::((ll kZ.gW e.bF dR).getD q.1.toNat default).dropLast).getD i default)])=ch (q.2::((ll kZ.gW e.bF dR).getD q.1.toNat default).dropLast):=by
    show bg.cK 1 _ _=bg.cK 1 (q.2::((ll kZ.gW e.bF dR).getD q.1.toNat default).dropLast).length _
    congr 1
    simp
    omega
  exact bx<|bX<|aO (cH [_,_] (.agD (m:=kZ.gW) (kv:=fe) (f:=av) (I D) D D bA)<|aN 4 D)<|aO (O 6 D<|ag (.mx pr (I D) (I D) fun _=>⟨by omega,by omega⟩)<|cH [_] ((Pure.pU km (I D) D D D fun _=>by omega).bK (y:=.d (ch ((ll kZ.gW e.bF dR).getD q.1.toNat default))) (by exact congrArg ai.d (T5 (by omega))))<|aN 1 D)<|eo (O 7 D<|gN 61 [] iQ iC D (by decide) (by decide) (ba D D D (.nil _ _)) D D D<|O 3 D<|cp D D D<|ag (.rq iQ (I D) (.lv _) (.bK _ (I D) fun _=>by omega) fun _=>⟨by omega,by omega⟩)<|hA 67 [G 61] p0 p1 (by decide) (.aQ (I D) D) (.cK (cs:=[.cv .i64 ((ll kZ.gW e.bF dR).getD q.1.toNat default).dropLast]) (I D) D (by simp[bz.len]) fun i hi=>TD (by omega)) (bz.hT D) (hB D) (by omega) (by omega) D D<|ag (.mx pr (I D) (I D) fun _=>⟨by omega,by omega⟩)<|bI.TC (g:=fun i=>[av ((q.2::((ll kZ.gW e.bF dR).getD q.1.toNat default).dropLast).getD i default)]) D D (fun i hi=>rfl) km (I D) D D D D (by decide) (by simp[ai.fk]) rfl (by omega)<|ar)<|⟨dR++[j],⟨List.nodup_append.2 ⟨kC.1,by simp,fun a aC b ae=>by simp at ae;subst ae;exact fun e=>az (e▸aC)⟩,fun z bd=>(hy.1 bd).elim (kC.2 z) fun e=>by simp at e;subst e;exact u2⟩,by show kZ.gW.length-(dR++[j]).length<kZ.gW.length-dR.length;have:=agJ kC.1 kC.2 u2 az;rw[ef,np];omega,aZ D<|aZ (by rw[Ua,M4];simp only[qn,nH,List.map_set];rw[<-uw];rfl)<|aU,da D D D D<|ck D D<|aZ D<|aU⟩
 cases b3
abbrev nJ(p:aD)(c:dC)(r:Int)(e:gw)(vs:List Int)(bQ:Int):lL:=kM p e ⟨[],List.replicate r.toNat 0,vs,[],bQ⟩ c c.length
theorem M6{p:aD}{c:dC}{r:Int}{e:gw}(gg:tN p c r)(he:C8 p e)(vs:List Int)(bQ:Int)(aK:vs.length=p.bt.length):Bg p r 0 (nJ p c r e vs bQ):=by
 have bb:Bg p r 0 ⟨[],List.replicate r.toNat 0,vs,[],bQ⟩:=⟨rfl,fun z bd=>(nomatch bd),by have:=gg.oM.r;show((List.length (List.replicate r.toNat (0:Int)):Nat):Int)=r;rw[List.length_replicate];omega,aK,⟨.nil,fun q bA=>nomatch bA⟩⟩
 have:=IZ gg he bb c.length (Nat.le_refl _)
 rwa[gg.lF]at this
theorem agM{p:aD}{c:dC}{r:Int}{e:gw}(gg:tN p c r)(he:C8 p e)(g vs:List Int)(ps:List (Int×Int))(bQ:Int)(aM:(g.length:Int)=r)(aK:vs.length=p.bt.length):
  bw prog 106 [.ao 20 0] (gk p c r e [] g vs ps bQ 21) (.bE []) (gk p c r {e with bF:=q5 (nJ p c r e vs bQ).gW e.bF} [] (nJ p c r e vs bQ).iH (nJ p c r e vs bQ).bV (nJ p c r e vs bQ).gW (nJ p c r e vs bQ).bQ 26) [20,22,32,33,25]:=by
 have h:=agK gg he g vs ps bQ aM aK
 have aw:=(M6 gg he vs bQ aK).n
 have agN:g.length=r.toNat:=by omega
 rw[agN]at h
 have es:(nJ p c r e vs bQ).bO=[]:=List.eq_nil_of_length_eq_zero (by omega)
 rw[es]at h
 exact h
abbrev q6(bD:List (List Int))(ay ax:List Int)(k:Nat)(s:fa):gw:=⟨bD.getD k default,ay.drop k,ax.drop k,s.bF⟩
def gJ(p:aD)(c:dC)(r:Int)(bD:List (List Int))(ay ax:List Int)(q:fa×Int)(k:Nat):fa×Int:=
 (⟨(nJ p c r (q6 bD ay ax k q.1) q.1.bV q.2).bV,q5 (nJ p c r (q6 bD ay ax k q.1) q.1.bV q.2).gW q.1.bF⟩,(nJ p c r (q6 bD ay ax k q.1) q.1.bV q.2).bQ)
def gx(p:aD)(c:dC)(r:Int)(bD:List (List Int))(ay ax:List Int)(s:fa):Nat->(fa×Int)×List Int
 |0=>((s,0),[])
 |k+1=>(gJ p c r bD ay ax (gx p c r bD ay ax s k).1 k,(gx p c r bD ay ax s k).2++[(gJ p c r bD ay ax (gx p c r bD ay ax s k).1 k).2])
structure zk(p:aD)(s:fa):Prop where
 v:s.bV.length=p.bt.length
 n:s.bF.length=p.a1.length
 l:∀i:Nat,i<p.a1.length->((s.bF.getD i default).length:Int)=(p.a1.getD i default).size
structure Bh(p:aD)(bD:List (List Int))(ay ax:List Int)(n:Nat):Prop where
 len:bD.length=n
 bj:∀k,k<n->(bD.getD k default).length=p.params.length
 ay:(ay.length:Int)=n+p.cR
 ax:(ax.length:Int)=n+p.cR
 n2:0<=p.cR
theorem agO{ps:List (Int×Int)}:∀{l:List (List Int)},(∀i,i<l.length->1<=(l.getD i default).length)->(q5 ps l).length=l.length/\∀i,i<l.length->((q5 ps l).getD i default).length=(l.getD i default).length:=by
 induction ps with
 |nil=>intro l _;exact⟨rfl,fun _ _=>rfl⟩
 |cons q ps aJ=>
  intro l aa
  have J:∀i,i<l.length->((qn l q).getD i default).length=(l.getD i default).length:=fun i hi=>by
   by_cases e:q.1.toNat=i
   ·rw[Ub hi e,ek,List.length_dropLast];have:=aa i hi;omega
   ·rw[M1 e]
  obtain⟨i1,i2⟩:=aJ (l:=qn l q) fun i hi=>by rw[F1]at hi;rw[J i hi];exact aa i hi
  rw[F1]at i1
  exact⟨i1,fun i hi=>by rw[show q5 (q::ps) l=q5 ps (qn l q)from rfl,i2 i (by rw[F1];exact hi),J i hi]⟩
theorem M7{p:aD}{bD:List (List Int)}{ay ax:List Int}{n k:Nat}{s:fa}(dk:Bh p bD ay ax n)(an:zk p s)(K:k<n):C8 p (q6 bD ay ax k s):=
 ⟨dk.bj k K,dk.n2,by have:=dk.ay;show p.cR<((ay.drop k).length:Int);rw[h1];omega,by have:=dk.ax;show p.cR<((ax.drop k).length:Int);rw[h1];omega,an.n,an.l⟩
theorem agP{p:aD}{c:dC}{r:Int}{bD:List (List Int)}{ay ax:List Int}{n k:Nat}(gg:tN p c r)(dk:Bh p bD ay ax n)(K:k<n)(q:fa×Int)(an:zk p q.1):zk p (gJ p c r bD ay ax q k).1:=by
 have aw:=M6 gg (M7 dk an K) q.1.bV q.2 an.v
 have aa:∀i,i<q.1.bF.length->1<=(q.1.bF.getD i default).length:=fun i hi=>by
  rw[an.n]at hi
  have:=an.l i hi
  have:=(gg.oM.l i hi).2.1
  omega
 obtain⟨fy,e7⟩:=agO (ps:=(nJ p c r (q6 bD ay ax k q.1) q.1.bV q.2).gW) aa
 exact⟨aw.v,fy.trans an.n,fun i hi=>by rw[<-an.l i hi];exact congrArg Nat.cast (e7 i (by rw[an.n];exact hi))⟩
theorem M8{p:aD}{c:dC}{r:Int}{bD:List (List Int)}{ay ax:List Int}{n:Nat}{s:fa}(gg:tN p c r)(dk:Bh p bD ay ax n)(an:zk p s):∀k,k<=n->zk p (gx p c r bD ay ax s k).1.1/\(gx p c r bD ay ax s k).2.length=k
 |0,_=>⟨an,rfl⟩
 |k+1,K=>by
  obtain⟨J,W⟩:=M8 gg dk an k (by omega)
  exact⟨agP gg dk K _ J,by rw[gx,ef,W];rfl⟩
theorem Uc(xs:List Int)(k:Nat):ai.d (.cK 1 (xs.length-k) fun i=>[av (xs.getD (k+i) default)])= .d (ch (xs.drop k)):=by
 show _=ai.d (.cK 1 (xs.drop k).length fun i=>[av ((xs.drop k).getD i default)])
 rw[h1]
 congr 2
 funext i
 simp[cN]
abbrev I0(ac fE:Code):sL:=⟨.ready,none,#[90],ac,fE,101,fun _=>True⟩
abbrev Db:List (Nat×ai):=[(14,.ao 14 0)]
def lF(p:aD)(c:dC)(r:Int)(bD:List (List Int))(ay ax:List Int)(s:fa)(g0:List Int)(jg:List (Int×Int))(e0:gw):Nat->List Int×List (Int×Int)×gw
 |0=>(g0,jg,e0)
 |i+1=>((nJ p c r (q6 bD ay ax i (gx p c r bD ay ax s i).1.1) (gx p c r bD ay ax s i).1.1.bV (gx p c r bD ay ax s i).1.2).iH,(nJ p c r (q6 bD ay ax i (gx p c r bD ay ax s i).1.1) (gx p c r bD ay ax s i).1.1.bV (gx p c r bD ay ax s i).1.2).gW,{(q6 bD ay ax i (gx p c r bD ay ax s i).1.1)with bF:=q5 (nJ p c r (q6 bD ay ax i (gx p c r bD ay ax s i).1.1) (gx p c r bD ay ax s i).1.1.bV (gx p c r bD ay ax s i).1.2).gW (gx p c r bD ay ax s i).1.1.bF})
theorem Ud{p:aD}{c:dC}{r:Int}{bD:List (List Int)}{ay ax:List Int}{n:Nat}{s:fa}{g0:List Int}{jg:List (Int×Int)}{e0:gw}(gg:tN p c r)(dk:Bh p bD ay ax n)(an:zk p s)(aM:(g0.length:Int)=r)(he:e0.bF=s.bF):∀i,i<=n->((lF p c r bD ay ax s g0 jg e0 i).1.length:Int)=r/\(lF p c r bD ay ax s g0 jg e0 i).2.2.bF=(gx p c r bD ay ax s i).1.1.bF
 |0,_=>⟨aM,he⟩
 |i+1,hi=>by
  obtain⟨J,W⟩:=M8 gg dk an i (by omega)
  exact⟨(M6 gg (M7 dk J (by omega)) (gx p c r bD ay ax s i).1.1.bV (gx p c r bD ay ax s i).1.2 J.v).g,rfl⟩
theorem agQ{p:aD}{c:dC}{r:Int}(gg:tN p c r){bD:List (List Int)}{ay ax:List Int}{n:Nat}(dk:Bh p bD ay ax n)(lV:n<=65536){s:fa}(A0:zk p s){ac fE:Code}(qh:∀(xs:List Int) (v:Int),xs.length<n->Es prog 70 [aF .i64 v] [(G 70,.U (.eh (I0 ac fE) Db)),(G 14,.U (.cells [.aQ 60 xs.length])),(G 60,.U (.bG 1 xs.length [.cv .i64 xs]))] (bk true) [(G 70,.U (.eh (I0 ac fE) Db)),(G 14,.U (.cells [.aQ 60 (xs++[v]).length])),(G 60,.U (.bG 1 (xs++[v]).length [.cv .i64 (xs++[v])]))] [70,14])(g0:List Int)(jg:List (Int×Int))(e0:gw)(Bi:(g0.length:Int)=r)(agR:e0.bF=s.bF):bw prog 105 [.iI 70,.cc [av n],.cc [nI bD],.cc [ch ay],.cc [ch ax],.ao 5 0] ((G 70,.U (.eh (I0 ac fE) Db))::(G 5,.U (.cells [.ao 20 0]))::[(G 20,.U (ht p c r 0 21 (g0,jg,e0).1.length ((s,(0:Int)),([]:List Int)).1.1.bV.length (g0,jg,e0).2.2.bF.length (g0,jg,e0).2.2 ((s,(0:Int)),([]:List Int)).1.2)),(G 21,.U (.bG 1 0 [.cv .i64 []])),(G 22,.U (.bG 1 (g0,jg,e0).1.length [.cv .i64 (g0,jg,e0).1])),(G 32,.U (.bG 1 ((s,(0:Int)),([]:List Int)).1.1.bV.length [.cv .i64 ((s,(0:Int)),([]:List Int)).1.1.bV])),(G 33,.U (.bG 1 (g0,jg,e0).2.2.bF.length [.ds ((g0,jg,e0).2.2.bF.map ch)])),(G 25,.U (hE fe av (g0,jg,e0).2.1)),(G 14,.U (.cells [.aQ 60 ((s,(0:Int)),([]:List Int)).2.length])),(G 60,.U (.bG 1 ((s,(0:Int)),([]:List Int)).2.length [.cv .i64 ((s,(0:Int)),([]:List Int)).2]))]) (.bE []) ((G 70,.U (.eh (I0 ac fE) Db))::(G 5,.U (.cells [.ao 20 0]))::[(G 20,.U (ht p c r 0 21 (lF p c r bD ay ax s g0 jg e0 n).1.length (gx p c r bD ay ax s n).1.1.bV.length (lF p c r bD ay ax s g0 jg e0 n).2.2.bF.length (lF p c r bD ay ax s g0 jg e0 n).2.2 (gx p c r bD ay ax s n).1.2)),(G 21,.U (.bG 1 0 [.cv .i64 []])),(G 22,.U (.bG 1 (lF p c r bD ay ax s g0 jg e0 n).1.length [.cv .i64 (lF p c r bD ay ax s g0 jg e0 n).1])),(G 32,.U (.bG 1 (gx p c r bD ay ax s n).1.1.bV.length [.cv .i64 (gx p c r bD ay ax s n).1.1.bV])),(G 33,.U (.bG 1 (lF p c r bD ay ax s g0 jg e0 n).2.2.bF.length [.ds ((lF p c r bD ay ax s g0 jg e0 n).2.2.bF.map ch)])),(G 25,.U (hE fe av (lF p c r bD ay ax s g0 jg e0 n).2.1)),(G 14,.U (.cells [.aQ 60 (gx p c r bD ay ax s n).2.length])),(G 60,.U (.bG 1 (gx p c r bD ay ax s n).2.length [.cv .i64 (gx p c r bD ay ax s n).2]))]) [70,5,20,22,32,33,25,14]:=by
 refine cB [] func105 D D fun E K af=>?_
 refine aL 2 D<|bX<|eP (σ:=Nat) [(ab 0,_),(ab 2,_),(ab 3,_),(ab 4,_),(ab 5,_),(ab 8,_),(G 70,_),(G 5,_)] (fun i=>[(ab 9,.aB (aF .i64 (i:Int))),(G 20,.U (ht p c r 0 21 (lF p c r bD ay ax s g0 jg e0 i).1.length (gx p c r bD ay ax s i).1.1.bV.length (lF p c r bD ay ax s g0 jg e0 i).2.2.bF.length (lF p c r bD ay ax s g0 jg e0 i).2.2 (gx p c r bD ay ax s i).1.2)),(G 21,.U (.bG 1 0 [.cv .i64 []])),(G 22,.U (.bG 1 (lF p c r bD ay ax s g0 jg e0 i).1.length [.cv .i64 (lF p c r bD ay ax s g0 jg e0 i).1])),(G 32,.U (.bG 1 (gx p c r bD ay ax s i).1.1.bV.length [.cv .i64 (gx p c r bD ay ax s i).1.1.bV])),(G 33,.U (.bG 1 (lF p c r bD ay ax s g0 jg e0 i).2.2.bF.length [.ds ((lF p c r bD ay ax s g0 jg e0 i).2.2.bF.map ch)])),(G 25,.U (hE fe av (lF p c r bD ay ax s g0 jg e0 i).2.1)),(G 14,.U (.cells [.aQ 60 (gx p c r bD ay ax s i).2.length])),(G 60,.U (.bG 1 (gx p c r bD ay ax s i).2.length [.cv .i64 (gx p c r bD ay ax s i).2]))]) (fun i=>i<=n) (fun i=>n-i) 0 (fs D D D D D D D D<|aZ D<|aU) (fs D D D D D D D D<|aU) (Nat.zero_le _) fun i hi=>?_
 refine aL 1 D<|al<|a7 D (fun aP=>?_) fun aP=>?_
 ·have aG:i<n:=by have:=cJ aP;omega
  obtain⟨t1,t2⟩:=M8 gg dk A0 i (Nat.le_of_lt aG)
  obtain⟨f1,f2⟩:=Ud (g0:=g0) (jg:=jg) (e0:=e0) gg dk A0 Bi agR i (Nat.le_of_lt aG)
  rw[f2]
  have TS:=M7 dk t1 aG
  have ajK:=dk.len
  have Ue:=dk.ay
  have hc:=dk.ax
  have tK:=dk.n2
  refine bx<|al<|bX<|aL 2 D<|ft (O 5 D<|ag ((eN pr D D).bK (y:=.cc [ch (bD.getD i default)]) D)<|O 3 D<|ag ((Pure.rq iQ (I D) (.bK _ (I D) fun _=>by omega) (.lv _) fun _=>⟨by omega,Nat.le_refl _⟩).bK (y:=.d (ch (ay.drop i))) (by exact Uc ay i))<|O 2 D<|ag ((Pure.rq iQ (I D) (.bK _ (I D) fun _=>by omega) (.lv _) fun _=>⟨by omega,Nat.le_refl _⟩).bK (y:=.d (ch (ax.drop i))) (by exact Uc ax i))<|O 2 D<|iG km D D D D D<|O 2 D<|iG km D D D D D<|O 2 D<|iG km D D D D D<|ar)<|aO (O 1 D<|ct [26] [G 20,G 21,G 22,G 32,G 33,G 25] (cf D) (agM (e:=(q6 bD ay ax i (gx p c r bD ay ax s i).1.1)) gg TS (lF p c r bD ay ax s g0 jg e0 i).1 (gx p c r bD ay ax s i).1.1.bV (lF p c r bD ay ax s g0 jg e0 i).2.1 (gx p c r bD ay ax s i).1.2 f1 t1.v) (au D) (.jT D D D D D D) D D<|ar)<|al<|gI 26 21 D<|bm (O 5 D<|bI.KJ (gs:=[]) [60] [G 70,G 14,G 60] (Eu (I D) (.cons (I D) .nil)) (qh (gx p c r bD ay ax s i).2 (nJ p c r (q6 bD ay ax i (gx p c r bD ay ax s i).1.1) (gx p c r bD ay ax s i).1.1.bV (gx p c r bD ay ax s i).1.2).bQ (by omega)) D (.cons D (.cons D (.cons D .nil))) D D<|aN 1 D)<|a7 D (fun bq=>?_) fun bq=>?_
  ·cases bq
  exact bx<|bm (cp D D D<|aN 1 D)<|⟨i+1,aG,fD (by assumption),aZ (ec (by omega))<|fs D D D D D D D D<|aU,fs D D D D D D D D<|aU⟩
 obtain rfl:i=n:=by have:=dj aP;omega
 exact dW<|⟨.inl D,⟨_,(.nil),rfl⟩,cU (.Lw D D D D D D D D D D)⟩
def q7(p:aD)(lets:List Int)(o0:Int):Nat->Int
 |0=>o0
 |n+1=>bif decide ((b9 p n).kind=4)then lets.getD n 0 else q7 p lets o0 n
theorem Uf{p:aD}{lets:List Int}{v o0:Int}:∀n,n<=lets.length->q7 p (lets++[v]) o0 n=q7 p lets o0 n
 |0,_=>rfl
 |n+1,h=>by rw[q7,q7,Uf n (by omega),vX (by omega)]
theorem Ug{p:aD}{lets:List Int}{v:Int}{ls:List (List Int)}:∀n,n<=lets.length->mm p (lets++[v]) ls n=mm p lets ls n
 |0,_=>rfl
 |n+1,h=>by rw[mm,mm,Ug n (by omega),vX (by omega)]
theorem F5{v lo hi:Int}(h:lo<=v/\v<=hi):fu v lo hi=v:=by unfold fu;omega
theorem Uh{v:Int}(h:-2147483648<=v/\v<=2147483647):j6 v=v:=by unfold j6;omega
theorem agS{p:aD}{fd:List bh}{f:ee}{n:Nat}(aj:Ip p fd (bL p f n))(bb:f.lets=[])(hw:kW p fd n (b9 p n).x)(K:1<=(b9 p n).kind/\(b9 p n).kind<=4):(bN p n).r<=(bP (bN p n).rg (b9 p n).x (bN p n).r).2/\(bP (bN p n).rg (b9 p n).x (bN p n).r).2<=(bN p (n+1)).r:=by
 have aa:(bL p f n).lets.length=n:=by rw[vY,bb];simp
 refine⟨(To aj (rg:=(bN p n).rg) (b9 p n).x (by rw[aa];exact hw)).1 _,?_⟩
 rw[bN,pN]
 obtain⟨J,W⟩:=K
 rcases(by omega:(b9 p n).kind=1\/(b9 p n).kind=2\/(b9 p n).kind=3\/(b9 p n).kind=4)with h|h|h|h<;>rw[h]<;>simp<;>omega
theorem agT{p:aD}{fd:List bh}(hk:sH p fd){bj ay ax:List Int}{s:fa}(aC:qX p bj ay ax)(an:kx p s){n:Nat}(af:n<=p.ah.length):Ip p fd (bL p (b0 bj ay ax s) n):=
 ⟨FJ hk (Mh hk.wf.oO aC an) D n af,fun i hi=>E3 hk.wf (Nat.le_refl _) hk.st i hi,by rw[vY,hk.len];show 0+n<=_;omega,by rw[AX];exact an.lj,fun i hi=>by rw[vZ];exact an.lK i hi⟩
theorem agU(p:aD)(f:ee)(n:Nat):(bL p f n).qj=f.qj:=by
 unfold ee.qj;rw[FG,FH,FI,vZ]
theorem Ui{p:aD}{fd:List bh}(hk:sH p fd)(hw:∀i,i<p.ah.length->kW p fd i (b9 p i).x)(cy:A5 p){bj ay ax:List Int}{s:fa}(aC:qX p bj ay ax)(an:kx p s)(g0:List Int)(o0:Int)(aE:(bN p p.ah.length).r<=g0.length):
  ∀n,n<=p.ah.length->(bN p n).r<=(bN p p.ah.length).r->∃g ps,o3 p (b0 bj ay ax s).qj ⟨[],g0,s.bV,[],o0⟩ (bN p n).c=⟨[],g,(bL p (b0 bj ay ax s) n).bV,ps,q7 p (bL p (b0 bj ay ax s) n).lets o0 n⟩/\g.length=g0.length/\y8 p (bL p (b0 bj ay ax s) n) (bN p n).rg (bN p n).r g/\0<=(bN p n).r/\
   (∀q∈ps,∃j,j<n/\(b9 p j).kind=3/\q.1=(b9 p j).index)/\q5 ps s.bF=mm p (bL p (b0 bj ay ax s) n).lets s.bF n
 |0,_,_=>⟨g0,[],rfl,rfl,fun i hi=>by exact absurd hi (Nat.not_lt_zero _),Int.le_refl _,fun q bA=>(nomatch bA),rfl⟩
 |n+1,af,zl=>by
  have aj:=agT hk aC an (n:=n) (by omega)
  have aa:(bL p (b0 bj ay ax s) n).lets.length=n:=by rw[vY];show 0+n=n;omega
  have GB:=hw n (by omega)
  have ep:=cy.AD n (by omega)
  obtain⟨mT,kt⟩:=agS aj rfl GB ep
  obtain⟨g,ps,aX,bu,dV,iw,sQ,uB⟩:=Ui hk hw cy aC an g0 o0 aE n (by omega) (by omega)
  have aK:=(hk.val aj.fr (i:=n) (by omega) aa).2
  have fY:=To aj (rg:=(bN p n).rg) (b9 p n).x (by rw[aa];exact GB)
  obtain⟨g',hK,jx⟩:=fY.2 (bN p n).r ⟨[],g,(bL p (b0 bj ay ax s) n).bV,ps,q7 p (bL p (b0 bj ay ax s) n).lets o0 n⟩ iw (by show _<=(g.length:Int);rw[bu];omega) D dV
  rw[agU]at hK
  have A2:=dV.up jx mT
  generalize D8:eY p (bL p (b0 bj ay ax s) n) (b9 p n).x=v at aK hK
  generalize we:bP (bN p n).rg (b9 p n).x (bN p n).r=gh at mT kt hK A2
  generalize p4:bL p (b0 bj ay ax s) n=f at aa D8 aX dV uB hK A2
  have ti:(bL p (b0 bj ay ax s) (n+1)).lets=f.lets++[v]:=by rw[bL,p4];show f.lets++[eY p f (b9 p n).x]=_;rw[D8]
  have rA:(bL p (b0 bj ay ax s) (n+1)).bV=bif decide ((b9 p n).kind=2)then f.bV.set (b9 p n).index.toNat v else f.bV:=by rw[bL,p4];show(bif _ then f.bV.set _ (eY p f (b9 p n).x)else f.bV)=_;rw[D8]
  have jN:o3 p (b0 bj ay ax s).qj ⟨[],g0,s.bV,[],o0⟩ ((bN p n).c++gh.1)=⟨[v],g',f.bV,ps,q7 p f.lets o0 n⟩:=by rw[rS,aX,hK]
  have wH:g'.length=g0.length:=by rw[jx.1];exact bu
  have Uj:∀i:Nat,i<n->(b9 p i).kind=1->0<=(cb (bN p n).rg (i:Int)).getD 0/\(cb (bN p n).rg (i:Int)).getD 0<gh.2/\g'.getD ((cb (bN p n).rg (i:Int)).getD 0).toNat 0=f.lets.getD i 0:=fun i hi K=>A2 i (by omega) K
  rw[ti,rA]
  have M9:=Uf (p:=p) (v:=v) (o0:=o0) n (Nat.le_of_eq aa.symm)
  have I1:=Ug (p:=p) (v:=v) (ls:=s.bF) n (Nat.le_of_eq aa.symm)
  have Na:(f.lets++[v]).getD n 0=v:=Me aa
  have fl:∀q∈ps,∃j,j<n+1/\(b9 p j).kind=3/\q.1=(b9 p j).index:=fun q bA=>let⟨j,J,W⟩:=sQ q bA;⟨j,by omega,W⟩
  have Nb:∀{fr:ee},fr.lets=f.lets++[v]->(b9 p n).kind≠1->y8 p fr (bN p n).rg gh.2 g':=fun{fr} h3 K i hi CG=>by
   rw[h3]at hi⊢
   rw[ef,np]at hi
   have js:i<n:=by
    rcases Nat.lt_or_ge i n with h|h
    ·exact h
    ·have:i=n:=by omega
     subst this;exact absurd CG K
   obtain⟨u1,C9,Da⟩:=Uj i js CG
   exact⟨u1,C9,by rw[vX (by omega)];exact Da⟩
  unfold lH at aK
  rcases(by omega:(b9 p n).kind=1\/(b9 p n).kind=2\/(b9 p n).kind=3\/(b9 p n).kind=4)with K|K|K|K
  ·have bA:bN p (n+1)=⟨(bN p n).c++gh.1++[(5,gh.2)],gh.2+1,dM (bN p n).rg n gh.2⟩:=by rw[bN,pN,we,K];rfl
   rw[bA]at zl⊢
   dsimp only at zl⊢
   refine⟨g'.set gh.2.toNat v,ps,?_,by rw[nH];exact wH,fun i hi CG=>?_,by omega,fl,?_⟩
   ·rw[rS,jN,A1,q7,M9,K];rfl
   ·rw[ti,ef,np]at hi
    rw[ti,oI]
    by_cases js:i=n
    ·subst js
     rw[if_pos rfl,Na]
     refine⟨by show 0<=gh.2;omega,by show gh.2<gh.2+1;omega,?_⟩
     show(g'.set gh.2.toNat v).getD gh.2.toNat 0=v
     rw[oj,if_pos ⟨rfl,by omega⟩]
    ·rw[if_neg (by omega)]
     obtain⟨u1,C9,Da⟩:=Uj i (by omega) CG
     refine⟨u1,by omega,?_⟩
     rw[vX (by omega),oj,if_neg (by omega)]
     exact Da
   ·rw[mm,I1,K];exact uB
  ·have bA:bN p (n+1)=⟨(bN p n).c++gh.1++[(6,(b9 p n).index)],gh.2,(bN p n).rg⟩:=by rw[bN,pN,we,K];rfl
   rw[bA]at zl⊢
   dsimp only at zl⊢
   rw[K]at aK
   have aK:(p.bt.getD (b9 p n).index.toNat default).lo<=v/\v<=(p.bt.getD (b9 p n).index.toNat default).hi:=aK
   refine⟨g',ps,?_,wH,Nb ti (by omega),by omega,fl,?_⟩
   ·rw[rS,jN,A1,q7,M9,K]
    show(⟨[],g',f.bV.set (b9 p n).index.toNat (fu v _ _),ps,_⟩:lL)=_
    rw[F5 aK];rfl
   ·rw[mm,I1,K];exact uB
  ·have bA:bN p (n+1)=⟨(bN p n).c++gh.1++[(7,(b9 p n).index)],gh.2,(bN p n).rg⟩:=by rw[bN,pN,we,K];rfl
   rw[bA]at zl⊢
   dsimp only at zl⊢
   rw[K]at aK
   have aK:(p.a1.getD (b9 p n).index.toNat default).lo<=v/\v<=(p.a1.getD (b9 p n).index.toNat default).hi:=aK
   have agV:cb ps (b9 p n).index=none:=EN.2 fun q bA he=>by
    obtain⟨j,I2,Bj,Nc⟩:=sQ q bA
    exact cy.C2 j n I2 (by omega) (by rw[Bj];rfl) (by rw[Bj,K]) (Nc.symm.trans he)
   refine⟨g',ps++[((b9 p n).index,v)],?_,wH,Nb ti (by omega),by omega,fun q bA=>?_,?_⟩
   ·rw[rS,jN,A1,q7,M9,K]
    show(⟨[],g',f.bV,dM ps (b9 p n).index (fu v _ _),_⟩:lL)=_
    rw[F5 aK,EO agV];rfl
   ·rcases hy.1 bA with bA|bA
    ·exact fl q bA
    ·rw[qc]at bA
     subst bA
     exact⟨n,qk n,K,rfl⟩
   ·rw[mm,I1,K,Na,<-uB,q5,List.foldl_append];rfl
  ·have bA:bN p (n+1)=⟨(bN p n).c++gh.1++[(22,0)],gh.2,(bN p n).rg⟩:=by rw[bN,pN,we,K];rfl
   rw[bA]at zl⊢
   dsimp only at zl⊢
   rw[K]at aK
   have aK:-2147483648<=v/\v<=2147483647:=aK
   refine⟨g',ps,?_,wH,Nb ti (by omega),by omega,fl,?_⟩
   ·rw[rS,jN,A1,q7,Na,K]
    show(⟨[],g',f.bV,ps,j6 v⟩:lL)=_
    rw[Uh aK];rfl
   ·rw[mm,I1,K];exact uB
theorem Nd:∀V M v,bU V M (.d (.v (.slice none 0 0))) v->bU V M (.d (ch [])) v:=fun V M v h=>by
 cases h with
 |d _ _ h=>
  cases h with
  |v=>exact .d _ _ (.ji _ _ _ _)
theorem agW(n:Nat)(bD:List (List Int))(ay ax:List Int):bw prog 54 [.ao 20 0,.d (nI bD),.d (ch ay),.d (ch ax),aF .i64 n] [] (.fn 105 [.cc [av n],.cc [nI bD],.cc [ch ay],.cc [ch ax],.ao 5 0]) [(G 5,.U (.cells [.ao 20 0]))] [20]:=by
 refine cB [.tmp 10] func54 D D fun E K af=>?_
 exact aO (wE 5 [] (I D) D D D<|cV 6 D D D<|cV 7 D D D<|cV 8 D D D<|cV 9 D D D<|aN 1 D)<|al<|c1 (b1.hV (t:=6) (l:=6) D D)<|c1 (b1.hV (t:=7) (l:=7) D D)<|c1 (b1.hV (t:=8) (l:=8) D D)<|c1 (b1.hV (t:=9) (l:=9) D D)<|bm (ag (.mG (.cons (I D) (.cons (I D) (.cons (I D) (.cons (I D) (.cons (I D) .nil))))))<|aN 1 D)<|bp<|⟨.inr D,⟨_,(.cons (.tmp D) .nil),rfl⟩,cU (.cons D .nil)⟩
theorem agX(p:aD)(Z:p.b5)(c:dC)(r:Int)(aE:0<=r/\r<=65536)(s:fa)(an:s.bV.length<=65536/\s.bF.length<=65536):bw prog 53 [.d (tL p c r),.d (lN s)] [] (.ao 20 0) (gk p c r ⟨[],[],[],s.bF⟩ [] (List.replicate r.toNat 0) s.bV [] 0 21) []:=by
 refine cB [.tmp 4] func53 D D fun E K af=>?_
 exact aO (cV 2 D D D<|cV 3 D D D<|aN 1 D)<|al<|c1 (b1.hV (t:=2) (l:=2) D D)<|c1 (b1.hV (t:=3) (l:=3) D D)<|eo (O 3 D<|bI.makeSlice 22 [] iQ OP iC D (by decide) (I D) (I D) ⟨by omega,by omega⟩ (by omega) (by omega) D D<|sn fe av 25 [] D<|O 2 D<|ct [32] [] (cf D) (TE s.bV (by omega)) (au D) .nil D D<|O 2 D<|ct [33] [] (cf D) (TF s.bF (by omega)) (au D) .nil D D<|ag (.build sf PA (ba D D D (ba D D D (.nil _ _))) D)<|ag (.build Xs Ya (ba D D D (ba D D D (ba D D D (ba D D D (.nil _ _))))) D)<|wE 20 [] (I D) D D D<|aN 1 D)<|c1 (b1.nd (lb:=20) (j:=8) (l:=21) (n:=1) (fq:=[.cv .i64 []]) D D D D (by rw[K];decide) D (by simp[bz.len]) rfl)<|c8.yB (l:=20) (B':=ht p c r 0 21 r.toNat s.bV.length s.bF.length ⟨[],[],[],s.bF⟩ 0) D (bl.cells (.cons (fun _ _ _ h=>h) (.cons (fun _ _ _ h=>h) (.cons (fun _ _ _ h=>h) (.cons (fun _ _ _ h=>h) (.cons (fun _ _ _ h=>h) (.cons (fun _ _ _ h=>h) (.cons (fun _ _ _ h=>h) (.cons (fun _ _ _ h=>h) (.cons (fun _ _ _ h=>h) (.cons (fun _ _ _ h=>h) (.cons Nd (.cons Nd (.cons Nd (.cons (fun _ _ _ h=>h) (.cons (fun _ _ _ h=>h) (.cons (fun _ _ _ h=>h) (.cons (fun _ _ _ h=>h) .nil))))))))))))))))))<|bp<|⟨.inr D,⟨_,(.cons (.tmp D) .nil),rfl⟩,cU (.cons (by show _=some (dz.U (ht p c r 0 21 (List.replicate r.toNat (0:Int)).length _ _ _ _));rw[List.length_replicate];rfl) (.cons D (.cons (by rw[List.length_replicate];rfl) (.cons D (.cons D (.cons D .nil))))))⟩
theorem agY(p:aD)(Z:p.b5)(c:dC)(r:Int)(gg:tN p c r)(s:fa)(an:MU p s)(bd:∀i,(s.bF.getD i default).length<=9223372036854775807){bD:List (List Int)}{ay ax:List Int}{n:Nat}(dk:Bh p bD ay ax n)(lV:n<=65536)(agZ:ay.any zj=false)(ag0:ax.any zj=false)(ag1:∀i,i<bD.length->IV p.params (bD.getD i default))(fuel:Int)(bf:0<=(fuel-(n:Int)*c.length))(rA:fuel<=16777216):bw prog 14 [.d (tL p c r),.d (lN s),.d (nI bD),.d (ch ay),.d (ch ax),aF .i64 n,aF .i64 fuel] [] (.bE [.d (ch (gx p c r bD ay ax s n).2),.d (lN (gx p c r bD ay ax s n).1.1),.d (av (fuel-(n:Int)*c.length)),.d (av 0)]) [] []:=by
 have IL:=Z.hH
 have IM:=Z.gH
 have hO:=gg.oM.c
 have uk:=gg.oM.a
 have Ue:=dk.ay
 have ajL:=dk.ax
 have VN:=dk.len
 have Bc:=an.v.1
 have pI:=an.n
 have hc:zk p s:=⟨an.v.1,an.n,fun i hi=>(an.l i hi).1⟩
 have hmul:0<=(n:Int)*c.length:=Int.mul_nonneg (by omega) (by omega)
 have Bi:(((List.replicate r.toNat (0:Int)).length:Nat):Int)=r:=by rw[List.length_replicate];have:=gg.oM.r;omega
 refine Qd (rs:=[.cell 14 22,.cell 15 45,.tmp 16,.tmp 17]) func14 D D (cC D) (by simp[ad.get]) fun E K af=>?_
 refine aO (cV 7 D D D<|cV 8 D D D<|cm 14 BN D<|cm 15 sf D<|aN 2 D)<|al<|al<|c1 (b1.hV (t:=7) (l:=7) D D)<|c1 (b1.hV (t:=8) (l:=8) D D)<|bm (O 1 D<|cY (cf D) (afI p Z c r gg) (au D)<|aN 1 D)<|aL 2 D<|a7 D (fun aP=>?_) fun aP=>?_
 ·cases aP
 refine bx<|al<|aO (O 1 D<|ag ((ib D D D).bK (y:=bk false) (congrArg bk (hG (by omega))))<|O 1 D<|cz D<|O 1 D<|cz D<|ag ((ib D D D).bK (y:=bk false) (congrArg bk (hG (by omega))))<|ag (.pick (I D) (I D) (I D))<|O 1 D<|cz D<|O 1 D<|cz D<|ag ((ib D D D).bK (y:=bk false) (congrArg bk (hG (by omega))))<|ag (.pick (I D) (I D) (I D))<|O 1 D<|cz D<|O 1 D<|cz D<|ag ((ib D D D).bK (y:=bk false) (congrArg bk (hG (by omega))))<|ag (.pick (I D) (I D) (I D))<|O 1 D<|cz D<|O 1 D<|cz D<|O 1 D<|cz D<|O 1 D<|cz D<|ag ((ib D D D).bK (y:=bk false) (congrArg (fun b=>bk (!b)) (gl (congrArg Nat.cast dk.len:(bD.length:Int)=(n:Int)))))<|ag (.pick (I D) (I D) (I D))<|O 1 D<|cz D<|O 1 D<|cz D<|O 1 D<|cz D<|O 1 D<|cz D<|cY (hd D D D) (T4 p Z c r ay n dk.ay (by omega) agZ) (au D)<|cz D<|O 1 D<|ag (.pick (I D) (I D) (I D))<|O 1 D<|cz D<|O 1 D<|cz D<|O 1 D<|cz D<|O 1 D<|cz D<|cY (hd D D D) (T4 p Z c r ax n dk.ax (by omega) ag0) (au D)<|cz D<|O 1 D<|ag (.pick (I D) (I D) (I D))<|ar)<|a7 D (fun bq=>?_) fun bq=>?_
 ·cases bq
 refine bx<|al<|aO (O 1 D<|ag (.mG (.cons (I D) .nil))<|cY (cn D D) (afT bD (by omega) 50 [.cc (MM p c r)] (au D) fun i hi=>afU p Z c r _ (ag1 i hi)) (au D)<|ar)<|a7 D (fun b3=>?_) fun b3=>?_
 ·cases b3
 refine bx<|al<|aO (O 2 D<|cY (cn D D) (afQ p Z c r s an bd) (au D)<|aN 1 D)<|a7 D (fun et=>?_) fun et=>?_
 ·cases et
 refine bx<|al<|aO (O 5 D<|ag (.nv (I D) (I D) D fun _=>iO ⟨by omega,by omega⟩)<|ag (.nv (I D) (I D) D fun _=>iO ⟨by omega,by omega⟩)<|aN 1 D)<|aL 2 D<|a7 D (fun eQ=>?_) fun eQ=>?_
 ·have:=cJ eQ;omega
 refine bx<|aO (O 2 D<|ct [20,21,22,32,33,25] [] (cn D D) (agX p Z c r gg.oM.r s ⟨by omega,by omega⟩) (au D) .nil D D<|aN 1 D)<|al<|aO (O 5 D<|ct [5] [] (vK D D D D D) (agW n bD ay ax) (au D) .nil D D<|ar)<|bX<|c8.yB (l:=14) (B':=.cells [k4]) D (bl.YS (.cons (fun _ _ _ h=>h) .nil))<|c1 (b1.nd (lb:=14) (j:=0) (l:=60) (n:=1) (fq:=[.cv .i64 []]) D D D D (by rw[K];decide) D (by simp[bz.len]) rfl)<|c8.fj (T:=[(ab 14,.aB (.ao 14 0)),(ab 15,.aB (.ao 15 0)),(ab 16,.aB (aF .i64 (fuel-(n:Int)*c.length))),(ab 17,.aB (aF .i64 0)),(ab 19,.aB (.ao 20 0)),(ab 89,.aB (.fn 105 [.cc [av n],.cc [nI bD],.cc [ch ay],.cc [ch ax],.ao 5 0])),(G 5,.U (.cells [.ao 20 0])),(G 20,.U (ht p c r 0 21 (List.replicate r.toNat (0:Int)).length s.bV.length s.bF.length ⟨[],[],[],s.bF⟩ 0)),(G 21,.U (.bG 1 0 [.cv .i64 []])),(G 22,.U (.bG 1 (List.replicate r.toNat (0:Int)).length [.cv .i64 (List.replicate r.toNat (0:Int))])),(G 32,.U (.bG 1 s.bV.length [.cv .i64 s.bV])),(G 33,.U (.bG 1 s.bF.length [.ds (s.bF.map ch)])),(G 25,.U (hE fe av [])),(G 14,.U (.cells [.aQ 60 0])),(G 60,.U (.bG 1 0 [.cv .i64 []])),(G 15,.U (.data [.v (.slice none 0 0),.v (.slice none 0 0)]))]) ?_ (fs D D D D D D D D<|fs D D D D D D D D<|aU)
 refine Qb (L:=70) (ts:=Db) (ts':=Db) (new:=[21,60]) (ds:=[G 5,G 20,G 21,G 22,G 32,G 33,G 25,G 14,G 60]) (fI:=none) D D D (au D) (.cons D .nil) af D D (by rw[K];decide) (by simp) (agQ gg dk lV hc (fun xs v Y=>?_) (List.replicate r.toNat (0:Int)) [] ⟨[],[],[],s.bF⟩ Bi D) (.cons D (.cons D (.cons D (.cons D (.cons D (.cons D (.cons D (.cons D (.cons D (.cons D (.nil))))))))))) D D D D (by rw[K];simp) ?_
 ·refine PT (fI:=none) (ed:=[(ab 14,.aB (.ao 14 0)),(ab 20,.aB (aF .i64 v)),(G 14,.U (.cells [.aQ 60 xs.length])),(G 60,.U (.bG 1 xs.length [.cv .i64 xs]))]) D D D D D D D D ?_ ?_
  ·intro E l K af
   exact fS 1 D<|⟨rfl,(da D D D D<|aU)⟩
  intro E l K af
  refine bX<|C7 ?_
  refine bm (O 2 D<|gN 93 [] iQ iC D (by decide) (by decide) (ba D D D (.nil _ _)) D D D<|hA 61 [G 60] p0 p1 (by decide) (.aQ (I D) D) (.aQ (I D) D) (bz.hT D) (hB D) (by omega) (by omega) (cs:=[.cv .i64 (xs++[v])]) D D<|iG km D D D D D<|ar)<|⟨_,b1.swap 61 60 (by rw[K];decide) (by rw[K];decide) D,rfl,cU (.cons (by rw[ef];rfl) (.cons (by rw[ef];rfl) .nil))⟩
 obtain⟨_,f2⟩:=Ud (g0:=(List.replicate r.toNat (0:Int))) (jg:=[]) (e0:=⟨[],[],[],s.bF⟩) gg dk hc Bi D n (Nat.le_refl _)
 rw[f2]
 exact al<|c1 (b1.mH (lb:=20) (j:=13) (l:=32) (n:=1) (g:=fun i=>[av ((gx p c r bD ay ax s n).1.1.bV.getD i default)]) D D D D (fun i hi=>rfl) D)<|c1 (b1.mH (lb:=20) (j:=14) (l:=33) (n:=1) (g:=fun i=>[ch ((gx p c r bD ay ax s n).1.1.bF.getD i default)]) D D D D (fun i hi=>(C5 hi).symm) D)<|c1 (b1.mH (lb:=14) (j:=0) (l:=60) (n:=1) (g:=fun i=>[av ((gx p c r bD ay ax s n).2.getD i default)]) D D D D (fun i hi=>rfl) D)<|eo (O 4 D<|cH [_] (.x2 nB (I D) D fun _=>cC D)<|O 1 D<|iG km D D D D D<|cL nB D D D D<|aN 2 D)<|bp<|⟨.inr D,⟨_,(.cons (.Gz D D km D) (.cons (.iP D D nB D) (.cons (.tmp D) (.cons (.tmp D) .nil)))),rfl⟩,by simp[ad.get]⟩
theorem Uk{a b:Bool}(h:(bif a then b else false)=false):a=false\/b=false:=by cases a<;>cases b<;>simp_all
def pO(cs:List Int):Nat->Int
 |0=>1
 |i+1=>pO cs i+cs.getD i 0
mutual
def q8:aR->Int
 | .mk _ _ _ _ l=>min (pO (mq l) (mq l).length) 1001
def mq:List aR->List Int
 |[]=>[]
 |y::r=>q8 y::mq r
end
theorem Nf(x:aR):q8 x=min (pO (mq x.l) (mq x.l).length) 1001:=by cases x;rw[q8];rfl
theorem Ng:∀l,mq l=l.map q8
 |[]=>rfl
 |y::r=>by rw[mq,Ng r];rfl
theorem wg(l:List aR):(mq l).length=l.length:=by rw[Ng,l5]
theorem F6{l:List aR}{i:Nat}(h:i<l.length):(mq l).getD i 0=q8 (l.getD i default):=by
 rw[Ng];simp[cN,h]
theorem Dc{cs:List Int}(h:∀i,i<cs.length->0<=cs.getD i 0):∀i j,i<=j->j<=cs.length->pO cs i<=pO cs j
 |i,0,iK,_=>by rw[show i=0 by omega];exact Int.le_refl _
 |i,j+1,iK,az=>by
  rcases nj iK with aG|rfl
  ·have:=Dc h i j (by omega) (by omega)
   have:=h j (by omega)
   rw[pO];omega
  ·exact Int.le_refl _
theorem I3:∀x:aR,1<=q8 x/\q8 x<=1001:=aR.ind fun x aJ=>by
 rw[Nf]
 have:=Dc (cs:=mq x.l) (fun i hi=>by rw[wg]at hi;rw[F6 hi];have:=aJ _ (dJ hi);omega) 0 _ (Nat.zero_le _) (Nat.le_refl _)
 rw[pO]at this
 omega
theorem I4(l:List aR)(i:Nat)(hi:i<l.length):1<=(mq l).getD i 0/\(mq l).getD i 0<=1001:=by rw[F6 hi];exact I3 _
theorem ag2:∀x:aR,q8 x<=1000->(dY x:Int)=q8 x:=aR.ind fun x aJ h=>by
 rw[Nf]at h⊢
 have Z:∀i,i<(mq x.l).length->0<=(mq x.l).getD i 0:=fun i hi=>by rw[wg]at hi;have:=I4 x.l i hi;omega
 have an:pO (mq x.l) (mq x.l).length<=1000:=by omega
 have key:∀n,n<=x.l.length->((jE (x.l.take n):Nat):Int)+1=pO (mq x.l) n:=fun n=>by
  induction n with
  |zero=>intro _;rfl
  |succ n ag3=>
   intro af
   rw[xf (by omega),pO,<-ag3 (by omega),F6 (by omega)]
   have J:=Dc Z (n+1) _ (by rw[wg];exact af) (Nat.le_refl _)
   have W:=Dc Z 0 n (Nat.zero_le _) (by rw[wg];omega)
   rw[pO,F6 (by omega)]at J
   rw[pO]at W
   have:=aJ (x.l.getD n default) (dJ (by omega)) (by omega)
   omega
 have:=key x.l.length (Nat.le_refl _)
 rw[List.take_length]at this
 rw[tr]
 rw[wg]at an⊢
 omega
theorem ag4(x:aR)(Y:x.b5)(aJ:∀y,y∈x.l->bw prog 77 [.d (.agg (cr y))] [] (aF .i64 (q8 y)) [] []):bw prog 77 [.d (.agg (cr x))] [] (aF .i64 (q8 x)) [] []:=by
 have Tt:=Y.len
 refine cB [.tmp 2] func77 D D fun E K af=>?_
 refine aO (cV 1 D D D<|aN 1 D)<|al<|c1 (b1.hV (t:=1) (l:=1) D D)<|fS 1 D<|al<|aL 1 D<|bX<|eP (σ:=Nat) [(ab 1,_)] (fun i=>[(ab 4,.aB (aF .i64 (i:Int))),(ab 3,.aB (aF .i64 (pO (mq x.l) i)))]) (fun i=>i<=x.l.length) (fun i=>x.l.length-i) 0 (ck D D<|aU) (aZ D<|aU) (Nat.zero_le _) fun i hi=>?_
 refine al<|aO (O 6 D<|dp D D<|c6 D D (I D) D<|eg D D D<|ar)<|?_
 have AQ:1<=pO (mq x.l) i:=by have:=Dc (cs:=(mq x.l)) (fun j az=>by rw[wg]at az;have:=I4 x.l j az;omega) 0 i (Nat.zero_le _) (by rw[wg];omega);rw[pO]at this;exact this
 refine a7 D (fun aP=>?_) fun aP=>?_
 ·obtain⟨aC,ae⟩:=iX aP
  have aG:i<x.l.length:=by have:=cJ aC;omega
  have hle:=cJ ae
  have hz:=I4 x.l i aG
  have ag5:(mq x.l).getD i 0=q8 (x.l.getD i default):=F6 aG
  have iL:=dJ aG
  exact bx<|al<|bX<|bm (O 4 D<|ag ((eN iR D D).bK (y:=.cc (cr (x.l.getD i default))) (iT aG))<|ag ((Pure.kD dL (I D) fun _=>Nat.le_refl _).bK (y:=.d (.agg (cr (x.l.getD i default)))) D)<|cY (cf D) (aJ _ iL) (au D)<|ag ((Pure.nv (I D) (I D) D fun _=>iO (by omega)).bK (y:=aF .i64 (pO (mq x.l) (i+1))) (by rw[pO,ag5]))<|aN 1 rfl)<|bm (O 1 D<|cp D D D<|aN 1 D)<|⟨i+1,aG,fD (by assumption),aZ (ec (by omega))<|aZ D<|aU,aZ D<|aU⟩
 refine dW<|aO (O 1 D<|ag (.min2 (I D) (I D))<|aN 1 D)<|bp<|dr D ?_
 refine congrArg (aF .i64) ?_
 rw[Nf]
 rcases Uk aP with bf|bf
 ·have:i=x.l.length:=by have:=dj bf;omega
  rw[wg,this]
 have ajM:=dj bf
 have:=Dc (cs:=(mq x.l)) (fun j az=>by rw[wg]at az;have:=I4 x.l j az;omega) i _ (by rw[wg];omega) (Nat.le_refl _)
 omega
theorem ag6:∀x:aR,x.b5->bw prog 77 [.d (.agg (cr x))] [] (aF .i64 (q8 x)) [] []:=aR.ind fun x aJ Y=>ag4 x Y fun y ak=>aJ y ak (Y.part y ak)
def Dd(p:aD):Bool:=bif bif bif bif bif decide (40<(p.name.size:Int))then true else decide (20<(p.params.length:Int))then true else decide (20<(p.bt.length:Int))then true else decide (20<(p.a1.length:Int))then true else decide (20<(p.bM.length:Int))then true else decide (70<(p.ah.length:Int))
def wh(p:aD):Nat->Int
 |0=>0
 |i+1=>wh p i+min ((p.bM.getD i default).dU.length:Int) 1000
def tP(p:aD):Nat->Int
 |0=>wh p p.bM.length
 |i+1=>tP p i+q8 (p.ah.getD i default).x
def zm(p:aD):Bool:=bif Dd p then false else decide (tP p p.ah.length<=150)
theorem I5(p:aD):∀n,0<=wh p n/\wh p n<=1000*n
 |0=>⟨Int.le_refl _,Int.le_refl _⟩
 |n+1=>by have:=I5 p n;rw[wh];omega
theorem Nh(p:aD):∀n,wh p p.bM.length<=tP p n/\tP p n<=wh p p.bM.length+1001*n
 |0=>⟨Int.le_refl _,by rw[tP];omega⟩
 |n+1=>by have:=Nh p n;have:=I3 (p.ah.getD n default).x;rw[tP];omega
theorem zn{a b:Bool}(h:(bif a then true else b)=false):a=false/\b=false:=by cases a<;>cases b<;>simp_all
structure ag7(p:aD):Prop where
 nf:p.params.length<=20
 hH:p.bt.length<=20
 gH:p.a1.length<=20
 cg:p.bM.length<=20
 kJ:p.ah.length<=70
theorem ag8{p:aD}(h:Dd p=false):ag7 p:=by
 unfold Dd at h
 obtain⟨h,fc⟩:=zn h
 obtain⟨h,db⟩:=zn h
 obtain⟨h,aV⟩:=zn h
 obtain⟨h,aH⟩:=zn h
 obtain⟨h,W⟩:=zn h
 have:=dj W
 have:=dj aH
 have:=dj aV
 have:=dj db
 have:=dj fc
 exact⟨by omega,by omega,by omega,by omega,by omega⟩
theorem ag9(p:aD)(Z:p.b5):bw prog 28 [.d (fR p)] [] (bk (zm p)) [] []:=by
 have fy:=Z.nf
 have e7:=Z.hH
 have jv:=Z.gH
 have Hy:=Z.cg
 have Aw:=Z.kJ
 refine cB [.tmp 2] func28 D D fun E K af=>?_
 refine aO (cV 1 D D D<|aN 1 D)<|al<|al<|c1 (b1.hV (t:=1) (l:=1) D D)<|bm (O 2 D<|ag (.sT D underlying9 (I D))<|O 2 D<|cX D Kk (I D) D<|cF [] D (.fG p2 (bH D) D)<|cF [] D (.len D underlying24 (bH D) D)<|c6 D D (I D) D<|gQ D D D<|O 1 D<|cX D Kl (I D) D<|cF [] D (.fG p2 (bH D) D)<|cF [] D (.len D underlying24 (bH D) D)<|c6 D D (I D) D<|gQ D D D<|O 1 D<|cX D GY (I D) D<|cF [] D (.fG uo (bH D) D)<|cF [] D (.len D underlying25 (bH D) D)<|c6 D D (I D) D<|gQ D D D<|O 1 D<|cX D Km (I D) D<|cF [] D (.fG GX (bH D) D)<|cF [] D (.len D underlying26 (bH D) D)<|c6 D D (I D) D<|gQ D D D<|O 1 D<|cX D z7 (I D) D<|cF [] D (.fG vo (bH D) D)<|cF [] D (.len D underlying27 (bH D) D)<|c6 D D (I D) D<|gQ D D D<|ar)<|a7 D (fun aP=>?_) fun aP=>?_
 ·have e:zm p=false:=by unfold zm;rw[show Dd p=true from aP,cond_true]
  refine aL 1 D<|bp<|dr D ?_
  rw[e];rfl
 have e0:Dd p=false:=aP
 obtain⟨_,_,_,ajN,ajO⟩:=ag8 e0
 refine bx<|aL 1 D<|al<|aL 1 D<|bX<|eP (σ:=Nat) [(ab 1,_)] (fun i=>[(ab 4,.aB (aF .i64 (i:Int))),(ab 3,.aB (aF .i64 (wh p i)))]) (fun i=>i<=p.bM.length) (fun i=>p.bM.length-i) 0 (ck D D<|aU) (aZ D<|aU) (Nat.zero_le _) fun i hi=>?_
 refine al<|aL 5 D<|a7 D (fun bq=>?_) fun bq=>?_
 ·have aG:i<p.bM.length:=eJ bq
  have o9:=I5 p i
  exact bx<|al<|bX<|bm (O 4 D<|bW wS D D<|O 3 D<|ag (.min2 (I D) (I D))<|ag ((Pure.nv (I D) (I D) D fun _=>iO (by omega)).bK (y:=aF .i64 (wh p (i+1))) (by rw[wh];rfl))<|aN 1 D)<|bm (O 1 D<|cp D D D<|aN 1 D)<|⟨i+1,aG,fD (by assumption),aZ (ec (by omega))<|aZ D<|aU,aZ D<|aU⟩
 obtain rfl:i=p.bM.length:=by have:=dj bq;omega
 have o9:=I5 p p.bM.length
 refine dW<|al<|aL 1 D<|bX<|eP (σ:=Nat) [(ab 1,_)] (fun i=>[(ab 5,.aB (aF .i64 (i:Int))),(ab 3,.aB (aF .i64 (tP p i)))]) (fun i=>i<=p.ah.length) (fun i=>p.ah.length-i) 0 (ck D D<|aU) (aZ D<|aU) (Nat.zero_le _) fun i hi=>?_
 refine al<|aL 5 D<|a7 D (fun b3=>?_) fun b3=>?_
 ·have aG:i<p.ah.length:=eJ b3
  have oU:=Nh p i
  have MY:=I3 (p.ah.getD i default).x
  have iM:=(Z.ah _ (dJ aG)).2.2
  exact bx<|al<|bX<|bm (O 4 D<|bW qH D D<|O 1 D<|ag ((Pure.kD dL (I D) fun _=>cC D).bK (y:=.d (.agg (cr (p.ah.getD i default).x))) D)<|cY (cf D) (ag6 _ iM) (au D)<|ag ((Pure.nv (I D) (I D) D fun _=>iO (by omega)).bK (y:=aF .i64 (tP p (i+1))) (by rw[tP]))<|aN 1 rfl)<|bm (O 1 D<|cp D D D<|aN 1 D)<|⟨i+1,aG,fD (by assumption),aZ (ec (by omega))<|aZ D<|aU,aZ D<|aU⟩
 obtain rfl:i=p.ah.length:=by have:=dj b3;omega
 have e:zm p=decide (tP p p.ah.length<=150):=by unfold zm;rw[e0,cond_false]
 refine dW<|aL 3 D<|bp<|dr D ?_
 rw[e];rfl
def F7(p:aD)(i:Nat):Bool:= !decide (40<(p.a1.getD i default).size)
def zo(p:aD):Bool:=bif q1 (F7 p) (min p.a1.length 20)then(bif zm p then decide (p.cR<=20)else false)else false
theorem aha(p:aD)(Z:p.b5):bw prog 7 [.d (fR p)] [] (bk (zo p)) [] []:=by
 have jv:=Z.gH
 refine cB [.tmp 2] func7 D D fun E K af=>?_
 refine aO (cV 1 D D D<|aN 1 D)<|al<|al<|c1 (b1.hV (t:=1) (l:=1) D D)<|fS 1 D<|bX<|eP (σ:=Nat) [(ab 1,_)] (fun i=>[(ab 3,.aB (aF .i64 (i:Int)))]) (fun i=>i<=min p.a1.length 20/\q1 (F7 p) i=true) (fun i=>p.a1.length-i) 0 (aZ D<|aU) (aZ D<|aU) ⟨Nat.zero_le _,rfl⟩ fun i hi=>?_
 refine al<|aO (O 6 D<|dp D D<|c6 D D (I D) D<|eg D D D<|ar)<|a7 D (fun aP=>?_) fun aP=>?_
 ·obtain⟨aC,ae⟩:=iX aP
  have aG:i<p.a1.length:=by have:=cJ aC;omega
  have l1:=cJ ae
  refine bx<|al<|bX<|aO (O 3 D<|bW nV D D<|aN 3 D)<|a7 D (fun bq=>?_) fun bq=>?_
  ·have bd:decide (40<(p.a1.getD i default).size)=true:=bq
   have e:zo p=false:=by unfold zo;rw[Iq (i:=i) (by rw[F7,bd];rfl) (by omega),cond_false]
   refine aL 1 D<|bp<|dr D ?_
   rw[e];rfl
  have bd:decide (40<(p.a1.getD i default).size)=false:=bq
  exact bx<|bm (O 1 D<|cp D D D<|aN 1 D)<|⟨i+1,⟨by omega,by unfold q1;rw[hi.2,F7,bd];rfl⟩,fD (by assumption),aZ (ec (by omega))<|aU,aZ D<|aU⟩
 have eW:i=min p.a1.length 20:=by
   rcases Uk aP with h|h
   ·have:=dj h;omega
   ·have:=dj h;omega
 have aX:q1 (F7 p) (min p.a1.length 20)=true:=eW▸hi.2
 have e:zo p=(bif zm p then decide (p.cR<=20)else false):=by unfold zo;rw[aX,cond_true]
 refine dW<|aO (O 1 D<|cY (cf D) (ag9 p Z) (au D)<|O 1 D<|cX D BO (I D) D<|cF [] D (.fG bY (bH D) D)<|c6 D D (I D) D<|eg D D D<|aN 1 D)<|bp<|dr D ?_
 rw[e];rfl
theorem Ul(l:List Int)(aa:l.length<=9000000000000):bw prog 55 [.d (ch l),.d (ch l)] [] (bk true) [] []:=by
 refine cB [.tmp 4] func55 D D fun E K af=>?_
 refine aL 1 D<|al<|aO (O 4 D<|ag ((ib D D D).bK (y:=bk false) (congrArg (fun b=>bk (!b)) (gl (rfl))))<|ar)<|a7 D (fun aP=>?_) fun aP=>?_
 ·cases aP
 refine bx<|al<|aL 1 D<|bX<|eP (σ:=Nat) [(ab 0,_),(ab 1,_)] (fun i=>[(ab 5,.aB (aF .i64 (i:Int)))]) (fun i=>i<=l.length) (fun i=>l.length-i) 0 (aZ D<|aU) (ck D D<|aU) (Nat.zero_le _) fun i hi=>?_
 refine al<|aL 4 D<|a7 D (fun bq=>?_) fun bq=>?_
 ·have aG:i<l.length:=eJ bq
  refine bx<|al<|bX<|ft (O 2 D<|bW fB D D<|O 3 D<|bW fB D D<|O 1 D<|ag ((ib D D D).bK (y:=bk false) (congrArg (fun b=>bk (!b)) (gl (rfl))))<|ar)<|a7 D (fun b3=>?_) fun b3=>?_
  ·cases b3
  exact bx<|bm (O 1 D<|cp D D D<|aN 1 D)<|⟨i+1,aG,fD (by assumption),aZ (ec (by omega))<|aU,ck D D<|aU⟩
 exact dW<|aL 1 D<|bp<|dr D D
theorem ahb(l:List Int)(aa:l.length<=9000000000000):bw prog 15 [.d (ch l),.d (ch l)] [] (bk true) [] []:=by
 refine cB [.tmp 4] func15 D D fun E K af=>?_
 refine aL 1 D<|al<|aO (O 4 D<|ag ((ib D D D).bK (y:=bk false) (congrArg (fun b=>bk (!b)) (gl (rfl))))<|ar)<|a7 D (fun aP=>?_) fun aP=>?_
 ·cases aP
 refine bx<|al<|aL 1 D<|bX<|eP (σ:=Nat) [(ab 0,_),(ab 1,_)] (fun i=>[(ab 5,.aB (aF .i64 (i:Int)))]) (fun i=>i<=l.length) (fun i=>l.length-i) 0 (aZ D<|aU) (ck D D<|aU) (Nat.zero_le _) fun i hi=>?_
 refine al<|aL 4 D<|a7 D (fun bq=>?_) fun bq=>?_
 ·have aG:i<l.length:=eJ bq
  refine bx<|al<|bX<|ft (O 2 D<|bW fB D D<|O 3 D<|bW fB D D<|O 1 D<|ag ((ib D D D).bK (y:=bk false) (congrArg (fun b=>bk (!b)) (gl (rfl))))<|ar)<|a7 D (fun b3=>?_) fun b3=>?_
  ·cases b3
  exact bx<|bm (O 1 D<|cp D D D<|aN 1 D)<|⟨i+1,aG,fD (by assumption),aZ (ec (by omega))<|aU,ck D D<|aU⟩
 exact dW<|aL 1 D<|bp<|dr D D
theorem ahc(s:fa)(J:s.bV.length<=9000000000000)(W:s.bF.length<=9000000000000)(aH:∀i,(s.bF.getD i default).length<=9000000000000):bw prog 16 [.d (lN s),.d (lN s)] [] (bk true) [] []:=by
 refine cB [.tmp 4] func16 D D fun E K af=>?_
 refine aO (cV 2 D D D<|cV 3 D D D<|aN 1 D)<|al<|al<|c1 (b1.hV (t:=2) (l:=2) D D)<|c1 (b1.hV (t:=3) (l:=3) D D)<|bm (O 4 D<|cY (cn D D) (Ul s.bV J) (au D)<|O 2 D<|cz D<|O 1 D<|cz D<|O 1 D<|cz D<|O 1 D<|cz D<|O 1 D<|cz D<|O 1 D<|cz D<|O 1 D<|cz D<|ag ((ib D D D).bK (y:=bk false) (congrArg (fun b=>bk (!b)) (gl (rfl))))<|ag (.pick (I D) (I D) (I D))<|ar)<|a7 D (fun aP=>?_) fun aP=>?_
 ·cases aP
 refine bx<|al<|aL 1 D<|bX<|eP (σ:=Nat) [(ab 2,_),(ab 3,_)] (fun i=>[(ab 5,.aB (aF .i64 (i:Int)))]) (fun i=>i<=s.bF.length) (fun i=>s.bF.length-i) 0 (aZ D<|aU) (ck D D<|aU) (Nat.zero_le _) fun i hi=>?_
 refine al<|aL 5 D<|a7 D (fun bq=>?_) fun bq=>?_
 ·have aG:i<s.bF.length:=eJ bq
  have ahd:=aH i
  refine bx<|al<|bX<|ft (O 3 D<|bW pr D D<|O 4 D<|bW pr D D<|O 1 D<|cY (cn D D) (Ul (s.bF.getD i default) ahd) (au D)<|aN 1 D)<|a7 D (fun b3=>?_) fun b3=>?_
  ·cases b3
  exact bx<|bm (O 1 D<|cp D D D<|aN 1 D)<|⟨i+1,aG,fD (by assumption),aZ (ec (by omega))<|aU,ck D D<|aU⟩
 exact dW<|aL 1 D<|bp<|dr D D
def F8(l:List Int)(i:Nat):Int:=bif decide (0<(l.length:Int))then j6 (l.getD (i%l.length) default)else 0
def dD(l:List Int)(n:Nat):List Int:=(List.range n).map (F8 l)
theorem wi(l:List Int)(n:Nat):(dD l n).length=n:=by simp[dD]
theorem Um(l:List Int)(n:Nat):dD l (n+1)=dD l n++[F8 l n]:=by simp[dD,List.range_succ]
theorem Un{α:Type}{f:Nat->α}{d:α}{n i:Nat}(h:i<n):((List.range n).map f).getD i d=f i:=by simp[cN,h]
theorem I6(l:List Int)(n:Nat)(aa:l.length<=4611686018427387904)(nZ:n<=1000000):bw prog 12 [.d (ch l),aF .i64 n] [] (.d (ch (dD l n))) [] []:=by
 refine cB [.tmp 4] func12 D D fun E K af=>?_
 refine aL 1 D<|aL 1 D<|al<|al<|c1 (b1.ve (t:=5) (l:=40) (n:=1) (cs:=[.cv .i64 []]) D D (by rw[K];decide) (by rw[af];exact cC D) D (by simp[bz.len]))<|fS 1 rfl<|bX<|eP (σ:=Nat) [(ab 0,_),(ab 1,_)] (fun i=>[(ab 6,.aB (aF .i64 (i:Int))),(ab 5,.aB (.aQ 40 i)),(G 40,.U (.bG 1 i [.cv .i64 (dD l i)]))]) (fun i=>i<=n) (fun i=>n-i) 0 (ck D D<|aZ D<|aU) (ck D D<|aU) (Nat.zero_le _) fun i hi=>?_
 refine al<|aL 3 D<|a7 D (fun aP=>?_) fun aP=>?_
 ·have aG:i<n:=by have:=cJ aP;omega
  have hc:=wi l i
  refine bx<|al<|bX<|al<|gI 40 41 D<|fS 1 D<|al<|aL 3 D<|a7 D (fun bq=>?_) fun bq=>?_
  ·have oa:0<l.length:=eJ bq
   have mb:=Nat.mod_lt i oa
   have hk:dD l (i+1)=dD l i++[j6 (l.getD (i%l.length) default)]:=by rw[Um,F8,show decide (0<(l.length:Int))=true from bq,cond_true]
   exact bm (O 4 D<|ag ((Pure.rem (I D) (I D) fun _=>by omega).bK (y:=aF .i64 ((i%l.length:Nat):Int)) D)<|bW fB D D<|O 1 D<|cY (cf D) (CN _) (au D)<|aN 1 D)<|bm (O 2 D<|gN 26 [] iQ iC D (by decide) (by decide) (ba D D D (.nil _ _)) D D D<|hA 40 [G 41] p0 p1 (by decide) (.aQ (I D) D) (.aQ (I D) D) (bz.hT D) (hB D) (by omega) (by omega) (cs:=[.cv .i64 (dD l (i+1))]) (by rw[hk];rfl) D<|aN 1 D)<|bm (O 1 D<|cp D D D<|aN 1 D)<|⟨i+1,aG,fD (by assumption),aZ (ec (by omega))<|ck D D<|aU,ck D D<|aU⟩
  have hk:dD l (i+1)=dD l i++[0]:=by rw[Um,F8,show decide (0<(l.length:Int))=false from bq,cond_false]
  exact bx<|bm (O 2 D<|gN 26 [] iQ iC D (by decide) (by decide) (ba D D D (.nil _ _)) D D D<|hA 40 [G 41] p0 p1 (by decide) (.aQ (I D) D) (.aQ (I D) D) (bz.hT D) (hB D) (by omega) (by omega) (cs:=[.cv .i64 (dD l (i+1))]) (by rw[hk];rfl) D<|aN 1 D)<|bm (O 1 D<|cp D D D<|aN 1 D)<|⟨i+1,aG,fD (by assumption),aZ (ec (by omega))<|ck D D<|aU,ck D D<|aU⟩
 obtain rfl:i=n:=by have:=dj aP;omega
 refine dW<|al<|c1 (b1.tb (t:=5) (l:=40) (n:=1) (g:=fun j=>[av ((dD l i).getD j default)]) D D fun j az=>rfl)<|fS 2 D<|bp<|dr D ?_
 show ai.d (.cK 1 (dD l i).length _)=_;rw[wi];rfl
def De(p:aD)(l:List Int)(i k:Nat):Int:=fu (bif decide (0<(l.length:Int))then l.getD ((i+k)%l.length) default else 0) (p.params.getD k default).lo (p.params.getD k default).hi
def ln(p:aD)(l:List Int)(i n:Nat):List Int:=(List.range n).map (De p l i)
def fW(p:aD)(l:List Int)(n:Nat):List (List Int):=(List.range n).map fun i=>ln p l i p.params.length
theorem Bk(p:aD)(l:List Int)(i n:Nat):(ln p l i n).length=n:=by simp[ln]
theorem Uo(p:aD)(l:List Int)(i n:Nat):ln p l i (n+1)=ln p l i n++[De p l i n]:=by simp[ln,List.range_succ]
theorem Df(p:aD)(l:List Int)(n:Nat):(fW p l n).length=n:=by simp[fW]
theorem ahe(p:aD)(l:List Int)(n:Nat):fW p l (n+1)=fW p l n++[ln p l n p.params.length]:=by simp[fW,List.range_succ]
theorem Up(p:aD)(Z:p.b5)(l:List Int)(n:Nat)(aa:l.length<=4611686018427387904)(nZ:n<=1000000):bw prog 11 [.d (fR p),.d (ch l),aF .i64 n] [] (.d (nI (fW p l n))) [] []:=by
 have B4:=Z.nf
 refine cB [.tmp 6] func11 D D fun E K af=>?_
 refine aO (cV 3 D D D<|aN 1 D)<|al<|c1 (b1.hV (t:=3) (l:=3) D D)<|fS 1 D<|al<|al<|c1 (b1.ve (t:=7) (l:=40) (n:=1) (cs:=[.ds (([]:List (List Int)).map ch)]) D D (by rw[K];decide) (by rw[af];exact cC D) D (by simp[bz.len]))<|fS 1 rfl<|bX<|eP (σ:=Nat) [(ab 1,_),(ab 2,_),(ab 3,_)] (fun i=>[(ab 8,.aB (aF .i64 (i:Int))),(ab 7,.aB (.aQ 40 i)),(G 40,.U (.bG 1 i [.ds ((fW p l i).map ch)]))]) (fun i=>i<=n) (fun i=>n-i) 0 (ck D D<|aZ D<|aU) (ck D D<|aZ D<|aU) (Nat.zero_le _) fun i hi=>?_
 refine al<|aL 3 D<|a7 D (fun aP=>?_) fun aP=>?_
 ·have aG:i<n:=by have:=cJ aP;omega
  have hO:=Df p l i
  refine bx<|al<|bX<|al<|gI 40 41 D<|fS 1 D<|al<|al<|c1 (b1.ve (t:=9) (l:=42) (n:=1) (cs:=[.cv .i64 []]) D D (by rw[K];decide) (by rw[af];exact cC D) D (by simp[bz.len]))<|fS 1 rfl<|bX<|eP (σ:=Nat) [(ab 1,_),(ab 2,_),(ab 3,_),(ab 7,_),(ab 8,_),(G 41,_)] (fun k=>[(ab 10,.aB (aF .i64 (k:Int))),(ab 9,.aB (.aQ 42 k)),(G 42,.U (.bG 1 k [.cv .i64 (ln p l i k)]))]) (fun k=>k<=p.params.length) (fun k=>p.params.length-k) 0 (ck D D<|aZ D<|aU) (da D D D D<|ck D D<|aU) (Nat.zero_le _) fun k jM=>?_
  refine al<|aL 5 D<|a7 D (fun bq=>?_) fun bq=>?_
  ·have Uq:k<p.params.length:=eJ bq
   have jB:=Bk p l i k
   refine bx<|al<|bX<|al<|gI 42 43 D<|fS 1 D<|al<|aL 3 D<|a7 D (fun b3=>?_) fun b3=>?_
   ·have oa:0<l.length:=eJ b3
    have mb:=Nat.mod_lt (i+k) oa
    have hk:(ln p l i (k+1))=(ln p l i k)++[fu (l.getD ((i+k)%l.length) default) (p.params.getD k default).lo (p.params.getD k default).hi]:=by rw[Uo,De,show decide (0<(l.length:Int))=true from b3,cond_true]
    exact bm (O 3 D<|cp D D D<|O 2 D<|ag ((Pure.rem (I D) (I D) fun _=>by omega).bK (y:=aF .i64 (((i+k)%l.length:Nat):Int)) D)<|bW fB D D<|aN 2 D)<|eo (O 4 D<|bW lE D D<|O 6 D<|bW lE D D<|O 2 D<|ag (.min2 (I D) (I D))<|ag (.max2 (I D) (I D))<|gN 52 [] iQ iC D (by decide) (by decide) (ba D D D (.nil _ _)) D D D<|hA 42 [G 43] p0 p1 (by decide) (.aQ (I D) D) (.aQ (I D) D) (bz.hT D) (hB D) (by omega) (by omega) (cs:=[.cv .i64 (ln p l i (k+1))]) (by rw[hk];rfl) D<|aN 1 D)<|bm (O 1 D<|cp D D D<|aN 1 D)<|⟨k+1,Uq,fD (by assumption),aZ (ec (by omega))<|ck D D<|aU,da D D D D<|ck D D<|aU⟩
   have hk:(ln p l i (k+1))=(ln p l i k)++[fu 0 (p.params.getD k default).lo (p.params.getD k default).hi]:=by rw[Uo,De,show decide (0<(l.length:Int))=false from b3,cond_false]
   exact bx<|eo (O 4 D<|bW lE D D<|O 6 D<|bW lE D D<|O 2 D<|ag (.min2 (I D) (I D))<|ag (.max2 (I D) (I D))<|gN 52 [] iQ iC D (by decide) (by decide) (ba D D D (.nil _ _)) D D D<|hA 42 [G 43] p0 p1 (by decide) (.aQ (I D) D) (.aQ (I D) D) (bz.hT D) (hB D) (by omega) (by omega) (cs:=[.cv .i64 (ln p l i (k+1))]) (by rw[hk];rfl) D<|aN 1 D)<|bm (O 1 D<|cp D D D<|aN 1 D)<|⟨k+1,Uq,fD (by assumption),aZ (ec (by omega))<|ck D D<|aU,da D D D D<|ck D D<|aU⟩
  obtain rfl:k=p.params.length:=by have:=dj bq;omega
  have jB:=Bk p l i p.params.length
  exact dW<|c1 (b1.tb (t:=9) (l:=42) (n:=1) (g:=fun j=>[av ((ln p l i p.params.length).getD j default)]) D D fun j az=>rfl)<|bm (O 1 D<|ag ((Pure.move (I D)).bK (y:=.d (ch (ln p l i p.params.length))) (by rw[show ch (ln p l i p.params.length)=bg.cK 1 p.params.length fun j=>[av ((ln p l i p.params.length).getD j default)]from by show bg.cK 1 (ln p l i p.params.length).length _=_;rw[jB]]))<|gN 56 [] BQ BN rfl (by decide) (by decide) (ba D D D (.nil _ _)) D D D<|hA 40 [G 41] Em En (by decide) (.aQ (I D) D) (.aQ (I D) D) (bz.hT D) (hB D) (by omega) (by omega) (cs:=[.ds ((fW p l (i+1)).map ch)]) (by rw[ahe,List.map_append];rfl) D<|aN 1 D)<|bm (O 1 D<|cp D D D<|aN 1 D)<|⟨i+1,aG,fD (by assumption),aZ (ec (by omega))<|ck D D<|aU,ck D D<|aZ D<|aU⟩
 obtain rfl:i=n:=by have:=dj aP;omega
 refine dW<|al<|c1 (b1.tb (t:=7) (l:=40) (n:=1) (g:=fun j=>[ch ((fW p l i).getD j default)]) D D fun j az=>(C5 (by rw[Df];exact az)).symm)<|fS 2 D<|bp<|dr D ?_
 show ai.d (.cK 1 (fW p l i).length _)=_;rw[Df];rfl
def fv(p:aD)(xs:List Int)(k:Nat):List Int:=(xs.drop k).take (p.cR.toNat+1)
theorem Pure.p7{P:Program}{S:ad}{dE:List Nat}{o:Oper}{c:Bool}{x y:ai}(h:Pure P S dE o c x)(he:∀V M v,bU V M x v->bU V M y v):Pure P S dE o c y:=
 ⟨h.1,fun E V M a w aM aj=>let⟨v,J,W⟩:=h.2 E V M a w aM aj;⟨v,J,he V M v W⟩⟩
theorem Ur{n len:Nat}{g g':Nat->List bg}(h:∀i,i<len->g i=g' i):∀V M v,bU V M (.d (.cK n len g)) v->bU V M (.d (.cK n len g')) v:=fun V M v aK=>by
 cases aK with
 |d _ _ aK=>
  cases aK with
  |ji=>exact .d _ _ (.ji _ _ _ _)
  |cK _ _ _ b o cap aj aa f aw aq=>
   exact .d _ _ (.cK _ _ _ b o cap aj (fun i hi=>h i hi▸aa i hi) f aw fun i j x hi Y=>aq i j x hi (by rw[h i hi];exact Y))
theorem Us{p:aD}{xs:List Int}{k:Nat}(bb:0<=p.cR)(h:(k:Int)+p.cR+1<=xs.length):∀V M v,bU V M (.d (.cK 1 (((k:Int)+p.cR+1).toNat-(k:Int).toNat) fun i=>[av (xs.getD ((k:Int).toNat+i) default)])) v->bU V M (.d (ch (fv p xs k))) v:=by
 have aa:(fv p xs k).length=p.cR.toNat+1:=by unfold fv;rw[rv,h1];omega
 show∀V M v,_->bU V M (ai.d (.cK 1 (fv p xs k).length fun i=>[av ((fv p xs k).getD i default)])) v
 rw[aa,show((k:Int)+p.cR+1).toNat-(k:Int).toNat=p.cR.toNat+1 by omega]
 refine Ur fun i hi=>?_
 have:(fv p xs k).getD i default=xs.getD ((k:Int).toNat+i) default:=by
  unfold fv
  simp only[cN,pQ hi,List.getElem?_drop,Int.toNat_natCast]
 rw[this]
def eB(p:aD)(bD:List (List Int))(ay ax:List Int)(s:fa):Nat->fa×List Int
 |0=>(s,[])
 |i+1=>((xC p (bD.getD i default) (fv p ay i) (fv p ax i) (eB p bD ay ax s i).1).2,(eB p bD ay ax s i).2++[(xC p (bD.getD i default) (fv p ay i) (fv p ax i) (eB p bD ay ax s i).1).1])
theorem zp{p:aD}{bD:List (List Int)}{ay ax:List Int}{s:fa}:∀n,(eB p bD ay ax s n).2.length=n
 |0=>rfl
 |n+1=>by rw[eB,ef,zp n];rfl
theorem Dg{p:aD}{fd:List bh}(eG:qi p fd)(cj:∀i,i<p.a1.length->1<=(p.a1.getD i default).size){bD:List (List Int)}{ay ax:List Int}{n:Nat}(aC:∀k,k<n->qX p (bD.getD k default) (fv p ay k) (fv p ax k)){s:fa}(an:kx p s):∀i,i<=n->kx p (eB p bD ay ax s i).1
 |0,_=>an
 |i+1,hi=>adL eG.pL cj (aC i (by omega)) (Dg eG cj aC an i (by omega))
theorem ahf(p:aD)(Z:p.b5){fd:List bh}(eG:qi p fd)(eU:rP p=true)(cj:∀i,i<p.a1.length->1<=(p.a1.getD i default).size)(tK:0<=p.cR)(ajP:p.cR<=1000){bD:List (List Int)}{ay ax:List Int}{n:Nat}(hO:bD.length=n)(lV:n<=1000000)(Ue:(ay.length:Int)=n+p.cR)(hc:(ax.length:Int)=n+p.cR)(aC:∀k,k<n->qX p (bD.getD k default) (fv p ay k) (fv p ax k)){s:fa}(an:kx p s):bw prog 13 [.d (fR p),.d (nI bD),.d (ch ay),.d (ch ax),.d (lN s)] [] (.bE [.d (ch (eB p bD ay ax s n).2),.d (lN (eB p bD ay ax s n).1),bk true]) [] []:=by
 refine cB [.tmp 10,.cell 11 45,.tmp 12] func13 D D fun E K af=>?_
 refine aO (cV 5 D D D<|cV 9 D D D<|O 1 D<|cm 11 sf D<|aN 1 D)<|al<|al<|c1 (b1.hV (t:=5) (l:=5) D D)<|c1 (b1.ve (t:=10) (l:=40) (n:=1) (cs:=[.cv .i64 []]) D D (by rw[K];decide) (by rw[af];exact cC D) D (by simp[bz.len]))<|fS 1 rfl<|bX<|eP (σ:=Nat) [(ab 1,_),(ab 2,_),(ab 3,_),(ab 5,_),(ab 9,_),(ab 11,_),(G 11,_)] (fun i=>[(ab 13,.aB (aF .i64 (i:Int))),(ab 10,.aB (.aQ 40 i)),(G 40,.U (.bG 1 i [.cv .i64 (eB p bD ay ax s i).2])),(G 9,.U (.data (Mp (eB p bD ay ax s i).1)))]) (fun i=>i<=n) (fun i=>n-i) 0 (da D D D D<|aU) (da D D D D<|ck D D<|aZ D<|aU) (Nat.zero_le _) fun i hi=>?_
 refine al<|aL 4 D<|a7 D (fun aP=>?_) fun aP=>?_
 ·have aG:i<n:=by have:=cJ aP;omega
  have I7:=Dg eG cj aC an i (Nat.le_of_lt aG)
  have u2:=zp (p:=p) (bD:=bD) (ay:=ay) (ax:=ax) (s:=s) i
  refine bx<|al<|bX<|ft (O 3 D<|ag ((eN pr D D).bK (y:=.cc [ch (bD.getD i default)]) D)<|O 6 D<|cp D D D<|cp D D D<|ag ((Pure.rq iQ (I D) (.bK _ (I D) fun _=>by omega) (.bK _ (I D) fun _=>by omega) fun _=>⟨by omega,by omega⟩).p7 (y:=.d (ch (fv p ay i))) (by exact Us tK (by omega)))<|O 5 D<|cp D D D<|cp D D D<|ag ((Pure.rq iQ (I D) (.bK _ (I D) fun _=>by omega) (.bK _ (I D) fun _=>by omega) fun _=>⟨by omega,by omega⟩).p7 (y:=.d (ch (fv p ax i))) (by exact Us tK (by omega)))<|O 1 D<|kI (vK D D D D D) (aeZ p Z eG eU _ _ _ (aC i aG) _ I7) (au D) .nil D<|O 4 D<|cm 15 sf D<|O 1 D<|cL nB D D D D<|aN 1 D)<|al<|al<|gI 40 41 D<|fS 2 D<|a7 D (fun bq=>?_) fun bq=>?_
  ·cases bq
  exact bx<|aO (O 2 D<|gN 55 [] iQ iC D (by decide) (by decide) (ba D D D (.nil _ _)) D D D<|hA 40 [G 41] p0 p1 (by decide) (.aQ (I D) D) (.aQ (I D) D) (bz.hT D) (hB D) (by omega) (by omega) (cs:=[.cv .i64 (eB p bD ay ax s (i+1)).2]) D D<|aN 1 D)<|bm (O 1 D<|cL nB D D D D<|ar)<|bm (O 1 D<|cp D D D<|aN 1 D)<|⟨i+1,aG,fD (by assumption),aZ (ec (by omega))<|ck D D<|aZ D<|aU,da D D D D<|ck D D<|aZ D<|aU⟩
 obtain rfl:i=n:=by have:=dj aP;omega
 have u2:=zp (p:=p) (bD:=bD) (ay:=ay) (ax:=ax) (s:=s) i
 refine dW<|al<|c1 (b1.tb (t:=10) (l:=40) (n:=1) (g:=fun j=>[av ((eB p bD ay ax s i).2.getD j default)]) D D fun j az=>rfl)<|eo (O 3 D<|cL nB D D D D<|aN 1 D)<|bp<|⟨.inr D,⟨_,(.cons (.tmp D) (.cons (.iP D D nB D) (.cons (.tmp D) .nil))),?_⟩,by simp[ad.get]⟩
 show ai.bE [.d (.cK 1 (eB p bD ay ax s i).2.length _),_,_]=_;rw[u2];rfl
structure Ni(p:aD)(e jJ:gw):Prop where
 n2:0<=p.cR
 bj:e.bj=jJ.bj
 bF:e.bF=jJ.bF
 ay:∀i:Nat,(i:Int)<=p.cR->e.ay.getD i 0=jJ.ay.getD i 0
 ax:∀i:Nat,(i:Int)<=p.cR->e.ax.getD i 0=jJ.ax.getD i 0
theorem ahg{p:aD}{e jJ:gw}(h:Ni p e jJ)(m:lL)(i:Int×Int):o2 p e m i=o2 p jJ m i:=by
 obtain⟨aa,Z,nu,hi,an⟩:=h
 obtain⟨bj,ay,ax,bF⟩:=e
 obtain⟨par',Nj,Nk,ajQ⟩:=jJ
 dsimp only at Z nu hi an
 subst Z;subst nu
 have a:=FX (m.bO.getD 0 0) aa
 have aX:=hi (fu (m.bO.getD 0 0) 0 p.cR).toNat (by omega)
 have bu:=an (fu (m.bO.getD 0 0) 0 p.cR).toNat (by omega)
 unfold o2
 dsimp only
 rw[aX,bu]
theorem Ut{p:aD}{e jJ:gw}(h:Ni p e jJ):∀(c:dC) (m:lL),o3 p e m c=o3 p jJ m c
 |[],_=>rfl
 |i::c,m=>by
  show o3 p e (o2 p e m i) c=o3 p jJ (o2 p jJ m i) c
  rw[ahg h,Ut h c]
theorem Uu(p:aD)(e:gw)(m:lL)(c:dC):∀n,n<=c.length->kM p e m c n=o3 p e m (c.take n)
 |0,_=>rfl
 |n+1,af=>by
  rw[kM,Uu p e m c n (by omega),List.take_add_one,dx (by omega),Option.toList_some,rS,cN,dx (by omega)]
  rfl
theorem ahh(p:aD)(c:dC)(r:Int)(e:gw)(vs:List Int)(o:Int):nJ p c r e vs o=o3 p e ⟨[],List.replicate r.toNat 0,vs,[],o⟩ c:=by
 rw[nJ,Uu _ _ _ _ _ (Nat.le_refl _),List.take_length]
theorem ahi{p:aD}(eT:nk p){n:Nat}(af:n<p.ah.length):(bN p n).r<=(bN p (n+1)).r:=by
 have aa:=q2 (rg:=(bN p n).rg) (p.ah.getD n default).x (eT.lZ n af) (bN p n).r
 have J:(bN p n).r<=(bP (bN p n).rg (b9 p n).x (bN p n).r).2:=aa.2.1
 rw[bN]
 unfold pN
 simp only
 split<;>simp only<;>omega
theorem ahj{p:aD}{lets:List Int}{o0:Int}{N:Nat}(h:(b9 p N).kind=4):q7 p lets o0 (N+1)=l0 p lets (N+1):=by
 rw[q7,l0,h];rfl
theorem Uv{p:aD}(aa:0<=p.cR){xs:List Int}{k i:Nat}(hi:(i:Int)<=p.cR):(xs.drop k).getD i 0=(fv p xs k).getD i 0:=by
 unfold fv
 simp only[cN,pQ (show i<p.cR.toNat+1 by omega)]
abbrev jh(p:aD):dC:=(bN p p.ah.length).c
abbrev ns(p:aD):Int:=(bN p p.ah.length).r
theorem ahk{p:aD}{fd:List bh}(eG:qi p fd)(tK:0<=p.cR){bD:List (List Int)}{ay ax:List Int}{s:fa}{k:Nat}(aC:qX p (bD.getD k default) (fv p ay k) (fv p ax k))(an:kx p s)(o0:Int):
  (nJ p (jh p) (ns p) (q6 bD ay ax k s) s.bV o0).bQ=(xC p (bD.getD k default) (fv p ay k) (fv p ax k) s).1/\(nJ p (jh p) (ns p) (q6 bD ay ax k s) s.bV o0).bV=(xC p (bD.getD k default) (fv p ay k) (fv p ax k) s).2.bV/\
   q5 (nJ p (jh p) (ns p) (q6 bD ay ax k s) s.bV o0).gW s.bF=(xC p (bD.getD k default) (fv p ay k) (fv p ax k) s).2.bF:=by
 have cy:=A6 eG.res
 have hk:=eG.pL
 obtain⟨g,ps,aX,_,_,iw,_,uB⟩:=Ui hk (fun i hi=>eG.Mk hi) cy aC an (List.replicate (ns p).toNat 0) o0 (by rw[List.length_replicate];show ns p<=_;omega) p.ah.length (Nat.le_refl _) (Int.le_refl _)
 have oT:Ni p (q6 bD ay ax k s) (b0 (bD.getD k default) (fv p ay k) (fv p ax k) s).qj:=⟨tK,rfl,rfl,fun i hi=>Uv tK hi,fun i hi=>Uv tK hi⟩
 rw[ahh,Ut oT,aX]
 refine⟨?_,rfl,uB⟩
 have oh:=cy.pos
 have uk:=cy.Bp
 obtain⟨N,ik⟩:∃N,p.ah.length=N+1:=⟨p.ah.length-1,by omega⟩
 show q7 p (AW p _ _ _ s).lets o0 p.ah.length=l0 p (AW p _ _ _ s).lets p.ah.length
 rw[ik]at uk
 generalize(AW p (bD.getD k default) (fv p ay k) (fv p ax k) s).lets=ls
 rw[ik]
 exact ahj uk
theorem Uw{p:aD}{fd:List bh}(eG:qi p fd)(tK:0<=p.cR)(cj:∀i,i<p.a1.length->1<=(p.a1.getD i default).size){bD:List (List Int)}{ay ax:List Int}{n:Nat}(aC:∀k,k<n->qX p (bD.getD k default) (fv p ay k) (fv p ax k)){s:fa}(an:kx p s):
  ∀i,i<=n->(gx p (jh p) (ns p) bD ay ax s i).1.1=(eB p bD ay ax s i).1/\(gx p (jh p) (ns p) bD ay ax s i).2=(eB p bD ay ax s i).2
 |0,_=>⟨rfl,rfl⟩
 |i+1,hi=>by
  obtain⟨J,W⟩:=Uw eG tK cj aC an i (by omega)
  have I7:=Dg eG cj aC an i (by omega)
  rw[<-J]at I7
  obtain⟨eE,eV,hl⟩:=ahk eG tK (aC i (by omega)) I7 (gx p (jh p) (ns p) bD ay ax s i).1.2
  rw[gx,eB,W,<-J]
  unfold gJ
  rw[eE,eV,hl]
  exact⟨rfl,rfl⟩
section
theorem ahl{p:aD}{m:Nat}{f g:ee}{x:aR}(Y:n8 p m x)(ls:List Int)(J:f.bj=g.bj)(W:f.ay=g.ay)(aH:f.ax=g.ax)(aV:x.kind=4->f.bV.getD x.index.toNat 0=g.bV.getD x.index.toNat 0)(db:x.kind=5->f.lets.getD x.index.toNat 0=g.lets.getD x.index.toNat 0)(h9:x.kind=8->f.bF.getD x.index.toNat []=g.bF.getD x.index.toNat []):gA p f x ls=gA p g x ls:=by
 rcases Y.cases with K|K|K|K|K|K|K|K|K|K|K|K|K|K|K|K|K|K<;>(unfold gA;rw[K])
 ·rfl
 ·exact congrArg (fun l:List Int=>l.getD x.index.toNat 0) J
 ·exact aV K
 ·exact db K
 ·exact congrArg (fun l:List Int=>l.getD (ls.getD 0 0).toNat 0) W
 ·exact congrArg (fun l:List Int=>l.getD (ls.getD 0 0).toNat 0) aH
 ·exact congrArg (fun l:List Int=>l.getD (fu (ls.getD 0 0) 0 ((l.length:Int)-1)).toNat 0) (h9 K)
 all_goals rfl
theorem ahm{p:aD}{m:Nat}{f g:ee}{Q:aR->Prop}(J:f.bj=g.bj)(W:f.ay=g.ay)(aH:f.ax=g.ax)(kz:∀x,Q x->n8 p m x/\(x.kind=4->f.bV.getD x.index.toNat 0=g.bV.getD x.index.toNat 0)/\(x.kind=5->f.lets.getD x.index.toNat 0=g.lets.getD x.index.toNat 0)/\(x.kind=8->f.bF.getD x.index.toNat []=g.bF.getD x.index.toNat [])/\∀y∈x.l,Q y):∀x:aR,Q x->eY p f x=eY p g x:=aR.ind fun x aJ bA=>by
 obtain⟨a,b,c,d,e⟩:=kz x bA
 rw[y4,y4,show fm p f x.l=fm p g x.l by rw[FE,FE];exact List.map_congr_left fun y ak=>aJ y ak (e y ak)]
 exact ahl a _ J W aH b c d
theorem Dh{p:aD}{f:ee}{k:Nat}:∀n,(∀j,j<n->(b9 p j).kind=2->(b9 p j).index.toNat≠k)->(bL p f n).bV.getD k 0=f.bV.getD k 0
 |0,_=>rfl
 |n+1,h=>by
  have aJ:=Dh (p:=p) (f:=f) (k:=k) n fun j az=>h j (by omega)
  simp only[bL,rR]
  cases K:decide ((b9 p n).kind=2)with
  |false=>exact aJ
  |true=>rw[cond_true,oj,if_neg fun e=>h n (qk n) (cJ K) e.1];exact aJ
theorem F9{p:aD}{f:ee}{k b:Nat}(aa:k<f.bV.length)(ae:(b9 p b).kind=2)(hi:(b9 p b).index.toNat=k):∀n,b<n->(∀j,b<j->j<n->(b9 p j).kind=2->(b9 p j).index.toNat≠k)->(bL p f n).bV.getD k 0=eY p (bL p f b) (b9 p b).x
 |n+1,ru,h=>by
  simp only[bL,rR]
  rcases nj (qW ru)with aG|rfl
  ·have aJ:=F9 aa ae hi n aG fun j J W=>h j J (by omega)
   cases K:decide ((b9 p n).kind=2)with
   |false=>exact aJ
   |true=>rw[cond_true,oj,if_neg fun e=>h n aG (qk n) (cJ K) e.1];exact aJ
  ·rw[gl ae,cond_true,oj,if_pos ⟨hi,by rw[hi,AX];exact aa⟩]
theorem Nl(p:aD)(lets:List Int)(ls:List (List Int)):∀n,(mm p lets ls n).length=ls.length
 |0=>rfl
 |n+1=>by
  unfold mm
  cases decide ((b9 p n).kind=3)
  ·exact Nl p lets ls n
  ·rw[cond_true,nH];exact Nl p lets ls n
theorem Nn{p:aD}{lets:List Int}{ls:List (List Int)}{k:Nat}:∀n,(∀j,j<n->(b9 p j).kind=3->(b9 p j).index.toNat≠k)->(mm p lets ls n).getD k []=ls.getD k []
 |0,_=>rfl
 |n+1,h=>by
  have aJ:=Nn (p:=p) (lets:=lets) (ls:=ls) (k:=k) n fun j az=>h j (by omega)
  unfold mm
  cases K:decide ((b9 p n).kind=3)with
  |false=>exact aJ
  |true=>rw[cond_true,oj,if_neg fun e=>h n (qk n) (cJ K) e.1];exact aJ
theorem No{p:aD}{lets:List Int}{ls:List (List Int)}{k b:Nat}(aa:k<ls.length)(ae:(b9 p b).kind=3)(hi:(b9 p b).index.toNat=k):∀n,b<n->(∀j,j<n->j≠b->(b9 p j).kind=3->(b9 p j).index.toNat≠k)->(mm p lets ls n).getD k []=lets.getD b 0::(ls.getD k []).dropLast
 |n+1,ru,h=>by
  unfold mm
  rcases nj (qW ru)with aG|rfl
  ·have aJ:=No (lets:=lets) aa ae hi n aG fun j J W=>h j (by omega) W
   cases K:decide ((b9 p n).kind=3)with
   |false=>exact aJ
   |true=>rw[cond_true,oj,if_neg fun e=>h n (qk n) (by omega) (cJ K) e.1];exact aJ
  ·have bb:=Nn (p:=p) (lets:=lets) (ls:=ls) (k:=k) b fun j az=>h j (by omega) (by omega)
   rw[gl ae,cond_true,oj,if_pos ⟨hi,by rw[hi,Nl];exact aa⟩,hi,bb]
theorem ahn{α:Type}{l l':List α}{d:Nat}(h:l.take d=l'.take d)(aa:l.length=l'.length):l.dropLast.take d=l'.dropLast.take d:=by
 rw[List.dropLast_eq_take,List.dropLast_eq_take,List.take_take,List.take_take,Nat.min_comm d,Nat.min_comm d,<-List.take_take,<-List.take_take,h,aa]
section
variable (p:aD) (bD:List (List Int)) (ay ax:List Int)
abbrev l2(s:fa)(t:Nat):fa:=(eB p bD ay ax s t).1
abbrev Ga(s:fa)(t:Nat):ee:=b0 (bD.getD t default) (fv p ay t) (fv p ax t) (l2 p bD ay ax s t)
abbrev wj(s:fa)(t:Nat):List Int:=(bL p (Ga p bD ay ax s t) p.ah.length).lets
end
section
variable {p:aD} {bD:List (List Int)} {ay ax:List Int}
theorem zq(s:fa)(t:Nat){a:Nat}(h:a<p.ah.length):(wj p bD ay ax s t).getD a 0=eY p (bL p (Ga p bD ay ax s t) a) (b9 p a).x:=C0 p _ D _ h
theorem Ux(eT:nk p){k:Nat}(h:cb (iY p p.ah.length) (2,(k:Int))=none):∀j,j<p.ah.length->(b9 p j).kind=2->(b9 p j).index.toNat≠k:=fun j az K e=>by
 have:=eT.set j az K
 exact IA (.inl D) h j az K (by show(p.ah.getD j default).index=_;have e:(p.ah.getD j default).index.toNat=k:=e;omega)
theorem aho(eT:nk p){k:Nat}(h:cb (iY p p.ah.length) (3,(k:Int))=none):∀j,j<p.ah.length->(b9 p j).kind=3->(b9 p j).index.toNat≠k:=fun j az K e=>by
 have:=eT.push j az K
 exact IA (.inr D) h j az K (by show(p.ah.getD j default).index=_;have e:(p.ah.getD j default).index.toNat=k:=e;omega)
theorem I8(eT:nk p){s:fa}{k:Nat}(h:cb (iY p p.ah.length) (2,(k:Int))=none):∀t,(l2 p bD ay ax s t).bV.getD k 0=s.bV.getD k 0
 |0=>rfl
 |t+1=>(Dh (f:=Ga p bD ay ax s t) p.ah.length (Ux eT h)).trans (I8 eT h t)
theorem I9(eT:nk p){s:fa}{k:Nat}(h:cb (iY p p.ah.length) (3,(k:Int))=none):∀t,(l2 p bD ay ax s t).bF.getD k []=s.bF.getD k []
 |0=>rfl
 |t+1=>(Nn (lets:=wj p bD ay ax s t) (ls:=(l2 p bD ay ax s t).bF) p.ah.length (aho eT h)).trans (I9 eT h t)
theorem Uy(cy:A5 p)(eT:nk p){s k0:fa}{n k b:Nat}(K:k<p.a1.length)(dX:∀t,t<=n->kx p (l2 p bD ay ax s t))(Di:∀t,t<=n->kx p (l2 p bD ay ax k0 t))(ae:b<p.ah.length)(vV:(b9 p b).kind=3)(Ja:(b9 p b).index.toNat=k):
  ∀d t,d<=t->t<=n->(∀u,t-d<=u->u<t->(wj p bD ay ax s u).getD b 0=(wj p bD ay ax k0 u).getD b 0)->((l2 p bD ay ax s t).bF.getD k []).take d=((l2 p bD ay ax k0 t).bF.getD k []).take d
 |0,t,_,_,_=>rfl
 |d+1,0,h,_,_=>by omega
 |d+1,t+1,h,af,hu=>by
  have aJ:=Uy cy eT K dX Di ae vV Ja d t (by omega) (by omega) fun u J W=>hu u (by omega) (by omega)
  have xN:∀j,j<p.ah.length->j≠b->(b9 p j).kind=3->(b9 p j).index.toNat≠k:=fun j az ahp Jb e=>by
   have J:=eT.push j az Jb
   have W:=eT.push b ae vV
   have e:(p.ah.getD j default).index.toNat=k:=e
   have bu:(p.ah.getD b default).index.toNat=k:=Ja
   rcases Nat.lt_or_gt_of_ne ahp with aG|aG
   ·exact cy.C2 j b aG ae (by rw[Jb];rfl) (by rw[Jb,vV]) (by show(p.ah.getD j default).index=(p.ah.getD b default).index;omega)
   ·exact cy.C2 b j aG az (by rw[vV];rfl) (by rw[Jb,vV]) (by show(p.ah.getD b default).index=(p.ah.getD j default).index;omega)
  have xB:=dX t (by omega)
  have Be:=Di t (by omega)
  have aX:(l2 p bD ay ax s (t+1)).bF.getD k []=(wj p bD ay ax s t).getD b 0::((l2 p bD ay ax s t).bF.getD k []).dropLast:=No (by rw[xB.gH];exact K) vV Ja _ ae xN
  have bu:(l2 p bD ay ax k0 (t+1)).bF.getD k []=(wj p bD ay ax k0 t).getD b 0::((l2 p bD ay ax k0 t).bF.getD k []).dropLast:=No (by rw[Be.gH];exact K) vV Ja _ ae xN
  have FZ:=xB.lK k K
  have z2:=Be.lK k K
  rw[aX,bu,List.take_succ_cons,List.take_succ_cons,hu t (by omega) (by omega),ahn aJ (by omega)]
theorem ahq(cy:A5 p)(eT:nk p){bC:eX}(hi:sK p (iY p p.ah.length) bC){n:Nat}{s k0:fa}(dX:∀t,t<=n->kx p (l2 p bD ay ax s t))(Di:∀t,t<=n->kx p (l2 p bD ay ax k0 t))
  (aK:∀k:Nat,cb (iY p p.ah.length) (2,(k:Int))=none->s.bV.getD k 0=k0.bV.getD k 0) (aa:∀k:Nat,cb (iY p p.ah.length) (3,(k:Int))=none->s.bF.getD k []=k0.bF.getD k []) (cj:∀i,i<p.a1.length->0<=(p.a1.getD i default).size):
  ∀t,t<n->∀a:Nat,a<p.ah.length->∀v,cb bC.1 (a:Int)=some v->v<=t->(wj p bD ay ax s t).getD a 0=(wj p bD ay ax k0 t).getD a 0:=by
 intro t
 induction t using Nat.strongRecOn with
 |_ t Ix=>
  intro sq a
  induction a using Nat.strongRecOn with
  |_ a Uz=>
   intro aC v ahr UA
   obtain⟨_,_,CX,_,_⟩:=hi.mP _ _ ahr
   have CX:rU p (iY p p.ah.length) bC.1 a v (b9 p a).x:=CX
   have UB:=dX t (Nat.le_of_lt sq)
   have UC:=Di t (Nat.le_of_lt sq)
   rw[zq s t aC,zq k0 t aC]
   refine ahm (m:=a) (Q:=fun y=>ff p a y/\rU p (iY p p.ah.length) bC.1 a v y) (by rw[FG,FG]) (by rw[FH,FH]) (by rw[FI,FI]) (fun y ak=>?_) _ ⟨eT.lZ a aC,CX⟩
   obtain⟨bf,aM⟩:=ak
   cases bf with
   |mk Y oC=>
    cases aM with
    |mk Z wH=>
     refine⟨Y,fun K=>?_,fun K=>?_,fun K=>?_,fun z bd=>⟨oC z bd,wH z bd⟩⟩
     ·have ae:=Y.nG K
      have Np:((y.index.toNat:Nat):Int)=y.index:=by omega
      cases aw:cb (iY p p.ah.length) (2,y.index)with
      |none=>
       have k5:cb (iY p p.ah.length) (2,((y.index.toNat:Nat):Int))=none:=by rw[Np];exact aw
       have xz:=Ux eT k5
       rw[Dh a fun j az=>xz j (by omega),Dh a fun j az=>xz j (by omega)]
       show(l2 p bD ay ax s t).bV.getD _ 0=(l2 p bD ay ax k0 t).bV.getD _ 0
       rw[I8 eT k5,I8 eT k5]
       exact aK _ k5
      |some b=>
       obtain⟨Dj,eE,eV,hl⟩:=Z.nG K b aw
       obtain⟨j,rfl,az,pH,Jc⟩:=Iz aw
       have Jd:(b9 p j).index.toNat=y.index.toNat:=by rw[Jc]
       have xN:∀i,i<p.ah.length->i≠j->(b9 p i).kind=2->(b9 p i).index.toNat≠y.index.toNat:=fun i jb iK kC e=>by
        have J:=eT.set i jb kC
        have e:(p.ah.getD i default).index.toNat=y.index.toNat:=e
        have bu:(p.ah.getD j default).index=y.index:=Jc
        rcases Nat.lt_or_gt_of_ne iK with aG|aG
        ·exact cy.C2 i j aG az (by rw[kC];rfl) (by rw[kC,pH]) (by show(p.ah.getD i default).index=(p.ah.getD j default).index;omega)
        ·exact cy.C2 j i aG jb (by rw[pH];rfl) (by rw[kC,pH]) (by show(p.ah.getD j default).index=(p.ah.getD i default).index;omega)
       rcases Nat.lt_or_ge j a with Je|Je
       ·rw[F9 (by show y.index.toNat<(l2 p bD ay ax s t).bV.length;rw[UB.lj];omega) pH Jd a Je fun i J W=>xN i (by omega) (by omega),F9 (by show y.index.toNat<(l2 p bD ay ax k0 t).bV.length;rw[UC.lj];omega) pH Jd a Je fun i J W=>xN i (by omega) (by omega),<-zq s t az,<-zq k0 t az]
        exact Uz j Je az Dj eE (by omega)
       ·have hl:=hl (by omega)
        obtain⟨_,_,_,je,_⟩:=hi.mP _ _ eE
        rw[Dh a fun i J=>xN i (by omega) (by omega),Dh a fun i J=>xN i (by omega) (by omega)]
        show(l2 p bD ay ax s t).bV.getD _ 0=(l2 p bD ay ax k0 t).bV.getD _ 0
        obtain⟨u,rfl⟩:∃u,t=u+1:=⟨t-1,by omega⟩
        have ahs:=dX u (by omega)
        have aht:=Di u (by omega)
        show(bL p (Ga p bD ay ax s u) p.ah.length).bV.getD _ 0=(bL p (Ga p bD ay ax k0 u) p.ah.length).bV.getD _ 0
        rw[F9 (by show y.index.toNat<(l2 p bD ay ax s u).bV.length;rw[ahs.lj];omega) pH Jd _ az fun i J W=>xN i (by omega) (by omega),F9 (by show y.index.toNat<(l2 p bD ay ax k0 u).bV.length;rw[aht.lj];omega) pH Jd _ az fun i J W=>xN i (by omega) (by omega),<-zq s u az,<-zq k0 u az]
        exact Ix u (by omega) (by omega) j az Dj eE (by omega)
     ·have ae:=Y.lt K
      obtain⟨Dj,eE,eV⟩:=Z.lt K
      have aG:y.index.toNat<a:=by omega
      rw[C0 p _ rfl a aG,C0 p _ rfl a aG,<-zq s t (by omega),<-zq k0 t (by omega)]
      exact Uz _ aG (by omega) Dj (by rw[show((y.index.toNat:Nat):Int)=y.index by omega];exact eE) (by omega)
     ·have ae:=Y.rF K
      have Np:((y.index.toNat:Nat):Int)=y.index:=by omega
      rw[vZ,vZ]
      show(l2 p bD ay ax s t).bF.getD _ []=(l2 p bD ay ax k0 t).bF.getD _ []
      cases aw:cb (iY p p.ah.length) (3,y.index)with
      |none=>
       have k5:cb (iY p p.ah.length) (3,((y.index.toNat:Nat):Int))=none:=by rw[Np];exact aw
       rw[I9 eT k5,I9 eT k5]
       exact aa _ k5
      |some b=>
       obtain⟨Dj,eE,eV⟩:=Z.rF K b aw
       obtain⟨j,rfl,az,pH,Jc⟩:=Iz aw
       obtain⟨_,_,_,je,_⟩:=hi.mP _ _ eE
       have bd:=cj y.index.toNat (by omega)
       have FZ:=UB.lK y.index.toNat (by omega)
       have z2:=UC.lK y.index.toNat (by omega)
       have:=Uy cy eT (k:=y.index.toNat) (by omega) dX Di az pH (by rw[Jc]) (p.a1.getD y.index.toNat default).size.toNat t (by omega) (by omega) fun u J W=>Ix u W (by omega) j az Dj eE (by omega)
       rwa[List.take_of_length_le (by omega),List.take_of_length_le (by omega)]at this
theorem Nq{s:fa}{t:Nat}:∀n,t<n->(eB p bD ay ax s n).2.getD t 0=(xC p (bD.getD t default) (fv p ay t) (fv p ax t) (eB p bD ay ax s t).1).1
 |n+1,h=>by
  have aa:=zp (p:=p) (bD:=bD) (ay:=ay) (ax:=ax) (s:=s) n
  rw[eB]
  rcases nj (qW h)with aG|rfl
  ·rw[vX (by omega)];exact Nq n aG
  ·exact Me aa
theorem UD(cy:A5 p)(lets:List Int):l0 p lets p.ah.length=lets.getD (p.ah.length-1) 0:=by
 have oh:=cy.pos
 have uk:=cy.Bp
 generalize p.ah.length=N at oh uk
 obtain⟨M,rfl⟩:∃M,N=M+1:=⟨N-1,by omega⟩
 rw[l0,show decide ((b9 p M).kind=4)=true from gl uk]
 rfl
theorem ahu{fd:List bh}(eG:qi p fd)(ik:p.ah.length<=65536)(cj:∀i,i<p.a1.length->1<=(p.a1.getD i default).size/\(p.a1.getD i default).size<=65536){n:Nat}(aC:∀k,k<n->qX p (bD.getD k default) (fv p ay k) (fv p ax k)){s k0:fa}(an:kx p s)(q9:kx p k0)
  (aK:∀k:Nat,cb (iY p p.ah.length) (2,(k:Int))=none->s.bV.getD k 0=k0.bV.getD k 0) (aa:∀k:Nat,cb (iY p p.ah.length) (3,(k:Int))=none->s.bF.getD k []=k0.bF.getD k []) (bb:0<=oZ p) {t:Nat} (sq:t<n) (aT:oZ p<=t):
  (eB p bD ay ax s n).2.getD t 0=(eB p bD ay ax k0 n).2.getD t 0:=by
 have cy:=A6 eG.res
 have eT:=eG.pL.wf
 have oh:=cy.pos
 obtain⟨bC,hi,aw⟩:=aeB ik oh (fun i hi=>(eT.lZ i hi).up (Nat.le_of_lt hi)) (fun i hi=>by have:=cj i hi;omega) bb
 have:=ahq cy eT hi (bD:=bD) (ay:=ay) (ax:=ax) (n:=n) (fun t aT=>Dg eG (fun i hi=>(cj i hi).1) aC an t aT) (fun t aT=>Dg eG (fun i hi=>(cj i hi).1) aC q9 t aT) aK aa (fun i hi=>by have:=cj i hi;omega) t sq (p.ah.length-1) (by omega) (oZ p) (by rw[show((p.ah.length-1:Nat):Int)=(p.ah.length:Int)-1 by omega];exact aw) aT
 rw[Nq n sq,Nq n sq]
 show l0 p (wj p bD ay ax s t) p.ah.length=l0 p (wj p bD ay ax k0 t) p.ah.length
 rw[UD cy,UD cy]
 exact this
end
end
section
theorem Nr(l:List Int):∀n i,i<n->l.getD i 0<=(iq l n).1
 |n+1,i,h=>by
  unfold iq
  cases ae:decide ((iq l n).1<l.getD n 0)with
  |true=>
   have:=cJ ae
   rw[cond_true]
   rcases nj (qW h)with aG|rfl
   ·have:=Nr l n i aG;show _<=l.getD n 0;omega
   ·exact Int.le_refl _
  |false=>
   have:=dj ae
   rw[cond_false]
   rcases nj (qW h)with aG|rfl
   ·exact Nr l n i aG
   ·omega
theorem UE(l:List Int):∀n,0<(iq l n).1->(iq l n).1=l.getD (iq l n).2.toNat 0
 |0,h=>absurd h (Int.lt_irrefl 0)
 |n+1,h=>by
  unfold iq at h⊢
  cases ae:decide ((iq l n).1<l.getD n 0)with
  |true=>rfl
  |false=>
   rw[ae,cond_false]at h
   exact UE l n h
theorem Ns(l:List Int)(m:Int):∀n,m<=qZ l m n/\∀i,i<n->l.getD i 0+i<=qZ l m n
 |0=>⟨Int.le_refl _,fun i h=>by omega⟩
 |n+1=>by
  obtain⟨J,W⟩:=Ns l m n
  unfold qZ
  refine⟨by omega,fun i hi=>?_⟩
  rcases nj (qW hi)with aG|rfl
  ·have:=W i aG;omega
  ·omega
theorem UF(l:List Int)(m:Int):∀n,qZ l m n=m\/∃i,i<n/\qZ l m n=l.getD i 0+i
 |0=>.inl D
 |n+1=>by
  unfold qZ
  rcases UF l m n with h|⟨i,hi,h⟩
  ·by_cases aw:l.getD n 0+n<=m
   ·exact .inl (by omega)
   ·exact .inr ⟨n,qk n,by omega⟩
  ·by_cases aw:l.getD n 0+n<=qZ l m n
   ·exact .inr ⟨i,by omega,by omega⟩
   ·exact .inr ⟨n,qk n,by omega⟩
structure UG(x:aR):Prop where
 pos:∀i,i<x.l.length->1<=(bn x.l).getD i 0
 le:∀i,i<x.l.length->(bn x.l).getD i 0<=(bT (bn x.l)).1
 Dk:0<=(bT (bn x.l)).2
 Dl:0<x.l.length->(bT (bn x.l)).2<x.l.length
 eq:0<x.l.length->(bT (bn x.l)).1=(bn x.l).getD (bT (bn x.l)).2.toNat 0
theorem UH{x:aR}(h:∀i,i<x.l.length->1<=(bn x.l).getD i 0):UG x:=by
 have ir:=y7 (bn x.l) (bn x.l).length
 rw[mS]at ir
 have rT:bT (bn x.l)=iq (bn x.l) x.l.length:=by unfold bT;rw[mS]
 have hle:∀i,i<x.l.length->(bn x.l).getD i 0<=(bT (bn x.l)).1:=fun i hi=>by rw[rT];exact Nr _ _ i hi
 refine⟨h,hle,by rw[rT];exact ir.1,fun bb=>by rw[rT];exact ir.2.2 bb,fun bb=>?_⟩
 have J:=h 0 bb
 have W:=hle 0 bb
 rw[rT]at W⊢
 exact UE _ _ (by omega)
theorem Jf{x:aR}(h:x.l.length=2):eF x=max (bT (bn x.l)).1 ((bn x.l).getD (1-(bT (bn x.l)).2).toNat 0+1):=by
 rw[xF,q0,mS,h];rfl
theorem Nt{x:aR}(h:x.l.length=1):eF x=(bT (bn x.l)).1:=by
 rw[xF,q0,mS,h];rfl
theorem Dm{x:aR}(h:x.l.length=0):eF x=1:=by
 rw[xF,q0,mS,h];rfl
theorem Nu{x:aR}(h:x.l.length=4):eF x=qZ ((bn x.l).set (bT (bn x.l)).2.toNat 1) (bT (bn x.l)).1 4:=by
 rw[xF,q0,mS,h];rfl
theorem UI{p:aD}{m:Nat}{x:aR}(h:n8 p m x):x.l.length=0\/x.l.length=1\/x.l.length=2\/x.l.length=4:=by
 have aa:=h.len
 rcases h.cases with K|K|K|K|K|K|K|K|K|K|K|K|K|K|K|K|K|K<;>rw[K]at aa
 ·have aa:(x.l.length:Int)=0:=aa;omega
 ·have aa:(x.l.length:Int)=0:=aa;omega
 ·have aa:(x.l.length:Int)=0:=aa;omega
 ·have aa:(x.l.length:Int)=0:=aa;omega
 ·have aa:(x.l.length:Int)=1:=aa;omega
 ·have aa:(x.l.length:Int)=1:=aa;omega
 ·have aa:(x.l.length:Int)=1:=aa;omega
 ·have aa:(x.l.length:Int)=1:=aa;omega
 ·have aa:(x.l.length:Int)=1:=aa;omega
 ·have aa:(x.l.length:Int)=2:=aa;omega
 ·have aa:(x.l.length:Int)=2:=aa;omega
 ·have aa:(x.l.length:Int)=1:=aa;omega
 ·have aa:(x.l.length:Int)=1:=aa;omega
 ·have aa:(x.l.length:Int)=2:=aa;omega
 ·have aa:(x.l.length:Int)=2:=aa;omega
 ·have aa:(x.l.length:Int)=2:=aa;omega
 ·have aa:(x.l.length:Int)=1:=aa;omega
 ·have aa:(x.l.length:Int)=4:=aa;omega
theorem ahv{p:aD}{m:Nat}:∀x:aR,ff p m x->1<=eF x:=aR.ind fun x aJ Y=>by
 cases Y with
 |mk h aa=>
  have aq:=UH (x:=x) fun i hi=>by rw[xG hi];exact aJ _ (dJ hi) (aa _ (dJ hi))
  rcases UI h with bb|bb|bb|bb
  ·rw[Dm bb];omega
  ·rw[Nt bb];have:=aq.le 0 (by omega);have:=aq.pos 0 (by omega);omega
  ·rw[Jf bb];have:=aq.le 0 (by omega);have:=aq.pos 0 (by omega);omega
  ·rw[Nu bb];have:=aq.le 0 (by omega);have:=aq.pos 0 (by omega);have:=(Ns ((bn x.l).set (bT (bn x.l)).2.toNat 1) (bT (bn x.l)).1 4).1;omega
theorem UJ{p:aD}{m:Nat}{x:aR}(aa:∀y∈x.l,ff p m y):UG x:=UH fun i hi=>by rw[xG hi];exact ahv _ (aa _ (dJ hi))
theorem ahw{p:aD}{m:Nat}:∀x:aR,ff p m x->∀j:Nat,3*(j:Int)+2<=eF x->2^(j+1)<=dY x:=aR.ind fun x aJ Y j az=>by
 cases Y with
 |mk h aa=>
  have aq:=UJ aa
  have hI:∀i,i<x.l.length->∀j:Nat,3*(j:Int)+2<=(bn x.l).getD i 0->2^(j+1)<=dY (x.l.getD i default):=fun i hi j az=>by
   rw[xG hi]at az;exact aJ _ (dJ hi) (aa _ (dJ hi)) j az
  have two:∀a b,a<x.l.length->b<x.l.length->a≠b->3*(j:Int)<=(bn x.l).getD a 0+1->3*(j:Int)<=(bn x.l).getD b 0+1->(∀z w,z+w+1<=dY x->True)->2^(j+1)<=dY (x.l.getD a default)+dY (x.l.getD b default)+1:=fun a b aC ae _ J W _=>by
   cases j with
   |zero=>have:=zd (x.l.getD a default);have:=zd (x.l.getD b default);show 2<=_;omega
   |succ j=>
    have:=hI a aC j (by omega)
    have:=hI b ae j (by omega)
    rw[Nat.pow_succ];omega
  rcases UI h with bb|bb|bb|bb
  ·rw[Dm bb]at az;omega
  ·rw[Nt bb]at az
   have J:=aq.eq (by omega)
   have W:=aq.Dl (by omega)
   have aH:=aq.Dk
   have aV:(bT (bn x.l)).2.toNat=0:=by omega
   rw[aV]at J
   have:=hI 0 (by omega) j (by omega)
   have:=ME bb
   omega
  ·rw[Jf bb]at az
   have J:=aq.eq (by omega)
   have W:=aq.Dl (by omega)
   have aH:=aq.Dk
   have he:=FU bb
   have aj:=aq.le 0 (by omega)
   have iy:=aq.le 1 (by omega)
   rcases xJ aH (by omega)with⟨_,aX,bu⟩|⟨_,aX,bu⟩<;>rw[aX]at J<;>rw[bu]at az
   ·by_cases ae:3*(j:Int)+2<=(bT (bn x.l)).1
    ·have:=hI 0 (by omega) j (by omega);omega
    ·have:=two 0 1 (by omega) (by omega) (by omega) (by omega) (by omega) fun _ _ _=>trivial;omega
   ·by_cases ae:3*(j:Int)+2<=(bT (bn x.l)).1
    ·have:=hI 1 (by omega) j (by omega);omega
    ·have:=two 0 1 (by omega) (by omega) (by omega) (by omega) (by omega) fun _ _ _=>trivial;omega
  ·rw[Nu bb]at az
   have J:=aq.eq (by omega)
   have W:=aq.Dl (by omega)
   have aH:=aq.Dk
   have he:=MF bb
   have UK:=zd (x.l.getD 0 default);have vw:=zd (x.l.getD 1 default);have Cd:=zd (x.l.getD 2 default);have UL:=zd (x.l.getD 3 default)
   have gT:∀a,a<4->dY (x.l.getD a default)+3<=dY x:=fun a aC=>by
    rcases(by omega:a=0\/a=1\/a=2\/a=3)with rfl|rfl|rfl|rfl<;>omega
   have ahx:∀a b,a<4->b<4->a≠b->dY (x.l.getD a default)+dY (x.l.getD b default)+1<=dY x:=fun a b aC ae QG=>by
    rcases(by omega:a=0\/a=1\/a=2\/a=3)with rfl|rfl|rfl|rfl<;>rcases(by omega:b=0\/b=1\/b=2\/b=3)with rfl|rfl|rfl|rfl<;>omega
   by_cases ae:3*(j:Int)+2<=(bT (bn x.l)).1
   ·have:=hI _ (show(bT (bn x.l)).2.toNat<_ by omega) j (by omega)
    have:=gT (bT (bn x.l)).2.toNat (by omega)
    omega
   ·rcases UF ((bn x.l).set (bT (bn x.l)).2.toNat 1) (bT (bn x.l)).1 4 with db|⟨i,hi,db⟩
    ·omega
    ·rw[oj]at db
     split at db
     ·rcases Nat.eq_zero_or_pos j with rfl|ajR
      ·have:2^(0+1)=2:=rfl
       omega
      ·omega
     ·rename_i b2
      have Iv:=mS x.l
      have b2:(bT (bn x.l)).2.toNat≠i:=fun e=>b2 ⟨e,by omega⟩
      have:=aq.le i (by omega)
      have:=two i (bT (bn x.l)).2.toNat (by omega) (by omega) (Ne.symm b2) (by omega) (by omega) fun _ _ _=>trivial
      have:=ahx i (bT (bn x.l)).2.toNat hi (by omega) (Ne.symm b2)
      omega
theorem ahy{p:aD}{m:Nat}{x:aR}(h:ff p m x)(af:dY x<=512):eF x<=64:=by
 by_cases ae:eF x<=28
 ·omega
 ·have:=ahw x h 9 (by show 3*((9:Nat):Int)+2<=_;omega)
  have:2^(9+1)=1024:=rfl
  omega
inductive mV(p:aD)(R:Int):Int->dC->Int->Prop
 |nil (h:Int):mV p R h [] h
 |cons {h h':Int} {i:Int×Int} {c:dC} (bb:0<=(fp p R i.1).1) (rh:(fp p R i.1).2.2.1<=i.2) (oB:i.2<=(fp p R i.1).2.2.2) (aT:(fp p R i.1).1<=h) (Dn:h-(fp p R i.1).1+(fp p R i.1).2.1<=64) (aE:mV p R (h-(fp p R i.1).1+(fp p R i.1).2.1) c h'):mV p R h (i::c) h'
section
variable {p:aD} {R:Int}
theorem mV.bG{h J W:Int}{c d:dC}(a:mV p R h c J)(b:mV p R J d W):mV p R h (c++d) W:=by
 induction a with
 |nil h=>exact b
 |cons bb rh oB aT Dn aE aJ=>exact .cons bb rh oB aT Dn (aJ b)
theorem mV.one{h:Int}{op a t u lo hi:Int}(e:fp p R op=(t,u,lo,hi))(bb:0<=t)(rh:lo<=a)(oB:a<=hi)(aT:t<=h)(Dn:h-t+u<=64):mV p R h [(op,a)] (h-t+u):=by
 have:=mV.cons (p:=p) (R:=R) (h:=h) (i:=(op,a)) (c:=[]) (h':=h-t+u) (by rw[e];exact bb) (by rw[e];exact rh) (by rw[e];exact oB) (by rw[e];exact aT) (by rw[e];exact Dn) (by rw[e];exact .nil _)
 exact this
def wk(c:dC):Prop:=∀i∈c,i.1≠7/\i.1≠22
theorem wk.bG{c d:dC}(a:wk c)(b:wk d):wk (c++d):=fun i hi=>(hy.1 hi).elim (a i) (b i)
theorem wk.one{op a:Int}(h:op≠7/\op≠22):wk [(op,a)]:=fun i hi=>by rw[qc]at hi;subst hi;exact h
theorem wk.nil:wk []:=fun i hi=>nomatch hi
def nK(p:aD)(R:Int)(r0:Int)(c:kd)(n:Int):Prop:=∀r,r0<=r->r<=(c r).2/\wk (c r).1/\((c r).2<=R->∀h,0<=h->h+n<=64->mV p R h (c r).1 (h+1))
theorem nK.mono{r0:Int}{c:kd}{n l6:Int}(h:nK p R r0 c n)(af:n<=l6):nK p R r0 c l6:=fun r aE=>⟨(h r aE).1,(h r aE).2.1,fun J g W aH=>(h r aE).2.2 J g W (by omega)⟩
theorem nK.xL{r0 op a lo hi:Int}(e:fp p R op=(0,1,lo,hi))(bJ:op≠7/\op≠22)(h:r0<=R->lo<=a/\a<=hi):nK p R r0 (pM op a) 1:=fun r aE=>⟨Int.le_refl _,.one bJ,fun J g W aH=>by
 have J:r<=R:=J
 have:=mV.one (h:=g) e (Int.le_refl _) (h (by omega)).1 (h (by omega)).2 W (by omega)
 rwa[show g-0+1=g+1 by omega]at this⟩
theorem nK.IF{r0 op a lo hi n:Int}{c:kd}(aj:nK p R r0 c n)(af:1<=n)(e:fp p R op=(1,1,lo,hi))(bJ:op≠7/\op≠22)(h:lo<=a/\a<=hi):nK p R r0 (jU op a c) n:=fun r aE=>⟨(aj r aE).1,(aj r aE).2.1.bG (.one bJ),fun J g W aH=>by
 refine((aj r aE).2.2 J g W aH).bG ?_
 have:=mV.one (h:=g+1) (a:=a) e (by decide) h.1 h.2 (by omega) (by omega)
 rwa[show g+1-1+1=g+1 by omega]at this⟩
theorem nK.zc{r0 op n k m:Int}{c d:kd}(aj:nK p R r0 c n)(aq:nK p R r0 d k)(e:fp p R op=(2,1,0,0))(bJ:op≠7/\op≠22)(K:1<=k)(J:n<=m)(W:k+1<=m):nK p R r0 (jV op c d) m:=fun r aE=>by
 have a:=aj r aE
 have b:=aq (c r).2 (by omega)
 refine⟨Int.le_trans a.1 b.1,(a.2.1.bG b.2.1).bG (.one bJ),fun fA g g0 g1=>?_⟩
 have fA:(d (c r).2).2<=R:=fA
 have gO:=a.2.2 (by omega) g g0 (by omega)
 have s4:=b.2.2 fA (g+1) (by omega) (by omega)
 refine(gO.bG s4).bG ?_
 have:=mV.one (h:=g+1+1) (a:=0) e (by decide) (Int.le_refl _) (Int.le_refl _) (by omega) (by omega)
 rwa[show g+1+1-2+1=g+1 by omega]at this
theorem ahz:fp p R 21=(4,1,0,0):=rfl
theorem ahA:fp p R 5=(1,0,0,R-1):=rfl
theorem ahB:fp p R 4=(0,1,0,R-1):=rfl
theorem nK.MG{r0:Int}{ps:List kd}{k:Int}{hH:List Int}{m:Int}(jY:0<=r0)(AM:0<=k)(CS:k<4)(fl:∀i,i<4->nK p R r0 (ps.getD i default) (hH.getD i 0))(oh:∀i,i<4->1<=hH.getD i 0)(aw:hH.getD k.toNat 0<=m)(oQ:∀i,i<4->i≠k.toNat->hH.getD i 0+i<=m)(ajS:k+1<=m)(ajT:4<=m):nK p R r0 (xE ps k) m:=fun r aE=>by
 have tm:=fl k.toNat (by omega) (r+1) (by omega)
 have key:∀n,n<=4->∀gO,r0<=gO->gO<=(ew ps k r gO n).2/\wk (ew ps k r gO n).1/\(r<R->(ew ps k r gO n).2<=R->∀h,0<=h->h+m<=64->mV p R h (ew ps k r gO n).1 (h+n)):=by
  intro n
  induction n with
  |zero=>exact fun _ gO _=>⟨Int.le_refl _,.nil,fun _ _ h _ _=>by rw[show h+((0:Nat):Int)=h by omega];exact .nil h⟩
  |succ n aJ=>
   intro af gO sh
   obtain⟨i1,i2,i3⟩:=aJ (by omega) gO sh
   unfold ew
   cases ae:decide ((n:Int)=k)with
   |true=>
    rw[cond_true]
    have ae:=cJ ae
    refine⟨i1,i2.bG (.one (by decide)),fun fA J h bb W=>?_⟩
    refine(i3 fA J h bb W).bG ?_
    have:=mV.one (p:=p) (R:=R) (h:=h+n) (op:=4) (a:=r) ahB (Int.le_refl _) (by omega) (by omega) (by omega) (by omega)
    rwa[show h+(n:Int)-0+1=h+((n+1:Nat):Int) by omega]at this
   |false=>
    rw[cond_false]
    have ae:=dj ae
    have bA:=fl n (by omega) (ew ps k r gO n).2 (by omega)
    refine⟨Int.le_trans i1 bA.1,i2.bG bA.2.1,fun fA J h bb W=>?_⟩
    have J:(ps.getD n default (ew ps k r gO n).2).2<=R:=J
    have aH:=oQ n (by omega) (by omega)
    have:=bA.2.2 J (h+n) (by omega) (by omega)
    refine(i3 fA (by omega) h bb W).bG ?_
    rwa[show h+(n:Int)+1=h+((n+1:Nat):Int) by omega]at this
 obtain⟨k8,mz,qO⟩:=key 4 (Nat.le_refl _) (ps.getD k.toNat default (r+1)).2 (by omega)
 refine⟨by show r<=(ew ps k r (ps.getD k.toNat default (r+1)).2 4).2;omega,((tm.2.1.bG (.one (by decide))).bG mz).bG (.one (by decide)),fun fA h bb J=>?_⟩
 have fA:(ew ps k r (ps.getD k.toNat default (r+1)).2 4).2<=R:=fA
 have s1:=tm.2.2 (by omega) h bb (by omega)
 have s2:=mV.one (p:=p) (R:=R) (h:=h+1) (op:=5) (a:=r) ahA (by decide) (by omega) (by omega) (by omega) (by omega)
 rw[show h+1-1+0=h by omega]at s2
 have ahC:=qO (by omega) fA h bb J
 have UM:=mV.one (p:=p) (R:=R) (h:=h+((4:Nat):Int)) (op:=21) (a:=0) ahz (by decide) (Int.le_refl _) (Int.le_refl _) (by omega) (by omega)
 rw[show h+((4:Nat):Int)-4+1=h+1 by omega]at UM
 exact((s1.bG s2).bG ahC).bG UM
theorem ahD{fd:List bh}{m:Nat}{rg:List (Int×Int)}{r0:Int}(jY:0<=r0)(ahE:∀i:Nat,i<m->(b9 p i).kind=1->0<=(cb rg (i:Int)).getD 0/\(cb rg (i:Int)).getD 0<r0):∀x:aR,kW p fd m x->nK p R r0 (bP rg x) (eF x):=aR.ind fun x aJ Y=>by
 have Ex:=kW.lZ x Y
 cases Y with
 |mk h W an aC aa=>
  have aq:=UJ (p:=p) (m:=m) fun y ak=>kW.lZ y (aa y ak)
  have fl:∀i,i<x.l.length->nK p R r0 ((fo rg x.l).getD i default) ((bn x.l).getD i 0):=fun i hi=>by rw[kX _ hi,xG hi];exact aJ _ (dJ hi) (aa _ (dJ hi))
  have hlen:=h.len
  have one:∀(op a lo hi:Int),x.l.length=1->fp p R op=(1,1,lo,hi)->(op≠7/\op≠22)->(lo<=a/\a<=hi)->nK p R r0 (jU op a ((fo rg x.l).getD 0 default)) (eF x):=fun op a lo hi J e bJ ae=>by
   have eE:=aq.le 0 (by omega)
   have eV:=aq.pos 0 (by omega)
   rw[Nt J]
   exact((fl 0 (by omega)).mono eE).IF (by omega) e bJ ae
  have two:∀op:Int,x.l.length=2->fp p R op=(2,1,0,0)->(op≠7/\op≠22)->nK p R r0 (jV op ((fo rg x.l).getD (bT (bn x.l)).2.toNat default) ((fo rg x.l).getD (1-(bT (bn x.l)).2).toNat default)) (eF x):=fun op J e bJ=>by
   have eE:=aq.le 0 (by omega)
   have eV:=aq.le 1 (by omega)
   have hl:=aq.pos 0 (by omega)
   have je:=aq.pos 1 (by omega)
   have mN:=aq.Dl (by omega)
   have vy:=Jf J
   rcases xJ aq.Dk (by omega)with⟨_,aX,bu⟩|⟨_,aX,bu⟩<;>rw[bu]at vy<;>rw[aX,bu,vy]
   ·exact(fl 0 (by omega)).zc (fl 1 (by omega)) e bJ je (by omega) (by omega)
   ·exact(fl 1 (by omega)).zc (fl 0 (by omega)) e bJ hl (by omega) (by omega)
  rw[nr]
  rcases h.cases with K|K|K|K|K|K|K|K|K|K|K|K|K|K|K|K|K|K<;>(unfold mn;rw[K]at hlen⊢;change nK p R r0 (_:kd) _)
  ·have J:(x.l.length:Int)=0:=hlen
   have:=h.Cg K
   rw[Dm (by omega)]
   exact .xL (p:=p) (R:=R) (op:=1) D (by decide) fun _=>⟨by omega,by omega⟩
  ·have J:(x.l.length:Int)=0:=hlen
   have:=h.bj K
   rw[Dm (by omega)]
   exact .xL (p:=p) (R:=R) (op:=2) D (by decide) fun _=>⟨by omega,by omega⟩
  ·have J:(x.l.length:Int)=0:=hlen
   have:=h.nG K
   rw[Dm (by omega)]
   exact .xL (p:=p) (R:=R) (op:=3) D (by decide) fun _=>⟨by omega,by omega⟩
  ·have J:(x.l.length:Int)=0:=hlen
   have db:=h.lt K
   have fc:=ahE x.index.toNat (by omega) (W.lt K)
   rw[show((x.index.toNat:Nat):Int)=x.index by omega]at fc
   rw[Dm (by omega)]
   exact .xL (p:=p) (R:=R) (op:=4) D (by decide) fun fA=>⟨by omega,by omega⟩
  ·have J:(x.l.length:Int)=1:=hlen
   exact one 8 _ 0 0 (by omega) D (by decide) (by rw[W.y5 (by omega) (by omega) (by omega),W.n (by omega) (by omega)];decide)
  ·have J:(x.l.length:Int)=1:=hlen
   exact one 9 _ 0 0 (by omega) D (by decide) (by rw[W.y5 (by omega) (by omega) (by omega),W.n (by omega) (by omega)];decide)
  ·have J:(x.l.length:Int)=1:=hlen
   have:=h.rF K
   exact one 10 _ 0 (p.a1.length-1) (by omega) D (by decide) (by rw[W.n (by omega) (by omega)];omega)
  ·have J:(x.l.length:Int)=1:=hlen
   have:=h.rD K
   exact one 11 _ 0 (p.bM.length-1) (by omega) D (by decide) (by rw[W.n (by omega) (by omega)];omega)
  ·have J:(x.l.length:Int)=1:=hlen
   exact one 12 _ 0 0 (by omega) D (by decide) (by rw[W.y5 (by omega) (by omega) (by omega),W.n (by omega) (by omega)];decide)
  ·have J:(x.l.length:Int)=2:=hlen
   exact two 13 (by omega) D (by decide)
  ·have J:(x.l.length:Int)=2:=hlen
   exact two 14 (by omega) D (by decide)
  ·have J:(x.l.length:Int)=1:=hlen
   exact one 15 _ 0 0 (by omega) D (by decide) (by rw[W.y5 (by omega) (by omega) (by omega),W.n (by omega) (by omega)];decide)
  ·have J:(x.l.length:Int)=1:=hlen
   exact one 16 _ 0 0 (by omega) D (by decide) (by rw[W.y5 (by omega) (by omega) (by omega),W.n (by omega) (by omega)];decide)
  ·have J:(x.l.length:Int)=2:=hlen
   exact two 17 (by omega) D (by decide)
  ·have J:(x.l.length:Int)=2:=hlen
   have eE:=aq.le 0 (by omega)
   have eV:=aq.le 1 (by omega)
   have hl:=aq.pos 0 (by omega)
   have je:=aq.pos 1 (by omega)
   have mN:=aq.Dl (by omega)
   have UN:=aq.eq (by omega)
   have vy:=Jf (x:=x) (by omega)
   have ik:(bn x.l).getD 0 0<=eF x/\(bn x.l).getD 1 0<=eF x/\((bn x.l).getD 1 0<=(bn x.l).getD 0 0->(bn x.l).getD 1 0+1<=eF x)/\((bn x.l).getD 0 0<(bn x.l).getD 1 0->(bn x.l).getD 0 0+1<=eF x):=by
    rcases xJ aq.Dk (by omega)with⟨_,aX,bu⟩|⟨_,aX,bu⟩<;>rw[bu]at vy<;>rw[aX]at UN<;>omega
   cases ae:decide ((bn x.l).getD 1 0<=(bn x.l).getD 0 0)with
   |true=>
    have ae:=cJ ae
    exact(fl 0 (by omega)).zc (op:=18) (fl 1 (by omega)) D (by decide) je ik.1 (ik.2.2.1 ae)
   |false=>
    have ae:=dj ae
    exact((fl 1 (by omega)).IF (op:=16) (a:=0) je D (by decide) (by decide)).zc (op:=17) (fl 0 (by omega)) D (by decide) hl ik.2.1 (ik.2.2.2 (by omega))
  ·have J:(x.l.length:Int)=2:=hlen
   exact two 19 (by omega) D (by decide)
  ·have J:(x.l.length:Int)=1:=hlen
   have:=h.AE K
   exact one 20 _ 1 2147483648 (by omega) D (by decide) (by rw[W.y5 (by omega) (by omega) (by omega)];omega)
  ·have J:(x.l.length:Int)=4:=hlen
   have mN:=aq.Dl (by omega)
   have vy:=aq.Dk
   have UN:=aq.eq (by omega)
   have af:=Nu (x:=x) (by omega)
   obtain⟨m1,m2⟩:=Ns ((bn x.l).set (bT (bn x.l)).2.toNat 1) (bT (bn x.l)).1 4
   have Iv:=mS x.l
   have oQ:∀i,i<4->i≠(bT (bn x.l)).2.toNat->(bn x.l).getD i 0+i<=eF x:=fun i hi b2=>by
    have:=m2 i hi
    rw[oj,if_neg fun e=>b2 e.1.symm]at this
    omega
   have Hq:(bT (bn x.l)).2+1<=eF x:=by
    have:=m2 (bT (bn x.l)).2.toNat (by omega)
    rw[oj,if_pos ⟨rfl,by omega⟩]at this
    omega
   refine .MG jY vy (by omega) (fun i hi=>fl i (by omega)) (fun i hi=>aq.pos i (by omega)) (by omega) oQ Hq ?_
   by_cases aH:(bT (bn x.l)).2.toNat=3
   ·omega
   ·have:=oQ 3 (by omega) (by omega)
    have:=aq.pos 3 (by omega)
    omega
end
theorem Jg{lo hi:Int}(h:-2147483648<=lo/\lo<=hi/\hi<=2147483647):tM lo hi=false:=by
 unfold tM
 rw[hG (show¬lo< -2147483648 by omega),hG (show¬hi<lo by omega),hG (show¬2147483647<hi by omega)]
 rfl
structure ahF(p:aD)(R:Int)(n:Nat)(q:C1):Prop where
 run:mV p R 0 q.c 0
 r0:0<=q.r
 rg:∀i:Nat,i<n->(b9 p i).kind=1->0<=(cb q.rg (i:Int)).getD 0/\(cb q.rg (i:Int)).getD 0<q.r
 bQ:q.c.countP (fun i=>decide (i.1=22))=(List.range n).countP fun j=>decide ((b9 p j).kind=4)
 gW:∀i∈q.c,i.1=7->∃j,j<n/\(b9 p j).kind=3/\i.2=(b9 p j).index
 one:q.c.Pairwise fun a b=>a.1=7->b.1=7->a.2≠b.2
theorem UO{p:aD}{fd:List bh}(eG:qi p fd)(cj:∀i,i<p.ah.length->dY (p.ah.getD i default).x<=512)(R:Int):∀n,n<=p.ah.length->(bN p n).r<=R->ahF p R n (bN p n)
 |0,_,_=>⟨.nil 0,Int.le_refl _,fun i hi=>by omega,rfl,fun i hi=>(nomatch hi),.nil⟩
 |n+1,af,fA=>by
  have eT:=eG.pL.wf
  have cy:=A6 eG.res
  have aJ:=UO eG cj R n (by omega) (Int.le_trans (ahi eT af) fA)
  have hw:=eG.Mk (i:=n) (by omega)
  have mD:=eT.lZ n (by omega)
  obtain⟨mT,kt,oS⟩:=ahD (R:=R) (rg:=(bN p n).rg) aJ.r0 aJ.rg (b9 p n).x hw (bN p n).r (Int.le_refl _)
  have h0:eF (b9 p n).x<=64:=ahy mD (cj n (by omega))
  have ep:=cy.AD n (by omega)
  generalize we:bP (bN p n).rg (b9 p n).x (bN p n).r=gh at mT kt oS
  have run:∀(op a lo hi:Int),fp p R op=(1,0,lo,hi)->lo<=a->a<=hi->gh.2<=R->mV p R 0 ((bN p n).c++gh.1++[(op,a)]) 0:=fun op a lo hi e J W aH=>by
   refine(aJ.run.bG (oS aH 0 (Int.le_refl _) (by omega))).bG ?_
   have:=mV.one (h:=0+1) e (by decide) J W (by decide) (by decide)
   exact this
  have UP:gh.1.countP (fun i=>decide (i.1=22))=0:=List.countP_eq_zero.2 fun i hi=>by simp[(kt i hi).2]
  have bQ:∀(op a:Int),(decide (op=22)=decide ((b9 p n).kind=4))->((bN p n).c++gh.1++[(op,a)]).countP (fun i=>decide (i.1=22))=(List.range (n+1)).countP fun j=>decide ((b9 p j).kind=4):=fun op a h=>by
   rw[List.countP_append,List.countP_append,UP,aJ.bQ,List.range_succ,List.countP_append,Nat.add_zero]
   congr 1
   rw[List.countP_cons,List.countP_cons,h]
   rfl
  have ahG:gh.1.Pairwise fun a b=>a.1=7->b.1=7->a.2≠b.2:=List.pairwise_iff_getElem.2 fun i j hi az _ gE=>absurd gE (kt _ (List.getElem_mem hi)).1
  have gW:∀(op a:Int),(op=7->(b9 p n).kind=3/\a=(b9 p n).index)->∀i∈(bN p n).c++gh.1++[(op,a)],i.1=7->∃j,j<n+1/\(b9 p j).kind=3/\i.2=(b9 p j).index:=fun op a h i hi gE=>by
   rcases hy.1 hi with hi|hi
   ·rcases hy.1 hi with hi|hi
    ·obtain⟨j,I2,Bj⟩:=aJ.gW i hi gE;exact⟨j,by omega,Bj⟩
    ·exact absurd gE (kt i hi).1
   ·rw[qc]at hi
    subst hi
    exact⟨n,qk n,(h gE).1,(h gE).2⟩
  have one:∀(op a:Int),(op=7->(b9 p n).kind=3/\a=(b9 p n).index)->((bN p n).c++gh.1++[(op,a)]).Pairwise fun a b=>a.1=7->b.1=7->a.2≠b.2:=fun op a h=>by
   refine List.pairwise_append.2 ⟨List.pairwise_append.2 ⟨aJ.one,ahG,fun x Y y ak _ gE=>absurd gE (kt y ak).1⟩,List.pairwise_singleton _ _,fun x Y y ak J W=>?_⟩
   rw[qc]at ak
   subst ak
   obtain⟨K,rfl⟩:=h W
   rcases hy.1 Y with Y|Y
   ·obtain⟨j,I2,Bj,Nc⟩:=aJ.gW x Y J
    exact fun e=>cy.C2 j n I2 (by omega) (by rw[Bj];rfl) (by rw[Bj,K]) (Nc.symm.trans e)
   ·exact absurd J (kt x Y).1
  have rg:(b9 p n).kind≠1->∀i:Nat,i<n+1->(b9 p i).kind=1->0<=(cb (bN p n).rg (i:Int)).getD 0/\(cb (bN p n).rg (i:Int)).getD 0<gh.2:=fun K i hi J=>by
   have:i≠n:=fun e=>K (e▸J)
   have:=aJ.rg i (by omega) J
   omega
  have Oq:=aJ.r0
  rcases(by omega:(b9 p n).kind=1\/(b9 p n).kind=2\/(b9 p n).kind=3\/(b9 p n).kind=4)with K|K|K|K
  ·have bA:bN p (n+1)=⟨(bN p n).c++gh.1++[(5,gh.2)],gh.2+1,dM (bN p n).rg n gh.2⟩:=by rw[bN,pN,we,K];rfl
   rw[bA]at fA⊢
   have fA:gh.2+1<=R:=fA
   refine⟨run 5 _ 0 (R-1) D (by omega) (by omega) (by omega),by show 0<=gh.2+1;omega,fun i hi J=>?_,bQ 5 _ (by rw[K];rfl),gW 5 _ (fun h=>absurd h (by decide)),one 5 _ fun h=>absurd h (by decide)⟩
   show 0<=(cb (dM (bN p n).rg n gh.2) (i:Int)).getD 0/\(cb (dM (bN p n).rg n gh.2) (i:Int)).getD 0<gh.2+1
   rw[oI]
   by_cases js:i=n
   ·subst js
    rw[if_pos rfl]
    exact⟨by show 0<=gh.2;omega,by show gh.2<gh.2+1;omega⟩
   ·rw[if_neg (by omega)]
    have:=aJ.rg i (by omega) J
    omega
  ·have bA:bN p (n+1)=⟨(bN p n).c++gh.1++[(6,(b9 p n).index)],gh.2,(bN p n).rg⟩:=by rw[bN,pN,we,K];rfl
   rw[bA]at fA⊢
   have fA:gh.2<=R:=fA
   have Y:=eT.set n (by omega) K
   have J:0<=(b9 p n).index:=Y.1
   have W:(b9 p n).index<p.bt.length:=Y.2
   exact⟨run 6 _ 0 (p.bt.length-1) D J (by omega) fA,by show 0<=gh.2;omega,rg (by omega),bQ 6 _ (by rw[K];rfl),gW 6 _ (fun h=>absurd h (by decide)),one 6 _ fun h=>absurd h (by decide)⟩
  ·have bA:bN p (n+1)=⟨(bN p n).c++gh.1++[(7,(b9 p n).index)],gh.2,(bN p n).rg⟩:=by rw[bN,pN,we,K];rfl
   rw[bA]at fA⊢
   have fA:gh.2<=R:=fA
   have Y:=eT.push n (by omega) K
   have J:0<=(b9 p n).index:=Y.1
   have W:(b9 p n).index<p.a1.length:=Y.2
   exact⟨run 7 _ 0 (p.a1.length-1) D J (by omega) fA,by show 0<=gh.2;omega,rg (by omega),bQ 7 _ (by rw[K];rfl),gW 7 _ fun _=>⟨K,rfl⟩,one 7 _ fun _=>⟨K,rfl⟩⟩
  ·have bA:bN p (n+1)=⟨(bN p n).c++gh.1++[(22,0)],gh.2,(bN p n).rg⟩:=by rw[bN,pN,we,K];rfl
   rw[bA]at fA⊢
   have fA:gh.2<=R:=fA
   exact⟨run 22 _ 0 0 D (Int.le_refl _) (Int.le_refl _) fA,by show 0<=gh.2;omega,rg (by omega),bQ 22 _ (by rw[K];rfl),gW 22 _ (fun h=>absurd h (by decide)),one 22 _ fun h=>absurd h (by decide)⟩
theorem UQ(c:dC):∀i,i<=c.length->q4 c i=((c.take i).countP fun q=>decide (q.1=22):Nat)
 |0,_=>rfl
 |i+1,h=>by
  have aJ:=UQ c i (by omega)
  rw[q4,List.take_add_one,dx (by omega),Option.toList_some,List.countP_append,aJ,cN,dx (by omega),Option.getD_some]
  cases ae:decide ((c[i]'(by omega)).1=22)with
  |true=>simp only[cond_true,List.countP_cons,List.countP_nil,ae,if_true];omega
  |false=>simp[List.countP_cons,ae]
theorem ahH{p:aD}{R h h':Int}{c:dC}(aE:mV p R h c h'):∀pre:dC,oq p R (pre++c) pre.length=h->(∀i,pre.length<=i->i<(pre++c).length->0<=(fp p R ((pre++c).getD i default).1).1/\(fp p R ((pre++c).getD i default).1).2.2.1<=((pre++c).getD i default).2/\((pre++c).getD i default).2<=(fp p R ((pre++c).getD i default).1).2.2.2/\(fp p R ((pre++c).getD i default).1).1<=oq p R (pre++c) i/\oq p R (pre++c) i-(fp p R ((pre++c).getD i default).1).1+(fp p R ((pre++c).getD i default).1).2.1<=64)/\oq p R (pre++c) (pre++c).length=h':=by
 induction aE with
 |nil h=>exact fun pre he=>⟨fun i J W=>by simp at W;omega,by rw[List.append_nil]at he⊢;exact he⟩
 | @cons h h' i c bb rh oB aT Dn aE aJ=>
  intro pre he
  have aM:(pre++i::c).getD pre.length default=i:=by simp[cN]
  have e:pre++i::c=(pre++[i])++c:=by simp
  have an:oq p R ((pre++[i])++c) (pre++[i]).length=h-(fp p R i.1).1+(fp p R i.1).2.1:=by
   rw[<-e,ef,np,oq,he,aM];omega
  obtain⟨i1,i2⟩:=aJ (pre++[i]) an
  rw[<-e]at i1 i2
  refine⟨fun j J W=>?_,i2⟩
  rcases nj J with aG|rfl
  ·exact i1 j (by rw[ef,np];omega) W
  ·rw[aM,he];exact⟨bb,rh,oB,aT,Dn⟩
theorem ahI{N:Nat}{f:Nat->Bool}(h:f N=true)(bb:∀j,j<N->f j=false):(List.range (N+1)).countP f=1:=by
 rw[List.range_succ,List.countP_append,List.countP_eq_zero.2 fun j az=>by rw[bb j (List.mem_range.1 az)];decide]
 simp[List.countP_cons,h]
theorem ahJ{p:aD}{fd:List bh}(eG:qi p fd)(cj:∀i,i<p.ah.length->dY (p.ah.getD i default).x<=150):tN p (jh p) (ns p):=by
 have eT:=eG.pL.wf
 have cy:=A6 eG.res
 have gy:=y9 eG.res
 have UR:∀i,i<p.ah.length->dY (p.ah.getD i default).x<=512:=fun i hi=>by have:=cj i hi;omega
 have K:=UO eG UR (ns p) p.ah.length (Nat.le_refl _) (Int.le_refl _)
 obtain⟨s1,s2⟩:=ahH K.run [] rfl
 have hlen:∀n,n<=p.ah.length->(bN p n).c.length<=451*n:=by
  intro n
  induction n with
  |zero=>intro _;exact Nat.le_refl _
  |succ n aJ=>
   intro af
   have aJ:=aJ (by omega)
   have aa:(bP (bN p n).rg (b9 p n).x (bN p n).r).1.length<=3*dY (p.ah.getD n default).x:=(q2 (rg:=(bN p n).rg) (p.ah.getD n default).x (eT.lZ n (by omega)) (bN p n).r).1
   have ae:=cj n (by omega)
   have key:∀q:C1,q.c.length<=(bN p n).c.length+(bP (bN p n).rg (b9 p n).x (bN p n).r).1.length+1->q.c.length<=451*(n+1):=fun q bA=>by omega
   rw[bN]
   refine key _ ?_
   unfold pN
   simp only
   split<;>simp only[ef,np]<;>omega
 have iF:=hlen p.ah.length (Nat.le_refl _)
 have gr:=MN eT UR p.ah.length (Nat.le_refl _)
 have iv:=gy.kJ
 have s1:∀i,i<(jh p).length->_:=fun i hi=>s1 i (Nat.zero_le _) hi
 refine⟨⟨fun i hi=>?_,fun i hi=>⟨Jg (cy.lY i hi),gy.lY i hi⟩,fun i hi=>?_,⟨gy.nf,gy.hH,gy.gH,gy.cg⟩,gy.n2,gy.tail,⟨gr.2.1,by show(bN p p.ah.length).r<=_;omega⟩,by show(bN p p.ah.length).c.length<=_;omega⟩,s1,fun i hi=>?_,s2,?_,fun i hi gE=>?_,fun i j iK az J W=>?_⟩
 ·by_cases aG:i<p.params.length
  ·rw[cN,pf aG,<-cN]
   exact Jg (cy.bj i aG)
  ·rw[ef]at hi
   rw[cN,List.getElem?_append_right (by omega),<-cN]
   exact Jg (cy.nG _ (by omega))
 ·have e:(p.bM.map e2.dU).getD i default=(p.bM.getD i default).dU:=by simp[cN,hi]
  rw[e]
  refine⟨(gy.vI i hi).1,(gy.vI i hi).2,?_⟩
  rw[List.any_eq_false]
  intro v aK
  have:=cy.vI i hi v aK
  rw[Jg ⟨this.1,Int.le_refl _,this.2⟩]
  decide
 ·rcases nj hi with aG|rfl
  ·have bb:=s1 i aG
   refine⟨Int.le_trans bb.1 bb.2.2.2.1,?_⟩
   cases i with
   |zero=>exact(by decide:(0:Int)<=64)
   |succ i=>
    have:=(s1 i (by omega)).2.2.2.2
    rw[oq]
    have this:oq p (ns p) (jh p) i-(fp p (ns p) ((jh p).getD i default).1).1+(fp p (ns p) ((jh p).getD i default).1).2.1<=64:=this
    omega
  ·have s2:oq p (ns p) (jh p) (jh p).length=0:=s2
   rw[s2];decide
 ·rw[UQ _ _ (Nat.le_refl _),List.take_length]
  have:=K.bQ
  have oh:=cy.pos
  have uk:=cy.Bp
  obtain⟨N,ik⟩:∃N,p.ah.length=N+1:=⟨p.ah.length-1,by omega⟩
  rw[show(jh p).countP (fun q=>decide (q.1=22))=_ from this,ik,ahI (gl (by rw[ik]at uk;exact uk)) fun j az=>hG (cy.aeu j (by omega))]
  rfl
 ·have:=(s1 i hi).2.1
  have e:fp p (ns p) ((jh p).getD i default).1=(1,0,0,(p.a1.length:Int)-1):=by rw[gE];rfl
  have this:(fp p (ns p) ((jh p).getD i default).1).2.2.1<=((jh p).getD i default).2:=this
  rw[e]at this
  exact this
 ·have Z:=List.pairwise_iff_getElem.1 K.one i j (by show i<(jh p).length;omega) az iK
  have aX:(jh p).getD i default=(jh p)[i]'(by omega):=by rw[cN,dx (by omega)];rfl
  have bu:(jh p).getD j default=(jh p)[j]:=by rw[cN,dx az];rfl
  rw[aX]at J⊢
  rw[bu]at W⊢
  exact Z J W
end
end Go.Proofs.YtfgcfofjjiinjaaGreatDoor

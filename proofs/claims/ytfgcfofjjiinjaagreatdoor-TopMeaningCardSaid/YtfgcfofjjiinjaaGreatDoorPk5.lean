/- TopMeaning: texts of the walk and of the plain law, part 6 of 6. -/
import Derived.ChangeStays
import Derived.ChangeBook
import Derived.ChangeSame
import Derived.OpenShut
import Derived.SizedLaws
import Derived.WideShapes
import Derived.RowKit
import Derived.Below
import Derived.ChangeOld
import Derived.Test.YtfgcfofjjiinjaaGreatDoorTie
import Derived.ProofKit
import Derived.LaidMore
import Derived.LaidLaws
import Derived.Stop.Joined
import Derived.Shelf.Vars
import Derived.Test.YtfgcfofjjiinjaaGreatDoorPk4
namespace Go.Proofs.YtfgcfofjjiinjaaGreatDoor
open Go Go.Proofs.Tryz
set_option linter.unusedVariables false
set_option linter.unusedSimpArgs false
set_option maxRecDepth 100000
set_option maxHeartbeats 4000000
section
theorem ahK{p:aD}(h:rP p=true):oX p=true:=by
 unfold rP tI at h
 cases aa:uU p with
 |none=>rw[aa]at h;cases h
 |some n=>exact L2 aa
theorem US(p:aD):∀n i,i<n->q8 (p.ah.getD i default).x<=tP p n
 |n+1,i,h=>by
  have J:=I3 (p.ah.getD n default).x
  have W:=Nh p n
  have aH:=I5 p p.bM.length
  rw[tP]
  rcases nj (qW h)with aG|rfl
  ·have:=US p n i aG;omega
  ·omega
structure lp(p:aD)(fd:List bh):Prop where
 ok:p.b5
 qm:qi p fd
 C:rP p=true
 UT:∀i,i<p.ah.length->dY (p.ah.getD i default).x<=150
 n2:0<=p.cR/\p.cR<=20
theorem ahL{p:aD}(Z:p.b5)(eU:rP p=true)(lU:zo p=true):∃fd,lp p fd:=by
 obtain⟨fd,eG⟩:=aeW Z eU
 have gy:=y9 eG.res
 unfold zo at lU
 obtain⟨_,lU⟩:=iX lU
 obtain⟨lU,aa⟩:=iX lU
 unfold zm at lU
 cases bb:Dd p with
 |true=>rw[bb]at lU;cases lU
 |false=>
  rw[bb,cond_false]at lU
  have ajU:=cJ lU
  refine⟨fd,Z,eG,eU,fun i hi=>?_,gy.n2.1,cJ aa⟩
  have J:=US p p.ah.length i hi
  have W:=ag2 (p.ah.getD i default).x (by omega)
  omega
theorem Jh(l:List Int)(n:Nat):∀x∈dD l n,-2147483648<=x/\x<=2147483647:=fun x Y=>by
 obtain⟨i,_,rfl⟩:=List.mem_map.1 Y
 unfold F8
 cases decide (0<(l.length:Int))with
 |true=>rw[cond_true];unfold j6;omega
 |false=>rw[cond_false];omega
theorem Ji{p:aD}{l:List Int}{n k:Nat}(h:k<n):(fW p l n).getD k default=ln p l k p.params.length:=by
 unfold fW;exact Un h
theorem UU{p:aD}(cy:A5 p)(l:List Int)(k i:Nat)(h:i<p.params.length):(p.params.getD i default).lo<=(ln p l k p.params.length).getD i 0/\(ln p l k p.params.length).getD i 0<=(p.params.getD i default).hi:=by
 have e:(ln p l k p.params.length).getD i 0=De p l k i:=by unfold ln;exact Un h
 rw[e]
 unfold De
 exact FF (cy.bj i h).2.1
theorem UW{p:aD}{xs:List Int}{k:Nat}(bb:0<=p.cR)(h:(k:Int)+p.cR+1<=xs.length):((fv p xs k).length:Int)=p.cR+1:=by
 unfold fv;rw[rv,h1];omega
theorem UX{p:aD}{xs:List Int}{k:Nat}{x:Int}(h:x∈fv p xs k):x∈xs:=List.mem_of_mem_drop (List.mem_of_mem_take h)
theorem ahM{p:aD}(cy:A5 p)(aa:0<=p.cR)(l e7 jv:List Int){n:Nat}:∀k,k<n->qX p ((fW p l n).getD k default) (fv p (dD e7 (n+p.cR.toNat)) k) (fv p (dD jv (n+p.cR.toNat)) k):=fun k K=>
 ⟨by rw[Ji K,Bk],UW aa (by rw[wi];omega),UW aa (by rw[wi];omega),fun i hi=>by rw[Ji K];exact UU cy l k i hi,fun x Y=>Jh _ _ x (UX Y),fun x Y=>Jh _ _ x (UX Y)⟩
theorem UY{p:aD}{bD UZ:List (List Int)}{ay Nj ax Nk:List Int}{s:fa}:∀m,(∀k,k<m->bD.getD k default=UZ.getD k default/\fv p ay k=fv p Nj k/\fv p ax k=fv p Nk k)->eB p bD ay ax s m=eB p UZ Nj Nk s m
 |0,_=>rfl
 |m+1,h=>by
  obtain⟨J,W,aH⟩:=h m (qk m)
  rw[eB,eB,UY m fun k K=>h k (by omega),J,W,aH]
theorem Nv{p:aD}{bD:List (List Int)}{ay ax:List Int}{s:fa}{a:Nat}:∀m,eB p bD ay ax s (a+m)=((eB p (bD.drop a) (ay.drop a) (ax.drop a) (eB p bD ay ax s a).1 m).1,(eB p bD ay ax s a).2++(eB p (bD.drop a) (ay.drop a) (ax.drop a) (eB p bD ay ax s a).1 m).2)
 |0=>by show eB p bD ay ax s a=(_,_++[]);rw[List.append_nil];rfl
 |m+1=>by
  have aX:(bD.drop a).getD m default=bD.getD (a+m) default:=by simp[cN,List.getElem?_drop]
  have bu:∀xs:List Int,fv p (xs.drop a) m=fv p xs (a+m):=fun xs=>by unfold fv;rw[List.drop_drop]
  show eB p bD ay ax s (a+m+1)=_
  rw[eB,Nv m,eB,aX,bu,bu,List.append_assoc]
theorem Jj{p:aD}{xs:List Int}{k m:Nat}(h:k<m):fv p (xs.take (m+p.cR.toNat)) k=fv p xs k:=by
 unfold fv;rw[List.drop_take,List.take_take];congr 1;omega
abbrev wm(bD:List (List Int))(a m:Nat):List (List Int):=(bD.drop a).take m
abbrev qo(p:aD)(xs:List Int)(a m:Nat):List Int:=(xs.drop a).take (m+p.cR.toNat)
theorem ahN{p:aD}{bD:List (List Int)}{ay ax:List Int}{s:fa}{a m n:Nat}(h:a+m<=n):(eB p (wm bD a m) (qo p ay a m) (qo p ax a m) (eB p bD ay ax s a).1 m).1=(eB p bD ay ax s (a+m)).1/\(eB p (wm bD a m) (qo p ay a m) (qo p ax a m) (eB p bD ay ax s a).1 m).2=((eB p bD ay ax s n).2.drop a).take m:=by
 have e:eB p (wm bD a m) (qo p ay a m) (qo p ax a m) (eB p bD ay ax s a).1 m=eB p (bD.drop a) (ay.drop a) (ax.drop a) (eB p bD ay ax s a).1 m:=UY m fun k K=>⟨by simp[cN,pQ K],Jj K,Jj K⟩
 obtain⟨r,rfl⟩:∃r,n=a+m+r:=⟨n-(a+m),by omega⟩
 rw[e,Nv (a:=a+m) r,Nv (a:=a) m]
 refine⟨rfl,?_⟩
 have J:=zp (p:=p) (bD:=bD) (ay:=ay) (ax:=ax) (s:=s) a
 have W:=zp (p:=p) (bD:=bD.drop a) (ay:=ay.drop a) (ax:=ax.drop a) (s:=(eB p bD ay ax s a).1) m
 simp only[List.append_assoc]
 rw[List.drop_left' J,List.take_left' W]
theorem ahO{v:Int}(h:-2147483648<=v/\v<=2147483647):zj v=false:=by unfold zj;rw[Uh h];simp
theorem U0{l:List Int}(h:∀x∈l,-2147483648<=x/\x<=2147483647):l.any zj=false:=by
 rw[List.any_eq_false];intro x Y;rw[ahO (h x Y)];decide
theorem Jk{α:Type}[Inhabited α]{l:List α}{i:Nat}{d:α}(h:i<l.length):l.getD i d=l.getD i default:=by simp[cN,h]
theorem ahP{p:aD}{s:fa}(h:kx p s):MU p s:=by
 refine⟨⟨h.lj,fun i hi=>?_⟩,h.gH,fun i hi=>⟨by have:=h.lK i hi;rwa[<-Jk (d:=[]) (by rw[h.gH];exact hi)],?_⟩⟩
 ·have:=h.val i (by rw[<-h.lj];exact hi)
  exact F5 this
 ·rw[<-Jk (d:=[]) (by rw[h.gH];exact hi),List.any_eq_false]
  intro x Y
  unfold IW
  rcases h.lY i hi x Y with rfl|ae
  ·simp
  ·rw[F5 ae];cases decide (x=0)<;>simp
section
variable {p:aD} {fd:List bh}
theorem lp.lK(h:lp p fd):∀i,i<p.a1.length->1<=(p.a1.getD i default).size/\(p.a1.getD i default).size<=65536:=(y9 h.qm.res).lY
theorem lp.start(h:lp p fd):kx p (fH p):=afd (y9 h.qm.res) fun i hi=>((A6 h.qm.res).nG i hi).2.1
abbrev dG(p:aD)(n:Nat):Nat:=n+p.cR.toNat
theorem lp.args(h:lp p fd)(l e7 jv:List Int){n:Nat}:∀k,k<n->qX p ((fW p l n).getD k default) (fv p (dD e7 (dG p n)) k) (fv p (dD jv (dG p n)) k):=ahM (A6 h.qm.res) h.n2.1 l e7 jv
theorem lp.Jl(h:lp p fd)(l e7 jv:List Int){n:Nat}{s:fa}(an:kx p s)(i:Nat)(hi:i<=n):kx p (eB p (fW p l n) (dD e7 (dG p n)) (dD jv (dG p n)) s i).1:=Dg h.qm (fun i hi=>(h.lK i hi).1) (h.args l e7 jv) an i hi
theorem lp.ahQ(h:lp p fd):bw prog 8 [.d (fR p)] [] (.bE [.d (tL p (jh p) (ns p)),.d (av 0)]) [] []:=afy p h.ok h.qm h.C fun i hi=>by have:=h.UT i hi;omega
theorem lp.ahR(h:lp p fd):bw prog 9 [.d (fR p)] [] (.bE [.d (lN (fH p)),.d (av 0)]) [] []:=afb p h.ok (y9 h.qm.res) h.C
theorem lp.mem(h:lp p fd):bw prog 10 [.d (fR p)] [] (.bE [.d (av (oZ p)),.d (av 0)]) [] []:=S8 h.ok (ahK h.C)
theorem lp.Nw(h:lp p fd)(l e7 jv:List Int){n:Nat}(af:n<=1000){s:fa}(an:kx p s):bw prog 13 [.d (fR p),.d (nI (fW p l n)),.d (ch (dD e7 (dG p n))),.d (ch (dD jv (dG p n))),.d (lN s)] [] (.bE [.d (ch (eB p (fW p l n) (dD e7 (dG p n)) (dD jv (dG p n)) s n).2),.d (lN (eB p (fW p l n) (dD e7 (dG p n)) (dD jv (dG p n)) s n).1),bk true]) [] []:=
 have bb:=h.n2
 have uv:dG p n=n+p.cR.toNat:=rfl
 ahf p h.ok h.qm h.C (fun i hi=>(h.lK i hi).1) bb.1 (by omega) (Df _ _ _) (by omega) (by rw[wi];omega) (by rw[wi];omega) (h.args l e7 jv) an
theorem lp.code(h:lp p fd):tN p (jh p) (ns p):=ahJ h.qm h.UT
theorem U1{s:fa}(h:lp p fd)(an:kx p s)(i:Nat):(s.bF.getD i default).length<=65536:=by
 by_cases hi:i<p.a1.length
 ·have J:=an.lK i hi
  have W:=h.lK i hi
  rw[Jk (by rw[an.gH];exact hi)]at J
  omega
 ·rw[cN,List.getElem?_eq_none (by rw[an.gH];omega)];exact Nat.zero_le _
theorem lp.run(h:lp p fd)(l e7 jv:List Int){n a m:Nat}(af:n<=1000)(ahS:a+m<=n)(aw:m<=7):bw prog 14 [.d (tL p (jh p) (ns p)),.d (lN (eB p (fW p l n) (dD e7 (dG p n)) (dD jv (dG p n)) (fH p) a).1),.d (nI (wm (fW p l n) a m)),.d (ch (qo p (dD e7 (dG p n)) a m)),.d (ch (qo p (dD jv (dG p n)) a m)),aF .i64 m,aF .i64 ((m:Int)*(jh p).length)] []
  (.bE [.d (ch (((eB p (fW p l n) (dD e7 (dG p n)) (dD jv (dG p n)) (fH p) n).2.drop a).take m)),.d (lN (eB p (fW p l n) (dD e7 (dG p n)) (dD jv (dG p n)) (fH p) (a+m)).1),.d (av 0),.d (av 0)]) [] []:=by
 have bb:=h.n2
 have gg:=h.code
 have hO:=gg.oM.c
 have hk:=h.Jl l e7 jv (n:=n) h.start a (by omega)
 have aP:=Df p l n
 have kC:=wi e7 (dG p n)
 have DG:=wi jv (dG p n)
 have uv:dG p n=n+p.cR.toNat:=rfl
 have Nx:∀k,k<m->(wm (fW p l n) a m).getD k default=ln p l (a+k) p.params.length:=fun k K=>by
  rw[<-Ji (p:=p) (l:=l) (n:=n) (show a+k<n by omega)]
  simp[cN,pQ K,List.getElem?_drop]
 have sZ:(wm (fW p l n) a m).length=m:=by unfold wm;rw[rv,h1];omega
 have dk:Bh p (wm (fW p l n) a m) (qo p (dD e7 (dG p n)) a m) (qo p (dD jv (dG p n)) a m) m:=⟨sZ,fun k K=>by rw[Nx k K,Bk],by unfold qo;rw[rv,h1];omega,by unfold qo;rw[rv,h1];omega,bb.1⟩
 have ahT:∀k,k<m->qX p ((wm (fW p l n) a m).getD k default) (fv p (qo p (dD e7 (dG p n)) a m) k) (fv p (qo p (dD jv (dG p n)) a m) k):=fun k K=>by
  have:=h.args l e7 jv (n:=n) (a+k) (by omega)
  rw[Ji (show a+k<n by omega)]at this
  rw[Nx k K,Jj K,Jj K]
  unfold fv at this⊢
  rw[List.drop_drop,List.drop_drop]
  exact this
 have aT:=Uw h.qm bb.1 (fun i hi=>(h.lK i hi).1) ahT hk m (Nat.le_refl _)
 have ae:=ahN (p:=p) (bD:=fW p l n) (ay:=dD e7 (dG p n)) (ax:=dD jv (dG p n)) (s:=fH p) ahS
 have UP:(m:Int)*(jh p).length<=7*65536:=Int.mul_le_mul (by omega) (by omega) (by omega) (by omega)
 have key:=agY p h.ok (jh p) (ns p) gg _ (ahP hk) (fun i=>by have:=U1 h hk i;omega) dk (by omega) (U0 fun x Y=>Jh _ _ x (List.mem_of_mem_drop (List.mem_of_mem_take Y))) (U0 fun x Y=>Jh _ _ x (List.mem_of_mem_drop (List.mem_of_mem_take Y))) (fun i hi=>by
  rw[sZ]at hi
  rw[Nx i hi]
  refine⟨Bk _ _ _ _,fun k K=>?_⟩
  have K:k<p.params.length:=by simpa[Bk]using K
  have:=UU (A6 h.qm.res) l (a+i) k K
  rw[Jk (l:=ln p l (a+i) p.params.length) (by rw[Bk];exact K)]at this
  exact F5 this) ((m:Int)*(jh p).length) (by omega) (by omega)
 rw[aT.1,aT.2,ae.1,ae.2,show(m:Int)*(jh p).length-(m:Int)*(jh p).length=0 by omega]at key
 exact key
theorem lp.OF(h:lp p fd){s:fa}(an:kx p s):bw prog 16 [.d (lN s),.d (lN s)] [] (bk true) [] []:=by
 have J:=h.ok.hH
 have W:=h.ok.gH
 exact ahc s (by rw[an.lj];omega) (by rw[an.gH];omega) fun i=>by have:=U1 h an i;omega
theorem lp.ahU(h:lp p fd)(l e7 jv b fO hh:List Int){n t:Nat}(bb:0<=oZ p)(sq:t<n)(aT:oZ p<=t):
  (eB p (fW p l n) (dD e7 (dG p n)) (dD jv (dG p n)) (eB p (fW p b 9) (dD fO (dG p 9)) (dD hh (dG p 9)) (fH p) 9).1 n).2.getD t default=(eB p (fW p l n) (dD e7 (dG p n)) (dD jv (dG p n)) (fH p) n).2.getD t default:=by
 have eT:=h.qm.pL.wf
 exact(ahu h.qm (by have:=h.ok.kJ;omega) h.lK (h.args l e7 jv) (h.Jl b fO hh h.start 9 (Nat.le_refl _)) h.start (fun k K=>I8 eT K 9) (fun k K=>I9 eT K 9) bb sq aT)
end
abbrev mr(z:List Int)(k:Nat):Nat:=(z.getD k default).toNat%8
def dc(z:List Int):Nat->Nat
 |0=>0
 |k+1=>dc z k+mr z k
theorem Jm(z:List Int):∀k,dc z k<=7*k
 |0=>Nat.le_refl _
 |k+1=>by have:=Jm z k;have:mr z k<8:=Nat.mod_lt _ (by decide);rw[dc];omega
theorem U2(z:List Int):∀k m,k<=m->dc z k<=dc z m
 |k,0,h=>by rw[show k=0 by omega];exact Nat.le_refl _
 |k,m+1,h=>by
  rcases nj h with aG|rfl
  ·have:=U2 z k m (by omega);rw[dc];omega
  ·exact Nat.le_refl _
theorem U3{v:Int}(h:0<=v):v.tmod 8=((v.toNat%8:Nat):Int):=by
 rw[Int.tmod_eq_emod_of_nonneg h];omega
theorem Pure.U4{P:Program}{S:ad}{Φ:Int->Prop}{x:Operand}{t t' ty:TypeId}{c:Bool}{d:Option Nat}{pos:String}{a6:Array Edge}{bB:Option (Nat×Bool)}(b2:∀i,Φ i->i≠0)(aX:cd S c x (.d (qJ (fun i=>Φ i) fun i:Int=>.v (.int .i64 i)))):Pure P S [] ⟨d,.binOp .eql t x (.const (.int .i64 0)) t',ty,pos,a6,bB⟩ c (bk false):=by
 refine⟨rfl,fun E V M a w h aj=>?_⟩
 have J:=h.ez x (by simp[Op.operands]) _ aX
 have W:a.eval (.const (.int .i64 0))= .int .i64 0:=rfl
 generalize aK:a.eval x=v at J
 generalize a.eval=aI at*
 cases J with
 |d _ _ J=>
  obtain⟨i,hi,aH⟩:=ld M _ J
  have bb:=b2 i hi
  cases aH
  refine⟨.bool false,?_,.d _ _ (.v _)⟩
  simp[execOp,aK,W,eqGuard,binOp,bb,go_sem]
end
theorem ahV:∀V M v,bU V M (.d (.agg [ev ⟨#[]⟩,av 0,av 0,.v (.slice none 0 0),.v (.slice none 0 0),.v (.slice none 0 0),.v (.slice none 0 0),.v (.slice none 0 0)])) v->bU V M (.d (fR default)) v:=
 iD (.agg (.cons (.refl _) (.cons (.refl _) (.cons (.refl _) (.cons .vu (.cons .vu (.cons .vu (.cons .vu (.cons .vu .nil)))))))))
theorem ahW:(default:aD).b5:=⟨by decide,by decide,by decide,by decide,by decide,by decide,by decide,fun _ h=>(nomatch h),fun _ h=>(nomatch h),fun _ h=>(nomatch h),fun _ h=>(nomatch h),fun _ h=>(nomatch h)⟩
theorem ahX:hZ default=none:=by kernel_rfl
theorem U5{q:aD}(bA:q.b5)(h:hZ q=none):bw prog 4 [.d (fR q)] [] (.bE [.d (.agg [ev ⟨#[]⟩,av 0,av 0,.v (.slice none 0 0),.v (.slice none 0 0),.v (.slice none 0 0),.v (.slice none 0 0),.v (.slice none 0 0)]),.d oe]) [] []:=by
 have:=H3 q bA
 rw[h]at this
 exact this
theorem ahY:bw prog 4 [.d (fR default)] [] (.bE [.d (.agg [ev ⟨#[]⟩,av 0,av 0,.v (.slice none 0 0),.v (.slice none 0 0),.v (.slice none 0 0),.v (.slice none 0 0),.v (.slice none 0 0)]),.d oe]) [] []:=U5 ahW ahX
theorem ahZ{q p:aD}(bA:q.b5)(h:hZ q=some p):bw prog 4 [.d (fR q)] [] (.bE [.d (fR p),.d (av 0)]) [] []:=by
 have:=H3 q bA
 rw[h]at this
 exact this
theorem ah0{p:aD}(Z:p.b5)(h:rP p=false):bw prog 6 [.d (fR p)] [] (.d oe) [] []:=by
 have:=FD Z
 rw[h]at this
 exact this
theorem ah1{p:aD}(Z:p.b5)(h:rP p=true):bw prog 6 [.d (fR p)] [] (.d (av 0)) [] []:=by
 have:=FD Z
 rw[h]at this
 exact this
theorem Jn{α:Type}[Inhabited α]{n:Nat}{f:α->List bg}(l:List α)(m:Nat)(a:Nat){lo len:Nat}(J:lo=a)(W:len=m)(h:a+m<=l.length):∀V M v,bU V M (.d (.cK n len fun i=>f (l.getD (lo+i) default))) v->bU V M (.d (h8 n f ((l.drop a).take m))) v:=by
 have aa:((l.drop a).take m).length=m:=by rw[rv,h1];omega
 show∀V M v,_->bU V M (ai.d (.cK n ((l.drop a).take m).length fun i=>f (((l.drop a).take m).getD i default))) v
 rw[aa,W,J]
 refine Ur fun i hi=>?_
 simp only[cN,pQ hi,List.getElem?_drop]
abbrev ah2(l:List Int):bg:=h8 1 (fun n=>[.v (.int .u8 n)]) l
theorem ah3(src:ByteArray)(bj ay ax mW z:List Int)(qf:bj.length<=4611686018427387904)(xq:ay.length<=4611686018427387904)(yU:ax.length<=4611686018427387904)(U6:mW.length<=4611686018427387904)(ajV:z.length<=4611686018427387904)(fl:src.size<=4611686018427387904)(bd:∀k,k<z.length->0<=z.getD k default/\z.getD k default<=255):bw prog 3 [jm src,.d (ch bj),.d (ch ay),.d (ch ax),.d (ch mW),.d (ah2 z)] [] (bk true) [] []:=by
 refine cB [.tmp 12] func3 D D fun E K af=>?_
 refine aL 1 D<|aO (ag ((Pure.build tf Pz (.nil _ _) D).p7 (y:=.d (fR default)) ahV)<|lC (ds:=[.agg [ev ⟨#[]⟩,av 0,av 0,.v (.slice none 0 0),.v (.slice none 0 0),.v (.slice none 0 0),.v (.slice none 0 0),.v (.slice none 0 0)],oe]) (cf D) ahY (au D)<|O 3 D<|cm 13 tf D<|cL pq D D D D<|aN 1 D)<|al<|aO (O 1 D<|ag (.U4 (fun i h=>h.2) (I D))<|ar)<|a7 D (fun aP=>?_) fun aP=>?_
 ·cases aP
 refine bx<|al<|aO (O 1 D<|ag (.sT D underlying9 (I D))<|O 2 D<|dp D D<|cF [] D (.len D underlying23 (bH D) D)<|c6 D D (I D) D<|gQ D D D<|ar)<|a7 D (fun bq=>?_) fun bq=>?_
 ·exact aL 1 D<|bp<|dr D D
 obtain⟨AQ,Ah⟩:=zn bq
 have AQ:=dj AQ
 have Ah:=dj Ah
 have ik:=Jm z z.length
 refine bx<|al<|?_
 apply jD (new:=[]) (ds:=[]) (cW:=[]) 1
 ·exact O 1 D<|ar
 ·exact bR
 ·rfl
 ·exact(cf D)
 ·exact(au D)
 ·exact abR src (by omega)
 ·exact .nil
 ·intro q;(cases q<;>rfl)
 ·rfl
 ·exact .nil
 ·rfl
 ·exact fun bc h=>h.elim
 ·rfl
 ·rw[K,af];rfl
 intro b ae
 cases b
 ·apply ju
  ·exact O 7 D<|ar
  ·exact bR
  refine al<|al<|?_
  skip
  ·refine bm (O 1 D<|ag (.Cy (fun i h=>h.2) (I D))<|O 1 D<|dp D D<|cF [] D (.len D underlying33 (bH D) D)<|c6 D D (I D) D<|gQ D D D<|ar)<|a7 D (fun b3=>?_) (fun b3=>?_)
   ·refine al<|?_
    skip
    ·exact bm (O 1 D<|ag (.U4 (fun i h=>h.2) (I D))<|O 1 D<|dp D D<|cF [] D (.len D underlying33 (bH D) D)<|c6 D D (I D) D<|gQ D D D<|aN 1 D)<|bp<|dr D D
   cases b3
 apply ju
 ·exact O 7 D<|ar
 ·exact bR
 refine al<|al<|EF (t:=15) D (EG ld) fun L gy=>?_
 ·refine bm (O 3 D<|dp D D<|cF [] D (.len D underlying33 (bH D) D)<|c6 D D (I D) D<|gQ D D D<|ar)<|a7 D (fun et=>?_) (fun et=>?_)
  ·refine al<|?_
   skip
   ·exact bm (O 3 D<|dp D D<|cF [] D (.len D underlying33 (bH D) D)<|c6 D D (I D) D<|gQ D D D<|aN 1 D)<|bp<|dr D D
  have gr:(L.length:Int)<=2:=by have:=dj (zn et).2;omega
  refine bx<|al<|aL 1 D<|bX<|eP (σ:=Nat) [(ab 1,_),(ab 2,_),(ab 3,_),(ab 4,_),(ab 5,_),(ab 15,_)] (fun i=>[(ab 18,.aB (aF .i64 (i:Int)))]) (fun i=>i<=L.length) (fun i=>L.length-i) 0 (aZ D<|aU) (da D D D D<|ck D D<|aU) (Nat.zero_le _) fun i hi=>?_
  refine al<|aL 4 D<|a7 D (fun eQ=>?_) fun eQ=>?_
  ·have aG:i<L.length:=eJ eQ
   have Ny:=gy.2 _ (dJ aG)
   refine bx<|al<|bX<|al<|?_
   rcases aE:hZ (L.getD i default)with _|p
   ·refine bm (O 2 D<|bW OW D D<|O 1 D<|lC (ds:=[.agg [ev ⟨#[]⟩,av 0,av 0,.v (.slice none 0 0),.v (.slice none 0 0),.v (.slice none 0 0),.v (.slice none 0 0),.v (.slice none 0 0)],oe]) (cf D) (U5 Ny aE) (au D)<|O 3 D<|cm 19 tf D<|cL pq D D D D<|aN 1 D)<|al<|al<|?_
    skip
    ·refine bm (O 1 D<|ag (.Cy (fun i h=>h.2) (I D))<|O 1 D<|so (bk false) D<|so (bk false) D<|so (bk false) D<|gQ D D D<|ar)<|a7 D (fun ie=>?_) (fun ie=>?_)
     ·exact dW<|bm (O 1 D<|cp D D D<|aN 1 D)<|⟨i+1,aG,fD (by assumption),aZ (ec (by omega))<|aU,da D D D D<|ck D D<|aU⟩
     cases ie
   have Dp:=Ss Ny aE
   refine bm (O 2 D<|bW OW D D<|O 1 D<|lC (ds:=[fR p,av 0]) (cf D) (ahZ Ny aE) (au D)<|O 3 D<|cm 19 tf D<|cL pq D D D D<|aN 1 D)<|al<|al<|?_
   rcases eU:rP p with _|_
   ·refine bm (O 3 D<|cz D<|O 1 D<|cz D<|cY (cf D) (ah0 Dp eU) (au D)<|cz D<|ag (.Cy (fun i h=>h.2) (I D))<|ag (.pick (I D) (I D) (I D))<|ar)<|a7 D (fun kb=>?_) (fun kb=>?_)
    ·exact dW<|bm (O 1 D<|cp D D D<|aN 1 D)<|⟨i+1,aG,fD (by assumption),aZ (ec (by omega))<|aU,da D D D D<|ck D D<|aU⟩
    cases kb
   refine bm (O 3 D<|cz D<|O 1 D<|cz D<|cY (cf D) (ah1 Dp eU) (au D)<|cz D<|O 1 D<|ag (.pick (I D) (I D) (I D))<|ar)<|a7 D (fun pG=>?_) fun pG=>?_
   ·cases pG
   refine bx<|al<|al<|c1 (b1.hV (t:=19) (l:=19) D D)<|bm (O 1 D<|cY (cf D) (aha p Dp) (au D)<|O 2 D<|cX D BO (I D) D<|cF [] D (.fG bY (bH D) D)<|c6 D D (I D) D<|gQ D D D<|ar)<|a7 D (fun uQ=>?_) fun uQ=>?_
   ·exact aL 1 D<|bp<|dr D D
   obtain⟨lU,ajW⟩:=zn uQ
   have lU:zo p=true:=by simpa using lU
   obtain⟨fd,fz⟩:=ahL Dp eU lU
   have tK:=fz.n2
   have hO:=fz.code.oM.c
   have ajX:dG p (dc z z.length)=(dc z z.length)+p.cR.toNat:=rfl
   have ajY:dG p 9=9+p.cR.toNat:=rfl
   refine bx<|aO (O 1 D<|lC (ds:=[tL p (jh p) (ns p),av 0]) (cf D) fz.ahQ (au D)<|O 3 D<|cm 21 Ko D<|cL BR D D D D<|aN 1 D)<|aO (O 1 D<|lC (ds:=[lN (fH p),av 0]) (cf D) fz.ahR (au D)<|O 3 D<|cm 23 sf D<|cL nB D D D D<|aN 1 D)<|aO (O 1 D<|lC (ds:=[av (oZ p),av 0]) (cf D) fz.mem (au D)<|aN 5 D)<|al<|al<|c1 (b1.hV (t:=21) (l:=21) D D)<|c1 (b1.hV (t:=23) (l:=23) D D)<|bm (O 3 D<|dp D D<|c6 D D (I D) D<|gQ D D D<|O 1 D<|dp D D<|c6 D D (I D) D<|gQ D D D<|ar)<|a7 D (fun yY=>?_) fun yY=>?_
   ·cases yY
   refine bx<|aL 1 D<|al<|aL 1 D<|bX<|eP (σ:=Nat) [(ab 1,_),(ab 2,_),(ab 3,_),(ab 4,_),(ab 5,_),(ab 15,_),(ab 18,_),(ab 19,_),(ab 21,_),(ab 23,_),(ab 25,_)] (fun k=>[(ab 28,.aB (aF .i64 (k:Int))),(ab 27,.aB (aF .i64 ((dc z k):Int)))]) (fun k=>k<=z.length) (fun k=>z.length-k) 0 (ck D D<|aU) (fs D D D D D D D D<|ck D D<|aZ D<|aU) (Nat.zero_le _) fun k jM=>?_
   refine al<|aL 4 D<|a7 D (fun xt=>?_) fun xt=>?_
   ·have l1:k<z.length:=eJ xt
    have zg:=(bd k l1).1
    have BM:=(bd k l1).2
    have Fs:=Jm z k
    have ah4:mr z k<8:=Nat.mod_lt _ (by decide)
    exact bx<|al<|bX<|bm (O 3 D<|bW OR D D<|O 1 D<|ag ((Pure.conv underlying5 underlying3 (I D)).bK (y:=aF .i64 (z.getD k default)) (congrArg (aF .i64) (nE ⟨by omega,by omega⟩)))<|ag ((Pure.rem (I D) (I D) fun _=>by decide).bK (y:=aF .i64 ((mr z k):Int)) (congrArg (aF .i64) (U3 zg)))<|cp D D D<|aN 1 D)<|bm (O 1 D<|cp D D D<|aN 1 D)<|⟨k+1,l1,fD (by assumption),aZ (ec (by omega))<|aZ (ec (by rw[dc];omega))<|aU,fs D D D D D D D D<|ck D D<|aZ D<|aU⟩
   obtain rfl:k=z.length:=by have:=dj xt;omega
   refine dW<|aO (O 3 D<|cY (hd D D D) (Up p Dp bj (dc z z.length) qf (by omega)) (au D)<|aN 1 D)<|aO (O 4 D<|ag ((Pure.nv (I D) (I D) D fun _=>iO (by omega)).bK (y:=aF .i64 (((dG p (dc z z.length)):Nat):Int)) (congrArg (aF .i64) (by omega)))<|cY (cn D D) (I6 ay (dG p (dc z z.length)) xq (by omega)) (au D)<|aN 1 D)<|aO (O 4 D<|ag ((Pure.nv (I D) (I D) D fun _=>iO (by omega)).bK (y:=aF .i64 (((dG p (dc z z.length)):Nat):Int)) (congrArg (aF .i64) (by omega)))<|cY (cn D D) (I6 ax (dG p (dc z z.length)) yU (by omega)) (au D)<|aN 1 D)<|aO (O 5 D<|lC (ds:=[ch (eB p (fW p bj (dc z z.length)) (dD ay (dG p (dc z z.length))) (dD ax (dG p (dc z z.length))) (fH p) (dc z z.length)).2,lN (eB p (fW p bj (dc z z.length)) (dD ay (dG p (dc z z.length))) (dD ax (dG p (dc z z.length))) (fH p) (dc z z.length)).1,.v (.bool true)]) (vK D D D D D) (fz.Nw bj ay ax (by omega) fz.start) (au D)<|O 4 D<|cm 33 sf D<|O 1 D<|cL nB D D D D<|aN 1 D)<|al<|al<|?_
   have u2:=zp (p:=p) (bD:=(fW p bj (dc z z.length))) (ay:=(dD ay (dG p (dc z z.length)))) (ax:=(dD ax (dG p (dc z z.length)))) (s:=(fH p)) (dc z z.length)
   have eG:=Df p bj (dc z z.length)
   have kC:=wi ay (dG p (dc z z.length))
   have DG:=wi ax (dG p (dc z z.length))
   refine c1 (b1.hV (t:=33) (l:=33) D D)<|bm (O 3 D<|cz D<|O 1 D<|cz D<|O 1 D<|cz D<|O 1 D<|cz D<|ag ((ib D D D).bK (y:=bk false) (by rw[u2];simp))<|ag (.pick (I D) (I D) (I D))<|ar)<|a7 D (fun xu=>?_) fun xu=>?_
   ·cases xu
   refine bx<|aL 1 D<|aO (O 1 D<|cm 36 sf D<|cL nB D D D D<|ar)<|al<|aL 1 D<|bX<|eP (σ:=Nat) [(ab 1,_),(ab 2,_),(ab 3,_),(ab 4,_),(ab 5,_),(ab 15,_),(ab 18,_),(ab 19,_),(ab 21,_),(ab 23,_),(ab 25,_),(ab 27,_),(ab 29,_),(ab 30,_),(ab 31,_),(ab 32,_),(ab 33,_),(ab 36,_)] (fun k=>[(ab 37,.aB (aF .i64 (k:Int))),(ab 35,.aB (aF .i64 ((dc z k):Int))),(G 36,.U (.data (Mp (eB p (fW p bj (dc z z.length)) (dD ay (dG p (dc z z.length))) (dD ax (dG p (dc z z.length))) (fH p) (dc z k)).1)))]) (fun k=>k<=z.length) (fun k=>z.length-k) 0 (ck D D<|aZ D<|aU) (fs D D D D D D D D<|fs D D D D D D D D<|ck D D<|aU) (Nat.zero_le _) fun k jM=>?_
   refine al<|aL 4 D<|a7 D (fun yZ=>?_) fun yZ=>?_
   ·have l1:k<z.length:=eJ yZ
    have zg:=(bd k l1).1
    have BM:=(bd k l1).2
    have Fs:=Jm z k
    have ah4:mr z k<8:=Nat.mod_lt _ (by decide)
    have A2:dc z k+mr z k<=(dc z z.length):=U2 z (k+1) z.length l1
    have w0:0<=(mr z k:Int)*(jh p).length:=Int.mul_nonneg (by omega) (by omega)
    have oQ:(mr z k:Int)*(jh p).length<=7*65536:=Int.mul_le_mul (by omega) (by omega) (by omega) (by omega)
    have sZ:(((eB p (fW p bj (dc z z.length)) (dD ay (dG p (dc z z.length))) (dD ax (dG p (dc z z.length))) (fH p) (dc z z.length)).2.drop (dc z k)).take (mr z k)).length=mr z k:=by rw[rv,h1,u2];omega
    refine bx<|al<|bX<|aO (O 2 D<|bW OR D D<|O 1 D<|ag ((Pure.conv underlying5 underlying3 (I D)).bK (y:=aF .i64 (z.getD k default)) (congrArg (aF .i64) (nE ⟨by omega,by omega⟩)))<|ag ((Pure.rem (I D) (I D) fun _=>by decide).bK (y:=aF .i64 ((mr z k):Int)) (congrArg (aF .i64) (U3 zg)))<|aN 1 D)<|ft (O 6 D<|cp D D D<|ag ((Pure.rq BQ (I D) (.bK _ (I D) fun _=>by omega) (.bK _ (I D) fun _=>by omega) fun _=>⟨by omega,by omega⟩).p7 (y:=.d (nI (wm (fW p bj (dc z z.length)) (dc z k) (mr z k)))) (by exact Jn (f:=fun l=>[ch l]) (fW p bj (dc z z.length)) (mr z k) (dc z k) (by omega) (by omega) (by omega)))<|O 4 D<|cp D D D<|O 2 D<|cp D D D<|ag ((Pure.rq iQ (I D) (.bK _ (I D) fun _=>by omega) (.bK _ (I D) fun _=>by omega) fun _=>⟨by omega,by omega⟩).p7 (y:=.d (ch (qo p (dD ay (dG p (dc z z.length))) (dc z k) (mr z k)))) (by exact Jn (f:=fun n=>[av n]) (dD ay (dG p (dc z z.length))) (mr z k+p.cR.toNat) (dc z k) (by omega) (by omega) (by omega)))<|O 4 D<|cp D D D<|O 2 D<|cp D D D<|ag ((Pure.rq iQ (I D) (.bK _ (I D) fun _=>by omega) (.bK _ (I D) fun _=>by omega) fun _=>⟨by omega,by omega⟩).p7 (y:=.d (ch (qo p (dD ax (dG p (dc z z.length))) (dc z k) (mr z k)))) (by exact Jn (f:=fun n=>[av n]) (dD ax (dG p (dc z z.length))) (mr z k+p.cR.toNat) (dc z k) (by omega) (by omega) (by omega)))<|O 5 D<|ag (.nv (I D) (I D) D fun _=>iO ⟨by omega,by omega⟩)<|lC (ds:=[ch (((eB p (fW p bj (dc z z.length)) (dD ay (dG p (dc z z.length))) (dD ax (dG p (dc z z.length))) (fH p) (dc z z.length)).2.drop (dc z k)).take (mr z k)),lN (eB p (fW p bj (dc z z.length)) (dD ay (dG p (dc z z.length))) (dD ax (dG p (dc z z.length))) (fH p) (dc z k+mr z k)).1,av 0,av 0]) (aaw D D D D D D D) (fz.run bj ay ax (n:=(dc z z.length)) (a:=(dc z k)) (m:=(mr z k)) (by omega) A2 (by omega)) (au D)<|O 5 D<|cm 40 sf D<|O 1 D<|cL nB D D D D<|aN 2 D)<|al<|al<|dm (O 3 D<|cz D<|O 1 D<|cz D<|O 1 D<|ag (.pick (I D) (I D) (I D))<|O 1 D<|cz D<|O 1 D<|cz D<|O 1 D<|cz D<|O 1 D<|cz D<|O 1 D<|cz D<|O 1 D<|cz D<|cp D D D<|cz D<|ag ((Pure.rq iQ (I D) (.bK _ (I D) fun _=>by omega) (.bK _ (I D) fun _=>by omega) fun _=>⟨by omega,by omega⟩).p7 (y:=.d (ch (((eB p (fW p bj (dc z z.length)) (dD ay (dG p (dc z z.length))) (dD ax (dG p (dc z z.length))) (fH p) (dc z z.length)).2.drop (dc z k)).take (mr z k)))) (by exact Jn (f:=fun n=>[av n]) (eB p (fW p bj (dc z z.length)) (dD ay (dG p (dc z z.length))) (dD ax (dG p (dc z z.length))) (fH p) (dc z z.length)).2 (mr z k) (dc z k) (by omega) (by omega) (by rw[u2];omega)))<|cz D<|cY (cn D D) (ahb (((eB p (fW p bj (dc z z.length)) (dD ay (dG p (dc z z.length))) (dD ax (dG p (dc z z.length))) (fH p) (dc z z.length)).2.drop (dc z k)).take (mr z k)) (by omega)) (au D)<|cz D<|O 1 D<|ag (.pick (I D) (I D) (I D))<|ar) (nM K af D)<|a7 D (fun xv=>?_) fun xv=>?_
    ·cases xv
    exact bx<|aO (O 1 D<|cL nB D D D D<|ar)<|bm (O 2 D<|cp D D D<|aN 1 D)<|bm (O 1 D<|cp D D D<|aN 1 D)<|⟨k+1,l1,fD (by assumption),aZ (ec (by omega))<|aZ (ec (by rw[dc];omega))<|aZ D<|aU,fs D D D D D D D D<|fs D D D D D D D D<|ck D D<|aU⟩
   obtain rfl:k=z.length:=by have:=dj yZ;omega
   have mK:=fz.Jl bj ay ax (n:=(dc z z.length)) fz.start (dc z z.length) (Nat.le_refl _)
   have Ec:=fz.Jl mW mW ax (n:=9) fz.start 9 (Nat.le_refl _)
   have pH:=zp (p:=p) (bD:=(fW p bj (dc z z.length))) (ay:=(dD ay (dG p (dc z z.length)))) (ax:=(dD ax (dG p (dc z z.length)))) (s:=(eB p (fW p mW 9) (dD mW (dG p 9)) (dD ax (dG p 9)) (fH p) 9).1) (dc z z.length)
   refine dW<|al<|aO (O 2 D<|cY (cn D D) (fz.OF mK) (au D)<|aN 1 D)<|a7 D (fun AN=>?_) fun AN=>?_
   ·cases AN
   refine bx<|ft (O 3 D<|cY (hd D D D) (Up p Dp mW 9 U6 (by omega)) (au D)<|O 3 D<|ag ((Pure.nv (I D) (I D) D fun _=>iO (by omega)).bK (y:=aF .i64 (((dG p 9):Nat):Int)) (congrArg (aF .i64) (by omega)))<|cY (cn D D) (I6 mW (dG p 9) U6 (by omega)) (au D)<|O 3 D<|ag ((Pure.nv (I D) (I D) D fun _=>iO (by omega)).bK (y:=aF .i64 (((dG p 9):Nat):Int)) (congrArg (aF .i64) (by omega)))<|cY (cn D D) (I6 ax (dG p 9) yU (by omega)) (au D)<|O 1 D<|lC (ds:=[ch (eB p (fW p mW 9) (dD mW (dG p 9)) (dD ax (dG p 9)) (fH p) 9).2,lN (eB p (fW p mW 9) (dD mW (dG p 9)) (dD ax (dG p 9)) (fH p) 9).1,.v (.bool true)]) (vK D D D D D) (fz.Nw mW mW ax (by omega) fz.start) (au D)<|O 4 D<|cm 44 sf D<|O 1 D<|cL nB D D D D<|aN 1 D)<|aO (O 5 D<|lC (ds:=[ch (eB p (fW p bj (dc z z.length)) (dD ay (dG p (dc z z.length))) (dD ax (dG p (dc z z.length))) (eB p (fW p mW 9) (dD mW (dG p 9)) (dD ax (dG p 9)) (fH p) 9).1 (dc z z.length)).2,lN (eB p (fW p bj (dc z z.length)) (dD ay (dG p (dc z z.length))) (dD ax (dG p (dc z z.length))) (eB p (fW p mW 9) (dD mW (dG p 9)) (dD ax (dG p 9)) (fH p) 9).1 (dc z z.length)).1,.v (.bool true)]) (vK D D D D D) (fz.Nw bj ay ax (by omega) Ec) (au D)<|O 4 D<|cm 47 sf D<|O 1 D<|cL nB D D D D<|aN 1 D)<|al<|aO (O 3 D<|cz D<|O 1 D<|cz D<|O 1 D<|ag (.pick (I D) (I D) (I D))<|O 1 D<|cz D<|O 1 D<|cz D<|O 1 D<|cz D<|O 1 D<|cz D<|ag ((ib D D D).bK (y:=bk false) (by rw[pH];simp))<|ag (.pick (I D) (I D) (I D))<|ar)<|a7 D (fun xw=>?_) fun xw=>?_
   ·cases xw
   refine bx<|aL 1 D<|bX<|eP (σ:=Nat) [(ab 1,_),(ab 2,_),(ab 3,_),(ab 4,_),(ab 5,_),(ab 15,_),(ab 18,_),(ab 25,_),(ab 27,_),(ab 32,_),(ab 46,_)] (fun t=>[(ab 49,.aB (aF .i64 (t:Int)))]) (fun t=>t<=(dc z z.length)) (fun t=>(dc z z.length)-t) 0 (aZ D<|aU) (fs D D D D D D D D<|ck D D<|aZ D<|aU) (Nat.zero_le _) fun t aT=>?_
   refine al<|aL 3 D<|a7 D (fun AO=>?_) fun AO=>?_
   ·have U7:t<(dc z z.length):=eJ AO
    refine bx<|al<|bX<|ft (O 3 D<|dp D D<|dp D D<|c6 D D (bH D) D<|eg D D D<|O 1 D<|dp D D<|dp D D<|cF [] D (.pV fB (bH D) (bH D) fun h=>by exact⟨by omega,by omega⟩)<|cF [] D (.fG bY (bH D) D)<|dp D D<|dp D D<|cF [] D (.pV fB (bH D) (bH D) fun h=>by exact⟨by omega,by omega⟩)<|cF [] D (.fG bY (bH D) D)<|c6 D D (bH D) D<|eg D D D<|ar)<|a7 D (fun xx=>?_) fun xx=>?_
    ·exfalso
     obtain⟨aC,ae⟩:=iX xx
     obtain⟨uS,vR⟩:=iX aC
     have uS:=cJ uS
     have vR:=cJ vR
     have he:=fz.ahU bj ay ax mW mW ax (n:=(dc z z.length)) uS U7 vR
     exact absurd ae (by show¬(!decide ((eB p (fW p bj (dc z z.length)) (dD ay (dG p (dc z z.length))) (dD ax (dG p (dc z z.length))) (eB p (fW p mW 9) (dD mW (dG p 9)) (dD ax (dG p 9)) (fH p) 9).1 (dc z z.length)).2.getD (t:Int).toNat default=(eB p (fW p bj (dc z z.length)) (dD ay (dG p (dc z z.length))) (dD ax (dG p (dc z z.length))) (fH p) (dc z z.length)).2.getD (t:Int).toNat default))=true;rw[Int.toNat_natCast,he];simp)
    exact bx<|bm (O 1 D<|cp D D D<|aN 1 D)<|⟨t+1,U7,by show(dc z z.length)-(t+1)<(dc z z.length)-t;omega,aZ (ec (by omega))<|aU,fs D D D D D D D D<|ck D D<|aZ D<|aU⟩
   exact dW<|bm (O 1 D<|cp D D D<|aN 1 D)<|⟨i+1,aG,fD (by assumption),aZ (ec (by omega))<|aU,da D D D D<|ck D D<|aU⟩
  exact dW<|aL 1 D<|bp<|dr D D
section
open Go Go.WideShapes Go.ChangeShapes Go.RowKit
variable {P:Program}
inductive mX(P:Program):TypeId->List bg->Prop
 |int {t:TypeId} {k:IntKind} {n:Int} (hu:P.underlying t=some (.int k)) (h:k.min<=n/\n<=k.max):mX P t [.v (.int k n)]
 |bool {t:TypeId} {b:Bool} (hu:P.underlying t=some .bool):mX P t [.v (.bool b)]
 |j3 {t:TypeId} {s:ByteArray} (hu:P.underlying t=some .string) (an:s.size<=140737488351232):mX P t [.v (.string s)]
 |slice {t e:TypeId} {ls:List (List bg)} (hu:P.underlying t=some (.slice e)) (aa:ls.length*P.bytesOf e<=140737488351232) (h:∀l∈ls,mX P e l):mX P t [.cK (P.cellsOf e) ls.length fun i=>ls.getD i []]
 |struct {t:TypeId} {fw:Array Field} {l:List bg} (hu:P.underlying t=some (.struct fw)) (aa:l.length=P.cellsOf t) (h:∀(i:Nat) (f:Field),fw[i]?=some f->mX P f.type ((l.drop f.offset).take (P.cellsOf f.type))):mX P t l
 |array {t e:TypeId} {n:Nat} {l:List bg} (hu:P.underlying t=some (.array n e)) (aa:l.length=P.cellsOf t) (h:∀i,i<n->mX P e ((l.drop (i*P.cellsOf e)).take (P.cellsOf e))):mX P t l
structure Bl(M:Mem)(l:List bg)(cs:List Value):Prop where
 len:l.length=cs.length
 e6:∀(j:Nat) (x:bg) (y:Value),l[j]?=some x->cs[j]?=some y->ey M x y
theorem Gb{w:World}{ly:Nat}{a:Addr}{n:Nat}{cs:List Value}(h:w.cells? ly a n=some cs):cs.length=n/\∀j,j<n->w.cell? (a.add j)=cs[j]?:=by
 unfold World.cells? at h
 split at h
 ·exact⟨by simpa using mapM_some_length h,fun j az=>mapM_some_get h j j (by simp[az])⟩
 ·cases h
theorem Nz{M:Mem}{cs:List Value}{T:TypeId->List bg->Prop}:∀(Bm:List (TypeId×Nat)) (off:Nat),off+(Bm.map (·.2)).sum<=cs.length->
  (∀(j:Nat) (x:TypeId×Nat),Bm[j]?=some x->∃l,T x.1 l/\Bl M l ((cs.drop (off+((Bm.take j).map (·.2)).sum)).take x.2))->
  ∃L:List bg,L.length=(Bm.map (·.2)).sum/\Bl M L ((cs.drop off).take (Bm.map (·.2)).sum)/\∀(j:Nat) (x:TypeId×Nat),Bm[j]?=some x->T x.1 ((L.drop ((Bm.take j).map (·.2)).sum).take x.2)
 |[],off,_,_=>⟨[],rfl,⟨by simp,fun j x y Y=>by simp at Y⟩,fun j x Y=>by simp at Y⟩
 |s::r,off,hle,h=>by
  simp only[List.map_cons,List.sum_cons]at hle
  obtain⟨l,aa,aq⟩:=h 0 s rfl
  simp only[List.take_zero,List.map_nil,List.sum_nil,Nat.add_zero]at aq
  obtain⟨L,J,W,aH⟩:=Nz (M:=M) (cs:=cs) (T:=T) r (off+s.2) (by omega) (fun j x Y=>by
   obtain⟨l',h',lA⟩:=h (j+1) x (by simpa using Y)
   refine⟨l',h',?_⟩
   simp only[List.take_succ_cons,List.map_cons,List.sum_cons]at lA
   rwa[show off+(s.2+((r.take j).map (·.2)).sum)=off+s.2+((r.take j).map (·.2)).sum by omega]at lA)
  have qL:l.length=s.2:=by have:=aq.len;simp at this;omega
  refine⟨l++L,by simp[qL,J],⟨by simp[qL,J];omega,fun j x y Y ak=>?_⟩,fun j x Y=>?_⟩
  ·simp only[List.map_cons,List.sum_cons]at ak
   by_cases az:j<l.length
   ·rw[pf az]at Y
    refine aq.e6 j x y Y ?_
    rw[pQ (by omega)]at ak⊢
    exact ak
   ·rw[List.getElem?_append_right (by omega)]at Y
    have ajZ:j-l.length<L.length:=(List.getElem?_eq_some_iff.1 Y).1
    refine W.e6 (j-l.length) x y Y ?_
    rw[pQ (by omega)]at ak⊢
    rw[List.getElem?_drop]at ak⊢
    rw[<-ak]
    congr 1
    omega
  ·cases j with
   |zero=>
    simp at Y
    subst Y
    simp only[List.take_zero,List.map_nil,List.sum_nil,List.drop_zero]
    rw[<-qL,List.take_left']
    ·exact aa
    ·rfl
   |succ j=>
    simp only[List.getElem?_cons_succ]at Y
    simp only[List.take_succ_cons,List.map_cons,List.sum_cons]
    have e:(l++L).drop (s.2+((r.take j).map (·.2)).sum)=L.drop ((r.take j).map (·.2)).sum:=by
     rw[<-qL,<-List.drop_drop,List.drop_left']
     rfl
    rw[e]
    exact aH j x Y
def NA(P:Program)(ts:List TypeId):Bool:=ts.all fun t=>match P.underlying t with
 |some (.int _)|some .bool|some .string=>true
 |some (.slice e)=>hx e ts&&Nat.blt 0 (P.cellsOf e)
 |some (.struct fw)=>fw.toList.all fun f=>hx f.type ts
 |some (.array _ e)=>hx e ts
 |_=>false
def qp(w:World):Mem:=fun b o=>w.cell? ⟨b,o,none⟩
theorem NB{H:Type}{e:TypeId}:∀{l:List (DataW H)} {d:DataW H},d∈l->∀n∈d.weights P e,n∈DataW.weightsAll P e l
 |x::r,d,aq,n,af=>by
  simp only[DataW.weightsAll,hy]
  rcases eb.1 aq with rfl|aq
  ·exact .inl af
  ·exact .inr (NB aq n af)
theorem ah5{H:Type}:∀{ts:List TypeId} {ds:List (DataW H)} {j:Nat} {t:TypeId} {d:DataW H},ts[j]?=some t->ds[j]?=some d->∀n∈d.weights P t,n∈DataW.weightsEach P ts ds:=
 fun aT aq=>DataW.weights_mem_each aT aq
theorem ah6{k:IntKind}{n:Int}(h:(Lit.int k n).wf=true):k.min<=n/\n<=k.max:=by
 simpa[Lit.wf]using h
theorem ah7{H:Type}{enc:TypeId×Value->H}{w:World}{ly:Nat}{spare:Nat->Bool}{held:Bool}{ts:List TypeId}(Z:NA P ts=true)(aa:laidOutB P=true)(aG:∀t∈ts,t<P.types.size):
  ∀(fuel:Nat) (t:TypeId) (cs:List Value) (x:DataW H×List MemPlace),t∈ts->DataW.trod enc P w ly spare held fuel t cs=some x->(∀n∈x.1.weights P t,n<=reachBytes)->
   ∃l,mX P t l/\Bl (qp w) l cs:=by
 have k7:∀t∈ts,(match P.underlying t with
   |some (.int _)|some .bool|some .string=>true
   |some (.slice e)=>hx e ts&&Nat.blt 0 (P.cellsOf e)
   |some (.struct fw)=>fw.toList.all fun f=>hx f.type ts
   |some (.array _ e)=>hx e ts
   |_=>false)=true:=eZ.1 Z
 have one:∀{x:bg} {y:Value},ey (qp w) x y->Bl (qp w) [x] [y]:=fun h=>⟨rfl,fun j JV x3 Y ak=>by
  cases j with
  |zero=>simp at Y ak;subst Y;subst ak;exact h
  |succ j=>simp at Y⟩
 intro fuel
 induction fuel with
 |zero=>intro t cs x _ h;simp[DataW.trod]at h
 |succ fuel aJ=>
  intro t cs x aT h hw
  have xO:=k7 t aT
  cases hu:P.underlying t with
  |none=>rw[hu]at xO;cases xO
  |some k=>
   rw[hu]at xO
   cases k with
   |int k=>
    obtain⟨n,rfl,_,eT⟩:=DataW.trod_int hu h
    exact⟨_,.int hu (ah6 eT),one (.v _)⟩
   |bool=>
    obtain⟨b,rfl,_⟩:=DataW.trod_bool hu h
    exact⟨_,.bool hu,one (.v _)⟩
   |string=>
    obtain⟨s,rfl,rfl,_⟩:=DataW.trod_string hu h
    refine⟨_,.j3 hu ?_,one (.v _)⟩
    have:=hw s.data.toList.length (by simp[DataW.weights])
    have e:s.data.toList.length=s.size:=by rw[Array.length_toList];rfl
    rw[e]at this
    exact this
   |slice e=>
    simp only[eL]at xO
    have he:e∈ts:=h6.1 xO.1
    have aj0:0<P.cellsOf e:=cC xO.2
    rcases DataW.trod_slice hu h with⟨rfl,rfl⟩|⟨a,len,cap,elems,rest,n,af,rfl,rfl,aj1,BC,we,M5,gT,_,_⟩
    ·exact⟨_,.slice (ls:=[]) hu (by simp) (by simp),one (.ji _ _ _ _)⟩
    ·have p4:fuel=n:=by omega
     subst p4
     have U8:∀m∈(elems.length+rest.length)*P.bytesOf e::(DataW.weightsAll P e (elems.map (·.1))++DataW.weightsAll P e (rest.map (·.1))),m<=reachBytes:=by
      intro m aw
      apply hw m
      simp only[DataW.weights,hu]
      simpa using aw
     have ah8:∀i,i<len->∃l,mX P e l/\∃cs',w.cells? ly (a.add (i*P.cellsOf e)) (P.cellsOf e)=some cs'/\Bl (qp w) l cs':=fun i hi=>by
      have J:=gT i hi
      have U9:i<elems.length:=by omega
      rw[dx U9]at J
      obtain⟨cs',iy,GN⟩:=Option.bind_eq_some_iff.1 J
      obtain⟨l,iF,gr⟩:=aJ e cs' elems[i] he GN (fun m aw=>U8 m (by
       simp only[eb,hy]
       exact .inr (.inl (NB (List.mem_map.2 ⟨elems[i],List.getElem_mem U9,rfl⟩) m aw))))
      exact⟨l,iF,cs',iy,gr⟩
     have ah9:∃ls:List (List bg),ls.length=len/\∀i,i<len->mX P e (ls.getD i [])/\∃cs',w.cells? ly (a.add (i*P.cellsOf e)) (P.cellsOf e)=some cs'/\Bl (qp w) (ls.getD i []) cs':=by
      have:∀m,m<=len->∃ls:List (List bg),ls.length=m/\∀i,i<m->mX P e (ls.getD i [])/\∃cs',w.cells? ly (a.add (i*P.cellsOf e)) (P.cellsOf e)=some cs'/\Bl (qp w) (ls.getD i []) cs':=by
       intro m
       induction m with
       |zero=>intro _;exact⟨[],rfl,fun i hi=>by omega⟩
       |succ m aia=>
        intro aw
        obtain⟨ls,J,W⟩:=aia (by omega)
        obtain⟨l,iF,gr⟩:=ah8 m (by omega)
        refine⟨ls++[l],by simp[J],fun i hi=>?_⟩
        by_cases aib:i<m
        ·have aX:(ls++[l]).getD i []=ls.getD i []:=by
          rw[cN,cN,pf (by omega)]
         rw[aX];exact W i aib
        ·have aic:i=m:=by omega
         subst aic
         have aX:(ls++[l]).getD i []=l:=by
          rw[cN,List.getElem?_append_right (by omega),J];simp
         rw[aX];exact⟨iF,gr⟩
      exact this len (Nat.le_refl _)
     obtain⟨ls,NC,k9⟩:=ah9
     refine⟨_,.slice (ls:=ls) hu ?_ fun l Gt=>?_,one ?_⟩
     ·have J:=U8 ((elems.length+rest.length)*P.bytesOf e) (by simp)
      have W:ls.length*P.bytesOf e<=(elems.length+rest.length)*P.bytesOf e:=Nat.mul_le_mul_right _ (by omega)
      have aH:reachBytes=140737488351232+4096-4096:=rfl
      omega
     ·obtain⟨i,hi,rfl⟩:=List.getElem_of_mem Gt
      have:=(k9 i (by omega)).1
      rwa[cN,dx hi]at this
     ·rw[NC]
      by_cases bb:len=0
      ·rw[bb];exact .ji _ _ _ _
      ·have jd:a.spot=none:=by
        obtain⟨_,cs',iy,aq⟩:=k9 0 (by omega)
        have J:=(Gb iy).2 0 (by omega)
        have W:0<cs'.length:=by rw[(Gb iy).1];omega
        rw[dx W]at J
        cases an:a.spot with
        |none=>rfl
        |some sp=>
         exfalso
         have aX:(a.add (0*P.cellsOf e)).add 0=a:=by simp[Addr.add]
         rw[aX]at J
         unfold World.cell? at J
         split at J
         ·simp[an]at J
         ·cases J
       obtain⟨zv,bC,aj2⟩:=a
       simp only at jd
       subst jd
       refine .cK _ _ _ zv bC cap BC (fun i hi=>?_) (fun i j=>((w.cell? ⟨zv,bC+(i*P.cellsOf e+j),none⟩).getD .nilFunc)) (fun i j hi az=>?_) fun i j x hi Y=>?_
       ·obtain⟨_,cs',iy,aq⟩:=k9 i hi
        rw[aq.len,(Gb iy).1]
       ·obtain⟨_,cs',iy,aq⟩:=k9 i hi
        obtain⟨aP,bq⟩:=Gb iy
        have J:=bq j az
        rw[oA,oA,Nat.add_assoc,dx (by omega)]at J
        show w.cell? _=some ((w.cell? _).getD _)
        rw[J];rfl
       ·obtain⟨_,cs',iy,aq⟩:=k9 i hi
        obtain⟨aP,bq⟩:=Gb iy
        have az:j<P.cellsOf e:=by have:=(List.getElem?_eq_some_iff.1 Y).1;rw[aq.len,aP]at this;exact this
        have J:=bq j az
        rw[oA,oA,Nat.add_assoc,dx (by omega)]at J
        rw[J]
        exact aq.e6 j x _ Y (dx _)
   |struct fw=>
    have iL:∀f∈fw.toList,f.type∈ts:=fun f bf=>h6.1 (eZ.1 xO f bf)
    obtain⟨xs,n,af,rfl,hO,lO,gT⟩:=DataW.trod_struct hu h
    have p4:fuel=n:=by omega
    subst p4
    obtain⟨_,uY,Va⟩:=kid_struct aa (aG t aT) hu
    have Vb:∀j:Nat,((fw.toList.map fun f=>(f.type,P.cellsOf f.type)).take j).map (·.2)=(fw.toList.take j).map fun f=>P.cellsOf f.type:=fun j=>by
     rw[<-List.map_take,List.map_map];rfl
    have Vc:((fw.toList.map fun f=>(f.type,P.cellsOf f.type)).map (·.2))=fw.toList.map fun f=>P.cellsOf f.type:=by rw[List.map_map];rfl
    obtain⟨L,J,W,aH⟩:=Nz (M:=qp w) (cs:=cs) (T:=mX P) (fw.toList.map fun f=>(f.type,P.cellsOf f.type)) 0 (by rw[Vc,<-uY,hO];omega) (fun j x Y=>by
     simp only[fJ,Option.map_eq_some_iff]at Y
     obtain⟨f,bf,rfl⟩:=Y
     have wZ:fw[j]?=some f:=by simpa using bf
     have Gc:j<xs.length:=by rw[lO];exact(Array.getElem?_eq_some_iff.1 wZ).1
     have aV:=gT j f wZ
     rw[dx Gc]at aV
     obtain⟨l,iF,gr⟩:=aJ f.type _ xs[j] (iL f (List.mem_of_getElem? bf)) aV (fun m aw=>hw m (by
      simp only[DataW.weights,hu]
      exact ah5 (j:=j) (t:=f.type) (d:=xs[j].1) (by simp[wZ]) (by simp[Gc]) m aw))
     refine⟨l,iF,?_⟩
     rw[Vb,Nat.zero_add,<-Va j f bf]
     exact gr)
    rw[Vc,<-uY]at J W
    refine⟨L,.struct hu J fun j f bf=>?_,?_⟩
    ·have wZ:fw.toList[j]?=some f:=by simpa using bf
     have:=aH j (f.type,P.cellsOf f.type) (by simp only[fJ,wZ];rfl)
     rw[Vb,<-Va j f wZ]at this
     exact this
    ·rw[List.drop_zero,<-hO,List.take_length]at W
     exact W
   |array n e=>
    have he:e∈ts:=h6.1 xO
    obtain⟨xs,m,af,rfl,hO,lO,gT⟩:=DataW.trod_array hu h
    have p4:fuel=m:=by omega
    subst p4
    obtain⟨_,uY⟩:=kid_array aa (aG t aT) hu
    have k9:∀k:Nat,k<=n->(((List.replicate n (e,P.cellsOf e)).take k).map (·.2)).sum=k*P.cellsOf e:=fun k K=>by
     rw[List.take_replicate,Nat.min_eq_left K,List.map_replicate,List.sum_replicate_nat]
    have Vd:((List.replicate n (e,P.cellsOf e)).map (·.2)).sum=n*P.cellsOf e:=by rw[List.map_replicate,List.sum_replicate_nat]
    obtain⟨L,J,W,aH⟩:=Nz (M:=qp w) (cs:=cs) (T:=mX P) (List.replicate n (e,P.cellsOf e)) 0 (by rw[Vd,hO,uY];omega) (fun j x Y=>by
     rw[List.getElem?_replicate]at Y
     have az:j<n:=by
      rcases Nat.lt_or_ge j n with h|h
      ·exact h
      ·rw[if_neg (by omega)]at Y;cases Y
     rw[if_pos az,en]at Y
     subst Y
     have Gc:j<xs.length:=by omega
     have aV:=gT j az
     rw[dx Gc]at aV
     obtain⟨l,iF,gr⟩:=aJ e _ xs[j] he aV (fun m aw=>hw m (by
      simp only[DataW.weights,hu]
      exact NB (List.mem_map.2 ⟨xs[j],List.getElem_mem Gc,rfl⟩) m aw))
     refine⟨l,iF,?_⟩
     rw[k9 j (by omega),Nat.zero_add]
     exact gr)
    rw[Vd,<-uY]at J W
    refine⟨L,.array hu J fun j az=>?_,?_⟩
    ·have:=aH j (e,P.cellsOf e) (by rw[List.getElem?_replicate,if_pos az])
     rwa[k9 j (by omega)]at this
    ·rw[List.drop_zero,<-hO,List.take_length]at W
     exact W
   |_=>cases xO
theorem Dq{H:Type}{enc:TypeId×Value->H}{w:World}{aid ly:Nat}{spare:Nat->Bool}{held:Bool}{ts:List TypeId}(Z:NA P ts=true)(aa:laidOutB P=true)(aG:∀t∈ts,t<P.types.size)
  {t:TypeId} {v:Value} {d:DataW H} {ps:List MemPlace} (aT:t∈ts) (hu:(∃k,P.underlying t=some (.int k))\/P.underlying t=some .bool\/P.underlying t=some .string\/∃e,P.underlying t=some (.slice e)) (p6:Value.okWide P w .any aid t v) (aq:DataW.Trod enc P w ly spare held t v d ps)
  (hw:∀n∈d.weights P t,n<=reachBytes):∃x,mX P t [x]/\ey (qp w) x v:=by
 have aj:v.cells= #[v]:=by
  rcases hu with⟨k,hu⟩|hu|hu|⟨e,hu⟩
  ·obtain⟨n,rfl⟩:=okWide_int hu p6;rfl
  ·obtain⟨n,rfl⟩:=okWide_bool hu p6;rfl
  ·obtain⟨n,rfl⟩:=okWide_string hu p6;rfl
  ·obtain⟨a,b,c,rfl⟩:=okWide_slice hu p6;rfl
 obtain⟨fuel,bf⟩:=aq
 obtain⟨l,J,W⟩:=ah7 Z aa aG fuel t _ _ aT bf hw
 rw[aj]at W
 have hlen:=W.len
 match l,hlen with
 |[x],_=>exact⟨x,J,W.e6 0 x v D D⟩
theorem aie{t:TypeId}{k:IntKind}{l:List bg}(hu:P.underlying t=some (.int k))(h:mX P t l):∃n,l=[.v (.int k n)]/\k.min<=n/\n<=k.max:=by
 cases h with
 |int fX h=>rw[hu]at fX;cases fX;exact⟨_,rfl,h⟩
 |bool fX=>rw[hu]at fX;cases fX
 |j3 fX=>rw[hu]at fX;cases fX
 |slice fX=>rw[hu]at fX;cases fX
 |struct fX=>rw[hu]at fX;cases fX
 |array fX=>rw[hu]at fX;cases fX
theorem aif{t:TypeId}{l:List bg}(hu:P.underlying t=some .string)(h:mX P t l):∃s:ByteArray,l=[.v (.string s)]/\s.size<=140737488351232:=by
 cases h with
 |int fX h=>rw[hu]at fX;cases fX
 |bool fX=>rw[hu]at fX;cases fX
 |j3 fX h=>exact⟨_,rfl,h⟩
 |slice fX=>rw[hu]at fX;cases fX
 |struct fX=>rw[hu]at fX;cases fX
 |array fX=>rw[hu]at fX;cases fX
theorem aih{t e:TypeId}{l:List bg}(hu:P.underlying t=some (.slice e))(h:mX P t l):∃ls:List (List bg),l=[.cK (P.cellsOf e) ls.length fun i=>ls.getD i []]/\ls.length*P.bytesOf e<=140737488351232/\∀x∈ls,mX P e x:=by
 cases h with
 |int fX h=>rw[hu]at fX;cases fX
 |bool fX=>rw[hu]at fX;cases fX
 |j3 fX=>rw[hu]at fX;cases fX
 |slice fX aa h=>rw[hu]at fX;cases fX;exact⟨_,rfl,aa,h⟩
 |struct fX=>rw[hu]at fX;cases fX
 |array fX=>rw[hu]at fX;cases fX
theorem aii{H:Type}{enc:TypeId×Value->H}{f:Func}{s:ChangeSpec}{vi dt handsOn again:Bool}{gB pP:World}{args:Array Value}{v:Value}{ds gs:List (DataW H)}{before pa pv:List MemPlace}
  (nY:DataW.Whole enc P f.params.toList s.vars vi gB args.toList ds gs before)
  (lT:∀(b:Nat) (sp:Nat->Bool) (aq:Bool),DataW.TrodAll enc P pP b sp aq f.resultTypes.toList (v.resultList f.resultTypes.size) (s.fn H (ds++gs)).results [])
  (pW:∀sp:Nat->Bool,(∀p∈before,sp p.block=true)->DataW.TrodAll enc P pP 0 sp true f.params.toList args.toList (s.fn H (ds++gs)).args pa)
  (Ve:∀sp:Nat->Bool,(∀p∈before,sp p.block=true)->DataW.TrodVars enc P pP sp s.vars (s.fn H (ds++gs)).vars pv)
  (fl:before=pa++pv) (K:gB.keptBut pP (· ∈before)) (ND:∀a:Addr,a.block<gB.heap.size->pP.frozen? a=gB.frozen? a)
  (dX:∀(j:Nat) (t:TypeId) (r:Value),f.resultTypes[j]?=some t->(v.resultList f.resultTypes.size)[j]?=some r->Value.okWide P pP .any 0 t r):
  s.post enc P f vi dt handsOn again gB args v pP:=by
 have hold:∀p∈before,(fun b=>decide (b<gB.heap.size)) p.block=true:=fun p Z=>by simpa using nY.lt p Z
 refine⟨ds,gs,before,[],pa,pv,nY,lT _ _ _,pW _ hold,Ve _ hold,World.keptBut_mono (fun p Z=>⟨Z,?_⟩) K,fun _=>?_⟩
 ·rw[fl,hy]at Z
  exact Or.inr Z
 ·have aG:=nY.lt
  obtain⟨_,_,_,_,_,bd,af⟩:=nY
  refine⟨dX,_,_,([]++pa)++pv,⟨[]++pa,pv,trodAll_append (pW _ fun _ _=>rfl) (lT _ _ _),Ve _ fun _ _=>rfl,rfl,?_,?_⟩,?_⟩
  ·intro b off Z
   have js:MemPlace.cell b off∈before:=by rw[fl];simpa using Z
   rw[ND _ (aG _ js)]
   exact bd b off js
  ·intro aC
   have:=af aC
   rw[fl]at this
   simpa using this
  ·intro p Z _
   rw[fl]
   simpa using Z
theorem Vf{H:Type}{enc:TypeId×Value->H}(aa:laidOutB P=true){gB pP:World}(ae:∀b,b<gB.heap.size->pP.heap[b]?=gB.heap[b]?){sp:Nat->Bool}:
  ∀{ts:List TypeId} {vs:List Value} {ds:List (DataW H)} {ps:List MemPlace},(∀t∈ts,P.readableRec t=true/\t<P.types.size)->(∀p∈ps,p.block<gB.heap.size)->(∀p∈ps,sp p.block=true)->
   DataW.TrodAll enc P gB 0 (fun _=>true) true ts vs ds ps->DataW.TrodAll enc P pP 0 sp true ts vs ds ps
 |[],[],[],ps,_,_,_,h=>h
 |t::ts,v::vs,d::ds,ps,aT,aG,jd,⟨p,q,⟨fuel,J⟩,W,e⟩=>by
  subst e
  obtain⟨aE,cj⟩:=aT t (by simp)
  refine⟨p,q,⟨fuel,DataW.trod_stays (kids_book aa aE) (book_sized aE) (fun h=>by cases h) ⟨cj,book_self t⟩ J (fun x Y=>?_) fun x Y=>jd x (by simp[Y])⟩,Vf aa ae (fun t GN=>aT t (by simp[GN])) (fun x Y=>aG x (by simp[Y])) (fun x Y=>jd x (by simp[Y])) W,rfl⟩
  have Hl:=aG x (by simp[Y])
  cases x with
  |cell b o=>exact World.cell?_of_block (w:=gB) (ae b Hl)
  |map b=>exact ae b Hl
 |[],_::_,_,_,_,_,_,h=>h.elim
 |[],[],_::_,_,_,_,_,h=>h.elim
 |_::_,[],_,_,_,_,_,h=>h.elim
 |_::_,_::_,[],_,_,_,_,h=>h.elim
theorem aij{H:Type}{enc:TypeId×Value->H}{Vg:FuncId}{f:Func}{s:ChangeSpec}{vi dt handsOn again:Bool}{gB:World}{args:Array Value}{ds gs:List (DataW H)}{before:List MemPlace}{Vh:List ai}{Vi:TypeId}
  (aa:laidOutB P=true) (nY:DataW.Whole enc P f.params.toList s.vars vi gB args.toList ds gs before) (aK:s.vars=[]) (fl:∀t∈f.params.toList,P.readableRec t=true/\t<P.types.size)
  (Vj:f.resultTypes= #[Vi]) (Vk:P.underlying Vi=some .bool) (an:s.fn H (ds++gs)={results:=[.lit (.bool true)],args:=ds})
  (wH:u4 (qp gB)/\Dx gB [] (qp gB)) (Ig:bw P Vg Vh [] (bk true) [] []) (pW:gZ ⟨fun _=>0,fun _=>none⟩ (qp gB) Vh args.toList):
  Calls P Vg args gB fun e pP=>∃v,e= .returned v/\s.post enc P f vi dt handsOn again gB args v pP:=by
 have hw:cl (.dd gB [] (qp gB) ⟨fun _=>0,fun _=>none⟩ [] 0) [] ⟨fun _=>0,fun _=>none⟩ (qp gB) gB:=
  {
   dn:=fun l B e=>by simp[ad.get]at e
   inj:=fun l l' a=>by obtain⟨⟨B,e⟩,_⟩:=a;simp[ad.get]at e
   dO:=fun l a=>by obtain⟨⟨B,e⟩,_⟩:=a;simp[ad.get]at e
   dt:=fun l a=>by obtain⟨⟨B,e⟩,_⟩:=a;simp[ad.get]at e
   cE:=fun l a=>by obtain⟨⟨B,e⟩,_⟩:=a;simp[ad.get]at e
   mem:=fun b o v h=>h,dA:=jH _,er:=wH,ea:=fun b o h=>.inl h,aA:=fun l aa=>by cases aa
   b6:=⟨rfl,rfl,rfl,Nat.le_refl _,fun _ _ _=>rfl⟩}
 have:=Ig _ _ gB [] args.toList hw pW
 rw[Array.toArray_toList]at this
 refine this.mono ?_
 rintro e pP ⟨v,br,bo,rfl,sb,b8⟩
 have UA:v= .bool true:=qy sb
 subst UA
 refine⟨_,rfl,?_⟩
 have eO:∀b,b<gB.heap.size->pP.heap[b]?=gB.heap[b]?:=fun b ae=>b8.b6.block b ae (by simp)
 have te:=nY
 obtain⟨p,q,dk,Ae,Ar,ND,h0⟩:=te
 have bA:gs=[]/\q=[]:=by
  rw[aK]at Ae
  cases gs with
  |nil=>exact⟨rfl,Ae⟩
  |cons g gs=>exact Ae.elim
 obtain⟨rfl,rfl⟩:=bA
 rw[List.append_nil]at Ar
 subst Ar
 have aG:=nY.lt
 refine aii (pa:=before) (pv:=[]) nY (fun b sp aq=>?_) (fun sp jd=>?_) (fun sp _=>?_) (by simp) ?_ (fun a aC=>?_) ?_
 ·rw[an,Vj]
  exact trodAll_cons_mk (shut_bool Vk true) trodAll_mk0
 ·rw[an]
  exact Vf aa eO fl aG jd dk
 ·rw[an,aK];rfl
 ·refine⟨b8.b6.os,b8.b6.output,fun i hi=>?_⟩
  rw[eO i hi]
  cases gB.heap[i]? with
  |none=>rfl
  |some o=>cases o<;>simp
 ·unfold World.frozen?
  rw[eO _ aC]
 ·exact ok_one Vj D (okWide_bool_mk Vk true)
end
theorem aQ:ownKnob prog.godebug=none:=by kernel_rfl
theorem Bn:laidOutB prog=true:=by kernel_rfl
def Dr:List TypeId:=[9,22,23,3,5]
theorem Ds:NA prog Dr=true:=by kernel_rfl
theorem aik:(Dr.all fun t=>decide (t<prog.types.size))=true:=by kernel_rfl
theorem Bo:∀t∈Dr,t<prog.types.size:=fun t aT=>by simpa using eZ.1 aik t aT
theorem ail:(Dr.all fun t=>prog.readableRec t)=true:=by kernel_rfl
theorem aim{ts:List TypeId}(h:ts.all (fun t=>hx t Dr)=true):∀t∈ts,prog.readableRec t=true/\t<prog.types.size:=fun t aT=>
 have aw:t∈Dr:=h6.1 (eZ.1 h t aT)
 ⟨eZ.1 ail t aw,Bo t aw⟩
theorem Vl{t:TypeId}{k:IntKind}(aT:prog.underlying t=some (.int k)):∀(ls:List (List bg)),(∀l∈ls,mX prog t l)->∃xs:List Int,xs.length=ls.length/\(∀i,i<xs.length->k.min<=xs.getD i default/\xs.getD i default<=k.max)/\∀i,i<ls.length->ls.getD i []=[.v (.int k (xs.getD i default))]
 |[],_=>⟨[],rfl,fun i hi=>(nomatch hi),fun i hi=>(nomatch hi)⟩
 |l::r,h=>by
  obtain⟨n,rfl,J,W⟩:=aie aT (h l (by simp))
  obtain⟨xs,g1,g2,g3⟩:=Vl aT r fun x Y=>h x (by simp[Y])
  refine⟨n::xs,by simp[g1],fun i hi=>?_,fun i hi=>?_⟩
  ·cases i with
   |zero=>exact⟨J,W⟩
   |succ i=>simpa using g2 i (by simpa using hi)
  ·cases i with
   |zero=>rfl
   |succ i=>simpa using g3 i (by simpa using hi)
theorem Gd{s t:TypeId}{k:IntKind}(an:prog.underlying s=some (.slice t))(aT:prog.underlying t=some (.int k))(aj:prog.cellsOf t=1)(ae:1<=prog.bytesOf t){x:bg}(h:mX prog s [x]):∃xs:List Int,xs.length<=140737488351232/\(∀i,i<xs.length->k.min<=xs.getD i default/\xs.getD i default<=k.max)/\∀M v,ey M x v->ey M (h8 1 (fun n=>[.v (.int k n)]) xs) v:=by
 obtain⟨ls,e,aa,NC⟩:=aih an h
 obtain⟨xs,J,W,aH⟩:=Vl aT ls NC
 refine⟨xs,?_,W,fun M v aq=>?_⟩
 ·have:=Nat.le_mul_of_pos_right ls.length ae
  omega
 ·simp only[List.cons.injEq,and_true]at e
  subst e
  rw[aj]at aq
  show ey M (.cK 1 xs.length _) v
  rw[J]
  exact Ki aq fun i hi=>by rw[aH i hi]
theorem Jo:prog.cellsOf 3=1:=by kernel_rfl
theorem ain:prog.cellsOf 5=1:=by kernel_rfl
theorem Jp:1<=prog.bytesOf 3:=by first|exact cC (by kernel_rfl)|(have:prog.bytesOf 3=8:=by kernel_rfl;omega)
theorem aio:1<=prog.bytesOf 5:=by first|exact cC (by kernel_rfl)|(have:prog.bytesOf 5=1:=by kernel_rfl;omega)
theorem aip{V:cu}{M:Mem}{hK jx nn qQ xm E8:bg}{v1 v2 v3 v4 v5 v6:Value}(J:ey M hK v1)(W:ey M jx v2)(aH:ey M nn v3)(aV:ey M qQ v4)(db:ey M xm v5)(fc:ey M E8 v6):gZ V M [.d hK,.d jx,.d nn,.d qQ,.d xm,.d E8] [v1,v2,v3,v4,v5,v6]:=⟨rfl,fun j a b aC ae=>by
 match j with
 |0=>simp at aC ae;subst aC;subst ae;exact .d _ _ J
 |1=>simp at aC ae;subst aC;subst ae;exact .d _ _ W
 |2=>simp at aC ae;subst aC;subst ae;exact .d _ _ aH
 |3=>simp at aC ae;subst aC;subst ae;exact .d _ _ aV
 |4=>simp at aC ae;subst aC;subst ae;exact .d _ _ db
 |5=>simp at aC ae;subst aC;subst ae;exact .d _ _ fc
 |j+6=>simp at aC⟩
abbrev Ge:List (String×DataW Unit):=[("math/bits.deBruijn32tab",Rows.laid_math_bits_deBruijn32tab),("math/bits.deBruijn64tab",Rows.laid_math_bits_deBruijn64tab),("internal/strconv.uint64pow10",Rows.laid_internal_strconv_uint64pow10),("strconv.ErrRange",Rows.laid_strconv_ErrRange),("strconv.ErrSyntax",Rows.laid_strconv_ErrSyntax),("soundpost/ranges.samples",Rows.laid_soundpost_ranges_samples)]
theorem aiq:prog.globalNamed "math/bits.deBruijn32tab" =some 5:=by kernel_rfl
theorem air:(prog.globals[5]?).map (·.type)=some 282:=by kernel_rfl
theorem ais:prog.globalNamed "math/bits.deBruijn64tab" =some 6:=by kernel_rfl
theorem ait:(prog.globals[6]?).map (·.type)=some 283:=by kernel_rfl
theorem aiu:prog.globalNamed "internal/strconv.uint64pow10" =some 4:=by kernel_rfl
theorem aiv:(prog.globals[4]?).map (·.type)=some 278:=by kernel_rfl
theorem aiw:prog.globalNamed "strconv.ErrRange" =some 3:=by kernel_rfl
theorem aix:(prog.globals[3]?).map (·.type)=some 195:=by kernel_rfl
theorem aiy:prog.globalNamed "strconv.ErrSyntax" =some 2:=by kernel_rfl
theorem aiz:(prog.globals[2]?).map (·.type)=some 195:=by kernel_rfl
theorem aiA:prog.globalNamed "soundpost/ranges.samples" =some 1:=by kernel_rfl
theorem aiB:(prog.globals[1]?).map (·.type)=some 100:=by kernel_rfl
theorem Jq{enc:TypeId×Value->Unit}{w:World}{ly:Nat}{sp:Nat->Bool}{held:Bool}{fuel:Nat}{t e n:Nat}{k:IntKind}{cs:List Value}{ds:List (DataW Unit)}{ps:List MemPlace}{xs:List Int}
  (aT:prog.underlying t=some (.array n e)) (aiC:prog.underlying e=some (.int k)) (aj:prog.cellsOf e=1) (Y:ds=xs.map fun x=>.lit (.int k x)) (af:xs.length=n)
  (h:DataW.trod enc prog w ly sp held fuel t cs=some (.agg ds,ps)):cs.length=prog.cellsOf t/\∀(j:Nat) (x:Value),(xs.map fun x=>Value.int k x)[j]?=some x->cs[j]?=some x:=by
 obtain⟨hj,m,rfl,Ba,hlen,aiD,M5⟩:=DataW.trod_array aT h
 refine⟨hlen,fun j x az=>?_⟩
 rw[fJ,Option.map_eq_some_iff]at az
 obtain⟨a,aC,rfl⟩:=az
 have GF:j<n:=by rw[<-af];exact(List.getElem?_eq_some_iff.1 aC).1
 have nC:=M5 j GF
 rw[aj,Nat.mul_one]at nC
 have ak:hj[j]?=some hj[j]:=dx (by omega)
 rw[ak]at nC
 obtain⟨q,aX,bu,_⟩:=DataW.trod_int aiC nC
 simp only[Prod.mk.injEq,DataW.agg.injEq]at Ba
 have aq:ds[j]?=some (.lit (.int k a)):=by rw[Y,fJ,aC];rfl
 rw[Ba.1,fJ,ak]at aq
 simp only[Option.map_some,en]at aq
 rw[bu]at aq
 simp at aq
 subst aq
 have aH:((cs.drop j).take 1)[0]?=some (.int k q):=by rw[aX];rfl
 rw[List.getElem?_take,if_pos (by decide),List.getElem?_drop,Nat.add_zero]at aH
 exact aH
theorem aiE{w:World}(h:w.ShapedOpen prog):∃v,w.cell? ⟨0,0,none⟩=some v/\Jr v:=by
 obtain⟨cs,aW,an,aE⟩:=h.1 0 #[.int .i64 0] 3 (cJ (by kernel_rfl)) (by kernel_rfl)
 obtain⟨ts,l4,_,k9⟩:=aE (by kernel_rfl)
 have aj:prog.cellTypes prog.depth 3=some [3]:=by kernel_rfl
 rw[aj]at l4
 cases l4
 have an:cs.size=1:=an
 have J:0<cs.size:=by omega
 obtain⟨u,fX,dX⟩:=k9 0 cs[0] (by simp[J])
 have:u=3:=by simpa using fX.symm
 subst this
 refine⟨cs[0],by simp[World.cell?,aW,J],?_⟩
 unfold Cell.ok at dX
 rw[underlying3]at dX
 cases aK:cs[0]<;>rw[aK]at dX<;>simp at dX
 case int jZ n=>
  obtain⟨rfl,W⟩:=dX
  refine⟨n,rfl,?_⟩
  simpa[IntKind.has,IntKind.min,IntKind.max,IntKind.signed,IntKind.bits]using W
theorem aiF{gB:World}(h:laidMetH prog Ge gB)(Gf:gB.ShapedOpen prog):u4 (qp gB)/\Dx gB [] (qp gB):=by
 rw[MakeChecks.laidMetH_plain _ _ _ (by kernel_rfl)]at h
 obtain⟨ps,⟨g0,t0,D3,f0,UK,aiG,Bi,SA,aiH,iV,⟨g1,t1,rl,f1,vw,eE,MD,ud,Bc,zX,⟨g2,t2,rm,f2,Cd,eV,IE,pk,pI,zJ,⟨g3,t3,aj3,f3,UL,hl,Vm,rp,aiI,NF,⟨g4,t4,aj4,f4,aiJ,je,Vn,aiK,aiL,NG,⟨g5,t5,aj5,f5,aiM,mN,Vo,aiN,aiO,NH,_,_⟩,_⟩,_⟩,_⟩,_⟩,_⟩,_,_⟩:=h
 obtain rfl:=Option.some.inj (aiq.symm.trans Bi)
 obtain rfl:=Option.some.inj (air.symm.trans SA)
 obtain rfl:=Option.some.inj (ais.symm.trans MD)
 obtain rfl:=Option.some.inj (ait.symm.trans ud)
 obtain rfl:=Option.some.inj (aiu.symm.trans IE)
 obtain rfl:=Option.some.inj (aiv.symm.trans pk)
 obtain rfl:=Option.some.inj (aiw.symm.trans Vm)
 obtain rfl:=Option.some.inj (aix.symm.trans rp)
 obtain rfl:=Option.some.inj (aiy.symm.trans Vn)
 obtain rfl:=Option.some.inj (aiz.symm.trans aiK)
 obtain rfl:=Option.some.inj (aiA.symm.trans Vo)
 obtain rfl:=Option.some.inj (aiB.symm.trans aiN)
 have aP:=Jq underlying100 underlying3 (by kernel_rfl) (xs:=[-2147483648,2147483647]) (by rfl) (by rfl) NH
 have sa:=World.var?_cell Vo aiO
 have et:=Jq underlying278 underlying258 (by kernel_rfl) (xs:=[1,10,100,1000,10000,100000,1000000,10000000,100000000,1000000000,10000000000,100000000000,1000000000000,10000000000000,100000000000000,1000000000000000,10000000000000000,100000000000000000,1000000000000000000,10000000000000000000]) (by rfl) (by rfl) zJ
 have Vp:=World.var?_cell IE pI
 have eQ:=Jq underlying282 underlying5 (by kernel_rfl) (xs:=[0,1,28,2,29,14,24,3,30,22,20,15,25,17,4,8,31,27,13,23,21,19,16,7,26,12,18,6,11,5,10,9]) (by rfl) (by rfl) iV
 have aiP:=World.var?_cell Bi aiH
 have ie:=Jq underlying283 underlying5 (by kernel_rfl) (xs:=[0,1,56,2,57,49,28,3,61,58,42,50,38,29,17,4,62,47,59,36,45,43,51,22,53,39,33,30,24,18,12,5,63,55,48,27,60,41,37,16,46,35,44,21,52,32,23,11,54,26,40,15,34,20,31,10,25,14,19,9,13,8,7,6]) (by rfl) (by rfl) zX
 have aiQ:=World.var?_cell MD Bc
 obtain⟨_,kt,v2,bq,_⟩:=iface_of_trod underlying195 NG
 have lS:=World.var?_cell Vn aiL 0
 obtain⟨_,oS,v3,b3,_⟩:=iface_of_trod underlying195 NF
 have aiR:=World.var?_cell Vm aiI 0
 refine⟨⟨fun p Z j x az=>?_,fun p Z=>?_⟩,fun p Z=>?_⟩
 ·simp only[zr,eb,List.not_mem_nil,or_false]at Z
  rcases Z with rfl|rfl|rfl|rfl
  ·show gB.cell? ⟨1,j,none⟩=_
   rw[sa j,<-vx]
   exact aP.2 j x az
  ·show gB.cell? ⟨4,j,none⟩=_
   rw[Vp j,<-vx]
   exact et.2 j x az
  ·show gB.cell? ⟨5,j,none⟩=_
   rw[aiP j,<-vx]
   exact eQ.2 j x az
  ·show gB.cell? ⟨6,j,none⟩=_
   rw[aiQ j,<-vx]
   exact ie.2 j x az
 ·simp only[NJ,eb,List.not_mem_nil,or_false]at Z
  rcases Z with rfl|rfl|rfl
  ·exact aiE Gf
  ·refine⟨.iface kt v2,?_,_,_,rfl⟩
   show gB.cell? ⟨2,0,none⟩=_
   rw[lS,<-vx,bq]
   rfl
  ·refine⟨.iface oS v3,?_,_,_,rfl⟩
   show gB.cell? ⟨3,0,none⟩=_
   rw[aiR,<-vx,b3]
   rfl
 ·simp only[NI,eb,List.not_mem_nil,or_false]at Z
  subst Z
  have aa:rm.toList.length=20:=et.1.trans (by kernel_rfl)
  refine⟨by simp,?_,?_⟩
  ·show gB.cell? ⟨4,0,none⟩≠none
   rw[Vp 0,<-vx,et.2 0 _ rfl]
   exact fun h=>nomatch h
  ·simp only[World.var?,IE,Option.bind_some]at pI
   split at pI
   ·rename_i cs t z aW
    injection pI with aK
    subst aK
    exact⟨_,_,_,aW,by simpa using aa⟩
   ·cases pI
theorem aiS(os:Os)(args:Array Value):laidMetH prog Ge ((World.doorLaid prog 400 os).forCall (fun _ _=>0) ⟨#[],args,[]⟩).memory:=
 laidMetH_of_parts3 (fuel:=8) (laidMet_of_run' 8 (by kernel_rfl) (by kernel_rfl)) (by kernel_rfl) (by kernel_rfl)
end Go.Proofs.YtfgcfofjjiinjaaGreatDoor

/- TopMeaning: texts of the walk and of the plain law, part 2 of 6. -/
import Derived.MapKept
import Derived.Test.YtfgcfofjjiinjaaGreatDoorChecked
import Derived.KernelRfl
import Derived.RangeFuncIn
import Derived.RangeFuncRecord
import Derived.RangeFuncLeaves
import Derived.RangeFuncSeq
import Derived.StringKeys
import Derived.Laws.Concat
import Derived.Test.YtfgcfofjjiinjaaGreatDoorPk0
namespace Go.Proofs.YtfgcfofjjiinjaaGreatDoor
open Go Tryz
set_option linter.unusedVariables false
set_option linter.unusedSimpArgs false
set_option maxRecDepth 100000
set_option maxHeartbeats 4000000
section
section
variable {P:Program} {ro:eR} {ops:Array Oper}
theorem ON{aY:ad}{o:Oper}{l:Nat}{dE:List Nat}{B B':cO}(gM:o.dst=none)(fY:o.guard=none)(h0:sR o.op=true)(aa:l∈dE)(ae:aY.get (G l)=some (.U B))
  (h:∀E V M a w,jc E aY o dE true V M a w->V.bZ l≠none/\∃w',(execOp a.eval o).run P w= .ok .skip w'/\(V.aI l<w.heap.size->fb w w' (V.aI l))/\gC V M w' l B'):
  kA P ro ops o ⟨cQ o++dE.map G,aY,[(G l,some (.U B'))],[]⟩:=by
 intro E S a w an _ dX ⟨V,M,aC,hw⟩ Q gD
 have aM:jc E aY o dE true V M a w:=qw (rn:=cQ o++dE.map G) an (fun n af=>by simp[af]) (fun m aw=>by simp only[hy,List.mem_map];exact .inr ⟨m,aw,rfl⟩) D aC hw
 obtain⟨K,w',aE,cy,cP⟩:=h E V M a w aM
 unfold lx
 rw[if_pos (by simp[Region.wanted,fY])]
 refine N0 h0 aE ?_
 rw[gM]
 have r8:S.get (G l)=some (.U B):=by rw[an (G l) (by simp only[hy,List.mem_map];exact .inr ⟨l,aa,rfl⟩)];exact ae
 have aG:V.aI l<w.heap.size:=hw.cE l ⟨⟨B,r8⟩,K⟩
 exact⟨V,M,DU aC l B',Gu hw r8 K (cy aG) cP⟩
theorem bI.GV{aY S':ad}{o:Oper}{r:List Oper}{L:List cx}{l:Nat}{dE:List Nat}{B':cO}(aC:kA P ro ops o ⟨cQ o++dE.map G,aY,[(G l,some (.U B'))],[]⟩)
  (h:bI P ro ops r ((G l,.U B')::aY) L S'):bI P ro ops (o::r) aY (⟨cQ o++dE.map G,aY,[(G l,some (.U B'))],[]⟩::L) S':=
 .cons aC (fun _ _=>rfl) (fun l aa=>by cases aa) (ra aY _ _) h
end
inductive OO(S:ad)(y:Operand)(k:IntKind):List Nat->List Int->Prop
 |cK {m:Nat} {g:Nat->List bg} {hj:List Int} (e:cd S true y (.d (.cK 1 m g))) (aa:hj.length=m) (aM:∀i,i<m->g i=[.v (.int k (hj.getD i 0))]):OO S y k [] hj
 |lP {l lo m cap By:Nat} {xs hj:List Int} (e:cd S true y (.lP l 1 lo m cap)) (ae:S.get (G l)=some (.U (.fq 1 By [.cv k xs]))) (hle:lo+m<=By) (ak:(xs.drop lo).take m=hj):OO S y k [l] hj
section
variable {P:Program} {S:ad} {ro:eR} {ops:Array Oper} {x y:Operand} {d:Nat} {t t2 e ty:TypeId} {pos:String} {a6:Array Edge}
end
section
variable {P:Program} {S:ad} {ro:eR} {ops:Array Oper} {x y:Operand} {d:Nat} {t t2 e ty:TypeId} {pos:String} {a6:Array Edge}
theorem WD{M:Mem}{cq:List Value}(af:0<cq.length)(n m:Nat):sM M cq.length n (s0 n cq) (Builtin.zeroCells cq.toArray n++Builtin.zeroCells cq.toArray m):=by
 have e:Builtin.zeroCells cq.toArray n++Builtin.zeroCells cq.toArray m=((List.range ((n+m)*cq.length)).map fun k=>cq.getD (k%cq.length) undef).toArray:=by
  apply Array.ext'
  rw[Array.toList_append]
  have one:∀k,(Builtin.zeroCells cq.toArray k).toList=(List.range (k*cq.length)).map fun k=>cq.getD (k%cq.length) undef:=fun k=>by
   have:=BB cq (k*cq.length) af
   unfold Builtin.zeroCells
   rw[List.size_toArray]at*
   rw[this]
  rw[one,one,Nat.add_mul,List.range_add,List.map_append,List.map_map]
  congr 1
  refine List.map_congr_left fun k _=>?_
  simp[Nat.add_comm (n*cq.length) k]
 rw[e]
 exact GL (Nat.le_add_right _ _)
theorem bI.WE{S':ad}{r:List Oper}{L:List cx}{cq:List Value}{n bytes:Nat}{WG:IntKind}{m:Int}{cs:List bz}(lb:Nat)(ds:List Nat)
  (aT:mB P t n bytes=true) (bd:∀e,P.underlying t=some (.slice e)->cZ P e cq) (K:P.underlying t2=some (.int WG)) (ue:cq.length=n) (af:0<n) (aX:cd S true x k4) (bu:cd S true y (aF .i64 m)) (bb:0<m) (o9:m.toNat*bytes<=140737488355328) (Bz:m<=140737488355328)
  (fV:s0 m.toNat cq=cs)
  (h3:h7 ⟨cQ ⟨some d,.call ⟨.builtin .append,#[x,y],#[t,t2]⟩,ty,pos,a6,none⟩,S,fU ds lb (.bG n m.toNat cs) d (.aQ lb m.toNat),[lb]⟩ S=true) (h:bI P ro ops r (S.after ds lb (.bG n m.toNat cs) d (.aQ lb m.toNat)) L S'):
  bI P ro ops (⟨some d,.call ⟨.builtin .append,#[x,y],#[t,t2]⟩,ty,pos,a6,none⟩::r) S (⟨cQ ⟨some d,.call ⟨.builtin .append,#[x,y],#[t,t2]⟩,ty,pos,a6,none⟩++([]:List Nat).map G,S,fU ds lb (.bG n m.toNat cs) d (.aQ lb m.toNat),[lb]⟩::L) S':=by
 subst fV
 subst ue
 refine tZ ds (wD D D D fun E V M a w h=>?_) (by simpa using h3) h
 have Y:=h.val (by simp[Op.operands,Call.operands]) aX
 have ak:=h.val (by simp[Op.operands,Call.operands]) bu
 generalize a.eval=aI at*
 unfold mB at aT
 split at aT
 ·rename_i e hu
  split at aT
  ·rename_i inf hi
   simp only[eL]at aT
   obtain⟨⟨ud,pk⟩,rp⟩:=aT
   have aX:=kN ud
   have bu:=kN pk
   obtain⟨z,pg,aE⟩:=x4 (bd e hu)
   have rj:z.cells=cq.toArray:=by rw[<-pg,Array.toArray_toList]
   have l7:m.toNat<=grownCap w m.toNat 0 e:=by unfold grownCap;exact Nat.le_add_right _ _
   have WH:m.toNat*inf.bytes<=140737488355328:=by rw[bu];exact o9
   have mD:=growslice_fits (need:=m.toNat) (old:=0) (by omega) WH
   have sa:IntKind.i64.wrap m=m:=IntKind.wrap_in .i64 m (by simp[IntKind.min,IntKind.max,IntKind.signed,IntKind.bits];omega)
   have nU:¬m.toNat*cq.length=0:=by
    have:0<m.toNat*cq.length:=Nat.mul_pos (by omega) af
    omega
   refine⟨w.drew.alloc (.cells (Builtin.zeroCells cq.toArray m.toNat++Builtin.zeroCells cq.toArray (grownCap w m.toNat 0 e-m.toNat)) e),.slice (some ⟨w.heap.size,0,none⟩) m.toNat (grownCap w m.toNat 0 e),some (grownCap w m.toNat 0 e),?_,fb.J4 w _,?_,?_⟩
   ·have WI:¬(281474976710656<m*(inf.bytes:Int)):=by
     rw[bu]
     have:((m.toNat*bytes:Nat):Int)=m*(bytes:Int):=by
      rw[Int.natCast_mul,Int.toNat_of_nonneg (by omega)]
     omega
    have WJ:¬(281474976710656<Builtin.nextslicecap m.toNat 0*inf.bytes):=by omega
    have Kj:¬m<0:=by omega
    have WK:¬m.toNat<=0:=by omega
    have WL:¬((9223372036854775807:Int)<max m 0):=by omega
    have WM:¬m<=0:=by omega
    have BL:w.heap.size=w.drew.heap.size:=rfl
    have BM:∀w',(zeroValue e).run P w'= .ok z w':=aE
    simp[execOp,resolve,invoke,builtin,Builtin.append_,Y,ak,run_underlying hu,run_underlying K,sizeOf,typeInfo,hi,aX,asInt,asIntOf,sa,Kj,WI,WK,WL,WJ,Question.forced,nU,WM,BM,rj,newRow,grownCap,Builtin.firstCells]
   ·refine⟨by simp[s0],(GL (M:=M) l7).2.1,?_⟩
    rw[pS]
    refine⟨l7,_,e,by rw[jK];exact sW w.drew _,?_,WD af _ _⟩
    simp only[Builtin.zeroCells,Array.size_append,Array.size_map,Array.size_range,List.size_toArray]
    rw[<-Nat.add_mul]
    congr 1
    omega
   ·have:=bU.aQ (V:=V.set lb w.heap.size (some (grownCap w m.toNat 0 e))) (M:=M) lb m.toNat _ (by rw[pS]) l7
    rwa[jK]at this
  ·cases aT
 ·cases aT
end
theorem Pure.WN{P:Program}{S:ad}{c:Bool}{x:Operand}{t ty e:TypeId}{pos:String}{a6:Array Edge}{il:Option Tmp}{bB:Option (Nat×Bool)}{n len lb h:Nat}{hi:Option Operand}(aT:kQ P t e n=true)(aX:cd S c x (.aQ lb len))(oB:uf S c hi len h)(aW:h=0):
  Pure P S [] ⟨il,.slice t x none hi none,ty,pos,a6,bB⟩ c (.aQ lb 0):=by
 subst aW
 refine⟨rfl,fun E V M a w aM aj=>?_⟩
 obtain⟨wK,zU,wL⟩:=D7 (t:=t) (x:=x) (lo:=none) (hi:=hi) (o:=⟨il,.slice t x none hi none,ty,pos,a6,bB⟩) D
 have Y:=aM.ez x wK _ aX
 have s3:=yg aM aj wL oB
 obtain⟨hu,cj⟩:=ye aT
 generalize hex:a.eval x=v at Y
 generalize a.eval=aI at*
 cases Y with
 |k1 _ K=>
  refine⟨.slice none 0 0,?_,.k1 _ K⟩
  simp only[execOp,hex,Option.map_none,de,zH (cap:=0) (a:=none) hu cj (.inl ⟨rfl,rfl⟩) s3 (Nat.le_refl _) (Nat.zero_le _),Result.andThen];rfl
 |aQ _ _ cap K l7=>
  refine⟨.slice (some ⟨V.aI lb,0,none⟩) 0 cap,?_,.aQ _ _ _ K (Nat.zero_le _)⟩
  have e:(if cap=0 then some (⟨V.aI lb,0,none⟩:Addr)else(some (⟨V.aI lb,0,none⟩:Addr)).map (·.add (0*n)))=some ⟨V.aI lb,0,none⟩:=by split<;>simp[oA]
  simp only[execOp,hex,Option.map_none,de,zH (cap:=cap) hu cj (.inl ⟨rfl,rfl⟩) s3 (Nat.le_refl _) (Nat.zero_le _),Result.andThen,e];rfl
theorem WO{E:c7}{S:ad}{V:cu}{M:Mem}{a:Act}{w:World}(aC:jk E S V M a)(hw:cl E S V M w){l:Nat}{B:cO}{vs:Array Value}{t:TypeId}(ae:S.get (G l)=some (.U B))(K:V.bZ l≠none)(aW:w.heap[V.aI l]?=some (.cells vs t (0,0))):
  ∃bo:Mem,M.le bo/\(∀o,bo (V.aI l) o=vs[o]?)/\jk E (ad.iJ (G l) S) V bo a/\cl E (ad.iJ (G l) S) V bo w:=by
 have uh:∀m B,(ad.iJ (G l) S).get (G m)=some (.U B)->m≠l/\S.get (G m)=some (.U B):=by
  intro m B h
  rw[o7]at h
  by_cases aw:G l=G m
  ·rw[if_pos aw]at h;cases h
  ·rw[if_neg aw]at h;exact⟨fun e=>aw (by rw[e]),h⟩
 have vd:∀o,M (V.aI l) o=none:=hw.dO l ⟨⟨_,ae⟩,K⟩
 have hle:M.le (fun b o=>if b=V.aI l then vs[o]? else M b o):=fun b o u h=>by
  by_cases e:b=V.aI l
  ·subst e;rw[vd o]at h;cases h
  ·simp only[if_neg e];exact h
 have s5:∀b o u,(if b=V.aI l then vs[o]? else M b o)=some u->M b o=some u\/(b=V.aI l/\w.cell? ⟨b,o,none⟩=some u):=fun b o u h=>by
  by_cases e:b=V.aI l
  ·subst e
   simp only[if_true]at h
   exact .inr ⟨rfl,by simp[World.cell?,aW,h]⟩
  ·simp only[if_neg e]at h;exact .inl h
 refine⟨fun b o=>if b=V.aI l then vs[o]? else M b o,hle,fun o=>by simp,⟨fun s x Y=>?_,aC.size,aC.defers⟩,?_⟩
 ·rw[o7,if_neg (Ne.symm (iz s l))]at Y
  obtain⟨u,hu,jX⟩:=aC.fT s x Y
  exact⟨u,hu,jX.mono hle fun _ _=>⟨rfl,rfl⟩⟩
 ·have Ei:∀m,di V (ad.iJ (G l) S) m->m≠l/\di V S m:=fun m ⟨⟨B,e⟩,k⟩=>⟨(uh m B e).1,⟨B,(uh m B e).2⟩,k⟩
  have b2:∀m,di V S m->m≠l->V.aI m≠V.aI l:=fun m aw mb=>hw.inj m l aw ⟨⟨_,ae⟩,K⟩ mb
  exact{
    dn:=fun m B e=>(hw.dn m B (uh m B e).2).GO hle
    inj:=fun m k aw gi=>hw.inj m k (Ei m aw).2 (Ei k gi).2
    dO:=fun m aw o=>by
     obtain⟨J,W⟩:=Ei m aw
     show(if V.aI m=V.aI l then vs[o]? else M (V.aI m) o)=none
     rw[if_neg (b2 m W J)]
     exact hw.dO m W o
    dt:=fun m aw=>hw.dt m (Ei m aw).2
    cE:=fun m aw=>hw.cE m (Ei m aw).2
    mem:=fun b o u h=>by
     rcases s5 b o u h with h|⟨_,h⟩
     ·exact hw.mem b o u h
     ·exact h
    dA:=tQ hw.dA hle,er:=hw.er
    ea:=fun b o h=>by
     cases aj:(if b=V.aI l then vs[o]? else M b o)with
     |none=>exact absurd aj h
     |some u=>
      rcases s5 b o u aj with h|⟨h,_⟩
      ·exact hw.ea b o (by rw[h];simp)
      ·rw[h]
       rcases hw.dt l ⟨⟨_,ae⟩,K⟩with h|h
       ·exact .inr (.inl h)
       ·exact .inr (.inr h)
    aA:=hw.aA,b6:=hw.b6}
theorem b1.hV{E:c7}{S:ad}{t l:Nat}{ds:List bg}(an:S.get (ab t)=some (.aB (.ao l 0)))(ae:S.get (G l)=some (.U (.data ds))):b1 E S ((ab t,.aB (.cc ds))::ad.iJ (G l) S):=by
 rintro a w ⟨V,M,aC,hw⟩
 obtain⟨K,vs,gq,aW,cj,aq⟩:=hw.dn l _ ae
 obtain⟨bo,hle,h5,ix,b8⟩:=WO aC hw ae K aW
 refine⟨V,bo,⟨fun s x Y=>?_,ix.size,ix.defers⟩,?_⟩
 ·rw[ej]at Y
  by_cases h:ab t=ab s
  ·rw[if_pos h]at Y
   injection Y with Y;injection Y with Y;subst Y
   have:=qx h;subst this
   obtain⟨u,hu,jX⟩:=aC.fT _ _ an
   refine⟨u,hu,?_⟩
   cases jX with
   |ao=>
    refine .cc _ _ _ (fun j=>vs.getD j undef) (fun j az=>?_) fun j x Y=>?_
    ·rw[h5,Nat.zero_add]
     have:j<vs.size:=by rw[cj];simpa using az
     simp[Array.getD,this]
    ·have az:=(List.getElem?_eq_some_iff.1 Y).1
     have:j<vs.size:=by rw[cj];simpa using az
     have:=aq j (.d x) (vs.getD j undef) (by simp[Y]) (by simp[Array.getD,this])
     cases this with|d _ _ h=>exact h.mono hle
  ·rw[if_neg h]at Y;exact ix.fT s x Y
 ·refine b8.my fun m B e=>?_
  rwa[ej,if_neg (iz t m)]at e
theorem b1.WQ{E:c7}{S:ad}{l n len:Nat}{cs cs':List bz}(ae:S.get (G l)=some (.U (.bG n len cs)))(af:cs'.length=n)(aj:∀c∈cs',c.len=0):b1 E S (S.eK [(G l,some (.U (.bG n 0 cs')))]):=by
 refine b1.ui ae fun V M w h=>?_
 obtain⟨J,W,aH⟩:=h
 refine⟨af,aj,?_⟩
 split
 ·rfl
 ·rename_i cap K
  rw[K]at aH
  obtain⟨_,vs,t,eE,eV,hl⟩:=aH
  exact⟨Nat.zero_le _,vs,t,eE,eV,af,aj,fun i j c hi _=>absurd hi (by omega)⟩
end
theorem WR:dq prog 1 false 1=true:=by kernel_rfl
theorem WS:cZ prog 1 [.nilFunc]:=by unfold cZ;kernel_rfl
theorem bY:dq prog 3 false 1=true:=by kernel_rfl
theorem iC:cZ prog 3 [.int .i64 0]:=by unfold cZ;kernel_rfl
theorem OP:(prog.info? 3).map (·.bytes)=some 8:=by kernel_rfl
theorem OQ:dq prog 4 false 1=true:=by kernel_rfl
theorem WT:cZ prog 4 [.bool false]:=by unfold cZ;kernel_rfl
theorem WU:(prog.info? 4).map (·.bytes)=some 1:=by kernel_rfl
theorem ry:dq prog 9 false 1=true:=by kernel_rfl
theorem mI:cZ prog 9 [.string ⟨#[]⟩]:=by unfold cZ;kernel_rfl
theorem vn:prog.underlying 20=some (.interface (prog.methodsAt 20)):=by kernel_rfl
theorem km:dq prog 22 false 1=true:=by kernel_rfl
theorem BN:cZ prog 22 [.slice none 0 0]:=by unfold cZ;kernel_rfl
theorem fB:lR prog 22 1=true:=by kernel_rfl
theorem iQ:kQ prog 22 3 1=true:=by kernel_rfl
theorem p0:mB prog 22 1 8=true:=by kernel_rfl
theorem p1:nb prog 22=true:=by kernel_rfl
theorem OR:lR prog 23 1=true:=by kernel_rfl
theorem p2:dq prog 24 false 1=true:=by kernel_rfl
theorem OS:cZ prog 24 [.slice none 0 0]:=by unfold cZ;kernel_rfl
theorem lE:lR prog 24 3=true:=by kernel_rfl
theorem Ej:kQ prog 24 97 3=true:=by kernel_rfl
theorem Ek:mB prog 24 3 32=true:=by kernel_rfl
theorem GW:nb prog 24=true:=by kernel_rfl
theorem uo:dq prog 25 false 1=true:=by kernel_rfl
theorem nV:lR prog 25 4=true:=by kernel_rfl
theorem WV:kQ prog 25 83 4=true:=by kernel_rfl
theorem WW:mB prog 25 4 40=true:=by kernel_rfl
theorem WX:nb prog 25=true:=by kernel_rfl
theorem GX:dq prog 26 false 1=true:=by kernel_rfl
theorem wS:lR prog 26 2=true:=by kernel_rfl
theorem WY:kQ prog 26 90 2=true:=by kernel_rfl
theorem WZ:mB prog 26 2 40=true:=by kernel_rfl
theorem W0:nb prog 26=true:=by kernel_rfl
theorem vo:dq prog 27 false 1=true:=by kernel_rfl
theorem qH:lR prog 27 8=true:=by kernel_rfl
theorem OT:kQ prog 27 67 8=true:=by kernel_rfl
theorem OU:mB prog 27 8 96=true:=by kernel_rfl
theorem OV:nb prog 27=true:=by kernel_rfl
theorem pq:dq prog 29 true 8=true:=by kernel_rfl
theorem tf:cZ prog 29 [.string ⟨#[]⟩,.int .i64 0,.int .i64 0,.slice none 0 0,.slice none 0 0,.slice none 0 0,.slice none 0 0,.slice none 0 0]:=by unfold cZ;kernel_rfl
theorem BO:gS prog 29 1 1=true:=by kernel_rfl
theorem BP:gS prog 29 2 2=true:=by kernel_rfl
theorem Kk:gS prog 29 3 3=true:=by kernel_rfl
theorem Kl:gS prog 29 4 4=true:=by kernel_rfl
theorem GY:gS prog 29 5 5=true:=by kernel_rfl
theorem Km:gS prog 29 6 6=true:=by kernel_rfl
theorem z7:gS prog 29 7 7=true:=by kernel_rfl
theorem gF:dq prog 30 false 1=true:=by kernel_rfl
theorem z8:cZ prog 30 [.int .i64 0]:=by unfold cZ;kernel_rfl
theorem El:dq prog 33 false 1=true:=by kernel_rfl
theorem W1:cZ prog 33 [.slice none 0 0]:=by unfold cZ;kernel_rfl
theorem OW:lR prog 33 8=true:=by kernel_rfl
theorem W2:kQ prog 33 29 8=true:=by kernel_rfl
theorem W3:mB prog 33 8 152=true:=by kernel_rfl
theorem W4:nb prog 33=true:=by kernel_rfl
theorem wT:dq prog 38 false 1=true:=by kernel_rfl
theorem pr:lR prog 38 1=true:=by kernel_rfl
theorem BQ:kQ prog 38 22 1=true:=by kernel_rfl
theorem Em:mB prog 38 1 24=true:=by kernel_rfl
theorem En:nb prog 38=true:=by kernel_rfl
theorem Kn:dq prog 39 false 1=true:=by kernel_rfl
theorem OX:lR prog 39 2=true:=by kernel_rfl
theorem W5:kQ prog 39 156 2=true:=by kernel_rfl
theorem W6:mB prog 39 2 16=true:=by kernel_rfl
theorem W7:nb prog 39=true:=by kernel_rfl
theorem BR:dq prog 41 true 8=true:=by kernel_rfl
theorem Ko:cZ prog 41 [.int .i64 0,.int .i64 0,.slice none 0 0,.slice none 0 0,.slice none 0 0,.slice none 0 0,.int .i64 0,.slice none 0 0]:=by unfold cZ;kernel_rfl
theorem OY:gS prog 41 0 0=true:=by kernel_rfl
theorem OZ:gS prog 41 1 1=true:=by kernel_rfl
theorem O0:gS prog 41 2 2=true:=by kernel_rfl
theorem O1:gS prog 41 3 3=true:=by kernel_rfl
theorem Kp:gS prog 41 4 4=true:=by kernel_rfl
theorem O2:gS prog 41 5 5=true:=by kernel_rfl
theorem O3:gS prog 41 6 6=true:=by kernel_rfl
theorem O4:gS prog 41 7 7=true:=by kernel_rfl
theorem nB:dq prog 45 true 2=true:=by kernel_rfl
theorem sf:cZ prog 45 [.slice none 0 0,.slice none 0 0]:=by unfold cZ;kernel_rfl
theorem O5:gS prog 45 1 1=true:=by kernel_rfl
theorem W8:dq prog 60 false 1=true:=by kernel_rfl
theorem W9:cZ prog 60 [.map none]:=by unfold cZ;kernel_rfl
theorem kn:dq prog 63 false 1=true:=by kernel_rfl
theorem iR:lR prog 63 5=true:=by kernel_rfl
theorem tg:kQ prog 63 65 5=true:=by kernel_rfl
theorem BS:mB prog 63 5 64=true:=by kernel_rfl
theorem BT:nb prog 63=true:=by kernel_rfl
theorem dL:dq prog 65 true 5=true:=by kernel_rfl
theorem hn:cZ prog 65 [.int .i64 0,.string ⟨#[]⟩,.int .i64 0,.int .i64 0,.slice none 0 0]:=by unfold cZ;kernel_rfl
theorem Aa:gS prog 65 0 0=true:=by kernel_rfl
theorem Kq:gS prog 65 1 1=true:=by kernel_rfl
theorem GZ:gS prog 65 2 2=true:=by kernel_rfl
theorem Ab:gS prog 65 3 3=true:=by kernel_rfl
theorem nW:gS prog 65 4 4=true:=by kernel_rfl
theorem qI:dq prog 67 true 8=true:=by kernel_rfl
theorem nX:cZ prog 67 [.int .i64 0,.string ⟨#[]⟩,.int .i64 0,.int .i64 0,.string ⟨#[]⟩,.int .i64 0,.int .i64 0,.slice none 0 0]:=by unfold cZ;kernel_rfl
theorem BU:gS prog 67 0 0=true:=by kernel_rfl
theorem Kr:gS prog 67 1 1=true:=by kernel_rfl
theorem Ks:gS prog 67 2 2=true:=by kernel_rfl
theorem O6:gS prog 67 3 3=true:=by kernel_rfl
theorem Xa:dq prog 68 false 1=true:=by kernel_rfl
theorem Xb:cZ prog 68 [.nilFunc]:=by unfold cZ;kernel_rfl
theorem O7:dq prog 72 true 2=true:=by kernel_rfl
theorem Xc:cZ prog 72 [.int .i64 0,.int .i64 0]:=by unfold cZ;kernel_rfl
theorem BV:gS prog 72 0 0=true:=by kernel_rfl
theorem BW:dq prog 74 true 3=true:=by kernel_rfl
theorem yp:cZ prog 74 [.int .i64 0,.int .i64 0,.int .i64 0]:=by unfold cZ;kernel_rfl
theorem Ac:gS prog 74 0 0=true:=by kernel_rfl
theorem O8:gS prog 74 1 2=true:=by kernel_rfl
theorem Kt:dq prog 77 false 1=true:=by kernel_rfl
theorem Xd:cZ prog 77 [.map none]:=by unfold cZ;kernel_rfl
theorem oE:dq prog 78 false 1=true:=by kernel_rfl
theorem Xe:cZ prog 78 [.slice none 0 0]:=by unfold cZ;kernel_rfl
theorem pt:lR prog 78 4=true:=by kernel_rfl
theorem Eo:kQ prog 78 193 4=true:=by kernel_rfl
theorem Xf:mB prog 78 4 40=true:=by kernel_rfl
theorem Xg:nb prog 78=true:=by kernel_rfl
theorem wU:dq prog 83 true 4=true:=by kernel_rfl
theorem vp:cZ prog 83 [.string ⟨#[]⟩,.int .i64 0,.int .i64 0,.int .i64 0]:=by unfold cZ;kernel_rfl
theorem G0:gS prog 83 1 1=true:=by kernel_rfl
theorem Ku:gS prog 83 2 2=true:=by kernel_rfl
theorem Kv:gS prog 83 3 3=true:=by kernel_rfl
theorem Xh:dq prog 85 false 1=true:=by kernel_rfl
theorem Xi:dq prog 86 true 20=true:=by kernel_rfl
theorem Xj:cZ prog 86 [.nilFunc,.nilFunc,.nilFunc,.nilFunc,.nilFunc,.nilFunc,.nilFunc,.nilFunc,.nilFunc,.nilFunc,.nilFunc,.nilFunc,.nilFunc,.nilFunc,.nilFunc,.nilFunc,.nilFunc,.nilFunc,.nilFunc,.nilFunc]:=by unfold cZ;kernel_rfl
theorem oF:pe prog 86 20 false 1=true:=by kernel_rfl
theorem Xk:cZ prog 88 [.int .i64 0,.int .i64 0,.slice none 0 0,.slice none 0 0,.slice none 0 0,.slice none 0 0,.int .i64 0,.slice none 0 0,.map none,.nilFunc,.nilFunc,.nilFunc,.nilFunc,.nilFunc,.nilFunc,.nilFunc,.nilFunc,.nilFunc,.nilFunc,.nilFunc,.nilFunc,.nilFunc,.nilFunc,.nilFunc,.nilFunc,.nilFunc,.nilFunc,.nilFunc,.nilFunc]:=by unfold cZ;kernel_rfl
theorem Ad:dq prog 90 true 2=true:=by kernel_rfl
theorem wV:cZ prog 90 [.string ⟨#[]⟩,.slice none 0 0]:=by unfold cZ;kernel_rfl
theorem G1:gS prog 90 1 1=true:=by kernel_rfl
theorem yq:dq prog 97 true 3=true:=by kernel_rfl
theorem uq:cZ prog 97 [.string ⟨#[]⟩,.int .i64 0,.int .i64 0]:=by unfold cZ;kernel_rfl
theorem O9:gS prog 97 1 1=true:=by kernel_rfl
theorem G2:gS prog 97 2 2=true:=by kernel_rfl
theorem Pa:dq prog 99 false 1=true:=by kernel_rfl
theorem Xl:cZ prog 99 [.map none]:=by unfold cZ;kernel_rfl
theorem ga:dq prog 100 true 2=true:=by kernel_rfl
theorem gb:cZ prog 100 [.int .i64 0,.int .i64 0]:=by unfold cZ;kernel_rfl
theorem Xm:pe prog 100 2 false 1=true:=by kernel_rfl
theorem Xn:dq prog 101 false 1=true:=by kernel_rfl
theorem Xo:cZ prog 101 [.map none]:=by unfold cZ;kernel_rfl
theorem Kw:dq prog 102 false 1=true:=by kernel_rfl
theorem Xp:cZ prog 102 [.nilFunc]:=by unfold cZ;kernel_rfl
theorem Xq:dq prog 103 false 1=true:=by kernel_rfl
theorem Xr:cZ prog 103 [.nilFunc]:=by unfold cZ;kernel_rfl
theorem Pb:dq prog 105 true 0=true:=by kernel_rfl
theorem Xs:cZ prog 124 [.int .i64 0,.int .i64 0,.slice none 0 0,.slice none 0 0,.slice none 0 0,.slice none 0 0,.int .i64 0,.slice none 0 0,.slice none 0 0,.slice none 0 0,.slice none 0 0,.slice none 0 0,.slice none 0 0,.slice none 0 0,.slice none 0 0,.map none,.int .i64 0]:=by unfold cZ;kernel_rfl
theorem Xt:dq prog 126 false 1=true:=by kernel_rfl
theorem Kx:lR prog 126 1=true:=by kernel_rfl
theorem mJ:kQ prog 126 9 1=true:=by kernel_rfl
theorem Pc:mB prog 126 1 16=true:=by kernel_rfl
theorem Pd:nb prog 126=true:=by kernel_rfl
theorem Xu:dq prog 127 false 1=true:=by kernel_rfl
theorem Xv:lR prog 127 3=true:=by kernel_rfl
theorem Xw:kQ prog 127 74 3=true:=by kernel_rfl
theorem Xx:mB prog 127 3 24=true:=by kernel_rfl
theorem Xy:nb prog 127=true:=by kernel_rfl
theorem Xz:cZ prog 129 [.slice none 0 0,.slice none 0 0]:=by unfold cZ;kernel_rfl
theorem Pe:dq prog 137 false 1=true:=by kernel_rfl
theorem XA:dq prog 138 true 6=true:=by kernel_rfl
theorem XB:cZ prog 138 [.nilFunc,.nilFunc,.nilFunc,.nilFunc,.nilFunc,.nilFunc]:=by unfold cZ;kernel_rfl
theorem XC:pe prog 138 6 false 1=true:=by kernel_rfl
theorem XD:cZ prog 140 [.nilFunc,.nilFunc,.nilFunc,.nilFunc,.nilFunc,.nilFunc]:=by unfold cZ;kernel_rfl
theorem XE:cZ prog 143 [.string ⟨#[]⟩,.int .i64 0,.slice none 0 0]:=by unfold cZ;kernel_rfl
theorem XF:gS prog 143 0 0=true:=by kernel_rfl
theorem XG:dq prog 146 true 1=true:=by kernel_rfl
theorem Ky:cZ prog 146 [.int .i64 0]:=by unfold cZ;kernel_rfl
theorem Pf:dq prog 148 false 1=true:=by kernel_rfl
theorem XH:cZ prog 150 [.slice none 0 0,.int .i64 0,.int .i64 0]:=by unfold cZ;kernel_rfl
theorem wW:gS prog 150 0 0=true:=by kernel_rfl
theorem Kz:dq prog 156 true 2=true:=by kernel_rfl
theorem G3:cZ prog 156 [.int .i64 0,.int .i64 0]:=by unfold cZ;kernel_rfl
theorem Pg:gS prog 156 0 0=true:=by kernel_rfl
theorem G4:gS prog 156 1 1=true:=by kernel_rfl
theorem Ph:dq prog 160 false 1=true:=by kernel_rfl
theorem Pj:cZ prog 160 [.nilFunc]:=by unfold cZ;kernel_rfl
theorem XI:dq prog 164 false 1=true:=by kernel_rfl
theorem XJ:cZ prog 164 [.pointer none]:=by unfold cZ;kernel_rfl
theorem XK:cZ prog 170 [.slice none 0 0,.string ⟨#[]⟩,.int .i64 0,.int .i64 0,.slice none 0 0,.slice none 0 0,.slice none 0 0,.slice none 0 0,.slice none 0 0,.slice none 0 0,.slice none 0 0,.slice none 0 0,.slice none 0 0,.slice none 0 0]:=by unfold cZ;kernel_rfl
theorem XL:dq prog 171 false 1=true:=by kernel_rfl
theorem XM:cZ prog 171 [.slice none 0 0]:=by unfold cZ;kernel_rfl
theorem XN:lR prog 171 1=true:=by kernel_rfl
theorem XO:kQ prog 171 1 1=true:=by kernel_rfl
theorem XP:mB prog 171 1 8=true:=by kernel_rfl
theorem XQ:nb prog 171=true:=by kernel_rfl
theorem XR:dq prog 172 false 1=true:=by kernel_rfl
theorem XS:dq prog 173 true 5=true:=by kernel_rfl
theorem Pk:cZ prog 173 [.nilFunc,.nilFunc,.nilFunc,.nilFunc,.nilFunc]:=by unfold cZ;kernel_rfl
theorem G5:pe prog 173 5 false 1=true:=by kernel_rfl
theorem Pl:dq prog 175 false 1=true:=by kernel_rfl
theorem KA:dq prog 176 true 20=true:=by kernel_rfl
theorem KB:cZ prog 176 [.nilFunc,.nilFunc,.nilFunc,.nilFunc,.nilFunc,.nilFunc,.nilFunc,.nilFunc,.nilFunc,.nilFunc,.nilFunc,.nilFunc,.nilFunc,.nilFunc,.nilFunc,.nilFunc,.nilFunc,.nilFunc,.nilFunc,.nilFunc]:=by unfold cZ;kernel_rfl
theorem XT:pe prog 176 20 false 1=true:=by kernel_rfl
theorem Pm:lR prog 181 1=true:=by kernel_rfl
theorem XU:kQ prog 181 4 1=true:=by kernel_rfl
theorem Pn:lR prog 187 1=true:=by kernel_rfl
theorem Po:kQ prog 187 24 1=true:=by kernel_rfl
theorem G6:cZ prog 193 [.int .i64 0,.string ⟨#[]⟩,.int .i64 0,.int .i64 0]:=by unfold cZ;kernel_rfl
theorem Ep:gS prog 193 0 0=true:=by kernel_rfl
theorem KC:gS prog 193 1 1=true:=by kernel_rfl
theorem BX:gS prog 193 2 2=true:=by kernel_rfl
theorem XV:prog.underlying 195=some (.interface (prog.methodsAt 195)):=by kernel_rfl
theorem Pp:dq prog 208 false 1=true:=by kernel_rfl
theorem Pq:cZ prog 208 [.pointer none]:=by unfold cZ;kernel_rfl
theorem KD:dq prog 223 false 1=true:=by kernel_rfl
theorem XW:cZ prog 223 [.nilFunc]:=by unfold cZ;kernel_rfl
theorem Pr:dq prog 224 false 1=true:=by kernel_rfl
theorem KE:dq prog 225 true 23=true:=by kernel_rfl
theorem KF:cZ prog 225 [.nilFunc,.nilFunc,.nilFunc,.nilFunc,.nilFunc,.nilFunc,.nilFunc,.nilFunc,.nilFunc,.nilFunc,.nilFunc,.nilFunc,.nilFunc,.nilFunc,.nilFunc,.nilFunc,.nilFunc,.nilFunc,.nilFunc,.nilFunc,.nilFunc,.nilFunc,.nilFunc]:=by unfold cZ;kernel_rfl
theorem XX:pe prog 225 23 false 1=true:=by kernel_rfl
theorem XY:dq prog 235 false 1=true:=by kernel_rfl
theorem dF:lR prog 235 2=true:=by kernel_rfl
theorem Ps:kQ prog 235 100 2=true:=by kernel_rfl
theorem Pt:mB prog 235 2 16=true:=by kernel_rfl
theorem Pu:nb prog 235=true:=by kernel_rfl
theorem XZ:cZ prog 237 [.string ⟨#[]⟩,.int .i64 0,.int .i64 0,.slice none 0 0,.slice none 0 0,.slice none 0 0,.slice none 0 0,.slice none 0 0,.slice none 0 0]:=by unfold cZ;kernel_rfl
theorem X0:dq prog 238 false 1=true:=by kernel_rfl
theorem Pv:dq prog 239 true 20=true:=by kernel_rfl
theorem Pw:cZ prog 239 [.nilFunc,.nilFunc,.nilFunc,.nilFunc,.nilFunc,.nilFunc,.nilFunc,.nilFunc,.nilFunc,.nilFunc,.nilFunc,.nilFunc,.nilFunc,.nilFunc,.nilFunc,.nilFunc,.nilFunc,.nilFunc,.nilFunc,.nilFunc]:=by unfold cZ;kernel_rfl
theorem Px:pe prog 239 20 false 1=true:=by kernel_rfl
theorem Py:dq prog 285 true 3=true:=by kernel_rfl
theorem vq:cZ prog 285 [.int .i64 0,.int .i64 0,.bool false]:=by unfold cZ;kernel_rfl
theorem Pz:kh prog 29 ((#[(0,1),(1,1),(2,1),(3,1),(4,1),(5,1),(6,1),(7,1)]:Array (Nat×Nat))[·]?):=.inl ⟨_,_,underlying29,fun w=>by kernel_rfl,rfl⟩
theorem X1:kh prog 41 ((#[(0,1),(1,1),(2,1),(3,1),(4,1),(5,1),(6,1),(7,1)]:Array (Nat×Nat))[·]?):=.inl ⟨_,_,underlying41,fun w=>by kernel_rfl,rfl⟩
theorem PA:kh prog 45 ((#[(0,1),(1,1)]:Array (Nat×Nat))[·]?):=.inl ⟨_,_,underlying45,fun w=>by kernel_rfl,rfl⟩
theorem wX:kh prog 65 ((#[(0,1),(1,1),(2,1),(3,1),(4,1)]:Array (Nat×Nat))[·]?):=.inl ⟨_,_,underlying65,fun w=>by kernel_rfl,rfl⟩
theorem PB:kh prog 67 ((#[(0,1),(1,1),(2,1),(3,5)]:Array (Nat×Nat))[·]?):=.inl ⟨_,_,underlying67,fun w=>by kernel_rfl,rfl⟩
theorem X2:kh prog 72 ((#[(0,1),(1,1)]:Array (Nat×Nat))[·]?):=.inl ⟨_,_,underlying72,fun w=>by kernel_rfl,rfl⟩
theorem X3:kh prog 74 ((#[(0,2),(2,1)]:Array (Nat×Nat))[·]?):=.inl ⟨_,_,underlying74,fun w=>by kernel_rfl,rfl⟩
theorem X4:kh prog 83 ((#[(0,1),(1,1),(2,1),(3,1)]:Array (Nat×Nat))[·]?):=.inl ⟨_,_,underlying83,fun w=>by kernel_rfl,rfl⟩
theorem X5:kh prog 86 (fun i=>some (i*1,1)):=.inr ⟨_,_,_,underlying86,fun w=>r4 Xh w,rfl⟩
theorem X6:kh prog 88 ((#[(0,8),(8,1),(9,20)]:Array (Nat×Nat))[·]?):=.inl ⟨_,_,underlying88,fun w=>by kernel_rfl,rfl⟩
theorem X7:kh prog 90 ((#[(0,1),(1,1)]:Array (Nat×Nat))[·]?):=.inl ⟨_,_,underlying90,fun w=>by kernel_rfl,rfl⟩
theorem X8:kh prog 97 ((#[(0,1),(1,1),(2,1)]:Array (Nat×Nat))[·]?):=.inl ⟨_,_,underlying97,fun w=>by kernel_rfl,rfl⟩
theorem la:kh prog 100 (fun i=>some (i*1,1)):=.inr ⟨_,_,_,underlying100,fun w=>r4 bY w,rfl⟩
theorem X9:kh prog 105 ((#[]:Array (Nat×Nat))[·]?):=.inl ⟨_,_,underlying105,fun w=>by kernel_rfl,rfl⟩
theorem Ya:kh prog 124 ((#[(0,8),(8,1),(9,1),(10,1),(11,1),(12,1),(13,2),(15,1),(16,1)]:Array (Nat×Nat))[·]?):=.inl ⟨_,_,underlying124,fun w=>by kernel_rfl,rfl⟩
theorem Yb:kh prog 138 (fun i=>some (i*1,1)):=.inr ⟨_,_,_,underlying138,fun w=>r4 Pe w,rfl⟩
theorem Yc:kh prog 143 ((#[(0,1),(1,1),(2,1)]:Array (Nat×Nat))[·]?):=.inl ⟨_,_,underlying143,fun w=>by kernel_rfl,rfl⟩
theorem PC:kh prog 146 ((#[(0,1)]:Array (Nat×Nat))[·]?):=.inl ⟨_,_,underlying146,fun w=>by kernel_rfl,rfl⟩
theorem Yd:kh prog 150 ((#[(0,1),(1,1),(2,1)]:Array (Nat×Nat))[·]?):=.inl ⟨_,_,underlying150,fun w=>by kernel_rfl,rfl⟩
theorem Ye:kh prog 156 ((#[(0,1),(1,1)]:Array (Nat×Nat))[·]?):=.inl ⟨_,_,underlying156,fun w=>by kernel_rfl,rfl⟩
theorem Yf:kh prog 170 ((#[(0,1),(1,8),(9,1),(10,1),(11,1),(12,2)]:Array (Nat×Nat))[·]?):=.inl ⟨_,_,underlying170,fun w=>by kernel_rfl,rfl⟩
theorem Yg:kh prog 173 (fun i=>some (i*1,1)):=.inr ⟨_,_,_,underlying173,fun w=>r4 XR w,rfl⟩
theorem Yh:kh prog 176 (fun i=>some (i*1,1)):=.inr ⟨_,_,_,underlying176,fun w=>r4 Pl w,rfl⟩
theorem KG:kh prog 193 ((#[(0,1),(1,1),(2,1),(3,1)]:Array (Nat×Nat))[·]?):=.inl ⟨_,_,underlying193,fun w=>by kernel_rfl,rfl⟩
theorem Yi:kh prog 225 (fun i=>some (i*1,1)):=.inr ⟨_,_,_,underlying225,fun w=>r4 Pr w,rfl⟩
theorem Yj:kh prog 237 ((#[(0,8),(8,1)]:Array (Nat×Nat))[·]?):=.inl ⟨_,_,underlying237,fun w=>by kernel_rfl,rfl⟩
theorem Yk:kh prog 239 (fun i=>some (i*1,1)):=.inr ⟨_,_,_,underlying239,fun w=>r4 X0 w,rfl⟩
theorem yr:kh prog 285 ((#[(0,1),(1,1),(2,1)]:Array (Nat×Nat))[·]?):=.inl ⟨_,_,underlying285,fun w=>by kernel_rfl,rfl⟩
theorem mixed:prog.follows .mixedOrders=true:=by kernel_rfl
section
variable {P:Program} {S:ad} {ro:eR} {ops:Array Oper} {E:c7}
section
variable {F:Fence} {n:Nat} {b:Frame} {a:Act} {k:List Go.Item} {cs:List Frame} {w:World}
end
structure ur(aY:ad)(aS a8:ad)(aA new ds:List Nat):Prop where
 sd:∀p∈aS,p.1%2=1
 yk:∀p∈a8,p.1%2=1
 qG:∀p∈aS,aY.get p.1=some p.2
 U:∀p∈aS,∃B,p.2= .U B
 drop:∀p∈aS,p.1∈ds
 tS:∀p∈a8,p.1/2∈new\/p.1/2∈aA
 kept:∀l∈aA,l∉new
 cell:∀p∈a8,GQ (new++aA) p.2=true
 fL:∀l∈new,G l∈a8.map Prod.fst
theorem s9.n{aY aS a8:ad}{res:ai}{aA new ds:List Nat}(h:s9 aY aS a8 res aA new ds):ur aY aS a8 aA new ds:=
 ⟨h.sd,h.yk,h.qG,h.U,h.drop,h.tS,h.kept,h.cell,h.fL⟩
theorem ur.sub{aY ed aS a8:ad}{aA new ds:List Nat}(h:ur aY aS a8 aA new ds)(e:∀p∈aS,ed.get p.1=aY.get p.1):ur ed aS a8 aA new ds:=
 ⟨h.sd,h.yk,fun p Z=>(e p Z).trans (h.qG p Z),h.U,h.drop,h.tS,h.kept,h.cell,h.fL⟩
def sg(V:cu)(aS:ad):List Nat:=((s6 aS).filter fun l=>(V.bZ l).isSome).map V.aI
theorem BY{aY aS a8:ad}{aA new ds:List Nat}{V:cu}(aW:ur aY aS a8 aA new ds):∀b∈sg V aS,∃l,di V aY l/\G l∈ds/\(∃B,(G l,dz.U B)∈aS)/\V.aI l=b:=by
 intro b ae
 simp only[sg,List.mem_map,List.mem_filter,s6]at ae
 obtain⟨l,⟨⟨p,Z,rfl⟩,K⟩,rfl⟩:=ae
 have Ec:=aW.sd p Z
 have e:G (p.1/2)=p.1:=by unfold G;omega
 obtain⟨B,yl⟩:=aW.U p Z
 have J:=aW.qG p Z
 rw[yl]at J
 refine⟨p.1/2,⟨⟨B,by rw[e];exact J⟩,by cases Y:V.bZ (p.1/2)<;>simp_all⟩,by rw[e];exact aW.drop p Z,⟨B,?_⟩,rfl⟩
 rw[e,<-yl];exact Z
theorem PD{S:ad}{aS a8:ad}{aA new ds:List Nat}{V:cu}{M:Mem}{w:World}(hw:cl E S V M w)(aW:ur S aS a8 aA new ds):cl (.dd w (sg V aS) M V aA 0) aS V M w:=by
 have iN:∀l B,aS.get (G l)=some (.U B)->S.get (G l)=some (.U B):=fun l B e=>aW.qG _ (kB e)
 have cP:∀l,di V aS l->di V S l:=fun l ⟨⟨B,e⟩,k⟩=>⟨⟨B,iN l B e⟩,k⟩
 exact
  {
   dn:=fun l B e=>hw.dn l B (iN l B e),inj:=fun l l' a b=>hw.inj l l' (cP l a) (cP l' b),dO:=fun l a=>hw.dO l (cP l a)
   dt:=fun l a=>.inr (by
    obtain⟨⟨B,e⟩,k⟩:=a
    have aw:=kB e
    simp only[sg,List.mem_map,List.mem_filter,s6]
    exact⟨l,⟨⟨_,aw,by unfold G;omega⟩,by cases Y:V.bZ l<;>simp_all⟩,rfl⟩)
   cE:=fun l a=>hw.cE l (cP l a)
   mem:=hw.mem,dA:=jH M,er:=(hw.xR fun b ae=>let⟨l,J,_,_,W⟩:=BY aW b ae;⟨l,J,W⟩),ea:=fun b o h=>.inl h,aA:=fun l aa=>⟨rfl,rfl⟩,b6:=⟨rfl,rfl,rfl,Nat.le_refl _,fun _ _ _=>rfl⟩}
abbrev th(ds:List Nat)(a8:ad):List (Nat×Option dz):=x0 ds++D9 a8
theorem G7(S:ad)(ds:List Nat)(a8:ad)(n:Nat):(S.eK (th ds a8)).get n=match a8.get n with|some c=>some c|none=>if n∈ds then none else S.get n:=by
 rw[mY,DR,JK,Ea,Kb]
 all_goals(cases a8.get n<;>rfl)
theorem KH{S:ad}{aS a8:ad}{aA new ds:List Nat}{V br:cu}{M bo:Mem}{a:Act}{w w':World}(aC:jk E S V M a)(hw:cl E S V M w)(aW:ur S aS a8 aA new ds)
  (h3:∀l∈new,∀n c,S.get n=some c->n∉ds->n∉a8.map Prod.fst->¬ov c l) (b2:∀l∈new,l∉E.aA) (b8:cl (.dd w (sg V aS) M V aA 0) a8 br bo w'):
  ∃fP,jk E (S.eK (th ds a8)) fP bo a/\cl E (S.eK (th ds a8)) fP bo w'/\∀l∈new++aA,fP.aI l=br.aI l/\fP.bZ l=br.bZ l:=by
 have bf:=b8.b6
 let fP:cu:=⟨fun l=>if l∈new then br.aI l else V.aI l,fun l=>if l∈new then br.bZ l else V.bZ l⟩
 have po:∀l,l∉new->fP.aI l=V.aI l/\fP.bZ l=V.bZ l:=fun l aa=>by simp[fP,aa]
 have rr:∀l,l∈new++aA->fP.aI l=br.aI l/\fP.bZ l=br.bZ l:=fun l aa=>by
  by_cases h:l∈new
  ·simp[fP,h]
  ·have K:l∈aA:=by simpa[h]using aa
   have:=b8.aA l K
   simp only[fP,h,if_false]
   exact⟨this.1.symm,this.2.symm⟩
 let T:=S.eK (th ds a8)
 have fz:∀n,T.get n=match a8.get n with|some c=>some c|none=>if n∈ds then none else S.get n:=G7 S ds a8
 have Ed:∀n c,a8.get n=some c->n%2=1:=fun n c e=>aW.yk _ (kB e)
 have PE:∀{n:Nat},a8.get n=none->n∉a8.map Prod.fst:=by
  intro n af aw
  obtain⟨p,Z,rfl⟩:=List.mem_map.1 aw
  have key:∀B:ad,p∈B->B.get p.1≠none:=by
   intro B
   induction B with
   |nil=>intro h;cases h
   |cons q r aJ=>
    intro h
    rw[show(q::r:ad)=(q.1,q.2)::r from rfl,ej]
    rcases eb.1 h with rfl|h
    ·simp
    ·split
     ·simp
     ·exact aJ h
  exact key a8 Z af
 have hold:∀n c,a8.get n=none->n∉ds->S.get n=some c->∀l,l∈new->¬ov c l:=fun n c W aH aV l aa=>h3 l aa n c aV aH (PE W)
 have ym:∀l B,T.get (G l)=some (.U B)->(a8.get (G l)=some (.U B)/\l∈new++aA)\/(a8.get (G l)=none/\G l∉ds/\S.get (G l)=some (.U B)):=fun l B e=>by
  rw[fz]at e
  cases ae:a8.get (G l)with
  |some c=>
   rw[ae]at e
   simp only at e
   have:=aW.tS _ (kB ae)
   have gr:G l/2=l:=by unfold G;omega
   simp only[gr]at this
   exact .inl ⟨e,by simpa using this⟩
  |none=>
   rw[ae]at e
   simp only at e
   by_cases aq:G l∈ds
   ·rw[if_pos aq]at e;cases e
   ·rw[if_neg aq]at e;exact .inr ⟨rfl,aq,e⟩
 have vh:∀l B,a8.get (G l)=none->S.get (G l)=some (.U B)->l∉new:=fun l B J _ aa=>PE J (aW.fL l aa)
 have nA:∀l,di fP T l->(di br a8 l/\fP.aI l=br.aI l)\/(di V S l/\G l∉ds/\fP.aI l=V.aI l):=fun l ⟨⟨B,e⟩,k⟩=>by
  rcases ym l B e with⟨J,W⟩|⟨J,W,aH⟩
  ·have:=rr l W
   exact .inl ⟨⟨⟨B,J⟩,by rw[<-this.2];exact k⟩,this.1⟩
  ·have:=po l (vh l B J aH)
   exact .inr ⟨⟨⟨B,aH⟩,by rw[<-this.2];exact k⟩,W,this.1⟩
 have kj:∀l,di V S l->G l∉ds->V.aI l∉sg V aS:=fun l aa aq Z=>by
  obtain⟨l',J,W,_,aH⟩:=BY aW _ Z
  by_cases e:l'=l
  ·exact aq (e▸W)
  ·exact hw.inj l' l J aa e aH
 have cj:∀l,di br a8 l->w.heap.size<=br.aI l\/br.aI l∈sg V aS:=fun l aa=>b8.dt l aa
 have yn:∀l l',di br a8 l->di V S l'->G l'∉ds->br.aI l≠V.aI l':=fun l l' J W aH e=>by
  rcases cj l J with h|h
  ·have:=hw.cE l' W;omega
  ·exact kj l' W aH (e▸h)
 refine⟨fP,⟨fun s x Y=>?_,aC.size,aC.defers⟩,?_,rr⟩
 ·have Y:T.get (ab s)=some (.aB x):=Y
  rw[fz]at Y
  have ru:a8.get (ab s)=none:=by
   cases ae:a8.get (ab s)with
   |none=>rfl
   |some c=>have:=Ed _ _ ae;unfold ab at this;omega
  rw[ru]at Y
  simp only at Y
  by_cases aq:ab s∈ds
  ·rw[if_pos aq]at Y;cases Y
  ·rw[if_neg aq]at Y
   obtain⟨u,hu,jX⟩:=aC.fT s x Y
   exact⟨u,hu,jX.mono b8.dA fun l aa=>po l fun af=>hold (ab s) _ ru aq Y l af aa⟩
 ·exact
  {
   dn:=fun l B e=>by
    rcases ym l B e with⟨J,W⟩|⟨J,W,aH⟩
    ·have aw:=aW.cell _ (kB J)
     exact(b8.dn l B J).lu (jH _) (rr l W) (fun l' e4=>rr l' (by
      cases e4 with
      |cells cs x _ Y jn=>exact pZ jn (sc aw Y)
      |eh h' ts p _ Y jn=>exact pZ jn (GP aw Y)
      |gR ms cs x _ Y jn=>exact pZ jn (sc aw Y)
      |k2 cs o x _ Y jn=>exact pZ jn (sc aw Y))) fun _=>rfl
    ·have BG:=vh l B J aH
     exact(hw.dn l B aH).lu b8.dA (po l BG) (fun l' e4=>po l' fun af=>hold (G l) _ J W aH l' af e4) fun K=>bf.block _ (hw.cE l ⟨⟨B,aH⟩,K⟩) (kj l ⟨⟨B,aH⟩,K⟩ W)
   inj:=fun l l' J W b2=>by
    rcases nA l J with⟨ca,a2⟩|⟨ca,a2,a3⟩
    ·rcases nA l' W with⟨fK,fO⟩|⟨fK,fO,hh⟩
     ·rw[a2,fO];exact b8.inj l l' ca fK b2
     ·rw[a2,hh];exact yn l l' ca fK fO
    ·rcases nA l' W with⟨fK,fO⟩|⟨fK,fO,hh⟩
     ·rw[a3,fO];exact(yn l' l fK ca a2).symm
     ·rw[a3,hh];exact hw.inj l l' ca fK b2
   dO:=fun l J o=>by
    rcases nA l J with⟨ca,a2⟩|⟨ca,a2,a3⟩
    ·rw[a2];exact b8.dO l ca o
    ·rw[a3]
     cases aj:bo (V.aI l) o with
     |none=>rfl
     |some u=>
      rcases b8.ea (V.aI l) o (by rw[aj];simp)with h|h|h
      ·exact absurd (hw.dO l ca o) h
      ·have:=hw.cE l ca
       have h:w.heap.size<=V.aI l:=h
       omega
      ·exact absurd h (kj l ca a2)
   dt:=fun l J=>by
    rcases nA l J with⟨ca,a2⟩|⟨ca,a2,a3⟩
    ·rw[a2]
     rcases cj l ca with h|h
     ·exact .inl (Nat.le_trans hw.b6.size h)
     ·obtain⟨l',e4,_,_,he⟩:=BY aW _ h
      rw[<-he]
      exact hw.dt l' e4
    ·rw[a3];exact hw.dt l ca
   cE:=fun l J=>by
    rcases nA l J with⟨ca,a2⟩|⟨ca,a2,a3⟩
    ·rw[a2];exact b8.cE l ca
    ·rw[a3];exact Nat.lt_of_lt_of_le (hw.cE l ca) bf.size
   mem:=b8.mem
   dA:=tQ hw.dA b8.dA,er:=hw.er
   ea:=fun b o h=>by
    rcases b8.ea b o h with h|h|h
    ·exact hw.ea b o h
    ·have h:w.heap.size<=b:=h
     exact .inr (.inl (Nat.le_trans hw.b6.size h))
    ·obtain⟨l',e4,_,_,he⟩:=BY aW _ h
     rw[<-he]
     rcases hw.dt l' e4 with h|h
     ·exact .inr (.inl h)
     ·exact .inr (.inr h)
   aA:=fun l aa=>by
    have af:l∉new:=fun h=>b2 l h aa
    have:=po l af
    rw[this.1,this.2]
    exact hw.aA l aa
   b6:=⟨bf.os.trans hw.b6.os,bf.tape.trans hw.b6.tape,bf.output.trans hw.b6.output,Nat.le_trans hw.b6.size bf.size,fun b ae Z=>(bf.block b (Nat.lt_of_lt_of_le ae hw.b6.size) (fun h=>by
    obtain⟨l',e4,_,_,he⟩:=BY aW _ h
    rcases hw.dt l' e4 with h|h
    ·omega
    ·exact Z (he▸h))).trans (hw.b6.block b ae Z)⟩}
theorem Yl{aY:ad}{o:Oper}{t:Nat}{res:ai}{aS a8:ad}{aA new ds gs:List Nat}(gM:o.dst=some t)(fY:mw ops aY o=some (gs,true))
  (Er:∀(V:cu) (M:Mem) (a:Act) (w:World) (fg:Act->World->Prop) (Q:Exit->Act->World->Prop),(∀x∈o.op.operands,∀y,cd aY true x y->bU V M y (a.eval x))->cl (.dd w (sg V aS) M V aA 0) aS V M w->
   (∀v br bo w',bU br bo res v->cl (.dd w (sg V aS) M V aA 0) a8 br bo w'->fg (a.put (some t) v) w')->o.wpIn (ja P ro) 0 P a w fg Q)
  (aW:s9 aY aS a8 res aA new ds):kA P ro ops o ⟨cQ o++gs++gU aS,aY,im ds a8 t (lz o true res),new⟩:=by
 intro E S a w kf h3 dX ⟨V,M,aC,hw⟩ Q gD
 have aT:t<E.cg:=dX.2 t (yj.2 (.inr (.inr D)))
 have tY:=DO (E:=E) kf fY (fun n af=>by simp[af]) aC
 unfold lx
 rw[if_pos tY]
 have Ym:=(qw (dE:=[]) kf (fun n af=>by simp[af]) (fun l aa=>by cases aa) rfl aC hw:jc E aY o [] true V M a w)
 have PF:ur S aS a8 aA new (ab t::ds):=by
  have h:=aW.n.sub (ed:=S) fun p Z=>kf p.1 (by simp only[gU,qF,hy,List.mem_map];exact .inr ⟨_,Z,rfl⟩)
  exact{sd:=h.sd,yk:=h.yk,qG:=h.qG,U:=h.U,drop:=fun p Z=>by simp[h.drop p Z],tS:=h.tS,kept:=h.kept,cell:=h.cell,fL:=h.fL}
 refine Er V M a w _ _ Ym.ez (PD hw PF) ?_
 intro v br bo w' eD b8
 obtain⟨fP,dk,nY,Ae⟩:=KH aC hw PF (fun l aa n c aj J W=>h3 l aa n c aj fun h=>by
  rcases yj.1 h with h|h|h
  ·exact J (by simp[h])
  ·exact W h
  ·exact J (by simp[h])) (fun l aa K=>dX.1 l aa K) b8
 have G8:bU fP bo res v:=eD.Ka fun l aa=>Ae l (pZ aa aW.res)
 have Yn:bU fP bo (lz o true res) v:=by
  unfold lz
  split
  ·exact G8
  ·exact .bB _ _ _ (fun _=>G8) fun h=>by cases h
 have h:ei E ((S.eK (th (ab t::ds) a8)).eK [(ab t,some (.aB (lz o true res)))]) (a.put (some t) v) w':=⟨fP,bo,tX dk t _ v aT Yn,xY nY t _⟩
 refine ei.fj h fun n c e=>?_
 rw[pc,G7]
 rw[zY]at e
 by_cases af:ab t=n
 ·rw[if_pos af]at e⊢;exact e
 ·rw[if_neg af]at e⊢
  cases ae:a8.get n with
  |some gp=>rw[ae]at e;exact e
  |none=>
   rw[ae]at e
   simp only at e⊢
   by_cases aq:n∈ds
   ·rw[if_pos aq]at e;cases e
   ·rw[if_neg aq]at e
    rw[if_neg (by simp[aq,Ne.symm af])];exact e
abbrev wY(P:Program)(e:Bool):Fence:={Fence.wide with fn:=fun f=>e=true->∃x,P.funcs[f]?=some x}
theorem KI{P:Program}:wY P false=Fence.wide:=by simp[wY,Fence.wide]
def oG(P:Program)(e:Bool)(f:FuncId)(args:List ai)(aS:ad)(res:ai)(a8:ad)(aA:List Nat)(X:List PanicEntry->Prop)(cw:ad):Prop:=
 ∀(V:cu) (M:Mem) (w:World) (b4:List Nat) (vs:List Value),cl (.dd w b4 M V aA 0) aS V M w->gZ V M args vs->
  CallsIn (wY P e) 0 P f vs.toArray w fun e w'=>(∃v br bo,e= .returned v/\bU br bo res v/\cl (.dd w b4 M V aA 0) a8 br bo w')\/∃bc br bo,e= .panicked bc/\X bc/\cl (.dd w b4 M V aA 0) cw br bo w'
theorem bw.f{f:FuncId}{args:List ai}{aS a8:ad}{res:ai}{aA:List Nat}(h:bw P f args aS res a8 aA):oG P false f args aS res a8 aA (fun _=>False) []:=fun V M w b4 vs hw aq=>by
 rw[KI]
 exact callsIn_wide.2 ((h V M w b4 vs hw aq).mono fun e w' h=>.inl h)
def G9(P:Program)(e:Bool)(L:Nat)(args:List ai)(aS:ad)(res:ai)(a8:ad)(aA:List Nat)(X:List PanicEntry->Prop)(cw:ad):Prop:=
 ∀(V:cu) (M:Mem) (w:World) (b4:List Nat) (vs:List Value),cl (.dd w b4 M V aA 0) aS V M w->gZ V M args vs->
  YieldAt (wY P e) 0 P (V.aI L) vs.toArray w fun e w'=>(∃v br bo,e= .returned v/\bU br bo res v/\cl (.dd w b4 M V aA 0) a8 br bo w')\/∃bc br bo,e= .panicked bc/\X bc/\cl (.dd w b4 M V aA 0) cw br bo w'
def Es(P:Program)(L:Nat)(args:List ai)(aS:ad)(res:ai)(a8:ad)(aA:List Nat):Prop:=
 ∀(V:cu) (M:Mem) (w:World) (b4:List Nat) (vs:List Value),cl (.dd w b4 M V aA 0) aS V M w->gZ V M args vs->
  YieldAt Fence.wide 0 P (V.aI L) vs.toArray w fun e w'=>∃v br bo,e= .returned v/\bU br bo res v/\cl (.dd w b4 M V aA 0) a8 br bo w'
structure Et(S:ad)(cD:Call)(L:Nat)(args:List ai):Prop where
 bQ:∃(f:Operand),cD.callee= .value f/\cd S true f (.iI L)/\args.length=cD.args.size/\∀(j:Nat) (x:Operand) (y:ai),cD.args[j]?=some x->args[j]?=some y->cd S true x y
theorem Eu{S:ad}{f:Operand}{l:List Operand}{ts:Array TypeId}{L:Nat}{xs:List ai}(bf:cd S true f (.iI L))(h:r7 S true l xs):Et S ⟨.value f,l.toArray,ts⟩ L xs:=
 ⟨f,rfl,bf,by simpa using h.e6.1,fun j x y Y ak=>h.e6.2 j x y (by simpa using Y) ak⟩
theorem bI.Yo[jI ro]{aY S':ad}{cD:Call}{ty:TypeId}{pos:String}{a6:Array Edge}{bB:Option (Nat×Bool)}{r:List Oper}{L:List cx}{t rz:Nat}{args:List ai}{res:ai}{aS a8:ad}{aA gs:List Nat}(new ds:List Nat)(hz:Et aY cD rz args)(an:Es P rz args aS res a8 aA)
  (fY:mw ops aY ⟨some t,.call cD,ty,pos,a6,bB⟩=some (gs,true))
  (aW:s9 aY aS a8 res aA new ds) (bf:h7 ⟨cQ ⟨some t,.call cD,ty,pos,a6,bB⟩++gs++gU aS,aY,im ds a8 t (lz ⟨some t,.call cD,ty,pos,a6,bB⟩ true res),new⟩ aY=true)
  (h:bI P ro ops r (aY.s8 ds a8 t (lz ⟨some t,.call cD,ty,pos,a6,bB⟩ true res)) L S'):
  bI P ro ops (⟨some t,.call cD,ty,pos,a6,bB⟩::r) aY (⟨cQ ⟨some t,.call cD,ty,pos,a6,bB⟩++gs++gU aS,aY,im ds a8 t (lz ⟨some t,.call cD,ty,pos,a6,bB⟩ true res),new⟩::L) S':=by
 refine .cons (Yl D fY ?_ aW) (fun _ _=>rfl) (sN bf) (Eb _ _ _ _ _) h
 intro V M a w fg Q ha hw K
 obtain⟨f,BZ,nP,aa,he⟩:=hz.bQ
 have ub:f∈(Op.call cD).operands:=by simp[Op.operands,Call.operands,BZ]
 have J:=ha f ub _ nP
 have pW:gZ V M args (cD.args.toList.map a.eval):=⟨by simpa using aa,fun j x y Y ak=>by
  simp only[fJ,Option.map_eq_some_iff]at ak
  obtain⟨z,bd,rfl⟩:=ak
  have r3:cD.args[j]?=some z:=by simpa using bd
  refine ha z ?_ _ (he j z x r3 Y)
  simp only[Op.operands,Call.operands,Array.mem_append]
  exact .inr (Array.mem_of_getElem? r3)⟩
 generalize aK:a.eval f=v at J
 cases J with
 |iI _=>
  obtain⟨fn,tmps,assign,body,ak,fA⟩:=an V M w _ _ hw pW
  have aE:(execOp a.eval ⟨some t,.call cD,ty,pos,a6,bB⟩).run P w= .ok (.round (V.aI rz) fn tmps assign body) w:=by
   have sX:∀f:Operand->Value,(cD.args.toList.map f).toArray=cD.args.map f:=fun f=>by
    rw[<-List.map_toArray,Array.toArray_toList]
   rw[sX]at ak
   generalize a.eval=aI at*
   simp only[execOp,resolve,BZ,aK,Deferred.ofValue,de,e5,Result.andThen,Array.empty_append,invoke]
   first|exact ak|(simp only[Array.append_empty];exact ak)
  refine⟨DN _ a w,?_⟩
  rw[Oper.semAt_eq _ _ _ (fun d h=>by cases h),aE,Oper.uponIn_round]
  refine⟨Bq ro 0,?_⟩
  rw[Dy]
  refine RoundIn.mono (F:=Fence.wide) fA ?_
  rintro e w' ⟨v,br,bo,rfl,eD,b8⟩
  exact K v br bo w' eD b8
theorem bI.KJ[jI ro]{aY S':ad}{cD:Call}{ty:TypeId}{pos:String}{a6:Array Edge}{bB:Option (Nat×Bool)}{r:List Oper}{L:List cx}{t rz:Nat}{args:List ai}{res:ai}{aS a8:ad}{aA gs:List Nat}(new ds:List Nat)(hz:Et aY cD rz args)(an:Es P rz args aS res a8 aA)
  (fY:mw ops aY ⟨some t,.call cD,ty,pos,a6,bB⟩=some (gs,true))
  (aK:jC aY aS) (aW:nR aY aS a8 res aA new ds=true) (bf:h7 ⟨cQ ⟨some t,.call cD,ty,pos,a6,bB⟩++gs++gU aS,aY,im ds a8 t (lz ⟨some t,.call cD,ty,pos,a6,bB⟩ true res),new⟩ aY=true)
  (h:bI P ro ops r (aY.s8 ds a8 t (lz ⟨some t,.call cD,ty,pos,a6,bB⟩ true res)) L S'):
  bI P ro ops (⟨some t,.call cD,ty,pos,a6,bB⟩::r) aY (⟨cQ ⟨some t,.call cD,ty,pos,a6,bB⟩++gs++gU aS,aY,im ds a8 t (lz ⟨some t,.call cD,ty,pos,a6,bB⟩ true res),new⟩::L) S':=
 bI.Yo new ds hz an fY (uj aK aW) bf h
theorem fb.put{w:World}{r:Nat}(o:Obj)(h:r<w.heap.size):fb w (w.putObj r o) r:=
 ⟨rfl,rfl,rfl,by simp,fun b ae _=>World.putObj_heap_other ae,by simpa using h⟩
theorem cl.ys{S:ad}{V:cu}{M:Mem}{w w':World}{r:Nat}(h:cl E S V M w)(cy:fb w w' r)(aE:∀l,di V S l->V.aI l≠r)(h5:∀o,M r o=none)(nC:E.iu.heap.size<=r\/r∈E.b4):cl E S V M w':=
 {
  dn:=fun l B e=>(h.dn l B e).kept fun K=>cy.rf _ (aE l ⟨⟨B,e⟩,K⟩) (h.cE l ⟨⟨B,e⟩,K⟩)
  inj:=h.inj,dO:=h.dO,dt:=h.dt,cE:=fun l aa=>Nat.lt_of_lt_of_le (h.cE l aa) cy.size
  mem:=fun b o v aK=>cy.cell (fun e=>by rw[e,h5 o]at aK;cases aK) (h.mem b o v aK)
  dA:=h.dA,er:=h.er,ea:=h.ea,aA:=h.aA
  b6:=⟨cy.os.trans h.b6.os,cy.tape.trans h.b6.tape,cy.output.trans h.b6.output,Nat.le_trans h.b6.size cy.size,fun b ae Z=>(cy.rf b (fun e=>by
   rcases nC with h|h
   ·omega
   ·exact Z (e▸h)) (Nat.lt_of_lt_of_le ae h.b6.size)).trans (h.b6.block b ae Z)⟩}
theorem cl.Yp{S:ad}{V:cu}{M:Mem}{w w':World}{r:Nat}(h:cl E S V M w)(cy:fb w w' r)(h5:∀o,M r o=none){ps:List Nat}(Z:∀b∈ps,∃l,di V S l/\V.aI l=b):u4 M/\Dx w' ps M:=
 ⟨h.xQ,fun p Ju=>by
  obtain⟨J,W,cs,t,z,aH,aV⟩:=(h.xR Z).2 p Ju
  exact⟨J,W,cs,t,z,(cy.rf p.1 (fun e=>W (by rw[e];exact h5 0)) (Array.getElem?_eq_some_iff.1 aH).1).trans aH,aV⟩⟩
theorem cl.Yq{S:ad}{V:cu}{M:Mem}{w w':World}{r:Nat}(h:cl E S V M w)(cy:fb w w' r)(aE:∀l,di V S l->V.aI l≠r)(h5:∀o,M r o=none)(ds:List Deferred):cl (E.bS S V M w' ds) S V M w':=
 {
  dn:=fun l B e=>(h.dn l B e).kept fun K=>cy.rf _ (aE l ⟨⟨B,e⟩,K⟩) (h.cE l ⟨⟨B,e⟩,K⟩)
  inj:=h.inj,dO:=h.dO,dt:=fun l aa=>.inr (qv.2 ⟨l,aa,rfl⟩),cE:=fun l aa=>Nat.lt_of_lt_of_le (h.cE l aa) cy.size
  mem:=fun b o v aK=>cy.cell (fun e=>by rw[e,h5 o]at aK;cases aK) (h.mem b o v aK)
  dA:=jH M,er:=(h.Yp cy h5 fun b ae=>qv.1 ae),ea:=fun b o h=>.inl h,aA:=fun l _=>⟨rfl,rfl⟩,b6:=⟨rfl,rfl,rfl,Nat.le_refl _,fun _ _ _=>rfl⟩}
theorem cl.add{S T:ad}{V:cu}{M:Mem}{w:World}{L:Nat}{B:cO}(h:cl E S V M w)(fz:∀l C,T.get (G l)=some (.U C)->l≠L->S.get (G l)=some (.U C))(Yr:∀C,T.get (G L)=some (.U C)->C=B)(cP:gC V M w L B)(js:∀l,l≠L->di V S l->V.aI l≠V.aI L)
  (an:∀o,M (V.aI L) o=none) (bf:E.iu.heap.size<=V.aI L\/V.aI L∈E.b4) (ae:V.aI L<w.heap.size):cl E T V M w:=by
 have aj:∀l,di V T l->l≠L->di V S l:=fun l ⟨⟨C,e⟩,k⟩ b2=>⟨⟨C,fz l C e b2⟩,k⟩
 exact
  {
   dn:=fun l C e=>by
    by_cases aa:l=L
    ·subst aa;rw[Yr C e];exact cP
    ·exact h.dn l C (fz l C e aa)
   inj:=fun l l' J W b2=>by
    by_cases a:l=L
    ·subst a;exact(js l' (Ne.symm b2) (aj l' W (Ne.symm b2))).symm
    ·by_cases b:l'=L
     ·subst b;exact js l a (aj l J a)
     ·exact h.inj l l' (aj l J a) (aj l' W b) b2
   dO:=fun l J o=>by
    by_cases a:l=L
    ·subst a;exact an o
    ·exact h.dO l (aj l J a) o
   dt:=fun l J=>by
    by_cases a:l=L
    ·subst a;exact bf
    ·exact h.dt l (aj l J a)
   cE:=fun l J=>by
    by_cases a:l=L
    ·subst a;exact ae
    ·exact h.cE l (aj l J a)
   mem:=h.mem,dA:=h.dA,er:=h.er,ea:=h.ea,aA:=h.aA,b6:=h.b6}
theorem cl.Ys{S:ad}{V:cu}{M:Mem}{w:World}{L:Nat}(b:Nat)(k:Option Nat)(h:cl E S V M w)(gy:S.get (G L)=none)(bf:∀n c,S.get n=some c->¬ov c L)(K:L∉E.aA):cl E S (V.set L b k) M w:=by
 have af:∀l B,S.get (G l)=some (.U B)->l≠L:=fun l B e he=>by subst he;rw[gy]at e;cases e
 have aW:∀l,di (V.set L b k) S l->di V S l/\(V.set L b k).aI l=V.aI l:=fun l ⟨⟨B,e⟩,K⟩=>by
  have:=V.kg b k (af l B e)
  exact⟨⟨⟨B,e⟩,by rw[<-this.2];exact K⟩,this.1⟩
 exact
  {
   dn:=fun l B e=>(h.dn l B e).pd b k (af l B e) (bf _ _ e) fun _=>rfl
   inj:=fun l l' J W b2=>by rw[(aW l J).2,(aW l' W).2];exact h.inj l l' (aW l J).1 (aW l' W).1 b2
   dO:=fun l J o=>by rw[(aW l J).2];exact h.dO l (aW l J).1 o
   dt:=fun l J=>by rw[(aW l J).2];exact h.dt l (aW l J).1
   cE:=fun l J=>by rw[(aW l J).2];exact h.cE l (aW l J).1
   mem:=h.mem,dA:=h.dA,er:=h.er,ea:=h.ea
   aA:=fun l aa=>by
    have:=V.kg b k (fun e=>K (e▸aa):l≠L)
    rw[this.1,this.2];exact h.aA l aa
   b6:=h.b6}
def B0(ps:List Tmp)(xs:List ai)(S:ad):ad:=(ps.zip xs).foldl (fun S p=>(ab p.1,.aB p.2)::S) S
def vr:List (Nat×ai)->ad
 |[]=>[]
 |p::r=>(ab p.1,.aB p.2)::vr r
theorem Yt(ts:List (Nat×ai))(m:Nat):(vr ts).get (G m)=none:=by
 induction ts with
 |nil=>rfl
 |cons p r aJ=>simp only[vr];rw[ej,if_neg (iz p.1 m)];exact aJ
theorem Yu{ts:List (Nat×ai)}{t:Nat}{x:ai}(h:(vr ts).get (ab t)=some (.aB x)):(t,x)∈ts:=by
 induction ts with
 |nil=>cases h
 |cons p r aJ=>
  simp only[vr]at h
  rw[ej]at h
  by_cases Z:ab p.1=ab t
  ·rw[if_pos Z]at h
   injection h with h;injection h with h
   have:=qx Z
   subst this;subst h
   exact List.mem_cons_self ..
  ·rw[if_neg Z]at h
   exact List.mem_cons_of_mem _ (aJ h)
theorem PG:∀(ps:List Tmp) (xs:List ai) (S:ad) (m:Nat),(B0 ps xs S).get (G m)=S.get (G m)
 |[],xs,S,m=>rfl
 |p::ps,[],S,m=>rfl
 |p::ps,x::xs,S,m=>by
  show(B0 ps xs ((ab p,.aB x)::S)).get (G m)=_
  rw[PG ps xs _ m,ej,if_neg (iz p m)]
theorem PH{V:cu}{M:Mem}{cg:Nat}:∀(ps:List Tmp) (xs:List ai) (vs:List Value) (S:ad) (tmps:Array Value),gZ V M xs vs->tmps.size=cg->(∀p∈ps,p<cg)->(∀t x,S.get (ab t)=some (.aB x)->∃v,tmps[t]?=some v/\bU V M x v)->
  ((ps.zip vs).foldl (fun t (p:Tmp×Value)=>t.setIfInBounds p.1 p.2) tmps).size=cg/\
  ∀t x,(B0 ps xs S).get (ab t)=some (.aB x)->∃v,((ps.zip vs).foldl (fun t (p:Tmp×Value)=>t.setIfInBounds p.1 p.2) tmps)[t]?=some v/\bU V M x v
 |[],xs,vs,S,tmps,aq,an,Z,h=>⟨an,h⟩
 |p::ps,[],vs,S,tmps,aq,an,Z,h=>by
  have:vs=[]:=List.eq_nil_of_length_eq_zero (by rw[<-aq.len];rfl)
  subst this
  exact⟨an,h⟩
 |p::ps,x::xs,[],S,tmps,aq,an,Z,h=>absurd aq.len (by simp)
 |p::ps,x::xs,v::vs,S,tmps,aq,an,Z,h=>by
  refine PH ps xs vs ((ab p,.aB x)::S) (tmps.setIfInBounds p v) ⟨by have:=aq.len;simpa using this,fun j a b aC ae=>aq.e6 (j+1) a b (by simpa using aC) (by simpa using ae)⟩ (by simpa using an) (fun q bA=>Z q (by simp[bA])) ?_
  intro t y e
  rw[ej]at e
  by_cases aT:ab p=ab t
  ·have:=qx aT
   subst this
   rw[if_pos rfl]at e
   injection e with e;injection e with e;subst e
   exact⟨v,by simp[an,Z p (by simp)],aq.e6 0 x v rfl rfl⟩
  ·rw[if_neg aT]at e
   obtain⟨u,hu,jX⟩:=h t y e
   exact⟨u,by rw[Array.getElem?_setIfInBounds_ne fun e=>aT (by rw[e])];exact hu,jX⟩
def yt:Exit->Option (Option Code)
 | .normal=>some none
 | .ret=>some (some .ret)
 | .exit id=>some (some (.exit id))
 | .goto t=>some (some (.goto t))
 |_=>none
abbrev sL.bQ(h:sL)(fI:Option Code):sL:={h with st:=if fI.isNone then .ready else .done,fI:=fI}
def Yv(P:Program)(l:Nat)(f:FuncId)(R:Ending->World->Prop):Exit->Act->World->Prop
 | .panic bc,a,w=>a.defers=[]/\R (.panicked bc) w/\∃x,P.funcs[f]?=some x
 |e,a,w=>roundPost P l R e a w
theorem Yw{F:Fence}{n:Nat}{l:Nat}{f:FuncId}{tmps:Array Value}{assign body:Code}{w:World}{R:Ending->World->Prop}(lU:F.fn f)
  (h:assign.wpIn (F.inRound l) n P (Exit.then (fun Ev KK=>∃Ha,(Instr.beginRound l).run P KK= .ok () Ha/\body.wpIn (F.inRound l) n P (Yv P l f R) Ev Ha) fun _ _ _=>False)
   {tmps:=tmps,defers:=[]} w):
  RoundIn F n P l f tmps assign body w R:=by
 refine⟨lU,fun c cs aE=>?_⟩
 let b:Frame:={(default:Frame)with fn:=f,kind:=.normal,roundOf:=some l}
 have p3:Frame.round l f tmps assign body .normal=b.atR {tmps:=tmps,defers:=[]} [.code assign,.beginRound,.code body]:=by
  simp[Frame.round,Frame.atR,b]
 have ow:(F.inRound l).room ((c::cs).length+1+n):=aE
 have yu:(F.inRound l).fn b.fn:=lU
 obtain⟨e,Ev,KK,bA,B1⟩:=h b [.beginRound,.code body] (c::cs) D yu ow
 rw[<-p3]at B1
 cases e with
 |normal=>
  obtain⟨Ha,Yx,Yy⟩:=bA
  have s1:StepsIn (Machine.fenced P (F.inRound l)) P (lone (b.atR Ev [.beginRound,.code body]) (c::cs) KK) (lone (b.atR Ev [.code body]) (c::cs) Ha):=
   .one (fenced_calm (fr:=b.atR Ev [.beginRound,.code body]) yu ow D) (stepR_beginRound D Yx)
  obtain⟨Yz,B2,YA,B3,Ew⟩:=Yy b [] (c::cs) D yu ow
  cases Yz with
  |normal=>
   obtain⟨v,Af,mK,fA⟩:=B3
   exact⟨.returned v,Af,fA,(StepsIn.trans B1 s1).trans (StepsIn.trans Ew (.one (fenced_calm (fr:=b.atR B2 []) yu ow D) (stepR_round_end D D mK)))⟩
  |ret=>
   obtain⟨v,Af,mK,fA⟩:=B3
   obtain⟨k₁,an⟩:=Ew.2 rfl
   exact⟨.returned v,Af,fA,(StepsIn.trans B1 s1).trans (StepsIn.trans an (.one (fenced_calm (fr:=b.atR B2 (.code .ret::k₁)) yu ow D) (stepR_round_ret D D mK)))⟩
  |exit id=>
   obtain⟨v,Af,mK,fA⟩:=B3
   obtain⟨k₁,K,an⟩:=Ew.2 rfl rfl
   exact⟨.returned v,Af,fA,(StepsIn.trans B1 s1).trans (StepsIn.trans an (.one (fenced_calm (fr:=b.atR B2 (.code (.exit id)::k₁)) yu ow D) (stepR_round_exit D D K mK)))⟩
  |goto t=>
   obtain⟨v,Af,mK,fA⟩:=B3
   obtain⟨k₁,K,an⟩:=Ew.2 rfl rfl
   exact⟨.returned v,Af,fA,(StepsIn.trans B1 s1).trans (StepsIn.trans an (.one (fenced_calm (fr:=b.atR B2 (.code (.goto t)::k₁)) yu ow D) (stepR_round_goto D D K mK)))⟩
  |panic chain=>
   obtain⟨aq,fA,Y⟩:=B3
   obtain⟨todo,an⟩:=Ew
   refine⟨.panicked chain,YA,fA,(StepsIn.trans B1 s1).trans (StepsIn.trans an (.one (fenced_calm (fr:={b.atR B2 todo with mode:=.panicking chain}) yu ow (by simp[Frame.about,Frame.atR,aq])) ?_))⟩
   exact step_leave_panicked (fr:={b.atR B2 todo with mode:=.panicking chain}) ⟨rfl,aq,Y⟩
  |outgrown=>exact B3.elim
 |exit id=>exact bA.elim
 |goto t=>exact bA.elim
 |ret=>exact bA.elim
 |panic chain=>exact bA.elim
 |outgrown=>exact bA.elim
theorem PI{φ:Prop}{res:ai}{e0:Bool}{X:List PanicEntry->Prop}{L:Nat}{h:sL}{ts:List (Nat×ai)}{xs:List ai}{kR ta ed:ad}{aA:List Nat}{fI:Option Code}(uu:φ->∀Hb,Hb=fI->res= .d (.v (.bool Hb.isNone)))(Ex:∀f,h.fx f->(wY P e0).fn f)(Ey:∀bc,X bc->e0=true)(cy:h.st= .ready)(Y:xs.length=h.ps.size)(fl:h.ps.toList.all (fun p=>Nat.blt p h.cg)=true)
  (eU:vg kR=true) (Hc:qE (fun n=> !Nat.beq n (G L)) kR=true) (gy:hx L aA=true) (l4:BF aA ts=true) (PJ:qE (fun n=> !Nat.beq n (G L)) ta=true)
  (aC:∀(E:c7) (l:Nat),E.aA=aA->E.cg=h.cg->c8 P {round:=some l,gn:=e0} E h.assign (B0 h.ps.toList xs (vr ts++kR)) fun e S'=>e= .normal/\ed.le S')
  (ae:∀(E:c7) (l:Nat),E.aA=aA->E.cg=h.cg->c8 P {round:=some l,gn:=e0,gm:=fun x=>X x.1} E h.body ed fun e S'=>φ/\yt e=some fI/\∀m B,ta.get (G m)=some (.U B)->S'.get (G m)=some (.U B)):
  G9 P e0 L xs ((G L,.U (.eh h ts))::kR) res ((G L,.U (.eh (h.bQ fI) ts))::ta) aA X []:=by
 intro V M w b4 vs hw aq
 have Ag:L∈aA:=h6.1 gy
 have PK:ad.get ((G L,.U (.eh h ts))::kR) (G L)=some (.U (.eh h ts)):=by rw[ej,if_pos rfl]
 obtain⟨K,fn,tmps,d,PL,⟨cj,p4⟩,PM⟩:=hw.dn L _ PK
 have Hd:di V ((G L,.U (.eh h ts))::kR) L:=⟨⟨_,PK⟩,K⟩
 have PN:∀{T:ad},qE (fun n=> !Nat.beq n (G L)) T=true->T.get (G L)=none:=fun{T} fz=>by
  cases aj:T.get (G L)with
  |none=>rfl
  |some c=>have:=s7 fz _ (kB aj);simp[ih]at this
 have iN:∀l B,kR.get (G l)=some (.U B)->ad.get ((G L,.U (.eh h ts))::kR) (G l)=some (.U B):=fun l B e=>by
  rw[ej]
  by_cases aa:G L=G l
  ·rw[<-aa,PN Hc]at e;cases e
  ·rw[if_neg aa];exact e
 have PO:∀l,di V kR l->di V ((G L,.U (.eh h ts))::kR) l/\l≠L:=fun l ⟨⟨B,e⟩,k⟩=>⟨⟨⟨B,iN l B e⟩,k⟩,fun he=>by subst he;rw[PN Hc]at e;cases e⟩
 have KL:cl (.dd w b4 M V aA 0) kR V M w:=hw.my iN
 have jB:V.aI L<w.heap.size:=hw.cE L Hd
 have He:V.aI L∈b4:=by
  rcases hw.dt L Hd with h|h
  ·have h:w.heap.size<=V.aI L:=h
   omega
  ·exact h
 have nZ:∀l,di V kR l->V.aI l≠V.aI L:=fun l aa=>hw.inj l L (PO l aa).1 Hd (PO l aa).2
 have vd:∀o,M (V.aI L) o=none:=hw.dO L Hd
 have k7:∀p∈h.ps.toList,p<h.cg:=fun p Z=>by
  have:=eZ.1 fl p Z
  exact cC this
 have vt:vs.length=h.ps.size:=by rw[<-aq.len];exact Y
 obtain⟨bd,hc⟩:=PH (V:=V) (M:=M) (cg:=h.cg) h.ps.toList xs vs (vr ts++kR) tmps aq cj k7 (fun t x e=>by
  rw[qA]at e
  cases aM:(vr ts).get (ab t)with
  |some c=>
   rw[aM]at e
   injection e with e;subst e
   exact PM _ (Yu aM)
  |none=>
   rw[aM]at e
   have:=lD eU _ _ e
   unfold ab at this;omega)
 have YB:(h.ps.zip vs.toArray).foldl (fun tmps (t,a)=>tmps.setIfInBounds t a) tmps=(h.ps.toList.zip vs).foldl (fun t (p:Tmp×Value)=>t.setIfInBounds p.1 p.2) tmps:=by
  rw[<-Array.foldl_toList]
  simp
 refine⟨fn,_,h.assign,h.body,run_yield PL (by simpa using vt),Yw (Ex _ p4) ?_⟩
 simp only[YB]
 generalize(h.ps.toList.zip vs).foldl (fun t (p:Tmp×Value)=>t.setIfInBounds p.1 p.2) tmps=YC at bd hc
 have p3:cl ((c7.dd w b4 M V aA h.cg).bS kR V M w []) (B0 h.ps.toList xs (vr ts++kR)) V M w:=
  ((KL.mv (E':=c7.dd w b4 M V aA h.cg) D D D D D).ly []).my fun l B e=>by
   rw[PG,qA,Yt]at e;exact e
 have J:=aC _ (V.aI L) D D _ w (ei.m (ro:={round:=some (V.aI L),gn:=e0}) ⟨V,M,⟨hc,bd,rfl⟩,p3⟩:mZ {round:=some (V.aI L),gn:=e0} ((c7.dd w b4 M V aA h.cg).bS kR V M w []) _ {tmps:=YC,defers:=[]} w)
 refine wpIn_mono J ?_
 rintro e ca gd (⟨S',⟨rfl,hle⟩,sh⟩|⟨x,Y,_⟩)
 case inr=>cases Y
 obtain⟨hC,nT,vl,mL⟩:=(sh.dB D).fj hle
 have B4:V.aI L∉Bs V kR:=fun aw=>by
  obtain⟨l,aa,he⟩:=qv.1 aw
  exact nZ l aa he
 have PQ:=(mL.b6.block (V.aI L) jB B4).trans PL
 refine⟨_,run_beginRound PQ cy,?_⟩
 have Hf:V.aI L<gd.heap.size:=(Array.getElem?_eq_some_iff.1 PQ).1
 have lV:∀l,di hC ed l->hC.aI l≠V.aI L:=fun l aa he=>by
  rcases mL.dt l aa with W|W
  ·have W:w.heap.size<=hC.aI l:=W
   omega
  ·exact B4 (he▸W)
 have Hg:∀o,nT (V.aI L) o=none:=fun o=>by
  cases aj:nT (V.aI L) o with
  |none=>rfl
  |some u=>
   rcases mL.ea (V.aI L) o (by rw[aj];simp)with W|W|W
   ·exact absurd (vd o) W
   ·have W:w.heap.size<=V.aI L:=W
    omega
   ·exact absurd W B4
 obtain⟨jO,lS⟩:∃x,gd.putObj (V.aI L) (.loop {state:=.busy,pending:=h.fI,fn:=fn,tmps:=tmps,params:=h.ps,assign:=h.assign,body:=h.body,defers:=d})=x:=⟨_,rfl⟩
 have Ah:jO.heap.size=gd.heap.size:=by rw[<-lS];simp
 have Hh:cl (((c7.dd w b4 M V aA h.cg).bS kR V M w []).bS ed hC nT jO []) ed hC nT jO:=lS▸mL.Yq (fb.put (.loop {state:=.busy,pending:=h.fI,fn:=fn,tmps:=tmps,params:=h.ps,assign:=h.assign,body:=h.body,defers:=d}) Hf) lV Hg []
 have W:=ae (((c7.dd w b4 M V aA h.cg).bS kR V M w []).bS ed hC nT jO []) (V.aI L) D D ca jO (ei.m (ro:={round:=some (V.aI L),gn:=e0,gm:=fun x=>X x.1}) ⟨hC,nT,⟨vl.fT,vl.size,vl.defers⟩,Hh⟩)
 show Code.wpIn _ 0 P h.body _ ca (gd.putObj (V.aI L) (.loop {state:=.busy,pending:=h.fI,fn:=fn,tmps:=tmps,params:=h.ps,assign:=h.assign,body:=h.body,defers:=d}))
 rw[lS]
 refine wpIn_mono W ?_
 rintro e a2 pw (⟨S',⟨ti,bJ,lB⟩,k3⟩|⟨x,Y,rfl,k3⟩)
 case inr=>
  obtain⟨lW,M2,B5,yv⟩:=k3.dB rfl
  have pj:cl (.dd w b4 M V aA 0) ed hC nT gd:=KL.comp mL D D D (fun _ h=>h) fun b ae=>qv.1 ae
  have c2:cl (.dd w b4 M V aA 0) ed hC nT jO:=lS▸pj.ys (fb.put (.loop {state:=.busy,pending:=h.fI,fn:=fn,tmps:=tmps,params:=h.ps,assign:=h.assign,body:=h.body,defers:=d}) Hf) lV Hg (.inr He)
  have c3:cl (.dd w b4 M V aA 0) x.2 lW M2 pw:=c2.comp yv D D D (fun _ h=>h) fun b ae=>qv.1 ae
  exact⟨B5.defers,.inr ⟨_,lW,M2,rfl,Y,c3.my fun l B e=>by cases e⟩,Ex _ p4 (Ey _ Y)⟩
 obtain⟨lW,M2,B5,yv⟩:=k3.dB rfl
 have KM:V.aI L∉Bs hC ed:=fun aw=>by
  obtain⟨l,aa,he⟩:=qv.1 aw
  exact lV l aa he
 have PR:=(yv.b6.block (V.aI L) (by show _<jO.heap.size;omega) KM).trans (lS▸World.putObj_heap_same Hf)
 have KN:V.aI L<pw.heap.size:=(Array.getElem?_eq_some_iff.1 PR).1
 have KO:∀l,di lW S' l->lW.aI l≠V.aI L:=fun l aa he=>by
  rcases yv.dt l aa with W|W
  ·have W:jO.heap.size<=lW.aI l:=W
   omega
  ·exact KM (he▸W)
 have PS:∀o,M2 (V.aI L) o=none:=fun o=>by
  cases aj:M2 (V.aI L) o with
  |none=>rfl
  |some u=>
   rcases yv.ea (V.aI L) o (by rw[aj];simp)with W|W|W
   ·exact absurd (Hg o) W
   ·have W:jO.heap.size<=V.aI L:=W
    omega
   ·exact absurd W KM
 have pj:cl (.dd w b4 M V aA 0) ed hC nT gd:=KL.comp mL D D D (fun _ h=>h) fun b ae=>qv.1 ae
 have c2:cl (.dd w b4 M V aA 0) ed hC nT jO:=lS▸pj.ys (fb.put (.loop {state:=.busy,pending:=h.fI,fn:=fn,tmps:=tmps,params:=h.ps,assign:=h.assign,body:=h.body,defers:=d}) Hf) lV Hg (.inr He)
 have c3:cl (.dd w b4 M V aA 0) S' lW M2 pw:=c2.comp yv D D D (fun _ h=>h) fun b ae=>qv.1 ae
 have jM:∀l∈aA,lW.aI l=V.aI l/\lW.bZ l=V.bZ l:=fun l aa=>c3.aA l aa
 have lF:∀st,cl (.dd w b4 M V aA 0) ((G L,.U (.eh {h with st:=st,fI:=fI} ts))::ta) lW M2 (pw.putObj (V.aI L) (.loop {state:=st,pending:=fI,fn:=fn,tmps:=tmps,params:=h.ps,assign:=h.assign,body:=h.body,defers:=d})):=fun st=>by
  have c4:=c3.ys (fb.put (.loop {state:=st,pending:=fI,fn:=fn,tmps:=tmps,params:=h.ps,assign:=h.assign,body:=h.body,defers:=d}) KN) KO PS (.inr He)
  have uv:=jM L Ag
  refine c4.add (L:=L) (B:=.eh {h with st:=st,fI:=fI} ts) (fun l C e b2=>?_) (fun C e=>?_) ?_ (fun l _ aa=>by rw[uv.1];exact KO l aa) (fun o=>by rw[uv.1];exact PS o) (.inr (by rw[uv.1];exact He)) (by rw[uv.1];simpa using KN)
  ·rw[ej,if_neg fun e=>b2 (by unfold G at e;omega)]at e
   exact lB l C e
  ·rw[ej,if_pos rfl]at e
   injection e with e;injection e with e;exact e.symm
  ·refine⟨by rw[uv.2];exact K,fn,tmps,d,by rw[uv.1];exact World.putObj_heap_same KN,⟨cj,p4⟩,fun p Z=>?_⟩
   obtain⟨v,aK,eD⟩:=PM p Z
   exact⟨v,aK,eD.mono c4.dA fun l aa=>jM l (pZ aa (GP l4 Z))⟩
 have mK:∀jump,fI=jump->∃v w',(Instr.endRound (V.aI L) jump).run P pw= .ok v w'/\((∃v1 br bo,Ending.returned v= .returned v1/\bU br bo res v1/\cl (.dd w b4 M V aA 0) ((G L,.U (.eh (h.bQ fI) ts))::ta) br bo w')\/∃bc br bo,Ending.returned v= .panicked bc/\X bc/\cl (.dd w b4 M V aA 0) [] br bo w'):=fun jump az=>by
  subst az
  exact⟨_,_,run_endRound fI PR,.inl ⟨_,lW,M2,rfl,uu ti _ D▸ .d _ _ (.v _),lF _⟩⟩
 cases e with
 |normal=>exact mK none (by simp only[yt,en]at bJ;exact bJ.symm)
 |ret=>exact mK (some .ret) (by simp only[yt,en]at bJ;exact bJ.symm)
 |exit id=>exact mK (some (.exit id)) (by simp only[yt,en]at bJ;exact bJ.symm)
 |goto t=>exact mK (some (.goto t)) (by simp only[yt,en]at bJ;exact bJ.symm)
 |panic bc=>simp[yt]at bJ
 |outgrown=>simp[yt]at bJ
theorem PT{L:Nat}{h:sL}{ts:List (Nat×ai)}{xs:List ai}{kR ta ed:ad}{aA:List Nat}{fI:Option Code}(cy:h.st= .ready)(Y:xs.length=h.ps.size)(fl:h.ps.toList.all (fun p=>Nat.blt p h.cg)=true)
  (eU:vg kR=true) (Hc:qE (fun n=> !Nat.beq n (G L)) kR=true) (gy:hx L aA=true) (l4:BF aA ts=true) (PJ:qE (fun n=> !Nat.beq n (G L)) ta=true)
  (aC:∀(E:c7) (l:Nat),E.aA=aA->E.cg=h.cg->c8 P {round:=some l} E h.assign (B0 h.ps.toList xs (vr ts++kR)) fun e S'=>e= .normal/\ed.le S')
  (ae:∀(E:c7) (l:Nat),E.aA=aA->E.cg=h.cg->c8 P {round:=some l} E h.body ed fun e S'=>yt e=some fI/\∀m B,ta.get (G m)=some (.U B)->S'.get (G m)=some (.U B)):
  Es P L xs ((G L,.U (.eh h ts))::kR) (.d (.v (.bool fI.isNone))) ((G L,.U (.eh (h.bQ fI) ts))::ta) aA:=by
 intro V M w b4 vs hw aq
 have:=PI (P:=P) (φ:=True) (e0:=false) (X:=fun _=>False) (fun _ Hb e=>by rw[e]) (fun _ _ e=>by cases e) (fun _ e=>e.elim) cy Y fl eU Hc gy l4 PJ aC (fun E l J W=>(ae E l J W).mono fun e S h=>⟨trivial,h⟩) V M w b4 vs hw aq
 rw[KI]at this
 obtain⟨fn,tmps,assign,body,J,W⟩:=this
 refine⟨fn,tmps,assign,body,J,W.mono ?_⟩
 rintro e w' (h|⟨_,_,_,_,h,_⟩)
 ·exact h
 ·exact h.elim
def KP(Q:Exit->ad->Prop)(S:ad):Option Code->Prop
 |none=>Q .normal S
 |some .ret=>Q .ret S
 |some (.exit id)=>Q (.exit id) S
 |some (.goto t)=>Q (.goto t) S
 |_=>False
inductive lX(S:ad):List (Nat×ai)->Prop
 |nil:lX S []
 |cons {t:Nat} {x:ai} {r:List (Nat×ai)} (h:S.get (ab t)=some (.aB x)) (k:lX S r):lX S ((t,x)::r)
theorem lX.mem{S:ad}{ts:List (Nat×ai)}(h:lX S ts):∀p∈ts,S.get (ab p.1)=some (.aB p.2):=by
 induction h with
 |nil=>intro p Z;cases Z
 |cons h k aJ=>
  intro p Z
  rcases eb.1 Z with rfl|Z
  ·exact h
  ·exact aJ p Z
theorem KQ{S:ad}{V:cu}{M:Mem}{w:World}(h:cl E S V M w){m:Nat}{x:Option (List Deferred)}(aw:w.heap[m]?=some (.deferred x)):(∀l,di V S l->V.aI l≠m)/\∀o,M m o=none:=by
 refine⟨fun l ⟨⟨B,cP⟩,K⟩ he=>?_,fun o=>?_⟩
 ·have eO:=h.dn l B cP
  cases B with
  |cells cs=>obtain⟨_,vs,t,aW,_⟩:=eO;rw[he,aw]at aW;cases aW
  |data ds=>obtain⟨_,vs,t,aW,_⟩:=eO;rw[he,aw]at aW;cases aW
  |fq n len cs=>obtain⟨_,vs,t,aW,_⟩:=eO;rw[he,aw]at aW;cases aW
  |bG n len cs=>
   obtain⟨_,_,aW⟩:=eO
   split at aW
   ·rename_i h;exact absurd h K
   ·obtain⟨_,vs,t,aW,_⟩:=aW;rw[he,aw]at aW;cases aW
  |eh h' ts=>obtain⟨_,fn,tmps,d,aW,_⟩:=eO;rw[he,aw]at aW;cases aW
  |gR ls cs=>
   have eO:jj V M w l ls cs:=eO
   unfold jj at eO
   replace eO:=eO.2
   split at eO
   ·rename_i h;exact absurd h K
   ·obtain⟨_,vs,t,aW,_⟩:=eO;rw[he,aw]at aW;cases aW
  |tR ks=>obtain⟨_,es,c,aW,_⟩:=eO;rw[he,aw]at aW;cases aW
  |rY cs o=>cases lr.lv eO (by rw[he];exact aw)
  |k2 cs o=>cases lr.lv eO (by rw[he];exact aw)
 ·cases aj:M m o with
  |none=>rfl
  |some u=>have:=h.mem m o u aj;simp[World.cell?,aw]at this
theorem PU{X:List PanicEntry->Prop}{fx:FuncId->Prop}{g:Operand}{ps:Array Tmp}{assign body:Code}{Q:Exit->ad->Prop}{L p5 cg:Nat}{cs:List ai}{ts ts':List (Nat×ai)}{res:ai}{aS a8:ad}{aA new ds:List Nat}{fI:Option Code}{st:LoopState}
  (Ex:∀f,(ja P ro).fn f->fx f) (Ey:∀bc,X bc->ro.gm (bc,[])) (uw:ro.round=none) (px:ro.xS=true) (aM:dK S g=some (.fn p5 cs)) (he:hS P p5=true) (l4:lX S ts) (mf:E.cg=cg)
  (Ai:S.get (G L)=none) (Ez:h7 ⟨[],S,[],[L]⟩ S=true) (Ag:L∉E.aA) (cy:st≠ .busy)
  (an:oG P ro.gn p5 (.iI L::cs) ((G L,.U (.eh ⟨.ready,none,ps,assign,body,cg,fx⟩ ts))::aS) res ((G L,.U (.eh ⟨st,fI,ps,assign,body,cg,fx⟩ ts'))::a8) aA X [])
  (nc:ur ((G L,.U (.eh ⟨.ready,none,ps,assign,body,cg,fx⟩ ts))::S) ((G L,.U (.eh ⟨.ready,none,ps,assign,body,cg,fx⟩ ts))::aS) ((G L,.U (.eh ⟨st,fI,ps,assign,body,cg,fx⟩ ts'))::a8) aA new (G L::ds))
  (Aj:hx L aA=true) (EA:qE (fun n=> !Nat.beq n (G L)) a8=true)
  (EB:h7 ⟨[],S,th (G L::ds) a8,new⟩ S=true) (ux:∀l∈new,l∉E.aA)
  (bA:(∃V M v,bU V M res v)->KP Q (a8++ad.sU ds S) fI):c8 P ro E (.rangeFunc g ps assign body) S Q:=by
 intro a w aE
 obtain⟨ms,bb,J,⟨h0,W⟩,V,M,aC,hw⟩:=aE
 have PV:a8.get (G L)=none:=by
  cases aj:a8.get (G L)with
  |none=>rfl
  |some c=>have:=s7 EA _ (kB aj);simp[ih]at this
 refine wpIn_rangeFunc ?_
 intro fn p4
 have YD:(ja P ro).round=none:=uw
 rw[YD]
 have sb:=Gp (fun s y _ h=>aC.fT s y h) aM
 have BK:Act.eval {a with defers:=E.wu} g=a.eval g:=by cases g<;>rfl
 rw[BK]at sb
 generalize B6:a.eval g=ajk at sb
 cases sb with
 |fn _ _ vs hlen fV=>
  have KR:cl E S V M (w.alloc (.deferred (some []))):=hw.ys (fb.alloc w _) (fun l aa e=>by have:=hw.cE l aa;omega) (fun o=>by
   cases aj:M w.heap.size o with
   |none=>rfl
   |some u=>have:=hw.mem _ _ _ aj;simp[World.cell?]at this) (.inl hw.b6.size)
  obtain⟨si,EC⟩:∃x,w.alloc (.deferred (some []))=x:=⟨_,rfl⟩
  have KS:si.heap.size=w.heap.size+1:=by rw[<-EC];simp
  have PW:si.heap[w.heap.size]?=some (.deferred (some [])):=by rw[<-EC];exact World.alloc_heap_new w _
  have PX:∀m∈ms,si.heap[m]?=some (.deferred (some [])):=fun m aw=>by
   have:=(W m aw).2
   rw[<-EC]
   exact((fb.alloc w _).rf m (fun e=>by have:=(Array.getElem?_eq_some_iff.1 this).1;omega) (Array.getElem?_eq_some_iff.1 this).1).trans this
  rw[EC]at KR
  have Hi:∀n c,S.get n=some c->¬ov c L:=fun n c e=>sN Ez L (by simp) n c e (by simp[cx.jl])
  let hC:=V.set L (w.heap.size+1) (some 0)
  have PY:cl E S hC M si:=KR.Ys _ _ Ai Hi Ag
  have PZ:∀o,M (w.heap.size+1) o=none:=fun o=>by
   cases aj:M (w.heap.size+1) o with
   |none=>rfl
   |some u=>have:=KR.mem _ _ _ aj;simp[World.cell?,<-KS]at this
  let ED:Loop:={state:=.ready,pending:=none,fn:=fn,tmps:=a.tmps,params:=ps,assign:=assign,body:=body,defers:=w.heap.size}
  have u5:fb si (si.alloc (.loop ED)) (w.heap.size+1):=by rw[<-KS];exact fb.alloc si _
  have qC:∀l,di hC S l->hC.aI l≠w.heap.size+1:=fun l aa e=>by have:=PY.cE l aa;omega
  have P0:cl E S hC M (si.alloc (.loop ED)):=PY.ys u5 qC PZ (.inl (by have:=hw.b6.size;omega))
  have P1:(si.alloc (.loop ED)).heap[w.heap.size+1]?=some (.loop ED):=by rw[<-KS];exact World.alloc_heap_new si _
  obtain⟨gd,sa⟩:∃x,si.alloc (.loop ED)=x:=⟨_,rfl⟩
  rw[sa]at P0 P1 u5
  have Ak:hC.aI L=w.heap.size+1:=by simp[hC]
  have KT:∀l,l≠L->hC.aI l=V.aI l/\hC.bZ l=V.bZ l:=fun l aa=>V.kg _ _ aa
  have Hj:cl E ((G L,.U (.eh ⟨.ready,none,ps,assign,body,cg,fx⟩ ts))::S) hC M gd:=by
   refine P0.add (L:=L) (B:=.eh ⟨.ready,none,ps,assign,body,cg,fx⟩ ts) (fun l C e b2=>?_) (fun C e=>?_) ?_ (fun l _ aa=>by rw[Ak];exact qC l aa) (fun o=>by rw[Ak];exact PZ o) (.inl (by rw[Ak];have:=hw.b6.size;omega)) (by rw[Ak];exact u5.lt)
   ·rw[ej,if_neg fun e=>b2 (by unfold G at e;omega)]at e;exact e
   ·rw[ej,if_pos rfl]at e
    injection e with e;injection e with e;exact e.symm
   ·refine⟨by simp[hC],fn,a.tmps,w.heap.size,by rw[Ak];exact P1,⟨aC.size.trans mf,Ex fn p4⟩,fun p Z=>?_⟩
    have iN:=l4.mem p Z
    obtain⟨v,hg,eD⟩:=aC.fT _ _ iN
    exact⟨v,hg,eD.mono (jH M) fun l aa=>KT l fun e=>Hi _ _ iN (e▸aa)⟩
  have P2:jk E ((G L,.U (.eh ⟨.ready,none,ps,assign,body,cg,fx⟩ ts))::S) hC M {a with defers:=E.wu}:=by
   refine⟨fun t x e=>?_,aC.size,rfl⟩
   rw[ej,if_neg (Ne.symm (iz t L))]at e
   obtain⟨v,hg,eD⟩:=aC.fT t x e
   exact⟨v,hg,eD.mono (jH M) fun l aa=>KT l fun jJ=>Hi _ _ e (jJ▸aa)⟩
  have pW:gZ hC M (.iI L::cs) (.func (.yield (w.heap.size+1)) #[] #[]::vs):=⟨by simp[hlen],fun j x y Y ak=>by
   cases j with
   |zero=>
    simp only[List.getElem?_cons_zero,en]at Y ak
    subst Y;subst ak
    rw[<-Ak];exact .iI L
   |succ j=>
    simp only[List.getElem?_cons_succ]at Y ak
    refine(fV j x y Y ak).mono (jH M) fun l aa=>KT l fun e=>?_
    have YE:gK (.fn p5 cs) L:=.fn p5 cs x L (List.mem_of_getElem? Y) (e▸aa)
    cases g with
    |tmp t=>
     simp only[dK]at aM
     split at aM
     ·rename_i z bd
      injection aM with aM;subst aM
      exact Hi _ _ bd YE
     ·cases aM
    |const v=>simp only[dK,en]at aM;cases aM
    |func f=>simp only[dK,en,ai.fn.injEq]at aM;rw[<-aM.2]at Y;simp at Y
    |global k=>simp only[dK,en]at aM;cases aM⟩
  refine⟨w.heap.size+1,[{target:=.collected w.heap.size,args:= #[]}],gd,{target:=.fn (.func p5) vs.toArray,args:= #[.func (.yield (w.heap.size+1)) #[] #[]]},gd,p5,#[.func (.yield (w.heap.size+1)) #[] #[]]++vs.toArray,gd,?_,?_,?_,?_,Bq ro 0,?_⟩
  ·rw[<-sa,<-EC];exact run_enterLoop_outer _ _ _ _ _
  ·simp only[resolve,B6]
   simp[Deferred.ofValue,de,e5,Result.andThen,Act.eval]
  ·exact fun Oe wZ _=>by simp only[Target.leads,en]at wZ;exact wZ▸Ob he
  ·show(callFunc p5 (#[.func (.yield (w.heap.size+1)) #[] #[]]++vs.toArray)).run P gd=_
   exact D0 he _ _
  have P3:=an hC M gd _ _ (PD Hj nc) pW
  have Eh:(Value.func (.yield (w.heap.size+1)) #[] #[]::vs).toArray= #[.func (.yield (w.heap.size+1)) #[] #[]]++vs.toArray:=by simp
  rw[Eh]at P3
  refine(show CallsIn (ja P ro) 0 P _ _ _ _ from P3.mono ?_)
  have P4:∀w' br bo cw,cl (.dd gd (sg hC ((G L,.U (.eh ⟨.ready,none,ps,assign,body,cg,fx⟩ ts))::aS)) M hC aA 0) cw br bo w'->∀m∈w.heap.size::ms,E.iu.heap.size<=m/\w'.heap[m]?=some (.deferred (some [])):=by
   intro w' br bo cw b8 m aw
   have px:si.heap[m]?=some (.deferred (some [])):=by
    rcases eb.1 aw with rfl|aw
    ·exact PW
    ·exact PX m aw
   have mb:=(Array.getElem?_eq_some_iff.1 px).1
   have w0:gd.heap[m]?=some (.deferred (some [])):=(u5.rf m (by omega) mb).trans px
   have YF:=(Array.getElem?_eq_some_iff.1 w0).1
   refine⟨?_,?_⟩
   ·rcases eb.1 aw with rfl|aw
    ·exact hw.b6.size
    ·exact(W m aw).1
   ·refine(b8.b6.block m YF fun Z=>?_).trans w0
    obtain⟨l,aa,_,_,he⟩:=BY nc _ Z
    exact(KQ Hj w0).1 l aa he
  have P5:(w.heap.size::ms).Nodup:=by
   refine List.nodup_cons.2 ⟨fun aw=>?_,h0⟩
   have:=(Array.getElem?_eq_some_iff.1 (W _ aw).2).1
   omega
  rintro e w' (⟨v,br,bo,rfl,eD,b8⟩|⟨bc,br,bo,rfl,w1,b8⟩)
  rotate_left
  ·have YG:ur ((G L,.U (.eh ⟨.ready,none,ps,assign,body,cg,fx⟩ ts))::S) ((G L,.U (.eh ⟨.ready,none,ps,assign,body,cg,fx⟩ ts))::aS) [] aA [] (G L::ds):=
    ⟨nc.sd,fun p Z=>(nomatch Z),nc.qG,nc.U,nc.drop,fun p Z=>(nomatch Z),fun l _ aa=>(nomatch aa),fun p Z=>(nomatch Z),fun l aa=>(nomatch aa)⟩
   obtain⟨fP,dk,nY,_⟩:=KH P2 Hj YG (fun l aa=>(nomatch aa)) (fun l aa=>(nomatch aa)) b8
   exact .inr ⟨(bc,[]),Ey bc w1,rfl,w.heap.size::ms,(fun h=>by rw[px]at h;cases h),by simp[J],⟨P5,P4 w' br bo [] b8⟩,fP,bo,dk.fj (fun n c e=>by cases e),nY.fj fun n c e=>by cases e⟩
  replace bA:=bA ⟨_,_,_,eD⟩
  have P6:=b8.aA L (h6.1 Aj)
  obtain⟨_,KU,KV,KW,wR,_⟩:=b8.dn L (.eh ⟨st,fI,ps,assign,body,cg,fx⟩ ts') (by rw[ej,if_pos rfl])
  have P7:br.aI L=w.heap.size+1:=P6.1.trans Ak
  rw[P7]at wR
  obtain⟨fP,dk,nY,P8⟩:=KH P2 Hj nc (fun l aa n c aj aH aV=>by
   by_cases af:n=G L
   ·subst af;simp at aV
   ·rw[ej,if_neg (Ne.symm af)]at aj
    refine sN EB l aa n c aj fun aw=>?_
    simp only[cx.jl,th,Ea,x0,List.map_append,List.map_map,List.map_reverse,hy,List.mem_map,List.mem_reverse,Function.comp]at aw
    rcases aw with⟨y,ak,rfl⟩|⟨y,ak,rfl⟩
    ·exact aH ak
    ·exact aV (by simp only[List.map_cons,eb,List.mem_map];exact .inr ⟨y,ak,rfl⟩)) ux b8
  have P9:fP.aI L=w.heap.size+1:=(P8 L (by simp[h6.1 Aj])).1.trans P7
  have YH:(ad.eK ((G L,.U (.eh ⟨.ready,none,ps,assign,body,cg,fx⟩ ts))::S) (th (G L::ds) ((G L,.U (.eh ⟨st,fI,ps,assign,body,cg,fx⟩ ts'))::a8))).get (G L)=some (.U (.eh ⟨st,fI,ps,assign,body,cg,fx⟩ ts')):=by
   rw[G7,ej,if_pos rfl]
  have hle:ad.le (a8++ad.sU ds S) (ad.eK ((G L,.U (.eh ⟨.ready,none,ps,assign,body,cg,fx⟩ ts))::S) (th (G L::ds) ((G L,.U (.eh ⟨st,fI,ps,assign,body,cg,fx⟩ ts'))::a8))):=by
   intro n c e
   rw[qA,DS]at e
   rw[G7,ej]
   by_cases af:G L=n
   ·subst af
    rw[PV]at e
    simp only[Ai,ite_self]at e
    cases e
   ·rw[if_neg af]
    cases ae:a8.get n with
    |some gp=>rw[ae]at e;exact e
    |none=>
     rw[ae]at e
     simp only at e⊢
     by_cases aq:n∈ds
     ·rw[if_pos aq]at e;cases e
     ·rw[if_neg aq]at e
      rw[if_neg (by simp[aq,Ne.symm af]),ej,if_neg af];exact e
  have jB:w.heap.size+1<w'.heap.size:=(Array.getElem?_eq_some_iff.1 wR).1
  have Qa:di fP (ad.eK ((G L,.U (.eh ⟨.ready,none,ps,assign,body,cg,fx⟩ ts))::S) (th (G L::ds) ((G L,.U (.eh ⟨st,fI,ps,assign,body,cg,fx⟩ ts'))::a8))) L:=⟨⟨_,YH⟩,by rw[(P8 L (by simp[h6.1 Aj])).2,P6.2];show hC.bZ L≠none;simp[hC]⟩
  have YI:∀l,di fP (a8++ad.sU ds S) l->fP.aI l≠w.heap.size+1:=fun l aa he=>by
   have YJ:l≠L:=fun e=>by
    subst e
    obtain⟨⟨B,cP⟩,_⟩:=aa
    rw[qA,PV,DS,Ai]at cP
    simp at cP
   exact nY.inj l L (aa.fj hle) Qa YJ (he.trans P9.symm)
  have YK:=(nY.fj hle).ys (fb.put (.loop {state:=.exhausted,pending:=fI,fn:=KU,tmps:=KV,params:=ps,assign:=assign,body:=body,defers:=KW}) jB) YI (fun o=>by rw[<-P9];exact nY.dO L Qa o) (.inl (by have:=hw.b6.size;omega))
  have YL:∀m∈w.heap.size::ms,E.iu.heap.size<=m/\(w'.putObj (w.heap.size+1) (.loop {state:=.exhausted,pending:=fI,fn:=KU,tmps:=KV,params:=ps,assign:=assign,body:=body,defers:=KW})).heap[m]?=some (.deferred (some [])):=by
   intro m aw
   obtain⟨eE,eV⟩:=P4 w' br bo _ b8 m aw
   refine⟨eE,?_⟩
   have px:si.heap[m]?=some (.deferred (some [])):=by
    rcases eb.1 aw with rfl|aw
    ·exact PW
    ·exact PX m aw
   have mb:=(Array.getElem?_eq_some_iff.1 px).1
   rw[World.putObj_heap_other (by omega)]
   exact eV
  have Hk:mZ ro E (a8++ad.sU ds S) {a with defers:=[{target:=.collected w.heap.size,args:= #[]}]++a.defers} (w'.putObj (w.heap.size+1) (.loop {state:=.exhausted,pending:=fI,fn:=KU,tmps:=KV,params:=ps,assign:=assign,body:=body,defers:=KW})):=by
   refine⟨w.heap.size::ms,(fun h=>by rw[px]at h;cases h),by simp[J],⟨P5,YL⟩,fP,bo,dk.fj hle,YK⟩
  refine⟨fI,_,run_endLoop wR cy,?_⟩
  cases fI with
  |none=>exact .inl ⟨_,bA,Hk⟩
  |some c=>
   cases c with
   |ret=>exact wpIn_ret (.inl ⟨_,bA,Hk⟩)
   |exit id=>exact wpIn_exit (.inl ⟨_,bA,Hk⟩)
   |goto t=>exact wpIn_goto (.inl ⟨_,bA,Hk⟩)
   |_=>exact bA.elim
theorem c8.YM[jI ro]{g:Operand}{ps:Array Tmp}{assign body:Code}{Q:Exit->ad->Prop}{L p5 cg:Nat}{cs:List ai}{ts ts':List (Nat×ai)}{res:ai}{aS a8:ad}{aA new ds:List Nat}{fI:Option Code}{st:LoopState}
  (uw:ro.round=none) (px:ro.xS=true) (aM:dK S g=some (.fn p5 cs)) (he:hS P p5=true) (l4:lX S ts) (mf:E.cg=cg)
  (Ai:S.get (G L)=none) (Ez:h7 ⟨[],S,[],[L]⟩ S=true) (Ag:L∉E.aA) (cy:st≠ .busy)
  (an:bw P p5 (.iI L::cs) ((G L,.U (.eh ⟨.ready,none,ps,assign,body,cg,fun _=>True⟩ ts))::aS) res ((G L,.U (.eh ⟨st,fI,ps,assign,body,cg,fun _=>True⟩ ts'))::a8) aA)
  (nc:ur ((G L,.U (.eh ⟨.ready,none,ps,assign,body,cg,fun _=>True⟩ ts))::S) ((G L,.U (.eh ⟨.ready,none,ps,assign,body,cg,fun _=>True⟩ ts))::aS) ((G L,.U (.eh ⟨st,fI,ps,assign,body,cg,fun _=>True⟩ ts'))::a8) aA new (G L::ds))
  (Aj:hx L aA=true) (EA:qE (fun n=> !Nat.beq n (G L)) a8=true)
  (EB:h7 ⟨[],S,th (G L::ds) a8,new⟩ S=true) (ux:∀l∈new,l∉E.aA)
  (bA:KP Q (a8++ad.sU ds S) fI):c8 P ro E (.rangeFunc g ps assign body) S Q:=
 PU (X:=fun _=>False) (fx:=fun _=>True) (fun _ _=>trivial) (fun _ h=>h.elim) uw px aM he l4 mf Ai Ez Ag cy (by rw[jI.gn (ro:=ro)];exact an.f) nc Aj EA EB ux fun _=>bA
theorem Qb[jI ro]{g:Operand}{ps:Array Tmp}{assign body:Code}{Q:Exit->ad->Prop}{L p5 cg:Nat}{cs:List ai}{ts ts':List (Nat×ai)}{res:ai}{aS a8:ad}{aA new ds:List Nat}{fI:Option Code}{st:LoopState}
  (uw:ro.round=none) (px:ro.xS=true) (aM:dK S g=some (.fn p5 cs)) (he:hS P p5=true) (l4:lX S ts) (mf:E.cg=cg)
  (Ai:S.get (G L)=none) (Ez:h7 ⟨[],S,[],[L]⟩ S=true) (Ag:L∉E.aA) (cy:st≠ .busy)
  (an:bw P p5 (.iI L::cs) ((G L,.U (.eh ⟨.ready,none,ps,assign,body,cg,fun _=>True⟩ ts))::aS) res ((G L,.U (.eh ⟨st,fI,ps,assign,body,cg,fun _=>True⟩ ts'))::a8) aA)
  (aK:jC ((G L,.U (.eh ⟨.ready,none,ps,assign,body,cg,fun _=>True⟩ ts))::S) ((G L,.U (.eh ⟨.ready,none,ps,assign,body,cg,fun _=>True⟩ ts))::aS))
  (aW:nR ((G L,.U (.eh ⟨.ready,none,ps,assign,body,cg,fun _=>True⟩ ts))::S) ((G L,.U (.eh ⟨.ready,none,ps,assign,body,cg,fun _=>True⟩ ts))::aS) ((G L,.U (.eh ⟨st,fI,ps,assign,body,cg,fun _=>True⟩ ts'))::a8) (.d (.v .nilFunc)) aA new (G L::ds)=true)
  (Aj:hx L aA=true) (EA:qE (fun n=> !Nat.beq n (G L)) a8=true)
  (EB:h7 ⟨[],S,th (G L::ds) a8,new⟩ S=true) (ux:∀l∈new,l∉E.aA)
  (bA:KP Q (a8++ad.sU ds S) fI):c8 P ro E (.rangeFunc g ps assign body) S Q:=
 c8.YM uw px aM he l4 mf Ai Ez Ag cy an (uj aK aW).n Aj EA EB ux bA
theorem KX{F:Fence}{u:FrameMode}(hu:u≠ .run){fn:Func}{tmps:Array Value}{R:Ending->World->Prop}{S:ad}{V:cu}{M:Mem}:∀(ms:List Nat) (w:World),ms.Nodup->(∀m∈ms,E.iu.heap.size<=m/\w.heap[m]?=some (.deferred (some [])))->cl E S V M w->
  (∀w',cl E S V M w'->LeavesIn F 0 P fn tmps R [] u w')->LeavesInM F 0 P fn tmps R (ms.map mark) u w
 |[],w,_,_,hw,h=>h w hw
 |m::ms,w,h0,aw,hw,h=>by
  have nU:=aw m (by simp)
  obtain⟨ti,rA⟩:=KQ hw nU.2
  have mb:=(Array.getElem?_eq_some_iff.1 nU.2).1
  refine⟨hu,.inl ⟨m,_,rfl,run_takeDeferred nU.2,KX hu ms _ (List.nodup_cons.1 h0).2 (fun k K=>?_) (hw.ys (fb.put _ mb) ti rA (.inl nU.1)) h⟩⟩
  refine⟨(aw k (by simp[K])).1,?_⟩
  have b2:k≠m:=fun e=>(List.nodup_cons.1 h0).1 (e▸K)
  rw[World.putObj_heap_other b2]
  exact(aw k (by simp[K])).2
theorem YN{e0:Bool}{X:List PanicEntry->Prop}{f:FuncId}{fn:Func}{c:Code}{args:List ai}{aS a8:ad}{res:ai}{aA:List Nat}{rs:List ResultVar}(bf:P.funcs[f]?=some fn)(ae:fn.body=some c)(mA:fn.results=rs.toArray)
  (af:args.length<=fn.ntmps) (lB:∀n c,aS.get n=some c->n%2=1)
  (h:∀E:c7,E.aA=aA->E.cg=fn.ntmps->c8 P {xS:=true,gn:=e0,gm:=fun x=>X x.1} E c (j2 0 args++aS) fun e S'=>(e= .normal\/e= .ret)/\(∃xs,oD P S' rs xs/\res=kO xs)/\∀l B,a8.get (G l)=some (.U B)->S'.get (G l)=some (.U B)):
  oG P e0 f args aS res a8 aA X []:=by
 intro V M w b4 vs hw aq
 refine callsIn_of_wp_marks bf ae (fun _=>⟨_,bf⟩) ?_ D
 have kF:=wO fn.ntmps af lB hw aq
 have:=h (.dd w b4 M V aA fn.ntmps) D D _ w kF.m
 refine wpIn_mono (show Code.wpIn (wY P e0) 0 P c _ _ _ from this) ?_
 rintro e a w' (⟨S',⟨he,⟨xs,r6,rfl⟩,nO⟩,ki⟩|⟨x,Y,rfl,ki⟩)
 case inr=>
  obtain⟨ms,_,sj,⟨h0,sk⟩,br,bo,ix,b8⟩:=ki
  have sj:a.defers=ms.map mark:=by simpa using sj
  show LeavesInM (wY P e0) 0 P fn a.tmps _ a.defers (.panicking x.1) w'
  rw[sj]
  refine KX (by simp) ms w' h0 sk b8 fun jO lS=>.inr ⟨_,br,bo,rfl,Y,(lS.mv (E':=(.dd w b4 M V aA 0)) D D D D D).my fun l B e=>by cases e⟩
 obtain⟨ms,_,sj,⟨h0,sk⟩,br,bo,ix,b8⟩:=ki
 have sj:a.defers=ms.map mark:=by simpa using sj
 have key:LeavesInM (wY P e0) 0 P fn a.tmps (fun e w'=>(∃v br bo,e= .returned v/\bU br bo (kO xs) v/\cl (.dd w b4 M V aA 0) a8 br bo w')\/∃bc br bo,e= .panicked bc/\X bc/\cl (.dd w b4 M V aA 0) [] br bo w') a.defers .returning w':=by
  rw[sj]
  refine KX (by simp) ms w' h0 sk b8 fun jO lS=>?_
  obtain⟨v,aK,eD⟩:=zK ix lS mA r6
  exact⟨v,aK,.inl ⟨v,br,bo,rfl,eD,(lS.mv (E':=(.dd w b4 M V aA 0)) D D D D D).my nO⟩⟩
 rcases he with rfl|rfl
 ·exact key
 ·exact key
theorem Qc{fn:Func}{tmps:Array Value}{R:Ending->World->Prop}{S:ad}{V:cu}{M:Mem}:∀(ms:List Nat) (w:World),ms.Nodup->(∀m∈ms,E.iu.heap.size<=m/\w.heap[m]?=some (.deferred (some [])))->cl E S V M w->
  (∀w',cl E S V M w'->∃v,(results fn tmps).run P w'= .ok v w'/\R (.returned v) w')->LeavesInM Fence.wide 0 P fn tmps R (ms.map mark) .returning w
 |[],w,_,_,hw,h=>h w hw
 |m::ms,w,h0,aw,hw,h=>by
  have nU:=aw m (by simp)
  obtain⟨ti,rA⟩:=KQ hw nU.2
  have mb:=(Array.getElem?_eq_some_iff.1 nU.2).1
  refine⟨by simp,.inl ⟨m,_,rfl,run_takeDeferred nU.2,Qc ms _ (List.nodup_cons.1 h0).2 (fun k K=>?_) (hw.ys (fb.put _ mb) ti rA (.inl nU.1)) h⟩⟩
  refine⟨(aw k (by simp[K])).1,?_⟩
  have b2:k≠m:=fun e=>(List.nodup_cons.1 h0).1 (e▸K)
  rw[World.putObj_heap_other b2]
  exact(aw k (by simp[K])).2
theorem Qd{f:FuncId}{fn:Func}{c:Code}{args:List ai}{aS a8:ad}{res:ai}{aA:List Nat}{rs:List ResultVar}(bf:P.funcs[f]?=some fn)(ae:fn.body=some c)(mA:fn.results=rs.toArray)
  (af:args.length<=fn.ntmps) (lB:∀n c,aS.get n=some c->n%2=1)
  (h:∀E:c7,E.aA=aA->E.cg=fn.ntmps->c8 P {xS:=true} E c (j2 0 args++aS) fun e S'=>(e= .normal\/e= .ret)/\(∃xs,oD P S' rs xs/\res=kO xs)/\∀l B,a8.get (G l)=some (.U B)->S'.get (G l)=some (.U B)):
  bw P f args aS res a8 aA:=by
 intro V M w b4 vs hw aq
 refine(callsIn_wide (n:=0)).1 (callsIn_of_wp_marks bf ae trivial ?_ D)
 have kF:=wO fn.ntmps af lB hw aq
 have:=h (.dd w b4 M V aA fn.ntmps) D D _ w kF.m
 refine wpIn_mono (xT D this) ?_
 rintro e a w' (⟨S',⟨he,⟨xs,r6,rfl⟩,nO⟩,ki⟩|⟨x,Z,_⟩)
 case inr=>cases Z
 obtain⟨ms,_,sj,⟨h0,sk⟩,br,bo,ix,b8⟩:=ki
 have sj:a.defers=ms.map mark:=by simpa using sj
 have key:LeavesInM Fence.wide 0 P fn a.tmps (fun e w'=>∃v br bo,e= .returned v/\bU br bo (kO xs) v/\cl (.dd w b4 M V aA 0) a8 br bo w') a.defers .returning w':=by
  rw[sj]
  refine Qc ms w' h0 sk b8 fun jO lS=>?_
  obtain⟨v,aK,eD⟩:=zK ix lS mA r6
  exact⟨v,aK,v,br,bo,rfl,eD,(lS.mv (E':=(.dd w b4 M V aA 0)) D D D D D).my nO⟩
 rcases he with rfl|rfl
 ·exact key
 ·exact key
end
section
variable {P:Program} {S:ad} {ro:eR} {ops:Array Oper} {E:c7}
end
section
variable {P:Program} {S:ad} {ro:eR} {ops:Array Oper} {E:c7}
section
variable {x y:Operand} {t t' ty:TypeId} {pos:String} {a6:Array Edge} {bB:Option (Nat×Bool)} {d:Option Nat} {c:Bool}
end
end
section
variable {P:Program} {ro:eR} {ops:Array Oper} {E:c7}
theorem YO{F:Fence}{n:Nat}{dst:Option Tmp}{op:Op}{ty:TypeId}{pos:String}{a6:Array Edge}{bB Qe:Option (Nat×Bool)}{a:Act}{fg:Act->World->Prop}{Q:Exit->Act->World->Prop}(r:Result Next):
  Oper.uponIn F n P ⟨dst,op,ty,pos,a6,bB⟩ a fg Q r=Oper.uponIn F n P ⟨dst,op,ty,pos,a6,Qe⟩ a fg Q r:=by
 cases r with
 |ok o w=>cases o<;>rfl
 |_=>rfl
theorem YP{dst:Option Tmp}{op:Op}{ty:TypeId}{pos:String}{a6:Array Edge}{bB:Nat×Bool}{rn:List Nat}{S:ad}{post:List (Nat×Option dz)}{new gs:List Nat}(h:kA P ro ops ⟨dst,op,ty,pos,a6,none⟩ ⟨rn,S,post,new⟩)
  (fY:mw ops S ⟨dst,op,ty,pos,a6,some bB⟩=some (gs,true)):kA P ro ops ⟨dst,op,ty,pos,a6,some bB⟩ ⟨rn++gs,S,post,new⟩:=by
 intro E T a w an bf dX aE Q gD
 have J:=h E T a w (fun n af=>an n (by simp[af])) bf dX aE Q gD
 obtain⟨V,M,aC,hw⟩:=aE
 have tY:=DO (E:=E) (fun n af=>an n (by simp[af])) fY (fun n af=>af) aC
 unfold lx at*
 rw[if_pos (by simp[Region.wanted])]at J
 rw[if_pos tY]
 refine⟨J.1,?_⟩
 have W:=J.2
 rw[YO (Qe:=some bB)]at W
 exact W
theorem cz{S S':ad}{dst:Option Tmp}{op:Op}{ty:TypeId}{pos:String}{a6:Array Edge}{bB:Nat×Bool}{rn:List Nat}{post:List (Nat×Option dz)}{new gs:List Nat}{r:List Oper}{L:List cx}
  (fY:mw ops S ⟨dst,op,ty,pos,a6,some bB⟩=some (gs,true)) (h:bI P ro ops (⟨dst,op,ty,pos,a6,none⟩::r) S (⟨rn,S,post,new⟩::L) S'):
  bI P ro ops (⟨dst,op,ty,pos,a6,some bB⟩::r) S (⟨rn++gs,S,post,new⟩::L) S':=by
 cases h with
 |cons aC an bf he h=>exact .cons (YP aC fY) (fun _ _=>rfl) bf he h
end
section
variable {P:Program} {S:ad} {ro:eR} {ops:Array Oper} {E:c7}
abbrev KY(v:Value):Prop:=(∀cs,v≠ .agg cs)/\∀cs,v≠ .tuple cs
def qJ{ι:Type}(Φ:ι->Prop)(f:ι->bg):bg:=.any fun M v=>∃i,Φ i/\ey M (f i) v
theorem ld{ι:Type}{Φ:ι->Prop}{f:ι->bg}:∀M v,ey M (qJ Φ f) v->∃i,Φ i/\ey M (f i) v:=fun M v h=>by
 cases h with
 |any _ hv _ hle _ h=>obtain⟨i,hi,aq⟩:=h;exact⟨i,hi,aq.mono hle⟩
theorem yw{ι:Type}{Φ:ι->Prop}{f:ι->bg}{M:Mem}{v:Value}(i:ι)(hi:Φ i)(J:KY v)(h:ey M (f i) v):ey M (qJ Φ f) v:=.any _ M v (jH M) J ⟨i,hi,h⟩
theorem YQ{M:Mem}{n len:Nat}{g:Nat->List bg}{v:Value}(h:ey M (.cK n len g) v):KY v:=by
 cases h with
 |ji _ _ a cap=>exact⟨fun _ e=>(nomatch e),fun _ e=>(nomatch e)⟩
 |cK=>exact⟨fun _ e=>(nomatch e),fun _ e=>(nomatch e)⟩
theorem yx{M:Mem}{u v:Value}(h:ey M (.v u) v):v=u:=by cases h with|v _=>rfl
theorem w2{V:cu}{M:Mem}{x:bg}{v:Value}(h:bU V M (.d x) v):ey M x v:=by cases h with|d _ _ h=>exact h
def j5(x y:bg):Prop:=∀M v,ey M x v->ey M y v
theorem j5.refl(x:bg):j5 x x:=fun _ _ h=>h
theorem j5.trans{x y z:bg}(h:j5 x y)(k:j5 y z):j5 x z:=fun M v e=>k M v (h M v e)
theorem j5.py{ι:Type}{Φ:ι->Prop}{f:ι->bg}{u:Value}(i:ι)(hi:Φ i)(he:f i= .v u)(J:KY u):j5 (.v u) (qJ Φ f):=fun M v h=>by
 have:=yx h;subst this
 exact yw i hi J (he▸h)
theorem j5.tj{ι:Type}{Φ:ι->Prop}{f:ι->bg}{n len:Nat}{g:Nat->List bg}(i:ι)(hi:Φ i)(he:f i= .cK n len g):j5 (.cK n len g) (qJ Φ f):=fun M v h=>yw i hi (YQ h) (he▸h)
theorem j5.gn{ι bZ:Type}{Φ:ι->Prop}{Qf:bZ->Prop}{f:ι->bg}{g:bZ->bg}(h:∀i,Φ i->∃k,Qf k/\j5 (f i) (g k)):j5 (qJ Φ f) (qJ Qf g):=fun M v e=>by
 cases e with
 |any _ hv _ hle J bb=>
  obtain⟨i,hi,aq⟩:=bb
  obtain⟨k,K,jM⟩:=h i hi
  exact .any _ hv v hle J ⟨k,K,jM hv v aq⟩
theorem j5.vu{n:Nat}{g:Nat->List bg}:j5 (.v (.slice none 0 0)) (.cK n 0 g):=fun M v h=>by
 have:=yx h;subst this;exact .ji n g none 0
inductive jP:List bg->List bg->Prop
 |nil:jP [] []
 |cons {x y:bg} {l m:List bg} (h:j5 x y) (t:jP l m):jP (x::l) (y::m)
theorem jP.refl:∀l,jP l l
 |[]=>.nil
 |x::l=>.cons (.refl x) (jP.refl l)
theorem jP.e6{l m:List bg}(h:jP l m):l.length=m.length/\∀(j:Nat) (x y:bg),l[j]?=some x->m[j]?=some y->j5 x y:=by
 induction h with
 |nil=>exact⟨rfl,fun j x y Y=>by simp at Y⟩
 |cons h t aJ=>
  refine⟨by simp[aJ.1],fun j x y Y ak=>?_⟩
  cases j with
  |zero=>simp at Y ak;subst Y;subst ak;exact h
  |succ j=>exact aJ.2 j x y (by simpa using Y) (by simpa using ak)
theorem jP.get{l m:List bg}(h:jP l m){j:Nat}{y:bg}(ak:m[j]?=some y):∃x,l[j]?=some x/\j5 x y:=by
 have az:j<l.length:=by rw[h.e6.1];exact(List.getElem?_eq_some_iff.1 ak).1
 exact⟨_,dx az,h.e6.2 j _ _ (dx az) ak⟩
theorem j5.agg{l m:List bg}(h:jP l m):j5 (.agg l) (.agg m):=fun M v e=>by
 cases e with
 |agg _ vs aa aq=>
  refine .agg m vs (by rw[<-h.e6.1];exact aa) fun j x y Y ak=>?_
  obtain⟨z,bd,EE⟩:=h.get Y
  exact EE M y (aq j z y bd ak)
theorem j5.cK{n len:Nat}{g g':Nat->List bg}(h:∀i,i<len->jP (g i) (g' i)):j5 (.cK n len g) (.cK n len g'):=fun M v e=>by
 cases e with
 |ji _ _ a cap=>exact .ji _ _ a cap
 |cK _ _ _ b o cap aj aa c aw aq=>
  refine .cK n len g' b o cap aj (fun i hi=>by rw[<-(h i hi).e6.1];exact aa i hi) c aw fun i j x hi Y=>?_
  obtain⟨z,bd,EE⟩:=(h i hi).get Y
  exact EE M _ (aq i j z hi bd)
inductive w3:List ai->List ai->Prop
 |nil:w3 [] []
 |cons {x y:ai} {l m:List ai} (h:∀V M v,bU V M x v->bU V M y v) (t:w3 l m):w3 (x::l) (y::m)
theorem iD{x y:bg}(h:j5 x y):∀V M v,bU V M (.d x) v->bU V M (.d y) v:=fun V M v e=>.d _ _ (h M v (w2 e))
theorem w3.e6{l m:List ai}(h:w3 l m):l.length=m.length/\∀(j:Nat) (x y:ai),l[j]?=some x->m[j]?=some y->∀V M v,bU V M x v->bU V M y v:=by
 induction h with
 |nil=>exact⟨rfl,fun j x y Y=>by simp at Y⟩
 |cons h t aJ=>
  refine⟨by simp[aJ.1],fun j x y Y ak=>?_⟩
  cases j with
  |zero=>simp at Y ak;subst Y;subst ak;exact h
  |succ j=>exact aJ.2 j x y (by simpa using Y) (by simpa using ak)
theorem sl{l m:List ai}(h:w3 l m):∀V M v,bU V M (.bE l) v->bU V M (.bE m) v:=fun V M v e=>by
 cases e with
 |bE _ vs aa aq=>
  refine .bE m vs (by rw[<-h.e6.1];exact aa) fun j x y Y ak=>?_
  have az:j<l.length:=by rw[h.e6.1];exact(List.getElem?_eq_some_iff.1 Y).1
  exact h.e6.2 j _ x (dx az) Y V M y (aq j _ y (dx az) ak)
theorem cM{x:ai}:∀V M v,bU V M x v->bU V M x v:=fun _ _ _ h=>h
abbrev bl(B B':cO):Prop:=∀V M w l,gC V M w l B->gC V M w l B'
theorem bl.refl(B:cO):bl B B:=fun _ _ _ _ h=>h
theorem bl.data{l m:List bg}(h:jP l m):bl (.data l) (.data m):=fun V M w b e=>by
 obtain⟨J,vs,t,W,aH,aV⟩:=e
 refine⟨J,vs,t,W,by simp at aH⊢;rw[<-h.e6.1];exact aH,fun j x y Y ak=>?_⟩
 simp only[fJ,Option.map_eq_some_iff]at Y
 obtain⟨JV,Hl,rfl⟩:=Y
 obtain⟨z,bd,EE⟩:=h.get Hl
 exact .d _ _ (EE M y (w2 (aV j (.d z) y (by simp[bd]) ak)))
theorem bl.cells{l m:List ai}(h:w3 l m):bl (.cells l) (.cells m):=fun V M w b e=>by
 obtain⟨J,vs,t,W,aH,aV⟩:=e
 refine⟨J,vs,t,W,by rw[<-h.e6.1];exact aH,fun j x y Y ak=>?_⟩
 have az:j<l.length:=by rw[h.e6.1];exact(List.getElem?_eq_some_iff.1 Y).1
 exact h.e6.2 j _ x (dx az) Y V M y (aV j _ y (dx az) ak)
theorem bl.YR{l:List ai}{m:List bg}(h:w3 l (m.map .d)):bl (.cells l) (.data m):=bl.cells h
theorem bl.YS{l:List bg}{m:List ai}(h:w3 (l.map .d) m):bl (.data l) (.cells m):=bl.cells h
theorem EF{ι:Type}{c:Code}{S:ad}{Q:Exit->ad->Prop}{t:Nat}{x:ai}{Φ:ι->Prop}{y:ι->ai}(an:S.get (ab t)=some (.aB x))(bJ:∀V M v,bU V M x v->∃i,Φ i/\bU V M (y i) v)
  (h:∀i,Φ i->c8 P ro E c ((ab t,.aB (y i))::S) Q):c8 P ro E c S Q:=by
 rintro a w ⟨ms,bb,J,W,V,M,aC,hw⟩
 obtain⟨v,aK,aq⟩:=aC.fT t x an
 obtain⟨i,hi,lA⟩:=bJ V M v aq
 refine h i hi a w ⟨ms,bb,J,W,V,M,⟨fun s z e=>?_,aC.size,aC.defers⟩,hw.my fun l B e=>?_⟩
 ·rw[ej]at e
  by_cases cy:ab t=ab s
  ·rw[if_pos cy]at e
   injection e with e;injection e with e;subst e
   have:=qx cy;subst this
   exact⟨v,aK,lA⟩
  ·rw[if_neg cy]at e;exact aC.fT s z e
 ·rw[ej,if_neg (iz t l)]at e;exact e
theorem iE{ι:Type}{c:Code}{S:ad}{Q:Exit->ad->Prop}{l:Nat}{B:cO}{Φ:ι->Prop}{B':ι->cO}(ae:S.get (G l)=some (.U B))(bJ:∀V M w,gC V M w l B->∃i,Φ i/\gC V M w l (B' i))
  (h:∀i,Φ i->c8 P ro E c ((G l,.U (B' i))::S) Q):c8 P ro E c S Q:=by
 rintro a w ⟨ms,bb,J,W,V,M,aC,hw⟩
 obtain⟨i,hi,cP⟩:=bJ V M w (hw.dn l B ae)
 exact h i hi a w ⟨ms,bb,J,W,V,M,aC.U _ _,hw.ui ae cP⟩
theorem B7{ι:Type}{ds:List bg}{j:Nat}{x:bg}{Φ:ι->Prop}{y:ι->bg}{l:Nat}(az:ds[j]?=some x)(bJ:∀M v,ey M x v->∃i,Φ i/\ey M (y i) v):∀V M w,gC V M w l (.data ds)->∃i,Φ i/\gC V M w l (.data (ds.set j (y i))):=fun V M w e=>by
 obtain⟨J,vs,t,W,aH,aV⟩:=e
 have aG:=(List.getElem?_eq_some_iff.1 az).1
 simp only[l5]at aH
 have Qg:j<vs.size:=by omega
 have aq:=w2 (aV j (.d x) vs[j] (by simp[az]) (by simp[Qg]))
 obtain⟨i,hi,lA⟩:=bJ M _ aq
 refine⟨i,hi,J,vs,t,W,by simpa using aH,fun k z u bd hu=>?_⟩
 by_cases K:j=k
 ·subst K
  simp[aG]at bd
  subst bd
  rw[Array.getElem?_eq_getElem Qg]at hu
  injection hu with hu;subst hu
  exact .d _ _ lA
 ·refine aV k z u ?_ hu
  simpa[List.getElem?_set,K]using bd
theorem EG{ι:Type}{x:bg}{Φ:ι->Prop}{y:ι->bg}(bJ:∀M v,ey M x v->∃i,Φ i/\ey M (y i) v):∀V M v,bU V M (.d x) v->∃i,Φ i/\bU V M (.d (y i)) v:=fun V M v e=>
 let⟨i,hi,h⟩:=bJ M v (w2 e);⟨i,hi,.d _ _ h⟩
abbrev e1(n:Int):Prop:=-9223372036854775808<=n/\n<=9223372036854775807
abbrev fi:bg:=qJ e1 fun n=>.v (.int .i64 n)
abbrev n0:bg:=qJ (fun _:ByteArray=>True) fun s=>.v (.string s)
theorem gG{n:Int}(h:e1 n):j5 (.v (.int .i64 n)) fi:=.py n h D ⟨fun _ e=>(nomatch e),fun _ e=>(nomatch e)⟩
theorem oH{s:ByteArray}:j5 (.v (.string s)) n0:=.py s trivial D ⟨fun _ e=>(nomatch e),fun _ e=>(nomatch e)⟩
end
section
variable {P:Program} {S:ad} {ro:eR} {ops:Array Oper} {E:c7}
def fC(P:Program)(f:FuncId)(args:List ai)(aS:ad)(res:ai)(a8:ad)(aA:List Nat)(X:List PanicEntry->Prop)(cw:ad):Prop:=
 ∀(V:cu) (M:Mem) (w:World) (b4:List Nat) (vs:List Value),cl (.dd w b4 M (V) (aA) 0) aS V M w->gZ V M args vs->
  Calls P f vs.toArray w fun e w'=>(∃v br bo,e= .returned v/\bU br bo res v/\cl (.dd w b4 M (V) (aA) 0) a8 br bo w')\/∃bc br bo,e= .panicked bc/\X bc/\cl (.dd w b4 M (V) (aA) 0) cw br bo w'
theorem fC.f{f:FuncId}{args:List ai}{aS a8:ad}{res:ai}{aA:List Nat}{X:List PanicEntry->Prop}{cw:ad}(h:fC P f args aS res a8 aA X cw):oG P false f args aS res a8 aA X cw:=fun V M w b4 vs hw aq=>by
 rw[KI]
 exact callsIn_wide.2 (h V M w b4 vs hw aq)
theorem oG.x{e:Bool}{f:FuncId}{args:List ai}{aS a8:ad}{res:ai}{aA:List Nat}{X:List PanicEntry->Prop}{cw:ad}(h:oG P e f args aS res a8 aA X cw):fC P f args aS res a8 aA X cw:=fun V M w b4 vs hw aq=>
 (h V M w b4 vs hw aq).calls fun k d aq=>by cases aq
theorem fC.fn{f:FuncId}{args:List ai}{aS a8:ad}{res:ai}{aA:List Nat}{cw:ad}(h:fC P f args aS res a8 aA (fun _=>False) cw):bw P f args aS res a8 aA:=
 fun V M w b4 vs hw aq=>(h V M w b4 vs hw aq).mono fun e w' h=>by
  rcases h with h|⟨_,_,_,_,h,_⟩
  ·exact h
  ·exact h.elim
theorem fC.YT{f:FuncId}{args:List ai}{aS a8:ad}{res:ai}{aA zZ:List Nat}{X:List PanicEntry->Prop}{cw:ad}(h:fC P f args aS res a8 zZ X cw)(K:∀l∈aA,l∈zZ):fC P f args aS res a8 aA X cw:=by
 have less:∀{nL V:cu} {M hv:Mem} {w iu:World} {b4:List Nat} {T:ad},cl (.dd iu b4 hv nL zZ 0) T V M w->cl (.dd iu b4 hv nL aA 0) T V M w:=fun h=>
  {dn:=h.dn,inj:=h.inj,dO:=h.dO,dt:=h.dt,cE:=h.cE,mem:=h.mem,dA:=h.dA,er:=h.er,ea:=h.ea,aA:=fun l aa=>h.aA l (K l aa),b6:=⟨h.b6.os,h.b6.tape,h.b6.output,h.b6.size,h.b6.block⟩}
 intro V M w b4 vs hw aq
 have lS:cl (.dd w b4 M V zZ 0) aS V M w:=
  {dn:=hw.dn,inj:=hw.inj,dO:=hw.dO,dt:=hw.dt,cE:=hw.cE,mem:=hw.mem,dA:=hw.dA,er:=hw.er,ea:=hw.ea,aA:=fun l _=>⟨rfl,rfl⟩,b6:=⟨hw.b6.os,hw.b6.tape,hw.b6.output,hw.b6.size,hw.b6.block⟩}
 refine(h V M w b4 vs lS aq).mono fun e w' h=>?_
 rcases h with⟨v,br,bo,J,W,aH⟩|⟨bc,br,bo,J,W,aH⟩
 ·exact .inl ⟨v,br,bo,J,W,less aH⟩
 ·exact .inr ⟨bc,br,bo,J,W,less aH⟩
theorem Hm{S aY:ad}{a:Act}{w w':World}{V br:cu}{M bo:Mem}{t:Nat}{ds aA new pl:List Nat}{aS a8:ad}{res:ai}{v:Value}(aC:jk E S V M a)(hw:cl E S V M w)(aT:t<E.cg)
  (aW:s9 aY aS a8 res aA new ds) (k7:∀l,l∈pl->di V S l/\G l∈ds)
  (h3:∀l∈new,∀n c,S.get n=some c->n∉(im ds a8 t res).map Prod.fst->¬ov c l) (ux:∀l∈new,l∉E.aA)
  (eD:bU br bo res v) (b8:cl (.dd w (pl.map V.aI) M V aA 0) a8 br bo w'):ei E (S.eK (im ds a8 t res)) (a.put (some t) v) w':=by
 let b4:List Nat:=pl.map V.aI
 have bf:=b8.b6
 let fP:cu:=⟨fun l=>if l∈new then br.aI l else V.aI l,fun l=>if l∈new then br.bZ l else V.bZ l⟩
 have po:∀l,l∉new->fP.aI l=V.aI l/\fP.bZ l=V.bZ l:=fun l aa=>by simp[fP,aa]
 have rr:∀l,l∈new++aA->fP.aI l=br.aI l/\fP.bZ l=br.bZ l:=fun l aa=>by
  by_cases h:l∈new
  ·simp[fP,h]
  ·have K:l∈aA:=by simpa[h]using aa
   have:=b8.aA l K
   simp only[fP,h,if_false]
   exact⟨this.1.symm,this.2.symm⟩
 have Kc:bU fP bo res v:=eD.Ka fun l aa=>rr l (pZ aa aW.res)
 let T:=S.eK (im ds a8 t res)
 have fz:∀n,T.get n=if ab t=n then some (.aB res)else match a8.get n with|some c=>some c|none=>if n∈ds then none else S.get n:=zY S ds a8 t res
 have Ed:∀n c,a8.get n=some c->n%2=1:=fun n c e=>aW.yk _ (kB e)
 have Kd:∀n,n∈(im ds a8 t res).map Prod.fst->n∈ds\/n∈a8.map Prod.fst\/n=ab t:=fun n h=>yj.1 h
 have hold:∀n c,ab t≠n->a8.get n=none->n∉ds->S.get n=some c->∀l,l∈new->¬ov c l:=fun n c J W aH aV l aa=>by
  refine h3 l aa n c aV fun af=>?_
  rcases Kd n af with h|h|h
  ·exact aH h
  ·obtain⟨p,Z,rfl⟩:=List.mem_map.1 h
   have key:∀(B:ad) (p:Nat×dz),p∈B->B.get p.1≠none:=by
    intro B
    induction B with
    |nil=>intro p Z;cases Z
    |cons q r aJ=>
     obtain⟨m,d⟩:=q
     intro p Z b2
     rw[ej]at b2
     by_cases aw:m=p.1
     ·rw[if_pos aw]at b2;cases b2
     ·rw[if_neg aw]at b2
      rcases eb.1 Z with rfl|Z
      ·exact aw D
      ·exact aJ p Z b2
   exact key a8 p Z W
  ·exact J h.symm
 have kj:∀l,di V S l->G l∉ds->V.aI l∉b4:=fun l aa aq Z=>by
  obtain⟨l',e4,he⟩:=List.mem_map.1 Z
  obtain⟨J,W⟩:=k7 l' e4
  have b2:l≠l':=fun e=>aq (e▸W)
  exact hw.inj l l' aa J b2 he.symm
 have ym:∀l B,T.get (G l)=some (.U B)->(a8.get (G l)=some (.U B)/\l∈new++aA)\/(S.get (G l)=some (.U B)/\G l∉ds/\a8.get (G l)=none):=fun l B e=>by
  rw[fz,if_neg (iz t l)]at e
  cases ae:a8.get (G l)with
  |some c=>
   rw[ae]at e
   refine .inl ⟨by rw[<-ae];simpa[ae]using e,?_⟩
   have aw:=kB ae
   have:=aW.tS _ aw
   have bu:G l/2=l:=by unfold G;omega
   simp only[bu]at this
   exact hy.2 this
  |none=>
   rw[ae]at e
   simp only at e
   by_cases aq:G l∈ds
   ·rw[if_pos aq]at e;cases e
   ·rw[if_neg aq]at e;exact .inr ⟨e,aq,rfl⟩
 have vh:∀l B,S.get (G l)=some (.U B)->a8.get (G l)=none->l∉new:=fun l B _ W aa=>by
  have aw:=aW.fL l aa
  obtain⟨p,Z,he⟩:=List.mem_map.1 aw
  have key:∀(B:ad) (p:Nat×dz),p∈B->B.get p.1≠none:=by
   intro B
   induction B with
   |nil=>intro p Z;cases Z
   |cons q r aJ=>
    obtain⟨m,d⟩:=q
    intro p Z b2
    rw[ej]at b2
    by_cases aw:m=p.1
    ·rw[if_pos aw]at b2;cases b2
    ·rw[if_neg aw]at b2
     rcases eb.1 Z with rfl|Z
     ·exact aw D
     ·exact aJ p Z b2
  exact key a8 p Z (he▸W)
 have nA:∀l,di fP T l->(di br a8 l/\fP.aI l=br.aI l)\/(di V S l/\G l∉ds/\fP.aI l=V.aI l):=fun l ⟨⟨B,e⟩,k⟩=>by
  rcases ym l B e with⟨J,W⟩|⟨J,W,aH⟩
  ·have:=rr l W
   exact .inl ⟨⟨⟨B,J⟩,by rw[<-this.2];exact k⟩,this.1⟩
  ·have:=po l (vh l B J aH)
   exact .inr ⟨⟨⟨B,J⟩,by rw[<-this.2];exact k⟩,W,this.1⟩
 have cj:∀l,di br a8 l->w.heap.size<=br.aI l\/br.aI l∈b4:=fun l aa=>b8.dt l aa
 have yn:∀l l',di br a8 l->di V S l'->G l'∉ds->br.aI l≠V.aI l':=fun l l' J W aH e=>by
  rcases cj l J with h|h
  ·have:=hw.cE l' W;omega
  ·exact kj l' W aH (e▸h)
 refine⟨fP,bo,⟨fun s x Y=>?_,by simp[Act.put,aC.size],aC.defers⟩,?_⟩
 ·have Y:T.get (ab s)=some (.aB x):=Y
  rw[fz]at Y
  by_cases cy:t=s
  ·subst cy
   rw[if_pos rfl]at Y
   injection Y with Y;injection Y with Y;subst Y
   exact⟨v,by simp[Act.put,aC.size,aT],Kc⟩
  ·have b2:ab t≠ab s:=fun e=>cy (qx e)
   rw[if_neg b2]at Y
   have ru:a8.get (ab s)=none:=by
    cases ae:a8.get (ab s)with
    |none=>rfl
    |some c=>have:=Ed _ _ ae;unfold ab at this;omega
   rw[ru]at Y
   simp only at Y
   by_cases aq:ab s∈ds
   ·rw[if_pos aq]at Y;cases Y
   ·rw[if_neg aq]at Y
    obtain⟨u,hu,jX⟩:=aC.fT s x Y
    refine⟨u,by simpa[Act.put,wM,cy]using hu,jX.mono b8.dA fun l aa=>po l fun af=>hold (ab s) _ b2 ru aq Y l af aa⟩
 ·exact
  {
   dn:=fun l B e=>by
    rcases ym l B e with⟨J,W⟩|⟨J,W,aH⟩
    ·have aw:=aW.cell _ (kB J)
     exact(b8.dn l B J).lu (jH _) (rr l W) (fun l' e4=>rr l' (by
      cases e4 with
      |cells cs x _ Y jn=>exact pZ jn (sc aw Y)
      |eh h' ts p _ Y jn=>exact pZ jn (GP aw Y)
      |gR ms cs x _ Y jn=>exact pZ jn (sc aw Y)
      |k2 cs o x _ Y jn=>exact pZ jn (sc aw Y))) fun _=>rfl
    ·have BG:=vh l B J aH
     exact(hw.dn l B J).lu b8.dA (po l BG) (fun l' e4=>po l' fun af=>hold (G l) _ (iz t l) aH W J l' af e4) fun K=>bf.block _ (hw.cE l ⟨⟨B,J⟩,K⟩) (kj l ⟨⟨B,J⟩,K⟩ W)
   inj:=fun l l' J W b2=>by
    rcases nA l J with⟨ca,a2⟩|⟨ca,a2,a3⟩
    ·rcases nA l' W with⟨fK,fO⟩|⟨fK,fO,hh⟩
     ·rw[a2,fO];exact b8.inj l l' ca fK b2
     ·rw[a2,hh];exact yn l l' ca fK fO
    ·rcases nA l' W with⟨fK,fO⟩|⟨fK,fO,hh⟩
     ·rw[a3,fO];exact(yn l' l fK ca a2).symm
     ·rw[a3,hh];exact hw.inj l l' ca fK b2
   dO:=fun l J o=>by
    rcases nA l J with⟨ca,a2⟩|⟨ca,a2,a3⟩
    ·rw[a2];exact b8.dO l ca o
    ·rw[a3]
     cases aj:bo (V.aI l) o with
     |none=>rfl
     |some u=>
      rcases b8.ea (V.aI l) o (by rw[aj];simp)with h|h|h
      ·exact absurd (hw.dO l ca o) h
      ·have:=hw.cE l ca
       have h:w.heap.size<=V.aI l:=h
       omega
      ·exact absurd h (kj l ca a2)
   dt:=fun l J=>by
    rcases nA l J with⟨ca,a2⟩|⟨ca,a2,a3⟩
    ·rw[a2]
     rcases cj l ca with h|h
     ·exact .inl (Nat.le_trans hw.b6.size h)
     ·obtain⟨l',e4,he⟩:=List.mem_map.1 h
      rw[<-he]
      exact hw.dt l' (k7 l' e4).1
    ·rw[a3];exact hw.dt l ca
   cE:=fun l J=>by
    rcases nA l J with⟨ca,a2⟩|⟨ca,a2,a3⟩
    ·rw[a2];exact b8.cE l ca
    ·rw[a3];exact Nat.lt_of_lt_of_le (hw.cE l ca) bf.size
   mem:=b8.mem
   dA:=tQ hw.dA b8.dA,er:=hw.er
   ea:=fun b o h=>by
    rcases b8.ea b o h with h|h|h
    ·exact hw.ea b o h
    ·have h:w.heap.size<=b:=h
     exact .inr (.inl (Nat.le_trans hw.b6.size h))
    ·obtain⟨l',e4,he⟩:=List.mem_map.1 h
     rw[<-he]
     rcases hw.dt l' (k7 l' e4).1 with h|h
     ·exact .inr (.inl h)
     ·exact .inr (.inr h)
   aA:=fun l aa=>by
    have af:l∉new:=fun h=>ux l h aa
    have:=po l af
    rw[this.1,this.2]
    exact hw.aA l aa
   b6:=⟨bf.os.trans hw.b6.os,bf.tape.trans hw.b6.tape,bf.output.trans hw.b6.output,Nat.le_trans hw.b6.size bf.size,fun b ae Z=>(bf.block b (Nat.lt_of_lt_of_le ae hw.b6.size) (fun h=>by
    obtain⟨l',e4,he⟩:=List.mem_map.1 h
    rcases hw.dt l' (k7 l' e4).1 with h|h
    ·omega
    ·exact Z (he▸h))).trans (hw.b6.block b ae Z)⟩}
structure Hn(aY aS cw cW:ad)(aA ds:List Nat)(t:Nat):Prop where
 Y:s9 aY aS cw (.bE []) aA [] ds
 cW:∀p∈cW,p.1≠ab t/\(cw.get p.1=some p.2\/(cw.get p.1=none/\p.1∉ds/\aY.get p.1=some p.2))
theorem Qh{cW:ad}{X:List PanicEntry->Prop}{aY:ad}{o:Oper}{t:Nat}{res:ai}{aS a8 cw:ad}{aA new ds:List Nat}(gM:o.dst=some t)(fY:o.guard=none)
  (Er:∀(V:cu) (M:Mem) (a:Act) (w:World) (fg:Act->World->Prop) (Q:Exit->Act->World->Prop),(∀x∈o.op.operands,∀y,cd aY true x y->bU V M y (a.eval x))->cl (.dd w (sg V aS) M V aA 0) aS V M w->
   (∀v br bo w',bU br bo res v->cl (.dd w (sg V aS) M V aA 0) a8 br bo w'->fg (a.put (some t) v) w')->(∀bc br bo w',X bc->cl (.dd w (sg V aS) M V aA 0) cw br bo w'->Q (.panic bc) a w')->o.wpIn (ja P ro) 0 P a w fg Q)
  (aW:s9 aY aS a8 res aA new ds) (Y:Hn aY aS cw cW aA ds t) (Z:∀bc,X bc->ro.gm (bc,cW)):
  kA P ro ops o ⟨cQ o++(gU aS++gU cW),aY,im ds a8 t res,new⟩:=by
 intro E S a w kf h3 dX ⟨V,M,aC,hw⟩ Q gD
 have aT:t<E.cg:=dX.2 t (yj.2 (.inr (.inr D)))
 unfold lx
 rw[if_pos (by simp[Region.wanted,fY])]
 have B6:=(qw (dE:=[]) kf (fun n af=>by simp[af]) (fun l aa=>by cases aa) rfl aC hw:jc E aY o [] true V M a w)
 have iN:∀l B,aS.get (G l)=some (.U B)->S.get (G l)=some (.U B):=fun l B e=>by
  have aw:=kB e
  rw[kf (G l) (by simp only[gU,qF,hy,List.mem_map];exact .inr (.inl ⟨_,aw,rfl⟩))]
  exact aW.qG _ aw
 have cP:∀l,di V aS l->di V S l:=fun l ⟨⟨B,e⟩,k⟩=>⟨⟨B,iN l B e⟩,k⟩
 let pl:List Nat:=(s6 aS).filter fun l=>(V.bZ l).isSome
 let b4:List Nat:=pl.map V.aI
 have k7:∀l,l∈pl->di V S l/\G l∈ds:=fun l aa=>by
  simp only[pl,List.mem_filter,s6,List.mem_map]at aa
  obtain⟨⟨p,Z,rfl⟩,K⟩:=aa
  have Ec:=aW.sd p Z
  have e:G (p.1/2)=p.1:=by unfold G;omega
  obtain⟨B,yl⟩:=aW.U p Z
  have J:=aW.qG p Z
  rw[yl]at J
  rw[e]
  refine⟨⟨⟨B,?_⟩,by cases Y:V.bZ (p.1/2)<;>simp_all⟩,aW.drop p Z⟩
  rw[e,kf p.1 (by simp only[gU,qF,hy,List.mem_map];exact .inr (.inl ⟨p,Z,rfl⟩))]
  exact J
 have nN:cl (.dd w b4 M (V) (aA) 0) aS V M w:=
  {
   dn:=fun l B e=>hw.dn l B (iN l B e),inj:=fun l l' a b=>hw.inj l l' (cP l a) (cP l' b),dO:=fun l a=>hw.dO l (cP l a)
   dt:=fun l a=>.inr (by
    obtain⟨⟨B,e⟩,k⟩:=a
    have aw:=kB e
    simp only[b4,pl,List.mem_map,List.mem_filter,s6]
    exact⟨l,⟨⟨_,aw,by unfold G;omega⟩,by cases Y:V.bZ l<;>simp_all⟩,rfl⟩)
   cE:=fun l a=>hw.cE l (cP l a)
   mem:=hw.mem,dA:=jH M,er:=(hw.xR fun b ae=>by obtain⟨l,aa,rfl⟩:=List.mem_map.1 ae;exact⟨l,(k7 l aa).1,rfl⟩),ea:=fun b o h=>.inl h,aA:=fun l aa=>⟨rfl,rfl⟩,b6:=⟨rfl,rfl,rfl,Nat.le_refl _,fun _ _ _=>rfl⟩}
 refine Er V M a w _ _ B6.ez nN (fun v br bo w' eD b8=>?_) fun bc br bo w' w1 b8=>?_
 ·show ei E _ (a.put (some t) v) w'
  exact Hm aC hw aT aW k7 h3 dX.1 eD b8
 ·obtain⟨lW,M2,J,W⟩:=Hm (v:=.tuple #[]) aC hw aT Y.Y k7 (fun l aa=>by cases aa) (fun l aa=>by cases aa) (.bE [] [] D fun j x y h _=>by simp at h) b8
  have fz:∀n,(S.eK (im ds cw t (.bE []))).get n=if ab t=n then some (.aB (.bE []))else match cw.get n with|some c=>some c|none=>if n∈ds then none else S.get n:=zY S ds cw t (.bE [])
  have hle:∀n c,cW.get n=some c->n≠ab t/\(S.eK (im ds cw t (.bE []))).get n=some c:=fun n c e=>by
   have aw:=kB e
   obtain⟨eE,eV⟩:=Y.cW _ aw
   refine⟨eE,?_⟩
   rw[fz,if_neg (Ne.symm eE)]
   rcases eV with eV|⟨eV,hl,je⟩
   ·simp only at eV;rw[eV]
   ·simp only at eV hl je
    rw[eV]
    simp only[if_neg hl]
    rw[kf n (by simp only[gU,qF,hy,List.mem_map];exact .inr (.inr ⟨_,aw,rfl⟩))]
    exact je
  refine gD _ (Z bc w1) a w' ⟨lW,M2,⟨fun s y e=>?_,aC.size,aC.defers⟩,W.my fun l B e=>(hle _ _ e).2⟩
  obtain⟨eE,eV⟩:=hle _ _ e
  obtain⟨u,hu,jX⟩:=J.fT s y eV
  have b2:t≠s:=fun e=>eE (by rw[e])
  exact⟨u,by simpa[Act.put,wM,b2]using hu,jX⟩
theorem YU{cW:ad}{X:List PanicEntry->Prop}{aY:ad}{o:Oper}{cD:Call}{t:Nat}{g:FuncId}{args:List ai}{res:ai}{aS a8 cw:ad}{aA new ds:List Nat}(bJ:o.op= .call cD)(gM:o.dst=some t)(fY:o.guard=none)
  (hz:jq aY true cD g args) (aM:hS P g=true) (an:oG P ro.gn g args aS res a8 aA X cw) (aW:s9 aY aS a8 res aA new ds) (Y:Hn aY aS cw cW aA ds t) (Z:∀bc,X bc->ro.gm (bc,cW)):
  kA P ro ops o ⟨cQ o++(gU aS++gU cW),aY,im ds a8 t res,new⟩:=by
 refine Qh gM fY (fun V M a w fg Q ha nN K bA=>?_) aW Y Z
 have B6:jc (.dd w [] M V [] 0) aY o [] true V M a w:=⟨ha,(fun l aa=>(nomatch aa)),nN.mem,nN.xQ⟩
 obtain⟨vs,aE,aq⟩:=GA bJ B6 hz aM
 refine⟨VZ bJ B6 hz aM,?_⟩
 rw[Oper.semAt_eq _ _ _ (fun d h=>by rw[bJ]at h;cases h),aE]
 refine⟨Bq ro 0,?_⟩
 refine(show CallsIn (ja P ro) 0 P _ _ _ _ from(an V M w _ vs nN aq).mono ?_)
 rintro e w' (⟨v,br,bo,rfl,eD,b8⟩|⟨bc,br,bo,rfl,w1,b8⟩)
 ·show fg (a.put o.dst v) w'
  rw[gM]
  exact K v br bo w' eD b8
 ·exact bA bc br bo w' w1 b8
def B8(cw cW:ad)(ds:List Nat)(t:Nat):Bool:=qE (fun n=> !Nat.beq n (ab t)&&(hx n (yi cw)|| !hx n ds)) cW
inductive tk(S cw:ad):ad->Prop
 |nil:tk S cw []
 |du {n:Nat} {c:dz} {r:ad} (h:cw.get n=some c) (t:tk S cw r):tk S cw ((n,c)::r)
 |aQ {n:Nat} {c:dz} {r:ad} (bb:cw.get n=none) (h:S.get n=some c) (t:tk S cw r):tk S cw ((n,c)::r)
theorem KZ{S cw cW:ad}(h:tk S cw cW):∀p∈cW,cw.get p.1=some p.2\/(cw.get p.1=none/\S.get p.1=some p.2):=by
 induction h with
 |nil=>intro p Z;cases Z
 |du h t aJ=>
  intro p Z
  rcases eb.1 Z with rfl|Z
  ·exact .inl h
  ·exact aJ p Z
 |aQ bb h t aJ=>
  intro p Z
  rcases eb.1 Z with rfl|Z
  ·exact .inr ⟨bb,h⟩
  ·exact aJ p Z
theorem bI.Qi{aY S':ad}{cD:Call}{ty:TypeId}{pos:String}{a6:Array Edge}{r:List Oper}{L:List cx}{t:Nat}{g:FuncId}{args:List ai}{res:ai}{aS a8 cw cW:ad}{aA:List Nat}{X:List PanicEntry->Prop}(new ds:List Nat)(hz:jq aY true cD g args)(an:oG P ro.gn g args aS res a8 aA X cw)(aM:hS P g=true)
  (aK:jC aY aS) (aW:nR aY aS a8 res aA new ds=true) (uy:nR aY aS cw (.bE []) aA [] ds=true) (hg:tk aY cw cW) (nt:B8 cw cW ds t=true) (Z:∀bc,X bc->ro.gm (bc,cW))
  (bf:h7 ⟨cQ ⟨some t,.call cD,ty,pos,a6,none⟩++(gU aS++gU cW),aY,im ds a8 t res,new⟩ aY=true) (h:bI P ro ops r (aY.s8 ds a8 t res) L S'):
  bI P ro ops (⟨some t,.call cD,ty,pos,a6,none⟩::r) aY (⟨cQ ⟨some t,.call cD,ty,pos,a6,none⟩++(gU aS++gU cW),aY,im ds a8 t res,new⟩::L) S':=by
 refine .cons (YU D D D hz aM an (uj aK aW) ⟨uj aK uy,?_⟩ Z) (fun _ _=>rfl) (sN bf) (Eb _ _ _ _ _) h
 intro p Z
 have J:=s7 nt p Z
 simp only[eL,Bool.not_eq_true',Bool.or_eq_true,ih,decide_eq_false_iff_not]at J
 refine⟨J.1,?_⟩
 have W:=KZ hg p Z
 rcases W with W|⟨W,aH⟩
 ·exact .inl W
 ·refine .inr ⟨W,fun aq=>?_,aH⟩
  rcases J.2 with aV|aV
  ·have aV:=h6.1 aV
   rw[qF]at aV
   obtain⟨q,bA,he⟩:=List.mem_map.1 aV
   have key:∀(B:ad) (p:Nat×dz),p∈B->B.get p.1≠none:=by
    intro B
    induction B with
    |nil=>intro p Z;cases Z
    |cons q r aJ=>
     obtain⟨m,d⟩:=q
     intro p Z b2
     rw[ej]at b2
     by_cases aw:m=p.1
     ·rw[if_pos aw]at b2;cases b2
     ·rw[if_neg aw]at b2
      rcases eb.1 Z with rfl|Z
      ·exact aw D
      ·exact aJ p Z b2
   exact key cw q bA (he▸W)
  ·rw[h6.2 aq]at aV;cases aV
theorem bI.YV{aY S':ad}{cD:Call}{ty:TypeId}{pos:String}{a6:Array Edge}{r:List Oper}{L:List cx}{t:Nat}{rz:Nat}{args:List ai}{res:ai}{aS a8 cw cW:ad}{aA:List Nat}{X:List PanicEntry->Prop}(new ds:List Nat)(hz:Et aY cD rz args)(an:G9 P ro.gn rz args aS res a8 aA X cw)
  (aK:jC aY aS) (aW:nR aY aS a8 res aA new ds=true) (uy:nR aY aS cw (.bE []) aA [] ds=true) (hg:tk aY cw cW) (nt:B8 cw cW ds t=true) (Z:∀bc,X bc->ro.gm (bc,cW))
  (bf:h7 ⟨cQ ⟨some t,.call cD,ty,pos,a6,none⟩++(gU aS++gU cW),aY,im ds a8 t res,new⟩ aY=true) (h:bI P ro ops r (aY.s8 ds a8 t res) L S'):
  bI P ro ops (⟨some t,.call cD,ty,pos,a6,none⟩::r) aY (⟨cQ ⟨some t,.call cD,ty,pos,a6,none⟩++(gU aS++gU cW),aY,im ds a8 t res,new⟩::L) S':=by
 refine .cons (Qh D D (fun V M a w fg Q ha hw K bA=>?_) (uj aK aW) ⟨uj aK uy,?_⟩ Z) (fun _ _=>rfl) (sN bf) (Eb _ _ _ _ _) h
 ·obtain⟨f,BZ,nP,aa,he⟩:=hz.bQ
  have ub:f∈(Op.call cD).operands:=by simp[Op.operands,Call.operands,BZ]
  have J:=ha f ub _ nP
  have pW:gZ V M args (cD.args.toList.map a.eval):=⟨by simpa using aa,fun j x y Y ak=>by
   simp only[fJ,Option.map_eq_some_iff]at ak
   obtain⟨z,bd,rfl⟩:=ak
   have r3:cD.args[j]?=some z:=by simpa using bd
   refine ha z ?_ _ (he j z x r3 Y)
   simp only[Op.operands,Call.operands,Array.mem_append]
   exact .inr (Array.mem_of_getElem? r3)⟩
  generalize aK:a.eval f=v at J
  cases J with
  |iI _=>
   obtain⟨fn,tmps,assign,body,ak,fA⟩:=an V M w _ _ hw pW
   have aE:(execOp a.eval ⟨some t,.call cD,ty,pos,a6,none⟩).run P w= .ok (.round (V.aI rz) fn tmps assign body) w:=by
    have sX:∀f:Operand->Value,(cD.args.toList.map f).toArray=cD.args.map f:=fun f=>by
     rw[<-List.map_toArray,Array.toArray_toList]
    rw[sX]at ak
    generalize a.eval=aI at*
    simp only[execOp,resolve,BZ,aK,Deferred.ofValue,de,e5,Result.andThen,Array.empty_append,invoke]
    first|exact ak|(simp only[Array.append_empty];exact ak)
   refine⟨fun Oe e=>?_,?_⟩
   ·exfalso
    generalize a.eval=aI at*
    simp[Oper.about,resolve,BZ,aK,Deferred.ofValue,e5,Target.leads]at e
   rw[Oper.semAt_eq _ _ _ (fun d h=>by cases h),aE,Oper.uponIn_round]
   refine⟨Bq ro 0,?_⟩
   refine(show RoundIn (ja P ro) 0 P (V.aI rz) fn tmps assign body w _ from fA.mono ?_)
   rintro e w' (⟨v,br,bo,rfl,eD,b8⟩|⟨bc,br,bo,rfl,w1,b8⟩)
   ·exact K v br bo w' eD b8
   ·exact bA bc br bo w' w1 b8
 intro p Z
 have J:=s7 nt p Z
 simp only[eL,Bool.not_eq_true',Bool.or_eq_true,ih,decide_eq_false_iff_not]at J
 refine⟨J.1,?_⟩
 have W:=KZ hg p Z
 rcases W with W|⟨W,aH⟩
 ·exact .inl W
 ·refine .inr ⟨W,fun aq=>?_,aH⟩
  rcases J.2 with aV|aV
  ·have aV:=h6.1 aV
   rw[qF]at aV
   obtain⟨q,bA,he⟩:=List.mem_map.1 aV
   have key:∀(B:ad) (p:Nat×dz),p∈B->B.get p.1≠none:=by
    intro B
    induction B with
    |nil=>intro p Z;cases Z
    |cons q r aJ=>
     obtain⟨m,d⟩:=q
     intro p Z b2
     rw[ej]at b2
     by_cases aw:m=p.1
     ·rw[if_pos aw]at b2;cases b2
     ·rw[if_neg aw]at b2
      rcases eb.1 Z with rfl|Z
      ·exact aw D
      ·exact aJ p Z b2
   exact key cw q bA (he▸W)
  ·rw[h6.2 aq]at aV;cases aV
theorem dH[jI ro]{aY S':ad}{cD:Call}{ty:TypeId}{pos:String}{a6:Array Edge}{r:List Oper}{L:List cx}{t:Nat}{g:FuncId}{args:List ai}{res:ai}{aS a8 cw cW:ad}{aA:List Nat}{X:List PanicEntry->Prop}(new ds:List Nat)(hz:jq aY true cD g args)(an:fC P g args aS res a8 aA X cw)(aM:hS P g=true)
  (aK:jC aY aS) (aW:nR aY aS a8 res aA new ds=true) (uy:nR aY aS cw (.bE []) aA [] ds=true) (hg:tk aY cw cW) (nt:B8 cw cW ds t=true) (Z:∀bc,X bc->ro.gm (bc,cW))
  (bf:h7 ⟨cQ ⟨some t,.call cD,ty,pos,a6,none⟩++(gU aS++gU cW),aY,im ds a8 t res,new⟩ aY=true) (h:bI P ro ops r (aY.s8 ds a8 t res) L S'):
  bI P ro ops (⟨some t,.call cD,ty,pos,a6,none⟩::r) aY (⟨cQ ⟨some t,.call cD,ty,pos,a6,none⟩++(gU aS++gU cW),aY,im ds a8 t res,new⟩::L) S':=
 bI.Qi new ds hz (by rw[jI.gn (ro:=ro)];exact an.f) aM aK aW uy hg nt Z bf h
theorem EH{e0:Bool}{X:List PanicEntry->Prop}{f:FuncId}{fn:Func}{c:Code}{args:List ai}{aS a8 cw:ad}{res:ai}{aA:List Nat}{rs:List ResultVar}(bf:P.funcs[f]?=some fn)(ae:fn.body=some c)(mA:fn.results=rs.toArray)
  (af:args.length<=fn.ntmps) (lB:∀n c,aS.get n=some c->n%2=1)
  (h:∀E:c7,E.aA=aA->E.cg=fn.ntmps->c8 P {gn:=e0,gm:=fun x=>X x.1/\∀l B,cw.get (G l)=some (.U B)->∃dS,x.2.get (G l)=some (.U dS)/\bl dS B} E c (j2 0 args++aS) fun e S'=>(e= .normal\/e= .ret)/\(∃xs,oD P S' rs xs/\∀V M v,bU V M (kO xs) v->bU V M res v)/\∀l B,a8.get (G l)=some (.U B)->∃dS,S'.get (G l)=some (.U dS)/\bl dS B):
  oG P e0 f args aS res a8 aA X cw:=by
 intro V M w b4 vs hw aq
 refine callsIn_of_wp bf ae (fun _=>⟨_,bf⟩) ?_ D
 let E:c7:=(.dd w b4 M (V) (aA) fn.ntmps)
 have kF:ei E (j2 0 args++aS) {tmps:=vs.toArray++Array.replicate (fn.ntmps-vs.toArray.size) undef,defers:=[]} w:=wO fn.ntmps af lB hw aq
 have:=h E D D _ w kF.m
 refine wpIn_mono (show Code.wpIn (wY P e0) 0 P c _ _ _ from this) ?_
 have tl:∀{br bo w' S'} {T:ad},cl E S' br bo w'->(∀l B,T.get (G l)=some (.U B)->∃dS,S'.get (G l)=some (.U dS)/\bl dS B)->cl (.dd w b4 M (V) (aA) 0) T br bo w':=fun{br bo w' S' T} b8 nO=>by
  have aW:∀l,di br T l->di br S' l:=fun l ⟨⟨B,e⟩,k⟩=>let⟨dS,bb,_⟩:=nO l B e;⟨⟨dS,bb⟩,k⟩
  exact
  {
   dn:=fun l B e=>let⟨dS,bb,nC⟩:=nO l B e;nC _ _ _ _ (b8.dn l dS bb)
   inj:=fun l l' a b=>b8.inj l l' (aW l a) (aW l' b),dO:=fun l a=>b8.dO l (aW l a),dt:=fun l a=>b8.dt l (aW l a),cE:=fun l a=>b8.cE l (aW l a)
   mem:=b8.mem,dA:=b8.dA,er:=b8.er,ea:=b8.ea,aA:=b8.aA,b6:=⟨b8.b6.os,b8.b6.tape,b8.b6.output,b8.b6.size,b8.b6.block⟩}
 rintro e a w' (⟨S',⟨he,⟨xs,r6,lT⟩,nO⟩,ki⟩|⟨x,Z,rfl,ki⟩)
 rotate_left
 ·obtain⟨br,bo,ix,b8⟩:=ki.dB rfl
  exact⟨ix.defers,.inr ⟨_,br,bo,rfl,Z.1,tl b8 Z.2⟩⟩
 obtain⟨br,bo,ix,b8⟩:=ki.dB rfl
 obtain⟨v,aK,eD⟩:=zK ix b8 mA r6
 have sP:bodyPost P fn (fun e w'=>(∃v br bo,e= .returned v/\bU br bo res v/\cl (.dd w b4 M (V) (aA) 0) a8 br bo w')\/∃bc br bo,e= .panicked bc/\X bc/\cl (.dd w b4 M (V) (aA) 0) cw br bo w') .normal a w':=
  ⟨ix.defers,v,aK,.inl ⟨v,br,bo,rfl,lT _ _ _ eD,tl b8 nO⟩⟩
 rcases he with rfl|rfl
 ·exact sP
 ·exact sP
theorem YW{X:List PanicEntry->Prop}{f:FuncId}{fn:Func}{c:Code}{args:List ai}{aS a8 cw:ad}{res:ai}{aA:List Nat}{rs:List ResultVar}(bf:P.funcs[f]?=some fn)(ae:fn.body=some c)(mA:fn.results=rs.toArray)
 (af:args.length<=fn.ntmps) (lB:∀n c,aS.get n=some c->n%2=1)
 (h:∀E:c7,E.aA=aA->E.cg=fn.ntmps->c8 P {gm:=fun x=>X x.1/\∀l B,cw.get (G l)=some (.U B)->∃dS,x.2.get (G l)=some (.U dS)/\bl dS B} E c (j2 0 args++aS) fun e S'=>(e= .normal\/e= .ret)/\(∃xs,oD P S' rs xs/\∀V M v,bU V M (kO xs) v->bU V M res v)/\∀l B,a8.get (G l)=some (.U B)->∃dS,S'.get (G l)=some (.U dS)/\bl dS B):
 fC P f args aS res a8 aA X cw:=(EH (e0:=false) bf ae mA af lB h).x
theorem YX{aY cW:ad}{x:Operand}{ty:TypeId}{pos:String}{a6:Array Edge}{d:Option Nat}{u:Value}(t:Nat)(Y:cd aY true x (.d (.v u)))(aK:BH aY cW)(Z:ro.gm ([{v:=u,recovered:=false}],cW))(hu:∀w,(Instr.panic u).run P w= .halt (.panic u) w):
  kA P ro ops ⟨d,.panic x,ty,pos,a6,none⟩ ⟨cQ ⟨d,.panic x,ty,pos,a6,none⟩++gU cW,aY,[(ab t,some (.aB Go.Proofs.YtfgcfofjjiinjaaGreatDoor.kk))],[]⟩:=by
 intro E S a w kf h3 dX ⟨V,M,aC,hw⟩ Q gD
 unfold lx
 rw[if_pos (by simp[Region.wanted])]
 have h:=(qw (dE:=[]) kf (fun n af=>by simp[af]) (fun l aa=>by cases aa) rfl aC hw:jc E aY ⟨d,.panic x,ty,pos,a6,none⟩ [] true V M a w)
 have J:=h.ez x (by simp[Op.operands]) _ Y
 have hg:a.eval x=u:=by
  generalize a.eval x=z at J
  cases J with|d _ _ h=>cases h with|v _=>rfl
 refine⟨Gq D a w,?_⟩
 rw[Oper.semAt_eq _ _ _ fun d h=>by cases h]
 have aE:(execOp a.eval ⟨d,.panic x,ty,pos,a6,none⟩).run P w= .halt (.panic u) w:=by
  simp only[execOp,hg,de,hu]
  rfl
 rw[aE]
 have iL:∀{B:ad},BH aY B->∀p∈B,aY.get p.1=some p.2:=by
  intro B bb
  induction bb with
  |nil=>intro p Z;cases Z
  |cons h t aJ=>
   intro p Z
   rcases eb.1 Z with rfl|Z
   ·exact h
   ·exact aJ p Z
 have hle:cW.le S:=fun n c e=>by
  have aw:=kB e
  rw[kf n (by simp only[gU,qF,hy,List.mem_map];exact .inr ⟨_,aw,rfl⟩)]
  exact iL aK _ aw
 exact gD _ Z a w ⟨V,M,aC.fj hle,hw.fj hle⟩
theorem uz{aY S' cW:ad}{x:Operand}{d:Option Nat}{ty:TypeId}{pos:String}{a6:Array Edge}{r:List Oper}{L:List cx}{k:TypeId}{u:Value}(t:Nat)(Y:cd aY true x (.d (.v (.iface k u))))(aK:BH aY cW)(Z:ro.gm ([{v:=.iface k u,recovered:=false}],cW))
  (h:bI P ro ops r ((ab t,.aB Go.Proofs.YtfgcfofjjiinjaaGreatDoor.kk)::aY) L S'):
  bI P ro ops (⟨d,.panic x,ty,pos,a6,none⟩::r) aY (⟨cQ ⟨d,.panic x,ty,pos,a6,none⟩++gU cW,aY,[(ab t,some (.aB Go.Proofs.YtfgcfofjjiinjaaGreatDoor.kk))],[]⟩::L) S':=
 .cons (YX t Y aK Z (Wv k u)) (fun _ _=>rfl) (fun l aa=>by cases aa) (ra aY _ _) h
theorem YY[jI ro]{aY:ad}{o:Oper}{cD:Call}{t:Nat}{g:FuncId}{args:List ai}{res:ai}{aS:ad}{aA:List Nat}(bJ:o.op= .call cD)(gM:o.dst=some t)(fY:o.guard=none)
  (hz:jq aY true cD g args) (aM:hS P g=true) (an:bw P g args aS res aS aA) (aW:s9 aY aS aS res aA [] (yi aS)):kA P ro ops o ⟨cQ o++gU aS,aY,[(ab t,some (.aB res))],[]⟩:=by
 intro E S a w kf h3 dX aE Q gD
 have h:=OC (P:=P) (ro:=ro) (ops:=ops) bJ gM fY hz aM an aW E S a w kf (fun l aa=>(nomatch aa)) ⟨fun l aa=>(nomatch aa),fun s q9=>by
  rcases yj.1 q9 with h|h|h
  ·rw[qF]at h
   obtain⟨p,Z,he⟩:=List.mem_map.1 h
   have:=aW.sd p Z
   simp only[ab]at he;omega
  ·obtain⟨p,Z,he⟩:=List.mem_map.1 h
   have:=aW.sd p Z
   simp only[ab]at he;omega
  ·exact dX.2 s (by simp[cx.jl,qx h])⟩ aE Q gD
 refine wv (fun a w aE=>aE.fj fun n c e=>?_) h
 rw[pc]at e
 rw[zY]
 by_cases af:ab t=n
 ·rw[if_pos af]at e⊢;exact e
 ·rw[if_neg af]at e⊢
  cases ae:aS.get n with
  |some d=>
   have aw:=kB ae
   have J:=aW.qG _ aw
   have W:=kf n (by simp only[gU,qF,hy,List.mem_map];exact .inr ⟨_,aw,rfl⟩)
   simp only at J
   rw[W,J]at e
   exact e
  |none=>
   simp only
   rw[if_neg]
   ·exact e
   ·rw[qF]
    intro af
    obtain⟨p,Z,he⟩:=List.mem_map.1 af
    have key:∀(B:ad) (p:Nat×dz),p∈B->B.get p.1≠none:=by
     intro B
     induction B with
     |nil=>intro p Z;cases Z
     |cons q r aJ=>
      obtain⟨m,d⟩:=q
      intro p Z b2
      rw[ej]at b2
      by_cases aw:m=p.1
      ·rw[if_pos aw]at b2;cases b2
      ·rw[if_neg aw]at b2
       rcases eb.1 Z with rfl|Z
       ·exact aw D
       ·exact aJ p Z b2
    exact key aS p Z (he▸ae)
theorem kI[jI ro]{aY S':ad}{cD:Call}{ty:TypeId}{pos:String}{a6:Array Edge}{r:List Oper}{L:List cx}{t:Nat}{g:FuncId}{args:List ai}{res:ai}{aS:ad}{aA:List Nat}(hz:jq aY true cD g args)(an:bw P g args aS res aS aA)(aM:hS P g=true)
  (aK:jC aY aS) (aW:nR aY aS aS res aA [] (yi aS)=true) (h:bI P ro ops r ((ab t,.aB res)::aY) L S'):
  bI P ro ops (⟨some t,.call cD,ty,pos,a6,none⟩::r) aY (⟨cQ ⟨some t,.call cD,ty,pos,a6,none⟩++gU aS,aY,[(ab t,some (.aB res))],[]⟩::L) S':=
 .cons (YY D D D hz aM an (uj aK aW)) (fun _ _=>rfl) (fun l aa=>by cases aa) (ra aY _ _) h
theorem eP{σ:Type}{c:Code}{S:ad}{Q:Exit->ad->Prop}(fg:ad)(Inv:σ->ad)(re:σ->Prop)(m:σ->Nat)(r2:σ)(h₀:(Inv r2).le S)(tm:fg.le S)(DP:re r2)
  (round:∀x,re x->c8 P ro E c (Inv x++fg) (zD (fun S'=>∃y,re y/\m y<m x/\(Inv y).le S'/\fg.le S') Q)):c8 P ro E (.loop c) S Q:=by
 have key:∀{A S:ad},A.le S->fg.le S->(A++fg).le S:=fun J W n c e=>by
  rw[qA]at e
  split at e
  ·rename_i d h;exact J n c (h.trans e)
  ·exact W n c e
 refine c8.loop (fun x=>Inv x++fg) re m r2 (key h₀ tm) DP fun x Y=>(round x Y).mono fun e S' q=>?_
 cases e with
 |normal=>obtain⟨y,J,W,aH,aV⟩:=q;exact⟨y,J,W,key aH aV⟩
 |_=>exact q
theorem bl.dT{B B':cO}(h:B=B'):bl B B':=by subst h;exact bl.refl B
theorem YZ{M:Mem}{us:List Value}{v:Value}(h:ey M (.agg (us.map .v)) v):v= .agg us.toArray:=by
 cases h with
 |agg _ vs aa aq=>
  congr 2
  refine List.ext_getElem (by simpa using aa.symm) fun i J W=>?_
  exact yx (aq i (.v us[i]) vs[i] (by simp[W]) (dx J))
theorem Pure.Qj{x:Operand}{ty t:TypeId}{pos:String}{a6:Array Edge}{bB:Option (Nat×Bool)}{d:Option Nat}{c:Bool}{k:TypeDesc}(us:List Value)(hu:P.underlying t=some k)(K:(∀m,k≠ .interface m))(aX:cd S c x (.d (.agg (us.map .v)))):
  Pure P S [] ⟨d,.makeInterface t x,ty,pos,a6,bB⟩ c (.d (.v (.iface t (.agg us.toArray)))):=by
 refine⟨rfl,fun E V M a w h aj=>?_⟩
 have aK:a.eval x= .agg us.toArray:=YZ (w2 (h.ez x (by simp[Op.operands]) _ aX))
 refine⟨.iface t (.agg us.toArray),?_,.d _ _ (.v _)⟩
 generalize a.eval=aI at*
 simp only[execOp,aK,Instr.makeInterface,de,run_underlying hu,Result.andThen]
 cases k<;>first|rfl|exact absurd D (K _)
inductive mM(S:ad):ad->Prop
 |nil:mM S []
 |cons {l:Nat} {B dS:cO} {r:ad} (h:S.get (G l)=some (.U dS)) (e:bl dS B) (t:mM S r):mM S ((G l,.U B)::r)
theorem cI{S aS:ad}(h:mM S aS):∀l B,aS.get (G l)=some (.U B)->∃dS,S.get (G l)=some (.U dS)/\bl dS B:=by
 induction h with
 |nil=>intro l B e;simp[ad.get]at e
 | @cons m eA dS r h e t aJ=>
  intro l B W
  rw[ej]at W
  by_cases aw:G m=G l
  ·rw[if_pos aw]at W
   injection W with W;injection W with W
   subst W
   rw[<-aw]
   exact⟨dS,h,e⟩
  ·rw[if_neg aw]at W;exact aJ l B W
def dI{ι:Type}(P:Program)(f:FuncId)(args:List ai)(aS:ad)(Φ:ι->Prop)(res:ι->ai)(a8:ι->ad)(aA:List Nat)(X:List PanicEntry->Prop)(cw:ad):Prop:=
 ∀(V:cu) (M:Mem) (w:World) (b4:List Nat) (vs:List Value),cl (.dd w b4 M (V) (aA) 0) aS V M w->gZ V M args vs->
  Calls P f vs.toArray w fun e w'=>(∃i v br bo,Φ i/\e= .returned v/\bU br bo (res i) v/\cl (.dd w b4 M (V) (aA) 0) (a8 i) br bo w')\/∃bc br bo,e= .panicked bc/\X bc/\cl (.dd w b4 M (V) (aA) 0) cw br bo w'
theorem dI.one{f:FuncId}{args:List ai}{aS a8:ad}{res:ai}{aA:List Nat}{X:List PanicEntry->Prop}{cw:ad}(h:dI (ι:=Unit) P f args aS (fun _=>True) (fun _=>res) (fun _=>a8) aA X cw):fC P f args aS res a8 aA X cw:=
 fun V M w b4 vs hw aq=>(h V M w b4 vs hw aq).mono fun e w' h=>by
  rcases h with⟨_,v,br,bo,_,h⟩|h
  ·exact .inl ⟨v,br,bo,h⟩
  ·exact .inr h
end
section
variable {P:Program} {S:ad} {ro:eR} {ops:Array Oper} {E:c7}
abbrev Qk(l:List Code)(c:Code):Code:=l.foldr Code.seq c
def B9:Nat->Code->Option (List Code×Code)
 |0,c=>some ([],c)
 |n+1,.seq x y=>(B9 n y).map fun p=>(x::p.1,p.2)
 |_+1,_=>none
theorem Ql:∀{n:Nat} {c:Code} {l:List Code} {r:Code},B9 n c=some (l,r)->c=Qk l r
 |0,c,l,r,h=>by simp only[B9,en,Prod.mk.injEq]at h;obtain⟨rfl,rfl⟩:=h;rfl
 |n+1,c,l,r,h=>by
  cases c with
  |seq x y=>
   simp only[B9,Option.map_eq_some_iff]at h
   obtain⟨⟨l',Al⟩,J,W⟩:=h
   simp only[Prod.mk.injEq]at W
   obtain⟨rfl,rfl⟩:=W
   rw[Ql J];rfl
  |_=>simp[B9]at h
def Ca(P:Program)(ro:eR)(E:c7):List Code->ad->(Exit->ad->Prop)->Prop
 |[],S,Q=>Q .normal S
 |c::r,S,Q=>c8 P ro E c S (zD (fun S'=>Ca P ro E r S' Q) Q)
theorem Ca.run{Q:Exit->ad->Prop}{c:Code}{R:Exit->Act->World->Prop}(af:∀S' a w,Q .normal S'->mZ ro E S' a w->c.wpIn (ja P ro) 0 P R a w)(bJ:∀e a w,e≠ .normal->rb ro E Q e a w->R e a w):
  ∀(l:List Code) (S:ad),Ca P ro E l S Q->∀a w,mZ ro E S a w->(Qk l c).wpIn (ja P ro) 0 P R a w
 |[],S,h,a,w,aE=>af S a w h aE
 |x::l,S,h,a,w,aE=>by
  refine wpIn_seq (wpIn_mono (h a w aE) fun e a w Z=>?_)
  rcases Z with⟨S',q,r⟩|⟨x,Z,rfl,r⟩
  ·cases e with
   |normal=>exact Ca.run af bJ l S' q a w r
   |_=>exact bJ _ a w (by simp) (.inl ⟨S',q,r⟩)
  ·exact bJ _ a w (by simp) (.inr ⟨x,Z,rfl,r⟩)
def qK(l:List (Nat×Nat)):ad:=l.map fun p=>(ab p.1,.aB (.ao p.2 0))
theorem Qm:∀(l:List (Nat×Nat)) (s:Nat) (c:dz),(qK l).get (ab s)=some c->∃lb,(s,lb)∈l/\c= .aB (.ao lb 0)
 |[],s,c,h=>by simp[qK,ad.get]at h
 |p::l,s,c,h=>by
  rw[show qK (p::l)=(ab p.1,.aB (.ao p.2 0))::qK l from rfl,ej]at h
  by_cases e:ab p.1=ab s
  ·rw[if_pos e]at h
   injection h with h
   have:=qx e
   subst this
   exact⟨p.2,.head _,h.symm⟩
  ·rw[if_neg e]at h
   obtain⟨lb,J,W⟩:=Qm l s c h
   exact⟨lb,.tail _ J,W⟩
theorem K0:∀(l:List (Nat×Nat)) (n:Nat),(qK l).get (G n)=none
 |[],n=>rfl
 |p::l,n=>by rw[show qK (p::l)=(ab p.1,.aB (.ao p.2 0))::qK l from rfl,ej,if_neg (iz _ _)];exact K0 l n
abbrev Qn(l:List (Nat×Nat)):List ai:=l.map fun p=>.ao p.2 0
def Fin(P:Program)(rs:List ResultVar)(res:ai)(a8 S':ad):Prop:=
 (∃xs,oD P S' rs xs/\∀V M v,bU V M (kO xs) v->bU V M res v)/\∀l B,a8.get (G l)=some (.U B)->∃dS,S'.get (G l)=some (.U dS)/\bl dS B
def K1{ι:Type}(P:Program)(g:FuncId)(cap kept:List (Nat×Nat))(aA:List Nat)(rs:List ResultVar)(Φ:ι->Prop)(res:ι->ai)(a8:ι->ad)(X:List PanicEntry->Prop)(cw:ad)(u:FrameMode)(B:ad):Prop:=
 u≠ .run/\∃(m:FrameMode) (B':ad),vg B'=true/\nS P g (Qn cap) B B' u m aA/\
  ((settle m= .returning/\∃i,Φ i/\Fin P rs (res i) (a8 i) (qK kept++B'))\/∃bc,settle m= .panicking bc/\X bc/\∀l C,cw.get (G l)=some (.U C)->∃dS,B'.get (G l)=some (.U dS)/\bl dS C)
theorem Y0{B:ad}(h:vg B=true)(s:Nat):B.get (ab s)=none:=by
 cases e:B.get (ab s)with
 |none=>rfl
 |some c=>have:=Ke h _ (kB e);simp only[ab]at this;omega
theorem cl.tl{E E':c7}{S' T:ad}{br:cu}{bo:Mem}{w':World}(b8:cl E S' br bo w')(J:E'.iu=E.iu)(W:E'.b4=E.b4)(aH:E'.hv=E.hv)(K:∀l∈E'.aA,br.aI l=E'.nL.aI l/\br.bZ l=E'.nL.bZ l)
  (nO:∀l B,T.get (G l)=some (.U B)->∃dS,S'.get (G l)=some (.U dS)/\bl dS B):cl E' T br bo w':=by
 have aW:∀l,di br T l->di br S' l:=fun l ⟨⟨B,e⟩,k⟩=>let⟨dS,bb,_⟩:=nO l B e;⟨⟨dS,bb⟩,k⟩
 exact
 {
  dn:=fun l B e=>let⟨dS,bb,nC⟩:=nO l B e;nC _ _ _ _ (b8.dn l dS bb)
  inj:=fun l l' a b=>b8.inj l l' (aW l a) (aW l' b),dO:=fun l a=>b8.dO l (aW l a),dt:=fun l a=>by rw[J,W];exact b8.dt l (aW l a),cE:=fun l a=>b8.cE l (aW l a)
  mem:=b8.mem,dA:=by rw[aH];exact b8.dA
  er:=by rw[J,W,aH];exact b8.er
  ea:=by rw[J,W,aH];exact b8.ea
  aA:=K,b6:=⟨by rw[J];exact b8.b6.os,by rw[J];exact b8.b6.tape,by rw[J];exact b8.b6.output,by rw[J];exact b8.b6.size,by rw[J,W];exact b8.b6.block⟩}
theorem fC.bQ{f:FuncId}{args:List ai}{aS a8 Ho cw:ad}{res Qo:ai}{aA:List Nat}{X:List PanicEntry->Prop}(h:fC P f args aS res a8 aA X cw)(aE:∀V M v,bU V M res v->bU V M Qo v)
  (ae:∀l B,Ho.get (G l)=some (.U B)->∃dS,a8.get (G l)=some (.U dS)/\bl dS B):fC P f args aS Qo Ho aA X cw:=
 fun V M w b4 vs hw aq=>(h V M w b4 vs hw aq).mono fun e w' h=>by
  rcases h with⟨v,br,bo,J,W,aH⟩|h
  ·exact .inl ⟨v,br,bo,J,aE _ _ _ W,aH.tl D D D aH.aA ae⟩
  ·exact .inr h
inductive EI(S:ad):List (Nat×Nat)->Prop
 |nil:EI S []
 |cons {a l:Nat} {r:List (Nat×Nat)} (h:S.get (ab a)=some (.aB (.ao l 0))) (t:EI S r):EI S ((a,l)::r)
theorem Y1{S:ad}{V:cu}{M:Mem}{a:Act}(aC:jk E S V M a){cap:List (Nat×Nat)}(h:EI S cap):(cap.map fun p=>Operand.tmp p.1).map a.eval=cap.map fun p=>.pointer (some ⟨V.aI p.2,0,none⟩):=by
 induction h with
 |nil=>rfl
 | @cons b l r h t aJ=>
  obtain⟨v,aK,eD⟩:=aC.fT _ _ h
  have:v= .pointer (some ⟨V.aI l,0,none⟩):=by cases eD;rfl
  subst this
  simp only[List.map_cons,aJ,List.cons.injEq,and_true]
  simp[Act.eval,Array.getD_eq_getD_getElem?,aK]
theorem Am[jI ro]{ι:Type}{Φ:ι->Prop}{res:ι->ai}{a8:ι->ad}{f g:FuncId}{fn:Func}{c rest:Code}{pre:List Code}{id t k:Nat}{cap kept:List (Nat×Nat)}{ts:Array TypeId}{ty wP:TypeId}{pos pos':String}{a6 wQ:Array Edge}{args:List ai}{aS cw:ad}{aA:List Nat}{X:List PanicEntry->Prop}{rs:List ResultVar}{ed:ad}(φ:Prop)
  (bf:P.funcs[f]?=some fn) (ae:fn.body=some c)
  (jd:B9 k c=some (pre,.seq (.region id #[⟨some t,.makeFunc (.func g) #[] (cap.map fun p=>Operand.tmp p.1).toArray,ty,pos,a6,none⟩,⟨none,.defer ⟨.value (.tmp t),#[],ts⟩,wP,pos',wQ,none⟩] false) rest))
  (mA:fn.results=rs.toArray) (af:args.length<=fn.ntmps) (lB:∀n c,aS.get n=some c->n%2=1) (aT:t<fn.ntmps) (aM:hS P g=true)
  (bb:∀E:c7,E.aA=aA->E.cg=fn.ntmps->Ca P {gm:=fun x=>X x.1/\∀l B,cw.get (G l)=some (.U B)->∃dS,x.2.get (G l)=some (.U dS)/\bl dS B} E pre (j2 0 args++aS) fun e S'=>(e= .normal/\ed.le S'/\φ)\/(e= .ret/\∃i,Φ i/\Fin P rs (res i) (a8 i) S'))
  (l7:EI ed cap) (ud:ed.get (ab t)=none)
  (J:φ->∀E:c7,E.aA=kept.map Prod.snd++aA->E.cg=fn.ntmps->c8 P ro E rest ed fun e S'=>(e= .normal\/e= .ret)/\∃eu,ad.le (qK kept++eu) S'/\K1 P g cap kept (kept.map Prod.snd++aA) rs Φ res a8 X cw .returning eu)
  (An:∀p∈cap,p∈kept)
  (uw:ro.round=none) (px:ro.xS=false) (Y2:∀y,ro.gm y->∃e8,y.2=qK kept++e8/\K1 P g cap kept (kept.map Prod.snd++aA) rs Φ res a8 X cw (.panicking y.1) e8):
  dI P f args aS Φ res a8 aA X cw:=by
 intro V M w b4 vs hw aq
 have aj:=Ql jd
 refine calls_of_wp_defers bf ae ?_
 have kF:=wO (aS:=aS) fn.ntmps af lB hw aq
 generalize dk:({tmps:=vs.toArray++Array.replicate (fn.ntmps-vs.toArray.size) undef,defers:=[]}:Act)=A at kF⊢
 rw[aj]
 let R:Ending->World->Prop:=fun e w'=>(∃i v br bo,Φ i/\e= .returned v/\bU br bo (res i) v/\cl (.dd w b4 M V aA 0) (a8 i) br bo w')\/∃bc br bo,e= .panicked bc/\X bc/\cl (.dd w b4 M V aA 0) cw br bo w'
 refine wpIn_wide.1 (xT (ro:={gm:=fun x=>X x.1/\∀l B,cw.get (G l)=some (.U B)->∃dS,x.2.get (G l)=some (.U dS)/\bl dS B}) D (Ca.run (E:=.dd w b4 M V aA fn.ntmps) (ro:={gm:=fun x=>X x.1/\∀l B,cw.get (G l)=some (.U B)->∃dS,x.2.get (G l)=some (.U dS)/\bl dS B}) (R:=bodyPostD P fn R) ?_ ?_ pre _ (bb _ D D) A w kF.m))
 case refine_2=>
  rintro e a w' b2 (⟨S',bA,ki⟩|⟨x,Z,rfl,ki⟩)
  ·rcases bA with⟨rfl,_⟩|⟨rfl,i,hi,⟨xs,r6,lT⟩,nO⟩
   ·exact absurd D b2
   ·obtain⟨br,bo,ix,b8⟩:=ki.dB rfl
    obtain⟨v,aK,eD⟩:=zK ix b8 mA r6
    show Leaves P fn a.tmps R a.defers .returning w'
    rw[show a.defers=[]from ix.defers]
    exact⟨v,aK,.inl ⟨i,v,br,bo,hi,rfl,lT _ _ _ eD,b8.tl D D D b8.aA nO⟩⟩
  ·obtain⟨br,bo,ix,b8⟩:=ki.dB rfl
   show Leaves P fn a.tmps R a.defers (.panicking x.1) w'
   rw[show a.defers=[]from ix.defers]
   exact .inr ⟨x.1,br,bo,rfl,Z.1,b8.tl D D D b8.aA Z.2⟩
 intro S' ca gd bA ki
 obtain⟨hle,uu⟩:ed.le S'/\φ:=by
  rcases bA with⟨_,h⟩|⟨h,_⟩
  ·exact h
  ·cases h
 have sh:=(ki.dB D).fj hle
 obtain⟨hC,nT,vl,mL⟩:=sh
 have cj:=vl.size
 obtain⟨bV,vt,p6⟩:∃bV:List Value,bV=cap.map (fun p=>.pointer (some ⟨hC.aI p.2,0,none⟩))/\(cap.map fun p=>Operand.tmp p.1).map ca.eval=bV:=by
  exact⟨_,rfl,Y1 vl l7⟩
 refine wpIn_seq (wpIn_region ?_)
 have BK:(execOp ca.eval ⟨some t,.makeFunc (.func g) #[] (cap.map fun p=>Operand.tmp p.1).toArray,ty,pos,a6,none⟩).run P gd= .ok (.value (.func (.func g) #[] bV.toArray)) gd:=by
  simp only[execOp,Instr.makeFunc,List.map_toArray,p6]
  rfl
 have aG:t<ca.tmps.size:=by rw[cj];exact aT
 have eD:(execOp (ca.put (some t) (.func (.func g) #[] bV.toArray)).eval ⟨none,.defer ⟨.value (.tmp t),#[],ts⟩,wP,pos',wQ,none⟩).run P gd= .ok (.defer {target:=.fn (.func g) bV.toArray,args:= #[]}) gd:=by
  have:(ca.put (some t) (.func (.func g) #[] bV.toArray)).eval (.tmp t)= .func (.func g) #[] bV.toArray:=by simp[Act.eval,Act.put,aG]
  simp[execOp,resolve,Deferred.ofValue,this,de,e5,Result.andThen]
 show wpOpsIn _ 0 P _ _ (List.range 2) ca gd
 have bu:List.range 2=[0,1]:=rfl
 rw[bu]
 let Ao:c7:={iu:=w,b4:=b4,hv:=M,nL:=hC,aA:=kept.map Prod.snd++aA,cg:=fn.ntmps,wu:=[{target:=.fn (.func g) bV.toArray,args:= #[]}]}
 have u5:ei Ao ed {(ca.put (some t) (.func (.func g) #[] bV.toArray))with defers:=[{target:=.fn (.func g) bV.toArray,args:= #[]}]} gd:=by
  refine⟨hC,nT,⟨fun s y e=>?_,by simp[Act.put,cj];rfl,rfl⟩,?_⟩
  ·obtain⟨v,aK,eD⟩:=vl.fT s y e
   have cy:t≠s:=fun jJ=>by subst jJ;rw[ud]at e;cases e
   exact⟨v,by simp[Act.put,cy,aK],eD⟩
  ·exact{dn:=mL.dn,inj:=mL.inj,dO:=mL.dO,dt:=mL.dt,cE:=mL.cE,mem:=mL.mem,dA:=mL.dA,er:=mL.er,ea:=mL.ea,aA:=fun l _=>⟨rfl,rfl⟩,b6:=⟨mL.b6.os,mL.b6.tape,mL.b6.output,mL.b6.size,mL.b6.block⟩}
 have vm:=J uu Ao D D _ gd u5.m
 have sj:ca.defers=[]:=vl.defers
 have EJ:wpOpsIn Fence.wide 0 P #[⟨some t,.makeFunc (.func g) #[] (cap.map fun p=>Operand.tmp p.1).toArray,ty,pos,a6,none⟩,⟨none,.defer ⟨.value (.tmp t),#[],ts⟩,wP,pos',wQ,none⟩] (Exit.then (rest.wpIn Fence.wide 0 P (bodyPostD P fn R)) (bodyPostD P fn R)) [0,1] ca gd:=by
  rw[wpOpsIn_cons]
  unfold wpOpIn
  simp only[List.getElem?_toArray,List.getElem?_cons_zero]
  rw[if_pos (by simp[Region.wanted])]
  refine⟨fun f _=>trivial,?_⟩
  rw[Oper.semAt_eq _ _ _ (fun d h=>by cases h),BK]
  rw[Oper.uponIn_value]
  rw[wpOpsIn_cons]
  unfold wpOpIn
  simp only[List.getElem?_toArray,List.getElem?_cons_succ,List.getElem?_cons_zero]
  rw[if_pos (by simp[Region.wanted])]
  refine⟨fun f _=>trivial,?_⟩
  have Y3:Oper.semAt Fence.wide.round (ca.put (some t) (.func (.func g) #[] bV.toArray)).eval ⟨none,.defer ⟨.value (.tmp t),#[],ts⟩,wP,pos',wQ,none⟩=execOp (ca.put (some t) (.func (.func g) #[] bV.toArray)).eval ⟨none,.defer ⟨.value (.tmp t),#[],ts⟩,wP,pos',wQ,none⟩:=Oper.semAt_none _ _
  rw[Y3,eD,Oper.uponIn_defer]
  unfold wpOpsIn
  show rest.wpIn Fence.wide 0 P _ _ _
  have Y4:({(ca.put (some t) (.func (.func g) #[] bV.toArray))with defers:={target:=.fn (.func g) bV.toArray,args:= #[]}::(ca.put (some t) (.func (.func g) #[] bV.toArray)).defers}.put none undef:Act)={(ca.put (some t) (.func (.func g) #[] bV.toArray))with defers:=[{target:=.fn (.func g) bV.toArray,args:= #[]}]}:=by
   simp[Act.put,sj]
  simp only[Y4]
  have Y5:ja P ro=Fence.wide:=by rw[Dy,uw];rfl
  rw[Y5]at vm
  refine wpIn_mono vm ?_
  have mK:∀(u:FrameMode) (B:ad) (gL:Act) (w':World),K1 P g cap kept (kept.map Prod.snd++aA) rs Φ res a8 X cw u B->ei Ao (qK kept++B) gL w'->Leaves P fn gL.tmps R gL.defers u w':=by
   rintro u B gL w' ⟨hu,m,B',Y6,oz,aw⟩ ⟨lW,M2,B5,Hh⟩
   rw[show gL.defers=[{target:=.fn (.func g) bV.toArray,args:= #[]}]from B5.defers]
   have Qp:∀l,l∈kept.map Prod.snd++aA->lW.aI l=hC.aI l/\lW.bZ l=hC.bZ l:=fun l aa=>Hh.aA l aa
   have iN:∀l C,B.get (G l)=some (.U C)->ad.get (qK kept++B) (G l)=some (.U C):=fun l C e=>by rw[qA,K0];exact e
   have Ap:=Hh.my iN
   have fl:cl (.dd w' (Bs lW B) M2 lW (kept.map Prod.snd++aA) 0) B lW M2 w':=
    {
     dn:=Ap.dn,inj:=Ap.inj,dO:=Ap.dO,dt:=fun l aa=>.inr (qv.2 ⟨l,aa,rfl⟩)
     cE:=Ap.cE,mem:=Ap.mem,dA:=jH _,er:=(Ap.xR fun b ae=>qv.1 ae),ea:=fun b o h=>.inl h,aA:=fun l _=>⟨rfl,rfl⟩,b6:=⟨rfl,rfl,rfl,Nat.le_refl _,fun _ _ _=>rfl⟩}
   have pW:gZ lW M2 (Qn cap) bV:=⟨by rw[vt];simp,fun j x y Y ak=>by
    rw[vt]at ak
    simp only[fJ,Option.map_eq_some_iff]at Y ak
    obtain⟨p,Z,rfl⟩:=Y
    obtain⟨q,bA,rfl⟩:=ak
    rw[Z]at bA
    injection bA with bA
    subst bA
    rw[<-(Qp p.2 (List.mem_append_left _ (List.mem_map.2 ⟨p,An p (List.mem_of_getElem? Z),rfl⟩))).1]
    exact .ao _ _⟩
   refine leaves_cons hu (by show(callFunc g (#[]++bV.toArray)).run P w'=_;rw[Array.empty_append,D0 aM]) ?_
   refine(oz lW M2 w' _ bV fl pW).mono ?_
   rintro bu m2 jO ⟨v2,yy,EK,rfl,rfl,yv⟩
   show Leaves P fn gL.tmps _ [] (settle m2) jO
   have Hp:cl Ao B' yy EK jO:=Ap.comp yv D D D (fun _ h=>h) fun b ae=>qv.1 ae
   have kj:∀l∈aA,yy.aI l=V.aI l/\yy.bZ l=V.bZ l:=fun l aa=>by
    have ca:=Hp.aA l (List.mem_append_right _ aa)
    have a2:=mL.aA l aa
    exact⟨ca.1.trans a2.1,ca.2.trans a2.2⟩
   rcases aw with⟨aw,i,hi,⟨xs,r6,Y7⟩,nO⟩|⟨bc,aw,Ey,Qq⟩
   ·rw[aw]
    have Y8:jk Ao (qK kept++B') yy EK {gL with defers:=Ao.wu}:=⟨fun s y e=>by
     rw[qA]at e
     cases K:(qK kept).get (ab s)with
     |some c=>
      rw[K]at e
      simp only[en]at e
      obtain⟨lb,J,W⟩:=Qm kept s c K
      rw[W]at e
      injection e with e
      subst e
      obtain⟨v,aK,eD⟩:=B5.fT s (.ao lb 0) (by rw[qA,K];simp only;rw[W])
      refine⟨v,aK,?_⟩
      cases eD
      have Hq:lb∈kept.map Prod.snd++aA:=List.mem_append_left _ (List.mem_map.2 ⟨_,J,rfl⟩)
      have eE:=(Qp lb Hq).1
      have eV:=(Hp.aA lb Hq).1
      rw[show lW.aI lb=yy.aI lb from eE.trans eV.symm]
      exact .ao lb 0
     |none=>
      rw[K]at e
      simp only at e
      rw[Y0 Y6 s]at e
      exact absurd e (by simp),B5.size,rfl⟩
    have Qr:cl Ao (qK kept++B') yy EK jO:=Hp.my fun l C e=>by rw[qA,K0]at e;exact e
    obtain⟨v,aK,eD⟩:=zK Y8 Qr mA r6
    exact⟨v,aK,.inl ⟨i,v,yy,EK,hi,rfl,Y7 _ _ _ eD,Qr.tl D D D kj nO⟩⟩
   ·rw[aw]
    exact .inr ⟨bc,yy,EK,rfl,Ey,Hp.tl D D D kj Qq⟩
  rintro e gL w' (⟨S',⟨he,eu,hle,hO⟩,aE⟩|⟨y,ak,rfl,aE⟩)
  ·rcases he with rfl|rfl
   ·exact mK .returning eu gL w' hO ((aE.dB px).fj hle)
   ·exact mK .returning eu gL w' hO ((aE.dB px).fj hle)
  ·obtain⟨e8,Y9,hO⟩:=Y2 y ak
   rw[Y9]at aE
   exact mK (.panicking y.1) e8 gL w' hO (aE.dB px)
 rw[show ja P ({gm:=fun x=>X x.1/\∀l B,cw.get (G l)=some (.U B)->∃dS,x.2.get (G l)=some (.U dS)/\bl dS B}:eR)=Fence.wide from Dy]
 exact EJ
end
inductive aR where
 |mk (kind:Int) (name:ByteArray) (index n:Int) (l:List aR)
namespace aR
def kind:aR->Int| .mk k _ _ _ _=>k
def name:aR->ByteArray| .mk _ s _ _ _=>s
def index:aR->Int| .mk _ _ i _ _=>i
def n:aR->Int| .mk _ _ _ n _=>n
def l:aR->List aR| .mk _ _ _ _ l=>l
end aR
instance:Inhabited aR:=⟨.mk 0 ⟨#[]⟩ 0 0 []⟩
mutual
def w4:aR->List bg
 | .mk k s i n l=>[.v (.int .i64 k),.v (.string s),.v (.int .i64 i),.v (.int .i64 n),.cK 5 l.length fun j=>(vv l).getD j []]
def vv:List aR->List (List bg)
 |[]=>[]
 |x::r=>w4 x::vv r
end
abbrev rB(l:List aR):bg:=.cK 5 l.length fun j=>(vv l).getD j []
theorem Hr:∀(l:List aR) (i:Nat) (h:i<l.length),(vv l).getD i []=w4 l[i]
 |x::r,0,h=>by simp[vv]
 |x::r,i+1,h=>by
  have:=Hr r i (by simpa using h)
  simpa[vv]using this
theorem yz(x:aR):w4 x=[.v (.int .i64 x.kind),.v (.string x.name),.v (.int .i64 x.index),.v (.int .i64 x.n),rB x.l]:=by
 cases x;simp[w4,aR.kind,aR.name,aR.index,aR.n,aR.l]
inductive aR.b5:aR->Prop
 |mk {k:Int} {s:ByteArray} {i n:Int} {l:List aR} (K:e1 k) (hi:e1 i) (af:e1 n) (aa:l.length<=4) (h:∀x∈l,x.b5):aR.b5 (.mk k s i n l)
abbrev Cb:bg:=qJ (fun l:List aR=>l.length<=4/\∀x∈l,x.b5) rB
abbrev jt:List bg:=[fi,n0,fi,fi,Cb]
theorem Za{l:List aR}(h:l.length<=4)(dX:∀x∈l,x.b5):j5 (rB l) Cb:=.tj l ⟨h,dX⟩ D
theorem Zb{x:aR}(h:x.b5):jP (w4 x) jt:=by
 cases h with
 |mk K hi af aa h=>
  rw[yz]
  exact .cons (gG K) (.cons oH (.cons (gG hi) (.cons (gG af) (.cons (Za aa h) .nil))))
theorem K2{M:Mem}{c:Nat->Value}(h:∀(j:Nat) (x:bg),jt[j]?=some x->ey M x (c j)):∃x:aR,x.b5/\∀(j:Nat) (y:bg),(w4 x)[j]?=some y->ey M y (c j):=by
 obtain⟨k,K,bb⟩:=ld M _ (h 0 _ D)
 obtain⟨s,_,J⟩:=ld M _ (h 1 _ D)
 obtain⟨i,hi,W⟩:=ld M _ (h 2 _ D)
 obtain⟨n,af,aH⟩:=ld M _ (h 3 _ D)
 obtain⟨l,aa,aV⟩:=ld M _ (h 4 _ D)
 refine⟨.mk k s i n l,.mk K hi af aa.1 aa.2,fun j y ak=>?_⟩
 rw[yz]at ak
 match j with
 |0=>simp at ak;subst ak;exact bb
 |1=>simp at ak;subst ak;exact J
 |2=>simp at ak;subst ak;exact W
 |3=>simp at ak;subst ak;exact aH
 |4=>simp at ak;subst ak;exact aV
 |j+5=>simp at ak
theorem EL{len:Nat}{g:Nat->List bg}(aV:len<=4)(aM:∀i,i<len->jP (g i) jt):j5 (.cK 5 len g) Cb:=fun M v h=>by
 have h:=j5.cK (g':=fun _=>jt) aM M v h
 cases h with
 |ji _ _ a cap=>exact yw [] ⟨Nat.zero_le _,fun x Y=>by cases Y⟩ ⟨fun _ e=>(nomatch e),fun _ e=>(nomatch e)⟩ (.ji _ _ a cap)
 |cK _ _ _ b o cap aj aa c aw aq=>
  have key:∀i,∃x:aR,i<len->x.b5/\∀(j:Nat) (y:bg),(w4 x)[j]?=some y->ey M y (c i j):=fun i=>by
   by_cases hi:i<len
   ·obtain⟨x,Y,aj⟩:=K2 (M:=M) (c:=c i) fun j y ak=>aq i j y hi ak
    exact⟨x,fun _=>⟨Y,aj⟩⟩
   ·exact⟨default,fun h=>absurd h hi⟩
  let f:Nat->aR:=fun i=>(key i).choose
  have bf:∀i,i<len->(f i).b5/\∀(j:Nat) (y:bg),(w4 (f i))[j]?=some y->ey M y (c i j):=fun i hi=>(key i).choose_spec hi
  have hlen:((List.range len).map f).length=len:=by simp
  have Hs:∀i,i<len->(vv ((List.range len).map f)).getD i []=w4 (f i):=fun i hi=>by
   rw[Hr _ i (by simpa using hi)];simp
  refine yw ((List.range len).map f) ⟨by simpa using aV,fun x Y=>?_⟩ ⟨fun _ e=>(nomatch e),fun _ e=>(nomatch e)⟩ ?_
  ·obtain⟨i,hi,rfl⟩:=List.mem_map.1 Y
   exact(bf i (List.mem_range.1 hi)).1
  ·unfold rB
   rw[hlen]
   refine .cK 5 len _ b o cap aj (fun i hi=>by rw[Hs i hi,yz];rfl) c aw fun i j y hi ak=>?_
   rw[Hs i hi]at ak
   exact(bf i hi).2 j y ak
theorem Pure.Ht{P:Program}{S:ad}{k:IntKind}{m:Int}{x:Operand}{t ty:TypeId}{pos:String}{a6:Array Edge}{bB:Option (Nat×Bool)}{d:Option Nat}{c:Bool}(aX:cd S c x (aF k m)):Pure P S [] ⟨d,.unOp .neg t x,ty,pos,a6,bB⟩ c (aF k (k.wrap (0-m))):=by
 refine⟨rfl,fun E V M a w h aj=>?_⟩
 have J:=h.val (by simp[Op.operands]) aX
 generalize a.eval=aI at*
 refine⟨_,?_,.d _ _ (.v _)⟩
 simp[execOp,J,Op.unary,Op.intArith,go_sem]
section
inductive gz where
 |i (n:Int)
 |s (b:ByteArray)
 deriving DecidableEq
def gz.v:gz->Value
 | .i n=>.int .i64 n
 | .s b=>.string b
abbrev EM(l:List gz):bg:=.agg (l.map fun x=>.v x.v)
def n1(l:List gz):Value:=.agg (l.map gz.v).toArray
def gz.j3:gz->Bool
 | .i _=>false
 | .s _=>true
theorem gz.Zc{a b:gz}(h:a.v=b.v):a=b:=by
 cases a<;>cases b<;>simp[gz.v]at h<;>simp[h]
theorem Qs{a b:List gz}(h:n1 a=n1 b):a=b:=by
 unfold n1 at h
 injection h with h
 injection h with h
 exact(List.map_inj_right fun x y e=>gz.Zc e).1 h
theorem Zd{M:Mem}{k:List gz}{v:Value}(h:ey M (EM k) v):v=n1 k:=by
 cases h with
 |agg _ vs aa h=>
  unfold n1
  congr 2
  simp only[l5]at aa
  refine List.ext_getElem (by simp[aa]) fun j J W=>?_
  have az:j<k.length:=by omega
  have:=h j (.v k[j].v) vs[j] (by simp[az]) (by simp[J])
  rw[yx this]
  simp
def tn(P:Program)(e:TypeId)(j3:Bool):Bool:=match P.underlying e with
 |some (.int .i64)=> !j3
 |some .string=>j3
 |_=>false
def w5(P:Program):List Field->List Bool->Nat->Bool
 |[],[],_=>true
 |f::fw,b::bs,i=>f.name != "_" &&Nat.beq f.offset i&&tn P f.type b&&w5 P fw bs (i+1)
 |_,_,_=>false
def Hu(b:Bool):List Bool->Bool
 |[]=>true
 |c::r=>(c==b)&&Hu b r
def w6(P:Program)(t:TypeId)(bs:List Bool):Bool:=(match P.underlying t with
 |some (.struct fw)=>w5 P fw.toList bs 0&& !P.stoodInHeld t
 |some (.array n e)=>Nat.beq n bs.length&&(match bs with|[]=>true|b::_=>tn P e b&&Hu b bs)&&(match P.info? e with|some i=>Nat.beq i.size 1|none=>false)
 |_=>false)&& !P.eqGuardType P.depth t
theorem Cc{P:Program}{e:TypeId}{b:Bool}(h:tn P e b=true){xs:Array Value}{off:Nat}{v:Value}{w:World}(Y:xs[off]?=some v):(part e xs off).run P w= .ok v w:=by
 have:(isAgg e).run P w= .ok false w:=by
  unfold tn at h
  split at h
  ·rename_i hu;simp[isAgg,run_underlying hu]
  ·rename_i hu;simp[isAgg,run_underlying hu]
  ·cases h
 simp[part,de,this,Y]
theorem Ze{a b:ByteArray}:(a.toList==b.toList)=decide (a=b):=by
 rw[Bool.eq_iff_iff]
 simp only[ByteArray.toList_eq,beq_iff_eq,decide_eq_true_eq]
 constructor
 ·intro h;cases a;cases b;simp at h;simp[h]
 ·rintro rfl;rfl
theorem Qt{P:Program}{e:TypeId}{x y:gz}(h:tn P e x.j3=true)(an:x.j3=y.j3)(d:Nat)(w:World):(Op.equalIn (d+1) e x.v y.v).run P w= .ok (decide (x=y)) w:=by
 cases x with
 |i n=>
  cases y with
  |i m=>
   simp only[gz.j3]at h
   have hu:P.underlying e=some (.int .i64):=by
    unfold tn at h
    split at h
    ·assumption
    ·cases h
    ·cases h
   show(Op.equalIn (d+1) e (.int .i64 n) (.int .i64 m)).run P w=_
   rw[run_equalIn_int w d e .i64 .i64 n m hu]
   simp only[gz.i.injEq];rfl
  |s b=>cases an
 |s a=>
  cases y with
  |i m=>cases an
  |s b=>
   simp only[gz.j3]at h
   have hu:P.underlying e=some .string:=by
    unfold tn at h
    split at h
    ·cases h
    ·assumption
    ·cases h
   show(Op.equalIn (d+1) e (.string a) (.string b)).run P w=_
   rw[run_equalIn_string w d e a b hu,Ze]
   simp only[gz.s.injEq]
theorem Qu{P:Program}(d:Nat)(w:World):∀(fw:List Field) (i:Nat) (ks ls:List gz) (xs hj:Array Value),w5 P fw (ks.map gz.j3) i=true->ks.map gz.j3=ls.map gz.j3->
  (∀j,j<ks.length->xs[i+j]?=(ks[j]?).map gz.v)->(∀j,j<ls.length->hj[i+j]?=(ls[j]?).map gz.v)->(Op.eqFields (d+1) xs hj fw).run P w= .ok (decide (ks=ls)) w
 |[],_,[],ls,_,_,_,an,_,_=>by
  have:ls=[]:=by simpa using an.symm
  subst this;simp[Op.eqFields]
 |[],_,k::ks,_,_,_,h,_,_,_=>by simp[w5]at h
 |f::fw,_,[],_,_,_,h,_,_,_=>by simp[w5]at h
 |f::fw,i,k::ks,[],_,_,_,an,_,_=>by simp at an
 |f::fw,i,k::ks,l::ls,xs,hj,h,an,Y,ak=>by
  simp only[List.map_cons,w5,eL,bne_iff_ne]at h
  obtain⟨⟨⟨J,W⟩,aH⟩,aV⟩:=h
  have W:=kN W
  simp only[List.map_cons,List.cons.injEq]at an
  have vw:(part f.type xs f.offset).run P w= .ok k.v w:=Cc aH (by rw[W];simpa using Y 0 (by simp))
  have Cd:(part f.type hj f.offset).run P w= .ok l.v w:=Cc aH (by rw[W];simpa using ak 0 (by simp))
  have aJ:=Qu d w fw (i+1) ks ls xs hj aV an.2 (fun j az=>by have:=Y (j+1) (by simpa using az);rw[show i+1+j=i+(j+1) by omega];simpa using this) fun j az=>by have:=ak (j+1) (by simpa using az);rw[show i+1+j=i+(j+1) by omega];simpa using this
  simp only[Op.eqFields,J,ne_eq,not_false_eq_true,if_true,de,vw,Cd,Qt aH an.1,Result.andThen_ok]
  by_cases iA:k=l
  ·subst iA
   simp only[decide_true,Bool.not_true,Bool.false_eq_true,if_false,aJ,List.cons.injEq,true_and]
  ·simp[iA]
theorem Qv{P:Program}{e:TypeId}{b:Bool}(he:tn P e b=true)(d:Nat)(w:World)(ks ls:List gz)(K:∀x∈ks,x.j3=b)(aa:∀x∈ls,x.j3=b):∀is:List Nat,(∀i∈is,i<ks.length/\i<ls.length)->
  (Op.eqItems (d+1) e 1 (ks.map gz.v).toArray (ls.map gz.v).toArray is).run P w= .ok (is.all fun i=>decide (ks[i]?=ls[i]?)) w
 |[],_=>by simp[Op.eqItems]
 |i::is,h=>by
  obtain⟨J,W⟩:=h i (by simp)
  have vw:(part e (ks.map gz.v).toArray (i*1)).run P w= .ok (ks[i]).v w:=Cc he (by simp[J])
  have Cd:(part e (ls.map gz.v).toArray (i*1)).run P w= .ok (ls[i]).v w:=Cc he (by simp[W])
  have Qw:=K ks[i] (List.getElem_mem J)
  have vk:=aa ls[i] (List.getElem_mem W)
  simp only[Op.eqItems,de,vw,Cd,Result.andThen_ok,Qt (x:=ks[i]) (y:=ls[i]) (by rw[Qw];exact he) (by rw[Qw,vk]),List.all_cons,dx J,dx W,en]
  by_cases iA:ks[i]=ls[i]
  ·simp only[iA,decide_true,Bool.not_true,Bool.false_eq_true,if_false,Bool.true_and]
   exact Qv he d w ks ls K aa is fun j az=>h j (by simp[az])
  ·simp[iA]
theorem Qx{b:Bool}:∀{l:List Bool},Hu b l=true->∀c∈l,c=b
 |[],_,c,aj=>by cases aj
 |c::r,h,x,Y=>by
  simp only[Hu,eL,beq_iff_eq]at h
  rcases eb.1 Y with rfl|Y
  ·exact h.1
  ·exact Qx h.2 x Y
theorem Zf{P:Program}{t:TypeId}{bs:List Bool}(h:w6 P t bs=true):P.eqGuardType P.depth t=false:=by
 unfold w6 at h
 simp only[eL,Bool.not_eq_true']at h
 exact h.2
theorem Qy{P:Program}{t:TypeId}{ks ls:List gz}(h:w6 P t (ks.map gz.j3)=true)(an:ks.map gz.j3=ls.map gz.j3)(w:World)(d:Nat):(Op.equalIn (d+1+1) t (n1 ks) (n1 ls)).run P w= .ok (decide (ks=ls)) w:=by
 unfold w6 at h
 simp only[eL,Bool.not_eq_true']at h
 have hlen:ks.length=ls.length:=by simpa using congrArg List.length an
 split at h
 ·rename_i fw hu
  simp only[eL,Bool.not_eq_true']at h
  obtain⟨⟨J,W⟩,_⟩:=h
  have bf:P.fieldsOf t=fw:=by simp[Program.fieldsOf,hu]
  unfold n1
  rw[run_equalIn_struct w (d+1) t _ _ (by rw[bf];exact hu) (by simpa using W),bf]
  exact Qu d w _ 0 ks ls _ _ J an (fun j az=>by simp) fun j az=>by simp
 ·rename_i n e hu
  simp only[eL,Bool.not_eq_true']at h
  obtain⟨⟨⟨J,W⟩,aH⟩,_⟩:=h
  split at aH
  ·rename_i i hi
   have aj:P.cellsOf e=1:=by simp[Program.cellsOf,hi,kN aH]
   have af:=kN J
   simp only[l5]at af
   unfold n1
   rw[run_equalIn_array w (d+1) _ _ hu hi,aj]
   cases ks with
   |nil=>
    have:ls=[]:=by simpa using hlen.symm
    subst this;subst af
    simp[Op.eqItems]
   |cons k ks=>
    simp only[List.map_cons,eL]at W
    have aC:=Qx W.2
    have cS:∀x∈k::ks,x.j3=k.j3:=fun x Y=>aC _ (by rw[<-List.map_cons];exact List.mem_map_of_mem Y)
    have qL:∀x∈ls,x.j3=k.j3:=fun x Y=>aC _ (by rw[<-List.map_cons,an];exact List.mem_map_of_mem Y)
    rw[Qv W.1 d w (k::ks) ls cS qL (List.range n) fun i hi=>by simp at hi;simp at af hlen⊢;omega]
    congr 1
    rw[Bool.eq_iff_iff]
    simp only[eZ,List.mem_range,decide_eq_true_eq]
    constructor
    ·intro h
     refine List.ext_getElem? fun j=>?_
     by_cases az:j<n
     ·exact h j az
     ·rw[List.getElem?_eq_none (by omega),List.getElem?_eq_none (by omega)]
    ·intro h _ _;rw[h]
  ·cases aH
 ·simp at h
section
variable {P:Program} {S:ad} {ro:eR} {ops:Array Oper} {c:Bool} {x y:Operand} {t t' ty e:TypeId} {pos:String} {a6:Array Edge} {bB:Option (Nat×Bool)} {d:Option Nat}
theorem jc.K3{E:c7}{V:cu}{M:Mem}{a:Act}{w:World}{o:Oper}{dE:List Nat}(h:jc E S o dE c V M a w){x:Operand}{k:List gz}(Y:x∈o.op.operands)(e:cd S c x (.d (EM k))):a.eval x=n1 k:=by
 have:=h.ez x Y _ e
 cases this with|d _ _ h=>exact Zd h
theorem Pure.K4{p q:List gz}(aT:w6 P t (p.map gz.j3)=true)(an:p.map gz.j3=q.map gz.j3)(aX:cd S c x (.d (EM p)))(bu:cd S c y (.d (EM q))):Pure P S [] ⟨d,.binOp .neq t x y t',ty,pos,a6,bB⟩ c (bk (!decide (p=q))):=by
 refine⟨rfl,fun E V M a w h aj=>?_⟩
 have Y:=h.K3 (by simp[Op.operands]) aX
 have ak:=h.K3 (by simp[Op.operands]) bu
 generalize a.eval=aI at*
 refine⟨_,?_,.d _ _ (.v _)⟩
 have he:(binOp .neq t (n1 p) (n1 q)).run P w= .ok (.bool (!decide (p=q))) w:=by
  have:=Qy aT an w 9998
  simp only[n1]at this⊢
  rw[run_neq_struct,this];rfl
 have bA:(eqGuard .neq t x y (n1 p) (n1 q)).run P w= .ok () w:=run_eqGuard_agg w .neq t x y _ _ (Zf aT)
 simp only[execOp,Y,ak,de,bA,he,Result.andThen_ok]
 rfl
end
end
section
structure Aq(P:Program)(k:TypeId){bZ:Type}(kv:bZ->Value):Prop where
 inj:∀a b,kv a=kv b->a=b
 Ce:∀x em w,(Instr.checkKey em 10000 k (kv x)).run P w= .ok () w
 find:∀x w (es:List MapEntry),(∀e∈es,∃y,e.key=kv y)->((Instr.findKey k (kv x) es).run P w= .ok none w/\∀e∈es,e.key≠kv x)\/∃j e,(Instr.findKey k (kv x) es).run P w= .ok (some (j,e.val)) w/\es[j]?=some e/\e.key=kv x
 K5:∀x w,(Instr.keyThatStays (kv x) (kv x)).run P w= .ok (kv x) w
abbrev hD(s:ByteArray):Value:=.string s
abbrev fe(n:Int):Value:=.int .i64 n
abbrev hW(p:Int×Int):Value:=n1 [.i p.1,.i p.2]
theorem Qz{P:Program}{k:TypeId}{d:TypeDesc}{bZ:Type}{kv:bZ->Value}(hu:P.underlying k=some d)(K:∀x,MapKept.IsKey d (kv x))(hi:∀a b,kv a=kv b->a=b):Aq P k kv where
 inj:=hi
 Ce x em w:=MapKept.run_checkKey hu (K x) em 9999
 find x w es h:=by
  rcases MapKept.findNow_spec (K x) es 0 (fun e he=>by obtain⟨y,ak⟩:=h e he;rw[ak];exact K y)with⟨J,W⟩|⟨j,e0,J,W,aH⟩
  ·exact .inl ⟨MapKept.run_findKey hu J,W⟩
  ·exact .inr ⟨j,e0,by simpa using MapKept.run_findKey hu J,W,aH⟩
 K5 x w:=MapKept.run_keyThatStays (K x)
theorem K6{P:Program}{k:TypeId}(hu:P.underlying k=some .string):Aq P k hD:=Qz hu (fun _=>trivial) fun a b h=>by injection h
theorem QA{P:Program}{k:TypeId}(hu:P.underlying k=some (.int .i64)):Aq P k fe:=Qz hu (fun _=>by trivial) fun a b h=>by injection h
theorem Zg{P:Program}(p:Int×Int)(w:World):(Instr.keyThatStays (hW p) (hW p)).run P w= .ok (hW p) w:=by
 have:Instr.sameBits 10000 (hW p) (hW p)=true:=by
  show Instr.sameBits (9999+1) (hW p) (hW p)=true
  simp[hW,n1,gz.v,Instr.sameBits]
 unfold Instr.keyThatStays
 rw[if_pos this];rfl
def Hv(P:Program)(k:TypeId):Bool:=match P.underlying k with
 |some (.struct fw)=>fw.toList.all fun f=>tn P f.type false
 |some (.array n e)=>tn P e false
 |_=>false
theorem QB{P:Program}{e:TypeId}(h:tn P e false=true)(em:Bool)(d:Nat)(n:Int)(w:World):(Instr.checkKey em (d+1) e (.int .i64 n)).run P w= .ok () w:=by
 unfold tn at h
 split at h
 ·rename_i hu;rw[Instr.checkKey];simp[run_underlying hu]
 ·cases h
 ·cases h
theorem QC{P:Program}:∀(fw:List Field) (bs:List Bool) (i:Nat),w5 P fw bs i=true->∀f∈fw,f.offset<i+bs.length/\f.name≠ "_"
 |[],_,_,_,f,bf=>by cases bf
 |g::fw,[],_,h,_,_=>by simp[w5]at h
 |g::fw,b::bs,i,h,f,bf=>by
  simp only[w5,eL,bne_iff_ne]at h
  obtain⟨⟨⟨J,W⟩,aH⟩,aV⟩:=h
  rcases eb.1 bf with rfl|bf
  ·have:=kN W;simp only[ek];exact⟨by omega,J⟩
  ·have:=QC fw bs (i+1) aV f bf;simp only[ek];exact⟨by omega,this.2⟩
theorem Zh{P:Program}{k:TypeId}(h:w6 P k [false,false]=true)(an:Hv P k=true)(p:Int×Int)(em:Bool)(w:World):(Instr.checkKey em 10000 k (hW p)).run P w= .ok () w:=by
 show(Instr.checkKey em (9998+1+1) k (hW p)).run P w=_
 unfold hW n1
 simp only[List.map_cons,List.map_nil,gz.v]
 unfold w6 at h
 unfold Hv at an
 split at an
 ·rename_i fw hu
  simp only[hu,eL]at h
  have bf:=QC fw.toList _ 0 h.1.1
  rw[Instr.checkKey]
  simp only[de,run_underlying hu,Result.andThen_ok]
  rw[<-Array.forIn_toList]
  simp only[eZ]at an
  generalize fw.toList=l at bf an
  clear h hu
  induction l with
  |nil=>simp
  |cons f l aJ=>
   obtain⟨J,W⟩:=bf f (by simp)
   simp only[ek,List.length_nil]at J
   have aj:=an f (by simp)
   have Y:∃n,(#[Value.int .i64 p.1,.int .i64 p.2]:Array Value)[f.offset]?=some (.int .i64 n):=by
    rcases(by omega:f.offset=0\/f.offset=1)with e|e<;>rw[e]
    ·exact⟨_,rfl⟩
    ·exact⟨_,rfl⟩
   obtain⟨n,af⟩:=Y
   have vw:=Cc (w:=w) aj af
   simp only[List.forIn_cons,de,W,ne_eq,not_false_eq_true,if_true,vw,Result.andThen_ok,QB aj,e5]
   exact aJ (fun g aM=>bf g (by simp[aM])) fun g aM=>an g (by simp[aM])
 ·rename_i n e hu
  simp only[hu,eL]at h
  obtain⟨⟨⟨J,W⟩,aH⟩,_⟩:=h
  have af:=kN J
  simp only[ek,List.length_nil]at af
  split at aH
  ·rename_i i hi
   have cj:(sizeOf e).run P w= .ok 1 w:=by simp[sizeOf,typeInfo,hi,kN aH]
   rw[Instr.checkKey]
   simp only[de,run_underlying hu,Result.andThen_ok]
   simp only[Std.Legacy.Range.forIn_eq_forIn_range',Std.Legacy.Range.size,Nat.sub_zero,Nat.add_one_sub_one,Nat.div_one]
   have js:∀j∈List.range' 0 n,j<2:=fun j az=>by simp at az;omega
   generalize List.range' 0 n=is at js
   induction is with
   |nil=>simp
   |cons j is aJ=>
    have az:=js j (by simp)
    have Y:∃m,(#[Value.int .i64 p.1,.int .i64 p.2]:Array Value)[j*1]?=some (.int .i64 m):=by
     rcases(by omega:j=0\/j=1)with e|e<;>rw[e]
     ·exact⟨_,rfl⟩
     ·exact⟨_,rfl⟩
    obtain⟨m,aw⟩:=Y
    have vw:=Cc (w:=w) an aw
    simp only[List.forIn_cons,de,cj,Result.andThen_ok,vw,QB an,e5]
    exact aJ fun y ak=>js y (by simp[ak])
  ·cases aH
 ·cases an
theorem QD{P:Program}{k:TypeId}(h:w6 P k [false,false]=true)(p:Int×Int)(w:World):∀(es:List MapEntry) (i:Nat),(∀e∈es,∃q,e.key=hW q)->
  ((Instr.findAsking k (hW p) es i).run P w= .ok none w/\∀e∈es,e.key≠hW p)\/∃j e,(Instr.findAsking k (hW p) es i).run P w= .ok (some (i+j,e.val)) w/\es[j]?=some e/\e.key=hW p
 |[],i,_=>.inl ⟨rfl,(fun _ h=>nomatch h)⟩
 |e::es,i,K=>by
  obtain⟨q,bA⟩:=K e (by simp)
  have heq:(Op.equal k (hW p) (hW q)).run P w= .ok (decide (([.i p.1,.i p.2]:List gz)=[.i q.1,.i q.2])) w:=Qy (ks:=[.i p.1,.i p.2]) (ls:=[.i q.1,.i q.2]) h D w 9998
  by_cases Ar:([.i p.1,.i p.2]:List gz)=[.i q.1,.i q.2]
  ·refine .inr ⟨0,e,?_,by simp,by rw[bA];unfold hW;rw[Ar]⟩
   simp only[Instr.findAsking,de,bA,heq,Ar,Result.andThen_ok,decide_true,if_true,e5,Nat.add_zero]
  ·have b2:e.key≠hW p:=fun he=>Ar (Qs (he.symm.trans bA))
   have jN:(Instr.findAsking k (hW p) (e::es) i).run P w=(Instr.findAsking k (hW p) es (i+1)).run P w:=by
    simp only[Instr.findAsking,de,bA,heq,Result.andThen_ok,decide_eq_true_eq,Ar,decide_false,Bool.false_eq_true,if_false]
   rcases QD h p w es (i+1) (fun x Y=>K x (by simp[Y]))with⟨J,W⟩|⟨j,jJ,J,W,aH⟩
   ·refine .inl ⟨jN.trans J,fun x Y=>?_⟩
    rcases eb.1 Y with rfl|Y
    ·exact b2
    ·exact W x Y
   ·exact .inr ⟨j+1,jJ,by rw[jN,J,show i+(j+1)=i+1+j by omega],by simpa using W,aH⟩
theorem QE{P:Program}{k:TypeId}(h:w6 P k [false,false]=true)(an:Hv P k=true):Aq P k hW where
 inj a b e:=by have:=Qs e;simp at this;exact Prod.ext this.1 this.2
 Ce p em w:=Zh h an p em w
 find p w es K:=by
  have bf:(Instr.findKey k (hW p) es).run P w=(Instr.findAsking k (hW p) es).run P w:=by
   refine run_findKey_eq w ?_ _ _
   unfold Hv at an
   split at an<;>rename_i hu<;>first|(rw[hu];done)|(simp[hu];done)|(cases an)
  rw[bf]
  have:=QD h p w es 0 K
  simpa using this
 K5 p w:=Zg p w
section
variable {bZ α:Type} [DecidableEq bZ]
def cb:List (bZ×α)->bZ->Option α
 |[],_=>none
 |p::r,x=>if p.1=x then some p.2 else cb r x
def dM:List (bZ×α)->bZ->α->List (bZ×α)
 |[],x,a=>[(x,a)]
 |p::r,x,a=>if p.1=x then(x,a)::r else p::dM r x a
theorem oI(m:List (bZ×α))(x y:bZ)(a:α):cb (dM m x a) y=if x=y then some a else cb m y:=by
 induction m with
 |nil=>simp[dM,cb]
 |cons p r aJ=>
  unfold dM
  by_cases h:p.1=x
  ·rw[if_pos h]
   simp only[cb]
   by_cases ak:x=y
   ·simp[ak]
   ·rw[if_neg ak,if_neg ak,if_neg (by rw[h];exact ak)]
  ·rw[if_neg h]
   simp only[cb,aJ]
   by_cases Z:p.1=y
   ·rw[if_pos Z,if_pos Z,if_neg fun e=>h (Z.trans e.symm)]
   ·rw[if_neg Z,if_neg Z]
theorem EN{m:List (bZ×α)}{x:bZ}:cb m x=none↔∀p∈m,p.1≠x:=by
 induction m with
 |nil=>simp[cb]
 |cons p r aJ=>by_cases h:p.1=x<;>simp[cb,h,aJ]
theorem Zi{m:List (bZ×α)}{x:bZ}(af:(m.map Prod.fst).Nodup){j:Nat}{p:bZ×α}(h:m[j]?=some p)(Z:p.1=x):cb m x=some p.2:=by
 induction m generalizing j with
 |nil=>simp at h
 |cons q r aJ=>
  simp only[List.map_cons,List.nodup_cons]at af
  cases j with
  |zero=>simp at h;subst h;simp[cb,Z]
  |succ j=>
   simp at h
   have:q.1≠x:=fun e=>af.1 (List.mem_map.2 ⟨p,List.mem_of_getElem? h,by rw[Z,e]⟩)
   simp only[cb,if_neg this]
   exact aJ af.2 h
theorem EO{m:List (bZ×α)}{x:bZ}{a:α}(h:cb m x=none):dM m x a=m++[(x,a)]:=by
 induction m with
 |nil=>rfl
 |cons p r aJ=>
  have h':=EN.1 h
  have Z:=h' p (by simp)
  simp only[dM,if_neg Z,List.cons_append]
  rw[aJ (EN.2 fun q bA=>h' q (by simp[bA]))]
theorem Zj{m:List (bZ×α)}{x:bZ}{a:α}(af:(m.map Prod.fst).Nodup){j:Nat}{p:bZ×α}(h:m[j]?=some p)(Z:p.1=x):dM m x a=m.set j (x,a):=by
 induction m generalizing j with
 |nil=>simp at h
 |cons q r aJ=>
  simp only[List.map_cons,List.nodup_cons]at af
  cases j with
  |zero=>simp at h;subst h;simp[dM,Z]
  |succ j=>
   simp at h
   have:q.1≠x:=fun e=>af.1 (List.mem_map.2 ⟨p,List.mem_of_getElem? h,by rw[Z,e]⟩)
   simp only[dM,if_neg this,List.set_cons_succ]
   rw[aJ af.2 h]
theorem QF{m:List (bZ×α)}{x:bZ}{a:α}{p:bZ×α}(h:p∈dM m x a):p=(x,a)\/p∈m:=by
 induction m with
 |nil=>simp[dM]at h;exact .inl h
 |cons q r aJ=>
  unfold dM at h
  split at h
  ·rcases eb.1 h with h|h
   ·exact .inl h
   ·exact .inr (by simp[h])
  ·rcases eb.1 h with h|h
   ·exact .inr (by simp[h])
   ·rcases aJ h with h|h
    ·exact .inl h
    ·exact .inr (by simp[h])
abbrev hE(kv:bZ->Value)(f:α->bg)(m:List (bZ×α)):cO:=.rY (m.map fun p=>f p.2) (.map (m.map fun p=>kv p.1))
def rC(P:Program)(t:TypeId)(kv:bZ->Value)(z:bg):Prop:=∃k e tp,P.underlying t=some (.map k e)/\Aq P k kv/\(∀w,(zeroValue e).run P w= .ok tp w)/\∀M,ey M z tp
variable {P:Program}
theorem As{t k e:TypeId}{kv:bZ->Value}{z:bg}{tp:Value}(hu:P.underlying t=some (.map k e))(fg:Aq P k kv)(bd:(P.info? e).map (·.zero)=some (some tp))(aq:∀M,ey M z tp):rC P t kv z:=by
 have _:=‹DecidableEq bZ›
 refine⟨k,e,tp,hu,fg,fun w=>?_,aq⟩
 cases hi:P.info? e with
 |none=>rw[hi]at bd;cases bd
 |some i=>
  rw[hi]at bd
  simp only[Option.map_some,en]at bd
  simp[zeroValue,typeInfo,hi,bd]
theorem K7{M:Mem}(us:List Value):ey M (.agg (us.map .v)) (.agg us.toArray):=.agg _ _ (by simp) fun j x y Y ak=>by
 simp only[fJ,ak,Option.map_some,en]at Y
 subst Y;exact .v _
theorem K8{kv:bZ->Value}(hi:∀a b,kv a=kv b->a=b){m:List (bZ×α)}(h:(m.map fun p=>kv p.1).Nodup):(m.map Prod.fst).Nodup:=by
 have _:=‹DecidableEq bZ›
 have:(m.map fun p=>kv p.1)=(m.map Prod.fst).map kv:=by simp[Function.comp_def]
 rw[this]at h
 exact List.Pairwise.of_map kv (fun a b h e=>h (congrArg kv e)) h
theorem Zk{kv:bZ->Value}(hi:∀a b,kv a=kv b->a=b){m:List (bZ×α)}(h:(m.map Prod.fst).Nodup):(m.map fun p=>kv p.1).Nodup:=by
 have _:=‹DecidableEq bZ›
 have:(m.map fun p=>kv p.1)=(m.map Prod.fst).map kv:=by simp[Function.comp_def]
 rw[this]
 exact h.map kv fun a b QG e=>QG (hi a b e)
theorem QH{k:TypeId}{kv:bZ->Value}(fg:Aq P k kv){m:List (bZ×α)}{vs:List Value}{e3:List Nat}{c:Nat}{xs:Array MapEntry}(h:Dt (m.map fun p=>kv p.1) vs e3 c xs)(x:bZ)(w:World):
  ((Instr.findKey k (kv x) xs.toList).run P w= .ok none w/\cb m x=none)\/∃(j:Nat) (v:Value) (p:bZ×α),(Instr.findKey k (kv x) xs.toList).run P w= .ok (some (j,v)) w/\vs[j]?=some v/\m[j]?=some p/\p.1=x/\cb m x=some p.2/\(xs[j]?).map (·.key)=some (kv x):=by
 have K9:∀e∈xs.toList,∃y,e.key=kv y:=fun e he=>by
  have:e.key∈m.map fun p=>kv p.1:=by rw[<-h.key];exact List.mem_map_of_mem he
  obtain⟨p,_,Z⟩:=List.mem_map.1 this
  exact⟨p.1,Z.symm⟩
 rcases fg.find x w xs.toList K9 with⟨J,W⟩|⟨j,e,J,W,aH⟩
 ·refine .inl ⟨J,EN.2 fun p Z he=>?_⟩
  have:kv p.1∈xs.toList.map (·.key):=by rw[h.key];exact List.mem_map_of_mem (f:=fun p:bZ×α=>kv p.1) Z
  obtain⟨e,JH,JI⟩:=List.mem_map.1 this
  exact W e JH (by rw[JI,he])
 ·have az:(m.map fun p=>kv p.1)[j]?=some (kv x):=by rw[<-h.key];simp[W,aH]
  have aK:vs[j]?=some e.val:=by rw[<-h.val];simp[W]
  simp only[fJ,Option.map_eq_some_iff]at az
  obtain⟨p,Z,Hw⟩:=az
  have Hw:=fg.inj _ _ Hw
  exact .inr ⟨j,e.val,p,J,aK,Z,Hw,Zi (K8 fg.inj h.lQ) Z Hw,by rw[<-vx,W];simp[aH]⟩
end
section
variable {bZ α:Type} [DecidableEq bZ] {kv:bZ->Value} {f:α->bg} {w7:bg} {m:List (bZ×α)}
variable {P:Program} {S:ad} {ro:eR} {ops:Array Oper} {c:Bool} {x y z:Operand} {t t' ty e:TypeId} {pos:String} {a6:Array Edge} {bB:Option (Nat×Bool)} {d:Option Nat} {l:Nat}
theorem QI{V:cu}{M:Mem}{u:bg}{v:Value}(h:bU V M (.d u) v):ey M u v:=w2 h
inductive At(S:ad)(c:Bool)(y:Operand):Value->Prop
 |v {u:Value} (h:cd S c y (.d (.v u))):At S c y u
 |f (l:List gz) (h:cd S c y (.d (EM l))):At S c y (n1 l)
inductive EP(S:ad)(c:Bool)(y:Operand):bg->Prop
 |d {u:bg} (h:cd S c y (.d u)):EP S c y u
 |f {g:FuncId} (h:cd S c y (.fn g [])):EP S c y (.v (.func (.func g) #[] #[]))
theorem jc.QJ{E:c7}{V:cu}{M:Mem}{a:Act}{w:World}{o:Oper}{dE:List Nat}(h:jc E S o dE c V M a w){x:Operand}{u:bg}(Y:x∈o.op.operands)(e:EP S c x u):ey M u (a.eval x):=by
 cases e with
 |d e=>exact QI (h.ez x Y _ e)
 |f e=>
  have:=h.ez x Y _ e
  generalize a.eval x=v at this
  cases this with
  |fn _ _ vs aa _=>
   have:vs=[]:=List.eq_nil_of_length_eq_zero (by simpa using aa.symm)
   subst this;exact .v _
theorem jc.key{E:c7}{V:cu}{M:Mem}{a:Act}{w:World}{o:Oper}{dE:List Nat}(h:jc E S o dE c V M a w){x:Operand}{k:Value}(Y:x∈o.op.operands)(e:At S c x k):a.eval x=k:=by
 cases e with
 |v e=>exact h.val Y e
 |f l e=>exact h.K3 Y e
theorem QK{k:bZ}{V:cu}{M:Mem}{w:World}(aT:rC P t kv w7)(ae:gC V M w l (hE kv f m)):∃v,ey M ((cb m k).elim w7 f) v/\∀ok,(Instr.lookup t (.map (some (V.aI l))) (kv k) ok).run P w= .ok (if ok then .tuple #[v,.bool (cb m k).isSome]else v) w:=by
 obtain⟨me,vs,lq,J,W,aH,e3,cD,xs,rfl,hI⟩:=ae
 obtain⟨ho,Zl,tp,hu,fg,bd,QL⟩:=aT
 have yA:(getObj (V.aI l)).run P w= .ok (.map xs cD) w:=by simp[getObj,Sem.run,J]
 rcases QH fg hI k w with⟨eE,eV⟩|⟨j,v,p,eE,eV,hl,je,mN,_⟩
 ·refine⟨tp,by rw[eV];exact QL M,fun ok=>?_⟩
  unfold Instr.lookup
  simp only[de,run_underlying hu,Result.andThen,yA,e5,fg.Ce,eE,bd,eV]
  cases ok<;>rfl
 ·refine⟨v,?_,fun ok=>?_⟩
  ·rw[mN]
   exact QI (aH j (.d (f p.2)) v (by simp[hl]) eV)
  ·unfold Instr.lookup
   simp only[de,run_underlying hu,Result.andThen,yA,e5,fg.Ce,eE,mN]
   cases ok<;>rfl
theorem Pure.rD{k:bZ}(aT:rC P t kv w7)(aX:cd S c x (.mp l))(bu:At S c y (kv k))(ae:S.get (G l)=some (.U (hE kv f m))):Pure P S [l] ⟨d,.lookup t x y false,ty,pos,a6,bB⟩ c (.d ((cb m k).elim w7 f)):=by
 refine⟨rfl,fun E V M a w aM aj=>?_⟩
 have Y:=aM.ez x (by simp[Op.operands]) _ aX
 have ak:=aM.key (by simp[Op.operands]) bu
 obtain⟨v,J,W⟩:=QK (k:=k) (P:=P) aT (aM.U l (by simp) _ ae)
 generalize he:a.eval x=u at Y
 generalize a.eval=aI at*
 cases Y with
 |mp=>exact⟨v,by simp only[execOp,he,ak,de,W false,Result.andThen];rfl,.d _ _ J⟩
theorem Zm{V:cu}{M:Mem}{v:Value}{u:bg}{b:Bool}(h:ey M u v):bU V M (.bE [.d u,bk b]) (.tuple #[v,.bool b]):=by
 refine .bE _ [v,.bool b] D fun j p q Z bA=>?_
 match j with
 |0=>simp at Z bA;subst Z;subst bA;exact .d _ _ h
 |1=>simp at Z bA;subst Z;subst bA;exact .d _ _ (.v _)
 |j+2=>simp at Z
theorem Pure.oJ{k:bZ}(aT:rC P t kv w7)(aX:cd S c x (.mp l))(bu:At S c y (kv k))(ae:S.get (G l)=some (.U (hE kv f m))):Pure P S [l] ⟨d,.lookup t x y true,ty,pos,a6,bB⟩ c (.bE [.d ((cb m k).elim w7 f),bk (cb m k).isSome]):=by
 refine⟨rfl,fun E V M a w aM aj=>?_⟩
 have Y:=aM.ez x (by simp[Op.operands]) _ aX
 have ak:=aM.key (by simp[Op.operands]) bu
 obtain⟨v,J,W⟩:=QK (k:=k) (P:=P) aT (aM.U l (by simp) _ ae)
 generalize he:a.eval x=u at Y
 generalize a.eval=aI at*
 cases Y with
 |mp=>exact⟨.tuple #[v,.bool (cb m k).isSome],by simp only[execOp,he,ak,de,W true,Result.andThen];rfl,Zm J⟩
theorem sn{S':ad}{r:List Oper}{L:List cx}{d:Nat}(kv:bZ->Value)(f:α->bg)(l:Nat)(ds:List Nat)
  (bf:h7 ⟨cQ ⟨some d,.makeMap t none,ty,pos,a6,none⟩,S,fU ds l (hE kv f []) d (.mp l),[l]⟩ S=true) (h:bI P ro ops r (S.after ds l (hE kv f []) d (.mp l)) L S'):
  bI P ro ops (⟨some d,.makeMap t none,ty,pos,a6,none⟩::r) S (⟨cQ ⟨some d,.makeMap t none,ty,pos,a6,none⟩++([]:List Nat).map G,S,fU ds l (hE kv f []) d (.mp l),[l]⟩::L) S':=by
 have _:=‹DecidableEq bZ›
 refine tZ ds (wD D D D fun E V M a w h=>?_) (by simpa using bf) h
 generalize a.eval=aI at*
 refine⟨w.alloc (.map #[] 0),.map (some w.heap.size),some 0,by simp[execOp,Instr.makeMap],fb.alloc w _,⟨by simp,[],_,by rw[jK];exact sW w _,rfl,by simp,[],0,#[],rfl,⟨rfl,rfl,rfl,.nil,.nil,by simp⟩⟩,?_⟩
 have:=bU.mp (V:=V.set l w.heap.size (some 0)) (M:=M) l
 rwa[jK]at this
theorem fb.ER(w:World)(b:Nat)(o:Go.Obj)(h:b<w.heap.size):fb w {w with heap:=w.heap.setIfInBounds b o} b:=
 ⟨rfl,rfl,rfl,by simp,fun c aj _=>by simp[wM,Ne.symm aj],by simpa using h⟩
theorem QM{k:bZ}{u:α}{w8:Value}{V:cu}{M:Mem}{w:World}(aT:rC P t kv w7)(ae:gC V M w l (hE kv f m))(aK:ey M (f u) w8):
  ∃w',(Instr.mapUpdate t (.map (some (V.aI l))) (kv k) w8).run P w= .ok () w'/\(V.aI l<w.heap.size->fb w w' (V.aI l))/\gC V M w' l (hE kv f (dM m k u)):=by
 obtain⟨me,vs,lq,J,W,aH,e3,cD,xs,rfl,hI⟩:=ae
 obtain⟨ho,Zl,tp,hu,fg,bd,QL⟩:=aT
 have yA:(getObj (V.aI l)).run P w= .ok (.map xs cD) w:=by simp[getObj,Sem.run,J]
 have ES:∀o,(setObj (V.aI l) o).run P w= .ok () {w with heap:=w.heap.setIfInBounds (V.aI l) o}:=fun o=>by simp[setObj,Sem.run,J]
 have aG:V.aI l<w.heap.size:=(Array.getElem?_eq_some_iff.1 J).1
 have gT:∀o,({w with heap:=w.heap.setIfInBounds (V.aI l) o}:World).heap[V.aI l]?=some o:=fun o=>by simp[wM,aG]
 have hlen:m.length=vs.length:=by simpa using W
 rcases QH fg hI k w with⟨eE,eV⟩|⟨j,v,p,eE,eV,hl,je,mN,vy⟩
 ·refine⟨{w with heap:=w.heap.setIfInBounds (V.aI l) (.map (xs.push {key:=kv k,val:=w8,born:=cD}) (cD+1))},?_,fb.ER w _ _,me,vs++[w8],_,gT _,by rw[EO eV];simp[hlen],fun i a b aC ij=>?_,e3++[cD],cD+1,_,rfl,?_⟩
  ·unfold Instr.mapUpdate
   simp only[de,run_underlying hu,Result.andThen,yA,fg.Ce,eE,ES]
  ·rw[EO eV]at aC
   simp only[List.map_append,List.map_map,List.map_cons,List.map_nil]at aC
   by_cases hi:i<m.length
   ·rw[pf (by simpa using hi)]at aC
    rw[pf (by omega)]at ij
    exact aH i a b (by simpa using aC) ij
   ·rw[List.getElem?_append_right (by simpa using hi)]at aC
    rw[List.getElem?_append_right (by omega)]at ij
    have:i-m.length=0:=by
     have:=(List.getElem?_eq_some_iff.1 aC).1
     simp at this;omega
    simp only[l5]at aC
    rw[this]at aC
    rw[<-hlen,this]at ij
    simp at aC ij
    subst aC;subst ij
    exact .d _ _ aK
  ·rw[EO eV]
   refine⟨by simp[hI.key],by simp[hI.val],by simp[hI.born],?_,?_,?_⟩
   ·refine Zk fg.inj ?_
    simp only[List.map_append,List.map_cons,List.map_nil]
    refine List.nodup_append.2 ⟨K8 fg.inj hI.lQ,by simp,fun a aC b ae=>?_⟩
    simp at ae
    subst ae
    obtain⟨p,Z,rfl⟩:=List.mem_map.1 aC
    exact EN.1 eV p Z
   ·refine List.nodup_append.2 ⟨hI.Gh,by simp,fun a aC b ae=>?_⟩
    simp at ae;subst ae
    exact Nat.ne_of_lt (hI.lt a aC)
   ·intro b ae
    rcases hy.1 ae with ae|ae
    ·exact Nat.lt_succ_of_lt (hI.lt b ae)
    ·simp at ae;omega
 ·have K9:((xs[j]?).map (·.key)).getD (kv k)=kv k:=by rw[vy];rfl
  have pR:dM m k u=m.set j (k,u):=Zj (K8 fg.inj hI.lQ) hl je
  have az:j<xs.size:=by
   cases Y:xs[j]? with
   |none=>rw[Y]at vy;cases vy
   |some e=>exact(Array.getElem?_eq_some_iff.1 Y).1
  have mb:∀(g:MapEntry->Value) (val:Value),g {(xs[j]'az)with key:=kv k,val:=w8}=val->(xs.modify j fun e=>{e with key:=kv k,val:=w8}).toList.map g=(xs.toList.map g).set j val:=fun g val aM=>by
   refine List.ext_getElem (by simp) fun i a b=>?_
   simp only[l5,Array.length_toList,Array.size_modify]at a
   simp only[List.getElem_map,Array.getElem_toList,Array.getElem_modify,List.getElem_set]
   by_cases iK:j=i
   ·subst iK;simp[aM]
   ·simp[iK]
  refine⟨{w with heap:=w.heap.setIfInBounds (V.aI l) (.map (xs.modify j fun e=>{e with key:=kv k,val:=w8}) cD)},?_,fb.ER w _ _,me,vs.set j w8,_,gT _,by rw[pR];simp[hlen],fun i a b aC ij=>?_,e3,cD,_,rfl,?_⟩
  ·unfold Instr.mapUpdate
   simp only[de,run_underlying hu,Result.andThen,yA,fg.Ce,eE,K9,fg.K5,ES]
  ·rw[pR]at aC
   simp only[fJ,List.getElem?_set]at aC ij
   by_cases iK:j=i
   ·subst iK
    have Cf:j<m.length:=(List.getElem?_eq_some_iff.1 hl).1
    rw[if_pos rfl,if_pos (by omega)]at aC ij
    simp at aC ij
    subst aC;subst ij
    exact .d _ _ aK
   ·rw[if_neg iK]at aC ij
    exact aH i a b (by simpa using aC) ij
  ·rw[pR]
   have QN:((m.set j (k,u)).map fun p=>kv p.1)=(m.map fun p=>kv p.1):=by
    rw[List.map_set]
    refine List.ext_getElem? fun i=>?_
    rw[List.getElem?_set]
    by_cases iK:j=i
    ·subst iK
     rw[if_pos rfl]
     have Cf:j<m.length:=(List.getElem?_eq_some_iff.1 hl).1
     simp[Cf,hl,je]
     rw[<-je]
     have:=(List.getElem?_eq_some_iff.1 hl).2
     rw[this]
    ·rw[if_neg iK]
   rw[QN]
   refine⟨?_,?_,?_,hI.lQ,hI.Gh,hI.lt⟩
   ·rw[mb (·.key) (kv k) D,hI.key]
    refine List.ext_getElem? fun i=>?_
    rw[List.getElem?_set]
    by_cases iK:j=i
    ·subst iK
     rw[if_pos rfl]
     have Cf:j<m.length:=(List.getElem?_eq_some_iff.1 hl).1
     rw[if_pos (by simpa using Cf)]
     simp[hl,je]
    ·rw[if_neg iK]
   ·rw[mb (·.val) w8 D,hI.val]
   ·rw[<-hI.born]
    refine List.ext_getElem (by simp) fun i a b=>?_
    simp only[List.getElem_map,Array.getElem_toList,Array.getElem_modify]
    split<;>rfl
theorem bI.put{S':ad}{r:List Oper}{L:List cx}{k:bZ}{u:α}(aT:rC P t kv w7)(aX:cd S true x (.mp l))(bu:At S true y (kv k))(dV:EP S true z (f u))(ae:S.get (G l)=some (.U (hE kv f m)))
  (h:bI P ro ops r ((G l,.U (hE kv f (dM m k u)))::S) L S'):
  bI P ro ops (⟨none,.mapUpdate t x y z,ty,pos,a6,none⟩::r) S (⟨cQ ⟨none,.mapUpdate t x y z,ty,pos,a6,none⟩++[l].map G,S,[(G l,some (.U (hE kv f (dM m k u))))],[]⟩::L) S':=by
 refine bI.GV (ON D D D (by simp) ae fun E V M a w aM=>?_) h
 have Y:=aM.ez x (by simp[Op.operands]) _ aX
 have ak:=aM.key (by simp[Op.operands]) bu
 have bd:=aM.QJ (by simp[Op.operands]) dV
 have eO:=aM.U l (by simp) _ ae
 obtain⟨w',J,W,aH⟩:=QM (k:=k) (u:=u) (P:=P) aT eO bd
 generalize he:a.eval x=v at Y
 generalize a.eval=aI at*
 cases Y with
 |mp=>exact⟨eO.1,w',by simp only[execOp,he,ak,de,J,Result.andThen];rfl,W,aH⟩
theorem hP{S':ad}{r:List Oper}{L:List cx}{k:bZ}{u:α}(aT:rC P t kv w7)(aX:cd S true x (.mp l))(bu:At S true y (kv k))(dV:EP S true z (f u))(ae:S.get (G l)=some (.U (hE kv f m)))
  (h:bI P ro ops r ((G l,.U (hE kv f (dM m k u)))::S) L S'):
  bI P ro ops (⟨none,.insert t x y z,ty,pos,a6,none⟩::r) S (⟨cQ ⟨none,.insert t x y z,ty,pos,a6,none⟩++[l].map G,S,[(G l,some (.U (hE kv f (dM m k u))))],[]⟩::L) S':=by
 refine bI.GV (ON D D D (by simp) ae fun E V M a w aM=>?_) h
 have Y:=aM.ez x (by simp[Op.operands]) _ aX
 have ak:=aM.key (by simp[Op.operands]) bu
 have bd:=aM.QJ (by simp[Op.operands]) dV
 have eO:=aM.U l (by simp) _ ae
 obtain⟨w',J,W,aH⟩:=QM (k:=k) (u:=u) (P:=P) aT eO bd
 generalize he:a.eval x=v at Y
 generalize a.eval=aI at*
 cases Y with
 |mp=>exact⟨eO.1,w',by simp only[execOp,he,ak,de,J,Result.andThen];rfl,W,aH⟩
end
end
section
variable {P:Program} {S:ad} {ro:eR} {ops:Array Oper} {E:c7}
def La:dz->dz->Prop
 | .aB x,.aB y=>∀V M v,bU V M x v->bU V M y v
 | .U B,.U B'=>bl B B'
 |_,_=>False
theorem La.refl:∀c,La c c
 | .aB x=>fun _ _ _ h=>h
 | .U B=>bl.refl B
def uA(S T:ad):Prop:=∀n gp,T.get n=some gp->∃c,S.get n=some c/\La c gp
theorem ei.p7{S T:ad}{a:Act}{w:World}(h:ei E S a w)(he:uA S T):ei E T a w:=by
 obtain⟨V,M,aC,hw⟩:=h
 have cP:∀l B,T.get (G l)=some (.U B)->∃dS,S.get (G l)=some (.U dS)/\bl dS B:=fun l B e=>by
  obtain⟨c,J,W⟩:=he _ _ e
  cases c with
  |aB x=>exact W.elim
  |U dS=>exact⟨dS,J,W⟩
 refine⟨V,M,⟨fun t y e=>?_,aC.size,aC.defers⟩,hw.tl D D D hw.aA cP⟩
 obtain⟨c,J,W⟩:=he _ _ e
 cases c with
 |U B=>exact W.elim
 |aB x=>obtain⟨v,aK,aq⟩:=aC.fT t x J;exact⟨v,aK,W V M v aq⟩
theorem mZ.p7{S T:ad}{a:Act}{w:World}(h:mZ ro E S a w)(he:uA S T):mZ ro E T a w:=by
 obtain⟨ms,bb,J,W,aH⟩:=h
 exact⟨ms,bb,J,W,aH.p7 he⟩
theorem c8.p7{c:Code}{S T:ad}{Q:Exit->ad->Prop}(he:uA S T)(h:c8 P ro E c T Q):c8 P ro E c S Q:=fun a w aE=>h a w (aE.p7 he)
theorem c8.yB{c:Code}{S:ad}{Q:Exit->ad->Prop}{l:Nat}{B B':cO}(ae:S.get (G l)=some (.U B))(he:bl B B')(h:c8 P ro E c ((G l,.U B')::S) Q):c8 P ro E c S Q:=
 iE (ι:=Unit) (Φ:=fun _=>True) (B':=fun _=>B') ae (fun V M w e=>⟨(),trivial,he V M w l e⟩) fun _ _=>h
inductive yC(S:ad):ad->Prop
 |nil:yC S []
 |s {n:Nat} {c:dz} {r:ad} (h:S.get n=some c) (t:yC S r):yC S ((n,c)::r)
 |a {k:Nat} {x y:ai} {r:ad} (h:S.get (ab k)=some (.aB x)) (e:∀V M v,bU V M x v->bU V M y v) (t:yC S r):yC S ((ab k,.aB y)::r)
 |b {l:Nat} {B B':cO} {r:ad} (h:S.get (G l)=some (.U B)) (e:bl B B') (t:yC S r):yC S ((G l,.U B')::r)
theorem eH{S T:ad}(h:yC S T):uA S T:=by
 induction h with
 |nil=>intro n c e;simp[ad.get]at e
 | @s m c r h t aJ=>
  intro n gp e
  rw[ej]at e
  by_cases aw:m=n
  ·rw[if_pos aw]at e;injection e with e;subst e;subst aw;exact⟨c,h,.refl c⟩
  ·rw[if_neg aw]at e;exact aJ n gp e
 | @a k x y r h e0 t aJ=>
  intro n gp e
  rw[ej]at e
  by_cases aw:ab k=n
  ·rw[if_pos aw]at e;injection e with e;subst e;subst aw;exact⟨_,h,e0⟩
  ·rw[if_neg aw]at e;exact aJ n gp e
 | @b l B B' r h e0 t aJ=>
  intro n gp e
  rw[ej]at e
  by_cases aw:G l=n
  ·rw[if_pos aw]at e;injection e with e;subst e;subst aw;exact⟨_,h,e0⟩
  ·rw[if_neg aw]at e;exact aJ n gp e
theorem uA.bG{S A fg:ad}(h:uA S A)(tm:fg.le S):uA S (A++fg):=fun n c e=>by
 rw[qA]at e
 split at e
 ·rename_i d aq;injection e with e;subst e;exact h n d aq
 ·exact⟨c,tm n c e,.refl c⟩
theorem pz{σ:Type}{c:Code}{S:ad}{Q:Exit->ad->Prop}(fg:ad)(Inv:σ->ad)(re:σ->Prop)(m:σ->Nat)(r2:σ)(h₀:uA S (Inv r2))(tm:fg.le S)(DP:re r2)
  (round:∀x,re x->c8 P ro E c (Inv x++fg) (zD (fun S'=>∃y,re y/\m y<m x/\uA S' (Inv y)/\fg.le S') Q)):c8 P ro E (.loop c) S Q:=by
 intro a w aE
 let p:Act->World->Nat->Prop:=fun a w n=>∃x,re x/\m x=n/\mZ ro E (Inv x++fg) a w
 refine wpIn_loop (fun a w=>∃n,p a w n) (fun a w=>leastOf (p a w)) ⟨m r2,r2,DP,rfl,aE.p7 (h₀.bG tm)⟩ ?_
 intro a w hI
 obtain⟨⟨x,Y,af,JJ⟩,VH⟩:=leastOf_spec hI
 refine wpIn_mono (round x Y a w JJ) ?_
 rintro e gL w' (⟨S',q,r⟩|⟨x,Z,rfl,r⟩)
 ·cases e with
  |normal=>
   obtain⟨y,ak,aG,hle,Zn⟩:=q
   have Z:p gL w' (m y):=⟨y,ak,rfl,r.p7 (hle.bG Zn)⟩
   refine⟨⟨m y,Z⟩,?_⟩
   have J:=(leastOf_spec ⟨m y,Z⟩).2 (m y) Z
   show leastOf (p gL w')<leastOf (p a w)
   omega
  |_=>exact .inl ⟨S',q,r⟩
 ·exact .inr ⟨x,Z,rfl,r⟩
theorem w9{x y:Code}{S:ad}{Q:Exit->ad->Prop}(T:ad)(h:c8 P ro E x S (zD (fun S'=>uA S' T) Q))(h':c8 P ro E y T Q):c8 P ro E (.seq x y) S Q:=
 al (h.mono fun e S' q=>by
  cases e with
  |normal=>exact h'.p7 q
  |_=>exact q)
theorem QO{x y:Code}{S:ad}{Q:Exit->ad->Prop}(φ:Prop)(T:ad)(h:c8 P ro E x S (zD (fun S'=>uA S' T/\φ) Q))(h':φ->c8 P ro E y T Q):c8 P ro E (.seq x y) S Q:=
 al (h.mono fun e S' q=>by
  cases e with
  |normal=>exact(h' q.2).p7 q.1
  |_=>exact q)
theorem bw.QP{f:FuncId}{fn:Func}{c:Code}{args:List ai}{aS a8:ad}{aA:List Nat}(u:FrameMode)(bf:P.funcs[f]?=some fn)(ae:fn.body=some c)
  (af:args.length<=fn.ntmps) (lB:∀n c,aS.get n=some c->n%2=1) (lT:fn.results= #[])
  (h:∀E:c7,E.aA=aA->E.cg=fn.ntmps->c8 P {} E c (j2 0 args++aS) fun e S'=>(e= .normal\/e= .ret)/\∀l B,a8.get (G l)=some (.U B)->∃dS,S'.get (G l)=some (.U dS)/\bl dS B):nS P f args aS a8 u u aA:=by
 intro V M w b4 vs hw aq
 refine callsD_of_wpS bf ae fun kl cs aw=>?_
 refine wpS_of_wp ?_
 have kF:=wO fn.ntmps af lB hw aq
 have:=wpIn_wide.1 (xT D (h (.dd w b4 M V aA fn.ntmps) D D _ w kF.m))
 refine Code.wp_mono ?_ this
 rintro e gL w' (⟨S',⟨he,cP⟩,ki⟩|⟨y,ak,_⟩)
 ·obtain⟨br,bo,z1,te⟩:=ki.dB rfl
  have kj:∃v br bo,Ending.returned (Value.tuple #[])= .returned v/\u=u/\cl (.dd w b4 M V aA 0) a8 br bo w':=⟨_,br,bo,rfl,rfl,(te.mv (E':=.dd w b4 M V aA 0) D D D D D).tl D D D (te.mv (E':=.dd w b4 M V aA 0) D D D D D).aA cP⟩
  have um:gL.defers=[]:=z1.defers
  have jN:(results fn gL.tmps).run P w'= .ok (.tuple #[]) w':=by
   rw[DZ,lT]
   simp[e5,de,Result.andThen]
  rcases he with rfl|rfl
  ·exact⟨um,u,by rw[<-aw],_,jN,kj⟩
  ·exact⟨um,u,by rw[<-aw],_,jN,kj⟩
 ·cases ak
end
section
variable {P:Program} {S:ad} {ro:eR} {ops:Array Oper} {E:c7}
theorem Zo[jI ro]{ι:Type}{Φ:ι->Prop}{cW:ad}{X:List PanicEntry->Prop}{S:ad}{a:Act}{w:World}{o:Oper}{cD:Call}{t:Nat}{g:FuncId}{args:List ai}{res:ι->ai}{aS cw:ad}{a8:ι->ad}{aA new ds:List Nat}(bJ:o.op= .call cD)(gM:o.dst=some t)(fY:o.guard=none)
  (hz:jq S true cD g args) (aM:hS P g=true) (an:dI P g args aS Φ res a8 aA X cw) (aW:∀i,s9 S aS (a8 i) (res i) aA new ds) (Y:Hn S aS cw cW aA ds t) (Z:∀bc,X bc->ro.gm (bc,cW))
  (h3:∀l∈new,∀n c,S.get n=some c->n∉ds->¬ov c l) (ux:∀l∈new,l∉E.aA) (aT:t<E.cg) (aE:ei E S a w) (Q:Exit->Act->World->Prop) (gD:∀x,ro.gm x->∀a w,ei E x.2 a w->Q (.panic x.1) a w):
  lx P ro ops Q o (fun a w=>∃i,Φ i/\ei E (S.eK (im ds (a8 i) t (res i))) a w) a w:=by
 obtain⟨V,M,aC,hw⟩:=aE
 unfold lx
 rw[if_pos (by simp[Region.wanted,fY])]
 obtain⟨vs,aE,aq⟩:=GA bJ (qw (rn:=cQ o) (S:=S) (aY:=S) (fun _ _=>rfl) (fun n af=>af) (fun l aa=>by cases aa) rfl aC hw:jc E S o [] true V M a w) hz aM
 refine⟨DN o a w,?_⟩
 rw[Oper.semAt_eq _ _ _ (fun d h=>by rw[bJ]at h;cases h),aE]
 refine⟨Bq ro 0,Oc ?_⟩
 have Du:∀p∈aS,p.1%2=1/\(∃B,p.2= .U B)/\S.get p.1=some p.2/\p.1∈ds:=fun p Z=>⟨Y.Y.sd p Z,Y.Y.U p Z,Y.Y.qG p Z,Y.Y.drop p Z⟩
 have iN:∀l B,aS.get (G l)=some (.U B)->S.get (G l)=some (.U B):=fun l B e=>(Du _ (kB e)).2.2.1
 have cP:∀l,di V aS l->di V S l:=fun l ⟨⟨B,e⟩,k⟩=>⟨⟨B,iN l B e⟩,k⟩
 let pl:List Nat:=(s6 aS).filter fun l=>(V.bZ l).isSome
 let b4:List Nat:=pl.map V.aI
 have k7:∀l,l∈pl->di V S l/\G l∈ds:=fun l aa=>by
  simp only[pl,List.mem_filter,s6,List.mem_map]at aa
  obtain⟨⟨p,Z,rfl⟩,K⟩:=aa
  obtain⟨Ec,⟨B,yl⟩,J,Zp⟩:=Du p Z
  have e:G (p.1/2)=p.1:=by unfold G;omega
  rw[yl]at J
  rw[e]
  exact⟨⟨⟨B,by rw[e];exact J⟩,by cases Y:V.bZ (p.1/2)<;>simp_all⟩,Zp⟩
 have nN:cl (.dd w b4 M (V) (aA) 0) aS V M w:=
  {
   dn:=fun l B e=>hw.dn l B (iN l B e),inj:=fun l l' a b=>hw.inj l l' (cP l a) (cP l' b),dO:=fun l a=>hw.dO l (cP l a)
   dt:=fun l a=>.inr (by
    obtain⟨⟨B,e⟩,k⟩:=a
    have aw:=kB e
    simp only[b4,pl,List.mem_map,List.mem_filter,s6]
    exact⟨l,⟨⟨_,aw,by unfold G;omega⟩,by cases Y:V.bZ l<;>simp_all⟩,rfl⟩)
   cE:=fun l a=>hw.cE l (cP l a)
   mem:=hw.mem,dA:=jH M,er:=(hw.xR fun b ae=>by obtain⟨l,aa,rfl⟩:=List.mem_map.1 ae;exact⟨l,(k7 l aa).1,rfl⟩),ea:=fun b o h=>.inl h,aA:=fun l aa=>⟨rfl,rfl⟩,b6:=⟨rfl,rfl,rfl,Nat.le_refl _,fun _ _ _=>rfl⟩}
 refine(an V M w b4 vs nN aq).mono ?_
 rintro e w' (⟨i,v,br,bo,hi,rfl,eD,b8⟩|⟨bc,br,bo,rfl,w1,b8⟩)
 ·show∃i,Φ i/\ei E _ (a.put o.dst v) w'
  rw[gM]
  exact⟨i,hi,Hm aC hw aT (aW i) k7 (fun l aa n c af vh=>h3 l aa n c af fun aq=>vh (yj.2 (.inl aq))) ux eD b8⟩
 ·show Q (.panic bc) a w'
  obtain⟨lW,M2,J,W⟩:=Hm (v:=.tuple #[]) aC hw aT Y.Y k7 (fun l aa=>by cases aa) (fun l aa=>by cases aa) (.bE [] [] D fun j x y h _=>by simp at h) b8
  have fz:∀n,(S.eK (im ds cw t (.bE []))).get n=if ab t=n then some (.aB (.bE []))else match cw.get n with|some c=>some c|none=>if n∈ds then none else S.get n:=zY S ds cw t (.bE [])
  have hle:∀n c,cW.get n=some c->n≠ab t/\(S.eK (im ds cw t (.bE []))).get n=some c:=fun n c e=>by
   have aw:=kB e
   obtain⟨eE,eV⟩:=Y.cW _ aw
   refine⟨eE,?_⟩
   rw[fz,if_neg (Ne.symm eE)]
   rcases eV with eV|⟨eV,hl,je⟩
   ·simp only at eV;rw[eV]
   ·simp only at eV hl je
    rw[eV]
    simp only[if_neg hl]
    exact je
  refine gD _ (Z bc w1) a w' ⟨lW,M2,⟨fun s y e=>?_,aC.size,aC.defers⟩,W.my fun l B e=>(hle _ _ e).2⟩
  obtain⟨eE,eV⟩:=hle _ _ e
  obtain⟨u,hu,jX⟩:=J.fT s y eV
  have b2:t≠s:=fun e=>eE (by rw[e])
  exact⟨u,by simpa[Act.put,wM,b2]using hu,jX⟩
theorem Zq{Q:Exit->Act->World->Prop}{E:c7}{l:List Oper}{S S':ad}{L:List cx}(h:bI P ro ops l S L S')(R:List Nat):
  mu E L->(∀x,ro.gm x->∀a w,ei E x.2 a w->Q (.panic x.1) a w)->(∀a w,ei E S' a w->wpOpsIn (ja P ro) 0 P ops Q R a w)->∀k,(∀j,j<l.length->l[j]?=ops[k+j]?)->∀a w,ei E S a w->
   wpOpsIn (ja P ro) 0 P ops Q (List.range' k l.length++R) a w:=by
 induction h with
 |nil S=>intro _ _ bA k _ a w aE;exact bA a w aE
 | @cons o A S T r l S' aC an bf he h aJ=>
  intro K gD bA k az a w aE
  have bb:ops[k]?=some o:=by simpa using(az 0 (by simp)).symm
  have q9:=aC E S a w an bf (K A (by simp)) aE Q gD
  rw[ek,List.range'_succ,List.cons_append,wpOpsIn_cons]
  unfold wpOpIn
  simp only[bb]
  exact wv (fun a w aE=>aJ (fun B cP=>K B (by simp[cP])) gD bA (k+1) (fun j pX=>by have:=az (j+1) (by simp;omega);simpa[Nat.add_assoc,Nat.add_comm 1 j]using this) a w (aE.fj fun n c e=>by rw[<-he n];exact e)) q9
theorem Zr[jI ro]{aY:ad}{o:Oper}{t:Nat}{g:List Nat}(x:ai)(gM:o.dst=some t)(aM:mw ops aY o=some (g,false)):kA P ro ops o ⟨cQ o++g,aY,[(ab t,some (.aB (.bB false x)))],[]⟩:=by
 intro E S a w an _ dX ⟨V,M,aC,hw⟩ Q gD
 have aT:t<E.cg:=dX.2 t (by simp[cx.jl])
 have tY:=DO (E:=E) an aM (fun n af=>by simp[af]) aC
 unfold lx
 rw[if_neg (by rw[tY];simp)]
 refine⟨DN o a w,?_⟩
 rw[gM]
 exact⟨V,M,tX aC t _ undef aT (.bB _ _ _ (fun h=>by cases h) fun _=>rfl),xY hw t _⟩
theorem so[jI ro]{aY S':ad}{op:Op}{ty:TypeId}{pos:String}{a6:Array Edge}{r:List Oper}{L:List cx}{t:Nat}{bB:Nat×Bool}{g:List Nat}(x:ai)(aM:mw ops aY ⟨some t,op,ty,pos,a6,some bB⟩=some (g,false))(h:bI P ro ops r ((ab t,.aB (.bB false x))::aY) L S'):
  bI P ro ops (⟨some t,op,ty,pos,a6,some bB⟩::r) aY (⟨cQ ⟨some t,op,ty,pos,a6,some bB⟩++g,aY,[(ab t,some (.aB (.bB false x)))],[]⟩::L) S':=
 .cons (Zr x D aM) (fun _ _=>rfl) (fun l aa=>by cases aa) (ra aY _ _) h
theorem jD[jI ro]{ι:Type}{Φ:ι->Prop}{id:Nat}{S ed:ad}{QQ:List cx}{Q:Exit->ad->Prop}{cW:ad}{X:List PanicEntry->Prop}{cD:Call}{t:Nat}{g:FuncId}{args:List ai}{res:ι->ai}{aS cw:ad}{a8:ι->ad}{aA new ds:List Nat}{ty:TypeId}{pos:String}{a6:Array Edge}(k:Nat){r:List Oper}
  (J:bI P ro ops (ops.toList.take k) S QQ ed) (x6:mu E QQ) (Lb:ops.toList.drop k=⟨some t,.call cD,ty,pos,a6,none⟩::r)
  (hz:jq ed true cD g args) (aM:hS P g=true) (an:dI P g args aS Φ res a8 aA X cw) (aK:jC ed aS) (aW:∀i,nR ed aS (a8 i) (res i) aA new ds=true) (uy:nR ed aS cw (.bE []) aA [] ds=true) (hg:tk ed cw cW) (nt:B8 cw cW ds t=true) (Z:∀bc,X bc->ro.gm (bc,cW))
  (bf:(new.all fun l=>ed.all fun p=>hx p.1 ds||(match ed.get p.1 with|some c=> !c.ke l|none=>true))=true) (Lc:(new.all (fun l=>E.aA.all fun m=> !Nat.beq m l)&&Nat.blt t E.cg)=true)
  (W:∀i,Φ i->∃ko S',bI P ro ops r (ed.s8 ds (a8 i) t (res i)) ko S'/\mu E ko/\Q .normal S'):
  c8 P ro E (.region id ops false) S Q:=by
 intro a w aE
 obtain⟨jW,aX,bu,k3,du⟩:=aE.from
 refine wpIn_region ?_
 have gD:∀x,ro.gm x->∀a w,ei jW x.2 a w->rb ro E Q (.panic x.1) a w:=fun x Z a w aE=>.inr ⟨x,Z,rfl,du _ _ _ aE⟩
 have hlen:=congrArg List.length Lb
 simp only[h1,ek]at hlen
 have iA:k<ops.toList.length:=by omega
 have iF:(ops.toList.take k).length=k:=by rw[rv];omega
 have dX:ops[k]?=some ⟨some t,.call cD,ty,pos,a6,none⟩:=by
  have:=congrArg (·[0]?) Lb
  simpa[List.getElem?_drop]using this
 simp only[eL,eZ,Bool.not_eq_true']at Lc
 have h3:∀l∈new,∀n c,ed.get n=some c->n∉ds->¬ov c l:=fun l aa n c af h0 aw=>by
  have:=eZ.1 (eZ.1 bf l aa) (n,c) (kB af)
  simp only[af,Bool.or_eq_true,Bool.not_eq_true']at this
  rcases this with h|h
  ·exact h0 (h6.1 h)
  ·rw[JB aw]at h;cases h
 have ux:∀l∈new,l∉jW.aA:=fun l aa aw=>by
  rw[aX]at aw
  have:=Lc.1 l aa l aw
  simp[ih]at this
 have Zs:Hn ed aS cw cW aA ds t:=⟨uj aK uy,fun p Z=>by
  have J:=s7 nt p Z
  simp only[eL,Bool.not_eq_true',Bool.or_eq_true,ih,decide_eq_false_iff_not]at J
  refine⟨J.1,?_⟩
  rcases KZ hg p Z with W|⟨W,aH⟩
  ·exact .inl W
  ·refine .inr ⟨W,fun aq=>?_,aH⟩
   rcases J.2 with aV|aV
   ·have aV:=h6.1 aV
    rw[qF]at aV
    obtain⟨q,bA,he⟩:=List.mem_map.1 aV
    have key:∀(B:ad) (p:Nat×dz),p∈B->B.get p.1≠none:=by
     intro B
     induction B with
     |nil=>intro p Z;cases Z
     |cons q r aJ=>
      obtain⟨m,d⟩:=q
      intro p Z b2
      rw[ej]at b2
      by_cases aw:m=p.1
      ·rw[if_pos aw]at b2;cases b2
      ·rw[if_neg aw]at b2
       rcases eb.1 Z with rfl|Z
       ·exact aw D
       ·exact aJ p Z b2
    exact key cw q bA (he▸W)
   ·rw[h6.2 aq]at aV;cases aV⟩
 have sq:t<jW.cg:=by rw[bu];have:=Lc.2;rwa[Nat.blt_eq]at this
 have:=Zq (Q:=rb ro E Q) J (List.range' k (ops.toList.length-k)) (x6.mv aX bu) gD (fun a w aE=>by
  rw[show ops.toList.length-k=(ops.toList.length-k-1)+1 by omega,List.range'_succ,wpOpsIn_cons]
  unfold wpOpIn
  simp only[dX]
  refine wv (fun a w aE=>?_) (Zo D D D hz aM an (fun i=>uj aK (aW i)) Zs Z h3 ux sq aE _ gD)
  obtain⟨i,hi,aE⟩:=aE
  obtain⟨ko,S',t2,mz,q⟩:=W i hi
  have ow:ei jW (ed.s8 ds (a8 i) t (res i)) a w:=aE.fj fun n c e=>by rw[<-Eb ed ds (a8 i) t (res i) n];exact e
  have:=DA (Q:=rb ro E Q) t2 (mz.mv aX bu) gD (fun a w aE=>.inl ⟨S',q,du _ _ _ aE⟩) (k+1) (fun j=>by
   have:=congrArg (·[j+1]?) Lb
   simp only[List.getElem?_drop,List.getElem?_cons_succ]at this
   rw[<-this,vx,show k+1+j=k+(j+1) by omega]) a w ow
  rwa[show r.length=ops.toList.length-k-1 by omega]at this) 0 (fun j az=>by rw[pQ (by omega)];simp) a w k3
 rw[iF]at this
 have e:List.range ops.size=List.range' 0 k++List.range' k (ops.toList.length-k):=by
  rw[List.range_eq_range',<-Array.length_toList]
  have:=List.range'_append (s:=0) (m:=k) (n:=ops.toList.length-k) (step:=1)
  simp only[Nat.one_mul,Nat.zero_add]at this
  rw[this];congr 1;omega
 rw[e]
 exact this
theorem dI.nD{ι:Type}{f:FuncId}{args:List ai}{aS cw:ad}{Φ:ι->Prop}{res:ι->ai}{a8:ι->ad}{aA:List Nat}{X:List PanicEntry->Prop}(h:dI P f args aS Φ res a8 aA X cw)(i:ι)(hi:∀j,Φ j->j=i)(Y:∀bc,X bc->False):bw P f args aS (res i) (a8 i) aA:=
 fun V M w b4 vs hw aq=>(h V M w b4 vs hw aq).mono fun e w' h=>by
  rcases h with⟨j,v,br,bo,az,h⟩|⟨bc,_,_,_,aj,_⟩
  ·have:=hi j az;subst this;exact⟨v,br,bo,h⟩
  ·exact(Y bc aj).elim
theorem dI.gm{ι:Type}{f:FuncId}{args:List ai}{aS cw:ad}{Φ:ι->Prop}{res:ι->ai}{a8:ι->ad}{aA:List Nat}{X:List PanicEntry->Prop}(h:dI P f args aS Φ res a8 aA X cw)(hi:∀j,¬Φ j)(r:ai)(eu:ad){QR:List PanicEntry->Prop}(Y:∀bc,X bc->QR bc):fC P f args aS r eu aA QR cw:=
 fun V M w b4 vs hw aq=>(h V M w b4 vs hw aq).mono fun e w' h=>by
  rcases h with⟨j,v,br,bo,az,h⟩|⟨bc,br,bo,J,aj,W⟩
  ·exact(hi j az).elim
  ·exact .inr ⟨bc,br,bo,J,Y bc aj,W⟩
theorem ju{r:List Oper}{T S':ad}{ko:List cx}{R:ad->Prop}(h:bI P ro ops r T ko S')(K:mu E ko)(bA:R S'):∃ko S',bI P ro ops r T ko S'/\mu E ko/\R S':=⟨_,_,h,K,bA⟩
theorem Zt{ι:Type}{Φ:ι->Prop}{X:List PanicEntry->Prop}{f:FuncId}{fn:Func}{c:Code}{args:List ai}{aS cw:ad}{a8:ι->ad}{res:ι->ai}{aA:List Nat}{rs:List ResultVar}(bf:P.funcs[f]?=some fn)(ae:fn.body=some c)(mA:fn.results=rs.toArray)
  (af:args.length<=fn.ntmps) (lB:∀n c,aS.get n=some c->n%2=1)
  (h:∀E:c7,E.aA=aA->E.cg=fn.ntmps->c8 P {gm:=fun x=>X x.1/\∀l B,cw.get (G l)=some (.U B)->∃dS,x.2.get (G l)=some (.U dS)/\bl dS B} E c (j2 0 args++aS) fun e S'=>(e= .normal\/e= .ret)/\∃i,Φ i/\(∃xs,oD P S' rs xs/\∀V M v,bU V M (kO xs) v->bU V M (res i) v)/\∀l B,(a8 i).get (G l)=some (.U B)->∃dS,S'.get (G l)=some (.U dS)/\bl dS B):
  dI P f args aS Φ res a8 aA X cw:=by
 intro V M w b4 vs hw aq
 refine calls_of_wp bf ae ?_
 let E:c7:=(.dd w b4 M (V) (aA) fn.ntmps)
 have kF:ei E (j2 0 args++aS) {tmps:=vs.toArray++Array.replicate (fn.ntmps-vs.toArray.size) undef,defers:=[]} w:=wO fn.ntmps af lB hw aq
 have:=wpIn_wide.1 (xT D (h E D D _ w kF.m))
 refine Code.wp_mono ?_ this
 rintro e a w' (⟨S',⟨he,i,hi,⟨xs,r6,lT⟩,nO⟩,ki⟩|⟨x,Z,rfl,ki⟩)
 rotate_left
 ·obtain⟨br,bo,ix,b8⟩:=ki.dB rfl
  exact⟨ix.defers,.inr ⟨_,br,bo,rfl,Z.1,b8.tl D D D b8.aA Z.2⟩⟩
 obtain⟨br,bo,ix,b8⟩:=ki.dB rfl
 obtain⟨v,aK,eD⟩:=zK ix b8 mA r6
 have sP:bodyPost P fn (fun e w'=>(∃i v br bo,Φ i/\e= .returned v/\bU br bo (res i) v/\cl (.dd w b4 M (V) (aA) 0) (a8 i) br bo w')\/∃bc br bo,e= .panicked bc/\X bc/\cl (.dd w b4 M (V) (aA) 0) cw br bo w') .normal a w':=
  ⟨ix.defers,v,aK,.inl ⟨i,v,br,bo,hi,rfl,lT _ _ _ eD,b8.tl D D D b8.aA nO⟩⟩
 rcases he with rfl|rfl
 ·exact sP
 ·exact sP
section
variable {x y:Operand} {t t' ty e:TypeId} {pos:String} {a6:Array Edge} {bB:Option (Nat×Bool)} {d:Option Nat} {c:Bool}
theorem Pure.QS{p q:ByteArray}{t2:TypeId}(aX:cd S c x (jm p))(bu:cd S c y (jm q))(ae:c=true->p.size+q.size<=9223372036854775807):Pure P S [] ⟨d,.binOp .add t x y t2,ty,pos,a6,bB⟩ c (jm (p++q)):=by
 refine⟨rfl,fun E V M a w h aj=>?_⟩
 have J:=h.val (by simp[Op.operands]) aX
 have W:=h.val (by simp[Op.operands]) bu
 generalize a.eval=aI at*
 refine⟨_,?_,.d _ _ (.v _)⟩
 have:=run_string_add_sum (P:=P) (w:=w) p q (ae aj)
 simp[execOp,J,W,eqGuard,binOp,this]
theorem Pure.QT{k:IntKind}{m n p q:Int}{z u:Operand}{ts:Array TypeId}(aX:cd S c x (aF k m))(bu:cd S c y (aF k n))(dV:cd S c z (aF k p))(iw:cd S c u (aF k q)):Pure P S [] ⟨d,.call ⟨.builtin .max,#[x,y,z,u],ts⟩,ty,pos,a6,bB⟩ c (aF k (max (max (max m n) p) q)):=by
 refine⟨rfl,fun E V M a w h aj=>?_⟩
 have J:=h.val (by simp[Op.operands,Call.operands]) aX
 have W:=h.val (by simp[Op.operands,Call.operands]) bu
 have aH:=h.val (by simp[Op.operands,Call.operands]) dV
 have aV:=h.val (by simp[Op.operands,Call.operands]) iw
 generalize a.eval=aI at*
 refine⟨_,?_,.d _ _ (.v _)⟩
 have:∀m n:Int,(if m<n then n else m)=max m n:=fun m n=>by omega
 simp[execOp,resolve,invoke,builtin,Builtin.max_,Builtin.max2,J,W,aH,aV,go_sem,this]
theorem Pure.Zu{k:IntKind}{m n p q:Int}{z u:Operand}{ts:Array TypeId}(aX:cd S c x (aF k m))(bu:cd S c y (aF k n))(dV:cd S c z (aF k p))(iw:cd S c u (aF k q)):Pure P S [] ⟨d,.call ⟨.builtin .min,#[x,y,z,u],ts⟩,ty,pos,a6,bB⟩ c (aF k (min (min (min m n) p) q)):=by
 refine⟨rfl,fun E V M a w h aj=>?_⟩
 have J:=h.val (by simp[Op.operands,Call.operands]) aX
 have W:=h.val (by simp[Op.operands,Call.operands]) bu
 have aH:=h.val (by simp[Op.operands,Call.operands]) dV
 have aV:=h.val (by simp[Op.operands,Call.operands]) iw
 generalize a.eval=aI at*
 refine⟨_,?_,.d _ _ (.v _)⟩
 have:∀m n:Int,(if n<m then n else m)=min m n:=fun m n=>by omega
 simp[execOp,resolve,invoke,builtin,Builtin.min_,Builtin.min2,J,W,aH,aV,go_sem,this]
theorem Pure.Hx{u:Value}{z:bg}{k:TypeDesc}(hu:P.underlying t'=some k)(K:∀m,k≠ .interface m)(bd:∀M,ey M z u)(aX:cd S c x (.d (.v (.iface t' u)))):Pure P S [] ⟨d,.typeAssert x t t' true,ty,pos,a6,bB⟩ c (.bE [.d z,bk true]):=by
 refine⟨rfl,fun E V M a w h aj=>?_⟩
 have J:=h.val (by simp[Op.operands]) aX
 generalize a.eval=aI at*
 have:(Instr.typeAssert (.iface t' u) t t' true).run P w= .ok (.tuple #[u,.bool true]) w:=by
  unfold Instr.typeAssert
  simp only[de,run_underlying hu,Result.andThen]
  cases k<;>first|(exact absurd D (K _))|simp
 refine⟨.tuple #[u,.bool true],by simp only[execOp,J,de,this,Result.andThen];rfl,?_⟩
 refine .bE _ [u,.bool true] D fun j p q Z bA=>?_
 match j with
 |0=>simp at Z bA;subst Z;subst bA;exact .d _ _ (bd M)
 |1=>simp at Z bA;subst Z;subst bA;exact .d _ _ (.v _)
 |j+2=>simp at Z
end
end
abbrev h8{α:Type}[Inhabited α](n:Nat)(f:α->List bg)(l:List α):bg:=.cK n l.length fun i=>f (l.getD i default)
abbrev yD{α:Type}[Inhabited α](N n:Nat)(b5:α->Prop)(f:α->List bg):bg:=qJ (fun l:List α=>l.length<=N/\∀x∈l,b5 x) (h8 n f)
def Au{α:Type}(E:List bg)(b5:α->Prop)(f:α->List bg):Prop:=∀(M:Mem) (c:Nat->Value),(∀(j:Nat) (x:bg),E[j]?=some x->ey M x (c j))->∃a,b5 a/\∀(j:Nat) (y:bg),(f a)[j]?=some y->ey M y (c j)
theorem Av{α:Type}[Inhabited α]{E:List bg}{b5:α->Prop}{f:α->List bg}(nC:Au E b5 f){N n len:Nat}{g:Nat->List bg}(af:E.length=n)(bf:∀a,(f a).length=n)(aV:len<=N)(aM:∀i,i<len->jP (g i) E):j5 (.cK n len g) (yD N n b5 f):=fun M v h=>by
 have h:=j5.cK (g':=fun _=>E) aM M v h
 cases h with
 |ji _ _ a cap=>exact yw [] ⟨Nat.zero_le _,fun x Y=>by cases Y⟩ ⟨fun _ e=>(nomatch e),fun _ e=>(nomatch e)⟩ (.ji _ _ a cap)
 |cK _ _ _ b o cap aj aa c aw aq=>
  have Y:∀i,∃a:α,i<len->(b5 a/\∀(j:Nat) (y:bg),(f a)[j]?=some y->ey M y (c i j)):=fun i=>by
   by_cases hi:i<len
   ·obtain⟨a,aC,bb⟩:=nC M (c i) fun j x Y=>aq i j x hi Y
    exact⟨a,fun _=>⟨aC,bb⟩⟩
   ·exact⟨default,fun h=>absurd h hi⟩
  obtain⟨k,K⟩:=Classical.axiomOfChoice Y
  have hlen:((List.range len).map k).length=len:=by simp
  have Hs:∀i,i<len->((List.range len).map k).getD i default=k i:=fun i hi=>by simp[cN,hi]
  refine yw ((List.range len).map k) ⟨by rw[hlen];exact aV,fun x Y=>?_⟩ ⟨fun _ e=>(nomatch e),fun _ e=>(nomatch e)⟩ ?_
  ·obtain⟨i,hi,rfl⟩:=List.mem_map.1 Y
   exact(K i (List.mem_range.1 hi)).1
  ·unfold h8
   rw[hlen]
   refine .cK n len _ b o cap aj (fun i hi=>bf _) c aw fun i j y hi ak=>?_
   rw[Hs i hi]at ak
   exact(K i hi).2 j y ak
theorem vz{M:Mem}{v:Value}(h:ey M fi v):∃n,e1 n/\v= .int .i64 n:=by
 obtain⟨n,af,bb⟩:=ld M _ h
 exact⟨n,af,yx bb⟩
theorem ET{M:Mem}{v:Value}(h:ey M n0 v):∃n,v= .string n:=by
 obtain⟨n,af,bb⟩:=ld M _ h
 exact⟨n,yx bb⟩
structure cA where
 name:ByteArray
 lo:Int
 hi:Int
structure fQ where
 name:ByteArray
 size:Int
 lo:Int
 hi:Int
structure e2 where
 name:ByteArray
 dU:List Int
structure eM where
 kind:Int
 name:ByteArray
 index:Int
 x:aR
structure aD where
 name:ByteArray
 cR:Int
 tail:Int
 params:List cA
 bt:List cA
 a1:List fQ
 bM:List e2
 ah:List eM
instance:Inhabited cA:=⟨⟨⟨#[]⟩,0,0⟩⟩
instance:Inhabited fQ:=⟨⟨⟨#[]⟩,0,0,0⟩⟩
instance:Inhabited e2:=⟨⟨⟨#[]⟩,[]⟩⟩
instance:Inhabited eM:=⟨⟨0,⟨#[]⟩,0,default⟩⟩
instance:Inhabited aD:=⟨⟨⟨#[]⟩,0,0,[],[],[],[],[]⟩⟩
abbrev av(n:Int):bg:=.v (.int .i64 n)
abbrev ev(s:ByteArray):bg:=.v (.string s)
def tq(b:cA):List bg:=[ev b.name,av b.lo,av b.hi]
def p8(b:fQ):List bg:=[ev b.name,av b.size,av b.lo,av b.hi]
abbrev ch(l:List Int):bg:=h8 1 (fun n=>[av n]) l
def xa(t:e2):List bg:=[ev t.name,ch t.dU]
def jf(s:eM):List bg:=[av s.kind,ev s.name,av s.index,av s.x.kind,ev s.x.name,av s.x.index,av s.x.n,rB s.x.l]
abbrev dN:List cA->bg:=h8 3 tq
abbrev hJ:List fQ->bg:=h8 4 p8
abbrev ia:List e2->bg:=h8 2 xa
abbrev iS:List eM->bg:=h8 8 jf
def jQ(p:aD):List bg:=[ev p.name,av p.cR,av p.tail,dN p.params,dN p.bt,hJ p.a1,ia p.bM,iS p.ah]
abbrev fR(p:aD):bg:=.agg (jQ p)
def cA.b5(b:cA):Prop:=e1 b.lo/\e1 b.hi
def fQ.b5(b:fQ):Prop:=e1 b.size/\e1 b.lo/\e1 b.hi
def e2.b5(t:e2):Prop:=t.dU.length<=65536/\∀x∈t.dU,e1 x
def eM.b5(s:eM):Prop:=e1 s.kind/\e1 s.index/\s.x.b5
structure aD.b5(p:aD):Prop where
 n2:e1 p.cR
 tail:e1 p.tail
 nf:p.params.length<=65536
 hH:p.bt.length<=65536
 gH:p.a1.length<=65536
 cg:p.bM.length<=65536
 kJ:p.ah.length<=65536
 params:∀b∈p.params,b.b5
 bt:∀b∈p.bt,b.b5
 a1:∀b∈p.a1,b.b5
 bM:∀b∈p.bM,b.b5
 ah:∀b∈p.ah,b.b5
abbrev oK:List bg:=[n0,fi,fi]
abbrev vA:List bg:=[n0,fi,fi,fi]
abbrev vB:List bg:=[n0,yD 65536 1 e1 fun n=>[av n]]
abbrev vC:List bg:=[fi,n0,fi,fi,n0,fi,fi,Cb]
abbrev QU:bg:=yD 65536 3 cA.b5 tq
abbrev Zv:bg:=yD 65536 4 fQ.b5 p8
abbrev Zw:bg:=yD 65536 2 e2.b5 xa
abbrev Zx:bg:=yD 65536 8 eM.b5 jf
abbrev xb:List bg:=[n0,fi,fi,QU,QU,Zv,Zw,Zx]
theorem Zy:Au [fi] e1 (fun n:Int=>[av n]):=fun M c h=>by
 obtain⟨n,af,e⟩:=vz (h 0 _ D)
 exact⟨n,af,fun j y ak=>by
  match j with
  |0=>simp at ak;subst ak;rw[e];exact .v _
  |j+1=>simp at ak⟩
theorem QV:Au oK cA.b5 tq:=fun M c h=>by
 obtain⟨s,e0⟩:=ET (h 0 _ D)
 obtain⟨a,aC,aX⟩:=vz (h 1 _ D)
 obtain⟨b,ae,bu⟩:=vz (h 2 _ D)
 refine⟨⟨s,a,b⟩,⟨aC,ae⟩,fun j y ak=>?_⟩
 match j with
 |0=>simp[tq]at ak;subst ak;rw[e0];exact .v _
 |1=>simp[tq]at ak;subst ak;rw[aX];exact .v _
 |2=>simp[tq]at ak;subst ak;rw[bu];exact .v _
 |j+3=>simp[tq]at ak
theorem Zz:Au vA fQ.b5 p8:=fun M c h=>by
 obtain⟨s,e0⟩:=ET (h 0 _ D)
 obtain⟨a,aC,aX⟩:=vz (h 1 _ D)
 obtain⟨b,ae,bu⟩:=vz (h 2 _ D)
 obtain⟨d,aq,dV⟩:=vz (h 3 _ D)
 refine⟨⟨s,a,b,d⟩,⟨aC,ae,aq⟩,fun j y ak=>?_⟩
 match j with
 |0=>simp[p8]at ak;subst ak;rw[e0];exact .v _
 |1=>simp[p8]at ak;subst ak;rw[aX];exact .v _
 |2=>simp[p8]at ak;subst ak;rw[bu];exact .v _
 |3=>simp[p8]at ak;subst ak;rw[dV];exact .v _
 |j+4=>simp[p8]at ak
theorem ZA:Au vB e2.b5 xa:=fun M c h=>by
 obtain⟨s,e0⟩:=ET (h 0 _ D)
 obtain⟨l,aa,aX⟩:=ld M _ (h 1 _ D)
 refine⟨⟨s,l⟩,aa,fun j y ak=>?_⟩
 match j with
 |0=>simp[xa]at ak;subst ak;rw[e0];exact .v _
 |1=>simp[xa]at ak;subst ak;exact aX
 |j+2=>simp[xa]at ak
theorem ZB:Au vC eM.b5 jf:=fun M c h=>by
 obtain⟨a,aC,e0⟩:=vz (h 0 _ D)
 obtain⟨s,aX⟩:=ET (h 1 _ D)
 obtain⟨b,ae,bu⟩:=vz (h 2 _ D)
 obtain⟨x,Y,aj⟩:=K2 (M:=M) (c:=fun j=>c (3+j)) fun j y ak=>by
  match j,ak with
  |0,ak=>exact h 3 _ ak
  |1,ak=>exact h 4 _ ak
  |2,ak=>exact h 5 _ ak
  |3,ak=>exact h 6 _ ak
  |4,ak=>exact h 7 _ ak
  |j+5,ak=>simp at ak
 rw[yz]at aj
 refine⟨⟨a,s,b,x⟩,⟨aC,ae,Y⟩,fun j y ak=>?_⟩
 match j with
 |0=>simp[jf]at ak;subst ak;rw[e0];exact .v _
 |1=>simp[jf]at ak;subst ak;rw[aX];exact .v _
 |2=>simp[jf]at ak;subst ak;rw[bu];exact .v _
 |3=>exact aj 0 y ak
 |4=>exact aj 1 y ak
 |5=>exact aj 2 y ak
 |6=>exact aj 3 y ak
 |7=>exact aj 4 y ak
 |j+8=>simp[jf]at ak
theorem ZC:Au xb aD.b5 jQ:=fun M c h=>by
 obtain⟨s,e0⟩:=ET (h 0 _ D)
 obtain⟨a,aC,aX⟩:=vz (h 1 _ D)
 obtain⟨b,ae,bu⟩:=vz (h 2 _ D)
 obtain⟨jv,aH,dV⟩:=ld M _ (h 3 _ D)
 obtain⟨Hy,aV,iw⟩:=ld M _ (h 4 _ D)
 obtain⟨Aw,db,sQ⟩:=ld M _ (h 5 _ D)
 obtain⟨ZD,fc,uB⟩:=ld M _ (h 6 _ D)
 obtain⟨ZE,gE,Ld⟩:=ld M _ (h 7 _ D)
 refine⟨⟨s,a,b,jv,Hy,Aw,ZD,ZE⟩,⟨aC,ae,aH.1,aV.1,db.1,fc.1,gE.1,aH.2,aV.2,db.2,fc.2,gE.2⟩,fun j y ak=>?_⟩
 match j with
 |0=>simp[jQ]at ak;subst ak;rw[e0];exact .v _
 |1=>simp[jQ]at ak;subst ak;rw[aX];exact .v _
 |2=>simp[jQ]at ak;subst ak;rw[bu];exact .v _
 |3=>simp[jQ]at ak;subst ak;exact dV
 |4=>simp[jQ]at ak;subst ak;exact iw
 |5=>simp[jQ]at ak;subst ak;exact sQ
 |6=>simp[jQ]at ak;subst ak;exact uB
 |7=>simp[jQ]at ak;subst ak;exact Ld
 |j+8=>simp[jQ]at ak
abbrev QW:bg:=yD 65536 8 aD.b5 jQ
def xc(k:Int):Bool:=decide (k=2)||decide (k=3)||decide (k=4)||decide (k=5)
def Ax(k:Int):Bool:=decide (k=8)||decide (k=9)
def xd(k:Int):Bool:=decide (k=6)||decide (k=7)||decide (k=10)||decide (k=13)||decide (k=14)||decide (k=18)
def yE(k:Int):Bool:=decide (k=11)||decide (k=12)||decide (k=15)||decide (k=16)||decide (k=17)
def mg(k:Int):Int:=bif decide (k=1)then 0 else bif xc k then 0 else bif Ax k then 1 else bif xd k then 1 else bif yE k then 2 else bif decide (k=19)then 4 else-1
def n3(k:Int):Bool:=bif decide (k=1)then false else bif xc k then true else Ax k
theorem ng{b c:Bool}(h:b=c):∀V M v,bU V M (bk b) v->bU V M (bk c) v:=by subst h;exact cM
mutual
def n4(c:aR->Bool):aR->Bool
 | .mk k s i n l=>c (.mk k s i n l)&&EU c l
def EU(c:aR->Bool):List aR->Bool
 |[]=>true
 |x::r=>n4 c x&&EU c r
end
mutual
def dY:aR->Nat
 | .mk _ _ _ _ l=>jE l+1
def jE:List aR->Nat
 |[]=>0
 |x::r=>dY x+jE r
end
theorem EV(c:aR->Bool)(x:aR):n4 c x=(c x&&EU c x.l):=by cases x;rfl
theorem tr(x:aR):dY x=jE x.l+1:=by cases x;rfl
theorem EW(c:aR->Bool):∀l,EU c l=l.all (n4 c)
 |[]=>rfl
 |x::r=>by simp[EU,EW c r]
theorem uC:∀l,jE l=(l.map dY).sum
 |[]=>rfl
 |x::r=>by simp[jE,uC r]
theorem aR.ind{P:aR->Prop}(h:∀x:aR,(∀y∈x.l,P y)->P x):∀x,P x:=fun x=>by
 have key:∀n x,dY x<=n->P x:=by
  intro n
  induction n with
  |zero=>intro x Y;rw[tr]at Y;omega
  |succ n aJ=>
   intro x Y
   refine h x fun y ak=>aJ y ?_
   have J:dY y<=jE x.l:=by
    revert ak
    generalize x.l=l
    induction l with
    |nil=>intro h;cases h
    |cons z r aJ=>
     intro h
     simp only[jE]
     rcases eb.1 h with rfl|h
     ·omega
     ·have:=aJ h;omega
   rw[tr]at Y
   omega
 exact key _ x (Nat.le_refl _)
theorem aR.b5.part{x:aR}(h:x.b5):∀y∈x.l,y.b5:=by cases h with|mk _ _ _ _ h=>exact h
theorem aR.b5.len{x:aR}(h:x.b5):x.l.length<=4:=by cases h with|mk _ _ _ h _=>exact h
theorem aR.b5.kind{x:aR}(h:x.b5):e1 x.kind:=by cases h with|mk h _ _ _ _=>exact h
theorem aR.b5.ZF{x:aR}(h:x.b5):e1 x.index:=by cases h with|mk _ h _ _ _=>exact h
theorem aR.b5.Cg{x:aR}(h:x.b5):e1 x.n:=by cases h with|mk _ _ h _ _=>exact h
def hp(bc:List PanicEntry):Prop:=∃n:Int,e1 n/\n≠0/\bc=[{v:=.iface 30 (.int .i64 n),recovered:=false}]
abbrev Ch(P:Program)(f:FuncId)(args:List ai)(b:Bool):Prop:=dI (ι:=Unit) P f args [] (fun _=>b=true) (fun _=>.bE []) (fun _=>[]) [] (fun bc=>hp bc/\b=false) []
abbrev cr(x:aR):List bg:=[av x.kind,ev x.name,av x.index,av x.n,rB x.l]
theorem iT{l:List aR}{i:Nat}(h:i<l.length):ai.cc ((vv l).getD i [])= .cc (cr (l.getD i default)):=by
 rw[Hr l i h,cN,dx h,Option.getD_some,yz]
theorem dJ{α:Type}[Inhabited α]{l:List α}{i:Nat}(h:i<l.length):l.getD i default∈l:=by rw[cN,dx h];exact List.getElem_mem h
theorem Ci{α:Type}[Inhabited α]{l:List α}{p:α->Bool}{n:Nat}(af:l.length<=n)(h:∀j,j<n->j<l.length->p (l.getD j default)=true):l.all p=true:=by
 rw[eZ]
 intro y ak
 obtain⟨j,az,rfl⟩:=List.getElem_of_mem ak
 have:=h j (by omega) az
 rwa[cN,dx az]at this
theorem Ay{α:Type}[Inhabited α]{l:List α}{p:α->Bool}{i:Nat}(h:i<l.length)(Z:p (l.getD i default)=false):l.all p=false:=List.all_eq_false.2 ⟨_,dJ h,by simp only[Z,Bool.false_eq_true,not_false_eq_true]⟩
def eI(n:Int):Int:=IntKind.wrap .i64 n
theorem ZG(a b:Int):eI (eI a+b)=eI (a+b):=by
 unfold eI
 simp[IntKind.wrap,IntKind.bits,IntKind.signed]
 have key:((if 9223372036854775808<=a%18446744073709551616 then a%18446744073709551616-18446744073709551616 else a%18446744073709551616)+b)%18446744073709551616=(a+b)%18446744073709551616:=by split<;>omega
 rw[key]
theorem nE{n:Int}(h:e1 n):eI n=n:=IntKind.wrap_in .i64 n h
def Hz(l:fQ):Bool:=bif decide (1<=l.size)then decide (l.size<=65536)else false
def Le(t:e2):Bool:=bif decide ((1:Int)<=t.dU.length)then decide ((t.dU.length:Int)<=1024)else false
def QX(s:eM):Bool:=decide (eI (0+dY s.x)<=512)
theorem ZH(a b:Bool):some (dz.aB (bk (bif a then b else false)))=some (dz.aB (bk (a&&b))):=by cases a<;>rfl
theorem QY(a b c:Bool):some (dz.aB (bk (bif(bif a then b else false)then c else false)))=some (dz.aB (bk (a&&bif b then c else false))):=by cases a<;>rfl
def Lf(p:aD):Int:=max (max (max (p.params.length:Int) p.bt.length) p.a1.length) p.bM.length
def HA(p:aD):Bool:=bif bif bif bif bif decide (Lf p<=16)then decide ((p.ah.length:Int)<=64)else false then decide (0<=p.cR)else false then decide (p.cR<=4096)else false then decide (-1<=p.tail)else false then decide (p.tail<=1048576)else false
def xe(p:aD):Bool:=HA p&&p.a1.all Hz&&p.bM.all Le&&p.ah.all QX
theorem Lg{α:Type}[Inhabited α]{l:List α}{f:α->Bool}{i:Nat}(h:i<l.length):(l.take (i+1)).all f=((l.take i).all f&&f (l.getD i default)):=by
 rw[List.take_add_one,List.all_append,cN,dx h]
 simp
theorem xf{l:List aR}{i:Nat}(h:i<l.length):jE (l.take (i+1))=jE (l.take i)+dY (l.getD i default):=by
 rw[uC,uC,List.take_add_one,List.map_append,List.sum_append,cN,dx h]
 simp
def tt(x:aR):Bool:=bif bif bif decide ((x.l.length:Int)=mg x.kind)then(bif n3 x.kind then true else decide (x.name=⟨#[]⟩))else false then decide (0<=x.n)else false then(bif(bif decide (x.kind=1)then true else decide (x.kind=18))then true else decide (x.n=0))else false
def xg(s:eM):Bool:=bif bif decide (1<=s.kind)then decide (s.kind<=4)else false then(bif !decide (s.kind=4)then true else decide (s.name=⟨#[]⟩))else false
def Cj(p:aD):Bool:=p.ah.all fun s=>xg s&&n4 tt s.x
def sr(n:Int):Bool:=bif decide (-2147483648<=n)then decide (n<=2147483647)else false
def yF(b:cA):Bool:=bif bif sr b.lo then sr b.hi else false then decide (b.lo<=b.hi)else false
def oL(l:fQ):cA:=⟨⟨#[]⟩,l.lo,l.hi⟩
def Ck(t:e2):Bool:= !t.dU.any fun n=> !sr n
def yG(x:aR):Bool:=bif decide (x.n<=2147483648)then(bif !decide (x.kind=18)then true else decide (0<x.n))else false
def ss(p:aD):Bool:=(p.params++p.bt++p.a1.map oL).all yF&&p.bM.all Ck&&p.ah.all fun s=>n4 yG s.x
abbrev n5(l:List cA):List bz:=[.ds (l.map fun b=>ev b.name),.cv .i64 (l.map cA.lo),.cv .i64 (l.map cA.hi)]
theorem QZ(a b:List cA):ma (n5 a) (n5 b)=n5 (a++b):=by simp[ma,nz,n5,bz.qB]
theorem ZI(l:List cA):∀c∈n5 l,c.len=l.length:=by
 intro c aj
 simp only[n5,eb,List.not_mem_nil,or_false]at aj
 rcases aj with rfl|rfl|rfl<;>simp[bz.len]
theorem Lh(l:List cA)(j:Nat)(az:j<l.length):(n5 l).map (bz.at · j)=tq (l.getD j default):=by
 simp[n5,tq,bz.at,cN,az]
def Az{α:Type}(c:α->Bool)(l:List α):Int:=match l.findIdx? c with
 |some i=>i
 |none=>-1
theorem ZJ{α:Type}[Inhabited α]{c:α->Bool}{l:List α}{i:Nat}(hi:i<l.length)(h:c (l.getD i default)=true)(ae:∀j,j<i->c (l.getD j default)=false):Az c l=i:=by
 have:l.findIdx? c=some i:=by
  rw[List.findIdx?_eq_some_iff_getElem]
  refine⟨hi,by rwa[cN,dx hi]at h,fun j az=>?_⟩
  have:=ae j az
  rw[cN,dx (by omega)]at this
  simpa using this
 simp[Az,this]
theorem ZK{α:Type}[Inhabited α]{c:α->Bool}{l:List α}(ae:∀j,j<l.length->c (l.getD j default)=false):Az c l=-1:=by
 have:l.findIdx? c=none:=by
  rw[List.findIdx?_eq_none_iff]
  intro x Y
  obtain⟨j,az,rfl⟩:=List.getElem_of_mem Y
  have:=ae j az
  rwa[cN,dx az]at this
 simp[Az,this]
theorem ZL{α:Type}{c:α->Bool}{l:List α}:decide (0<=Az c l)=l.any c:=by
 unfold Az
 cases h:l.findIdx? c with
 |none=>
  rw[List.findIdx?_eq_none_iff]at h
  have:l.any c=false:=List.any_eq_false.2 fun x Y=>by simp[h x Y]
  rw[this];rfl
 |some i=>
  obtain⟨hi,J,_⟩:=List.findIdx?_eq_some_iff_getElem.1 h
  have:l.any c=true:=List.any_eq_true.2 ⟨_,List.getElem_mem hi,J⟩
  rw[this];simp
theorem Q0{α:Type}{L:List (List α)}{i:Nat}(h:i<L.length):(L.take (i+1)).flatten=(L.take i).flatten++L.getD i []:=by
 rw[List.take_add_one,dx h,cN,dx h,List.flatten_append]
 simp
theorem Q1{α:Type}(L:List (List α))(i:Nat):(L.take i).flatten.length<=L.flatten.length:=by
 conv=>rhs;rw[<-List.take_append_drop i L,List.flatten_append,ef]
 omega
theorem uD{α:Type}[Inhabited α]{l:List α}{i:Nat}(h:i<l.length):l.take (i+1)=l.take i++[l.getD i default]:=by
 rw[List.take_add_one,dx h,cN,dx h];rfl
structure pA where
 kind:Int
 index:Int
 rX:Int
instance:Inhabited pA:=⟨⟨0,0,0⟩⟩
abbrev jw(e:pA):bg:=.agg [av e.kind,av e.index,av e.rX]
abbrev gj:=ByteArray×pA
instance:Inhabited gj:=⟨(⟨#[]⟩,default)⟩
def b7{α:Type}[Inhabited α](kind:Int)(kJ:α->ByteArray)(l:List α)(n:Nat):List gj:=(List.range n).map fun i=>(kJ (l.getD i default),⟨kind,i,0⟩)
def n6(l:List eM)(n:Nat):List gj:=(List.range n).flatMap fun i=>bif decide ((l.getD i default).kind=1)then[((l.getD i default).name,⟨5,i,i+1⟩)]else[]
theorem tu{α:Type}[Inhabited α](kind:Int)(kJ:α->ByteArray)(l:List α)(n:Nat):b7 kind kJ l (n+1)=b7 kind kJ l n++[(kJ (l.getD n default),⟨kind,n,0⟩)]:=by simp[b7,List.range_succ]
theorem AA(l:List eM)(n:Nat):n6 l (n+1)=n6 l n++bif decide ((l.getD n default).kind=1)then[((l.getD n default).name,⟨5,n,n+1⟩)]else[]:=by simp[n6,List.range_succ]
theorem Cl{α:Type}[Inhabited α](kind:Int)(kJ:α->ByteArray)(l:List α)(n:Nat):(b7 kind kJ l n).length=n:=by simp[b7]
theorem Li(l:List eM):∀n,(n6 l n).length<=n
 |0=>by simp[n6]
 |n+1=>by
  have:=Li l n
  rw[AA,ef]
  cases decide ((l.getD n default).kind=1)<;>simp<;>omega
def gV(p:aD):List gj:=b7 3 cA.name p.params p.params.length++b7 4 cA.name p.bt p.bt.length++b7 8 fQ.name p.a1 p.a1.length++b7 9 e2.name p.bM p.bM.length++n6 p.ah p.ah.length
def EX(l:List gj):Bool:=(List.range l.length).all fun i=> !(cb (l.take i) (l.getD i default).1).isSome
abbrev p9(l:List gj):List bz:=[.ds (l.map fun p=>ev p.1)]
abbrev su(l:List gj):List bz:=[.cv .i64 (l.map fun p=>p.2.kind),.cv .i64 (l.map fun p=>p.2.index),.cv .i64 (l.map fun p=>p.2.rX)]
theorem ZM(l:List gj)(s:ByteArray)(e:pA):ma (p9 l) [.ds [ev s]]=p9 (l++[(s,e)]):=by simp[ma,nz,p9,bz.qB]
theorem ZN(l:List gj)(s:ByteArray)(e:pA):ma (su l) [.cv .i64 [e.kind],.cv .i64 [e.index],.cv .i64 [e.rX]]=su (l++[(s,e)]):=by simp[ma,nz,su,bz.qB]
abbrev oM(l:List gj):ad:=[(G 3,.U (.cells [.aQ 51 l.length,.aQ 52 l.length])),(G 51,.U (.bG 1 l.length (p9 l))),(G 52,.U (.bG 3 l.length (su l)))]
theorem ZO{l:List gj}{i:Nat}(hi:i<l.length)(aM:cb (l.take i) (l.getD i default).1=none):dM (l.take i) (l.getD i default).1 (l.getD i default).2=l.take (i+1):=by
 rw[EO aM,uD hi]
theorem ZP(l:List gj){j:Nat}(az:j<l.length):(su l).map (bz.at · j)=[av (l.getD j default).2.kind,av (l.getD j default).2.index,av (l.getD j default).2.rX]:=by
 simp[su,bz.at,cN,az]
theorem Q2(l:List gj){j:Nat}(az:j<l.length):(p9 l).map (bz.at · j)=[ev (l.getD j default).1]:=by
 simp[p9,bz.at,cN,az]
def Q3:ByteArray:=⟨#[32,112,114,111,99,101,115,115,111,114,32,108,97,116,101,110,99,121,32,116,97,105,108,32,102,111,114,101,118,101,114,32,112,97,114,97,109,32,115,116,97,116,101,32,108,105,110,101,32,116,97,98,108,101,32,102,114,111,109,32,116,111,32,108,101,116,32,115,101,116,32,112,117,115,104,32,111,117,116,32,105,102,32,116,104,101,110,32,101,108,115,101,32,105,110,32,115,105,100,101,32,116,97,112,32,108,111,111,107,32,115,97,116,32,109,105,110,32,109,97,120,32,97,98,115,32]⟩
def Q4(k:Int):Bool:=bif decide (k=8)then true else decide (k=9)
def Cm(ok:Bool)(i:Int)(t:pA)(k:Int):Bool:=bif bif ok then decide (t.rX<=i)else false then(bif decide (t.kind=k)then true else bif !Q4 t.kind then !Q4 k else false)else false
def nh(d:List gj)(i:Int)(k:Int)(s:ByteArray):Option (Int×Int):=bif n3 k then(match cb d s with
 |some t=>bif Cm true i t k then some (t.kind,t.index)else none
 |none=>none)else some (k,0)
mutual
def kp(d:List gj)(i:Int):aR->Option aR
 | .mk k s _ n l=>match nh d i k s,ni d i l with
  |some h,some r=>some (.mk h.1 s h.2 n r)
  |_,_=>none
def ni(d:List gj)(i:Int):List aR->Option (List aR)
 |[]=>some []
 |x::r=>match kp d i x,ni d i r with
  |some y,some z=>some (y::z)
  |_,_=>none
end
theorem AB(d:List gj)(i:Int)(x:aR):kp d i x=match nh d i x.kind x.name,ni d i x.l with
 |some h,some r=>some (.mk h.1 x.name h.2 x.n r)
 |_,_=>none:=by cases x;rfl
theorem Q5(d:List gj)(i:Int):∀(a:List aR) (x:aR),ni d i (a++[x])=match ni d i a,kp d i x with
  |some z,some y=>some (z++[y])
  |_,_=>none
 |[],x=>by simp only[List.nil_append,ni];cases kp d i x<;>rfl
 |a::r,x=>by
  simp only[List.cons_append,ni,Q5 d i r x]
  cases kp d i a<;>cases ni d i r<;>cases kp d i x<;>rfl
theorem Lj{d:List gj}{i:Int}:∀{l z:List aR},ni d i l=some z->z.length=l.length
 |[],z,h=>by simp[ni]at h;subst h;rfl
 |x::r,z,h=>by
  simp only[ni]at h
  cases J:kp d i x with
  |none=>rw[J]at h;cases h
  |some y=>
   cases W:ni d i r with
   |none=>rw[J,W]at h;cases h
   |some w=>rw[J,W]at h;injection h with h;subst h;simp[Lj W]
theorem Q6{d:List gj}{i:Int}:∀{l:List aR} {x:aR},x∈l->kp d i x=none->ni d i l=none
 |y::r,x,Y,h=>by
  simp only[ni]
  rcases eb.1 Y with rfl|Y
  ·rw[h]
  ·rw[Q6 Y h];cases kp d i y<;>rfl
abbrev yH(l:List aR):List bz:=[.cv .i64 (l.map aR.kind),.ds (l.map fun x=>ev x.name),.cv .i64 (l.map aR.index),.cv .i64 (l.map aR.n),.ds (l.map fun x=>rB x.l)]
theorem ZQ(l:List aR)(x:aR):ma (yH l) [.cv .i64 [x.kind],.ds [ev x.name],.cv .i64 [x.index],.cv .i64 [x.n],.ds [rB x.l]]=yH (l++[x]):=by simp[ma,nz,yH,bz.qB]
theorem ZR(l:List aR){j:Nat}(az:j<l.length):(yH l).map (bz.at · j)=(vv l).getD j []:=by
 rw[Hr l j az,yz]
 simp[yH,bz.at,cN,az]
abbrev mh:=List ((Int×Int)×Bool)
abbrev qM(b:Bool):bg:=.v (.bool b)
def tv(k:Int):Bool:=bif decide (k=2)then true else decide (k=3)
def qa(k:Int):Int:=bif decide (k=2)then 4 else 8
def kK(d:List gj)(gP:mh)(bQ:Bool)(s:eM):Option (Int×mh):=bif tv s.kind then(match cb d s.name with
 |some t=>bif decide (t.kind=qa s.kind)then(bif(bif !bQ then !(cb gP (t.kind,t.index)).getD false else false)then some (t.index,dM gP (t.kind,t.index) true)else none)else none
 |none=>none)else some (0,gP)
def vD(d:List gj)(i:Int)(gP:mh)(bQ:Bool)(s:eM):Option (eM×mh):=match kp d i s.x,kK d gP bQ s with
 |some x,some r=>bif !bQ then some (⟨s.kind,s.name,r.1,x⟩,r.2)else none
 |_,_=>none
def jR(d:List gj)(l:List eM):Nat->Option (mh×Bool×List eM)
 |0=>some ([],false,[])
 |n+1=>match jR d l n with
  |some q=>(vD d n q.1 q.2.1 (l.getD n default)).map fun r=>(r.2,decide ((l.getD n default).kind=4),q.2.2++[r.1])
  |none=>none
theorem EY{d:List gj}{l:List eM}{n m:Nat}(h:n<=m)(af:jR d l n=none):jR d l m=none:=by
 induction h with
 |refl=>exact af
 |step _ aJ=>simp only[jR,aJ]
def Cn(q:Option (mh×Bool×List eM))(p:aD):Option aD:=match q with
 |some q=>bif q.2.1 then some {p with ah:=q.2.2}else none
 |none=>none
def rE(uE:aD->Bool)(p:aD):Option aD:=bif Cj p&&xe p&&uE p&&ss p then Cn (jR (gV p) p.ah p.ah.length) p else none
abbrev xh(l:List eM):List bz:=[.cv .i64 (l.map eM.kind),.ds (l.map fun s=>ev s.name),.cv .i64 (l.map eM.index),.cv .i64 (l.map fun s=>s.x.kind),.ds (l.map fun s=>ev s.x.name),.cv .i64 (l.map fun s=>s.x.index),.cv .i64 (l.map fun s=>s.x.n),.ds (l.map fun s=>rB s.x.l)]
theorem ZS(l:List eM)(s:eM):ma (xh l) [.cv .i64 [s.kind],.ds [ev s.name],.cv .i64 [s.index],.cv .i64 [s.x.kind],.ds [ev s.x.name],.cv .i64 [s.x.index],.cv .i64 [s.x.n],.ds [rB s.x.l]]=xh (l++[s]):=by simp[ma,nz,xh,bz.qB]
theorem ZT(l:List eM)(j:Nat)(az:j<l.length):(xh l).map (bz.at · j)=jf (l.getD j default):=by
 simp[xh,jf,bz.at,cN,az]
theorem EZ{d:List gj}{l:List eM}:∀{n:Nat} {q:mh×Bool×List eM},jR d l n=some q->q.2.2.length=n
 |0,q,h=>by simp[jR]at h;subst h;rfl
 |n+1,q,h=>by
  simp only[jR]at h
  cases J:jR d l n with
  |none=>rw[J]at h;cases h
  |some eE=>
   rw[J]at h
   simp only[Option.map_eq_some_iff]at h
   obtain⟨r,_,rfl⟩:=h
   simp[EZ J]
def mO{α:Type}[Inhabited α](c:α->α->Bool)(a b:List α):Bool:=decide (a.length=b.length)&&(List.range a.length).all fun i=>c (a.getD i default) (b.getD i default)
theorem Co{α:Type}[Inhabited α]{c:α->α->Bool}{a b:List α}{n:Nat}(aa:a.length=b.length)(af:a.length<=n)(h:∀j,j<n->c (a.getD j default) (b.getD j default)=true):mO c a b=true:=by
 unfold mO
 rw[gl aa,Bool.true_and,eZ]
 intro j az
 have:=List.mem_range.1 az
 exact h j (by omega)
theorem yI{α:Type}[Inhabited α]{c:α->α->Bool}{a b:List α}(aa:a.length≠b.length):mO c a b=false:=by
 unfold mO;rw[hG aa];rfl
theorem Cp{α:Type}[Inhabited α]{c:α->α->Bool}{a b:List α}{i:Nat}(hi:i<a.length)(h:c (a.getD i default) (b.getD i default)=false):mO c a b=false:=by
 unfold mO
 rw[List.all_eq_false.2 ⟨i,List.mem_range.2 hi,by simp only[h,Bool.false_eq_true,not_false_eq_true]⟩,Bool.and_false]
theorem Cq{α:Type}[Inhabited α]{c:α->α->Bool}{a b:List α}(aj:∀x∈a,∀y,c x y=true↔x=y):mO c a b=true↔a=b:=by
 unfold mO
 simp only[eL,decide_eq_true_eq,eZ,List.mem_range]
 constructor
 ·rintro⟨aa,h⟩
  refine List.ext_getElem aa fun i J W=>?_
  have:=h i J
  rw[cN,cN,dx J,dx W]at this
  exact(aj _ (List.getElem_mem J) _).1 this
 ·rintro rfl
  refine⟨rfl,fun i hi=>(aj _ (dJ hi) _).2 D⟩
def E0(b:cA):List gz:=[.s b.name,.i b.lo,.i b.hi]
def E1(b:fQ):List gz:=[.s b.name,.i b.size,.i b.lo,.i b.hi]
def uF(a b:cA):Bool:=decide (E0 a=E0 b)
def vE(a b:fQ):Bool:=decide (E1 a=E1 b)
def xi(a b:Int):Bool:=decide (a=b)
def uG(a b:e2):Bool:=bif decide (a.name=b.name)then mO xi a.dU b.dU else false
mutual
def n7:aR->aR->Bool
 | .mk k s i n l,y=>bif bif bif bif decide (k=y.kind)then decide (s=y.name)else false then decide (i=y.index)else false then decide (n=y.n)else false then E2 l y.l else false
def E2:List aR->List aR->Bool
 |[],[]=>true
 |x::r,y::t=>n7 x y&&E2 r t
 |_,_=>false
end
theorem Q7(x y:aR):n7 x y=bif bif bif bif decide (x.kind=y.kind)then decide (x.name=y.name)else false then decide (x.index=y.index)else false then decide (x.n=y.n)else false then E2 x.l y.l else false:=by cases x;rfl
theorem Lk:∀a b:List aR,E2 a b=mO n7 a b
 |[],[]=>rfl
 |[],y::t=>by rw[yI (by simp)];rfl
 |x::r,[]=>by rw[yI (by simp)];rfl
 |x::r,y::t=>by
  simp only[E2,Lk r t,mO,ek]
  rw[List.range_succ_eq_map]
  simp only[List.all_cons,List.all_map,Nat.add_right_cancel_iff]
  have:((fun i=>n7 ((x::r).getD i default) ((y::t).getD i default))∘Nat.succ)=fun i=>n7 (r.getD i default) (t.getD i default):=funext fun i=>by simp
  rw[this]
  simp only[List.getD_cons_zero]
  cases n7 x y<;>simp
def uH(a b:eM):Bool:=bif bif bif decide (a.kind=b.kind)then decide (a.name=b.name)else false then decide (a.index=b.index)else false then n7 a.x b.x else false
def tw(p q:aD):Bool:=bif bif bif bif bif(bif bif decide (p.name=q.name)then decide (p.cR=q.cR)else false then decide (p.tail=q.tail)else false)then mO uF p.params q.params else false then mO uF p.bt q.bt else false then mO vE p.a1 q.a1 else false then mO uG p.bM q.bM else false then mO uH p.ah q.ah else false
theorem ZU:∀x y:aR,n7 x y=true↔x=y:=aR.ind fun x aJ y=>by
 rw[Q7,Lk]
 have h:=Cq (c:=n7) (a:=x.l) (b:=y.l) fun z bd w=>aJ z bd w
 simp only[Bool.cond_false_right,eL,decide_eq_true_eq]
 rw[h]
 cases x;cases y
 simp only[aR.kind,aR.name,aR.index,aR.n,aR.l,aR.mk.injEq,and_assoc]
theorem ZV(x y:eM):uH x y=true↔x=y:=by
 unfold uH
 simp only[Bool.cond_false_right,eL,decide_eq_true_eq,ZU]
 cases x;cases y
 simp only[eM.mk.injEq,and_assoc]
theorem ZW(x y:e2):uG x y=true↔x=y:=by
 unfold uG
 simp only[Bool.cond_false_right,eL,decide_eq_true_eq,Cq (c:=xi) (a:=x.dU) (b:=y.dU) fun z _ w=>by simp[xi]]
 cases x;cases y
 simp only[e2.mk.injEq]
theorem ZX(x y:cA):uF x y=true↔x=y:=by
 unfold uF E0
 cases x;cases y
 simp
theorem ZY(x y:fQ):vE x y=true↔x=y:=by
 unfold vE E1
 cases x;cases y
 simp
theorem Ll(p q:aD):tw p q=true↔p=q:=by
 unfold tw
 simp only[Bool.cond_false_right,eL,decide_eq_true_eq,Cq (c:=uF) fun z _ w=>ZX z w,Cq (c:=vE) fun z _ w=>ZY z w,Cq (c:=uG) fun z _ w=>ZW z w,Cq (c:=uH) fun z _ w=>ZV z w]
 cases p;cases q
 simp only[aD.mk.injEq,and_assoc]
section
abbrev dw(a:Int):Prop:=-4611686018427387904<=a/\a<=4611686018427387904
abbrev bh:=Int×Int
abbrev kS(s:bh):List bg:=[av s.1,av s.2]
abbrev hX(s:bh):Prop:=dw s.1/\dw s.2
theorem dw.i{a:Int}(h:dw a):e1 a:=⟨by have:=h.1;omega,by have:=h.2;omega⟩
def xj(n:Int):Option Int:=bif decide (-4611686018427387904<=n)&&decide (n<=4611686018427387904)then some n else none
theorem yJ{n m:Int}(h:xj n=some m):m=n/\dw n:=by
 unfold xj at h
 cases ae:(decide (-4611686018427387904<=n)&&decide (n<=4611686018427387904))with
 |true=>rw[ae]at h;simp at ae;exact⟨(Option.some.inj h).symm,ae⟩
 |false=>rw[ae]at h;cases h
theorem Q8{n:Int}(h:dw n):xj n=some n:=by unfold xj;rw[gl h.1,gl h.2];rfl
theorem Q9{n:Int}(h:¬dw n):xj n=none:=by
 cases aM:xj n with
 |none=>rfl
 |some m=>exact absurd (yJ aM).2 h
def vF(a b:Int):Option Int:=xj (a+b)
def sv(a b:Int):Option Int:=xj (a*b)
def j6(x:Int):Int:=max (-2147483648) (min x 2147483647)
theorem cg{b:Bool}(h:(!b)=true):b=false:=by cases b<;>first|rfl|cases h
theorem vG{b:Bool}(h:(!b)=false):b=true:=by cases b<;>first|rfl|cases h
theorem Ra{a b:Int}(aC:dw a)(ae:dw b):(bif(bif bif decide (0<a)then decide (0<b)else false then decide (4611686018427387904-b<a)else false)then true else(bif bif decide (a<0)then decide (b<0)else false then decide (a< -4611686018427387904-b)else false))= !decide (dw (a+b)):=by
 have J:=aC.1;have W:=aC.2;have aH:=ae.1;have aV:=ae.2
 have key:(decide (0<a)&&decide (0<b)&&decide (4611686018427387904-b<a)||decide (a<0)&&decide (b<0)&&decide (a< -4611686018427387904-b))= !decide (dw (a+b)):=by
  rw[Bool.eq_iff_iff]
  simp
  omega
 rw[<-key]
 cases decide (0<a)<;>cases decide (0<b)<;>cases decide (4611686018427387904-b<a)<;>cases decide (a<0)<;>cases decide (b<0)<;>rfl
theorem Lm{a b:Int}(aC:dw a)(ae:dw b)(p3:b≠0):(bif decide (eI ((eI (a*b)).tdiv b)=a)then decide (max a (-a)<=eI (Int.tdiv 4611686018427387904 (max b (-b))))else false)=true↔dw (a*b):=by
 have J:=aC.1;have W:=aC.2;have aH:=ae.1;have aV:=ae.2
 have cP:(max b (-b))=(b.natAbs:Int):=by omega
 have dk:(max a (-a))=(a.natAbs:Int):=by omega
 have ZZ:(0:Int)<b.natAbs:=by omega
 have bA:Int.tdiv 4611686018427387904 (b.natAbs:Int)=4611686018427387904/(b.natAbs:Int):=Int.tdiv_eq_ediv_of_nonneg (by decide)
 have ajl:(0:Int)<=4611686018427387904/(b.natAbs:Int):=Int.ediv_nonneg (by decide) (by omega)
 have ajm:4611686018427387904/(b.natAbs:Int)<=4611686018427387904:=Int.ediv_le_self _ (by decide)
 have Z0:eI (4611686018427387904/(b.natAbs:Int))=4611686018427387904/(b.natAbs:Int):=nE ⟨by omega,by omega⟩
 rw[cP,dk,bA,Z0]
 have hle:((a.natAbs:Int)<=4611686018427387904/(b.natAbs:Int))↔dw (a*b):=by
  rw[Int.le_ediv_iff_mul_le ZZ]
  have:(a.natAbs:Int)*(b.natAbs:Int)=((a*b).natAbs:Int):=by rw[Int.natAbs_mul];rfl
  rw[this]
  generalize a*b=n
  unfold dw
  omega
 rw[<-hle]
 constructor
 ·intro h
  cases aq:decide (eI ((eI (a*b)).tdiv b)=a)with
  |true=>rw[aq]at h;exact cJ h
  |false=>rw[aq]at h;cases h
 ·intro h
  have hw:=hle.1 h
  have aX:eI (a*b)=a*b:=nE hw.i
  have bu:(a*b).tdiv b=a:=Int.mul_tdiv_cancel _ p3
  rw[aX,bu,nE aC.i,gl rfl,cond_true,gl h]
theorem Z1{a n:Int}(aC:a<0)(af:0<n):-((-a+n-1).tdiv n)=a/n:=by
 rw[Int.tdiv_eq_ediv_of_nonneg (by omega)]
 have J:=Int.mul_ediv_add_emod a n
 have W:=Int.emod_nonneg a (by omega:n≠0)
 have aH:=Int.emod_lt_of_pos a af
 have:(-a+n-1)/n=-(a/n):=by
  rw[show-a+n-1=(n-1-a%n)+(-(a/n))*n by rw[Int.neg_mul,Int.mul_comm (a/n) n];omega,Int.add_mul_ediv_right _ _ (by omega),Int.ediv_eq_zero_of_lt (by omega) (by omega)]
  omega
 rw[this]
 omega
theorem yK{a n:Int}(aC:dw a)(af:0<n):dw (a/n):=by
 have J:=aC.1;have W:=aC.2
 constructor
 ·exact Int.le_trans (by
   have:(-4611686018427387904:Int)<=-4611686018427387904/n:=by
    rw[Int.le_ediv_iff_mul_le af];omega
   exact this) (Int.ediv_le_ediv af J)
 ·exact Int.le_trans (Int.ediv_le_ediv af W) (Int.ediv_le_self _ (by decide))
theorem Z2(n:Int):e1 (eI n):=by
 unfold eI e1
 simp[IntKind.wrap,IntKind.bits,IntKind.signed]
 have J:=Int.emod_nonneg n (b:=18446744073709551616) (by decide)
 have W:=Int.emod_lt_of_pos n (b:=18446744073709551616) (by decide)
 split<;>omega
theorem Z3{a n:Int}(aC:a<0)(hw:dw a)(af:0<n):eI ((-a+n-1).tdiv n)=-(a/n):=by
 have h:=Z1 aC af
 have aq:=yK hw af
 rw[show(-a+n-1).tdiv n=-(a/n) by omega]
 exact nE ⟨by have:=aq.2;omega,by have:=aq.1;omega⟩
theorem Ln{a n:Int}(aC:0<=a):a.tdiv n=a/n:=Int.tdiv_eq_ediv_of_nonneg aC
section
variable {P:Program} {S:ad} {ro:eR} {ops:Array Oper} {c:Bool} {x y:Operand} {t ty:TypeId} {pos:String} {a6:Array Edge} {bB:Option (Nat×Bool)} {d:Option Nat}
theorem Pure.Lo{n len:Nat}{k:IntKind}{i:Int}{agg:Bool}{u r:ai}(aT:pe P t len agg n=true)(aX:cd S c x u)(bu:cd S c y (aF k i))(hi:c=true->0<=i/\i.toNat<len)(aE:u.shift (i.toNat*n)=some r):
  Pure P S [] ⟨d,.indexAddr t x y,ty,pos,a6,bB⟩ c r:=by
 refine⟨rfl,fun E V M a w h aj=>?_⟩
 obtain⟨bb,aG⟩:=hi aj
 obtain⟨b,o,he,aq⟩:=N4 (h.ez x (by simp[Op.operands]) _ aX) aE
 have W:=h.val (by simp[Op.operands]) bu
 generalize a.eval=aI at*
 refine⟨_,?_,aq⟩
 unfold pe at aT
 split at aT
 ·rename_i kE e hu
  simp only[eL]at aT
  have hlen:=kN aT.1
  subst hlen
  have qu:i<(kE:Int):=by omega
  simp[execOp,he,W,Instr.indexAt,asIntOf,run_underlying hu,Instr.sureAddr,r4 aT.2,bb,qu,oA]
 ·cases aT
end
def ai.fN:ai->Option bg
 | .d x=>some x
 | .fn g []=>some (.v (.func (.func g) #[] #[]))
 |_=>none
theorem Lp{l:List ai}{ds:List bg}(h:l.map ai.fN=ds.map some):∀V M v,bU V M (.agg l) v->bU V M (.d (.agg ds)) v:=fun V M v aK=>by
 cases aK with
 |agg _ vs aa aq=>
  have hlen:l.length=ds.length:=by simpa using congrArg List.length h
  refine .d _ _ (.agg ds vs (by omega) fun j x y Y ak=>?_)
  obtain⟨u,hu⟩:∃u,l[j]?=some u:=by
   have:=(List.getElem?_eq_some_iff.1 Y).1
   exact⟨l[j],dx (by omega)⟩
  have e:(l.map ai.fN)[j]?=(ds.map some)[j]?:=by rw[h]
  simp only[fJ,hu,Y,Option.map_some,en]at e
  have bb:=aq j u y hu ak
  unfold ai.fN at e
  split at e
  ·injection e with e;subst e;cases bb with|d _ _ bb=>exact bb
  ·injection e with e;subst e
   cases bb with
   |fn _ _ vs aa _=>
    have:vs=[]:=List.eq_nil_of_length_eq_zero (by simpa using aa.symm)
    subst this;exact .v _
  ·cases e
instance:Inhabited bh:=⟨(0,0)⟩
abbrev jS(l:List bh):List bz:=[.cv .i64 (l.map Prod.fst),.cv .i64 (l.map Prod.snd)]
theorem Rb(l:List bh){j:Nat}(az:j<l.length):(jS l).map (bz.at · j)=kS (l.getD j default):=by
 simp[jS,kS,bz.at,cN,az]
abbrev fN(p:aD)(fd:List bh):ad:=[(G 0,.U (.cells [.d (ev p.name),.d (av p.cR),.d (av p.tail),.d (dN p.params),.d (dN p.bt),.d (hJ p.a1),.d (ia p.bM),.d (iS p.ah),.aQ 1 fd.length])),(G 1,.U (.bG 2 fd.length (jS fd)))]
abbrev nF(l:List bh):bg:=h8 2 kS l
def mi(P:Program)(f:FuncId)(p:aD)(fd:List bh)(x:aR)(ls:List bh)(o:Option bh):Prop:=
 dI (ι:=bh) P f [.ao 0 0,.d (.agg (cr x)),.d (nF ls)] (fN p fd) (fun s=>o=some s) (fun s=>.d (.agg (kS s))) (fun _=>fN p fd) [0,1] (fun bc=>hp bc/\o=none) []
structure n8(p:aD)(m:Nat)(x:aR):Prop where
 AD:1<=x.kind/\x.kind<=19/\x.kind≠2
 len:(x.l.length:Int)=mg x.kind
 Cg:x.kind=1->0<=x.n/\x.n<=2147483648
 AE:x.kind=18->1<=x.n/\x.n<=2147483648
 bj:x.kind=3->0<=x.index/\x.index<p.params.length
 nG:x.kind=4->0<=x.index/\x.index<p.bt.length
 lt:x.kind=5->0<=x.index/\x.index<m
 rF:x.kind=8->0<=x.index/\x.index<p.a1.length
 rD:x.kind=9->0<=x.index/\x.index<p.bM.length
def vH(s:bh):bh:=bif decide (0<=s.1)then s else bif decide (s.2<=0)then(-s.2,-s.1)else(0,max (-s.1) s.2)
def rG(s:bh):Option bh:=bif(bif decide (s.1<0)then true else decide (4096<s.2))then none else some (-2147483648,2147483647)
def qb(a b:bh):Option bh:=match vF a.1 b.1 with
 |none=>none
 |some u=>match vF a.2 b.2 with
  |none=>none
  |some v=>some (u,v)
def tz(a b:bh):Option bh:=match sv a.1 b.1 with
 |none=>none
 |some q=>match sv a.1 b.2 with
  |none=>none
  |some r=>match sv a.2 b.1 with
   |none=>none
   |some s=>match sv a.2 b.2 with
    |none=>none
    |some t=>some (min (min (min q r) s) t,max (max (max q r) s) t)
def tA(t:List Int):Nat->bh
 |0=>(t.getD 0 0,t.getD 0 0)
 |n+1=>(min (tA t n).1 (t.getD n 0),max (tA t n).2 (t.getD n 0))
def j7(p:aD)(fd:List bh)(x:aR)(ls:List bh):Option bh:=
 let a:=ls.getD 0 default
 let b:=ls.getD 1 default
 match x.kind.toNat with
 |1=>some (x.n,x.n)
 |3=>some ((p.params.getD x.index.toNat default).lo,(p.params.getD x.index.toNat default).hi)
 |4=>some ((p.bt.getD x.index.toNat default).lo,(p.bt.getD x.index.toNat default).hi)
 |5=>some (fd.getD x.index.toNat default)
 |6=>rG a
 |7=>rG a
 |8=>some (min (p.a1.getD x.index.toNat default).lo 0,max (p.a1.getD x.index.toNat default).hi 0)
 |9=>some (tA (p.bM.getD x.index.toNat default).dU (p.bM.getD x.index.toNat default).dU.length)
 |10=>some (j6 a.1,j6 a.2)
 |11=>some (min a.1 b.1,min a.2 b.2)
 |12=>some (max a.1 b.1,max a.2 b.2)
 |13=>some (vH a)
 |14=>some (-a.2,-a.1)
 |15=>qb a b
 |16=>qb a (-b.2,-b.1)
 |17=>tz a b
 |18=>some (a.1/x.n,a.2/x.n)
 |19=>some (min (ls.getD 2 default).1 (ls.getD 3 default).1,max (ls.getD 2 default).2 (ls.getD 3 default).2)
 |_=>none
theorem n8.cases{p:aD}{m:Nat}{x:aR}(h:n8 p m x):x.kind=1\/x.kind=3\/x.kind=4\/x.kind=5\/x.kind=6\/x.kind=7\/x.kind=8\/x.kind=9\/x.kind=10\/x.kind=11\/x.kind=12\/x.kind=13\/x.kind=14\/x.kind=15\/x.kind=16\/x.kind=17\/x.kind=18\/x.kind=19:=by have:=h.AD;omega
inductive ff(p:aD)(m:Nat):aR->Prop
 |mk {x:aR} (h:n8 p m x) (aa:∀y∈x.l,ff p m y):ff p m x
structure sw(p:aD):Prop where
 ok:p.b5
 bj:∀i,i<p.params.length->hX ((p.params.getD i default).lo,(p.params.getD i default).hi)
 nG:∀i,i<p.bt.length->hX ((p.bt.getD i default).lo,(p.bt.getD i default).hi)
 lY:∀i,i<p.a1.length->hX ((p.a1.getD i default).lo,(p.a1.getD i default).hi)
 vI:∀i,i<p.bM.length->0<(p.bM.getD i default).dU.length/\(p.bM.getD i default).dU.length<=65536/\∀j,dw ((p.bM.getD i default).dU.getD j 0)
theorem Rc{t:List Int}(h:∀j,dw (t.getD j 0)):∀n,hX (tA t n)
 |0=>⟨h 0,h 0⟩
 |n+1=>by
  have J:=Rc h n
  have W:=h n
  unfold tA
  exact⟨⟨by have:=J.1.1;have:=W.1;omega,by have:=J.1.2;omega⟩,⟨by have:=J.2.1;omega,by have:=J.2.2;have:=W.2;omega⟩⟩
theorem Cr{n m:Int}(h:xj n=some m):dw m:=by obtain⟨rfl,h⟩:=yJ h;exact h
theorem Z4{s:bh}(h:hX s):hX (vH s):=by
 obtain⟨⟨ca,a2⟩,⟨a3,a4⟩⟩:=h
 unfold vH
 cases decide (0<=s.1)<;>cases decide (s.2<=0)<;>simp only[cond_true,cond_false]<;>refine⟨⟨?_,?_⟩,⟨?_,?_⟩⟩<;>(try simp only)<;>omega
theorem Rd{a b s:bh}(h:qb a b=some s):hX s:=by
 unfold qb at h
 split at h
 ·cases h
 ·split at h
  ·cases h
  ·injection h with h;subst h;rename_i J _ _ W;exact⟨Cr J,Cr W⟩
theorem dw.min{a b:Int}(aC:dw a)(ae:dw b):dw (min a b):=⟨by have:=aC.1;have:=ae.1;omega,by have:=aC.2;omega⟩
theorem dw.max{a b:Int}(aC:dw a)(ae:dw b):dw (max a b):=⟨by have:=aC.1;omega,by have:=aC.2;have:=ae.2;omega⟩
theorem dw.neg{a:Int}(aC:dw a):dw (-a):=⟨by have:=aC.2;omega,by have:=aC.1;omega⟩
theorem Re(a:Int):dw (j6 a):=by unfold j6 dw;omega
theorem Z5{a b s:bh}(h:tz a b=some s):hX s:=by
 unfold tz at h
 split at h
 ·cases h
 ·split at h
  ·cases h
  ·split at h
   ·cases h
   ·split at h
    ·cases h
    ·injection h with h;subst h
     rename_i J _ _ W _ _ aH _ _ aV
     have gd:=Cr J;have jO:=Cr W;have pw:=Cr aH;have uI:=Cr aV
     exact⟨((gd.min jO).min pw).min uI,((gd.max jO).max pw).max uI⟩
theorem Rf{a s:bh}(h:rG a=some s):hX s:=by
 unfold rG at h
 cases ae:(bif decide (a.1<0)then true else decide (4096<a.2))with
 |true=>rw[ae]at h;cases h
 |false=>rw[ae]at h;injection h with h;subst h;exact⟨by decide,by decide⟩
theorem Z6{p:aD}{fd:List bh}{x:aR}{ls:List bh}{s:bh}(Z:sw p)(h:n8 p fd.length x)(bf:∀i,i<fd.length->hX (fd.getD i default))(aa:(ls.length:Int)=mg x.kind)(an:∀i,i<ls.length->hX (ls.getD i default))(e:j7 p fd x ls=some s):hX s:=by
 rcases h.cases with K|K|K|K|K|K|K|K|K|K|K|K|K|K|K|K|K|K<;>(unfold j7 at e;rw[K]at e aa;change(_:Option bh)=_ at e)
 ·injection e with e;subst e;have:=h.Cg K;exact⟨⟨by omega,by omega⟩,⟨by omega,by omega⟩⟩
 ·injection e with e;subst e;have:=h.bj K;exact Z.bj _ (by omega)
 ·injection e with e;subst e;have:=h.nG K;exact Z.nG _ (by omega)
 ·injection e with e;subst e;have:=h.lt K;exact bf _ (by omega)
 ·exact Rf e
 ·exact Rf e
 ·injection e with e;subst e;have:=h.rF K;have aW:=Z.lY x.index.toNat (by omega);exact⟨aW.1.min (by decide),aW.2.max (by decide)⟩
 ·injection e with e;subst e;have:=h.rD K;exact Rc (Z.vI _ (by omega)).2.2 _
 ·injection e with e;subst e;exact⟨Re _,Re _⟩
 ·injection e with e;subst e;have W:(ls.length:Int)=2:=aa;have a:=an 0 (by omega);have b:=an 1 (by omega);exact⟨a.1.min b.1,a.2.min b.2⟩
 ·injection e with e;subst e;have W:(ls.length:Int)=2:=aa;have a:=an 0 (by omega);have b:=an 1 (by omega);exact⟨a.1.max b.1,a.2.max b.2⟩
 ·injection e with e;subst e;have W:(ls.length:Int)=1:=aa;exact Z4 (an 0 (by omega))
 ·injection e with e;subst e;have W:(ls.length:Int)=1:=aa;have a:=an 0 (by omega);exact⟨a.2.neg,a.1.neg⟩
 ·exact Rd e
 ·exact Rd e
 ·exact Z5 e
 ·injection e with e;subst e;have W:(ls.length:Int)=1:=aa;have a:=an 0 (by omega);have:=h.AE K;exact⟨yK a.1 (by omega),yK a.2 (by omega)⟩
 ·injection e with e;subst e;have W:(ls.length:Int)=4:=aa;have a:=an 2 (by omega);have b:=an 3 (by omega);exact⟨a.1.min b.1,a.2.max b.2⟩
mutual
def hq(p:aD)(fd:List bh):aR->Option bh
 | .mk k s i n l=>match lG p fd l with
  |none=>none
  |some ls=>j7 p fd (.mk k s i n l) ls
def lG(p:aD)(fd:List bh):List aR->Option (List bh)
 |[]=>some []
 |x::r=>match hq p fd x,lG p fd r with
  |some s,some t=>some (s::t)
  |_,_=>none
end
theorem yL(p:aD)(fd:List bh)(x:aR):hq p fd x=match lG p fd x.l with
 |none=>none
 |some ls=>j7 p fd x ls:=by cases x;unfold hq;rfl
theorem Rg(p:aD)(fd:List bh):∀(a:List aR) (x:aR),lG p fd (a++[x])=match lG p fd a,hq p fd x with
  |some z,some y=>some (z++[y])
  |_,_=>none
 |[],x=>by simp only[List.nil_append,lG];cases hq p fd x<;>rfl
 |a::r,x=>by
  simp only[List.cons_append,lG,Rg p fd r x]
  cases hq p fd a<;>cases lG p fd r<;>cases hq p fd x<;>rfl
theorem HB{p:aD}{fd:List bh}:∀{l:List aR} {z:List bh},lG p fd l=some z->z.length=l.length
 |[],z,h=>by simp[lG]at h;subst h;rfl
 |x::r,z,h=>by
  simp only[lG]at h
  cases J:hq p fd x with
  |none=>rw[J]at h;cases h
  |some y=>
   cases W:lG p fd r with
   |none=>rw[J,W]at h;cases h
   |some w=>rw[J,W]at h;injection h with h;subst h;simp[HB W]
theorem Rh{p:aD}{fd:List bh}:∀{l:List aR} {x:aR},x∈l->hq p fd x=none->lG p fd l=none
 |y::r,x,Y,h=>by
  simp only[lG]
  rcases eb.1 Y with rfl|Y
  ·rw[h]
  ·rw[Rh Y h];cases hq p fd y<;>rfl
theorem Cs{p:aD}{fd:List bh}:∀{l:List aR} {z:List bh},lG p fd l=some z->∀i,i<l.length->hq p fd (l.getD i default)=some (z.getD i default)
 |[],z,h,i,hi=>by simp at hi
 |x::r,z,h,i,hi=>by
  simp only[lG]at h
  cases J:hq p fd x with
  |none=>rw[J]at h;cases h
  |some y=>
   cases W:lG p fd r with
   |none=>rw[J,W]at h;cases h
   |some w=>
    rw[J,W]at h;injection h with h;subst h
    cases i with
    |zero=>simpa using J
    |succ i=>simpa using Cs W i (by simpa using hi)
theorem Lq{p:aD}{fd:List bh}(Z:sw p)(bf:∀i,i<fd.length->hX (fd.getD i default)){x:aR}(h:ff p fd.length x):∀s,hq p fd x=some s->hX s:=by
 induction h with
 |mk h aa aJ=>
  rename_i x
  intro s e
  rw[yL]at e
  cases aw:lG p fd x.l with
  |none=>rw[aw]at e;cases e
  |some ls=>
   rw[aw]at e
   have hlen:=HB aw
   exact Z6 Z h bf (by rw[hlen];exact h.len) (fun i hi=>aJ _ (dJ (by omega)) _ (Cs aw i (by omega))) e
def lH(p:aD)(s:eM):bh:=bif decide (s.kind=2)then((p.bt.getD s.index.toNat default).lo,(p.bt.getD s.index.toNat default).hi)else bif decide (s.kind=3)then((p.a1.getD s.index.toNat default).lo,(p.a1.getD s.index.toNat default).hi)else bif decide (s.kind=4)then(-2147483648,2147483647)else(-4611686018427387904,4611686018427387904)
def uJ(s b:bh):Bool:=decide ([gz.i (min s.1 b.1),gz.i (max s.2 b.2)]=[gz.i b.1,gz.i b.2])
theorem Z7{s b:bh}:uJ s b=true↔b.1<=s.1/\s.2<=b.2:=by
 unfold uJ
 simp
 omega
def oN(p:aD):Nat->Option (List bh)
 |0=>some []
 |n+1=>match oN p n with
  |none=>none
  |some fd=>match hq p fd (p.ah.getD n default).x with
   |none=>none
   |some s=>bif uJ s (lH p (p.ah.getD n default))then some (fd++[s])else none
def uK(p:aD):Option (List bh):=oN p p.ah.length
theorem Ct{p:aD}:∀{n:Nat} {fd:List bh},oN p n=some fd->fd.length=n
 |0,fd,h=>by injection h with h;subst h;rfl
 |n+1,fd,h=>by
  simp only[oN]at h
  cases J:oN p n with
  |none=>rw[J]at h;cases h
  |some f=>
   rw[J]at h;simp only at h
   cases W:hq p f (p.ah.getD n default).x with
   |none=>rw[W]at h;cases h
   |some s=>
    rw[W]at h;simp only at h
    cases ae:uJ s (lH p (p.ah.getD n default))with
    |false=>rw[ae]at h;cases h
    |true=>rw[ae]at h;injection h with h;subst h;simp[Ct J]
theorem Lr{p:aD}{i:Nat}(h:oN p i=none):∀j,i<=j->oN p j=none
 |0,az=>by rw[show i=0 by omega]at h;exact h
 |j+1,az=>by
  rcases nj az with aG|rfl
  ·simp only[oN,Lr h j (by omega)]
  ·exact h
structure nk(p:aD):Prop where
 oO:sw p
 lZ:∀i,i<p.ah.length->ff p i (p.ah.getD i default).x
 set:∀i,i<p.ah.length->(p.ah.getD i default).kind=2->0<=(p.ah.getD i default).index/\(p.ah.getD i default).index<p.bt.length
 push:∀i,i<p.ah.length->(p.ah.getD i default).kind=3->0<=(p.ah.getD i default).index/\(p.ah.getD i default).index<p.a1.length
theorem E3{p:aD}(Z:nk p):∀{n:Nat} {fd:List bh},n<=p.ah.length->oN p n=some fd->∀i,i<fd.length->hX (fd.getD i default)
 |0,fd,_,h=>by injection h with h;subst h;intro i hi;simp at hi
 |n+1,fd,af,h=>by
  simp only[oN]at h
  cases J:oN p n with
  |none=>rw[J]at h;cases h
  |some f=>
   rw[J]at h;simp only at h
   have aJ:=E3 Z (n:=n) (by omega) J
   have hlen:=Ct J
   cases W:hq p f (p.ah.getD n default).x with
   |none=>rw[W]at h;cases h
   |some s=>
    rw[W]at h;simp only at h
    cases ae:uJ s (lH p (p.ah.getD n default))with
    |false=>rw[ae]at h;cases h
    |true=>
     rw[ae]at h;injection h with h;subst h
     intro i hi
     have an:=Lq Z.oO aJ (by rw[hlen];exact Z.lZ n (by omega)) _ W
     simp only[cN]
     by_cases aG:i<f.length
     ·rw[pf aG,<-cN];exact aJ i aG
     ·have:i=f.length:=by simp at hi;omega
      subst this;simpa using an
theorem E4{α:Type}[Inhabited α]{l:List α}{i:Nat}(h:i<l.length):l.drop i=l.getD i default::l.drop (i+1):=by
 rw[List.drop_eq_getElem_cons h,cN,dx h];rfl
def HC(l:List (Int×Int)):List (Int×Int):=l.foldl (fun m q=>dM m q.1 q.2) []
def sx:List (Int×Int):=HC [(1,0),(3,0),(4,0),(5,0),(6,1),(7,1),(8,1),(9,1),(10,1),(13,1),(14,1),(18,1),(11,2),(12,2),(15,2),(16,2),(17,2),(19,4)]
def xk(p:aD):List (Int×Int):=HC [(3,p.params.length),(4,p.bt.length),(8,p.a1.length),(9,p.bM.length),(5,p.ah.length)]
def xl(x:aR)(m:Int):Bool:=bif(bif !(cb sx x.kind).isSome then true else !decide ((x.l.length:Int)=(cb sx x.kind).getD 0))then true else decide (m<1)
def yM(p:aD)(x:aR):Bool:=bif(cb (xk p) x.kind).isSome then(bif decide (x.index<0)then true else decide ((cb (xk p) x.kind).getD 0<=x.index))else false
def tB(p:aD)(x:aR):Bool:=bif decide (x.kind=1)then(bif decide (0<=x.n)then decide (x.n<=2147483648)else false)else bif decide (x.kind=18)then(bif decide (1<=x.n)then decide (x.n<=2147483648)else false)else bif decide (x.kind=5)then decide ((p.ah.getD x.index.toNat default).kind=1)else true
mutual
def kL(p:aD):aR->Int->Int×Bool
 | .mk k s i n l,m=>bif xl (.mk k s i n l) m then(0,false)else bif yM p (.mk k s i n l)then(0,false)else qN p l m 1 (tB p (.mk k s i n l))
def qN(p:aD):List aR->Int->Int->Bool->Int×Bool
 |[],_,n,ok=>(n,ok)
 |y::r,m,n,ok=>bif(bif ok then(kL p y (m-n)).2 else false)then qN p r m (n+(kL p y (m-n)).1) true else(0,false)
end
theorem Cu(p:aD)(x:aR)(m:Int):kL p x m=bif xl x m then(0,false)else bif yM p x then(0,false)else qN p x.l m 1 (tB p x):=by cases x;rw[kL];rfl
theorem Ri{x:aR}{m:Int}(h:xl x m=false):1<=m:=by
 unfold xl at h
 cases ae:(bif !(cb sx x.kind).isSome then true else !decide ((x.l.length:Int)=(cb sx x.kind).getD 0))with
 |true=>rw[ae]at h;cases h
 |false=>rw[ae,cond_false]at h;have:=dj h;omega
theorem Rj{p:aD}:∀{l:List aR} {m n:Int} {ok:Bool},(∀y∈l,∀k,0<=(kL p y k).1/\(kL p y k).1<=max 0 k)->0<=n->n<=m->0<=(qN p l m n ok).1/\(qN p l m n ok).1<=m
 |[],m,n,ok,_,bb,af=>by simp only[qN];exact⟨bb,af⟩
 |y::r,m,n,ok,aJ,bb,af=>by
  simp only[qN]
  have J:=aJ y (by simp) (m-n)
  cases ae:(bif ok then(kL p y (m-n)).2 else false)with
  |false=>simp only[cond_false];omega
  |true=>simp only[cond_true];exact Rj (fun z bd=>aJ z (by simp[bd])) (by omega) (by omega)
theorem Z8{p:aD}:∀(x:aR) (k:Int),0<=(kL p x k).1/\(kL p x k).1<=max 0 k:=aR.ind fun x aJ k=>by
 rw[Cu]
 cases dk:xl x k with
 |true=>simp only[cond_true];omega
 |false=>
  have:=Ri dk
  cases cP:yM p x with
  |true=>simp only[cond_true,cond_false];omega
  |false=>simp only[cond_false];have:=Rj (m:=k) (n:=1) (ok:=tB p x) (fun y ak=>aJ y ak) (by omega) (by omega);omega
theorem Cv(p:aD)(k:Int):cb (xk p) k=if k=3 then some (p.params.length:Int)else if k=4 then some (p.bt.length:Int)else if k=8 then some (p.a1.length:Int)else if k=9 then some (p.bM.length:Int)else if k=5 then some (p.ah.length:Int)else none:=by
 simp only[xk,HC,List.foldl,oI,cb]
 by_cases aH:k=3
 ·subst aH;rfl
 by_cases aV:k=4
 ·subst aV;rfl
 by_cases h9:k=8
 ·subst h9;rfl
 by_cases nx:k=9
 ·subst nx;rfl
 by_cases db:k=5
 ·subst db;rfl
 simp[aH,aV,db,h9,nx,Ne.symm aH,Ne.symm aV,Ne.symm db,Ne.symm h9,Ne.symm nx]
theorem Cw{p:aD}{x:aR}{n:Int}(h:yM p x=false)(aM:cb (xk p) x.kind=some n):0<=x.index/\x.index<n:=by
 unfold yM at h
 rw[aM]at h
 simp only[Option.isSome_some,cond_true,Option.getD_some]at h
 cases ae:decide (x.index<0)with
 |true=>rw[ae]at h;cases h
 |false=>rw[ae,cond_false]at h;have:=dj ae;have:=dj h;omega
theorem Z9:∀k∈([1,3,4,5,6,7,8,9,10,11,12,13,14,15,16,17,18,19]:List Int),cb sx k=some (mg k):=by decide
theorem aaa(k:Int):(∀n,cb sx k=some n->1<=k/\k<=19/\k≠2/\n=mg k):=by
 intro n h
 have key:k=1\/k=3\/k=4\/k=5\/k=6\/k=7\/k=8\/k=9\/k=10\/k=11\/k=12\/k=13\/k=14\/k=15\/k=16\/k=17\/k=18\/k=19:=by
  refine Classical.byContradiction fun nm=>?_
  have:cb sx k=none:=by
   simp only[not_or]at nm
   simp only[sx,HC,List.foldl,oI,cb]
   simp[eq_comm,nm]
  rw[this]at h;cases h
 rcases key with rfl|rfl|rfl|rfl|rfl|rfl|rfl|rfl|rfl|rfl|rfl|rfl|rfl|rfl|rfl|rfl|rfl|rfl<;>(refine⟨by decide,by decide,by decide,?_⟩;rw[Z9 _ (by decide)]at h;injection h with h;exact h.symm)
theorem Rk{p:aD}:∀{l:List aR} {m n:Int} {ok:Bool},(qN p l m n ok).2=true->ok=true/\∀y∈l,∃k,(kL p y k).2=true
 |[],m,n,ok,h=>⟨by simpa[qN]using h,fun y ak=>by cases ak⟩
 |y::r,m,n,ok,h=>by
  simp only[qN]at h
  cases ae:(bif ok then(kL p y (m-n)).2 else false)with
  |false=>rw[ae]at h;cases h
  |true=>
   rw[ae,cond_true]at h
   have J:ok=true/\(kL p y (m-n)).2=true:=by cases ok<;>simp_all
   refine⟨J.1,fun z bd=>?_⟩
   rcases eb.1 bd with rfl|bd
   ·exact⟨_,J.2⟩
   ·exact(Rk h).2 z bd
theorem aab{p:aD}:∀(x:aR) (m:Int),(kL p x m).2=true->ff p p.ah.length x:=aR.ind fun x aJ m h=>by
 rw[Cu]at h
 cases dk:xl x m with
 |true=>rw[dk]at h;cases h
 |false=>
  cases cP:yM p x with
  |true=>rw[dk,cP]at h;cases h
  |false=>
   rw[dk,cP,cond_false,cond_false]at h
   obtain⟨eU,aa⟩:=Rk h
   unfold xl at dk
   cases aM:cb sx x.kind with
   |none=>rw[aM]at dk;cases dk
   |some n=>
    rw[aM]at dk
    simp only[Option.isSome_some,Bool.not_true,cond_false,Option.getD_some]at dk
    obtain⟨k8,mz,qO,E5⟩:=aaa _ n aM
    have hlen:(x.l.length:Int)=n:=by
     cases aq:decide ((x.l.length:Int)=n)with
     |true=>exact cJ aq
     |false=>rw[aq]at dk;cases dk
    refine .mk ⟨⟨k8,mz,qO⟩,by rw[hlen,E5],fun K=>?_,fun K=>?_,fun K=>?_,fun K=>?_,fun K=>?_,fun K=>?_,fun K=>?_⟩ fun y ak=>by obtain⟨k,K⟩:=aa y ak;exact aJ y ak k K
    ·unfold tB at eU;rw[K]at eU
     cases aq:decide (0<=x.n)with
     |false=>rw[aq]at eU;cases eU
     |true=>rw[aq]at eU;exact⟨cJ aq,cJ eU⟩
    ·unfold tB at eU;rw[K]at eU
     cases aq:decide (1<=x.n)with
     |false=>rw[aq]at eU;cases eU
     |true=>rw[aq]at eU;exact⟨cJ aq,cJ eU⟩
    ·exact Cw cP (by rw[Cv,K];rfl)
    ·exact Cw cP (by rw[Cv,K];rfl)
    ·exact Cw cP (by rw[Cv,K];rfl)
    ·exact Cw cP (by rw[Cv,K];rfl)
    ·exact Cw cP (by rw[Cv,K];rfl)
end
def qP{α:Type}:List (Nat×α)->Nat->Option α
 |[],_=>none
 |p::r,k=>bif Nat.beq p.1 k then some p.2 else qP r k
def Rl:List (Nat×Bool×Nat):=[(1,false,1),(2,false,1),(3,false,1),(4,false,1),(5,false,1),(6,false,1),(7,true,4),(8,true,4),(9,false,1),(10,false,1),(11,false,1),(12,false,1),(13,true,2),(14,true,2),(15,false,1),(16,false,1),(17,false,1),(18,true,1),(19,true,1),(20,false,1),(21,false,1),(22,false,1),(23,false,1),(24,false,1),(25,false,1),(26,false,1),(27,false,1),(28,true,8),(29,true,8),(30,false,1),(32,false,1),(33,false,1),(35,false,1),(36,false,1),(37,false,1),(38,false,1),(39,false,1),(40,true,8),(41,true,8),(43,false,1),(44,true,2),(45,true,2),(47,false,1),(49,false,1),(50,false,1),(51,false,1),(53,false,1),(55,false,1),(56,false,1),(57,false,1),(58,false,1),(59,false,1),(60,false,1),(61,false,1),(62,false,1),(63,false,1),(64,true,5),(65,true,5),(66,true,8),(67,true,8),(68,false,1),(70,false,1),(71,true,2),(72,true,2),(73,true,3),(74,true,3),(76,false,1),(77,false,1),(78,false,1),(80,false,1),(81,false,1),(82,true,4),(83,true,4),(84,false,1),(85,false,1),(86,true,20),(87,true,29),(88,true,29),(89,true,2),(90,true,2),(91,false,1),(92,false,1),(93,false,1),(94,false,1),(95,false,1),(96,true,3),(97,true,3),(98,false,1),(99,false,1),(100,true,2),(101,false,1),(102,false,1),(103,false,1),(104,true,0),(105,true,0),(106,false,1),(107,false,1),(108,false,1),(111,false,1),(112,false,1),(113,false,1),(114,false,1),(115,false,1),(116,false,1),(117,false,1),(118,false,1),(119,false,1),(120,false,1),(121,false,1),(122,false,1),(123,true,17),(124,true,17),(125,false,1),(126,false,1),(127,false,1),(128,true,2),(129,true,2),(130,false,1),(131,false,1),(132,false,1),(133,false,1),(134,false,1),(135,false,1),(136,false,1),(137,false,1),(138,true,6),(139,true,6),(140,true,6),(141,false,1),(142,true,3),(143,true,3),(144,false,1),(145,true,1),(146,true,1),(148,false,1),(149,true,3),(150,true,3),(151,false,1),(153,false,1),(154,false,1),(155,true,2),(156,true,2),(158,false,1),(159,false,1),(160,false,1),(161,false,1),(162,false,1),(163,false,1),(164,false,1),(165,false,1),(166,false,1),(167,true,1),(168,true,1),(169,true,14),(170,true,14),(171,false,1),(172,false,1),(173,true,5),(174,false,1),(175,false,1),(176,true,20),(177,false,1),(178,false,1),(179,false,1),(180,false,1),(181,false,1),(183,false,1),(184,false,1),(185,false,1),(186,false,1),(187,false,1),(188,false,1),(189,false,1),(190,false,1),(191,false,1),(192,true,4),(193,true,4),(194,false,1),(195,false,1),(197,false,1),(198,false,1),(199,false,1),(200,false,1),(201,false,1),(202,false,1),(203,false,1),(204,false,1),(205,false,1),(206,false,1),(207,false,1),(208,false,1),(210,false,1),(211,false,1),(212,false,1),(213,false,1),(214,false,1),(215,false,1),(216,false,1),(217,false,1),(218,false,1),(219,false,1),(220,false,1),(221,false,1),(222,false,1),(223,false,1),(224,false,1),(225,true,23),(226,false,1),(227,false,1),(228,false,1),(230,false,1),(231,false,1),(232,false,1),(233,false,1),(234,false,1),(235,false,1),(236,true,9),(237,true,9),(238,false,1),(239,true,20),(240,false,1),(241,false,1),(242,false,1),(243,false,1),(244,false,1),(245,false,1),(247,false,1),(248,false,1),(249,false,1),(250,false,1),(251,false,1),(252,false,1),(253,false,1),(254,false,1),(255,false,1),(257,false,1),(258,false,1),(260,false,1),(261,false,1),(262,true,3),(263,true,3),(264,false,1),(265,true,24),(266,false,1),(267,false,1),(269,false,1),(270,false,1),(271,false,1),(272,false,1),(273,false,1),(274,false,1),(275,true,1),(276,true,1),(277,false,1),(278,true,20),(279,true,65),(280,false,1),(281,false,1),(282,true,32),(283,true,64),(284,true,3),(285,true,3),(287,false,1),(288,false,1),(289,false,1),(290,true,4),(291,true,4),(292,true,0),(293,true,0),(294,true,0),(295,false,1),(296,false,1),(297,false,1),(298,false,1),(299,false,1),(300,true,11),(301,true,11),(302,false,1)]
theorem Rm:Rl.all (fun e=>dq prog e.1 e.2.1 e.2.2)=true:=by kernel_rfl
def Rn:List (Nat×List Nat):=[(7,[0,1,2,3]),(8,[0,1,2,3]),(13,[0,1]),(14,[0,1]),(18,[0]),(19,[0]),(28,[0,1,2,3,4,5,6,7]),(29,[0,1,2,3,4,5,6,7]),(40,[0,1,2,3,4,5,6,7]),(41,[0,1,2,3,4,5,6,7]),(44,[0,1]),(45,[0,1]),(64,[0,1,2,3,4]),(65,[0,1,2,3,4]),(66,[0,1,2,3]),(67,[0,1,2,3]),(71,[0,1]),(72,[0,1]),(73,[0,2]),(74,[0,2]),(82,[0,1,2,3]),(83,[0,1,2,3]),(87,[0,8,9]),(88,[0,8,9]),(89,[0,1]),(90,[0,1]),(96,[0,1,2]),(97,[0,1,2]),(123,[0,8,9,10,11,12,13,15,16]),(124,[0,8,9,10,11,12,13,15,16]),(128,[0,1]),(129,[0,1]),(139,[0]),(140,[0]),(142,[0,1,2]),(143,[0,1,2]),(145,[0]),(146,[0]),(149,[0,1,2]),(150,[0,1,2]),(155,[0,1]),(156,[0,1]),(167,[0]),(168,[0]),(169,[0,1,9,10,11,12]),(170,[0,1,9,10,11,12]),(192,[0,1,2,3]),(193,[0,1,2,3]),(236,[0,8]),(237,[0,8]),(262,[0,1,2]),(263,[0,1,2]),(275,[0]),(276,[0]),(284,[0,1,2]),(285,[0,1,2]),(290,[0,1,2,3]),(291,[0,1,2,3]),(300,[0,1,2,3,4,5,6,7,8,9,10]),(301,[0,1,2,3,4,5,6,7,8,9,10])]
def HD:Nat->List Nat->List (Nat×Nat)
 |_,[]=>[]
 |i,a::r=>(i,a)::HD (i+1) r
theorem Ro:∀{l:List Nat} {i j a:Nat},l[j]?=some a->(i+j,a)∈HD i l
 |b::r,i,0,a,h=>by simp at h;subst h;exact .head _
 |b::r,i,j+1,a,h=>by
  have:=Ro (i:=i+1) (by simpa using h:r[j]?=some a)
  rw[show i+(j+1)=i+1+j by omega]
  exact .tail _ this
theorem aac{l:List Nat}{j a:Nat}(h:l[j]?=some a):(j,a)∈HD 0 l:=by have:=Ro (i:=0) h;rwa[Nat.zero_add]at this
theorem aad:Rn.all (fun e=>(HD 0 e.2).all fun q=>gS prog e.1 q.1 q.2)=true:=by kernel_rfl
def sliceB(P:Program)(t e:Nat):Bool:=match P.underlying t with
 |some (.slice jJ)=>Nat.beq jJ e
 |_=>false
theorem aae{P:Program}{t e:Nat}(h:sliceB P t e=true):P.underlying t=some (.slice e):=by
 unfold sliceB at h
 split at h
 ·rename_i jJ hu;rw[hu,kN h]
 ·cases h
def Rp:List (Nat×Nat):=[(22,3),(23,5),(24,97),(25,83),(26,90),(27,67),(33,29),(38,22),(39,156),(63,65),(78,193),(126,9),(127,74),(171,1),(181,4),(187,24),(235,100)]
theorem aaf:Rp.all (fun e=>sliceB prog e.1 e.2)=true:=by kernel_rfl
def Rq:List (Nat×Nat×Bool×Nat):=[(86,20,false,1),(100,2,false,1),(138,6,false,1),(173,5,false,1),(176,20,false,1),(225,23,false,1),(239,20,false,1),(265,24,false,1),(278,20,false,1),(279,65,false,1),(282,32,false,1),(283,64,false,1),(292,0,false,1)]
theorem aag:Rq.all (fun e=>pe prog e.1 e.2.1 e.2.2.1 e.2.2.2)=true:=by kernel_rfl
section
theorem Cx{α:Type}{f:Nat×α->Bool}{k:Nat}{v:α}:∀{l:List (Nat×α)},qP l k=some v->l.all f=true->f (k,v)=true
 |p::r,h,aC=>by
  rw[List.all_cons,eL]at aC
  unfold qP at h
  cases ae:Nat.beq p.1 k with
  |true=>
   rw[ae]at h
   injection h with h
   have:=kN ae
   subst this;subst h
   exact aC.1
  |false=>rw[ae]at h;exact Cx h aC.2
def Ls:IntKind->IntKind->Bool
 | .i8,.i8| .i16,.i16| .i32,.i32| .i64,.i64| .u8,.u8| .u16,.u16| .u32,.u32| .u64,.u64=>true
 |_,_=>false
theorem aah{a b:IntKind}(h:Ls a b=true):a=b:=by cases a<;>cases b<;>first|rfl|cases h
def Lt(S:ad)(t:TypeId)(u:ai):Option (ai×List Nat):=match qP Rl t with
 |some (false,_)=>(match u with
  | .ao l j=>(match S.get (G l)with
   |some (.U (.data ds))=>(match ds[j]? with
    |some r=>some (.d r,[l])
    |none=>none)
   |some (.U (.cells cs))=>(match cs[j]? with
    |some r=>some (r,[l])
    |none=>none)
   |_=>none)
  | .cc l=>(match l[0]? with
   |some r=>some (.d r,[])
   |none=>none)
  |_=>none)
 |some (true,n)=>(match u with
  | .cc l=>bif Nat.ble n l.length then some (.d (.agg (l.take n)),[])else none
  | .ao l 0=>(match S.get (G l)with
   |some (.U (.data ds))=>bif Nat.beq ds.length n then some (.d (.agg ds),[l])else none
   |_=>none)
  |_=>none)
 |none=>none
def Lu(S:ad):Op->Option (ai×List Nat)
 | .move x=>(match dK S x with
  |some u=>some (u,[])
  |none=>none)
 | .assign x=>(match dK S x with
  |some u=>some (u,[])
  |none=>none)
 | .nilCheck x=>(match dK S x with
  |some u=>bif u.GS then some (u,[])else none
  |none=>none)
 | .extract x i=>(match dK S x with
  |some (.bE l)=>(match l[i]? with
   |some r=>some (r,[])
   |none=>none)
  |_=>none)
 | .fieldAddr s x f=>(match qP Rn s with
  |some fw=>(match fw[f]? with
   |some off=>(match dK S x with
    |some u=>(match u.shift off with
     |some r=>some (r,[])
     |none=>none)
    |none=>none)
   |none=>none)
  |none=>none)
 | .load t x=>(match dK S x with
  |some u=>Lt S t u
  |none=>none)
 | .binOp op _ x y _=>(match dK S x with
  |some (.d (.v (.int k m)))=>(match dK S y with
   |some (.d (.v (.int jZ n)))=>bif Ls k jZ then(match DQ op m n with
    |some r=>some (bk r,[])
    |none=>none)else none
   |_=>none)
  |_=>none)
 | .unOp .not _ x=>(match dK S x with
  |some (.d (.v (.bool b)))=>some (bk (!b),[])
  |_=>none)
 | .indexAddr t x y=>(match qP Rq t with
  |some (len,_,n)=>(match dK S x with
   |some u=>(match dK S y with
    |some (.d (.v (.int _ (.ofNat i))))=>bif Nat.blt i len then(match u.shift (i*n)with
     |some r=>some (r,[])
     |none=>none)else none
    |_=>none)
   |none=>none)
  |none=>none)
 | .call ⟨.builtin .len,⟨[x]⟩,⟨t::_⟩⟩=>(match qP Rp t with
  |some _=>(match dK S x with
   |some u=>(match u.lenOf with
    |some n=>some (aF .i64 n,[])
    |none=>none)
   |none=>none)
  |none=>none)
 |_=>none
section
variable {S:ad} {d:Option Nat} {ty:TypeId} {pos:String} {a6:Array Edge} {bB:Option (Nat×Bool)} {x:Operand}
theorem aai{t:TypeId}{u y:ai}{dE:List Nat}(e:dK S x=some u)(h:Lt S t u=some (y,dE)):Pure prog S dE ⟨d,.load t x,ty,pos,a6,bB⟩ true y:=by
 unfold Lt at h
 split at h
 ·rename_i n aa
  have aT:dq prog t false n=true:=Cx aa Rm
  split at h
  ·rename_i l j
   split at h
   ·rename_i ds ae
    split at h
    ·rename_i r aE
     injection h with h;injection h with J W;subst J;subst W
     exact .h2 aT (.dB e) ae aE
    ·cases h
   ·rename_i cs ae
    split at h
    ·rename_i r aE
     injection h with h;injection h with J W;subst J;subst W
     exact .wB aT (.dB e) ae aE
    ·cases h
   ·cases h
  ·rename_i l
   split at h
   ·rename_i r aE
    injection h with h;injection h with J W;subst J;subst W
    exact .fG aT (.dB e) aE
   ·cases h
  ·cases h
 ·rename_i n aa
  have aT:dq prog t true n=true:=Cx aa Rm
  split at h
  ·rename_i l
   cases ae:Nat.ble n l.length with
   |false=>rw[ae]at h;cases h
   |true=>
    rw[ae]at h
    injection h with h;injection h with J W;subst J;subst W
    exact .kD aT (.dB e) fun _=>cC ae
  ·rename_i l
   split at h
   ·rename_i ds ae
    cases af:Nat.beq ds.length n with
    |false=>rw[af]at h;cases h
    |true=>
     rw[af]at h
     injection h with h;injection h with J W;subst J;subst W
     exact .GC aT (.dB e) ae (kN af)
   ·cases h
  ·cases h
 ·cases h
theorem Rr{op:Op}{y:ai}{dE:List Nat}(h:Lu S op=some (y,dE)):Pure prog S dE ⟨d,op,ty,pos,a6,bB⟩ true y:=by
 unfold Lu at h
 split at h
 ·split at h
  ·rename_i u e
   injection h with h;injection h with J W;subst J;subst W
   exact .move (.dB e)
  ·cases h
 ·split at h
  ·rename_i u e
   injection h with h;injection h with J W;subst J;subst W
   exact .assign (.dB e)
  ·cases h
 ·split at h
  ·rename_i u e
   cases hu:u.GS with
   |false=>rw[hu]at h;cases h
   |true=>
    rw[hu]at h
    injection h with h;injection h with J W;subst J;subst W
    exact .nilCheck (.dB e) hu
  ·cases h
 ·split at h
  ·rename_i l e
   split at h
   ·rename_i r aE
    injection h with h;injection h with J W;subst J;subst W
    exact .extract (.dB e) aE
   ·cases h
  ·cases h
 ·rename_i s x f
  split at h
  ·rename_i fw bf
   split at h
   ·rename_i off bJ
    have K:gS prog s f off=true:=by
     have:=eZ.1 (Cx bf aad) (f,off) (aac bJ)
     exact this
    split at h
    ·rename_i u e
     split at h
     ·rename_i r aE
      injection h with h;injection h with J W;subst J;subst W
      exact .fieldAddr K (.dB e) aE
     ·cases h
    ·cases h
   ·cases h
  ·cases h
 ·split at h
  ·rename_i u e
   exact aai e h
  ·cases h
 ·split at h
  ·rename_i k m aX
   split at h
   ·rename_i jZ n bu
    cases K:Ls k jZ with
    |false=>rw[K]at h;cases h
    |true=>
     rw[K,cond_true]at h
     have:=aah K
     subst this
     split at h
     ·rename_i r aE
      injection h with h;injection h with J W;subst J;subst W
      exact .qz (.dB aX) (.dB bu) aE
     ·cases h
   ·cases h
  ·cases h
 ·split at h
  ·rename_i b e
   injection h with h;injection h with J W;subst J;subst W
   exact .not (.dB e)
  ·cases h
 ·rename_i t x x3
  split at h
  ·rename_i len mP n aa
   have aT:pe prog t len mP n=true:=Cx aa aag
   split at h
   ·rename_i u aX
    split at h
    ·rename_i k i bu
     cases ae:Nat.blt i len with
     |false=>rw[ae]at h;cases h
     |true=>
      rw[ae,cond_true]at h
      split at h
      ·rename_i r aE
       injection h with h;injection h with J W;subst J;subst W
       exact .Lo (i:=Int.ofNat i) aT (.dB aX) (.dB bu) (fun _=>⟨Int.natCast_nonneg i,cC ae⟩) aE
      ·cases h
    ·cases h
   ·cases h
  ·cases h
 ·rename_i x t ts
  split at h
  ·rename_i e aa
   have aT:=Cx aa aaf
   simp only[beq_iff_eq]at aT
   split at h
   ·rename_i u aX
    split at h
    ·rename_i n af
     injection h with h;injection h with J W;subst J;subst W
     exact .len D (aae aT) (.dB aX) af
    ·cases h
   ·cases h
  ·cases h
 ·cases h
end
def oP:Nat->List Oper->ad->(List cx->List cx)->Option (List Oper×ad×(List cx->List cx))
 |0,l,S,F=>some (l,S,F)
 |k+1,⟨some t,op,ty,pos,a6,none⟩::r,S,F=>(match Lu S op with
  |some (x,dE)=>oP k r ((ab t,.aB x)::S) fun L=>F (⟨cQ ⟨some t,op,ty,pos,a6,none⟩++[]++dE.map G,S,[(ab t,some (.aB x))],[]⟩::L)
  |none=>none)
 |_,_,_,_=>none
theorem Rs{ro:eR}{ops:Array Oper}:∀{k:Nat} {l q:List Oper} {S ed:ad} {F lI:List cx->List cx},oP k l S F=some (q,ed,lI)->∃B:List cx,(∀L,lI L=F (B++L))/\∀ko n9,bI prog ro ops q ed ko n9->bI prog ro ops l S (B++ko) n9
 |0,l,q,S,ed,F,lI,h=>by
  unfold oP at h
  injection h with h;injection h with J W;injection W with W aH
  subst J;subst W;subst aH
  exact⟨[],fun L=>rfl,fun ko n9 h=>h⟩
 |k+1,l,q,S,ed,F,lI,h=>by
  cases l with
  |nil=>simp[oP]at h
  |cons o r=>
   obtain⟨dst,op,ty,pos,a6,bB⟩:=o
   cases dst with
   |none=>simp[oP]at h
   |some t=>
    cases bB with
    |some g=>simp[oP]at h
    |none=>
     simp only[oP]at h
     split at h
     ·rename_i x dE an
      obtain⟨B,J,W⟩:=Rs (ro:=ro) (ops:=ops) h
      exact⟨_::B,fun L=>J L,fun ko n9 fz=>cH dE (Rr an) (W ko n9 fz)⟩
     ·cases h
theorem O{ro:eR}{ops:Array Oper}{l q:List Oper}{S ed n9:ad}{ko:List cx}{lI:List cx->List cx}(k:Nat)(h:oP k l S (fun L=>L)=some (q,ed,lI))(W:bI prog ro ops q ed ko n9):bI prog ro ops l S (lI ko) n9:=by
 obtain⟨B,aH,aV⟩:=Rs (ro:=ro) (ops:=ops) h
 rw[aH]
 exact aV ko n9 W
end
section
variable {P:Program} {S:ad} {ro:eR} {ops:Array Oper} {E:c7}
theorem HE{f:FuncId}{fn:Func}{rest:Code}{id a:Nat}{ts:Array TypeId}{ty:TypeId}{pos:String}{a6:Array Edge}{args:List ai}{aS a8:ad}{aA:List Nat}{u hU:FrameMode}{x:Value}(bf:P.funcs[f]?=some fn)
  (ae:fn.body=some (.seq (.region id #[⟨some a,.call ⟨.builtin .recover,#[],ts⟩,ty,pos,a6,none⟩] false) rest))
  (af:args.length<=fn.ntmps) (lB:∀n c,aS.get n=some c->n%2=1) (aC:a<fn.ntmps) (lT:fn.results= #[]) (hu:Ef u x hU)
  (h:∀E:c7,E.aA=aA->E.cg=fn.ntmps->c8 P {} E rest ((ab a,.aB (.d (.v x)))::(j2 0 args++aS)) fun e S'=>(e= .normal\/e= .ret)/\∀l B,a8.get (G l)=some (.U B)->S'.get (G l)=some (.U B)):
  nS P f args aS a8 u hU aA:=by
 intro V M w b4 vs hw aq
 refine callsD_of_wpS bf ae fun kl cs aw=>?_
 have kF:=wO fn.ntmps af lB hw aq
 generalize dk:({tmps:=vs.toArray++Array.replicate (fn.ntmps-vs.toArray.size) undef,defers:=[]}:Act)=A at kF⊢
 refine wpS_seq (wpS_region ?_)
 have wR:∀w,(execOp A.eval ⟨some a,.call ⟨.builtin .recover,#[],ts⟩,ty,pos,a6,none⟩).run P w= .ok .recover w:=fun w=>by
  simp[execOp,resolve,invoke,builtin,de,e5,Result.andThen]
 have fA:recoverD (kl::cs)=match u with| .returning=>none|_=>some (x,{kl with mode:=hU}::cs):=by
  cases hu with
  |tc=>simp[recoverD,aw]
  |td v yo=>simp[recoverD,aw]
 have key:∀cs',wpOpsS P #[⟨some a,.call ⟨.builtin .recover,#[],ts⟩,ty,pos,a6,none⟩] (Exit.thenS (rest.wpS P (bodyPostS P fn kl cs fun e m w'=>∃v br bo,e= .returned v/\m=hU/\cl (.dd w b4 M V aA 0) a8 br bo w')) (bodyPostS P fn kl cs fun e m w'=>∃v br bo,e= .returned v/\m=hU/\cl (.dd w b4 M V aA 0) a8 br bo w'))
   [] (A.put (some a) x) cs' w↔rest.wpS P (bodyPostS P fn kl cs fun e m w'=>∃v br bo,e= .returned v/\m=hU/\cl (.dd w b4 M V aA 0) a8 br bo w') (A.put (some a) x) cs' w:=by
  intro cs'
  simp[wpOpsS,Exit.thenS]
 have Eg:ei (.dd w b4 M V aA fn.ntmps) ((ab a,.aB (.d (.v x)))::(j2 0 args++aS)) (A.put (some a) x) w:=by
  obtain⟨hC,nT,J,W⟩:=kF
  have aV:=tX J a (.d (.v x)) x aC (.d _ _ (.v _))
  refine⟨hC,nT,⟨fun t y e=>aV.fT t y ?_,aV.size,aV.defers⟩,W.my fun l B e=>?_⟩
  ·rw[ej]at e
   rw[pc]
   exact e
  ·rw[ej,if_neg (iz a l)]at e
   exact e
 have vm:∀cs',cs'={kl with mode:=hU}::cs->rest.wpS P (bodyPostS P fn kl cs fun e m w'=>∃v br bo,e= .returned v/\m=hU/\cl (.dd w b4 M V aA 0) a8 br bo w') (A.put (some a) x) cs' w:=by
  intro cs' fV
  refine wpS_of_wp ?_
  have:=wpIn_wide.1 (xT D (h (.dd w b4 M V aA fn.ntmps) D D _ w Eg.m))
  refine Code.wp_mono ?_ this
  rintro e gL w' (⟨S',⟨he,cP⟩,ki⟩|⟨y,ak,_⟩)
  ·obtain⟨br,bo,z1,te⟩:=ki.dB rfl
   have kj:∃v br bo,Ending.returned (Value.tuple #[])= .returned v/\hU=hU/\cl (.dd w b4 M V aA 0) a8 br bo w':=⟨_,br,bo,rfl,rfl,(te.mv (E':=.dd w b4 M V aA 0) D D D D D).my cP⟩
   have um:gL.defers=[]:=z1.defers
   have jN:(results fn gL.tmps).run P w'= .ok (.tuple #[]) w':=by
    rw[DZ,lT]
    simp[e5,de,Result.andThen]
   rcases he with rfl|rfl
   ·exact⟨um,hU,fV,_,jN,kj⟩
   ·exact⟨um,hU,fV,_,jN,kj⟩
  ·cases ak
 show wpOpsS P _ _ (List.range 1) A (kl::cs) w
 have bu:List.range 1=[0]:=rfl
 rw[bu]
 unfold wpOpsS
 have BL:Region.wanted (⟨some a,.call ⟨.builtin .recover,#[],ts⟩,ty,pos,a6,none⟩:Oper) (yielded #[⟨some a,.call ⟨.builtin .recover,#[],ts⟩,ty,pos,a6,none⟩] A.tmps)=true:=by simp[Region.wanted]
 simp only[List.getElem?_toArray,List.getElem?_cons_zero,BL,if_true,wR]
 cases hu with
 |tc=>
  simp only at fA
  rw[fA]
  refine(key (kl::cs)).2 ?_
  exact vm _ (by rw[<-aw])
 |td v yo=>
  simp only at fA
  rw[fA]
  refine(key _).2 ?_
  exact vm _ D
section
variable {x y:Operand} {t t' ty:TypeId} {pos:String} {a6:Array Edge} {bB:Option (Nat×Bool)} {d:Option Nat} {c:Bool}
theorem Pure.HF{u:Value}{b:Bool}(hu:P.underlying t=some (.interface (P.methodsAt t)))(aX:cd S c x (.d (.v u)))(ae:(u= .nilIface/\b=true)\/(∃k z,u= .iface k z)/\b=false):Pure P S [] ⟨d,.binOp .eql t x (.const .nilIface) t',ty,pos,a6,bB⟩ c (bk b):=by
 refine⟨rfl,fun E V M a w h aj=>?_⟩
 have J:=h.val (by simp[Op.operands]) aX
 have W:a.eval (.const .nilIface)= .nilIface:=rfl
 generalize a.eval=aI at*
 refine⟨.bool b,?_,.d _ _ (.v _)⟩
 rcases ae with⟨rfl,rfl⟩|⟨⟨k,z,rfl⟩,rfl⟩
 ·simp only[execOp,J,W,eqGuard_nil_constR,de,e5,Result.andThen,run_eql_nil_nil w t hu]
 ·have:eqGuard .eql t x (.const .nilIface) (.iface k z) .nilIface=pure ():=rfl
  simp only[execOp,J,W,this,de,e5,Result.andThen,run_eql_held_nil w t k z hu]
theorem Pure.Cy{Φ:Int->Prop}(b2:∀i,Φ i->i≠0)(aX:cd S c x (.d (qJ (fun i=>Φ i) fun i:Int=>.v (.int .i64 i)))):Pure P S [] ⟨d,.binOp .neq t x (.const (.int .i64 0)) t',ty,pos,a6,bB⟩ c (bk true):=by
 refine⟨rfl,fun E V M a w h aj=>?_⟩
 have J:=h.ez x (by simp[Op.operands]) _ aX
 have W:a.eval (.const (.int .i64 0))= .int .i64 0:=rfl
 generalize aK:a.eval x=v at J
 generalize a.eval=aI at*
 cases J with
 |d _ _ J=>
  obtain⟨i,hi,aH⟩:=ld M _ J
  have bb:=b2 i hi
  cases aH
  refine⟨.bool true,?_,.d _ _ (.v _)⟩
  simp[execOp,aK,W,eqGuard,binOp,bb,go_sem]
end
end
section
variable {P:Program} {S:ad} {ro:eR} {ops:Array Oper} {E:c7}
def E6:Op->Bool
 | .typeAssert .. | .move _| .assign _| .extract .. | .alloc _| .store .. =>true
 |_=>false
theorem aaj{o:Oper}{aI:Operand->Value}{w w':World}{Cz:Next}(h:E6 o.op=true)(e:(execOp aI o).run P w= .ok Cz w'):(∃v,Cz= .value v)\/Cz= .skip:=by
 obtain⟨d,op,ty,pos,a6,bB⟩:=o
 have val:∀s:Sem Value,(do pure (.value (<-s)):Sem Next).run P w= .ok Cz w'->∃v,Cz= .value v:=fun s e=>by
  rw[de]at e
  cases an:s.run P w with
  |ok v gd=>rw[an]at e;simp only[Result.andThen,e5]at e;injection e with aX _;exact⟨v,aX.symm⟩
  |halt x gd=>rw[an]at e;simp[Result.andThen]at e
 cases op<;>first|(exact Bool.noConfusion (show(false:Bool)=true from h))|skip
 case move=>simp only[execOp,e5]at e;injection e with aX _;exact .inl ⟨_,aX.symm⟩
 case assign=>simp only[execOp,e5]at e;injection e with aX _;exact .inl ⟨_,aX.symm⟩
 case alloc=>exact .inl (val _ e)
 case typeAssert=>exact .inl (val _ e)
 case extract=>exact .inl (val _ e)
 case store t x y=>
  right
  simp only[execOp]at e
  rw[de]at e
  cases an:(Instr.storeAt t (aI x) (aI y)).run P w with
  |ok v gd=>rw[an]at e;simp only[Result.andThen,e5]at e;injection e with aX _;exact aX.symm
  |halt x gd=>rw[an]at e;simp[Result.andThen]at e
theorem aak{o:Op}(h:E6 o=true):∀d,o≠ .defer d:=fun d e=>by subst e;cases h
theorem aal{Q:Exit->Act->List Frame->World->Prop}{cs:List Frame}{l:List Oper}{S S':ad}{L:List cx}(h:bI P {} ops l S L S'):
  (∀o∈l,E6 o.op=true/\o.guard=none)->mu E L->(∀a w,ei E S' a w->Q .normal a cs w)->∀k,(∀j,l[j]?=ops[k+j]?)->∀a w,ei E S a w->
   wpOpsS P ops Q (List.range' k l.length) a cs w:=by
 induction h with
 |nil S=>intro _ _ bA k _ a w aE;exact bA a w aE
 | @cons o A S T r l S' aC an bf he h aJ=>
  intro aj K bA k az a w aE
  have bb:ops[k]?=some o:=by simpa using(az 0).symm
  obtain⟨Rt,fY⟩:=aj o (by simp)
  have q9:=aC E S a w an bf (K A (by simp)) aE (fun _ _ _=>False) fun x Y=>Y.elim
  have hw:Region.wanted o (yielded ops a.tmps)=true:=by simp[Region.wanted,fY]
  unfold lx at q9
  rw[if_pos hw]at q9
  have hu:=q9.2
  rw[Oper.semAt_eq _ _ _ (aak Rt)]at hu
  have next:∀a w,ei E (S.eK A.post) a w->wpOpsS P ops Q (List.range' (k+1) r.length) a cs w:=fun a w aE=>aJ (fun o bJ=>aj o (by simp[bJ])) (fun B cP=>K B (by simp[cP])) bA (k+1) (fun j=>by have:=az (j+1);simpa[Nat.add_assoc,Nat.add_comm 1 j]using this) a w (aE.fj fun n c e=>by rw[<-he n];exact e)
  rw[ek,List.range'_succ]
  unfold wpOpsS
  simp only[bb,hw,if_true]
  cases ow:(execOp a.eval o).run P w with
  |ok Cz w'=>
   rw[ow]at hu
   rcases aaj Rt ow with⟨v,rfl⟩|rfl
   ·exact next _ _ hu
   ·exact next _ _ hu
  |halt x w'=>
   rw[ow]at hu
   cases x<;>exact hu.elim
theorem Ru{f:FuncId}{fn:Func}{rest:Code}{id a:Nat}{ts:Array TypeId}{ty:TypeId}{pos:String}{a6:Array Edge}{l:List Oper}{args:List ai}{aS a8:ad}{aA:List Nat}{u hU:FrameMode}{x:Value}(bf:P.funcs[f]?=some fn)
  (ae:fn.body=some (.seq (.region id (⟨some a,.call ⟨.builtin .recover,#[],ts⟩,ty,pos,a6,none⟩::l).toArray false) rest))
  (af:args.length<=fn.ntmps) (lB:∀n c,aS.get n=some c->n%2=1) (aC:a<fn.ntmps) (lT:fn.results= #[]) (hu:Ef u x hU) (oa:l.all (fun o=>E6 o.op&&o.guard.isNone)=true)
  (h:∀E:c7,E.aA=aA->E.cg=fn.ntmps->∃L ed,bI P {} (⟨some a,.call ⟨.builtin .recover,#[],ts⟩,ty,pos,a6,none⟩::l).toArray l ((ab a,.aB (.d (.v x)))::(j2 0 args++aS)) L ed/\mu E L/\c8 P {} E rest ed fun e S'=>(e= .normal\/e= .ret)/\∀l B,a8.get (G l)=some (.U B)->S'.get (G l)=some (.U B)):
  nS P f args aS a8 u hU aA:=by
 have aa:∀o∈l,E6 o.op=true/\o.guard=none:=fun o bJ=>by
  have:=eZ.1 oa o bJ
  simpa using this
 intro V M w b4 vs hw aq
 refine callsD_of_wpS bf ae fun kl cs aw=>?_
 have kF:=wO fn.ntmps af lB hw aq
 generalize dk:({tmps:=vs.toArray++Array.replicate (fn.ntmps-vs.toArray.size) undef,defers:=[]}:Act)=A at kF⊢
 refine wpS_seq (wpS_region ?_)
 have wR:∀w,(execOp A.eval ⟨some a,.call ⟨.builtin .recover,#[],ts⟩,ty,pos,a6,none⟩).run P w= .ok .recover w:=fun w=>by
  simp[execOp,resolve,invoke,builtin,de,e5,Result.andThen]
 have fA:recoverD (kl::cs)=match u with| .returning=>none|_=>some (x,{kl with mode:=hU}::cs):=by
  cases hu with
  |tc=>simp[recoverD,aw]
  |td v yo=>simp[recoverD,aw]
 have Eg:ei (.dd w b4 M V aA fn.ntmps) ((ab a,.aB (.d (.v x)))::(j2 0 args++aS)) (A.put (some a) x) w:=by
  obtain⟨hC,nT,J,W⟩:=kF
  have aV:=tX J a (.d (.v x)) x aC (.d _ _ (.v _))
  refine⟨hC,nT,⟨fun t y e=>aV.fT t y ?_,aV.size,aV.defers⟩,W.my fun l B e=>?_⟩
  ·rw[ej]at e
   rw[pc]
   exact e
  ·rw[ej,if_neg (iz a l)]at e
   exact e
 obtain⟨L,ed,r1,wI,Er⟩:=h (.dd w b4 M V aA fn.ntmps) D D
 have vm:∀cs',cs'={kl with mode:=hU}::cs->∀ca gd,ei (.dd w b4 M V aA fn.ntmps) ed ca gd->rest.wpS P (bodyPostS P fn kl cs fun e m w'=>∃v br bo,e= .returned v/\m=hU/\cl (.dd w b4 M V aA 0) a8 br bo w') ca cs' gd:=by
  intro cs' fV ca gd sh
  refine wpS_of_wp ?_
  have:=wpIn_wide.1 (xT D (Er _ gd sh.m))
  refine Code.wp_mono ?_ this
  rintro e gL w' (⟨S',⟨he,cP⟩,ki⟩|⟨y,ak,_⟩)
  ·obtain⟨br,bo,z1,te⟩:=ki.dB rfl
   have kj:∃v br bo,Ending.returned (Value.tuple #[])= .returned v/\hU=hU/\cl (.dd w b4 M V aA 0) a8 br bo w':=⟨_,br,bo,rfl,rfl,(te.mv (E':=.dd w b4 M V aA 0) D D D D D).my cP⟩
   have um:gL.defers=[]:=z1.defers
   have jN:(results fn gL.tmps).run P w'= .ok (.tuple #[]) w':=by
    rw[DZ,lT]
    simp[e5,de,Result.andThen]
   rcases he with rfl|rfl
   ·exact⟨um,hU,fV,_,jN,kj⟩
   ·exact⟨um,hU,fV,_,jN,kj⟩
  ·cases ak
 have yA:∀cs',cs'={kl with mode:=hU}::cs->wpOpsS P (⟨some a,.call ⟨.builtin .recover,#[],ts⟩,ty,pos,a6,none⟩::l).toArray (Exit.thenS (rest.wpS P (bodyPostS P fn kl cs fun e m w'=>∃v br bo,e= .returned v/\m=hU/\cl (.dd w b4 M V aA 0) a8 br bo w')) (bodyPostS P fn kl cs fun e m w'=>∃v br bo,e= .returned v/\m=hU/\cl (.dd w b4 M V aA 0) a8 br bo w'))
   (List.range' 1 l.length) (A.put (some a) x) cs' w:=fun cs' fV=>
  aal r1 aa wI (fun ca gd sh=>vm cs' fV ca gd sh) 1 (fun j=>by simp[Nat.add_comm 1 j]) _ _ Eg
 show wpOpsS P _ _ (List.range (l.length+1)) A (kl::cs) w
 rw[List.range_eq_range',List.range'_succ]
 unfold wpOpsS
 have BL:Region.wanted (⟨some a,.call ⟨.builtin .recover,#[],ts⟩,ty,pos,a6,none⟩:Oper) (yielded (⟨some a,.call ⟨.builtin .recover,#[],ts⟩,ty,pos,a6,none⟩::l).toArray A.tmps)=true:=by simp[Region.wanted]
 simp only[List.getElem?_toArray,List.getElem?_cons_zero,BL,if_true,wR]
 cases hu with
 |tc=>
  simp only at fA
  rw[fA]
  exact yA _ (by rw[<-aw])
 |td v yo=>
  simp only at fA
  rw[fA]
  exact yA _ D
theorem Pure.aam{S:ad}{dE:List Nat}{o:Oper}{c:Bool}{x y:ai}(h:Pure P S dE o c x)(he:∀V M v,bU V M x v->bU V M y v):Pure P S dE o c y:=by
 obtain⟨bb,J⟩:=h
 refine⟨bb,fun E V M a w aM aj=>?_⟩
 obtain⟨v,aK,aq⟩:=J E V M a w aM aj
 exact⟨v,aK,he _ _ _ aq⟩
theorem aan(V:cu)(M:Mem)(v:Value)(h:bU V M (.d (.agg [])) v):bU V M (.d (.v (.agg #[]))) v:=by
 cases h with
 |d _ _ h=>
  cases h with
  |agg _ vs aa aq=>
   have:vs=[]:=List.eq_nil_of_length_eq_zero (by simpa using aa.symm)
   subst this
   exact .d _ _ (.v _)
theorem aao{t:TypeId}{z:Value}(h:(P.info? t).map (fun i=>i.zero)=some (some z))(w:World):(zeroValue t).run P w= .ok z w:=by
 cases hi:P.info? t with
 |none=>rw[hi]at h;simp at h
 |some i=>
  rw[hi]at h
  simp only[Option.map_some,en]at h
  simp[zeroValue,typeInfo,hi,h]
section
variable {x:Operand} {t t' ty:TypeId} {pos:String} {a6:Array Edge} {bB:Option (Nat×Bool)} {d:Option Nat} {c:Bool}
theorem Pure.aap{u:Value}{z:bg}{k:TypeDesc}(hu:P.underlying t'=some k)(K:∀m,k≠ .interface m)(bb:(P.info? t').map (fun i=>i.zero)=some (some u))(bd:∀M,ey M z u)(aX:cd S c x (.d (.v .nilIface))):Pure P S [] ⟨d,.typeAssert x t t' true,ty,pos,a6,bB⟩ c (.bE [.d z,bk false]):=by
 refine⟨rfl,fun E V M a w h aj=>?_⟩
 have J:=h.val (by simp[Op.operands]) aX
 generalize a.eval=aI at*
 have:(Instr.typeAssert .nilIface t t' true).run P w= .ok (.tuple #[u,.bool false]) w:=by
  unfold Instr.typeAssert
  simp only[de,run_underlying hu,Result.andThen]
  cases k<;>first|(exact absurd D (K _))|simp[de,aao bb,Result.andThen]
 refine⟨.tuple #[u,.bool false],by simp only[execOp,J,de,this,Result.andThen];rfl,?_⟩
 refine .bE _ [u,.bool false] D fun j p q Z bA=>?_
 match j with
 |0=>simp at Z bA;subst Z;subst bA;exact .d _ _ (bd M)
 |1=>simp at Z bA;subst Z;subst bA;exact .d _ _ (.v _)
 |j+2=>simp at Z
end
end
section
variable {P:Program} {S:ad} {ro:eR} {ops:Array Oper} {E:c7} {c:Bool} {d:Option Tmp} {t t' ty:TypeId} {x y:Operand} {pos:String} {a6:Array Edge} {bB:Option (Nat×Bool)}
theorem Rv{e:TypeId}(hu:P.underlying t=some (.slice e)){a:Option Addr}{len cap e7 c2:Nat}{w:World}:(binOp .eql t (.slice a len cap) (.slice none e7 c2)).run P w= .ok (.bool a.isNone) w:=by
 unfold binOp Op.equal Op.maxDepth Op.equalIn
 cases a<;>simp[go_sem,run_underlying hu]
theorem Pure.Rw{e:TypeId}{a:Option Addr}{len cap:Nat}(hu:P.underlying t=some (.slice e))(aX:cd S c x (.d (.v (.slice a len cap))))(bu:cd S c y k4):Pure P S [] ⟨d,.binOp .eql t x y t',ty,pos,a6,bB⟩ c (bk a.isNone):=by
 refine⟨rfl,fun E V M a w h aj=>?_⟩
 have J:=h.val (by simp[Op.operands]) aX
 have W:=h.val (by simp[Op.operands]) bu
 generalize a.eval=aI at*
 refine⟨_,?_,.d _ _ (.v _)⟩
 simp only[execOp,J,W,eqGuard]
 simp[de,e5,Result.andThen,Rv hu]
theorem Pure.Rx{e:TypeId}{n len:Nat}{g:Nat->List bg}(aa:0<len)(hu:P.underlying t=some (.slice e))(aX:cd S c x (.d (.cK n len g)))(bu:cd S c y k4):Pure P S [] ⟨d,.binOp .eql t x y t',ty,pos,a6,bB⟩ c (bk false):=by
 refine⟨rfl,fun E V M a w h aj=>?_⟩
 have J:=h.ez x (by simp[Op.operands]) _ aX
 have W:=h.val (by simp[Op.operands]) bu
 generalize a.eval=aI at*
 refine⟨_,?_,.d _ _ (.v _)⟩
 generalize aK:aI x=v at J
 cases J with
 |d _ _ J=>
  cases J with
  |ji=>omega
  |cK _ _ _ b o cap _ _ _ _ _=>
   simp only[execOp,aK,W,eqGuard]
   simp[de,e5,Result.andThen,Rv hu]
theorem bw.Ry{f:FuncId}{uL HG:List ai}{n:Nat}{g:Nat->List bg}{aS a8:ad}{res:ai}{aA:List Nat}(h:∀(a:Option Addr) (cap:Nat),bw P f (uL++ .d (.v (.slice a 0 cap))::HG) aS res a8 aA):
  bw P f (uL++ .d (.cK n 0 g)::HG) aS res a8 aA:=by
 intro V M w b4 vs hw aq
 have aG:uL.length<vs.length:=by have:=aq.len;simp at this;omega
 have J:=aq.e6 uL.length (.d (.cK n 0 g)) vs[uL.length] (by simp) (by simp[aG])
 obtain⟨a,cap,aK⟩:∃a cap,vs[uL.length]= .slice a 0 cap:=by
  generalize vs[uL.length]=v at J
  cases J with
  |d _ _ J=>cases J with
   |ji _ _ a cap=>exact⟨a,cap,rfl⟩
   |cK _ _ _ b o cap=>exact⟨_,cap,rfl⟩
 refine h a cap V M w b4 vs hw ⟨by have:=aq.len;simpa using this,fun j x y Y ak=>?_⟩
 by_cases az:j=uL.length
 ·subst az
  simp at Y
  subst Y
  rw[dx aG,aK]at ak
  injection ak with ak
  subst ak
  exact .d _ _ (.v _)
 ·refine aq.e6 j x y ?_ ak
  rw[List.getElem?_append]at Y⊢
  split at Y
  ·rename_i nx;rw[if_pos nx];exact Y
  ·rename_i nx
   rw[if_neg nx]
   cases K:j-uL.length with
   |zero=>omega
   |succ k=>rw[K]at Y;exact Y
theorem Rz{n cap:Nat}{a:Option Addr}{g:Nat->List bg}:∀V M v,bU V M (.d (.v (.slice a 0 cap))) v->bU V M (.d (.cK n 0 g)) v:=fun V M v h=>by
 have:v= .slice a 0 cap:=qy h
 subst this
 exact .d _ _ (.ji n g a cap)
theorem b1.RA{l len:Nat}{k:IntKind}{xs:List Int}{ds:List bg}(ae:S.get (G l)=some (.U (.bG 1 len [.ds ds])))(aq:ds=xs.map fun m=>.v (.int k m)):b1 E S ((G l,.U (.bG 1 len [.cv k xs]))::S):=by
 refine(b1.ui (B':=.bG 1 len [.cv k xs]) ae fun V M w h=>?_).trans (b1.fj fun m c e=>by rw[pc];rw[ej]at e;exact e)
 subst aq
 obtain⟨J,W,aH⟩:=h
 have aa:xs.length=len:=by have:=W _ (qc.2 D);simpa[bz.len]using this
 refine⟨rfl,fun c aj=>by rw[qc.1 aj];exact aa,?_⟩
 cases K:V.bZ l with
 |none=>rw[K]at aH;exact aH
 |some cap=>
  rw[K]at aH
  obtain⟨aV,vs,t,db,fc,gE,h9,nx⟩:=aH
  refine⟨aV,vs,t,db,fc,rfl,fun c aj=>by rw[qc.1 aj];exact aa,fun i j c hi az=>?_⟩
  cases j with
  |zero=>
   injection az with az
   subst az
   obtain⟨v,aK,eD⟩:=nx i 0 _ hi rfl
   refine⟨v,aK,?_⟩
   have e:bz.at (.ds (xs.map fun m=>bg.v (.int k m))) i= .v (.int k (xs.getD i 0)):=by
    simp only[bz.at]
    rw[zN _ _ 0 _ (by omega)]
   rw[e]at eD;exact eD
  |succ j=>simp at az
end
end Go.Proofs.YtfgcfofjjiinjaaGreatDoor

/- TopMeaning: texts of the walk and of the plain law, part 4 of 6. -/
import Derived.Test.YtfgcfofjjiinjaaGreatDoorPk2
namespace Go.Proofs.YtfgcfofjjiinjaaGreatDoor
open Go Tryz
set_option linter.unusedVariables false
set_option linter.unusedSimpArgs false
set_option maxRecDepth 100000
set_option maxHeartbeats 4000000
theorem acB(n:Int)(lV:e1 n)(b:Bool):dI (ι:=Unit) prog 257 [aF .i64 n,bk b] [] (fun _=>b=true/\dw n) (fun _=>aF .i64 n) (fun _=>[]) [] ((fun bc=>hp bc/\¬(b=true/\dw n))) []:=by
 refine hr [.tmp 4] func257 D D fun E K af=>?_
 refine aL 1 D<|al<|aO (O 3 D<|dp D D<|c6 D D (I D) D<|gQ D D D<|O 1 D<|dp D D<|c6 D D (I D) D<|gQ D D D<|ar)<|a7 D (fun aP=>?_) fun aP=>?_
 ·have hw:¬(b=true/\dw n):=by rintro⟨rfl,J,W⟩;simp at aP;omega
  apply kH 0
  ·exact ag (.wN underlying30 (by intro m h;cases h) (I D))<|uz 0 (I D) .nil (by exact⟨⟨⟨160,by decide,by decide,rfl⟩,hw⟩,fun l B e=>by simp[ad.get]at e⟩)<|ar
  ·exact bR
  rfl
 have hw:b=true/\dw n:=by cases b<;>simp at aP;exact⟨rfl,aP.2,aP.1⟩
 exact bx<|aL 2 D<|bp<|⟨.inr D,(),hw,⟨_,(.cons (.tmp D) .nil),cM⟩,cI .nil⟩
theorem Sw(a b:Int)(aC:dw a)(ae:dw b):dI (ι:=Int) prog 240 [aF .i64 a,aF .i64 b] [] (fun n=>vF a b=some n) (fun n=>aF .i64 n) (fun _=>[]) [] ((fun bc=>hp bc/\vF a b=none)) []:=by
 refine hr [.tmp 4] func240 D D fun E K af=>?_
 refine aL 1 D<|al<|al<|?_
 have uS:=aC.1
 have vR:=aC.2
 have l8:=ae.1
 have l9:=ae.2
 refine bm (O 3 D<|dp D D<|c6 D D (I D) D<|eg D D D<|O 1 D<|dp D D<|dp D D<|cF [] D (.nv (I D) (bH D) D fun h=>iO (by simp at h;omega))<|c6 D D (bH D) D<|eg D D D<|O 1 D<|dp D D<|c6 D D (I D) D<|cF [] D (.move (bH D))<|dp D D<|c6 D D (I D) D<|cF [] D (.pick (bH D) (.bB D (by simp)) (I D))<|cF [] D (.move (bH D))<|dp D D<|dp D D<|cF [] D (.nv (I D) (bH D) D fun _=>iO (by omega))<|c6 D D (bH D) D<|cF [] D (.pick (bH D) (.bB D (by simp)) (I D))<|gQ D D D<|ar)<|a7 D (fun aP=>?_) fun aP=>?_
 ·have hw:¬dw (a+b):=dj (cg ((Ra aC ae).symm.trans aP))
  apply kH 0
  ·exact ag (.wN underlying30 (by intro m h;cases h) (I D))<|uz 0 (I D) .nil (by exact⟨⟨⟨160,by decide,by decide,rfl⟩,Q9 hw⟩,fun l B e=>by simp[ad.get]at e⟩)<|ar
  ·exact bR
  rfl
 have hw:dw (a+b):=cJ (vG ((Ra aC ae).symm.trans aP))
 exact bx<|aO (O 2 D<|cp D D D<|aN 1 D)<|bp<|⟨.inr D,a+b,Q8 hw,⟨_,(.cons (.tmp D) .nil),cM⟩,cI .nil⟩
theorem Sx(a b:Int)(aC:dw a)(ae:dw b):dI (ι:=Int) prog 243 [aF .i64 a,aF .i64 b] [] (fun n=>sv a b=some n) (fun n=>aF .i64 n) (fun _=>[]) [] ((fun bc=>hp bc/\sv a b=none)) []:=by
 refine hr [.tmp 4] func243 D D fun E K af=>?_
 refine aL 1 D<|al<|al<|?_
 have uS:=aC.1
 have vR:=aC.2
 have l8:=ae.1
 have l9:=ae.2
 refine bm (O 3 D<|dp D D<|c6 D D (I D) D<|gQ D D D<|ar)<|a7 D (fun aP=>?_) fun aP=>?_
 ·have bd:a*b=0:=by simp at aP;rcases aP with rfl|rfl<;>simp
  exact aL 1 D<|bp<|⟨.inr D,0,by unfold sv;rw[bd];rfl,⟨_,(.cons (.tmp D) .nil),cM⟩,cI .nil⟩
 have p3:b≠0:=by rintro rfl;simp at aP
 refine bx<|aO (O 2 D<|ag (.u6 (I D) (I D) D)<|aN 1 D)<|al<|?_
 apply jD (new:=[]) (ds:=[]) (cW:=[]) 18
 ·exact O 3 D<|ag (.quo (I D) (I D) fun _=>by omega)<|O 3 D<|dp D D<|dp D D<|cF [] D (.neg (bH D) fun _=>iO (by omega))<|cF [] D (.max2 (bH D) (bH D))<|dp D D<|dp D D<|cF [] D (.neg (bH D) fun _=>iO (by omega))<|cF [] D (.max2 (bH D) (bH D))<|cF [] D (.quo (I D) (bH D) fun _=>by omega)<|c6 D D (bH D) D<|eg D D D<|ar
 ·exact bR
 ·rfl
 ·exact(cn D D)
 ·exact(au D)
 ·exact acB _ (Z2 _) _
 ·exact .nil
 ·intro q;rfl
 ·rfl
 ·exact .nil
 ·rfl
 ·exact fun bc h=>⟨⟨h.1,Q9 fun hw=>h.2 ⟨(Lm aC ae p3).2 hw,by rw[nE hw.i];exact hw⟩⟩,fun l B e=>by simp[ad.get]at e⟩
 ·rfl
 ·rw[K,af];rfl
 intro _ hw
 apply ju
 ·exact O 1 D<|ar
 ·exact bR
 exact bp<|⟨.inr D,eI (a*b),by rw[nE ((Lm aC ae p3).1 hw.1).i];exact Q8 ((Lm aC ae p3).1 hw.1),⟨_,(.cons (.tmp D) .nil),cM⟩,cI .nil⟩
theorem acC(a n:Int)(aC:dw a)(lV:1<=n/\n<=2147483648):dI (ι:=Int) prog 245 [aF .i64 a,aF .i64 n] [] (fun m=>m=a/n) (fun m=>aF .i64 m) (fun _=>[]) [] ((fun _=>False)) []:=by
 refine hr [.tmp 4] func245 D D fun E K af=>?_
 refine aL 1 D<|al<|al<|?_
 have uS:=aC.1
 have vR:=aC.2
 have aq:=yK aC (show 0<n by omega)
 have zX:=aq.1
 have zJ:=aq.2
 refine fS 2 D<|a7 D (fun aP=>?_) fun aP=>?_
 ·have Kj:a<0:=cJ aP
  exact aO (O 1 D<|ag (.neg (I D) fun _=>iO (by omega))<|O 1 D<|cp D D D<|cp D D D<|O 1 D<|ag ((Pure.quo (I D) (I D) fun _=>by omega).bK (y:=aF .i64 (-(a/n))) (congrArg (aF .i64) (Z3 Kj aC (by omega))))<|ag (.neg (I D) fun _=>iO (by omega))<|aN 1 D)<|bp<|⟨.inr D,- -(a/n),by omega,⟨_,(.cons (.tmp D) .nil),cM⟩,cI .nil⟩
 have oh:0<=a:=by have:=dj aP;omega
 exact bx<|aO (O 2 D<|ag ((Pure.quo (I D) (I D) fun _=>by omega).bK (y:=aF .i64 (a/n)) (congrArg (aF .i64) (by rw[Ln oh];exact nE aq.i)))<|aN 1 D)<|bp<|⟨.inr D,a/n,rfl,⟨_,(.cons (.tmp D) .nil),cM⟩,cI .nil⟩
theorem Sy(a n:Int)(aC:dw a)(lV:1<=n/\n<=2147483648):bw prog 245 [aF .i64 a,aF .i64 n] [] (aF .i64 (a/n)) [] []:=dI.nD (acC a n aC lV) (a/n) (fun _ h=>h) fun _ h=>h
theorem acD(x:Int):dI (ι:=Int) prog 45 [aF .i64 x] [] (fun m=>m=j6 x) (fun m=>aF .i64 m) (fun _=>[]) [] ((fun _=>False)) []:=by
 refine hr [.tmp 2] func45 D D fun E K af=>?_
 refine aL 1 D<|al<|bX<|aL 3 D<|a7 D (fun aP=>?_) fun aP=>?_
 ·exact aL 1 D<|bp<|⟨.inr D,-2147483648,by have:=cJ aP;unfold j6;omega,⟨_,(.cons (.tmp D) .nil),cM⟩,cI .nil⟩
 refine aL 3 D<|a7 D (fun bq=>?_) fun bq=>?_
 ·exact aL 1 D<|bp<|⟨.inr D,2147483647,by have:=cJ bq;unfold j6;omega,⟨_,(.cons (.tmp D) .nil),cM⟩,cI .nil⟩
 exact bx<|aL 2 D<|bp<|⟨.inr D,x,by have:=dj aP;have:=dj bq;unfold j6;omega,⟨_,(.cons (.tmp D) .nil),cM⟩,cI .nil⟩
theorem CN(x:Int):bw prog 45 [aF .i64 x] [] (aF .i64 (j6 x)) [] []:=dI.nD (acD x) (j6 x) (fun _ h=>h) fun _ h=>h
theorem Ht{a:Int}(h:dw a):dw (-a):=⟨by have:=h.2;omega,by have:=h.1;omega⟩
theorem CO{a b n:Int}(aC:dw a)(ae:dw b)(h:vF a b=some n):bw prog 240 [aF .i64 a,aF .i64 b] [] (aF .i64 n) [] []:=dI.nD (Sw a b aC ae) n (fun m aw=>by rw[h]at aw;exact(Option.some.inj aw).symm) fun bc aj=>by rw[h]at aj;cases aj.2
theorem Ia{a b:Int}(aC:dw a)(ae:dw b)(h:vF a b=none):fC prog 240 [aF .i64 a,aF .i64 b] [] kk [] [] hp []:=dI.gm (Sw a b aC ae) (fun j az=>by rw[h]at az;cases az) _ _ fun bc aj=>aj.1
theorem vS{a b n:Int}(aC:dw a)(ae:dw b)(h:sv a b=some n):bw prog 243 [aF .i64 a,aF .i64 b] [] (aF .i64 n) [] []:=dI.nD (Sx a b aC ae) n (fun m aw=>by rw[h]at aw;exact(Option.some.inj aw).symm) fun bc aj=>by rw[h]at aj;cases aj.2
theorem Ib{a b:Int}(aC:dw a)(ae:dw b)(h:sv a b=none):fC prog 243 [aF .i64 a,aF .i64 b] [] kk [] [] hp []:=dI.gm (Sx a b aC ae) (fun j az=>by rw[h]at az;cases az) _ _ fun bc aj=>aj.1
theorem acE(p:aD)(fd:List bh)(x:aR)(ls:List bh):dI (ι:=bh) prog 227 [.ao 0 0,.d (.agg (cr x)),.d (nF ls)] (fN p fd) (fun s=>(some (x.n,x.n))=some s) (fun s=>.d (.agg (kS s))) (fun _=>fN p fd) [0,1] ((fun bc=>hp bc/\(some (x.n,x.n))=none)) []:=by
 refine hr [.cell 6 100] func227 D D fun E K af=>?_
 exact aO (cV 4 D D D<|cm 6 gb D<|ar)<|aO (O 4 D<|ag (.build gb la (ba D D D (ba D D D (.nil _ _))) D)<|cL ga D D D D<|ar)<|bp<|⟨.inr D,(_,_),rfl,⟨_,(.cons (.iP D D ga D) .nil),cM⟩,cI (.dy D D)⟩
theorem acF(p:aD)(fd:List bh)(x:aR)(ls:List bh)(Z:p.params.length<=65536)(Y:0<=x.index/\x.index<p.params.length):dI (ι:=bh) prog 228 [.ao 0 0,.d (.agg (cr x)),.d (nF ls)] (fN p fd) (fun s=>(some ((p.params.getD x.index.toNat default).lo,(p.params.getD x.index.toNat default).hi))=some s) (fun s=>.d (.agg (kS s))) (fun _=>fN p fd) [0,1] ((fun bc=>hp bc/\(some ((p.params.getD x.index.toNat default).lo,(p.params.getD x.index.toNat default).hi))=none)) []:=by
 refine hr [.cell 6 100] func228 D D fun E K af=>?_
 refine aO (cV 4 D D D<|cm 6 gb D<|ar)<|al<|?_
 have bb:=Y.1
 have J:x.index.toNat<p.params.length:=by omega
 exact eo (O 7 D<|bW lE D D<|O 9 D<|bW lE D D<|O 2 D<|ag (.build gb la (ba D D D (ba D D D (.nil _ _))) D)<|cL ga D D D D<|ar)<|bp<|⟨.inr D,(_,_),rfl,⟨_,(.cons (.iP D D ga D) .nil),cM⟩,cI (.dy D D)⟩
theorem acG(p:aD)(fd:List bh)(x:aR)(ls:List bh)(Z:p.bt.length<=65536)(Y:0<=x.index/\x.index<p.bt.length):dI (ι:=bh) prog 229 [.ao 0 0,.d (.agg (cr x)),.d (nF ls)] (fN p fd) (fun s=>(some ((p.bt.getD x.index.toNat default).lo,(p.bt.getD x.index.toNat default).hi))=some s) (fun s=>.d (.agg (kS s))) (fun _=>fN p fd) [0,1] ((fun bc=>hp bc/\(some ((p.bt.getD x.index.toNat default).lo,(p.bt.getD x.index.toNat default).hi))=none)) []:=by
 refine hr [.cell 6 100] func229 D D fun E K af=>?_
 refine aO (cV 4 D D D<|cm 6 gb D<|ar)<|al<|?_
 have bb:=Y.1
 have J:x.index.toNat<p.bt.length:=by omega
 exact eo (O 7 D<|bW lE D D<|O 9 D<|bW lE D D<|O 2 D<|ag (.build gb la (ba D D D (ba D D D (.nil _ _))) D)<|cL ga D D D D<|ar)<|bp<|⟨.inr D,(_,_),rfl,⟨_,(.cons (.iP D D ga D) .nil),cM⟩,cI (.dy D D)⟩
theorem acH(p:aD)(fd:List bh)(x:aR)(ls:List bh)(Y:0<=x.index/\x.index<fd.length):dI (ι:=bh) prog 230 [.ao 0 0,.d (.agg (cr x)),.d (nF ls)] (fN p fd) (fun s=>(some (fd.getD x.index.toNat default))=some s) (fun s=>.d (.agg (kS s))) (fun _=>fN p fd) [0,1] ((fun bc=>hp bc/\(some (fd.getD x.index.toNat default))=none)) []:=by
 refine hr [.cell 6 100] func230 D D fun E K af=>?_
 refine aO (cV 4 D D D<|cm 6 gb D<|ar)<|al<|?_
 have bb:=Y.1
 have J:x.index.toNat<fd.length:=by omega
 exact eo (O 6 D<|ag (.mx dF (I D) (I D) fun _=>⟨by omega,by omega⟩)<|cH [_] ((Pure.N5 ga (I D) D D (fun _=>cC D) fun _=>J).bK (y:=.d (.agg (kS (fd.getD x.index.toNat default)))) (by exact congrArg (fun l=>ai.d (.agg l)) (Rb fd J)))<|cL ga D D D D<|ar)<|bp<|⟨.inr D,fd.getD x.index.toNat default,rfl,⟨_,(.cons (.iP D D ga D) .nil),cM⟩,cI (.dy D D)⟩
theorem Sz(p:aD)(fd:List bh)(x:aR)(ls:List bh)(aa:0<ls.length):dI (ι:=bh) prog 231 [.ao 0 0,.d (.agg (cr x)),.d (nF ls)] (fN p fd) (fun s=>(rG (ls.getD 0 default))=some s) (fun s=>.d (.agg (kS s))) (fun _=>fN p fd) [0,1] ((fun bc=>hp bc/\(rG (ls.getD 0 default))=none)) []:=by
 refine hr [.cell 6 100] func231 D D fun E K af=>?_
 refine aO (cV 4 D D D<|cm 6 gb D<|ar)<|al<|aO (O 1 D<|bW dF D D<|O 4 D<|dp D D<|cF [] D (.pV dF (bH D) (I D) fun h=>by exact⟨by omega,by omega⟩)<|cF [] D (.Lo Xm (bH D) (I D) (fun _=>by decide) D)<|cF [] D (.fG bY (bH D) D)<|c6 D D (I D) D<|gQ D D D<|ar)<|a7 D (fun aP=>?_) fun aP=>?_
 ·have bA:rG (ls.getD 0 default)=none:=by unfold rG;rw[show(bif decide ((ls.getD 0 default:bh).1<0)then true else decide (4096<(ls.getD 0 default:bh).2))=true from aP];rfl
  apply kH 0
  ·exact ag (.wN underlying30 (by intro m h;cases h) (I D))<|uz 0 (I D) .nil (by exact⟨⟨⟨161,by decide,by decide,rfl⟩,bA⟩,fun l B e=>by simp[ad.get]at e⟩)<|ar
  ·exact bR
  rfl
 have bA:rG (ls.getD 0 default)=some (-2147483648,2147483647):=by unfold rG;rw[show(bif decide ((ls.getD 0 default:bh).1<0)then true else decide (4096<(ls.getD 0 default:bh).2))=false from aP];rfl
 exact bx<|aO (ag (.OM (.head _) ga D)<|cL ga D D D D<|ar)<|bp<|⟨.inr D,(-2147483648,2147483647),bA,⟨_,(.cons (.iP D D ga D) .nil),cM⟩,cI (.dy D D)⟩
theorem acI(p:aD)(fd:List bh)(x:aR)(ls:List bh)(Z:p.a1.length<=65536)(Y:0<=x.index/\x.index<p.a1.length):dI (ι:=bh) prog 232 [.ao 0 0,.d (.agg (cr x)),.d (nF ls)] (fN p fd) (fun s=>(some (min (p.a1.getD x.index.toNat default).lo 0,max (p.a1.getD x.index.toNat default).hi 0))=some s) (fun s=>.d (.agg (kS s))) (fun _=>fN p fd) [0,1] ((fun bc=>hp bc/\(some (min (p.a1.getD x.index.toNat default).lo 0,max (p.a1.getD x.index.toNat default).hi 0))=none)) []:=by
 refine hr [.cell 6 100] func232 D D fun E K af=>?_
 refine aO (cV 4 D D D<|cm 6 gb D<|ar)<|al<|?_
 have bb:=Y.1
 have J:x.index.toNat<p.a1.length:=by omega
 exact eo (O 7 D<|bW nV D D<|O 2 D<|ag (.min2 (I D) (I D))<|O 7 D<|bW nV D D<|O 2 D<|ag (.max2 (I D) (I D))<|ag (.build gb la (ba D D D (ba D D D (.nil _ _))) D)<|cL ga D D D D<|ar)<|bp<|⟨.inr D,(_,_),rfl,⟨_,(.cons (.iP D D ga D) .nil),cM⟩,cI (.dy D D)⟩
theorem acJ(p:aD)(fd:List bh)(x:aR)(ls:List bh)(aa:0<ls.length):dI (ι:=bh) prog 234 [.ao 0 0,.d (.agg (cr x)),.d (nF ls)] (fN p fd) (fun s=>(some (j6 (ls.getD 0 default:bh).1,j6 (ls.getD 0 default:bh).2))=some s) (fun s=>.d (.agg (kS s))) (fun _=>fN p fd) [0,1] ((fun bc=>hp bc/\(some (j6 (ls.getD 0 default:bh).1,j6 (ls.getD 0 default:bh).2))=none)) []:=by
 refine hr [.cell 6 100] func234 D D fun E K af=>?_
 exact aO (cV 4 D D D<|cm 6 gb D<|ar)<|ft (O 1 D<|bW dF D D<|O 2 D<|cY (cf D) (CN _) (au D)<|O 1 D<|bW dF D D<|O 2 D<|cY (cf D) (CN _) (au D)<|ag (.build gb la (ba D D D (ba D D D (.nil _ _))) D)<|cL ga D D D D<|ar)<|bp<|⟨.inr D,(_,_),rfl,⟨_,(.cons (.iP D D ga D) .nil),cM⟩,cI (.dy D D)⟩
theorem acK(p:aD)(fd:List bh)(x:aR)(ls:List bh)(aa:1<ls.length):dI (ι:=bh) prog 235 [.ao 0 0,.d (.agg (cr x)),.d (nF ls)] (fN p fd) (fun s=>(some (min (ls.getD 0 default:bh).1 (ls.getD 1 default:bh).1,min (ls.getD 0 default:bh).2 (ls.getD 1 default:bh).2))=some s) (fun s=>.d (.agg (kS s))) (fun _=>fN p fd) [0,1] ((fun bc=>hp bc/\(some (min (ls.getD 0 default:bh).1 (ls.getD 1 default:bh).1,min (ls.getD 0 default:bh).2 (ls.getD 1 default:bh).2))=none)) []:=by
 refine hr [.cell 6 100] func235 D D fun E K af=>?_
 exact aO (cV 4 D D D<|cm 6 gb D<|ar)<|ft (O 1 D<|bW dF D D<|O 3 D<|bW dF D D<|O 2 D<|ag (.min2 (I D) (I D))<|O 1 D<|bW dF D D<|O 3 D<|bW dF D D<|O 2 D<|ag (.min2 (I D) (I D))<|ag (.build gb la (ba D D D (ba D D D (.nil _ _))) D)<|cL ga D D D D<|ar)<|bp<|⟨.inr D,(_,_),rfl,⟨_,(.cons (.iP D D ga D) .nil),cM⟩,cI (.dy D D)⟩
theorem acL(p:aD)(fd:List bh)(x:aR)(ls:List bh)(aa:1<ls.length):dI (ι:=bh) prog 236 [.ao 0 0,.d (.agg (cr x)),.d (nF ls)] (fN p fd) (fun s=>(some (max (ls.getD 0 default:bh).1 (ls.getD 1 default:bh).1,max (ls.getD 0 default:bh).2 (ls.getD 1 default:bh).2))=some s) (fun s=>.d (.agg (kS s))) (fun _=>fN p fd) [0,1] ((fun bc=>hp bc/\(some (max (ls.getD 0 default:bh).1 (ls.getD 1 default:bh).1,max (ls.getD 0 default:bh).2 (ls.getD 1 default:bh).2))=none)) []:=by
 refine hr [.cell 6 100] func236 D D fun E K af=>?_
 exact aO (cV 4 D D D<|cm 6 gb D<|ar)<|ft (O 1 D<|bW dF D D<|O 3 D<|bW dF D D<|O 2 D<|ag (.max2 (I D) (I D))<|O 1 D<|bW dF D D<|O 3 D<|bW dF D D<|O 2 D<|ag (.max2 (I D) (I D))<|ag (.build gb la (ba D D D (ba D D D (.nil _ _))) D)<|cL ga D D D D<|ar)<|bp<|⟨.inr D,(_,_),rfl,⟨_,(.cons (.iP D D ga D) .nil),cM⟩,cI (.dy D D)⟩
theorem acM(p:aD)(fd:List bh)(x:aR)(ls:List bh)(aa:0<ls.length)(an:∀i,i<ls.length->hX (ls.getD i default)):dI (ι:=bh) prog 237 [.ao 0 0,.d (.agg (cr x)),.d (nF ls)] (fN p fd) (fun s=>(some (vH (ls.getD 0 default)))=some s) (fun s=>.d (.agg (kS s))) (fun _=>fN p fd) [0,1] ((fun bc=>hp bc/\(some (vH (ls.getD 0 default)))=none)) []:=by
 refine hr [.cell 6 100] func237 D D fun E K af=>?_
 refine aO (cV 4 D D D<|cm 6 gb D<|ar)<|al<|bX<|al<|?_
 have s1:hX (ls.getD (Int.toNat 0) default):=an 0 (by omega)
 have ca:=s1.1.1
 have a2:=s1.1.2
 have a3:=s1.2.1
 have a4:=s1.2.2
 refine bm (O 1 D<|bW dF D D<|aN 4 D)<|a7 D (fun aP=>?_) fun aP=>?_
 ·exact aO (O 1 D<|bW dF D D<|O 1 D<|cL ga D D D D<|ar)<|bp<|⟨.inr D,ls.getD 0 default,by simp only[vH,show decide (0<=(ls.getD 0 default:bh).1)=true from aP,cond_true],⟨_,(.cons (.iP D D ga D) .nil),cM⟩,cI (.dy D D)⟩
 refine aO (O 1 D<|bW dF D D<|aN 4 D)<|a7 D (fun bq=>?_) fun bq=>?_
 ·exact ft (O 1 D<|bW dF D D<|O 2 D<|ag (.neg (I D) fun _=>iO (by omega))<|O 1 D<|bW dF D D<|O 2 D<|ag (.neg (I D) fun _=>iO (by omega))<|ag (.build gb la (ba D D D (ba D D D (.nil _ _))) D)<|cL ga D D D D<|ar)<|bp<|⟨.inr D,(-(ls.getD 0 default:bh).2,-(ls.getD 0 default:bh).1),by simp only[vH,show decide (0<=(ls.getD 0 default:bh).1)=false from aP,show decide ((ls.getD 0 default:bh).2<=0)=true from bq,cond_true,cond_false],⟨_,(.cons (.iP D D ga D) .nil),cM⟩,cI (.dy D D)⟩
 exact bx<|ft (O 1 D<|bW dF D D<|O 2 D<|ag (.neg (I D) fun _=>iO (by omega))<|O 1 D<|bW dF D D<|O 2 D<|ag (.max2 (I D) (I D))<|ag (.build gb la (ba D D D (ba D D D (.nil _ _))) D)<|cL ga D D D D<|ar)<|bp<|⟨.inr D,(0,max (-(ls.getD 0 default:bh).1) (ls.getD 0 default:bh).2),by simp only[vH,show decide (0<=(ls.getD 0 default:bh).1)=false from aP,show decide ((ls.getD 0 default:bh).2<=0)=false from bq,cond_false],⟨_,(.cons (.iP D D ga D) .nil),cM⟩,cI (.dy D D)⟩
theorem acN(p:aD)(fd:List bh)(x:aR)(ls:List bh)(aa:0<ls.length)(an:∀i,i<ls.length->hX (ls.getD i default)):dI (ι:=bh) prog 238 [.ao 0 0,.d (.agg (cr x)),.d (nF ls)] (fN p fd) (fun s=>(some (-(ls.getD 0 default:bh).2,-(ls.getD 0 default:bh).1))=some s) (fun s=>.d (.agg (kS s))) (fun _=>fN p fd) [0,1] ((fun bc=>hp bc/\(some (-(ls.getD 0 default:bh).2,-(ls.getD 0 default:bh).1))=none)) []:=by
 refine hr [.cell 6 100] func238 D D fun E K af=>?_
 refine aO (cV 4 D D D<|cm 6 gb D<|ar)<|al<|?_
 have s1:hX (ls.getD (Int.toNat 0) default):=an 0 (by omega)
 have ca:=s1.1.1
 have a2:=s1.1.2
 have a3:=s1.2.1
 have a4:=s1.2.2
 exact eo (O 1 D<|bW dF D D<|O 2 D<|ag (.neg (I D) fun _=>iO (by omega))<|O 1 D<|bW dF D D<|O 2 D<|ag (.neg (I D) fun _=>iO (by omega))<|ag (.build gb la (ba D D D (ba D D D (.nil _ _))) D)<|cL ga D D D D<|ar)<|bp<|⟨.inr D,(_,_),rfl,⟨_,(.cons (.iP D D ga D) .nil),cM⟩,cI (.dy D D)⟩
theorem acO(p:aD)(fd:List bh)(x:aR)(ls:List bh)(aa:1<ls.length)(an:∀i,i<ls.length->hX (ls.getD i default)):dI (ι:=bh) prog 239 [.ao 0 0,.d (.agg (cr x)),.d (nF ls)] (fN p fd) (fun s=>(qb (ls.getD 0 default) (ls.getD 1 default))=some s) (fun s=>.d (.agg (kS s))) (fun _=>fN p fd) [0,1] ((fun bc=>hp bc/\(qb (ls.getD 0 default) (ls.getD 1 default))=none)) []:=by
 refine hr [.cell 6 100] func239 D D fun E K af=>?_
 refine aO (cV 4 D D D<|cm 6 gb D<|ar)<|al<|?_
 have s1:hX (ls.getD (Int.toNat 0) default):=an 0 (by omega)
 have ca:=s1.1.1
 have a2:=s1.1.2
 have a3:=s1.2.1
 have a4:=s1.2.2
 have s2:hX (ls.getD (Int.toNat 1) default):=an 1 (by omega)
 have fK:=s2.1.1
 have fO:=s2.1.2
 have hh:=s2.2.1
 have ph:=s2.2.2
 have gd:dw (ls.getD 0 default:bh).1:=⟨ca,a2⟩
 have jO:dw (ls.getD 0 default:bh).2:=⟨a3,a4⟩
 have pw:dw (ls.getD 1 default:bh).1:=⟨fK,fO⟩
 have uI:dw (ls.getD 1 default:bh).2:=⟨hh,ph⟩
 rcases pJ:vF (ls.getD 0 default:bh).1 (ls.getD 1 default:bh).1 with _|u
 ·apply se 15 mixed
  ·exact O 1 D<|bW dF D D<|O 3 D<|bW dF D D<|O 2 D<|dH [] [] (cn D D) (Ia (by assumption) (by assumption) pJ) (au D) .nil D D .nil D (by exact fun bc h=>⟨⟨h,by simp only[qb,pJ]⟩,fun l B e=>by simp[ad.get]at e⟩) rfl<|O 1 rfl<|bW dF rfl rfl<|O 3 rfl<|bW dF rfl rfl<|O 2 rfl<|fM 15 rfl<|fM 15 rfl<|fM 15 rfl<|ar
  ·rfl
  ·exact bR
  rfl
 rcases sE:vF (ls.getD 0 default:bh).2 (ls.getD 1 default:bh).2 with _|v
 ·apply se 24 mixed
  ·exact O 1 D<|bW dF D D<|O 3 D<|bW dF D D<|O 2 D<|cY (cn D D) (CO (by assumption) (by assumption) pJ) (au D)<|O 1 D<|bW dF D D<|O 3 D<|bW dF D D<|O 2 D<|dH [] [] (cn D D) (Ia (by assumption) (by assumption) sE) (au D) .nil D D .nil D (by exact fun bc h=>⟨⟨h,by simp only[qb,pJ,sE]⟩,fun l B e=>by simp[ad.get]at e⟩) rfl<|fM 24 rfl<|fM 24 rfl<|ar
  ·rfl
  ·exact bR
  rfl
 exact eo (O 1 D<|bW dF D D<|O 3 D<|bW dF D D<|O 2 D<|cY (cn D D) (CO (by assumption) (by assumption) pJ) (au D)<|O 1 D<|bW dF D D<|O 3 D<|bW dF D D<|O 2 D<|cY (cn D D) (CO (by assumption) (by assumption) sE) (au D)<|ag (.build gb la (ba D D D (ba D D D (.nil _ _))) D)<|cL ga D D D D<|ar)<|bp<|⟨.inr D,(u,v),by simp only[qb,pJ,sE],⟨_,(.cons (.iP D D ga D) .nil),cM⟩,cI (.dy D D)⟩
theorem acP(p:aD)(fd:List bh)(x:aR)(ls:List bh)(aa:1<ls.length)(an:∀i,i<ls.length->hX (ls.getD i default)):dI (ι:=bh) prog 241 [.ao 0 0,.d (.agg (cr x)),.d (nF ls)] (fN p fd) (fun s=>(qb (ls.getD 0 default) (-(ls.getD 1 default:bh).2,-(ls.getD 1 default:bh).1))=some s) (fun s=>.d (.agg (kS s))) (fun _=>fN p fd) [0,1] ((fun bc=>hp bc/\(qb (ls.getD 0 default) (-(ls.getD 1 default:bh).2,-(ls.getD 1 default:bh).1))=none)) []:=by
 refine hr [.cell 6 100] func241 D D fun E K af=>?_
 refine aO (cV 4 D D D<|cm 6 gb D<|ar)<|al<|?_
 have s1:hX (ls.getD (Int.toNat 0) default):=an 0 (by omega)
 have ca:=s1.1.1
 have a2:=s1.1.2
 have a3:=s1.2.1
 have a4:=s1.2.2
 have s2:hX (ls.getD (Int.toNat 1) default):=an 1 (by omega)
 have fK:=s2.1.1
 have fO:=s2.1.2
 have hh:=s2.2.1
 have ph:=s2.2.2
 have gd:dw (ls.getD 0 default:bh).1:=⟨ca,a2⟩
 have jO:dw (ls.getD 0 default:bh).2:=⟨a3,a4⟩
 have pw:dw (-(ls.getD 1 default:bh).2):=Ht ⟨hh,ph⟩
 have uI:dw (-(ls.getD 1 default:bh).1):=Ht ⟨fK,fO⟩
 rcases CP:vF (ls.getD 0 default:bh).1 (-(ls.getD 1 default:bh).2)with _|u
 ·apply se 16 mixed
  ·exact O 1 D<|bW dF D D<|O 3 D<|bW dF D D<|O 2 D<|ag (.neg (I D) fun _=>iO (by omega))<|dH [] [] (cn D D) (Ia (by assumption) (by assumption) CP) (au D) .nil D D .nil D (by exact fun bc h=>⟨⟨h,by simp only[qb,CP]⟩,fun l B e=>by simp[ad.get]at e⟩) rfl<|O 1 rfl<|bW dF rfl rfl<|O 3 rfl<|bW dF rfl rfl<|O 2 rfl<|ag (.neg (I D) fun _=>iO (by omega))<|fM 16 D<|fM 16 D<|fM 16 D<|ar
  ·rfl
  ·exact bR
  rfl
 rcases Ic:vF (ls.getD 0 default:bh).2 (-(ls.getD 1 default:bh).1)with _|v
 ·apply se 26 mixed
  ·exact O 1 D<|bW dF D D<|O 3 D<|bW dF D D<|O 2 D<|ag (.neg (I D) fun _=>iO (by omega))<|cY (cn D D) (CO (by assumption) (by assumption) CP) (au D)<|O 1 D<|bW dF D D<|O 3 D<|bW dF D D<|O 2 D<|ag (.neg (I D) fun _=>iO (by omega))<|dH [] [] (cn D D) (Ia (by assumption) (by assumption) Ic) (au D) .nil D D .nil D (by exact fun bc h=>⟨⟨h,by simp only[qb,CP,Ic]⟩,fun l B e=>by simp[ad.get]at e⟩) rfl<|fM 26 rfl<|fM 26 rfl<|ar
  ·rfl
  ·exact bR
  rfl
 exact eo (O 1 D<|bW dF D D<|O 3 D<|bW dF D D<|O 2 D<|ag (.neg (I D) fun _=>iO (by omega))<|cY (cn D D) (CO (by assumption) (by assumption) CP) (au D)<|O 1 D<|bW dF D D<|O 3 D<|bW dF D D<|O 2 D<|ag (.neg (I D) fun _=>iO (by omega))<|cY (cn D D) (CO (by assumption) (by assumption) Ic) (au D)<|ag (.build gb la (ba D D D (ba D D D (.nil _ _))) D)<|cL ga D D D D<|ar)<|bp<|⟨.inr D,(u,v),by simp only[qb,CP,Ic],⟨_,(.cons (.iP D D ga D) .nil),cM⟩,cI (.dy D D)⟩
theorem acQ(p:aD)(fd:List bh)(x:aR)(ls:List bh)(aa:1<ls.length)(an:∀i,i<ls.length->hX (ls.getD i default)):dI (ι:=bh) prog 242 [.ao 0 0,.d (.agg (cr x)),.d (nF ls)] (fN p fd) (fun s=>(tz (ls.getD 0 default) (ls.getD 1 default))=some s) (fun s=>.d (.agg (kS s))) (fun _=>fN p fd) [0,1] ((fun bc=>hp bc/\(tz (ls.getD 0 default) (ls.getD 1 default))=none)) []:=by
 refine hr [.cell 6 100] func242 D D fun E K af=>?_
 refine aO (cV 4 D D D<|cm 6 gb D<|ar)<|al<|?_
 have s1:hX (ls.getD (Int.toNat 0) default):=an 0 (by omega)
 have ca:=s1.1.1
 have a2:=s1.1.2
 have a3:=s1.2.1
 have a4:=s1.2.2
 have s2:hX (ls.getD (Int.toNat 1) default):=an 1 (by omega)
 have fK:=s2.1.1
 have fO:=s2.1.2
 have hh:=s2.2.1
 have ph:=s2.2.2
 have gd:dw (ls.getD 0 default:bh).1:=⟨ca,a2⟩
 have jO:dw (ls.getD 0 default:bh).2:=⟨a3,a4⟩
 have pw:dw (ls.getD 1 default:bh).1:=⟨fK,fO⟩
 have uI:dw (ls.getD 1 default:bh).2:=⟨hh,ph⟩
 rcases pJ:sv (ls.getD 0 default:bh).1 (ls.getD 1 default:bh).1 with _|q
 ·apply se 19 mixed
  ·exact O 1 D<|bW dF D D<|O 3 D<|bW dF D D<|O 2 D<|dH [] [] (cn D D) (Ib (by assumption) (by assumption) pJ) (au D) .nil D D .nil D (by exact fun bc h=>⟨⟨h,by simp only[tz,pJ]⟩,fun l B e=>by simp[ad.get]at e⟩) rfl<|O 1 rfl<|bW dF rfl rfl<|O 3 rfl<|bW dF rfl rfl<|O 2 rfl<|fM 19 rfl<|O 1 rfl<|bW dF rfl rfl<|O 3 rfl<|bW dF rfl rfl<|O 2 rfl<|fM 19 rfl<|O 1 rfl<|bW dF rfl rfl<|O 3 rfl<|bW dF rfl rfl<|O 2 rfl<|fM 19 rfl<|fM 19 rfl<|fM 19 rfl<|fM 19 rfl<|fM 19 rfl<|ar
  ·rfl
  ·exact bR
  rfl
 rcases sE:sv (ls.getD 0 default:bh).1 (ls.getD 1 default:bh).2 with _|r
 ·apply se 28 mixed
  ·exact O 1 D<|bW dF D D<|O 3 D<|bW dF D D<|O 2 D<|cY (cn D D) (vS (by assumption) (by assumption) pJ) (au D)<|O 1 D<|bW dF D D<|O 3 D<|bW dF D D<|O 2 D<|dH [] [] (cn D D) (Ib (by assumption) (by assumption) sE) (au D) .nil D D .nil D (by exact fun bc h=>⟨⟨h,by simp only[tz,pJ,sE]⟩,fun l B e=>by simp[ad.get]at e⟩) rfl<|O 1 rfl<|bW dF rfl rfl<|O 3 rfl<|bW dF rfl rfl<|O 2 rfl<|fM 28 rfl<|O 1 rfl<|bW dF rfl rfl<|O 3 rfl<|bW dF rfl rfl<|O 2 rfl<|fM 28 rfl<|fM 28 rfl<|fM 28 rfl<|fM 28 rfl<|fM 28 rfl<|ar
  ·rfl
  ·exact bR
  rfl
 rcases CQ:sv (ls.getD 0 default:bh).2 (ls.getD 1 default:bh).1 with _|s
 ·apply se 37 mixed
  ·exact O 1 D<|bW dF D D<|O 3 D<|bW dF D D<|O 2 D<|cY (cn D D) (vS (by assumption) (by assumption) pJ) (au D)<|O 1 D<|bW dF D D<|O 3 D<|bW dF D D<|O 2 D<|cY (cn D D) (vS (by assumption) (by assumption) sE) (au D)<|O 1 D<|bW dF D D<|O 3 D<|bW dF D D<|O 2 D<|dH [] [] (cn D D) (Ib (by assumption) (by assumption) CQ) (au D) .nil D D .nil D (by exact fun bc h=>⟨⟨h,by simp only[tz,pJ,sE,CQ]⟩,fun l B e=>by simp[ad.get]at e⟩) rfl<|O 1 rfl<|bW dF rfl rfl<|O 3 rfl<|bW dF rfl rfl<|O 2 rfl<|fM 37 rfl<|fM 37 rfl<|fM 37 rfl<|fM 37 rfl<|fM 37 rfl<|ar
  ·rfl
  ·exact bR
  rfl
 rcases Ie:sv (ls.getD 0 default:bh).2 (ls.getD 1 default:bh).2 with _|t
 ·apply se 46 mixed
  ·exact O 1 D<|bW dF D D<|O 3 D<|bW dF D D<|O 2 D<|cY (cn D D) (vS (by assumption) (by assumption) pJ) (au D)<|O 1 D<|bW dF D D<|O 3 D<|bW dF D D<|O 2 D<|cY (cn D D) (vS (by assumption) (by assumption) sE) (au D)<|O 1 D<|bW dF D D<|O 3 D<|bW dF D D<|O 2 D<|cY (cn D D) (vS (by assumption) (by assumption) CQ) (au D)<|O 1 D<|bW dF D D<|O 3 D<|bW dF D D<|O 2 D<|dH [] [] (cn D D) (Ib (by assumption) (by assumption) Ie) (au D) .nil D D .nil D (by exact fun bc h=>⟨⟨h,by simp only[tz,pJ,sE,CQ,Ie]⟩,fun l B e=>by simp[ad.get]at e⟩) rfl<|fM 46 rfl<|fM 46 rfl<|fM 46 rfl<|fM 46 rfl<|ar
  ·rfl
  ·exact bR
  rfl
 exact eo (O 1 D<|bW dF D D<|O 3 D<|bW dF D D<|O 2 D<|cY (cn D D) (vS (by assumption) (by assumption) pJ) (au D)<|O 1 D<|bW dF D D<|O 3 D<|bW dF D D<|O 2 D<|cY (cn D D) (vS (by assumption) (by assumption) sE) (au D)<|O 1 D<|bW dF D D<|O 3 D<|bW dF D D<|O 2 D<|cY (cn D D) (vS (by assumption) (by assumption) CQ) (au D)<|O 1 D<|bW dF D D<|O 3 D<|bW dF D D<|O 2 D<|cY (cn D D) (vS (by assumption) (by assumption) Ie) (au D)<|aN 4 D)<|aO (O 4 D<|ag (.Zu (I D) (I D) (I D) (I D))<|O 4 D<|ag (.QT (I D) (I D) (I D) (I D))<|ag (.build gb la (ba D D D (ba D D D (.nil _ _))) D)<|cL ga D D D D<|ar)<|bp<|⟨.inr D,(min (min (min q r) s) t,max (max (max q r) s) t),by simp only[tz,pJ,sE,CQ,Ie],⟨_,(.cons (.iP D D ga D) .nil),cM⟩,cI (.dy D D)⟩
theorem acR(p:aD)(fd:List bh)(x:aR)(ls:List bh)(aa:0<ls.length)(aq:1<=x.n/\x.n<=2147483648)(an:∀i,i<ls.length->hX (ls.getD i default)):dI (ι:=bh) prog 244 [.ao 0 0,.d (.agg (cr x)),.d (nF ls)] (fN p fd) (fun s=>(some ((ls.getD 0 default:bh).1/x.n,(ls.getD 0 default:bh).2/x.n))=some s) (fun s=>.d (.agg (kS s))) (fun _=>fN p fd) [0,1] ((fun bc=>hp bc/\(some ((ls.getD 0 default:bh).1/x.n,(ls.getD 0 default:bh).2/x.n))=none)) []:=by
 refine hr [.cell 6 100] func244 D D fun E K af=>?_
 refine aO (cV 4 D D D<|cm 6 gb D<|ar)<|al<|?_
 have s1:hX (ls.getD (Int.toNat 0) default):=an 0 (by omega)
 have ca:=s1.1.1
 have a2:=s1.1.2
 have a3:=s1.2.1
 have a4:=s1.2.2
 exact eo (O 1 D<|bW dF D D<|O 4 D<|cY (cn D D) (Sy _ _ ⟨by omega,by omega⟩ aq) (au D)<|O 1 D<|bW dF D D<|O 4 D<|cY (cn D D) (Sy _ _ ⟨by omega,by omega⟩ aq) (au D)<|ag (.build gb la (ba D D D (ba D D D (.nil _ _))) D)<|cL ga D D D D<|ar)<|bp<|⟨.inr D,(_,_),rfl,⟨_,(.cons (.iP D D ga D) .nil),cM⟩,cI (.dy D D)⟩
theorem acS(p:aD)(fd:List bh)(x:aR)(ls:List bh)(aa:3<ls.length):dI (ι:=bh) prog 246 [.ao 0 0,.d (.agg (cr x)),.d (nF ls)] (fN p fd) (fun s=>(some (min (ls.getD 2 default:bh).1 (ls.getD 3 default:bh).1,max (ls.getD 2 default:bh).2 (ls.getD 3 default:bh).2))=some s) (fun s=>.d (.agg (kS s))) (fun _=>fN p fd) [0,1] ((fun bc=>hp bc/\(some (min (ls.getD 2 default:bh).1 (ls.getD 3 default:bh).1,max (ls.getD 2 default:bh).2 (ls.getD 3 default:bh).2))=none)) []:=by
 refine hr [.cell 6 100] func246 D D fun E K af=>?_
 exact aO (cV 4 D D D<|cm 6 gb D<|ar)<|ft (O 1 D<|bW dF D D<|O 3 D<|bW dF D D<|O 2 D<|ag (.min2 (I D) (I D))<|O 1 D<|bW dF D D<|O 3 D<|bW dF D D<|O 2 D<|ag (.max2 (I D) (I D))<|ag (.build gb la (ba D D D (ba D D D (.nil _ _))) D)<|cL ga D D D D<|ar)<|bp<|⟨.inr D,(_,_),rfl,⟨_,(.cons (.iP D D ga D) .nil),cM⟩,cI (.dy D D)⟩
theorem acT(p:aD)(fd:List bh)(x:aR)(ls:List bh)(Z:p.bM.length<=65536)(Y:0<=x.index/\x.index<p.bM.length)(aT:0<(p.bM.getD x.index.toNat default).dU.length/\(p.bM.getD x.index.toNat default).dU.length<=65536):dI (ι:=bh) prog 233 [.ao 0 0,.d (.agg (cr x)),.d (nF ls)] (fN p fd) (fun s=>(some (tA (p.bM.getD x.index.toNat default).dU (p.bM.getD x.index.toNat default).dU.length))=some s) (fun s=>.d (.agg (kS s))) (fun _=>fN p fd) [0,1] ((fun bc=>hp bc/\(some (tA (p.bM.getD x.index.toNat default).dU (p.bM.getD x.index.toNat default).dU.length))=none)) []:=by
 refine hr [.cell 6 100] func233 D D fun E K af=>?_
 refine aO (cV 4 D D D<|cm 6 gb D<|ar)<|al<|?_
 have bb:=Y.1
 have J:x.index.toNat<p.bM.length:=by omega
 have SA:=aT.1
 refine eo (O 7 D<|bW wS D D<|aN 3 D)<|ft (O 1 D<|bW fB D D<|O 2 D<|bW fB D D<|O 1 D<|ag (.build gb la (ba D D D (ba D D D (.nil _ _))) D)<|cm 8 gb D<|cL ga D D D D<|ar)<|al<|aL 3 D<|bX<|pz (σ:=Nat) [(ab 6,_),(ab 8,_),(ab 28,_),(ab 29,_),(G 0,_),(G 1,_),(G 4,_),(G 6,_)] (fun i=>[(ab 30,.aB (aF .i64 i)),(G 8,.U (.data [av (tA (p.bM.getD x.index.toNat default).dU i).1,av (tA (p.bM.getD x.index.toNat default).dU i).2]))]) (fun i=>i<=(p.bM.getD x.index.toNat default).dU.length) (fun i=>(p.bM.getD x.index.toNat default).dU.length-i) 0 (eH (.s D (.b D (bl.dT D) (.nil)))) (fs D D D D D D D D<|aU) (Nat.zero_le _) fun i hi=>?_
 refine aL 1 D<|al<|a7 D (fun aP=>?_) fun aP=>?_
 ·have aG:i<(p.bM.getD x.index.toNat default).dU.length:=eJ aP
  exact bx<|al<|bX<|aO (bW fB D D<|aN 2 D)<|bm (O 3 D<|ag (.min2 (I D) (I D))<|O 3 D<|ag (.max2 (I D) (I D))<|ag (.build gb la (ba D D D (ba D D D (.nil _ _))) D)<|cL ga D D D D<|ar)<|bm (cp D D D<|aN 1 D)<|⟨i+1,aG,by omega,eH (.a D (by rw[show((i+1:Nat):Int)=(i:Int)+1 by omega];exact cM) (.b D (bl.dT D) (.nil))),fs D D D D D D D D<|aU⟩
 have eW:(p.bM.getD x.index.toNat default).dU.length=i:=by have:=dj aP;omega
 exact dW<|aO (O 1 D<|cL ga D D D D<|ar)<|bp<|⟨.inr D,tA (p.bM.getD x.index.toNat default).dU i,by rw[eW],⟨_,(.cons (.iP D D ga D) .nil),cM⟩,cI (.dy D D)⟩
abbrev oi(f:FuncId):bg:=.v (.func (.func f) #[] #[])
abbrev LU:List bg:=[.v .nilFunc,oi 227,.v .nilFunc,oi 228,oi 229,oi 230,oi 231,oi 231,oi 232,oi 233,oi 234,oi 235,oi 236,oi 237,oi 238,oi 239,oi 241,oi 242,oi 244,oi 246]
theorem acU:dI (ι:=Unit) prog 183 [] [] (fun _=>True) (fun _=>.d (.agg LU)) (fun _=>[]) [] ((fun _=>False)) []:=by
 refine hr [.cell 0 239] func183 D D fun E K af=>?_
 exact aO (cm 0 Pw D<|ar)<|al<|dm (ag (.build Pw Yk (ba D D D (ba D D D (ba D D D (ba D D D (ba D D D (ba D D D (ba D D D (ba D D D (ba D D D (ba D D D (ba D D D (ba D D D (ba D D D (ba D D D (ba D D D (ba D D D (ba D D D (ba D D D (.nil _ _))))))))))))))))))) D)<|ny Pv (I D) (I D) D D (by rfl) (by exact eZ.1 D) (by exact cC D) D<|ar) (nM K af D)<|bp<|⟨.inr D,(),trivial,⟨_,(.cons (.va D D Pv D) .nil),(Lp D)⟩,cI .nil⟩
theorem SB:bw prog 183 [] [] (.d (.agg LU)) [] []:=dI.nD acU () (fun _ _=>rfl) fun _ h=>h
theorem acV{p:aD}{fd:List bh}{x:aR}{ls:List bh}(Z:sw p)(h:n8 p fd.length x)(aa:(ls.length:Int)=mg x.kind)(an:∀i,i<ls.length->hX (ls.getD i default)):∃f,LU[x.kind.toNat]?=some (oi f)/\hS prog f=true/\mi prog f p fd x ls (j7 p fd x ls):=by
 rcases h.cases with K|K|K|K|K|K|K|K|K|K|K|K|K|K|K|K|K|K
 ·have gr:(ls.length:Int)=0:=by rw[aa,K];rfl
  refine⟨227,by rw[K];rfl,(au D),?_⟩
  unfold mi j7
  rw[K]
  exact acE p fd x ls
 ·have gr:(ls.length:Int)=0:=by rw[aa,K];rfl
  refine⟨228,by rw[K];rfl,(au D),?_⟩
  unfold mi j7
  rw[K]
  exact acF p fd x ls Z.ok.nf (h.bj K)
 ·have gr:(ls.length:Int)=0:=by rw[aa,K];rfl
  refine⟨229,by rw[K];rfl,(au D),?_⟩
  unfold mi j7
  rw[K]
  exact acG p fd x ls Z.ok.hH (h.nG K)
 ·have gr:(ls.length:Int)=0:=by rw[aa,K];rfl
  refine⟨230,by rw[K];rfl,(au D),?_⟩
  unfold mi j7
  rw[K]
  exact acH p fd x ls (h.lt K)
 ·have gr:(ls.length:Int)=1:=by rw[aa,K];rfl
  refine⟨231,by rw[K];rfl,(au D),?_⟩
  unfold mi j7
  rw[K]
  exact Sz p fd x ls (by omega)
 ·have gr:(ls.length:Int)=1:=by rw[aa,K];rfl
  refine⟨231,by rw[K];rfl,(au D),?_⟩
  unfold mi j7
  rw[K]
  exact Sz p fd x ls (by omega)
 ·have gr:(ls.length:Int)=1:=by rw[aa,K];rfl
  refine⟨232,by rw[K];rfl,(au D),?_⟩
  unfold mi j7
  rw[K]
  exact acI p fd x ls Z.ok.gH (h.rF K)
 ·have gr:(ls.length:Int)=1:=by rw[aa,K];rfl
  refine⟨233,by rw[K];rfl,(au D),?_⟩
  unfold mi j7
  rw[K]
  exact acT p fd x ls Z.ok.cg (h.rD K) ⟨(Z.vI _ (by have:=h.rD K;omega)).1,(Z.vI _ (by have:=h.rD K;omega)).2.1⟩
 ·have gr:(ls.length:Int)=1:=by rw[aa,K];rfl
  refine⟨234,by rw[K];rfl,(au D),?_⟩
  unfold mi j7
  rw[K]
  exact acJ p fd x ls (by omega)
 ·have gr:(ls.length:Int)=2:=by rw[aa,K];rfl
  refine⟨235,by rw[K];rfl,(au D),?_⟩
  unfold mi j7
  rw[K]
  exact acK p fd x ls (by omega)
 ·have gr:(ls.length:Int)=2:=by rw[aa,K];rfl
  refine⟨236,by rw[K];rfl,(au D),?_⟩
  unfold mi j7
  rw[K]
  exact acL p fd x ls (by omega)
 ·have gr:(ls.length:Int)=1:=by rw[aa,K];rfl
  refine⟨237,by rw[K];rfl,(au D),?_⟩
  unfold mi j7
  rw[K]
  exact acM p fd x ls (by omega) an
 ·have gr:(ls.length:Int)=1:=by rw[aa,K];rfl
  refine⟨238,by rw[K];rfl,(au D),?_⟩
  unfold mi j7
  rw[K]
  exact acN p fd x ls (by omega) an
 ·have gr:(ls.length:Int)=2:=by rw[aa,K];rfl
  refine⟨239,by rw[K];rfl,(au D),?_⟩
  unfold mi j7
  rw[K]
  exact acO p fd x ls (by omega) an
 ·have gr:(ls.length:Int)=2:=by rw[aa,K];rfl
  refine⟨241,by rw[K];rfl,(au D),?_⟩
  unfold mi j7
  rw[K]
  exact acP p fd x ls (by omega) an
 ·have gr:(ls.length:Int)=2:=by rw[aa,K];rfl
  refine⟨242,by rw[K];rfl,(au D),?_⟩
  unfold mi j7
  rw[K]
  exact acQ p fd x ls (by omega) an
 ·have gr:(ls.length:Int)=1:=by rw[aa,K];rfl
  refine⟨244,by rw[K];rfl,(au D),?_⟩
  unfold mi j7
  rw[K]
  exact acR p fd x ls (by omega) (h.AE K) an
 ·have gr:(ls.length:Int)=4:=by rw[aa,K];rfl
  refine⟨246,by rw[K];rfl,(au D),?_⟩
  unfold mi j7
  rw[K]
  exact acS p fd x ls (by omega)
theorem SC(l:List bh)(s:bh):ma (jS l) [.cv .i64 [s.1],.cv .i64 [s.2]]=jS (l++[s]):=by simp[ma,nz,jS,bz.qB]
def CR(p:aD)(fd:List bh)(x:aR):Prop:=dI (ι:=bh) prog 133 [.ao 0 0,.d (.agg (cr x))] (fN p fd) (fun s=>hq p fd x=some s) (fun s=>.d (.agg (kS s))) (fun _=>fN p fd) [0,1] (fun bc=>hp bc/\hq p fd x=none) []
theorem CR.ok{p:aD}{fd:List bh}{x:aR}{s:bh}(h:CR p fd x)(bd:hq p fd x=some s):bw prog 133 [.ao 0 0,.d (.agg (cr x))] (fN p fd) (.d (.agg (kS s))) (fN p fd) [0,1]:=
 dI.nD h s (fun j az=>by rw[bd]at az;injection az with az;exact az.symm) fun bc aj=>by rw[bd]at aj;cases aj.2
theorem CR.lv{p:aD}{fd:List bh}{x:aR}(h:CR p fd x)(bd:hq p fd x=none):fC prog 133 [.ao 0 0,.d (.agg (cr x))] (fN p fd) kk (fN p fd) [0,1] hp []:=
 dI.gm h (fun j az=>by rw[bd]at az;cases az) _ _ fun bc aj=>aj.1
theorem mi.ok{f:FuncId}{p:aD}{fd:List bh}{x:aR}{ls:List bh}{o:Option bh}{s:bh}(h:mi prog f p fd x ls o)(bd:o=some s):bw prog f [.ao 0 0,.d (.agg (cr x)),.d (nF ls)] (fN p fd) (.d (.agg (kS s))) (fN p fd) [0,1]:=
 dI.nD h s (fun j az=>by rw[bd]at az;injection az with az;exact az.symm) fun bc aj=>by rw[bd]at aj;cases aj.2
theorem mi.lv{f:FuncId}{p:aD}{fd:List bh}{x:aR}{ls:List bh}{o:Option bh}(h:mi prog f p fd x ls o)(bd:o=none):fC prog f [.ao 0 0,.d (.agg (cr x)),.d (nF ls)] (fN p fd) kk (fN p fd) [0,1] hp []:=
 dI.gm h (fun j az=>by rw[bd]at az;cases az) _ _ fun bc aj=>aj.1
theorem acW{p:aD}{fd:List bh}(Z:sw p)(k6:∀i,i<fd.length->hX (fd.getD i default))(x:aR)(Y:x.b5)(dh:ff p fd.length x)(aJ:∀y∈x.l,CR p fd y):dI (ι:=bh) prog 133 [.ao 0 0,.d (.agg (cr x))] (fN p fd) (fun s=>hq p fd x=some s) (fun s=>.d (.agg (kS s))) (fun _=>fN p fd) [0,1] ((fun bc=>hp bc/\hq p fd x=none)) []:=by
 refine hr [.cell 4 100] func133 D D fun E K af=>?_
 refine aO (cV 3 D D D<|cm 4 gb D<|ar)<|aL 1 D<|al<|al<|?_
 have aV:=Y.len
 refine c1 (b1.ve (t:=5) (l:=80) (n:=2) (cs:=jS []) D D (by rw[K];decide) (by rw[af];exact cC D) D (by simp[bz.len]))<|fS 4 rfl<|bX<|pz (σ:=Nat×List bh) [(ab 0,_),(ab 3,_),(ab 4,_),(ab 9,_),(ab 10,_),(G 0,_),(G 1,_),(G 3,_),(G 4,_)] (fun c=>[(ab 11,.aB (aF .i64 (c.1:Int))),(ab 5,.aB (.aQ 80 c.2.length)),(G 80,.U (.bG 2 c.2.length (jS c.2)))]) (fun c=>c.1<=x.l.length/\lG p fd (x.l.take c.1)=some c.2) (fun c=>x.l.length-c.1) (0,[]) (eH (.s D (.s D (.s D (.nil))))) (fs D D D D D D D D<|aZ D<|aU) ⟨Nat.zero_le _,rfl⟩ fun c hi=>?_
 refine aL 1 D<|al<|a7 D (fun aP=>?_) fun aP=>?_
 ·have aG:c.1<x.l.length:=eJ aP
  have iL:=dJ aG
  have y1:=HB hi.2
  rw[rv]at y1
  refine bx<|al<|bX<|aO (ag ((eN iR D D).bK (iT aG))<|O 1 D<|cm 7 hn D<|cL dL D D D D<|ar)<|gI 80 81 D<|?_
  rcases aK:hq p fd (x.l.getD c.1 default)with _|s
  ·apply kH 18
   ·exact O 3 D<|dH [] [G 0,G 1] (cn D D) ((aJ _ iL).lv aK) (au D) (.dy D D) D D .nil D (by exact fun bc h=>⟨⟨h,by rw[yL,Rh iL aK]⟩,fun l B e=>by simp[ad.get]at e⟩) rfl<|fM 18 rfl<|fM 18 rfl<|fM 18 rfl<|ar
   ·exact bR
   rfl
  exact bm (O 3 D<|kI (cn D D) ((aJ _ iL).ok aK) (au D) (.dy D D) D<|gN 19 [] Ps gb D (by decide) (by decide) (ba D D D (.nil _ _)) D D D<|hA 80 [G 81] Pt Pu (by decide) (.aQ (I D) D) (.aQ (I D) D) (bz.hT D) (hB D) (by omega) (by omega) (cs:=jS (c.2++[s])) (SC c.2 s) D<|aN 1 D)<|bm (cp D D D<|aN 1 D)<|⟨(c.1+1,c.2++[s]),⟨aG,by rw[uD aG,Rg,hi.2,aK]⟩,fD (by assumption),eH (.a D (by rw[show((c.1+1:Nat):Int)=(c.1:Int)+1 by omega];exact cM) (.a D (by rw[show(c.2++[s]).length=c.2.length+1 by simp];exact cM) (.b D (bl.dT (by rw[ef];rfl)) (.nil)))),fs D D D D D D D D<|aZ D<|aU⟩
 have eW:x.l.length<=c.1:=by have:=dj aP;omega
 have bd:=hi.2
 rw[List.take_of_length_le eW]at bd
 have y1:=HB bd
 refine dW<|al<|c1 (b1.tb (t:=5) (l:=80) (n:=2) (g:=fun j=>kS (c.2.getD j default)) D D fun j az=>Rb c.2 az)<|?_
 have LV:n8 p fd.length x:=by cases dh with|mk h _=>exact h
 have acX:∀i,i<c.2.length->hX (c.2.getD i default):=fun i jb=>Lq Z k6 (by cases dh with|mk _ h=>exact h _ (dJ (by omega))) _ (Cs bd i (by omega))
 obtain⟨f,ha,oT,jd⟩:=acV Z LV (by rw[y1];exact LV.len) acX
 have ep:=LV.AD
 have hO:c.2.length<=4:=by omega
 rcases bJ:j7 p fd x c.2 with _|s
 ·apply se 29 mixed
  ·exact cY (jr .nil) SB (au D)<|O 2 D<|ag (.N8 Px D (I D) (I D) (fun _=>⟨by omega,by omega⟩) fun _=>ha)<|O 3 D<|dH [] [G 0,G 1] (wF (I D) (.cons (I D) (.cons (I D) (.cons (I D) .nil)))) (jd.lv bJ) oT (.dy D D) D D .nil D (by exact fun bc h=>⟨⟨h,by rw[yL,bd];exact bJ⟩,fun l B e=>by simp[ad.get]at e⟩) rfl<|fM 29 rfl<|ar
  ·rfl
  ·exact bR
  rfl
 exact eo (cY (jr .nil) SB (au D)<|O 2 D<|ag (.N8 Px D (I D) (I D) (fun _=>⟨by omega,by omega⟩) fun _=>ha)<|O 3 D<|kI (wF (I D) (.cons (I D) (.cons (I D) (.cons (I D) .nil)))) (jd.ok bJ) oT (.dy D D) D<|cL ga D D D D<|ar)<|bp<|⟨.inr D,s,by rw[yL,bd];exact bJ,⟨_,(.cons (.iP D D ga D) .nil),cM⟩,cI (.dy D D)⟩
theorem SD{p:aD}{fd:List bh}(Z:sw p)(k6:∀i,i<fd.length->hX (fd.getD i default)):∀x:aR,x.b5->ff p fd.length x->CR p fd x:=aR.ind fun x aJ Y dh=>acW Z k6 x Y dh fun y ak=>aJ y ak (Y.part y ak) (by cases dh with|mk _ h=>exact h y ak)
theorem acY(p:aD)(Z:nk p):dI (ι:=List bh) prog 181 [.ao 0 0] (fN p []) (fun fd=>uK p=some fd) (fun _=>.bE []) (fun fd=>fN p fd) [0] ((fun bc=>hp bc/\uK p=none)) []:=by
 refine hr [] func181 D D fun E K af=>?_
 refine al<|?_
 have iv:=Z.oO.ok.kJ
 refine fS 7 D<|bX<|pz (σ:=Nat×List bh) [(ab 0,_),(ab 11,_),(ab 12,_)] (fun c=>[(ab 13,.aB (aF .i64 (c.1:Int))),(G 0,.U (.cells [.d (ev p.name),.d (av p.cR),.d (av p.tail),.d (dN p.params),.d (dN p.bt),.d (hJ p.a1),.d (ia p.bM),.d (iS p.ah),.aQ 1 c.2.length])),(G 1,.U (.bG 2 c.2.length (jS c.2)))]) (fun c=>c.1<=p.ah.length/\oN p c.1=some c.2) (fun c=>p.ah.length-c.1) (0,[]) (eH (.s D (.s D (.s D (.nil))))) (ck D D<|aZ D<|aU) ⟨Nat.zero_le _,rfl⟩ fun c hi=>?_
 refine aL 1 D<|al<|a7 D (fun aP=>?_) fun aP=>?_
 ·have aG:c.1<p.ah.length:=eJ aP
  have hO:=Ct hi.2
  have iM:=(Z.oO.ok.ah _ (dJ aG)).2.2
  have Ig:=SD Z.oO (E3 Z (Nat.le_of_lt aG) hi.2) _ iM (by rw[hO];exact Z.lZ _ aG)
  refine bx<|al<|bX<|aO (ag ((eN qH D D).bK (y:=.cc (jf (p.ah.getD c.1 default))) D)<|O 1 D<|cm 3 nX D<|cL qI D D D D<|ar)<|al<|?_
  rcases aK:hq p c.2 (p.ah.getD c.1 default).x with _|s
  ·apply kH 20
   ·exact O 2 D<|cH [_] (.pT dL (I D) D fun _=>cC D)<|dH [] [G 0,G 1] (cn D D) (Ig.lv aK) (au D) (.dy D D) D D .nil D (by exact fun bc h=>⟨⟨h,Lr (i:=c.1+1) (by simp only[oN,hi.2,aK]) _ aG⟩,fun l B e=>by simp[ad.get]at e⟩) rfl<|cm 4 gb rfl<|fM 20 rfl<|ar
   ·exact bR
   rfl
  refine bm (O 2 D<|cH [_] (.pT dL (I D) D fun _=>cC D)<|kI (cn D D) (Ig.ok aK) (au D) (.dy D D) D<|cm 4 gb D<|cL ga D D D D<|ar)<|aO (ag (.build gb la (ba D D D (ba D D D (.nil _ _))) D)<|cm 5 gb D<|cL ga D D D D<|ar)<|w9 [(ab 0,.aB (.ao 0 0)),(ab 4,.aB (.ao 4 0)),(ab 5,.aB (.ao 5 0)),(ab 11,.aB (.d (iS p.ah))),(ab 12,.aB (aF .i64 p.ah.length)),(ab 13,.aB (aF .i64 c.1)),(G 0,.U (.cells [.d (ev p.name),.d (av p.cR),.d (av p.tail),.d (dN p.params),.d (dN p.bt),.d (hJ p.a1),.d (ia p.bM),.d (iS p.ah),.aQ 1 c.2.length])),(G 1,.U (.bG 2 c.2.length (jS c.2))),(G 4,.U (.data [av s.1,av s.2])),(G 5,.U (.data [av (lH p (p.ah.getD c.1 default)).1,av (lH p (p.ah.getD c.1 default)).2]))] ?_ ?_
  ·refine aL 2 D<|bX<|aL 2 D<|a7 D (fun bq=>?_) (fun bq=>?_)
   ·have jM:decide ((p.ah.getD c.1 default).kind=2)=true:=bq
    have cy:=Z.set _ aG (cJ jM)
    have xz:=Z.oO.ok.hH
    exact eo (O 7 D<|bW lE D D<|O 9 D<|bW lE D D<|O 2 D<|ag (.build gb la (ba D D D (ba D D D (.nil _ _))) D)<|cL ga D D D D<|ar)<|(eH (.s D (.s D (.s D (.s D (.s D (.s D (.s D (.s D (.s D (.b D (bl.dT (by unfold lH;rw[jM,cond_true]<;>rfl)) (.nil))))))))))))
   have jM:decide ((p.ah.getD c.1 default).kind=2)=false:=bq
   refine aL 2 D<|a7 D (fun b3=>?_) fun b3=>?_
   ·have rN:decide ((p.ah.getD c.1 default).kind=3)=true:=b3
    have cy:=Z.push _ aG (cJ rN)
    have qC:=Z.oO.ok.gH
    exact eo (O 7 D<|bW nV D D<|O 9 D<|bW nV D D<|O 2 D<|ag (.build gb la (ba D D D (ba D D D (.nil _ _))) D)<|cL ga D D D D<|ar)<|(eH (.s D (.s D (.s D (.s D (.s D (.s D (.s D (.s D (.s D (.b D (bl.dT (by unfold lH;rw[jM,cond_false,rN,cond_true]<;>rfl)) (.nil))))))))))))
   have rN:decide ((p.ah.getD c.1 default).kind=3)=false:=b3
   refine aL 2 D<|a7 D (fun et=>?_) fun et=>?_
   ·have CS:decide ((p.ah.getD c.1 default).kind=4)=true:=et
    exact bm (ag (.OM (.head _) ga D)<|cL ga D D D D<|ar)<|(eH (.s D (.s D (.s D (.s D (.s D (.s D (.s D (.s D (.s D (.b D (bl.dT (by unfold lH;rw[jM,cond_false,rN,cond_false,CS,cond_true]<;>rfl)) (.nil))))))))))))
   have CS:decide ((p.ah.getD c.1 default).kind=4)=false:=et
   exact bx<|(eH (.s D (.s D (.s D (.s D (.s D (.s D (.s D (.s D (.s D (.b D (bl.dT (by unfold lH;rw[jM,cond_false,rN,cond_false,CS,cond_false]<;>rfl)) (.nil))))))))))))
  refine aO (O 4 D<|ag (.min2 (I D) (I D))<|O 4 D<|ag (.max2 (I D) (I D))<|ag (.build gb la (ba D D D (ba D D D (.nil _ _))) D)<|cm 6 gb D<|cL ga D D D D<|ar)<|al<|aO (O 2 D<|ag (.K4 (p:=[.i (min s.1 (lH p (p.ah.getD c.1 default)).1),.i (max s.2 (lH p (p.ah.getD c.1 default)).2)]) (q:=[.i (lH p (p.ah.getD c.1 default)).1,.i (lH p (p.ah.getD c.1 default)).2]) (by kernel_rfl) D (I D) (I D))<|ar)<|a7 D (fun eQ=>?_) fun eQ=>?_
  ·have dX:uJ s (lH p (p.ah.getD c.1 default))=false:=cg eQ
   apply kH 0
   ·exact ag (.wN underlying30 (by intro m h;cases h) (I D))<|uz 0 (I D) .nil (by exact⟨⟨⟨161,by decide,by decide,rfl⟩,Lr (i:=c.1+1) (by simp only[oN,hi.2,aK,dX,cond_false]) _ aG⟩,fun l B e=>by simp[ad.get]at e⟩)<|ar
   ·exact bR
   rfl
  have dX:uJ s (lH p (p.ah.getD c.1 default))=true:=vG eQ
  exact bx<|gI 1 81 D<|eo (O 6 D<|gN 94 [] Ps gb D (by decide) (by decide) (ba D D D (.nil _ _)) D D D<|hA 1 [G 81] Pt Pu (by decide) (.aQ (I D) D) (.aQ (I D) D) (bz.hT D) (hB D) (by omega) (by omega) (cs:=jS (c.2++[s])) (SC c.2 s) D<|O 2 D<|iG XY D D D D D<|ar)<|bm (cp D D D<|aN 1 D)<|⟨(c.1+1,c.2++[s]),⟨aG,by simp only[oN,hi.2,aK,show uJ s (lH p (p.ah.getD c.1 default))=true from dX,cond_true]⟩,fD (by assumption),eH (.a D (by rw[show((c.1+1:Nat):Int)=(c.1:Int)+1 by omega];exact cM) (.b D (bl.dT (by rw[ef];rfl)) (.b D (bl.dT (by rw[ef];rfl)) (.nil)))),ck D D<|aZ D<|aU⟩
 have eW:p.ah.length=c.1:=by have:=dj aP;omega
 exact dW<|⟨.inl D,c.2,by unfold uK;rw[eW];exact hi.2,⟨_,(.nil),cM⟩,cI (.dy D D)⟩
theorem acZ(p:aD)(fd:List bh):nS prog 182 [.ao 2 0] [(G 2,.U (.cells [.ao 4 0])),(G 4,.U (.data [av 0])),(G 0,.U (.cells [.d (ev p.name),.d (av p.cR),.d (av p.tail),.d (dN p.params),.d (dN p.bt),.d (hJ p.a1),.d (ia p.bM),.d (iS p.ah),.aQ 1 (fd).length])),(G 1,.U (.bG 2 (fd).length (jS (fd))))] [(G 2,.U (.cells [.ao 4 0])),(G 4,.U (.data [av 0])),(G 0,.U (.cells [.d (ev p.name),.d (av p.cR),.d (av p.tail),.d (dN p.params),.d (dN p.bt),.d (hJ p.a1),.d (ia p.bM),.d (iS p.ah),.aQ 1 (fd).length])),(G 1,.U (.bG 2 (fd).length (jS (fd))))] (.returning) (.returning) [2,0,4]:=by
 refine HE (x:=.nilIface) func182 D (cC D) (lD D) (by decide) D .tc fun E K af=>?_
 refine bX<|aO (ag (.HF vn (I D) (.inl ⟨rfl,rfl⟩))<|ar)<|a7 D (fun aP=>?_) fun aP=>?_
 ·exact fS 1 D<|⟨.inl D,cU (.hf D D D D)⟩
 cases aP
theorem ac0(i:Int):nS prog 182 [.ao 2 0] [(G 2,.U (.cells [.ao 4 0])),(G 4,.U (.data [av 0]))] [(G 2,.U (.cells [.ao 4 0])),(G 4,.U (.data [av i]))] (.panicking [{v:=.iface 30 (.int .i64 i),recovered:=false}]) (.panicking [{v:=.iface 30 (.int .i64 i),recovered:=true}]) [2,0,4]:=by
 refine HE (x:=.iface 30 (.int .i64 i)) func182 D (cC D) (lD D) (by decide) D (.td _ _) fun E K af=>?_
 refine bX<|aO (ag (.HF vn (I D) (.inr ⟨⟨_,_,rfl⟩,rfl⟩))<|ar)<|a7 D (fun aP=>?_) fun aP=>?_
 ·cases aP
 refine aO (ag (Pure.Hx underlying30 (by intro m h;cases h) (fun _=>.v _) (I D))<|aN 2 D)<|a7 D (fun bq=>?_) fun bq=>?_
 ·exact aL 1 D<|bm (O 3 D<|dZ gF D D D D D<|ar)<|⟨.inl D,cU (.dy D D)⟩
 cases bq
abbrev LW(p:aD):Option (List bh)->ad
 |some fd=>[(G 4,.U (.data [av 0])),(G 0,.U (.cells [.d (ev p.name),.d (av p.cR),.d (av p.tail),.d (dN p.params),.d (dN p.bt),.d (hJ p.a1),.d (ia p.bM),.d (iS p.ah),.aQ 1 (fd).length])),(G 1,.U (.bG 2 (fd).length (jS (fd))))]
 |none=>[(G 4,.U (.data [oe]))]
theorem SE(p:aD)(Z:nk p):dI (ι:=Option (List bh)) prog 131 [.ao 4 0,.cE 181 [.ao 0 0]] [(G 4,.U (.data [av 0])),(G 0,.U (.cells [.d (ev p.name),.d (av p.cR),.d (av p.tail),.d (dN p.params),.d (dN p.bt),.d (hJ p.a1),.d (ia p.bM),.d (iS p.ah),.aQ 1 (([]:List bh)).length])),(G 1,.U (.bG 2 (([]:List bh)).length (jS (([]:List bh)))))] (fun o=>uK p=o) (fun _=>.bE []) (LW p) [0,4] ((fun _=>False)) []:=by
 refine Am (k:=1) (cap:=[(2,2)]) (kept:=[(2,2)]) (rs:=[]) (ed:=[(ab 1,.aB (.cE 181 [.ao 0 0])),(ab 2,.aB (.ao 2 0)),(G 2,.U (.cells [.ao 4 0])),(G 4,.U (.data [av 0])),(G 0,.U (.cells [.d (ev p.name),.d (av p.cR),.d (av p.tail),.d (dN p.params),.d (dN p.bt),.d (hJ p.a1),.d (ia p.bM),.d (iS p.ah),.aQ 1 (([]:List bh)).length])),(G 1,.U (.bG 2 (([]:List bh)).length (jS (([]:List bh)))))]) (ro:={gm:=fun y=>hp y.1/\uK p=none/\y.2=[(ab 2,.aB (.ao 2 0)),(G 2,.U (.cells [.ao 4 0])),(G 4,.U (.data [av 0]))]}) (True) func131 D D D (cC D) (lD D) (cC D) (au D) (fun E K af=>?_) (.cons D (.nil)) D (fun uu E K af=>?_) (by simp) rfl rfl ?_
 ·exact bm (wE 2 [] (I D) D D D<|ar)<|.inl ⟨rfl,(da D D D D<|ck D D<|aU),trivial⟩
 ·apply jD (new:=[1]) (ds:=[G 0,G 1]) (cW:=[(ab 2,.aB (.ao 2 0)),(G 2,.U (.cells [.ao 4 0])),(G 4,.U (.data [av 0]))]) 1
  ·exact O 1 D<|ar
  ·exact bR
  ·rfl
  ·exact(V5 (I D) .nil)
  ·exact(au D)
  ·exact acY p Z
  ·exact(.cons D (.cons D .nil))
  ·intro q;rfl
  ·rfl
  ·exact(.aQ D D (.aQ D D (.aQ D D .nil)))
  ·rfl
  ·exact fun bc h=>⟨h.1,h.2,rfl⟩
  ·rfl
  ·rw[K,af];rfl
  intro fd k6
  apply ju
  ·exact .nil _
  ·exact bR
  exact⟨.inl D,[(G 2,.U (.cells [.ao 4 0])),(G 4,.U (.data [av 0])),(G 0,.U (.cells [.d (ev p.name),.d (av p.cR),.d (av p.tail),.d (dN p.params),.d (dN p.bt),.d (hJ p.a1),.d (ia p.bM),.d (iS p.ah),.aQ 1 (fd).length])),(G 1,.U (.bG 2 (fd).length (jS (fd))))],(da D D D D<|aZ D<|aU),by simp,.returning,_,rfl,acZ p fd,.inl ⟨rfl,some fd,k6,⟨_,.nil,cM⟩,cI (.eC D D D)⟩⟩
 rintro⟨bc,st⟩ ⟨⟨i,hi,bb,rfl⟩,nm,rfl⟩
 exact⟨[(G 2,.U (.cells [.ao 4 0])),(G 4,.U (.data [av 0]))],rfl,by simp,_,_,rfl,ac0 i,.inl ⟨rfl,none,nm,⟨_,.nil,cM⟩,cI (.cons D (bl.data (.cons (.py i ⟨hi,bb⟩ D ⟨fun _ e=>(nomatch e),fun _ e=>(nomatch e)⟩) .nil)) .nil)⟩⟩
theorem ac1{p:aD}{fd:List bh}(Z:nk p)(an:uK p=some fd):bw prog 131 [.ao 4 0,.cE 181 [.ao 0 0]] [(G 4,.U (.data [av 0])),(G 0,.U (.cells [.d (ev p.name),.d (av p.cR),.d (av p.tail),.d (dN p.params),.d (dN p.bt),.d (hJ p.a1),.d (ia p.bM),.d (iS p.ah),.aQ 1 (([]:List bh)).length])),(G 1,.U (.bG 2 (([]:List bh)).length (jS (([]:List bh)))))] (.bE []) (LW p (some fd)) [0,4]:=dI.nD (SE p Z) (some fd) (fun o h=>by rw[an]at h;exact h.symm) fun _ h=>h
theorem ac2{p:aD}(Z:nk p)(an:uK p=none):bw prog 131 [.ao 4 0,.cE 181 [.ao 0 0]] [(G 4,.U (.data [av 0])),(G 0,.U (.cells [.d (ev p.name),.d (av p.cR),.d (av p.tail),.d (dN p.params),.d (dN p.bt),.d (hJ p.a1),.d (ia p.bM),.d (iS p.ah),.aQ 1 (([]:List bh)).length])),(G 1,.U (.bG 2 (([]:List bh)).length (jS (([]:List bh)))))] (.bE []) (LW p none) [0,4]:=dI.nD (SE p Z) none (fun o h=>by rw[an]at h;exact h.symm) fun _ h=>h
def nq(p:aD):Option (List bh):=match hZ p with
 |none=>none
 |some q=>bif tw p q then uK p else none
abbrev LX:ai:=.d (.any fun _ _=>True)
theorem SF:∀V M v,bU V M (.d (.v (.pointer none))) v->bU V M LX v:=fun V M v h=>by
 cases h with
 |d _ _ h=>cases h;exact .d _ _ (.any _ M _ (jH M) ⟨fun _ e=>(nomatch e),fun _ e=>(nomatch e)⟩ trivial)
theorem ac3{l j:Nat}:∀V M v,bU V M (.ao l j) v->bU V M LX v:=fun V M v h=>by
 cases h with
 |ao _ _=>exact .d _ _ (.any _ M _ (jH M) ⟨fun _ e=>(nomatch e),fun _ e=>(nomatch e)⟩ trivial)
abbrev SG:Option (List bh)->ai
 |some _=>.bE [.ao 0 0,.d (av 0)]
 |none=>.bE [LX,.d oe]
abbrev SH(p:aD):Option (List bh)->ad
 |some fd=>fN p fd
 |none=>[]
theorem ac4(p:aD)(Z:p.b5)(hw:∀q,hZ p=some q->tw p q=true->nk p):dI (ι:=Option (List bh)) prog 129 [.d (fR p)] [] (fun o=>nq p=o) (SG) (SH p) [] ((fun _=>False)) []:=by
 refine hr [.tmp 2,.cell 3 30] func129 D D fun E K af=>?_
 refine aO (cV 41 D D D<|O 1 D<|cm 4 z8 D<|ar)<|al<|?_
 have lT:=H3 p Z
 rcases bA:hZ p with _|q<;>rw[bA]at lT
 ·refine bm (O 1 D<|lC (ds:=[.agg [ev ⟨#[]⟩,av 0,av 0,.v (.slice none 0 0),.v (.slice none 0 0),.v (.slice none 0 0),.v (.slice none 0 0),.v (.slice none 0 0)],oe]) (cf D) lT (au D)<|O 3 D<|cm 40 tf D<|cL pq D D D D<|dZ gF D D D D D<|ar)<|iE (l:=4) D (B7 (j:=0) D ld) fun i hi=>?_
  refine al<|aL 2 D<|a7 D (fun aP=>?_) fun aP=>?_
  ·exact ft (O 2 D<|dZ gF D D D D D<|ar)<|bp<|⟨.inr D,none,by unfold nq;rw[bA],⟨_,(.cons (.tmp D) (.cons (.hR D D gF D) .nil)),(sl (.cons SF (.cons (iD (.py i hi D ⟨fun _ e=>(nomatch e),fun _ e=>(nomatch e)⟩)) .nil)))⟩,cI .nil⟩
  exact absurd (cJ (vG aP)) hi.2
 refine bm (O 1 D<|lC (ds:=[fR q,av 0]) (cf D) lT (au D)<|O 3 D<|cm 40 tf D<|cL pq D D D D<|dZ gF D D D D D<|ar)<|al<|aL 2 D<|a7 D (fun bq=>?_) fun bq=>?_
 ·cases bq
 refine bx<|al<|aO (O 2 D<|cY (cn D D) (Sv p q Z) (au D)<|aN 1 D)<|a7 D (fun b3=>?_) fun b3=>?_
 ·have oU:tw p q=false:=cg b3
  exact aO (O 1 D<|dZ gF D D D D D<|ar)<|bp<|⟨.inr D,none,by unfold nq;rw[bA];simp only[oU,cond_false],⟨_,(.cons (.tmp D) (.cons (.hR D D gF D) .nil)),(sl (.cons SF (.cons (iD (.py 150 ⟨by decide,by decide⟩ D ⟨fun _ e=>(nomatch e),fun _ e=>(nomatch e)⟩)) .nil)))⟩,cI .nil⟩
 have oU:tw p q=true:=vG b3
 have eT:=hw q bA oU
 refine bx<|aO (O 1 D<|ag (.build XZ Yj (ba D D D (.nil _ _)) D)<|cV 0 D D D<|aN 1 D)<|al<|iE (ι:=Unit) (l:=0) (Φ:=fun _=>True) (B':=fun _=>.cells [.d (ev p.name),.d (av p.cR),.d (av p.tail),.d (dN p.params),.d (dN p.bt),.d (hJ p.a1),.d (ia p.bM),.d (iS p.ah),k4]) D (fun V M w h=>⟨(),trivial,h⟩) fun _ _=>?_
 refine c1 (b1.nd (lb:=0) (j:=8) (l:=1) (n:=2) (fq:=jS []) D D D D (by rw[K];decide) D (by simp[bz.len]) rfl)<|?_
 rcases an:uK p with _|fd
 ·refine bm (O 1 D<|ag (.OK (.cons (I D) .nil))<|ct [] [G 4,G 0,G 1] (cn D D) (ac2 eT an) (au D) (.eC D D D) D D<|ar)<|iE (l:=4) D (B7 (j:=0) D ld) fun i hi=>?_
  exact ft (O 3 D<|dZ gF D D D D D<|ar)<|bp<|⟨.inr D,none,by unfold nq;rw[bA];simp only[oU,cond_true,an],⟨_,(.cons (.tmp D) (.cons (.hR D D gF D) .nil)),(sl (.cons ac3 (.cons (iD (.py i hi D ⟨fun _ e=>(nomatch e),fun _ e=>(nomatch e)⟩)) .nil)))⟩,cI .nil⟩
 exact bm (O 1 D<|ag (.OK (.cons (I D) .nil))<|ct [1] [G 4,G 0,G 1] (cn D D) (ac1 eT an) (au D) (.eC D D D) D D<|ar)<|ft (O 3 D<|dZ gF D D D D D<|ar)<|bp<|⟨.inr D,some fd,by unfold nq;rw[bA];simp only[oU,cond_true,an],⟨_,(.cons (.tmp D) (.cons (.hR D D gF D) .nil)),cM⟩,cI (.dy D D)⟩
theorem Ih{p:aD}{o:Option (List bh)}(Z:p.b5)(h:nq p=o):bw prog 129 [.d (fR p)] [] (SG o) (SH p o) []:=dI.nD (ac4 p Z (acp Z)) o (fun q bA=>by rw[h]at bA;exact bA.symm) fun _ h=>h
abbrev Fu(b:Bool):bg:=bif b then av 0 else oe
theorem ac5(p:aD)(Z:p.b5):bw prog 84 [.d (fR p)] [] (.d (Fu (nq p).isSome)) [] []:=by
 refine cB [.tmp 2] func84 D D fun E K af=>?_
 refine aO (cV 41 D D D<|aN 1 D)<|al<|?_
 rcases bJ:nq p with _|fd
 ·exact bm (O 1 D<|ct [] [] (cf D) (Ih Z bJ) (au D) .nil D D<|aN 4 D)<|aL 2 D<|bp<|dr D D
 exact bm (O 1 D<|ct [0,1] [] (cf D) (Ih Z bJ) (au D) .nil D D<|aN 4 D)<|aL 2 D<|bp<|dr D D
theorem SI(o:Option Int):ai.bE [.d (o.elim (av 0) av),bk o.isSome]= .bE [.d (av (o.getD 0)),bk o.isSome]:=by cases o<;>rfl
def SJ(p:aD)(x:aR):Prop:=∀m:Int,m<=512->-512<=m->bw prog 130 [.d (fR p),.d (.agg (cr x)),aF .i64 m] [] (.bE [.d (av (kL p x m).1),.d (.v (.bool (kL p x m).2))]) [] []
theorem ac6(p:aD)(Z:p.b5)(x:aR)(Y:x.b5)(aJ:∀y∈x.l,SJ p y)(m:Int)(w0:m<=512)(oQ:-512<=m):bw prog 130 [.d (fR p),.d (.agg (cr x)),aF .i64 m] [] (.bE [.d (av (kL p x m).1),.d (.v (.bool (kL p x m).2))]) [] []:=by
 refine cB [.tmp 6,.tmp 7] func130 D D fun E K af=>?_
 refine aO (cV 3 D D D<|cV 4 D D D<|aN 2 D)<|aO (sn fe av 18 [] D<|hP (kv:=fe) (f:=av) iW (I D) (.v (I D)) (.d (I D)) D<|hP (kv:=fe) (f:=av) iW (I D) (.v (I D)) (.d (I D)) D<|hP (kv:=fe) (f:=av) iW (I D) (.v (I D)) (.d (I D)) D<|hP (kv:=fe) (f:=av) iW (I D) (.v (I D)) (.d (I D)) D<|hP (kv:=fe) (f:=av) iW (I D) (.v (I D)) (.d (I D)) D<|hP (kv:=fe) (f:=av) iW (I D) (.v (I D)) (.d (I D)) D<|hP (kv:=fe) (f:=av) iW (I D) (.v (I D)) (.d (I D)) D<|hP (kv:=fe) (f:=av) iW (I D) (.v (I D)) (.d (I D)) D<|hP (kv:=fe) (f:=av) iW (I D) (.v (I D)) (.d (I D)) D<|hP (kv:=fe) (f:=av) iW (I D) (.v (I D)) (.d (I D)) D<|hP (kv:=fe) (f:=av) iW (I D) (.v (I D)) (.d (I D)) D<|hP (kv:=fe) (f:=av) iW (I D) (.v (I D)) (.d (I D)) D<|hP (kv:=fe) (f:=av) iW (I D) (.v (I D)) (.d (I D)) D<|hP (kv:=fe) (f:=av) iW (I D) (.v (I D)) (.d (I D)) D<|hP (kv:=fe) (f:=av) iW (I D) (.v (I D)) (.d (I D)) D<|hP (kv:=fe) (f:=av) iW (I D) (.v (I D)) (.d (I D)) D<|hP (kv:=fe) (f:=av) iW (I D) (.v (I D)) (.d (I D)) D<|hP (kv:=fe) (f:=av) iW (I D) (.v (I D)) (.d (I D)) D<|O 3 D<|cH [_] ((Pure.oJ (kv:=fe) (f:=av) iW (I D) (.v (I D)) D).bK (y:=.bE [.d (av ((cb sx x.kind).getD 0)),bk (cb sx x.kind).isSome]) (SI _))<|aN 5 D)<|al<|al<|?_
 have aV:=Y.len
 have db:=Z.nf
 have fc:=Z.hH
 have gE:=Z.gH
 have h9:=Z.cg
 have nx:=Z.kJ
 refine c8.fj (T:=[(ab 2,.aB (aF .i64 m)),(ab 3,.aB (.ao 3 0)),(ab 4,.aB (.ao 4 0)),(ab 8,.aB (aF .i64 ((cb sx x.kind).getD 0))),(ab 9,.aB (bk (cb sx x.kind).isSome)),(G 3,.U (.data (jQ p))),(G 4,.U (.data (cr x)))]) ?_ (da D D D D<|ck D D<|aZ D<|aU)
 refine bm (O 3 D<|cX D nW (I D) D<|dP D kn D D D<|cF [] D (.len D underlying63 (bH D) D)<|dp D D<|c6 D D (bH D) D<|gQ D D D<|O 1 D<|dp D D<|c6 D D (I D) D<|gQ D D D<|ar)<|a7 D (fun aP=>?_) fun aP=>?_
 ·have dk:xl x m=true:=aP
  refine aL 2 D<|bp<|uM D D ?_
  rw[Cu,dk];rfl
 have dk:xl x m=false:=aP
 have ac7:=Ri dk
 refine bx<|aO (sn fe av 38 [] D<|O 3 D<|hP (kv:=fe) (f:=av) iW (I D) (.v (I D)) (.d (I D)) D<|O 3 D<|hP (kv:=fe) (f:=av) iW (I D) (.v (I D)) (.d (I D)) D<|O 3 D<|hP (kv:=fe) (f:=av) iW (I D) (.v (I D)) (.d (I D)) D<|O 3 D<|hP (kv:=fe) (f:=av) iW (I D) (.v (I D)) (.d (I D)) D<|O 3 D<|hP (kv:=fe) (f:=av) iW (I D) (.v (I D)) (.d (I D)) D<|aN 2 D)<|al<|aO (O 3 D<|cH [_] ((Pure.oJ (kv:=fe) (f:=av) iW (I D) (.v (I D)) D).bK (y:=.bE [.d (av ((cb (xk p) x.kind).getD 0)),bk (cb (xk p) x.kind).isSome]) (SI _))<|aN 5 D)<|al<|c8.fj (T:=[(ab 2,.aB (aF .i64 m)),(ab 3,.aB (.ao 3 0)),(ab 4,.aB (.ao 4 0)),(ab 11,.aB (aF .i64 ((cb (xk p) x.kind).getD 0))),(ab 12,.aB (bk (cb (xk p) x.kind).isSome)),(G 3,.U (.data (jQ p))),(G 4,.U (.data (cr x)))]) ?_ (da D D D D<|ck D D<|aZ D<|aU)
 refine bm (O 2 D<|cX D GZ (I D) D<|dP D bY D D D<|c6 D D (I D) D<|cF [] D (.move (bH D))<|cX D GZ (I D) D<|dP D bY D D D<|dp D D<|c6 D D (bH D) D<|cF [] D (.pick (bH D) (I D) (.bB D (by simp)))<|eg rfl rfl rfl<|ar)<|a7 rfl (fun bq=>?_) fun bq=>?_
 ·have cP:yM p x=true:=bq
  refine aL 2 D<|bp<|uM D D ?_
  rw[Cu,dk,cP];rfl
 have cP:yM p x=false:=bq
 refine bx<|w9 [(ab 2,.aB (aF .i64 m)),(ab 3,.aB (.ao 3 0)),(ab 4,.aB (.ao 4 0)),(ab 7,.aB (bk (tB p x))),(G 3,.U (.data (jQ p))),(G 4,.U (.data (cr x)))] ?_ ?_
 ·refine aL 2 D<|bX<|aL 2 D<|a7 D (fun b3=>?_) (fun b3=>?_)
  ·have k8:decide (x.kind=1)=true:=b3
   exact bm (O 4 D<|cX D Ab (I D) D<|dP D bY D D D<|c6 D D (I D) D<|eg D D D<|aN 1 D)<|(eH (.s D (.s D (.s D (.a D (ng (by unfold tB;rw[k8,cond_true]<;>rfl)) (.s D (.s D (.nil))))))))
  have k8:decide (x.kind=1)=false:=b3
  refine aL 2 D<|a7 D (fun et=>?_) fun et=>?_
  ·have mz:decide (x.kind=18)=true:=et
   exact bm (O 4 D<|cX D Ab (I D) D<|dP D bY D D D<|c6 D D (I D) D<|eg D D D<|aN 1 D)<|(eH (.s D (.s D (.s D (.a D (ng (by unfold tB;rw[k8,cond_false,mz,cond_true]<;>rfl)) (.s D (.s D (.nil))))))))
  have mz:decide (x.kind=18)=false:=et
  refine aL 2 D<|a7 D (fun eQ=>?_) fun eQ=>?_
  ·have qO:decide (x.kind=5)=true:=eQ
   have Sq:=Cw cP (n:=p.ah.length) (by rw[Cv,cJ qO];rfl)
   exact bm (O 4 D<|bW qH D D<|aN 4 D)<|(eH (.s D (.s D (.s D (.a D (ng (by unfold tB;rw[k8,cond_false,mz,cond_false,qO,cond_true]<;>rfl)) (.s D (.s D (.nil))))))))
  have qO:decide (x.kind=5)=false:=eQ
  exact fS 1 D<|(eH (.s D (.s D (.s D (.a D (ng (by unfold tB;rw[k8,cond_false,mz,cond_false,qO,cond_false]<;>rfl)) (.s D (.s D (.nil))))))))
 refine aL 1 D<|al<|aL 4 D<|bX<|eP (σ:=Nat×Int×Bool) [(ab 2,_),(ab 3,_),(ab 107,_),(ab 108,_),(G 3,_)] (fun c=>[(ab 6,.aB (aF .i64 c.2.1)),(ab 7,.aB (bk c.2.2)),(ab 109,.aB (aF .i64 (c.1:Int)))]) (fun c=>c.1<=x.l.length/\qN p (x.l.drop c.1) m c.2.1 c.2.2=qN p x.l m 1 (tB p x)/\1<=c.2.1/\c.2.1<=m) (fun c=>x.l.length-c.1) (0,1,tB p x) (ck D D<|aZ D<|aU) (da D D D D<|aZ D<|aU) ⟨Nat.zero_le _,rfl,by show(1:Int)<=1;omega,ac7⟩ fun c hi=>?_
 refine aL 1 D<|al<|a7 D (fun ie=>?_) fun ie=>?_
 ·have aG:c.1<x.l.length:=eJ ie
  have iL:=dJ aG
  have o9:=Z8 (p:=p) (x.l.getD c.1 default) (m-c.2.1)
  have Sf:=hi.2.2.1
  have pH:=hi.2.2.2
  refine bx<|al<|bX<|aO (ag ((eN iR D D).bK (iT aG))<|O 1 D<|cm 14 hn D<|cL dL D D D D<|ar)<|aO (O 4 D<|cp D D D<|lC (ds:=[av (kL p (x.l.getD c.1 default) (m-c.2.1)).1,.v (.bool (kL p (x.l.getD c.1 default) (m-c.2.1)).2)]) (hd D D D) (aJ _ iL (m-c.2.1) (by omega) (by omega)) (au D)<|aN 5 D)<|aO (O 2 D<|dp D D<|eg D D D<|aN 1 D)<|aO (O 2 D<|cp D D D<|aN 1 D)<|aL 2 D<|a7 D (fun kb=>?_) fun kb=>?_
  ·have dX:(bif c.2.2 then(kL p (x.l.getD c.1 default) (m-c.2.1)).2 else false)=false:=cg kb
   refine aL 2 D<|bp<|uM D D ?_
   rw[Cu,dk,cP,cond_false,cond_false,<-hi.2.1,E4 aG,qN,dX];rfl
  have dX:(bif c.2.2 then(kL p (x.l.getD c.1 default) (m-c.2.1)).2 else false)=true:=vG kb
  exact bx<|bm (cp D D D<|aN 1 D)<|⟨(c.1+1,c.2.1+(kL p (x.l.getD c.1 default) (m-c.2.1)).1,true),⟨aG,by rw[<-hi.2.1,E4 aG,qN,dX];rfl,by show(1:Int)<=c.2.1+_;omega,by show c.2.1+_<=m;omega⟩,fD (by assumption),aZ D<|aZ (by rw[dX];rfl)<|aZ (ec (by omega))<|aU,da D D D D<|aZ D<|aU⟩
 have eW:x.l.length<=c.1:=by have:=dj ie;omega
 have bd:=hi.2.1
 rw[List.drop_eq_nil_of_le eW,qN]at bd
 refine dW<|aL 4 D<|bp<|uM D D ?_
 rw[Cu,dk,cP,cond_false,cond_false,<-bd];rfl
theorem ac8{p:aD}(Z:p.b5):∀x:aR,x.b5->SJ p x:=aR.ind fun x aJ Y m J W=>ac6 p Z x Y (fun y ak=>aJ y ak (Y.part y ak)) m J W
theorem ac9{p:aD}{fd:List bh}(Z:sw p)(k6:∀i,i<fd.length->hX (fd.getD i default))(x:aR)(Y:x.b5)(dh:ff p fd.length x):dI (ι:=bh) prog 132 [.ao 7 0,.ao 3 0,.ao 14 0,.ao 15 0] [(G 7,.U (.cells [.ao 0 0])),(G 3,.U (.data (cr x))),(G 14,.U (.data [av 0])),(G 15,.U (.data [av 0])),(G 0,.U (.cells [.d (ev p.name),.d (av p.cR),.d (av p.tail),.d (dN p.params),.d (dN p.bt),.d (hJ p.a1),.d (ia p.bM),.d (iS p.ah),.aQ 1 (fd).length])),(G 1,.U (.bG 2 (fd).length (jS (fd))))] (fun s=>hq p fd x=some s) (fun _=>.bE []) (fun s=>[(G 7,.U (.cells [.ao 0 0])),(G 3,.U (.data (cr x))),(G 14,.U (.data [av s.1])),(G 15,.U (.data [av s.2])),(G 0,.U (.cells [.d (ev p.name),.d (av p.cR),.d (av p.tail),.d (dN p.params),.d (dN p.bt),.d (hJ p.a1),.d (ia p.bM),.d (iS p.ah),.aQ 1 (fd).length])),(G 1,.U (.bG 2 (fd).length (jS (fd))))]) [0,1,3,7,14,15] ((fun bc=>hp bc/\hq p fd x=none)) [(G 14,.U (.data [av 0])),(G 15,.U (.data [av 0]))]:=by
 refine hr [] func132 D D fun E K af=>?_
 refine al<|?_
 apply jD (new:=[]) (ds:=[G 0,G 1]) (cW:=[(G 14,.U (.data [av 0])),(G 15,.U (.data [av 0]))]) 2
 ·exact O 2 D<|ar
 ·exact bR
 ·rfl
 ·exact(cn D D)
 ·exact(au D)
 ·exact SD Z k6 x Y dh
 ·exact(.cons D (.cons D .nil))
 ·intro q;rfl
 ·rfl
 ·exact(.aQ D D (.aQ D D .nil))
 ·rfl
 ·exact fun bc h=>⟨h,cI (.dy D D)⟩
 ·rfl
 ·rw[K,af];rfl
 intro s an
 apply ju
 ·exact cm 4 gb D<|cL ga D D D D<|ar
 ·exact bR
 exact eo (O 4 D<|dZ bY D D D D D<|dZ bY D D D D D<|ar)<|⟨.inl D,s,an,⟨_,(.nil),cM⟩,cI (.jT D D D D D D)⟩
theorem ada(p:aD)(fd:List bh)(x:aR)(s:bh):nS prog 182 [.ao 2 0] [(G 2,.U (.cells [.ao 4 0])),(G 4,.U (.data [av 0])),(G 7,.U (.cells [.ao 0 0])),(G 3,.U (.data (cr x))),(G 14,.U (.data [av s.1])),(G 15,.U (.data [av s.2])),(G 0,.U (.cells [.d (ev p.name),.d (av p.cR),.d (av p.tail),.d (dN p.params),.d (dN p.bt),.d (hJ p.a1),.d (ia p.bM),.d (iS p.ah),.aQ 1 (fd).length])),(G 1,.U (.bG 2 (fd).length (jS (fd))))] [(G 2,.U (.cells [.ao 4 0])),(G 4,.U (.data [av 0])),(G 7,.U (.cells [.ao 0 0])),(G 3,.U (.data (cr x))),(G 14,.U (.data [av s.1])),(G 15,.U (.data [av s.2])),(G 0,.U (.cells [.d (ev p.name),.d (av p.cR),.d (av p.tail),.d (dN p.params),.d (dN p.bt),.d (hJ p.a1),.d (ia p.bM),.d (iS p.ah),.aQ 1 (fd).length])),(G 1,.U (.bG 2 (fd).length (jS (fd))))] (.returning) (.returning) [2,0,1,3,4,7,14,15]:=by
 refine HE (x:=.nilIface) func182 D (cC D) (lD D) (by decide) D .tc fun E K af=>?_
 refine bX<|aO (ag (.HF vn (I D) (.inl ⟨rfl,rfl⟩))<|ar)<|a7 D (fun aP=>?_) fun aP=>?_
 ·exact fS 1 D<|⟨.inl D,cU (.kT D D D D D D D D)⟩
 cases aP
theorem adb(i:Int):nS prog 182 [.ao 2 0] [(G 2,.U (.cells [.ao 4 0])),(G 4,.U (.data [av 0])),(G 14,.U (.data [av 0])),(G 15,.U (.data [av 0]))] [(G 2,.U (.cells [.ao 4 0])),(G 4,.U (.data [av i])),(G 14,.U (.data [av 0])),(G 15,.U (.data [av 0]))] (.panicking [{v:=.iface 30 (.int .i64 i),recovered:=false}]) (.panicking [{v:=.iface 30 (.int .i64 i),recovered:=true}]) [2,0,1,3,4,7,14,15]:=by
 refine HE (x:=.iface 30 (.int .i64 i)) func182 D (cC D) (lD D) (by decide) D (.td _ _) fun E K af=>?_
 refine bX<|aO (ag (.HF vn (I D) (.inr ⟨⟨_,_,rfl⟩,rfl⟩))<|ar)<|a7 D (fun aP=>?_) fun aP=>?_
 ·cases aP
 refine aO (ag (Pure.Hx underlying30 (by intro m h;cases h) (fun _=>.v _) (I D))<|aN 2 D)<|a7 D (fun bq=>?_) fun bq=>?_
 ·exact aL 1 D<|bm (O 3 D<|dZ gF D D D D D<|ar)<|⟨.inl D,cU (.hf D D D D)⟩
 cases bq
abbrev LY(p:aD)(fd:List bh)(x:aR):Option bh->ad
 |some s=>[(G 4,.U (.data [av 0])),(G 7,.U (.cells [.ao 0 0])),(G 3,.U (.data (cr x))),(G 14,.U (.data [av s.1])),(G 15,.U (.data [av s.2])),(G 0,.U (.cells [.d (ev p.name),.d (av p.cR),.d (av p.tail),.d (dN p.params),.d (dN p.bt),.d (hJ p.a1),.d (ia p.bM),.d (iS p.ah),.aQ 1 (fd).length])),(G 1,.U (.bG 2 (fd).length (jS (fd))))]
 |none=>[(G 4,.U (.data [oe])),(G 14,.U (.data [av 0])),(G 15,.U (.data [av 0]))]
theorem SK{p:aD}{fd:List bh}(Z:sw p)(k6:∀i,i<fd.length->hX (fd.getD i default))(x:aR)(Y:x.b5)(dh:ff p fd.length x):dI (ι:=Option bh) prog 131 [.ao 4 0,.fn 132 [.ao 7 0,.ao 3 0,.ao 14 0,.ao 15 0]] [(G 4,.U (.data [av 0])),(G 7,.U (.cells [.ao 0 0])),(G 3,.U (.data (cr x))),(G 14,.U (.data [av 0])),(G 15,.U (.data [av 0])),(G 0,.U (.cells [.d (ev p.name),.d (av p.cR),.d (av p.tail),.d (dN p.params),.d (dN p.bt),.d (hJ p.a1),.d (ia p.bM),.d (iS p.ah),.aQ 1 (fd).length])),(G 1,.U (.bG 2 (fd).length (jS (fd))))] (fun o=>hq p fd x=o) (fun _=>.bE []) (LY p fd x) [0,1,3,4,7,14,15] ((fun _=>False)) []:=by
 refine Am (k:=1) (cap:=[(2,2)]) (kept:=[(2,2)]) (rs:=[]) (ed:=[(ab 1,.aB (.fn 132 [.ao 7 0,.ao 3 0,.ao 14 0,.ao 15 0])),(ab 2,.aB (.ao 2 0)),(G 2,.U (.cells [.ao 4 0])),(G 4,.U (.data [av 0])),(G 7,.U (.cells [.ao 0 0])),(G 3,.U (.data (cr x))),(G 14,.U (.data [av 0])),(G 15,.U (.data [av 0])),(G 0,.U (.cells [.d (ev p.name),.d (av p.cR),.d (av p.tail),.d (dN p.params),.d (dN p.bt),.d (hJ p.a1),.d (ia p.bM),.d (iS p.ah),.aQ 1 (fd).length])),(G 1,.U (.bG 2 (fd).length (jS (fd))))]) (ro:={gm:=fun y=>hp y.1/\hq p fd x=none/\y.2=[(ab 2,.aB (.ao 2 0)),(G 2,.U (.cells [.ao 4 0])),(G 4,.U (.data [av 0])),(G 14,.U (.data [av 0])),(G 15,.U (.data [av 0]))]}) (True) func131 D D D (cC D) (lD D) (cC D) (au D) (fun E K af=>?_) (.cons D (.nil)) D (fun uu E K af=>?_) (by simp) rfl rfl ?_
 ·exact bm (wE 2 [] (I D) D D D<|ar)<|.inl ⟨rfl,(fs D D D D D D D D<|ck D D<|aU),trivial⟩
 ·apply jD (new:=[]) (ds:=[G 7,G 3,G 14,G 15,G 0,G 1]) (cW:=[(ab 2,.aB (.ao 2 0)),(G 2,.U (.cells [.ao 4 0])),(G 4,.U (.data [av 0])),(G 14,.U (.data [av 0])),(G 15,.U (.data [av 0]))]) 1
  ·exact O 1 D<|ar
  ·exact bR
  ·rfl
  ·exact(zL (I D) .nil)
  ·exact(au D)
  ·exact ac9 Z k6 x Y dh
  ·exact(.cons D (.cons D (.cons D (.cons D (.cons D (.cons D .nil))))))
  ·intro q;rfl
  ·rfl
  ·exact(.aQ D D (.aQ D D (.aQ D D (.du D (.du D .nil)))))
  ·rfl
  ·exact fun bc h=>⟨h.1,h.2,rfl⟩
  ·rfl
  ·rw[K,af];rfl
  intro s an
  apply ju
  ·exact .nil _
  ·exact bR
  exact⟨.inl D,[(G 2,.U (.cells [.ao 4 0])),(G 4,.U (.data [av 0])),(G 7,.U (.cells [.ao 0 0])),(G 3,.U (.data (cr x))),(G 14,.U (.data [av s.1])),(G 15,.U (.data [av s.2])),(G 0,.U (.cells [.d (ev p.name),.d (av p.cR),.d (av p.tail),.d (dN p.params),.d (dN p.bt),.d (hJ p.a1),.d (ia p.bM),.d (iS p.ah),.aQ 1 (fd).length])),(G 1,.U (.bG 2 (fd).length (jS (fd))))],(fs D D D D D D D D<|aZ D<|aU),by simp,.returning,_,rfl,ada p fd x s,.inl ⟨rfl,some s,an,⟨_,.nil,cM⟩,cI (.sy D D D D D D D)⟩⟩
 rintro⟨bc,st⟩ ⟨⟨i,hi,bb,rfl⟩,nm,rfl⟩
 exact⟨[(G 2,.U (.cells [.ao 4 0])),(G 4,.U (.data [av 0])),(G 14,.U (.data [av 0])),(G 15,.U (.data [av 0]))],rfl,by simp,_,_,rfl,adb i,.inl ⟨rfl,none,nm,⟨_,.nil,cM⟩,cI (.cons D (bl.data (.cons (.py i ⟨hi,bb⟩ D ⟨fun _ e=>(nomatch e),fun _ e=>(nomatch e)⟩) .nil)) (.cons D (bl.refl _) (.cons D (bl.refl _) .nil)))⟩⟩
theorem ade{p:aD}{fd:List bh}(Z:sw p)(k6:∀i,i<fd.length->hX (fd.getD i default))(x:aR)(Y:x.b5)(dh:ff p fd.length x){s:bh}(h:hq p fd x=some s):bw prog 131 [.ao 4 0,.fn 132 [.ao 7 0,.ao 3 0,.ao 14 0,.ao 15 0]] [(G 4,.U (.data [av 0])),(G 7,.U (.cells [.ao 0 0])),(G 3,.U (.data (cr x))),(G 14,.U (.data [av 0])),(G 15,.U (.data [av 0])),(G 0,.U (.cells [.d (ev p.name),.d (av p.cR),.d (av p.tail),.d (dN p.params),.d (dN p.bt),.d (hJ p.a1),.d (ia p.bM),.d (iS p.ah),.aQ 1 (fd).length])),(G 1,.U (.bG 2 (fd).length (jS (fd))))] (.bE []) (LY p fd x (some s)) [0,1,3,4,7,14,15]:=dI.nD (SK Z k6 x Y dh) (some s) (fun o e=>by rw[h]at e;exact e.symm) fun _ h=>h
theorem adf{p:aD}{fd:List bh}(Z:sw p)(k6:∀i,i<fd.length->hX (fd.getD i default))(x:aR)(Y:x.b5)(dh:ff p fd.length x)(h:hq p fd x=none):bw prog 131 [.ao 4 0,.fn 132 [.ao 7 0,.ao 3 0,.ao 14 0,.ao 15 0]] [(G 4,.U (.data [av 0])),(G 7,.U (.cells [.ao 0 0])),(G 3,.U (.data (cr x))),(G 14,.U (.data [av 0])),(G 15,.U (.data [av 0])),(G 0,.U (.cells [.d (ev p.name),.d (av p.cR),.d (av p.tail),.d (dN p.params),.d (dN p.bt),.d (hJ p.a1),.d (ia p.bM),.d (iS p.ah),.aQ 1 (fd).length])),(G 1,.U (.bG 2 (fd).length (jS (fd))))] (.bE []) (LY p fd x none) [0,1,3,4,7,14,15]:=dI.nD (SK Z k6 x Y dh) none (fun o e=>by rw[h]at e;exact e.symm) fun _ h=>h
theorem Fv{p:aD}{fd:List bh}(h:nq p=some fd):hZ p=some p/\uK p=some fd:=by
 unfold nq at h
 cases aE:hZ p with
 |none=>rw[aE]at h;cases h
 |some q=>
  rw[aE]at h
  simp only at h
  cases an:tw p q with
  |false=>rw[an]at h;cases h
  |true=>
   rw[an,cond_true]at h
   have:=(Ll p q).1 an
   subst this
   exact⟨rfl,h⟩
def sF(p:aD)(x:aR):Option bh:=match nq p with
 |none=>none
 |some fd=>bif(kL p x 512).2 then hq p fd x else none
abbrev SL:Option bh->ai
 |some s=>.bE [.d (av s.1),.d (av s.2),.d (av 0)]
 |none=>.bE [.d (av 0),.d (av 0),.d oe]
theorem adg(p:aD)(Z:p.b5)(x:aR)(Y:x.b5):dI (ι:=Option bh) prog 76 [.d (fR p),.d (.agg (cr x))] [] (fun o=>sF p x=o) (SL) (fun _=>[]) [] ((fun _=>False)) []:=by
 refine hr [.cell 4 3,.cell 5 3,.cell 6 30] func76 D D fun E K af=>?_
 refine aO (cV 41 D D D<|cV 3 D D D<|cm 14 iC D<|cm 15 iC D<|cm 4 z8 D<|ar)<|al<|?_
 rcases bJ:nq p with _|fd
 ·refine bm (O 1 D<|ct [] [] (cf D) (Ih Z bJ) (au D) .nil D D<|O 3 D<|cm 7 Pq D<|dZ Pp D D D D D<|dZ gF D D D D D<|ar)<|iE (l:=4) D (B7 (j:=0) D ld) fun i hi=>?_
  refine al<|aL 2 D<|a7 D (fun aP=>?_) fun aP=>?_
  ·exact ft (O 1 D<|dZ bY D D D D D<|dZ bY D D D D D<|dZ gF D D D D D<|ar)<|bp<|⟨.inr D,none,by unfold sF;rw[bJ],⟨_,(.cons (.hR D D bY D) (.cons (.hR D D bY D) (.cons (.hR D D gF D) .nil))),(sl (.cons cM (.cons cM (.cons (iD (.py i hi D ⟨fun _ e=>(nomatch e),fun _ e=>(nomatch e)⟩)) .nil))))⟩,cI .nil⟩
  exact absurd (cJ (vG aP)) hi.2
 obtain⟨mA,cy⟩:=Fv bJ
 have eT:=H7 Z mA
 have k6:=E3 eT (Nat.le_refl _) cy
 have oC:=Ct cy
 refine bm (O 1 D<|ct [0,1] [] (cf D) (Ih Z bJ) (au D) .nil D D<|O 3 D<|cm 7 Pq D<|ny Pp (I D) (I D) D D D (by simp[ai.fk,jo]) (cC D) D<|dZ gF D D D D D<|ar)<|al<|aL 2 D<|a7 D (fun bq=>?_) fun bq=>?_
 ·cases bq
 refine bx<|al<|aO (O 2 D<|lC (ds:=[av (kL p x 512).1,.v (.bool (kL p x 512).2)]) (hd D D D) (ac8 Z x Y 512 (by decide) (by decide)) (au D)<|aN 5 D)<|aL 2 D<|a7 D (fun b3=>?_) fun b3=>?_
 ·have Bu:(kL p x 512).2=false:=cg b3
  exact aO (dZ bY D D D D D<|dZ bY D D D D D<|dZ gF D D D D D<|ar)<|bp<|⟨.inr D,none,by unfold sF;rw[bJ];simp only[Bu,cond_false],⟨_,(.cons (.hR D D bY D) (.cons (.hR D D bY D) (.cons (.hR D D gF D) .nil))),(sl (.cons cM (.cons cM (.cons (iD (.py 150 ⟨by decide,by decide⟩ D ⟨fun _ e=>(nomatch e),fun _ e=>(nomatch e)⟩)) .nil))))⟩,cI .nil⟩
 have Bu:(kL p x 512).2=true:=vG b3
 have dh:ff p fd.length x:=by rw[oC];exact aab x 512 Bu
 refine bx<|al<|?_
 rcases an:hq p fd x with _|s
 ·refine bm (ag (.mG (.cons (I D) (.cons (I D) (.cons (I D) (.cons (I D) .nil)))))<|ct [] [G 4,G 7,G 3,G 14,G 15,G 0,G 1] (cn D D) (adf eT.oO k6 x Y dh an) (au D) (.sy D D D D D D D) D D<|ar)<|iE (l:=4) D (B7 (j:=0) D ld) fun i hi=>?_
  exact ft (O 3 D<|dZ bY D D D D D<|dZ bY D D D D D<|dZ gF D D D D D<|ar)<|bp<|⟨.inr D,none,by unfold sF;rw[bJ];simp only[Bu,cond_true,an],⟨_,(.cons (.hR D D bY D) (.cons (.hR D D bY D) (.cons (.hR D D gF D) .nil))),(sl (.cons cM (.cons cM (.cons (iD (.py i hi D ⟨fun _ e=>(nomatch e),fun _ e=>(nomatch e)⟩)) .nil))))⟩,cI .nil⟩
 exact bm (ag (.mG (.cons (I D) (.cons (I D) (.cons (I D) (.cons (I D) .nil)))))<|ct [] [G 4,G 7,G 3,G 14,G 15,G 0,G 1] (cn D D) (ade eT.oO k6 x Y dh an) (au D) (.sy D D D D D D D) D D<|ar)<|ft (O 3 D<|dZ bY D D D D D<|dZ bY D D D D D<|dZ gF D D D D D<|ar)<|bp<|⟨.inr D,some s,by unfold sF;rw[bJ];simp only[Bu,cond_true,an],⟨_,(.cons (.hR D D bY D) (.cons (.hR D D bY D) (.cons (.hR D D gF D) .nil))),cM⟩,cI .nil⟩
theorem SM{p:aD}(Z:p.b5){x:aR}(Y:x.b5){o:Option bh}(h:sF p x=o):bw prog 76 [.d (fR p),.d (.agg (cr x))] [] (SL o) [] []:=dI.nD (adg p Z x Y) o (fun q bA=>by rw[h]at bA;exact bA.symm) fun _ h=>h
def oX(p:aD):Bool:=(nq p).isSome
theorem adh{p:aD}(h:hZ p=none):oX p=false:=by unfold oX nq;rw[h];rfl
theorem adi{p q:aD}(h:hZ p=some q)(an:tw q p=false):oX p=false:=by
 unfold oX nq
 rw[h]
 simp only
 cases ae:tw p q with
 |false=>rfl
 |true=>
  have:=(Ll p q).1 ae
  subst this
  rw[ae]at an;cases an
theorem adj(p:aD)(Z:p.b5):dI (ι:=Unit) prog 40 [.d (fR p)] [] (fun _=>True) (fun _=>.d (Fu (oX p))) (fun _=>[]) [] ((fun _=>False)) []:=by
 refine hr [.tmp 2] func40 D D fun E K af=>?_
 refine aO (cV 1 D D D<|aN 1 D)<|al<|?_
 have lT:=H3 p Z
 rcases bA:hZ p with _|q<;>rw[bA]at lT
 ·refine bm (O 1 D<|lC (ds:=[.agg [ev ⟨#[]⟩,av 0,av 0,.v (.slice none 0 0),.v (.slice none 0 0),.v (.slice none 0 0),.v (.slice none 0 0),.v (.slice none 0 0)],oe]) (cf D) lT (au D)<|O 3 D<|cm 3 tf D<|cL pq D D D D<|aN 1 D)<|EF (t:=2) D (EG ld) fun i hi=>?_
  refine al<|aL 2 D<|a7 D (fun aP=>?_) fun aP=>?_
  ·refine aL 2 D<|bp<|⟨.inr D,(),trivial,⟨_,(.cons (.tmp D) .nil),?_⟩,cI .nil⟩
   rw[adh bA];exact iD (.py i hi D ⟨fun _ e=>(nomatch e),fun _ e=>(nomatch e)⟩)
  exact absurd (cJ (vG aP)) hi.2
 refine bm (O 1 D<|lC (ds:=[fR q,av 0]) (cf D) lT (au D)<|O 3 D<|cm 3 tf D<|cL pq D D D D<|aN 1 D)<|al<|aL 2 D<|a7 D (fun bq=>?_) fun bq=>?_
 ·cases bq
 refine bx<|al<|aO (O 2 D<|cY (cn D D) (Sv q p (Ss Z bA)) (au D)<|aN 1 D)<|a7 D (fun b3=>?_) fun b3=>?_
 ·have oU:tw q p=false:=cg b3
  refine aL 1 D<|bp<|⟨.inr D,(),trivial,⟨_,(.cons (.tmp D) .nil),?_⟩,cI .nil⟩
  rw[adi bA oU];exact iD (.py 150 ⟨by decide,by decide⟩ D ⟨fun _ e=>(nomatch e),fun _ e=>(nomatch e)⟩)
 exact bx<|aO (O 1 D<|cY (cf D) (ac5 p Z) (au D)<|aN 1 D)<|bp<|⟨.inr D,(),trivial,⟨_,(.cons (.tmp D) .nil),cM⟩,cI .nil⟩
theorem SN{p:aD}(Z:p.b5):bw prog 40 [.d (fR p)] [] (.d (Fu (oX p))) [] []:=dI.nD (adj p Z) () (fun _ _=>rfl) fun _ h=>h
def uT(k:Int):Bool:=bif decide (k=6)then true else decide (k=7)
def sG(p:aD)(n:Int)(x:aR):Option Int:=bif uT x.kind then(sF p (x.l.getD 0 default)).map fun s=>max n s.2 else some n
mutual
def oY(p:aD):aR->Int->Option Int
 | .mk k s i m l,n=>match sG p n (.mk k s i m l)with
  |none=>none
  |some lg=>tG p l lg
def tG(p:aD):List aR->Int->Option Int
 |[],n=>some n
 |y::r,n=>match oY p y n with
  |none=>none
  |some lg=>tG p r lg
end
theorem Fw(p:aD)(x:aR)(n:Int):oY p x n=match sG p n x with
 |none=>none
 |some lg=>tG p x.l lg:=by cases x;rw[oY];rfl
abbrev Fx(ac fE:Code):sL:=⟨.ready,none,#[25],ac,fE,52,fun _=>True⟩
abbrev AV:List (Nat×ai):=[(1,.ao 1 0),(2,.ao 2 0),(3,.ao 3 0)]
abbrev Fy(p:aD)(n:Int)(e:bg):ad:=[(G 1,.U (.data (jQ p))),(G 2,.U (.data [av n])),(G 3,.U (.data [e]))]
abbrev adk(p:aD)(ac fE:Code)(n:Int):ad:=(G 70,.U (.eh (Fx ac fE) AV))::Fy p n (av 0)
abbrev SO:Option Int->Int
 |some n=>n
 |none=>0
abbrev uv:Option Int->bg
 |some _=>av 0
 |none=>oe
abbrev Fz:Option Int->Option Code
 |some _=>none
 |none=>some .ret
abbrev SP(p:aD)(ac fE:Code)(o:Option Int):ad:=(G 70,.U (.eh ((Fx ac fE).bQ (Fz o)) AV))::Fy p (SO o) (uv o)
abbrev SQ(p:aD)(ac fE:Code)(n:Int):ad:=(G 70,.U (.eh (Fx ac fE) AV))::(G 52,.U (.cells [.iI 70]))::(G 53,.U (.cells [.fn 86 [.ao 52 0,.ao 53 0]]))::Fy p n (av 0)
abbrev SR(p:aD)(ac fE:Code)(o:Option Int):ad:=(G 70,.U (.eh ((Fx ac fE).bQ (Fz o)) AV))::(G 52,.U (.cells [.iI 70]))::(G 53,.U (.cells [.fn 86 [.ao 52 0,.ao 53 0]]))::Fy p (SO o) (uv o)
def LZ(p:aD)(N:Nat)(ac fE:Code):Prop:=∀(y:aR) (n:Int) (o:Option Int),y.b5->ff p N y->sG p n y=o->Es prog 70 [.d (.agg (cr y))] (adk p ac fE n) (bk o.isSome) (SP p ac fE o) [70,1,2,3]
def SS(p:aD)(ac fE:Code)(x:aR):Prop:=∀(n:Int) (o:Option Int),oY p x n=o->bw prog 86 [.d (.agg (cr x)),.ao 52 0,.ao 53 0] (SQ p ac fE n) (bk o.isSome) (SR p ac fE o) [70,52,53,1,2,3]
theorem adl{p:aD}{N:Nat}{ac fE:Code}(qh:LZ p N ac fE)(x:aR)(Y:x.b5)(dh:ff p N x)(aJ:∀y∈x.l,SS p ac fE y)(n:Int):dI (ι:=Option Int) prog 86 [.d (.agg (cr x)),.ao 52 0,.ao 53 0] (SQ p ac fE n) (fun o=>oY p x n=o) (fun o=>bk o.isSome) (SR p ac fE) [70,52,53,1,2,3] ((fun _=>False)) []:=by
 refine hr [.tmp 4] func86 D D fun E K af=>?_
 refine aO (cV 60 D D D<|aN 1 D)<|al<|al<|?_
 rcases an:sG p n x with _|lg
 ·refine bm (O 2 D<|bI.KJ (gs:=[]) [] [G 70,G 1,G 2,G 3] (Eu (I D) (.cons (I D) .nil)) (qh x n none Y dh an) D (.cons D (.cons D (.cons D (.cons D .nil)))) D D<|aN 1 D)<|a7 D (fun aP=>?_) (fun aP=>?_)
  ·exact aL 1 D<|bp<|⟨.inr D,none,by rw[Fw,an],⟨_,(.cons (.tmp D) .nil),cM⟩,cI (.jT D D D D D D)⟩
  cases aP
 refine bm (O 2 D<|bI.KJ (gs:=[]) [] [G 70,G 1,G 2,G 3] (Eu (I D) (.cons (I D) .nil)) (qh x n (some lg) Y dh an) D (.cons D (.cons D (.cons D (.cons D .nil)))) D D<|aN 1 D)<|a7 D (fun bq=>?_) fun bq=>?_
 ·cases bq
 refine bx<|al<|al<|?_
 have aV:=Y.len
 refine fS 4 D<|bX<|eP (σ:=Nat×Int) [(ab 2,_),(ab 12,_),(ab 13,_),(G 70,_),(G 52,_),(G 53,_),(G 60,_),(G 1,_),(G 3,_)] (fun c=>[(ab 14,.aB (aF .i64 (c.1:Int))),(G 2,.U (.data [av c.2]))]) (fun c=>c.1<=x.l.length/\tG p (x.l.drop c.1) c.2=tG p x.l lg) (fun c=>x.l.length-c.1) (0,lg) (ck D D<|aU) (fs D D D D D D D D<|aZ D<|aU) ⟨Nat.zero_le _,rfl⟩ fun c hi=>?_
 refine aL 1 D<|al<|a7 D (fun b3=>?_) fun b3=>?_
 ·have aG:c.1<x.l.length:=eJ b3
  have iL:=dJ aG
  refine bx<|al<|bX<|aO (ag ((eN iR D D).bK (iT aG))<|O 1 D<|cm 61 hn D<|cL dL D D D D<|ar)<|al<|?_
  rcases aK:oY p (x.l.getD c.1 default) c.2 with _|dy
  ·refine bm (O 2 D<|ct [] [G 70,G 52,G 53,G 1,G 2,G 3] (lf D D) (aJ _ iL c.2 none aK) (au D) (.jT D D D D D D) D D<|aN 1 D)<|a7 D (fun et=>?_) (fun et=>?_)
   ·exact aL 1 D<|bp<|⟨.inr D,none,by rw[Fw,an];show tG p x.l lg=none;rw[<-hi.2,E4 aG,tG,aK],⟨_,(.cons (.tmp D) .nil),cM⟩,cI (.jT D D D D D D)⟩
   cases et
  refine bm (O 2 D<|ct [] [G 70,G 52,G 53,G 1,G 2,G 3] (lf D D) (aJ _ iL c.2 (some dy) aK) (au D) (.jT D D D D D D) D D<|aN 1 D)<|a7 D (fun eQ=>?_) fun eQ=>?_
  ·cases eQ
  exact bx<|bm (cp D D D<|aN 1 D)<|⟨(c.1+1,dy),⟨aG,by rw[<-hi.2,E4 aG,tG,aK]⟩,fD (by assumption),aZ (ec (by omega))<|aZ D<|aU,fs D D D D D D D D<|aZ D<|aU⟩
 have eW:x.l.length<=c.1:=by have:=dj b3;omega
 have bd:=hi.2
 rw[List.drop_eq_nil_of_le eW,tG]at bd
 exact dW<|aL 1 D<|bp<|⟨.inr D,some c.2,by rw[Fw,an];exact bd.symm,⟨_,(.cons (.tmp D) .nil),cM⟩,cI (.jT D D D D D D)⟩
theorem adm{p:aD}{N:Nat}{ac fE:Code}(qh:LZ p N ac fE):∀x:aR,x.b5->ff p N x->SS p ac fE x:=aR.ind fun x aJ Y dh n o bJ=>dI.nD (adl qh x Y dh (fun y ak=>aJ y ak (Y.part y ak) (by cases dh with|mk _ h=>exact h y ak)) n) o (fun q bA=>by rw[bJ]at bA;exact bA.symm) fun _ h=>h
theorem adn(x:aR):bw prog 43 [.d (.agg (cr x))] [] (.fn 85 [.ao 50 0]) [(G 50,.U (.data (cr x)))] []:=by
 refine cB [.tmp 2] func43 D D fun E K af=>?_
 exact aO (cV 50 D D D<|aN 1 D)<|aO (ag (.mG (.cons (I D) .nil))<|aN 1 D)<|bp<|⟨.inr D,⟨_,(.cons (.tmp D) .nil),rfl⟩,cU (.cons D .nil)⟩
theorem ado{p:aD}{N:Nat}{ac fE:Code}(qh:LZ p N ac fE)(x:aR)(Y:x.b5)(dh:ff p N x)(n:Int)(o:Option Int)(bJ:oY p x n=o):bw prog 85 [.iI 70,.ao 50 0] ((G 70,.U (.eh (Fx ac fE) AV))::(G 50,.U (.data (cr x)))::Fy p n (av 0)) (.bE []) (SP p ac fE o) [70,1,2,3]:=by
 refine cB [] func85 D D fun E K af=>?_
 exact aO (wE 52 [] (I D) D D D<|ar)<|aO (cm 53 Pj D<|ar)<|aO (ag (.mG (.cons (I D) (.cons (I D) .nil)))<|ny Ph (I D) (I D) D D D (by simp[ai.fk,jo]) (cC D) D<|ar)<|bm (O 2 D<|ct [] [G 70,G 52,G 53,G 1,G 2,G 3] (lf D D) (adm qh x Y dh n _ bJ) (au D) (.jT D D D D D D) D D<|ar)<|⟨.inl D,⟨_,(.nil),rfl⟩,cU (.hf D D D D)⟩
def tH(p:aD):Nat->Option Int
 |0=>some 0
 |n+1=>match tH p n with
  |none=>none
  |some m=>oY p (p.ah.getD n default).x m
theorem SU{p:aD}{i:Nat}(h:tH p i=none):∀j,i<=j->tH p j=none
 |0,az=>by rw[show i=0 by omega]at h;exact h
 |j+1,az=>by
  rcases nj az with aG|rfl
  ·simp only[tH,SU h j (by omega)]
  ·exact h
def uU(p:aD):Option Int:=bif oX p then tH p p.ah.length else none
abbrev adp:Option Int->ai
 |some n=>.bE [.d (av n),.d (av 0)]
 |none=>.bE [.d (av 0),.d oe]
theorem SV{p:aD}(Z:p.b5)(h:oX p=true):nk p:=by
 unfold oX at h
 cases hw:nq p with
 |none=>rw[hw]at h;cases h
 |some fd=>exact H7 Z (Fv hw).1
theorem adq{p:aD}{m:Nat}{x:aR}(h:ff p m x)(aa:uT x.kind=true):0<x.l.length:=by
 cases h with
 |mk h _=>
  have J:=h.len
  have:mg x.kind=1:=by
   unfold uT at aa
   by_cases fc:x.kind=6
   ·rw[fc];rfl
   ·by_cases gE:x.kind=7
    ·rw[gE];rfl
    ·simp[fc,gE]at aa
  omega
theorem ff.up{p:aD}{m n:Nat}(aju:m<=n){x:aR}(h:ff p m x):ff p n x:=by
 induction h with
 |mk h _ aJ=>exact .mk ⟨h.AD,h.len,h.Cg,h.AE,h.bj,h.nG,fun K=>⟨(h.lt K).1,by have:=(h.lt K).2;omega⟩,h.rF,h.rD⟩ aJ
theorem SW(p:aD)(Z:p.b5)(o:Option Int)(bJ:uU p=o):bw prog 27 [.d (fR p)] [] (adp o) [] []:=by
 refine Qd (rs:=[.cell 2 3,.cell 3 30]) func27 D D (cC D) (by simp[ad.get]) fun E K af=>?_
 refine aO (cV 1 D D D<|cm 2 iC D<|cm 3 z8 D<|ar)<|al<|al<|?_
 have CT:=SN Z
 rcases qU:oX p<;>rw[qU]at CT
 ·refine bm (O 1 D<|cY (cf D) (show bw prog 40 [.d (fR p)] [] (.d oe) [] []from CT) (au D)<|dZ gF D D D D D<|ar)<|al<|?_
  skip
  ·refine bm (O 1 D<|ag (.Cy (fun i h=>h.2) (I D))<|ar)<|a7 D (fun aP=>?_) (fun aP=>?_)
   ·refine ft (O 1 D<|dZ bY D D D D D<|dZ gF D D D D D<|ar)<|bp<|⟨.inr D,⟨_,(.cons (.hR D D bY D) (.cons (.hR D D gF D) .nil)),?_⟩,by simp[ad.get]⟩
    rw[<-bJ];unfold uU;rw[qU];rfl
   cases aP
 have eT:=SV Z qU
 have iv:=Z.kJ
 refine bm (O 1 D<|cY (cf D) (show bw prog 40 [.d (fR p)] [] (.d (av 0)) [] []from CT) (au D)<|dZ gF D D D D D<|ar)<|al<|?_
 skip
 ·refine fS 2 D<|a7 D (fun bq=>?_) (fun bq=>?_)
  ·cases bq
  refine bx<|al<|aL 4 D<|bX<|eP (σ:=Nat×Int) [(ab 1,_),(ab 2,_),(ab 3,_),(ab 16,_),(ab 17,_),(G 1,_),(G 3,_)] (fun c=>[(ab 18,.aB (aF .i64 (c.1:Int))),(G 2,.U (.data [av c.2]))]) (fun c=>c.1<=p.ah.length/\tH p c.1=some c.2) (fun c=>p.ah.length-c.1) (0,0) (ck D D<|aU) (da D D D D<|ck D D<|aZ D<|aU) ⟨Nat.zero_le _,rfl⟩ fun c hi=>?_
  refine aL 1 D<|al<|a7 D (fun b3=>?_) fun b3=>?_
  ·have aG:c.1<p.ah.length:=eJ b3
   have iM:=(Z.ah _ (dJ aG)).2.2
   have L0:=(eT.lZ _ aG).up (Nat.le_of_lt aG)
   refine bx<|al<|bX<|aO (ag ((eN qH D D).bK (y:=.cc (jf (p.ah.getD c.1 default))) D)<|O 1 D<|cm 5 nX D<|cL qI D D D D<|ar)<|aO (O 1 D<|cH [_] (.pT dL (I D) D fun _=>cC D)<|ct [50] [] (cf D) (adn (p.ah.getD c.1 default).x) (au D) .nil D D<|ar)<|bX<|c8.fj (T:=[(ab 1,.aB (.ao 1 0)),(ab 2,.aB (.ao 2 0)),(ab 3,.aB (.ao 3 0)),(ab 16,.aB (.d (iS p.ah))),(ab 17,.aB (aF .i64 p.ah.length)),(ab 18,.aB (aF .i64 (c.1:Int))),(ab 24,.aB (.fn 85 [.ao 50 0])),(G 50,.U (.data (cr (p.ah.getD c.1 default).x))),(G 1,.U (.data (jQ p))),(G 2,.U (.data [av c.2])),(G 3,.U (.data [av 0]))]) ?_ (fs D D D D D D D D<|ck D D<|aZ D<|aU)
   refine Qb (L:=70) (ts:=AV) (ts':=AV) (new:=[]) (ds:=[G 50,G 1,G 2,G 3]) (fI:=Fz (oY p (p.ah.getD c.1 default).x c.2)) D D D (au D) (.eC D D D) af D D (by rw[K];decide) (by split<;>simp) (ado (N:=p.ah.length) (fun y m u ak bf an=>?_) (p.ah.getD c.1 default).x iM L0 c.2 _ D) (.cons D (.cons D (.cons D (.cons D (.cons D .nil))))) D D D D (by simp) ?_
   ·have ae:u.isSome=(Fz u).isNone:=by cases u<;>rfl
    rw[ae]
    refine PT (fI:=Fz u) (ed:=[(ab 1,.aB (.ao 1 0)),(ab 2,.aB (.ao 2 0)),(ab 3,.aB (.ao 3 0)),(ab 6,.aB (.ao 6 0)),(G 6,.U (.data (cr y))),(G 1,.U (.data (jQ p))),(G 2,.U (.data [av m])),(G 3,.U (.data [av 0]))]) D D D D D D D D ?_ ?_
    ·intro E l K af
     exact bm (cm 6 hn D<|cL dL D D D D<|ar)<|⟨rfl,(fs D D D D D D D D<|aU)⟩
    intro E l K af
    refine bX<|aO (O 4 D<|cX D Aa (I D) D<|dP D bY D D D<|c6 D D (I D) D<|gQ D D D<|ar)<|a7 D (fun et=>?_) fun et=>?_
    ·have qP:uT y.kind=true:=et
     have oa:=adq bf qP
     refine al<|?_
     rcases aK:sF p (y.l.getD 0 default)with _|s
     ·refine eo (O 3 D<|ag ((eN iR D D).bK (y:=.cc (cr (y.l.getD 0 default))) (iT oa))<|O 1 D<|lC (ds:=[av 0,av 0,oe]) (cn D D) (SM Z (ak.part _ (dJ oa)) aK) (au D)<|aN 7 D)<|al<|al<|?_
      skip
      ·refine bm (O 1 D<|ag (.Cy (fun i h=>h.2) (I D))<|ar)<|a7 D (fun eQ=>?_) (fun eQ=>?_)
       ·refine aO (O 1 D<|dZ bY D D D D D<|dZ gF D D D D D<|ar)<|bp<|?_
        have e:u=none:=an.symm.trans (by unfold sG;rw[qP,cond_true,aK];rfl)
        subst e
        exact⟨rfl,cU (.eC D D D)⟩
       cases eQ
     refine eo (O 3 D<|ag ((eN iR D D).bK (y:=.cc (cr (y.l.getD 0 default))) (iT oa))<|O 1 D<|lC (ds:=[av s.1,av s.2,av 0]) (cn D D) (SM Z (ak.part _ (dJ oa)) aK) (au D)<|aN 7 D)<|al<|al<|?_
     skip
     ·refine fS 2 D<|a7 D (fun ie=>?_) (fun ie=>?_)
      ·cases ie
      refine bx<|bm (O 2 D<|ag (.max2 (I D) (I D))<|dZ bY D D D D D<|ar)<|?_
      first
           |(
            have e:u=some (max m s.2):=an.symm.trans (by unfold sG;rw[qP,cond_true,aK];rfl)
            subst e
            exact⟨rfl,cU (.eC D D D)⟩)
           |(
            have e:u=some m:=an.symm.trans (by unfold sG;rw[qP,cond_false])
            subst e
            exact⟨rfl,cU (.eC D D D)⟩)
    have qP:uT y.kind=false:=et
    refine bx<|?_
    first
         |(
          have e:u=some (max m s.2):=an.symm.trans (by unfold sG;rw[qP,cond_true,aK];rfl)
          subst e
          exact⟨rfl,cU (.eC D D D)⟩)
         |(
          have e:u=some m:=an.symm.trans (by unfold sG;rw[qP,cond_false])
          subst e
          exact⟨rfl,cU (.eC D D D)⟩)
   rcases iF:oY p (p.ah.getD c.1 default).x c.2 with _|lg
   ·have e:o=none:=bJ.symm.trans (by unfold uU;rw[qU,cond_true];exact SU (i:=c.1+1) (by simp only[tH,hi.2];exact iF) _ aG)
    subst e
    exact⟨.inr D,⟨_,(.cons (.hR D D bY D) (.cons (.hR D D gF D) .nil)),rfl⟩,by simp[ad.get]⟩
   exact c8.fj (T:=[(ab 1,.aB (.ao 1 0)),(ab 2,.aB (.ao 2 0)),(ab 3,.aB (.ao 3 0)),(ab 16,.aB (.d (iS p.ah))),(ab 17,.aB (aF .i64 p.ah.length)),(ab 18,.aB (aF .i64 (c.1:Int))),(G 1,.U (.data (jQ p))),(G 2,.U (.data [av lg])),(G 3,.U (.data [av 0]))]) (bm (cp D D D<|aN 1 D)<|⟨(c.1+1,lg),⟨aG,by simp only[tH,hi.2];exact iF⟩,fD (by assumption),aZ (ec (by omega))<|aZ D<|aU,da D D D D<|ck D D<|aZ D<|aU⟩) (fs D D D D D D D D<|aZ D<|aU)
  have eW:p.ah.length=c.1:=by have:=dj b3;omega
  refine dW<|aO (O 1 D<|dZ bY D D D D D<|dZ gF D D D D D<|ar)<|bp<|⟨.inr D,⟨_,(.cons (.hR D D bY D) (.cons (.hR D D gF D) .nil)),?_⟩,by simp[ad.get]⟩
  rw[<-bJ];unfold uU;rw[qU,cond_true,eW,hi.2];rfl
def L1(p:aD)(rO:Int):Bool:=bif !decide ((0:Int)=0)then true else bif !decide (p.tail=-1)then(bif decide (rO=-1)then true else decide (p.tail<rO))else false
def tI(p:aD)(rO:Int):Bool:=match uU p with
 |none=>false
 |some n=>bif decide (p.cR<n)then false else !L1 p rO
theorem L2{p:aD}{n:Int}(h:uU p=some n):oX p=true:=by
 unfold uU at h
 cases aK:oX p with
 |true=>rfl
 |false=>rw[aK]at h;cases h
theorem adr(p:aD)(Z:p.b5)(rO:Int)(h5:oX p=true->bw prog 10 [.d (fR p)] [] (.bE [.d (av rO),.d (av 0)]) [] []):dI (ι:=Unit) prog 6 [.d (fR p)] [] (fun _=>True) (fun _=>.d (Fu (tI p rO))) (fun _=>[]) [] ((fun _=>False)) []:=by
 refine hr [.tmp 2] func6 D D fun E K af=>?_
 refine aO (cV 1 D D D<|aN 1 D)<|al<|?_
 rcases aa:uU p with _|n
 ·refine bm (O 1 D<|lC (ds:=[av 0,oe]) (cf D) (SW p Z _ aa) (au D)<|aN 5 D)<|al<|al<|?_
  skip
  ·refine bm (O 1 D<|ag (.Cy (fun i h=>h.2) (I D))<|ar)<|a7 D (fun aP=>?_) (fun aP=>?_)
   ·refine aL 2 D<|bp<|⟨.inr D,(),trivial,⟨_,(.cons (.tmp D) .nil),?_⟩,cI .nil⟩
    rw[show tI p rO=false by unfold tI;rw[aa]];exact cM
   cases aP
 have qU:=L2 aa
 refine bm (O 1 D<|lC (ds:=[av n,av 0]) (cf D) (SW p Z _ aa) (au D)<|aN 5 D)<|al<|al<|?_
 skip
 ·refine fS 2 D<|a7 D (fun bq=>?_) (fun bq=>?_)
  ·cases bq
  refine bx<|al<|aL 4 D<|a7 D (fun b3=>?_) fun b3=>?_
  ·have rN:decide (p.cR<n)=true:=b3
   refine aL 1 D<|bp<|⟨.inr D,(),trivial,⟨_,(.cons (.tmp D) .nil),?_⟩,cI .nil⟩
   rw[show tI p rO=false by unfold tI;rw[aa];simp only[rN,cond_true]];exact iD (.py 170 ⟨by decide,by decide⟩ D ⟨fun _ e=>(nomatch e),fun _ e=>(nomatch e)⟩)
  have rN:decide (p.cR<n)=false:=b3
  refine bx<|al<|aO (O 1 D<|lC (ds:=[av rO,av 0]) (cf D) (h5 qU) (au D)<|aN 5 D)<|aO (O 3 D<|cX D BP (I D) D<|dP D bY D D D<|c6 D D (I D) D<|cF [] D (.move (bH D))<|dp D D<|c6 D D (I D) D<|cF [] D (.move (bH D))<|dp D D<|cX D BP (I D) D<|dP D bY D D D<|c6 D D (bH D) D<|cF [] D (.pick (bH D) (I D) (.bB D (by simp)))<|cF [] rfl (.pick (bH D) (.bB D (by simp)) (I D))<|gQ D D D<|ar)<|a7 D (fun et=>?_) fun et=>?_
  ·have fz:L1 p rO=true:=et
   refine aL 1 D<|bp<|⟨.inr D,(),trivial,⟨_,(.cons (.tmp D) .nil),?_⟩,cI .nil⟩
   rw[show tI p rO=false by unfold tI;rw[aa];simp only[rN,fz,cond_false,Bool.not_true]];exact iD (.py 171 ⟨by decide,by decide⟩ D ⟨fun _ e=>(nomatch e),fun _ e=>(nomatch e)⟩)
  have fz:L1 p rO=false:=et
  refine bx<|aL 1 D<|bp<|⟨.inr D,(),trivial,⟨_,(.cons (.tmp D) .nil),?_⟩,cI .nil⟩
  rw[show tI p rO=true by unfold tI;rw[aa];simp only[rN,fz,cond_false,Bool.not_false]];exact cM
abbrev SX(f:FuncId):Prop:=∃x,prog.funcs[f]?=some x
theorem L3:rC prog 101 fe (qM false):=As underlying101 (QA underlying3) (by kernel_rfl) fun M=>.v _
theorem FA:rC prog 99 hW (av 0):=As underlying99 (QE (by kernel_rfl) (by kernel_rfl)) (by kernel_rfl) fun M=>.v _
abbrev vT(p:aD)(cG:List ((Int×Int)×Int))(bC:eX):ad:=[(G 4,.U (.cells [.mp 84])),(G 84,.U (hE hW av cG)),(G 7,.U (.cells [.mp 87])),(G 87,.U (hE fe av bC.1)),(G 8,.U (.cells [.mp 88])),(G 88,.U (hE fe qM bC.2)),
 (G 9,.U (.cells [.fn 42 [.ao 8 0,.ao 7 0,.cc (jQ p),.ao 10 0]])),(G 10,.U (.cells [.fn 41 [.ao 9 0,.ao 4 0,.cc (jQ p)]]))]
abbrev CU(p:aD)(cG:List ((Int×Int)×Int))(a:Int)(bC:eX)(n:Int):ad:=(G 60,.U (.data [av a]))::(G 61,.U (.data [av n]))::vT p cG bC
abbrev L4(ac fE:Code):sL:=⟨.ready,none,#[33],ac,fE,46,SX⟩
abbrev FB:List (Nat×ai):=[(4,.ao 10 0),(5,.ao 60 0),(9,.ao 61 0)]
abbrev L5(p:aD)(cG:List ((Int×Int)×Int))(ac fE:Code)(a:Int)(bC:eX)(n:Int):ad:=(G 70,.U (.eh (L4 ac fE) FB))::CU p cG a bC n
abbrev Ii(p:aD)(cG:List ((Int×Int)×Int))(ac fE:Code)(a:Int)(bC:eX)(n:Int):ad:=(G 70,.U (.eh (L4 ac fE) FB))::(G 52,.U (.cells [.iI 70]))::(G 53,.U (.cells [.fn 86 [.ao 52 0,.ao 53 0]]))::CU p cG a bC n
abbrev SY:List PanicEntry:=[{v:=.iface 105 (.agg #[]),recovered:=false}]
abbrev xA(o:hs):List PanicEntry->Prop:=fun bc=>bc=SY/\o=none
abbrev L6:hs->ai
 |some _=>bk true
 |none=>kk
abbrev Ij:hs->ai
 |some r=>aF .i64 r.2
 |none=>kk
def L7(p:aD)(cG:List ((Int×Int)×Int))(N:Nat)(ac fE:Code)(gJ:aR->eX->Int->Option hs)(a:Int):Prop:=∀(y:aR) (bC:eX) (n:Int) (o:hs),y.b5->ff p N y->gJ y bC n=some o->G9 prog true 70 [.d (.agg (cr y))] (L5 p cG ac fE a bC n) (L6 o) (L5 p cG ac fE a (y3 o) (H9 o)) [70,60,61,4,84,7,87,8,88,9,10] (xA o) []
theorem ads(x:aR):oG prog true 43 [.d (.agg (cr x))] [] (.fn 85 [.ao 50 0]) [(G 50,.U (.data (cr x)))] [] (fun _=>False) []:=by
 refine EH (rs:=[.tmp 2]) func43 D D (cC D) (by simp[ad.get]) fun E K af=>?_
 exact aO (cV 50 D D D<|aN 1 D)<|aO (ag (.mG (.cons (I D) .nil))<|aN 1 D)<|bp<|⟨.inr D,⟨_,(.cons (.tmp D) .nil),cM⟩,cI (.lg D)⟩
def SZ(p:aD)(cG:List ((Int×Int)×Int))(ac fE:Code)(gJ:aR->eX->Int->Option hs)(a:Int)(x:aR):Prop:=∀(bC:eX) (n:Int) (o:hs),rM gJ x bC n=some o->oG prog true 86 [.d (.agg (cr x)),.ao 52 0,.ao 53 0] (Ii p cG ac fE a bC n) (L6 o) (Ii p cG ac fE a (y3 o) (H9 o)) [70,52,53,60,61,4,84,7,87,8,88,9,10] (xA o) []
theorem adt{p:aD}{cG:List ((Int×Int)×Int)}{N:Nat}{ac fE:Code}{gJ:aR->eX->Int->Option hs}{a:Int}(qh:L7 p cG N ac fE gJ a)(x:aR)(Y:x.b5)(dh:ff p N x)(aJ:∀y∈x.l,SZ p cG ac fE gJ a y)(bC:eX)(n:Int)(o:hs)(bJ:rM gJ x bC n=some o):oG prog true 86 [.d (.agg (cr x)),.ao 52 0,.ao 53 0] (Ii p cG ac fE a bC n) (L6 o) (Ii p cG ac fE a (y3 o) (H9 o)) [70,52,53,60,61,4,84,7,87,8,88,9,10] (xA o) []:=by
 refine EH (rs:=[.tmp 4]) func86 D D (cC D) (lD D) fun E K af=>?_
 refine aO (cV 64 D D D<|aN 1 D)<|al<|al<|?_
 rw[LR]at bJ
 rcases an:gJ x bC n with _|s1
 ·rw[an]at bJ;cases bJ
 rcases s1 with _|gO
 ·have e:o=none:=by rw[an]at bJ;exact(Option.some.inj bJ).symm
  subst e
  apply kH 9
  ·exact O 2 D<|bI.St (res:=kk) (cw:=[]) (cW:=[]) [] [G 70,G 60,G 61,G 4,G 84,G 7,G 87,G 8,G 88,G 9,G 10] (Eu (I D) (.cons (I D) .nil)) (qh x bC n none Y dh an) (.cons D (.cons D (.cons D (.cons D (.cons D (.cons D (.cons D (.cons D (.cons D (.cons D (.cons D .nil))))))))))) D D .nil D (by exact fun bc h=>⟨⟨h.1,rfl⟩,(fun _ _ e=>nomatch e)⟩) D<|fM 9 D<|ar
  ·exact bR
  rfl
 rw[an]at bJ;simp only at bJ
 refine dm (O 2 D<|bI.St (cw:=[]) (cW:=[]) [] [G 70,G 60,G 61,G 4,G 84,G 7,G 87,G 8,G 88,G 9,G 10] (Eu (I D) (.cons (I D) .nil)) (qh x bC n (some gO) Y dh an) (.cons D (.cons D (.cons D (.cons D (.cons D (.cons D (.cons D (.cons D (.cons D (.cons D (.cons D .nil))))))))))) D D .nil D (fun bc h=>nomatch h.2) D<|aN 1 D) (nM K af D)<|a7 D (fun aP=>?_) fun aP=>?_
 ·cases aP
 refine bx<|al<|al<|?_
 have aV:=Y.len
 refine fS 4 D<|bX<|eP (σ:=Nat×eX×Int) [(ab 2,_),(ab 12,_),(ab 13,_),(G 70,_),(G 52,_),(G 53,_),(G 60,_),(G 4,_),(G 84,_),(G 7,_),(G 8,_),(G 9,_),(G 10,_)] (fun c=>[(ab 14,.aB (aF .i64 (c.1:Int))),(G 61,.U (.data [av c.2.2])),(G 87,.U (hE fe av c.2.1.1)),(G 88,.U (hE fe qM c.2.1.2))]) (fun c=>c.1<=x.l.length/\sD gJ (x.l.drop c.1) c.2.1 c.2.2=some o) (fun c=>x.l.length-c.1) (0,gO) (da D D D D<|aU) (fs D D D D D D D D<|da D D D D<|aZ D<|aU) ⟨Nat.zero_le _,bJ⟩ fun c hi=>?_
 refine aL 1 D<|al<|a7 D (fun bq=>?_) fun bq=>?_
 ·have aG:c.1<x.l.length:=eJ bq
  have iL:=dJ aG
  refine bx<|al<|bX<|aO (ag ((eN iR D D).bK (iT aG))<|O 1 D<|cm 65 hn D<|cL dL D D D D<|ar)<|al<|?_
  rcases aK:rM gJ (x.l.getD c.1 default) c.2.1 c.2.2 with _|s2
  ·have W:=hi.2;rw[LS aG,aK]at W;cases W
  rcases s2 with _|s4
  ·have e:o=none:=by have W:=hi.2;rw[LS aG,aK]at W;exact(Option.some.inj W).symm
   subst e
   apply kH 20
   ·exact O 2 D<|qT (res:=kk) (cw:=[]) (cW:=[]) [] [G 70,G 52,G 53,G 60,G 61,G 4,G 84,G 7,G 87,G 8,G 88,G 9,G 10] (lf D D) (aJ _ iL c.2.1 c.2.2 none aK) (au D) (.cons D (.cons D (.cons D (.cons D (.cons D (.cons D (.cons D (.cons D (.cons D (.cons D (.cons D (.cons D (.cons D .nil))))))))))))) D D .nil D (by exact fun bc h=>⟨⟨h.1,rfl⟩,(fun _ _ e=>nomatch e)⟩) D<|fM 20 D<|ar
   ·exact bR
   rfl
  refine dm (O 2 D<|qT (cw:=[]) (cW:=[]) [] [G 70,G 52,G 53,G 60,G 61,G 4,G 84,G 7,G 87,G 8,G 88,G 9,G 10] (lf D D) (aJ _ iL c.2.1 c.2.2 (some s4) aK) (au D) (.cons D (.cons D (.cons D (.cons D (.cons D (.cons D (.cons D (.cons D (.cons D (.cons D (.cons D (.cons D (.cons D .nil))))))))))))) D D .nil D (fun bc h=>nomatch h.2) D<|aN 1 D) (nM K af D)<|a7 D (fun b3=>?_) fun b3=>?_
  ·cases b3
  exact bx<|bm (cp D D D<|aN 1 D)<|⟨(c.1+1,s4),⟨aG,by rw[<-hi.2,LS aG,aK]⟩,fD (by assumption),aZ (ec (by omega))<|ck D D<|aZ D<|aU,fs D D D D D D D D<|da D D D D<|aZ D<|aU⟩
 have eW:x.l.length<=c.1:=by have:=dj bq;omega
 have bd:=hi.2
 rw[List.drop_eq_nil_of_le eW,sD]at bd
 have e:o=some c.2:=(Option.some.inj bd).symm
 subst e
 exact dW<|aL 1 D<|bp<|⟨.inr D,⟨_,(.cons (.tmp D) .nil),cM⟩,cI (.cons D (bl.refl _) (.cons D (bl.refl _) (.cons D (bl.refl _) (.cons D (bl.refl _) (.cons D (bl.refl _) (.cons D (bl.refl _) (.cons D (bl.refl _) (.cons D (bl.refl _) (.cons D (bl.refl _) (.cons D (bl.refl _) (.cons D (bl.refl _) (.cons D (bl.refl _) (.cons D (bl.refl _) .nil)))))))))))))⟩
theorem S0{p:aD}{cG:List ((Int×Int)×Int)}{N:Nat}{ac fE:Code}{gJ:aR->eX->Int->Option hs}{a:Int}(qh:L7 p cG N ac fE gJ a):∀x:aR,x.b5->ff p N x->SZ p cG ac fE gJ a x:=aR.ind fun x aJ Y dh bC n o bJ=>adt qh x Y dh (fun y ak=>aJ y ak (Y.part y ak) (by cases dh with|mk _ h=>exact h y ak)) bC n o bJ
theorem adu{p:aD}{cG:List ((Int×Int)×Int)}{N:Nat}{ac fE:Code}{gJ:aR->eX->Int->Option hs}{a:Int}(qh:L7 p cG N ac fE gJ a)(x:aR)(Y:x.b5)(dh:ff p N x)(bC:eX)(n:Int)(o:hs)(bJ:rM gJ x bC n=some o):oG prog true 85 [.iI 70,.ao 50 0] ((G 70,.U (.eh (L4 ac fE) FB))::(G 50,.U (.data (cr x)))::CU p cG a bC n) ((match o with|some _=>.bE []|none=>kk)) (L5 p cG ac fE a (y3 o) (H9 o)) [70,60,61,4,84,7,87,8,88,9,10] (xA o) []:=by
 refine EH (rs:=[]) func85 D D (cC D) (lD D) fun E K af=>?_
 refine aO (wE 52 [] (I D) D D D<|ar)<|aO (cm 53 Pj D<|ar)<|aO (ag (.mG (.cons (I D) (.cons (I D) .nil)))<|ny Ph (I D) (I D) D D D (by simp[ai.fk,jo]) (cC D) D<|ar)<|?_
 rcases o with _|gO
 ·apply kH 7
  ·exact O 2 D<|qT (res:=kk) (cw:=[]) (cW:=[]) [] [G 70,G 52,G 53,G 60,G 61,G 4,G 84,G 7,G 87,G 8,G 88,G 9,G 10] (lf D D) (S0 qh x Y dh bC n none bJ) (au D) (.cons D (.cons D (.cons D (.cons D (.cons D (.cons D (.cons D (.cons D (.cons D (.cons D (.cons D (.cons D (.cons D .nil))))))))))))) D D .nil D (by exact fun bc h=>⟨⟨h.1,rfl⟩,(fun _ _ e=>nomatch e)⟩) D<|ar
  ·exact bR
  rfl
 exact dm (O 2 D<|qT (cw:=[]) (cW:=[]) [] [G 70,G 52,G 53,G 60,G 61,G 4,G 84,G 7,G 87,G 8,G 88,G 9,G 10] (lf D D) (S0 qh x Y dh bC n (some gO) bJ) (au D) (.cons D (.cons D (.cons D (.cons D (.cons D (.cons D (.cons D (.cons D (.cons D (.cons D (.cons D (.cons D (.cons D .nil))))))))))))) D D .nil D (fun bc h=>nomatch h.2) D<|ar) (nM K af D)<|⟨.inl D,⟨_,(.nil),cM⟩,cI (.cons D (bl.refl _) (.cons D (bl.refl _) (.cons D (bl.refl _) (.cons D (bl.refl _) (.cons D (bl.refl _) (.cons D (bl.refl _) (.cons D (bl.refl _) (.cons D (bl.refl _) (.cons D (bl.refl _) (.cons D (bl.refl _) (.cons D (bl.refl _) .nil)))))))))))⟩
theorem L8:cZ prog 105 []:=by unfold cZ;kernel_rfl
theorem ff.fy{p:aD}{m:Nat}{x:aR}(h:ff p m x):n8 p m x/\∀y∈x.l,ff p m y:=by cases h with|mk h aa=>exact⟨h,aa⟩
def S1(p:aD)(cG:List ((Int×Int)×Int))(N:Nat)(lh:Int->eX->Option hs):Prop:=∀(b:Int) (bC:eX) (o:hs),0<=b->b<N->lh b bC=some o->oG prog true 42 [aF .i64 b,.ao 8 0,.ao 7 0,.cc (jQ p),.ao 10 0] (vT p cG bC) (Ij o) (vT p cG (y3 o)) [4,84,7,87,8,88,9,10] (xA o) []
def adv(p:aD)(cG:List ((Int×Int)×Int))(N:Nat)(lh:Int->eX->Option hs)(a:Int):Prop:=∀(x:aR) (bC:eX) (o:hs),x.b5->ff p N x->tF p cG lh a x bC=some o->oG prog true 41 [aF .i64 a,.d (.agg (cr x)),.ao 9 0,.ao 4 0,.cc (jQ p)] (vT p cG bC) (Ij o) (vT p cG (y3 o)) [4,84,7,87,8,88,9,10] (xA o) []
theorem adw{p:aD}{cG:List ((Int×Int)×Int)}(Z:p.b5)(N:Nat)(ik:p.ah.length=N)(lJ:∀k b,cb cG k=some b->0<=b/\b<N){lh:Int->eX->Option hs}(dk:S1 p cG N lh)(a:Int)(x:aR)(bC:eX)(o:hs)(Y:x.b5)(adx:ff p N x)(bJ:tF p cG lh a x bC=some o):oG prog true 41 [aF .i64 a,.d (.agg (cr x)),.ao 9 0,.ao 4 0,.cc (jQ p)] (vT p cG bC) (Ij o) (vT p cG (y3 o)) [4,84,7,87,8,88,9,10] (xA o) []:=by
 have dh:=adx.fy
 have qC:=Z.gH
 refine EH (rs:=[.tmp 7]) func41 D D (cC D) (lD D) fun E K af=>?_
 refine aO (cV 64 D D D<|aN 1 D)<|al<|aL 2 D<|bX<|aL 2 D<|a7 D (fun aP=>?_) fun aP=>?_
 ·have db:x.kind=5:=cJ aP
  have Ik:=dh.1.lt db
  have S2:lh x.index bC=some o:=by rw[<-bJ];unfold tF;rw[gl db,cond_true]
  refine al<|?_
  rcases o with _|gO
  ·apply kH 19
   ·exact O 3 D<|qT (res:=kk) (cw:=[]) (cW:=[]) [] [G 4,G 84,G 7,G 87,G 8,G 88,G 9,G 10] (lf D D) (dk x.index bC none Ik.1 (by omega) S2) (au D) (.kT D D D D D D D D) D D .nil D (by exact fun bc h=>⟨⟨h.1,rfl⟩,(fun _ _ e=>nomatch e)⟩) D<|fM 19 D<|ar
   ·exact bR
   rfl
  exact bm (O 3 D<|qT (cw:=[]) (cW:=[]) [] [G 4,G 84,G 7,G 87,G 8,G 88,G 9,G 10] (lf D D) (dk x.index bC (some gO) Ik.1 (by omega) S2) (au D) (.kT D D D D D D D D) D D .nil D (fun bc h=>nomatch h.2) D<|aN 1 D)<|bp<|⟨.inr D,⟨_,(.cons (.tmp D) .nil),cM⟩,cI (.kT D D D D D D D D)⟩
 have tD:decide (x.kind=5)=false:=aP
 refine aL 2 D<|a7 D (fun bq=>?_) fun bq=>?_
 ·have aV:x.kind=4:=cJ bq
  have kV:=bJ
  unfold tF at kV
  rw[tD,cond_false,gl aV,cond_true]at kV
  refine al<|?_
  rcases aM:cb cG (2,x.index)with _|b<;>rw[aM]at kV
  ·have e:o=some (bC,0):=(Option.some.inj kV).symm
   subst e
   refine bm (O 3 D<|ag (.build gb la (ba D D D (ba D D D (.nil _ _))) D)<|cH [_] ((Pure.oJ (kv:=hW) (k:=(2,x.index)) (f:=av) FA (I D) (.f [.i 2,.i x.index] (I D)) D).bK (y:=.bE [.d (av 0),bk false]) (congrArg (fun o:Option Int=>ai.bE [.d (o.elim (av 0) av),bk o.isSome]) aM))<|aN 5 D)<|aO (O 2 D<|dp D D<|dp D D<|c6 D D (bH D) D<|eg D D D<|ar)<|a7 D (fun b3=>?_) fun b3=>?_
   ·cases b3
   refine aL 1 D<|a7 D (fun et=>?_) fun et=>?_
   ·cases et
   exact bx<|aL 1 D<|bp<|⟨.inr D,⟨_,(.cons (.tmp D) .nil),cM⟩,cI (.kT D D D D D D D D)⟩
  have ae:=lJ _ _ aM
  simp only at kV
  refine bm (O 3 D<|ag (.build gb la (ba D D D (ba D D D (.nil _ _))) D)<|cH [_] ((Pure.oJ (kv:=hW) (k:=(2,x.index)) (f:=av) FA (I D) (.f [.i 2,.i x.index] (I D)) D).bK (y:=.bE [.d (av b),bk true]) (congrArg (fun o:Option Int=>ai.bE [.d (o.elim (av 0) av),bk o.isSome]) aM))<|aN 5 D)<|aO (O 2 D<|dp D D<|dp D D<|c6 D D (bH D) D<|eg D D D<|ar)<|a7 D (fun eQ=>?_) fun eQ=>?_
  ·have aG:decide (b<a)=true:=eQ
   rw[aG,cond_true]at kV
   refine al<|?_
   rcases o with _|gO
   ·apply kH 38
    ·exact O 2 D<|qT (res:=kk) (cw:=[]) (cW:=[]) [] [G 4,G 84,G 7,G 87,G 8,G 88,G 9,G 10] (lf D D) (dk b bC none ae.1 ae.2 kV) (au D) (.kT D D D D D D D D) D D .nil D (by exact fun bc h=>⟨⟨h.1,rfl⟩,(fun _ _ e=>nomatch e)⟩) D<|fM 38 D<|ar
    ·exact bR
    rfl
   exact bm (O 2 D<|qT (cw:=[]) (cW:=[]) [] [G 4,G 84,G 7,G 87,G 8,G 88,G 9,G 10] (lf D D) (dk b bC (some gO) ae.1 ae.2 kV) (au D) (.kT D D D D D D D D) D D .nil D (fun bc h=>nomatch h.2) D<|aN 1 D)<|bp<|⟨.inr D,⟨_,(.cons (.tmp D) .nil),cM⟩,cI (.kT D D D D D D D D)⟩
  have aG:decide (b<a)=false:=eQ
  rw[aG,cond_false]at kV
  refine aL 1 D<|a7 D (fun ie=>?_) fun ie=>?_
  ·refine al<|?_
   rcases an:lh b bC with _|s1
   ·rw[an]at kV;cases kV
   rcases s1 with _|gO
   ·have e:o=none:=by rw[an]at kV;exact(Option.some.inj kV).symm
    subst e
    apply kH 42
    ·exact O 2 D<|qT (res:=kk) (cw:=[]) (cW:=[]) [] [G 4,G 84,G 7,G 87,G 8,G 88,G 9,G 10] (lf D D) (dk b bC none ae.1 ae.2 an) (au D) (.kT D D D D D D D D) D D .nil D (by exact fun bc h=>⟨⟨h.1,rfl⟩,(fun _ _ e=>nomatch e)⟩) D<|fM 42 D<|fM 42 D<|ar
    ·exact bR
    rfl
   have e:o=some (gO.1,AU (gO.2+1)):=by rw[an]at kV;exact(Option.some.inj kV).symm
   subst e
   exact bm (O 2 D<|qT (cw:=[]) (cW:=[]) [] [G 4,G 84,G 7,G 87,G 8,G 88,G 9,G 10] (lf D D) (dk b bC (some gO) ae.1 ae.2 an) (au D) (.kT D D D D D D D D) D D .nil D (fun bc h=>nomatch h.2) D<|ag (.u6 (I D) (I D) D)<|aN 1 D)<|bp<|⟨.inr D,⟨_,(.cons (.tmp D) .nil),cM⟩,cI (.kT D D D D D D D D)⟩
  cases ie
 refine aL 2 D<|a7 D (fun kb=>?_) fun kb=>?_
 ·have h9:x.kind=8:=cJ kb
  have hf:decide (x.kind=4)=false:=bq
  have ajv:=dh.1.rF h9
  have kV:=bJ
  unfold tF at kV
  rw[tD,cond_false,hf,cond_false,gl h9,cond_true]at kV
  refine al<|?_
  rcases aM:cb cG (3,x.index)with _|b<;>rw[aM]at kV
  ·have e:o=some (bC,0):=(Option.some.inj kV).symm
   subst e
   refine bm (O 3 D<|ag (.build gb la (ba D D D (ba D D D (.nil _ _))) D)<|cH [_] ((Pure.oJ (kv:=hW) (k:=(3,x.index)) (f:=av) FA (I D) (.f [.i 3,.i x.index] (I D)) D).bK (y:=.bE [.d (av 0),bk false]) (congrArg (fun o:Option Int=>ai.bE [.d (o.elim (av 0) av),bk o.isSome]) aM))<|aN 5 D)<|aL 1 D<|a7 D (fun pG=>?_) fun pG=>?_
   ·cases pG
   exact bx<|aL 1 D<|bp<|⟨.inr D,⟨_,(.cons (.tmp D) .nil),cM⟩,cI (.kT D D D D D D D D)⟩
  have ae:=lJ _ _ aM
  simp only at kV
  refine bm (O 3 D<|ag (.build gb la (ba D D D (ba D D D (.nil _ _))) D)<|cH [_] ((Pure.oJ (kv:=hW) (k:=(3,x.index)) (f:=av) FA (I D) (.f [.i 3,.i x.index] (I D)) D).bK (y:=.bE [.d (av b),bk true]) (congrArg (fun o:Option Int=>ai.bE [.d (o.elim (av 0) av),bk o.isSome]) aM))<|aN 5 D)<|aL 1 D<|a7 D (fun uQ=>?_) fun uQ=>?_
  ·refine al<|?_
   rcases an:lh b bC with _|s1
   ·rw[an]at kV;cases kV
   rcases s1 with _|gO
   ·have e:o=none:=by rw[an]at kV;exact(Option.some.inj kV).symm
    subst e
    apply se 57 mixed
    ·exact O 2 D<|qT (res:=kk) (cw:=[]) (cW:=[]) [] [G 4,G 84,G 7,G 87,G 8,G 88,G 9,G 10] (lf D D) (dk b bC none ae.1 ae.2 an) (au D) (.kT D D D D D D D D) D D .nil D (by exact fun bc h=>⟨⟨h.1,rfl⟩,(fun _ _ e=>nomatch e)⟩) D<|O 4 D<|ag ((eN nV D D).bK (y:=.cc (p8 (p.a1.getD x.index.toNat default))) D)<|O 2 D<|fM 57 D<|fM 57 D<|ar
    ·rfl
    ·exact bR
    rfl
   have e:o=some (gO.1,AU (gO.2+(p.a1.getD x.index.toNat default).size)):=by rw[an]at kV;exact(Option.some.inj kV).symm
   subst e
   exact eo (O 2 D<|qT (cw:=[]) (cW:=[]) [] [G 4,G 84,G 7,G 87,G 8,G 88,G 9,G 10] (lf D D) (dk b bC (some gO) ae.1 ae.2 an) (au D) (.kT D D D D D D D D) D D .nil D (fun bc h=>nomatch h.2) D<|O 4 D<|ag ((eN nV D D).bK (y:=.cc (p8 (p.a1.getD x.index.toNat default))) D)<|O 2 D<|ag (.u6 (I D) (I D) D)<|aN 1 D)<|bp<|⟨.inr D,⟨_,(.cons (.tmp D) .nil),cM⟩,cI (.kT D D D D D D D D)⟩
  cases uQ
 have kT:decide (x.kind=8)=false:=kb
 have hf:decide (x.kind=4)=false:=bq
 have e:o=some (bC,0):=by unfold tF at bJ;rw[tD,cond_false,hf,cond_false,kT,cond_false]at bJ;exact(Option.some.inj bJ).symm
 subst e
 exact bx<|aL 1 D<|bp<|⟨.inr D,⟨_,(.cons (.tmp D) .nil),cM⟩,cI (.kT D D D D D D D D)⟩
theorem ady{p:aD}{cG:List ((Int×Int)×Int)}(Z:p.b5)(eT:nk p)(N:Nat)(ik:p.ah.length=N)(lJ:∀k b,cb cG k=some b->0<=b/\b<N)(f:Nat)(a:Int)(bC:eX)(o:hs)(qV:adv p cG N (oW p cG f) a)(bb:0<=a)(J:a<N)(bJ:oW p cG (f+1) a bC=some o):oG prog true 42 [aF .i64 a,.ao 8 0,.ao 7 0,.cc (jQ p),.ao 10 0] (vT p cG bC) (Ij o) (vT p cG (y3 o)) [4,84,7,87,8,88,9,10] (xA o) []:=by
 have iv:=Z.kJ
 refine YN (rs:=[.tmp 6]) func42 D D (cC D) (lD D) fun E K af=>?_
 refine aO (cV 60 D D D<|aN 1 D)<|al<|aO (O 2 D<|cH [_] ((Pure.rD (kv:=fe) (k:=a) (f:=qM) L3 (I D) (.v (I D)) D).bK (y:=bk ((cb bC.2 a).getD false)) (So _))<|ar)<|a7 D (fun aP=>?_) fun aP=>?_
 ·have ha:(cb bC.2 a).getD false=true:=aP
  have e:o=none:=by unfold oW at bJ;rw[ha,cond_true]at bJ;exact(Option.some.inj bJ).symm
  subst e
  apply kH 0
  ·exact ag ((Pure.build L8 X9 (.nil _ _) D).aam (y:=.d (.v (.agg #[]))) aan)<|ag (.wN underlying105 (by intro m h;cases h) (I D))<|uz 0 (I D) .nil (by exact⟨rfl,rfl⟩)<|ar
  ·exact bR
  rfl
 have ha:(cb bC.2 a).getD false=false:=aP
 unfold oW at bJ
 rw[ha,cond_false]at bJ
 refine bx<|al<|al<|?_
 rcases aM:cb bC.1 a with _|v<;>rw[aM]at bJ<;>simp only at bJ
 ·rcases bA:rM (vQ p cG (oW p cG f) a) (p.ah.getD a.toNat default).x (bC.1,dM bC.2 a true) 0 with _|q
  ·rw[bA]at bJ;cases bJ
  rw[bA]at bJ
  refine bm (O 2 D<|cH [_] ((Pure.oJ (kv:=fe) (k:=a) (f:=av) iW (I D) (.v (I D)) D).bK (y:=.bE [.d (av 0),bk false]) (congrArg (fun o:Option Int=>ai.bE [.d (o.elim (av 0) av),bk o.isSome]) aM))<|aN 5 D)<|aL 1 D<|a7 D (fun bq=>?_) fun bq=>?_
  ·cases bq
  refine bx<|aO (O 2 D<|bI.put (kv:=fe) (k:=a) (f:=qM) (u:=true) L3 (I D) (.v (I D)) (.d (I D)) D<|ar)<|aO (cm 61 iC D<|dZ bY D D D D D<|ar)<|al<|al<|?_
  have aG:a.toNat<p.ah.length:=by omega
  have iM:=(Z.ah _ (dJ aG)).2.2
  have L0:=(eT.lZ _ aG).up (Nat.le_of_lt (ik▸aG))
  refine bm (O 3 D<|ag ((eN qH D D).bK (y:=.cc (jf (p.ah.getD a.toNat default))) D)<|O 1 D<|ag ((Pure.kD dL (I D) fun _=>cC D).bK (y:=.d (.agg (cr (p.ah.getD a.toNat default).x))) D)<|qT (cw:=[]) (cW:=[]) [50] [] (cf D) (ads (p.ah.getD a.toNat default).x) (au D) .nil D D .nil D (fun bc h=>h.elim) D<|ar)<|bX<|c8.fj (T:=((ab 1,.aB (.ao 8 0))::(ab 2,.aB (.ao 7 0))::(ab 3,.aB (.cc (jQ p)))::(ab 4,.aB (.ao 10 0))::(ab 5,.aB (.ao 60 0))::(ab 9,.aB (.ao 61 0))::(ab 32,.aB (.fn 85 [.ao 50 0]))::(G 50,.U (.data (cr (p.ah.getD a.toNat default).x)))::CU p cG a (bC.1,dM bC.2 a true) 0)) ?_ (fs D D D D D D D D<|fs D D D D D D D D<|ck D D<|aU)
  refine PU (X:=xA q) (fx:=SX) (L:=70) (ts:=FB) (ts':=FB) (new:=[]) (ds:=[G 50,G 60,G 61,G 4,G 84,G 7,G 87,G 8,G 88,G 9,G 10]) (fI:=none) (st:=.ready) (fun g h=>h D) (fun bc h=>⟨h.1,by have e:=bJ;rw[h.2]at e;exact(Option.some.inj e).symm⟩) D D D (au D) (.eC D D D) af D D (by rw[K];decide) (by simp) (adu (N:=N) (gJ:=vQ p cG (oW p cG f) a) (fun y CV lg u ak bf an=>?_) (p.ah.getD a.toNat default).x iM L0 (bC.1,dM bC.2 a true) 0 q bA) (uj (res:=.d (.v .nilFunc)) (.cons D (.cons D (.cons D (.cons D (.cons D (.cons D (.cons D (.cons D (.cons D (.cons D (.cons D (.cons D .nil)))))))))))) D).n D D D (by simp) ?_
  ·refine PI (φ:=∃r,u=some r) (fI:=none) (ed:=((ab 4,.aB (.ao 10 0))::(ab 5,.aB (.ao 60 0))::(ab 9,.aB (.ao 61 0))::(ab 10,.aB (.ao 66 0))::(G 66,.U (.data (cr y)))::CU p cG a CV lg)) (by rintro⟨r,rfl⟩ Hb rfl;rfl) (fun g h _=>h) (fun _ _=>rfl) D D D D D D D D ?_ ?_
   ·intro E l K af
    exact bm (cm 66 hn D<|cL dL D D D D<|ar)<|⟨rfl,(fs D D D D D D D D<|da D D D D<|ck D D<|aZ D<|aU)⟩
   intro E l K af
   refine bX<|?_
   rcases hw:tF p cG (oW p cG f) a y CV with _|s1
   ·exfalso;unfold vQ at an;rw[hw]at an;cases an
   rcases s1 with _|gO
   ·have e:u=none:=by unfold vQ at an;rw[hw]at an;exact(Option.some.inj an).symm
    subst e
    apply se 38 mixed
    ·exact O 4 D<|qT (res:=kk) (cw:=[]) (cW:=[]) [] [G 4,G 84,G 7,G 87,G 8,G 88,G 9,G 10] (kU D D D) (qV y CV none ak bf hw) (au D) (.kT D D D D D D D D) D D .nil D (by exact fun bc h=>⟨h.1,rfl⟩) D<|fM 38 D<|fM 38 D<|ar
    ·rfl
    ·exact bR
    rfl
   have e:u=some (gO.1,max lg gO.2):=by unfold vQ at an;rw[hw]at an;exact(Option.some.inj an).symm
   subst e
   exact eo (O 4 D<|qT (cw:=[]) (cW:=[]) [] [G 4,G 84,G 7,G 87,G 8,G 88,G 9,G 10] (kU D D D) (qV y CV (some gO) ak bf hw) (au D) (.kT D D D D D D D D) D D .nil D (fun bc h=>nomatch h.2) D<|ag (.max2 (I D) (I D))<|dZ bY D D D D D<|ar)<|⟨⟨_,rfl⟩,rfl,cU (.Lw D D D D D D D D D D)⟩
  rcases q with _|r
  ·rintro⟨V,M,v,h⟩;exact absurd h OG
  intro _
  have e:o=some ((dM r.1.1 a r.2,dM r.1.2 a false),r.2):=(Option.some.inj bJ).symm
  subst e
  refine c8.fj (T:=((ab 1,.aB (.ao 8 0))::(ab 2,.aB (.ao 7 0))::(ab 3,.aB (.cc (jQ p)))::(ab 4,.aB (.ao 10 0))::(ab 5,.aB (.ao 60 0))::(ab 9,.aB (.ao 61 0))::CU p cG a r.1 r.2)) ?_ (fs D D D D D D D D<|fs D D D D D D D D<|aU)
  exact aO (O 2 D<|bI.put (kv:=fe) (k:=a) (f:=qM) (u:=false) L3 (I D) (.v (I D)) (.d (I D)) D<|ar)<|aO (O 3 D<|bI.put (kv:=fe) (k:=a) (f:=av) (u:=r.2) iW (I D) (.v (I D)) (.d (I D)) D<|ar)<|aL 2 D<|bp<|⟨.inr D,⟨_,(.cons (.tmp D) .nil),rfl⟩,cU (.kT D D D D D D D D)⟩
 have e:o=some (bC,v):=(Option.some.inj bJ).symm
 subst e
 refine bm (O 2 D<|cH [_] ((Pure.oJ (kv:=fe) (k:=a) (f:=av) iW (I D) (.v (I D)) D).bK (y:=.bE [.d (av v),bk true]) (congrArg (fun o:Option Int=>ai.bE [.d (o.elim (av 0) av),bk o.isSome]) aM))<|aN 5 D)<|aL 1 D<|a7 D (fun b3=>?_) fun b3=>?_
 ·exact aL 2 D<|bp<|⟨.inr D,⟨_,(.cons (.tmp D) .nil),rfl⟩,cU (.kT D D D D D D D D)⟩
 cases b3
theorem L9{p:aD}{cG:List ((Int×Int)×Int)}(Z:p.b5)(eT:nk p)(N:Nat)(ik:p.ah.length=N)(lJ:∀k b,cb cG k=some b->0<=b/\b<N):∀f:Nat,S1 p cG N (oW p cG f)
 |0=>fun b bC o _ _ h=>by cases h
 |f+1=>fun b bC o bb J h=>ady Z eT N ik lJ f b bC o (fun x CV xB Y dh W=>adw Z N ik lJ (L9 Z eT N ik lJ f) b x CV xB Y dh W) bb J h
def ig(m:List (Int×Bool))(k:Int):Bool:=(cb m k).getD false
def iZ(N:Nat)(m:List (Int×Bool)):Nat:=((List.range N).filter fun k:Nat=> !ig m (k:Int)).length
theorem uV(m:List (Int×Bool))(a k:Int)(b:Bool):ig (dM m a b) k=if k=a then b else ig m k:=by
 unfold ig
 rw[oI]
 by_cases h:k=a
 ·subst h;simp
 ·simp[h,Ne.symm h]
theorem S3{N:Nat}{m:List (Int×Bool)}{a:Int}(bb:0<=a)(ik:a<N)(bJ:ig m a=false):iZ N (dM m a true)<iZ N m:=by
 have key:∀l:List Nat,l.Nodup->a.toNat∈l->(l.filter fun k:Nat=> !ig (dM m a true) (k:Int)).length<(l.filter fun k:Nat=> !ig m (k:Int)).length:=by
  intro l
  induction l with
  |nil=>intro _ h;cases h
  |cons x l aJ=>
   intro aq aw
   rw[List.nodup_cons]at aq
   by_cases Y:x=a.toNat
   ·subst Y
    have e:((a.toNat:Nat):Int)=a:=by omega
    have aE:(l.filter fun k:Nat=> !ig (dM m a true) (k:Int))=l.filter fun k:Nat=> !ig m (k:Int):=by
     refine List.filter_congr fun k K=>?_
     rw[uV,if_neg fun h=>aq.1 (by rw[<-h];simpa using K)]
    rw[List.filter_cons,List.filter_cons,aE,uV,e,if_pos rfl,bJ]
    simp
   ·have oQ:a.toNat∈l:=by rcases eb.1 aw with h|h;exact absurd h.symm Y;exact h
    have aH:=aJ aq.2 oQ
    have e:ig (dM m a true) (x:Int)=ig m (x:Int):=by rw[uV,if_neg (by omega)]
    rw[List.filter_cons,List.filter_cons,e]
    split
    ·simp only[ek];omega
    ·exact aH
 exact key _ List.nodup_range (List.mem_range.2 (by omega))
theorem S4{N:Nat}{m pK:List (Int×Bool)}(h:∀k,ig pK k=ig m k):iZ N pK=iZ N m:=by
 unfold iZ;congr 1;refine List.filter_congr fun k _=>by rw[h]
def vU(bC:eX)(o:Option hs):Prop:=∃q:hs,o=some q/\∀r,q=some r->∀k,ig r.1.2 k=ig bC.2 k
theorem vU.map{bC:eX}{o:Option hs}(f:Int->Int)(h:vU bC o):vU bC (Ft f o):=by
 obtain⟨q,rfl,h⟩:=h
 cases q with
 |none=>exact⟨none,rfl,fun r e=>by cases e⟩
 |some q=>exact⟨some (q.1,f q.2),rfl,fun r e=>by injection e with e;subst e;exact h q D⟩
theorem adz{N c:Nat}{gJ:aR->eX->Int->Option hs}(p:aD)(an:∀x bC n,ff p N x->iZ N bC.2<=c->vU bC (gJ x bC n)):∀x:aR,ff p N x->∀bC n,iZ N bC.2<=c->vU bC (rM gJ x bC n):=aR.ind fun x aJ Y bC n aj=>by
 have aa:∀l:List aR,(∀y∈l,y∈x.l)->∀bC n,iZ N bC.2<=c->vU bC (sD gJ l bC n):=by
  intro l
  induction l with
  |nil=>intro _ bC n _;exact⟨some (bC,n),rfl,fun r e=>by injection e with e;subst e;exact fun k=>rfl⟩
  |cons y r adA=>
   intro aw bC n aj
   obtain⟨q,J,W⟩:=aJ y (aw y (by simp)) (by cases Y with|mk _ aa=>exact aa y (aw y (by simp))) bC n aj
   simp only[sD,J]
   cases q with
   |none=>exact⟨none,rfl,fun r e=>by cases e⟩
   |some q=>
    obtain⟨Ma,aH,aV⟩:=adA (fun z bd=>aw z (by simp[bd])) q.1 q.2 (by rw[S4 (W q D)];exact aj)
    exact⟨Ma,aH,fun r e k=>(aV r e k).trans (W q D k)⟩
 rw[LR]
 obtain⟨q,J,W⟩:=an x bC n Y aj
 rw[J]
 cases q with
 |none=>exact⟨none,rfl,fun r e=>by cases e⟩
 |some q=>
  obtain⟨Ma,aH,aV⟩:=aa x.l (fun y h=>h) q.1 q.2 (by rw[S4 (W q D)];exact aj)
  exact⟨Ma,aH,fun r e k=>(aV r e k).trans (W q D k)⟩
theorem adB{N c:Nat}{p:aD}{cG:List ((Int×Int)×Int)}{lh:Int->eX->Option hs}(lJ:∀k b,cb cG k=some b->0<=b/\b<N)(dk:∀(b:Int) (bC:eX),0<=b->b<N->iZ N bC.2<=c->vU bC (lh b bC))(a:Int)(x:aR)(Y:ff p N x)(bC:eX)(aj:iZ N bC.2<=c):vU bC (tF p cG lh a x bC):=by
 have bb:vU bC (some (some (bC,0))):=⟨_,rfl,fun r e=>by injection e with e;subst e;exact fun k=>rfl⟩
 have aa:n8 p N x:=by cases Y;assumption
 unfold tF
 cases db:decide (x.kind=5)with
 |true=>
  rw[cond_true]
  have:=aa.lt (cJ db)
  exact dk _ _ this.1 this.2 aj
 |false=>
  rw[cond_false]
  cases aV:decide (x.kind=4)with
  |true=>
   rw[cond_true]
   cases aM:cb cG (2,x.index)with
   |none=>exact bb
   |some b=>
    have ae:=lJ _ _ aM
    simp only
    cases decide (b<a)with
    |true=>rw[cond_true];exact dk _ _ ae.1 ae.2 aj
    |false=>rw[cond_false];exact(dk _ _ ae.1 ae.2 aj).map _
  |false=>
   rw[cond_false]
   cases h9:decide (x.kind=8)with
   |true=>
    rw[cond_true]
    cases aM:cb cG (3,x.index)with
    |none=>exact bb
    |some b=>
     have ae:=lJ _ _ aM
     exact(dk _ _ ae.1 ae.2 aj).map _
   |false=>exact bb
theorem S5{N:Nat}{p:aD}{cG:List ((Int×Int)×Int)}(ik:p.ah.length=N)(mD:∀i,i<N->ff p N (p.ah.getD i default).x)(lJ:∀k b,cb cG k=some b->0<=b/\b<N):∀(f:Nat) (a:Int) (bC:eX),0<=a->a<N->iZ N bC.2<f->vU bC (oW p cG f a bC)
 |0,a,bC,_,_,h=>by omega
 |f+1,a,bC,bb,J,aj=>by
  unfold oW
  cases ha:(cb bC.2 a).getD false with
  |true=>exact⟨none,rfl,fun r e=>by cases e⟩
  |false=>
   rw[cond_false]
   cases aM:cb bC.1 a with
   |some n=>exact⟨_,rfl,fun r e=>by injection e with e;subst e;exact fun k=>rfl⟩
   |none=>
    have aG:=S3 (N:=N) bb J ha
    have Z:=adz (c:=f-1) p (gJ:=vQ p cG (oW p cG f) a) (fun x bC n Y aj=>(adB (c:=f-1) lJ (fun b bC p3 l8 aj=>S5 ik mD lJ f b bC p3 l8 (by
      have:iZ N bC.2<=f-1:=aj
      have:0<f:=by omega
      omega)) a x Y bC aj).map _) (p.ah.getD a.toNat default).x (mD _ (by omega)) (bC.1,dM bC.2 a true) 0 (by show iZ N (dM bC.2 a true)<=f-1;omega)
    obtain⟨q,W,aH⟩:=Z
    simp only[W]
    cases q with
    |none=>exact⟨none,rfl,fun r e=>by cases e⟩
    |some r=>
     refine⟨_,rfl,fun Al e=>?_⟩
     injection e with e;subst e
     intro k
     show ig (dM r.1.2 a false) k=ig bC.2 k
     rw[uV,aH r rfl k]
     show(if k=a then false else ig (dM bC.2 a true) k)=_
     rw[uV]
     split
     ·rename_i e;subst e;exact ha.symm
     ·rfl
def CW(p:aD):hs:=(oW p (iY p p.ah.length) (p.ah.length+1) (p.ah.length-1) ([],[])).getD none
def oZ(p:aD):Int:=match CW p with
 |some r=>r.2
 |none=>-1
theorem FC(N:Nat)(m:List (Int×Bool)):iZ N m<=N:=by
 unfold iZ
 exact Nat.le_trans (List.length_filter_le _ _) (by simp)
theorem S6{p:aD}(mD:∀i,i<p.ah.length->ff p p.ah.length (p.ah.getD i default).x)(h:0<p.ah.length):oW p (iY p p.ah.length) (p.ah.length+1) (p.ah.length-1) ([],[])=some (CW p):=by
 obtain⟨q,J,_⟩:=S5 (cG:=iY p p.ah.length) D mD (fun k b ae=>CM p _ k b ae) (p.ah.length+1) (p.ah.length-1) ([],[]) (by omega) (by omega) (by have:=FC p.ah.length ([]:List (Int×Bool));show iZ _ []<_;omega)
 unfold CW
 rw[J]
 rfl
theorem S7{p:aD}(Z:hZ p=some p):0<p.ah.length:=by
 obtain⟨_,_,_,_,gP,h⟩:=y2 Z
 cases af:p.ah.length with
 |zero=>rw[af]at h;simp only[jR,en,Prod.mk.injEq]at h;exact absurd h.2.1 (by decide)
 |succ n=>omega
theorem adC(m:Int):nS prog 44 [.ao 2 0,.ao 3 0] [(G 2,.U (.data [av m])),(G 3,.U (.data [av 0]))] [(G 2,.U (.data [av m])),(G 3,.U (.data [av 0]))] (.returning) (.returning) [2,3]:=by
 refine Ru (x:=.nilIface) func44 D (cC D) (lD D) (by decide) D .tc D fun E K af=>?_
 apply Exists.intro
 apply Exists.intro
 refine⟨?_,?_,?_⟩
 ·exact ag (.aap underlying105 (by intro m h;cases h) (by kernel_rfl) (z:=.agg []) (fun M=>.agg _ [] D fun j x y Y _=>by simp at Y) (I D))<|O 3 D<|cm 5 L8 D<|bI.zM Pb (I D) (I D) D D D (by simp) (cC D) D<|aN 1 D
 ·exact bR
 refine aL 1 D<|a7 D (fun aP=>?_) fun aP=>?_
 ·cases aP
 exact bx<|⟨.inl D,cU (.dy D D)⟩
theorem adD:nS prog 44 [.ao 2 0,.ao 3 0] [(G 2,.U (.data [av 0])),(G 3,.U (.data [av 0]))] [(G 2,.U (.data [av (-1)])),(G 3,.U (.data [av 0]))] (.panicking [{v:=.iface 105 (.agg #[]),recovered:=false}]) (.panicking [{v:=.iface 105 (.agg #[]),recovered:=true}]) [2,3]:=by
 refine Ru (x:=.iface 105 (.agg #[])) func44 D (cC D) (lD D) (by decide) D (.td _ _) D fun E K af=>?_
 apply Exists.intro
 apply Exists.intro
 refine⟨?_,?_,?_⟩
 ·exact ag (.Hx underlying105 (by intro m h;cases h) (z:=.agg []) (fun M=>.agg _ [] D fun j x y Y _=>by simp at Y) (I D))<|O 3 D<|cm 5 L8 D<|bI.zM Pb (I D) (I D) D D D (by simp) (cC D) D<|aN 1 D
 ·exact bR
 refine aL 1 D<|a7 D (fun aP=>?_) fun aP=>?_
 ·exact bm (dZ bY D D D D D<|dZ gF D D D D D<|ar)<|⟨.inl D,cU (.dy D D)⟩
 cases aP
theorem adE(p:aD)(Z:p.b5)(qU:oX p=true):fC prog 10 [.d (fR p)] [] (.bE [.d (av (oZ p)),.d (av 0)]) [] [] ((fun _=>False)) []:=by
 have CT:=SN Z
 rw[qU]at CT
 have eT:=SV Z qU
 have iv:=Z.kJ
 have oh:0<p.ah.length:=by
  unfold oX at qU
  cases hw:nq p with
  |none=>rw[hw]at qU;cases qU
  |some fd=>exact S7 (Fv hw).1
 have mD:∀i,i<p.ah.length->ff p p.ah.length (p.ah.getD i default).x:=fun i hi=>(eT.lZ i hi).up (Nat.le_of_lt hi)
 refine dI.one ?_
 refine Am (k:=9) (cap:=[(2,2),(3,3)]) (kept:=[(2,2),(3,3)]) (rs:=[.cell 2 3,.cell 3 30]) (ed:=(ab 1,.aB (.cc (jQ p)))::(ab 2,.aB (.ao 2 0))::(ab 3,.aB (.ao 3 0))::(ab 9,.aB (.ao 9 0))::(G 2,.U (.data [av 0]))::(G 3,.U (.data [av 0]))::vT p (iY p p.ah.length) ([],[])) (ro:={gm:=fun y=>y.1=SY/\CW p=none/\y.2=[(ab 2,.aB (.ao 2 0)),(ab 3,.aB (.ao 3 0)),(G 2,.U (.data [av 0])),(G 3,.U (.data [av 0]))]}) (True) func10 D D D (cC D) (by simp[ad.get]) (cC D) (au D) (fun E K af=>?_) (.cons D (.cons D (.nil))) D (fun uu E K af=>?_) (by simp) rfl rfl ?_
 ·apply dm
  ·apply cV 1 D D D
   apply cm 2 iC D
   apply cm 3 z8 D
   exact .nil _
  ·exact bR
  apply al
  apply dm
  ·apply cH [_] (.GC pq (I D) D (by rfl))
   apply cY (cf D) (show bw prog 40 [.d (fR p)] [] (.d (av 0)) [] []from CT) (au D)
   apply dZ gF D D D D D
   exact .nil _
  ·exact bR
  apply al
  apply dm
  ·apply cH [_] (.h2 gF (I D) D D)
   apply ag (.qz (I D) (I D) D)
   exact .nil _
  ·exact bR
  refine a7 D (fun aP=>?_) fun aP=>?_
  ·cases aP
  ·apply bx
   refine c1 (b1.hV (t:=1) (l:=1) D D) ?_
   apply dm
   ·apply sn hW av 84 [] D
    apply cm 4 Xl D
    apply ny Pa (I D) (I D) D D D (by simp[ai.fk,jo]) (cC D) D
    exact .nil _
   ·exact bR
   apply al
   apply dm
   ·apply ag (.fieldAddr z7 (I D) D)
    apply ag (.fG vo (I D) D)
    apply ag (.len D underlying27 (I D) D)
    apply ag (.move (I D))
    exact .nil _
   ·exact bR
   apply bX
   refine eP (σ:=Nat) [(ab 1,_),(ab 2,_),(ab 3,_),(ab 4,_),(ab 18,_),(ab 19,_),(G 2,_),(G 3,_),(G 4,_)] (fun c=>[(ab 20,.aB (aF .i64 (c:Int))),(G 84,.U (hE hW av (iY p c)))]) (fun c=>c<=p.ah.length) (fun c=>p.ah.length-c) 0 (ck D D<|aU) (fs D D D D D D D D<|aZ D<|aU) (Nat.zero_le _) fun c hi=>?_
   apply al
   apply dm
   ·apply ag (.qz (I D) (I D) D)
    exact .nil _
   ·exact bR
   apply al
   refine a7 D (fun bq=>?_) fun bq=>?_
   ·have aG:c<p.ah.length:=eJ bq
    apply bx
    apply al
    apply bX
    apply al
    apply dm
    ·apply ag (.move (I D))
     apply ag ((eN qH D D).bK (y:=.cc (jf (p.ah.getD c default))) D)
     apply ag (.kD qI (I D) fun _=>cC D)
     apply cm 6 nX D
     apply ag (.assign (I D))
     apply cL qI D D D D
     exact .nil _
    ·exact bR
    apply al
    apply dm
    ·apply ag (.fieldAddr BU (I D) D)
     apply cH [_] (.h2 bY (I D) D D)
     apply ag (.qz (I D) (I D) D)
     apply ag (.move (I D))
     apply cX D BU (I D) D
     apply dP D bY D D D
     apply c6 D D (I D) D
     apply gQ D D D
     exact .nil _
    ·exact bR
    refine a7 D (fun b3=>?_) fun b3=>?_
    ·have hk:iY p (c+1)=dM (iY p c) ((p.ah.getD c default).kind,(p.ah.getD c default).index) (c:Int):=by rw[iY,show(bif decide ((p.ah.getD c default).kind=2)then true else decide ((p.ah.getD c default).kind=3))=true from b3,cond_true]
     apply dm
     ·apply cH [_] (.wB Pa (I D) D D)
      apply ag (.fieldAddr BU (I D) D)
      apply cH [_] (.h2 bY (I D) D D)
      apply ag (.fieldAddr Ks (I D) D)
      apply cH [_] (.h2 bY (I D) D D)
      apply ag (.build gb la (ba D D D (ba D D D (.nil _ _))) D)
      apply ag (.move (I D))
      apply bI.put (kv:=hW) (k:=((p.ah.getD c default).kind,(p.ah.getD c default).index)) (f:=av) (u:=(c:Int)) FA (I D) (.f [.i (p.ah.getD c default).kind,.i (p.ah.getD c default).index] (I D)) (.d (I D)) D
      exact .nil _
     ·exact bR
     apply dm
     ·apply cp D D D
      apply ag (.move (I D))
      exact .nil _
     ·exact bR
     exact⟨c+1,aG,fD (by assumption),aZ (ec (by omega))<|aZ (by rw[hk];rfl)<|aU,fs D D D D D D D D<|aZ D<|aU⟩
    ·have hk:iY p (c+1)=iY p c:=by rw[iY,show(bif decide ((p.ah.getD c default).kind=2)then true else decide ((p.ah.getD c default).kind=3))=false from b3,cond_false]
     apply bx
     apply dm
     ·apply cp D D D
      apply ag (.move (I D))
      exact .nil _
     ·exact bR
     exact⟨c+1,aG,fD (by assumption),aZ (ec (by omega))<|aZ (by rw[hk];rfl)<|aU,fs D D D D D D D D<|aZ D<|aU⟩
   ·have eW:c=p.ah.length:=by have:=dj bq;omega
    subst eW
    apply dW
    apply dm
    ·apply sn fe av 87 [] D
     apply cm 7 Xd D
     apply ny Kt (I D) (I D) D D D (by simp[ai.fk,jo]) (cC D) D
     exact .nil _
    ·exact bR
    apply dm
    ·apply sn fe qM 88 [] D
     apply cm 8 Xo D
     apply ny Xn (I D) (I D) D D D (by simp[ai.fk,jo]) (cC D) D
     exact .nil _
    ·exact bR
    apply dm
    ·apply cm 9 Xp D
     exact .nil _
    ·exact bR
    apply dm
    ·apply ag (.mG (.cons (I D) (.cons (I D) (.cons (I D) .nil))))
     apply cm 10 Xr D
     apply ny Xq (I D) (I D) D D D (by simp[ai.fk,jo]) (cC D) D
     exact .nil _
    ·exact bR
    apply dm
    ·apply ag (.mG (.cons (I D) (.cons (I D) (.cons (I D) (.cons (I D) .nil)))))
     apply ny Kw (I D) (I D) D D D (by simp[ai.fk,jo]) (cC D) D
     exact .nil _
    ·exact bR
    exact .inl ⟨rfl,(fs D D D D D D D D<|da D D D D<|ck D D<|aU),trivial⟩
 ·apply al
  rcases bJ:CW p with _|r<;>have CX:=(S6 mD oh).trans (congrArg some bJ)
  ·apply kH 51
   ·apply cH [_] (.wB Kw (I D) D D)
    apply ag (.fieldAddr z7 (I D) D)
    apply ag (.fG vo (I D) D)
    apply ag (.len D underlying27 (I D) D)
    apply cp D D D
    apply dH (res:=kk) (cw:=[]) (cW:=[(ab 2,.aB (.ao 2 0)),(ab 3,.aB (.ao 3 0)),(G 2,.U (.data [av 0])),(G 3,.U (.data [av 0]))]) [] [G 4,G 84,G 7,G 87,G 8,G 88,G 9,G 10] (lf D D) ((L9 Z eT p.ah.length D (fun k b ae=>CM p _ k b ae) (p.ah.length+1) (p.ah.length-1) ([],[]) none (by omega) (by omega) CX).x) (au D) (.kT D D D D D D D D) D D (.aQ D D (.aQ D D (.aQ D D (.aQ D D .nil)))) D (by exact fun bc h=>⟨h.1,rfl,rfl⟩) D
    apply fM 51 D
    apply fM 51 D
    exact .nil _
   ·exact bR
   ·rfl
  apply dm
  ·apply cH [_] (.wB Kw (I D) D D)
   apply ag (.fieldAddr z7 (I D) D)
   apply ag (.fG vo (I D) D)
   apply ag (.len D underlying27 (I D) D)
   apply cp D D D
   apply dH (cw:=[]) (cW:=[]) [] [G 4,G 84,G 7,G 87,G 8,G 88,G 9,G 10] (lf D D) ((L9 Z eT p.ah.length D (fun k b ae=>CM p _ k b ae) (p.ah.length+1) (p.ah.length-1) ([],[]) (some r) (by omega) (by omega) CX).x) (au D) (.kT D D D D D D D D) D D .nil D (fun bc h=>nomatch h.2) D
   apply dZ bY D D D D D
   apply dZ gF D D D D D
   exact .nil _
  ·exact bR
  apply bp
  exact⟨.inr D,[(G 2,.U (.data [av r.2])),(G 3,.U (.data [av 0]))],(da D D D D<|aU),by simp,.returning,_,rfl,adC r.2,.inl ⟨rfl,(),trivial,⟨_,(.cons (.hR D D bY D) (.cons (.hR D D gF D) .nil)),by rw[show oZ p=r.2 by unfold oZ;rw[bJ]];exact cM⟩,cI .nil⟩⟩
 ·rintro⟨bc,st⟩ ⟨rfl,nm,rfl⟩
  exact⟨[(G 2,.U (.data [av 0])),(G 3,.U (.data [av 0]))],rfl,by simp,_,_,rfl,adD,.inl ⟨rfl,(),trivial,⟨_,(.cons (.hR D D bY D) (.cons (.hR D D gF D) .nil)),by rw[show oZ p=-1 by unfold oZ;rw[nm]];exact cM⟩,cI .nil⟩⟩
theorem S8{p:aD}(Z:p.b5)(qU:oX p=true):bw prog 10 [.d (fR p)] [] (.bE [.d (av (oZ p)),.d (av 0)]) [] []:=(adE p Z qU).fn
abbrev rP(p:aD):Bool:=tI p (oZ p)
theorem FD{p:aD}(Z:p.b5):bw prog 6 [.d (fR p)] [] (.d (Fu (rP p))) [] []:=dI.nD (adr p Z (oZ p) (S8 Z)) () (fun _ _=>rfl) fun _ h=>h
structure fa where
 bV:List Int
 bF:List (List Int)
structure ee where
 bj:List Int
 ay:List Int
 ax:List Int
 bV:List Int
 bF:List (List Int)
 lets:List Int
def fu(n lo hi:Int):Int:=max lo (min n hi)
def gA(p:aD)(f:ee)(x:aR)(ls:List Int):Int:=
 let a:=ls.getD 0 0
 let b:=ls.getD 1 0
 match x.kind.toNat with
 |1=>x.n
 |3=>f.bj.getD x.index.toNat 0
 |4=>f.bV.getD x.index.toNat 0
 |5=>f.lets.getD x.index.toNat 0
 |6=>f.ay.getD a.toNat 0
 |7=>f.ax.getD a.toNat 0
 |8=>(f.bF.getD x.index.toNat []).getD (fu a 0 ((f.bF.getD x.index.toNat []).length-1)).toNat 0
 |9=>(p.bM.getD x.index.toNat default).dU.getD (fu a 0 ((p.bM.getD x.index.toNat default).dU.length-1)).toNat 0
 |10=>fu a (-2147483648) 2147483647
 |11=>min a b
 |12=>max a b
 |13=>max a (-a)
 |14=>-a
 |15=>a+b
 |16=>a-b
 |17=>a*b
 |18=>a/x.n
 |19=>bif decide (a<b)then ls.getD 2 0 else ls.getD 3 0
 |_=>0
mutual
def eY(p:aD)(f:ee):aR->Int
 | .mk k s i n l=>gA p f (.mk k s i n l) (fm p f l)
def fm(p:aD)(f:ee):List aR->List Int
 |[]=>[]
 |x::r=>eY p f x::fm p f r
end
theorem y4(p:aD)(f:ee)(x:aR):eY p f x=gA p f x (fm p f x.l):=by cases x;rw[eY];rfl
theorem FE(p:aD)(f:ee):∀l,fm p f l=l.map (eY p f)
 |[]=>rfl
 |x::r=>by simp only[fm,FE p f r,List.map_cons]
theorem CY(p:aD)(f:ee)(l:List aR):(fm p f l).length=l.length:=by rw[FE];simp
theorem rQ(p:aD)(f:ee){l:List aR}{i:Nat}(h:i<l.length):(fm p f l).getD i 0=eY p f (l.getD i default):=by
 rw[FE];simp[cN,h]
structure uW(p:aD)(fd:List bh)(f:ee):Prop where
 oO:sw p
 bj:∀i,i<p.params.length->(p.params.getD i default).lo<=f.bj.getD i 0/\f.bj.getD i 0<=(p.params.getD i default).hi
 nG:∀i,i<p.bt.length->(p.bt.getD i default).lo<=f.bV.getD i 0/\f.bV.getD i 0<=(p.bt.getD i default).hi
 lY:∀i,i<p.a1.length->∀j,min (p.a1.getD i default).lo 0<=(f.bF.getD i []).getD j 0/\(f.bF.getD i []).getD j 0<=max (p.a1.getD i default).hi 0
 ay:∀j,-2147483648<=f.ay.getD j 0/\f.ay.getD j 0<=2147483647
 ax:∀j,-2147483648<=f.ax.getD j 0/\f.ax.getD j 0<=2147483647
 lets:∀i,i<f.lets.length->(fd.getD i default).1<=f.lets.getD i 0/\f.lets.getD i 0<=(fd.getD i default).2
abbrev ku(s:bh)(v:Int):Prop:=s.1<=v/\v<=s.2
theorem Mb(k:Int){lo hi y:Int}(J:lo<=y)(W:y<=hi):min (k*lo) (k*hi)<=k*y/\k*y<=max (k*lo) (k*hi):=by
 by_cases K:0<=k
 ·have a:=Int.mul_le_mul_of_nonneg_left J K
  have b:=Int.mul_le_mul_of_nonneg_left W K
  omega
 ·have a:=Int.mul_le_mul_of_nonpos_left (a:=k) (by omega) J
  have b:=Int.mul_le_mul_of_nonpos_left (a:=k) (by omega) W
  omega
theorem adF{a b s:bh}{x y:Int}(h:tz a b=some s)(Y:ku a x)(ak:ku b y):ku s (x*y):=by
 unfold tz at h
 split at h
 ·cases h
 ·split at h
  ·cases h
  ·split at h
   ·cases h
   ·split at h
    ·cases h
    ·injection h with h;subst h
     rename_i J _ _ W _ _ aH _ _ aV
     have gd:=(yJ J).1;have jO:=(yJ W).1;have pw:=(yJ aH).1;have uI:=(yJ aV).1
     subst gd jO pw uI
     have k8:=Mb y Y.1 Y.2
     have mz:=Mb a.1 ak.1 ak.2
     have qO:=Mb a.2 ak.1 ak.2
     rw[Int.mul_comm y a.1,Int.mul_comm y a.2,Int.mul_comm y x]at k8
     unfold ku
     simp only
     omega
theorem S9{a b s:bh}{x y:Int}(h:qb a b=some s)(Y:ku a x)(ak:ku b y):ku s (x+y):=by
 unfold qb at h
 split at h
 ·cases h
 ·split at h
  ·cases h
  ·injection h with h;subst h
   rename_i J _ _ W
   have gd:=(yJ J).1;have jO:=(yJ W).1
   subst gd jO
   exact⟨Int.add_le_add Y.1 ak.1,Int.add_le_add Y.2 ak.2⟩
theorem Ta(t:List Int):∀n i,i<n->ku (tA t n) (t.getD i 0)
 |n+1,i,h=>by
  unfold tA ku
  simp only
  by_cases hi:i<n
  ·have:=Ta t n i hi;unfold ku at this;omega
  ·have:i=n:=by omega
   subst this;omega
theorem adG{a:bh}{x:Int}(h:ku a x):ku (vH a) (max x (-x)):=by
 obtain⟨J,W⟩:=h
 unfold vH
 cases aH:decide (0<=a.1)with
 |true=>have:=cJ aH;simp only[cond_true];exact⟨by omega,by omega⟩
 |false=>
  have:=dj aH
  cases aV:decide (a.2<=0)with
  |true=>have:=cJ aV;simp only[cond_true,cond_false];exact⟨by simp only;omega,by simp only;omega⟩
  |false=>simp only[cond_false];exact⟨by simp only;omega,by simp only;omega⟩
theorem FF{n lo hi:Int}(h:lo<=hi):lo<=fu n lo hi/\fu n lo hi<=hi:=by unfold fu;omega
theorem Mc{a s:bh}(h:rG a=some s):s=(-2147483648,2147483647)/\0<=a.1:=by
 unfold rG at h
 cases l9:decide (a.1<0)with
 |true=>rw[l9]at h;cases h
 |false=>
  have:=dj l9
  rw[l9,cond_false]at h
  cases vV:decide (4096<a.2)with
  |true=>rw[vV]at h;cases h
  |false=>rw[vV]at h;injection h with h;exact⟨h.symm,by omega⟩
theorem adH{p:aD}{fd:List bh}{f:ee}(bf:uW p fd f){x:aR}(Y:n8 p f.lets.length x){uX:List bh}{ls:List Int}{s:bh}(aa:ls.length=x.l.length)(aK:∀i,i<x.l.length->ku (uX.getD i default) (ls.getD i 0))(h:j7 p fd x uX=some s):ku s (gA p f x ls):=by
 have hlen:=Y.len
 rcases Y.cases with K|K|K|K|K|K|K|K|K|K|K|K|K|K|K|K|K|K<;>(unfold j7 at h;unfold gA;rw[K]at h hlen⊢;change(_:Option bh)=_ at h;change ku s (_:Int))
 ·injection h with h;subst h;exact⟨Int.le_refl _,Int.le_refl _⟩
 ·injection h with h;subst h;have:=Y.bj K;exact bf.bj _ (by omega)
 ·injection h with h;subst h;have:=Y.nG K;exact bf.nG _ (by omega)
 ·injection h with h;subst h;have:=Y.lt K;exact bf.lets _ (by omega)
 ·have e:=(Mc (a:=uX.getD 0 default) h).1;subst e;exact bf.ay _
 ·have e:=(Mc (a:=uX.getD 0 default) h).1;subst e;exact bf.ax _
 ·injection h with h;subst h;have:=Y.rF K;exact bf.lY _ (by omega) _
 ·injection h with h;subst h
  have:=Y.rD K
  have Z:=(bf.oO.vI x.index.toNat (by omega)).1
  exact Ta _ _ _ (by have:= @FF (ls.getD 0 0) 0 ((p.bM.getD x.index.toNat default).dU.length-1) (by omega);omega)
 ·injection h with h;subst h
  have J:(x.l.length:Int)=1:=hlen
  have a:=aK 0 (by omega)
  show j6 (uX.getD 0 default).1<=fu (ls.getD 0 0) (-2147483648) 2147483647/\fu (ls.getD 0 0) (-2147483648) 2147483647<=j6 (uX.getD 0 default).2
  unfold j6 fu
  unfold ku at a
  omega
 ·injection h with h;subst h
  have J:(x.l.length:Int)=2:=hlen
  have a:=aK 0 (by omega);have b:=aK 1 (by omega)
  change ku _ (min (ls.getD 0 0) (ls.getD 1 0))
  unfold ku at a b⊢
  simp only
  omega
 ·injection h with h;subst h
  have J:(x.l.length:Int)=2:=hlen
  have a:=aK 0 (by omega);have b:=aK 1 (by omega)
  change ku _ (max (ls.getD 0 0) (ls.getD 1 0))
  unfold ku at a b⊢
  simp only
  omega
 ·injection h with h;subst h
  have J:(x.l.length:Int)=1:=hlen
  exact adG (aK 0 (by omega))
 ·injection h with h;subst h
  have J:(x.l.length:Int)=1:=hlen
  have a:=aK 0 (by omega)
  change ku _ (-(ls.getD 0 0))
  unfold ku at a⊢
  simp only
  omega
 ·have J:(x.l.length:Int)=2:=hlen
  exact S9 h (aK 0 (by omega)) (aK 1 (by omega))
 ·have J:(x.l.length:Int)=2:=hlen
  have b:=aK 1 (by omega)
  exact S9 h (aK 0 (by omega)) ⟨by have:=b.2;show-(uX.getD 1 default).2<=-(ls.getD 1 0);omega,by have:=b.1;show-(ls.getD 1 0)<=-(uX.getD 1 default).1;omega⟩
 ·have J:(x.l.length:Int)=2:=hlen
  exact adF h (aK 0 (by omega)) (aK 1 (by omega))
 ·injection h with h;subst h
  have J:(x.l.length:Int)=1:=hlen
  have a:=aK 0 (by omega)
  have:=Y.AE K
  exact⟨Int.ediv_le_ediv (by omega) a.1,Int.ediv_le_ediv (by omega) a.2⟩
 ·injection h with h;subst h
  have J:(x.l.length:Int)=4:=hlen
  have a:=aK 2 (by omega);have b:=aK 3 (by omega)
  change ku _ (bif decide (ls.getD 0 0<ls.getD 1 0)then ls.getD 2 0 else ls.getD 3 0)
  unfold ku at a b⊢
  simp only
  cases decide (ls.getD 0 0<ls.getD 1 0)<;>simp only[cond_true,cond_false]<;>omega
theorem pL{p:aD}{fd:List bh}{f:ee}(bf:uW p fd f):∀x:aR,ff p f.lets.length x->∀s,hq p fd x=some s->ku s (eY p f x):=aR.ind fun x aJ Y s h=>by
 cases Y with
 |mk Y Z=>
  rw[yL]at h
  cases aw:lG p fd x.l with
  |none=>rw[aw]at h;cases h
  |some uX=>
   rw[aw]at h
   rw[y4]
   refine adH bf Y (CY _ _ _) (fun i hi=>?_) h
   rw[rQ _ _ hi]
   exact aJ _ (dJ hi) (Z _ (dJ hi)) _ (Cs aw i hi)
theorem adI{p:aD}{fd vW:List bh}{m:Nat}(he:∀j,j<m->fd.getD j default=vW.getD j default){x:aR}(Y:n8 p m x)(ls:List bh):j7 p fd x ls=j7 p vW x ls:=by
 rcases Y.cases with K|K|K|K|K|K|K|K|K|K|K|K|K|K|K|K|K|K<;>(unfold j7;rw[K])
 all_goals first|rfl|skip
 have:=Y.lt K
 show some (fd.getD x.index.toNat default)=some (vW.getD x.index.toNat default)
 rw[he _ (by omega)]
theorem Tb{p:aD}{fd vW:List bh}:∀{l:List aR},(∀y∈l,hq p fd y=hq p vW y)->lG p fd l=lG p vW l
 |[],_=>rfl
 |y::r,h=>by simp only[lG];rw[h y (by simp),Tb fun z bd=>h z (by simp[bd])]
theorem Tc{p:aD}{fd vW:List bh}{m:Nat}(he:∀j,j<m->fd.getD j default=vW.getD j default):∀x:aR,ff p m x->hq p fd x=hq p vW x:=aR.ind fun x aJ Y=>by
 cases Y with
 |mk Y Z=>
  rw[yL,yL,Tb fun y ak=>aJ y ak (Z y ak)]
  cases lG p vW x.l with
  |none=>rfl
  |some ls=>exact adI he Y ls
theorem vX{α:Type}{l:List α}{d y:α}{i:Nat}(h:i<l.length):(l++[y]).getD i d=l.getD i d:=by
 simp[cN,pf h]
theorem Md{α:Type}{l:List α}{d y:α}:(l++[y]).getD l.length d=y:=by
 simp[cN]
theorem Me{α:Type}{l:List α}{d y:α}{i:Nat}(h:l.length=i):(l++[y]).getD i d=y:=by subst h;exact Md
theorem Td{p:aD}(Z:nk p):∀{n:Nat} {fd:List bh},n<=p.ah.length->oN p n=some fd->∀i,i<n->hq p fd (p.ah.getD i default).x=some (fd.getD i default)/\uJ (fd.getD i default) (lH p (p.ah.getD i default))=true
 |0,fd,_,_,i,hi=>by omega
 |n+1,fd,af,h,i,hi=>by
  simp only[oN]at h
  cases J:oN p n with
  |none=>rw[J]at h;cases h
  |some f=>
   rw[J]at h;simp only at h
   have hlen:=Ct J
   cases W:hq p f (p.ah.getD n default).x with
   |none=>rw[W]at h;cases h
   |some s=>
    rw[W]at h;simp only at h
    cases ae:uJ s (lH p (p.ah.getD n default))with
    |false=>rw[ae]at h;cases h
    |true=>
     rw[ae]at h;injection h with h;subst h
     rcases nj (qW hi)with aG|rfl
     ·obtain⟨aH,aV⟩:=Td Z (by omega) J i aG
      rw[vX (by omega)]
      exact⟨by rw[<-aH];exact(Tc (m:=i) (fun j az=>(vX (by omega)).symm) _ (Z.lZ i (by omega))).symm,aV⟩
     ·subst hlen
      rw[Md]
      exact⟨by rw[<-W];exact(Tc (m:=f.length) (fun j az=>(vX az).symm) _ (Z.lZ _ (by omega))).symm,ae⟩
abbrev b9(p:aD)(i:Nat):eM:=p.ah.getD i default
def rR(p:aD)(f:ee)(i:Nat):ee:={f with lets:=f.lets++[eY p f (b9 p i).x],bV:=bif decide ((b9 p i).kind=2)then f.bV.set (b9 p i).index.toNat (eY p f (b9 p i).x)else f.bV}
def bL(p:aD)(f:ee):Nat->ee
 |0=>f
 |n+1=>rR p (bL p f n) n
def l0(p:aD)(lets:List Int):Nat->Int
 |0=>0
 |n+1=>bif decide ((b9 p n).kind=4)then lets.getD n 0 else l0 p lets n
def mm(p:aD)(lets:List Int)(ls:List (List Int)):Nat->List (List Int)
 |0=>ls
 |n+1=>bif decide ((b9 p n).kind=3)then(mm p lets ls n).set (b9 p n).index.toNat (lets.getD n 0::((mm p lets ls n).getD (b9 p n).index.toNat []).dropLast)else mm p lets ls n
abbrev b0(bj ay ax:List Int)(s:fa):ee:=⟨bj,ay,ax,s.bV,s.bF,[]⟩
abbrev AW(p:aD)(bj ay ax:List Int)(s:fa):ee:=bL p (b0 bj ay ax s) p.ah.length
def xC(p:aD)(bj ay ax:List Int)(s:fa):Int×fa:=
 (l0 p (AW p bj ay ax s).lets p.ah.length,⟨(AW p bj ay ax s).bV,mm p (AW p bj ay ax s).lets s.bF p.ah.length⟩)
structure kx(p:aD)(s:fa):Prop where
 lj:s.bV.length=p.bt.length
 gH:s.bF.length=p.a1.length
 val:∀i,i<p.bt.length->(p.bt.getD i default).lo<=s.bV.getD i 0/\s.bV.getD i 0<=(p.bt.getD i default).hi
 lK:∀i,i<p.a1.length->((s.bF.getD i []).length:Int)=(p.a1.getD i default).size
 lY:∀i,i<p.a1.length->∀x∈s.bF.getD i [],x=0\/((p.a1.getD i default).lo<=x/\x<=(p.a1.getD i default).hi)
structure qX(p:aD)(bj ay ax:List Int):Prop where
 nf:bj.length=p.params.length
 Mf:(ay.length:Int)=p.cR+1
 CZ:(ax.length:Int)=p.cR+1
 bj:∀i,i<p.params.length->(p.params.getD i default).lo<=bj.getD i 0/\bj.getD i 0<=(p.params.getD i default).hi
 ay:∀x∈ay,-2147483648<=x/\x<=2147483647
 ax:∀x∈ax,-2147483648<=x/\x<=2147483647
theorem Mg{α:Type}{P:α->Prop}{l:List α}{d:α}(aq:P d)(h:∀x∈l,P x)(j:Nat):P (l.getD j d):=by
 by_cases az:j<l.length
 ·rw[cN,dx az];exact h _ (List.getElem_mem az)
 ·rw[cN,List.getElem?_eq_none (by omega)];exact aq
theorem Mh{p:aD}{fd:List bh}(Z:sw p){bj ay ax:List Int}{s:fa}(aC:qX p bj ay ax)(an:kx p s):uW p fd (b0 bj ay ax s):=
 ⟨Z,aC.bj,an.val,fun i hi j=>Mg (P:=fun x=>min (p.a1.getD i default).lo 0<=x/\x<=max (p.a1.getD i default).hi 0) (d:=0) (by omega) (fun x Y=>by have:=an.lY i hi x Y;omega) j,
  Mg (P:=fun x=>-2147483648<=x/\x<=2147483647) (by decide) aC.ay,Mg (P:=fun x=>-2147483648<=x/\x<=2147483647) (by decide) aC.ax,fun i hi=>by simp at hi⟩
theorem oj{α:Type}{l:List α}{i j:Nat}{x d:α}:(l.set i x).getD j d=if i=j/\i<l.length then x else l.getD j d:=by
 simp only[cN,List.getElem?_set]
 by_cases h:i=j
 ·subst h
  by_cases W:i<l.length
  ·simp[W]
  ·simp[W,List.getElem?_eq_none (Nat.le_of_not_lt W)]
 ·simp[h]
structure sH(p:aD)(fd:List bh):Prop where
 wf:nk p
 st:uK p=some fd
theorem sH.bS{p:aD}{fd:List bh}(h:sH p fd){i:Nat}(hi:i<p.ah.length):hq p fd (b9 p i).x=some (fd.getD i default)/\uJ (fd.getD i default) (lH p (b9 p i))=true:=Td h.wf (Nat.le_refl _) h.st i hi
theorem sH.len{p:aD}{fd:List bh}(h:sH p fd):fd.length=p.ah.length:=Ct h.st
theorem sH.val{p:aD}{fd:List bh}(h:sH p fd){f:ee}(bf:uW p fd f){i:Nat}(hi:i<p.ah.length)(aa:f.lets.length=i):ku (fd.getD i default) (eY p f (b9 p i).x)/\ku (lH p (b9 p i)) (eY p f (b9 p i).x):=by
 obtain⟨J,W⟩:=h.bS hi
 have:=pL bf _ (by rw[aa];exact h.wf.lZ i hi) _ J
 have:=Z7.1 W
 exact⟨by assumption,by omega,by omega⟩
theorem adJ{p:aD}{fd:List bh}(h:sH p fd){f:ee}(bf:uW p fd f){i:Nat}(hi:i<p.ah.length)(aa:f.lets.length=i):uW p fd (rR p f i):=by
 obtain⟨J,W⟩:=h.val bf hi aa
 refine⟨bf.oO,bf.bj,fun j az=>?_,bf.lY,bf.ay,bf.ax,fun j az=>?_⟩
 ·show(p.bt.getD j default).lo<=(bif decide ((b9 p i).kind=2)then f.bV.set (b9 p i).index.toNat (eY p f (b9 p i).x)else f.bV).getD j 0/\_
  cases K:decide ((b9 p i).kind=2)with
  |false=>simp only[cond_false];have:=bf.nG j az;simp only[rR,K,cond_false];exact this
  |true=>
   simp only[rR,K,cond_true]
   rw[oj]
   split
   ·rename_i e
    obtain⟨rfl,_⟩:=e
    unfold lH at W
    rw[K,cond_true]at W
    exact W
   ·exact bf.nG j az
 ·simp only[rR]at az⊢
  simp only[ef,np]at az
  rcases nj (qW az)with aG|rfl
  ·rw[vX aG];exact bf.lets j aG
  ·rw[Md,aa];exact J
theorem vY(p:aD)(f:ee):∀n,(bL p f n).lets.length=f.lets.length+n
 |0=>rfl
 |n+1=>by simp only[bL,rR,ef,np,vY p f n];omega
theorem vZ(p:aD)(f:ee):∀n,(bL p f n).bF=f.bF
 |0=>rfl
 |n+1=>vZ p f n
theorem FG(p:aD)(f:ee):∀n,(bL p f n).bj=f.bj
 |0=>rfl
 |n+1=>FG p f n
theorem FH(p:aD)(f:ee):∀n,(bL p f n).ay=f.ay
 |0=>rfl
 |n+1=>FH p f n
theorem FI(p:aD)(f:ee):∀n,(bL p f n).ax=f.ax
 |0=>rfl
 |n+1=>FI p f n
theorem AX(p:aD)(f:ee):∀n,(bL p f n).bV.length=f.bV.length
 |0=>rfl
 |n+1=>by
  simp only[bL,rR]
  cases decide ((b9 p n).kind=2)
  ·exact AX p f n
  ·simp only[cond_true,nH];exact AX p f n
theorem FJ{p:aD}{fd:List bh}(h:sH p fd){f:ee}(bf:uW p fd f)(bb:f.lets=[]):∀n,n<=p.ah.length->uW p fd (bL p f n)
 |0,_=>bf
 |n+1,af=>adJ h (FJ h bf bb n (by omega)) (by omega) (by rw[vY,bb];simp)
theorem C0(p:aD)(f:ee)(bb:f.lets=[]){i:Nat}:∀n,i<n->(bL p f n).lets.getD i 0=eY p (bL p f i) (b9 p i).x
 |n+1,hi=>by
  have hlen:=vY p f n
  rw[bb]at hlen
  simp only[bL,rR]
  rcases nj (qW hi)with aG|rfl
  ·rw[vX (by simp at hlen;omega)];exact C0 p f bb n aG
  ·exact Me (by simp at hlen;omega)
theorem adK{p:aD}{fd:List bh}(h:sH p fd){f:ee}(bf:uW p fd f)(bb:f.lets=[]){i:Nat}(hi:i<p.ah.length):ku (lH p (b9 p i)) ((bL p f p.ah.length).lets.getD i 0):=by
 rw[C0 p f bb _ hi]
 exact(h.val (FJ h bf bb i (by omega)) hi (by rw[vY,bb];simp)).2
theorem Te{p:aD}{lets:List Int}{s:fa}(an:kx p s)(cj:∀i,i<p.a1.length->1<=(p.a1.getD i default).size)(ae:∀i,i<p.ah.length->ku (lH p (b9 p i)) (lets.getD i 0)):∀n,n<=p.ah.length->kx p ⟨s.bV,mm p lets s.bF n⟩
 |0,_=>an
 |n+1,af=>by
  have aJ:=Te an cj ae n (by omega)
  unfold mm
  cases K:decide ((b9 p n).kind=3)with
  |false=>exact aJ
  |true=>
   rw[cond_true]
   have W:=ae n (by omega)
   have rN:=cJ K
   unfold lH at W
   rw[show decide ((b9 p n).kind=2)=false by rw[rN];rfl,cond_false,K,cond_true]at W
   refine⟨aJ.lj,by simp only[nH];exact aJ.gH,aJ.val,fun i hi=>?_,fun i hi x Y=>?_⟩
   ·show(((_:List (List Int)).getD i []).length:Int)=_
    rw[oj]
    split
    ·rename_i e
     have:=aJ.lK _ (e.1▸hi)
     have J:=cj i hi
     rw[<-e.1]
     simp only[ek,List.length_dropLast]
     simp only at this
     rw[e.1]at this⊢
     omega
    ·exact aJ.lK i hi
   ·rw[oj]at Y
    split at Y
    ·rename_i e
     rw[<-e.1]
     rcases eb.1 Y with rfl|Y
     ·exact .inr W
     ·exact aJ.lY _ (e.1▸hi) x (List.dropLast_subset _ Y)
    ·exact aJ.lY i hi x Y
theorem adL{p:aD}{fd:List bh}(h:sH p fd)(cj:∀i,i<p.a1.length->1<=(p.a1.getD i default).size){bj ay ax:List Int}{s:fa}(aC:qX p bj ay ax)(an:kx p s):kx p (xC p bj ay ax s).2:=by
 have bb:=Mh (fd:=fd) h.wf.oO aC an
 have J:=Te (lets:=(AW p bj ay ax s).lets) an cj (fun i hi=>adK h bb D hi) p.ah.length (Nat.le_refl _)
 have W:=FJ h bb D p.ah.length (Nat.le_refl _)
 exact⟨by show(bL p _ _).bV.length=_;rw[AX];exact an.lj,J.gH,W.nG,J.lK,J.lY⟩
structure AY(p:aD)(x:aR):Prop where
 lt:x.kind=5->(b9 p x.index.toNat).kind=1
 y5:6<=x.kind->x.kind≠8->x.kind≠9->x.index=0
 n:x.kind≠1->x.kind≠18->x.n=0
inductive kW(p:aD)(fd:List bh)(m:Nat):aR->Prop
 |mk {x:aR} (h:n8 p m x) (W:AY p x) (an:∃s,hq p fd x=some s) (aC:uT x.kind=true->∃s,hq p fd (x.l.getD 0 default)=some s/\0<=s.1/\s.2<=p.cR) (aa:∀y∈x.l,kW p fd m y):kW p fd m x
theorem Mi{p:aD}:∀{l:List aR} {a b:Int},(∀y∈l,∀a b,oY p y a=some b->a<=b)->tG p l a=some b->a<=b/\∀y∈l,∃gL qY,oY p y gL=some qY/\qY<=b
 |[],a,b,_,h=>by simp only[tG,en]at h;subst h;exact⟨Int.le_refl _,fun y ak=>by cases ak⟩
 |y::r,a,b,aJ,h=>by
  simp only[tG]at h
  cases J:oY p y a with
  |none=>rw[J]at h;cases h
  |some c=>
   rw[J]at h
   obtain⟨W,aH⟩:=Mi (fun z bd=>aJ z (by simp[bd])) h
   have aV:=aJ y (by simp) _ _ J
   refine⟨by omega,fun z bd=>?_⟩
   rcases eb.1 bd with rfl|bd
   ·exact⟨_,_,J,W⟩
   ·exact aH z bd
theorem Tf{p:aD}:∀x:aR,∀a b,oY p x a=some b->a<=b:=aR.ind fun x aJ a b h=>by
 rw[Fw]at h
 cases J:sG p a x with
 |none=>rw[J]at h;cases h
 |some c=>
  rw[J]at h
  have W:=(Mi aJ h).1
  unfold sG at J
  cases aa:uT x.kind with
  |false=>rw[aa]at J;injection J with J;omega
  |true=>
   rw[aa,cond_true]at J
   cases aK:sF p (x.l.getD 0 default)with
   |none=>rw[aK]at J;cases J
   |some s=>rw[aK]at J;injection J with J;have J:max a s.2=c:=J;omega
theorem adM{p:aD}{x:aR}{a b:Int}(h:oY p x a=some b):(uT x.kind=true->∃s,sF p (x.l.getD 0 default)=some s/\s.2<=b)/\∀y∈x.l,∃gL qY,oY p y gL=some qY/\qY<=b:=by
 rw[Fw]at h
 cases J:sG p a x with
 |none=>rw[J]at h;cases h
 |some c=>
  rw[J]at h
  obtain⟨W,aH⟩:=Mi (fun y _=>Tf y) h
  refine⟨fun aa=>?_,aH⟩
  unfold sG at J
  rw[aa,cond_true]at J
  cases aK:sF p (x.l.getD 0 default)with
  |none=>rw[aK]at J;cases J
  |some s=>rw[aK]at J;injection J with J;have J:max a s.2=c:=J;exact⟨s,rfl,by omega⟩
theorem Tg{p:aD}:∀{n:Nat} {b:Int},tH p n=some b->0<=b/\∀i,i<n->∃gL qY,oY p (b9 p i).x gL=some qY/\qY<=b
 |0,b,h=>by injection h with h;subst h;exact⟨Int.le_refl _,fun i hi=>by omega⟩
 |n+1,b,h=>by
  simp only[tH]at h
  cases J:tH p n with
  |none=>rw[J]at h;cases h
  |some c=>
   rw[J]at h
   obtain⟨bb,W⟩:=Tg J
   have aH:=Tf _ _ _ h
   refine⟨by omega,fun i hi=>?_⟩
   rcases nj (qW hi)with aG|rfl
   ·obtain⟨gL,qY,aV,db⟩:=W i aG;exact⟨gL,qY,aV,by omega⟩
   ·exact⟨_,_,h,Int.le_refl _⟩
inductive AZ(p:aD):aR->Prop
 |mk {x:aR} (h:AY p x) (aa:∀y∈x.l,AZ p y):AZ p x
theorem adN{p:aD}{i:Nat}:∀x:aR,n4 tt x=true->kp (gV p) i x=some x->AZ p x:=aR.ind fun x aJ bf aK=>by
 rw[EV,eL,EW,eZ]at bf
 rw[AB]at aK
 cases aW:nh (gV p) i x.kind x.name with
 |none=>rw[aW]at aK;cases aK
 |some h=>
  cases aa:ni (gV p) i x.l with
  |none=>rw[aW,aa]at aK;cases aK
  |some z=>
   rw[aW,aa]at aK
   simp only[en]at aK
   have bd:z=x.l:=congrArg aR.l aK
   have x6:h.1=x.kind:=congrArg aR.kind aK
   have jM:h.2=x.index:=congrArg aR.index aK
   subst bd
   obtain⟨J,W⟩:=iX bf.1
   have iv:n3 x.kind=true->∃t,(x.name,t)∈gV p/\t.kind=x.kind/\t.index=x.index:=fun ae=>by
    unfold nh at aW
    rw[ae,cond_true]at aW
    cases aM:cb (gV p) x.name with
    |none=>rw[aM]at aW;cases aW
    |some t=>
     rw[aM]at aW
     simp only at aW
     cases uR:Cm true i t x.kind with
     |false=>rw[uR]at aW;cases aW
     |true=>rw[uR]at aW;injection aW with aW;exact⟨t,Fq aM,by rw[<-x6,<-aW],by rw[<-jM,<-aW]⟩
   refine .mk ⟨fun K=>?_,fun fc h9 nx=>?_,fun J Mj=>?_⟩ fun y ak=>?_
   ·obtain⟨t,aT,aX,bu⟩:=iv (by rw[K];rfl)
    have:=xy aT
    rw[<-bu]
    show(p.ah.getD t.index.toNat default).kind=1
    omega
   ·have ae:n3 x.kind=false:=by
     unfold n3 xc Ax
     have lg:decide (x.kind=1)=false:=hG (by omega)
     rw[lg]
     have a3:¬x.kind=3:=by omega
     have a4:¬x.kind=4:=by omega
     have a5:¬x.kind=5:=by omega
     have a2:¬x.kind=2:=by omega
     simp[a2,a3,a4,a5,h9,nx]
    unfold nh at aW
    rw[ae,cond_false]at aW
    injection aW with aW
    rw[<-jM,<-aW]
   ·rw[show decide (x.kind=1)=false from hG J,show decide (x.kind=18)=false from hG Mj]at W
    exact cJ W
   ·obtain⟨j,az,rfl⟩:=List.getElem_of_mem ak
    have aM:x.l.getD j default=x.l[j]:=by rw[cN,dx az];rfl
    have pI:=H5 aa j az
    rw[aM]at pI
    exact aJ _ ak (bf.2 _ ak) pI
theorem Th{p:aD}(h:hZ p=some p){i:Nat}(hi:i<p.ah.length):AZ p (b9 p i).x:=by
 obtain⟨bf,aa,aq,aE,gP,aT⟩:=y2 h
 obtain⟨gP,x,r,_,bu,dV,iw⟩:=CL aT i hi
 simp only at iw
 have Y:(p.ah.getD i default).x=x:=by rw[iw]
 have J:=oV bf hi
 simp only[eL]at J
 exact adN _ J.2 (by show kp (gV p) i (p.ah.getD i default).x=some (p.ah.getD i default).x;rw[Y];rw[<-Y];rw[Y]at bu⊢;exact bu)
structure qi(p:aD)(fd:List bh):Prop where
 ok:p.b5
 res:hZ p=some p
 Ti:nq p=some fd
 n2:∃n,tH p p.ah.length=some n/\n<=p.cR
theorem qi.pL{p:aD}{fd:List bh}(h:qi p fd):sH p fd:=⟨H7 h.ok h.res,(Fv h.Ti).2⟩
theorem adO{p:aD}{fd:List bh}(h:nq p=some fd){x:aR}{s:bh}(aK:sF p x=some s):hq p fd x=some s:=by
 unfold sF at aK
 rw[h]at aK
 simp only at aK
 cases ae:(kL p x 512).2 with
 |true=>rw[ae]at aK;exact aK
 |false=>rw[ae]at aK;cases aK
theorem adP{p:aD}{fd:List bh}(hw:nq p=some fd){m:Nat}:∀x:aR,ff p m x->AZ p x->(∃s,hq p fd x=some s)->(∃a b,oY p x a=some b/\b<=p.cR)->kW p fd m x:=aR.ind fun x aJ bf rA an aa=>by
 cases bf with
 |mk J adQ=>
  cases rA with
  |mk W xD=>
   obtain⟨s,an⟩:=an
   obtain⟨a,b,aa,ae⟩:=aa
   obtain⟨fy,e7⟩:=adM aa
   have A0:=an
   rw[yL]at an
   cases aw:lG p fd x.l with
   |none=>rw[aw]at an;cases an
   |some uX=>
    rw[aw]at an
    refine .mk J W ⟨s,A0⟩ (fun K=>?_) fun y ak=>?_
    ·obtain⟨t,aT,LL⟩:=fy K
     have aT:=adO hw aT
     refine⟨t,aT,?_,by omega⟩
     have hlen:=J.len
     have cS:x.kind=6\/x.kind=7:=by
      unfold uT at K
      by_cases fc:x.kind=6
      ·exact .inl fc
      ·by_cases gE:x.kind=7
       ·exact .inr gE
       ·simp[fc,gE]at K
     have iF:(x.l.length:Int)=1:=by rcases cS with K|K<;>rw[K]at hlen<;>exact hlen
     have bb:=Cs aw 0 (by omega)
     rw[aT]at bb
     injection bb with bb
     have aC:rG t=some s:=by rcases cS with K|K<;>(unfold j7 at an;rw[K]at an;change rG (uX.getD 0 default)=some s at an;rw[bb];exact an)
     exact(Mc aC).2
    ·obtain⟨j,az,rfl⟩:=H8 ak
     refine aJ _ ak (adQ _ ak) (xD _ ak) ⟨_,Cs aw j az⟩ ?_
     obtain⟨gL,qY,aH,aV⟩:=e7 _ ak
     exact⟨gL,qY,aH,by omega⟩
theorem qi.Mk{p:aD}{fd:List bh}(h:qi p fd){i:Nat}(hi:i<p.ah.length):kW p fd i (b9 p i).x:=by
 obtain⟨n,af,aa⟩:=h.n2
 obtain⟨_,aM⟩:=Tg af
 obtain⟨a,b,J,W⟩:=aM i hi
 exact adP h.Ti _ (h.pL.wf.lZ i hi) (Th h.res hi) ⟨_,(h.pL.bS hi).1⟩ ⟨a,b,J,by omega⟩
theorem kW.ao{p:aD}{fd:List bh}{m:Nat}{x:aR}(h:kW p fd m x):n8 p m x:=by cases h;assumption
theorem kW.lZ{p:aD}{fd:List bh}{m:Nat}:∀x:aR,kW p fd m x->ff p m x:=aR.ind fun x aJ h=>by
 cases h with
 |mk h _ _ _ aa=>exact .mk h fun y ak=>aJ y ak (aa y ak)
theorem kW.part{p:aD}{fd:List bh}{m:Nat}{x:aR}(h:kW p fd m x){y:aR}(ak:y∈x.l):kW p fd m y:=by
 cases h with
 |mk _ _ _ _ aa=>exact aa y ak
theorem kW.y6{p:aD}{fd:List bh}{f:ee}(bf:uW p fd f)(aq:∀i,i<fd.length->hX (fd.getD i default))(aw:f.lets.length<=fd.length){x:aR}(h:kW p fd f.lets.length x):dw (eY p f x):=by
 have bb:=h
 cases bb with
 |mk J W an _ _=>
  obtain⟨s,an⟩:=an
  have aH:=Lq bf.oO aq (ff.up aw (kW.lZ x h)) s an
  have aV:=Go.Proofs.YtfgcfofjjiinjaaGreatDoor.pL bf x (kW.lZ x h) s an
  exact⟨by have:=aH.1.1;have:=aV.1;omega,by have:=aH.2.2;have:=aV.2;omega⟩
section
abbrev dC:=List (Int×Int)
abbrev kd:=Int->dC×Int
def iq(l:List Int):Nat->Int×Int
 |0=>(0,0)
 |n+1=>bif decide ((iq l n).1<l.getD n 0)then(l.getD n 0,(n:Int))else iq l n
def bT(l:List Int):Int×Int:=iq l l.length
def qZ(l:List Int)(n:Int):Nat->Int
 |0=>n
 |i+1=>max (qZ l n i) (l.getD i 0+i)
def q0(l:List Int):Int:=bif decide (l.length=0)then 1 else bif decide (l.length=1)then(bT l).1 else bif decide (l.length=2)then max (bT l).1 (l.getD (1-(bT l).2).toNat 0+1)else qZ (l.set (bT l).2.toNat 1) (bT l).1 l.length
mutual
def eF:aR->Int
 | .mk _ _ _ _ l=>q0 (bn l)
def bn:List aR->List Int
 |[]=>[]
 |x::r=>eF x::bn r
end
def pM(op a:Int):kd:=fun r=>([(op,a)],r)
def jU(op a:Int)(c:kd):kd:=fun r=>((c r).1++[(op,a)],(c r).2)
def jV(op:Int)(c d:kd):kd:=fun r=>((c r).1++(d (c r).2).1++[(op,0)],(d (c r).2).2)
def ew(ps:List kd)(k r0:Int)(r:Int):Nat->dC×Int
 |0=>([],r)
 |n+1=>bif decide ((n:Int)=k)then((ew ps k r0 r n).1++[(4,r0)],(ew ps k r0 r n).2)else((ew ps k r0 r n).1++(ps.getD n default (ew ps k r0 r n).2).1,(ps.getD n default (ew ps k r0 r n).2).2)
def xE(ps:List kd)(k:Int):kd:=fun r=>
 ((ps.getD k.toNat default (r+1)).1++[(5,r)]++(ew ps k r (ps.getD k.toNat default (r+1)).2 4).1++[(21,0)],(ew ps k r (ps.getD k.toNat default (r+1)).2 4).2)
def mn(rg:List (Int×Int))(x:aR)(hH:List Int)(ps:List kd):kd:=match x.kind.toNat with
 |1=>pM 1 x.n
 |3=>pM 2 x.index
 |4=>pM 3 x.index
 |5=>pM 4 ((cb rg x.index).getD 0)
 |6=>jU 8 (x.index+x.n) (ps.getD 0 default)
 |7=>jU 9 (x.index+x.n) (ps.getD 0 default)
 |8=>jU 10 (x.index+x.n) (ps.getD 0 default)
 |9=>jU 11 (x.index+x.n) (ps.getD 0 default)
 |10=>jU 12 (x.index+x.n) (ps.getD 0 default)
 |11=>jV 13 (ps.getD (bT hH).2.toNat default) (ps.getD (1-(bT hH).2).toNat default)
 |12=>jV 14 (ps.getD (bT hH).2.toNat default) (ps.getD (1-(bT hH).2).toNat default)
 |13=>jU 15 (x.index+x.n) (ps.getD 0 default)
 |14=>jU 16 (x.index+x.n) (ps.getD 0 default)
 |15=>jV 17 (ps.getD (bT hH).2.toNat default) (ps.getD (1-(bT hH).2).toNat default)
 |16=>bif decide (hH.getD 1 0<=hH.getD 0 0)then jV 18 (ps.getD 0 default) (ps.getD 1 default)else jV 17 (jU 16 0 (ps.getD 1 default)) (ps.getD 0 default)
 |17=>jV 19 (ps.getD (bT hH).2.toNat default) (ps.getD (1-(bT hH).2).toNat default)
 |18=>jU 20 (x.index+x.n) (ps.getD 0 default)
 |19=>xE ps (bT hH).2
 |_=>fun r=>([],r)
mutual
def bP(rg:List (Int×Int)):aR->kd
 | .mk k s i n l=>mn rg (.mk k s i n l) (bn l) (fo rg l)
def fo(rg:List (Int×Int)):List aR->List kd
 |[]=>[]
 |x::r=>bP rg x::fo rg r
end
theorem nr(rg:List (Int×Int))(x:aR):bP rg x=mn rg x (bn x.l) (fo rg x.l):=by cases x;rw[bP];rfl
theorem Tj(rg:List (Int×Int)):∀l,fo rg l=l.map (bP rg)
 |[]=>rfl
 |x::r=>by simp only[fo,Tj rg r,List.map_cons]
theorem kX(rg:List (Int×Int)){l:List aR}{i:Nat}(h:i<l.length):(fo rg l).getD i default=bP rg (l.getD i default):=by
 rw[Tj];simp[cN,h]
theorem xF(x:aR):eF x=q0 (bn x.l):=by cases x;rw[eF];rfl
theorem Ml:∀l,bn l=l.map eF
 |[]=>rfl
 |x::r=>by simp only[bn,Ml r,List.map_cons]
theorem mS(l:List aR):(bn l).length=l.length:=by rw[Ml];simp
theorem xG{l:List aR}{i:Nat}(h:i<l.length):(bn l).getD i 0=eF (l.getD i default):=by
 rw[Ml];simp[cN,h]
theorem y7(l:List Int):∀n,0<=(iq l n).2/\(iq l n).2<=n/\(0<n->(iq l n).2<n)
 |0=>⟨Int.le_refl _,Int.le_refl _,fun h=>absurd h (by omega)⟩
 |n+1=>by
  obtain⟨J,W,aH⟩:=y7 l n
  unfold iq
  cases decide ((iq l n).1<l.getD n 0)with
  |true=>simp only[cond_true];omega
  |false=>simp only[cond_false];exact⟨J,by omega,fun _=>by omega⟩
structure C1 where
 c:dC
 r:Int
 rg:List (Int×Int)
def pN(p:aD)(q:C1)(i:Nat):C1:=
 let a:=bP q.rg (b9 p i).x q.r
 match(b9 p i).kind.toNat with
 |1=>⟨q.c++a.1++[(5,a.2)],a.2+1,dM q.rg i a.2⟩
 |2=>⟨q.c++a.1++[(6,(b9 p i).index)],a.2,q.rg⟩
 |3=>⟨q.c++a.1++[(7,(b9 p i).index)],a.2,q.rg⟩
 |4=>⟨q.c++a.1++[(22,0)],a.2,q.rg⟩
 |_=>⟨q.c++a.1,a.2,q.rg⟩
def bN(p:aD):Nat->C1
 |0=>⟨[],0,[]⟩
 |n+1=>pN p (bN p n) n
structure lL where
 bO:List Int
 iH:List Int
 bV:List Int
 gW:List (Int×Int)
 bQ:Int
structure gw where
 bj:List Int
 ay:List Int
 ax:List Int
 bF:List (List Int)
def gX(v:Int):Int:=fu v (-4611686018427387904) 4611686018427387904
def gf(s:List Int)(m:lL)(v:Int):lL:={m with bO:=gX v::s}
def mo(a b:Int):Int:=bif(bif(bif decide (0<a)then decide (0<b)else false)then decide (eI (a+b)<0)else false)then 4611686018427387904 else bif(bif(bif decide (a<0)then decide (b<0)else false)then decide (0<=eI (a+b))else false)then-4611686018427387904 else eI (a+b)
def o1(a b:Int):Int:=bif(bif decide (a=0)then true else decide (b=0))then 0 else bif(bif decide (eI ((eI (a*b)).tdiv b)=a)then decide (gX (eI (a*b))=eI (a*b))else false)then eI (a*b)else bif decide (decide (a<0)=decide (b<0))then 4611686018427387904 else-4611686018427387904
def tJ(a b:Int):Int:=bif decide (a<eI (eI (a.tdiv b)*b))then eI (eI (a.tdiv b)-1)else eI (a.tdiv b)
def o2(p:aD)(e:gw)(m:lL)(i:Int×Int):lL:=
 let a:=i.2
 let v:=m.bO.getD 0 0
 let w:=m.bO.getD 1 0
 match i.1.toNat with
 |1=>gf m.bO m a
 |2=>gf m.bO m (e.bj.getD a.toNat 0)
 |3=>gf m.bO m (m.bV.getD a.toNat 0)
 |4=>gf m.bO m (m.iH.getD a.toNat 0)
 |5=>{m with bO:=m.bO.drop 1,iH:=m.iH.set a.toNat v}
 |6=>{m with bO:=m.bO.drop 1,bV:=m.bV.set a.toNat (fu v (p.bt.getD a.toNat default).lo (p.bt.getD a.toNat default).hi)}
 |7=>{m with bO:=m.bO.drop 1,gW:=dM m.gW a (fu v (p.a1.getD a.toNat default).lo (p.a1.getD a.toNat default).hi)}
 |8=>gf (m.bO.drop 1) m (e.ay.getD (fu v 0 p.cR).toNat 0)
 |9=>gf (m.bO.drop 1) m (e.ax.getD (fu v 0 p.cR).toNat 0)
 |10=>gf (m.bO.drop 1) m ((e.bF.getD a.toNat []).getD (fu v 0 ((p.a1.getD a.toNat default).size-1)).toNat 0)
 |11=>gf (m.bO.drop 1) m ((p.bM.getD a.toNat default).dU.getD (fu v 0 ((p.bM.getD a.toNat default).dU.length-1)).toNat 0)
 |12=>gf (m.bO.drop 1) m (j6 v)
 |13=>gf (m.bO.drop 2) m (min v w)
 |14=>gf (m.bO.drop 2) m (max v w)
 |15=>gf (m.bO.drop 1) m (max v (-v))
 |16=>gf (m.bO.drop 1) m (-v)
 |17=>gf (m.bO.drop 2) m (mo v w)
 |18=>gf (m.bO.drop 2) m (mo w (-v))
 |19=>gf (m.bO.drop 2) m (o1 v w)
 |20=>gf (m.bO.drop 1) m (tJ v a)
 |21=>gf (m.bO.drop 4) m (bif decide (m.bO.getD 3 0<m.bO.getD 2 0)then w else v)
 |22=>{m with bO:=m.bO.drop 1,bQ:=j6 v}
 |_=>m
def o3(p:aD)(e:gw)(m:lL)(c:dC):lL:=c.foldl (o2 p e) m
theorem rS(p:aD)(e:gw)(m:lL)(c d:dC):o3 p e m (c++d)=o3 p e (o3 p e m c) d:=List.foldl_append ..
theorem A1(p:aD)(e:gw)(m:lL)(i:Int×Int):o3 p e m [i]=o2 p e m i:=rfl
theorem Tk{v:Int}(h:dw v):gX v=v:=by unfold gX fu;have:=h.1;have:=h.2;omega
theorem Il{a b:Int}(h:dw (a+b)):mo a b=a+b:=by
 have J:=h.1;have W:=h.2
 have e:eI (a+b)=a+b:=nE h.i
 unfold mo
 rw[e]
 cases aH:(bif(bif decide (0<a)then decide (0<b)else false)then decide (a+b<0)else false)with
 |true=>
  exfalso
  cases aV:decide (0<a)<;>cases db:decide (0<b)<;>rw[aV,db]at aH<;>simp at aH aV db
  omega
 |false=>
  rw[cond_false]
  cases aH:(bif(bif decide (a<0)then decide (b<0)else false)then decide (0<=a+b)else false)with
  |true=>
   exfalso
   cases aV:decide (a<0)<;>cases db:decide (b<0)<;>rw[aV,db]at aH<;>simp at aH aV db
   omega
  |false=>rfl
theorem Tl{a b:Int}(aC:dw a)(h:dw (a*b)):o1 a b=a*b:=by
 unfold o1
 by_cases bb:a=0
 ·subst bb;simp
 by_cases J:b=0
 ·subst J;simp
 rw[show decide (a=0)=false from hG bb,show decide (b=0)=false from hG J,cond_false,cond_false,nE h.i,Int.mul_tdiv_cancel _ J,nE aC.i,Tk h]
 simp
theorem adR{a b:Int}(aC:dw a)(ae:0<b)(l9:b<=2147483648):tJ a b=a/b:=by
 have J:=aC.1;have W:=aC.2
 have aq:=yK aC ae
 have aw:=Int.mul_ediv_add_emod a b
 have nU:=Int.emod_nonneg a (show b≠0 by omega)
 have w0:=Int.emod_lt_of_pos a ae
 have zX:=aq.1;have zJ:=aq.2
 unfold tJ
 by_cases Z:0<=a
 ·rw[Ln Z,nE aq.i]
  have e:a/b*b=a-a%b:=by rw[Int.mul_comm];omega
  rw[e,nE ⟨by omega,by omega⟩,show decide (a<a-a%b)=false from hG (by omega),cond_false]
 ·have aT:a.tdiv b=-((-a)/b):=by
   rw[show a=-(-a) by omega,Int.neg_tdiv,Int.tdiv_eq_ediv_of_nonneg (by omega),Int.neg_neg]
  have lA:=yK (a:=-a) ⟨by omega,by omega⟩ ae
  have af:=Int.mul_ediv_add_emod (-a) b
  have nZ:=Int.emod_nonneg (-a) (show b≠0 by omega)
  have lV:=Int.emod_lt_of_pos (-a) ae
  have ajw:=lA.1;have ajx:=lA.2
  have e:-(-a/b)*b=a+(-a)%b:=by
   rw[Int.neg_mul,Int.mul_comm];omega
  have adS:eI (-(-a/b))=-(-a/b):=nE ⟨by omega,by omega⟩
  rw[aT,adS,e,nE ⟨by omega,by omega⟩]
  have key:a/b=if(-a)%b=0 then-(-a/b)else-(-a/b)-1:=by
   split
   ·rename_i bb
    rw[show a=(-(-a/b))*b by rw[e,bb];omega]
    rw[Int.mul_ediv_cancel _ (by omega)]
    rw[show-(-(-a/b)*b)=(-a/b)*b by rw[Int.neg_mul,Int.neg_neg],Int.mul_ediv_cancel _ (by omega)]
   ·rename_i bb
    have bu:(-(-a/b)-1)*b=a+(-a)%b-b:=by rw[Int.sub_mul,e];omega
    have:a=(b-(-a)%b)+(-(-a/b)-1)*b:=by rw[bu];omega
    rw[this,Int.add_mul_ediv_right _ _ (by omega),Int.ediv_eq_zero_of_lt (by omega) (by omega)]
    rw[<-this]
    omega
  rw[key]
  split
  ·rename_i bb
   rw[show decide (a<a+-a%b)=false from hG (by omega),cond_false]
  ·rw[show decide (a<a+-a%b)=true from gl (by omega),cond_true,nE ⟨by omega,by omega⟩]
section
variable (p:aD) (fd:List bh) (f:ee) (rg:List (Int×Int))
abbrev ee.qj(f:ee):gw:=⟨f.bj,f.ay,f.ax,f.bF⟩
def y8(r:Int)(g:List Int):Prop:=∀i:Nat,i<f.lets.length->(b9 p i).kind=1->0<=(cb rg (i:Int)).getD 0/\(cb rg (i:Int)).getD 0<r/\g.getD ((cb rg (i:Int)).getD 0).toNat 0=f.lets.getD i 0
def v7(r:Int)(g g':List Int):Prop:=g'.length=g.length/\∀j:Nat,(j:Int)<r->g'.getD j 0=g.getD j 0
def sI(c:kd)(v:Int):Prop:=(∀r,r<=(c r).2)/\∀r m,0<=r->(c r).2<=m.iH.length->m.bV=f.bV->y8 p f rg r m.iH->∃g,o3 p f.qj m (c r).1={m with bO:=v::m.bO,iH:=g}/\v7 r m.iH g
end
section
variable {p:aD} {fd:List bh} {f:ee} {rg:List (Int×Int)}
theorem v7.refl(r:Int)(g:List Int):v7 r g g:=⟨rfl,fun _ _=>rfl⟩
theorem v7.trans{r Al:Int}{g g' Tm:List Int}(h:v7 r g g')(h':v7 Al g' Tm)(aE:r<=Al):v7 r g Tm:=⟨h'.1.trans h.1,fun j az=>(h'.2 j (by omega)).trans (h.2 j az)⟩
theorem y8.up{r Al:Int}{g g':List Int}(h:y8 p f rg r g)(aC:v7 r g g')(aE:r<=Al):y8 p f rg Al g':=fun i hi K=>by
 obtain⟨J,W,aH⟩:=h i hi K
 exact⟨J,by omega,by rw[aC.2 _ (by omega)];exact aH⟩
theorem Im{op a v:Int}(h:∀r m,0<=r->m.bV=f.bV->y8 p f rg r m.iH->o2 p f.qj m (op,a)={m with bO:=v::m.bO}):sI p f rg (pM op a) v:=⟨fun r=>Int.le_refl _,fun r m bb _ aK aM=>⟨m.iH,by show o2 p f.qj m (op,a)=_;rw[h r m bb aK aM],.refl _ _⟩⟩
theorem xH{op a v sV:Int}{c:kd}(aj:sI p f rg c v)(h:∀m:lL,∀s,m.bO=v::s->o2 p f.qj m (op,a)={m with bO:=sV::s}):sI p f rg (jU op a c) sV:=⟨aj.1,fun r m bb aE aK aM=>by
 obtain⟨g,J,W⟩:=aj.2 r m bb aE aK aM
 refine⟨g,?_,W⟩
 show o3 p f.qj m ((c r).1++[(op,a)])=_
 rw[rS,J,A1,h _ _ rfl]⟩
theorem v8{op v w sV:Int}{c d:kd}(aj:sI p f rg c v)(aq:sI p f rg d w)(h:∀m:lL,∀s,m.bO=w::v::s->o2 p f.qj m (op,0)={m with bO:=sV::s}):sI p f rg (jV op c d) sV:=⟨fun r=>Int.le_trans (aj.1 r) (aq.1 _),fun r m bb aE aK aM=>by
 have aE:(d (c r).2).2<=m.iH.length:=aE
 have jX:=aq.1 (c r).2
 have Tn:=aj.1 r
 obtain⟨g,J,W⟩:=aj.2 r m bb (by omega) aK aM
 obtain⟨g',aH,aV⟩:=aq.2 (c r).2 {m with bO:=v::m.bO,iH:=g} (by omega) (by show _<=(g.length:Int);rw[W.1];exact aE) aK (aM.up W Tn)
 refine⟨g',?_,W.trans aV Tn⟩
 show o3 p f.qj m ((c r).1++(d (c r).2).1++[(op,0)])=_
 rw[rS,rS,J,aH,A1,h _ _ rfl]⟩
theorem lM{s:List Int}{m:lL}{v:Int}(h:dw v):gf s m v={m with bO:=v::s}:=by unfold gf;rw[Tk h]
theorem Io{ps:List kd}{vs:List Int}{k r0:Int}(fl:∀i,i<4->sI p f rg (ps.getD i default) (vs.getD i 0))(r:Int):∀n,n<=4->r<=(ew ps k r0 r n).2
 |0,_=>Int.le_refl _
 |n+1,af=>by
  have aJ:=Io (k:=k) (r0:=r0) fl r n (by omega)
  unfold ew
  cases decide ((n:Int)=k)with
  |true=>exact aJ
  |false=>exact Int.le_trans aJ ((fl n (by omega)).1 _)
theorem Mm{ps:List kd}{vs:List Int}{k r0:Int}(fl:∀i,i<4->sI p f rg (ps.getD i default) (vs.getD i 0))(hw:dw (vs.getD k.toNat 0)){r:Int}(bb:0<=r0)(jY:r0<r){m:lL}(aK:m.bV=f.bV)(aM:y8 p f rg r0 m.iH)(K:m.iH.getD r0.toNat 0=vs.getD k.toNat 0):
  ∀n,n<=4->(ew ps k r0 r n).2<=m.iH.length->∃g,o3 p f.qj m (ew ps k r0 r n).1={m with bO:=((List.range n).map fun i=>vs.getD i 0).reverse++m.bO,iH:=g}/\v7 r m.iH g
 |0,_,_=>⟨m.iH,rfl,.refl _ _⟩
 |n+1,af,aa=>by
  have A2:=Io (k:=k) (r0:=r0) fl r n (by omega)
  unfold ew at aa⊢
  have cy:((List.range (n+1)).map fun i=>vs.getD i 0).reverse=vs.getD n 0::((List.range n).map fun i=>vs.getD i 0).reverse:=by rw[List.range_succ];simp
  rw[cy]
  cases ae:decide ((n:Int)=k)with
  |true=>
   rw[ae,cond_true]at aa
   obtain⟨g,J,W⟩:=Mm fl hw bb jY aK aM K n (by omega) aa
   have e:=cJ ae
   refine⟨g,?_,W⟩
   rw[cond_true,rS,J,A1]
   show gf _ _ (g.getD r0.toNat 0)=_
   rw[W.2 _ (by omega),K,lM hw,<-e]
   rfl
  |false=>
   rw[ae,cond_false]at aa
   have bA:=(fl n (by omega)).1 (ew ps k r0 r n).2
   have e4:(ps.getD n default (ew ps k r0 r n).2).2<=m.iH.length:=aa
   obtain⟨g,J,W⟩:=Mm fl hw bb jY aK aM K n (by omega) (by omega)
   obtain⟨g',aH,aV⟩:=(fl n (by omega)).2 (ew ps k r0 r n).2 {m with bO:=((List.range n).map fun i=>vs.getD i 0).reverse++m.bO,iH:=g} (by omega) (by show _<=(g.length:Int);rw[W.1];exact e4) aK (aM.up ⟨W.1,fun j az=>W.2 j (by omega)⟩ (by omega))
   refine⟨g',?_,W.trans aV A2⟩
   rw[cond_false,rS,J,aH]
   rfl
theorem adT{ps:List kd}{vs:List Int}{k:Int}(AM:0<=k)(CS:k<4)(fl:∀i,i<4->sI p f rg (ps.getD i default) (vs.getD i 0))(hw:∀i,i<4->dw (vs.getD i 0)):sI p f rg (xE ps k) (bif decide (vs.getD 0 0<vs.getD 1 0)then vs.getD 2 0 else vs.getD 3 0):=by
 have tm:=fl k.toNat (by omega)
 refine⟨fun r=>?_,fun r m bb aE aK aM=>?_⟩
 ·have J:=tm.1 (r+1)
  have W:=Io (k:=k) (r0:=r) fl (ps.getD k.toNat default (r+1)).2 4 (by omega)
  show r<=(ew ps k r (ps.getD k.toNat default (r+1)).2 4).2
  omega
 ·have J:=tm.1 (r+1)
  have W:=Io (k:=k) (r0:=r) fl (ps.getD k.toNat default (r+1)).2 4 (by omega)
  have aE:(ew ps k r (ps.getD k.toNat default (r+1)).2 4).2<=m.iH.length:=aE
  obtain⟨g,aH,aV⟩:=tm.2 (r+1) m (by omega) (by omega) aK (aM.up (.refl _ _) (by omega))
  have hlen:(g.set r.toNat (vs.getD k.toNat 0)).length=m.iH.length:=by rw[nH,aV.1]
  have kf:v7 r m.iH (g.set r.toNat (vs.getD k.toNat 0)):=⟨hlen,fun j az=>by rw[oj,if_neg (by omega)];exact aV.2 j (by omega)⟩
  have xI:=aV.1
  obtain⟨g',db,fc⟩:=Mm (p:=p) (f:=f) (rg:=rg) (k:=k) (r0:=r) fl (hw _ (by omega)) bb (r:=(ps.getD k.toNat default (r+1)).2) (by omega) (m:={m with iH:=g.set r.toNat (vs.getD k.toNat 0)}) aK (aM.up kf (Int.le_refl _)) (by show(g.set r.toNat _).getD r.toNat 0=_;rw[oj,if_pos ⟨rfl,by omega⟩]) 4 (by omega) (by show _<=((g.set r.toNat _).length:Int);rw[hlen];exact aE)
  refine⟨g',?_,kf.trans fc (by omega)⟩
  show o3 p f.qj m ((ps.getD k.toNat default (r+1)).1++[(5,r)]++(ew ps k r (ps.getD k.toNat default (r+1)).2 4).1++[(21,0)])=_
  have nx:o3 p f.qj {m with bO:=vs.getD k.toNat 0::m.bO,iH:=g} [(5,r)]={m with iH:=g.set r.toNat (vs.getD k.toNat 0)}:=rfl
  rw[rS,rS,rS,aH,nx,db]
  show gf m.bO _ (bif decide (vs.getD 0 0<vs.getD 1 0)then vs.getD 2 0 else vs.getD 3 0)=_
  rw[lM (by cases decide (vs.getD 0 0<vs.getD 1 0);exact hw 3 (by omega);exact hw 2 (by omega))]
structure Ip(p:aD)(fd:List bh)(f:ee):Prop where
 fr:uW p fd f
 aq:∀i,i<fd.length->hX (fd.getD i default)
 aw:f.lets.length<=fd.length
 lj:f.bV.length=p.bt.length
 lK:∀i,i<p.a1.length->((f.bF.getD i []).length:Int)=(p.a1.getD i default).size
theorem xJ{k:Int}(bb:0<=k)(W:k<2):(k=0/\k.toNat=0/\(1-k).toNat=1)\/(k=1/\k.toNat=1/\(1-k).toNat=0):=by omega
theorem To{p:aD}{fd:List bh}{f:ee}(aj:Ip p fd f){rg:List (Int×Int)}:∀x:aR,kW p fd f.lets.length x->sI p f rg (bP rg x) (eY p f x):=aR.ind fun x aJ Y=>by
 have hw:=Y.y6 aj.fr aj.aq aj.aw
 have adU:∀i,i<x.l.length->dw (eY p f (x.l.getD i default)):=fun i hi=>(Y.part (dJ hi)).y6 aj.fr aj.aq aj.aw
 have ky:∀i,i<x.l.length->sI p f rg ((fo rg x.l).getD i default) ((fm p f x.l).getD i 0):=fun i hi=>by rw[kX _ hi,rQ _ _ hi];exact aJ _ (dJ hi) (Y.part (dJ hi))
 have kP:∀i,i<x.l.length->dw ((fm p f x.l).getD i 0):=fun i hi=>by rw[rQ _ _ hi];exact adU i hi
 have ir:=y7 (bn x.l) (bn x.l).length
 rw[mS]at ir
 have rT:bT (bn x.l)=iq (bn x.l) x.l.length:=by unfold bT;rw[mS]
 rw[<-rT]at ir
 rw[nr]
 rw[y4]at hw⊢
 cases Y with
 |mk h W an aC aa=>
  have hlen:=h.len
  rcases h.cases with K|K|K|K|K|K|K|K|K|K|K|K|K|K|K|K|K|K<;>(unfold mn;unfold gA at hw⊢;rw[K]at hw hlen⊢;change dw (_:Int)at hw;change sI p f rg (_:kd) (_:Int))
  ·exact Im fun r m _ _ _=>lM hw
  ·exact Im fun r m _ _ _=>lM hw
  ·exact Im fun r m _ aK _=>by show gf m.bO m (m.bV.getD x.index.toNat 0)=_;rw[show m.bV.getD x.index.toNat 0=f.bV.getD x.index.toNat 0 by rw[aK]];exact lM hw
  ·have db:=h.lt K
   refine Im fun r m _ aK aM=>?_
   obtain⟨g1,g2,g3⟩:=aM x.index.toNat (by omega) (W.lt K)
   rw[show((x.index.toNat:Nat):Int)=x.index by omega]at g1 g2 g3
   show gf m.bO m (m.iH.getD ((cb rg x.index).getD 0).toNat 0)=_
   rw[g3]
   exact lM hw
  ·have J:(x.l.length:Int)=1:=hlen
   obtain⟨s,an,A0,AQ⟩:=aC (by rw[K];rfl)
   have ae:=pL aj.fr _ (kW.lZ _ (aa _ (dJ (show 0<x.l.length by omega)))) s an
   rw[<-rQ p f (show 0<x.l.length by omega)]at ae
   refine xH (ky 0 (by omega)) fun m s an=>?_
   show gf (m.bO.drop 1) m (f.ay.getD (fu (m.bO.getD 0 0) 0 p.cR).toNat 0)=_
   rw[an]
   have:fu ((fm p f x.l).getD 0 0) 0 p.cR=(fm p f x.l).getD 0 0:=by unfold fu;have:=ae.1;have:=ae.2;omega
   rw[show((fm p f x.l).getD 0 0::s).getD 0 0=(fm p f x.l).getD 0 0 from rfl,this]
   exact lM hw
  ·have J:(x.l.length:Int)=1:=hlen
   obtain⟨s,an,A0,AQ⟩:=aC (by rw[K];rfl)
   have ae:=pL aj.fr _ (kW.lZ _ (aa _ (dJ (show 0<x.l.length by omega)))) s an
   rw[<-rQ p f (show 0<x.l.length by omega)]at ae
   refine xH (ky 0 (by omega)) fun m s an=>?_
   show gf (m.bO.drop 1) m (f.ax.getD (fu (m.bO.getD 0 0) 0 p.cR).toNat 0)=_
   rw[an]
   have:fu ((fm p f x.l).getD 0 0) 0 p.cR=(fm p f x.l).getD 0 0:=by unfold fu;have:=ae.1;have:=ae.2;omega
   rw[show((fm p f x.l).getD 0 0::s).getD 0 0=(fm p f x.l).getD 0 0 from rfl,this]
   exact lM hw
  ·have J:(x.l.length:Int)=1:=hlen
   have h9:=h.rF K
   have bd:=aj.lK x.index.toNat (by omega)
   have af:=W.n (by omega) (by omega)
   refine xH (ky 0 (by omega)) fun m s an=>?_
   show gf (m.bO.drop 1) m ((f.bF.getD (x.index+x.n).toNat []).getD (fu (m.bO.getD 0 0) 0 ((p.a1.getD (x.index+x.n).toNat default).size-1)).toNat 0)=_
   rw[an,af,Int.add_zero,<-bd]
   exact lM hw
  ·have J:(x.l.length:Int)=1:=hlen
   have af:=W.n (by omega) (by omega)
   refine xH (ky 0 (by omega)) fun m s an=>?_
   show gf (m.bO.drop 1) m ((p.bM.getD (x.index+x.n).toNat default).dU.getD (fu (m.bO.getD 0 0) 0 ((p.bM.getD (x.index+x.n).toNat default).dU.length-1)).toNat 0)=_
   rw[an,af,Int.add_zero]
   exact lM hw
  ·have J:(x.l.length:Int)=1:=hlen
   refine xH (ky 0 (by omega)) fun m s an=>?_
   show gf (m.bO.drop 1) m (j6 (m.bO.getD 0 0))=_
   rw[an]
   exact lM hw
  ·have J:(x.l.length:Int)=2:=hlen
   rcases xJ ir.1 (by have:=ir.2.2 (by omega);omega)with⟨_,aX,bu⟩|⟨_,aX,bu⟩<;>rw[aX,bu]
   ·refine v8 (ky 0 (by omega)) (ky 1 (by omega)) fun m s an=>?_
    show gf (m.bO.drop 2) m (min (m.bO.getD 0 0) (m.bO.getD 1 0))=_
    rw[an]
    show gf s m (min ((fm p f x.l).getD 1 0) ((fm p f x.l).getD 0 0))=_
    rw[Int.min_comm]
    exact lM hw
   ·refine v8 (ky 1 (by omega)) (ky 0 (by omega)) fun m s an=>?_
    show gf (m.bO.drop 2) m (min (m.bO.getD 0 0) (m.bO.getD 1 0))=_
    rw[an]
    exact lM hw
  ·have J:(x.l.length:Int)=2:=hlen
   rcases xJ ir.1 (by have:=ir.2.2 (by omega);omega)with⟨_,aX,bu⟩|⟨_,aX,bu⟩<;>rw[aX,bu]
   ·refine v8 (ky 0 (by omega)) (ky 1 (by omega)) fun m s an=>?_
    show gf (m.bO.drop 2) m (max (m.bO.getD 0 0) (m.bO.getD 1 0))=_
    rw[an]
    show gf s m (max ((fm p f x.l).getD 1 0) ((fm p f x.l).getD 0 0))=_
    rw[Int.max_comm]
    exact lM hw
   ·refine v8 (ky 1 (by omega)) (ky 0 (by omega)) fun m s an=>?_
    show gf (m.bO.drop 2) m (max (m.bO.getD 0 0) (m.bO.getD 1 0))=_
    rw[an]
    exact lM hw
  ·have J:(x.l.length:Int)=1:=hlen
   refine xH (ky 0 (by omega)) fun m s an=>?_
   show gf (m.bO.drop 1) m (max (m.bO.getD 0 0) (-(m.bO.getD 0 0)))=_
   rw[an]
   exact lM hw
  ·have J:(x.l.length:Int)=1:=hlen
   refine xH (ky 0 (by omega)) fun m s an=>?_
   show gf (m.bO.drop 1) m (-(m.bO.getD 0 0))=_
   rw[an]
   exact lM hw
  ·have J:(x.l.length:Int)=2:=hlen
   rcases xJ ir.1 (by have:=ir.2.2 (by omega);omega)with⟨_,aX,bu⟩|⟨_,aX,bu⟩<;>rw[aX,bu]
   ·refine v8 (ky 0 (by omega)) (ky 1 (by omega)) fun m s an=>?_
    show gf (m.bO.drop 2) m (mo (m.bO.getD 0 0) (m.bO.getD 1 0))=_
    rw[an]
    show gf s m (mo ((fm p f x.l).getD 1 0) ((fm p f x.l).getD 0 0))=_
    rw[Il (by rw[Int.add_comm];exact hw),Int.add_comm]
    exact lM hw
   ·refine v8 (ky 1 (by omega)) (ky 0 (by omega)) fun m s an=>?_
    show gf (m.bO.drop 2) m (mo (m.bO.getD 0 0) (m.bO.getD 1 0))=_
    rw[an]
    show gf s m (mo ((fm p f x.l).getD 0 0) ((fm p f x.l).getD 1 0))=_
    rw[Il hw]
    exact lM hw
  ·have J:(x.l.length:Int)=2:=hlen
   have e0:(fm p f x.l).getD 0 0+-(fm p f x.l).getD 1 0=(fm p f x.l).getD 0 0-(fm p f x.l).getD 1 0:=rfl
   cases decide ((bn x.l).getD 1 0<=(bn x.l).getD 0 0)with
   |true=>
    rw[cond_true]
    refine v8 (ky 0 (by omega)) (ky 1 (by omega)) fun m s an=>?_
    show gf (m.bO.drop 2) m (mo (m.bO.getD 1 0) (-(m.bO.getD 0 0)))=_
    rw[an]
    show gf s m (mo ((fm p f x.l).getD 0 0) (-(fm p f x.l).getD 1 0))=_
    rw[Il hw]
    exact lM hw
   |false=>
    rw[cond_false]
    have af:=(kP 1 (by omega)).neg
    refine v8 (v:=-(fm p f x.l).getD 1 0) (xH (ky 1 (by omega)) fun m s an=>?_) (ky 0 (by omega)) fun m s an=>?_
    ·show gf (m.bO.drop 1) m (-(m.bO.getD 0 0))=_
     rw[an]
     exact lM af
    ·show gf (m.bO.drop 2) m (mo (m.bO.getD 0 0) (m.bO.getD 1 0))=_
     rw[an]
     show gf s m (mo ((fm p f x.l).getD 0 0) (-(fm p f x.l).getD 1 0))=_
     rw[Il hw]
     exact lM hw
  ·have J:(x.l.length:Int)=2:=hlen
   rcases xJ ir.1 (by have:=ir.2.2 (by omega);omega)with⟨_,aX,bu⟩|⟨_,aX,bu⟩<;>rw[aX,bu]
   ·refine v8 (ky 0 (by omega)) (ky 1 (by omega)) fun m s an=>?_
    show gf (m.bO.drop 2) m (o1 (m.bO.getD 0 0) (m.bO.getD 1 0))=_
    rw[an]
    show gf s m (o1 ((fm p f x.l).getD 1 0) ((fm p f x.l).getD 0 0))=_
    rw[Tl (kP 1 (by omega)) (by rw[Int.mul_comm];exact hw),Int.mul_comm]
    exact lM hw
   ·refine v8 (ky 1 (by omega)) (ky 0 (by omega)) fun m s an=>?_
    show gf (m.bO.drop 2) m (o1 (m.bO.getD 0 0) (m.bO.getD 1 0))=_
    rw[an]
    show gf s m (o1 ((fm p f x.l).getD 0 0) ((fm p f x.l).getD 1 0))=_
    rw[Tl (kP 0 (by omega)) hw]
    exact lM hw
  ·have J:(x.l.length:Int)=1:=hlen
   have aq:=h.AE K
   have hi:=W.y5 (by omega) (by omega) (by omega)
   refine xH (ky 0 (by omega)) fun m s an=>?_
   show gf (m.bO.drop 1) m (tJ (m.bO.getD 0 0) (x.index+x.n))=_
   rw[an,hi,Int.zero_add]
   show gf s m (tJ ((fm p f x.l).getD 0 0) x.n)=_
   rw[adR (kP 0 (by omega)) (by omega) aq.2]
   exact lM hw
  ·have J:(x.l.length:Int)=4:=hlen
   have:=ir.2.2 (by omega)
   exact adT ir.1 (by omega) (fun i hi=>ky i (by omega)) fun i hi=>kP i (by omega)
end
end
def q1(f:Nat->Bool):Nat->Bool
 |0=>true
 |n+1=>q1 f n&&f n
theorem Iq{f:Nat->Bool}{i:Nat}(h:f i=false):∀{n:Nat},i<n->q1 f n=false
 |n+1,hi=>by
  unfold q1
  rcases nj (qW hi)with aG|rfl
  ·rw[Iq h aG];rfl
  ·rw[h,Bool.and_false]
theorem Mn{f:Nat->Bool}:∀{n:Nat},q1 f n=true↔∀i,i<n->f i=true
 |0=>⟨fun _ i hi=>by omega,fun _=>rfl⟩
 |n+1=>by
  unfold q1
  rw[eL,Mn]
  refine⟨fun h i hi=>?_,fun h=>⟨fun i hi=>h i (by omega),h n (by omega)⟩⟩
  rcases nj (qW hi)with aG|rfl
  ·exact h.1 i aG
  ·exact h.2
def Ir(n lo hi:Int):Bool:=bif decide (n<lo)then true else decide (hi<n)
def FK(l:List Int)(bs:List cA)(i:Nat):Bool:= !Ir (l.getD i default) (bs.getD i default).lo (bs.getD i default).hi
def sJ(l:List Int)(bs:List cA):Bool:=bif !decide ((l.length:Int)=bs.length)then false else q1 (FK l bs) l.length
def FL(n:Int):Bool:=bif decide (n< -2147483648)then true else decide (2147483647<n)
def Mo(l:List Int)(n:Int):Bool:=bif decide ((l.length:Int)=n)then !l.any FL else false
def A3(lo hi n:Int):Bool:=bif !decide (n=0)then(bif decide (n<lo)then true else decide (hi<n))else false
abbrev nI(l:List (List Int)):bg:=h8 1 (fun r=>[ch r]) l
abbrev Mp(s:fa):List bg:=[ch s.bV,nI s.bF]
abbrev lN(s:fa):bg:=.agg (Mp s)
def FM(p:aD)(s:fa)(i:Nat):Bool:= !(bif !decide (((s.bF.getD i default).length:Int)=(p.a1.getD i default).size)then true else(s.bF.getD i default).any (A3 (p.a1.getD i default).lo (p.a1.getD i default).hi))
def xK(p:aD)(s:fa):Bool:=bif(bif !sJ s.bV p.bt then true else !decide ((s.bF.length:Int)=p.a1.length))then false else q1 (FM p s) p.a1.length
structure fa.adV(s:fa):Prop where
 v:s.bV.length<=9223372036854775807
 l:s.bF.length<=9223372036854775807
 r:∀i,(s.bF.getD i default).length<=9223372036854775807
theorem Is(n lo hi:Int):bw prog 39 [aF .i64 n,aF .i64 lo,aF .i64 hi] [] (aF .i64 (fu n lo hi)) [] []:=by
 refine cB [.tmp 6] func39 D D fun E K af=>?_
 exact aL 1 D<|aO (O 3 D<|ag (.min2 (I D) (I D))<|ag (.max2 (I D) (I D))<|aN 1 D)<|bp<|dr D D
theorem adW{a b:Int}(aC:dw a)(ae:0<b):-4611686018427387904<=a.tdiv b/\a.tdiv b<=4611686018427387904:=by
 have J:=aC.1;have W:=aC.2
 by_cases h:0<=a
 ·rw[Ln h];exact yK aC ae
 ·have e:a.tdiv b=-((-a)/b):=by rw[show a=-(-a) by omega,Int.neg_tdiv,Int.tdiv_eq_ediv_of_nonneg (by omega),Int.neg_neg]
  have:=yK (a:=-a) ⟨by omega,by omega⟩ ae
  rw[e]
  exact⟨by have:=this.2;omega,by have:=this.1;omega⟩
theorem adX{a b:Int}(ae:0<b)(l9:b<=2147483648):e1 (a.tmod b):=by
 have J:=Int.tmod_lt_of_pos a ae
 have W:=Int.lt_tmod_of_pos a ae
 exact⟨by omega,by omega⟩
theorem adY{a b:Int}(ae:0<b)(h:¬a.tmod b<0):a.tdiv b=a/b:=by
 have e:=Int.mul_tdiv_add_tmod a b
 have J:=Int.tmod_lt_of_pos a ae
 have bu:a=a.tmod b+b*a.tdiv b:=by omega
 conv=>rhs;rw[bu]
 rw[Int.add_mul_ediv_left _ _ (by omega),Int.ediv_eq_zero_of_lt (by omega) J]
 omega
theorem adZ{a b:Int}(ae:0<b)(h:a.tmod b<0):a.tdiv b-1=a/b:=by
 have e:=Int.mul_tdiv_add_tmod a b
 have W:=Int.lt_tmod_of_pos a ae
 have bu:a=(a.tmod b+b)+b*(a.tdiv b-1):=by rw[Int.mul_sub];omega
 conv=>rhs;rw[bu]
 rw[Int.add_mul_ediv_left _ _ (by omega),Int.ediv_eq_zero_of_lt (by omega) (by omega)]
 omega
theorem ad0(a b:Int)(aC:dw a)(ae:0<b)(l9:b<=2147483648):bw prog 161 [aF .i64 a,aF .i64 b] [] (aF .i64 (a/b)) [] []:=by
 have uS:=aC.1
 have vR:=aC.2
 have bA:=adW aC ae
 have sa:eI (a.tdiv b)=a.tdiv b:=nE ⟨by omega,by omega⟩
 have lS:eI (a.tmod b)=a.tmod b:=nE (adX ae l9)
 refine cB [.tmp 4] func161 D D fun E K af=>?_
 refine aL 1 D<|aO (O 2 D<|ag ((Pure.quo (I D) (I D) fun _=>by omega).bK (y:=aF .i64 (a.tdiv b)) (congrArg (aF .i64) sa))<|aN 1 D)<|al<|aO (O 2 D<|ag (.rem (I D) (I D) fun _=>by omega)<|aN 1 D)<|a7 D (fun aP=>?_) fun aP=>?_
 ·have aw:a.tmod b<0:=cJ aP
  exact bm (O 1 D<|cp D D D<|aN 1 D)<|aL 2 D<|bp<|⟨.inr D,⟨_,(.cons (.tmp D) .nil),(congrArg (aF .i64) (adZ ae aw).symm)⟩,by simp[ad.get]⟩
 have aw:¬a.tmod b<0:=dj aP
 exact bx<|aL 2 D<|bp<|⟨.inr D,⟨_,(.cons (.tmp D) .nil),(congrArg (aF .i64) (adY ae aw).symm)⟩,by simp[ad.get]⟩
theorem Tp(l:List Int)(bs:List cA)(aa:l.length<=9223372036854775807):bw prog 87 [.d (ch l),.d (dN bs)] [] (bk (sJ l bs)) [] []:=by
 refine cB [.tmp 4] func87 D D fun E K af=>?_
 refine aL 1 D<|al<|aL 5 D<|a7 D (fun aP=>?_) fun aP=>?_
 ·have e:sJ l bs=false:=by unfold sJ;rw[show(!decide ((l.length:Int)=bs.length))=true from aP,cond_true]
  refine aL 1 D<|bp<|dr D ?_
  rw[e];rfl
 have J:(!decide ((l.length:Int)=bs.length))=false:=aP
 have hlen:(l.length:Int)=bs.length:=cJ (vG aP)
 refine bx<|al<|aL 3 D<|bX<|eP (σ:=Nat) [(ab 1,_),(ab 12,_),(ab 13,_)] (fun i=>[(ab 14,.aB (aF .i64 (i:Int)))]) (fun i=>i<=l.length/\q1 (FK l bs) i=true) (fun i=>l.length-i) 0 (aZ D<|aU) (ck D D<|aZ D<|aU) ⟨Nat.zero_le _,rfl⟩ fun i hi=>?_
 refine aL 1 D<|al<|a7 D (fun bq=>?_) fun bq=>?_
 ·have aG:i<l.length:=eJ bq
  refine bx<|al<|bX<|aO (O 1 D<|bW fB D D<|aN 3 D)<|aO (O 3 D<|bW lE D D<|O 4 D<|dp D D<|dp D D<|dp D D<|cF [] D (.pV lE (bH D) (bH D) fun h=>by exact⟨by omega,by omega⟩)<|cX D G2 (bH D) D<|cF [] D (.fG bY (bH D) D)<|c6 D D (bH D) D<|gQ D D D<|ar)<|a7 D (fun b3=>?_) fun b3=>?_
  ·have js:Ir (l.getD i default) (bs.getD i default).lo (bs.getD i default).hi=true:=b3
   have e:sJ l bs=false:=by unfold sJ;rw[J,cond_false];exact Iq (i:=i) (by rw[FK,js];rfl) aG
   refine aL 1 D<|bp<|dr D ?_
   rw[e];rfl
  have js:Ir (l.getD i default) (bs.getD i default).lo (bs.getD i default).hi=false:=b3
  exact bx<|bm (cp D D D<|aN 1 D)<|⟨i+1,⟨aG,by unfold q1;rw[hi.2,FK,js];rfl⟩,fD (by assumption),aZ (ec (by omega))<|aU,ck D D<|aZ D<|aU⟩
 have eW:i=l.length:=by have:=dj bq;omega
 have e:sJ l bs=true:=by unfold sJ;rw[J,cond_false,<-eW];exact hi.2
 refine dW<|aL 1 D<|bp<|dr D ?_
 rw[e];rfl
theorem ad1(n:Int):bw prog 142 [aF .i64 n] [] (bk (FL n)) [] []:=by
 refine cB [.tmp 2] func142 D D fun E K af=>?_
 exact aL 1 D<|aO (O 3 D<|dp D D<|c6 D D (I D) D<|gQ D D D<|aN 1 D)<|bp<|dr D D
theorem Tq(l:List Int)(n:Int)(aa:l.length<=9223372036854775807):bw prog 88 [.d (ch l),aF .i64 n] [] (bk (Mo l n)) [] []:=by
 refine cB [.tmp 4] func88 D D fun E K af=>?_
 exact aL 1 D<|aO (O 5 D<|dp D D<|na D (jr (.cons (bH D) (.cons (I D) .nil))) (fun h=>CH l aa 142 [] FL (au D) fun n=>ad1 n) (au D)<|cF [] D (.not (bH D))<|eg D D D<|aN 1 D)<|bp<|dr D D
theorem ad2(b:fQ)(n:Int):bw prog 143 [aF .i64 n,.cc (p8 b)] [] (bk (A3 b.lo b.hi n)) [] []:=by
 refine cB [.tmp 3] func143 D D fun E K af=>?_
 exact aL 1 D<|aO (O 3 D<|dp D D<|cX D Ku (I D) D<|cF [] D (.fG bY (bH D) D)<|c6 D D (bH D) D<|cF [] D (.move (bH D))<|dp D D<|cX D Kv (I D) D<|cF [] D (.fG bY (bH D) D)<|c6 D D (bH D) D<|cF [] D (.pick (bH D) (I D) (.bB D (by simp)))<|eg rfl rfl rfl<|aN 1 rfl)<|bp<|dr rfl rfl
theorem ad3(p:aD)(Z:p.b5)(s:fa)(an:s.adV):bw prog 89 [.d (fR p),.d (lN s)] [] (bk (xK p s)) [] []:=by
 have qC:=Z.gH
 refine cB [.tmp 4] func89 D D fun E K af=>?_
 refine aO (cV 2 D D D<|cV 3 D D D<|aN 1 D)<|al<|aO (O 4 D<|cY (cn D D) (Tp s.bV p.bt an.v) (au D)<|O 2 D<|cX D O5 (I D) D<|dP D wT D D D<|cF [] D (.len D underlying38 (bH D) D)<|cX D GY (I D) D<|dP D uo D D D<|cF [] D (.len D underlying25 (bH D) D)<|c6 D D (bH D) D<|gQ D D D<|ar)<|a7 D (fun aP=>?_) fun aP=>?_
 ·have e:xK p s=false:=by unfold xK;rw[show(bif !sJ s.bV p.bt then true else !decide ((s.bF.length:Int)=p.a1.length))=true from aP,cond_true]
  refine aL 1 D<|bp<|dr D ?_
  rw[e];rfl
 have J:(bif !sJ s.bV p.bt then true else !decide ((s.bF.length:Int)=p.a1.length))=false:=aP
 have qL:(s.bF.length:Int)=p.a1.length:=by
   cases hw:sJ s.bV p.bt<;>rw[hw]at J
   ·cases J
   ·exact cJ (vG J)
 refine bx<|al<|aL 4 D<|bX<|eP (σ:=Nat) [(ab 3,_),(ab 24,_),(ab 25,_),(G 3,_)] (fun i=>[(ab 26,.aB (aF .i64 (i:Int)))]) (fun i=>i<=p.a1.length/\q1 (FM p s) i=true) (fun i=>p.a1.length-i) 0 (aZ D<|aU) (da D D D D<|aU) ⟨Nat.zero_le _,rfl⟩ fun i hi=>?_
 refine aL 1 D<|al<|a7 D (fun bq=>?_) fun bq=>?_
 ·have aG:i<p.a1.length:=eJ bq
  refine bx<|al<|bX<|aO (O 1 D<|bW nV D D<|O 1 D<|cm 6 vp D<|O 1 D<|cL wU D D D D<|ar)<|al<|c1 (b1.hV (t:=6) (l:=6) D D)<|bm (ag (.mG (.cons (I D) .nil))<|aN 1 D)<|ft (O 3 D<|bW pr D D<|O 6 D<|cX D O5 (I D) D<|dP D wT D D D<|dp D D<|cF [] D (.pV pr (bH D) (bH D) fun h=>by exact⟨by omega,by omega⟩)<|cF [] D (.fG km (bH D) D)<|dp D D<|na D (jr (.cons (bH D) (.cons (bH D) .nil))) (fun h=>CH (s.bF.getD i default) (an.r i) 143 [.cc (p8 (p.a1.getD i default))] (A3 (p.a1.getD i default).lo (p.a1.getD i default).hi) (au D) fun n=>ad2 (p.a1.getD i default) n) (au D)<|gQ D D D<|ar)<|a7 D (fun b3=>?_) fun b3=>?_
  ·have js:(bif !decide (((s.bF.getD i default).length:Int)=(p.a1.getD i default).size)then true else(s.bF.getD i default).any (A3 (p.a1.getD i default).lo (p.a1.getD i default).hi))=true:=b3
   have e:xK p s=false:=by unfold xK;rw[J,cond_false];exact Iq (i:=i) (by rw[FM,js];rfl) aG
   refine aL 1 D<|bp<|dr D ?_
   rw[e];rfl
  have js:(bif !decide (((s.bF.getD i default).length:Int)=(p.a1.getD i default).size)then true else(s.bF.getD i default).any (A3 (p.a1.getD i default).lo (p.a1.getD i default).hi))=false:=b3
  exact bx<|bm (cp D D D<|aN 1 D)<|⟨i+1,⟨aG,by unfold q1;rw[hi.2,FM,js];rfl⟩,fD (by assumption),aZ (ec (by omega))<|aU,da D D D D<|aU⟩
 have eW:i=p.a1.length:=by have:=dj bq;omega
 have e:xK p s=true:=by unfold xK;rw[J,cond_false,<-eW];exact hi.2
 refine dW<|aL 1 D<|bp<|dr D ?_
 rw[e];rfl
abbrev gY(p:aD)(f:ee):ad:=[(G 30,.U (.cells [.aQ 31 f.lets.length,.d (ev p.name),.d (av p.cR),.d (av p.tail),.d (dN p.params),.d (dN p.bt),.d (hJ p.a1),.d (ia p.bM),.d (iS p.ah),.d (ch f.bj),.d (ch f.ay),.d (ch f.ax),.aQ 32 f.bV.length,.aQ 33 f.bF.length])),
 (G 31,.U (.bG 1 f.lets.length [.cv .i64 f.lets])),(G 32,.U (.bG 1 f.bV.length [.cv .i64 f.bV])),(G 33,.U (.bG 1 f.bF.length [.ds (f.bF.map ch)]))]
theorem Tr{l:List (List Int)}{i:Nat}(h:i<l.length):ai.d (bz.at (.ds (l.map ch)) i)= .d (ch (l.getD i default)):=by
 congr 1
 simp[bz.at,cN,h]
structure om(p:aD)(f:ee)(x:aR)(ls:List Int):Prop where
 ao:n8 p f.lets.length x
 oO:sw p
 len:ls.length=x.l.length
 y6:∀i,dw (ls.getD i default)
 res:dw (gA p f x ls)
 nf:f.bj.length=p.params.length
 lj:f.bV.length=p.bt.length
 gH:f.bF.length=p.a1.length
 lK:x.kind=8->1<=(f.bF.getD x.index.toNat default).length/\(f.bF.getD x.index.toNat default).length<=65536
 Ts:uT x.kind=true->0<=ls.getD 0 default/\ls.getD 0 default<f.ay.length/\ls.getD 0 default<f.ax.length
theorem ad4(p:aD)(Z:p.b5)(f:ee)(x:aR)(ls:List Int)(h:om p f x ls)(ep:x.kind=1):bw prog 144 [.ao 30 0,.d (.agg (cr x)),.d (ch ls)] (gY p f) (aF .i64 (gA p f x ls)) (gY p f) [30,31,32,33]:=by
 have hlen:=h.ao.len
 rw[ep]at hlen
 have lO:=h.len
 refine cB [.tmp 6] func144 D D fun E K af=>?_
 exact aO (cV 4 D D D<|aN 1 D)<|aL 3 D<|bp<|⟨.inr D,⟨_,(.cons (.tmp D) .nil),(congrArg (aF .i64) (by unfold gA;rw[ep];rfl))⟩,cU (.hf D D D D)⟩
theorem ad5(p:aD)(Z:p.b5)(f:ee)(x:aR)(ls:List Int)(h:om p f x ls)(ep:x.kind=3):bw prog 145 [.ao 30 0,.d (.agg (cr x)),.d (ch ls)] (gY p f) (aF .i64 (gA p f x ls)) (gY p f) [30,31,32,33]:=by
 have hlen:=h.ao.len
 rw[ep]at hlen
 have lO:=h.len
 have aH:=h.ao.bj ep
 have B4:=h.nf
 refine cB [.tmp 6] func145 D D fun E K af=>?_
 exact aO (cV 4 D D D<|aN 1 D)<|ft (O 6 D<|bW fB D D<|aN 2 D)<|bp<|⟨.inr D,⟨_,(.cons (.tmp D) .nil),(congrArg (aF .i64) (by unfold gA;rw[ep];rfl))⟩,cU (.hf D D D D)⟩
theorem ad6(p:aD)(Z:p.b5)(f:ee)(x:aR)(ls:List Int)(h:om p f x ls)(ep:x.kind=4):bw prog 146 [.ao 30 0,.d (.agg (cr x)),.d (ch ls)] (gY p f) (aF .i64 (gA p f x ls)) (gY p f) [30,31,32,33]:=by
 have hlen:=h.ao.len
 rw[ep]at hlen
 have lO:=h.len
 have aH:=h.ao.nG ep
 have ajy:=h.lj
 refine cB [.tmp 6] func146 D D fun E K af=>?_
 exact aO (cV 4 D D D<|aN 1 D)<|ft (O 7 D<|ag (.mx fB (I D) (I D) fun _=>⟨by omega,by omega⟩)<|cH [_] (.pU bY (I D) D D D fun _=>by omega)<|aN 1 D)<|bp<|⟨.inr D,⟨_,(.cons (.tmp D) .nil),(congrArg (aF .i64) (by unfold gA;rw[ep];rfl))⟩,cU (.hf D D D D)⟩
theorem ad7(p:aD)(Z:p.b5)(f:ee)(x:aR)(ls:List Int)(h:om p f x ls)(ep:x.kind=5):bw prog 147 [.ao 30 0,.d (.agg (cr x)),.d (ch ls)] (gY p f) (aF .i64 (gA p f x ls)) (gY p f) [30,31,32,33]:=by
 have hlen:=h.ao.len
 rw[ep]at hlen
 have lO:=h.len
 have aH:=h.ao.lt ep
 refine cB [.tmp 6] func147 D D fun E K af=>?_
 exact aO (cV 4 D D D<|aN 1 D)<|ft (O 7 D<|ag (.mx fB (I D) (I D) fun _=>⟨by omega,by omega⟩)<|cH [_] (.pU bY (I D) D D D fun _=>by omega)<|aN 1 D)<|bp<|⟨.inr D,⟨_,(.cons (.tmp D) .nil),(congrArg (aF .i64) (by unfold gA;rw[ep];rfl))⟩,cU (.hf D D D D)⟩
theorem ad8(p:aD)(Z:p.b5)(f:ee)(x:aR)(ls:List Int)(h:om p f x ls)(ep:x.kind=6):bw prog 148 [.ao 30 0,.d (.agg (cr x)),.d (ch ls)] (gY p f) (aF .i64 (gA p f x ls)) (gY p f) [30,31,32,33]:=by
 have hlen:=h.ao.len
 rw[ep]at hlen
 have lO:=h.len
 have iF:(x.l.length:Int)=1:=hlen
 have aH:=h.Ts (by rw[ep];rfl)
 refine cB [.tmp 6] func148 D D fun E K af=>?_
 exact aO (cV 4 D D D<|aN 1 D)<|ft (O 5 D<|ag ((eN fB D D).bK (y:=.cc [av (ls.getD 0 default)]) D)<|O 1 D<|bW fB D D<|aN 2 D)<|bp<|⟨.inr D,⟨_,(.cons (.tmp D) .nil),(congrArg (aF .i64) (by unfold gA;rw[ep];rfl))⟩,cU (.hf D D D D)⟩
theorem ad9(p:aD)(Z:p.b5)(f:ee)(x:aR)(ls:List Int)(h:om p f x ls)(ep:x.kind=7):bw prog 149 [.ao 30 0,.d (.agg (cr x)),.d (ch ls)] (gY p f) (aF .i64 (gA p f x ls)) (gY p f) [30,31,32,33]:=by
 have hlen:=h.ao.len
 rw[ep]at hlen
 have lO:=h.len
 have iF:(x.l.length:Int)=1:=hlen
 have aH:=h.Ts (by rw[ep];rfl)
 refine cB [.tmp 6] func149 D D fun E K af=>?_
 exact aO (cV 4 D D D<|aN 1 D)<|ft (O 5 D<|ag ((eN fB D D).bK (y:=.cc [av (ls.getD 0 default)]) D)<|O 1 D<|bW fB D D<|aN 2 D)<|bp<|⟨.inr D,⟨_,(.cons (.tmp D) .nil),(congrArg (aF .i64) (by unfold gA;rw[ep];rfl))⟩,cU (.hf D D D D)⟩
theorem aea(p:aD)(Z:p.b5)(f:ee)(x:aR)(ls:List Int)(h:om p f x ls)(ep:x.kind=8):bw prog 150 [.ao 30 0,.d (.agg (cr x)),.d (ch ls)] (gY p f) (aF .i64 (gA p f x ls)) (gY p f) [30,31,32,33]:=by
 have hlen:=h.ao.len
 rw[ep]at hlen
 have lO:=h.len
 have iF:(x.l.length:Int)=1:=hlen
 have h9:=h.ao.rF ep
 have qC:=h.gH
 have cj:=h.lK ep
 have hO:= @FF (ls.getD 0 default) 0 (((f.bF.getD x.index.toNat default).length:Int)-1) (by omega)
 refine cB [.tmp 6] func150 D D fun E K af=>?_
 exact aO (cV 4 D D D<|aN 1 D)<|ft (O 7 D<|ag (.mx pr (I D) (I D) fun _=>⟨by omega,by omega⟩)<|cH [_] ((Pure.pU km (I D) D D D fun _=>by omega).bK (y:=.d (ch (f.bF.getD x.index.toNat default))) (Tr (by omega)))<|aN 1 D)<|aO (O 2 D<|ag ((eN fB D D).bK (y:=.cc [av (ls.getD 0 default)]) D)<|O 3 D<|cp D D D<|cY (hd D D D) (Is _ _ _) (au D)<|bW fB D D<|aN 2 D)<|bp<|⟨.inr D,⟨_,(.cons (.tmp D) .nil),(congrArg (aF .i64) (by unfold gA;rw[ep];rfl))⟩,cU (.hf D D D D)⟩
theorem aeb(p:aD)(Z:p.b5)(f:ee)(x:aR)(ls:List Int)(h:om p f x ls)(ep:x.kind=9):bw prog 151 [.ao 30 0,.d (.agg (cr x)),.d (ch ls)] (gY p f) (aF .i64 (gA p f x ls)) (gY p f) [30,31,32,33]:=by
 have hlen:=h.ao.len
 rw[ep]at hlen
 have lO:=h.len
 have iF:(x.l.length:Int)=1:=hlen
 have nx:=h.ao.rD ep
 have LL:=Z.cg
 have Fl:=h.oO.vI x.index.toNat (by omega)
 have hO:= @FF (ls.getD 0 default) 0 (((p.bM.getD x.index.toNat default).dU.length:Int)-1) (by omega)
 refine cB [.tmp 6] func151 D D fun E K af=>?_
 exact aO (cV 4 D D D<|aN 1 D)<|ft (O 7 D<|bW wS D D<|aN 3 D)<|aO (O 2 D<|ag ((eN fB D D).bK (y:=.cc [av (ls.getD 0 default)]) D)<|O 3 D<|cp D D D<|cY (hd D D D) (Is _ _ _) (au D)<|bW fB D D<|aN 2 D)<|bp<|⟨.inr D,⟨_,(.cons (.tmp D) .nil),(congrArg (aF .i64) (by unfold gA;rw[ep];rfl))⟩,cU (.hf D D D D)⟩
theorem aec(p:aD)(Z:p.b5)(f:ee)(x:aR)(ls:List Int)(h:om p f x ls)(ep:x.kind=10):bw prog 152 [.ao 30 0,.d (.agg (cr x)),.d (ch ls)] (gY p f) (aF .i64 (gA p f x ls)) (gY p f) [30,31,32,33]:=by
 have hlen:=h.ao.len
 rw[ep]at hlen
 have lO:=h.len
 have iF:(x.l.length:Int)=1:=hlen
 refine cB [.tmp 6] func152 D D fun E K af=>?_
 exact aO (cV 4 D D D<|aN 1 D)<|aO (O 1 D<|ag ((eN fB D D).bK (y:=.cc [av (ls.getD 0 default)]) D)<|O 1 D<|cY (hd D D D) (Is _ _ _) (au D)<|aN 1 D)<|bp<|⟨.inr D,⟨_,(.cons (.tmp D) .nil),(congrArg (aF .i64) (by unfold gA;rw[ep];rfl))⟩,cU (.hf D D D D)⟩
theorem aed(p:aD)(Z:p.b5)(f:ee)(x:aR)(ls:List Int)(h:om p f x ls)(ep:x.kind=11):bw prog 153 [.ao 30 0,.d (.agg (cr x)),.d (ch ls)] (gY p f) (aF .i64 (gA p f x ls)) (gY p f) [30,31,32,33]:=by
 have hlen:=h.ao.len
 rw[ep]at hlen
 have lO:=h.len
 have gr:(x.l.length:Int)=2:=hlen
 refine cB [.tmp 6] func153 D D fun E K af=>?_
 exact aO (cV 4 D D D<|aN 1 D)<|ft (O 1 D<|ag ((eN fB D D).bK (y:=.cc [av (ls.getD 0 default)]) D)<|O 2 D<|ag ((eN fB D D).bK (y:=.cc [av (ls.getD 1 default)]) D)<|O 1 D<|ag (.min2 (I D) (I D))<|aN 1 D)<|bp<|⟨.inr D,⟨_,(.cons (.tmp D) .nil),(congrArg (aF .i64) (by unfold gA;rw[ep];rfl))⟩,cU (.hf D D D D)⟩
theorem aee(p:aD)(Z:p.b5)(f:ee)(x:aR)(ls:List Int)(h:om p f x ls)(ep:x.kind=12):bw prog 154 [.ao 30 0,.d (.agg (cr x)),.d (ch ls)] (gY p f) (aF .i64 (gA p f x ls)) (gY p f) [30,31,32,33]:=by
 have hlen:=h.ao.len
 rw[ep]at hlen
 have lO:=h.len
 have gr:(x.l.length:Int)=2:=hlen
 refine cB [.tmp 6] func154 D D fun E K af=>?_
 exact aO (cV 4 D D D<|aN 1 D)<|ft (O 1 D<|ag ((eN fB D D).bK (y:=.cc [av (ls.getD 0 default)]) D)<|O 2 D<|ag ((eN fB D D).bK (y:=.cc [av (ls.getD 1 default)]) D)<|O 1 D<|ag (.max2 (I D) (I D))<|aN 1 D)<|bp<|⟨.inr D,⟨_,(.cons (.tmp D) .nil),(congrArg (aF .i64) (by unfold gA;rw[ep];rfl))⟩,cU (.hf D D D D)⟩
theorem aef(p:aD)(Z:p.b5)(f:ee)(x:aR)(ls:List Int)(h:om p f x ls)(ep:x.kind=13):bw prog 155 [.ao 30 0,.d (.agg (cr x)),.d (ch ls)] (gY p f) (aF .i64 (gA p f x ls)) (gY p f) [30,31,32,33]:=by
 have hlen:=h.ao.len
 rw[ep]at hlen
 have lO:=h.len
 have iF:(x.l.length:Int)=1:=hlen
 have aC:=h.y6 0
 have uS:=aC.1
 have vR:=aC.2
 refine cB [.tmp 6] func155 D D fun E K af=>?_
 exact aO (cV 4 D D D<|aN 1 D)<|ft (O 1 D<|ag ((eN fB D D).bK (y:=.cc [av (ls.getD 0 default)]) D)<|O 2 D<|ag ((eN fB D D).bK (y:=.cc [av (ls.getD 0 default)]) D)<|O 1 D<|ag (.neg (I D) fun _=>iO (by omega))<|ag (.max2 (I D) (I D))<|aN 1 D)<|bp<|⟨.inr D,⟨_,(.cons (.tmp D) .nil),(congrArg (aF .i64) (by unfold gA;rw[ep];rfl))⟩,cU (.hf D D D D)⟩
theorem aeg(p:aD)(Z:p.b5)(f:ee)(x:aR)(ls:List Int)(h:om p f x ls)(ep:x.kind=14):bw prog 156 [.ao 30 0,.d (.agg (cr x)),.d (ch ls)] (gY p f) (aF .i64 (gA p f x ls)) (gY p f) [30,31,32,33]:=by
 have hlen:=h.ao.len
 rw[ep]at hlen
 have lO:=h.len
 have iF:(x.l.length:Int)=1:=hlen
 have aC:=h.y6 0
 have uS:=aC.1
 have vR:=aC.2
 refine cB [.tmp 6] func156 D D fun E K af=>?_
 exact aO (cV 4 D D D<|aN 1 D)<|aO (O 1 D<|ag ((eN fB D D).bK (y:=.cc [av (ls.getD 0 default)]) D)<|O 1 D<|ag (.neg (I D) fun _=>iO (by omega))<|aN 1 D)<|bp<|⟨.inr D,⟨_,(.cons (.tmp D) .nil),(congrArg (aF .i64) (by unfold gA;rw[ep];rfl))⟩,cU (.hf D D D D)⟩
theorem aeh(p:aD)(Z:p.b5)(f:ee)(x:aR)(ls:List Int)(h:om p f x ls)(ep:x.kind=15):bw prog 157 [.ao 30 0,.d (.agg (cr x)),.d (ch ls)] (gY p f) (aF .i64 (gA p f x ls)) (gY p f) [30,31,32,33]:=by
 have hlen:=h.ao.len
 rw[ep]at hlen
 have lO:=h.len
 have gr:(x.l.length:Int)=2:=hlen
 have aE:dw (ls.getD 0 default+ls.getD 1 default):=by have:=h.res;unfold gA at this;rw[ep]at this;exact this
 have sh:=aE.1
 have k3:=aE.2
 refine cB [.tmp 6] func157 D D fun E K af=>?_
 exact aO (cV 4 D D D<|aN 1 D)<|ft (O 1 D<|ag ((eN fB D D).bK (y:=.cc [av (ls.getD 0 default)]) D)<|O 2 D<|ag ((eN fB D D).bK (y:=.cc [av (ls.getD 1 default)]) D)<|O 1 D<|cp D D D<|aN 1 D)<|bp<|⟨.inr D,⟨_,(.cons (.tmp D) .nil),(congrArg (aF .i64) (by unfold gA;rw[ep];rfl))⟩,cU (.hf D D D D)⟩
theorem aei(p:aD)(Z:p.b5)(f:ee)(x:aR)(ls:List Int)(h:om p f x ls)(ep:x.kind=16):bw prog 158 [.ao 30 0,.d (.agg (cr x)),.d (ch ls)] (gY p f) (aF .i64 (gA p f x ls)) (gY p f) [30,31,32,33]:=by
 have hlen:=h.ao.len
 rw[ep]at hlen
 have lO:=h.len
 have gr:(x.l.length:Int)=2:=hlen
 have aE:dw (ls.getD 0 default-ls.getD 1 default):=by have:=h.res;unfold gA at this;rw[ep]at this;exact this
 have sh:=aE.1
 have k3:=aE.2
 refine cB [.tmp 6] func158 D D fun E K af=>?_
 exact aO (cV 4 D D D<|aN 1 D)<|ft (O 1 D<|ag ((eN fB D D).bK (y:=.cc [av (ls.getD 0 default)]) D)<|O 2 D<|ag ((eN fB D D).bK (y:=.cc [av (ls.getD 1 default)]) D)<|O 1 D<|cp D D D<|aN 1 D)<|bp<|⟨.inr D,⟨_,(.cons (.tmp D) .nil),(congrArg (aF .i64) (by unfold gA;rw[ep];rfl))⟩,cU (.hf D D D D)⟩
theorem aej(p:aD)(Z:p.b5)(f:ee)(x:aR)(ls:List Int)(h:om p f x ls)(ep:x.kind=17):bw prog 159 [.ao 30 0,.d (.agg (cr x)),.d (ch ls)] (gY p f) (aF .i64 (gA p f x ls)) (gY p f) [30,31,32,33]:=by
 have hlen:=h.ao.len
 rw[ep]at hlen
 have lO:=h.len
 have gr:(x.l.length:Int)=2:=hlen
 have aE:dw (ls.getD 0 default*ls.getD 1 default):=by have:=h.res;unfold gA at this;rw[ep]at this;exact this
 have sh:=aE.1
 have k3:=aE.2
 refine cB [.tmp 6] func159 D D fun E K af=>?_
 exact aO (cV 4 D D D<|aN 1 D)<|ft (O 1 D<|ag ((eN fB D D).bK (y:=.cc [av (ls.getD 0 default)]) D)<|O 2 D<|ag ((eN fB D D).bK (y:=.cc [av (ls.getD 1 default)]) D)<|O 1 D<|cp D D D<|aN 1 D)<|bp<|⟨.inr D,⟨_,(.cons (.tmp D) .nil),(congrArg (aF .i64) (by unfold gA;rw[ep];rfl))⟩,cU (.hf D D D D)⟩
theorem aek(p:aD)(Z:p.b5)(f:ee)(x:aR)(ls:List Int)(h:om p f x ls)(ep:x.kind=18):bw prog 160 [.ao 30 0,.d (.agg (cr x)),.d (ch ls)] (gY p f) (aF .i64 (gA p f x ls)) (gY p f) [30,31,32,33]:=by
 have hlen:=h.ao.len
 rw[ep]at hlen
 have lO:=h.len
 have iF:(x.l.length:Int)=1:=hlen
 have aC:=h.y6 0
 have uS:=aC.1
 have vR:=aC.2
 have aH:=h.ao.AE ep
 refine cB [.tmp 6] func160 D D fun E K af=>?_
 exact aO (cV 4 D D D<|aN 1 D)<|ft (O 1 D<|ag ((eN fB D D).bK (y:=.cc [av (ls.getD 0 default)]) D)<|O 3 D<|cY (cn D D) (ad0 _ _ aC (by omega) aH.2) (au D)<|aN 1 D)<|bp<|⟨.inr D,⟨_,(.cons (.tmp D) .nil),(congrArg (aF .i64) (by unfold gA;rw[ep];rfl))⟩,cU (.hf D D D D)⟩
abbrev A4:List bg:=[.v .nilFunc,.v (.func (.func 144) #[] #[]),.v .nilFunc,.v (.func (.func 145) #[] #[]),.v (.func (.func 146) #[] #[]),.v (.func (.func 147) #[] #[]),.v (.func (.func 148) #[] #[]),.v (.func (.func 149) #[] #[]),.v (.func (.func 150) #[] #[]),.v (.func (.func 151) #[] #[]),.v (.func (.func 152) #[] #[]),.v (.func (.func 153) #[] #[]),.v (.func (.func 154) #[] #[]),.v (.func (.func 155) #[] #[]),.v (.func (.func 156) #[] #[]),.v (.func (.func 157) #[] #[]),.v (.func (.func 158) #[] #[]),.v (.func (.func 159) #[] #[]),.v (.func (.func 160) #[] #[]),.v .nilFunc]
theorem ael:dI (ι:=Unit) prog 97 [] [] (fun _=>True) (fun _=>.d (.agg A4)) (fun _=>[]) [] ((fun _=>False)) []:=by
 refine hr [.cell 0 176] func97 D D fun E K af=>?_
 exact aO (cm 0 KB D<|ar)<|al<|dm (ag (.build KB Yh (ba D D D (ba D D D (ba D D D (ba D D D (ba D D D (ba D D D (ba D D D (ba D D D (ba D D D (ba D D D (ba D D D (ba D D D (ba D D D (ba D D D (ba D D D (ba D D D (ba D D D (ba D D D (.nil _ _))))))))))))))))))) D)<|ny KA (I D) (I D) D D (by rfl) (by exact eZ.1 D) (by exact cC D) D<|ar) (nM K af D)<|bp<|⟨.inr D,(),trivial,⟨_,(.cons (.va D D KA D) .nil),(Lp D)⟩,cI .nil⟩
theorem aem:bw prog 97 [] [] (.d (.agg A4)) [] []:=dI.nD ael () (fun _ _=>rfl) fun _ h=>h
theorem aen{p:aD}(Z:p.b5){f:ee}{x:aR}{ls:List Int}(h:om p f x ls)(FN:x.kind≠19):∃g,A4[x.kind.toNat]?=some (.v (.func (.func g) #[] #[]))/\hS prog g=true/\bw prog g [.ao 30 0,.d (.agg (cr x)),.d (ch ls)] (gY p f) (aF .i64 (gA p f x ls)) (gY p f) [30,31,32,33]:=by
 rcases h.ao.cases with K|K|K|K|K|K|K|K|K|K|K|K|K|K|K|K|K|K
 ·exact⟨144,by rw[K];rfl,(au D),ad4 p Z f x ls h K⟩
 ·exact⟨145,by rw[K];rfl,(au D),ad5 p Z f x ls h K⟩
 ·exact⟨146,by rw[K];rfl,(au D),ad6 p Z f x ls h K⟩
 ·exact⟨147,by rw[K];rfl,(au D),ad7 p Z f x ls h K⟩
 ·exact⟨148,by rw[K];rfl,(au D),ad8 p Z f x ls h K⟩
 ·exact⟨149,by rw[K];rfl,(au D),ad9 p Z f x ls h K⟩
 ·exact⟨150,by rw[K];rfl,(au D),aea p Z f x ls h K⟩
 ·exact⟨151,by rw[K];rfl,(au D),aeb p Z f x ls h K⟩
 ·exact⟨152,by rw[K];rfl,(au D),aec p Z f x ls h K⟩
 ·exact⟨153,by rw[K];rfl,(au D),aed p Z f x ls h K⟩
 ·exact⟨154,by rw[K];rfl,(au D),aee p Z f x ls h K⟩
 ·exact⟨155,by rw[K];rfl,(au D),aef p Z f x ls h K⟩
 ·exact⟨156,by rw[K];rfl,(au D),aeg p Z f x ls h K⟩
 ·exact⟨157,by rw[K];rfl,(au D),aeh p Z f x ls h K⟩
 ·exact⟨158,by rw[K];rfl,(au D),aei p Z f x ls h K⟩
 ·exact⟨159,by rw[K];rfl,(au D),aej p Z f x ls h K⟩
 ·exact⟨160,by rw[K];rfl,(au D),aek p Z f x ls h K⟩
 ·exact absurd K FN
structure It(p:aD):Prop where
 nf:p.params.length<=16
 hH:p.bt.length<=16
 gH:p.a1.length<=16
 cg:p.bM.length<=16
 kJ:p.ah.length<=64
 n2:0<=p.cR/\p.cR<=4096
 tail:-1<=p.tail/\p.tail<=1048576
 lY:∀i,i<p.a1.length->1<=(p.a1.getD i default).size/\(p.a1.getD i default).size<=65536
 vI:∀i,i<p.bM.length->1<=(p.bM.getD i default).dU.length/\(p.bM.getD i default).dU.length<=1024
theorem y9{p:aD}(h:hZ p=some p):It p:=by
 obtain⟨bf,aa,aq,aE,gP,aT⟩:=y2 h
 unfold xe at aa
 simp only[eL]at aa
 obtain⟨⟨⟨J,W⟩,aH⟩,_⟩:=aa
 obtain⟨J,t2⟩:=iX J
 obtain⟨J,t1⟩:=iX J
 obtain⟨J,e7⟩:=iX J
 obtain⟨J,fy⟩:=iX J
 obtain⟨J,aw⟩:=iX J
 have ir:Lf p<=16:=cJ J
 unfold Lf at ir
 have aw:=cJ aw
 refine⟨by omega,by omega,by omega,by omega,by omega,⟨cJ fy,cJ e7⟩,⟨cJ t1,cJ t2⟩,fun i hi=>?_,fun i hi=>?_⟩
 ·obtain⟨a,b⟩:=iX (oV W hi);exact⟨cJ a,cJ b⟩
 ·obtain⟨a,b⟩:=iX (oV aH hi)
  have a:=cJ a
  have b:=cJ b
  exact⟨by omega,by omega⟩
structure Iu(p:aD)(fd:List bh)(f:ee):Prop where
 ok:p.b5
 aeo:It p
 c:Ip p fd f
 a:qX p f.bj f.ay f.ax
 gH:f.bF.length=p.a1.length
 hH:f.lets.length<=64
theorem aep{p:aD}{fd:List bh}{f:ee}(h:Iu p fd f){x:aR}(hw:kW p fd f.lets.length x):om p f x (fm p f x.l):=by
 have aeq:=hw.y6 h.c.fr h.c.aq h.c.aw
 refine⟨hw.ao,h.c.fr.oO,CY _ _ _,fun i=>?_,by rw[<-y4];exact aeq,h.a.nf,h.c.lj,h.gH,fun K=>?_,fun K=>?_⟩
 ·by_cases hi:i<x.l.length
  ·rw[show(fm p f x.l).getD i default=_ from rQ p f hi];exact(hw.part (dJ hi)).y6 h.c.fr h.c.aq h.c.aw
  ·rw[cN,List.getElem?_eq_none (by rw[CY];omega)];exact(⟨by decide,by decide⟩:dw 0)
 ·have h9:=hw.ao.rF K
  have an:=h.c.lK x.index.toNat (by omega)
  have aa:=h.aeo.lY x.index.toNat (by omega)
  have an:(((f.bF.getD x.index.toNat default).length:Nat):Int)=_:=an
  omega
 ·have hlen:=hw.ao.len
  have cS:x.kind=6\/x.kind=7:=by
   unfold uT at K
   by_cases fc:x.kind=6
   ·exact .inl fc
   ·by_cases gE:x.kind=7
    ·exact .inr gE
    ·simp[fc,gE]at K
  have iF:(x.l.length:Int)=1:=by rcases cS with K|K<;>rw[K]at hlen<;>exact hlen
  rw[show(fm p f x.l).getD 0 default=_ from rQ p f (show 0<x.l.length by omega)]
  have Z:=hw.part (dJ (show 0<x.l.length by omega))
  cases hw with
  |mk _ _ _ aC _=>
   obtain⟨s,an,bb,J⟩:=aC K
   have ae:=pL h.c.fr _ Z.lZ s an
   have:=h.a.Mf;have:=h.a.CZ
   have:=ae.1;have:=ae.2
   omega
theorem aer{p:aD}{fd:List bh}{f:ee}(lU:Iu p fd f)(x:aR)(Y:x.b5)(hw:kW p fd f.lets.length x)(aJ:∀y,y∈x.l->bw prog 98 [.ao 30 0,.cc A4,.d (.agg (cr y))] (gY p f) (aF .i64 (eY p f y)) (gY p f) [30,31,32,33]):bw prog 98 [.ao 30 0,.cc A4,.d (.agg (cr x))] (gY p f) (aF .i64 (eY p f x)) (gY p f) [30,31,32,33]:=by
 have hlen:=hw.ao.len
 have Tt:=Y.len
 refine cB [.tmp 6] func98 D D fun E K af=>?_
 refine aO (cV 5 D D D<|aN 1 D)<|al<|aL 3 D<|a7 D (fun aP=>?_) fun aP=>?_
 ·have FN:x.kind=19:=cJ aP
  rw[FN]at hlen
  have Iv:(x.l.length:Int)=4:=hlen
  refine al<|ft (O 4 D<|ag ((eN iR D D).bK (y:=.cc (cr (x.l.getD 0 default))) (iT (by omega)))<|O 1 D<|kI (hd D D D) (aJ (x.l.getD 0 default) (dJ (by omega))) (au D) (.hf D D D D) D<|O 4 D<|ag ((eN iR D D).bK (y:=.cc (cr (x.l.getD 1 default))) (iT (by omega)))<|O 1 D<|kI (hd D D D) (aJ (x.l.getD 1 default) (dJ (by omega))) (au D) (.hf D D D D) D<|aN 1 D)<|a7 D (fun bq=>?_) fun bq=>?_
  ·have aG:decide (eY p f (x.l.getD 0 default)<eY p f (x.l.getD 1 default))=true:=bq
   have e:eY p f x=eY p f (x.l.getD 2 default):=by
    rw[y4];unfold gA;rw[FN]
    show(bif decide ((fm p f x.l).getD 0 0<(fm p f x.l).getD 1 0)then(fm p f x.l).getD 2 0 else(fm p f x.l).getD 3 0)=_
    rw[rQ _ _ (show 0<x.l.length by omega),rQ _ _ (show 1<x.l.length by omega),aG,cond_true,rQ _ _ (show 2<x.l.length by omega)]
   refine aO (O 4 D<|ag ((eN iR D D).bK (y:=.cc (cr (x.l.getD 2 default))) (iT (by omega)))<|O 1 D<|kI (hd D D D) (aJ (x.l.getD 2 default) (dJ (by omega))) (au D) (.hf D D D D) D<|aN 1 D)<|bp<|⟨.inr D,⟨_,(.cons (.tmp D) .nil),?_⟩,cU (.hf D D D D)⟩
   rw[e];rfl
  have aG:decide (eY p f (x.l.getD 0 default)<eY p f (x.l.getD 1 default))=false:=bq
  have e:eY p f x=eY p f (x.l.getD 3 default):=by
    rw[y4];unfold gA;rw[FN]
    show(bif decide ((fm p f x.l).getD 0 0<(fm p f x.l).getD 1 0)then(fm p f x.l).getD 2 0 else(fm p f x.l).getD 3 0)=_
    rw[rQ _ _ (show 0<x.l.length by omega),rQ _ _ (show 1<x.l.length by omega),aG,cond_false,rQ _ _ (show 3<x.l.length by omega)]
  refine bx<|aO (O 4 D<|ag ((eN iR D D).bK (y:=.cc (cr (x.l.getD 3 default))) (iT (by omega)))<|O 1 D<|kI (hd D D D) (aJ (x.l.getD 3 default) (dJ (by omega))) (au D) (.hf D D D D) D<|aN 1 D)<|bp<|⟨.inr D,⟨_,(.cons (.tmp D) .nil),?_⟩,cU (.hf D D D D)⟩
  rw[e];rfl
 have aes:x.kind≠19:=dj aP
 refine bx<|aL 1 D<|al<|al<|c1 (b1.ve (t:=7) (l:=80) (n:=1) (cs:=[.cv .i64 []]) D D (by rw[K];decide) (by rw[af];exact cC D) D (by simp[bz.len]))<|fS 4 rfl<|bX<|eP (σ:=Nat) [(ab 0,_),(ab 1,_),(ab 5,_),(ab 43,_),(ab 44,_),(G 30,_),(G 31,_),(G 32,_),(G 33,_),(G 5,_)] (fun i=>[(ab 45,.aB (aF .i64 (i:Int))),(ab 7,.aB (.aQ 80 i)),(G 80,.U (.bG 1 i [.cv .i64 ((fm p f x.l).take i)]))]) (fun i=>i<=x.l.length) (fun i=>x.l.length-i) 0 (ck D D<|aZ D<|aU) (fs D D D D D D D D<|ck D D<|aU) (Nat.zero_le _) fun i hi=>?_
 refine aL 1 D<|al<|a7 D (fun b3=>?_) fun b3=>?_
 ·have aG:i<x.l.length:=eJ b3
  have fz:(fm p f x.l).take (i+1)=(fm p f x.l).take i++[eY p f (x.l.getD i default)]:=by rw[uD (by rw[CY];exact aG),show(fm p f x.l).getD i default=_ from rQ p f aG]
  have Mq:((fm p f x.l).take i).length=i:=by rw[rv,CY];omega
  exact bx<|al<|bX<|aO (ag ((eN iR D D).bK (y:=.cc (cr (x.l.getD i default))) (iT (by omega)))<|O 1 D<|cm 9 hn D<|cL dL D D D D<|ar)<|gI 80 81 D<|bm (O 4 D<|kI (hd D D D) (aJ (x.l.getD i default) (dJ (by omega))) (au D) (.hf D D D D) D<|gN 54 [] iQ iC D (by decide) (by decide) (ba D D D (.nil _ _)) D D D<|hA 80 [G 81] p0 p1 (by decide) (.aQ (I D) D) (.aQ (I D) D) (bz.hT D) (hB D) (by omega) (by omega) (cs:=[.cv .i64 ((fm p f x.l).take i++[eY p f (x.l.getD i default)])]) D D<|aN 1 D)<|bm (cp D D D<|aN 1 D)<|⟨i+1,aG,fD (by assumption),aZ (ec (by omega))<|aZ D<|aZ (by rw[fz];rfl)<|aU,fs D D D D D D D D<|ck D D<|aU⟩
 obtain rfl:i=(fm p f x.l).length:=by have:=dj b3;rw[CY];omega
 rw[List.take_length]
 refine dW<|al<|c1 (b1.tb (t:=7) (l:=80) (n:=1) (g:=fun j=>[av ((fm p f x.l).getD j default)]) D D fun j az=>rfl)<|?_
 obtain⟨g,ha,oT,jd⟩:=aen lU.ok (aep lU hw) aes
 have ep:=hw.ao.AD
 refine eo (O 4 D<|ag (.Lo XT (I D) (I D) (fun _=>⟨by omega,by omega⟩) D)<|ag (.fG Pl (I D) (r:=.v (.func (.func g) #[] #[])) (by rw[List.getElem?_drop];simpa using ha))<|O 3 D<|kI (wF (I D) (.cons (I D) (.cons (I D) (.cons (I D) .nil)))) jd oT (.hf D D D D) D<|aN 1 D)<|bp<|⟨.inr D,⟨_,(.cons (.tmp D) .nil),?_⟩,cU (.hf D D D D)⟩
 rw[y4];rfl
theorem aet{p:aD}{fd:List bh}{f:ee}(lU:Iu p fd f):∀x:aR,x.b5->kW p fd f.lets.length x->bw prog 98 [.ao 30 0,.cc A4,.d (.agg (cr x))] (gY p f) (aF .i64 (eY p f x)) (gY p f) [30,31,32,33]:=aR.ind fun x aJ Y hw=>aer lU x Y hw fun y ak=>aJ y ak (Y.part y ak) (hw.part ak)
structure A5(p:aD):Prop where
 pos:0<p.ah.length
 AD:∀i,i<p.ah.length->1<=(b9 p i).kind/\(b9 p i).kind<=4
 Bp:(b9 p (p.ah.length-1)).kind=4
 aeu:∀i,i+1<p.ah.length->(b9 p i).kind≠4
 C2:∀i j,i<j->j<p.ah.length->tv (b9 p i).kind=true->(b9 p i).kind=(b9 p j).kind->(b9 p i).index≠(b9 p j).index
 bj:∀i,i<p.params.length->-2147483648<=(p.params.getD i default).lo/\(p.params.getD i default).lo<=(p.params.getD i default).hi/\(p.params.getD i default).hi<=2147483647
 nG:∀i,i<p.bt.length->-2147483648<=(p.bt.getD i default).lo/\(p.bt.getD i default).lo<=(p.bt.getD i default).hi/\(p.bt.getD i default).hi<=2147483647
 lY:∀i,i<p.a1.length->-2147483648<=(p.a1.getD i default).lo/\(p.a1.getD i default).lo<=(p.a1.getD i default).hi/\(p.a1.getD i default).hi<=2147483647
 vI:∀i,i<p.bM.length->∀v∈(p.bM.getD i default).dU,-2147483648<=v/\v<=2147483647
theorem Mr{d:List gj}{gP:mh}{s:eM}{r:Int×mh}(h:kK d gP false s=some r)(an:tv s.kind=true):(cb gP (qa s.kind,r.1)).getD false=false/\r.2=dM gP (qa s.kind,r.1) true:=by
 unfold kK at h
 rw[an,cond_true]at h
 cases aM:cb d s.name with
 |none=>rw[aM]at h;cases h
 |some t=>
  rw[aM]at h
  simp only at h
  cases K:decide (t.kind=qa s.kind)with
  |false=>rw[K]at h;cases h
  |true=>
   rw[K,cond_true]at h
   have K:=cJ K
   cases ae:(bif !false then !(cb gP (t.kind,t.index)).getD false else false)with
   |false=>rw[ae]at h;cases h
   |true=>
    rw[ae,cond_true]at h
    injection h with h
    subst h
    rw[<-K]
    refine⟨?_,rfl⟩
    simpa using ae
theorem aev{d:List gj}{gP:mh}{s:eM}{r:Int×mh}(h:kK d gP false s=some r)(an:tv s.kind=false):r.2=gP:=by
 unfold kK at h
 rw[an,cond_false]at h
 injection h with h
 rw[<-h]
theorem Tu{d:List gj}{l:List eM}{n:Nat}{q:mh×Bool×List eM}(h:jR d l (n+1)=some q):q.2.1=decide ((l.getD n default).kind=4):=by
 simp only[jR]at h
 cases J:jR d l n with
 |none=>rw[J]at h;cases h
 |some eE=>
  rw[J]at h
  simp only[Option.map_eq_some_iff]at h
  obtain⟨r,_,rfl⟩:=h
  rfl
theorem Tv{d:List gj}{l:List eM}:∀{n:Nat} {q:mh×Bool×List eM},jR d l n=some q->∀i,i<n->tv (l.getD i default).kind=true->cb q.1 (qa (l.getD i default).kind,(q.2.2.getD i default).index)=some true
 |0,q,h,i,hi,_=>by omega
 |n+1,q,h,i,hi,an=>by
  obtain⟨gP,x,r,aX,bu,dV,iw⟩:=CL h n (qk n)
  have aa:=EZ h
  have bA:q.1=r.2:=by
   simp only[jR]at h
   rw[aX]at h
   simp only[Option.map_eq_some_iff,vD,bu,dV,Bool.not_false,cond_true]at h
   obtain⟨u,hu,bA⟩:=h
   injection hu with hu
   rw[<-bA,<-hu]
  rw[bA]
  by_cases js:i=n
  ·subst js
   rw[(Mr dV an).2,iw,oI,if_pos D]
  ·have aJ:=Tv aX i (by omega) an
   have aT:((q.2.2.take n).getD i default)=q.2.2.getD i default:=by
    simp only[cN,pQ (show i<n by omega)]
   simp only[aT]at aJ
   cases Tw:tv (l.getD n default).kind with
   |false=>rw[aev dV Tw];exact aJ
   |true=>
    rw[(Mr dV Tw).2,oI]
    split
    ·rfl
    ·exact aJ
theorem Ms{b:cA}(h:yF b=true):-2147483648<=b.lo/\b.lo<=b.hi/\b.hi<=2147483647:=by
 unfold yF sr at h
 obtain⟨h,aH⟩:=iX h
 obtain⟨J,W⟩:=iX h
 obtain⟨ca,a2⟩:=iX J
 obtain⟨fK,fO⟩:=iX W
 have:=cJ ca
 have:=cJ fO
 have:=cJ aH
 exact⟨by assumption,by assumption,by assumption⟩
theorem A6{p:aD}(h:hZ p=some p):A5 p:=by
 obtain⟨bf,aa,aq,aE,gP,aT⟩:=y2 h
 have oh:=S7 h
 have ep:∀i,i<p.ah.length->1<=(b9 p i).kind/\(b9 p i).kind<=4:=fun i hi=>by
  have J:=oV bf hi
  simp only[eL]at J
  have J:=J.1
  unfold xg at J
  obtain⟨J,_⟩:=iX J
  obtain⟨J,W⟩:=iX J
  exact⟨cJ J,cJ W⟩
 unfold ss at aE
 simp only[eL]at aE
 obtain⟨⟨ae,pk⟩,_⟩:=aE
 rw[List.all_append,List.all_append,eL,eL]at ae
 have iN:∀j,j<p.ah.length->∃(gP:mh) (r:Int×mh),jR (gV p) p.ah j=some (gP,false,p.ah.take j)/\kK (gV p) gP false (b9 p j)=some r/\(b9 p j).index=r.1:=fun j az=>by
  obtain⟨gP,x,r,aX,bu,dV,iw⟩:=CL aT j az
  simp only at iw
  exact⟨gP,r,aX,dV,by show(p.ah.getD j default).index=r.1;rw[iw]⟩
 refine⟨oh,ep,?_,fun i hi=>?_,fun i j iK az an K he=>?_,fun i hi=>Ms (oV ae.1.1 hi),fun i hi=>Ms (oV ae.1.2 hi),fun i hi=>?_,fun i hi v aK=>?_⟩
 ·obtain⟨n,af⟩:∃n,p.ah.length=n+1:=⟨p.ah.length-1,by omega⟩
  rw[af]at aT⊢
  have:=Tu aT
  exact cJ this.symm
 ·obtain⟨gP,r,aX,_,_⟩:=iN (i+1) hi
  have:=Tu aX
  exact dj this.symm
 ·obtain⟨gP,r,aX,bu,dV⟩:=iN j az
  have J:=(Mr bu (by rw[<-K];exact an)).1
  have W:=Tv aX i iK an
  have aT:((p.ah.take j).getD i default)=p.ah.getD i default:=by
   simp only[cN,pQ iK]
  simp only[aT]at W
  have he:(p.ah.getD i default).index=r.1:=he.trans dV
  have K:(p.ah.getD i default).kind=(b9 p j).kind:=K
  rw[he,K]at W
  rw[W]at J
  cases J
 ·have:=Ms (b:=oL (p.a1.getD i default)) (by have:=oV ae.2 (i:=i) (by simpa using hi);rwa[Sr hi]at this)
  exact this
 ·have:=oV pk hi
  unfold Ck at this
  have nm:((p.bM.getD i default).dU.any fun n=> !sr n)=false:=by simpa using this
  rw[List.any_eq_false]at nm
  have:=nm v aK
  have J:sr v=true:=by simpa using this
  unfold sr at J
  obtain⟨ca,a2⟩:=iX J
  exact⟨cJ ca,cJ a2⟩
section
def lQ(m:List (Int×Int)):List (Int×Bool):=m.map fun q=>(q.1,true)
theorem FO:∀(m:List (Int×Int)) (k:Int),ig (lQ m) k=(cb m k).isSome
 |[],k=>rfl
 |q::r,k=>by
  have aJ:=FO r k
  unfold ig lQ at*
  simp only[List.map_cons,cb]
  split
  ·rfl
  ·exact aJ
theorem Tx{N:Nat}{m pK:List (Int×Bool)}(h:∀k,ig m k=true->ig pK k=true):iZ N pK<=iZ N m:=by
 have key:∀l:List Nat,(l.filter fun k:Nat=> !ig pK (k:Int)).length<=(l.filter fun k:Nat=> !ig m (k:Int)).length:=by
  intro l
  induction l with
  |nil=>exact Nat.le_refl _
  |cons x l aJ=>
   rw[List.filter_cons,List.filter_cons]
   cases J:ig m (x:Int)with
   |true=>rw[h _ J];simpa using aJ
   |false=>
    cases ig pK (x:Int)with
    |true=>simp only[Bool.not_true,Bool.not_false,if_true,ek];simp;omega
    |false=>simp only[Bool.not_false,if_true,ek];omega
 exact key _
theorem aew{N:Nat}{m pK:List (Int×Bool)}{a:Int}(bb:0<=a)(ik:a<N)(bJ:ig m a=false)(J:ig pK a=true)(h:∀k,ig m k=true->ig pK k=true):iZ N pK<iZ N m:=
 Nat.lt_of_le_of_lt (Tx fun k K=>by
  rw[uV]at K
  split at K
  ·rename_i e;rw[e];exact J
  ·exact h k K) (S3 bb ik bJ)
section
variable (p:aD) (cG:List ((Int×Int)×Int))
structure A7(mP:List (Int×Int))(a:Int)(m:Int)(x:aR):Prop where
 lt:x.kind=5->∃v,cb mP x.index=some v/\v<=m
 nG:x.kind=4->∀b,cb cG (2,x.index)=some b->∃v,cb mP b=some v/\v<=m/\(a<=b->v+1<=m)
 rF:x.kind=8->∀b,cb cG (3,x.index)=some b->∃v,cb mP b=some v/\v+(p.a1.getD x.index.toNat default).size<=m
inductive rU(mP:List (Int×Int))(a:Int)(m:Int):aR->Prop
 |mk {x:aR} (h:A7 p cG mP a m x) (aa:∀y∈x.l,rU mP a m y):rU mP a m x
structure sK(bC:eX):Prop where
 mP:∀a v,cb bC.1 a=some v->0<=a/\a<p.ah.length/\rU p cG bC.1 a v (b9 p a.toNat).x/\0<=v/\v+iZ p.ah.length (lQ bC.1)*65537<=p.ah.length*65537
 Mt:∀k,ig bC.2 k=true->cb bC.1 k=none
structure rV(bC C3:eX):Prop where
 vJ:sK p cG C3
 ext:∀a v,cb bC.1 a=some v->cb C3.1 a=some v
 op:∀k,ig C3.2 k=ig bC.2 k
end
section
variable {p:aD} {cG:List ((Int×Int)×Int)}
theorem A7.up{mP FP:List (Int×Int)}{a m pK:Int}{x:aR}(h:A7 p cG mP a m x)(he:∀a v,cb mP a=some v->cb FP a=some v)(aw:m<=pK):A7 p cG FP a pK x:=
 ⟨fun K=>let⟨v,J,W⟩:=h.lt K;⟨v,he _ _ J,by omega⟩,fun K b ae=>let⟨v,J,W,aH⟩:=h.nG K b ae;⟨v,he _ _ J,by omega,fun h=>by have:=aH h;omega⟩,fun K b ae=>let⟨v,J,W⟩:=h.rF K b ae;⟨v,he _ _ J,by omega⟩⟩
theorem rU.up{mP FP:List (Int×Int)}{a m pK:Int}(he:∀a v,cb mP a=some v->cb FP a=some v)(aw:m<=pK):∀x:aR,rU p cG mP a m x->rU p cG FP a pK x:=aR.ind fun x aJ h=>by
 cases h with
 |mk h aa=>exact .mk (h.up he aw) fun y ak=>aJ y ak (aa y ak)
theorem rV.refl{bC:eX}(h:sK p cG bC):rV p cG bC bC:=⟨h,fun _ _ h=>h,fun _=>rfl⟩
theorem rV.trans{a b c:eX}(h:rV p cG a b)(h':rV p cG b c):rV p cG a c:=⟨h'.vJ,fun k v e=>h'.ext k v (h.ext k v e),fun k=>(h'.op k).trans (h.op k)⟩
theorem rV.iZ{bC C3:eX}(h:rV p cG bC C3):iZ p.ah.length (lQ C3.1)<=Go.Proofs.YtfgcfofjjiinjaaGreatDoor.iZ p.ah.length (lQ bC.1):=Tx fun k K=>by
 rw[FO]at K⊢
 cases aM:cb bC.1 k with
 |none=>rw[aM]at K;cases K
 |some v=>rw[h.ext k v aM];rfl
theorem Ty{n:Int}(h:-9223372036854775808<=n/\n<=9223372036854775807):AU n=n:=nE ⟨by have:=h.1;omega,by have:=h.2;omega⟩
theorem Mu{f:Int->Int}{o:Option hs}{r:eX×Int}(h:Ft f o=some (some r)):∃q:eX×Int,o=some (some q)/\r=(q.1,f q.2):=by
 cases o with
 |none=>cases h
 |some o=>
  cases o with
  |none=>cases h
  |some q=>injection h with h;injection h with h;exact⟨q,rfl,h.symm⟩
abbrev C4(p:aD)(bC:eX)(n:Int):Prop:=0<=n/\n+iZ p.ah.length (lQ bC.1)*65537<=p.ah.length*65537+65537
theorem aex(ik:p.ah.length<=65536)(lJ:∀k b,cb cG k=some b->0<=b/\b<p.ah.length)(cj:∀i,i<p.a1.length->0<=(p.a1.getD i default).size/\(p.a1.getD i default).size<=65536){lh:Int->eX->Option hs}
  (dk:∀(b:Int) (bC:eX) r,0<=b->b<p.ah.length->sK p cG bC->lh b bC=some (some r)->rV p cG bC r.1/\cb r.1.1 b=some r.2) {a:Int} {x:aR} (Y:n8 p p.ah.length x) {bC:eX} (hi:sK p cG bC) {r:eX×Int} (h:tF p cG lh a x bC=some (some r)):rV p cG bC r.1/\A7 p cG r.1.1 a r.2 x/\C4 p r.1 r.2:=by
 have key:∀(b:Int) (q:eX×Int),0<=b->b<p.ah.length->lh b bC=some (some q)->rV p cG bC q.1/\cb q.1.1 b=some q.2/\0<=q.2/\q.2+iZ p.ah.length (lQ q.1.1)*65537<=p.ah.length*65537:=fun b q bb J e=>by
  obtain⟨W,aH⟩:=dk b bC q bb J hi e
  obtain⟨_,_,_,aV,db⟩:=W.vJ.mP b q.2 aH
  exact⟨W,aH,aV,db⟩
 unfold tF at h
 cases db:decide (x.kind=5)with
 |true=>
  rw[db,cond_true]at h
  have K:=cJ db
  have aa:=Y.lt K
  obtain⟨k8,mz,qO,E5⟩:=key _ r aa.1 aa.2 h
  exact⟨k8,⟨fun _=>⟨_,mz,Int.le_refl _⟩,fun h=>by omega,fun h=>by omega⟩,qO,by omega⟩
 |false=>
  rw[db,cond_false]at h
  have tD:=dj db
  cases aV:decide (x.kind=4)with
  |true=>
   rw[aV,cond_true]at h
   have K:=cJ aV
   cases aM:cb cG (2,x.index)with
   |none=>
    rw[aM]at h
    injection h with h;injection h with h;subst h
    have aj:=FC p.ah.length (lQ bC.1)
    exact⟨.refl hi,⟨fun h=>by omega,fun _ b ae=>(by rw[aM]at ae;cases ae),fun h=>by omega⟩,Int.le_refl _,by show(0:Int)+(iZ p.ah.length (lQ bC.1):Nat)*65537<=_;omega⟩
   |some b=>
    rw[aM]at h
    simp only at h
    have ae:=lJ _ _ aM
    cases aG:decide (b<a)with
    |true=>
     rw[aG,cond_true]at h
     obtain⟨k8,mz,qO,E5⟩:=key _ r ae.1 ae.2 h
     have:=cJ aG
     exact⟨k8,⟨fun h=>by omega,fun _ qY ij=>by rw[aM]at ij;injection ij with ij;subst ij;exact⟨_,mz,Int.le_refl _,fun h=>by omega⟩,fun h=>by omega⟩,qO,by omega⟩
    |false=>
     rw[aG,cond_false]at h
     obtain⟨q,bA,rfl⟩:=Mu h
     obtain⟨k8,mz,qO,E5⟩:=key _ q ae.1 ae.2 bA
     have e:AU (q.2+1)=q.2+1:=Ty ⟨by omega,by omega⟩
     simp only[e]
     exact⟨k8,⟨fun h=>by omega,fun _ qY ij=>by rw[aM]at ij;injection ij with ij;subst ij;exact⟨_,mz,by omega,fun h=>Int.le_refl _⟩,fun h=>by omega⟩,by show 0<=q.2+1;omega,by show q.2+1+_<=_;omega⟩
  |false=>
   rw[aV,cond_false]at h
   have hf:=dj aV
   cases h9:decide (x.kind=8)with
   |true=>
    rw[h9,cond_true]at h
    have K:=cJ h9
    have aa:=Y.rF K
    have bd:=cj x.index.toNat (by omega)
    cases aM:cb cG (3,x.index)with
    |none=>
     rw[aM]at h
     injection h with h;injection h with h;subst h
     have aj:=FC p.ah.length (lQ bC.1)
     exact⟨.refl hi,⟨fun h=>by omega,fun h=>by omega,fun _ b ae=>(by rw[aM]at ae;cases ae)⟩,Int.le_refl _,by show(0:Int)+(iZ p.ah.length (lQ bC.1):Nat)*65537<=_;omega⟩
    |some b=>
     rw[aM]at h
     simp only at h
     have ae:=lJ _ _ aM
     obtain⟨q,bA,rfl⟩:=Mu h
     obtain⟨k8,mz,qO,E5⟩:=key _ q ae.1 ae.2 bA
     have e:AU (q.2+(p.a1.getD x.index.toNat default).size)=q.2+(p.a1.getD x.index.toNat default).size:=Ty ⟨by omega,by omega⟩
     simp only[e]
     exact⟨k8,⟨fun h=>by omega,fun h=>by omega,fun _ qY ij=>by rw[aM]at ij;injection ij with ij;subst ij;exact⟨_,mz,Int.le_refl _⟩⟩,by show 0<=q.2+_;omega,by show q.2+_+_<=_;omega⟩
   |false=>
    rw[h9,cond_false]at h
    have kT:=dj h9
    injection h with h;injection h with h;subst h
    have aj:=FC p.ah.length (lQ bC.1)
    exact⟨.refl hi,⟨fun h=>by omega,fun h=>by omega,fun h=>by omega⟩,Int.le_refl _,by show(0:Int)+(iZ p.ah.length (lQ bC.1):Nat)*65537<=_;omega⟩
def Iw(p:aD)(cG:List ((Int×Int)×Int))(a:Int)(bC:eX)(n:Int)(r:eX×Int):Prop:=rV p cG bC r.1/\n<=r.2/\C4 p r.1 r.2
theorem aey{a:Int}{gJ:aR->eX->Int->Option hs}(an:∀x bC n r,n8 p p.ah.length x->sK p cG bC->C4 p bC n->gJ x bC n=some (some r)->Iw p cG a bC n r/\A7 p cG r.1.1 a r.2 x):∀x:aR,ff p p.ah.length x->∀bC n r,sK p cG bC->C4 p bC n->rM gJ x bC n=some (some r)->Iw p cG a bC n r/\rU p cG r.1.1 a r.2 x:=aR.ind fun x aJ Y bC n r hi af h=>by
 cases Y with
 |mk Y bf=>
  have aa:∀l:List aR,(∀y∈l,y∈x.l)->∀bC n r,sK p cG bC->C4 p bC n->sD gJ l bC n=some (some r)->Iw p cG a bC n r/\∀y∈l,rU p cG r.1.1 a r.2 y:=by
   intro l
   induction l with
   |nil=>
    intro _ bC n r hi af h
    simp only[sD,en]at h
    subst h
    exact⟨⟨.refl hi,Int.le_refl _,af⟩,fun y ak=>by cases ak⟩
   |cons y t Ix=>
    intro aw bC n r hi af h
    simp only[sD]at h
    cases J:rM gJ y bC n with
    |none=>rw[J]at h;cases h
    |some o=>
     cases o with
     |none=>rw[J]at h;cases h
     |some q=>
      rw[J]at h
      simp only at h
      obtain⟨⟨mT,kt,oS⟩,FQ⟩:=aJ y (aw y (by simp)) (bf y (aw y (by simp))) bC n q hi af J
      obtain⟨⟨v1,v2,v3⟩,v4⟩:=Ix (fun z bd=>aw z (by simp[bd])) q.1 q.2 r mT.vJ oS h
      refine⟨⟨mT.trans v1,by omega,v3⟩,fun z bd=>?_⟩
      rcases eb.1 bd with rfl|bd
      ·exact rU.up v1.ext v2 _ FQ
      ·exact v4 z bd
  rw[LR]at h
  cases J:gJ x bC n with
  |none=>rw[J]at h;cases h
  |some o=>
   cases o with
   |none=>rw[J]at h;cases h
   |some q=>
    rw[J]at h
    simp only at h
    obtain⟨⟨mT,kt,oS⟩,FQ⟩:=an x bC n q Y hi af J
    obtain⟨⟨v1,v2,v3⟩,v4⟩:=aa x.l (fun y h=>h) q.1 q.2 r mT.vJ oS h
    exact⟨⟨mT.trans v1,by omega,v3⟩,.mk (FQ.up v1.ext v2) v4⟩
theorem aez(ik:p.ah.length<=65536)(lJ:∀k b,cb cG k=some b->0<=b/\b<p.ah.length)(cj:∀i,i<p.a1.length->0<=(p.a1.getD i default).size/\(p.a1.getD i default).size<=65536){lh:Int->eX->Option hs}
  (dk:∀(b:Int) (bC:eX) r,0<=b->b<p.ah.length->sK p cG bC->lh b bC=some (some r)->rV p cG bC r.1/\cb r.1.1 b=some r.2) {a:Int} (x:aR) (bC:eX) (n:Int) (r:eX×Int) (Y:n8 p p.ah.length x) (hi:sK p cG bC) (af:C4 p bC n) (h:vQ p cG lh a x bC n=some (some r)):Iw p cG a bC n r/\A7 p cG r.1.1 a r.2 x:=by
 obtain⟨q,bA,rfl⟩:=Mu h
 obtain⟨mT,kt,oS⟩:=aex ik lJ cj dk Y hi bA
 have:=mT.iZ
 exact⟨⟨mT,by show n<=max n q.2;omega,by show 0<=max n q.2;omega,by show max n q.2+(iZ p.ah.length (lQ q.1.1):Nat)*65537<=_;omega⟩,kt.up (fun _ _ h=>h) (by show q.2<=max n q.2;omega)⟩
theorem Tz(ik:p.ah.length<=65536)(mD:∀i,i<p.ah.length->ff p p.ah.length (p.ah.getD i default).x)(lJ:∀k b,cb cG k=some b->0<=b/\b<p.ah.length)(cj:∀i,i<p.a1.length->0<=(p.a1.getD i default).size/\(p.a1.getD i default).size<=65536):
  ∀(f:Nat) (a:Int) (bC:eX) r,0<=a->a<p.ah.length->sK p cG bC->oW p cG f a bC=some (some r)->rV p cG bC r.1/\cb r.1.1 a=some r.2
 |0,a,bC,r,_,_,_,h=>by cases h
 |f+1,a,bC,r,bb,J,hi,h=>by
  unfold oW at h
  cases ha:(cb bC.2 a).getD false with
  |true=>rw[ha]at h;cases h
  |false=>
   rw[ha,cond_false]at h
   cases aM:cb bC.1 a with
   |some n=>
    rw[aM]at h
    injection h with h;injection h with h;subst h
    exact⟨.refl hi,aM⟩
   |none=>
    rw[aM]at h
    simp only at h
    have DH:sK p cG (bC.1,dM bC.2 a true):=⟨hi.mP,fun k K=>by
     have K:ig (dM bC.2 a true) k=true:=K
     rw[uV]at K
     split at K
     ·rename_i e;subst e;exact aM
     ·exact hi.Mt k K⟩
    have aj:=FC p.ah.length (lQ bC.1)
    have gv:=aey (p:=p) (cG:=cG) (a:=a) (gJ:=vQ p cG (oW p cG f) a) (aez ik lJ cj fun b bC r=>Tz ik mD lJ cj f b bC r) (p.ah.getD a.toNat default).x (mD _ (by omega)) (bC.1,dM bC.2 a true) 0
    cases W:rM (vQ p cG (oW p cG f) a) (p.ah.getD a.toNat default).x (bC.1,dM bC.2 a true) 0 with
    |none=>rw[W]at h;cases h
    |some o=>
     cases o with
     |none=>rw[W]at h;cases h
     |some q=>
      rw[W]at h
      injection h with h;injection h with h;subst h
      obtain⟨⟨mT,kt,oS⟩,FQ⟩:=gv q DH ⟨Int.le_refl _,by show(0:Int)+iZ _ (lQ bC.1)*65537<=_;omega⟩ W
      have aeA:ig q.1.2 a=true:=by rw[mT.op,uV,if_pos rfl]
      have TA:=mT.vJ.Mt a aeA
      have Iy:∀k v,cb q.1.1 k=some v->cb (dM q.1.1 a q.2) k=some v:=fun k v e=>by
       rw[oI]
       by_cases K:a=k
       ·subst K;rw[TA]at e;cases e
       ·rw[if_neg K];exact e
      have aG:iZ p.ah.length (lQ (dM q.1.1 a q.2))<iZ p.ah.length (lQ q.1.1):=aew bb J (by rw[FO,TA];rfl) (by rw[FO,oI,if_pos rfl];rfl) fun k K=>by
       rw[FO]at K⊢
       cases aM:cb q.1.1 k with
       |none=>rw[aM]at K;cases K
       |some v=>rw[Iy k v aM];rfl
      refine⟨⟨⟨fun k v e=>?_,fun k K=>?_⟩,fun k v e=>Iy k v (mT.ext k v e),fun k=>?_⟩,by show cb (dM q.1.1 a q.2) a=_;rw[oI,if_pos rfl]⟩
      ·have e:cb (dM q.1.1 a q.2) k=some v:=e
       show 0<=k/\k<_/\rU p cG (dM q.1.1 a q.2) k v (b9 p k.toNat).x/\0<=v/\v+iZ _ (lQ (dM q.1.1 a q.2))*65537<=_
       rw[oI]at e
       by_cases K:a=k
       ·subst K
        rw[if_pos rfl]at e
        injection e with e;subst e
        have aV:=oS.1;have db:=oS.2
        exact⟨bb,J,rU.up Iy (Int.le_refl _) _ FQ,aV,by omega⟩
       ·rw[if_neg K]at e
        obtain⟨g1,g2,g3,g4,g5⟩:=mT.vJ.mP k v e
        exact⟨g1,g2,rU.up Iy (Int.le_refl _) _ g3,g4,by omega⟩
      ·have K:ig (dM q.1.2 a false) k=true:=K
       show cb (dM q.1.1 a q.2) k=none
       rw[uV]at K
       by_cases A8:k=a
       ·rw[if_pos A8]at K;cases K
       ·rw[if_neg A8]at K
        rw[oI,if_neg (Ne.symm A8)]
        exact mT.vJ.Mt k K
      ·show ig (dM q.1.2 a false) k=ig bC.2 k
       rw[uV]
       by_cases A8:k=a
       ·subst A8;rw[if_pos rfl];exact ha.symm
       ·rw[if_neg A8,mT.op,uV,if_neg A8]
end
theorem aeB{p:aD}(ik:p.ah.length<=65536)(oh:0<p.ah.length)(mD:∀i,i<p.ah.length->ff p p.ah.length (p.ah.getD i default).x)(cj:∀i,i<p.a1.length->0<=(p.a1.getD i default).size/\(p.a1.getD i default).size<=65536)(h:0<=oZ p):∃bC:eX,sK p (iY p p.ah.length) bC/\cb bC.1 ((p.ah.length:Int)-1)=some (oZ p):=by
 unfold oZ at h⊢
 cases bJ:CW p with
 |none=>rw[bJ]at h;exact absurd h (by decide)
 |some r=>
  have J:=S6 mD oh
  rw[bJ]at J
  obtain⟨mT,kt⟩:=Tz ik mD (fun k b ae=>CM p _ k b ae) cj _ _ _ _ (by omega) (by omega) ⟨fun a v e=>(by cases e),fun k K=>rfl⟩ J
  exact⟨r.1,mT.vJ,kt⟩
theorem Iz{p:aD}{k i b:Int}:∀{n:Nat},cb (iY p n) (k,i)=some b->∃j:Nat,b=j/\j<n/\(b9 p j).kind=k/\(b9 p j).index=i
 |0,h=>by cases h
 |n+1,h=>by
  unfold iY at h
  cases ae:(bif decide ((p.ah.getD n default).kind=2)then true else decide ((p.ah.getD n default).kind=3))with
  |false=>
   rw[ae,cond_false]at h
   obtain⟨j,J,W,aH⟩:=Iz h
   exact⟨j,J,by omega,aH⟩
  |true=>
   rw[ae,cond_true,oI]at h
   split at h
   ·rename_i e
    injection h with h
    injection e with aX bu
    exact⟨n,h.symm,qk n,aX,bu⟩
   ·obtain⟨j,J,W,aH⟩:=Iz h
    exact⟨j,J,by omega,aH⟩
theorem IA{p:aD}{k i:Int}(K:k=2\/k=3):∀{n:Nat},cb (iY p n) (k,i)=none->∀j,j<n->(b9 p j).kind=k->(b9 p j).index≠i
 |0,_,j,az,_=>by omega
 |n+1,h,j,az,r9=>by
  unfold iY at h
  cases ae:(bif decide ((p.ah.getD n default).kind=2)then true else decide ((p.ah.getD n default).kind=3))with
  |false=>
   rw[ae,cond_false]at h
   rcases nj (qW az)with aG|rfl
   ·exact IA K h j aG r9
   ·have r9:(p.ah.getD j default).kind=k:=r9
    rw[r9]at ae
    rcases K with rfl|rfl<;>cases ae
  |true=>
   rw[ae,cond_true,oI]at h
   split at h
   ·cases h
   ·rename_i b2
    rcases nj (qW az)with aG|rfl
    ·exact IA K h j aG r9
    ·exact fun e=>b2 (by rw[show(p.ah.getD j default).kind=k from r9,show(p.ah.getD j default).index=i from e])
end
section
variable {P:Program} {S:ad} {ro:eR} {ops:Array Oper} {E:c7}
theorem TB{l:Nat}{cs:List ai}(h:cs.all (fun x=> !x.ke l)=true):∀x∈cs,¬gK x l:=fun x Y aw=>by
 have:=eZ.1 h x Y
 rw[zz aw]at this
 cases this
theorem aeC{aY:ad}{o:Oper}{x y:Operand}{t tx:TypeId}{d l l' e7 bytes df dv:Nat}{ds:List Nat}{ms A9 cs us:List ai}(bJ:o.op= .call ⟨.builtin .append,#[x,y],#[t,tx]⟩)(gM:o.dst=some d)(fY:o.guard=none)
  (aT:mB P t 1 bytes=true) (K:nb P tx=true) (gn:cd aY true x (.aQ l df)) (ae:aY.get (G l)=some (.U (.gR ms cs))) (hO:cs.length=df) (Mv:cd aY true y (.aQ e7 dv)) (l9:aY.get (G e7)=some (.U (.gR A9 us))) (J:∀c∈us,c.fk=true) (zO:l=l'\/G l∈ds)
  (FR:us.length=dv) (W:0<dv) (sk:A9=ms) (iv:ms.all (fun x=> !x.ke l')=true)
  (o9:(df+dv)*bytes<=140737488355328) (Bz:df+dv<=140737488355328):
  kA P ro ops o ⟨cQ o++[l,e7].map G,aY,fU ds l' (.gR ms (cs++us)) d (.aQ l' (df+dv)),[l']⟩:=by
 intro E S a w an bf dX ⟨V,M,aC,hw⟩ Q gD
 have aq:d<E.cg:=dX.2 d (Bt.2 (.inr (.inr D)))
 have wI:l'∉E.aA:=dX.1 l' (by simp)
 have aM:jc E aY o [l,e7] true V M a w:=qw (rn:=cQ o++[l,e7].map G) an (fun n af=>by simp[af]) (fun l aa=>by simp only[hy,List.mem_map];right;exact⟨l,by simpa using aa,rfl⟩) D aC hw
 have J5:y∈o.op.operands:=by rw[bJ];simp[Op.operands,Call.operands]
 have iM:x∈o.op.operands:=by rw[bJ];simp[Op.operands,Call.operands]
 have nU:∀y∈ms,¬gK y l':=TB iv
 have l8:jj V M w l ms cs:=aM.U l (by simp) _ ae
 have p3:jj V M w e7 A9 us:=aM.U e7 (by simp) _ l9
 have w0:∀x∈cs,¬gK x l':=fun x Y aw=>by obtain⟨y,ak,zW⟩:=l8.1 x Y _ aw;exact nU y ak zW
 have oQ:∀x∈us,¬gK x l':=fun x Y aw=>by obtain⟨y,ak,zW⟩:=p3.1 x Y _ aw;exact nU y (sk▸ak) zW
 have k9:∀x∈cs++us,∀m,gK x m->∃y∈ms,gK y m:=fun x Y m aw=>by
  rcases hy.1 Y with Y|Y
  ·exact l8.1 x Y m aw
  ·exact sk▸p3.1 x Y m aw
 obtain⟨fL,wJ,qC,nZ⟩:∃fL:List Value,Src P 1 tx (a.eval y) dv fL w/\fL.length=dv/\∀(i:Nat) (x:ai),us[i]?=some x->∃v,fL[i]?=some v/\bU V M x v:=by
  have kind:=Oj K
  have ak:=aM.ez y J5 _ Mv
  have za:jj V M w e7 A9 us:=aM.U e7 (by simp) _ l9
  unfold jj at za
  replace za:=za.2
  generalize a.eval y=v at ak
  cases ak with
  |k1 _ iA=>rw[iA]at za;simp only at za;subst za;simp at FR;omega
  |aQ _ _ cap iA aj=>
   rw[iA]at za
   obtain⟨g1,vs,gq,aW,cj,aE⟩:=za
   have aa:(vs.toList.take dv).length=dv:=by simp;omega
   have Mw:∀j u,(vs.toList.take dv)[j]?=some u->w.cell? ⟨V.aI e7,0+j,none⟩=some u:=fun j u hu=>by
    rw[List.getElem?_take]at hu
    split at hu
    ·simp only[World.cell?,aW,Nat.zero_add];simpa using hu
    ·cases hu
   have iy:∀j u,(vs.toList.take dv)[j]?=some u->w.cell? ((⟨V.aI e7,0,none⟩:Addr).add j)=some u:=fun j u hu=>by rw[oA];exact Mw j u hu
   have aq:∀(i:Nat) (x:ai),us[i]?=some x->∃v,(vs.toList.take dv)[i]?=some v/\bU V M x v:=fun i x Y=>by
    obtain⟨v,aK,eD⟩:=aE i x Y
    have hi:=(List.getElem?_eq_some_iff.1 Y).1
    exact⟨v,by rw[pQ (by omega)];simpa using aK,eD⟩
   refine⟨vs.toList.take dv,⟨kind,fun _=>rfl,run_firstCells_some w 1 dv ⟨V.aI e7,0,none⟩ dv cap _ (by rw[aa,Nat.mul_one]) iy,run_firstCells_some w.drew 1 dv ⟨V.aI e7,0,none⟩ dv cap _ (by rw[aa,Nat.mul_one]) (by simpa using iy),by rw[aa,Nat.mul_one],fun u hu=>?_⟩,aa,aq⟩
   obtain⟨i,hi,rfl⟩:=List.mem_iff_getElem.1 hu
   have kC:i<us.length:=by omega
   obtain⟨v,aK,eD⟩:=aq i us[i] (dx kC)
   rw[dx hi]at aK
   injection aK with aK
   rw[aK]
   exact J1 eD (J _ (List.getElem_mem kC))
 unfold lx
 rw[if_pos (by simp[Region.wanted,fY])]
 have h0:∀d,o.op≠ .defer d:=fun d h=>by rw[bJ]at h;cases h
 have jN:∀{v:Value} {w':World} {zP:Value},a.eval x=zP->(Builtin.append_ #[t,tx] o.type #[zP,a.eval y]).run P w= .ok v w'->(execOp a.eval o).run P w= .ok (.value v) w':=by
  intro v w' zP J6 aE
  generalize a.eval=aI at*
  simp only[execOp,bJ,resolve,de,e5,Result.andThen,invoke,builtin]
  simp[J6,aE]
 have aeD:∀(b:Nat) (k:Option Nat) (i:Nat) (x:ai),us[i]?=some x->∃v,fL[i]?=some v/\bU (V.set l' b k) M x v:=fun b k i x Y=>by
  obtain⟨v,aK,eD⟩:=nZ i x Y
  exact⟨v,aK,eD.pd _ _ (oQ x (List.mem_of_getElem? Y))⟩
 unfold mB at aT
 split at aT
 ·rename_i e hu
  split at aT
  ·rename_i inf hi
   simp only[eL]at aT
   obtain⟨⟨ud,pk⟩,rp⟩:=aT
   have aX:=kN ud
   have bu:=kN pk
   obtain⟨z,bd,pg⟩:∃z,inf.zero=some z/\z.cells.size=1:=by
    cases bd:inf.zero with
    |none=>rw[bd]at rp;cases rp
    |some z=>rw[bd]at rp;exact⟨z,rfl,kN rp⟩
   rw[<-aX]at wJ
   have mk:∀(b:Nat) (k:Option Nat) (mC rest:List Value),(∀(j:Nat) (x:ai),cs[j]?=some x->∃v,mC[j]?=some v/\bU (V.set l' b k) M x v)->mC.length=df->∀(j:Nat) (x:ai),(cs++us)[j]?=some x->∃v,(mC++fL++rest).toArray[j]?=some v/\bU (V.set l' b k) M x v:=by
    intro b k mC rest bJ wa j x Y
    rw[List.getElem?_append]at Y
    simp only[List.getElem?_toArray,List.append_assoc]
    split at Y
    ·rename_i az
     obtain⟨v,aK,eD⟩:=bJ j x Y
     exact⟨v,by rw[pf (by rw[wa,<-hO];exact az)];exact aK,eD⟩
    ·rename_i az
     obtain⟨v,aK,eD⟩:=aeD b k _ x Y
     refine⟨v,?_,eD⟩
     rw[List.getElem?_append_right (by rw[wa,<-hO];omega),wa,<-hO,pf (List.getElem?_eq_some_iff.1 aK).1]
     exact aK
   have grow:∀(ly:Option Addr) (iB:Nat) (mC:List Value),a.eval x= .slice ly df iB->iB<df+dv->(Builtin.firstCells inf.size df (.slice ly df iB)).run P w.drew= .ok mC.toArray w.drew->
     (∀(j:Nat) (x:ai),cs[j]?=some x->∃v,mC[j]?=some v/\bU V M x v)->mC.length=df->o.wpIn (ja P ro) 0 P a w (ei E (S.eK (fU ds l' (.gR ms (cs++us)) d (.aQ l' (df+dv))))) Q:=by
    intro ly iB mC hex aG hold sb wa
    have D5:=run_append_grow_src (P:=P) w t tx o.type e inf z hu hi bd ly df iB mC hold (a.eval y) dv fL wJ aG (by omega) (growslice_fits (need:=df+dv) (old:=iB) aG (by rw[bu];exact o9))
    refine sS (by rw[bJ];rfl) (jN hex D5) ?_
    rw[gM]
    have l7:df+dv<=grownCap w (df+dv) iB e:=by unfold grownCap;exact Nat.le_add_right _ _
    refine DT aC hw (fb.J4 w _) (.inl D) (bf l' (by simp)) wI aq (nw:=some (grownCap w (df+dv) iB e)) ?_ ?_
    ·show jj _ M _ l' ms (cs++us)
     unfold jj
     refine⟨k9,?_⟩
     rw[pS,jK]
     refine⟨by rw[ef,hO,FR];exact l7,((mC++fL).toArray++Builtin.zeroCells z.cells (grownCap w (df+dv) iB e-(df+dv))),e,sW w.drew _,?_,?_⟩
     ·have J:(Builtin.zeroCells z.cells (grownCap w (df+dv) iB e-(df+dv))).size=grownCap w (df+dv) iB e-(df+dv):=by
       simp[Builtin.zeroCells,pg]
      rw[Array.size_append,J,List.size_toArray,ef,wa,qC]
      omega
     ·have:=mk (w.heap.size) (some (grownCap w (df+dv) iB e)) mC (Builtin.zeroCells z.cells (grownCap w (df+dv) iB e-(df+dv))).toList (fun j x Y=>by
       obtain⟨v,aK,eD⟩:=sb j x Y
       exact⟨v,aK,eD.pd _ _ (w0 x (List.mem_of_getElem? Y))⟩) wa
      have es:((mC++fL)++(Builtin.zeroCells z.cells (grownCap w (df+dv) iB e-(df+dv))).toList).toArray=(mC++fL).toArray++Builtin.zeroCells z.cells (grownCap w (df+dv) iB e-(df+dv)):=by
       apply Array.ext'
       simp
      rw[<-es]
      exact this
    ·have:=bU.aQ (V:=V.set l' w.heap.size (some (grownCap w (df+dv) iB e))) (M:=M) l' (df+dv) _ (by rw[pS]) l7
     rw[jK]at this
     exact this
   have D6:=aM.ez x iM _ gn
   have eO:jj V M w l ms cs:=aM.U l (by simp) _ ae
   have r8:S.get (G l)=some (.U (.gR ms cs)):=by rw[an (G l) (by simp)];exact ae
   unfold jj at eO
   replace eO:=eO.2
   generalize hex:a.eval x=v at D6
   cases D6 with
   |k1 _ iA=>
    rw[iA]at eO
    simp only at eO
    exact grow none 0 [] hex (by omega) (by simp[Builtin.firstCells]) (fun j x Y=>by rw[eO]at Y;simp at Y) rfl
   |aQ _ _ cap iA ajz=>
    rw[iA]at eO
    obtain⟨eG,vs,gq,aW,cj,aE⟩:=eO
    have hold:∀(j:Nat) (x:ai),cs[j]?=some x->∃v,(vs.toList.take df)[j]?=some v/\bU V M x v:=fun j x Y=>by
     obtain⟨v,aK,eD⟩:=aE j x Y
     have az:=(List.getElem?_eq_some_iff.1 Y).1
     exact⟨v,by rw[pQ (by omega)];simpa using aK,eD⟩
    have wa:(vs.toList.take df).length=df:=by simp;omega
    by_cases sY:df+dv<=cap
    ·have mD:df*inf.size+fL.length<=vs.size:=by
      rw[aX,qC,cj];omega
     refine sS (by rw[bJ];rfl) (jN hex (On hu hi wJ sY aW mD)) ?_
     rw[gM]
     have sZ:di V S l:=⟨⟨_,r8⟩,by rw[iA];simp⟩
     refine DT aC hw (fb.setRow w _ _ (hw.cE l sZ)) (.inr ⟨l,sZ,rfl,?_⟩) (bf l' (by simp)) wI aq (nw:=some cap) ?_ ?_
     ·rcases zO with h|h
      ·exact .inr h
      ·exact .inl h
     ·show jj _ M _ l' ms (cs++us)
      unfold jj
      refine⟨k9,?_⟩
      rw[pS,jK]
      refine⟨by rw[ef,hO,FR];exact sY,_,gq,setRow_heap w _ _ _ _ _ aW,?_,?_⟩
      ·rw[List.size_toArray,wC (by simpa using mD)];simpa using cj
      ·have:=mk ((V.aI l)) (some cap) (vs.toList.take df) (vs.toList.drop (df*inf.size+fL.length)) (fun j x Y=>by
        obtain⟨v,aK,eD⟩:=hold j x Y
        exact⟨v,aK,eD.pd _ _ (w0 x (List.mem_of_getElem? Y))⟩) wa
       have es:j0 vs.toList (df*inf.size) fL=vs.toList.take df++fL++vs.toList.drop (df*inf.size+fL.length):=by rw[aX,Nat.mul_one];rfl
       rw[es]
       exact this
     ·have:=bU.aQ (V:=V.set l' (V.aI l) (some cap)) (M:=M) l' (df+dv) cap (by rw[pS]) sY
      rw[jK]at this
      exact this
    ·refine grow (some ⟨V.aI l,0,none⟩) cap (vs.toList.take df) hex (by omega) ?_ hold wa
     refine run_firstCells_some w.drew inf.size df ⟨V.aI l,0,none⟩ df cap _ (by rw[aX,Nat.mul_one];exact wa) fun j u hu=>?_
     rw[oA,Nat.zero_add]
     rw[List.getElem?_take]at hu
     split at hu
     ·show w.cell? _=_
      simp only[World.cell?,aW]
      simpa using hu
     ·cases hu
  ·cases aT
 ·cases aT
theorem bI.aeE{aY S':ad}{r:List Oper}{L:List cx}{x y:Operand}{t tx ty:TypeId}{pos:String}{a6:Array Edge}{d l e7 bytes df dv:Nat}{ms A9 cs us:List ai}(l':Nat)(ds:List Nat)
  (aT:mB P t 1 bytes=true) (K:nb P tx=true) (gn:cd aY true x (.aQ l df)) (ae:aY.get (G l)=some (.U (.gR ms cs))) (hO:cs.length=df) (Mv:cd aY true y (.aQ e7 dv)) (l9:aY.get (G e7)=some (.U (.gR A9 us))) (J:∀c∈us,c.fk=true) (zO:l=l'\/G l∈ds)
  (FR:us.length=dv) (W:0<dv) (sk:A9=ms) (iv:ms.all (fun x=> !x.ke l')=true)
  (o9:(df+dv)*bytes<=140737488355328) (Bz:df+dv<=140737488355328)
  (bf:h7 ⟨cQ ⟨some d,.call ⟨.builtin .append,#[x,y],#[t,tx]⟩,ty,pos,a6,none⟩++[l,e7].map G,aY,fU ds l' (.gR ms (cs++us)) d (.aQ l' (df+dv)),[l']⟩ aY=true)
  (h:bI P ro ops r (aY.after ds l' (.gR ms (cs++us)) d (.aQ l' (df+dv))) L S'):
  bI P ro ops (⟨some d,.call ⟨.builtin .append,#[x,y],#[t,tx]⟩,ty,pos,a6,none⟩::r) aY (⟨cQ ⟨some d,.call ⟨.builtin .append,#[x,y],#[t,tx]⟩,ty,pos,a6,none⟩++[l,e7].map G,aY,fU ds l' (.gR ms (cs++us)) d (.aQ l' (df+dv)),[l']⟩::L) S':=
 tZ ds (aeC D D D aT K gn ae hO Mv l9 J zO FR W sk iv o9 Bz) bf h
section
variable {d:Nat} {t e ty:TypeId} {x:Operand} {pos:String} {a6:Array Edge}
theorem bI.aeF{S':ad}{r:List Oper}{L:List cx}{parts:Array (Nat×Operand)}{cq:List Value}{len:Nat}{l:List ai}(lb:Nat)(ds:List Nat)(ms:List ai)
  (aT:kQ P t e 1=true) (bd:cZ P e cq) (ue:cq.length=1) (hlen:len<=16777216) (bf:r5 S (fun i=>some (i*1,1)) (bV ((List.range (len*1)).map fun k=>cq.getD (k%1) undef)) parts.toList l)
  (sk:∀x∈l,∀m,gK x m->∃y∈ms,gK y m) (iv:ms.all (fun x=> !x.ke lb)=true)
  (h3:h7 ⟨cQ ⟨some d,.buildSlice t len parts,ty,pos,a6,none⟩,S,fU ds lb (.gR ms l) d (.aQ lb len),[lb]⟩ S=true) (h:bI P ro ops r (S.after ds lb (.gR ms l) d (.aQ lb len)) L S'):
  bI P ro ops (⟨some d,.buildSlice t len parts,ty,pos,a6,none⟩::r) S (⟨cQ ⟨some d,.buildSlice t len parts,ty,pos,a6,none⟩++([]:List Nat).map G,S,fU ds lb (.gR ms l) d (.aQ lb len),[lb]⟩::L) S':=by
 refine tZ ds (wD D D D fun E V M a w h=>?_) (by simpa using h3) h
 have ha:∀p∈parts.toList,∀y,cd S true p.2 y->bU V M y (a.eval p.2):=fun p Z y ak=>h.ez p.2 (by simp only[Op.operands,List.mem_toArray,List.mem_map];exact⟨p,Z,rfl⟩) y ak
 generalize a.eval=aI at*
 obtain⟨z,pg,aE⟩:=x4 bd
 obtain⟨hu,cj⟩:=ye aT
 obtain⟨j1,oC,hg⟩:=Gx bf ha (Gy V M _)
 have qL:l.length=len:=by
  have:∀{place:Nat->Option (Nat×Nat)} {l l':List ai} {ps:List (Nat×Operand)},r5 S place l ps l'->l'.length=l.length:=by
   intro place l l' ps bf
   induction bf with
   |nil=>rfl
   |cons e hu Z bJ h aJ=>rw[aJ,wC bJ]
  have J:=this bf
  rw[J]
  simp[bV]
 have u9:j1.length=len:=by have:=hg.len;omega
 have rj:z.cells=cq.toArray:=by rw[<-pg,Array.toArray_toList]
 have sX:(parts.map fun x=>(x.1,aI x.2)).toList=parts.toList.map fun p=>(p.1,aI p.2):=by simp
 refine⟨w.alloc (.cells j1.toArray e),.slice (some ⟨w.heap.size,0,none⟩) len len,some len,?_,fb.alloc w _,?_,?_⟩
 ·have zS:¬(len*1>2^24):=by omega
  have yf:Instr.fill (fun i=>some (i*1,1)) ((Array.range (len*1)).map fun i=>z.cells[i%z.cells.size]!) ((parts.map fun x=>(x.1,aI x.2)).toList)=some j1.toArray:=by
   rw[sX,rj,BB cq _ (by omega),ue];exact oC
  have ae:(Instr.buildSlice t len (parts.map fun x=>(x.1,aI x.2))).run P w= .ok (.slice (some ⟨w.heap.size,0,none⟩) len len) (w.alloc (.cells j1.toArray e)):=by
   unfold Instr.buildSlice
   simp only[de,run_underlying hu,Result.andThen,cj,zS,if_false]
   refine GJ (P:=P) (aE w) ?_ fun bb=>?_
   ·rw[yf];simp[newRow]
   ·have e0:((Array.range (len*1)).map fun x=>(#[]:Array Value)[x%(#[]:Array Value).size]!)=(Array.range (len*1)).map fun i=>z.cells[i%z.cells.size]!:=by rw[bb];simp
    rw[e0,yf];simp[newRow]
  simp only[execOp,de,ae,Result.andThen]
  rfl
 ·show jj _ M _ lb ms l
  unfold jj
  refine⟨sk,?_⟩
  rw[pS]
  refine⟨by omega,j1.toArray,e,by rw[jK,sW],by simp[u9],fun j x Y=>?_⟩
  have az:=(List.getElem?_eq_some_iff.1 Y).1
  refine⟨j1[j],by simp,?_⟩
  exact(hg.e6 j x j1[j] Y (dx (by omega))).pd _ _ fun aw=>by obtain⟨y,ak,zW⟩:=sk x (List.mem_of_getElem? Y) _ aw;exact TB iv y ak zW
 ·have:=bU.aQ (V:=V.set lb w.heap.size (some len)) (M:=M) lb len len (by rw[pS]) (Nat.le_refl _)
  rw[jK]at this
  exact this
end
section
variable {d:Option Tmp} {t ty:TypeId} {x:Operand} {pos:String} {a6:Array Edge} {bB:Option (Nat×Bool)} {c:Bool}
theorem Pure.aeG{l i n:Nat}{ms cs:List ai}{r:ai}(aT:dq P t false n=true)(aX:cd S c x (.h4 l 1 i 0))(ae:S.get (G l)=some (.U (.gR ms cs)))(aE:cs[i]?=some r):Pure P S [l] ⟨d,.load t x,ty,pos,a6,bB⟩ c r:=by
 refine⟨rfl,fun E V M a w h aj=>?_⟩
 have J:=h.ez x (by simp[Op.operands]) _ aX
 have eO:jj V M w l ms cs:=h.U l (by simp) _ ae
 unfold jj at eO
 replace eO:=eO.2
 cases K:V.bZ l with
 |none=>rw[K]at eO;simp only at eO;subst eO;simp at aE
 |some cap=>
  rw[K]at eO
  obtain⟨g1,vs,gq,aW,an,aq⟩:=eO
  obtain⟨v,aK,eD⟩:=aq i r aE
  generalize he:a.eval x=u at J
  generalize a.eval=aI at*
  cases J with
  |h4 _ _ _ _=>
   have Mw:w.cell? ⟨V.aI l,i*1+0,none⟩=some v:=by simp[World.cell?,aW,aK]
   refine⟨v,?_,eD⟩
   simp only[execOp,Instr.loadAt,de,he,Instr.sureAddr,e5,Result.andThen,zF aT Mw]
end
theorem b1.aeH(ms:List ai){l:Nat}{cs:List bz}(ae:S.get (G l)=some (.U (.bG 1 0 cs))):b1 E S ((G l,.U (.gR ms []))::S):=by
 refine(b1.ui (B':=.gR ms []) ae fun V M w h=>?_).trans (b1.fj fun m c e=>by rw[pc];rw[ej]at e;exact e)
 obtain⟨J,W,aH⟩:=h
 show jj V M w l ms []
 unfold jj
 refine⟨fun x Y=>by simp at Y,?_⟩
 cases K:V.bZ l with
 |none=>rfl
 |some cap=>
  rw[K]at aH
  obtain⟨aV,vs,t,db,fc,_⟩:=aH
  exact⟨aV,vs,t,db,by simpa using fc,fun j x Y=>by simp at Y⟩
theorem bI.TC{aY S':ad}{r:List Oper}{L:List cx}{x:Operand}{ty t:TypeId}{pos:String}{a6:Array Edge}{l n i j len m t' l' l6 kE:Nat}{B:cO}{cs cs' fq:List bz}{g:Nat->List bg}{ds:List bg}{agg:Bool}
  (an:aY.get (ab t')=some (.aB (.aQ l' kE))) (ij:aY.get (G l')=some (.U (.bG l6 kE fq))) (aM:∀i,i<kE->fq.map (bz.at · i)=g i)
  (aT:dq P t agg m=true) (aX:cd ((ab t',.aB (.d (.cK l6 kE g)))::ad.iJ (G l') aY) true x (.h4 l n i j)) (ae:ad.get ((ab t',.aB (.d (.cK l6 kE g)))::ad.iJ (G l') aY) (G l)=some (.U B))
  (cP:B.h8=some (n,len,cs)) (hu:ri (.d (.cK l6 kE g))=some ds) (aw:ds.length=m) (b2:0<m) (J:∀x∈ds,(ai.d x).fk=true) (pR:uc cs j i ds=some cs') (hi:i<len)
  (h:bI P ro ops r ((G l,(.U (B.x8 cs')))::(ab t',.aB (.d (.cK l6 kE g)))::ad.iJ (G l') aY) L S'):
  bI P ro ops (⟨none,.store t x (.tmp t'),ty,pos,a6,none⟩::r) aY (⟨ab t'::G l'::(cQ ⟨none,.store t x (.tmp t'),ty,pos,a6,none⟩++[G l]),aY,[(G l',none),(ab t',some (.aB (.d (.cK l6 kE g)))),(G l,some (.U (B.x8 cs')))],[]⟩::L) S':=by
 have E7:=x9 (P:=P) (ro:=ro) (ops:=ops) (r:=[]) (L:=[]) (ty:=ty) (pos:=pos) (a6:=a6) aT aX (y:=.tmp t') (.dB (by simp[dK,ej])) ae cP hu aw b2 J pR hi (.nil _)
 have ha:kA P ro ops ⟨none,.store t x (.tmp t'),ty,pos,a6,none⟩ ⟨cQ ⟨none,.store t x (.tmp t'),ty,pos,a6,none⟩++[G l],(ab t',.aB (.d (.cK l6 kE g)))::ad.iJ (G l') aY,[(G l,some (.U (B.x8 cs')))],[]⟩:=by
  cases E7 with
  |cons aC _ _ _ _=>exact aC
 refine .cons (fun E S a w ox bf dX kF Q gD=>?_) (fun _ _=>rfl) (fun l aa=>by cases aa) (fun n=>?_) h
 ·have es:S.get (ab t')=some (.aB (.aQ l' kE)):=by rw[ox (ab t') (by simp)];exact an
  have Mx:S.get (G l')=some (.U (.bG l6 kE fq)):=by rw[ox (G l') (by simp)];exact ij
  have k3:=b1.tb (E:=E) es Mx aM a w kF
  have aeI:tT ⟨cQ ⟨none,.store t x (.tmp t'),ty,pos,a6,none⟩++[G l],(ab t',.aB (.d (.cK l6 kE g)))::ad.iJ (G l') aY,[(G l,some (.U (B.x8 cs')))],[]⟩ ((ab t',.aB (.d (.cK l6 kE g)))::ad.iJ (G l') S):=fun n af=>by
   have:=ox n (by simp only[eb];exact .inr (.inr af))
   show ad.get _ n=ad.get _ n
   rw[ej,ej,o7,o7,this]
  have My:zt E ⟨cQ ⟨none,.store t x (.tmp t'),ty,pos,a6,none⟩++[G l],(ab t',.aB (.d (.cK l6 kE g)))::ad.iJ (G l') aY,[(G l,some (.U (B.x8 cs')))],[]⟩:=⟨fun l aa=>(nomatch aa),fun s q9=>dX.2 s (by simp only[cx.jl,List.map_cons,List.map_nil,eb,List.not_mem_nil,or_false]at q9⊢;exact .inr (.inr q9))⟩
  refine wv (fun a w aE=>aE.fj (S':=S.eK [(G l',none),(ab t',some (.aB (.d (.cK l6 kE g)))),(G l,some (.U (B.x8 cs')))]) fun n c e=>?_) (ha E _ a w aeI (fun l aa=>(nomatch aa)) My k3 Q gD)
  rw[mY]at e⊢
  simp only[l3]at e⊢
  rw[ej,o7]
  exact e
 ·rw[mY]
  simp only[l3]
  rw[ej,ej,o7]
end
theorem C5{l:List (List Int)}{i:Nat}(h:i<l.length):[ch (l.getD i default)]=[bz.at (.ds (l.map ch)) i]:=by
 simp[bz.at,cN,h]
theorem aeJ(l:List (List Int)):∀c∈[bz.ds (l.map ch)],c.fk=true:=by
 intro c aj
 rw[qc.1 aj]
 simp[bz.fk]
 exact fun _ _=>rfl
theorem TD{r:List Int}{i:Nat}(h:i<r.length-1):[av (r.getD (0+i) default)]=[bz.at (.cv .i64 r.dropLast) i]:=by
 simp[bz.at,cN,List.getElem?_dropLast,h]
 rw[dx (by omega)]
 rfl
theorem aeK{g:FuncId}{a b:List bg}{k:Nat}:∀x∈[ai.fn g [.ao k 0,.cc a,.cc b]],∀m,gK x m->∃y∈[ai.ao k 0],gK y m:=fun x Y m aw=>by
 rw[qc.1 Y]at aw
 cases aw with
 |fn _ _ y _ ak h=>
  simp only[eb,List.not_mem_nil,or_false]at ak
  rcases ak with rfl|rfl|rfl
  ·exact⟨_,by simp,h⟩
  ·cases h
  ·cases h
theorem aeL(l:List Int)(bb:0<l.length)(aa:l.length<=5000000000000):bw prog 90 [.d (ch l)] [] (.aQ 32 l.length) [(G 32,.U (.bG 1 l.length [.cv .i64 l]))] []:=by
 refine cB [.tmp 2] func90 D D fun E K af=>?_
 refine aL 1 D<|al<|aO (O 1 D<|ag (.Rx bb underlying22 (I D) (I D))<|ar)<|a7 D (fun aP=>?_) fun aP=>?_
 ·cases aP
 refine bx<|aO (gN 5 [] iQ iC D (by decide) (by decide) (.nil _ _) D D D<|O 1 D<|hA 32 [G 5,ab 5] p0 p1 (by decide) (.aQ (I D) D) (.cK (cs:=[.cv .i64 l]) (I D) D (by simp[bz.len]) (by intros;rfl)) (bz.hT D) (hB D) (by omega) (by omega) D D<|aN 1 D)<|c1 (b1.RA (l:=32) (k:=.i64) (xs:=l) D (by rfl))<|bp<|⟨.inr D,⟨_,(.cons (.tmp D) .nil),?_⟩,cU (.cons (by rw[show(cO.bG 1 l.length [.cv .i64 l])= .bG 1 (0+l.length) [.cv .i64 l] by rw[Nat.zero_add]];rfl) .nil)⟩
 show ai.aQ 32 l.length=ai.aQ 32 (0+l.length);rw[Nat.zero_add]
theorem aeM(a:Option Addr)(cap:Nat):bw prog 90 [.d (.v (.slice a 0 cap))] [] (.aQ 32 0) [(G 32,.U (.bG 1 0 [.cv .i64 []]))] []:=by
 refine cB [.tmp 2] func90 D D fun E K af=>?_
 refine aL 1 D<|al<|aO (O 1 D<|ag (.Rw underlying22 (I D) (I D))<|ar)<|a7 D (fun aP=>?_) fun aP=>?_
 ·exact aL 1 D<|c1 (b1.ve (t:=2) (l:=32) (n:=1) (cs:=[.cv .i64 []]) D D (by rw[K];simp) (by rw[af];exact cC D) D (by simp[bz.len]))<|bp<|⟨.inr rfl,⟨_,(.cons (.tmp D) .nil),rfl⟩,cU (.cons D .nil)⟩
 exact bx<|al<|c1 (b1.Kg (t:=0) (x:=.d (.v (.slice a 0 cap))) (y:=.d (ch [])) D Rz)<|bm (gN 5 [] iQ iC D (by decide) (by decide) (.nil _ _) D D D<|O 1 D<|hA 32 [G 5,ab 5] p0 p1 (by decide) (.aQ (I D) D) (.cK (cs:=[.cv .i64 []]) (I D) D (by simp[bz.len]) fun i hi=>by simp at hi) (bz.hT D) (hB D) (by simp) (by simp) rfl rfl<|aN 1 rfl)<|c1 (b1.RA (l:=32) (k:=.i64) (xs:=[]) D (by rfl))<|bp<|⟨.inr D,⟨_,(.cons (.tmp D) .nil),rfl⟩,cU (.cons D .nil)⟩
theorem TE(l:List Int)(aa:l.length<=5000000000000):bw prog 90 [.d (ch l)] [] (.aQ 32 l.length) [(G 32,.U (.bG 1 l.length [.cv .i64 l]))] []:=by
 by_cases bb:0<l.length
 ·exact aeL l bb aa
 ·have e:l=[]:=by cases l with
   |nil=>rfl
   |cons=>simp at bb
  subst e
  exact bw.Ry (uL:=[]) (HG:=[]) aeM
theorem aeN(l:List (List Int))(bb:0<l.length)(aa:l.length<=5000000000000):bw prog 91 [.d (nI l)] [] (.aQ 33 l.length) [(G 33,.U (.bG 1 l.length [.ds (l.map ch)]))] []:=by
 refine cB [.tmp 2] func91 D D fun E K af=>?_
 refine aL 1 D<|al<|aO (O 1 D<|ag (.Rx bb underlying38 (I D) (I D))<|ar)<|a7 D (fun aP=>?_) fun aP=>?_
 ·cases aP
 refine bx<|aO (gN 5 [] BQ BN D (by decide) (by decide) (.nil _ _) D D D<|O 1 D<|hA 33 [G 5,ab 5] Em En (by decide) (.aQ (I D) D) (.cK (cs:=[.ds (l.map ch)]) (I D) D (by simp[bz.len]) fun i hi=>C5 hi) (aeJ l) (hB D) (by omega) (by omega) D D<|aN 1 D)<|bp<|⟨.inr D,⟨_,(.cons (.tmp D) .nil),?_⟩,cU (.cons (by rw[show(cO.bG 1 l.length [.ds (l.map ch)])= .bG 1 (0+l.length) [.ds (l.map ch)] by rw[Nat.zero_add]];rfl) .nil)⟩
 show ai.aQ 33 l.length=ai.aQ 33 (0+l.length);rw[Nat.zero_add]
theorem aeO(a:Option Addr)(cap:Nat):bw prog 91 [.d (.v (.slice a 0 cap))] [] (.aQ 33 0) [(G 33,.U (.bG 1 0 [.ds (([]:List (List Int)).map ch)]))] []:=by
 refine cB [.tmp 2] func91 D D fun E K af=>?_
 refine aL 1 D<|al<|aO (O 1 D<|ag (.Rw underlying38 (I D) (I D))<|ar)<|a7 D (fun aP=>?_) fun aP=>?_
 ·exact aL 1 D<|c1 (b1.ve (t:=2) (l:=33) (n:=1) (cs:=[.ds (([]:List (List Int)).map ch)]) D D (by rw[K];simp) (by rw[af];exact cC D) D (by simp[bz.len]))<|bp<|⟨.inr rfl,⟨_,(.cons (.tmp D) .nil),rfl⟩,cU (.cons D .nil)⟩
 exact bx<|al<|c1 (b1.Kg (t:=0) (x:=.d (.v (.slice a 0 cap))) (y:=.d (nI [])) D Rz)<|bm (gN 5 [] BQ BN D (by decide) (by decide) (.nil _ _) D D D<|O 1 D<|hA 33 [G 5,ab 5] Em En (by decide) (.aQ (I D) D) (.cK (cs:=[.ds (([]:List (List Int)).map ch)]) (I D) D (by simp[bz.len]) fun i hi=>by simp at hi) (bz.hT D) (hB D) (by simp) (by simp) rfl rfl<|aN 1 rfl)<|bp<|⟨.inr rfl,⟨_,(.cons (.tmp D) .nil),rfl⟩,cU (.cons D .nil)⟩
theorem TF(l:List (List Int))(aa:l.length<=5000000000000):bw prog 91 [.d (nI l)] [] (.aQ 33 l.length) [(G 33,.U (.bG 1 l.length [.ds (l.map ch)]))] []:=by
 by_cases bb:0<l.length
 ·exact aeN l bb aa
 ·have e:l=[]:=by cases l with
   |nil=>rfl
   |cons=>simp at bb
  subst e
  exact bw.Ry (uL:=[]) (HG:=[]) aeO
theorem aeP(s:eM)(n:Int):bw prog 92 [.d (.agg (jf s)),aF .i64 n] [] (.bE []) [] []:=by
 refine cB [] func92 D D fun E K af=>?_
 exact bm (cV 2 D D D<|ar)<|⟨.inl D,⟨_,(.nil),rfl⟩,by simp[ad.get]⟩
theorem aeQ(p:aD)(f:ee)(s:eM)(n:Int)(bb:0<=s.index)(J:s.index<f.bV.length):bw prog 93 [.d (.agg (jf s)),aF .i64 n,.ao 13 0] ((G 13,.U (.cells [.ao 30 0]))::gY p f) (.bE []) ((G 13,.U (.cells [.ao 30 0]))::gY p {f with bV:=f.bV.set s.index.toNat n}) [13,30,31,32,33]:=by
 refine cB [] func93 D D fun E K af=>?_
 exact aO (cV 4 D D D<|ar)<|eo (O 8 D<|ag (.mx fB (I D) (I D) fun _=>⟨by omega,by omega⟩)<|x9 bY (I D) (I D) D D D D (by decide) (by simp[ai.fk,jo]) rfl (by omega)<|ar)<|⟨.inl D,⟨_,(.nil),rfl⟩,cU (.cons D (.cons (by simp only[nH];rfl) (.cons D (.cons (by simp only[nH];rfl) (.cons D .nil)))))⟩
theorem aeR(cs:List ai)(s:eM)(n:Int)(fV:cs.length<=64):bw prog 94 [.d (.agg (jf s)),aF .i64 n,.ao 14 0,.ao 13 0] [(G 14,.U (.cells [.aQ 34 cs.length])),(G 34,.U (.gR [.ao 13 0] cs))] (.bE []) [(G 14,.U (.cells [.aQ 35 (cs++[ai.fn 95 [.ao 13 0,.cc (jf s),.cc [av n]]]).length])),(G 35,.U (.gR [.ao 13 0] (cs++[ai.fn 95 [.ao 13 0,.cc (jf s),.cc [av n]]])))] [13,14]:=by
 refine cB [] func94 D D fun E K af=>?_
 exact aO (cV 4 D D D<|cV 5 D D D<|ar)<|c1 (b1.hV (t:=4) (l:=4) D D)<|c1 (b1.hV (t:=5) (l:=5) D D)<|bm (O 1 D<|ag (.mG (.cons (I D) (.cons (I D) (.cons (I D) .nil))))<|bI.aeF (l:=[ai.fn 95 [.ao 13 0,.cc (jf s),.cc [av n]]]) 8 [] [.ao 13 0] XO WS D (by decide) (ba D D D (.nil _ _)) aeK D D<|bI.aeE (us:=[ai.fn 95 [.ao 13 0,.cc (jf s),.cc [av n]]]) (dv:=1) 35 [G 34] XP XQ (I D) D D (I D) D (eZ.1 D) (.inr (by decide)) D (by decide) D D (by omega) (by omega) D<|iG XL D D D D D<|ar)<|⟨.inl D,⟨_,(.nil),rfl⟩,cU (.cons (by rw[ef];rfl) (.cons D .nil))⟩
theorem aeS(p:aD)(f:ee)(s:eM)(n:Int)(bb:0<=s.index)(J:s.index<f.bF.length)(W:1<=(f.bF.getD s.index.toNat default).length)(aH:(f.bF.getD s.index.toNat default).length<=65536):bw prog 95 [.ao 13 0,.cc (jf s),.cc [av n]] ((G 13,.U (.cells [.ao 30 0]))::gY p f) (.bE []) ((G 13,.U (.cells [.ao 30 0]))::gY p {f with bF:=f.bF.set s.index.toNat (n::(f.bF.getD s.index.toNat default).dropLast)}) [13,30,31,32,33]:=by
 have uw:bg.cK 1 (1+((((f.bF.getD s.index.toNat default).length:Int)-1).toNat-0)) (fun i=>[av ((n::(f.bF.getD s.index.toNat default).dropLast).getD i default)])=ch (n::(f.bF.getD s.index.toNat default).dropLast):=by
  show bg.cK 1 _ _=bg.cK 1 (n::(f.bF.getD s.index.toNat default).dropLast).length _
  congr 1
  simp
  omega
 refine cB [] func95 D D fun E K af=>?_
 exact ft (O 7 D<|ag (.mx pr (I D) (I D) fun _=>⟨by omega,by omega⟩)<|cH [_] ((Pure.pU km (I D) D D D fun _=>by omega).bK (y:=.d (ch (f.bF.getD s.index.toNat default))) (Tr (by omega)))<|aN 1 D)<|eo (O 8 D<|gN 21 [] iQ iC D (by decide) (by decide) (ba D D D (.nil _ _)) D D D<|O 3 D<|cp D D D<|ag (.rq iQ (I D) (.lv _) (.bK _ (I D) fun _=>by omega) fun _=>⟨by omega,by omega⟩)<|hA 40 [G 21] p0 p1 (by decide) (.aQ (I D) D) (.cK (cs:=[.cv .i64 (f.bF.getD s.index.toNat default).dropLast]) (I D) D (by simp[bz.len]) fun i hi=>TD (by omega)) (bz.hT D) (hB D) (by omega) (by omega) D D<|ag (.mx pr (I D) (I D) fun _=>⟨by omega,by omega⟩)<|bI.TC (g:=fun i=>[av ((n::(f.bF.getD s.index.toNat default).dropLast).getD i default)]) D D (fun i hi=>rfl) km (I D) D D D D (by decide) (by simp[ai.fk]) rfl (by omega)<|ar)<|⟨.inl D,⟨_,(.nil),rfl⟩,cU (.cons D (.cons (by simp only[nH];rfl) (.cons D (.cons D (.cons (by simp only[nH,List.map_set];rw[<-uw];rfl) .nil)))))⟩
theorem aeT(s:eM)(n m:Int):bw prog 96 [.d (.agg (jf s)),aF .i64 n,.ao 10 0] [(G 10,.U (.data [av m]))] (.bE []) [(G 10,.U (.data [av n]))] [10]:=by
 refine cB [] func96 D D fun E K af=>?_
 exact aO (cV 4 D D D<|ar)<|bm (O 1 D<|dZ bY D D D D D<|ar)<|⟨.inl D,⟨_,(.nil),rfl⟩,cU (.cons D .nil)⟩
def fF(p:aD)(lets:List Int):Nat->List (eM×Int)
 |0=>[]
 |n+1=>bif decide ((b9 p n).kind=3)then fF p lets n++[(b9 p n,lets.getD n 0)]else fF p lets n
def kY(q:List (eM×Int)):List ai:=q.map fun r=>.fn 95 [.ao 13 0,.cc (jf r.1),.cc [av r.2]]
theorem TG(q:List (eM×Int))(r:eM×Int):kY (q++[r])=kY q++[.fn 95 [.ao 13 0,.cc (jf r.1),.cc [av r.2]]]:=by simp[kY]
theorem IB(q:List (eM×Int)):(kY q).length=q.length:=by simp[kY]
theorem TH{a b:Nat}(aC:a≠13:=by decide)(ae:b≠13:=by decide)(q:List (eM×Int)):ai.mE a b (kY q)=kY q:=by
 rw[nQ]
 unfold kY
 rw[List.map_map]
 refine List.map_congr_left fun r _=>?_
 have J:Nat.beq 13 a=false:=by simp[ih,Ne.symm aC]
 have W:Nat.beq 13 b=false:=by simp[ih,Ne.symm ae]
 simp[ai.cT,ai.mE,fZ,J,W]
def FT(ls:List (List Int))(q:eM×Int):List (List Int):=ls.set q.1.index.toNat (q.2::(ls.getD q.1.index.toNat default).dropLast)
def o4(ls:List (List Int))(q:List (eM×Int)):List (List Int):=q.foldl FT ls
theorem Mz(p:aD)(lets:List Int)(ls:List (List Int)):∀n,o4 ls (fF p lets n)=mm p lets ls n
 |0=>rfl
 |n+1=>by
  unfold fF mm
  cases decide ((b9 p n).kind=3)with
  |false=>exact Mz p lets ls n
  |true=>
   rw[cond_true,cond_true,o4,List.foldl_append]
   show FT (o4 ls (fF p lets n)) _=_
   rw[Mz p lets ls n]
   rfl
theorem aeU(q:List (eM×Int)):∀ls,(o4 ls q).length=ls.length:=by
 induction q with
 |nil=>intro ls;rfl
 |cons r q aJ=>intro ls;exact(aJ _).trans (by simp[FT])
theorem aeV{i:Nat}(q:List (eM×Int)):∀ls:List (List Int),1<=(ls.getD i default).length->((o4 ls q).getD i default).length=(ls.getD i default).length:=by
 induction q with
 |nil=>intro ls _;rfl
 |cons r q aJ=>
  intro ls h
  have J:((FT ls r).getD i default).length=(ls.getD i default).length:=by
   unfold FT
   rw[oj]
   split
   ·rename_i e
    rw[e.1]
    simp only[ek,List.length_dropLast]
    omega
   ·rfl
  exact(aJ _ (by rw[J];exact h)).trans J
theorem MA{p:aD}{lets:List Int}:∀{n:Nat} {q:eM×Int},q∈fF p lets n->∃i,i<n/\q=(b9 p i,lets.getD i 0)/\(b9 p i).kind=3
 |n+1,q,h=>by
  unfold fF at h
  cases K:decide ((b9 p n).kind=3)with
  |false=>rw[K]at h;obtain⟨i,J,W⟩:=MA h;exact⟨i,by omega,W⟩
  |true=>
   rw[K,cond_true]at h
   rcases hy.1 h with h|h
   ·obtain⟨i,J,W⟩:=MA h;exact⟨i,by omega,W⟩
   ·exact⟨n,by omega,qc.1 h,cJ K⟩
theorem MB(p:aD)(lets:List Int):∀n,(fF p lets n).length<=n
 |0=>Nat.le_refl _
 |n+1=>by
  have:=MB p lets n
  unfold fF
  cases decide ((b9 p n).kind=3)with
  |false=>rw[cond_false];omega
  |true=>rw[cond_true,ef];simp only[np];omega
theorem aeW{p:aD}(Z:p.b5)(h:rP p=true):∃fd,qi p fd:=by
 unfold rP tI at h
 cases aa:uU p with
 |none=>rw[aa]at h;cases h
 |some n=>
  rw[aa]at h
  simp only at h
  have aK:=L2 aa
  unfold uU at aa
  rw[aK,cond_true]at aa
  unfold oX at aK
  cases hw:nq p with
  |none=>rw[hw]at aK;cases aK
  |some fd=>
   refine⟨fd,Z,(Fv hw).1,hw,n,aa,?_⟩
   cases aq:decide (p.cR<n)with
   |true=>rw[aq]at h;cases h
   |false=>have:=dj aq;omega
theorem TI{l:List Int}{bs:List cA}(aa:l.length=bs.length)(h:∀i,i<bs.length->(bs.getD i default).lo<=l.getD i 0/\l.getD i 0<=(bs.getD i default).hi):sJ l bs=true:=by
 unfold sJ
 rw[aa,gl rfl]
 refine Mn.2 fun i hi=>?_
 have:=h i hi
 unfold FK Ir
 have J:(bs.getD i default).lo<=l.getD i default:=this.1
 have W:l.getD i default<=(bs.getD i default).hi:=this.2
 rw[hG (by omega),hG (by omega)]
 rfl
theorem TJ{l:List Int}{n:Int}(aa:(l.length:Int)=n)(h:∀x∈l,-2147483648<=x/\x<=2147483647):Mo l n=true:=by
 unfold Mo
 rw[gl aa,cond_true]
 have:l.any FL=false:=by
  rw[List.any_eq_false]
  intro x Y
  have:=h x Y
  unfold FL
  rw[hG (by omega),hG (by omega)]
  simp
 rw[this]
 rfl
theorem aeX{p:aD}{s:fa}(h:kx p s):xK p s=true:=by
 unfold xK
 rw[TI h.lj h.val,h.gH,gl rfl]
 refine Mn.2 fun i hi=>?_
 unfold FM
 have J:((s.bF.getD i default).length:Int)=(p.a1.getD i default).size:=h.lK i hi
 rw[J,gl rfl]
 have:(s.bF.getD i default).any (A3 (p.a1.getD i default).lo (p.a1.getD i default).hi)=false:=by
  rw[List.any_eq_false]
  intro x Y
  have ae:=h.lY i hi x Y
  unfold A3
  rcases ae with rfl|ae
  ·simp
  ·rw[hG (show¬x<(p.a1.getD i default).lo by omega),hG (show¬(p.a1.getD i default).hi<x by omega)]
   cases decide (x=0)<;>simp
 rw[this]
 rfl
theorem aeY{p:aD}{fd:List bh}(aj:qi p fd){bj ay ax:List Int}{s:fa}(aC:qX p bj ay ax)(an:kx p s){i:Nat}(hi:i<=p.ah.length):Iu p fd (bL p (b0 bj ay ax s) i):=by
 have hk:=aj.pL
 have gy:=y9 aj.res
 refine⟨aj.ok,gy,⟨FJ hk (Mh hk.wf.oO aC an) D i hi,E3 hk.wf (Nat.le_refl _) hk.st,?_,?_,fun j az=>?_⟩,?_,?_,?_⟩
 ·rw[vY,hk.len];simpa using hi
 ·rw[AX];exact an.lj
 ·rw[vZ];exact an.lK j az
 ·rw[FG,FH,FI];exact aC
 ·rw[vZ];exact an.gH
 ·rw[vY];have:=gy.kJ;simp;omega
theorem aeZ(p:aD)(Z:p.b5){fd:List bh}(eG:qi p fd)(eU:rP p=true)(bj ay ax:List Int)(aC:qX p bj ay ax)(s:fa)(an:kx p s):bw prog 46 [.d (fR p),.d (ch bj),.d (ch ay),.d (ch ax),.d (lN s)] [] (.bE [.d (av (xC p bj ay ax s).1),.d (lN (xC p bj ay ax s).2),.d (av 0)]) [] []:=by
 have gy:=y9 eG.res
 have eT:=eG.pL.wf
 have An:bw prog 6 [.d (fR p)] [] (.d (av 0)) [] []:=by
  have:=FD Z
  rw[eU]at this
  exact this
 have B4:=gy.nf
 have xz:=gy.hH
 have qC:=gy.gH
 have iv:=gy.kJ
 have tK:=gy.n2
 have ajA:=aC.nf
 have ajB:=aC.Mf
 have ajC:=aC.CZ
 have ajD:=an.lj
 have hc:=an.gH
 have ae0:bw prog 87 [.d (ch bj),.d (dN p.params)] [] (bk true) [] []:=by
  have h:=Tp bj p.params (by omega)
  rw[TI aC.nf aC.bj]at h
  exact h
 have ae1:bw prog 88 [.d (ch ay),aF .i64 (p.cR+1)] [] (bk true) [] []:=by
  have h:=Tq ay (p.cR+1) (by omega)
  rw[TJ aC.Mf aC.ay]at h
  exact h
 have ae2:bw prog 88 [.d (ch ax),aF .i64 (p.cR+1)] [] (bk true) [] []:=by
  have h:=Tq ax (p.cR+1) (by omega)
  rw[TJ aC.CZ aC.ax]at h
  exact h
 have ae3:bw prog 89 [.d (fR p),.d (lN s)] [] (bk true) [] []:=by
  have h:=ad3 p Z s ⟨by omega,by omega,fun i=>by
   by_cases hi:i<p.a1.length
   ·have J:=gy.lY i hi
    have W:((s.bF.getD i default).length:Int)=_:=an.lK i hi
    omega
   ·rw[cN,List.getElem?_eq_none (by omega)];show([]:List Int).length<=_;simp⟩
  rw[aeX an]at h
  exact h
 have ep:∀i,i<p.ah.length->(p.ah.getD i default).kind=1\/(p.ah.getD i default).kind=2\/(p.ah.getD i default).kind=3\/(p.ah.getD i default).kind=4:=fun i hi=>by
  have bf:=(y2 eG.res).1
  have J:=oV bf hi
  simp only[eL]at J
  have J:=J.1
  unfold xg at J
  obtain⟨J,_⟩:=iX J
  obtain⟨J,W⟩:=iX J
  have:=cJ J
  have:=cJ W
  omega
 refine cB [.cell 10 3,.cell 11 45,.tmp 12] func46 D D fun E K af=>?_
 refine aO (cV 5 D D D<|cV 9 D D D<|cm 10 iC D<|cm 11 sf D<|aN 1 D)<|al<|aO (O 1 D<|cY (cf D) An (au D)<|aN 1 D)<|aL 2 D<|a7 D (fun aP=>?_) fun aP=>?_
 ·cases aP
 refine bx<|al<|aO (O 3 D<|cY (cn D D) ae0 (au D)<|O 2 D<|cz D<|O 1 D<|cz D<|O 1 D<|cz D<|O 1 D<|cz D<|cp D D D<|cz D<|cY (cn D D) ae1 (au D)<|cz D<|O 1 D<|ag (.pick (I D) (I D) (I D))<|O 1 D<|cz D<|O 1 D<|cz D<|O 1 D<|cz D<|O 1 D<|cz D<|cp D D D<|cz D<|cY (cn D D) ae2 (au D)<|cz D<|O 1 D<|ag (.pick (I D) (I D) (I D))<|ar)<|a7 D (fun bq=>?_) fun bq=>?_
 ·cases bq
 refine bx<|al<|aO (O 2 D<|cY (cn D D) ae3 (au D)<|aN 1 D)<|a7 D (fun b3=>?_) fun b3=>?_
 ·cases b3
 refine bx<|al<|c1 (b1.hV (t:=5) (l:=5) D D)<|c1 (b1.hV (t:=9) (l:=9) D D)<|eo (O 6 D<|ct [32] [] (cf D) (TE s.bV (by omega)) (au D) .nil D D<|O 2 D<|ct [33] [] (cf D) (TF s.bF (by omega)) (au D) .nil D D<|ag (.build sf PA (ba D D D (ba D D D (.nil _ _))) D)<|ag (.build XK Yf (ba D D D (ba D D D (ba D D D (ba D D D (ba D D D (.nil _ _)))))) D)<|wE 30 [] (I D) D D D<|cm 13 XJ D<|ny XI (I D) (I D) D D D (by simp[ai.fk,jo]) (cC D) D<|ar)<|al<|c1 (b1.nd (lb:=30) (j:=0) (l:=31) (n:=1) (fq:=[.cv .i64 []]) D D D D (by rw[K];decide) D (by simp[bz.len]) rfl)<|bm (cm 14 XM D<|ar)<|al<|c1 (b1.J8 (l:=14) D D)<|c1 (b1.nd (lb:=14) (j:=0) (l:=34) (n:=1) (fq:=[.cv .i64 []]) D D D D (by rw[K];decide) D (by simp[bz.len]) rfl)<|c1 (b1.aeH [.ao 13 0] (l:=34) D)<|bm (ag (.mG (.cons (I D) .nil))<|ag (.mG (.cons (I D) (.cons (I D) .nil)))<|ag (.mG (.cons (I D) .nil))<|ag (.build Pk Yg (ba D D D (ba D D D (ba D D D (ba D D D (.nil _ _))))) D)<|cm 15 Pk D<|ny XS (I D) (I D) D D (by rfl) (by exact eZ.1 D) (by exact cC D) D<|ar)<|aO (cY (jr .nil) aem (au D)<|cm 16 KB D<|cL KA D D D D<|ar)<|al<|al<|c1 (b1.hV (t:=16) (l:=16) D D)<|fS 4 D<|bX<|eP (σ:=Nat) [(ab 10,_),(ab 11,_),(ab 13,_),(ab 14,_),(ab 15,_),(ab 16,_),(ab 74,_),(ab 75,_),(G 11,_),(G 13,_),(G 15,_)] (fun i=>[(ab 76,.aB (aF .i64 (i:Int))),(G 10,.U (.data [av (l0 p (bL p (b0 bj ay ax s) p.ah.length).lets i)])),(G 14,.U (.cells [.aQ 34 (kY (fF p (bL p (b0 bj ay ax s) p.ah.length).lets i)).length])),(G 34,.U (.gR [.ao 13 0] (kY (fF p (bL p (b0 bj ay ax s) p.ah.length).lets i)))),(G 30,.U (.cells [.aQ 31 (bL p (b0 bj ay ax s) i).lets.length,.d (ev p.name),.d (av p.cR),.d (av p.tail),.d (dN p.params),.d (dN p.bt),.d (hJ p.a1),.d (ia p.bM),.d (iS p.ah),.d (ch (bL p (b0 bj ay ax s) i).bj),.d (ch (bL p (b0 bj ay ax s) i).ay),.d (ch (bL p (b0 bj ay ax s) i).ax),.aQ 32 (bL p (b0 bj ay ax s) i).bV.length,.aQ 33 (bL p (b0 bj ay ax s) i).bF.length])),(G 31,.U (.bG 1 (bL p (b0 bj ay ax s) i).lets.length [.cv .i64 (bL p (b0 bj ay ax s) i).lets])),(G 32,.U (.bG 1 (bL p (b0 bj ay ax s) i).bV.length [.cv .i64 (bL p (b0 bj ay ax s) i).bV])),(G 33,.U (.bG 1 (bL p (b0 bj ay ax s) i).bF.length [.ds ((bL p (b0 bj ay ax s) i).bF.map ch)]))]) (fun i=>i<=p.ah.length) (fun i=>p.ah.length-i) 0 (fs D D D D D D D D<|aU) (fs D D D D D D D D<|ck D D<|aZ D<|aU) (Nat.zero_le _) fun i hi=>?_
 refine aL 1 D<|al<|a7 D (fun et=>?_) fun et=>?_
 ·have aG:i<p.ah.length:=eJ et
  have lU:=aeY eG aC an (Nat.le_of_lt aG)
  have oC:(bL p (b0 bj ay ax s) i).lets.length=i:=by rw[vY];simp
  have vt:(bL p (b0 bj ay ax s) i).bV.length=p.bt.length:=by rw[AX];exact an.lj
  have iM:=(Z.ah _ (dJ aG)).2.2
  have ae4:kW p fd (bL p (b0 bj ay ax s) i).lets.length (p.ah.getD i default).x:=by rw[oC];exact eG.Mk aG
  have TK:(bL p (b0 bj ay ax s) p.ah.length).lets.getD i 0=(eY p (bL p (b0 bj ay ax s) i) (p.ah.getD i default).x):=C0 p _ D _ aG
  have ae5:(kY (fF p (bL p (b0 bj ay ax s) p.ah.length).lets i)).length<=64:=by rw[IB];have:=MB p (bL p (b0 bj ay ax s) p.ah.length).lets i;omega
  refine bx<|al<|bX<|aO (ag ((eN qH D D).bK (y:=.cc (jf (p.ah.getD i default))) D)<|O 1 D<|cm 18 nX D<|cL qI D D D D<|ar)<|aO (O 2 D<|cH [_] ((Pure.pT dL (I D) D fun _=>cC D).bK (y:=.d (.agg (cr (p.ah.getD i default).x))) D)<|kI (hd D D D) (aet lU _ iM ae4) (au D) (.hf D D D D) D<|aN 1 D)<|ft (O 7 D<|gN 91 [] iQ iC D (by decide) (by decide) (ba D D D (.nil _ _)) D D D<|hA 71 [G 31] p0 p1 (by decide) (.aQ (I D) D) (.aQ (I D) D) (bz.hT D) (hB D) (by omega) (by omega) (cs:=[.cv .i64 ((bL p (b0 bj ay ax s) i).lets++[(eY p (bL p (b0 bj ay ax s) i) (p.ah.getD i default).x)])]) D D<|O 3 D<|iG km D D D D D<|ar)<|gI 71 31 D<|c8.fj (T:=[(ab 10,.aB (.ao 10 0)),(ab 11,.aB (.ao 11 0)),(ab 13,.aB (.ao 13 0)),(ab 14,.aB (.ao 14 0)),(ab 15,.aB (.ao 15 0)),(ab 16,.aB (.cc A4)),(ab 18,.aB (.ao 18 0)),(ab 19,.aB (aF .i64 (eY p (bL p (b0 bj ay ax s) i) (p.ah.getD i default).x))),(ab 74,.aB (.d (iS p.ah))),(ab 75,.aB (aF .i64 p.ah.length)),(ab 76,.aB (aF .i64 (i:Int))),(G 10,.U (.data [av (l0 p (bL p (b0 bj ay ax s) p.ah.length).lets i)])),(G 11,.U (.data [.v (.slice none 0 0),.v (.slice none 0 0)])),(G 13,.U (.cells [.ao 30 0])),(G 14,.U (.cells [.aQ 34 (kY (fF p (bL p (b0 bj ay ax s) p.ah.length).lets i)).length])),(G 15,.U (.cells [.d (.v .nilFunc),.fn 92 [],.fn 93 [.ao 13 0],.fn 94 [.ao 14 0,.ao 13 0],.fn 96 [.ao 10 0]])),(G 18,.U (.data (jf (p.ah.getD i default)))),(G 34,.U (.gR [.ao 13 0] (kY (fF p (bL p (b0 bj ay ax s) p.ah.length).lets i)))),(G 30,.U (.cells [.aQ 31 ({(bL p (b0 bj ay ax s) i)with lets:=(bL p (b0 bj ay ax s) i).lets++[(eY p (bL p (b0 bj ay ax s) i) (p.ah.getD i default).x)]}:ee).lets.length,.d (ev p.name),.d (av p.cR),.d (av p.tail),.d (dN p.params),.d (dN p.bt),.d (hJ p.a1),.d (ia p.bM),.d (iS p.ah),.d (ch ({(bL p (b0 bj ay ax s) i)with lets:=(bL p (b0 bj ay ax s) i).lets++[(eY p (bL p (b0 bj ay ax s) i) (p.ah.getD i default).x)]}:ee).bj),.d (ch ({(bL p (b0 bj ay ax s) i)with lets:=(bL p (b0 bj ay ax s) i).lets++[(eY p (bL p (b0 bj ay ax s) i) (p.ah.getD i default).x)]}:ee).ay),.d (ch ({(bL p (b0 bj ay ax s) i)with lets:=(bL p (b0 bj ay ax s) i).lets++[(eY p (bL p (b0 bj ay ax s) i) (p.ah.getD i default).x)]}:ee).ax),.aQ 32 ({(bL p (b0 bj ay ax s) i)with lets:=(bL p (b0 bj ay ax s) i).lets++[(eY p (bL p (b0 bj ay ax s) i) (p.ah.getD i default).x)]}:ee).bV.length,.aQ 33 ({(bL p (b0 bj ay ax s) i)with lets:=(bL p (b0 bj ay ax s) i).lets++[(eY p (bL p (b0 bj ay ax s) i) (p.ah.getD i default).x)]}:ee).bF.length])),(G 31,.U (.bG 1 ({(bL p (b0 bj ay ax s) i)with lets:=(bL p (b0 bj ay ax s) i).lets++[(eY p (bL p (b0 bj ay ax s) i) (p.ah.getD i default).x)]}:ee).lets.length [.cv .i64 ({(bL p (b0 bj ay ax s) i)with lets:=(bL p (b0 bj ay ax s) i).lets++[(eY p (bL p (b0 bj ay ax s) i) (p.ah.getD i default).x)]}:ee).lets])),(G 32,.U (.bG 1 ({(bL p (b0 bj ay ax s) i)with lets:=(bL p (b0 bj ay ax s) i).lets++[(eY p (bL p (b0 bj ay ax s) i) (p.ah.getD i default).x)]}:ee).bV.length [.cv .i64 ({(bL p (b0 bj ay ax s) i)with lets:=(bL p (b0 bj ay ax s) i).lets++[(eY p (bL p (b0 bj ay ax s) i) (p.ah.getD i default).x)]}:ee).bV])),(G 33,.U (.bG 1 ({(bL p (b0 bj ay ax s) i)with lets:=(bL p (b0 bj ay ax s) i).lets++[(eY p (bL p (b0 bj ay ax s) i) (p.ah.getD i default).x)]}:ee).bF.length [.ds (({(bL p (b0 bj ay ax s) i)with lets:=(bL p (b0 bj ay ax s) i).lets++[(eY p (bL p (b0 bj ay ax s) i) (p.ah.getD i default).x)]}:ee).bF.map ch)]))]) ?_ (fs D D D D D D D D<|fs D D D D D D D D<|aZ D<|aZ (by show some (dz.U (cO.gR _ (ai.mE _ _ _)))=_;rw[TH];rfl)<|aZ (by rw[ef];rfl)<|aZ (by rw[ef];rfl)<|ck D D<|aU)
  rcases ep i aG with cS|cS|cS|cS
  ·have oo:bL p (b0 bj ay ax s) (i+1)={(bL p (b0 bj ay ax s) i)with lets:=(bL p (b0 bj ay ax s) i).lets++[(eY p (bL p (b0 bj ay ax s) i) (p.ah.getD i default).x)],bV:=(bL p (b0 bj ay ax s) i).bV}:=by simp only[bL,rR];rw[cS];rfl
   have qV:l0 p (bL p (b0 bj ay ax s) p.ah.length).lets (i+1)=l0 p (bL p (b0 bj ay ax s) p.ah.length).lets i:=by simp only[l0];rw[cS];rfl
   have kz:kY (fF p (bL p (b0 bj ay ax s) p.ah.length).lets (i+1))=(kY (fF p (bL p (b0 bj ay ax s) p.ah.length).lets i)):=by simp only[fF];rw[cS];rfl
   exact eo (O 1 D<|cH [_] ((mQ bY D D D).bK (y:=aF .i64 1) (congrArg (aF .i64) cS))<|ag (.mF G5 (I D) (I D) (fun _=>by decide) D)<|O 3 D<|ct [] [] (kU D D D) (aeP (p.ah.getD i default) (eY p (bL p (b0 bj ay ax s) i) (p.ah.getD i default).x)) (au D) .nil D D<|ar)<|bm (cp D D D<|aN 1 D)<|⟨i+1,aG,fD (by assumption),aZ (ec (by omega))<|aZ (by rw[qV];rfl)<|aZ (by rw[kz];rfl)<|aZ (by(rw[kz];rfl))<|aZ (by rw[oo];rfl)<|aZ (by rw[oo];rfl)<|aZ (by rw[oo];rfl)<|aZ (by rw[oo];rfl)<|aU,fs D D D D D D D D<|ck D D<|aZ D<|aU⟩
  ·have oo:bL p (b0 bj ay ax s) (i+1)={(bL p (b0 bj ay ax s) i)with lets:=(bL p (b0 bj ay ax s) i).lets++[(eY p (bL p (b0 bj ay ax s) i) (p.ah.getD i default).x)],bV:=(bL p (b0 bj ay ax s) i).bV.set (p.ah.getD i default).index.toNat (eY p (bL p (b0 bj ay ax s) i) (p.ah.getD i default).x)}:=by simp only[bL,rR];rw[cS];rfl
   have qV:l0 p (bL p (b0 bj ay ax s) p.ah.length).lets (i+1)=l0 p (bL p (b0 bj ay ax s) p.ah.length).lets i:=by simp only[l0];rw[cS];rfl
   have kz:kY (fF p (bL p (b0 bj ay ax s) p.ah.length).lets (i+1))=(kY (fF p (bL p (b0 bj ay ax s) p.ah.length).lets i)):=by simp only[fF];rw[cS];rfl
   have Ah:=eT.set i aG cS
   exact eo (O 1 D<|cH [_] ((mQ bY D D D).bK (y:=aF .i64 2) (congrArg (aF .i64) cS))<|ag (.mF G5 (I D) (I D) (fun _=>by decide) D)<|O 3 D<|ct [] [G 13,G 30,G 31,G 32,G 33] (kU D D D) (aeQ p {(bL p (b0 bj ay ax s) i)with lets:=(bL p (b0 bj ay ax s) i).lets++[(eY p (bL p (b0 bj ay ax s) i) (p.ah.getD i default).x)]} (p.ah.getD i default) (eY p (bL p (b0 bj ay ax s) i) (p.ah.getD i default).x) Ah.1 (by rw[show({(bL p (b0 bj ay ax s) i)with lets:=(bL p (b0 bj ay ax s) i).lets++[(eY p (bL p (b0 bj ay ax s) i) (p.ah.getD i default).x)]}:ee).bV=(bL p (b0 bj ay ax s) i).bV from rfl,vt];exact Ah.2)) (au D) (.tD D D D D D) D D<|ar)<|bm (cp D D D<|aN 1 D)<|⟨i+1,aG,fD (by assumption),aZ (ec (by omega))<|aZ (by rw[qV];rfl)<|aZ (by rw[kz];rfl)<|aZ (by(rw[kz];rfl))<|aZ (by rw[oo];rfl)<|aZ (by rw[oo];rfl)<|aZ (by rw[oo];rfl)<|aZ (by rw[oo];rfl)<|aU,fs D D D D D D D D<|ck D D<|aZ D<|aU⟩
  ·have oo:bL p (b0 bj ay ax s) (i+1)={(bL p (b0 bj ay ax s) i)with lets:=(bL p (b0 bj ay ax s) i).lets++[(eY p (bL p (b0 bj ay ax s) i) (p.ah.getD i default).x)],bV:=(bL p (b0 bj ay ax s) i).bV}:=by simp only[bL,rR];rw[cS];rfl
   have qV:l0 p (bL p (b0 bj ay ax s) p.ah.length).lets (i+1)=l0 p (bL p (b0 bj ay ax s) p.ah.length).lets i:=by simp only[l0];rw[cS];rfl
   have kz:kY (fF p (bL p (b0 bj ay ax s) p.ah.length).lets (i+1))=(kY (fF p (bL p (b0 bj ay ax s) p.ah.length).lets i))++[.fn 95 [.ao 13 0,.cc (jf (p.ah.getD i default)),.cc [av (eY p (bL p (b0 bj ay ax s) i) (p.ah.getD i default).x)]]]:=by simp only[fF];rw[cS];show kY (_++[_])=_;rw[TG,TK]
   have ae6:(kY (fF p (bL p (b0 bj ay ax s) p.ah.length).lets i))++[ai.fn 95 [.ao 13 0,.cc (jf (p.ah.getD i default)),.cc [av (eY p (bL p (b0 bj ay ax s) i) (p.ah.getD i default).x)]]]=kY (fF p (bL p (b0 bj ay ax s) p.ah.length).lets i++[((p.ah.getD i default),(eY p (bL p (b0 bj ay ax s) i) (p.ah.getD i default).x))]):=(TG _ ((p.ah.getD i default),(eY p (bL p (b0 bj ay ax s) i) (p.ah.getD i default).x))).symm
   exact eo (O 1 D<|cH [_] ((mQ bY D D D).bK (y:=aF .i64 3) (congrArg (aF .i64) cS))<|ag (.mF G5 (I D) (I D) (fun _=>by decide) D)<|O 3 D<|ct [35] [G 14,G 34] (kU D D D) (aeR (kY (fF p (bL p (b0 bj ay ax s) p.ah.length).lets i)) (p.ah.getD i default) (eY p (bL p (b0 bj ay ax s) i) (p.ah.getD i default).x) ae5) (au D) (.dy D D) D D<|ar)<|gI 35 34 D<|bm (cp D D D<|aN 1 D)<|⟨i+1,aG,fD (by assumption),aZ (ec (by omega))<|aZ (by rw[qV];rfl)<|aZ (by rw[kz];rfl)<|aZ (by(rw[kz];show some (dz.U (cO.gR _ (ai.mE 35 34 (_++[_]))))=_;rw[ae6,TH];rfl))<|aZ (by rw[oo];rfl)<|aZ (by rw[oo];rfl)<|aZ (by rw[oo];rfl)<|aZ (by rw[oo];rfl)<|aU,fs D D D D D D D D<|ck D D<|aZ D<|aU⟩
  have oo:bL p (b0 bj ay ax s) (i+1)={(bL p (b0 bj ay ax s) i)with lets:=(bL p (b0 bj ay ax s) i).lets++[(eY p (bL p (b0 bj ay ax s) i) (p.ah.getD i default).x)],bV:=(bL p (b0 bj ay ax s) i).bV}:=by simp only[bL,rR];rw[cS];rfl
  have qV:l0 p (bL p (b0 bj ay ax s) p.ah.length).lets (i+1)=(eY p (bL p (b0 bj ay ax s) i) (p.ah.getD i default).x):=by simp only[l0];rw[cS];exact TK
  have kz:kY (fF p (bL p (b0 bj ay ax s) p.ah.length).lets (i+1))=(kY (fF p (bL p (b0 bj ay ax s) p.ah.length).lets i)):=by simp only[fF];rw[cS];rfl
  exact eo (O 1 D<|cH [_] ((mQ bY D D D).bK (y:=aF .i64 4) (congrArg (aF .i64) cS))<|ag (.mF G5 (I D) (I D) (fun _=>by decide) D)<|O 3 D<|ct [] [G 10] (kU D D D) (aeT (p.ah.getD i default) (eY p (bL p (b0 bj ay ax s) i) (p.ah.getD i default).x) (l0 p (bL p (b0 bj ay ax s) p.ah.length).lets i)) (au D) (.cons D .nil) D D<|ar)<|bm (cp D D D<|aN 1 D)<|⟨i+1,aG,fD (by assumption),aZ (ec (by omega))<|aZ (by rw[qV];rfl)<|aZ (by rw[kz];rfl)<|aZ (by(rw[kz];rfl))<|aZ (by rw[oo];rfl)<|aZ (by rw[oo];rfl)<|aZ (by rw[oo];rfl)<|aZ (by rw[oo];rfl)<|aU,fs D D D D D D D D<|ck D D<|aZ D<|aU⟩
 have eW:i=p.ah.length:=by have:=dj et;omega
 subst eW
 refine dW<|al<|aL 3 D<|bX<|eP (σ:=Nat) [(ab 10,_),(ab 11,_),(ab 13,_),(ab 104,_),(ab 105,_),(G 10,_),(G 11,_),(G 13,_),(G 34,_)] (fun k=>[(ab 106,.aB (aF .i64 (k:Int))),(G 30,.U (.cells [.aQ 31 (bL p (b0 bj ay ax s) p.ah.length).lets.length,.d (ev p.name),.d (av p.cR),.d (av p.tail),.d (dN p.params),.d (dN p.bt),.d (hJ p.a1),.d (ia p.bM),.d (iS p.ah),.d (ch (bL p (b0 bj ay ax s) p.ah.length).bj),.d (ch (bL p (b0 bj ay ax s) p.ah.length).ay),.d (ch (bL p (b0 bj ay ax s) p.ah.length).ax),.aQ 32 (bL p (b0 bj ay ax s) p.ah.length).bV.length,.aQ 33 (o4 (bL p (b0 bj ay ax s) p.ah.length).bF ((fF p (bL p (b0 bj ay ax s) p.ah.length).lets p.ah.length).take k)).length])),(G 31,.U (.bG 1 (bL p (b0 bj ay ax s) p.ah.length).lets.length [.cv .i64 (bL p (b0 bj ay ax s) p.ah.length).lets])),(G 32,.U (.bG 1 (bL p (b0 bj ay ax s) p.ah.length).bV.length [.cv .i64 (bL p (b0 bj ay ax s) p.ah.length).bV])),(G 33,.U (.bG 1 (o4 (bL p (b0 bj ay ax s) p.ah.length).bF ((fF p (bL p (b0 bj ay ax s) p.ah.length).lets p.ah.length).take k)).length [.ds ((o4 (bL p (b0 bj ay ax s) p.ah.length).bF ((fF p (bL p (b0 bj ay ax s) p.ah.length).lets p.ah.length).take k)).map ch)]))]) (fun k=>k<=(fF p (bL p (b0 bj ay ax s) p.ah.length).lets p.ah.length).length) (fun k=>(fF p (bL p (b0 bj ay ax s) p.ah.length).lets p.ah.length).length-k) 0 (da D D D D<|aZ D<|aU) (fs D D D D D D D D<|aZ D<|aU) (Nat.zero_le _) fun k kC=>?_
 refine aL 1 D<|al<|a7 D (fun eQ=>?_) fun eQ=>?_
 ·have l1:k<(fF p (bL p (b0 bj ay ax s) p.ah.length).lets p.ah.length).length:=by have:=cJ eQ;rw[IB]at this;omega
  obtain⟨j,az,IC,rN⟩:=MA (dJ l1)
  have fl:0<=(b9 p j).index/\(b9 p j).index<p.a1.length:=eT.push j az rN
  have ajE:=MB p (bL p (b0 bj ay ax s) p.ah.length).lets p.ah.length
  have Ba:((fF p (bL p (b0 bj ay ax s) p.ah.length).lets p.ah.length).getD k default).1=b9 p j:=by rw[IC]
  have TL:∀m,m<p.a1.length->1<=((o4 (bL p (b0 bj ay ax s) p.ah.length).bF ((fF p (bL p (b0 bj ay ax s) p.ah.length).lets p.ah.length).take k)).getD m default).length/\((o4 (bL p (b0 bj ay ax s) p.ah.length).bF ((fF p (bL p (b0 bj ay ax s) p.ah.length).lets p.ah.length).take k)).getD m default).length<=65536:=fun m aw=>by
     have J:=gy.lY m aw
     have W:((s.bF.getD m default).length:Int)=_:=an.lK m aw
     rw[vZ,aeV _ _ (by show 1<=(s.bF.getD m default).length;omega)]
     show 1<=(s.bF.getD m default).length/\(s.bF.getD m default).length<=65536
     omega
  have qL:(o4 (bL p (b0 bj ay ax s) p.ah.length).bF ((fF p (bL p (b0 bj ay ax s) p.ah.length).lets p.ah.length).take k)).length=p.a1.length:=by rw[aeU,vZ];exact an.gH
  have dk:o4 (bL p (b0 bj ay ax s) p.ah.length).bF ((fF p (bL p (b0 bj ay ax s) p.ah.length).lets p.ah.length).take (k+1))=(o4 (bL p (b0 bj ay ax s) p.ah.length).bF ((fF p (bL p (b0 bj ay ax s) p.ah.length).lets p.ah.length).take k)).set ((fF p (bL p (b0 bj ay ax s) p.ah.length).lets p.ah.length).getD k default).1.index.toNat (((fF p (bL p (b0 bj ay ax s) p.ah.length).lets p.ah.length).getD k default).2::((o4 (bL p (b0 bj ay ax s) p.ah.length).bF ((fF p (bL p (b0 bj ay ax s) p.ah.length).lets p.ah.length).take k)).getD ((fF p (bL p (b0 bj ay ax s) p.ah.length).lets p.ah.length).getD k default).1.index.toNat default).dropLast):=by rw[uD l1,o4,List.foldl_append];rfl
  have hO:(kY (fF p (bL p (b0 bj ay ax s) p.ah.length).lets p.ah.length))[k]?=some (.fn 95 [.ao 13 0,.cc (jf ((fF p (bL p (b0 bj ay ax s) p.ah.length).lets p.ah.length).getD k default).1),.cc [av ((fF p (bL p (b0 bj ay ax s) p.ah.length).lets p.ah.length).getD k default).2]]):=by unfold kY;rw[fJ,dx l1,cN,dx l1];rfl
  exact bx<|al<|bX<|aO (ag (.mx XN (I D) (I D) fun _=>⟨by omega,by rw[IB];omega⟩)<|cH [_] (.aeG WR (I D) D hO)<|aN 1 D)<|dm (O 1 D<|ct [] [G 13,G 30,G 31,G 32,G 33] (zL (I D) .nil) (aeS p {(bL p (b0 bj ay ax s) p.ah.length)with bF:=(o4 (bL p (b0 bj ay ax s) p.ah.length).bF ((fF p (bL p (b0 bj ay ax s) p.ah.length).lets p.ah.length).take k))} ((fF p (bL p (b0 bj ay ax s) p.ah.length).lets p.ah.length).getD k default).1 ((fF p (bL p (b0 bj ay ax s) p.ah.length).lets p.ah.length).getD k default).2 (by rw[Ba];exact fl.1) (by show((fF p (bL p (b0 bj ay ax s) p.ah.length).lets p.ah.length).getD k default).1.index<((o4 (bL p (b0 bj ay ax s) p.ah.length).bF ((fF p (bL p (b0 bj ay ax s) p.ah.length).lets p.ah.length).take k)).length:Int);rw[qL,Ba];exact fl.2) (TL _ (by rw[Ba];omega)).1 (TL _ (by rw[Ba];omega)).2) (au D) (.tD D D D D D) D D<|ar) (nM K af D)<|bm (cp D D D<|aN 1 D)<|⟨k+1,l1,by show(fF p (bL p (b0 bj ay ax s) p.ah.length).lets p.ah.length).length-(k+1)<(fF p (bL p (b0 bj ay ax s) p.ah.length).lets p.ah.length).length-k;omega,aZ (ec (by omega))<|aZ (by rw[dk];rfl)<|ck D D<|aZ (by rw[dk];rfl)<|aU,fs D D D D D D D D<|aZ D<|aU⟩
 obtain rfl:k=(fF p (bL p (b0 bj ay ax s) p.ah.length).lets p.ah.length).length:=by have:=dj eQ;rw[IB]at this;omega
 exact dW<|al<|c1 (b1.mH (lb:=30) (j:=12) (l:=32) (n:=1) (g:=fun i=>[av ((bL p (b0 bj ay ax s) p.ah.length).bV.getD i default)]) D D D D (fun i hi=>rfl) D)<|c1 (b1.mH (lb:=30) (j:=13) (l:=33) (n:=1) (g:=fun i=>[ch ((o4 (bL p (b0 bj ay ax s) p.ah.length).bF ((fF p (bL p (b0 bj ay ax s) p.ah.length).lets p.ah.length).take (fF p (bL p (b0 bj ay ax s) p.ah.length).lets p.ah.length).length)).getD i default)]) D D D D (fun i hi=>(C5 hi).symm) D)<|eo (O 4 D<|cH [_] (.x2 nB (I D) D fun _=>cC D)<|dZ bY D D D D D<|cL nB D D D D<|aN 1 D)<|bp<|⟨.inr D,⟨_,(.cons (.hR D D bY D) (.cons (.iP D D nB D) (.cons (.tmp D) .nil))),(congrArg (fun L=>ai.bE [.d (av (l0 p (bL p (b0 bj ay ax s) p.ah.length).lets p.ah.length)),.d (.agg [ch (bL p (b0 bj ay ax s) p.ah.length).bV,nI L]),.d (av 0)]) (by rw[List.take_length,Mz,vZ];rfl))⟩,by simp[ad.get]⟩
section
variable {P:Program} {S:ad} {ro:eR} {ops:Array Oper} {E:c7}
theorem bI.ae7{S':ad}{r:List Oper}{L:List cx}{d:Nat}{t e ty:TypeId}{x y:Operand}{pos:String}{a6:Array Edge}{cq:List Value}{n bytes:Nat}{k jZ:IntKind}{len cap:Int}{cs:List bz}{g:Nat->List bg}{u:bg}(lb:Nat)
  (aT:kQ P t e n=true) (ae:(P.info? e).map (·.bytes)=some bytes) (bd:cZ P e cq) (ue:cq.length=n) (af:0<n) (aX:cd S true x (aF k len)) (bu:cd S true y (aF jZ cap)) (bb:0<=len/\len<=cap) (J:bytes*cap<=281474976710656) (W:cap<=281474976710656)
  (fV:s0 len.toNat cq=cs) (aM:∀i,i<len.toNat->cs.map (bz.at · i)=g i) (hu:bg.cK n len.toNat g=u)
  (h3:h7 ⟨cQ ⟨some d,.makeSlice t x y,ty,pos,a6,none⟩,S,[(G lb,none),(ab d,some (.aB (.d u)))],[lb]⟩ S=true) (h:bI P ro ops r ((ab d,.aB (.d u))::ad.iJ (G lb) S) L S'):
  bI P ro ops (⟨some d,.makeSlice t x y,ty,pos,a6,none⟩::r) S (⟨cQ ⟨some d,.makeSlice t x y,ty,pos,a6,none⟩++([]:List Nat).map G,S,[(G lb,none),(ab d,some (.aB (.d u)))],[lb]⟩::L) S':=by
 subst hu
 have ae8:h7 ⟨cQ ⟨some d,.makeSlice t x y,ty,pos,a6,none⟩,S,fU [] lb (.bG n len.toNat cs) d (.aQ lb len.toNat),[lb]⟩ S=true:=by
  simp only[h7,List.all_cons,List.all_nil,Bool.and_true,eZ]at h3⊢
  intro q bA
  have:=h3 q bA
  simp only[cx.jl,List.map_cons,List.map_nil]at this
  have e0:hx q.1 (cx.jl ⟨cQ ⟨some d,.makeSlice t x y,ty,pos,a6,none⟩,S,fU [] lb (.bG n len.toNat cs) d (.aQ lb len.toNat),[lb]⟩)=hx q.1 [G lb,ab d]:=rfl
  rw[e0]
  exact this
 have E7:=bI.makeSlice (P:=P) (ro:=ro) (ops:=ops) (r:=[]) (L:=[]) (ty:=ty) (pos:=pos) (a6:=a6) lb [] aT ae bd ue af aX bu bb J W fV ae8 (.nil _)
 have ha:kA P ro ops ⟨some d,.makeSlice t x y,ty,pos,a6,none⟩ ⟨cQ ⟨some d,.makeSlice t x y,ty,pos,a6,none⟩++([]:List Nat).map G,S,fU [] lb (.bG n len.toNat cs) d (.aQ lb len.toNat),[lb]⟩:=by
  cases E7 with
  |cons aC _ _ _ _=>exact aC
 refine .cons (fun E T a w ox bf dX kF Q gD=>?_) (fun _ _=>rfl) (by simpa using sN h3) (fun m=>?_) h
 ·have rA:xU ⟨cQ ⟨some d,.makeSlice t x y,ty,pos,a6,none⟩++([]:List Nat).map G,S,fU [] lb (.bG n len.toNat cs) d (.aQ lb len.toNat),[lb]⟩ T:=bf
  have My:zt E ⟨cQ ⟨some d,.makeSlice t x y,ty,pos,a6,none⟩++([]:List Nat).map G,S,fU [] lb (.bG n len.toNat cs) d (.aQ lb len.toNat),[lb]⟩:=dX
  refine wv (fun a w aE=>?_) (ha E T a w ox rA My kF Q gD)
  have es:(T.eK (fU [] lb (.bG n len.toNat cs) d (.aQ lb len.toNat))).get (ab d)=some (.aB (.aQ lb len.toNat)):=by
   rw[u7,if_pos rfl]
  have Mx:(T.eK (fU [] lb (.bG n len.toNat cs) d (.aQ lb len.toNat))).get (G lb)=some (.U (.bG n len.toNat cs)):=by
   rw[u7,if_neg (iz d lb),if_pos D]
  have k3:=b1.tb (E:=E) es Mx aM a w aE
  refine k3.fj (S':=T.eK [(G lb,none),(ab d,some (.aB (.d (.cK n len.toNat g))))]) fun m c e=>?_
  rw[mY]at e
  rw[ej,o7,u7]
  simp only[l3]at e
  by_cases J:ab d=m
  ·rw[if_pos J]at e⊢;exact e
  ·rw[if_neg J]at e⊢
   by_cases W:G lb=m
   ·rw[if_pos W]at e;cases e
   ·rw[if_neg W]at e⊢
    rw[if_neg J,if_neg W,if_neg (by simp)]
    exact e
 ·rw[mY]
  simp only[l3]
  rw[ej,o7]
end
def fH(p:aD):fa:=⟨p.bt.map fun b=>fu 0 b.lo b.hi,p.a1.map fun l=>List.replicate l.size.toNat 0⟩
theorem ae9{n:Nat}{i:Nat}(h:i<n):(s0 n [Value.int .i64 0]).map (bz.at · i)=[av ((List.replicate n (0:Int)).getD i default)]:=by
 simp[s0,bz.at,cN,h]
theorem afa{n:Nat}:bg.cK 1 n (fun i=>[av ((List.replicate n (0:Int)).getD i default)])=ch (List.replicate n 0):=by
 show _=bg.cK 1 (List.replicate n (0:Int)).length _
 rw[List.length_replicate]
theorem afb(p:aD)(Z:p.b5)(gy:It p)(eU:rP p=true):bw prog 9 [.d (fR p)] [] (.bE [.d (lN (fH p)),.d (av 0)]) [] []:=by
 have An:bw prog 6 [.d (fR p)] [] (.d (av 0)) [] []:=by
  have:=FD Z
  rw[eU]at this
  exact this
 have xz:=gy.hH
 have qC:=gy.gH
 have vt:(fH p).bV.length=p.bt.length:=by simp[fH]
 have qL:(fH p).bF.length=p.a1.length:=by simp[fH]
 refine cB [.cell 2 45,.tmp 3] func9 D D fun E K af=>?_
 refine aO (cV 1 D D D<|cm 2 sf D<|aN 1 D)<|al<|aO (O 1 D<|cY (cf D) An (au D)<|aN 1 D)<|aL 2 D<|a7 D (fun aP=>?_) fun aP=>?_
 ·cases aP
 refine bx<|al<|al<|c1 (b1.hV (t:=1) (l:=1) D D)<|c1 (b1.J8 (l:=2) D D)<|c1 (b1.nd (lb:=2) (j:=0) (l:=31) (n:=1) (fq:=[.cv .i64 []]) D D D D (by rw[K];decide) D (by simp[bz.len]) rfl)<|c1 (b1.nd (lb:=2) (j:=1) (l:=33) (n:=1) (fq:=[.ds []]) D D D D (by rw[K];decide) D (by simp[bz.len]) rfl)<|fS 4 rfl<|bX<|eP (σ:=Nat) [(ab 1,_),(ab 2,_),(ab 15,_),(ab 16,_),(G 33,_)] (fun i=>[(ab 17,.aB (aF .i64 (i:Int))),(G 2,.U (.cells [.aQ 31 i,.aQ 33 0])),(G 31,.U (.bG 1 i [.cv .i64 ((fH p).bV.take i)]))]) (fun i=>i<=p.bt.length) (fun i=>p.bt.length-i) 0 (ck D D<|aZ D<|aU) (da D D D D<|aZ D<|aU) (Nat.zero_le _) fun i hi=>?_
 refine aL 1 D<|al<|a7 D (fun bq=>?_) fun bq=>?_
 ·have aG:i<p.bt.length:=eJ bq
  have fz:(fH p).bV.take (i+1)=(fH p).bV.take i++[fu 0 (p.bt.getD i default).lo (p.bt.getD i default).hi]:=by rw[uD (by rw[vt];exact aG)];congr 2;simp[fH,cN,aG]
  have Mq:((fH p).bV.take i).length=i:=by rw[rv,vt];omega
  exact bx<|al<|bX<|aO (ag ((eN lE D D).bK (y:=.cc (tq (p.bt.getD i default))) D)<|O 1 D<|cm 5 uq D<|cL yq D D D D<|ar)<|eo (O 6 D<|cY (hd D D D) (Is _ _ _) (au D)<|gN 28 [] iQ iC D (by decide) (by decide) (ba D D D (.nil _ _)) D D D<|hA 71 [G 31] p0 p1 (by decide) (.aQ (I D) D) (.aQ (I D) D) (bz.hT D) (hB D) (by omega) (by omega) (cs:=[.cv .i64 ((fH p).bV.take i++[fu 0 (p.bt.getD i default).lo (p.bt.getD i default).hi])]) D D<|O 1 D<|iG km D D D D D<|ar)<|gI 71 31 D<|bm (cp D D D<|aN 1 D)<|⟨i+1,aG,fD (by assumption),aZ (ec (by omega))<|aZ D<|aZ (by rw[fz];rfl)<|aU,da D D D D<|aZ D<|aU⟩
 obtain rfl:i=(fH p).bV.length:=by have:=dj bq;rw[vt];omega
 rw[List.take_length]
 refine dW<|al<|aL 4 D<|bX<|eP (σ:=Nat) [(ab 2,_),(ab 33,_),(ab 34,_),(G 31,_)] (fun k=>[(ab 35,.aB (aF .i64 (k:Int))),(G 2,.U (.cells [.aQ 31 (fH p).bV.length,.aQ 33 k])),(G 33,.U (.bG 1 k [.ds (((fH p).bF.take k).map ch)]))]) (fun k=>k<=p.a1.length) (fun k=>p.a1.length-k) 0 (ck D D<|aZ D<|aU) (da D D D D<|aU) (Nat.zero_le _) fun k kC=>?_
 refine aL 1 D<|al<|a7 D (fun b3=>?_) fun b3=>?_
 ·have l1:k<p.a1.length:=eJ b3
  have afc:(fH p).bF.take (k+1)=(fH p).bF.take k++[(List.replicate (p.a1.getD k default).size.toNat (0:Int))]:=by rw[uD (by rw[qL];exact l1)];congr 2;simp[fH,cN,l1]
  have cj:=gy.lY k l1
  exact bx<|al<|bX<|aO (ag ((eN nV D D).bK (y:=.cc (p8 (p.a1.getD k default))) D)<|O 1 D<|cm 7 vp D<|cL wU D D D D<|ar)<|eo (O 4 D<|bI.ae7 (u:=ch (List.replicate (p.a1.getD k default).size.toNat (0:Int))) 43 iQ OP iC D (by decide) (I D) (I D) ⟨by omega,by omega⟩ (by omega) (by omega) D (fun i hi=>ae9 hi) afa D<|gN 44 [] BQ BN D (by decide) (by decide) (ba D D D (.nil _ _)) D D D<|hA 73 [G 33] Em En (by decide) (.aQ (I D) D) (.aQ (I D) D) (bz.hT D) (hB D) (by omega) (by omega) (cs:=[.ds (((fH p).bF.take k).map ch++[ch (List.replicate (p.a1.getD k default).size.toNat (0:Int))])]) D D<|O 1 D<|iG wT D D D D D<|ar)<|gI 73 33 D<|bm (cp D D D<|aN 1 D)<|⟨k+1,l1,fD (by assumption),aZ (ec (by omega))<|aZ D<|aZ (by rw[afc,List.map_append];rfl)<|aU,da D D D D<|aU⟩
 obtain rfl:k=(fH p).bF.length:=by have:=dj b3;rw[qL];omega
 rw[List.take_length]
 exact dW<|al<|c1 (b1.mH (lb:=2) (j:=0) (l:=31) (n:=1) (g:=fun i=>[av ((fH p).bV.getD i default)]) D D D D (fun i hi=>rfl) D)<|c1 (b1.mH (lb:=2) (j:=1) (l:=33) (n:=1) (g:=fun i=>[ch ((fH p).bF.getD i default)]) D D D D (fun i hi=>(C5 hi).symm) D)<|bm (cH [_] (.x2 nB (I D) D fun _=>cC D)<|x7 nB (I D) (I D) D D (by rfl) (by exact eZ.1 D) (by simp) rfl<|aN 1 rfl)<|bp<|⟨.inr rfl,⟨_,(.cons (.va D D nB D) (.cons (.tmp D) .nil)),rfl⟩,by simp[ad.get]⟩
theorem afd{p:aD}(gy:It p)(ae:∀i,i<p.bt.length->(p.bt.getD i default).lo<=(p.bt.getD i default).hi):kx p (fH p):=by
 refine⟨by simp[fH],by simp[fH],fun i hi=>?_,fun i hi=>?_,fun i hi x Y=>?_⟩
 ·have:(fH p).bV.getD i 0=fu 0 (p.bt.getD i default).lo (p.bt.getD i default).hi:=by simp[fH,cN,hi]
  rw[this]
  exact FF (ae i hi)
 ·have:(fH p).bF.getD i []=List.replicate (p.a1.getD i default).size.toNat 0:=by simp[fH,cN,hi]
  rw[this,List.length_replicate]
  have:=gy.lY i hi
  omega
 ·have:(fH p).bF.getD i []=List.replicate (p.a1.getD i default).size.toNat 0:=by simp[fH,cN,hi]
  rw[this]at Y
  exact .inl (List.eq_of_mem_replicate Y)
end Go.Proofs.YtfgcfofjjiinjaaGreatDoor

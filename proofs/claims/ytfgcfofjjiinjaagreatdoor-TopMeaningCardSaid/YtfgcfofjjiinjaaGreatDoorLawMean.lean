/- TopMeaning: for every source, every list of parameters, samples and sizes of blocks that can be read, the law answers true. The card lists package-level variables of the library and ranges.samples, tied to the text of the pruned copy. No other condition. -/
import Derived.Test.YtfgcfofjjiinjaaGreatDoorCards
import Derived.Test.YtfgcfofjjiinjaaGreatDoorPk5
import Derived.JoinedOf
import Derived.ProofKit
import Derived.ChangeBare
import Derived.ChangeViews
import Derived.SevenTiedAt
namespace Go.Proofs.YtfgcfofjjiinjaaGreatDoor.topMeaning
open Go Go.ChangeShapes Go.WideShapes Go.ChangeAt Go.WideMaps Go.WideElems Go.RowKit
set_option linter.unusedVariables false
set_option linter.unusedSimpArgs false
set_option maxRecDepth 100000 in
theorem aiT{H:Type}(enc:TypeId×Value→H)(gB:World)(ly:Nat)(args:Array Value)(ds gs:List (DataW H))(before:List MemPlace)
  (p6:∀(j:Nat) t v,Tryz.f3.params[j]?=some t→args[j]?=some v→Value.okWide Tryz.prog gB .any ly t v)
  (nY:DataW.Whole enc Tryz.prog Tryz.f3.params.toList Rows.topMeaningSpec.vars false gB args.toList ds gs before)
  (cj:(DataW.weightsEach Tryz.prog (Tryz.f3.params.toList++Rows.topMeaningSpec.plain.varTypes Tryz.prog) (ds++gs)).all (· ≤reachBytes)=true) (gy:laidMetH Tryz.prog Ge gB) (Gf:gB.ShapedOpen Tryz.prog):
  Calls Tryz.prog 3 args gB fun e pP=>∃v,e= .returned v∧Rows.topMeaningSpec.post enc Tryz.prog Tryz.f3 false true false false gB args v pP:=by
 have te:=nY
 obtain⟨p,q,aiU,Ae,rfl,ND,h0⟩:=nY
 have dk:DataW.TrodAll enc Tryz.prog gB 0 (fun _=>true) true Tryz.f3.params.toList args.toList ds p:=aiU
 rw[Tryz.params3]at dk p6
 obtain⟨v0,aj6,d0,aj7,UK,aiG,aj8,rfl,rfl,bb,r0⟩:=trodAll_cons dk
 obtain⟨v1,T9,d1,aj9,vw,eE,aiV,rfl,rfl,J,gO⟩:=trodAll_cons r0
 subst aiV
 obtain⟨v2,aka,d2,akb,Cd,eV,aiW,rfl,rfl,W,s4⟩:=trodAll_cons gO
 subst aiW
 obtain⟨v3,akc,d3,akd,UL,hl,aiX,rfl,rfl,aH,aiY⟩:=trodAll_cons s4
 subst aiX
 obtain⟨v4,ake,d4,akf,aiJ,je,aiZ,rfl,rfl,aV,ai0⟩:=trodAll_cons aiY
 subst aiZ
 obtain⟨v5,akg,d5,akh,aiM,mN,ai1,rfl,rfl,db,ai2⟩:=trodAll_cons ai0
 subst ai1
 obtain⟨rfl,rfl,rfl⟩:=trodAll_nil ai2
 obtain rfl:args= #[v0,v1,v2,v3,v4,v5]:=by cases args;simp_all
 obtain⟨rfl,rfl⟩:=trodVars_none Ae
 obtain⟨aki,oa,iV⟩:=Dq Ds Bn Bo (t:=9) (h6.1 rfl) (.inr (.inr (.inl Tryz.underlying9))) (p6 0 9 v0 rfl rfl) bb (fun n af=>by
  have:=eZ.1 cj n (DataW.weights_mem_each (j:=0) (t:=9) (by rw[Tryz.params3];rfl) rfl n af)
  simpa using this)
 obtain⟨ai3,Vq,A0⟩:=aif Tryz.underlying9 oa
 simp only[List.cons.injEq,and_true]at Vq
 subst Vq
 obtain⟨hK,iF,zX⟩:=Dq Ds Bn Bo (t:=22) (h6.1 rfl) (.inr (.inr (.inr ⟨_,Tryz.underlying22⟩))) (p6 1 22 v1 rfl rfl) J (fun n af=>by
  have:=eZ.1 cj n (DataW.weights_mem_each (j:=1) (t:=22) (by rw[Tryz.params3];rfl) rfl n af)
  simpa using this)
 obtain⟨fy,lV,sh,aP⟩:=Gd Tryz.underlying22 Tryz.underlying3 Jo Jp iF
 obtain⟨jx,gr,zJ⟩:=Dq Ds Bn Bo (t:=22) (h6.1 rfl) (.inr (.inr (.inr ⟨_,Tryz.underlying22⟩))) (p6 2 22 v2 rfl rfl) W (fun n af=>by
  have:=eZ.1 cj n (DataW.weights_mem_each (j:=2) (t:=22) (by rw[Tryz.params3];rfl) rfl n af)
  simpa using this)
 obtain⟨e7,KO,k3,bq⟩:=Gd Tryz.underlying22 Tryz.underlying3 Jo Jp gr
 obtain⟨nn,IJ,NF⟩:=Dq Ds Bn Bo (t:=22) (h6.1 rfl) (.inr (.inr (.inr ⟨_,Tryz.underlying22⟩))) (p6 3 22 v3 rfl rfl) aH (fun n af=>by
  have:=eZ.1 cj n (DataW.weights_mem_each (j:=3) (t:=22) (by rw[Tryz.params3];rfl) rfl n af)
  simpa using this)
 obtain⟨jv,aiD,akj,b3⟩:=Gd Tryz.underlying22 Tryz.underlying3 Jo Jp IJ
 obtain⟨qQ,Iv,NG⟩:=Dq Ds Bn Bo (t:=22) (h6.1 rfl) (.inr (.inr (.inr ⟨_,Tryz.underlying22⟩))) (p6 4 22 v4 rfl rfl) aV (fun n af=>by
  have:=eZ.1 cj n (DataW.weights_mem_each (j:=4) (t:=22) (by rw[Tryz.params3];rfl) rfl n af)
  simpa using this)
 obtain⟨Hy,akk,akl,et⟩:=Gd Tryz.underlying22 Tryz.underlying3 Jo Jp Iv
 obtain⟨xm,Ik,NH⟩:=Dq Ds Bn Bo (t:=23) (h6.1 rfl) (.inr (.inr (.inr ⟨_,Tryz.underlying23⟩))) (p6 5 23 v5 rfl rfl) db (fun n af=>by
  have:=eZ.1 cj n (DataW.weights_mem_each (j:=5) (t:=23) (by rw[Tryz.params3];rfl) rfl n af)
  simpa using this)
 obtain⟨Aw,akm,ai4,eQ⟩:=Gd Tryz.underlying23 Tryz.underlying5 ain aio Ik
 have bd:∀k,k<Aw.length→0≤Aw.getD k default∧Aw.getD k default≤255:=fun k K=>by simpa[IntKind.min,IntKind.max,IntKind.signed,IntKind.bits]using ai4 k K
 exact aij Bn te rfl (aim (by rw[Tryz.params3];rfl)) rfl Tryz.underlying4 rfl (aiF gy Gf) (ah3 ai3 fy e7 jv Hy Aw (by omega) (by omega) (by omega) (by omega) (by omega) (by omega) bd) (aip iV (aP _ _ zX) (bq _ _ zJ) (b3 _ _ NF) (et _ _ NG) (eQ _ _ NH))
set_option maxRecDepth 100000 in
theorem ai5(os:Os)(started:os.Started)(H:Type)(enc:TypeId×Value→H):
  ReturnsInHanded {} Tryz.checked os 3 .any (fun w args=>(Rows.topMeaningSpec.pre enc Tryz.prog Tryz.f3 Rows.topMeaningRow.domain false w args∧laidMetH Tryz.prog Ge w)∧sizedMet enc Tryz.prog Tryz.f3 (OpenSpec.ofChange Rows.topMeaningSpec) false w args) (Rows.topMeaningSpec.post enc Tryz.prog Tryz.f3 false true false false):=by
 refine returnsInHanded_of_calls aQ started (by kernel_rfl)
  (ChangeSpec.witness_shaped (enc:=enc) (C:=Tryz.checked) (os:=os) (X:=fun w _=>laidMetH Tryz.prog Ge w) false (World.doorLaid Tryz.prog 400 os) #[.string ⟨#[]⟩,.slice none 0 0,.slice none 0 0,.slice none 0 0,.slice none 0 0,.slice none 0 0] 8 rfl (World.shaped_of_RefB (by kernel_rfl) (by kernel_rfl)) (by kernel_rfl) (by kernel_rfl) (by kernel_rfl) (aiS os _)) ?_
 intro w tape i _ Gf _ dX nN _
 obtain⟨_,_,_,g,aM,_,_,_,_,p6⟩:=dX
 obtain rfl:g=Tryz.f3:=Option.some.inj (aM.symm.trans Tryz.func3)
 obtain⟨⟨⟨ds,gs,before,hw,_⟩,Y⟩,bd⟩:=nN
 have b8:=DataW.Whole.of_heap (w':=w.forCall tape i) (by rfl) hw
 refine(aiT enc (w.forCall tape i) w.heap.size i.args ds gs before p6 b8 (bd.weights hw) (Y.of_heap (by rfl)) Gf).mono fun e pP h=>?_
 obtain⟨v,rfl,Z⟩:=h
 exact ChangeSpec.post_blind Z
theorem ai6:Rows.TopMeaningSaid:=
 OpenClaim.holds_of_wide 3 Tryz.f3 rfl rfl rfl rfl rfl rfl rfl ⟨rfl,rfl,rfl,rfl,rfl⟩ rfl rfl rfl rfl rfl (by kernel_rfl) Tryz.func3 (by kernel_rfl)
  (cJ (by kernel_rfl)) (by unfold Func.isWrapper;first|(rw[if_pos (by decide+kernel)];kernel_rfl)|(rw[if_neg (by decide+kernel)];exact⟨rfl,rfl⟩))
  (fun os started H enc _=>ai5 os started H enc)
theorem proved:Rows.TopMeaningCardSaid:=
 Claim7.holds_tied_plain_at .later [] [.data,.data,.data,.sentinel,.sentinel,.data] true (true, "7f8f6a056c84222e43460abeb7f6673d8d7499220f3a17919a224ecdec699b4f") true
  ai6 (fun _ h=>by cases h) (by kernel_rfl) (fun _ h=>by cases h) topMeaning_row_tie rfl ⟨rfl,rfl⟩ (by kernel_rfl) rfl
  (fun f fn bf p4=>by
   obtain rfl:f=3:=Option.some.inj ((show Tryz.prog.funcNamed "soundpost/soundposttop.TopMeaning" =some 3 by kernel_rfl).symm.trans bf)|>.symm
   obtain rfl:fn=Tryz.f3:=(Option.some.inj (Tryz.func3.symm.trans p4)).symm
   exact⟨by kernel_rfl,fun j t aT=>by
    rw[Tryz.params3]at aT
    have aw:t∈[9,22,22,22,22,23]:=by simpa using Array.mem_of_getElem? aT
    have k9:([9,22,22,22,22,23].all fun u=> !Tryz.prog.wantsStandIn u)=true:=by kernel_rfl
    exact(show Tryz.prog.wantsStandIn t=false by simpa using eZ.1 k9 t aw)⟩)
  (by kernel_rfl)
end Go.Proofs.YtfgcfofjjiinjaaGreatDoor.topMeaning

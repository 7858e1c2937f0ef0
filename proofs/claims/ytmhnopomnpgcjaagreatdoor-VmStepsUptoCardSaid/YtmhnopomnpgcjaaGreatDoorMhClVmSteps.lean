/-
  clewlaw32.VmSteps returns true for every input of bulk at most 1048576, and leaves its arguments as they are. No condition is added to the given statement.
-/
import Derived.Test.YtmhnopomnpgcjaaGreatDoorRows
import Derived.WalkKit
import Derived.ProofKit
import Derived.OpenShut
import Derived.JoinedCond
import Derived.Test.YtmhnopomnpgcjaaGreatDoorTie
import Derived.Test.YtmhnopomnpgcjaaGreatDoorCards
import Derived.SevenTiedAt
import Derived.LaidMore
import Derived.JoinedCond
import Derived.Test.YtmhnopomnpgcjaaGreatDoorMh10
set_option linter.unusedSimpArgs false
set_option linter.unusedVariables false
namespace Go.Proofs.YtmhnopomnpgcjaaGreatDoor.vmSteps
open Go.ChangeShapes Go.WideShapes Go.ChangeAt Go.RowKit Go.Ab
mutual
theorem B0{H:Type}:∀d:DataW H,Rows.uptoBulk d=eU d
 | .lit l=>by cases l<;>simp[Rows.uptoBulk,eU]
 | .nil=>by simp[Rows.uptoBulk,eU]
 | .ptr d=>by simp[Rows.uptoBulk,eU,B0 d]
 | .slice e s=>by simp[Rows.uptoBulk,eU,ui e,ui s]
 | .agg p=>by simp[Rows.uptoBulk,eU,ui p]
 | .iface t d=>by simp[Rows.uptoBulk,eU,B0 d]
 | .map e=>by simp[Rows.uptoBulk,eU,AO e]
 | .held h=>by simp[Rows.uptoBulk,eU]
theorem ui{H:Type}:∀l:List (DataW H),Rows.uptoBulkAll l=ll l
 | []=>by simp[Rows.uptoBulkAll,ll]
 | d::r=>by simp[Rows.uptoBulkAll,ll,B0 d,ui r]
theorem AO{H:Type}:∀l:List (Lit×DataW H),Rows.uptoBulkEntries l=rL l
 | []=>by simp[Rows.uptoBulkEntries,rL]
 | x::r=>by simp[Rows.uptoBulkEntries,rL,Qu x,AO r]
theorem Qu{H:Type}:∀x:Lit×DataW H,Rows.uptoBulkEntry x=Dr x
 | (l,d)=>by cases l<;>simp[Rows.uptoBulkEntry,Dr,B0 d]
end
theorem small{H:Type}(ds:List (DataW H))(h:Rows.uptoSmall H ds=true):ll ds<=1048576:=by
 rw[<-ui];exact of_decide_eq_true h
theorem own:ownKnob Tryz.prog.godebug=none:=by kernel_rfl
theorem aeO(os:Os)(args:Array Value):laidMetH Tryz.prog Rows.vmStepsUptoRow.laid ((World.doorLaid Tryz.prog 24 os).forCall (λ_ _=>0) ⟨#[],args,[]⟩).memory:=
 laidMetH_of_parts3 (fuel:=8) (laidMet_of_run' 8 (by kernel_rfl) (by kernel_rfl)) (by kernel_rfl) (by kernel_rfl)
theorem ahP:Tryz.prog.globalNamed "internal/strconv.uint64pow10" =some 0:=by kernel_rfl
theorem ahQ:(Tryz.prog.globals[0]?).map (·.type)=some 271:=by kernel_rfl
theorem adk:Tryz.prog.cellsOf 32=1:=by kernel_rfl
theorem gl(W:World)(h:laidMetH Tryz.prog Rows.vmStepsUptoRow.laid W):uV W (OO (⟨λ_=>False,[],none,false⟩:FO) fP):=by
 rw[MakeChecks.laidMetH_plain _ _ _ (by kernel_rfl)]at h;obtain⟨ps,⟨g0,t0,cs0,f0,p0,q0,hg0,Th,LU,Fu,⟨g1,t1,SW,f1,p1,q1,OY,Nu,hv1,yY,⟨g2,t2,Ih,f2,p2,q2,nW,vt,KX,nr,_,_⟩,_⟩,_⟩,_,_⟩:=h;obtain rfl:0=g2:=aoK (ahP.symm.trans nW);obtain rfl:271=t2:=aoK (ahQ.symm.trans vt);have key:∀(i:Nat) (x:Int),([1,10,100,1000,10000,100000,1000000,10000000,100000000,1000000000,10000000000,100000000000,1000000000000,10000000000000,100000000000000,1000000000000000,10000000000000000,100000000000000000,1000000000000000000,10000000000000000000]:List Int)[i]?=some x->W.cell? ⟨0,i,none⟩=some (.int .u64 x):=λi x hi=>by
  rw[World.var?_cell nW KX i,<-apm];exact Cv (k:= .u64) Tryz.underlying271 Tryz.underlying32 adk nr i x hi
 intro p hp;simp only[EB,aqh]at hp;subst hp;refine⟨aew (key 0 1 rfl),aev _,?_,?_⟩
 ·intro j v hj;have e:([.int .u64 1,.int .u64 10,.int .u64 100,.int .u64 1000,.int .u64 10000,.int .u64 100000,.int .u64 1000000,.int .u64 10000000,.int .u64 100000000,.int .u64 1000000000,.int .u64 10000000000,.int .u64 100000000000,.int .u64 1000000000000,.int .u64 10000000000000,.int .u64 100000000000000,.int .u64 1000000000000000,.int .u64 10000000000000000,.int .u64 100000000000000000,.int .u64 1000000000000000000,.int .u64 10000000000000000000]:List Value)=([1,10,100,1000,10000,100000,1000000,10000000,100000000,1000000000,10000000000,100000000000,1000000000000,10000000000000,100000000000000,1000000000000000,10000000000000000,100000000000000000,1000000000000000000,10000000000000000000]:List Int).map (Value.int .u64):=rfl
  replace hj:([.int .u64 1,.int .u64 10,.int .u64 100,.int .u64 1000,.int .u64 10000,.int .u64 100000,.int .u64 1000000,.int .u64 10000000,.int .u64 100000000,.int .u64 1000000000,.int .u64 10000000000,.int .u64 100000000000,.int .u64 1000000000000,.int .u64 10000000000000,.int .u64 100000000000000,.int .u64 1000000000000000,.int .u64 10000000000000000,.int .u64 100000000000000000,.int .u64 1000000000000000000,.int .u64 10000000000000000000]:List Value)[j]?=some v:=hj
  rw[e,aoN]at hj;obtain⟨x,hx,rfl⟩:=aoJ.1 hj;exact⟨rfl,key j x hx⟩
 ·obtain⟨e,z,hb⟩:=PU nW KX;have hc:=RK (k:= .u64) (xs:=[1,10,100,1000,10000,100000,1000000,10000000,100000000,1000000000,10000000000,100000000000,1000000000000,10000000000000,100000000000000,1000000000000000,10000000000000000,100000000000000000,1000000000000000000,10000000000000000000]) Tryz.underlying271 Tryz.underlying32 adk (by kernel_rfl) nr;refine⟨e,z,?_⟩;rw[hb];have e2:Ih=([.int .u64 1,.int .u64 10,.int .u64 100,.int .u64 1000,.int .u64 10000,.int .u64 100000,.int .u64 1000000,.int .u64 10000000,.int .u64 100000000,.int .u64 1000000000,.int .u64 10000000000,.int .u64 100000000000,.int .u64 1000000000000,.int .u64 10000000000000,.int .u64 100000000000000,.int .u64 1000000000000000,.int .u64 10000000000000000,.int .u64 100000000000000000,.int .u64 1000000000000000000,.int .u64 10000000000000000000]:List Value).toArray:=by
   have:=congrArg List.toArray hc;rw[Array.toArray_toList]at this;exact this
  rw[e2]
set_option maxRecDepth 100000 in
theorem lifted(os:Os)(started:os.Started)(H:Type)(enc:TypeId×Value→H)(F:Stop.Interp):
  ReturnsInHanded {} Tryz.checked os 3 .any (OpenSpec.preRow enc Tryz.prog Tryz.f3 (Rows.OpenSpec.upto Rows.vmStepsSpec) Rows.vmStepsUptoRow.domain false Rows.vmStepsUptoRow.laid) ((OpenSpec.at (Rows.OpenSpec.upto Rows.vmStepsSpec) F).post enc Tryz.prog Tryz.f3 false true false false):=by
 refine ab0 (C:=Tryz.checked) (s:=(Rows.OpenSpec.upto Rows.vmStepsSpec)) (F:=F) (laid:=Rows.vmStepsUptoRow.laid) 4 gl own started (by kernel_rfl) Tryz.func3
  (PV (enc:=enc) (C:=Tryz.checked) (os:=os) (s:=(Rows.OpenSpec.upto Rows.vmStepsSpec)) (k:=Rows.uptoSmall) rfl (laid:=Rows.vmStepsUptoRow.laid) false (World.doorLaid Tryz.prog 24 os) #[.agg #[.int .i64 0,.int .i64 0,.int .i64 0,.int .i64 0,.slice none 0 0,.int .i64 0,.slice none 0 0,.slice none 0 0,.slice none 0 0,.slice none 0 0,.slice none 0 0,.slice none 0 0,.slice none 0 0,.slice none 0 0,.slice none 0 0,.slice none 0 0],.agg #[.slice none 0 0,.slice none 0 0,.slice none 0 0,.slice none 0 0,.slice none 0 0,.slice none 0 0,.slice none 0 0,.int .u64 0,.int .i64 0,.int .i64 0,.int .i64 0,.int .i64 0,.int .i64 0],.agg #[.int .i64 0,.int .i64 0,.int .i64 0,.slice none 0 0,.int .i64 0,.int .i64 0,.int .i64 0]] 8 rfl (World.shaped_of_RefB (by kernel_rfl) (by kernel_rfl)) (by kernel_rfl)
   (x:=([.agg [.agg [.lit (.int .i64 0),.lit (.int .i64 0),.lit (.int .i64 0),.lit (.int .i64 0),.nil,.lit (.int .i64 0),.nil,.nil,.nil,.nil,.nil,.nil,.nil,.nil,.nil],.nil],.agg [.nil,.nil,.nil,.nil,.nil,.nil,.nil,.lit (.int .u64 0),.lit (.int .i64 0),.lit (.int .i64 0),.lit (.int .i64 0),.lit (.int .i64 0),.lit (.int .i64 0)],.agg [.lit (.int .i64 0),.lit (.int .i64 0),.lit (.int .i64 0),.nil,.agg [.lit (.int .i64 0),.lit (.int .i64 0),.lit (.int .i64 0)]]],[],[])) (by kernel_rfl) rfl (by kernel_rfl) (by kernel_rfl) (aeO os _))
  (by kernel_rfl) (by kernel_rfl) (by kernel_rfl) (by kernel_rfl) Tryz.underlying4 rfl rfl rfl ?_ ?_
 ·intro ds h;have h:ds.length=3:=h
  match ds,h with
  | [d0,d1,d2],_=>rfl
 ·intro ey h hT hB;have h:ey.length=3:=h
  match ey,h,hT,hB with
  | [y0,y1,y2],_,hT,hB=>
    have t0:cX Tryz.prog 31 y0:=hT 0 31 y0 rfl rfl;have t1:cX Tryz.prog 34 y1:=hT 1 34 y1 rfl rfl;have t2:cX Tryz.prog 38 y2:=hT 2 38 y2 rfl rfl;obtain⟨b0',rfl,b0w⟩:=bW.of t0;obtain⟨b1',rfl,b1w⟩:=aj.of t1;obtain⟨b2',rfl,b2w⟩:=qL.of t2;have hp:=(UC b0' b0w b1' b1w b2' (hB 1048576 (λds h=>small ds (h _ rfl)))).calls;have e:((Tryz.f3.params.toList.zip [b0'.enc,b1'.enc,b2'.enc]).map λp=>JP Tryz.prog p.1 p.2)=[.agg (b0'.enc.map .d),.agg (b1'.enc.map .d),.agg (b2'.enc.map .d)]:=by
     simp[Tryz.f3,JP,Tryz.underlying31,Tryz.underlying34,Tryz.underlying38]
    rw[show Tryz.checked.prog=Tryz.prog from rfl,e];exact hp
theorem named:Tryz.pinned.checked.prog.funcNamed (Rows.vmStepsUptoRow).func=some 3:=by kernel_rfl
theorem closed:joinedFacts Tryz.pinned.checked.prog 3 Tryz.f3 (Rows.OpenSpec.upto Rows.vmStepsSpec).bare Rows.vmStepsUptoRow=true:=by kernel_rfl
theorem inst:Tryz.f3.isInstance Tryz.pinned.checked.prog (Rows.vmStepsUptoRow).origin (Rows.vmStepsUptoRow).targs:=of_decide_eq_true (by kernel_rfl)
theorem wrap:Tryz.f3.isWrapper Tryz.pinned.checked.prog (Rows.vmStepsUptoRow).wrapper (Rows.vmStepsUptoRow).mainSum:=by unfold Func.isWrapper;first|(rw[if_pos (by decide+kernel)];kernel_rfl)|(rw[if_neg (by decide+kernel)];exact⟨rfl,rfl⟩)
theorem over:Rows.vmStepsUptoRow.holds Tryz.pinned (Rows.OpenSpec.upto Rows.vmStepsSpec):=
 OpenClaim.holds_of_cond 3 Tryz.f3 rfl rfl rfl rfl rfl rfl rfl ⟨rfl,rfl,rfl,rfl,rfl⟩ rfl rfl rfl rfl rfl named Tryz.func3 closed
  inst wrap (λos started H enc _ F=>lifted os started H enc F)
theorem proved:Rows.VmStepsUptoCardSaid:=
 Claim7.holds_tied_plain_at .later [] [.data,.data,.data] true (true, "93446c1fb3a1b226f07a90fc52d135aad53f32bfed15bec8f459ac4cdeece178") true
  over (λ_ h=>by cases h) (by kernel_rfl) (λ_ h=>by cases h) vmStepsUpto_row_tie rfl ⟨rfl,rfl⟩ (by kernel_rfl) rfl
  (λf fn hf Tw=>by
   obtain rfl:f=3:=aoK ((show Tryz.prog.funcNamed "clew/clewlaw32.VmSteps" =some 3 by kernel_rfl).symm.trans hf) |>.symm;obtain rfl:fn=Tryz.f3:=(aoK (Tryz.func3.symm.trans Tw)).symm;exact⟨by kernel_rfl,λj t ht=>by
    have hm:t∈ [31,34,38]:=by
     have:=aqj ht;simpa[Tryz.f3]using this
    have bV:([31,34,38].all λu=>!Tryz.prog.wantsStandIn u)=true:=by kernel_rfl
    exact(show Tryz.prog.wantsStandIn t=false by simpa using aoP.1 bV t hm)⟩)
  (by kernel_rfl)
#print axioms proved
end Go.Proofs.YtmhnopomnpgcjaaGreatDoor.vmSteps

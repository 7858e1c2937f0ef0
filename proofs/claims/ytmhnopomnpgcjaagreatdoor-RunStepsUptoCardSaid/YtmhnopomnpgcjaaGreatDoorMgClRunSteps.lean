/-
  clewlaw33.RunSteps returns true for every input of bulk at most 1048576, and leaves its arguments as they are. No condition is added to the given statement.
-/
import Derived.Test.YtmhnopomnpgcjaaGreatDoorRows
import Derived.WalkKit
import Derived.ProofKit
import Derived.OpenShut
import Derived.JoinedCond
import Derived.Test.YtmhnopomnpgcjaaGreatDoorTie
import Derived.Test.YtmhnopomnpgcjaaGreatDoorCards
import Derived.SevenTiedAt
import Derived.LaidMore
import Derived.Test.YtmhnopomnpgcjaaGreatDoorMg10
set_option linter.unusedSimpArgs false
set_option linter.unusedVariables false
namespace Go.Proofs.YtmhnopomnpgcjaaGreatDoor.runSteps
open Go.ChangeShapes Go.WideShapes Go.ChangeAt Go.RowKit Go.Ab
mutual
theorem jw{H:Type}:∀d:DataW H,Rows.uptoBulk d=cQ d
 | .lit l=>by cases l<;>simp[Rows.uptoBulk,cQ]
 | .nil=>by simp[Rows.uptoBulk,cQ]
 | .ptr d=>by simp[Rows.uptoBulk,cQ,jw d]
 | .slice e s=>by simp[Rows.uptoBulk,cQ,eG e,eG s]
 | .agg p=>by simp[Rows.uptoBulk,cQ,eG p]
 | .iface t d=>by simp[Rows.uptoBulk,cQ,jw d]
 | .map e=>by simp[Rows.uptoBulk,cQ,iU e]
 | .held h=>by simp[Rows.uptoBulk,cQ]
theorem eG{H:Type}:∀l:List (DataW H),Rows.uptoBulkAll l=fQ l
 | []=>by simp[Rows.uptoBulkAll,fQ]
 | d::r=>by simp[Rows.uptoBulkAll,fQ,jw d,eG r]
theorem iU{H:Type}:∀l:List (Lit×DataW H),Rows.uptoBulkEntries l=iw l
 | []=>by simp[Rows.uptoBulkEntries,iw]
 | x::r=>by simp[Rows.uptoBulkEntries,iw,qO x,iU r]
theorem qO{H:Type}:∀x:Lit×DataW H,Rows.uptoBulkEntry x=qp x
 | (l,d)=>by cases l<;>simp[Rows.uptoBulkEntry,qp,jw d]
end
theorem small{H:Type}(ds:List (DataW H))(h:Rows.uptoSmall H ds=true):fQ ds<=1048576:=by
 rw[<-eG];exact of_decide_eq_true h
theorem own:ownKnob Tryz.prog.godebug=none:=by kernel_rfl
theorem Bc(os:Os)(args:Array Value):laidMetH Tryz.prog Rows.runStepsUptoRow.laid ((World.doorLaid Tryz.prog 24 os).forCall (λ_ _=>0) ⟨#[],args,[]⟩).memory:=
 laidMetH_of_parts3 (fuel:=8) (laidMet_of_run' 8 (by kernel_rfl) (by kernel_rfl)) (by kernel_rfl) (by kernel_rfl)
theorem JE:Tryz.prog.globalNamed "internal/strconv.uint64pow10" =some 0:=by kernel_rfl
theorem JF:(Tryz.prog.globals[0]?).map (·.type)=some 271:=by kernel_rfl
theorem zO:Tryz.prog.cellsOf 32=1:=by kernel_rfl
theorem gl(W:World)(h:laidMetH Tryz.prog Rows.runStepsUptoRow.laid W):sb W (OO (⟨λ_=>False,[],none,false⟩:FO) fk):=by
 rw[MakeChecks.laidMetH_plain _ _ _ (by kernel_rfl)]at h;obtain⟨ps,⟨g0,t0,cs0,f0,p0,q0,hg0,ht0,AA,CD,⟨g1,t1,Yv,f1,p1,q1,IQ,HY,SA,zc,⟨g2,t2,F4,f2,p2,q2,oi,rO,za,kB,_,_⟩,_⟩,_⟩,_,_⟩:=h;obtain rfl:0=g2:=apO (JE.symm.trans oi);obtain rfl:271=t2:=apO (JF.symm.trans rO);have key:∀(i:Nat) (x:Int),([1,10,100,1000,10000,100000,1000000,10000000,100000000,1000000000,10000000000,100000000000,1000000000000,10000000000000,100000000000000,1000000000000000,10000000000000000,100000000000000000,1000000000000000000,10000000000000000000]:List Int)[i]?=some x->W.cell? ⟨0,i,none⟩=some (.int .u64 x):=λi x hi=>by
  rw[World.var?_cell oi za i,<-aqn];exact sq (k:= .u64) Tryz.underlying271 Tryz.underlying32 zO kB i x hi
 intro p hp;simp only[yQ,aq5]at hp;subst hp;refine⟨KC (key 0 1 rfl),KB _,?_,?_⟩
 ·intro j v hj;have e:([.int .u64 1,.int .u64 10,.int .u64 100,.int .u64 1000,.int .u64 10000,.int .u64 100000,.int .u64 1000000,.int .u64 10000000,.int .u64 100000000,.int .u64 1000000000,.int .u64 10000000000,.int .u64 100000000000,.int .u64 1000000000000,.int .u64 10000000000000,.int .u64 100000000000000,.int .u64 1000000000000000,.int .u64 10000000000000000,.int .u64 100000000000000000,.int .u64 1000000000000000000,.int .u64 10000000000000000000]:List Value)=([1,10,100,1000,10000,100000,1000000,10000000,100000000,1000000000,10000000000,100000000000,1000000000000,10000000000000,100000000000000,1000000000000000,10000000000000000,100000000000000000,1000000000000000000,10000000000000000000]:List Int).map (Value.int .u64):=rfl
  replace hj:([.int .u64 1,.int .u64 10,.int .u64 100,.int .u64 1000,.int .u64 10000,.int .u64 100000,.int .u64 1000000,.int .u64 10000000,.int .u64 100000000,.int .u64 1000000000,.int .u64 10000000000,.int .u64 100000000000,.int .u64 1000000000000,.int .u64 10000000000000,.int .u64 100000000000000,.int .u64 1000000000000000,.int .u64 10000000000000000,.int .u64 100000000000000000,.int .u64 1000000000000000000,.int .u64 10000000000000000000]:List Value)[j]?=some v:=hj
  rw[e,apS]at hj;obtain⟨x,hx,rfl⟩:=apN.1 hj;exact⟨rfl,key j x hx⟩
 ·obtain⟨e,z,hb⟩:=yH oi za;have hc:=Ah (k:= .u64) (xs:=[1,10,100,1000,10000,100000,1000000,10000000,100000000,1000000000,10000000000,100000000000,1000000000000,10000000000000,100000000000000,1000000000000000,10000000000000000,100000000000000000,1000000000000000000,10000000000000000000]) Tryz.underlying271 Tryz.underlying32 zO (by kernel_rfl) kB;refine⟨e,z,?_⟩;rw[hb];have e2:F4=([.int .u64 1,.int .u64 10,.int .u64 100,.int .u64 1000,.int .u64 10000,.int .u64 100000,.int .u64 1000000,.int .u64 10000000,.int .u64 100000000,.int .u64 1000000000,.int .u64 10000000000,.int .u64 100000000000,.int .u64 1000000000000,.int .u64 10000000000000,.int .u64 100000000000000,.int .u64 1000000000000000,.int .u64 10000000000000000,.int .u64 100000000000000000,.int .u64 1000000000000000000,.int .u64 10000000000000000000]:List Value).toArray:=by
   have:=congrArg List.toArray hc;rw[Array.toArray_toList]at this;exact this
  rw[e2]
set_option maxRecDepth 100000 in
theorem lifted(os:Os)(started:os.Started)(H:Type)(enc:TypeId×Value→H)(F:Stop.Interp):
  ReturnsInHanded {} Tryz.checked os 7 .any (OpenSpec.preRow enc Tryz.prog Tryz.f7 (Rows.OpenSpec.upto Rows.runStepsSpec) Rows.runStepsUptoRow.domain false Rows.runStepsUptoRow.laid) ((OpenSpec.at (Rows.OpenSpec.upto Rows.runStepsSpec) F).post enc Tryz.prog Tryz.f7 false true false false):=by
 refine Hz (C:=Tryz.checked) (s:=(Rows.OpenSpec.upto Rows.runStepsSpec)) (F:=F) (laid:=Rows.runStepsUptoRow.laid) 4 gl own started (by kernel_rfl) Tryz.func7
  (yI (enc:=enc) (C:=Tryz.checked) (os:=os) (s:=(Rows.OpenSpec.upto Rows.runStepsSpec)) (k:=Rows.uptoSmall) rfl (laid:=Rows.runStepsUptoRow.laid) false (World.doorLaid Tryz.prog 24 os) #[.agg #[.int .i64 0,.int .i64 0,.int .i64 0,.int .i64 0,.slice none 0 0,.int .i64 0,.slice none 0 0,.slice none 0 0,.slice none 0 0,.slice none 0 0,.slice none 0 0,.slice none 0 0,.slice none 0 0,.slice none 0 0,.slice none 0 0,.slice none 0 0,.slice none 0 0,.slice none 0 0,.slice none 0 0,.slice none 0 0,.slice none 0 0,.slice none 0 0,.slice none 0 0,.int .u64 0,.int .i64 0,.int .i64 0,.int .i64 0,.int .i64 0,.int .i64 0,.int .i64 0,.slice none 0 0,.int .i64 0,.int .i64 0,.int .i64 0,.int .i64 0]] 8 rfl (World.shaped_of_RefB (by kernel_rfl) (by kernel_rfl)) (by kernel_rfl)
   (x:=([.agg [.agg [.agg [.lit (.int .i64 0),.lit (.int .i64 0),.lit (.int .i64 0),.lit (.int .i64 0),.nil,.lit (.int .i64 0),.nil,.nil,.nil,.nil,.nil,.nil,.nil,.nil,.nil],.nil],.agg [.nil,.nil,.nil,.nil,.nil,.nil,.nil,.lit (.int .u64 0),.lit (.int .i64 0),.lit (.int .i64 0),.lit (.int .i64 0),.lit (.int .i64 0),.lit (.int .i64 0)],.lit (.int .i64 0),.nil,.agg [.lit (.int .i64 0),.lit (.int .i64 0),.lit (.int .i64 0)],.lit (.int .i64 0)]],[],[])) (by kernel_rfl) rfl (by kernel_rfl) (by kernel_rfl) (Bc os _))
  (by kernel_rfl) (by kernel_rfl) (by kernel_rfl) (by kernel_rfl) Tryz.underlying4 rfl rfl rfl ?_ ?_
 ·intro ds h;have h:ds.length=1:=h
  match ds,h with
  | [d0],_=>rfl
 ·intro dQ h hT hB;have h:dQ.length=1:=h
  match dQ,h,hT,hB with
  | [y0],_,hT,hB=>
    have t0:cJ Tryz.prog 58 y0:=hT 0 58 y0 rfl rfl;obtain⟨ET,rfl,b0w⟩:=fi.of t0;have hp:=(QR ET b0w (hB 1048576 (λds h=>small ds (h _ rfl)))).calls;have e:((Tryz.f7.params.toList.zip [ET.enc]).map λp=>zX Tryz.prog p.1 p.2)=[.agg (ET.enc.map .d)]:=by
     simp[Tryz.f7,zX,Tryz.underlying58]
    rw[show Tryz.checked.prog=Tryz.prog from rfl,e];exact hp
theorem named:Tryz.pinned.checked.prog.funcNamed (Rows.runStepsUptoRow).func=some 7:=by kernel_rfl
theorem closed:joinedFacts Tryz.pinned.checked.prog 7 Tryz.f7 (Rows.OpenSpec.upto Rows.runStepsSpec).bare Rows.runStepsUptoRow=true:=by kernel_rfl
theorem inst:Tryz.f7.isInstance Tryz.pinned.checked.prog (Rows.runStepsUptoRow).origin (Rows.runStepsUptoRow).targs:=of_decide_eq_true (by kernel_rfl)
theorem wrap:Tryz.f7.isWrapper Tryz.pinned.checked.prog (Rows.runStepsUptoRow).wrapper (Rows.runStepsUptoRow).mainSum:=by unfold Func.isWrapper;first|(rw[if_pos (by decide+kernel)];kernel_rfl)|(rw[if_neg (by decide+kernel)];exact⟨rfl,rfl⟩)
theorem over:Rows.runStepsUptoRow.holds Tryz.pinned (Rows.OpenSpec.upto Rows.runStepsSpec):=
 OpenClaim.holds_of_cond 7 Tryz.f7 rfl rfl rfl rfl rfl rfl rfl ⟨rfl,rfl,rfl,rfl,rfl⟩ rfl rfl rfl rfl rfl named Tryz.func7 closed
  inst wrap (λos started H enc _ F=>lifted os started H enc F)
theorem proved:Rows.RunStepsUptoCardSaid:=
 Claim7.holds_tied_plain_at .later [] [.data,.data,.data] true (true, "93446c1fb3a1b226f07a90fc52d135aad53f32bfed15bec8f459ac4cdeece178") true
  over (λ_ h=>by cases h) (by kernel_rfl) (λ_ h=>by cases h) runStepsUpto_row_tie rfl ⟨rfl,rfl⟩ (by kernel_rfl) rfl
  (λf fn hf Gr=>by
   obtain rfl:f=7:=apO ((show Tryz.prog.funcNamed "clew/clewlaw33.RunSteps" =some 7 by kernel_rfl).symm.trans hf) |>.symm;obtain rfl:fn=Tryz.f7:=(apO (Tryz.func7.symm.trans Gr)).symm;exact⟨by kernel_rfl,λj t ht=>by
    have hm:t∈ [58]:=by
     have:=aq3 ht;simpa[Tryz.f7]using this
    have bQ:([58].all λu=>!Tryz.prog.wantsStandIn u)=true:=by kernel_rfl
    exact(show Tryz.prog.wantsStandIn t=false by simpa using apR.1 bQ t hm)⟩)
  (by kernel_rfl)
#print axioms proved
end Go.Proofs.YtmhnopomnpgcjaaGreatDoor.runSteps

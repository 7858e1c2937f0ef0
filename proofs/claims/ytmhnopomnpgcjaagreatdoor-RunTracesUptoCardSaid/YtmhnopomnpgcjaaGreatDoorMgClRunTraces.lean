/-
  clewlaw33.RunTraces returns true for every input of bulk at most 1048576, and leaves its arguments as they are. No condition is added to the given statement.
-/
import Derived.Test.YtmhnopomnpgcjaaGreatDoorRows
import Derived.WalkKit
import Derived.ProofKit
import Derived.OpenShut
import Derived.JoinedCond
import Derived.Test.YtmhnopomnpgcjaaGreatDoorTie
import Derived.Test.YtmhnopomnpgcjaaGreatDoorCards
import Derived.SevenTiedAt
import Derived.LaidMore
import Derived.JoinedCond
import Derived.Test.YtmhnopomnpgcjaaGreatDoorMg10
set_option linter.unusedSimpArgs false
set_option linter.unusedVariables false
namespace Go.Proofs.YtmhnopomnpgcjaaGreatDoor.runTraces
open Go.ChangeShapes Go.WideShapes Go.ChangeAt Go.RowKit Go.Ab
mutual
theorem Ca{H:Type}:∀d:DataW H,Rows.uptoBulk d=eQ d
 | .lit l=>by cases l<;>simp[Rows.uptoBulk,eQ]
 | .nil=>by simp[Rows.uptoBulk,eQ]
 | .ptr d=>by simp[Rows.uptoBulk,eQ,Ca d]
 | .slice e s=>by simp[Rows.uptoBulk,eQ,uA e,uA s]
 | .agg p=>by simp[Rows.uptoBulk,eQ,uA p]
 | .iface t d=>by simp[Rows.uptoBulk,eQ,Ca d]
 | .map e=>by simp[Rows.uptoBulk,eQ,AV e]
 | .held h=>by simp[Rows.uptoBulk,eQ]
theorem uA{H:Type}:∀l:List (DataW H),Rows.uptoBulkAll l=lr l
 | []=>by simp[Rows.uptoBulkAll,lr]
 | d::r=>by simp[Rows.uptoBulkAll,lr,Ca d,uA r]
theorem AV{H:Type}:∀l:List (Lit×DataW H),Rows.uptoBulkEntries l=r7 l
 | []=>by simp[Rows.uptoBulkEntries,r7]
 | x::r=>by simp[Rows.uptoBulkEntries,r7,QI x,AV r]
theorem QI{H:Type}:∀x:Lit×DataW H,Rows.uptoBulkEntry x=Dw x
 | (l,d)=>by cases l<;>simp[Rows.uptoBulkEntry,Dw,Ca d]
end
theorem small{H:Type}(ds:List (DataW H))(h:Rows.uptoSmall H ds=true):lr ds<=1048576:=by
 rw[<-uA];exact of_decide_eq_true h
theorem own:ownKnob Tryz.prog.godebug=none:=by kernel_rfl
theorem aeX(os:Os)(args:Array Value):laidMetH Tryz.prog Rows.runTracesUptoRow.laid ((World.doorLaid Tryz.prog 24 os).forCall (λ_ _=>0) ⟨#[],args,[]⟩).memory:=
 laidMetH_of_parts3 (fuel:=8) (laidMet_of_run' 8 (by kernel_rfl) (by kernel_rfl)) (by kernel_rfl) (by kernel_rfl)
theorem ah1:Tryz.prog.globalNamed "internal/strconv.uint64pow10" =some 0:=by kernel_rfl
theorem ah2:(Tryz.prog.globals[0]?).map (·.type)=some 271:=by kernel_rfl
theorem adu:Tryz.prog.cellsOf 32=1:=by kernel_rfl
theorem gl(W:World)(h:laidMetH Tryz.prog Rows.runTracesUptoRow.laid W):vd W (OO (⟨λ_=>False,[],none,false⟩:FO) fR):=by
 rw[MakeChecks.laidMetH_plain _ _ _ (by kernel_rfl)]at h;obtain⟨ps,⟨g0,t0,cs0,f0,p0,q0,hg0,Tw,L7,FD,⟨g1,t1,Td,f1,p1,q1,Pc,NI,hv1,y8,⟨g2,t2,Iy,f2,p2,q2,nV,vD,K9,ns,_,_⟩,_⟩,_⟩,_,_⟩:=h;obtain rfl:0=g2:=ao9 (ah1.symm.trans nV);obtain rfl:271=t2:=ao9 (ah2.symm.trans vD);have key:∀(i:Nat) (x:Int),([1,10,100,1000,10000,100000,1000000,10000000,100000000,1000000000,10000000000,100000000000,1000000000000,10000000000000,100000000000000,1000000000000000,10000000000000000,100000000000000000,1000000000000000000,10000000000000000000]:List Int)[i]?=some x->W.cell? ⟨0,i,none⟩=some (.int .u64 x):=λi x hi=>by
  rw[World.var?_cell nV K9 i,<-apN];exact Cz (k:= .u64) Tryz.underlying271 Tryz.underlying32 adu ns i x hi
 intro p hp;simp only[EG,aqJ]at hp;subst hp;refine⟨aeF (key 0 1 rfl),aeE _,?_,?_⟩
 ·intro j v hj;have e:([.int .u64 1,.int .u64 10,.int .u64 100,.int .u64 1000,.int .u64 10000,.int .u64 100000,.int .u64 1000000,.int .u64 10000000,.int .u64 100000000,.int .u64 1000000000,.int .u64 10000000000,.int .u64 100000000000,.int .u64 1000000000000,.int .u64 10000000000000,.int .u64 100000000000000,.int .u64 1000000000000000,.int .u64 10000000000000000,.int .u64 100000000000000000,.int .u64 1000000000000000000,.int .u64 10000000000000000000]:List Value)=([1,10,100,1000,10000,100000,1000000,10000000,100000000,1000000000,10000000000,100000000000,1000000000000,10000000000000,100000000000000,1000000000000000,10000000000000000,100000000000000000,1000000000000000000,10000000000000000000]:List Int).map (Value.int .u64):=rfl
  replace hj:([.int .u64 1,.int .u64 10,.int .u64 100,.int .u64 1000,.int .u64 10000,.int .u64 100000,.int .u64 1000000,.int .u64 10000000,.int .u64 100000000,.int .u64 1000000000,.int .u64 10000000000,.int .u64 100000000000,.int .u64 1000000000000,.int .u64 10000000000000,.int .u64 100000000000000,.int .u64 1000000000000000,.int .u64 10000000000000000,.int .u64 100000000000000000,.int .u64 1000000000000000000,.int .u64 10000000000000000000]:List Value)[j]?=some v:=hj
  rw[e,apc]at hj;obtain⟨x,hx,rfl⟩:=ao8.1 hj;exact⟨rfl,key j x hx⟩
 ·obtain⟨e,z,hb⟩:=Qa nV K9;have hc:=R0 (k:= .u64) (xs:=[1,10,100,1000,10000,100000,1000000,10000000,100000000,1000000000,10000000000,100000000000,1000000000000,10000000000000,100000000000000,1000000000000000,10000000000000000,100000000000000000,1000000000000000000,10000000000000000000]) Tryz.underlying271 Tryz.underlying32 adu (by kernel_rfl) ns;refine⟨e,z,?_⟩;rw[hb];have e2:Iy=([.int .u64 1,.int .u64 10,.int .u64 100,.int .u64 1000,.int .u64 10000,.int .u64 100000,.int .u64 1000000,.int .u64 10000000,.int .u64 100000000,.int .u64 1000000000,.int .u64 10000000000,.int .u64 100000000000,.int .u64 1000000000000,.int .u64 10000000000000,.int .u64 100000000000000,.int .u64 1000000000000000,.int .u64 10000000000000000,.int .u64 100000000000000000,.int .u64 1000000000000000000,.int .u64 10000000000000000000]:List Value).toArray:=by
   have:=congrArg List.toArray hc;rw[Array.toArray_toList]at this;exact this
  rw[e2]
set_option maxRecDepth 100000 in
theorem lifted(os:Os)(started:os.Started)(H:Type)(enc:TypeId×Value→H)(F:Stop.Interp):
  ReturnsInHanded {} Tryz.checked os 6 .any (OpenSpec.preRow enc Tryz.prog Tryz.f6 (Rows.OpenSpec.upto Rows.runTracesSpec) Rows.runTracesUptoRow.domain false Rows.runTracesUptoRow.laid) ((OpenSpec.at (Rows.OpenSpec.upto Rows.runTracesSpec) F).post enc Tryz.prog Tryz.f6 false true false false):=by
 refine aca (C:=Tryz.checked) (s:=(Rows.OpenSpec.upto Rows.runTracesSpec)) (F:=F) (laid:=Rows.runTracesUptoRow.laid) 4 gl own started (by kernel_rfl) Tryz.func6
  (Qb (enc:=enc) (C:=Tryz.checked) (os:=os) (s:=(Rows.OpenSpec.upto Rows.runTracesSpec)) (k:=Rows.uptoSmall) rfl (laid:=Rows.runTracesUptoRow.laid) false (World.doorLaid Tryz.prog 24 os) #[.agg #[.int .i64 0,.int .i64 0,.int .i64 0,.int .i64 0,.slice none 0 0,.int .i64 0,.slice none 0 0,.slice none 0 0,.slice none 0 0,.slice none 0 0,.slice none 0 0,.slice none 0 0,.slice none 0 0,.slice none 0 0,.slice none 0 0,.slice none 0 0,.slice none 0 0,.slice none 0 0,.slice none 0 0,.slice none 0 0,.slice none 0 0,.slice none 0 0,.slice none 0 0,.int .u64 0,.int .i64 0,.int .i64 0,.int .i64 0,.int .i64 0,.int .i64 0,.int .i64 0,.slice none 0 0,.int .i64 0,.int .i64 0,.int .i64 0,.int .i64 0],.int .i64 0] 8 rfl (World.shaped_of_RefB (by kernel_rfl) (by kernel_rfl)) (by kernel_rfl)
   (x:=([.agg [.agg [.agg [.lit (.int .i64 0),.lit (.int .i64 0),.lit (.int .i64 0),.lit (.int .i64 0),.nil,.lit (.int .i64 0),.nil,.nil,.nil,.nil,.nil,.nil,.nil,.nil,.nil],.nil],.agg [.nil,.nil,.nil,.nil,.nil,.nil,.nil,.lit (.int .u64 0),.lit (.int .i64 0),.lit (.int .i64 0),.lit (.int .i64 0),.lit (.int .i64 0),.lit (.int .i64 0)],.lit (.int .i64 0),.nil,.agg [.lit (.int .i64 0),.lit (.int .i64 0),.lit (.int .i64 0)],.lit (.int .i64 0)],.lit (.int .i64 0)],[],[])) (by kernel_rfl) rfl (by kernel_rfl) (by kernel_rfl) (aeX os _))
  (by kernel_rfl) (by kernel_rfl) (by kernel_rfl) (by kernel_rfl) Tryz.underlying4 rfl rfl rfl ?_ ?_
 ·intro ds h;have h:ds.length=2:=h
  match ds,h with
  | [d0,d1],_=>rfl
 ·intro ew h hT hB;have h:ew.length=2:=h
  match ew,h,hT,hB with
  | [y0,y1],_,hT,hB=>
    have t0:cY Tryz.prog 58 y0:=hT 0 58 y0 rfl rfl;have t1:cY Tryz.prog 3 y1:=hT 1 3 y1 rfl rfl;obtain⟨b0',rfl,b0w⟩:=jw.of t0;obtain⟨b1',rfl,b1w⟩:=cY.bM t1 cX;have hp:=(N9 b0' b0w b1' (hB 1048576 (λds h=>small ds (h _ rfl)))).calls;have e:((Tryz.f6.params.toList.zip [b0'.enc,[D.v (.int .i64 b1')]]).map λp=>J3 Tryz.prog p.1 p.2)=[.agg (b0'.enc.map .d),.d (D.v (.int .i64 b1'))]:=by
     simp[Tryz.f6,J3,Tryz.underlying3,Tryz.underlying58]
    rw[show Tryz.checked.prog=Tryz.prog from rfl,e];exact hp
theorem named:Tryz.pinned.checked.prog.funcNamed (Rows.runTracesUptoRow).func=some 6:=by kernel_rfl
theorem closed:joinedFacts Tryz.pinned.checked.prog 6 Tryz.f6 (Rows.OpenSpec.upto Rows.runTracesSpec).bare Rows.runTracesUptoRow=true:=by kernel_rfl
theorem inst:Tryz.f6.isInstance Tryz.pinned.checked.prog (Rows.runTracesUptoRow).origin (Rows.runTracesUptoRow).targs:=of_decide_eq_true (by kernel_rfl)
theorem wrap:Tryz.f6.isWrapper Tryz.pinned.checked.prog (Rows.runTracesUptoRow).wrapper (Rows.runTracesUptoRow).mainSum:=by unfold Func.isWrapper;first|(rw[if_pos (by decide+kernel)];kernel_rfl)|(rw[if_neg (by decide+kernel)];exact⟨rfl,rfl⟩)
theorem over:Rows.runTracesUptoRow.holds Tryz.pinned (Rows.OpenSpec.upto Rows.runTracesSpec):=
 OpenClaim.holds_of_cond 6 Tryz.f6 rfl rfl rfl rfl rfl rfl rfl ⟨rfl,rfl,rfl,rfl,rfl⟩ rfl rfl rfl rfl rfl named Tryz.func6 closed
  inst wrap (λos started H enc _ F=>lifted os started H enc F)
theorem proved:Rows.RunTracesUptoCardSaid:=
 Claim7.holds_tied_plain_at .later [] [.data,.data,.data] true (true, "93446c1fb3a1b226f07a90fc52d135aad53f32bfed15bec8f459ac4cdeece178") true
  over (λ_ h=>by cases h) (by kernel_rfl) (λ_ h=>by cases h) runTracesUpto_row_tie rfl ⟨rfl,rfl⟩ (by kernel_rfl) rfl
  (λf fn hf TL=>by
   obtain rfl:f=6:=ao9 ((show Tryz.prog.funcNamed "clew/clewlaw33.RunTraces" =some 6 by kernel_rfl).symm.trans hf) |>.symm;obtain rfl:fn=Tryz.f6:=(ao9 (Tryz.func6.symm.trans TL)).symm;exact⟨by kernel_rfl,λj t ht=>by
    have hm:t∈ [58,3]:=by
     have:=aqL ht;simpa[Tryz.f6]using this
    have bS:([58,3].all λu=>!Tryz.prog.wantsStandIn u)=true:=by kernel_rfl
    exact(show Tryz.prog.wantsStandIn t=false by simpa using apd.1 bS t hm)⟩)
  (by kernel_rfl)
#print axioms proved
end Go.Proofs.YtmhnopomnpgcjaaGreatDoor.runTraces

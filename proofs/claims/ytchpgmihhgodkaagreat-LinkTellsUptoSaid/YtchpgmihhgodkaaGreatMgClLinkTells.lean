/-
 clewlaw41.LinkTells returns true for every input of bulk at most 1048576,and leaves its arguments as they are. No condition is added to the given statement.
-/
import Derived.Test.YtchpgmihhgodkaaGreatRows
import Derived.WalkKit
import Derived.ProofKit
import Derived.OpenShut
import Derived.JoinedCond
import Derived.Test.YtchpgmihhgodkaaGreatMg7
set_option linter.unusedSimpArgs false
set_option linter.unusedVariables false
namespace Go.Proofs.YtchpgmihhgodkaaGreat.linkTells
open Go.ChangeShapes Go.WideShapes Go.ChangeAt Go.RowKit Go.Ab
mutual
theorem bulkW_eq {H:Type}:∀d:DataW H,Rows.uptoBulk d=bulkW d
 | .lit l=>by cases l <;> simp [Rows.uptoBulk,bulkW]
 | .nil=>by simp [Rows.uptoBulk,bulkW]
 | .ptr d=>by simp [Rows.uptoBulk,bulkW,bulkW_eq d]
 | .slice e s=>by simp [Rows.uptoBulk,bulkW,bulkAll_eq e,bulkAll_eq s]
 | .agg p=>by simp [Rows.uptoBulk,bulkW,bulkAll_eq p]
 | .iface t d=>by simp [Rows.uptoBulk,bulkW,bulkW_eq d]
 | .map e=>by simp [Rows.uptoBulk,bulkW,bulkEntries_eq e]
 | .held h=>by simp [Rows.uptoBulk,bulkW]
theorem bulkAll_eq {H:Type}:∀l:List (DataW H),Rows.uptoBulkAll l=bulkAll l
 | []=>by simp [Rows.uptoBulkAll,bulkAll]
 | d::r=>by simp [Rows.uptoBulkAll,bulkAll,bulkW_eq d,bulkAll_eq r]
theorem bulkEntries_eq {H:Type}:∀l:List (Lit×DataW H),Rows.uptoBulkEntries l=bulkEntries l
 | []=>by simp [Rows.uptoBulkEntries,bulkEntries]
 | x::r=>by simp [Rows.uptoBulkEntries,bulkEntries,bulkEntry_eq x,bulkEntries_eq r]
theorem bulkEntry_eq {H:Type}:∀x:Lit×DataW H,Rows.uptoBulkEntry x=bulkEntry x
 | (l,d)=>by cases l <;> simp [Rows.uptoBulkEntry,bulkEntry,bulkW_eq d]
end
theorem small {H:Type} (ds:List (DataW H)) (h:Rows.uptoSmall H ds=true):bulkAll ds≤1048576:=by
 rw [←bulkAll_eq]
 exact of_decide_eq_true h
theorem own:ownKnob Tryz.prog.godebug=none:=by kernel_rfl
set_option maxRecDepth 100000 in
theorem lifted(os:Os) (started:os.Started) (H:Type) (enc:TypeId×Value→H) (F:Stop.Interp):
  ReturnsInHanded {} Tryz.checked os 4 .any ((Rows.OpenSpec.upto Rows.linkTellsSpec).pre6 enc Tryz.prog Tryz.f4 Rows.linkTellsUptoRow.domain false) (((Rows.OpenSpec.upto Rows.linkTellsSpec).at F).post enc Tryz.prog Tryz.f4 false true false false):=by
 refine row_lifted_upto rfl (C:=Tryz.checked) (s:=Rows.OpenSpec.upto Rows.linkTellsSpec) (k:=Rows.uptoSmall) rfl (F:=F) 4 own started (by kernel_rfl) Tryz.func4
  (OpenSpec.witness (enc:=enc) (C:=Tryz.checked) (s:=Rows.OpenSpec.upto Rows.linkTellsSpec) (k:=Rows.uptoSmall) rfl false ⟨#[],#[.agg #[.int .i64 0,.int .i64 0,.int .i64 0,.int .i64 0,.slice none 0 0,.int .i64 0,.slice none 0 0,.slice none 0 0,.slice none 0 0,.slice none 0 0,.slice none 0 0,.slice none 0 0,.slice none 0 0,.slice none 0 0,.slice none 0 0,.slice none 0 0],.int .i64 0],[]⟩ 8 (by kernel_rfl) (by kernel_rfl) (by kernel_rfl)
   (x:=([.agg [.agg [.lit (.int .i64 0),.lit (.int .i64 0),.lit (.int .i64 0),.lit (.int .i64 0),.nil,.lit (.int .i64 0),.nil,.nil,.nil,.nil,.nil,.nil,.nil,.nil,.nil],.nil],.lit (.int .i64 0)],[],[])) (by kernel_rfl) rfl (by kernel_rfl))
  (by kernel_rfl) (by kernel_rfl) (by kernel_rfl) (by kernel_rfl) Tryz.underlying4 rfl rfl rfl 1048576 (fun ds h=>small ds h) ?_ ?_
 ·intro ds h
  have h:ds.length=2:=h
  match ds,h with
  | [d0,d1],_=>rfl
 ·intro yss h hT hB
  have h:yss.length=2:=h
  match yss,h,hT,hB with
  | [y0,y1],_,hT,hB=>
    have t0:HasT Tryz.prog 31 y0:=hT 0 31 y0 rfl rfl
    have t1:HasT Tryz.prog 3 y1:=hT 1 3 y1 rfl rfl
    obtain⟨b0',rfl,b0w⟩:=GBook.of t0
    obtain⟨b1',rfl,b1w⟩:=HasT.int_inv t1 tyK_3
    have hp:=(linkTells_up b0' b0w b1' hB).calls
    have e:((Tryz.f4.params.toList.zip [b0'.enc,[D.v (.int .i64 b1')]]).map fun p=>argV Tryz.prog p.1 p.2)=[.agg (b0'.enc.map .d),.d (D.v (.int .i64 b1'))]:=by
     simp [Tryz.f4,argV,Tryz.underlying3,Tryz.underlying31]
    rw [show Tryz.checked.prog=Tryz.prog from rfl,e]
    exact hp
theorem proved:Rows.LinkTellsUptoSaid:=
 OpenClaim.holds_of_cond 4 Tryz.f4 rfl rfl rfl rfl rfl rfl rfl ⟨rfl,rfl,rfl,rfl,rfl⟩ rfl rfl rfl rfl rfl (by kernel_rfl) Tryz.func4 (by kernel_rfl)
  (of_decide_eq_true (by kernel_rfl)) (by unfold Func.isWrapper;first | (rw [if_pos (by decide+kernel)];kernel_rfl) | (rw [if_neg (by decide+kernel)];exact⟨rfl,rfl⟩))
  (fun os started H enc _ F=>lifted os started H enc F)
#print axioms proved
end Go.Proofs.YtchpgmihhgodkaaGreat.linkTells

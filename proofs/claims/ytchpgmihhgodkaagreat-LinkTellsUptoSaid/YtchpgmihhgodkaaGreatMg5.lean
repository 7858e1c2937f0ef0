/-
 The texts Btree3 Wtr Wtr2 Wtr3 Wtr4 Wtr5 Wtr6 Wtr7 Wtr8 Wix Bnest Bright Bright2 Bclone Bups Bkids Bcopy Nest2 Bleave Bmove Battr Battr2 Nest3 Bref20 Bmix Bval Bval2 Lex Lmach Lsim Lpeep Lpeepp Bval3 Lpeep2 Lcode Lmc Lasm Pf Pt Pu Dn Vpeep Wpp Wgrow Wpp2 Wpp3 Wpp4 Wpp5 Wpp6 Vpeep2,one behind the other.
-/
import Derived.Test.YtchpgmihhgodkaaGreatMg4
import Derived.Lib.AppendZeros
set_option linter.unusedSimpArgs false
set_option linter.unusedVariables false
namespace Go.Ab
open Go.Proofs Go.Proofs.Tryz
set_option maxRecDepth 4000
mutual
def stmtE(t:GTables) (locals:Int):GStmt→Bool
 | .mk k n nm a b c=>topE t (.mk k n nm a b c) locals && (a.all fun x=>(decide (k=1) ||!saidE x.Kind) && bookE t locals x) && (decide (b.length≤256) && stmtsE t locals b) && (decide (c.length≤256) && stmtsE t locals c)
def stmtsE(t:GTables) (locals:Int):List GStmt→Bool
 | []=>true
 | s::l=>stmtE t locals s && stmtsE t locals l
end
def blockE(t:GTables) (locals:Int) (l:List GStmt):Bool:=decide (l.length≤256) && stmtsE t locals l
theorem stmtE_eq(t:GTables) (locals:Int) (s:GStmt):stmtE t locals s=(topE t s locals && (s.Args.all fun x=>(decide (s.Kind=1) ||!saidE x.Kind) && bookE t locals x) && blockE t locals s.Body && blockE t locals s.Else):=by cases s;rw [stmtE];rfl
theorem stmtsE_all(t:GTables) (locals:Int) (l:List GStmt):stmtsE t locals l=l.all (stmtE t locals):=by
 induction l with
 | nil=>rw [stmtsE];rfl
 | cons x l ih=>rw [stmtsE,ih];rfl
theorem sizeOf_mem {α:Type} [SizeOf α] {x:α} {l:List α} (h:x∈l):SizeOf.sizeOf x < SizeOf.sizeOf l:=List.sizeOf_lt_of_mem h
theorem stmt_same(t:GTables) (hP:∀p∈t.Params,p≤8) (locals:Int):∀(N:Nat) (s:GStmt),SizeOf.sizeOf s < N→boundS t locals s=stmtE t locals s
 | 0,s,h=>by omega
 | N+1,s,h=>by
   have hb:∀l:List GStmt,SizeOf.sizeOf l < SizeOf.sizeOf s→boundB t locals l=blockE t locals l:=by
    intro l hl
    unfold boundB blockE
    rw [boundSs_all,stmtsE_all,Bool.and_comm,all_same fun x hx=>stmt_same t hP locals N x (by have:=sizeOf_mem hx;omega)]
   rw [boundS_eq,stmtE_eq,topE_eq,hb _ (GStmt.lt_body s),hb _ (GStmt.lt_else s),all_same fun x _=>book_same t hP locals _ x (Nat.lt_succ_self _) (decide (s.Kind=1))]
theorem block_same(t:GTables) (hP:∀p∈t.Params,p≤8) (locals:Int) (l:List GStmt):boundB t locals l=blockE t locals l:=by
 unfold boundB blockE
 rw [boundSs_all,stmtsE_all,Bool.and_comm,all_same fun x _=>stmt_same t hP locals _ x (Nat.lt_succ_self _)]
def deepE:Nat→GExpr→Int
 | 0,_=>1
 | m+1,e=>e.Args.foldl (fun d x=>max d (1+deepE m x)) 1
theorem deepE_eq:∀(m:Nat) (e:GExpr),deepE m e=deepM e (m+1)
 | 0,e=>by rw [deepM_eq];simp [deepE]
 | m+1,e=>by
   have key:∀(l:List GExpr) (n:Int),l.foldl (fun d x=>max d (1+deepE m x)) (n+1)=deepsM l (m+1) n+1:=by
    intro l
    induction l with
    | nil=>intro n;rw [deepsM];rfl
    | cons x l ih=>
      intro n
      rw [List.foldl_cons,deepsM,deepE_eq m x,←ih]
      congr 1
      split <;> omega
   rw [deepE,deepM_eq,if_pos (by omega)]
   have:=key e.Args 0
   rw [Int.zero_add]at this
   rw [this]
   congr 2
   omega
theorem deepE_args(m:Nat):∀(l:List GExpr) (n:Int),l.foldl (fun d x=>max d (1+deepE m x)) (n+1)=deepsM l (m+1) n+1
 | [],n=>by rw [deepsM];rfl
 | x::l,n=>by
   rw [List.foldl_cons,deepsM,deepE_eq m x,←deepE_args m l]
   congr 1
   split <;> omega
def deepBE:Nat→List GStmt→Int
 | 0,l=>min l.length 1
 | m+1,l=>l.foldl (fun d s=>max (max (s.Args.foldl (fun d x=>max d (1+deepE m x)) d) (1+deepBE m s.Body)) (1+deepBE m s.Else)) (min l.length 1)
theorem deepBE_eq:∀(m:Nat) (l:List GStmt),deepBE m l=deepB l (m+1)
 | 0,l=>by
   unfold deepB
   cases l with
   | nil=>rfl
   | cons s l=>simp [deepBE];omega
 | m+1,l=>by
   have key:∀(l:List GStmt) (n:Int),l.foldl (fun d s=>max (max (s.Args.foldl (fun d x=>max d (1+deepE m x)) d) (1+deepBE m s.Body)) (1+deepBE m s.Else)) (n+1)=deepSs l (m+1) n+1:=by
    intro l
    induction l with
    | nil=>intro n;rw [deepSs];rfl
    | cons s l ih=>
      intro n
      rw [List.foldl_cons,deepSs,deepS_eq,deepE_args,deepBE_eq m,deepBE_eq m,←ih]
      congr 1
      unfold greaterM
      split <;> split <;> omega
   unfold deepB
   cases l with
   | nil=>rfl
   | cons s l=>
     rw [deepBE,show(min ((s::l).length:Int) 1)=0+1 by simp;omega,key]
     simp only [List.isEmpty_cons,Bool.false_eq_true,if_false]
     rw [if_pos (by omega)]
     congr 2
     omega
def boundE(t:GTables) (l:List GStmt) (locals:Int):Bool:=decide (deepBE 64 l≤32) && blockE t locals l
theorem boundE_eq(t:GTables) (hP:∀p∈t.Params,p≤8) (l:List GStmt) (locals:Int):boundE t l locals=(decide (deepB l 65≤32) && boundB t locals l):=by
 unfold boundE
 rw [block_same t hP,deepBE_eq]
 rfl
end Go.Ab
namespace Go.Ab
open Go.Proofs Go.Proofs.Tryz
set_option maxHeartbeats 4000000
set_option maxRecDepth 20000
theorem tBelow_ok(n m:Int):Pure prog 111 [iD n,iD m] (oD (belowE n m)):=by
 unfold belowE
 refine rn func111 ?_;simp [f111]
theorem tSaid_ok(k:Int):Pure prog 114 [iD k] (oD (saidE k)):=by
 unfold saidE
 refine rn func114 ?_;simp [f114]
 try grind
def hasV(o:Option HasE):HasE:=o.getD ⟨false,false,false,0,0⟩
def HasE.enc(h:HasE):List D:=[.v (.bool h.op),.v (.bool h.num),.v (.bool h.name),.v (.int .i64 h.least),.v (.int .i64 h.most)]
theorem tHas_ok(k:Int):Pure prog 168 [iD k] (.tup [.agg ((hasV (hasE k)).enc.map .d),oD (hasE k).isSome]):=by
 unfold hasE hasV
 refine rn func168 ?_;simp [-cB,f168]
 repeat' (first
  | (with_reducible refine And.intro ?_ ?_)
  | (refine condC_split (fun h=>?_) (fun h=>?_) <;> (try simp at h) <;> (try simp [-cB, *]))
  | (with_reducible intro _))
 all_goals first | (simp [HasE.enc, *];done) | skip
theorem tOp_ok(e:GExpr):Pure prog 169 [.agg (e.enc.map .d)] (oD (opE e)):=by
 unfold opE amongM
 refine rn func169 ?_;simp [-cB,f169]
 repeat' (first
  | (with_reducible refine And.intro ?_ ?_)
  | (refine condC_split (fun h=>?_) (fun h=>?_) <;> (try simp at h) <;> (try simp [-cB, *]))
  | (with_reducible intro _))
 all_goals first | (simp [*];done) | grind | skip
end Go.Ab
namespace Go.Ab
open Go.Proofs Go.Proofs.Tryz
set_option maxHeartbeats 4000000
set_option maxRecDepth 20000
def HasS.enc(h:HasS):List D:=[.v (.bool h.named),.v (.bool h.body),.v (.bool h.other),.v (.int .i64 h.least),.v (.int .i64 h.most)]
def hasSV(o:Option HasS):HasS:=o.getD ⟨false,false,false,0,0⟩
theorem tStmtHas_ok(k:Int):Pure prog 171 [iD k] (.tup [.agg ((hasSV (hasS k)).enc.map .d),oD (hasS k).isSome]):=by
 unfold hasS hasSV
 refine rn func171 ?_;simp [-cB,f171]
 repeat' (first
  | (with_reducible refine And.intro ?_ ?_)
  | (refine condC_split (fun h=>?_) (fun h=>?_) <;> (try simp at h) <;> (try simp [-cB, *]))
  | (with_reducible intro _))
 all_goals first | (simp [HasS.enc, *];done) | skip
theorem tNumbered_ok(t:GTables) (s:GStmt) (hs:s.wf) (locals:Int) (hl:locals≤9223372036854775807):Pure prog 75 [.agg (t.enc.map .d),.agg (s.enc.map .d),iD locals] (oD (numberedS t s locals)):=by
 have hn:=GStmt.wf_Num hs
 rw [inR_i64]at hn
 have h64:belowE s.Num locals=true→inR .i64 (s.Num+1):=fun h=>by unfold belowE at h;simp at h;rw [inR_i64];omega
 have hq1:=tBelow_ok s.Num locals
 have hq2:=tBelow_ok (s.Num+1) locals
 have hq3:=tBelow_ok s.Num
 unfold numberedS
 generalize belowE s.Num locals=b1 at *
 generalize belowE (s.Num+1) locals=b2 at *
 refine rn func75 ?_;simp [-cB,f75]
 repeat' (first
  | (with_reducible refine And.intro ?_ ?_)
  | ((first | (refine condC_split (fun h=>?_) (fun h=>?_) <;> (try simp at h)) | refine pC hq1 ?_ | refine pC hq2 ?_ | refine pC (hq3 _) ?_ | refine lC hq1 ?_ | refine lC hq2 ?_ | refine lC (hq3 _) ?_ | refine pG hq1 ?_ | refine pG hq2 ?_ | refine pG (hq3 _) ?_) <;> (try simp [-cB, *]))
  | (with_reducible intro _))
 all_goals first | (simp_all;done) | skip
theorem deepE_bd:∀(m:Nat) (e:GExpr),1≤deepE m e∧deepE m e≤m+1
 | 0,e=>by simp [deepE]
 | m+1,e=>by
   have key:∀(l:List GExpr) (n:Int),1≤n→n≤m+2→1≤l.foldl (fun d x=>max d (1+deepE m x)) n∧l.foldl (fun d x=>max d (1+deepE m x)) n≤m+2:=by
    intro l
    induction l with
    | nil=>intro n h1 h2;exact⟨h1,h2⟩
    | cons x l ih=>
      intro n h1 h2
      have:=deepE_bd m x
      simp only [List.foldl_cons]
      exact ih _ (by omega) (by omega)
   have:=key e.Args 1 (by omega) (by omega)
   rw [deepE];omega
theorem tDeep_ok:∀(m:Nat) (hm:m≤64) (e:GExpr) (he:e.wf),Pure prog 170 [.agg (e.enc.map .d),iD m] (iD (deepE m e))
 | 0,hm,e,he=>by
   have hw:=(GExpr.wf_iff e).1 he
   refine rn func170 ?_;simp [-cB,f170]
   intro bs
   refine AWP.loopS [1,2,5,6] 0 (fun i=> []) (fun _=> []) (fun _=>True) (by rfl) (by simp) ?_
   intro i hi _
   obtain rfl:i=0:=by omega
   repeat' (first
    | (with_reducible refine And.intro ?_ ?_)
    | (refine condC_split (fun h=>?_) (fun h=>?_) <;> (try simp at h) <;> (try simp [-cB, *]))
    | (with_reducible intro _))
   all_goals simp [deepE]
 | m+1,hm,e,he=>by
   have hw:=(GExpr.wf_iff e).1 he
   have hlen:e.Args.length≤2199023255488:=by omega
   have hsub:∀x∈e.Args,Pure prog 170 [.agg (x.enc.map .d),iD m] (iD (deepE m x)):=fun x hx=>tDeep_ok m (by omega) x (hw.2.2.2.2.2 _ hx)
   have hbd:=deepE_bd m
   have hbd2:=deepE_bd (m+1)
   rw [deepE]
   have hm64:inR .i64 (m:Int):=iW
   have em:((m:Int)+1)-1=m:=by omega
   have hpos:(0:Int) < (m:Int)+1:=by omega
   refine rn func170 ?_;simp [-cB,f170]
   intro bs
   refine AWP.loopL [1,2,5,6] e.Args (fun pre=> [(5,iD (pre.foldl (fun d x=>max d (1+deepE m x)) 1)),(6,iD pre.length)]) (fun _=> []) (fun pre=>pre.foldl (fun d x=>max d (1+deepE m x)) 1≤m+2∧1≤pre.foldl (fun d x=>max d (1+deepE m x)) 1) (by rfl) (by omega) (by simp;omega) ?_ ?_
   ·rintro pre x post hsp hH hlt hge a4
    have h3:=hsub x (by rw [hsp];simp)
    have hb:=hbd x
    have hsn:(pre++ [x]).foldl (fun d x=>max d (1+deepE m x)) 1=max (pre.foldl (fun d x=>max d (1+deepE m x)) 1) (1+deepE m x):=by simp
    generalize pre.foldl (fun d x=>max d (1+deepE m x)) 1=k at *
    generalize deepE m x=q at *
    have h64:inR .i64 (1+q):=iW
    clear hsp hsub hbd hbd2 hw
    simp [-cB, *]
    repeat' (first
     | (with_reducible refine And.intro ?_ ?_)
     | ((first | (refine condC_split (fun h=>?_) (fun h=>?_) <;> (try simp at h)) | refine pC h3 ?_ | refine lC h3 ?_ | refine pG h3 ?_) <;> (try simp [-cB, *]))
     | (with_reducible intro _))
    all_goals first | (simp_all;done) | omega | skip
   ·intro hH
    clear hsub hbd hbd2
    simp [-cB, *]
end Go.Ab
namespace Go.Ab
open Go.Proofs Go.Proofs.Tryz
set_option maxHeartbeats 4000000
set_option maxRecDepth 20000
theorem tShaped_ok(e:GExpr) (he:e.wf):Pure prog 110 [.agg (e.enc.map .d)] (oD (shapedE e)):=by
 have hw:=(GExpr.wf_iff e).1 he
 have hq1:=tHas_ok e.Kind
 have hq2:=tOp_ok e
 have hE:shapedE e=((hasE e.Kind).isSome && (((hasV (hasE e.Kind)).op || decide (e.Op=0)) && ((hasV (hasE e.Kind)).num || decide (e.Num=0)) && ((hasV (hasE e.Kind)).name || e.Name.toList.isEmpty)) && decide ((hasV (hasE e.Kind)).least≤e.Args.length) && decide ((e.Args.length:Int)≤(hasV (hasE e.Kind)).most) && opE e):=by
  unfold shapedE hasV
  cases hasE e.Kind with
  | none=>rfl
  | some h=>simp [Bool.and_assoc]
 rw [hE]
 generalize opE e=b at *
 generalize (hasE e.Kind).isSome=s at *
 generalize hasV (hasE e.Kind)=h at *
 obtain⟨h1,h2,h3,h4,h5⟩:=h
 unfold HasE.enc at hq1
 clear hE
 refine rn func110 ?_;simp [-cB,f110]
 repeat' (first
  | (with_reducible refine And.intro ?_ ?_)
  | ((first | (refine condC_split (fun h=>?_) (fun h=>?_) <;> (try simp at h)) | refine pC hq1 ?_ | refine pC hq2 ?_ | refine lC hq1 ?_ | refine lC hq2 ?_ | refine pG hq1 ?_ | refine pG hq2 ?_) <;> (try simp [-cB, *,eqVs,vals,eqVals,eqV1,fitVs,fits,fit1,bytes_beq]))
  | (with_reducible intro _))
 all_goals first | (simp_all;done) | grind | skip
end Go.Ab
namespace Go.Ab
open Go.Proofs Go.Proofs.Tryz
set_option maxHeartbeats 4000000
set_option maxRecDepth 20000
theorem fold_bd {α:Type} (f:Int→α→Int) (M:Int) (l:List α) (h:∀x∈l,∀n,0≤n→n≤M→0≤f n x∧f n x≤M):∀n,0≤n→n≤M→0≤l.foldl f n∧l.foldl f n≤M:=by
 induction l with
 | nil=>intro n h1 h2;exact⟨h1,h2⟩
 | cons x l ih=>
   intro n h1 h2
   have:=h x (by simp) n h1 h2
   exact ih (fun y hy=>h y (by simp [hy])) _ this.1 this.2
theorem deepEs_bd(m:Nat) (l:List GExpr) (n:Int) (h1:0≤n) (h2:n≤m+2):0≤l.foldl (fun d x=>max d (1+deepE m x)) n∧l.foldl (fun d x=>max d (1+deepE m x)) n≤m+2:=
 fold_bd _ (m+2) l (fun x _ n h1 h2=>by have:=deepE_bd m x;omega) n h1 h2
theorem deepBE_bd:∀(m:Nat) (l:List GStmt),0≤deepBE m l∧deepBE m l≤m+1
 | 0,l=>by rw [deepBE];omega
 | m+1,l=>by
   rw [deepBE]
   have:=fold_bd (fun d (s:GStmt)=>max (max (s.Args.foldl (fun d x=>max d (1+deepE m x)) d) (1+deepBE m s.Body)) (1+deepBE m s.Else)) (m+2) l (fun s _ n h1 h2=>by
    have a:=deepEs_bd m s.Args n h1 h2
    have b:=deepBE_bd m s.Body
    have c:=deepBE_bd m s.Else
    omega) (min l.length 1) (by omega) (by omega)
   omega
theorem tDeepB_ok:∀(m:Nat) (hm:m≤64) (l:List GStmt) (hl:∀s∈l,s.wf) (hlen:l.length *104≤140737488351232),Pure prog 115 [.d (.sl (l.map GStmt.enc)),iD m] (iD (deepBE m l))
 | 0,hm,l,hl,hlen=>by
   refine rn func115 ?_;simp [-cB,f115]
   refine AWP.loopS [0,1,5,6] 0 (fun i=> []) (fun _=> []) (fun _=>True) (by rfl) (by simp) ?_
   intro i hi _
   obtain rfl:i=0:=by omega
   repeat' (first
    | (with_reducible refine And.intro ?_ ?_)
    | (refine condC_split (fun h=>?_) (fun h=>?_) <;> (try simp at h) <;> (try simp [-cB, *]))
    | (with_reducible intro _))
   all_goals (simp [deepBE];try omega)
 | m+1,hm,l,hl,hlen=>by
   have hbd:=deepBE_bd (m+1) l
   have hm64:inR .i64 (m:Int):=iW
   have em:((m:Int)+1)-1=m:=by omega
   have hpos:(0:Int) < (m:Int)+1:=by omega
   rw [deepBE]at hbd ⊢
   have hsub:∀s∈l,s.wf∧Pure prog 115 [.d (.sl (s.Body.map GStmt.enc)),iD m] (iD (deepBE m s.Body))∧Pure prog 115 [.d (.sl (s.Else.map GStmt.enc)),iD m] (iD (deepBE m s.Else)):=fun s hs=>
    ⟨hl s hs,tDeepB_ok m (by omega) s.Body (GStmt.wf_Body (hl s hs)) (GStmt.wl_Body (hl s hs)),tDeepB_ok m (by omega) s.Else (GStmt.wf_Else (hl s hs)) (GStmt.wl_Else (hl s hs))⟩
   generalize hF:(fun d (s:GStmt)=>max (max (s.Args.foldl (fun d x=>max d (1+deepE m x)) d) (1+deepBE m s.Body)) (1+deepBE m s.Else))=F at *
   refine rn func115 ?_;simp [-cB,f115]
   refine AWP.loopL [0,1,5,6] l (fun pre=> [(5,iD (pre.foldl F (min l.length 1))),(6,iD pre.length)]) (fun _=> []) (fun pre=>0≤pre.foldl F (min l.length 1)∧pre.foldl F (min l.length 1)≤m+2) (by rfl) (by omega) (by simp;omega) ?_ ?_
   ·rintro pre s post hsp hH hlt hge a4
    obtain⟨hws,h1,h2⟩:=hsub s (by rw [hsp];simp)
    have hwa:=GStmt.wl_Args hws
    have hsn:(pre++ [s]).foldl F (min l.length 1)=F (pre.foldl F (min l.length 1)) s:=by simp
    rw [←hF]at hsn
    dsimp only at hsn
    rw [hF]at hsn
    generalize pre.foldl F (min l.length 1)=v at *
    have hE:=fun pre:List GExpr=>deepEs_bd m pre v hH.1 hH.2
    have b1:=deepBE_bd m s.Body
    have b2:=deepBE_bd m s.Else
    clear hsp hsub hbd
    simp [-cB, *]
    refine AWP.loopL [0,1,5,6,26,27,28] s.Args (fun pre=> [(5,iD (pre.foldl (fun d x=>max d (1+deepE m x)) v)),(28,iD pre.length)]) (fun _=> []) (fun _=>True) (by rfl) (by omega) (by simp) ?_ ?_
    ·rintro pre' e post' hsp2-hlt2 hge2 b4
     have hwe:=GStmt.wf_Args hws e (by rw [hsp2];simp)
     have h3:=tDeep_ok m (by omega) e hwe
     have hb:=deepE_bd m e
     have hsn2:(pre'++ [e]).foldl (fun d x=>max d (1+deepE m x)) v=max (pre'.foldl (fun d x=>max d (1+deepE m x)) v) (1+deepE m e):=by simp
     have a1:inR .i64 (1+deepE m e):=iW
     clear hsp2
     generalize pre'.foldl (fun d x=>max d (1+deepE m x)) v=k at *
     generalize deepE m e=q at *
     simp [-cB, *]
     repeat' (first
      | (with_reducible refine And.intro ?_ ?_)
      | ((first | (refine condC_split (fun h=>?_) (fun h=>?_) <;> (try simp at h)) | refine pC h3 ?_ | refine lC h3 ?_ | refine pG h3 ?_) <;> (try simp [-cB, *]))
      | (with_reducible intro _))
     all_goals first | (simp_all;done) | omega | skip
    ·intro _
     have c1:=h1.ok
     have c2:=h2.ok
     have a1:inR .i64 (1+deepBE m s.Body):=iW
     have a2:inR .i64 (1+deepBE m s.Else):=iW
     have b3:=hE s.Args
     generalize s.Args.foldl (fun d x=>max d (1+deepE m x)) v=k at *
     simp [-cB, *]
     refine AWP.regionD [iD (deepBE m s.Body),iD (deepBE m s.Else)] tmix (by kernel_rfl) (by rfl) ?_
     simp [*]
     all_goals first | (simp_all;done) | omega | skip
   ·intro hH
    clear hsub
    simp [-cB, *]
theorem tDepthB_ok(l:List GStmt) (hl:∀s∈l,s.wf) (hlen:l.length *104≤140737488351232):Pure prog 76 [.d (.sl (l.map GStmt.enc))] (iD (deepBE 64 l)):=by
 have hq:=tDeepB_ok 64 (by omega) l hl hlen
 refine rn func76 ?_;simp [-cB,f76]
 repeat' (first
  | (with_reducible refine And.intro ?_ ?_)
  | ((first | (refine condC_split (fun h=>?_) (fun h=>?_) <;> (try simp at h)) | refine pC hq ?_ | refine lC hq ?_ | refine pG hq ?_) <;> (try simp [-cB, *]))
  | (with_reducible intro _))
end Go.Ab
namespace Go.Ab
open Go.Proofs Go.Proofs.Tryz
set_option maxHeartbeats 4000000
set_option maxRecDepth 20000
theorem tEach_ok(l:List GExpr) (hl:l.length≤1000000000000000) (g:Nat) (caps:List V) (hc:V.ons [] caps=true) (p:GExpr→Bool) (h:∀x∈l,Pure prog g (.agg (x.enc.map .d)::caps) (oD (p x))):
  Pure prog 112 [.d (.sl (l.map GExpr.enc)),.clo (.func g) [] caps] (oD (allB p l)):=by
 refine Pure.run func112 rfl (by simp [f112,hc]) ?_;simp [-cB,f112,hc]
 refine AWP.loopL [1,7,8,9] l (fun pre=> [(9,iD pre.length)]) (fun _=> []) (fun pre=>allB p pre=true) (by rfl) (by omega) (by simp [allB_nil,hc]) ?_ ?_
 ·rintro pre x post hsp hH hlt hge a4
  have hall:=allB_split hsp hH
  have hsn:allB p (pre++ [x])=p x:=by simp [allB_snoc,hH]
  have h3:=h x (by rw [hsp];simp)
  clear hsp h
  simp [-cB, *]
  repeat' (first
   | (with_reducible refine And.intro ?_ ?_)
   | ((first | (refine condC_split (fun h=>?_) (fun h=>?_) <;> (try simp at h)) | refine pC h3 ?_ | refine lC h3 ?_ | refine pG h3 ?_) <;> (try simp [-cB, *]))
   | (with_reducible intro _))
  all_goals (first | assumption | omega | (rw [inR_i64];omega) | (simp_all;done) | grind | skip)
 ·intro hH
  simp [*]
theorem tBook1_ok(t:GTables) (locals:Int) (x:GExpr) (b:Bool) (hq:Pure prog 73 [.agg (t.enc.map .d),.agg (x.enc.map .d),iD locals] (oD b)):
  Pure prog 113 [.agg (x.enc.map .d),.rp t.enc,.rp [.v (.int .i64 locals)]] (oD (!saidE x.Kind && b)):=by
 have hs:=tSaid_ok x.Kind
 generalize saidE x.Kind=s at *
 refine rn func113 ?_;simp [-cB,f113]
 repeat' (first
  | (with_reducible refine And.intro ?_ ?_)
  | ((first | (refine condC_split (fun h=>?_) (fun h=>?_) <;> (try simp at h)) | refine pC hs ?_ | refine pC hq ?_ | refine lC hs ?_ | refine lC hq ?_ | refine pG hs ?_ | refine pG hq ?_) <;> (try simp [-cB, *]))
  | (with_reducible intro _))
 all_goals (first | assumption | omega | (rw [inR_i64];omega) | (simp_all;done) | grind | skip)
theorem tBook_ok(t:GTables) (ht:t.wf) (locals:Int):∀(N:Nat) (e:GExpr),SizeOf.sizeOf e < N→e.wf→Pure prog 73 [.agg (t.enc.map .d),.agg (e.enc.map .d),iD locals] (oD (bookE t locals e))
 | 0,e,h,_=>by omega
 | N+1,e,h,he=>by
   have hw:=(GExpr.wf_iff e).1 he
   have hsub:∀x∈e.Args,Pure prog 113 [.agg (x.enc.map .d),.rp t.enc,.rp [.v (.int .i64 locals)]] (oD (!saidE x.Kind && bookE t locals x)):=fun x hx=>
    tBook1_ok t locals x _ (tBook_ok t ht locals N x (by have:=GExpr.lt_of_mem hx;omega) (hw.2.2.2.2.2 _ hx))
   have hq1:=tEach_ok e.Args (by omega) 113 [.rp t.enc,.rp [.v (.int .i64 locals)]] rfl _ hsub
   have hq2:=tShaped_ok e he
   have hE:bookE t locals e=(shapedE e && okE t e locals && allB (fun x=>!saidE x.Kind && bookE t locals x) e.Args):=by rw [bookE_eq,booksE_all];rfl
   rw [hE]
   generalize allB (fun x=>!saidE x.Kind && bookE t locals x) e.Args=bA at *
   generalize shapedE e=bS at *
   have hfi:∀f:Nat,f < t.Funcs.length→t.Funcs[f]?=some (t.Funcs[f]?.getD 0):=fun f hf=>by rw [List.getElem?_eq_getElem hf];rfl
   have hq3:Pure prog 55 [iD e.Num] (oD (isM e.Num)):=wIs_ok e.Num
   clear hE hsub
   unfold okE
   refine rn func73 ?_;simp [-cB,f73]
   intro bs
   refine AOps.weaken (Wk.freezeB 3 (ds:=t.enc) rfl) ?_
   simp [-cB]
   refine AOps.weaken (Wk.freezeB 5 (ds:=[.v (.int .i64 locals)]) rfl) ?_
   simp [-cB]
   repeat' (first
    | (with_reducible refine And.intro ?_ ?_)
    | ((first | (refine condC_split (fun h=>?_) (fun h=>?_) <;> (try simp at h)) | refine pC hq1 ?_ | refine pC hq2 ?_ | refine pC (tBelow_ok _ _) ?_ | refine pC hq3 ?_ | refine lC hq1 ?_ | refine lC hq2 ?_ | refine lC (tBelow_ok _ _) ?_ | refine lC hq3 ?_ | refine pG hq1 ?_ | refine pG hq2 ?_ | refine pG (tBelow_ok _ _) ?_ | refine pG hq3 ?_) <;> (try simp [-cB, *]))
    | (with_reducible intro _))
   all_goals first | (simp_all;done) | grind | skip
   rename_i h18
   have hP:∀n:Int,0≤n→n < t.Params.length→t.Params[n.toNat]?=some (t.Params[n.toNat]?.getD 0):=fun n h1 h2=>by rw [List.getElem?_eq_getElem (by omega)];rfl
   have k1:∀L,OKCall prog 111 [iD e.Num,iD t.Funcs.length] L (oD (belowE e.Num t.Funcs.length)):=(tBelow_ok _ _).ok
   cases hc1:belowE e.Num t.Funcs.length with
   | false=>
     rw [hc1]at k1
     refine AWP.regionD [oD false,oD false] tmix (by kernel_rfl) (by rfl) ?_
     simp [-cB, *]
     repeat' (first
      | (with_reducible refine And.intro ?_ ?_)
      | ((first | (refine condC_split (fun h=>?_) (fun h=>?_) <;> (try simp at h)) | refine pC hq1 ?_ | refine lC hq1 ?_ | refine pG hq1 ?_) <;> (try simp [-cB, *]))
      | (with_reducible intro _))
     all_goals first | (simp_all;done) | grind | skip
   | true=>
     rw [hc1]at k1
     have hb:0≤e.Num∧e.Num < t.Funcs.length:=by unfold belowE at hc1;simpa using hc1
     have hf:=hfi e.Num.toNat (by omega)
     generalize t.Funcs[e.Num.toNat]?.getD 0=fn at *
     have k2:∀L,OKCall prog 111 [iD fn,iD t.Params.length] L (oD (belowE fn t.Params.length)):=(tBelow_ok _ _).ok
     cases hc2:belowE fn t.Params.length with
     | false=>
       rw [hc2]at k2
       refine AWP.regionD [oD true,oD false] tmix (by kernel_rfl) (by rfl) ?_
       simp [-cB, *]
       repeat' (first
        | (with_reducible refine And.intro ?_ ?_)
        | ((first | (refine condC_split (fun h=>?_) (fun h=>?_) <;> (try simp at h)) | refine pC hq1 ?_ | refine lC hq1 ?_ | refine pG hq1 ?_) <;> (try simp [-cB, *]))
        | (with_reducible intro _))
       all_goals first | (simp_all;done) | grind | skip
     | true=>
       rw [hc2]at k2
       have hb2:0≤fn∧fn < t.Params.length:=by unfold belowE at hc2;simpa using hc2
       have hp:=hP fn hb2.1 hb2.2
       generalize t.Params[fn.toNat]?.getD 0=pn at *
       refine AWP.regionD [oD true,oD true] tmix (by kernel_rfl) (by rfl) ?_
       simp [-cB, *]
       repeat' (first
        | (with_reducible refine And.intro ?_ ?_)
        | ((first | (refine condC_split (fun h=>?_) (fun h=>?_) <;> (try simp at h)) | refine pC hq1 ?_ | refine lC hq1 ?_ | refine pG hq1 ?_) <;> (try simp [-cB, *]))
        | (with_reducible intro _))
       all_goals first | (simp_all;done) | grind | skip
end Go.Ab
namespace Go.Ab
open Go.Proofs Go.Proofs.Tryz
set_option maxHeartbeats 4000000
set_option maxRecDepth 20000
def capT(t:GTables) (locals:Int):List V:=[.rp t.enc,.rp [.v (.int .i64 locals)]]
def rulesL(t:GTables) (locals:Int):List V:=[.clo (.func 74) [] (capT t locals),.clo (.func 72) [] (capT t locals),iD 18]
@[simp] theorem rulesL_ons(t:GTables) (locals:Int) (g:List Nat):V.ons g (rulesL t locals)=true:=by simp [rulesL,capT]
@[simp] theorem rulesL_len(t:GTables) (locals:Int):(rulesL t locals).length=3:=rfl
def rulH(b:Nat) (t:GTables) (locals:Int):Heap:=[(5501,.box (b+1) 118 (rulesL t locals))]
theorem tB1_ok(t:GTables) (ht:t.wf) (locals:Int) (x:GExpr) (hx:x.wf):Pure prog 72 (.agg (x.enc.map .d)::capT t locals) (oD (bookE t locals x)):=by
 have hq:=tBook_ok t ht locals _ x (Nat.lt_succ_self _) hx
 have he:(t.enc.take 15).length=15:=rfl
 unfold capT
 generalize bookE t locals x=b at *
 refine rn func72 ?_;simp [-cB,f72]
 repeat' (first
  | (with_reducible refine And.intro ?_ ?_)
  | ((first | (refine condC_split (fun h=>?_) (fun h=>?_) <;> (try simp at h)) | refine pC hq ?_ | refine lC hq ?_ | refine pG hq ?_) <;> (try simp [-cB, *]))
  | (with_reducible intro _))
theorem tB2_ok(t:GTables) (locals:Int) (s:GStmt) (hs:s.wf) (named:Bool) (hl:locals≤9223372036854775807):Pure prog 74 (.agg (s.enc.map .d)::oD named::capT t locals) (oD (nameS t s locals named)):=by
 have hq:=tNumbered_ok t s hs locals hl
 have he:(t.enc.take 15).length=15:=rfl
 unfold capT nameS
 generalize numberedS t s locals=b at *
 refine rn func74 ?_;simp [-cB,f74]
 repeat' (first
  | (with_reducible refine And.intro ?_ ?_)
  | ((first | (refine condC_split (fun h=>?_) (fun h=>?_) <;> (try simp at h)) | refine pC hq ?_ | refine lC hq ?_ | refine pG hq ?_) <;> (try simp [-cB, *,bytes_beq]))
  | (with_reducible intro _))
 all_goals first | (simp_all;done) | grind | skip
theorem tSt1_ok(b:Nat) (t:GTables) (ht:t.wf) (locals:Int) (say:Bool) (x:GExpr) (hx:x.wf):ACalls prog 172 [.agg (x.enc.map .d),.rp [.v (.bool say)],.bp 5501 0] (rulH b t locals) (fun r L=>r= .ret (oD ((say ||!saidE x.Kind) && bookE t locals x))∧L=rulH b t locals):=by
 have hq:=tB1_ok t ht locals x hx
 have hs:=tSaid_ok x.Kind
 unfold rulH rulesL capT at *
 generalize bookE t locals x=b at *
 generalize saidE x.Kind=d at *
 refine rX [4] [5501] func172 ?_;simp [-cB,f172]
 repeat' (first
  | (with_reducible refine And.intro ?_ ?_)
  | ((first | (refine condC_split (fun h=>?_) (fun h=>?_) <;> (try simp at h)) | refine pC hs ?_ | refine pC hq ?_ | refine lC hs ?_ | refine lC hq ?_ | refine pG hs ?_ | refine pG hq ?_) <;> (try simp [-cB, *]))
  | (with_reducible intro _))
 all_goals (first | assumption | omega | (rw [inR_i64];omega) | (simp_all;done) | grind | skip)
theorem tEachL_ok(b:Nat) (t:GTables) (ht:t.wf) (locals:Int) (say:Bool) (l:List GExpr) (hl:l.length≤1000000000000000) (hw:∀x∈l,x.wf):
  ACalls prog 112 [.d (.sl (l.map GExpr.enc)),.clo (.func 172) [] [.rp [.v (.bool say)],.bp 5501 0]] (rulH b t locals) (fun r L=>r= .ret (oD (allB (fun x=>(say ||!saidE x.Kind) && bookE t locals x) l))∧L=rulH b t locals):=by
 generalize hp:(fun x:GExpr=>(say ||!saidE x.Kind) && bookE t locals x)=p
 unfold rulH
 refine rX [4] [5501] func112 ?_;simp [-cB,f112]
 refine AWP.loopL [1,7,8,9] l (fun pre=> [(9,iD pre.length)]) (fun _=> []) (fun pre=>allB p pre=true) (by rfl) (by omega) (by simp [allB_nil]) ?_ ?_
 ·rintro pre x post hsp hH hlt hge a4
  have hall:=allB_split hsp hH
  have hsn:allB p (pre++ [x])=p x:=by simp [allB_snoc,hH]
  have hq:=tSt1_ok b t ht locals say x (hw x (by rw [hsp];simp))
  have e:((say ||!saidE x.Kind) && bookE t locals x)=p x:=by rw [←hp]
  rw [e]at hq
  unfold rulH at hq
  clear hsp hw
  generalize p x=dx at *
  simp [-cB, *]
  intro bs
  refine eD [5501] hq ?_
  simp [-cB]
  cases dx with
  | false=>simp [hall]
  | true=>simp [hsn,hlt,a4]
 ·intro hH
  simp [*]
end Go.Ab
namespace Go.Ab
open Go.Proofs Go.Proofs.Tryz
set_option maxHeartbeats 4000000
set_option maxRecDepth 20000
theorem tBlock_ok(t:GTables) (locals:Int) (l:List GStmt) (hl:l.length *104≤140737488351232) (h:∀s∈l,Pure prog 116 [.agg (rulesL t locals),.agg (s.enc.map .d)] (oD (stmtE t locals s))):
  Pure prog 77 [.agg (rulesL t locals),.d (.sl (l.map GStmt.enc))] (oD (blockE t locals l)):=by
 have hE:blockE t locals l=(decide (l.length≤256) && allB (stmtE t locals) l):=by unfold blockE;rw [stmtsE_all];rfl
 rw [hE]
 refine rn func77 ?_;simp [-cB,f77]
 intro bs
 by_cases h256:l.length≤256
 ·have h2:¬(256:Int) < l.length:=by omega
  simp [-cB,h256,h2]
  refine AWP.loopL [2,10,11,12] l (fun pre=> [(12,iD pre.length)]) (fun _=> []) (fun pre=>allB (stmtE t locals) pre=true) (by rfl) (by omega) (by simp [allB_nil]) ?_ ?_
  ·rintro pre x post hsp hH hlt hge a4
   have hall:=allB_split hsp hH
   have hsn:allB (stmtE t locals) (pre++ [x])=stmtE t locals x:=by simp [allB_snoc,hH]
   have h3:=h x (by rw [hsp];simp)
   clear hsp h hE
   generalize stmtE t locals x=sx at *
   simp [-cB, *]
   repeat' (first
    | (with_reducible refine And.intro ?_ ?_)
    | ((first | (refine condC_split (fun h=>?_) (fun h=>?_) <;> (try simp at h)) | refine pC h3 ?_ | refine lC h3 ?_ | refine pG h3 ?_) <;> (try simp [-cB, *]))
    | (with_reducible intro _))
   all_goals first | (simp_all;done) | grind | skip
  ·intro hH
   simp [*]
 ·have h2:(256:Int) < l.length:=by omega
  simp [-cB,h256,h2]
theorem tStmt_ok(t:GTables) (ht:t.wf) (locals:Int) (s:GStmt) (hs:s.wf) (hl:locals≤9223372036854775807)
  (hb:Pure prog 77 [.agg (rulesL t locals),.d (.sl (s.Body.map GStmt.enc))] (oD (blockE t locals s.Body)))
  (he:Pure prog 77 [.agg (rulesL t locals),.d (.sl (s.Else.map GStmt.enc))] (oD (blockE t locals s.Else))):
  Pure prog 116 [.agg (rulesL t locals),.agg (s.enc.map .d)] (oD (stmtE t locals s)):=by
 have hwa:=GStmt.wl_Args hs
 have hq1:=tStmtHas_ok s.Kind
 have hq2:=fun named=>tB2_ok t locals s hs named hl
 have hq3:=fun b=>tEachL_ok b t ht locals (decide (s.Kind=1)) s.Args (by omega) (GStmt.wf_Args hs)
 have hE:stmtE t locals s=((hasS s.Kind).isSome && (decide ((hasSV (hasS s.Kind)).least≤s.Args.length) && decide ((s.Args.length:Int)≤(hasSV (hasS s.Kind)).most) && ((hasSV (hasS s.Kind)).body || decide (s.Body.length=0)) && ((hasSV (hasS s.Kind)).other || decide (s.Else.length=0)) && nameS t s locals (hasSV (hasS s.Kind)).named && (decide (s.Kind≠19) || callM s)) &&
   allB (fun x=>(decide (s.Kind=1) ||!saidE x.Kind) && bookE t locals x) s.Args && blockE t locals s.Body && blockE t locals s.Else):=by
  rw [stmtE_eq]
  unfold topE hasSV
  cases hasS s.Kind with
  | none=>rfl
  | some h=>rfl
 have h19:s.Kind=19→(hasSV (hasS s.Kind)).least=1:=fun h=>by rw [h];rfl
 rw [hE]
 generalize allB (fun x=>(decide (s.Kind=1) ||!saidE x.Kind) && bookE t locals x) s.Args=bA at *
 generalize blockE t locals s.Body=bB at *
 generalize blockE t locals s.Else=bC at *
 generalize (hasS s.Kind).isSome=is at *
 generalize hasSV (hasS s.Kind)=h at *
 obtain⟨h1,h2,h3,h4,h5⟩:=h
 replace hq2:=hq2 h1
 generalize nameS t s locals h1=bN at *
 unfold HasS.enc at hq1
 dsimp only at hq1 hq2 h19 ⊢
 unfold rulH at hq3
 unfold rulesL capT at *
 clear hE hl
 refine rn func116 ?_;simp [-cB,f116]
 repeat' (first
  | (with_reducible refine And.intro ?_ ?_)
  | ((first | (refine condC_split (fun h=>?_) (fun h=>?_) <;> (try simp at h)) | refine pC hq1 ?_ | refine pC hq2 ?_ | refine lC hq1 ?_ | refine lC hq2 ?_ | refine pG hq1 ?_ | refine pG hq2 ?_) <;> (try simp [-cB, *]))
  | (with_reducible intro _))
 all_goals first | assumption | grind | skip
 have hN:is=true∧h4≤s.Args.length∧(s.Args.length:Int)≤h5∧(h2=false→s.Body=[])∧(h3=false→s.Else=[])∧bN=true:=by grind
 clear hq1 hq2
 refine AWP.weaken (Wk.pick [2,3] [2,3] (by rfl) (by decide) (by simp)) ?_
 simp [-cB]
 by_cases k19:s.Kind=19∧(s.Args[0]?.getD GExpr.zero).Kind≠18
 ·have hlt:0 < s.Args.length:=by have:=h19 k19.1;omega
  have hcm:callM s=false:=by unfold callM;simpa using k19.2
  have k3:(s.Args[0].Kind !=18)=true:=by have:=k19.2;rw [List.getElem?_eq_getElem hlt]at this;simpa using this
  have k4:=k19.1
  rw [hcm]
  clear k19
  refine AWP.regionD [] tmix (by kernel_rfl) (by rfl) ?_
  simp [-cB,hlt,k3,k4]
 ·have hcm:(!decide (s.Kind=19) || callM s)=true:=by unfold callM;grind
  have hg:s.Kind=19→0 < s.Args.length:=fun k=>by have:=h19 k;omega
  have hd:(decide (s.Kind=19) && (s.Args[0]?.getD GExpr.zero).Kind !=18)=false:=by grind
  rw [hcm]
  refine AWP.regionD [] tmix (by kernel_rfl) (by rfl) ?_
  simp [-cB,hd,hN]
  refine⟨fun k=>⟨hg k,k⟩,?_⟩
  intro bs1
  refine AOps.weaken (Wk.freezeB 7 (ds:=[.v (.bool (decide (s.Kind=1)))]) rfl) ?_
  simp [-cB]
  refine AOps.weaken (Wk.ren 2 5501 (by simp)) ?_
  simp [-cB]
  refine eD [5501] ((hq3 _)) ?_
  simp [-cB]
  repeat' (first
   | (with_reducible refine And.intro ?_ ?_)
   | ((first | (refine condC_split (fun h=>?_) (fun h=>?_) <;> (try simp at h)) | refine pC hb ?_ | refine pC he ?_ | refine lC hb ?_ | refine lC he ?_ | refine pG hb ?_ | refine pG he ?_) <;> (try simp [-cB, *]))
   | (with_reducible intro _))
  all_goals first | (simp_all;done) | grind | skip
end Go.Ab
namespace Go.Ab
open Go.Proofs Go.Proofs.Tryz
set_option maxHeartbeats 4000000
set_option maxRecDepth 20000
theorem tBlk_ok(t:GTables) (ht:t.wf) (locals:Int) (hlo:locals≤9223372036854775807):∀(N:Nat) (l:List GStmt),SizeOf.sizeOf l < N→(∀s∈l,s.wf)→l.length *104≤140737488351232→Pure prog 77 [.agg (rulesL t locals),.d (.sl (l.map GStmt.enc))] (oD (blockE t locals l))
 | 0,l,h,_,_=>by omega
 | N+1,l,h,hw,hl=>tBlock_ok t locals l hl fun s hs=>by
   have h1:=List.sizeOf_lt_of_mem hs
   have h2:=GStmt.lt_body s
   have h3:=GStmt.lt_else s
   have hs':=hw s hs
   exact tStmt_ok t ht locals s hs' hlo (tBlk_ok t ht locals hlo N _ (by omega) (GStmt.wf_Body hs') (GStmt.wl_Body hs')) (tBlk_ok t ht locals hlo N _ (by omega) (GStmt.wf_Else hs') (GStmt.wl_Else hs'))
theorem tBound_ok(t:GTables) (ht:t.wf) (l:List GStmt) (hw:∀s∈l,s.wf) (hl:l.length *104≤140737488351232) (locals:Int) (hlo:locals≤9223372036854775807):
  Pure prog 42 [.agg (t.enc.map .d),.d (.sl (l.map GStmt.enc)),iD locals] (oD (boundE t l locals)):=by
 have hq1:=tDepthB_ok l hw hl
 have hq2:=tBlk_ok t ht locals hlo _ l (Nat.lt_succ_self _) hw hl
 unfold boundE
 unfold rulesL capT at hq2
 generalize blockE t locals l=b at *
 generalize deepBE 64 l=d at *
 refine rn func42 ?_;simp [-cB,f42]
 intro bs
 intro bs1
 refine AOps.weaken (Wk.freezeB 3 (ds:=t.enc) rfl) ?_
 simp [-cB]
 refine AOps.weaken (Wk.freezeB 5 (ds:=[.v (.int .i64 locals)]) rfl) ?_
 simp [-cB]
 repeat' (first
  | (with_reducible refine And.intro ?_ ?_)
  | ((first | (refine condC_split (fun h=>?_) (fun h=>?_) <;> (try simp at h)) | refine pC hq1 ?_ | refine pC hq2 ?_ | refine lC hq1 ?_ | refine lC hq2 ?_ | refine pG hq1 ?_ | refine pG hq2 ?_) <;> (try simp [-cB, *]))
  | (with_reducible intro _))
 all_goals first | (simp_all;done) | grind | skip
end Go.Ab
namespace Go.Ab
open Go.Proofs Go.Proofs.Tryz
set_option maxHeartbeats 4000000
set_option maxRecDepth 20000
def idxP {α:Type} (p:α→Bool) (l:List α):Int:=match l.findIdx? p with
 | some i=>i
 | none=> -1
theorem idxP_hit {α:Type} {p:α→Bool} {l pre post:List α} {x:α} (h:l=pre++x::post) (hp:pre.any p=false) (hx:p x=true):idxP p l=pre.length:=by
 have:l.findIdx? p=some pre.length:=by
  subst h
  rw [List.findIdx?_append,List.findIdx?_eq_none_iff.2 (fun y hy=>by have:=List.any_eq_false.1 hp y hy;simpa using this)]
  simp [List.findIdx?_cons,hx]
 unfold idxP;rw [this]
theorem idxP_none {α:Type} {p:α→Bool} {l:List α} (hp:l.any p=false):idxP p l= -1:=by
 have:l.findIdx? p=none:=List.findIdx?_eq_none_iff.2 (fun y hy=>by have:=List.any_eq_false.1 hp y hy;simpa using this)
 unfold idxP;rw [this]
theorem idxP_any {α:Type} (p:α→Bool) (l:List α):decide (0≤idxP p l)=l.any p:=by
 unfold idxP
 cases h:l.findIdx? p with
 | none=>
   have:l.any p=false:=by rw [List.any_eq_false];intro y hy;have:=List.findIdx?_eq_none_iff.1 h y hy;simp [this]
   rw [this];rfl
 | some i=>
   have:l.any p=true:=by
    obtain⟨h1,h2,-⟩:=List.findIdx?_eq_some_iff_getElem.1 h
    exact List.any_eq_true.2 ⟨_,List.getElem_mem h1,h2⟩
   rw [this];simp
theorem idxS_ok(l:List GStmt) (hl:l.length≤1000000000000000) (g:Nat) (caps:List V) (hc:V.ons [] caps=true) (p:GStmt→Bool) (h:∀x∈l,Pure prog g (.agg (x.enc.map .d)::caps) (oD (p x))):
  Pure prog 117 [.d (.sl (l.map GStmt.enc)),.clo (.func g) [] caps] (iD (idxP p l)):=by
 refine Pure.run func117 rfl (by simp [f117,hc]) ?_;simp [-cB,f117,hc]
 refine AWP.loopL [0,1,7,8] l (fun pre=> [(8,iD pre.length)]) (fun _=> []) (fun pre=>pre.any p=false) (by rfl) (by omega) (by simp [hc]) ?_ ?_
 ·rintro pre x post hsp hH hlt hge a4
  have hhit:=fun hx=>idxP_hit hsp hH hx
  have hsn:(pre++ [x]).any p=p x:=by rw [List.any_append,hH];simp
  have h3:=h x (by rw [hsp];simp)
  clear hsp h
  generalize p x=px at *
  simp [-cB, *]
  repeat' (first
   | (with_reducible refine And.intro ?_ ?_)
   | ((first | (refine condC_split (fun h=>?_) (fun h=>?_) <;> (try simp at h)) | refine pC h3 ?_ | refine lC h3 ?_ | refine pG h3 ?_) <;> (try simp [-cB, *]))
   | (with_reducible intro _))
  all_goals first | (simp_all;done) | grind | skip
 ·intro hH
  simp [*,idxP_none hH]
theorem anyS_ok(l:List GStmt) (hl:l.length≤1000000000000000) (g:Nat) (caps:List V) (hc:V.ons [] caps=true) (p:GStmt→Bool) (h:∀x∈l,Pure prog g (.agg (x.enc.map .d)::caps) (oD (p x))):
  Pure prog 78 [.d (.sl (l.map GStmt.enc)),.clo (.func g) [] caps] (oD (l.any p)):=by
 have hq:=idxS_ok l hl g caps hc p h
 rw [←idxP_any]
 refine Pure.run func78 rfl (by simp [f78,hc]) ?_;simp [-cB,f78,hc]
 repeat' (first
  | (with_reducible refine And.intro ?_ ?_)
  | ((first | (refine condC_split (fun h=>?_) (fun h=>?_) <;> (try simp at h)) | refine pC hq ?_ | refine lC hq ?_ | refine pG hq ?_) <;> (try simp [-cB, *,hc]))
  | (with_reducible intro _))
theorem idxI_ok(l:List GIns) (hl:l.length≤1000000000000000) (g:Nat) (caps:List V) (hc:V.ons [] caps=true) (p:GIns→Bool) (h:∀x∈l,Pure prog g (.agg (x.enc.map .d)::caps) (oD (p x))):
  Pure prog 187 [.d (.sl (l.map GIns.enc)),.clo (.func g) [] caps] (iD (idxP p l)):=by
 refine Pure.run func187 rfl (by simp [f187,hc]) ?_;simp [-cB,f187,hc]
 refine AWP.loopL [0,1,7,8] l (fun pre=> [(8,iD pre.length)]) (fun _=> []) (fun pre=>pre.any p=false) (by rfl) (by omega) (by simp [hc]) ?_ ?_
 ·rintro pre x post hsp hH hlt hge a4
  have hhit:=fun hx=>idxP_hit hsp hH hx
  have hsn:(pre++ [x]).any p=p x:=by rw [List.any_append,hH];simp
  have h3:=h x (by rw [hsp];simp)
  clear hsp h
  generalize p x=px at *
  simp [-cB, *]
  repeat' (first
   | (with_reducible refine And.intro ?_ ?_)
   | ((first | (refine condC_split (fun h=>?_) (fun h=>?_) <;> (try simp at h)) | refine pC h3 ?_ | refine lC h3 ?_ | refine pG h3 ?_) <;> (try simp [-cB, *]))
   | (with_reducible intro _))
  all_goals first | (simp_all;done) | grind | skip
 ·intro hH
  simp [*,idxP_none hH]
theorem anyI_ok(l:List GIns) (hl:l.length≤1000000000000000) (g:Nat) (caps:List V) (hc:V.ons [] caps=true) (p:GIns→Bool) (h:∀x∈l,Pure prog g (.agg (x.enc.map .d)::caps) (oD (p x))):
  Pure prog 144 [.d (.sl (l.map GIns.enc)),.clo (.func g) [] caps] (oD (l.any p)):=by
 have hq:=idxI_ok l hl g caps hc p h
 rw [←idxP_any]
 refine Pure.run func144 rfl (by simp [f144,hc]) ?_;simp [-cB,f144,hc]
 repeat' (first
  | (with_reducible refine And.intro ?_ ?_)
  | ((first | (refine condC_split (fun h=>?_) (fun h=>?_) <;> (try simp at h)) | refine pC hq ?_ | refine lC hq ?_ | refine pG hq ?_) <;> (try simp [-cB, *,hc]))
  | (with_reducible intro _))
end Go.Ab
namespace Go.Ab
open Go.Proofs Go.Proofs.Tryz
def GWorld.tree(w:GWorld):Tree:=⟨w.Parent,w.Child,w.Next⟩
theorem refIs20_ok(w:GWorld) (x:Int):Pure prog 233 [.agg (w.enc.map .d),iD x] (oD (isT w.Parent.length x)):=by
 refine rn func233 ?_;simp [-cB,f233]
 simp [isT]
theorem atI_getD {l} {x} (h:isT l.length x=true):l[x.toNat]?.getD 0=atI l x:=by
 have:=isT_iff.1 h
 rw [atI,if_neg (by omega)]
end Go.Ab
namespace Go.Ab
open Go.Proofs Go.Proofs.Tryz
def nodeB(t:Tree) (x:Int):Bool:=
 !(decide (atI t.Par x≠0) &&!isT t.Par.length (atI t.Par x)) &&!(decide (atI t.Par x=0) && decide (atI t.Nxt x≠0)) && listedB t x &&
   !(decide (atI t.Par x≠0) && decide ((kidsM t (atI t.Par x)).count x≠1)) &&!(isT t.Par.length (atI t.Par x) && decide (x∈upsM t (atI t.Par x)))
def nestedB(t:Tree):Bool:=
 decide (t.Par.length≠0) && decide (t.Chi.length=t.Par.length) && decide (t.Nxt.length=t.Par.length) && decide (atI t.Par 0=0) && decide (atI t.Chi 0=0) && decide (atI t.Nxt 0=0) &&
  (List.range (t.Par.length-1)).all fun k=>nodeB t (k+1)
end Go.Ab
namespace Go.Ab
open Go.Proofs Go.Proofs.Tryz
def placedM(t:GTables) (w:GWorld):Bool:=(List.range (t.Things.length-1)).all (fun k=>!((thingAt t (k+1)).Room && decide (atI w.Parent (k+1)≠0))) && (thingAt t (topM w.tree 1)).Room
def rightB(t:GTables) (w:GWorld):Bool:=
 decide (w.Globals.length=t.Globals.length) && decide (w.Parent.length=t.Things.length) && decide (w.Flags.length=t.Things.length) && decide (w.Props.length=t.Things.length *t.Props.length) && decide (w.Timers.length=t.Daemons.length) && nestedB w.tree &&
 (allB int16 w.Globals && allB int16 w.Props && allB (fun x=>fromB x 0 (bitsM t.Flags-1)) w.Flags && allB (fun x=>fromB x 0 32767) w.Timers && int16 w.Score && fromB w.Turns 0 2147483647) &&
 (fromB w.Over 0 3 && fromB w.It 0 (t.Things.length-1) && fromB w.Go 0 12 && placedM t w)
end Go.Ab
namespace Go.Ab
open Go.Proofs Go.Proofs.Tryz
end Go.Ab
namespace Go.Ab
open Go.Proofs Go.Proofs.Tryz
theorem isP_ok(w:GWorld) (x:Int):Pure prog 230 [.agg (w.enc.map .d),iD x] (oD (isT w.Parent.length x)):=by
 refine rn func230 ?_;simp [-cB,f230]
 simp [isT]
end Go.Ab
namespace Go.Ab
open Go.Proofs Go.Proofs.Tryz
end Go.Ab
namespace Go.Ab
open Go.Proofs Go.Proofs.Tryz
end Go.Ab
namespace Go.Ab
def cutM(nx:List Int) (x:Int) (l:List Int):List Int:=l.foldl (fun a c=>if atI nx c=x then a.set c.toNat (atI nx x)else a) nx
end Go.Ab
namespace Go.Ab
open Go.Proofs Go.Proofs.Tryz
def leaveM(w:GWorld) (x:Int):GWorld:=
 {w with
  Parent:=w.Parent.set x.toNat 0
  Child:=if atI w.Parent x≠0∧atI w.Child (atI w.Parent x)=x then w.Child.set (atI w.Parent x).toNat (atI w.Next x)else w.Child
  Next:=(if atI w.Parent x=0∨atI w.Child (atI w.Parent x)=x then w.Next else cutM w.Next x (kidsM w.tree (atI w.Parent x))).set x.toNat 0}
structure LeaveOk(w:GWorld) (x:Int):Prop where
 wf:w.wf
 hC:w.Child.length=w.Parent.length
 hN:w.Next.length=w.Parent.length
 hx:isT w.Parent.length x=true
 up:atI w.Parent x=0∨isT w.Parent.length (atI w.Parent x)=true
end Go.Ab
namespace Go.Ab
open Go.Proofs Go.Proofs.Tryz
structure Wld(w:GWorld):Prop where
 wf:w.wf
 hC:w.Child.length=w.Parent.length
 hN:w.Next.length=w.Parent.length
 up:∀x,isT w.Parent.length x=true→atI w.Parent x=0∨isT w.Parent.length (atI w.Parent x)=true
def moveM(w:GWorld) (x to:Int):GWorld:=
 {leaveM w x with
  Parent:=(leaveM w x).Parent.set x.toNat to
  Next:=(leaveM w x).Next.set x.toNat (atI (leaveM w x).Child to)
  Child:=(leaveM w x).Child.set to.toNat x}
def removeR(w:GWorld) (x:Int):GWorld×Int:=if isT w.Parent.length x then(leaveM w x,0)else(w,11)
def moveR(w:GWorld) (x to:Int):GWorld×Int:=
 if isT w.Parent.length x && isT w.Parent.length to then if x∈upsM w.tree to then(w,18)else(moveM w x to,0)else(w,11)
end Go.Ab
namespace Go.Ab
open Go.Proofs Go.Proofs.Tryz
def askedM(w:GWorld) (x f:Int):Int:=if isT w.Parent.length x then if 0≤f∧f≤15 then 0 else 5 else 11
def placeE(t:GTables) (w:GWorld) (x p:Int):Int:=if isT w.Parent.length x then if 0≤p∧p < t.Props.length then 0 else 5 else 11
def propR(t:GTables) (w:GWorld) (x p:Int):Int×Int:=(if placeE t w x p=0 then w.Props[(x *t.Props.length+p).toNat]?.getD 0 else 0,placeE t w x p)
end Go.Ab
namespace Go.Ab
open Go.Proofs Go.Proofs.Tryz
def putR(t:GTables) (w:GWorld) (x p n:Int):GWorld×Int:=if placeE t w x p=0 then if int16 n then({w with Props:=w.Props.set (x *t.Props.length+p).toNat n},0)else(w,1)else(w,placeE t w x p)
end Go.Ab
namespace Go.Ab
end Go.Ab
namespace Go.Ab
open Go.Proofs Go.Proofs.Tryz
end Go.Ab
namespace Go.Ab
open Go.Proofs Go.Proofs.Tryz
def xorM(a b:Int):Int:=IntKind.wrap .u64 ((BitVec.ofInt IntKind.u64.bits a) ^^^ (BitVec.ofInt IntKind.u64.bits b)).toNat
def shrM(a:Int) (k:Nat):Int:=a.fdiv (2 ^ (min k IntKind.u64.bits))
def shlM(a:Int) (k:Nat):Int:=IntKind.wrap .u64 (a *2 ^ (min k IntKind.u64.bits))
def oneM(s:Int):Int:=if s=0 then 1 else s
def nextM(s:Int):Int:=
 let s0:=oneM s
 let s1:=xorM s0 (shrM s0 12)
 let s2:=xorM s1 (shlM s1 25)
 xorM s2 (shrM s2 27)
def mixV(s:Int):Int:=IntKind.wrap .u32 (shrM (IntKind.wrap .u64 (nextM s *2685821657736338717)) 32)
def mixB(s n:Int):Int×Int:=if n < 1 then(0,s)else((mixV s) % n,nextM s)
end Go.Ab
namespace Go.Ab
open Go.Proofs Go.Proofs.Tryz
def tru(b:Bool):Int:=if b then 1 else 0
def treeR(w:GWorld) (what x:Int):Int×Int:=
 if what=1∨what=2∨what=3 then
  if isT w.Parent.length (wrapM x)then((if what=1 then atI w.Parent (wrapM x)else if what=2 then atI w.Child (wrapM x)else atI w.Next (wrapM x)),0)else(0,11)
 else(0,16)
def selfR(w:GWorld) (e:GEnv) (what:Int):Int×Int:=
 if what=1 then(topM w.tree 1,0)else if what=2 then(1,0)else if what=3 then(wrapM e.Noun,0)else if what=4 then(wrapM e.Second,0)else if what=5 then(wrapM e.Number,0)else if what=6 then(wrapM w.Score,0)else(0,16)
theorem refTruth_ok(b:Bool):Pure prog 232 [oD b] (iD (tru b)):=by
 unfold tru
 cases b
 ·refine rn func232 ?_;simp [-cB,f232]
 ·refine rn func232 ?_;simp [-cB,f232]
theorem refNot_ok(n:Int):Pure prog 219 [iD n] (iD (tru (decide (wrapM n=0)))):=by
 refine rn func219 ?_;simp [-cB,f219]
 try intro(_:Nat→Nat)
 repeat' (first
  | (with_reducible refine And.intro ?_ ?_)
  | ((first | (refine condC_split (fun h=>?_) (fun h=>?_) <;> (try simp at h)) | refine pC (refWrap_ok _) ?_ | refine pC (refTruth_ok _) ?_ | refine lC (refWrap_ok _) ?_ | refine lC (refTruth_ok _) ?_ | refine pG (refWrap_ok _) ?_ | refine pG (refTruth_ok _) ?_) <;> (try simp [-cB, *]))
  | (with_reducible intro _))
theorem not_ok(n:Int):Pure prog 185 [iD n] (iD (tru (decide (wrapM n=0)))):=by
 unfold tru
 refine rn func185 ?_;simp [-cB,f185]
 try intro(_:Nat→Nat)
 repeat' (first
  | (with_reducible refine And.intro ?_ ?_)
  | ((first | (refine condC_split (fun h=>?_) (fun h=>?_) <;> (try simp at h)) | refine pC (wrap_ok _) ?_ | refine lC (wrap_ok _) ?_ | refine pG (wrap_ok _) ?_) <;> (try simp [-cB, *]))
  | (with_reducible intro _))
theorem tree_ok(w:GWorld) (hC:w.Child.length=w.Parent.length) (hN:w.Next.length=w.Parent.length) (what x:Int):Pure prog 208 [.agg (w.enc.map .d),iD what,iD x] (pr2 (treeR w what x)):=by
 unfold treeR pr2
 generalize hy:wrapM x=y
 have hw:what=1∨what=2∨what=3∨(¬what=1∧¬what=2∧¬what=3):=by omega
 rcases hw with rfl | rfl | rfl | ⟨a1,a2,a3⟩ <;> cases hT:isT w.Parent.length y
 all_goals
  try have g1:=atI_getD hT
  try have g2:=atI_getD (l:=w.Child) (by rw [hC];exact hT)
  try have g3:=atI_getD (l:=w.Next) (by rw [hN];exact hT)
  try have hb:=isT_iff.1 hT
  refine rn func208 ?_;simp [-cB,f208]
  try intro(_:Nat→Nat)
  repeat' (first
   | (with_reducible refine And.intro ?_ ?_)
   | ((first | (refine condC_split (fun h=>?_) (fun h=>?_) <;> (try simp at h)) | refine pC (wrap_ok _) ?_ | refine pC (isP_ok w _) ?_ | refine lC (wrap_ok _) ?_ | refine lC (isP_ok w _) ?_ | refine pG (wrap_ok _) ?_ | refine pG (isP_ok w _) ?_) <;> (try simp [-cB, *]))
   | (with_reducible intro _))
  all_goals first | omega | contradiction | grind
end Go.Ab
namespace Go.Ab
open Go.Proofs Go.Proofs.Tryz
def binR(w:GWorld) (op a b:Int):Int×Int:=
 if op=1 then(tru (decide (wrapM a≠0) || decide (wrapM b≠0)),0)
 else if op=2 then(tru (decide (wrapM a≠0) && decide (wrapM b≠0)),0)
 else if op=3 then(tru (decide (wrapM a=wrapM b)),0)
 else if op=4 then(tru (decide (wrapM a≠wrapM b)),0)
 else if op=5 then(tru (decide (wrapM a < wrapM b)),0)
 else if op=6 then(tru (decide (wrapM a≤wrapM b)),0)
 else if op=7 then(tru (decide (wrapM b < wrapM a)),0)
 else if op=8 then(tru (decide (wrapM b≤wrapM a)),0)
 else if op=9 then(if isT w.Parent.length (wrapM a)then(tru (decide (atI w.Parent (wrapM a)=wrapM b)),0)else(0,11))
 else if op=10 then(addM (wrapM a) (wrapM b),0)
 else if op=11 then(subM (wrapM a) (wrapM b),0)
 else if op=12 then(mulM (wrapM a) (wrapM b),0)
 else if op=13 then divM (wrapM a) (wrapM b)
 else if op=14 then modM (wrapM a) (wrapM b)
 else(0,16)
theorem refBin_ok(w:GWorld) (op a b:Int):Pure prog 216 [.agg (w.enc.map .d),iD op,iD a,iD b] (pr2 (binR w op a b)):=by
 have hd:=refDiv_ok (wrapM a) (wrapM b)
 have hm:=refMod_ok (wrapM a) (wrapM b)
 unfold pr2 at hd hm ⊢
 by_cases h9:op=9
 ·subst h9
  simp only [binR]
  generalize hx:wrapM a=x
  generalize hy:wrapM b=y
  cases hT:isT w.Parent.length x with
  | false=>
    refine rn func216 ?_;simp [-cB,f216]
    try intro(_:Nat→Nat)
    repeat' (first
     | (with_reducible refine And.intro ?_ ?_)
     | ((first | (refine condC_split (fun h=>?_) (fun h=>?_) <;> (try simp at h)) | refine pC (refWrap_ok _) ?_ | refine pC (refIs20_ok w _) ?_ | refine lC (refWrap_ok _) ?_ | refine lC (refIs20_ok w _) ?_ | refine pG (refWrap_ok _) ?_ | refine pG (refIs20_ok w _) ?_) <;> (try simp [-cB, *]))
     | (with_reducible intro _))
  | true=>
    have hb:=isT_iff.1 hT
    have g1:=atI_getD hT
    refine rn func216 ?_;simp [-cB,f216]
    try intro(_:Nat→Nat)
    repeat' (first
     | (with_reducible refine And.intro ?_ ?_)
     | ((first | (refine condC_split (fun h=>?_) (fun h=>?_) <;> (try simp at h)) | refine pC (refWrap_ok _) ?_ | refine pC (refIs20_ok w _) ?_ | refine pC (refTruth_ok _) ?_ | refine lC (refWrap_ok _) ?_ | refine lC (refIs20_ok w _) ?_ | refine lC (refTruth_ok _) ?_ | refine pG (refWrap_ok _) ?_ | refine pG (refIs20_ok w _) ?_ | refine pG (refTruth_ok _) ?_) <;> (try simp [-cB, *]))
     | (with_reducible intro _))
    all_goals (try omega)
 ·unfold binR
  refine rn func216 ?_;simp [-cB,f216]
  try intro(_:Nat→Nat)
  repeat' (first
   | (with_reducible refine And.intro ?_ ?_)
   | ((first | (refine condC_split (fun h=>?_) (fun h=>?_) <;> (try simp at h)) | refine pC (refWrap_ok _) ?_ | refine pC (refIs20_ok w _) ?_ | refine pC (refTruth_ok _) ?_ | refine pC (refAdd_ok _ _) ?_ | refine pC (refSub_ok _ _) ?_ | refine pC (refMul_ok _ _) ?_ | refine pC hd ?_ | refine pC hm ?_ | refine lC (refWrap_ok _) ?_ | refine lC (refIs20_ok w _) ?_ | refine lC (refTruth_ok _) ?_ | refine lC (refAdd_ok _ _) ?_ | refine lC (refSub_ok _ _) ?_ | refine lC (refMul_ok _ _) ?_ | refine lC hd ?_ | refine lC hm ?_ | refine pG (refWrap_ok _) ?_ | refine pG (refIs20_ok w _) ?_ | refine pG (refTruth_ok _) ?_ | refine pG (refAdd_ok _ _) ?_ | refine pG (refSub_ok _ _) ?_ | refine pG (refMul_ok _ _) ?_ | refine pG hd ?_ | refine pG hm ?_) <;> (try simp [-cB, *]))
   | (with_reducible intro _))
  all_goals rfl
end Go.Ab
namespace Go.Ab
structure XC where
 B:GBook
 E:GEnv
 M:Int
structure XS where
 W:GWorld
 Out:ByteArray
 Wr:Bool
 Fuel:Int
 Dp:Int
 Ls:List Int
inductive OC where
 | nrm (n:Int)
 | ret (n:Int)
 | thr (e:Int)
 | over
abbrev inL {α:Type} (l:List α) (i:Int):Prop:=0≤i∧i < l.length
abbrev sml {α:Type} (l:List α):Prop:=l.length≤1000000
def getI(l:List Int) (i:Int):Int:=l[i.toNat]?.getD 0
def okW(c:XC) (w:GWorld):Bool:=rightB c.B.Tables w && decide (0≤w.Seed∧w.Seed < 18446744073709551616)
def digT(n:Nat):ByteArray:=if n < 10 then⟨#[UInt8.ofNat (48+n)]⟩else digT (n / 10)++⟨#[UInt8.ofNat (48+n % 10)]⟩
def numT(n:Int):ByteArray:=if n < 0 then⟨#[45]⟩++digT n.natAbs else digT n.natAbs
def textT(t:GTables) (i:Int):ByteArray:=if i < 0∨(t.Texts.length:Int)≤i then⟨#[]⟩else t.Texts[i.toNat]?.getD ⟨#[]⟩
def noneT:ByteArray:=⟨#[110,111,116,104,105,110,103]⟩
def titleT(t:GTables) (x:Int):ByteArray:=if x < 1∨(t.Things.length:Int)≤x then noneT else textT t (thingAt t x).Title
def hasF(w:GWorld) (x:Int) (f:Nat):Bool:=isT w.Parent.length x && decide (getI w.Flags x / (2 ^ f:Nat) % 2=1)
def listedM(w:GWorld) (x:Int):List Int:=(kidsM w.tree x).filter fun y=>!hasF w y 3 && decide (y≠1)
def rowT:List ByteArray→ByteArray
 | []=>noneT
 | [a]=>a
 | [a,b]=>a++⟨#[32,97,110,100,32]⟩++b
 | a::l=>a++⟨#[44,32]⟩++rowT l
def listM(t:GTables) (w:GWorld) (x:Int):ByteArray:=rowT ((listedM w x).map (titleT t))
def showsM(w:GWorld) (x:Int):Bool:=!hasF w x 2 || hasF w x 1
def reachV(w:GWorld):Nat→Int→List Int
 | 0,_=> []
 | d+1,x=>(kidsM w.tree x).flatMap fun y=>if hasF w y 3 then []else y::(if showsM w y then reachV w d y else [])
def hereM(w:GWorld):Int:=topM w.tree 1
def litM(w:GWorld):Bool:=hasF w (hereM w) 0 || (reachV w w.Parent.length (hereM w)).any fun y=>hasF w y 0
def lookM(t:GTables) (w:GWorld):ByteArray:=
 if litM w then titleT t (hereM w)++⟨#[10]⟩++(if(thingAt t (hereM w)).Text≠ -1 then textT t (thingAt t (hereM w)).Text++⟨#[10]⟩else⟨#[]⟩)++(if listedM w (hereM w)≠ []then⟨#[89,111,117,32,115,101,101,32]⟩++listM t w (hereM w)++⟨#[46,10]⟩else⟨#[]⟩)
 else⟨#[73,116,32,105,115,32,100,97,114,107,46,10]⟩
def hasR(w:GWorld) (x f:Int):Int×Int:=(if askedM w x f=0 then tru (hasF w x f.toNat)else 0,askedM w x f)
def flagR(w:GWorld) (x f:Int) (on:Bool):GWorld×Int:=
 if askedM w x f=0 then(if hasF w x f.toNat=on then w else {w with Flags:=w.Flags.set x.toNat (if on then getI w.Flags x+(2 ^ f.toNat:Nat)else getI w.Flags x-(2 ^ f.toNat:Nat))},0)else(w,askedM w x f)
def roomT(t:GTables) (x:Int):Bool:=decide (1≤x) && decide (x < t.Things.length) && (thingAt t x).Room
def homeE(t:GTables) (p:GWorld×Int):GWorld×Int:=if p.2=0∧roomT t (topM p.1.tree 1)=false then(p.1,12)else p
def moveO(t:GTables) (w:GWorld) (x to:Int):GWorld×Int:=if roomT t x=true then(w,12)else homeE t (moveR w x to)
def removeO(t:GTables) (w:GWorld) (x:Int):GWorld×Int:=if roomT t x=true∨x=1 then(w,12)else homeE t (removeR w x)
def outX(σ:XS) (s:ByteArray):Option (XS×OC):=if σ.Out.size+s.size≤140737488355328 then some ({σ with Out:=σ.Out++s,Wr:=true},.nrm 0)else none
def costX(c:XC) (σ:XS):Option (XS×OC):=if 0≤σ.Fuel∧σ.Fuel≤1099511627776 then if c.M < σ.Fuel+1 then some (σ,.thr 19)else some ({σ with Fuel:=σ.Fuel+1},.nrm 0)else none
def pairO {α:Type} (w:α) (p:Int×Int):α×OC:=if p.2=0 then(w,.nrm p.1)else(w,.thr p.2)
def worldO(w:GWorld) (p:GWorld×Int):GWorld×OC:=if p.2=0 then(p.1,.nrm 0)else(w,.thr p.2)
def valW(c:XC) (w:GWorld) (k n:Int) (a:List Int):Option (GWorld×OC):=
 if okW c w=false then none
 else if k=1 then some (w,.nrm n)
 else if k=14 then(if inL w.Globals n then some (w,.nrm (getI w.Globals n))else none)
 else if k=12 then some (pairO w (selfR w c.E n))
 else if a.length=0 then none
 else if k=4 then some (w,.nrm (negM (getI a 0)))
 else if k=5 then some (w,.nrm (tru (decide (wrapM (getI a 0)=0))))
 else if k=16 then some (pairO w (hasR w (getI a 0) n))
 else if k=17 then some (pairO w (propR c.B.Tables w (getI a 0) n))
 else if k=10 then some (pairO w (treeR w n (getI a 0)))
 else if k=11 then(if wrapM (getI a 0) < 1 then some (w,.thr 1)else some ({w with Seed:=(mixB w.Seed (wrapM (getI a 0))).2},.nrm ((mixB w.Seed (wrapM (getI a 0))).1+1)))
 else if a.length=1 then none
 else if k=6 then some (pairO w (binR w n (getI a 0) (getI a 1)))
 else none
def ownA(e:GExpr):Int:=if e.Kind=6∨e.Kind=10∨e.Kind=12 then e.Op else e.Num
def valX(c:XC) (σ:XS) (e:GExpr) (a:List Int):Option (XS×OC):=
 if e.Kind=15 then(if inL σ.Ls e.Num then some (σ,.nrm (getI σ.Ls e.Num))else none)
 else(valW c σ.W e.Kind (ownA e) a).map fun p=>({σ with W:=p.1},p.2)
def chgW(c:XC) (w:GWorld) (k num:Int) (a:List Int):Option (GWorld×OC):=
 if okW c w=false then none
 else if k=13 then some (w,.over)
 else if k=14 then some ({w with Over:=1},.over)
 else if k=15 then some ({w with Over:=2},.over)
 else if k=18 then(if inL w.Timers num then some ({w with Timers:=w.Timers.set num.toNat 0},.nrm 0)else none)
 else if a.length=0 then none
 else if k=19 then some (w,.nrm 0)
 else if k=5 then some (worldO w (flagR w (getI a 0) num true))
 else if k=6 then some (worldO w (flagR w (getI a 0) num false))
 else if k=8 then some (worldO w (removeO c.B.Tables w (getI a 0)))
 else if k=16 then some ({w with Score:=addM w.Score (getI a 0)},.nrm 0)
 else if k=17 then(if inL w.Timers num then some ({w with Timers:=w.Timers.set num.toNat (if getI a 0 < 1 then 1 else getI a 0)},.nrm 0)else none)
 else if k=20 then(if getI a 0 < 1∨12 < getI a 0 then some (w,.thr 5)else some ({w with Go:=getI a 0},.nrm 0))
 else if k=23 then(if inL w.Globals num then some ({w with Globals:=w.Globals.set num.toNat (getI a 0)},.nrm 0)else none)
 else if a.length=1 then none
 else if k=4 then some (worldO w (putR c.B.Tables w (getI a 0) num (getI a 1)))
 else if k=7 then some (worldO w (moveO c.B.Tables w (getI a 0) (getI a 1)))
 else none
def chgX(c:XC) (σ:XS) (k num:Int) (a:List Int):Option (XS×OC):=
 if k=21 then(if okW c σ.W=true then outX σ (lookM c.B.Tables σ.W)else none)
 else if k=22 then(if okW c σ.W=true∧0 < a.length then outX σ (listM c.B.Tables σ.W (getI a 0))else none)
 else(chgW c σ.W k num a).map fun p=>({σ with W:=p.1},p.2)
def wrapO(p:XS×OC):XS×OC:=match p.2 with
 | .nrm n=>(p.1,.nrm (wrapM n))
 | _=>p
mutual
def askX(c:XC):Nat→XS→GExpr→Option (XS×OC)
 | 0,_,_=>none
 | g+1,σ,e=>
   if e.Kind=6∧(e.Op=1∨e.Op=2)then
    match e.Args with
    | x::y::_=>match askX c g σ x with
      | some (σ1,.nrm l)=>if decide (l≠0)=decide (e.Op=1)then some (σ1,.nrm (tru (decide (l≠0))))else match askX c g σ1 y with
        | some (σ2,.nrm r)=>some (σ2,.nrm (tru (decide (r≠0))))
        | r=>r
      | r=>r
    | _=>none
   else if ¬sml e.Args then none else match asksX c g σ e.Args with
    | some (σ1,.inl a)=>if e.Kind=18 then(if inL c.B.Tables.Funcs e.Num then(callX c g σ1 (getI c.B.Tables.Funcs e.Num) a).map wrapO else none)else(valX c σ1 e a).map wrapO
    | some (σ1,.inr o)=>some (σ1,o)
    | none=>none
def asksX(c:XC):Nat→XS→List GExpr→Option (XS×(List Int ⊕ OC))
 | 0,_,_=>none
 | _+1,σ,[]=>some (σ,.inl [])
 | g+1,σ,e::l=>match askX c g σ e with
   | some (σ1,.nrm n)=>match asksX c g σ1 l with
     | some (σ2,.inl a)=>some (σ2,.inl (n::a))
     | r=>r
   | some (σ1,o)=>some (σ1,.inr o)
   | none=>none
def callX(c:XC):Nat→XS→Int→List Int→Option (XS×OC)
 | 0,_,_,_=>none
 | g+1,σ,r,a=>
   if σ.Dp < 0 then none else if 32≤σ.Dp then some (σ,.thr 17)else
   if inL c.B.Tables.Locals r∧inL c.B.Routines r∧(a.length:Int)≤getI c.B.Tables.Locals r∧getI c.B.Tables.Locals r≤1000∧sml (c.B.Routines[r.toNat]?.getD [])then
    match blockX c g {σ with Dp:=σ.Dp+1,Ls:=a.map wrapM++List.replicate ((getI c.B.Tables.Locals r).toNat-a.length) 0} (c.B.Routines[r.toNat]?.getD [])with
    | some (σ1,o)=>some ({σ1 with Dp:=σ1.Dp-1,Ls:=σ.Ls},match o with | .nrm _=> .nrm 0 | .ret n=> .nrm n | o=>o)
    | none=>none
   else none
def blockX(c:XC):Nat→XS→List GStmt→Option (XS×OC)
 | 0,_,_=>none
 | _+1,σ,[]=>some (σ,.nrm 0)
 | g+1,σ,x::l=>match stmtX c g σ x with
   | some (σ1,.nrm _)=>blockX c g σ1 l
   | r=>r
def stmtX(c:XC):Nat→XS→GStmt→Option (XS×OC)
 | 0,_,_=>none
 | g+1,σ,x=>
   if x.Kind=10 then(if sml x.Body then whileX c g σ x else none)else
   match costX c σ with
   | some (σ,.nrm _)=>if ¬sml x.Args then none else if x.Kind=1 then saysX c g σ x.Args else match asksX c g σ x.Args with
     | some (σ1,.inl a)=>doesX c g σ1 x a
     | some (σ1,.inr o)=>some (σ1,o)
     | none=>none
   | r=>r
def saysX(c:XC):Nat→XS→List GExpr→Option (XS×OC)
 | 0,_,_=>none
 | _+1,σ,[]=>some (σ,.nrm 0)
 | g+1,σ,e::l=>
   match sayX c g σ e with
   | some (σ1,.nrm _)=>saysX c g σ1 l
   | r=>r
def sayX(c:XC):Nat→XS→GExpr→Option (XS×OC)
 | 0,_,_=>none
 | g+1,σ,e=>
   if e.Kind=19 then outX σ (textT c.B.Tables e.Num)
   else if e.Kind=13 then match e.Args with
    | x::_=>match askX c g σ x with
      | some (σ1,.nrm n)=>outX σ1 (titleT c.B.Tables n)
      | r=>r
    | []=>none
   else match askX c g σ e with
   | some (σ1,.nrm n)=>outX σ1 (numT n)
   | r=>r
def whileX(c:XC):Nat→XS→GStmt→Option (XS×OC)
 | 0,_,_=>none
 | g+1,σ,x=>
   match costX c σ with
   | some (σ,.nrm _)=>match x.Args with
     | e::_=>match askX c g σ e with
       | some (σ1,.nrm n)=>if n=0 then some (σ1,.nrm 0)else match blockX c g σ1 x.Body with
         | some (σ2,.nrm _)=>whileX c g σ2 x
         | r=>r
       | r=>r
     | []=>none
   | r=>r
def eachX(c:XC):Nat→XS→GStmt→Option (XS×OC)
 | 0,_,_=>none
 | g+1,σ,x=>
   if inL σ.Ls x.Num∧inL σ.Ls (x.Num+1)∧x.Num≤1000000∧okW c σ.W=true then
    if getI σ.Ls x.Num=0 then some (σ,.nrm 0)else
    match costX c σ with
    | some (σ,.nrm _)=>
      if(treeR σ.W 3 (getI σ.Ls x.Num)).2≠0 then some (σ,.thr (treeR σ.W 3 (getI σ.Ls x.Num)).2)else
      match blockX c g {σ with Ls:=σ.Ls.set (x.Num+1).toNat (treeR σ.W 3 (getI σ.Ls x.Num)).1} x.Body with
      | some (σ2,.nrm _)=>eachX c g {σ2 with Ls:=σ2.Ls.set x.Num.toNat (getI σ2.Ls (x.Num+1))} x
      | r=>r
    | r=>r
   else none
def doesX(c:XC):Nat→XS→GStmt→List Int→Option (XS×OC)
 | 0,_,_,_=>none
 | g+1,σ,x,a=>
   if x.Kind=2∨x.Kind=3 then(if 0 < a.length∧inL σ.Ls x.Num then some ({σ with Ls:=σ.Ls.set x.Num.toNat (getI a 0)},.nrm 0)else none)
   else if x.Kind=9 then(if 0 < a.length∧sml x.Body∧sml x.Else then blockX c g σ (if getI a 0≠0 then x.Body else x.Else)else none)
   else if x.Kind=11 then(if 0 < a.length∧okW c σ.W=true∧inL σ.Ls x.Num∧sml x.Body then
     if(treeR σ.W 2 (getI a 0)).2≠0 then some (σ,.thr (treeR σ.W 2 (getI a 0)).2)else eachX c g {σ with Ls:=σ.Ls.set x.Num.toNat (treeR σ.W 2 (getI a 0)).1} x
    else none)
   else if x.Kind=12 then(if 0 < a.length then some (σ,.ret (getI a 0))else none)
   else chgX c σ x.Kind x.Num a
end
end Go.Ab
namespace Go.Ab
structure MS where
 W:GWorld
 Out:ByteArray
 Fuel:Int
inductive Oc where
 | ret (n:Int) (σ:MS)
 | thr (e:Int) (σ:MS)
 | over (σ:MS)
inductive Ev where
 | ok (S L:List Int) (σ:MS)
 | thr (e:Int)
 | over (σ:MS)
inductive Nx where
 | go (r:List GIns) (S L:List Int) (σ:MS) (k:Nat)
 | stop (o:Oc)
 | call (f:Int) (a S:List Int)
 | stuck
def after:List GIns→Int→Option (List GIns)
 | [],_=>none
 | i::r,n=>if i.Op=38∧i.Arg=n then some r else after r n
structure Mach where
 J:GIns→List Int→List Int→MS→Option Ev
 fn:Int→Int
 pa:Int→Nat
 lo:Int→List Int→List Int
def Nx.to(S L:List Int) (σ:MS):Option (List GIns)→Nx
 | some r=> .go r S L σ 1
 | none=> .stuck
def Nx.zero(r:List GIns) (L:List Int) (σ:MS) (t:Option (List GIns)):List Int→Nx
 | v::S=>if wrapM v=0 then Nx.to S L σ t else .go r S L σ 1
 | []=> .stuck
def Nx.back(σ:MS):List Int→Nx
 | v::_=> .stop (.ret v σ)
 | []=> .stuck
def Nx.ev(r:List GIns) (σ:MS):Option Ev→Nx
 | some (.ok S' L' σ')=> .go r S' L' σ' 1
 | some (.thr e)=> .stop (.thr e σ)
 | some (.over σ')=> .stop (.over σ')
 | none=> .stuck
def nx(m:Mach) (d:Nat) (l:List GIns) (i:GIns) (r:List GIns) (S L:List Int) (σ:MS):Nx:=
 if i.Op=38 then .go r S L σ 0
 else if i.Op=24 then Nx.to S L σ (after l i.Arg)
 else if i.Op=25 then Nx.zero r L σ (after l i.Arg) S
 else if i.Op=27 then Nx.back σ S
 else if i.Op=26 then(if 32≤d then(if 0≤m.fn i.Arg then .stop (.thr 17 σ)else .stuck)else if m.pa (m.fn i.Arg)≤S.length then .call (m.fn i.Arg) (S.take (m.pa (m.fn i.Arg))).reverse (S.drop (m.pa (m.fn i.Arg)))else .stuck)
 else Nx.ev r σ (m.J i S L σ)
def flat(op:Int):Prop:=op≠38∧op≠24∧op≠25∧op≠27∧op≠26
def run(m:Mach) (P:Int→List GIns):Nat→Nat→List GIns→List GIns→List Int→List Int→MS→Option (Oc×Nat)
 | 0,_,_,_,_,_,_=>none
 | _+1,_,_,[],_,_,_=>none
 | g+1,d,l,i::r,S,L,σ=>match nx m d l i r S L σ with
   | .go r' S' L' σ' k=>(run m P g d l r' S' L' σ').map fun x=>(x.1,x.2+k)
   | .stop o=>some (o,1)
   | .call f a S'=>match run m P g (d+1) (P f) (P f) [] (m.lo f a) σ with
     | some (.ret v σ',k)=>(run m P g d l r (wrapM v::S') L σ').map fun x=>(x.1,x.2+k+1)
     | some (o,k)=>some (o,k+1)
     | none=>none
   | .stuck=>none
def Sim(m:Mach) (P P':Int→List GIns) (l r l' r':List GIns) (g:Nat):Prop:=
 ∀d S L σ o n,run m P g d l r S L σ=some (o,n)→∃g' n',n'≤n∧run m P' g' d l' r' S L σ=some (o,n')
end Go.Ab
namespace Go.Ab
inductive RP(p old new q:List GIns):List GIns→List GIns→Prop where
 | inp (p1 p2:List GIns):p=p1++p2→RP p old new q (p2++(old++q)) (p2++(new++q))
 | inq (q1 q2:List GIns):q=q1++q2→RP p old new q q2 q2
structure All(m:Mach) (P P':Int→List GIns) (p old new q:List GIns) (g:Nat):Prop where
 same:∀l r,Sim m P P' l r l r g
 rel:∀r r',RP p old new q r r'→Sim m P P' (p++(old++q)) r (p++(new++q)) r' g
end Go.Ab
namespace Go.Ab
def opA(r:List GIns) (k:Nat):Int:=(r[k]?.map GIns.Op).getD 0
def argA(r:List GIns) (k:Nat):Int:=(r[k]?.map GIns.Arg).getD 0
def notM(n:Int):Int:=tru (decide (wrapM n=0))
def pushI(n:Int):List GIns:=[⟨1,wrapM n⟩]
def reckM(r:List GIns):Option (Nat×List GIns):=
 if opA r 0=1∧opA r 1=1∧opA r 2=8∧argA r 2≠9∧(binR GWorld.zero (argA r 2) (argA r 0) (argA r 1)).2=0 then some (3,pushI (binR GWorld.zero (argA r 2) (argA r 0) (argA r 1)).1)
 else if opA r 0≠1 then none
 else if opA r 1=9 then some (2,pushI (negM (argA r 0)))
 else if opA r 1=10 then some (2,pushI (notM (argA r 0)))
 else if opA r 1=11 then some (2,pushI (1-notM (argA r 0)))
 else none
def knownM(r:List GIns):Option (Nat×List GIns):=
 if opA r 0=10∧opA r 1=10∧opA r 2=25 then some (2,[])
 else if opA r 0=1∧opA r 1=25 then(if wrapM (argA r 0)=0 then some (2,[⟨24,argA r 1⟩])else some (2,[]))
 else if opA r 0=1∧opA r 1=2 then some (2,[])
 else none
def isLab(i:GIns):Bool:=decide (i.Op=38)
def endsOp(o:Int):Prop:=o=24∨o=27∨o=28∨o=29∨o=30
instance (o:Int):Decidable (endsOp o):=by unfold endsOp;infer_instance
def deadN(r:List GIns):Nat:=(r.takeWhile fun i=>!isLab i).length
def askedL(l:List GIns) (n:Int):Bool:=l.any fun i=>(decide (i.Op=24) || decide (i.Op=25)) && decide (i.Arg=n)
def farM(l r:List GIns):Option (List GIns):=
 match after l (argA r 0)with
 | none=>none
 | some a=>if opA (a.dropWhile isLab) 0=24∧argA (a.dropWhile isLab) 0≠argA r 0 then some [⟨opA r 0,argA (a.dropWhile isLab) 0⟩]else none
def betterR(l r:List GIns):Option (Nat×Nat×List GIns):=
 match reckM r with
 | some (n,x)=>some (0,n,x)
 | none=>match knownM r with
   | some (n,x)=>some (0,n,x)
   | none=>
     if endsOp (opA r 0)∧0 < deadN r.tail then some (1,deadN r.tail,[])
     else if opA r 0=24∨opA r 0=25 then
      (if opA r 0=24∧(r.tail.takeWhile isLab).any (fun i=>decide (i.Arg=argA r 0))=true then some (0,1,[])
       else(farM l r).map fun x=>(0,1,x))
     else if opA r 0=38∧askedL l (argA r 0)=false then some (0,1,[])
     else none
def swapM(l:List GIns) (k n:Nat) (x:List GIns):List GIns:=l.take k++(x++l.drop (k+n))
def betterM(l:List GIns) (k:Nat):Option (List GIns):=(betterR l (l.drop k)).map fun y=>swapM l (k+y.1) y.2.1 y.2.2
def onceM(l:List GIns):Nat→Nat→Option (List GIns)
 | 0,_=>none
 | n+1,k=>match betterM l k with
   | some x=>some x
   | none=>onceM l n (k+1)
def allM:Nat→List GIns→List GIns
 | 0,l=>l
 | n+1,l=>match onceM l l.length 0 with
   | some x=>allM n x
   | none=>l
def peepM(l:List GIns):List GIns:=allM (16 *l.length) l
structure Mach.Std(m:Mach):Prop where
 push:∀a S L σ,m.J ⟨1,a⟩ S L σ=some (.ok (wrapM a::S) L σ)
 pop:∀x v S L σ,m.J ⟨2,x⟩ (v::S) L σ=some (.ok S L σ)
 bin:∀o a b S L σ,o≠9→(binR GWorld.zero o a b).2=0→m.J ⟨8,o⟩ (wrapM b::wrapM a::S) L σ=some (.ok (wrapM (binR GWorld.zero o a b).1::S) L σ)
 neg:∀x a S L σ,m.J ⟨9,x⟩ (wrapM a::S) L σ=some (.ok (wrapM (negM a)::S) L σ)
 no:∀x v S L σ,m.J ⟨10,x⟩ (v::S) L σ=some (.ok (notM v::S) L σ)
 no0:∀x L σ,m.J ⟨10,x⟩ [] L σ=none
 test:∀x a S L σ,m.J ⟨11,x⟩ (wrapM a::S) L σ=some (.ok (tru (decide (wrapM a≠0))::S) L σ)
theorem wrap_wrap a:wrapM (wrapM a)=wrapM a:=by simp [wrapM_eq]
def labsL(l:List GIns):List Int:=(l.filter isLab).map GIns.Arg
theorem labsL_app a b:labsL (a++b)=labsL a++labsL b:=by simp [labsL]
theorem mem_labsL {l} {n}:n∈labsL l↔∃i∈l,i.Op=38∧i.Arg=n:=by
 simp [labsL,isLab]
 grind
structure Mach.Ok(m:Mach):Prop extends m.Std where
 stops:∀x S L σ S' L' σ',x=28∨x=29∨x=30→∀a,m.J ⟨x,a⟩ S L σ≠some (.ok S' L' σ')
theorem takeWhile_all {α:Type} f:∀(l:List α),∀x∈l.takeWhile f,f x=true
 | [],x,h=>by cases h
 | y::l,x,h=>by
   rw [List.takeWhile_cons]at h
   split at h
   ·rename_i hy
    rcases List.mem_cons.1 h with rfl | h
    ·exact hy
    ·exact takeWhile_all f l x h
   grind
theorem take_while_len {α:Type} f (l:List α):l=l.takeWhile f++l.drop (l.takeWhile f).length:=by
 grind [List.takeWhile_append_dropWhile]
end Go.Ab
namespace Go.Ab
def wayR(l r:List GIns):Nat→Option (Nat×Nat×List GIns)
 | 0=>if opA r 0=1∧opA r 1=1∧opA r 2=8∧argA r 2≠9∧(binR GWorld.zero (argA r 2) (argA r 0) (argA r 1)).2=0 then some (0,3,pushI (binR GWorld.zero (argA r 2) (argA r 0) (argA r 1)).1)else none
 | 1=>if opA r 0≠1 then none else if opA r 1=9 then some (0,2,pushI (negM (argA r 0)))else if opA r 1=10 then some (0,2,pushI (notM (argA r 0)))else if opA r 1=11 then some (0,2,pushI (1-notM (argA r 0)))else none
 | 2=>if opA r 0=10∧opA r 1=10∧opA r 2=25 then some (0,2,[])else none
 | 3=>if opA r 0=1∧opA r 1=25∧wrapM (argA r 0)=0 then some (0,2,[⟨24,argA r 1⟩])else none
 | 4=>if opA r 0=1∧opA r 1=25∧wrapM (argA r 0)≠0 then some (0,2,[])else none
 | 5=>if opA r 0=1∧opA r 1=2 then some (0,2,[])else none
 | 6=>if endsOp (opA r 0)∧0 < deadN r.tail then some (1,deadN r.tail,[])else none
 | 7=>if opA r 0=24∧(r.tail.takeWhile isLab).any (fun i=>decide (i.Arg=argA r 0))=true then some (0,1,[])else none
 | 8=>if opA r 0=24∨opA r 0=25 then(farM l r).map fun x=>(0,1,x)else none
 | 9=>if opA r 0=38∧askedL l (argA r 0)=false then some (0,1,[])else none
 | _=>none
def orA {α:Type}:Option α→Option α→Option α
 | some x,_=>some x
 | none,y=>y
def firstR(l r:List GIns):Nat→Nat→Option (Nat×Nat×List GIns)
 | 0,_=>none
 | n+1,k=>orA (wayR l r k) (firstR l r n (k+1))
theorem firstR_eq(l r:List GIns):firstR l r 10 0=betterR l r:=by
 simp only [firstR]
 unfold betterR reckM knownM
 by_cases c0:opA r 0=1∧opA r 1=1∧opA r 2=8∧argA r 2≠9∧(binR GWorld.zero (argA r 2) (argA r 0) (argA r 1)).2=0
 ·simp only [wayR,if_pos c0,orA]
 ·by_cases h1:opA r 0=1
  ·have e24:¬(1:Int)=24:=by omega
   simp only [wayR,if_neg c0,h1,orA,endsOp]
   by_cases k9:opA r 1=9
   ·simp [k9,orA]
   by_cases k10:opA r 1=10
   ·simp [k10,orA]
   by_cases k11:opA r 1=11
   ·simp [k11,orA]
   by_cases k25:opA r 1=25
   ·by_cases kw:wrapM (argA r 0)=0 <;> simp [k25,kw,orA]
   by_cases k2:opA r 1=2
   ·simp [k2,orA]
   have c1:¬(opA r 1=1∧opA r 2=8∧¬argA r 2=9∧(binR GWorld.zero (argA r 2) (argA r 0) (argA r 1)).2=0):=fun h=>c0 ⟨h1,h⟩
   simp [k9,k10,k11,k25,k2,orA,c1]
  ·simp only [wayR,if_neg c0,h1,orA,ne_eq,not_false_eq_true,if_true,false_and,if_false]
   by_cases h10:opA r 0=10∧opA r 1=10∧opA r 2=25
   ·simp [h10,orA]
   rw [if_neg h10,if_neg h10]
   simp only [orA]
   by_cases h6:endsOp (opA r 0)∧0 < deadN r.tail
   ·simp [h6,orA]
   rw [if_neg h6,if_neg h6]
   simp only [orA]
   by_cases hj:opA r 0=24∨opA r 0=25
   ·rw [if_pos hj,if_pos hj]
    by_cases h7:opA r 0=24∧(r.tail.takeWhile isLab).any (fun i=>decide (i.Arg=argA r 0))=true
    ·rw [if_pos h7,if_pos h7]
    ·rw [if_neg h7,if_neg h7]
     have h38:¬(opA r 0=38∧askedL l (argA r 0)=false):=by omega
     rw [if_neg h38]
     cases (farM l r).map (fun x=>((0:Nat),(1:Nat),x)) <;> rfl
   ·rw [if_neg hj,if_neg hj,if_neg (by omega)]
    generalize (if opA r 0=38∧askedL l (argA r 0)=false then some ((0:Nat),(1:Nat),([]:List GIns))else none)=z
    cases z <;> rfl
theorem firstR_skip(l r:List GIns):∀(k n m:Nat),n+k=m→(∀j,j < k→wayR l r j=none)→firstR l r m 0=firstR l r n k
 | 0,n,m,h,_=>by rw [show m=n by omega]
 | k+1,n,m,h,hj=>by
   rw [firstR_skip l r k (n+1) m (by omega) (fun j h=>hj j (by omega)),firstR,hj k (by omega)];rfl
end Go.Ab
namespace Go.Ab
open Go.Proofs Go.Proofs.Tryz
theorem bin1_ok(b:Bool):Pure prog 207 [oD b] (.tup [iD (tru b),iD 0]):=by
 unfold tru
 cases b
 ·refine rn func207 ?_;simp [-cB,f207]
 ·refine rn func207 ?_;simp [-cB,f207]
set_option maxHeartbeats 4000000 in
set_option maxRecDepth 6000 in
theorem binO_ok(w:GWorld) (op a b:Int) (ho:op=1∨op=2∨op=3∨op=4∨op=5∨op=6∨op=7∨op=8∨op=10∨op=11∨op=12∨op=13∨op=14):Pure prog 181 [.agg (w.enc.map .d),iD op,iD a,iD b] (pr2 (binR w op a b)):=by
 have hd:=div_ok (wrapM a) (wrapM b)
 have hm:=mod_ok (wrapM a) (wrapM b)
 unfold pr2 at hd hm ⊢
 rcases ho with rfl | rfl | rfl | rfl | rfl | rfl | rfl | rfl | rfl | rfl | rfl | rfl | rfl
 all_goals
  refine Pure.runA func181 rfl (by simp [f181]) ?_
  refine AWP.named (fun Q0 hQ0=>?_)
  simp only [f181]
  refine AWP.seqK ?_
  simp [-cB]
  intro bs
  refine AWP.seqK ?_
  simp [-cB]
  refine pC (wrap_ok _) ?_
  simp [-cB]
  refine pC (wrap_ok _) ?_
  simp [-cB]
  refine AWP.seqK ?_
  simp [-cB]
  refine AWP.seq ?_
  refine AWP.seqK ?_
  simp [-cB]
  refine AWP.block ?_
  iterate 14 (refine AWP.seq (AWP.block ?_))
  refine AWP.named (fun Q1 hQ1=>?_)
  refine AWP.ofK ?_
  simp [-cB]
  rw [hQ1]
  repeat (first | refine inB_ne ?_ (by decide) | refine thn_ne ?_)
  refine inB_eq (thn_nrm ?_)
  try (refine AWP.named (fun Q3 hQ3=>?_);refine AWP.ofK ?_;simp [-cB];rw [hQ3];refine inB_nrm (thn_nrm ?_))
  refine AWP.named (fun Q2 hQ2=>?_)
  refine AWP.ofK ?_
  simp [-cB]
  first
   | refine pC (bin1_ok _) ?_
   | refine pC (add_ok _ _) ?_
   | refine pC (sub_ok _ _) ?_
   | refine pC (mul_ok _ _) ?_
   | refine pC hd ?_
   | refine pC hm ?_
  simp [-cB]
  rw [hQ2]
  repeat (first | refine inB_ret ?_ | refine thn_ret ?_)
  rw [hQ0]
  simp [binR]
  all_goals rfl
set_option maxRecDepth 6000 in
theorem binO9_ok(w:GWorld) (hC:w.Child.length=w.Parent.length) (hN:w.Next.length=w.Parent.length) (a b:Int):Pure prog 181 [.agg (w.enc.map .d),iD 9,iD a,iD b] (pr2 (binR w 9 a b)):=by
 have hT:=tree_ok w hC hN 1 (wrapM a)
 have hB:binR w 9 a b=if(treeR w 1 (wrapM a)).2=0 then(tru (decide ((treeR w 1 (wrapM a)).1=wrapM b)),0)else(0,(treeR w 1 (wrapM a)).2):=by
  simp only [binR,treeR,wrapM_wrapM]
  cases isT w.Parent.length (wrapM a) <;> simp
 rw [hB]
 unfold pr2 at hT ⊢
 generalize treeR w 1 (wrapM a)=p at *
 refine Pure.runA func181 rfl (by simp [f181]) ?_
 refine AWP.named (fun Q0 hQ0=>?_)
 simp only [f181]
 refine AWP.seqK ?_
 simp [-cB]
 intro bs
 refine AWP.seqK ?_
 simp [-cB]
 refine pC (wrap_ok _) ?_
 simp [-cB]
 refine pC (wrap_ok _) ?_
 simp [-cB]
 refine AWP.seqK ?_
 simp [-cB]
 refine AWP.seq ?_
 refine AWP.seqK ?_
 simp [-cB]
 refine AWP.block ?_
 iterate 14 (refine AWP.seq (AWP.block ?_))
 refine AWP.named (fun Q1 hQ1=>?_)
 refine AWP.ofK ?_
 simp [-cB]
 rw [hQ1]
 repeat (first | refine inB_ne ?_ (by decide) | refine thn_ne ?_)
 refine inB_eq (thn_nrm ?_)
 refine AWP.named (fun Q2 hQ2=>?_)
 refine AWP.ofK ?_
 simp [-cB]
 by_cases he:p.2=0
 ·rw [he]at hT
  refine pC hT ?_
  simp [-cB]
  refine pC (bin1_ok _) ?_
  simp [-cB]
  rw [hQ2]
  repeat (first | refine inB_ret ?_ | refine thn_ret ?_)
  rw [hQ0]
  simp [he]
 ·refine pC hT ?_
  simp [-cB,he]
  rw [hQ2]
  repeat (first | refine inB_ret ?_ | refine thn_ret ?_)
  rw [hQ0]
  simp [he]
set_option maxRecDepth 6000 in
theorem binOx_ok(w:GWorld) (op a b:Int) (ho:op < 1∨14 < op):Pure prog 181 [.agg (w.enc.map .d),iD op,iD a,iD b] (pr2 (binR w op a b)):=by
 have n1:op≠1:=by omega
 have n2:op≠2:=by omega
 have n3:op≠3:=by omega
 have n4:op≠4:=by omega
 have n5:op≠5:=by omega
 have n6:op≠6:=by omega
 have n7:op≠7:=by omega
 have n8:op≠8:=by omega
 have n9:op≠9:=by omega
 have n10:op≠10:=by omega
 have n11:op≠11:=by omega
 have n12:op≠12:=by omega
 have n13:op≠13:=by omega
 have n14:op≠14:=by omega
 have hB:binR w op a b=(0,16):=by simp [binR,n1,n2,n3,n4,n5,n6,n7,n8,n9,n10,n11,n12,n13,n14]
 rw [hB]
 unfold pr2
 refine Pure.runA func181 rfl (by simp [f181]) ?_
 refine AWP.named (fun Q0 hQ0=>?_)
 simp only [f181]
 refine AWP.seqK ?_
 simp [-cB]
 intro bs
 refine AWP.seqK ?_
 simp [-cB]
 refine pC (wrap_ok _) ?_
 simp [-cB]
 refine pC (wrap_ok _) ?_
 simp [-cB]
 refine AWP.seqK ?_
 simp [-cB]
 refine AWP.seq ?_
 refine AWP.seqK ?_
 simp [-cB]
 refine AWP.block ?_
 iterate 14 (refine AWP.seq (AWP.block ?_))
 refine AWP.named (fun Q1 hQ1=>?_)
 refine AWP.ofK ?_
 simp [-cB,n1,n2,n3,n4,n5,n6,n7,n8,n9,n10,n11,n12,n13,n14]
 rw [hQ1]
 repeat (first | refine inB_ne ?_ (by decide) | refine thn_ne ?_)
 refine inB_eq (thn_nrm ?_)
 refine AWP.named (fun Q2 hQ2=>?_)
 refine AWP.ofK ?_
 simp [-cB]
 rw [hQ2]
 rw [hQ0]
 simp
theorem bin_ok(w:GWorld) (op:Int) (h9:op=9→w.Child.length=w.Parent.length∧w.Next.length=w.Parent.length) (a b:Int):Pure prog 181 [.agg (w.enc.map .d),iD op,iD a,iD b] (pr2 (binR w op a b)):=by
 have:(op < 1∨14 < op)∨op=9∨op=1∨op=2∨op=3∨op=4∨op=5∨op=6∨op=7∨op=8∨op=10∨op=11∨op=12∨op=13∨op=14:=by omega
 rcases this with h | rfl | h
 ·exact binOx_ok w op a b h
 ·exact binO9_ok w (h9 rfl).1 (h9 rfl).2 a b
 ·exact binO_ok w op a b h
end Go.Ab
namespace Go.Ab
theorem onceM_some {l l':List GIns}:∀(n k:Nat),onceM l n k=some l'→∃j,k≤j∧j < k+n∧betterM l j=some l'
 | 0,k,h=>by cases h
 | n+1,k,h=>by
   rw [onceM]at h
   split at h
   ·rename_i x hx
    exact⟨k,Nat.le_refl _,by omega,by rw [hx];exact h⟩
   ·obtain⟨j,h1,h2,h3⟩:=onceM_some n (k+1) h
    exact⟨j,by omega,by omega,h3⟩
end Go.Ab
namespace Go.Ab
def bytesM(n:Int):Nat:=if n=0 then 0 else if -128≤n∧n≤127 then 1 else 2
def hasA(o:Int):Bool:=[1,3,4,5,6,7,8,12,13,14,15,16,19,21,24,25,26,32,33,38].contains o
def argB(n:Int):Nat→List Int
 | 0=> []
 | 1=> [n % 256]
 | _=> [n / 256 % 256,n % 256]
def encK(o n:Int) (k:Nat):List Int:=(4 *o+k)::argB n k
def argE(i:GIns):Int:=if hasA i.Op then wrapM i.Arg else 0
def encM(i:GIns):List Int:=if i.Op < 1∨38≤i.Op then []else encK i.Op (argE i) (bytesM (argE i))
theorem argB_len(n:Int) (k:Nat) (hk:k≤2):(argB n k).length=k:=by
 match k,hk with
 | 0,_=>rfl
 | 1,_=>rfl
 | 2,_=>rfl
theorem bytesM_le(n:Int):bytesM n≤2:=by unfold bytesM;split;omega;split <;> omega
def jmp(o:Int):Bool:=decide (o=24) || decide (o=25)
abbrev Zl:=List (GIns×Nat)
def lenP(p:GIns×Nat):Nat:=if p.1.Op=38 then 0 else if jmp p.1.Op then 1+p.2 else(encM p.1).length
def lenZ(z:Zl):Nat:=(z.map lenP).sum
def labAt:Zl→Int→Option Nat
 | [],_=>none
 | p::z,n=>if p.1.Op=38∧p.1.Arg=n then some 0 else(labAt z n).map (lenP p+ ·)
def farZ(w:Zl) (n:Int) (at_:Nat):Int:=((labAt w n).getD 0:Nat)-(at_:Int)
def codeP(w:Zl) (k:Nat) (p:GIns×Nat):List Int:=if p.1.Op=38 then []else if jmp p.1.Op then encK p.1.Op (farZ w p.1.Arg (k+lenP p)) p.2 else encM p.1
def codeZ(w:Zl):Nat→Zl→List Int
 | _,[]=> []
 | k,p::z=>codeP w k p++codeZ w (k+lenP p) z
theorem codeP_len(w:Zl) (k:Nat) (p:GIns×Nat) (h:p.2≤2):(codeP w k p).length=lenP p:=by
 unfold codeP lenP
 split
 ·rfl
 ·split
  ·simp only [encK,List.length_cons,argB_len _ _ h];omega
  ·rfl
theorem codeZ_app(w:Zl):∀(k:Nat) (a b:Zl),codeZ w k (a++b)=codeZ w k a++codeZ w (k+lenZ a) b
 | k,[],b=>by simp [codeZ,lenZ]
 | k,p::a,b=>by
   rw [List.cons_append,codeZ,codeZ,codeZ_app w _ a b,List.append_assoc]
   simp only [lenZ,List.map_cons,List.sum_cons,Nat.add_assoc]
theorem codeZ_len(w:Zl):∀(k:Nat) (z:Zl),(∀p∈z,p.2≤2)→(codeZ w k z).length=lenZ z
 | k,[],_=>rfl
 | k,p::z,h=>by
   rw [codeZ,List.length_append,codeP_len w k p (h p (by simp)),codeZ_len w _ z (fun q hq=>h q (by simp [hq]))]
   simp [lenZ]
theorem lenZ_cons(p:GIns×Nat) (b:Zl):lenZ (p::b)=lenP p+lenZ b:=by simp [lenZ]
end Go.Ab
namespace Go.Ab
end Go.Ab
namespace Go.Ab
def int16B(n:Int):Bool:=decide (-32768≤n) && decide (n≤32767)
def wrongI(l a:List GIns) (x:GIns):Int:=
 if jmp x.Op=true∧(labsL l).contains x.Arg=false then 11
 else if x.Op=38∧(labsL a).contains x.Arg=true then 10
 else if x.Op=38∨jmp x.Op=true then 0
 else if x.Op < 1∨38 < x.Op∨(hasA x.Op=false∧x.Arg≠0)∨int16B x.Arg=false then 16
 else 0
def wrongF(l:List GIns):List GIns→List GIns→Int
 | _,[]=>0
 | a,x::r=>if wrongI l a x=0 then wrongF l (a++ [x]) r else wrongI l a x
def wrongM(l:List GIns):Int:=wrongF l [] l
def fitsM(n:Int):Nat:=if int16B n then bytesM n else 3
def growI(z:Zl) (i:Nat):Option Zl:=
 match z[i]? with
 | some p=>if jmp p.1.Op=true∧p.2 < fitsM (farZ z p.1.Arg (lenZ (z.take (i+1))))then some (z.set i (p.1,fitsM (farZ z p.1.Arg (lenZ (z.take (i+1))))))else none
 | none=>none
def passM:Nat→Nat→Zl→Bool→Zl×Bool
 | 0,_,z,b=>(z,b)
 | n+1,i,z,b=>match growI z i with
   | some z'=>passM n (i+1) z' true
   | none=>passM n (i+1) z b
def sizesM:Nat→Zl→Option Zl
 | 0,_=>none
 | g+1,z=>if(passM z.length 0 z false).2=true then sizesM g (passM z.length 0 z false).1 else some (passM z.length 0 z false).1
def zipZ(l:List GIns):Zl:=l.map fun i=>(i,0)
def asmM(l:List GIns):List Int×Int:=
 if wrongM l≠0 then([],wrongM l)
 else match sizesM (3 *l.length+1) (zipZ l)with
  | some z=>if 65536 < lenZ z then([],3)else if z.any (fun p=>jmp p.1.Op && decide (p.2=3))=true then([],3)else(codeZ z 0 z,0)
  | none=>([],3)
theorem growI_fst {z z':Zl} {i:Nat} (h:growI z i=some z'):z'.map Prod.fst=z.map Prod.fst:=by
 unfold growI at h
 split at h
 ·rename_i p hp
  split at h
  ·simp only [Option.some.injEq]at h
   subst h
   rw [List.map_set]
   refine List.ext_getElem? fun k=>?_
   rw [List.getElem?_set]
   split
   ·rename_i hk;subst hk
    have hi:=(List.getElem?_eq_some_iff.1 hp).1
    simp only [List.length_map,hi,if_true,List.getElem?_map,hp,Option.map_some]
   ·rfl
  ·cases h
 ·cases h
def szOk(p:GIns×Nat):Prop:=p.2≤3∧(jmp p.1.Op=false→p.2≤2)
def szZ(z:Zl):Nat:=(z.map Prod.snd).sum
theorem fitsM_le(n:Int):fitsM n≤3:=by unfold fitsM;split;have:=bytesM_le n;omega;omega
theorem set_sum:∀(l:List Nat) (i:Nat) (x:Nat) (h:i < l.length),(l.set i x).sum+l[i]=l.sum+x
 | y::l,0,x,_=>by simp;omega
 | y::l,i+1,x,h=>by
   have:=set_sum l i x (by simpa using h)
   simp only [List.set_cons_succ,List.sum_cons,List.getElem_cons_succ];omega
theorem growI_sz {z z':Zl} {i:Nat} (h:growI z i=some z') (h3:∀p∈z,szOk p):szZ z < szZ z'∧∀p∈z',szOk p:=by
 unfold growI at h
 split at h
 ·rename_i p hp
  obtain⟨hi,he⟩:=List.getElem?_eq_some_iff.1 hp
  split at h
  ·rename_i hc
   simp only [Option.some.injEq]at h
   subst h
   refine⟨?_,?_⟩
   ·unfold szZ
    rw [List.map_set]
    have:=set_sum (z.map Prod.snd) i (fitsM (farZ z p.1.Arg (lenZ (z.take (i+1))))) (by simpa using hi)
    simp only [List.getElem_map,he]at this
    have h7:=hc.2
    simp only at this ⊢
    omega
   ·intro q hq
    rcases List.mem_or_eq_of_mem_set hq with hq | hq
    ·exact h3 q hq
    ·rw [hq];exact⟨fitsM_le _,fun hh=>by rw [hc.1]at hh;cases hh⟩
  ·cases h
 ·cases h
theorem passM_ok:∀(n i:Nat) (z:Zl) (b:Bool),(∀p∈z,szOk p)→(passM n i z b).1.map Prod.fst=z.map Prod.fst∧(∀p∈(passM n i z b).1,szOk p)∧szZ z≤szZ (passM n i z b).1∧
  ((passM n i z b).2=true→b=true∨szZ z < szZ (passM n i z b).1)∧((passM n i z b).2=false→b=false∧(passM n i z b).1=z∧∀j,i≤j→j < i+n→growI z j=none)
 | 0,i,z,b,h3=>by
   refine⟨rfl,h3,Nat.le_refl _,fun h=>Or.inl h,fun h=>⟨h,rfl,fun j h1 h2=>by omega⟩⟩
 | n+1,i,z,b,h3=>by
   rw [passM]
   cases hg:growI z i with
   | none=>
     obtain⟨a1,a2,a3,a4,a5⟩:=passM_ok n (i+1) z b h3
     refine⟨a1,a2,a3,a4,fun h=>?_⟩
     obtain⟨b1,b2,b3⟩:=a5 h
     refine⟨b1,b2,fun j h1 h2=>?_⟩
     by_cases e:j=i
     ·rw [e];exact hg
     ·exact b3 j (by omega) (by omega)
   | some z'=>
     obtain⟨s1,s2⟩:=growI_sz hg h3
     obtain⟨a1,a2,a3,a4,a5⟩:=passM_ok n (i+1) z' true s2
     refine⟨a1.trans (growI_fst hg),a2,by simp only;omega,fun _=>Or.inr (by simp only;omega),fun h=>?_⟩
     have:=(a5 h).1
     cases this
theorem szZ_le:∀(z:Zl),(∀p∈z,szOk p)→szZ z≤3 *z.length
 | [],_=>by simp [szZ]
 | p::z,h=>by
   have h1:=szZ_le z (fun q hq=>h q (by simp [hq]))
   have h2:=(h p (by simp)).1
   simp only [szZ,List.map_cons,List.sum_cons,List.length_cons]at h1 ⊢
   omega
theorem sizesM_ok:∀(g:Nat) (z:Zl),(∀p∈z,szOk p)→3 *z.length < g+szZ z→∃z',sizesM g z=some z'∧z'.map Prod.fst=z.map Prod.fst∧(∀p∈z',szOk p)∧∀j,growI z' j=none
 | 0,z,h3,hg=>by
   have:=szZ_le z h3
   omega
 | g+1,z,h3,hg=>by
   obtain⟨a1,a2,a3,a4,a5⟩:=passM_ok z.length 0 z false h3
   have hl:(passM z.length 0 z false).1.length=z.length:=by
    have:=congrArg List.length a1
    simpa using this
   rw [sizesM]
   by_cases hb:(passM z.length 0 z false).2=true
   ·rw [if_pos hb]
    have h4:=(a4 hb).resolve_left (by simp)
    obtain⟨z',b1,b2,b3,b4⟩:=sizesM_ok g (passM z.length 0 z false).1 a2 (by rw [hl];omega)
    exact⟨z',b1,b2.trans a1,b3,b4⟩
   ·rw [if_neg hb]
    obtain⟨_,b2,b3⟩:=a5 (by simpa using hb)
    refine⟨_,rfl,a1,a2,fun j=>?_⟩
    rw [b2]
    by_cases hj:j < z.length
    ·exact b3 j (by omega) (by omega)
    ·unfold growI
     rw [List.getElem?_eq_none (by omega)]
theorem wrongF_ok {l:List GIns}:∀(a r:List GIns),wrongF l a r=0→∀b x c,r=b++x::c→wrongI l (a++b) x=0
 | a,[],_,b,x,c,h=>by simp at h
 | a,y::r,h,b,x,c,hr=>by
   rw [wrongF]at h
   split at h
   ·rename_i hy
    cases b with
    | nil=>
      simp only [List.nil_append,List.cons.injEq]at hr
      rw [←hr.1,List.append_nil];exact hy
    | cons z b=>
      simp only [List.cons_append,List.cons.injEq]at hr
      have:=wrongF_ok (a++ [y]) r h b x c hr.2
      rw [List.append_assoc]at this
      rw [hr.1]at this
      exact this
   ·rename_i hy;exact(hy h).elim
theorem labAt_some:∀(z:Zl) (n:Int),n∈labsL (z.map Prod.fst)→(labAt z n).isSome
 | [],n,h=>by simp [labsL]at h
 | p::z,n,h=>by
   rw [labAt]
   split
   ·rfl
   ·rename_i hp
    rw [Option.isSome_map]
    refine labAt_some z n ?_
    rw [mem_labsL]at h ⊢
    obtain⟨i,h1,h2,h3⟩:=h
    rcases List.mem_cons.1 h1 with rfl | h1
    ·exact(hp ⟨h2,h3⟩).elim
    ·exact⟨i,h1,h2,h3⟩
end Go.Ab
namespace Go.Ab
section
variable {P : Program} {n : Nat} {Q : AX → St → Prop} {ops : Array Oper} {ov : List Nat}
def stopS(P:Program) (ops:Array Oper) (ov:List Nat) (l:List (Oper×Option (Nat×Nat))) (fr:FrM) (ks:List (Option Nat)) (Ls:List Heap) (us:List V) (ds:List Dfr) (Q:AX→St→Prop):Prop:=
 runP P ops ov l fr ks Ls us ds (fun fr ks Ls=>∀bs,Q .normal (St.opn bs ⟨frAt ks ks.length fr,Ls.getD ks.length []⟩)) (fun y L'=>∀bs,Q (.pan y) (St.opn bs ⟨[],L'⟩))
def runS(P:Program) (ops:Array Oper) (ov:List Nat):List (Oper×Option (Nat×Nat))→FrM→List (Option Nat)→List Heap→List V→List Dfr→(AX→St→Prop)→Prop
 | [],fr,ks,Ls,_,ds,Q=>dAll P ops ks Ls ds∧∀bs,Q .normal (St.opn bs ⟨frAt ks ks.length fr,Ls.getD ks.length []⟩)
 | (o,none)::rest,fr,ks,Ls,us,ds,Q=>
   match(if ov.any (fun t=>o.dst==some t)then none else lv P ops ⟨frAt ks ks.length fr,Ls.getD ks.length []⟩ o)with
   | some (x,k,L',c)=>c∧runS P ops ov rest (putM fr o.dst (ks.length+1) x) (ks++ [k]) (Ls++ [L']) us ds Q
   | none=>stopS P ops ov ((o,none)::rest) fr ks Ls us ds Q
 | (o,some (lo,hi))::rest,fr,ks,Ls,us,ds,Q=>
   if isCall o then
    match us with
    | []=>False
    | u::us'=>match cv P ops ⟨frAt ks ks.length fr,Ls.getD ks.length []⟩ o u with
      | some (x,c)=>c∧allP (ks.length-lo) lo (fun p=>qAt P ops o ⟨frAt ks p fr,Ls.getD p []⟩ x (some u))∧
        runS P ops ov rest (putM fr o.dst lo x) ks Ls us' (if ks.length < hi then⟨o,fr,x,ks.length,hi,some u⟩::ds else ds) Q
      | none=>False
   else
    match qv P ops ⟨frAt ks ks.length fr,Ls.getD ks.length []⟩ o with
    | some (x,c)=>c∧allP (ks.length-lo) lo (fun p=>qAt P ops o ⟨frAt ks p fr,Ls.getD p []⟩ x none)∧
      runS P ops ov rest (putM fr o.dst lo x) ks Ls us (if ks.length < hi then⟨o,fr,x,ks.length,hi,none⟩::ds else ds) Q
    | none=>False
theorem boxes_stay {L1 L1':Heap} (h:L1.all (fun p=>!isBox p.2 || L1'.any (fun q=>q.1==p.1 && (isBox q.2 && boxAt q.2==boxAt p.2)))=true):∀k b ty cs,(k,Res.box (b+1) ty cs)∈L1→∃ty' cs',(k,Res.box (b+1) ty' cs')∈L1':=by
 intro k b ty cs hm
 have:=List.all_eq_true.1 h _ hm
 simp at this
 grind [boxAt,Option.some.injEq]
attribute [simp] runS
end
end Go.Ab
namespace Go.Ab
section
variable {P : Program} {n : Nat} {Q : AX → St → Prop}
def isTold(ov:List Nat) (o:Oper):Bool:=isCall o || ov.any (fun t=>o.dst==some t)
def tv(P:Program) (ops:Array Oper) (s:St) (o:Oper) (u:V):Option (V×Prop):=if isCall o then cv P ops s o u else some (u,YOp P ops o s u)
theorem tv_sound {ops} {s} {o} {u x} {c} (h:tv P ops s o u=some (x,c)) (hc:c):YOp P ops o s x:=by
 unfold tv at h
 split at h
 ·exact cv_sound h hc
 grind
def tAt(P:Program) (ops:Array Oper) (o:Oper) (s:St) (x:V):Option V→Prop
 | some u=>match tv P ops s o u with
   | some (x',c)=>x'=x∧c
   | none=>False
 | none=>match qv P ops s o with
   | some (x',c)=>x'=x∧c
   | none=>False
theorem tAt_sound {ops} {s} {o} {x} {t} (h:tAt P ops o s x t):YOp P ops o s x:=by
 cases t with
 | some u=>
   simp only [tAt]at h
   split at h
   ·rename_i x' c hc;obtain⟨rfl,h⟩:=h;exact tv_sound hc h
   grind
 | none=>
   simp only [tAt]at h
   split at h
   ·rename_i x' c hc;obtain⟨rfl,h⟩:=h;exact qv_sound hc h
   grind
def dAllT(P:Program) (ops:Array Oper) (ks:List (Option Nat)) (Ls:List Heap):List Dfr→Prop
 | []=>True
 | d::ds=>allP (d.hi-d.lo) (d.lo+1) (fun p=>tAt P ops d.o ⟨frAt ks p d.fr,Ls.getD p []⟩ d.x d.told)∧dAllT P ops ks Ls ds
def EffT(P:Program) (ops:Array Oper) (o:Oper) (s:St) (K:V→Option Nat→Heap→Prop):Prop:=∃x k L',(∀n,LOp P n ops o s.fr s.L k x L')∧K x k L'
def runT(P:Program) (ops:Array Oper) (ov:List Nat):List (Oper×Option (Nat×Nat))→FrM→List (Option Nat)→List Heap→List V→List Dfr→(FrM→List (Option Nat)→List Heap→Prop)→Prop
 | [],fr,ks,Ls,_,ds,K=>dAllT P ops ks Ls ds∧K fr ks Ls
 | (o,none)::rest,fr,ks,Ls,us,ds,K=>
   match lv P ops ⟨frAt ks ks.length fr,Ls.getD ks.length []⟩ o with
   | some (x,k,L',c)=>c∧runT P ops ov rest (putM fr o.dst (ks.length+1) x) (ks++ [k]) (Ls++ [L']) us ds K
   | none=>EffT P ops o ⟨frAt ks ks.length fr,Ls.getD ks.length []⟩ fun x k L'=>runT P ops ov rest (putM fr o.dst (ks.length+1) x) (ks++ [k]) (Ls++ [L']) us ds K
 | (o,some (lo,hi))::rest,fr,ks,Ls,us,ds,K=>
   if isTold ov o then
    match us with
    | []=>False
    | u::us'=>match tv P ops ⟨frAt ks ks.length fr,Ls.getD ks.length []⟩ o u with
      | some (x,c)=>c∧allP (ks.length-lo) lo (fun p=>tAt P ops o ⟨frAt ks p fr,Ls.getD p []⟩ x (some u))∧
        runT P ops ov rest (putM fr o.dst lo x) ks Ls us' (if ks.length < hi then⟨o,fr,x,ks.length,hi,some u⟩::ds else ds) K
      | none=>False
   else
    match qv P ops ⟨frAt ks ks.length fr,Ls.getD ks.length []⟩ o with
    | some (x,c)=>c∧allP (ks.length-lo) lo (fun p=>tAt P ops o ⟨frAt ks p fr,Ls.getD p []⟩ x none)∧
      runT P ops ov rest (putM fr o.dst lo x) ks Ls us (if ks.length < hi then⟨o,fr,x,ks.length,hi,none⟩::ds else ds) K
    | none=>False
theorem runT_tr {ops} {ov} {K}:∀l fr ks Ls us ds,Ls.length=ks.length+1→runT P ops ov l fr ks Ls us ds K→
  ∃tr frE ks1 Ls1,TrM l fr ks.length tr frE (ks++ks1).length∧(∀(i:Nat) r z,tr[i]?=some r→l[i]?=some z→SemM P n ops (ks++ks1) (fun p=>(Ls++Ls1).getD p []) r z.1)∧
   dAllT P ops (ks++ks1) (Ls++Ls1) ds∧K frE (ks++ks1) (Ls++Ls1)
 | [],fr,ks,Ls,us,ds,hl,h=>by
   refine⟨[],fr,[],[],?_,by simp,?_,?_⟩
   ·simp only [List.append_nil];exact .nil fr ks.length
   ·simpa using h.1
   ·simpa using h.2
 | (o,none)::rest,fr,ks,Ls,us,ds,hl,h=>by
   have key:∀(x:V) (k:Option Nat) (L':Heap),LOp P n ops o (frAt ks ks.length fr) (Ls.getD ks.length []) k x L'→runT P ops ov rest (putM fr o.dst (ks.length+1) x) (ks++ [k]) (Ls++ [L']) us ds K→
     ∃tr frE ks1 Ls1,TrM ((o,none)::rest) fr ks.length tr frE (ks++ks1).length∧(∀(i:Nat) (r:Rec) (z:Oper×Option (Nat×Nat)),tr[i]?=some r→((o,none)::rest)[i]?=some z→SemM P n ops (ks++ks1) (fun p=>(Ls++Ls1).getD p []) r z.1)∧
      dAllT P ops (ks++ks1) (Ls++Ls1) ds∧K frE (ks++ks1) (Ls++Ls1):=by
    intro x k L' hlop hr
    obtain⟨tr,frE,ks1,Ls1,h1,h2,h3,h4⟩:=runT_tr rest _ _ _ us ds (by grind) hr
    rw [List.append_assoc]at h1 h3 h4
    simp only [List.append_assoc,List.length_append,List.length_cons,List.length_nil]at h1 h2 h3 h4
    refine⟨⟨fr,x,0,0,true,ks.length⟩::tr,frE,_,_,.loud (by grind),?_,h3,h4⟩
    intro i r z hi hz
    cases i with
    | zero=>
      simp only [List.getElem?_cons_zero,Option.some.injEq]at hi hz
      subst hi;subst hz
      refine⟨fun _=>⟨by simp,?_⟩,(fun h=>by cases h)⟩
      simp only
      rw [frAt_pre (Nat.le_refl _),getD_pre (by omega)]
      grind
    | succ i=>grind
   rw [runT]at h
   split at h
   ·rename_i x k L' c hst
    exact key x k L' (LOp.of (n:=n) hst h.1) h.2
   ·obtain⟨x,k,L',hlop,hr⟩:=h
    grind
 | (o,some (lo,hi))::rest,fr,ks,Ls,us,ds,hl,h=>by
   have key:∀(x:V) (t:Option V) (us':List V),YOp P ops o ⟨frAt ks ks.length fr,Ls.getD ks.length []⟩ x→allP (ks.length-lo) lo (fun p=>tAt P ops o ⟨frAt ks p fr,Ls.getD p []⟩ x t)→
     runT P ops ov rest (putM fr o.dst lo x) ks Ls us' (if ks.length < hi then⟨o,fr,x,ks.length,hi,t⟩::ds else ds) K→
     ∃tr frE ks1 Ls1,TrM ((o,some (lo,hi))::rest) fr ks.length tr frE (ks++ks1).length∧(∀(i:Nat) (r:Rec) (z:Oper×Option (Nat×Nat)),tr[i]?=some r→((o,some (lo,hi))::rest)[i]?=some z→SemM P n ops (ks++ks1) (fun p=>(Ls++Ls1).getD p []) r z.1)∧
      dAllT P ops (ks++ks1) (Ls++Ls1) ds∧K frE (ks++ks1) (Ls++Ls1):=by
    intro x t us' hc ha hr
    obtain⟨tr,frE,ks1,Ls1,h1,h2,h3,h4⟩:=runT_tr rest _ _ _ us' _ hl hr
    have hds:dAllT P ops (ks++ks1) (Ls++Ls1) ds:=by
     split at h3
     ·exact h3.2
     omega
    refine⟨⟨fr,x,lo,hi,false,ks.length⟩::tr,frE,ks1,Ls1,.quiet h1,?_,hds,h4⟩
    intro i r z hi' hz
    cases i with
    | zero=>
      simp only [List.getElem?_cons_zero,Option.some.injEq]at hi' hz
      subst hi';subst hz
      refine⟨(fun h=>by cases h),fun _ p hp1 hp2=>?_⟩
      simp only at hp1 hp2 ⊢
      rcases Nat.lt_trichotomy p ks.length with hlt | heq | hgt
      ·grind [frAt_pre,getD_pre,tAt_sound,allP_at]
      ·grind [frAt_pre,getD_pre]
      ·rw [if_pos (by omega)]at h3
       exact tAt_sound (allP_at h3.1 p (by grind) (by grind))
    | succ i=>grind
   cases hcall:isTold ov o with
   | true=>
     cases us with
     | nil=>simp_all [runT,if_pos]
     | cons u us'=>
       rw [runT,if_pos hcall]at h
       split at h
       ·rename_i x c hcv
        exact key x (some u) us' (tv_sound hcv h.1) h.2.1 h.2.2
       grind
   | false=>
     rw [runT.eq_def]at h
     simp only [hcall,Bool.false_eq_true,if_false]at h
     split at h
     ·rename_i x c hqv
      exact key x none us (qv_sound hqv h.1) h.2.1 h.2.2
     grind
theorem AWP.regionT0 {id} {l} {s} rg ov us (hm:P.follows .mixedOrders=true) (ok:okM n l rg=true)
  (h:runT P l.toArray ov (l.zip rg) (s.fr.map fun e=>(e.1,0,e.2)) [] [s.L] us [] (fun fr ks Ls=>Q .normal ⟨frAt ks ks.length fr,Ls.getD ks.length []⟩)):AWP P n (.region id l.toArray true) s Q:=by
 intro fo m a w _ g
 obtain⟨tr,frE,ks,Ls,h1,h2,-,h4⟩:=runT_tr (l.zip rg) _ [] [s.L] us [] rfl h
 exact wpIn_region_any hm (any_startM ok h1 h2 rfl h4 g _)
theorem AWP.regionT {id} {l} {s} rg ov us (hm:P.follows .mixedOrders=true) (ok:okM n l rg=true)
  (h:runT P l.toArray ov (l.zip rg) (s.fr.map fun e=>(e.1,0,e.2)) [] [s.L] us [] (fun fr ks Ls=>∀bs,Q .normal (St.opn bs ⟨frAt ks ks.length fr,Ls.getD ks.length []⟩))):AWP P n (.region id l.toArray true) s Q:=
 AWP.opened (AWP.regionT0 rg ov us hm ok h)
attribute [simp] runT tv tAt dAllT isTold
end
end Go.Ab
namespace Go.Ab
section
variable {P : Program} {n : Nat}
theorem le_foldr_max:∀(l:List Nat) x,x∈l→x≤l.foldr max 0
 | [],_,h=>by cases h
 | y::l,x,h=>by
   rcases List.mem_cons.1 h with rfl | h
   ·grind
   ·have:=le_foldr_max l x h;grind
theorem yop_fresh {ops} {o} {s} {ys} {ty} {k} (hg:o.guard=none)
  (h:∀fo m (ρ:Operand→Value) w,Inv fo m s.L w→(∀z,z∈o.op.operands→RelV w (OO fo m) m (ρ z) (s.ev z))→
   ∃v w',(execOp ρ o).run P w= .ok (.value v) w'∧Grows w w'∧(RelD w' (OO fo m) v (.sl ys)∨
    ((∀b,blk v b→w.heap.size≤b)∧∀h,h∉keys s.L→(Res.row ty k (dd ys)).Holds w' (OO fo (mset m h v)) (mset m h v) v))):YOp P ops o s (.d (.sl ys)):=by
 intro fo m a w hi hs next Q' kk
 rw [if_pos (by simp [Region.wanted,hg])]
 obtain⟨v,w',hrun,gr,hor⟩:=h fo m a.eval w hi (fun z hz=>eval_of_slots hi.glob (fun t ht=>hs t (looks_operand (by grind))))
 refine owp_val hrun (.inl rfl) (kk v w' ?_ (hi.grown gr.size gr.block) ⟨gr.os,gr.tape,gr.output,gr.size,fun b hb _=>gr.block b hb,fun b _ h=>h⟩)
 rcases hor with hd | ⟨hb,hh⟩
 ·exact .d _ _ hd
 ·have hn:(keys s.L).foldr max 0+1∉keys s.L:=fun hm=>by have:=le_foldr_max _ _ hm;omega
  have hi':=hi.new hn gr.size gr.block hb (hh _ hn)
  refine .d _ _ (row_data' (ty:=ty) (k:=k) hi' (by simp) (mset_same _ _) (fun b ho=>?_) (fun b hv ho=>?_))
  ·rcases ho with⟨i,x,hx,hbx⟩ | hf
   ·exact .inl ⟨i,x,mset_sub hi hn v i x hx,hbx⟩
   ·exact .inr hf
  ·have h1:=hb b hv
   rcases ho with⟨i,x,hx,hbx⟩ | hf
   ·have:=hi.lt hx hbx;omega
   ·have:=hi.folt b hf;omega
theorem yop_build {ops} {dst} {t} {len} {ps} {ty} {pos} {after} {k by_} {e} {z} {r} {c} {s} {ys}
  (ht:tySl P t=some (e,k,by_,z)) (hk:0 < k) (hlen:len *k≤2 ^ 24)
  (hf:fillV (fun i=>some (i *k,k)) (List.replicate len (z.map fun x=>V.d (.v x))).flatten (ps.toList.map fun p=>(p.1,s.ev p.2))=some (r,c)) (hc:c)
  (hxs:r=(dd ys).flatten) (hxl:ys.length=len) (hxk:∀x∈ys,x.length=k):YOp P ops ⟨dst,.buildSlice t len ps,ty,pos,after,none⟩ s (.d (.sl ys)):=by
 refine yop_fresh (ty:=e) (k:=k) rfl ?_
 intro fo m ρ w hi hr
 obtain⟨v,w',h1,h2,h3,-,h5⟩:=buildSlice_raw (dst:=dst) (ty:=ty) (pos:=pos) (after:=after) (guard:=none) ht hk hlen hf hc hxs (by simp_all) (by simp_all) hi hr
 grind
end
end Go.Ab
namespace Go.Ab
def D.deep:Nat→D→D
 | 0,x=>x.nn
 | k+1,.sl ys=> .sl (ys.map (·.map (D.deep k)))
 | _+1,x=>x.nn
theorem RelD.deep {w:World} {O:Nat→Prop}:∀(k:Nat) {x:Value} {y:D},RelD w O x y→RelD w O x (y.deep k)
 | 0,x,y,h=>h.nn
 | k+1,x,.v z,h=>by rw [D.deep];exact h.nn;simp
 | k+1,x,.ifc t a cs,h=>by rw [D.deep];exact h.nn;simp
 | k+1,x,.sl ys,h=>by
   rw [D.deep]
   cases h with
   | sl a n cap xs k' b off f hn hcap hmax ha hk hc hr=>
     refine .sl a n cap _ k' b off f (by simpa using hn) hcap hmax ha ?_ hc ?_
     ·intro i x hx
      rw [List.getElem?_map]at hx
      obtain⟨z,hz,rfl⟩:=Option.map_eq_some_iff.1 hx
      rw [List.length_map];exact hk i z hz
     ·intro i j x y hx hy
      rw [List.getElem?_map]at hx
      obtain⟨z,hz,rfl⟩:=Option.map_eq_some_iff.1 hx
      rw [List.getElem?_map]at hy
      obtain⟨u,hu,rfl⟩:=Option.map_eq_some_iff.1 hy
      exact(hr i j z u hz hu).deep k
def V.deep1(k:Nat):V→V
 | .d y=> .d (y.deep k)
 | v=>v
def V.deep(k:Nat):V→V
 | .d y=> .d (y.deep k)
 | .agg cs=> .agg (cs.map (V.deep1 k))
 | v=>v
theorem RelV.deep1 {w:World} {O:Nat→Prop} {m:Nat→Option Value} (k:Nat) {x:Value} {y:V} (h:RelV w O m x y):RelV w O m x (y.deep1 k):=by
 unfold V.deep1
 split
 ·exact .d _ _ (h.d_inv.deep k)
 ·exact h
theorem RelV.deep {w:World} {O:Nat→Prop} {m:Nat→Option Value} (k:Nat) {x:Value} {y:V} (h:RelV w O m x y):RelV w O m x (y.deep k):=by
 unfold V.deep
 split
 ·exact .d _ _ (h.d_inv.deep k)
 ·cases h with
  | agg vs cs hs h1 h=>
    refine .agg vs _ (by simpa using hs) h1 ?_
    intro j x y hx hy
    rw [List.getElem?_map]at hy
    obtain⟨z,hz,rfl⟩:=Option.map_eq_some_iff.1 hy
    exact(h j x z hx hz).deep1 k
 ·exact h
theorem ACalls.deep(k:Nat) {P:Program} {f:FuncId} {args args':List V} {L:Heap} {R:AE→Heap→Prop} (h:ACalls P f args' L R) (ha:args.map (V.deep k)=args'):ACalls P f args L R:=by
 intro fo m w xs hi hx
 refine h fo m w xs hi ⟨by rw [hx.1,←ha,List.length_map],?_⟩
 intro j x y h1 h2
 rw [←ha,List.getElem?_map]at h2
 obtain⟨z,hz,rfl⟩:=Option.map_eq_some_iff.1 h2
 exact(hx.2 j x z h1 hz).deep k
theorem Pure.deep(k:Nat) {P:Program} {f:FuncId} {args args':List V} {x:V} (h:Pure P f args' x) (ha:args.map (V.deep k)=args') (ho:V.ons [] args=true):Pure P f args x:=
 ⟨h.en,ho,h.rn,h.calls.deep k ha⟩
def Res.deep(k:Nat):Res→Res
 | .box b t cs=> .box b t (cs.map (V.deep1 k))
 | r=>r
def St.deep(k:Nat) (s:St):St:=⟨s.fr.map fun p=>(p.1,p.2.deep k),s.L.map fun p=>(p.1,p.2.deep k)⟩
theorem Wk.deep(k:Nat) {n:Nat} {s s':St} (h:s.deep k=s'):Wk n s s':=by
 subst h
 intro fo m a w g
 have hi:=g.inv
 have hk:keys (St.deep k s).L=keys s.L:=by simp [keys,St.deep,Function.comp_def]
 refine⟨m,⟨g.size,?_,⟨by rw [hk];exact hi.nodup,fun h x hx=>by rw [hk];exact hi.dom h x hx,hi.apart,hi.others,hi.folt,?_,hi.glob⟩,g.defers⟩,Step.refl w _⟩
 ·intro t x hx
  obtain⟨p,hp,he⟩:=List.mem_map.1 hx
  simp only [Prod.mk.injEq]at he
  obtain⟨rfl,rfl⟩:=he
  obtain⟨h1,h2⟩:=g.fr p.1 p.2 hp
  exact⟨h1,h2.deep k⟩
 ·intro h r hr
  obtain⟨p,hp,he⟩:=List.mem_map.1 hr
  simp only [Prod.mk.injEq]at he
  obtain⟨rfl,rfl⟩:=he
  obtain⟨x,hx,hh⟩:=hi.holds p.1 p.2 hp
  refine⟨x,hx,?_⟩
  generalize p.2=q at hh
  cases q with
  | row ty k xs=>exact hh
  | env A=>exact hh
  | mp es=>exact hh
  | box b ty cs=>
    obtain⟨bb,h0,cur,e,hb,hs,h1,h2⟩:=hh
    refine⟨bb,h0,cur,e,hb,by simpa using hs,?_,?_⟩
    ·exact h1
    ·intro j v z hv hz
     rw [List.getElem?_map]at hz
     obtain⟨y,hy,rfl⟩:=Option.map_eq_some_iff.1 hz
     exact(h2 j v y hv hy).deep1 k
end Go.Ab
namespace Go.Ab
open Go.Proofs Go.Proofs.Tryz
abbrev insD(l:List GIns):V:= .d (.sl (l.map GIns.enc))
def opI(l:List GIns) (k:Int):Int:=if k < 0∨(l.length:Int)≤k then 0 else(l[k.toNat]?.getD GIns.zero).Op
theorem at29_ok(l:List GIns) (hl:l.length≤1000000000000) (k:Int):Pure prog 198 [insD l,iD k] (iD (opI l k)):=by
 unfold opI
 refine rn func198 ?_;simp [-cB,f198]
 repeat' (first
  | (with_reducible refine And.intro ?_ ?_)
  | (refine condC_split (fun h=>?_) (fun h=>?_) <;> (try simp at h) <;> (try simp [-cB, *]))
  | (with_reducible intro _))
 all_goals (try omega)
theorem swap29_ok(l:List GIns) (hl:l.length≤1000000000000) (k n:Nat) (hk:k+n≤l.length) (x:List GIns) (hx:x.length≤1000000000000):Pure prog 200 [insD l,iD k,iD n,insD x] (insD (swapM l k n x)):=by
 unfold swapM
 refine rn func200 ?_;simp [-cB,f200]
 have e:((k:Int)+n).toNat=k+n:=by omega
 rw [e,inR_i64]
 refine⟨by omega,⟨fun y hy=>?_,by omega⟩,by omega,by omega,by omega,⟨fun y hy=>?_,by omega⟩,?_⟩
 ·obtain⟨z,_,rfl⟩:=List.mem_map.1 (List.mem_of_mem_take hy);rfl
 ·obtain⟨z,_,rfl⟩:=List.mem_map.1 (List.mem_of_mem_take (List.mem_of_mem_drop hy));rfl
 ·rw [List.take_of_length_le (by simp)]
theorem push29_ok(n:Int):Pure prog 217 [iD n] (insD (pushI n)):=by
 unfold pushI
 refine rn func217 ?_;simp [-cB,f217]
 repeat' (first
  | (with_reducible refine And.intro ?_ ?_)
  | ((first | (refine condC_split (fun h=>?_) (fun h=>?_) <;> (try simp at h)) | refine pC (refWrap_ok _) ?_ | refine lC (refWrap_ok _) ?_ | refine pG (refWrap_ok _) ?_) <;> (try simp [-cB, *]))
  | (with_reducible intro _))
 rfl
theorem opI_nat(l:List GIns) (k j:Nat):opI l ((k:Int)+j)=opA (l.drop k) j:=by
 unfold opI opA
 rw [List.getElem?_drop]
 by_cases h:k+j < l.length
 ·rw [if_neg (by omega),show((k:Int)+j).toNat=k+j by omega,List.getElem?_eq_getElem h];rfl
 ·rw [if_pos (by omega),List.getElem?_eq_none (by omega)];rfl
theorem opI_0(l:List GIns) (k:Nat):opI l k=opA (l.drop k) 0:=by have:=opI_nat l k 0;simpa using this
theorem opI_1(l:List GIns) (k:Nat):opI l ((k:Int)+1)=opA (l.drop k) 1:=opI_nat l k 1
theorem opI_2(l:List GIns) (k:Nat):opI l ((k:Int)+2)=opA (l.drop k) 2:=opI_nat l k 2
theorem opA_lt {l:List GIns} {k j:Nat} (h:opA (l.drop k) j≠0):k+j < l.length:=by
 unfold opA at h
 rw [List.getElem?_drop]at h
 by_cases h2:k+j < l.length
 ·exact h2
 ·rw [List.getElem?_eq_none (by omega)]at h;exact(h rfl).elim
theorem argA_get(l:List GIns) (k j:Nat):(l[k+j]?.getD GIns.zero).Arg=argA (l.drop k) j:=by
 unfold argA
 rw [List.getElem?_drop]
 cases l[k+j]? <;> rfl
def moreT(l:List GIns) (o:Option (List GIns)):V:= .tup [insD (o.getD l),oD o.isSome]
def reckL(l:List GIns) (k:Nat):Option (List GIns):=(reckM (l.drop k)).map fun y=>swapM l k y.1 y.2
set_option maxHeartbeats 2000000 in
theorem reckoned29_ok(l:List GIns) (hl:l.length≤100000000000) (k:Nat) (hk:k≤l.length):Pure prog 195 [insD l,iD k] (moreT l (reckL l k)):=by
 have hat:=fun n=>at29_ok l (by omega) n
 have e0:=opI_0 l k
 have e1:=opI_1 l k
 have e2:=opI_2 l k
 have a0:=argA_get l k 0
 have a1:=argA_get l k 1
 have a2:=argA_get l k 2
 have l0:=opA_lt (l:=l) (k:=k) (j:=0)
 have l1:=opA_lt (l:=l) (k:=k) (j:=1)
 have l2:=opA_lt (l:=l) (k:=k) (j:=2)
 have hb:=(refBin_ok GWorld.zero (argA (l.drop k) 2) (argA (l.drop k) 0) (argA (l.drop k) 1)).deep 0 (args:=[.agg [.d (.v (.slice none 0 0)),.d (.v (.slice none 0 0)),.d (.v (.slice none 0 0)),.d (.v (.slice none 0 0)),.d (.v (.slice none 0 0)),.d (.v (.slice none 0 0)),.d (.v (.slice none 0 0)),.d (.v (.int .u64 0)),iD 0,iD 0,iD 0,iD 0,iD 0],iD (argA (l.drop k) 2),iD (argA (l.drop k) 0),iD (argA (l.drop k) 1)]) (by rfl) (by rfl)
 have b0:∀h:k < l.length,(l[k]'h).Arg=argA (l.drop k) 0:=fun h=>by rw [←argA_get l k 0];simp [h]
 have b1:∀h:k+1 < l.length,(l[k+1]'h).Arg=argA (l.drop k) 1:=fun h=>by rw [←argA_get l k 1];simp [h]
 have b2:∀h:k+2 < l.length,(l[k+2]'h).Arg=argA (l.drop k) 2:=fun h=>by rw [←argA_get l k 2];simp [h]
 obtain⟨R,hR⟩:∃R,moreT l (reckL l k)=R:=⟨_,rfl⟩
 have hRon:V.on [] R=true:=by rw [←hR];rfl
 rw [hR]
 obtain⟨p,hp⟩:∃p,binR GWorld.zero (argA (l.drop k) 2) (argA (l.drop k) 0) (argA (l.drop k) 1)=p:=⟨_,rfl⟩
 rw [hp]at hb
 unfold pr2 at hb
 simp only [Nat.add_zero]at a0 l0
 have c1:((k:Int)+1).toNat=k+1:=by omega
 have c2:((k:Int)+2).toNat=k+2:=by omega
 have i1:inR .i64 ((k:Int)+1):=iW
 have i2:inR .i64 ((k:Int)+2):=iW
 have hs3:∀x:List GIns,x.length≤1000→k+3≤l.length→Pure prog 200 [insD l,iD k,iD 3,insD x] (insD (swapM l k 3 x)):=fun x hx h=>swap29_ok l (by omega) k 3 h x (by omega)
 have hs2:∀x:List GIns,x.length≤1000→k+2≤l.length→Pure prog 200 [insD l,iD k,iD 2,insD x] (insD (swapM l k 2 x)):=fun x hx h=>swap29_ok l (by omega) k 2 h x (by omega)
 refine Pure.run func195 rfl (by simp [f195,hRon]) ?_;simp [-cB,f195,hRon]
 repeat' (first
  | (with_reducible refine And.intro ?_ ?_)
  | ((first | (refine condC_split (fun h=>?_) (fun h=>?_) <;> (try simp at h)) | refine pC (hat _) ?_ | refine pC (push29_ok _) ?_ | refine pC (refNeg_ok _) ?_ | refine pC (refNot_ok _) ?_ | refine pC (hs2 _ ?_ ?_) ?_ | refine lC (hat _) ?_ | refine lC (push29_ok _) ?_ | refine lC (refNeg_ok _) ?_ | refine lC (refNot_ok _) ?_ | refine lC (hs2 _ ?_ ?_) ?_ | refine pG (hat _) ?_ | refine pG (push29_ok _) ?_ | refine pG (refNeg_ok _) ?_ | refine pG (refNot_ok _) ?_ | refine pGh (fun h=>hs2 _ ?_ ?_) ?_) <;> (try simp [-cB, *]))
  | (with_reducible intro _))
 all_goals first
  | omega
  | (simp [pushI];done)
  | (rw [inR_i64];unfold tru;split <;> omega)
  | (rw [←hR];simp [moreT,reckL,reckM,notM, *];done)
  | (rw [←hR];simp_all [moreT,reckL,reckM,notM];done)
  | (have hx:reckM (l.drop k)=none:=by(unfold reckM;grind)
     rw [←hR];simp [moreT,reckL,hx];done)
  | skip
 refine AWP.regionD [.tup [iD p.1,iD p.2]] tmix (by kernel_rfl) (by rfl) ?_
 simp [-cB,hb.ok, *]
 repeat' (first
  | (with_reducible refine And.intro ?_ ?_)
  | ((first | (refine condC_split (fun h=>?_) (fun h=>?_) <;> (try simp at h)) | refine pC (push29_ok _) ?_ | refine pC (hs3 _ ?_ ?_) ?_ | refine pC (hat _) ?_ | refine pC (refNeg_ok _) ?_ | refine pC (refNot_ok _) ?_ | refine pC (hs2 _ ?_ ?_) ?_ | refine lC (push29_ok _) ?_ | refine lC (hs3 _ ?_ ?_) ?_ | refine lC (hat _) ?_ | refine lC (refNeg_ok _) ?_ | refine lC (refNot_ok _) ?_ | refine lC (hs2 _ ?_ ?_) ?_ | refine pG (push29_ok _) ?_ | refine pGh (fun h=>hs3 _ ?_ ?_) ?_ | refine pG (hat _) ?_ | refine pG (refNeg_ok _) ?_ | refine pG (refNot_ok _) ?_ | refine pGh (fun h=>hs2 _ ?_ ?_) ?_) <;> (try simp [-cB, *]))
  | (with_reducible intro _))
 all_goals first
  | omega
  | (simp [pushI];done)
  | (rw [inR_i64];unfold tru;split <;> omega)
  | (rw [←hR];simp [moreT,reckL,reckM,notM, *];done)
  | (rw [←hR];simp_all [moreT,reckL,reckM,notM];done)
  | skip
end Go.Ab
namespace Go.Ab
open Go.Proofs Go.Proofs.Tryz
set_option maxHeartbeats 4000000
set_option maxRecDepth 20000
def isO(r:List GIns) (ops:List Int):Bool:=decide ((r.map GIns.Op).take ops.length=ops)
theorem pEnds_ok(i:GIns):Pure prog 186 [.agg (i.enc.map .d)] (oD (decide (endsOp i.Op))):=by
 unfold endsOp
 refine rn func186 ?_;simp [-cB,f186]
 intro bs
 repeat' (first
  | (with_reducible refine And.intro ?_ ?_)
  | (refine condC_split (fun h=>?_) (fun h=>?_) <;> (try simp at h) <;> (try simp [-cB, *]))
  | (with_reducible intro _))
 all_goals first | (simp_all;done) | grind | skip
theorem pJumps_ok(i:GIns):Pure prog 149 [.agg (i.enc.map .d)] (oD (decide (i.Op=24) || decide (i.Op=25))):=by
 refine rn func149 ?_;simp [-cB,f149]
theorem pZero_ok(i:GIns):Pure prog 142 [.agg (i.enc.map .d)] (oD (decide (wrapM i.Arg=0))):=by
 have hq:=not_ok i.Arg
 refine rn func142 ?_;simp [-cB,f142]
 intro bs
 refine pC hq ?_
 simp [-cB,tru]
def labNo:List GIns→Nat
 | []=>0
 | i::r=>if i.Op=38 then labNo r+1 else 0
theorem labNo_spec:∀r:List GIns,(∀k,k < labNo r→∃x,r[k]?=some x∧x.Op=38)∧(∀x,r[labNo r]?=some x→x.Op≠38)∧labNo r≤r.length∧r.dropWhile isLab=r.drop (labNo r)∧r.takeWhile isLab=r.take (labNo r)
 | []=>⟨fun k hk=>by simp [labNo]at hk,fun x hx=>by simp at hx,Nat.le_refl _,rfl,rfl⟩
 | i::r=>by
   obtain⟨h1,h2,h3,h4,h5⟩:=labNo_spec r
   by_cases hi:i.Op=38
   ·have hl:isLab i=true:=by unfold isLab;simp [hi]
    have e:labNo (i::r)=labNo r+1:=by rw [labNo,if_pos hi]
    rw [e]
    refine⟨fun k hk=>?_,fun x hx=>h2 x (by simpa using hx),by simp;omega,by rw [List.dropWhile_cons,hl,if_pos rfl,h4];rfl,by rw [List.takeWhile_cons,hl,if_pos rfl,h5];rfl⟩
    cases k with
    | zero=>exact⟨i,rfl,hi⟩
    | succ k=>exact h1 k (by omega)
   ·have hl:isLab i=false:=by unfold isLab;simp [hi]
    have e:labNo (i::r)=0:=by rw [labNo,if_neg hi]
    rw [e]
    refine⟨fun k hk=>by omega,fun x hx=>by simp at hx;rw [←hx];exact hi,Nat.zero_le _,by rw [List.dropWhile_cons,hl];rfl,by rw [List.takeWhile_cons,hl];rfl⟩
theorem pPast_ok(l:List GIns) (hl:l.length≤1000000000000) (i:Nat) (hi:i≤l.length):Pure prog 145 [.d (.sl (l.map GIns.enc)),iD i] (iD ((i:Int)+labNo (l.drop i))):=by
 obtain⟨hin,hend,hle,-⟩:=labNo_spec (l.drop i)
 rw [List.length_drop]at hle
 simp only [List.getElem?_drop]at hin hend
 generalize labNo (l.drop i)=N at *
 refine rn func145 ?_;simp [-cB,f145]
 refine AWP.loopS [0,1] N (fun k=> [(1,iD ((i:Int)+k))]) (fun _=> []) (fun _=>True) (by rfl) (by simp) ?_
 intro k hk _
 have hki:((i:Int)+k).toNat=i+k:=by omega
 rcases Nat.lt_or_eq_of_le hk with hlt | rfl
 ·obtain⟨x,hx,hx2⟩:=hin k hlt
  have h64:inR .i64 ((i:Int)+k+1):=iW
  have hlt':(i:Int)+k < l.length:=by omega
  simp [-cB,hlt',hki,hx,hx2,h64]
  exact⟨⟨by omega,by omega⟩,hlt,by omega⟩
 ·by_cases hlt':(i:Int)+k < l.length
  ·obtain⟨x,hx⟩:∃x,l[i+k]?=some x:=⟨_,List.getElem?_eq_getElem (by omega)⟩
   have hx2:=hend x hx
   simp [-cB,hlt',hki,hx,hx2]
   exact⟨by omega,by omega⟩
  ·simp [-cB,hlt']
theorem isO_false {r:List GIns} {ops:List Int} (k:Nat) (hk:k < ops.length) (h:(r[k]?.map GIns.Op)≠ops[k]?):isO r ops=false:=by
 unfold isO
 rw [decide_eq_false_iff_not]
 intro e
 apply h
 have:=congrArg (·[k]?) e
 simp only [List.getElem?_take,hk,if_true,List.getElem?_map]at this
 exact this
theorem pIs_ok(l:List GIns) (hl:l.length≤1000000000000) (i:Nat) (hi:i≤l.length) (ops:List Int) (ho:ops.length≤1000):Pure prog 141 [.d (.sl (l.map GIns.enc)),iD i,.d (.sl (encI ops))] (oD (isO (l.drop i) ops)):=by
 have h64:inR .i64 ((l.length:Int)-i):=iW
 by_cases hs:(l.length:Int)-i < ops.length
 ·have hf:isO (l.drop i) ops=false:=by
   unfold isO
   rw [decide_eq_false_iff_not]
   intro e
   have:=congrArg List.length e
   simp at this
   omega
  rw [hf]
  refine rn func141 ?_;simp [-cB,f141]
  simp [-cB,h64,hs]
 ·have hno:=fun(k:Nat) (hk:k < ops.length) (h:((l.drop i)[k]?.map GIns.Op)≠ops[k]?)=>isO_false (r:=l.drop i) k hk h
  have hyes:(∀k,k < ops.length→((l.drop i)[k]?.map GIns.Op)=ops[k]?)→isO (l.drop i) ops=true:=fun h=>by
   unfold isO
   rw [decide_eq_true_eq]
   refine List.ext_getElem? fun k=>?_
   rw [List.getElem?_take]
   split
   ·rename_i hk;rw [List.getElem?_map,h k hk]
   ·rw [List.getElem?_eq_none (by omega)]
  generalize isO (l.drop i) ops=b at *
  refine rn func141 ?_;simp [-cB,f141]
  simp [-cB,h64,hs]
  refine AWP.loopS [0,1,16,17,18] ops.length (fun k=> [(18,iD k)]) (fun _=> []) (fun k=>∀j,j < k→((l.drop i)[j]?.map GIns.Op)=ops[j]?) (by rfl) (by simp) ?_
  intro k hk hH
  rcases Nat.lt_or_eq_of_le hk with hlt | rfl
  ·have hki:((i:Int)+k).toNat=i+k:=by omega
   have j64:inR .i64 ((i:Int)+k):=iW
   have k64:inR .i64 ((k:Int)+1):=iW
   obtain⟨x,hx⟩:∃x,l[i+k]?=some x:=⟨_,List.getElem?_eq_getElem (by omega)⟩
   obtain⟨o,ho2⟩:∃o,ops[k]?=some o:=⟨_,List.getElem?_eq_getElem (by omega)⟩
   have hn:=hno k hlt
   rw [List.getElem?_drop,hx,ho2]at hn
   simp [-cB,hlt,hki,hx,ho2,j64,k64]
   refine⟨⟨by omega,by omega⟩,?_⟩
   have hok:ops[k]=o:=by rw [List.getElem?_eq_getElem hlt]at ho2;exact Option.some.inj ho2
   by_cases e:x.Op=o
   ·have e':(x.Op !=ops[k])=false:=by rw [hok];simp [e]
    simp [-cB,e',k64,hlt]
    intro j hj
    rcases Nat.lt_or_eq_of_le (Nat.le_of_lt_succ hj)with h1 | rfl
    ·have:=hH j h1
     rw [List.getElem?_drop]at this
     exact this
    ·rw [hx,ho2,←e];rfl
   ·have e':(x.Op !=ops[k])=true:=by rw [hok];simpa using e
    have hb:=hn (by simpa using e)
    simp [-cB,e',hb]
  ·have:=hyes hH
   simp [-cB,this]
theorem isO_iff(r:List GIns):∀ops:List Int,(∀o∈ops,o≠0)→(isO r ops=true↔∀k,k < ops.length→some (opA r k)=ops[k]?):=fun ops h=>by
 unfold isO opA
 rw [decide_eq_true_eq]
 constructor
 ·intro e k hk
  have:=congrArg (·[k]?) e
  simp only [List.getElem?_take,hk,if_true,List.getElem?_map]at this
  rw [List.getElem?_eq_getElem hk]at this ⊢
  rw [this];rfl
 ·intro e
  refine List.ext_getElem? fun k=>?_
  rw [List.getElem?_take]
  split
  ·rename_i hk
   have:=e k hk
   rw [List.getElem?_map]
   rw [List.getElem?_eq_getElem hk]at this ⊢
   cases hr:r[k]? with
   | none=>
     rw [hr]at this
     exact absurd (Option.some.inj this).symm (h _ (List.getElem_mem hk))
   | some x=>rw [hr]at this;exact this
  ·rw [List.getElem?_eq_none (by omega)]
theorem isO1(r:List GIns) {a:Int} (ha:a≠0):isO r [a]=decide (opA r 0=a):=by
 rw [Bool.eq_iff_iff,isO_iff r [a] (by simp [ha]),decide_eq_true_eq]
 constructor
 ·intro h;exact Option.some.inj (h 0 (by simp))
 ·intro h k hk;have:k=0:=by simpa using hk
  subst this;simp [h]
theorem isO2(r:List GIns) {a b:Int} (ha:a≠0) (hb:b≠0):isO r [a,b]=decide (opA r 0=a∧opA r 1=b):=by
 rw [Bool.eq_iff_iff,isO_iff r [a,b] (by simp [ha,hb]),decide_eq_true_eq]
 constructor
 ·intro h;exact⟨Option.some.inj (h 0 (by simp)),Option.some.inj (h 1 (by simp))⟩
 ·rintro⟨h1,h2⟩ k hk
  match k,hk with
  | 0,_=>simp [h1]
  | 1,_=>simp [h2]
theorem isO3(r:List GIns) {a b c:Int} (ha:a≠0) (hb:b≠0) (hc:c≠0):isO r [a,b,c]=decide (opA r 0=a∧opA r 1=b∧opA r 2=c):=by
 rw [Bool.eq_iff_iff,isO_iff r [a,b,c] (by simp [ha,hb,hc]),decide_eq_true_eq]
 constructor
 ·intro h;exact⟨Option.some.inj (h 0 (by simp)),Option.some.inj (h 1 (by simp)),Option.some.inj (h 2 (by simp))⟩
 ·rintro⟨h1,h2,h3⟩ k hk
  match k,hk with
  | 0,_=>simp [h1]
  | 1,_=>simp [h2]
  | 2,_=>simp [h3]
def knwM(op n:Int):Option Int:=if op=9 then some (negM n)else if op=10 then some (notM n)else if op=11 then some (1-notM n)else none
theorem pKnown_ok(op n:Int):Pure prog 183 [iD op,iD n] (.tup [iD ((knwM op n).getD 0),oD (knwM op n).isSome]):=by
 have hq:=not_ok n
 have hb:=(bin_ok GWorld.zero 11 (by decide) 0 n).deep 0 (args:=[.agg [.d (.v (.slice none 0 0)),.d (.v (.slice none 0 0)),.d (.v (.slice none 0 0)),.d (.v (.slice none 0 0)),.d (.v (.slice none 0 0)),.d (.v (.slice none 0 0)),.d (.v (.slice none 0 0)),.d (.v (.int .u64 0)),iD 0,iD 0,iD 0,iD 0,iD 0],iD 11,iD 0,iD n]) (by rfl) (by rfl)
 have e11:binR GWorld.zero 11 0 n=(negM n,0):=by
  unfold binR subM negM
  simp [wrap_wrap,show wrapM 0=0 by decide]
 rw [e11]at hb
 unfold pr2 at hb
 have h64:inR .i64 (1-tru (decide (wrapM n=0))):=by rw [inR_i64];unfold tru;split <;> omega
 unfold knwM notM
 refine rn func183 ?_;simp [-cB,f183]
 by_cases h9:op=9
 ·simp [-cB,h9]
  refine pC hb ?_
  simp [-cB]
 by_cases h10:op=10
 ·simp [-cB,h10]
  refine pC hq ?_
  simp [-cB]
 by_cases h11:op=11
 ·simp [-cB,h11]
  refine pC hq ?_
  simp [-cB,h64]
 simp [h9,h10,h11]
end Go.Ab
namespace Go.Ab
open Go.Proofs Go.Proofs.Tryz
set_option maxHeartbeats 4000000
set_option maxRecDepth 20000
section
variable {P : Program} {n : Nat} {s : St} {L : Heap}
theorem OpT.capNil {o:Oper} {ρa:Operand→V} {t e:TypeId} {k:Nat} {x:Operand} (hop:o.op= .call {callee:= .builtin .cap,args:= #[x],argTypes:= #[t]}) (ht:tyE P t=some (e,k)) (hx:ρa x= .d (.v (.slice none 0 0))):OpT P o ρa L (iD 0):=by
 refine .of_Q fun fo m ρ w hi hr=>?_
 have h1:=hr x (by rw [hop];simp [Op.operands,Call.operands])
 rw [hx]at h1
 refine⟨.int .i64 0,?_,.d _ _ (.v _ rfl)⟩
 simp [execOp,hop,h1.v_inv,resolve,invoke,builtin,Builtin.cap_,(tyE_spec ht w).1,goInt]
theorem zc_get {z:Array Value} {N k q:Nat} (hz:z.size=k) (hk:0 < k) (hq:q < N *k):(Builtin.zeroCells z N)[q]?=z[q % k]?:=by
 subst hz
 have:q % z.size < z.size:=Nat.mod_lt _ hk
 simp [Builtin.zeroCells,hq,this]
theorem OpT.cutNil {o:Oper} {ρa:Operand→V} {t e:TypeId} {k:Nat} {x y:Operand} (hop:o.op= .slice t x none (some y) none) (ht:tyE P t=some (e,k)) (hx:ρa x= .d (.v (.slice none 0 0))) (hy:ρa y=iD 0):OpT P o ρa L (.d (.v (.slice none 0 0))):=by
 refine .of_Q fun fo m ρ w hi hr=>?_
 have h1:=hr x (by rw [hop];simp [Op.operands])
 have h2:=hr y (by rw [hop];simp [Op.operands])
 rw [hx]at h1
 rw [hy]at h2
 refine⟨.slice none 0 0,?_,.d _ _ (.v _ rfl)⟩
 have ht1:=(tyE_spec ht w).1
 have ht2:=(tyE_spec ht w).2
 simp only [execOp,hop,Instr.sliceAt,Instr.slice,h1.v_inv,h2.v_inv,Sem.run_bind,ht1,ht2,Result.andThen_ok,Option.map_none,Option.map_some]
 simp [Instr.sliceBounds,Instr.sliceBound,asIntOf,ht2]
theorem growZL {dst:Option Tmp} {t tn:TypeId} {so no:Operand} {ty:TypeId} {pos:String} {after:Array Edge} {guard:Option (Nat×Bool)} {h k by_ N:Nat} {e:TypeId} {z:List Value} {kq kn:IntKind}
  (ht:tySl P t=some (e,k,by_,z)) (htn:P.underlying tn=some (.int kn)) (hs:s.ev so= .d (.v (.slice none 0 0))) (hc:s.ev no= .d (.v (.int kq N))) (hk:0 < k) (hn:h∉keys s.L) (h0:0 < N) (hb:N≤1000000000000∧N *by_≤140737488355328):
  OpL P n ⟨dst,.call {callee:= .builtin .append,args:= #[so,no],argTypes:= #[t,tn]},ty,pos,after,guard⟩ s (fun x s'=>x= .rv h∧s'={s with L:=(h,.row e k (List.replicate N (z.map fun x=> .d (.v x))))::s.L}):=by
 intro fo m a w g
 obtain⟨i,zv,hu,hi,hz,hsize,hbytes,hzl,hzs,hone⟩:=tySl_spec ht
 have hes:=eval_rel g so
 have hec:=eval_rel g no
 rw [hs]at hes
 rw [hc]at hec
 have hrun:=Lib.run_append_nil_zeros (P:=P) w t tn ty e i zv kq kn hu htn hi hz N h0 (by omega) (by omega) (by rw [hbytes];omega)
 have hge:=grownCap_ge w N 0 e
 have hcm:=grownCap_le_maxLen w N 0 e (by simp only [maxLen];omega)
 generalize grownCap w N 0 e=cap at *
 obtain⟨C,hC⟩:∃C,C=Builtin.zeroCells zv.cells N++Builtin.zeroCells zv.cells (cap-N):=⟨_,rfl⟩
 rw [←hC]at hrun
 have hx:∀b,blk (.slice (some ⟨w.heap.size,0,none⟩) N cap) b→w.heap.size≤b:=by intro b hb;simp [blk,blk1]at hb;omega
 have hgr:Grows w (w.drew.alloc (.cells C e)):=by
  have:=Grows.alloc w.drew (.cells C e)
  exact⟨this.os,this.tape,this.output,this.size,this.block⟩
 have hsz:C.size=cap *k:=by
  rw [hC,Array.size_append,size_zeroCells,size_zeroCells,hzs,←Nat.add_mul,Nat.add_sub_cancel' hge]
 obtain⟨g',st⟩:=g.new hgr hn (x:= .slice (some ⟨w.heap.size,0,none⟩) N cap)
  (r:= .row e k (List.replicate N (z.map fun x=> .d (.v x)))) hx (by
   refine .inr ⟨w.heap.size,0,cap,C,by simp,heap_alloc_new w.drew _,by simp;omega,hcm,by omega,?_,?_,?_⟩
   ·intro q x hq
    have:=List.mem_of_getElem? hq
    rw [List.mem_replicate]at this
    rw [this.2];simp [←hzl,hzs]
   ·intro j u hu'
    rw [hC,Array.getElem?_append]at hu'
    have:∃p:Nat,zv.cells[p]?=some u:=by
     split at hu'
     ·exact zeroCells_get hu'
     ·exact zeroCells_get hu'
    obtain⟨p,hp⟩:=this
    exact hone u (by rw [←hzl];exact List.mem_of_getElem? (by rw [Array.getElem?_toList];exact hp))
   ·intro p q x y u hx' hy hu'
    have hp:=(List.getElem?_eq_some_iff.1 hx').1
    simp at hp
    have:=List.mem_of_getElem? hx'
    rw [List.mem_replicate]at this
    obtain⟨_,rfl⟩:=this
    have hq:q < k:=by have:=(List.getElem?_eq_some_iff.1 hy).1;simpa [←hzl,hzs]using this
    have hpc:(p+1) *k≤N *k:=Nat.mul_le_mul_right _ (by omega)
    rw [Nat.add_mul,Nat.one_mul]at hpc
    rw [Nat.zero_add,hC,Array.getElem?_append_left (by rw [size_zeroCells,hzs];omega),zc_get hzs hk (by omega),Nat.mul_comm p k,Nat.mul_add_mod,Nat.mod_eq_of_lt hq]at hu'
    exact rel_vals hone q u y (by rw [←hzl,Array.getElem?_toList];exact hu') hy)
 refine⟨_,_,_,_,_,_,?_,.inl rfl,⟨rfl,rfl⟩,.rv h _ (mset_same _ _) rfl,g',st⟩
 rw [←hes.v_inv,←hec.v_inv]at hrun
 simp [execOp,resolve,invoke,builtin,hrun]
end
theorem growI_ok(h:Nat) (N:Nat) (hn:N≤1000000000000):ACalls prog 214 [.d (.v (.slice none 0 0)),iD N] [] (fun r L=>r= .ret (.rv h)∧L=[(h,.row 93 2 (dd []))]):=by
 refine ACalls.rowR h ?_
 have h0:¬(N:Int) < 0:=by omega
 have h64:inR .i64 (N:Int):=iW
 refine ACalls.run func214 rfl (by simp [f214]) ?_;simp [f214]
 refine⟨fun h=>absurd h h0,?_⟩
 refine AOps.quietT rfl (by simp) (OpT.capNil rfl rfl (by simp)) (runC_sound _ _ [] rfl fun bs=>?_)
 have e0:inR .i64 0:=iW
 by_cases hN:0 < N
 ·simp [-cB,e0,h64,hN]
  refine AOps.quietT rfl (by simp) (OpT.capNil rfl rfl (by simp)) (runC_sound _ _ [] rfl fun bs=>?_)
  simp [-cB]
  refine AOps.quietT rfl (by simp) (OpT.cutNil rfl rfl (by simp) (by simp)) (runC_sound _ _ [] rfl fun bs=>?_)
  simp [-cB]
  refine AOps.loud rfl (by simp) (growZL (h:=22) (N:=N) (k:=2) (by_:=16) (kq:= .i64) (kn:= .i64) tySl_98 (by kernel_rfl) (by simp) (by simp) (by decide) (by simp) hN (by omega)) ?_
  rintro x s' ⟨rfl,rfl⟩
  refine runC_sound _ _ [] rfl fun bs=>?_
  simp [-cB]
 ·simp [-cB,e0,h64,hN]
def sumL(ll:List (List GIns)):Nat:=(ll.map List.length).sum
theorem concatI_ok(ll:List (List GIns)) (hl:ll.length≤1000) (hs:sumL ll≤1000000000000):Pure prog 184 [.d (.sl (encSl (List.map GIns.enc) ll))] (.d (.sl ((ll.flatten).map GIns.enc))):=by
 refine rn func184 ?_;simp [-cB,f184]
 refine AWP.loopL [0,3,9,10,11] ll (fun pre=> [(3,iD (sumL pre)),(11,iD pre.length)]) (fun _=> []) (fun _=>True) (by rfl) (by omega) (by simp [sumL]) ?_ ?_
 ·rintro pre x post hsp-hlt hge a4
  have hsx:sumL (pre++ [x])=sumL pre+x.length:=by simp [sumL]
  have hle:sumL pre+x.length≤sumL ll:=by rw [hsp];simp [sumL]
  clear hsp
  have h64:inR .i64 ((sumL pre:Int)+x.length):=iW
  have h0:¬((sumL pre:Int)+x.length) < 0:=by omega
  simp [-cB, *]
 ·intro _
  simp [-cB]
  refine eD [] ((growI_ok 5101 (sumL ll) hs)) ?_
  simp [-cB]
  refine AWP.loopL [6,25,26,27] ll (fun pre=> [(6,.rv 5101),(27,iD pre.length)]) (fun pre=> [(5101,.row 93 2 (dd ((pre.flatten).map GIns.enc)))]) (fun _=>True) (by rfl) (by omega) (by simp) ?_ ?_
  ·rintro pre x post hsp-hlt hge a4
   have hle:pre.flatten.length+x.length≤sumL ll:=by rw [hsp];simp [sumL,List.length_flatten]
   clear hsp
   simp [-cB, *]
   have e:pre.map (List.length ∘ List.map GIns.enc)=pre.map List.length:=by simp [Function.comp_def]
   rw [e]
   rw [List.length_flatten]at hle
   omega
  ·intro _
   simp [-cB]
end Go.Ab
namespace Go.Ab
open Go.Proofs Go.Proofs.Tryz
set_option maxHeartbeats 4000000
set_option maxRecDepth 20000
theorem yop_slice {P:Program} {ops:Array Oper} {o:Oper} {s:St} {t:TypeId} {xo:Operand} {lo hi:Option Operand} {x:V} {c:Prop} (hop:o.op= .slice t xo lo hi none) (hg:o.guard=none) (h:sliceV P t (s.ev xo) (lo.map s.ev) (hi.map s.ev)=some (x,c)) (hc:c):YOp P ops o s x:=
 yop_plain hg (.of_Q fun fo m ρ w _ hr=>by
  obtain⟨v,h1,h2⟩:=sliceV_sound (ρ:=ρ) (w:=w) h hc (hr xo (by rw [hop];simp [Op.operands])) (fun y hy=>hr y (by rw [hop,hy];simp [Op.operands])) (fun y hy=>hr y (by rw [hop,hy];simp [Op.operands]))
  exact⟨v,by simp [execOp,hop,h1],h2⟩)
theorem pWith_ok(l x:List GIns) (hl:l.length≤100000000000) (hx:x.length≤1000) (i n:Nat) (h:i+n≤l.length):Pure prog 140 [.d (.sl (l.map GIns.enc)),iD i,iD n,.d (.sl (x.map GIns.enc))] (.d (.sl ((swapM l i n x).map GIns.enc))):=by
 have hc:=concatI_ok [l.take i,x,l.drop (i+n)] (by simp) (by simp [sumL];omega)
 have h64:inR .i64 ((i:Int)+n):=iW
 refine rn func140 ?_;simp [-cB,f140]
 refine AWP.regionT [some (0,0),some (0,0),some (0,0),some (0,0),some (0,0),some (0,0),some (0,0),some (0,0),some (0,0),some (0,0),some (0,0),some (0,0)] [11,17,18] [.d (.sl ((l.take i).map GIns.enc)),.d (.sl ((l.drop (i+n)).map GIns.enc)),.d (.sl (encSl (List.map GIns.enc) [l.take i,x,l.drop (i+n)])),.d (.sl ((swapM l i n x).map GIns.enc))] tmix (by kernel_rfl) ?_
 simp [-cB,h64]
 have e1:((i:Int)+n).toNat=i+n:=by omega
 have e3:List.take l.length (l.map GIns.enc)=l.map GIns.enc:=List.take_of_length_le (by simp)
 refine⟨yop_slice rfl rfl (by simp [sliceV,bndV];rfl) (by first | omega | (simp;omega)),yop_slice rfl rfl (by simp [sliceV,bndV,e1,e3];rfl) (by first | omega | (simp;omega)),yop_build tySl_202 (by decide) (by decide) rfl (by simp) (by simp [dd,encSl]) rfl (by simp [encSl]),?_⟩
 have e:[l.take i,x,l.drop (i+n)].flatten=swapM l i n x:=by simp [swapM]
 rw [e]at hc
 exact hc.ok _
theorem pPush_ok(l:List GIns) (hl:l.length≤100000000000) (i n:Nat) (k:Int) (h:i+n≤l.length):Pure prog 182 [.d (.sl (l.map GIns.enc)),iD i,iD n,iD k] (.tup [.d (.sl ((swapM l i n [⟨1,k⟩]).map GIns.enc)),oD true]):=by
 have hq:=pWith_ok l [⟨1,k⟩] hl (by simp) i n h
 refine rn func182 ?_;simp [-cB,f182]
 refine AOps.weaken (Wk.freeze 15 (ys:=[GIns.enc ⟨1,k⟩]) rfl) ?_
 simp [-cB]
 refine pC hq ?_
 simp [-cB]
theorem wrap_tru' (b:Bool):wrapM (tru b)=tru b:=by cases b <;> decide
theorem wr_ite {p:Prop} [Decidable p] {a b:Int×Int} (ha:wrapM a.1=a.1) (hb:wrapM b.1=b.1):wrapM (if p then a else b).1=(if p then a else b).1:=by
 split
 ·exact ha
 ·exact hb
theorem binR_wrapped(op a b:Int) (h9:op≠9):wrapM (binR GWorld.zero op a b).1=(binR GWorld.zero op a b).1:=by
 unfold binR addM subM mulM divM modM
 rw [if_neg h9]
 repeat' refine wr_ite ?_ ?_
 all_goals first
  | exact wrap_tru' _
  | exact wrap_wrap _
  | decide
theorem opA_dp(l:List GIns) (i k:Nat):opA (l.drop i) k=opA l (i+k):=by unfold opA;rw [List.getElem?_drop]
theorem argA_dp(l:List GIns) (i k:Nat):argA (l.drop i) k=argA l (i+k):=by unfold argA;rw [List.getElem?_drop]
def offR(l:List GIns) (i:Nat) (b:Option (Nat×Nat×List GIns)) (x:List GIns):Prop:=∀y,b=some y→x=swapM l (i+y.1) y.2.1 y.2.2
theorem noR(l:List GIns) (i:Nat) (x:List GIns):offR l i none x:=fun y hy=>by cases hy
theorem someR(l:List GIns) (i:Nat) (y:Nat×Nat×List GIns):offR l i (some y) (swapM l (i+y.1) y.2.1 y.2.2):=fun z hz=>by cases hz;rfl
theorem pReckoned_ok(l:List GIns) (hl:l.length≤100000000000) (i:Nat) (hi:i < l.length):∃x,offR l i (wayR l (l.drop i) 0) x∧Pure prog 138 [.d (.sl (l.map GIns.enc)),iD i] (.tup [.d (.sl (x.map GIns.enc)),oD (wayR l (l.drop i) 0).isSome]):=by
 have hq:=pIs_ok l (by omega) i (by omega) [1,1,8] (by simp)
 rw [isO3 _ (by decide) (by decide) (by decide)]at hq
 have hw0:wayR l (l.drop i) 0=if opA (l.drop i) 0=1∧opA (l.drop i) 1=1∧opA (l.drop i) 2=8∧argA (l.drop i) 2≠9∧(binR GWorld.zero (argA (l.drop i) 2) (argA (l.drop i) 0) (argA (l.drop i) 1)).2=0 then some (0,3,pushI (binR GWorld.zero (argA (l.drop i) 2) (argA (l.drop i) 0) (argA (l.drop i) 1)).1)else none:=rfl
 rw [hw0]
 have c1:((i:Int)+1).toNat=i+1:=by omega
 have c2:((i:Int)+2).toNat=i+2:=by omega
 have i1:inR .i64 ((i:Int)+1):=iW
 have i2:inR .i64 ((i:Int)+2):=iW
 have go:∀{o:Option (Nat×Nat×List GIns)},o=none→(Pure prog 138 [.d (.sl (l.map GIns.enc)),iD i] (.tup [.d (.sl []),oD false]))→∃x,offR l i o x∧Pure prog 138 [.d (.sl (l.map GIns.enc)),iD i] (.tup [.d (.sl (x.map GIns.enc)),oD o.isSome]):=fun {o} h k=>by
  subst h;exact⟨[],noR l i _,k⟩
 by_cases h3:opA (l.drop i) 0=1∧opA (l.drop i) 1=1∧opA (l.drop i) 2=8
 ·rw [decide_eq_true h3]at hq
  have l2:i+2 < l.length:=opA_lt (l:=l) (k:=i) (j:=2) (by rw [h3.2.2];decide)
  have b0:argA (l.drop i) 0=(l[i]'(by omega)).Arg:=by rw [argA_dp];simp [argA,List.getElem?_eq_getElem (show i < l.length by omega)]
  have b1:argA (l.drop i) 1=(l[i+1]'(by omega)).Arg:=by rw [argA_dp];simp [argA,List.getElem?_eq_getElem (show i+1 < l.length by omega)]
  have b2:argA (l.drop i) 2=(l[i+2]'l2).Arg:=by rw [argA_dp];simp [argA,List.getElem?_eq_getElem l2]
  have g0:=List.getElem?_eq_getElem (show i < l.length by omega)
  have g1:=List.getElem?_eq_getElem (show i+1 < l.length by omega)
  have g2:=List.getElem?_eq_getElem l2
  generalize argA (l.drop i) 0=A0 at *
  generalize argA (l.drop i) 1=A1 at *
  generalize argA (l.drop i) 2=A2 at *
  by_cases h9:A2=9
  ·refine go (if_neg fun h=>h.2.2.2.1 h9) ?_
   refine rn func138 ?_;simp [-cB,f138]
   refine AOps.weaken (Wk.freeze 10 (ys:=encI [1,1,8]) rfl) ?_
   simp [-cB]
   refine pC hq ?_
   simp [-cB,c2,g2,←b2,h9,i2]
   omega
  ·have hw:=binR_wrapped A2 A0 A1 h9
   have hb:=(bin_ok GWorld.zero A2 (fun h=>absurd h h9) A0 A1).deep 0 (args:=[.agg [.d (.v (.slice none 0 0)),.d (.v (.slice none 0 0)),.d (.v (.slice none 0 0)),.d (.v (.slice none 0 0)),.d (.v (.slice none 0 0)),.d (.v (.slice none 0 0)),.d (.v (.slice none 0 0)),.d (.v (.int .u64 0)),iD 0,iD 0,iD 0,iD 0,iD 0],iD A2,iD A0,iD A1]) (by rfl) (by rfl)
   generalize binR GWorld.zero A2 A0 A1=p at *
   obtain⟨v,e⟩:=p
   unfold pr2 at hb
   have hb':=fun L=>hb.ok L
   have hq':=fun L=>hq.ok L
   have z1:(0:Int)≤i+1:=by omega
   have z2:(0:Int)≤i+2:=by omega
   have hi1:i+1 < l.length:=by omega
   by_cases he:e=0
   ·have hp:=pPush_ok l hl i 3 v (by omega)
    rw [if_pos ⟨h3.1,h3.2.1,h3.2.2,h9,he⟩]
    refine⟨_,someR l i _,?_⟩
    have ev:pushI (v,e).1=[⟨1,v⟩]:=by unfold pushI;rw [show wrapM (v,e).1=v from hw]
    rw [ev]
    subst he
    refine rn func138 ?_;simp [-cB,f138]
    refine AOps.weaken (Wk.freeze 10 (ys:=encI [1,1,8]) rfl) ?_
    simp [-cB]
    refine pC hq ?_
    simp [-cB,c2,g2,←b2,h9,i2,z2,l2]
    refine AWP.regionD [.tup [iD v,iD 0]] tmix (by kernel_rfl) (by rfl) ?_
    simp [-cB,c1,c2,g0,g1,g2,←b0,←b1,←b2,i1,i2,z1,z2,l2,hi,hi1]
    refine⟨hb.ok _,?_⟩
    refine pC hp ?_
    simp [-cB]
   ·refine go (if_neg fun h=>he h.2.2.2.2) ?_
    refine rn func138 ?_;simp [-cB,f138]
    refine AOps.weaken (Wk.freeze 10 (ys:=encI [1,1,8]) rfl) ?_
    simp [-cB]
    refine pC hq ?_
    simp [-cB,c2,g2,←b2,h9,i2,z2,l2]
    refine AWP.regionD [.tup [iD v,iD e]] tmix (by kernel_rfl) (by rfl) ?_
    have he':(e !=0)=true:=by simpa using he
    simp [-cB,c1,c2,g0,g1,g2,←b0,←b1,←b2,i1,i2,z1,z2,l2,hi,hi1,hb',he,he']
 ·rw [decide_eq_false h3]at hq
  refine go (if_neg fun h=>h3 ⟨h.1,h.2.1,h.2.2.1⟩) ?_
  refine rn func138 ?_;simp [-cB,f138]
  refine AOps.weaken (Wk.freeze 10 (ys:=encI [1,1,8]) rfl) ?_
  simp [-cB]
  refine pC hq ?_
  simp [-cB]
theorem pTurned_ok(l:List GIns) (hl:l.length≤100000000000) (i:Nat) (hi:i < l.length):∃x,offR l i (wayR l (l.drop i) 1) x∧Pure prog 139 [.d (.sl (l.map GIns.enc)),iD i] (.tup [.d (.sl (x.map GIns.enc)),oD (wayR l (l.drop i) 1).isSome]):=by
 have hq:=pIs_ok l (by omega) i (by omega) [1] (by simp)
 rw [isO1 _ (by decide)]at hq
 have hw0:wayR l (l.drop i) 1=if opA (l.drop i) 0≠1 then none else(knwM (opA (l.drop i) 1) (argA (l.drop i) 0)).map fun v=>(0,2,pushI v):=by
  show(if opA (l.drop i) 0≠1 then none else _)=_
  unfold knwM
  split
  ·rfl
  ·repeat' split
   all_goals rfl
 rw [hw0]
 have c1:((i:Int)+1).toNat=i+1:=by omega
 have i1:inR .i64 ((i:Int)+1):=iW
 have z1:(0:Int)≤i+1:=by omega
 have go:∀{o:Option (Nat×Nat×List GIns)},o=none→(Pure prog 139 [.d (.sl (l.map GIns.enc)),iD i] (.tup [.d (.sl []),oD false]))→∃x,offR l i o x∧Pure prog 139 [.d (.sl (l.map GIns.enc)),iD i] (.tup [.d (.sl (x.map GIns.enc)),oD o.isSome]):=fun {o} h k=>by
  subst h;exact⟨[],noR l i _,k⟩
 by_cases h1:opA (l.drop i) 0=1
 ·rw [if_neg (by simp [h1])]
  rw [decide_eq_true h1]at hq
  by_cases hs:i+1 < l.length
  ·have hs':¬(l.length:Int)≤i+1:=by omega
   have b0:argA (l.drop i) 0=(l[i]'(by omega)).Arg:=by rw [argA_dp];simp [argA,List.getElem?_eq_getElem (show i < l.length by omega)]
   have b1:opA (l.drop i) 1=(l[i+1]'hs).Op:=by rw [opA_dp];simp [opA,List.getElem?_eq_getElem hs]
   have g0:=List.getElem?_eq_getElem (show i < l.length by omega)
   have g1:=List.getElem?_eq_getElem hs
   have hk:=pKnown_ok (opA (l.drop i) 1) (argA (l.drop i) 0)
   have hv:∀v,knwM (opA (l.drop i) 1) (argA (l.drop i) 0)=some v→wrapM v=v:=fun v hv=>by
    unfold knwM negM notM at hv
    repeat' split at hv
    all_goals first | (cases hv;done) | skip
    all_goals
     cases hv
     first
      | exact wrap_wrap _
      | exact wrap_tru' _
      | (unfold tru;split <;> decide)
   generalize opA (l.drop i) 1=O1 at *
   generalize argA (l.drop i) 0=A0 at *
   cases hkn:knwM O1 A0 with
   | none=>
     rw [hkn]at hk
     refine go rfl ?_
     refine rn func139 ?_;simp [-cB,f139]
     refine AOps.weaken (Wk.freeze 10 (ys:=encI [1]) rfl) ?_
     simp [-cB]
     refine pC hq ?_
     simp [-cB,i1,hs']
     refine AWP.regionD [.tup [iD 0,oD false]] tmix (by kernel_rfl) (by rfl) ?_
     simp [-cB,c1,g0,g1,←b0,←b1,i1,z1,hs,hi]
     exact hk.ok _
   | some v=>
     rw [hkn]at hk
     have hp:=pPush_ok l hl i 2 v (by omega)
     refine⟨_,someR l i _,?_⟩
     have ev:pushI v=[⟨1,v⟩]:=by unfold pushI;rw [hv v hkn]
     simp only [ev]
     refine rn func139 ?_;simp [-cB,f139]
     refine AOps.weaken (Wk.freeze 10 (ys:=encI [1]) rfl) ?_
     simp [-cB]
     refine pC hq ?_
     simp [-cB,i1,hs']
     refine AWP.regionD [.tup [iD v,oD true]] tmix (by kernel_rfl) (by rfl) ?_
     simp [-cB,c1,g0,g1,←b0,←b1,i1,z1,hs,hi]
     refine⟨hk.ok _,?_⟩
     refine pC hp ?_
     simp [-cB]
  ·have hs':(l.length:Int)≤i+1:=by omega
   have ho:opA (l.drop i) 1=0:=by rw [opA_dp];simp [opA,List.getElem?_eq_none (show l.length≤i+1 by omega)]
   refine go (by rw [ho];rfl) ?_
   refine rn func139 ?_;simp [-cB,f139]
   refine AOps.weaken (Wk.freeze 10 (ys:=encI [1]) rfl) ?_
   simp [-cB]
   refine pC hq ?_
   simp [-cB,i1,hs']
 ·rw [decide_eq_false h1]at hq
  refine go (if_pos h1) ?_
  refine rn func139 ?_;simp [-cB,f139]
  refine AOps.weaken (Wk.freeze 10 (ys:=encI [1]) rfl) ?_
  simp [-cB]
  refine pC hq ?_
  simp [-cB]
end Go.Ab
namespace Go.Ab
open Go.Proofs Go.Proofs.Tryz
set_option maxHeartbeats 4000000
set_option maxRecDepth 20000
theorem pWith0_ok(l:List GIns) (hl:l.length≤100000000000) (i n:Nat) (h:i+n≤l.length):Pure prog 140 [.d (.sl (l.map GIns.enc)),iD i,iD n,.d (.v (.slice none 0 0))] (.d (.sl ((swapM l i n []).map GIns.enc))):=
 (pWith_ok l [] hl (by simp) i n h).deep 0 (args:=[.d (.sl (l.map GIns.enc)),iD i,iD n,.d (.v (.slice none 0 0))]) (by rfl) (by rfl)
theorem deadN_spec:∀r:List GIns,(∀k,k < deadN r→∃x,r[k]?=some x∧x.Op≠38)∧(∀x,r[deadN r]?=some x→x.Op=38)∧deadN r≤r.length
 | []=>⟨fun k hk=>by simp [deadN]at hk,fun x hx=>by simp at hx,Nat.le_refl _⟩
 | i::r=>by
   obtain⟨h1,h2,h3⟩:=deadN_spec r
   by_cases hi:i.Op=38
   ·have e:deadN (i::r)=0:=by unfold deadN isLab;simp [hi]
    rw [e]
    exact⟨fun k hk=>by omega,fun x hx=>by simp at hx;rw [←hx];exact hi,Nat.zero_le _⟩
   ·have e:deadN (i::r)=deadN r+1:=by unfold deadN isLab;simp [hi]
    rw [e]
    refine⟨fun k hk=>?_,fun x hx=>h2 x (by simpa using hx),by simp;omega⟩
    cases k with
    | zero=>exact⟨i,rfl,hi⟩
    | succ k=>exact h1 k (by omega)
theorem pNever_ok(l:List GIns) (hl:l.length≤100000000000) (i:Nat) (hi:i < l.length):∃x,offR l i (wayR l (l.drop i) 6) x∧Pure prog 143 [.d (.sl (l.map GIns.enc)),iD i] (.tup [.d (.sl (x.map GIns.enc)),oD (wayR l (l.drop i) 6).isSome]):=by
 have g0:=List.getElem?_eq_getElem (show i < l.length by omega)
 have b0:opA (l.drop i) 0=(l[i]'(by omega)).Op:=by rw [opA_dp];simp [opA,g0]
 have et:(l.drop i).tail=l.drop (i+1):=by rw [List.tail_drop]
 have hw0:wayR l (l.drop i) 6=if endsOp (opA (l.drop i) 0)∧0 < deadN (l.drop (i+1))then some (1,deadN (l.drop (i+1)),[])else none:=by
  show(if endsOp (opA (l.drop i) 0)∧0 < deadN (l.drop i).tail then _ else _)=_
  rw [et]
 rw [hw0,b0]
 obtain⟨hin,hend,hle⟩:=deadN_spec (l.drop (i+1))
 rw [List.length_drop]at hle
 simp only [List.getElem?_drop]at hin hend
 generalize deadN (l.drop (i+1))=N at *
 have hE:=pEnds_ok (l[i]'(by omega))
 have hp:=pWith0_ok l hl (i+1) N (by omega)
 simp only [Int.natCast_add,Int.natCast_one]at hp
 have key:∀(R:V),V.on [] R=true→(decide (endsOp (l[i]'(by omega)).Op)=false∨N=0→R= .tup [.d (.sl []),oD false])→(decide (endsOp (l[i]'(by omega)).Op)=true→0 < N→R= .tup [.d (.sl ((swapM l (i+1) N []).map GIns.enc)),oD true])→
   Pure prog 143 [.d (.sl (l.map GIns.enc)),iD i] R:=fun R hRon hR0 hR1=>by
  generalize decide (endsOp (l[i]'(by omega)).Op)=b at *
  have i1:inR .i64 ((i:Int)+1):=iW
  refine Pure.run func143 rfl (by simp [f143,hRon]) ?_;simp [-cB,f143,hRon]
  simp [-cB,i1]
  refine AWP.loopS [0,1,6] N (fun k=> [(6,iD ((i:Int)+1+k))]) (fun _=> []) (fun _=>True) (by rfl) (by simp) ?_
  intro k hk _
  have hki:((i:Int)+1+k).toNat=i+1+k:=by omega
  rcases Nat.lt_or_eq_of_le hk with hlt | rfl
  ·obtain⟨x,hx,hx2⟩:=hin k hlt
   have h64:inR .i64 ((i:Int)+1+k+1):=iW
   have hlt':(i:Int)+1+k < l.length:=by omega
   have hx3:(x.Op !=38)=true:=by simpa using hx2
   simp [-cB,hlt',hki,hx,hx3,h64]
   exact⟨⟨by omega,by omega⟩,hlt,by omega⟩
  ·have e1:(i:Int)+1+k-i=1+k:=by omega
   have e2:(1:Int)+k-1=k:=by omega
   have s1:inR .i64 ((1:Int)+k):=iW
   have s2:inR .i64 (k:Int):=iW
   by_cases hlt':(i:Int)+1+k < l.length
   ·obtain⟨x,hx⟩:∃x,l[i+1+k]?=some x:=⟨_,List.getElem?_eq_getElem (by omega)⟩
    have hx3:(x.Op !=38)=false:=by simpa using hend x hx
    simp [-cB,hlt',hki,hx,hx3,g0]
    refine⟨⟨by omega,by omega⟩,hi,?_⟩
    refine pC hE ?_
    cases b with
    | false=>
      have hR:=hR0 (.inl rfl)
      simp [-cB,hR]
    | true=>
      by_cases hk0:k=0
      ·have hR:=hR0 (.inr hk0)
       simp [-cB,hR,hk0,i1]
      ·have hR:=hR1 rfl (by omega)
       have hne:¬((i:Int)+1+k=i+1):=by omega
       simp [-cB,hR,hne,i1,e1,e2,s1,s2]
       refine pC hp ?_
       simp [-cB]
   ·simp [-cB,hlt',g0]
    refine⟨hi,?_⟩
    refine pC hE ?_
    cases b with
    | false=>
      have hR:=hR0 (.inl rfl)
      simp [-cB,hR]
    | true=>
      by_cases hk0:k=0
      ·have hR:=hR0 (.inr hk0)
       simp [-cB,hR,hk0,i1]
      ·have hR:=hR1 rfl (by omega)
       have hne:¬((i:Int)+1+k=i+1):=by omega
       simp [-cB,hR,hne,i1,e1,e2,s1,s2]
       refine pC hp ?_
       simp [-cB]
 by_cases hc:endsOp (l[i]'(by omega)).Op∧0 < N
 ·rw [if_pos hc]
  refine⟨_,someR l i _,key _ rfl (fun h=>?_) (fun _ _=>rfl)⟩
  rcases h with h | h
  ·simp [hc.1]at h
  ·have:=hc.2;omega
 ·rw [if_neg hc]
  refine⟨[],noR l i _,key _ rfl (fun _=>rfl) (fun h1 h2=>absurd ⟨by simpa using h1,h2⟩ hc)⟩
end Go.Ab
namespace Go.Ab
open Go.Proofs Go.Proofs.Tryz
set_option maxHeartbeats 4000000
set_option maxRecDepth 20000
def isLb(n:Int) (x:GIns):Bool:=decide (x.Op=38) && decide (x.Arg=n)
theorem after_idx(n:Int):∀l:List GIns,after l n=(l.findIdx? (isLb n)).map fun k=>l.drop (k+1)
 | []=>rfl
 | i::l=>by
   rw [after,List.findIdx?_cons,after_idx n l]
   by_cases h:i.Op=38∧i.Arg=n
   ·rw [if_pos h,show isLb n i=true by unfold isLb;simp [h]];rfl
   ·rw [if_neg h,show isLb n i=false by unfold isLb;simp;exact fun a b=>h ⟨a,b⟩]
    cases l.findIdx? (isLb n) <;> rfl
theorem pFar1_ok(l:List GIns) (i:Nat) (hi:i < l.length) (x:GIns):Pure prog 188 [.agg (x.enc.map .d),.rp [.sl (l.map GIns.enc)],.rp [.v (.int .i64 i)]] (oD (isLb (argA (l.drop i) 0) x)):=by
 have g0:=List.getElem?_eq_getElem hi
 have b0:argA (l.drop i) 0=(l[i]'hi).Arg:=by rw [argA_dp];simp [argA,g0]
 rw [b0]
 unfold isLb
 refine rn func188 ?_;simp [-cB,f188]
 intro bs
 refine AWP.regionD [] tmix (by kernel_rfl) (by rfl) ?_
 simp [-cB,g0,hi]
theorem pFurther_ok(l:List GIns) (hl:l.length≤100000000000) (i:Nat) (hi:i < l.length):∃x,offR l i (wayR l (l.drop i) 8) x∧Pure prog 147 [.d (.sl (l.map GIns.enc)),iD i] (.tup [.d (.sl (x.map GIns.enc)),oD (wayR l (l.drop i) 8).isSome]):=by
 have g0:=List.getElem?_eq_getElem hi
 have b0:argA (l.drop i) 0=(l[i]'hi).Arg:=by rw [argA_dp];simp [argA,g0]
 have o0:opA (l.drop i) 0=(l[i]'hi).Op:=by rw [opA_dp];simp [opA,g0]
 have hx:=idxI_ok l (by omega) 188 [.rp [.sl (l.map GIns.enc)],.rp [.v (.int .i64 i)]] rfl (isLb (argA (l.drop i) 0)) (fun x _=>pFar1_ok l i hi x)
 have hj:=pJumps_ok (l[i]'hi)
 have hw0:wayR l (l.drop i) 8=if(l[i]'hi).Op=24∨(l[i]'hi).Op=25 then(farM l (l.drop i)).map fun x=>(0,1,x)else none:=by
  show(if opA (l.drop i) 0=24∨opA (l.drop i) 0=25 then _ else _)=_
  rw [o0]
 rw [hw0]
 have key:∀(R:V),V.on [] R=true→((if(l[i]'hi).Op=24∨(l[i]'hi).Op=25 then(farM l (l.drop i)).map fun x=>(0,1,x)else none:Option (Nat×Nat×List GIns))=none→R= .tup [.d (.sl []),oD false])→
   (∀x,(l[i]'hi).Op=24∨(l[i]'hi).Op=25→farM l (l.drop i)=some x→R= .tup [.d (.sl ((swapM l i 1 x).map GIns.enc)),oD true])→
   Pure prog 147 [.d (.sl (l.map GIns.enc)),iD i] R:=fun R hRon hR0 hR1=>by
  unfold farM at hR0 hR1
  rw [after_idx]at hR0 hR1
  rw [b0]at hx hR0 hR1
  rw [o0]at hR0 hR1
  refine Pure.run func147 rfl (by simp [f147,hRon]) ?_;simp [-cB,f147,hRon]
  intro bs
  refine AOps.weaken (Wk.freezeB 2 (ds:=[.sl (l.map GIns.enc)]) rfl) ?_
  simp [-cB]
  refine AOps.weaken (Wk.freezeB 3 (ds:=[.v (.int .i64 i)]) rfl) ?_
  simp [-cB]
  refine pC hx ?_
  cases hf:l.findIdx? (isLb (l[i]'hi).Arg)with
  | none=>
    have e:idxP (isLb (l[i]'hi).Arg) l= -1:=by unfold idxP;rw [hf]
    have hR:=hR0 (by rw [hf];split <;> rfl)
    rw [e]
    simp [-cB,g0,hi]
    refine pC hj ?_
    by_cases hjm:(l[i]'hi).Op=24∨(l[i]'hi).Op=25
    ·have hjb:(decide ((l[i]'hi).Op=24) || decide ((l[i]'hi).Op=25))=true:=by simpa using hjm
     simp [-cB,hjb,hR]
    ·have hjb:(decide ((l[i]'hi).Op=24) || decide ((l[i]'hi).Op=25))=false:=by simpa using hjm
     simp [-cB,hjb,hR]
  | some k=>
    have e:idxP (isLb (l[i]'hi).Arg) l=k:=by unfold idxP;rw [hf]
    rw [e]
    simp [-cB,g0,hi]
    refine pC hj ?_
    by_cases hjm:(l[i]'hi).Op=24∨(l[i]'hi).Op=25
    ·have hjb:(decide ((l[i]'hi).Op=24) || decide ((l[i]'hi).Op=25))=true:=by simpa using hjm
     obtain⟨hk,hk2,-⟩:=List.findIdx?_eq_some_iff_getElem.1 hf
     have hlab:(l[k]'hk).Op=38:=by unfold isLb at hk2;simp at hk2;exact hk2.1
     have hp:=pPast_ok l (by omega) k (by omega)
     have hln:labNo (l.drop k)=labNo (l.drop (k+1))+1:=by
      rw [List.drop_eq_getElem_cons hk,labNo,if_pos hlab]
     have hsp:=(labNo_spec (l.drop (k+1)))
     have hdw:=hsp.2.2.2.1
     have hle:=hsp.2.2.1
     rw [List.length_drop]at hle
     rw [List.drop_drop]at hdw
     rw [if_pos hjm,hf]at hR0
     rw [hf]at hR1
     simp only [Option.map_some,hdw]at hR0 hR1
     rw [hln]at hp
     have eq1:k+1+labNo (l.drop (k+1))=k+(labNo (l.drop (k+1))+1):=by omega
     rw [eq1]at hR0 hR1
     generalize labNo (l.drop (k+1))+1=N at *
     obtain⟨q,hq⟩:∃q:Nat,q=k+N:=⟨_,rfl⟩
     have hqi:(k:Int)+N=(q:Int):=by omega
     rw [hqi]at hp
     rw [←hq]at hR0 hR1
     have hk0:¬(k:Int) < 0:=by omega
     simp [-cB,hjb,hk0]
     refine pC hp ?_
     have hqn:((q:Int)).toNat=q:=by omega
     by_cases hql:q < l.length
     ·have gq:=List.getElem?_eq_getElem hql
      have ql':¬(l.length:Int)≤q:=by omega
      have oq:opA (l.drop q) 0=(l[q]'hql).Op:=by rw [opA_dp];simp [opA,gq]
      have aq:argA (l.drop q) 0=(l[q]'hql).Arg:=by rw [argA_dp];simp [argA,gq]
      rw [oq,aq]at hR0 hR1
      simp [-cB]
      refine AWP.regionD [] tmix (by kernel_rfl) (by rfl) ?_
      by_cases h24:(l[q]'hql).Op=24
      ·by_cases hsa:(l[q]'hql).Arg=(l[i]'hi).Arg
       ·have hR:=hR0 (by rw [if_neg (fun h=>h.2 hsa)];rfl)
        simp [-cB,gq,ql',hql,h24,hsa,hR,g0,hi]
       ·have hR:=hR1 _ hjm (if_pos ⟨h24,hsa⟩)
        simp [-cB,gq,ql',hql,h24,hsa,g0,hi]
        have hw:=pWith_ok l [⟨(l[i]'hi).Op,(l[q]'hql).Arg⟩] hl (by simp) i 1 (by omega)
        refine AWP.regionT [some (0,0),some (0,0),some (0,0),some (0,0),some (0,0),some (0,0),some (0,0),some (0,0),some (0,0),some (0,0),some (0,0),some (0,0),some (0,0),some (0,0),some (0,0),some (0,0),some (0,0)] [61] [.d (.sl [GIns.enc ⟨(l[i]'hi).Op,(l[q]'hql).Arg⟩]),.d (.sl ((swapM l i 1 [⟨(l[i]'hi).Op,(l[q]'hql).Arg⟩]).map GIns.enc))] tmix (by kernel_rfl) ?_
        simp [-cB,gq,hql,g0,hi,hR]
        exact⟨yop_build tySl_66 (by decide) (by decide) rfl (by simp) (by simp [dd,GIns.enc]) rfl (by simp [GIns.enc]),hw.ok _⟩
      ·have hR:=hR0 (by rw [if_neg (fun h=>h24 h.1)];rfl)
       simp [-cB,gq,ql',hql,h24,hR,g0,hi]
     ·have ql':(l.length:Int)≤q:=by omega
      have oq:opA (l.drop q) 0=0:=by rw [opA_dp];simp [opA,List.getElem?_eq_none (show l.length≤q by omega)]
      have hR:=hR0 (by rw [if_neg (fun h=>by rw [oq]at h;simp at h)];rfl)
      simp [-cB]
      refine AWP.regionD [] tmix (by kernel_rfl) (by rfl) ?_
      simp [-cB,ql',hR]
    ·have hjb:(decide ((l[i]'hi).Op=24) || decide ((l[i]'hi).Op=25))=false:=by simpa using hjm
     have hR:=hR0 (if_neg hjm)
     simp [-cB,hjb,hR]
 cases hz:(if(l[i]'hi).Op=24∨(l[i]'hi).Op=25 then(farM l (l.drop i)).map fun x=>(0,1,x)else none:Option (Nat×Nat×List GIns))with
 | none=>exact⟨[],noR l i _,key _ rfl (fun _=>rfl) (fun x h1 h2=>by rw [if_pos h1,h2]at hz;cases hz)⟩
 | some y=>
   refine⟨_,someR l i y,key _ rfl (fun h=>by rw [h]at hz;cases hz) (fun x h1 h2=>?_)⟩
   rw [if_pos h1,h2]at hz
   cases hz
   rfl
end Go.Ab
namespace Go.Ab
open Go.Proofs Go.Proofs.Tryz
set_option maxHeartbeats 8000000
set_option maxRecDepth 40000
abbrev WayOK(l:List GIns) (i k:Nat):Prop:=∃x:List GIns,offR l i (wayR l (l.drop i) k) x∧Pure prog 92 [.d (.sl (l.map GIns.enc)),iD k,iD i] (.tup [.d (.sl (x.map GIns.enc)),oD (wayR l (l.drop i) k).isSome])
theorem way0_ok(l:List GIns) (hl:l.length≤100000000000) (i:Nat) (hi:i < l.length):WayOK l i 0:=by
 obtain⟨x,hx,hq⟩:=pReckoned_ok l hl i hi
 refine⟨x,hx,?_⟩
 generalize (wayR l (l.drop i) 0).isSome=b at *
 ·have hk:((0:Nat):Int)=0:=rfl
  rw [hk]
  refine rn func92 ?_;simp [-cB,f92]
  intro bs
  refine AOps.weaken (Wk.freezeB 3 (ds:=[.sl (l.map GIns.enc)]) rfl) ?_
  simp [-cB]
  refine AOps.weaken (Wk.freezeB 5 (ds:=[.v (.int .i64 i)]) rfl) ?_
  simp [-cB]
  refine pC hq ?_
  simp [-cB]
theorem way1_ok(l:List GIns) (hl:l.length≤100000000000) (i:Nat) (hi:i < l.length):WayOK l i 1:=by
 obtain⟨x,hx,hq⟩:=pTurned_ok l hl i hi
 refine⟨x,hx,?_⟩
 generalize (wayR l (l.drop i) 1).isSome=b at *
 ·have hk:((1:Nat):Int)=1:=rfl
  rw [hk]
  refine rn func92 ?_;simp [-cB,f92]
  intro bs
  refine AOps.weaken (Wk.freezeB 3 (ds:=[.sl (l.map GIns.enc)]) rfl) ?_
  simp [-cB]
  refine AOps.weaken (Wk.freezeB 5 (ds:=[.v (.int .i64 i)]) rfl) ?_
  simp [-cB]
  refine pC hq ?_
  simp [-cB]
theorem way6_ok(l:List GIns) (hl:l.length≤100000000000) (i:Nat) (hi:i < l.length):WayOK l i 6:=by
 obtain⟨x,hx,hq⟩:=pNever_ok l hl i hi
 refine⟨x,hx,?_⟩
 generalize (wayR l (l.drop i) 6).isSome=b at *
 ·have hk:((6:Nat):Int)=6:=rfl
  rw [hk]
  refine rn func92 ?_;simp [-cB,f92]
  intro bs
  refine AOps.weaken (Wk.freezeB 3 (ds:=[.sl (l.map GIns.enc)]) rfl) ?_
  simp [-cB]
  refine AOps.weaken (Wk.freezeB 5 (ds:=[.v (.int .i64 i)]) rfl) ?_
  simp [-cB]
  refine pC hq ?_
  simp [-cB]
theorem way8_ok(l:List GIns) (hl:l.length≤100000000000) (i:Nat) (hi:i < l.length):WayOK l i 8:=by
 obtain⟨x,hx,hq⟩:=pFurther_ok l hl i hi
 refine⟨x,hx,?_⟩
 generalize (wayR l (l.drop i) 8).isSome=b at *
 ·have hk:((8:Nat):Int)=8:=rfl
  rw [hk]
  refine rn func92 ?_;simp [-cB,f92]
  intro bs
  refine AOps.weaken (Wk.freezeB 3 (ds:=[.sl (l.map GIns.enc)]) rfl) ?_
  simp [-cB]
  refine AOps.weaken (Wk.freezeB 5 (ds:=[.v (.int .i64 i)]) rfl) ?_
  simp [-cB]
  refine pC hq ?_
  simp [-cB]
theorem way2_ok(l:List GIns) (hl:l.length≤100000000000) (i:Nat) (hi:i < l.length):WayOK l i 2:=by
 have hq:=pIs_ok l (by omega) i (by omega) [10,10,25] (by simp)
 rw [isO3 _ (by decide) (by decide) (by decide)]at hq
 have hw0:wayR l (l.drop i) 2=if opA (l.drop i) 0=10∧opA (l.drop i) 1=10∧opA (l.drop i) 2=25 then some (0,2,[])else none:=rfl
 have hp:=pWith0_ok l hl i (min 2 (l.length-i)) (by omega)
 have hs:(wayR l (l.drop i) 2).isSome=decide (opA (l.drop i) 0=10∧opA (l.drop i) 1=10∧opA (l.drop i) 2=25):=by rw [hw0];split <;> simp [*]
 rw [←hs]at hq
 refine⟨swapM l i (min 2 (l.length-i)) [],?_,?_⟩
 ·intro y hy
  rw [hw0]at hy
  split at hy
  ·rename_i h
   have:=opA_lt (l:=l) (k:=i) (j:=2) (by rw [h.2.2];decide)
   cases hy
   rw [show min 2 (l.length-i)=2 by omega];rfl
  ·cases hy
 generalize (wayR l (l.drop i) 2).isSome=b at *
 have hmn:((min 2 (l.length-i):Nat):Int)=(if(l.length:Int)-i < 2 then(l.length:Int)-i else 2):=by split <;> omega
 rw [hmn]at hp
 have i1:inR .i64 ((l.length:Int)-i):=iW
 ·have hk:((2:Nat):Int)=2:=rfl
  rw [hk]
  refine rn func92 ?_;simp [-cB,f92]
  intro bs
  refine AWP.weaken (Wk.freezeB 3 (ds:=[.sl (l.map GIns.enc)]) rfl) ?_
  refine AWP.weaken (Wk.freezeB 5 (ds:=[.v (.int .i64 i)]) rfl) ?_
  simp [-cB]
  refine AWP.regionT [some (0,0),some (0,0),some (0,0),some (0,0),some (0,0),some (0,0),some (0,0),some (0,0),some (0,0),some (0,0),some (0,0),some (0,0),some (0,0),some (0,0)] [35] [.d (.sl ((swapM l i (min 2 (l.length-i)) []).map GIns.enc)),.d (.sl (encI [10,10,25])),oD b] tmix (by kernel_rfl) ?_
  simp [-cB,i1]
  exact⟨hp.ok _,yop_build tySl_23 (by decide) (by decide) rfl (by simp;decide) (by simp [dd,encI]) rfl (by simp [encI]),hq.ok _⟩
theorem way3_ok(l:List GIns) (hl:l.length≤100000000000) (i:Nat) (hi:i < l.length):WayOK l i 3:=by
 have g0:=List.getElem?_eq_getElem hi
 have b0:argA (l.drop i) 0=(l[i]'hi).Arg:=by rw [argA_dp];simp [argA,g0]
 have o0:opA (l.drop i) 0=(l[i]'hi).Op:=by rw [opA_dp];simp [opA,g0]
 have hq:=pIs_ok l (by omega) i (by omega) [1,25] (by simp)
 rw [isO2 _ (by decide) (by decide)]at hq
 have hz:=pZero_ok (l[i]'hi)
 rw [←b0]at hz
 have hw0:wayR l (l.drop i) 3=if opA (l.drop i) 0=1∧opA (l.drop i) 1=25∧wrapM (argA (l.drop i) 0)=0 then some (0,2,[⟨24,argA (l.drop i) 1⟩])else none:=rfl
 have i1:inR .i64 ((i:Int)+1):=iW
 have c1:((i:Int)+1).toNat=i+1:=by omega
 have z1:(0:Int)≤i+1:=by omega
 by_cases h2:opA (l.drop i) 0=1∧opA (l.drop i) 1=25
 ·have l1:i+1 < l.length:=opA_lt (l:=l) (k:=i) (j:=1) (by rw [h2.2];decide)
  have g1:=List.getElem?_eq_getElem l1
  have b1:argA (l.drop i) 1=(l[i+1]'l1).Arg:=by rw [argA_dp];simp [argA,g1]
  rw [decide_eq_true h2]at hq
  by_cases hw:wrapM (argA (l.drop i) 0)=0
  ·rw [decide_eq_true hw]at hz
   rw [if_pos ⟨h2.1,h2.2,hw⟩]at hw0
   refine⟨_,by rw [hw0];exact someR l i _,?_⟩
   rw [hw0]
   have hp:=pWith_ok l [⟨24,argA (l.drop i) 1⟩] hl (by simp) i 2 (by omega)
   simp only [b1]at hp ⊢
   have hk:((3:Nat):Int)=3:=rfl
   rw [hk]
   refine rn func92 ?_;simp [-cB,f92]
   intro bs
   refine AOps.weaken (Wk.freezeB 3 (ds:=[.sl (l.map GIns.enc)]) rfl) ?_
   simp [-cB]
   refine AOps.weaken (Wk.freezeB 5 (ds:=[.v (.int .i64 i)]) rfl) ?_
   simp [-cB]
   refine AOps.weaken (Wk.freeze 41 (ys:=encI [1,25]) rfl) ?_
   simp [-cB]
   refine pC hq ?_
   simp [-cB,g0,hi]
   refine AOps.pureG rfl (fun h=>hz) rfl (by first | rfl | (simp;done) | (simp;rfl)) (by simp) (by simp) rfl ?_
   simp [-cB]
   refine AWP.regionT [some (0,0),some (0,0),some (0,0),some (0,0),some (0,0),some (0,0),some (0,0),some (0,0),some (0,0),some (0,0),some (0,0),some (0,0),some (0,0)] [59] [.d (.sl [GIns.enc ⟨24,(l[i+1]'l1).Arg⟩]),.d (.sl ((swapM l i 2 [⟨24,(l[i+1]'l1).Arg⟩]).map GIns.enc))] tmix (by kernel_rfl) ?_
   simp [-cB,i1,c1,z1,g1,l1]
   exact⟨yop_build tySl_66 (by decide) (by decide) rfl (by simp) (by simp [dd,GIns.enc]) rfl (by simp [GIns.enc]),hp.ok _⟩
  ·rw [decide_eq_false hw]at hz
   rw [if_neg (fun h=>hw h.2.2)]at hw0
   refine⟨[],by rw [hw0];exact noR l i _,?_⟩
   rw [hw0]
   have hk:((3:Nat):Int)=3:=rfl
   rw [hk]
   refine rn func92 ?_;simp [-cB,f92]
   intro bs
   refine AOps.weaken (Wk.freezeB 3 (ds:=[.sl (l.map GIns.enc)]) rfl) ?_
   simp [-cB]
   refine AOps.weaken (Wk.freezeB 5 (ds:=[.v (.int .i64 i)]) rfl) ?_
   simp [-cB]
   refine AOps.weaken (Wk.freeze 41 (ys:=encI [1,25]) rfl) ?_
   simp [-cB]
   refine pC hq ?_
   simp [-cB,g0,hi]
   refine AOps.pureG rfl (fun h=>hz) rfl (by first | rfl | (simp;done) | (simp;rfl)) (by simp) (by simp) rfl ?_
   simp [-cB]
 ·rw [decide_eq_false h2]at hq
  rw [if_neg (fun h=>h2 ⟨h.1,h.2.1⟩)]at hw0
  refine⟨[],by rw [hw0];exact noR l i _,?_⟩
  rw [hw0]
  have hk:((3:Nat):Int)=3:=rfl
  rw [hk]
  refine rn func92 ?_;simp [-cB,f92]
  intro bs
  refine AOps.weaken (Wk.freezeB 3 (ds:=[.sl (l.map GIns.enc)]) rfl) ?_
  simp [-cB]
  refine AOps.weaken (Wk.freezeB 5 (ds:=[.v (.int .i64 i)]) rfl) ?_
  simp [-cB]
  refine AOps.weaken (Wk.freeze 41 (ys:=encI [1,25]) rfl) ?_
  simp [-cB]
  refine pC hq ?_
  simp [-cB,g0,hi]
  refine AOps.pureG (g:=false) (f:=142) (args:=[.agg ((l[i]'hi).enc.map .d)]) (x:=oD false) rfl (fun h=>by cases h) rfl (by first | rfl | (simp;done) | (simp;rfl)) (by simp) (by simp) rfl ?_
  simp [-cB]
theorem way4_ok(l:List GIns) (hl:l.length≤100000000000) (i:Nat) (hi:i < l.length):WayOK l i 4:=by
 have g0:=List.getElem?_eq_getElem hi
 have b0:argA (l.drop i) 0=(l[i]'hi).Arg:=by rw [argA_dp];simp [argA,g0]
 have o0:opA (l.drop i) 0=(l[i]'hi).Op:=by rw [opA_dp];simp [opA,g0]
 have hq:=pIs_ok l (by omega) i (by omega) [1,25] (by simp)
 rw [isO2 _ (by decide) (by decide)]at hq
 have hz:=pZero_ok (l[i]'hi)
 rw [←b0]at hz
 have hw0:wayR l (l.drop i) 4=if opA (l.drop i) 0=1∧opA (l.drop i) 1=25∧wrapM (argA (l.drop i) 0)≠0 then some (0,2,[])else none:=rfl
 have i1:inR .i64 ((i:Int)+1):=iW
 have c1:((i:Int)+1).toNat=i+1:=by omega
 have z1:(0:Int)≤i+1:=by omega
 by_cases h2:opA (l.drop i) 0=1∧opA (l.drop i) 1=25
 ·have l1:i+1 < l.length:=opA_lt (l:=l) (k:=i) (j:=1) (by rw [h2.2];decide)
  have g1:=List.getElem?_eq_getElem l1
  have b1:argA (l.drop i) 1=(l[i+1]'l1).Arg:=by rw [argA_dp];simp [argA,g1]
  rw [decide_eq_true h2]at hq
  by_cases hw:wrapM (argA (l.drop i) 0)=0
  ·rw [decide_eq_true hw]at hz
   rw [if_neg (fun h=>h.2.2 hw)]at hw0
   refine⟨[],by rw [hw0];exact noR l i _,?_⟩
   rw [hw0]
   have hk:((4:Nat):Int)=4:=rfl
   rw [hk]
   refine rn func92 ?_;simp [-cB,f92]
   intro bs
   refine AOps.weaken (Wk.freezeB 3 (ds:=[.sl (l.map GIns.enc)]) rfl) ?_
   simp [-cB]
   refine AOps.weaken (Wk.freezeB 5 (ds:=[.v (.int .i64 i)]) rfl) ?_
   simp [-cB]
   refine AOps.weaken (Wk.freeze 65 (ys:=encI [1,25]) rfl) ?_
   simp [-cB]
   refine pC hq ?_
   simp [-cB,g0,hi]
   refine AOps.pureG rfl (fun h=>hz) rfl (by first | rfl | (simp;done) | (simp;rfl)) (by simp) (by simp) rfl ?_
   simp [-cB]
  ·rw [decide_eq_false hw]at hz
   rw [if_pos ⟨h2.1,h2.2,hw⟩]at hw0
   refine⟨_,by rw [hw0];exact someR l i _,?_⟩
   rw [hw0]
   have hp:=pWith0_ok l hl i 2 (by omega)
   have hk:((4:Nat):Int)=4:=rfl
   rw [hk]
   refine rn func92 ?_;simp [-cB,f92]
   intro bs
   refine AOps.weaken (Wk.freezeB 3 (ds:=[.sl (l.map GIns.enc)]) rfl) ?_
   simp [-cB]
   refine AOps.weaken (Wk.freezeB 5 (ds:=[.v (.int .i64 i)]) rfl) ?_
   simp [-cB]
   refine AOps.weaken (Wk.freeze 65 (ys:=encI [1,25]) rfl) ?_
   simp [-cB]
   refine pC hq ?_
   simp [-cB,g0,hi]
   refine AOps.pureG rfl (fun h=>hz) rfl (by first | rfl | (simp;done) | (simp;rfl)) (by simp) (by simp) rfl ?_
   simp [-cB]
   refine pC hp ?_
   simp [-cB]
 ·rw [decide_eq_false h2]at hq
  rw [if_neg (fun h=>h2 ⟨h.1,h.2.1⟩)]at hw0
  refine⟨[],by rw [hw0];exact noR l i _,?_⟩
  rw [hw0]
  have hk:((4:Nat):Int)=4:=rfl
  rw [hk]
  refine rn func92 ?_;simp [-cB,f92]
  intro bs
  refine AOps.weaken (Wk.freezeB 3 (ds:=[.sl (l.map GIns.enc)]) rfl) ?_
  simp [-cB]
  refine AOps.weaken (Wk.freezeB 5 (ds:=[.v (.int .i64 i)]) rfl) ?_
  simp [-cB]
  refine AOps.weaken (Wk.freeze 65 (ys:=encI [1,25]) rfl) ?_
  simp [-cB]
  refine pC hq ?_
  simp [-cB,g0,hi]
  refine AOps.pureG (g:=false) (f:=142) (args:=[.agg ((l[i]'hi).enc.map .d)]) (x:=oD false) rfl (fun h=>by cases h) rfl (by first | rfl | (simp;done) | (simp;rfl)) (by simp) (by simp) rfl ?_
  simp [-cB]
theorem way5_ok(l:List GIns) (hl:l.length≤100000000000) (i:Nat) (hi:i < l.length):WayOK l i 5:=by
 have hq:=pIs_ok l (by omega) i (by omega) [1,2] (by simp)
 rw [isO2 _ (by decide) (by decide)]at hq
 have hw0:wayR l (l.drop i) 5=if opA (l.drop i) 0=1∧opA (l.drop i) 1=2 then some (0,2,[])else none:=rfl
 by_cases h2:opA (l.drop i) 0=1∧opA (l.drop i) 1=2
 ·have l1:i+1 < l.length:=opA_lt (l:=l) (k:=i) (j:=1) (by rw [h2.2];decide)
  rw [decide_eq_true h2]at hq
  rw [if_pos h2]at hw0
  refine⟨_,by rw [hw0];exact someR l i _,?_⟩
  rw [hw0]
  have hp:=pWith0_ok l hl i 2 (by omega)
  have hk:((5:Nat):Int)=5:=rfl
  rw [hk]
  refine rn func92 ?_;simp [-cB,f92]
  intro bs
  refine AOps.weaken (Wk.freezeB 3 (ds:=[.sl (l.map GIns.enc)]) rfl) ?_
  simp [-cB]
  refine AOps.weaken (Wk.freezeB 5 (ds:=[.v (.int .i64 i)]) rfl) ?_
  simp [-cB]
  refine AOps.weaken (Wk.freeze 82 (ys:=encI [1,2]) rfl) ?_
  simp [-cB]
  refine pC hq ?_
  simp [-cB]
  refine pC hp ?_
  simp [-cB]
 ·rw [decide_eq_false h2]at hq
  rw [if_neg h2]at hw0
  refine⟨[],by rw [hw0];exact noR l i _,?_⟩
  rw [hw0]
  have hk:((5:Nat):Int)=5:=rfl
  rw [hk]
  refine rn func92 ?_;simp [-cB,f92]
  intro bs
  refine AOps.weaken (Wk.freezeB 3 (ds:=[.sl (l.map GIns.enc)]) rfl) ?_
  simp [-cB]
  refine AOps.weaken (Wk.freezeB 5 (ds:=[.v (.int .i64 i)]) rfl) ?_
  simp [-cB]
  refine AOps.weaken (Wk.freeze 82 (ys:=encI [1,2]) rfl) ?_
  simp [-cB]
  refine pC hq ?_
  simp [-cB]
theorem pAsk_ok(l:List GIns) (i:Nat) (hi:i < l.length) (x:GIns):Pure prog 148 [.agg (x.enc.map .d),.rp [.sl (l.map GIns.enc)],.rp [.v (.int .i64 i)]] (oD ((decide (x.Op=24) || decide (x.Op=25)) && decide (x.Arg=argA (l.drop i) 0))):=by
 have g0:=List.getElem?_eq_getElem hi
 have b0:argA (l.drop i) 0=(l[i]'hi).Arg:=by rw [argA_dp];simp [argA,g0]
 have o0:opA (l.drop i) 0=(l[i]'hi).Op:=by rw [opA_dp];simp [opA,g0]
 have hj:=pJumps_ok x
 rw [b0]
 generalize (decide (x.Op=24) || decide (x.Op=25))=j at *
 refine rn func148 ?_;simp [-cB,f148]
 intro bs
 refine AWP.regionD [oD j] tmix (by kernel_rfl) (by rfl) ?_
 simp [-cB,g0,hi]
 exact hj.ok _
theorem way9_ok(l:List GIns) (hl:l.length≤100000000000) (i:Nat) (hi:i < l.length):WayOK l i 9:=by
 have g0:=List.getElem?_eq_getElem hi
 have b0:argA (l.drop i) 0=(l[i]'hi).Arg:=by rw [argA_dp];simp [argA,g0]
 have o0:opA (l.drop i) 0=(l[i]'hi).Op:=by rw [opA_dp];simp [opA,g0]
 have hx:=anyI_ok l (by omega) 148 [.rp [.sl (l.map GIns.enc)],.rp [.v (.int .i64 i)]] rfl (fun x=>(decide (x.Op=24) || decide (x.Op=25)) && decide (x.Arg=argA (l.drop i) 0)) (fun x _=>pAsk_ok l i hi x)
 have hask:l.any (fun x=>(decide (x.Op=24) || decide (x.Op=25)) && decide (x.Arg=argA (l.drop i) 0))=askedL l (argA (l.drop i) 0):=rfl
 rw [hask]at hx
 have hp:=pWith0_ok l hl i 1 (by omega)
 have hw0:wayR l (l.drop i) 9=if(l[i]'hi).Op=38∧askedL l (argA (l.drop i) 0)=false then some (0,1,[])else none:=by
  show(if opA (l.drop i) 0=38∧_ then _ else _)=_
  rw [o0]
 generalize askedL l (argA (l.drop i) 0)=A at *
 have hk:((9:Nat):Int)=9:=rfl
 by_cases hc:(l[i]'hi).Op=38∧A=false
 ·rw [if_pos hc]at hw0
  obtain⟨hc1,rfl⟩:=hc
  refine⟨_,by rw [hw0];exact someR l i _,?_⟩
  rw [hw0,hk]
  refine Pure.run func92 rfl (by simp [f92,g0,hi]) ?_;simp [-cB,f92,g0,hi]
  intro bs
  refine AOps.weaken (Wk.freezeB 3 (ds:=[.sl (l.map GIns.enc)]) rfl) ?_
  simp [-cB]
  refine AOps.weaken (Wk.freezeB 5 (ds:=[.v (.int .i64 i)]) rfl) ?_
  simp [-cB]
  simp [-cB,g0,hi,hc1]
  refine AOps.pureG rfl (fun h=>hx) rfl (by first | rfl | (simp;done) | (simp;rfl)) (by simp) (by simp) rfl ?_
  simp [-cB]
  refine pC hp ?_
  simp [-cB]
 ·rw [if_neg hc]at hw0
  refine⟨[],by rw [hw0];exact noR l i _,?_⟩
  rw [hw0,hk]
  by_cases hc1:(l[i]'hi).Op=38
  ·have hA:A=true:=by cases A with | true=>rfl | false=>exact(hc ⟨hc1,rfl⟩).elim
   subst hA
   refine Pure.run func92 rfl (by simp [f92,g0,hi]) ?_;simp [-cB,f92,g0,hi]
   intro bs
   refine AOps.weaken (Wk.freezeB 3 (ds:=[.sl (l.map GIns.enc)]) rfl) ?_
   simp [-cB]
   refine AOps.weaken (Wk.freezeB 5 (ds:=[.v (.int .i64 i)]) rfl) ?_
   simp [-cB]
   simp [-cB,g0,hi,hc1]
   refine AOps.pureG rfl (fun h=>hx) rfl (by first | rfl | (simp;done) | (simp;rfl)) (by simp) (by simp) rfl ?_
   simp [-cB]
  ·have hc2:((l[i]'hi).Op==38)=false:=by simpa using hc1
   refine Pure.run func92 rfl (by simp [f92,g0,hi]) ?_;simp [-cB,f92,g0,hi]
   intro bs
   refine AOps.weaken (Wk.freezeB 3 (ds:=[.sl (l.map GIns.enc)]) rfl) ?_
   simp [-cB]
   refine AOps.weaken (Wk.freezeB 5 (ds:=[.v (.int .i64 i)]) rfl) ?_
   simp [-cB]
   simp [-cB,g0,hi,hc1,hc2]
   refine AOps.pureG (g:=false) (f:=144) (args:=[.d (.sl (l.map GIns.enc)),.clo (.func 148) [] [.rp [.sl (l.map GIns.enc)],.rp [.v (.int .i64 i)]]]) (x:=oD false) rfl (fun h=>by cases h) rfl (by first | rfl | (simp;done) | (simp;rfl)) (by simp) (by simp) rfl ?_
   simp [-cB]
end Go.Ab
namespace Go.Ab
open Go.Proofs Go.Proofs.Tryz
set_option maxHeartbeats 8000000
set_option maxRecDepth 40000
theorem pLabs_ok(l:List GIns) (i:Nat) (hi:i < l.length) (x:GIns):Pure prog 146 [.agg (x.enc.map .d),.rp [.sl (l.map GIns.enc)],.rp [.v (.int .i64 i)]] (oD (decide (x.Arg=argA (l.drop i) 0))):=by
 have g0:=List.getElem?_eq_getElem hi
 have b0:argA (l.drop i) 0=(l[i]'hi).Arg:=by rw [argA_dp];simp [argA,g0]
 rw [b0]
 refine rn func146 ?_;simp [-cB,f146]
 intro bs
 refine AWP.regionD [] tmix (by kernel_rfl) (by rfl) ?_
 simp [-cB,g0,hi]
theorem yop_sliceG {P:Program} {ops:Array Oper} {o:Oper} {s:St} {t:TypeId} {xo:Operand} {lo hi:Option Operand} {x:V} {c:Prop} {b:Bool} (hop:o.op= .slice t xo lo hi none) (hgd:guardV ops s o=some (some b)) (h:sliceV P t ((s.ev xo).un) (lo.map fun z=>(s.ev z).un) (hi.map fun z=>(s.ev z).un)=some (x,c)) (hc:c)
  (hu:b=true→uncs s o.op.operands.toList):YOp P ops o s (.gd b x):=
 yop_guard hgd fun hb=>⟨fun z=>(s.ev z).un,fun z hz w O m v hr=>un_rel hr (uncs_mem (hu hb) z (by simpa using hz)),.of_Q fun fo m ρ w _ hr=>by
  obtain⟨v,h1,h2⟩:=sliceV_sound (ρ:=ρ) (ρa:=fun z=>(s.ev z).un) (w:=w) h hc (hr xo (by rw [hop];simp [Op.operands])) (fun y hy=>hr y (by rw [hop,hy];simp [Op.operands])) (fun y hy=>hr y (by rw [hop,hy];simp [Op.operands]))
  exact⟨v,by simp [execOp,hop,h1],h2⟩⟩
theorem way7_ok(l:List GIns) (hl:l.length≤100000000000) (i:Nat) (hi:i < l.length):WayOK l i 7:=by
 have g0:=List.getElem?_eq_getElem hi
 have o0:opA (l.drop i) 0=(l[i]'hi).Op:=by rw [opA_dp];simp [opA,g0]
 have et:(l.drop i).tail=l.drop (i+1):=by rw [List.tail_drop]
 obtain⟨-,-,hle,-,htw⟩:=labNo_spec (l.drop (i+1))
 have hw0:wayR l (l.drop i) 7=if(l[i]'hi).Op=24∧((l.drop (i+1)).take (labNo (l.drop (i+1)))).any (fun x=>decide (x.Arg=argA (l.drop i) 0))=true then some (0,1,[])else none:=by
  show(if opA (l.drop i) 0=24∧((l.drop i).tail.takeWhile isLab).any (fun x=>decide (x.Arg=argA (l.drop i) 0))=true then _ else _)=_
  rw [o0,et,htw]
 have hx:=anyI_ok ((l.drop (i+1)).take (labNo (l.drop (i+1)))) (by simp;omega) 146 [.rp [.sl (l.map GIns.enc)],.rp [.v (.int .i64 i)]] rfl (fun x=>decide (x.Arg=argA (l.drop i) 0)) (fun x _=>pLabs_ok l i hi x)
 have hp:=pWith0_ok l hl i 1 (by omega)
 have hps:=pPast_ok l (by omega) (i+1) (by omega)
 rw [List.length_drop]at hle
 simp only [Int.natCast_add,Int.natCast_one]at hps
 generalize ((l.drop (i+1)).take (labNo (l.drop (i+1)))).any (fun x=>decide (x.Arg=argA (l.drop i) 0))=A at *
 have hls:((l.drop (i+1)).take (labNo (l.drop (i+1))))=((l.take (i+1+labNo (l.drop (i+1)))).drop (i+1)):=by rw [List.drop_take];congr 1;omega
 rw [hls]at hx
 generalize labNo (l.drop (i+1))=N at *
 simp only [List.map_drop,List.map_take]at hx
 have i1:inR .i64 ((i:Int)+1):=iW
 have c1:((i:Int)+1).toNat=i+1:=by omega
 have cN:((i:Int)+1+N).toNat=i+1+N:=by omega
 have hk:((7:Nat):Int)=7:=rfl
 by_cases h24:(l[i]'hi).Op=24
 ·cases A with
  | true=>
    rw [if_pos ⟨h24,rfl⟩]at hw0
    refine⟨_,by rw [hw0];exact someR l i _,?_⟩
    rw [hw0,hk]
    refine Pure.run func92 rfl (by simp [f92,g0,hi]) ?_;simp [-cB,f92,g0,hi]
    intro bs
    refine AWP.weaken (Wk.freezeB 3 (ds:=[.sl (l.map GIns.enc)]) rfl) ?_
    refine AWP.weaken (Wk.freezeB 5 (ds:=[.v (.int .i64 i)]) rfl) ?_
    simp [-cB]
    refine AWP.regionT [some (0,0),some (0,0),some (0,0),some (0,0),some (0,0),some (0,0),some (0,0),some (0,0),some (0,0),some (0,0),some (0,0),some (0,0),some (0,0),some (0,0),some (0,0),some (0,0),some (0,0),some (0,0)] [110] [iD ((i:Int)+1+N),.gd true (.d (.sl (((l.take (i+1+N)).drop (i+1)).map GIns.enc))),oD true] tmix (by kernel_rfl) ?_
    simp [-cB,g0,hi,h24,i1]
    refine⟨hps.ok _,?_,hx.ok _,?_⟩
    ·exact yop_sliceG rfl rfl (by simp [sliceV,bndV,c1,cN];rfl) (by first | omega | (simp;omega)) (by simp [uncs])
    ·refine pC hp ?_
     simp [-cB]
  | false=>
    rw [if_neg (fun h=>by simp at h)]at hw0
    refine⟨[],by rw [hw0];exact noR l i _,?_⟩
    rw [hw0,hk]
    refine Pure.run func92 rfl (by simp [f92,g0,hi]) ?_;simp [-cB,f92,g0,hi]
    intro bs
    refine AWP.weaken (Wk.freezeB 3 (ds:=[.sl (l.map GIns.enc)]) rfl) ?_
    refine AWP.weaken (Wk.freezeB 5 (ds:=[.v (.int .i64 i)]) rfl) ?_
    simp [-cB]
    refine AWP.regionT [some (0,0),some (0,0),some (0,0),some (0,0),some (0,0),some (0,0),some (0,0),some (0,0),some (0,0),some (0,0),some (0,0),some (0,0),some (0,0),some (0,0),some (0,0),some (0,0),some (0,0),some (0,0)] [110] [iD ((i:Int)+1+N),.gd true (.d (.sl (((l.take (i+1+N)).drop (i+1)).map GIns.enc))),oD false] tmix (by kernel_rfl) ?_
    simp [-cB,g0,hi,h24,i1]
    refine⟨hps.ok _,?_,hx.ok _⟩
    exact yop_sliceG rfl rfl (by simp [sliceV,bndV,c1,cN];rfl) (by first | omega | (simp;omega)) (by simp [uncs])
 ·rw [if_neg (fun h=>h24 h.1)]at hw0
  refine⟨[],by rw [hw0];exact noR l i _,?_⟩
  rw [hw0,hk]
  have h24':((l[i]'hi).Op==24)=false:=by simpa using h24
  ·skip
   refine Pure.run func92 rfl (by simp [f92,g0,hi]) ?_;simp [-cB,f92,g0,hi]
   intro bs
   refine AWP.weaken (Wk.freezeB 3 (ds:=[.sl (l.map GIns.enc)]) rfl) ?_
   refine AWP.weaken (Wk.freezeB 5 (ds:=[.v (.int .i64 i)]) rfl) ?_
   simp [-cB]
   refine AWP.regionT [some (0,0),some (0,0),some (0,0),some (0,0),some (0,0),some (0,0),some (0,0),some (0,0),some (0,0),some (0,0),some (0,0),some (0,0),some (0,0),some (0,0),some (0,0),some (0,0),some (0,0),some (0,0)] [110] [iD ((i:Int)+1+N),.gd false (.d (.sl (((l.take (i+1+N)).drop (i+1)).map GIns.enc))),oD false] tmix (by kernel_rfl) ?_
   simp [-cB,g0,hi,h24,h24',i1]
   exact yop_guard rfl (fun h=>by cases h)
end Go.Ab
namespace Go.Ab
open Go.Proofs Go.Proofs.Tryz
theorem takeWhile_len {α:Type} {p:α→Bool}:∀(r:List α) (i:Nat),(∀x∈r.take i,p x=true)→(∀x,r[i]?=some x→p x=false)→i≤r.length→(r.takeWhile p).length=i
 | [],i,_,_,h=>by simp at h;simp [h]
 | x::r,0,_,h,_=>by
   have:=h x rfl
   rw [List.takeWhile_cons,if_neg (by simp [this])];rfl
 | x::r,i+1,h1,h2,h3=>by
   rw [List.takeWhile_cons,if_pos (h1 x (by simp))]
   simp only [List.length_cons]
   rw [takeWhile_len r i (fun y hy=>h1 y (by simp [hy])) (fun y hy=>h2 y (by simpa using hy)) (by simpa using h3)]
def labI(l:List GIns) (n:Int):Int:=match l.findIdx? (fun i=>decide (i.Op=38) && decide (i.Arg=n))with
 | some k=>k
 | none=> -1
theorem take_mem_snoc {α:Type} {l:List α} {i:Nat} {x y:α} (h:l[i]?=some x) (hy:y∈l.take (i+1)):y∈l.take i∨y=x:=by
 rw [List.take_add_one]at hy
 rcases List.mem_append.1 hy with h1 | h1
 ·exact Or.inl h1
 ·rw [h]at h1;simp at h1;exact Or.inr h1
theorem where29_ok(l:List GIns) (hl:l.length≤100000000000) (n:Int):Pure prog 221 [insD l,iD n] (iD (labI l n)):=by
 refine rn func221 ?_;simp [-cB,f221]
 refine AWP.loopS [0,1,5] l.length (fun i=> [(5,iD i)]) (fun _=> []) (fun i=>∀y∈l.take i,(decide (y.Op=38) && decide (y.Arg=n))=false) (by rfl) (by simp) ?_
 intro i hi hH
 rcases Nat.lt_or_eq_of_le hi with hlt | heq
 ·have hx:l[i]?=some l[i]:=List.getElem?_eq_getElem hlt
  have h64:inR .i64 ((i:Int)+1):=iW
  by_cases hp:(decide (l[i].Op=38) && decide (l[i].Arg=n))=true
  ·have hv:labI l n=i:=by
    unfold labI
    have:l.findIdx? (fun i=>decide (i.Op=38) && decide (i.Arg=n))=some i:=by
     rw [List.findIdx?_eq_some_iff_getElem]
     refine⟨hlt,hp,fun j hj=>?_⟩
     have hjl:j < l.length:=by omega
     have:=hH l[j] (List.mem_take_iff_getElem.2 ⟨j,by omega,rfl⟩)
     simpa using this
    rw [this]
   rw [Bool.and_eq_true,decide_eq_true_eq,decide_eq_true_eq]at hp
   simp [hlt,hp.1,hp.2,hv]
  ·have hn:∀y∈l.take (i+1),(decide (y.Op=38) && decide (y.Arg=n))=false:=by
    intro y hy
    rcases take_mem_snoc hx hy with h | rfl
    ·exact hH y h
    ·simpa using hp
   simp [-cB,hlt,h64]
   refine condC_split (fun h=>?_) (fun h=>?_)
   ·exact(hp h).elim
   ·simp [-cB,h64,hlt]
    exact fun y hy=>by simpa using hn y hy
 ·have hv:labI l n= -1:=by
   unfold labI
   have:l.findIdx? (fun i=>decide (i.Op=38) && decide (i.Arg=n))=none:=by
    rw [List.findIdx?_eq_none_iff]
    intro y hy
    exact hH y (by rw [heq,List.take_length];exact hy)
   rw [this]
  simp [heq,hv]
theorem behind29_ok(l:List GIns) (hl:l.length≤100000000000) (k:Nat) (hk:k≤l.length):Pure prog 220 [insD l,iD k] (iD ((k+((l.drop k).takeWhile isLab).length:Nat):Int)):=by
 refine rn func220 ?_;simp [-cB,f220]
 refine AWP.loopS [0,1] (l.length-k) (fun i=> [(1,iD ((k+i:Nat):Int))]) (fun _=> []) (fun i=>∀y∈(l.drop k).take i,isLab y=true) (by rfl) (by simp) ?_
 intro i hi hH
 have h64:inR .i64 ((k:Int)+i+1):=iW
 have ht:((k:Int)+i).toNat=k+i:=by omega
 by_cases hlt:k+i < l.length
 ·have hlt':(k:Int)+i < l.length:=by omega
  have hx:(l.drop k)[i]?=some l[k+i]:=by rw [List.getElem?_drop,List.getElem?_eq_getElem hlt]
  have hgd:l[k+i]?.getD GIns.zero=l[k+i]:=by rw [List.getElem?_eq_getElem hlt];rfl
  have h0:0≤(k:Int)+i:=by omega
  by_cases hp:l[k+i].Op=38
  ·have hn:∀y∈(l.drop k).take (i+1),isLab y=true:=by
    intro y hy
    rcases take_mem_snoc hx hy with h | rfl
    ·exact hH y h
    ·simp [isLab,hp]
   simp [hlt',ht,hp,h64,h0,hlt]
   exact⟨by omega,by omega,hn⟩
  ·have hv:((l.drop k).takeWhile isLab).length=i:=takeWhile_len _ i hH (fun x hx'=>by rw [hx]at hx';cases hx';simp [isLab,hp]) (by simp;omega)
   simp [hlt',ht,hp,h0,hlt,hv]
 ·have hlt':¬(k:Int)+i < l.length:=by omega
  have hv:((l.drop k).takeWhile isLab).length=i:=takeWhile_len _ i hH (fun x hx'=>by rw [List.getElem?_drop,List.getElem?_eq_none (by omega)]at hx';cases hx') (by simp;omega)
  simp [hlt',hv]
theorem asked29_ok(l:List GIns) (hl:l.length≤100000000000) (n:Int):Pure prog 199 [insD l,iD n] (oD (askedL l n)):=by
 refine rn func199 ?_;simp [-cB,f199]
 refine AWP.loopS [0,1,5] l.length (fun i=> [(5,iD i)]) (fun _=> []) (fun i=>askedL (l.take i) n=false) (by rfl) (by simp [askedL]) ?_
 intro i hi hH
 rcases Nat.lt_or_eq_of_le hi with hlt | heq
 ·have hx:l[i]?=some l[i]:=List.getElem?_eq_getElem hlt
  have h64:inR .i64 ((i:Int)+1):=iW
  by_cases hp:(l[i].Op=24∨l[i].Op=25)∧l[i].Arg=n
  ·have hv:askedL l n=true:=by
    unfold askedL
    refine List.any_eq_true.2 ⟨l[i],List.getElem_mem hlt,?_⟩
    simp [hp.1,hp.2]
   rcases hp.1 with h | h
   ·simp [hlt,h,hp.2,hv]
   ·simp [hlt,h,hp.2,hv]
  ·have hn:askedL (l.take (i+1)) n=false:=by
    unfold askedL at hH ⊢
    rw [List.take_add_one,hx,List.any_append,hH]
    simp only [Option.toList,List.any_cons,List.any_nil,Bool.or_false,Bool.false_or,Bool.and_eq_false_iff,Bool.or_eq_false_iff,decide_eq_false_iff_not]
    by_cases h:l[i].Op=24∨l[i].Op=25
    ·exact Or.inr fun h2=>hp ⟨h,h2⟩
    ·exact Or.inl (by omega)
   simp [-cB,hlt,h64]
   refine condC_split (fun h=>?_) (fun h=>?_)
   ·exact(hp (by simpa using h)).elim
   ·simp [-cB,h64,hlt]
    exact hn
 ·have hv:askedL l n=false:=by rw [heq,List.take_length]at hH;exact hH
  simp [heq,hv]
end Go.Ab

/-
 The texts Z V T Gs Q Lp Wr Fam Pn Rf Rg Rh Ri Sc Bfits Pd Df Dg Dh Di Rj Nl Nx Pe Wlet Wall Bfits2,one behind the other.
-/
import Derived.Test.YtchpgmihhgodkaaGreatMg2
import Derived.JoinedCond
import Derived.Deep.CondSized
import Derived.Test.YtchpgmihhgodkaaGreatProg
import Derived.KernelRfl
import Derived.RangeFuncIn
import Derived.Lib.Builder
import Derived.Laws.Externs
import Derived.RecoverIn
import Derived.WalkSpells
set_option linter.unusedSimpArgs false
set_option linter.unusedVariables false
namespace Go.Ab
open Go.ChangeShapes Go.WideShapes Go.RowKit
def argV(P:Program) (t:TypeId) (ys:List D):V:=
 match P.underlying t with
 | some (.struct _) | some (.array _ _)=> .agg (ys.map .d)
 | _=>match ys with
   | [y]=> .d y
   | _=> .any
section
variable {H : Type} {enc : TypeId × Value → H} {P : Program} {w : World}
theorem argV_rel {base} {t} {v} {ys} (hc:RelC w v.cells.toList ys) (hok:Value.okWide P w .any base t v):RelV w (OO (⟨fun _=>False,[],none,false⟩:FO) noneM) noneM v (argV P t ys):=by
 have up:∀x y,RelD w (fun _=>False) x y→RelD w (OO (⟨fun _=>False,[],none,false⟩:FO) noneM) x y:=fun x y h=>
  h.mono (Keep.refl _ _) (fun b _ ho=>by rcases ho with ho | ho;exact absurd ho (noneM_own b);exact ho)
 have ag:∀cs,v= .agg cs→RelV w (OO (⟨fun _=>False,[],none,false⟩:FO) noneM) noneM v (.agg (ys.map .d)):=by
  rintro cs rfl
  have hcs:(Value.agg cs).cells.toList=cs.toList:=rfl
  rw [hcs]at hc
  refine .agg cs _ (by simpa using hc.1) (fun j x hx=>?_) (fun j x y hx hy=>?_)
  ·have hj:j < ys.length:=by rw [←hc.1];grind
   exact(hc.2 j x _ (by grind) (List.getElem?_eq_getElem hj)).1
  ·simp [List.getElem?_map,Option.map_eq_some_iff]at hy
   obtain⟨y',hy',rfl⟩:=hy
   exact .d _ _ (up _ _ (hc.2 j x _ (by grind) hy').2)
 unfold argV
 split
 ·grind [Value.okWide]
 ·grind [Value.okWide]
 ·split
  ·rename_i y
   have hne:∀cs,v≠ .agg cs:=by
    rintro cs rfl
    simp_all [Value.okWide,Cell.okWide,Cell.ok]
   have hcells:v.cells.toList=[v]:=by
    cases v <;> first | rfl | grind
   rw [hcells]at hc
   exact .d _ _ (up _ _ (hc.2 0 v y rfl rfl).2)
  ·exact .any _
theorem open_all(hf:fineB P=true) {base}:∀(ts:List TypeId) vs ds ps,(∀t∈ts,t < P.types.size)→
  DataW.TrodAll enc P w 0 (fun _=>true) true ts vs ds ps→(∀n∈DataW.weightsEach P ts ds,n≤reachBytes)→
  (∀(j:Nat) t v,ts[j]?=some t→vs[j]?=some v→Value.okWide P w .any base t v)→
  ∃yss:List (List D),yss.length=ts.length∧(∀(i:Nat) t ys,ts[i]?=some t→yss[i]?=some ys→HasT P t ys)∧vs.length=ts.length∧ds.length=ts.length∧bDss yss≤bulkAll ds∧
   ∀(j:Nat) x y,vs[j]?=some x→((ts.zip yss).map fun p=>argV P p.1 p.2)[j]?=some y→RelV w (OO (⟨fun _=>False,[],none,false⟩:FO) noneM) noneM x y
 | [],[],[],_,_,_,_,_=>⟨[],rfl,by simp,rfl,rfl,by simp [bDss],by simp⟩
 | t::ts,v::vs,d::ds,ps,ht,h,hw,hok=>by
   obtain⟨p,q,h0,hr,rfl⟩:=h
   simp [DataW.weightsEach,List.mem_append]at hw
   obtain⟨yss,a1,a2,a3,a4,a6,a5⟩:=open_all hf ts vs ds q (fun t h=>ht t (List.mem_cons_of_mem _ h)) hr (fun n hn=>hw n (.inr hn)) (fun j t v h1 h2=>hok (j+1) t v (by grind) (by grind))
   obtain⟨fuel,h0⟩:=h0
   obtain⟨ys,b1,b2,b3⟩:=open_trod hf fuel t _ d p (ht t List.mem_cons_self) h0 (fun n hn=>hw n (.inl hn))
   refine⟨ys::yss,by grind,fun i t' ys' hi hy=>?_,by grind,by grind,by grind [bDss,bulkAll],fun j x y hx hy=>?_⟩
   ·grind
   ·cases j with
    | zero=>simp at hx hy;subst hx;subst hy;exact argV_rel b1 (hok 0 t v rfl rfl)
    | succ j=>exact a5 j x y (by grind) (by grind)
 | [],[],_::_,_,_,h,_,_=>h.elim
 | [],_::_,_,_,_,h,_,_=>h.elim
 | _::_,[],_,_,_,h,_,_=>h.elim
 | _::_,_::_,[],_,_,h,_,_=>h.elim
theorem trod_all_stays(hl:laidOutB P=true) {W W'} (hb:Below W.heap.size W W'):∀ts vs ds ps,(∀t∈ts,P.readableRec t=true∧t < P.types.size)→
  DataW.TrodAll enc P W 0 (fun _=>true) true ts vs ds ps→(∀x∈ps,x.block < W.heap.size)→DataW.TrodAll enc P W' 0 (fun b=>decide (b < W.heap.size)) true ts vs ds ps
 | [],[],[],_,_,h,_=>h
 | t::ts,v::vs,d::ds,ps,ht,h,hlt=>by
   obtain⟨p,q,h0,hr,rfl⟩:=h
   exact⟨p,q,Below.trod hl (ht t List.mem_cons_self).1 (ht t List.mem_cons_self).2 h0 hb (fun x hx=>hlt x (List.mem_append_left _ hx)),
    trod_all_stays hl hb ts vs ds q (fun t h=>ht t (List.mem_cons_of_mem _ h)) hr (fun x hx=>hlt x (List.mem_append_right _ hx)),rfl⟩
 | [],[],_::_,_,_,h,_=>h.elim
 | [],_::_,_,_,_,h,_=>h.elim
 | _::_,[],_,_,_,h,_=>h.elim
 | _::_,_::_,[],_,_,h,_=>h.elim
end
theorem Globs.nil(h:globs=[]) (w:World) (O:Nat→Prop):Globs w O:=by intro p hp;rw [h]at hp;cases hp
theorem row_lifted(hgl:globs=[]) {H:Type} {enc:TypeId×Value→H} {C:Checked} {os:Os} {f:FuncId} {fn:Func} {s:ChangeSpec} {a:Assume} {conds:List PathCond} {fresh handsOn:Bool} (tb:TypeId)
  (own:ownKnob C.prog.godebug=none) (started:os.Started) (noInit:C.prog.inits.idxOf? f=none) (hfn:C.prog.funcs[f]?=some fn)
  (witness:∃(w:World) (tape:Tape) (i:Input),w.os=os∧(w.forCall tape i).Shaped C.prog∧i.vars=[]∧Input.okWide C.prog (w.forCall tape i) .any w.heap.size f i∧
   s.pre6 enc C.prog fn conds false (w.forCall tape i).memory i.args∧a.holds C.prog (lone (Frame.enter C.prog f i.args .normal) [] (w.forCall tape i)))
  (hfine:fineB C.prog=true) (laid:laidOutB C.prog=true)
  (hps:fn.params.toList.all (fun t=>C.prog.readableRec t && decide (t < C.prog.types.size))=true)
  (hres:fn.resultTypes= #[tb]) (htb:C.prog.underlying tb=some .bool) (hv:s.vars=[])
  (hs:∀ds:List (DataW H),ds.length=fn.params.size→s.fn H ds={results:=[.lit (.bool true)],args:=ds})
  (walk:∀yss:List (List D),yss.length=fn.params.size→(∀(i:Nat) t ys,fn.params[i]?=some t→yss[i]?=some ys→HasT C.prog t ys)→
   ACalls C.prog f ((fn.params.toList.zip yss).map fun p=>argV C.prog p.1 p.2) [] (fun r _=>r= .ret (oD true))):
  ReturnsInHanded a C os f .any (s.pre6 enc C.prog fn conds false) (s.post enc C.prog fn false fresh handsOn false):=by
 refine returnsInHanded_of_change_sized own started noInit hfn witness ?_
 intro W base args ds gs before hval hW _ hwt _
 have hW':=hW
 obtain⟨p,q,hA,hV,rfl,hfz,hnd⟩:=hW
 rw [hv]at hV
 obtain⟨rfl,rfl⟩:=trodVars_none hV
 simp only [List.append_nil]at hwt hW' ⊢
 rw [show s.plain.varTypes C.prog=[] by simp [ChangeSpec.plain,DataSpec.varTypes,hv],List.append_nil]at hwt
 have hps':∀t∈fn.params.toList,C.prog.readableRec t=true∧t < C.prog.types.size:=fun t h=>by
  have:=List.all_eq_true.1 hps t h
  simpa using this
 obtain⟨yss,y1,y2,y3,y4,y6,y5⟩:=open_all (base:=base) hfine fn.params.toList args.toList ds p (fun t h=>(hps' t h).2) hA (fun n hn=>by simpa using List.all_eq_true.1 hwt n hn) (fun j t v h1 h2=>hval j t v (by simpa using h1) (by simpa using h2))
 have hc:=walk yss (by simpa using y1) (fun i t ys h1 h2=>y2 i t ys (by simpa using h1) h2)
 refine(hc (⟨fun _=>False,[],none,false⟩:FO) noneM W args ⟨by simp [keys],by simp [noneM],by simp [noneM],by simp [noneM],by simp,by simp,Globs.nil hgl _ _⟩ ⟨by simp at y1 y3;simp [y1,y3],fun j x y hx hy=>y5 j x y (by simpa using hx) hy⟩).mono fun e W' ⟨m',r,L',hr,he,hi,hst⟩=>?_
 subst hr
 cases e with
 | returned v=>
   simp only [Ends]at he
   have hb:=he.bool_inv
   subst hb
   have bel:Below W.heap.size W W':=⟨hst.os,hst.tape,hst.output,hst.size,fun k hk=>hst.block k hk (noneM_own k)⟩
   have hlt:∀x∈p,x.block < W.heap.size:=fun x hx=>hW'.lt x (by simpa using hx)
   refine⟨_,rfl,ds,[],p++ [],[],p,[],by simpa using hW',?_,?_,by simp [hv,DataW.TrodVars,List.append_nil,hs ds (by simpa using y4)],bel.frame _,fun h=>by cases h⟩
   ·rw [List.append_nil,hs ds (by simpa using y4),hres]
    exact trodAll_mk1 (shut_bool htb _)
   ·rw [List.append_nil,hs ds (by simpa using y4)]
    exact trod_all_stays laid bel _ _ _ _ hps' hA hlt
 | panicked c=>simp only [Ends]at he
 | _=>simp only [Ends]at he
theorem row_lifted_upto(hgl:globs=[]) {H:Type} {enc:TypeId×Value→H} {C:Checked} {os:Os} {f:FuncId} {fn:Func} {s:OpenSpec} {k:(H:Type)→List (DataW H)→Bool} (hk:s.cond=some k) {F:Stop.Interp} {a:Assume} {conds:List PathCond} {fresh handsOn:Bool} (tb:TypeId)
  (own:ownKnob C.prog.godebug=none) (started:os.Started) (noInit:C.prog.inits.idxOf? f=none) (hfn:C.prog.funcs[f]?=some fn)
  (witness:∃(w:World) (tape:Tape) (i:Input),w.os=os∧(w.forCall tape i).Shaped C.prog∧i.vars=[]∧Input.okWide C.prog (w.forCall tape i) .any w.heap.size f i∧
   s.pre6 enc C.prog fn conds false (w.forCall tape i).memory i.args∧a.holds C.prog (lone (Frame.enter C.prog f i.args .normal) [] (w.forCall tape i)))
  (hfine:fineB C.prog=true) (laid:laidOutB C.prog=true)
  (hps:fn.params.toList.all (fun t=>C.prog.readableRec t && decide (t < C.prog.types.size))=true)
  (hres:fn.resultTypes= #[tb]) (htb:C.prog.underlying tb=some .bool) (hv:s.vars=[]) (hvb:s.bare.vars=[]) (hva:(s.at F).vars=[]) (N:Nat) (hN:∀ds:List (DataW H),k H ds=true→bulkAll ds≤N)
  (hs:∀ds:List (DataW H),ds.length=fn.params.size→(s.at F).fn H ds={results:=[.lit (.bool true)],args:=ds})
  (walk:∀yss:List (List D),yss.length=fn.params.size→(∀(i:Nat) t ys,fn.params[i]?=some t→yss[i]?=some ys→HasT C.prog t ys)→bDss yss≤N→
   ACalls C.prog f ((fn.params.toList.zip yss).map fun p=>argV C.prog p.1 p.2) [] (fun r _=>r= .ret (oD true))):
  ReturnsInHanded a C os f .any (s.pre6 enc C.prog fn conds false) ((s.at F).post enc C.prog fn false fresh handsOn false):=by
 refine returnsInHanded_of_cond_sized hk own started noInit hfn witness ?_
 intro W base args ds gs before hval hW _ hkk hwt _
 have hW':=hW
 obtain⟨p,q,hA,hV,rfl,hfz,hnd⟩:=hW
 rw [hv]at hV
 obtain⟨rfl,rfl⟩:=trodVars_none hV
 simp only [List.append_nil]at hwt hW' hkk ⊢
 rw [show s.bare.plain.varTypes C.prog=[] by simp [ChangeSpec.plain,DataSpec.varTypes,hvb],List.append_nil]at hwt
 have hps':∀t∈fn.params.toList,C.prog.readableRec t=true∧t < C.prog.types.size:=fun t h=>by
  have:=List.all_eq_true.1 hps t h
  simpa using this
 obtain⟨yss,y1,y2,y3,y4,y6,y5⟩:=open_all (base:=base) hfine fn.params.toList args.toList ds p (fun t h=>(hps' t h).2) hA (fun n hn=>by simpa using List.all_eq_true.1 hwt n hn) (fun j t v h1 h2=>hval j t v (by simpa using h1) (by simpa using h2))
 have hc:=walk yss (by simpa using y1) (fun i t ys h1 h2=>y2 i t ys (by simpa using h1) h2) (Nat.le_trans y6 (hN _ hkk))
 refine(hc (⟨fun _=>False,[],none,false⟩:FO) noneM W args ⟨by simp [keys],by simp [noneM],by simp [noneM],by simp [noneM],by simp,by simp,Globs.nil hgl _ _⟩ ⟨by simp at y1 y3;simp [y1,y3],fun j x y hx hy=>y5 j x y (by simpa using hx) hy⟩).mono fun e W' ⟨m',r,L',hr,he,hi,hst⟩=>?_
 subst hr
 cases e with
 | returned v=>
   simp only [Ends]at he
   have hb:=he.bool_inv
   subst hb
   have bel:Below W.heap.size W W':=⟨hst.os,hst.tape,hst.output,hst.size,fun k hk=>hst.block k hk (noneM_own k)⟩
   have hlt:∀x∈p,x.block < W.heap.size:=fun x hx=>hW'.lt x (by simpa using hx)
   refine⟨_,rfl,ds,[],p++ [],[],p,[],by rw [hva];rw [hv]at hW';simpa using hW',?_,?_,by simp [hva,DataW.TrodVars,List.append_nil,hs ds (by simpa using y4)],bel.frame _,fun h=>by cases h⟩
   ·rw [List.append_nil,hs ds (by simpa using y4),hres]
    exact trodAll_mk1 (shut_bool htb _)
   ·rw [List.append_nil,hs ds (by simpa using y4)]
    exact trod_all_stays laid bel _ _ _ _ hps' hA hlt
 | panicked c=>simp only [Ends]at he
 | _=>simp only [Ends]at he
end Go.Ab
namespace Go.Ab
inductive TK where
 | bool
 | int (k:IntKind)
 | str
 | sl (e:TypeId) (bytes:Nat)
 | st (ts:List TypeId)
 | arr (n:Nat) (e:TypeId)
 | oth
def tyK(P:Program) (t:TypeId):TK:=match P.underlying t with
 | some .bool=> .bool
 | some (.int k)=> .int k
 | some .string=> .str
 | some (.slice e)=> .sl e (P.bytesOf e)
 | some (.struct fs)=> .st (fs.toList.map (·.type))
 | some (.array n e)=> .arr n e
 | _=> .oth
section
variable {P : Program} {t : TypeId} {ys : List D}
theorem HasT.bool_inv(h:HasT P t ys) (hk:tyK P t= .bool):∃b,ys=[.v (.bool b)]:=by
 cases h with
 | bool b u=>exact⟨b,rfl⟩
 | int n u h=>simp [tyK,u]at hk
 | str s u h=>simp [tyK,u]at hk
 | sl xs u hx hl hw=>simp [tyK,u]at hk
 | struct yss u hl h=>simp [tyK,u]at hk
 | arr yss u hl h=>simp [tyK,u]at hk
 | other y u=>
   unfold tyK at hk
   split at hk <;> first | (simp_all [otherT];done) | cases hk
theorem HasT.int_inv {k:IntKind} (h:HasT P t ys) (hk:tyK P t= .int k):∃n,ys=[.v (.int k n)]∧inR k n:=by
 cases h with
 | bool b u=>simp [tyK,u]at hk
 | int n u h=>simp [tyK,u]at hk;subst hk;exact⟨n,rfl,h⟩
 | str s u h=>simp [tyK,u]at hk
 | sl xs u hx hl hw=>simp [tyK,u]at hk
 | struct yss u hl h=>simp [tyK,u]at hk
 | arr yss u hl h=>simp [tyK,u]at hk
 | other y u=>
   unfold tyK at hk
   split at hk <;> first | (simp_all [otherT];done) | cases hk
theorem HasT.str_inv(h:HasT P t ys) (hk:tyK P t= .str):∃s,ys=[.v (.string s)]∧s.size≤140737488351232:=by
 cases h with
 | bool b u=>simp [tyK,u]at hk
 | int n u h=>simp [tyK,u]at hk
 | str s u h=>exact⟨s,rfl,h⟩
 | sl xs u hx hl hw=>simp [tyK,u]at hk
 | struct yss u hl h=>simp [tyK,u]at hk
 | arr yss u hl h=>simp [tyK,u]at hk
 | other y u=>
   unfold tyK at hk
   split at hk <;> first | (simp_all [otherT];done) | cases hk
theorem HasT.sl_inv {e:TypeId} {b:Nat} (h:HasT P t ys) (hk:tyK P t= .sl e b):∃xs,ys=[.sl xs]∧(∀x∈xs,HasT P e x)∧xs.length≤9223372036854775807∧xs.length *b≤140737488351232:=by
 cases h with
 | bool b u=>simp [tyK,u]at hk
 | int n u h=>simp [tyK,u]at hk
 | str s u h=>simp [tyK,u]at hk
 | sl xs u hx hl hw=>
   simp only [tyK,u,TK.sl.injEq]at hk
   obtain⟨rfl,rfl⟩:=hk
   exact⟨xs,rfl,fun x hx'=>by obtain⟨i,hi⟩:=List.getElem?_of_mem hx';exact hx i x hi,hl,hw⟩
 | struct yss u hl h=>simp [tyK,u]at hk
 | arr yss u hl h=>simp [tyK,u]at hk
 | other y u=>
   unfold tyK at hk
   split at hk <;> first | (simp_all [otherT];done) | cases hk
def HasTs(P:Program):List TypeId→List D→Prop
 | [],ys=>ys=[]
 | t::ts,ys=>∃a b,ys=a++b∧HasT P t a∧HasTs P ts b
theorem hasTs_of:∀(fs:List Field) (yss:List (List D)),yss.length=fs.length→(∀(i:Nat) (f:Field) (ys:List D),fs[i]?=some f→yss[i]?=some ys→HasT P f.type ys)→HasTs P (fs.map (·.type)) yss.flatten
 | [],[],_,_=>rfl
 | f::fs,y::yss,hl,h=>⟨y,yss.flatten,by simp,h 0 f y rfl rfl,hasTs_of fs yss (by simpa using hl) (fun i f' ys h1 h2=>h (i+1) f' ys (by simpa using h1) (by simpa using h2))⟩
 | [],_::_,hl,_=>by simp at hl
 | _::_,[],hl,_=>by simp at hl
theorem HasT.st_inv {ts:List TypeId} (h:HasT P t ys) (hk:tyK P t= .st ts):HasTs P ts ys:=by
 cases h with
 | bool b u=>simp [tyK,u]at hk
 | int n u h=>simp [tyK,u]at hk
 | str s u h=>simp [tyK,u]at hk
 | sl xs u hx hl hw=>simp [tyK,u]at hk
 | struct yss u hl h=>
   simp only [tyK,u,TK.st.injEq]at hk
   subst hk
   exact hasTs_of _ yss (by simpa using hl) (fun i f ys h1 h2=>h i f ys (by simpa using h1) h2)
 | arr yss u hl h=>simp [tyK,u]at hk
 | other y u=>
   unfold tyK at hk
   split at hk <;> first | (simp_all [otherT];done) | cases hk
end
theorem map_of {α:Type} {f:α→List D} {p:α→Prop}:∀{xs:List (List D)},(∀x∈xs,∃a,x=f a∧p a)→∃l:List α,xs=l.map f∧∀a∈l,p a
 | [],_=>⟨[],rfl,by simp⟩
 | x::xs,h=>by
   obtain⟨a,rfl,ha⟩:=h x List.mem_cons_self
   obtain⟨l,rfl,hl⟩:=map_of (fun y hy=>h y (List.mem_cons_of_mem _ hy))
   exact⟨a::l,rfl,by simpa using⟨ha,hl⟩⟩
end Go.Ab
namespace Go.Ab
open Go.Proofs Go.Proofs.Tryz
@[simp] theorem tyG0:tyA prog 3=some (false,1)∧tyZ0 prog 3=[D.v (.int .i64 0)]∧tyInt prog 3=some .i64∧tyZV prog 3=some (V.d (D.v (.int .i64 0)))∧tyA prog 4=some (false,1)∧tyZ0 prog 4=[D.v (.bool false)]∧tyBool prog 4=true∧tyZ prog 4=some [.bool false]∧tyZV prog 4=some (V.d (D.v (.bool false)))∧tyInt prog 5=some .u8∧tyA prog 9=some (false,1)∧tyStr prog 9=true∧tyZ0 prog 9=[D.v (.string ⟨#[]⟩)]∧tyConc prog 9=true∧tyA prog 22=some (false,1)∧tyE prog 22=some (9,1)∧tySl prog 22=some (9,1,16,[.string ⟨#[]⟩])∧tyA prog 23=some (false,1)∧tySrc prog 23=true∧tyZ0 prog 23=[D.sl []]∧tyE prog 23=some (3,1):=by and_intros <;> kernel_rfl
@[simp] theorem tySl_23:tySl prog 23=some (3,1,8,[.int .i64 0]):=by kernel_rfl
@[simp] theorem tyG1:tyArr prog 23=none∧tyA prog 24=some (false,1)∧tyE prog 24=some (49,9)∧tySl prog 24=some (49,9,136,[.int .i64 0,.int .i64 0,.int .i64 0,.int .i64 0,.bool false,.slice none 0 0,.slice none 0 0,.slice none 0 0,.slice none 0 0])∧tyA prog 25=some (false,1)∧tyE prog 25=some (55,2)∧tySl prog 25=some (55,2,32,[.bool false,.slice none 0 0])∧tyA prog 26=some (false,1)∧tyE prog 26=some (57,6)∧tySl prog 26=some (57,6,48,[.int .i64 0,.int .i64 0,.int .i64 0,.int .i64 0,.int .i64 0,.int .i64 0])∧tyA prog 28=some (true,15)∧tyZ0 prog 28=[D.v (.int .i64 0),D.v (.int .i64 0),D.v (.int .i64 0),D.v (.int .i64 0),D.sl [],D.v (.int .i64 0),D.sl [],D.sl [],D.sl [],D.sl [],D.sl [],D.sl [],D.sl [],D.sl [],D.sl []]∧tyZ prog 28=some [.int .i64 0,.int .i64 0,.int .i64 0,.int .i64 0,.slice none 0 0,.int .i64 0,.slice none 0 0,.slice none 0 0,.slice none 0 0,.slice none 0 0,.slice none 0 0,.slice none 0 0,.slice none 0 0,.slice none 0 0,.slice none 0 0]∧tyF prog 28 0=some (0,false,1)∧tyF prog 28 1=some (1,false,1)∧tyF prog 28 2=some (2,false,1)∧tyF prog 28 3=some (3,false,1)∧tyF prog 28 4=some (4,false,1)∧tyF prog 28 5=some (5,false,1)∧tyF prog 28 6=some (6,false,1)∧tyF prog 28 7=some (7,false,1)∧tyF prog 28 8=some (8,false,1)∧tyF prog 28 9=some (9,false,1)∧tyF prog 28 10=some (10,false,1):=by and_intros <;> kernel_rfl
@[simp] theorem tyG2:tyF prog 28 11=some (11,false,1)∧tyF prog 28 12=some (12,false,1)∧tyF prog 28 13=some (13,false,1)∧tyF prog 28 14=some (14,false,1)∧tyB prog 28=some ([.int .i64 0,.int .i64 0,.int .i64 0,.int .i64 0,.slice none 0 0,.int .i64 0,.slice none 0 0,.slice none 0 0,.slice none 0 0,.slice none 0 0,.slice none 0 0,.slice none 0 0,.slice none 0 0,.slice none 0 0,.slice none 0 0],[(0,1),(1,1),(2,1),(3,1),(4,1),(5,1),(6,1),(7,1),(8,1),(9,1),(10,1),(11,1),(12,1),(13,1),(14,1)])∧tyA prog 29=some (false,1)∧tyE prog 29=some (45,1)∧tySl prog 29=some (45,1,24,[.slice none 0 0])∧tyA prog 31=some (true,16)∧tyZ prog 31=some [.int .i64 0,.int .i64 0,.int .i64 0,.int .i64 0,.slice none 0 0,.int .i64 0,.slice none 0 0,.slice none 0 0,.slice none 0 0,.slice none 0 0,.slice none 0 0,.slice none 0 0,.slice none 0 0,.slice none 0 0,.slice none 0 0,.slice none 0 0]∧tyF prog 31 0=some (0,true,15)∧tyF prog 31 1=some (15,false,1)∧tyB prog 31=some ([.int .i64 0,.int .i64 0,.int .i64 0,.int .i64 0,.slice none 0 0,.int .i64 0,.slice none 0 0,.slice none 0 0,.slice none 0 0,.slice none 0 0,.slice none 0 0,.slice none 0 0,.slice none 0 0,.slice none 0 0,.slice none 0 0,.slice none 0 0],[(0,15),(15,1)])∧tyA prog 34=some (false,1)∧tyStr prog 34=false∧tySrc prog 34=true∧tyZ0 prog 34=[D.sl []]∧tyE prog 34=some (5,1):=by and_intros <;> kernel_rfl
@[simp] theorem tySl_34:tySl prog 34=some (5,1,1,[.int .u8 0]):=by kernel_rfl
@[simp] theorem tyG3:tyA prog 36=some (true,17)∧tyZ prog 36=some [.int .i64 0,.int .i64 0,.int .i64 0,.int .i64 0,.slice none 0 0,.int .i64 0,.slice none 0 0,.slice none 0 0,.slice none 0 0,.slice none 0 0,.slice none 0 0,.slice none 0 0,.slice none 0 0,.slice none 0 0,.slice none 0 0,.slice none 0 0,.slice none 0 0]∧tyF prog 36 0=some (0,true,15)∧tyF prog 36 1=some (15,false,1)∧tyF prog 36 2=some (16,false,1)∧tyB prog 36=some ([.int .i64 0,.int .i64 0,.int .i64 0,.int .i64 0,.slice none 0 0,.int .i64 0,.slice none 0 0,.slice none 0 0,.slice none 0 0,.slice none 0 0,.slice none 0 0,.slice none 0 0,.slice none 0 0,.slice none 0 0,.slice none 0 0,.slice none 0 0,.slice none 0 0],[(0,15),(15,1),(16,1)])∧tyA prog 45=some (false,1)∧tyZ0 prog 45=[D.sl []]∧tyE prog 45=some (60,6)∧tySl prog 45=some (60,6,104,[.int .i64 0,.int .i64 0,.string ⟨#[]⟩,.slice none 0 0,.slice none 0 0,.slice none 0 0])∧tyA prog 47=some (false,1)∧tyE prog 47=some (84,4)∧tyA prog 49=some (true,9)∧tyZ0 prog 49=[D.v (.int .i64 0),D.v (.int .i64 0),D.v (.int .i64 0),D.v (.int .i64 0),D.v (.bool false),D.sl [],D.sl [],D.sl [],D.sl []]∧tyZ prog 49=some [.int .i64 0,.int .i64 0,.int .i64 0,.int .i64 0,.bool false,.slice none 0 0,.slice none 0 0,.slice none 0 0,.slice none 0 0]∧tyF prog 49 0=some (0,false,1)∧tyF prog 49 1=some (1,false,1)∧tyF prog 49 2=some (2,false,1)∧tyF prog 49 3=some (3,false,1)∧tyF prog 49 4=some (4,false,1)∧tyF prog 49 5=some (5,false,1)∧tyF prog 49 6=some (6,false,1)∧tyF prog 49 7=some (7,false,1)∧tyF prog 49 8=some (8,false,1):=by and_intros <;> kernel_rfl
@[simp] theorem tyG4:tyB prog 49=some ([.int .i64 0,.int .i64 0,.int .i64 0,.int .i64 0,.bool false,.slice none 0 0,.slice none 0 0,.slice none 0 0,.slice none 0 0],[(0,1),(1,1),(2,1),(3,1),(4,1),(5,1),(6,1),(7,1),(8,1)])∧tyA prog 51=some (true,2)∧tyZ0 prog 51=[D.v (.int .i64 0),D.sl []]∧tyZ prog 51=some [.int .i64 0,.slice none 0 0]∧tyF prog 51 0=some (0,false,1)∧tyF prog 51 1=some (1,false,1)∧tyB prog 51=some ([.int .i64 0,.slice none 0 0],[(0,1),(1,1)])∧tyA prog 52=some (false,1)∧tyZ0 prog 52=[D.sl []]∧tyE prog 52=some (51,2)∧tySl prog 52=some (51,2,32,[.int .i64 0,.slice none 0 0])∧tyA prog 53=some (false,1)∧tyE prog 53=some (52,1)∧tySl prog 53=some (52,1,24,[.slice none 0 0])∧tyA prog 55=some (true,2)∧tyZ0 prog 55=[D.v (.bool false),D.sl []]∧tyZ prog 55=some [.bool false,.slice none 0 0]∧tyF prog 55 1=some (1,false,1)∧tyB prog 55=some ([.bool false,.slice none 0 0],[(0,1),(1,1)])∧tyA prog 57=some (true,6)∧tyZ0 prog 57=[D.v (.int .i64 0),D.v (.int .i64 0),D.v (.int .i64 0),D.v (.int .i64 0),D.v (.int .i64 0),D.v (.int .i64 0)]∧tyZ prog 57=some [.int .i64 0,.int .i64 0,.int .i64 0,.int .i64 0,.int .i64 0,.int .i64 0]∧tyF prog 57 0=some (0,false,1)∧tyF prog 57 1=some (1,false,1):=by and_intros <;> kernel_rfl
@[simp] theorem tyG5:tyF prog 57 2=some (2,false,1)∧tyF prog 57 3=some (3,false,1)∧tyF prog 57 4=some (4,false,1)∧tyF prog 57 5=some (5,false,1)∧tyB prog 57=some ([.int .i64 0,.int .i64 0,.int .i64 0,.int .i64 0,.int .i64 0,.int .i64 0],[(0,1),(1,1),(2,1),(3,1),(4,1),(5,1)])∧tyA prog 58=some (false,1)∧tyE prog 58=some (113,5)∧tyA prog 60=some (true,6)∧tyZ0 prog 60=[D.v (.int .i64 0),D.v (.int .i64 0),D.v (.string ⟨#[]⟩),D.sl [],D.sl [],D.sl []]∧tyZ prog 60=some [.int .i64 0,.int .i64 0,.string ⟨#[]⟩,.slice none 0 0,.slice none 0 0,.slice none 0 0]∧tyF prog 60 0=some (0,false,1)∧tyF prog 60 1=some (1,false,1)∧tyF prog 60 2=some (2,false,1)∧tyF prog 60 3=some (3,false,1)∧tyF prog 60 4=some (4,false,1)∧tyF prog 60 5=some (5,false,1)∧tyB prog 60=some ([.int .i64 0,.int .i64 0,.string ⟨#[]⟩,.slice none 0 0,.slice none 0 0,.slice none 0 0],[(0,1),(1,1),(2,1),(3,1),(4,1),(5,1)])∧tyA prog 66=some (false,1)∧tyStr prog 66=false∧tySrc prog 66=true∧tyZ0 prog 66=[D.sl []]∧tyE prog 66=some (93,2):=by and_intros <;> kernel_rfl
@[simp] theorem tySl_66:tySl prog 66=some (93,2,16,[.int .i64 0,.int .i64 0]):=by kernel_rfl
@[simp] theorem tyG6:tyA prog 70=some (false,1)∧tyZ prog 70=some [.nilFunc]∧tyA prog 79=some (false,1)∧tyE prog 79=some (4,1)∧tySl prog 79=some (4,1,1,[.bool false])∧tyF prog 81 0=some (0,true,15)∧tyF prog 81 1=some (15,false,1)∧tyF prog 81 2=some (16,false,1)∧tyF prog 81 3=some (17,false,1)∧tyB prog 81=some ([.int .i64 0,.int .i64 0,.int .i64 0,.int .i64 0,.slice none 0 0,.int .i64 0,.slice none 0 0,.slice none 0 0,.slice none 0 0,.slice none 0 0,.slice none 0 0,.slice none 0 0,.slice none 0 0,.slice none 0 0,.slice none 0 0,.slice none 0 0,.slice none 0 0,.slice none 0 0],[(0,15),(15,1),(16,1),(17,1)])∧tyA prog 84=some (true,4)∧tyZ0 prog 84=[D.v (.int .i64 0),D.v (.int .i64 0),D.v (.int .i64 0),D.v (.int .i64 0)]∧tyZ prog 84=some [.int .i64 0,.int .i64 0,.int .i64 0,.int .i64 0]∧tyF prog 84 0=some (0,false,1)∧tyF prog 84 1=some (1,false,1)∧tyF prog 84 2=some (2,false,1)∧tyF prog 84 3=some (3,false,1)∧tyA prog 89=some (false,1)∧tyM prog 89=some (.int .i64,3)∧tyF prog 91 0=some (0,false,1)∧tyF prog 91 1=some (1,false,1)∧tyF prog 91 2=some (2,false,1)∧tyF prog 91 3=some (3,false,1)∧tyB prog 91=some ([.slice none 0 0,.slice none 0 0,.slice none 0 0,.map none],[(0,1),(1,1),(2,1),(3,1)]):=by and_intros <;> kernel_rfl
@[simp] theorem tyG7:tyA prog 93=some (true,2)∧tyZ0 prog 93=[D.v (.int .i64 0),D.v (.int .i64 0)]∧tyZ prog 93=some [.int .i64 0,.int .i64 0]∧tyF prog 93 0=some (0,false,1)∧tyF prog 93 1=some (1,false,1)∧tyB prog 93=some ([.int .i64 0,.int .i64 0],[(0,1),(1,1)])∧tyA prog 98=some (false,1)∧tySrc prog 98=true∧tyZ0 prog 98=[D.sl []]∧tyE prog 98=some (93,2):=by and_intros <;> kernel_rfl
@[simp] theorem tySl_98:tySl prog 98=some (93,2,16,[.int .i64 0,.int .i64 0]):=by kernel_rfl
@[simp] theorem tyG8:tyA prog 101=some (false,1)∧tyZ0 prog 101=[D.v (.pointer none)]∧tyF prog 103 0=some (0,false,1)∧tyF prog 103 1=some (1,false,1)∧tyB prog 103=some ([.slice none 0 0,.int .i64 0],[(0,1),(1,1)])∧tyA prog 113=some (true,5)∧tyZ0 prog 113=[D.v (.int .i64 0),D.v (.int .i64 0),D.v (.int .i64 0),D.v (.string ⟨#[]⟩),D.sl []]∧tyZ prog 113=some [.int .i64 0,.int .i64 0,.int .i64 0,.string ⟨#[]⟩,.slice none 0 0]∧tyF prog 113 0=some (0,false,1)∧tyF prog 113 1=some (1,false,1)∧tyF prog 113 2=some (2,false,1)∧tyF prog 113 3=some (3,false,1)∧tyF prog 113 4=some (4,false,1)∧tyA prog 115=some (false,1)∧tyA prog 116=some (false,1)∧tyA prog 118=some (true,3)∧tyZ prog 118=some [.nilFunc,.nilFunc,.int .i64 0]∧tyF prog 118 0=some (0,false,1)∧tyF prog 118 1=some (1,false,1)∧tyF prog 118 2=some (2,false,1)∧tyB prog 118=some ([.nilFunc,.nilFunc,.int .i64 0],[(0,1),(1,1),(2,1)])∧tyM prog 123=some (.int .i64,4)∧tyInt prog 126=some .i16∧tyA prog 138=some (false,1):=by and_intros <;> kernel_rfl
@[simp] theorem tyG9:tyZ prog 138=some [.nilFunc]∧tyA prog 150=some (true,39)∧tyZ prog 150=some [.string ⟨#[]⟩,.string ⟨#[]⟩,.string ⟨#[]⟩,.string ⟨#[]⟩,.string ⟨#[]⟩,.string ⟨#[]⟩,.string ⟨#[]⟩,.string ⟨#[]⟩,.string ⟨#[]⟩,.string ⟨#[]⟩,.string ⟨#[]⟩,.string ⟨#[]⟩,.string ⟨#[]⟩,.string ⟨#[]⟩,.string ⟨#[]⟩,.string ⟨#[]⟩,.string ⟨#[]⟩,.string ⟨#[]⟩,.string ⟨#[]⟩,.string ⟨#[]⟩,.string ⟨#[]⟩,.string ⟨#[]⟩,.string ⟨#[]⟩,.string ⟨#[]⟩,.string ⟨#[]⟩,.string ⟨#[]⟩,.string ⟨#[]⟩,.string ⟨#[]⟩,.string ⟨#[]⟩,.string ⟨#[]⟩,.string ⟨#[]⟩,.string ⟨#[]⟩,.string ⟨#[]⟩,.string ⟨#[]⟩,.string ⟨#[]⟩,.string ⟨#[]⟩,.string ⟨#[]⟩,.string ⟨#[]⟩,.string ⟨#[]⟩]∧tyArr prog 150=some (39,false,1)∧tyB prog 150=some ([.string ⟨#[]⟩,.string ⟨#[]⟩,.string ⟨#[]⟩,.string ⟨#[]⟩,.string ⟨#[]⟩,.string ⟨#[]⟩,.string ⟨#[]⟩,.string ⟨#[]⟩,.string ⟨#[]⟩,.string ⟨#[]⟩,.string ⟨#[]⟩,.string ⟨#[]⟩,.string ⟨#[]⟩,.string ⟨#[]⟩,.string ⟨#[]⟩,.string ⟨#[]⟩,.string ⟨#[]⟩,.string ⟨#[]⟩,.string ⟨#[]⟩,.string ⟨#[]⟩,.string ⟨#[]⟩,.string ⟨#[]⟩,.string ⟨#[]⟩,.string ⟨#[]⟩,.string ⟨#[]⟩,.string ⟨#[]⟩,.string ⟨#[]⟩,.string ⟨#[]⟩,.string ⟨#[]⟩,.string ⟨#[]⟩,.string ⟨#[]⟩,.string ⟨#[]⟩,.string ⟨#[]⟩,.string ⟨#[]⟩,.string ⟨#[]⟩,.string ⟨#[]⟩,.string ⟨#[]⟩,.string ⟨#[]⟩,.string ⟨#[]⟩],[(0,1),(1,1),(2,1),(3,1),(4,1),(5,1),(6,1),(7,1),(8,1),(9,1),(10,1),(11,1),(12,1),(13,1),(14,1),(15,1),(16,1),(17,1),(18,1),(19,1),(20,1),(21,1),(22,1),(23,1),(24,1),(25,1),(26,1),(27,1),(28,1),(29,1),(30,1),(31,1),(32,1),(33,1),(34,1),(35,1),(36,1),(37,1),(38,1)])∧tyE prog 153=some (34,1):=by and_intros <;> kernel_rfl
@[simp] theorem tySl_153:tySl prog 153=some (34,1,24,[.slice none 0 0]):=by kernel_rfl
@[simp] theorem tyG10:tyA prog 163=some (true,5)∧tyZ prog 163=some [.bool false,.bool false,.bool false,.int .i64 0,.int .i64 0]∧tyF prog 163 0=some (0,false,1)∧tyF prog 163 1=some (1,false,1)∧tyF prog 163 2=some (2,false,1)∧tyF prog 163 3=some (3,false,1)∧tyF prog 163 4=some (4,false,1)∧tyB prog 163=some ([.bool false,.bool false,.bool false,.int .i64 0,.int .i64 0],[(0,1),(1,1),(2,1),(3,1),(4,1)])∧tyA prog 167=some (true,3)∧tyZ prog 167=some [.int .i64 0,.int .i64 0,.string ⟨#[]⟩]∧tyEq prog 167=some [.i .i64,.i .i64,.s]∧tyF prog 167 0=some (0,false,1)∧tyF prog 167 1=some (1,false,1)∧tyF prog 167 2=some (2,false,1)∧tyB prog 167=some ([.int .i64 0,.int .i64 0,.string ⟨#[]⟩],[(0,1),(1,1),(2,1)])∧tyA prog 170=some (true,5)∧tyZ prog 170=some [.bool false,.bool false,.bool false,.int .i64 0,.int .i64 0]∧tyF prog 170 0=some (0,false,1)∧tyF prog 170 1=some (1,false,1)∧tyF prog 170 2=some (2,false,1)∧tyF prog 170 3=some (3,false,1)∧tyF prog 170 4=some (4,false,1)∧tyB prog 170=some ([.bool false,.bool false,.bool false,.int .i64 0,.int .i64 0],[(0,1),(1,1),(2,1),(3,1),(4,1)])∧tyA prog 182=some (true,13):=by and_intros <;> kernel_rfl
@[simp] theorem tyG11:tyF prog 182 1=some (1,false,1)∧tyF prog 182 2=some (2,false,1)∧tyF prog 182 3=some (3,false,1)∧tyB prog 182=some ([.slice none 0 0,.slice none 0 0,.slice none 0 0,.slice none 0 0,.slice none 0 0,.slice none 0 0,.slice none 0 0,.int .u64 0,.int .i64 0,.int .i64 0,.int .i64 0,.int .i64 0,.int .i64 0],[(0,1),(1,1),(2,1),(3,1),(4,1),(5,1),(6,1),(7,1),(8,1),(9,1),(10,1),(11,1),(12,1)])∧tyE prog 202=some (98,1):=by and_intros <;> kernel_rfl
@[simp] theorem tySl_202:tySl prog 202=some (98,1,24,[.slice none 0 0]):=by kernel_rfl
theorem entA:(List.range 240).all (fun k=>enters prog k ||!decide (3≤k∧k < 240))=true:=by kernel_rfl
@[simp] theorem entB {k:Nat} (h:3≤k∧k < 240):enters prog k=true:=by
 have:=List.all_eq_true.1 entA k (List.mem_range.2 (by omega))
 simpa [h]using this
end Go.Ab
namespace Go.Ab
open Go.Proofs Go.Proofs.Tryz
structure GWay where
 Dir:Int
 To:Int
 When:Int
 Else:Int
 deriving DecidableEq
def GWay.enc(x:GWay):List D:=[D.v (.int .i64 x.Dir),D.v (.int .i64 x.To),D.v (.int .i64 x.When),D.v (.int .i64 x.Else)]
@[simp] theorem GWay.enc_length(x:GWay):x.enc.length=4:=rfl
@[simp] theorem GWay.enc_0(x:GWay):x.enc[0]?=some (D.v (.int .i64 x.Dir)):=rfl
@[simp] theorem GWay.encg_0(x:GWay) (h:0 < x.enc.length):x.enc[0]=D.v (.int .i64 x.Dir):=rfl
@[simp] theorem GWay.enc_1(x:GWay):x.enc[1]?=some (D.v (.int .i64 x.To)):=rfl
@[simp] theorem GWay.encg_1(x:GWay) (h:1 < x.enc.length):x.enc[1]=D.v (.int .i64 x.To):=rfl
@[simp] theorem GWay.enc_2(x:GWay):x.enc[2]?=some (D.v (.int .i64 x.When)):=rfl
@[simp] theorem GWay.encg_2(x:GWay) (h:2 < x.enc.length):x.enc[2]=D.v (.int .i64 x.When):=rfl
@[simp] theorem GWay.enc_3(x:GWay):x.enc[3]?=some (D.v (.int .i64 x.Else)):=rfl
@[simp] theorem GWay.encg_3(x:GWay) (h:3 < x.enc.length):x.enc[3]=D.v (.int .i64 x.Else):=rfl
def GWay.zero:GWay:=⟨0,0,0,0⟩
@[simp] theorem GWay.getZ(o:Option GWay):(o.map GWay.enc).getD [D.v (.int .i64 0),D.v (.int .i64 0),D.v (.int .i64 0),D.v (.int .i64 0)]=(o.getD GWay.zero).enc:=by cases o <;> rfl
@[simp] theorem GWay.dropAll(x:GWay):List.drop 4 x.enc=[]:=rfl
@[simp] theorem GWay.dropAllv(x:GWay):List.drop 4 (x.enc.map V.d)=[]:=rfl
@[simp] theorem GWay.enc_all(x:GWay):x.enc.take 4=x.enc:=rfl
@[simp] theorem GWay.enc_allv(x:GWay):List.take 4 (x.enc.map V.d)=x.enc.map V.d:=rfl
def GWay.wf(x:GWay):Prop:=inR .i64 x.Dir∧inR .i64 x.To∧inR .i64 x.When∧inR .i64 x.Else
theorem tyK_84:tyK prog 84= .st [3,3,3,3]:=by kernel_rfl
theorem tyK_3:tyK prog 3= .int .i64:=by kernel_rfl
theorem GWay.of {ys:List D} (h:HasT prog 84 ys):∃x:GWay,ys=x.enc∧x.wf:=by
 have h':=HasT.st_inv h tyK_84
 obtain⟨a0_,r0,hr0,t0,h0⟩:=h'
 obtain⟨a1_,r1,hr1,t1,h1⟩:=h0
 obtain⟨a2_,r2,hr2,t2,h2⟩:=h1
 obtain⟨a3_,r3,hr3,t3,h3⟩:=h2
 simp only [HasTs]at h3
 subst h3
 subst hr3
 subst hr2
 subst hr1
 subst hr0
 obtain⟨a0_',rfl,a0_w⟩:=HasT.int_inv t0 tyK_3
 obtain⟨a1_',rfl,a1_w⟩:=HasT.int_inv t1 tyK_3
 obtain⟨a2_',rfl,a2_w⟩:=HasT.int_inv t2 tyK_3
 obtain⟨a3_',rfl,a3_w⟩:=HasT.int_inv t3 tyK_3
 exact⟨⟨a0_',a1_',a2_',a3_'⟩,rfl,⟨a0_w,a1_w,a2_w,a3_w⟩⟩
structure GThing where
 Title:Int
 Text:Int
 Parent:Int
 Flags:Int
 Room:Bool
 Props:(List Int)
 Words:(List ByteArray)
 Adjs:(List ByteArray)
 Ways:(List GWay)
 deriving DecidableEq
def GThing.enc(x:GThing):List D:=[D.v (.int .i64 x.Title),D.v (.int .i64 x.Text),D.v (.int .i64 x.Parent),D.v (.int .i64 x.Flags),D.v (.bool x.Room),D.sl (encI x.Props),D.sl (encS x.Words),D.sl (encS x.Adjs),D.sl (x.Ways.map GWay.enc)]
@[simp] theorem GThing.enc_length(x:GThing):x.enc.length=9:=rfl
@[simp] theorem GThing.enc_0(x:GThing):x.enc[0]?=some (D.v (.int .i64 x.Title)):=rfl
@[simp] theorem GThing.encg_0(x:GThing) (h:0 < x.enc.length):x.enc[0]=D.v (.int .i64 x.Title):=rfl
@[simp] theorem GThing.enc_1(x:GThing):x.enc[1]?=some (D.v (.int .i64 x.Text)):=rfl
@[simp] theorem GThing.encg_1(x:GThing) (h:1 < x.enc.length):x.enc[1]=D.v (.int .i64 x.Text):=rfl
@[simp] theorem GThing.enc_2(x:GThing):x.enc[2]?=some (D.v (.int .i64 x.Parent)):=rfl
@[simp] theorem GThing.encg_2(x:GThing) (h:2 < x.enc.length):x.enc[2]=D.v (.int .i64 x.Parent):=rfl
@[simp] theorem GThing.enc_3(x:GThing):x.enc[3]?=some (D.v (.int .i64 x.Flags)):=rfl
@[simp] theorem GThing.encg_3(x:GThing) (h:3 < x.enc.length):x.enc[3]=D.v (.int .i64 x.Flags):=rfl
@[simp] theorem GThing.enc_4(x:GThing):x.enc[4]?=some (D.v (.bool x.Room)):=rfl
@[simp] theorem GThing.encg_4(x:GThing) (h:4 < x.enc.length):x.enc[4]=D.v (.bool x.Room):=rfl
@[simp] theorem GThing.enc_5(x:GThing):x.enc[5]?=some (D.sl (encI x.Props)):=rfl
@[simp] theorem GThing.encg_5(x:GThing) (h:5 < x.enc.length):x.enc[5]=D.sl (encI x.Props):=rfl
@[simp] theorem GThing.enc_6(x:GThing):x.enc[6]?=some (D.sl (encS x.Words)):=rfl
@[simp] theorem GThing.encg_6(x:GThing) (h:6 < x.enc.length):x.enc[6]=D.sl (encS x.Words):=rfl
@[simp] theorem GThing.enc_7(x:GThing):x.enc[7]?=some (D.sl (encS x.Adjs)):=rfl
@[simp] theorem GThing.encg_7(x:GThing) (h:7 < x.enc.length):x.enc[7]=D.sl (encS x.Adjs):=rfl
@[simp] theorem GThing.enc_8(x:GThing):x.enc[8]?=some (D.sl (x.Ways.map GWay.enc)):=rfl
@[simp] theorem GThing.encg_8(x:GThing) (h:8 < x.enc.length):x.enc[8]=D.sl (x.Ways.map GWay.enc):=rfl
def GThing.zero:GThing:=⟨0,0,0,0,false,[],[],[],[]⟩
@[simp] theorem GThing.getZ(o:Option GThing):(o.map GThing.enc).getD [D.v (.int .i64 0),D.v (.int .i64 0),D.v (.int .i64 0),D.v (.int .i64 0),D.v (.bool false),D.sl [],D.sl [],D.sl [],D.sl []]=(o.getD GThing.zero).enc:=by cases o <;> rfl
@[simp] theorem GThing.dropAll(x:GThing):List.drop 9 x.enc=[]:=rfl
@[simp] theorem GThing.dropAllv(x:GThing):List.drop 9 (x.enc.map V.d)=[]:=rfl
@[simp] theorem GThing.enc_all(x:GThing):x.enc.take 9=x.enc:=rfl
@[simp] theorem GThing.enc_allv(x:GThing):List.take 9 (x.enc.map V.d)=x.enc.map V.d:=rfl
def GThing.wf(x:GThing):Prop:=inR .i64 x.Title∧inR .i64 x.Text∧inR .i64 x.Parent∧inR .i64 x.Flags∧x.Props.length *8≤140737488351232∧(∀y0:Int,y0∈x.Props→inR .i64 y0)∧x.Words.length *16≤140737488351232∧(∀y0:ByteArray,y0∈x.Words→y0.size≤140737488351232)∧x.Adjs.length *16≤140737488351232∧(∀y0:ByteArray,y0∈x.Adjs→y0.size≤140737488351232)∧x.Ways.length *32≤140737488351232∧(∀y0:GWay,y0∈x.Ways→y0.wf)
theorem GThing.wl_Props {x:GThing} (h:x.wf):x.Props.length *8≤140737488351232:=h.2.2.2.2.1
theorem GThing.wl_Words {x:GThing} (h:x.wf):x.Words.length *16≤140737488351232:=h.2.2.2.2.2.2.1
theorem GThing.wf_Words {x:GThing} (h:x.wf):(∀y0:ByteArray,y0∈x.Words→y0.size≤140737488351232):=h.2.2.2.2.2.2.2.1
theorem GThing.wl_Adjs {x:GThing} (h:x.wf):x.Adjs.length *16≤140737488351232:=h.2.2.2.2.2.2.2.2.1
theorem GThing.wf_Adjs {x:GThing} (h:x.wf):(∀y0:ByteArray,y0∈x.Adjs→y0.size≤140737488351232):=h.2.2.2.2.2.2.2.2.2.1
theorem GThing.wl_Ways {x:GThing} (h:x.wf):x.Ways.length *32≤140737488351232:=h.2.2.2.2.2.2.2.2.2.2.1
theorem GThing.wf_Ways {x:GThing} (h:x.wf):(∀y0:GWay,y0∈x.Ways→y0.wf):=h.2.2.2.2.2.2.2.2.2.2.2
theorem tyK_49:tyK prog 49= .st [3,3,3,3,4,23,22,22,47]:=by kernel_rfl
theorem tyK_4:tyK prog 4= .bool:=by kernel_rfl
theorem tyK_23:tyK prog 23= .sl 3 8:=by kernel_rfl
theorem tyK_22:tyK prog 22= .sl 9 16:=by kernel_rfl
theorem tyK_9:tyK prog 9= .str:=by kernel_rfl
theorem tyK_47:tyK prog 47= .sl 84 32:=by kernel_rfl
theorem GThing.of {ys:List D} (h:HasT prog 49 ys):∃x:GThing,ys=x.enc∧x.wf:=by
 have h':=HasT.st_inv h tyK_49
 obtain⟨a0_,r0,hr0,t0,h0⟩:=h'
 obtain⟨a1_,r1,hr1,t1,h1⟩:=h0
 obtain⟨a2_,r2,hr2,t2,h2⟩:=h1
 obtain⟨a3_,r3,hr3,t3,h3⟩:=h2
 obtain⟨a4_,r4,hr4,t4,h4⟩:=h3
 obtain⟨a5_,r5,hr5,t5,h5⟩:=h4
 obtain⟨a6_,r6,hr6,t6,h6⟩:=h5
 obtain⟨a7_,r7,hr7,t7,h7⟩:=h6
 obtain⟨a8_,r8,hr8,t8,h8⟩:=h7
 simp only [HasTs]at h8
 subst h8
 subst hr8
 subst hr7
 subst hr6
 subst hr5
 subst hr4
 subst hr3
 subst hr2
 subst hr1
 subst hr0
 obtain⟨a0_',rfl,a0_w⟩:=HasT.int_inv t0 tyK_3
 obtain⟨a1_',rfl,a1_w⟩:=HasT.int_inv t1 tyK_3
 obtain⟨a2_',rfl,a2_w⟩:=HasT.int_inv t2 tyK_3
 obtain⟨a3_',rfl,a3_w⟩:=HasT.int_inv t3 tyK_3
 obtain⟨a4_',rfl⟩:=HasT.bool_inv t4 tyK_4
 obtain⟨a5_0,rfl,a5_h,a5_l,a5_w⟩:=HasT.sl_inv t5 tyK_23
 obtain⟨a5_',rfl,a5_a⟩:=map_of (f:=(fun y=> [D.v (.int .i64 y)])) (p:=fun(y:Int)=>inR .i64 y) (fun a5_e hx=>by
  have a5_q:=a5_h a5_e hx
  obtain⟨a5_e',rfl,a5_ew⟩:=HasT.int_inv a5_q tyK_3
  exact⟨a5_e',rfl,a5_ew⟩)
 obtain⟨a6_0,rfl,a6_h,a6_l,a6_w⟩:=HasT.sl_inv t6 tyK_22
 obtain⟨a6_',rfl,a6_a⟩:=map_of (f:=(fun y=> [D.v (.string y)])) (p:=fun(y:ByteArray)=>y.size≤140737488351232) (fun a6_e hx=>by
  have a6_q:=a6_h a6_e hx
  obtain⟨a6_e',rfl,a6_ew⟩:=HasT.str_inv a6_q tyK_9
  exact⟨a6_e',rfl,a6_ew⟩)
 obtain⟨a7_0,rfl,a7_h,a7_l,a7_w⟩:=HasT.sl_inv t7 tyK_22
 obtain⟨a7_',rfl,a7_a⟩:=map_of (f:=(fun y=> [D.v (.string y)])) (p:=fun(y:ByteArray)=>y.size≤140737488351232) (fun a7_e hx=>by
  have a7_q:=a7_h a7_e hx
  obtain⟨a7_e',rfl,a7_ew⟩:=HasT.str_inv a7_q tyK_9
  exact⟨a7_e',rfl,a7_ew⟩)
 obtain⟨a8_0,rfl,a8_h,a8_l,a8_w⟩:=HasT.sl_inv t8 tyK_47
 obtain⟨a8_',rfl,a8_a⟩:=map_of (f:=GWay.enc) (p:=fun(y:GWay)=>y.wf) (fun a8_e hx=>by
  have a8_q:=a8_h a8_e hx
  obtain⟨a8_e',rfl,a8_ew⟩:=GWay.of a8_q
  exact⟨a8_e',rfl,a8_ew⟩)
 exact⟨⟨a0_',a1_',a2_',a3_',a4_',a5_',a6_',a7_',a8_'⟩,rfl,⟨a0_w,a1_w,a2_w,a3_w,(by simpa using a5_w),a5_a,(by simpa using a6_w),a6_a,(by simpa using a7_w),a7_a,(by simpa using a8_w),a8_a⟩⟩
structure GSlot where
 Kind:Int
 Words:(List ByteArray)
 deriving DecidableEq
def GSlot.enc(x:GSlot):List D:=[D.v (.int .i64 x.Kind),D.sl (encS x.Words)]
@[simp] theorem GSlot.enc_length(x:GSlot):x.enc.length=2:=rfl
@[simp] theorem GSlot.enc_0(x:GSlot):x.enc[0]?=some (D.v (.int .i64 x.Kind)):=rfl
@[simp] theorem GSlot.encg_0(x:GSlot) (h:0 < x.enc.length):x.enc[0]=D.v (.int .i64 x.Kind):=rfl
@[simp] theorem GSlot.enc_1(x:GSlot):x.enc[1]?=some (D.sl (encS x.Words)):=rfl
@[simp] theorem GSlot.encg_1(x:GSlot) (h:1 < x.enc.length):x.enc[1]=D.sl (encS x.Words):=rfl
def GSlot.zero:GSlot:=⟨0,[]⟩
@[simp] theorem GSlot.getZ(o:Option GSlot):(o.map GSlot.enc).getD [D.v (.int .i64 0),D.sl []]=(o.getD GSlot.zero).enc:=by cases o <;> rfl
@[simp] theorem GSlot.dropAll(x:GSlot):List.drop 2 x.enc=[]:=rfl
@[simp] theorem GSlot.dropAllv(x:GSlot):List.drop 2 (x.enc.map V.d)=[]:=rfl
@[simp] theorem GSlot.enc_all(x:GSlot):x.enc.take 2=x.enc:=rfl
@[simp] theorem GSlot.enc_allv(x:GSlot):List.take 2 (x.enc.map V.d)=x.enc.map V.d:=rfl
def GSlot.wf(x:GSlot):Prop:=inR .i64 x.Kind∧x.Words.length *16≤140737488351232∧(∀y0:ByteArray,y0∈x.Words→y0.size≤140737488351232)
theorem GSlot.wl_Words {x:GSlot} (h:x.wf):x.Words.length *16≤140737488351232:=h.2.1
theorem GSlot.wf_Words {x:GSlot} (h:x.wf):(∀y0:ByteArray,y0∈x.Words→y0.size≤140737488351232):=h.2.2
theorem tyK_51:tyK prog 51= .st [3,22]:=by kernel_rfl
theorem GSlot.of {ys:List D} (h:HasT prog 51 ys):∃x:GSlot,ys=x.enc∧x.wf:=by
 have h':=HasT.st_inv h tyK_51
 obtain⟨a0_,r0,hr0,t0,h0⟩:=h'
 obtain⟨a1_,r1,hr1,t1,h1⟩:=h0
 simp only [HasTs]at h1
 subst h1
 subst hr1
 subst hr0
 obtain⟨a0_',rfl,a0_w⟩:=HasT.int_inv t0 tyK_3
 obtain⟨a1_0,rfl,a1_h,a1_l,a1_w⟩:=HasT.sl_inv t1 tyK_22
 obtain⟨a1_',rfl,a1_a⟩:=map_of (f:=(fun y=> [D.v (.string y)])) (p:=fun(y:ByteArray)=>y.size≤140737488351232) (fun a1_e hx=>by
  have a1_q:=a1_h a1_e hx
  obtain⟨a1_e',rfl,a1_ew⟩:=HasT.str_inv a1_q tyK_9
  exact⟨a1_e',rfl,a1_ew⟩)
 exact⟨⟨a0_',a1_'⟩,rfl,⟨a0_w,(by simpa using a1_w),a1_a⟩⟩
structure GAct where
 Meta:Bool
 Lines:(List (List GSlot))
 deriving DecidableEq
def GAct.enc(x:GAct):List D:=[D.v (.bool x.Meta),D.sl (encSl (List.map GSlot.enc) x.Lines)]
@[simp] theorem GAct.enc_length(x:GAct):x.enc.length=2:=rfl
@[simp] theorem GAct.enc_0(x:GAct):x.enc[0]?=some (D.v (.bool x.Meta)):=rfl
@[simp] theorem GAct.encg_0(x:GAct) (h:0 < x.enc.length):x.enc[0]=D.v (.bool x.Meta):=rfl
@[simp] theorem GAct.enc_1(x:GAct):x.enc[1]?=some (D.sl (encSl (List.map GSlot.enc) x.Lines)):=rfl
@[simp] theorem GAct.encg_1(x:GAct) (h:1 < x.enc.length):x.enc[1]=D.sl (encSl (List.map GSlot.enc) x.Lines):=rfl
def GAct.zero:GAct:=⟨false,[]⟩
@[simp] theorem GAct.dropAll(x:GAct):List.drop 2 x.enc=[]:=rfl
@[simp] theorem GAct.dropAllv(x:GAct):List.drop 2 (x.enc.map V.d)=[]:=rfl
@[simp] theorem GAct.enc_all(x:GAct):x.enc.take 2=x.enc:=rfl
@[simp] theorem GAct.enc_allv(x:GAct):List.take 2 (x.enc.map V.d)=x.enc.map V.d:=rfl
def GAct.wf(x:GAct):Prop:=x.Lines.length *24≤140737488351232∧(∀y0:(List GSlot),y0∈x.Lines→y0.length *32≤140737488351232∧(∀y1:GSlot,y1∈y0→y1.wf))
theorem GAct.wl_Lines {x:GAct} (h:x.wf):x.Lines.length *24≤140737488351232:=h.1
theorem GAct.wf_Lines {x:GAct} (h:x.wf):(∀y0:(List GSlot),y0∈x.Lines→y0.length *32≤140737488351232∧(∀y1:GSlot,y1∈y0→y1.wf)):=h.2
theorem tyK_55:tyK prog 55= .st [4,53]:=by kernel_rfl
theorem tyK_53:tyK prog 53= .sl 52 24:=by kernel_rfl
theorem tyK_52:tyK prog 52= .sl 51 32:=by kernel_rfl
theorem GAct.of {ys:List D} (h:HasT prog 55 ys):∃x:GAct,ys=x.enc∧x.wf:=by
 have h':=HasT.st_inv h tyK_55
 obtain⟨a0_,r0,hr0,t0,h0⟩:=h'
 obtain⟨a1_,r1,hr1,t1,h1⟩:=h0
 simp only [HasTs]at h1
 subst h1
 subst hr1
 subst hr0
 obtain⟨a0_',rfl⟩:=HasT.bool_inv t0 tyK_4
 obtain⟨a1_0,rfl,a1_h,a1_l,a1_w⟩:=HasT.sl_inv t1 tyK_53
 obtain⟨a1_',rfl,a1_a⟩:=map_of (f:=(fun y=> [D.sl (y.map GSlot.enc)])) (p:=fun(y:(List GSlot))=>y.length *32≤140737488351232∧(∀y1:GSlot,y1∈y→y1.wf)) (fun a1_e hx=>by
  have a1_q:=a1_h a1_e hx
  obtain⟨a1_e0,rfl,a1_eh,a1_el,a1_ew⟩:=HasT.sl_inv a1_q tyK_52
  obtain⟨a1_e',rfl,a1_ea⟩:=map_of (f:=GSlot.enc) (p:=fun(y:GSlot)=>y.wf) (fun a1_ee hx=>by
   have a1_eq:=a1_eh a1_ee hx
   obtain⟨a1_ee',rfl,a1_eew⟩:=GSlot.of a1_eq
   exact⟨a1_ee',rfl,a1_eew⟩)
  exact⟨a1_e',rfl,⟨(by simpa using a1_ew),a1_ea⟩⟩)
 exact⟨⟨a0_',a1_'⟩,rfl,⟨(by simpa using a1_w),a1_a⟩⟩
structure GDeed where
 Verb:Int
 Phase:Int
 Noun:Int
 Second:Int
 When:Int
 Body:Int
 deriving DecidableEq
def GDeed.enc(x:GDeed):List D:=[D.v (.int .i64 x.Verb),D.v (.int .i64 x.Phase),D.v (.int .i64 x.Noun),D.v (.int .i64 x.Second),D.v (.int .i64 x.When),D.v (.int .i64 x.Body)]
@[simp] theorem GDeed.enc_length(x:GDeed):x.enc.length=6:=rfl
@[simp] theorem GDeed.enc_0(x:GDeed):x.enc[0]?=some (D.v (.int .i64 x.Verb)):=rfl
@[simp] theorem GDeed.encg_0(x:GDeed) (h:0 < x.enc.length):x.enc[0]=D.v (.int .i64 x.Verb):=rfl
@[simp] theorem GDeed.enc_1(x:GDeed):x.enc[1]?=some (D.v (.int .i64 x.Phase)):=rfl
@[simp] theorem GDeed.encg_1(x:GDeed) (h:1 < x.enc.length):x.enc[1]=D.v (.int .i64 x.Phase):=rfl
@[simp] theorem GDeed.enc_2(x:GDeed):x.enc[2]?=some (D.v (.int .i64 x.Noun)):=rfl
@[simp] theorem GDeed.encg_2(x:GDeed) (h:2 < x.enc.length):x.enc[2]=D.v (.int .i64 x.Noun):=rfl
@[simp] theorem GDeed.enc_3(x:GDeed):x.enc[3]?=some (D.v (.int .i64 x.Second)):=rfl
@[simp] theorem GDeed.encg_3(x:GDeed) (h:3 < x.enc.length):x.enc[3]=D.v (.int .i64 x.Second):=rfl
@[simp] theorem GDeed.enc_4(x:GDeed):x.enc[4]?=some (D.v (.int .i64 x.When)):=rfl
@[simp] theorem GDeed.encg_4(x:GDeed) (h:4 < x.enc.length):x.enc[4]=D.v (.int .i64 x.When):=rfl
@[simp] theorem GDeed.enc_5(x:GDeed):x.enc[5]?=some (D.v (.int .i64 x.Body)):=rfl
@[simp] theorem GDeed.encg_5(x:GDeed) (h:5 < x.enc.length):x.enc[5]=D.v (.int .i64 x.Body):=rfl
def GDeed.zero:GDeed:=⟨0,0,0,0,0,0⟩
@[simp] theorem GDeed.dropAll(x:GDeed):List.drop 6 x.enc=[]:=rfl
@[simp] theorem GDeed.dropAllv(x:GDeed):List.drop 6 (x.enc.map V.d)=[]:=rfl
@[simp] theorem GDeed.enc_all(x:GDeed):x.enc.take 6=x.enc:=rfl
@[simp] theorem GDeed.enc_allv(x:GDeed):List.take 6 (x.enc.map V.d)=x.enc.map V.d:=rfl
def GDeed.wf(x:GDeed):Prop:=inR .i64 x.Verb∧inR .i64 x.Phase∧inR .i64 x.Noun∧inR .i64 x.Second∧inR .i64 x.When∧inR .i64 x.Body
theorem tyK_57:tyK prog 57= .st [3,3,3,3,3,3]:=by kernel_rfl
theorem GDeed.of {ys:List D} (h:HasT prog 57 ys):∃x:GDeed,ys=x.enc∧x.wf:=by
 have h':=HasT.st_inv h tyK_57
 obtain⟨a0_,r0,hr0,t0,h0⟩:=h'
 obtain⟨a1_,r1,hr1,t1,h1⟩:=h0
 obtain⟨a2_,r2,hr2,t2,h2⟩:=h1
 obtain⟨a3_,r3,hr3,t3,h3⟩:=h2
 obtain⟨a4_,r4,hr4,t4,h4⟩:=h3
 obtain⟨a5_,r5,hr5,t5,h5⟩:=h4
 simp only [HasTs]at h5
 subst h5
 subst hr5
 subst hr4
 subst hr3
 subst hr2
 subst hr1
 subst hr0
 obtain⟨a0_',rfl,a0_w⟩:=HasT.int_inv t0 tyK_3
 obtain⟨a1_',rfl,a1_w⟩:=HasT.int_inv t1 tyK_3
 obtain⟨a2_',rfl,a2_w⟩:=HasT.int_inv t2 tyK_3
 obtain⟨a3_',rfl,a3_w⟩:=HasT.int_inv t3 tyK_3
 obtain⟨a4_',rfl,a4_w⟩:=HasT.int_inv t4 tyK_3
 obtain⟨a5_',rfl,a5_w⟩:=HasT.int_inv t5 tyK_3
 exact⟨⟨a0_',a1_',a2_',a3_',a4_',a5_'⟩,rfl,⟨a0_w,a1_w,a2_w,a3_w,a4_w,a5_w⟩⟩
structure GTables where
 Title:Int
 By:Int
 Release:Int
 Max:Int
 Texts:(List ByteArray)
 Flags:Int
 Props:(List Int)
 Globals:(List Int)
 Things:(List GThing)
 Acts:(List GAct)
 Deeds:(List GDeed)
 Funcs:(List Int)
 Daemons:(List Int)
 Params:(List Int)
 Locals:(List Int)
 deriving DecidableEq
def GTables.enc(x:GTables):List D:=[D.v (.int .i64 x.Title),D.v (.int .i64 x.By),D.v (.int .i64 x.Release),D.v (.int .i64 x.Max),D.sl (encS x.Texts),D.v (.int .i64 x.Flags),D.sl (encI x.Props),D.sl (encI x.Globals),D.sl (x.Things.map GThing.enc),D.sl (x.Acts.map GAct.enc),D.sl (x.Deeds.map GDeed.enc),D.sl (encI x.Funcs),D.sl (encI x.Daemons),D.sl (encI x.Params),D.sl (encI x.Locals)]
@[simp] theorem GTables.enc_length(x:GTables):x.enc.length=15:=rfl
@[simp] theorem GTables.enc_0(x:GTables):x.enc[0]?=some (D.v (.int .i64 x.Title)):=rfl
@[simp] theorem GTables.encg_0(x:GTables) (h:0 < x.enc.length):x.enc[0]=D.v (.int .i64 x.Title):=rfl
@[simp] theorem GTables.enc_1(x:GTables):x.enc[1]?=some (D.v (.int .i64 x.By)):=rfl
@[simp] theorem GTables.encg_1(x:GTables) (h:1 < x.enc.length):x.enc[1]=D.v (.int .i64 x.By):=rfl
@[simp] theorem GTables.enc_2(x:GTables):x.enc[2]?=some (D.v (.int .i64 x.Release)):=rfl
@[simp] theorem GTables.encg_2(x:GTables) (h:2 < x.enc.length):x.enc[2]=D.v (.int .i64 x.Release):=rfl
@[simp] theorem GTables.enc_3(x:GTables):x.enc[3]?=some (D.v (.int .i64 x.Max)):=rfl
@[simp] theorem GTables.encg_3(x:GTables) (h:3 < x.enc.length):x.enc[3]=D.v (.int .i64 x.Max):=rfl
@[simp] theorem GTables.enc_4(x:GTables):x.enc[4]?=some (D.sl (encS x.Texts)):=rfl
@[simp] theorem GTables.encg_4(x:GTables) (h:4 < x.enc.length):x.enc[4]=D.sl (encS x.Texts):=rfl
@[simp] theorem GTables.enc_5(x:GTables):x.enc[5]?=some (D.v (.int .i64 x.Flags)):=rfl
@[simp] theorem GTables.encg_5(x:GTables) (h:5 < x.enc.length):x.enc[5]=D.v (.int .i64 x.Flags):=rfl
@[simp] theorem GTables.enc_6(x:GTables):x.enc[6]?=some (D.sl (encI x.Props)):=rfl
@[simp] theorem GTables.encg_6(x:GTables) (h:6 < x.enc.length):x.enc[6]=D.sl (encI x.Props):=rfl
@[simp] theorem GTables.enc_7(x:GTables):x.enc[7]?=some (D.sl (encI x.Globals)):=rfl
@[simp] theorem GTables.encg_7(x:GTables) (h:7 < x.enc.length):x.enc[7]=D.sl (encI x.Globals):=rfl
@[simp] theorem GTables.enc_8(x:GTables):x.enc[8]?=some (D.sl (x.Things.map GThing.enc)):=rfl
@[simp] theorem GTables.encg_8(x:GTables) (h:8 < x.enc.length):x.enc[8]=D.sl (x.Things.map GThing.enc):=rfl
@[simp] theorem GTables.enc_9(x:GTables):x.enc[9]?=some (D.sl (x.Acts.map GAct.enc)):=rfl
@[simp] theorem GTables.encg_9(x:GTables) (h:9 < x.enc.length):x.enc[9]=D.sl (x.Acts.map GAct.enc):=rfl
@[simp] theorem GTables.enc_10(x:GTables):x.enc[10]?=some (D.sl (x.Deeds.map GDeed.enc)):=rfl
@[simp] theorem GTables.encg_10(x:GTables) (h:10 < x.enc.length):x.enc[10]=D.sl (x.Deeds.map GDeed.enc):=rfl
@[simp] theorem GTables.enc_11(x:GTables):x.enc[11]?=some (D.sl (encI x.Funcs)):=rfl
@[simp] theorem GTables.encg_11(x:GTables) (h:11 < x.enc.length):x.enc[11]=D.sl (encI x.Funcs):=rfl
@[simp] theorem GTables.enc_12(x:GTables):x.enc[12]?=some (D.sl (encI x.Daemons)):=rfl
@[simp] theorem GTables.encg_12(x:GTables) (h:12 < x.enc.length):x.enc[12]=D.sl (encI x.Daemons):=rfl
@[simp] theorem GTables.enc_13(x:GTables):x.enc[13]?=some (D.sl (encI x.Params)):=rfl
@[simp] theorem GTables.encg_13(x:GTables) (h:13 < x.enc.length):x.enc[13]=D.sl (encI x.Params):=rfl
@[simp] theorem GTables.enc_14(x:GTables):x.enc[14]?=some (D.sl (encI x.Locals)):=rfl
@[simp] theorem GTables.encg_14(x:GTables) (h:14 < x.enc.length):x.enc[14]=D.sl (encI x.Locals):=rfl
def GTables.zero:GTables:=⟨0,0,0,0,[],0,[],[],[],[],[],[],[],[],[]⟩
@[simp] theorem GTables.dropAll(x:GTables):List.drop 15 x.enc=[]:=rfl
@[simp] theorem GTables.dropAllv(x:GTables):List.drop 15 (x.enc.map V.d)=[]:=rfl
@[simp] theorem GTables.enc_all(x:GTables):x.enc.take 15=x.enc:=rfl
@[simp] theorem GTables.enc_allv(x:GTables):List.take 15 (x.enc.map V.d)=x.enc.map V.d:=rfl
def GTables.wf(x:GTables):Prop:=inR .i64 x.Title∧inR .i64 x.By∧inR .i64 x.Release∧inR .i64 x.Max∧x.Texts.length *16≤140737488351232∧(∀y0:ByteArray,y0∈x.Texts→y0.size≤140737488351232)∧inR .i64 x.Flags∧x.Props.length *8≤140737488351232∧(∀y0:Int,y0∈x.Props→inR .i64 y0)∧x.Globals.length *8≤140737488351232∧(∀y0:Int,y0∈x.Globals→inR .i64 y0)∧x.Things.length *136≤140737488351232∧(∀y0:GThing,y0∈x.Things→y0.wf)∧x.Acts.length *32≤140737488351232∧(∀y0:GAct,y0∈x.Acts→y0.wf)∧x.Deeds.length *48≤140737488351232∧(∀y0:GDeed,y0∈x.Deeds→y0.wf)∧x.Funcs.length *8≤140737488351232∧(∀y0:Int,y0∈x.Funcs→inR .i64 y0)∧x.Daemons.length *8≤140737488351232∧(∀y0:Int,y0∈x.Daemons→inR .i64 y0)∧x.Params.length *8≤140737488351232∧(∀y0:Int,y0∈x.Params→inR .i64 y0)∧x.Locals.length *8≤140737488351232∧(∀y0:Int,y0∈x.Locals→inR .i64 y0)
theorem GTables.wl_Texts {x:GTables} (h:x.wf):x.Texts.length *16≤140737488351232:=h.2.2.2.2.1
theorem GTables.wf_Texts {x:GTables} (h:x.wf):(∀y0:ByteArray,y0∈x.Texts→y0.size≤140737488351232):=h.2.2.2.2.2.1
theorem GTables.wl_Props {x:GTables} (h:x.wf):x.Props.length *8≤140737488351232:=h.2.2.2.2.2.2.2.1
theorem GTables.wl_Globals {x:GTables} (h:x.wf):x.Globals.length *8≤140737488351232:=h.2.2.2.2.2.2.2.2.2.1
theorem GTables.wl_Things {x:GTables} (h:x.wf):x.Things.length *136≤140737488351232:=h.2.2.2.2.2.2.2.2.2.2.2.1
theorem GTables.wf_Things {x:GTables} (h:x.wf):(∀y0:GThing,y0∈x.Things→y0.wf):=h.2.2.2.2.2.2.2.2.2.2.2.2.1
theorem GTables.wl_Acts {x:GTables} (h:x.wf):x.Acts.length *32≤140737488351232:=h.2.2.2.2.2.2.2.2.2.2.2.2.2.1
theorem GTables.wf_Acts {x:GTables} (h:x.wf):(∀y0:GAct,y0∈x.Acts→y0.wf):=h.2.2.2.2.2.2.2.2.2.2.2.2.2.2.1
theorem GTables.wl_Deeds {x:GTables} (h:x.wf):x.Deeds.length *48≤140737488351232:=h.2.2.2.2.2.2.2.2.2.2.2.2.2.2.2.1
theorem GTables.wf_Deeds {x:GTables} (h:x.wf):(∀y0:GDeed,y0∈x.Deeds→y0.wf):=h.2.2.2.2.2.2.2.2.2.2.2.2.2.2.2.2.1
theorem GTables.wl_Funcs {x:GTables} (h:x.wf):x.Funcs.length *8≤140737488351232:=h.2.2.2.2.2.2.2.2.2.2.2.2.2.2.2.2.2.1
theorem GTables.wl_Daemons {x:GTables} (h:x.wf):x.Daemons.length *8≤140737488351232:=h.2.2.2.2.2.2.2.2.2.2.2.2.2.2.2.2.2.2.2.1
theorem GTables.wl_Params {x:GTables} (h:x.wf):x.Params.length *8≤140737488351232:=h.2.2.2.2.2.2.2.2.2.2.2.2.2.2.2.2.2.2.2.2.2.1
theorem GTables.wl_Locals {x:GTables} (h:x.wf):x.Locals.length *8≤140737488351232:=h.2.2.2.2.2.2.2.2.2.2.2.2.2.2.2.2.2.2.2.2.2.2.2.1
theorem GTables.wf_Locals {x:GTables} (h:x.wf):(∀y0:Int,y0∈x.Locals→inR .i64 y0):=h.2.2.2.2.2.2.2.2.2.2.2.2.2.2.2.2.2.2.2.2.2.2.2.2
theorem tyK_28:tyK prog 28= .st [3,3,3,3,22,3,23,23,24,25,26,23,23,23,23]:=by kernel_rfl
theorem tyK_24:tyK prog 24= .sl 49 136:=by kernel_rfl
theorem tyK_25:tyK prog 25= .sl 55 32:=by kernel_rfl
theorem tyK_26:tyK prog 26= .sl 57 48:=by kernel_rfl
theorem GTables.of {ys:List D} (h:HasT prog 28 ys):∃x:GTables,ys=x.enc∧x.wf:=by
 have h':=HasT.st_inv h tyK_28
 obtain⟨a0_,r0,hr0,t0,h0⟩:=h'
 obtain⟨a1_,r1,hr1,t1,h1⟩:=h0
 obtain⟨a2_,r2,hr2,t2,h2⟩:=h1
 obtain⟨a3_,r3,hr3,t3,h3⟩:=h2
 obtain⟨a4_,r4,hr4,t4,h4⟩:=h3
 obtain⟨a5_,r5,hr5,t5,h5⟩:=h4
 obtain⟨a6_,r6,hr6,t6,h6⟩:=h5
 obtain⟨a7_,r7,hr7,t7,h7⟩:=h6
 obtain⟨a8_,r8,hr8,t8,h8⟩:=h7
 obtain⟨a9_,r9,hr9,t9,h9⟩:=h8
 obtain⟨a10_,r10,hr10,t10,h10⟩:=h9
 obtain⟨a11_,r11,hr11,t11,h11⟩:=h10
 obtain⟨a12_,r12,hr12,t12,h12⟩:=h11
 obtain⟨a13_,r13,hr13,t13,h13⟩:=h12
 obtain⟨a14_,r14,hr14,t14,h14⟩:=h13
 simp only [HasTs]at h14
 subst h14
 subst hr14
 subst hr13
 subst hr12
 subst hr11
 subst hr10
 subst hr9
 subst hr8
 subst hr7
 subst hr6
 subst hr5
 subst hr4
 subst hr3
 subst hr2
 subst hr1
 subst hr0
 obtain⟨a0_',rfl,a0_w⟩:=HasT.int_inv t0 tyK_3
 obtain⟨a1_',rfl,a1_w⟩:=HasT.int_inv t1 tyK_3
 obtain⟨a2_',rfl,a2_w⟩:=HasT.int_inv t2 tyK_3
 obtain⟨a3_',rfl,a3_w⟩:=HasT.int_inv t3 tyK_3
 obtain⟨a4_0,rfl,a4_h,a4_l,a4_w⟩:=HasT.sl_inv t4 tyK_22
 obtain⟨a4_',rfl,a4_a⟩:=map_of (f:=(fun y=> [D.v (.string y)])) (p:=fun(y:ByteArray)=>y.size≤140737488351232) (fun a4_e hx=>by
  have a4_q:=a4_h a4_e hx
  obtain⟨a4_e',rfl,a4_ew⟩:=HasT.str_inv a4_q tyK_9
  exact⟨a4_e',rfl,a4_ew⟩)
 obtain⟨a5_',rfl,a5_w⟩:=HasT.int_inv t5 tyK_3
 obtain⟨a6_0,rfl,a6_h,a6_l,a6_w⟩:=HasT.sl_inv t6 tyK_23
 obtain⟨a6_',rfl,a6_a⟩:=map_of (f:=(fun y=> [D.v (.int .i64 y)])) (p:=fun(y:Int)=>inR .i64 y) (fun a6_e hx=>by
  have a6_q:=a6_h a6_e hx
  obtain⟨a6_e',rfl,a6_ew⟩:=HasT.int_inv a6_q tyK_3
  exact⟨a6_e',rfl,a6_ew⟩)
 obtain⟨a7_0,rfl,a7_h,a7_l,a7_w⟩:=HasT.sl_inv t7 tyK_23
 obtain⟨a7_',rfl,a7_a⟩:=map_of (f:=(fun y=> [D.v (.int .i64 y)])) (p:=fun(y:Int)=>inR .i64 y) (fun a7_e hx=>by
  have a7_q:=a7_h a7_e hx
  obtain⟨a7_e',rfl,a7_ew⟩:=HasT.int_inv a7_q tyK_3
  exact⟨a7_e',rfl,a7_ew⟩)
 obtain⟨a8_0,rfl,a8_h,a8_l,a8_w⟩:=HasT.sl_inv t8 tyK_24
 obtain⟨a8_',rfl,a8_a⟩:=map_of (f:=GThing.enc) (p:=fun(y:GThing)=>y.wf) (fun a8_e hx=>by
  have a8_q:=a8_h a8_e hx
  obtain⟨a8_e',rfl,a8_ew⟩:=GThing.of a8_q
  exact⟨a8_e',rfl,a8_ew⟩)
 obtain⟨a9_0,rfl,a9_h,a9_l,a9_w⟩:=HasT.sl_inv t9 tyK_25
 obtain⟨a9_',rfl,a9_a⟩:=map_of (f:=GAct.enc) (p:=fun(y:GAct)=>y.wf) (fun a9_e hx=>by
  have a9_q:=a9_h a9_e hx
  obtain⟨a9_e',rfl,a9_ew⟩:=GAct.of a9_q
  exact⟨a9_e',rfl,a9_ew⟩)
 obtain⟨a10_0,rfl,a10_h,a10_l,a10_w⟩:=HasT.sl_inv t10 tyK_26
 obtain⟨a10_',rfl,a10_a⟩:=map_of (f:=GDeed.enc) (p:=fun(y:GDeed)=>y.wf) (fun a10_e hx=>by
  have a10_q:=a10_h a10_e hx
  obtain⟨a10_e',rfl,a10_ew⟩:=GDeed.of a10_q
  exact⟨a10_e',rfl,a10_ew⟩)
 obtain⟨a11_0,rfl,a11_h,a11_l,a11_w⟩:=HasT.sl_inv t11 tyK_23
 obtain⟨a11_',rfl,a11_a⟩:=map_of (f:=(fun y=> [D.v (.int .i64 y)])) (p:=fun(y:Int)=>inR .i64 y) (fun a11_e hx=>by
  have a11_q:=a11_h a11_e hx
  obtain⟨a11_e',rfl,a11_ew⟩:=HasT.int_inv a11_q tyK_3
  exact⟨a11_e',rfl,a11_ew⟩)
 obtain⟨a12_0,rfl,a12_h,a12_l,a12_w⟩:=HasT.sl_inv t12 tyK_23
 obtain⟨a12_',rfl,a12_a⟩:=map_of (f:=(fun y=> [D.v (.int .i64 y)])) (p:=fun(y:Int)=>inR .i64 y) (fun a12_e hx=>by
  have a12_q:=a12_h a12_e hx
  obtain⟨a12_e',rfl,a12_ew⟩:=HasT.int_inv a12_q tyK_3
  exact⟨a12_e',rfl,a12_ew⟩)
 obtain⟨a13_0,rfl,a13_h,a13_l,a13_w⟩:=HasT.sl_inv t13 tyK_23
 obtain⟨a13_',rfl,a13_a⟩:=map_of (f:=(fun y=> [D.v (.int .i64 y)])) (p:=fun(y:Int)=>inR .i64 y) (fun a13_e hx=>by
  have a13_q:=a13_h a13_e hx
  obtain⟨a13_e',rfl,a13_ew⟩:=HasT.int_inv a13_q tyK_3
  exact⟨a13_e',rfl,a13_ew⟩)
 obtain⟨a14_0,rfl,a14_h,a14_l,a14_w⟩:=HasT.sl_inv t14 tyK_23
 obtain⟨a14_',rfl,a14_a⟩:=map_of (f:=(fun y=> [D.v (.int .i64 y)])) (p:=fun(y:Int)=>inR .i64 y) (fun a14_e hx=>by
  have a14_q:=a14_h a14_e hx
  obtain⟨a14_e',rfl,a14_ew⟩:=HasT.int_inv a14_q tyK_3
  exact⟨a14_e',rfl,a14_ew⟩)
 exact⟨⟨a0_',a1_',a2_',a3_',a4_',a5_',a6_',a7_',a8_',a9_',a10_',a11_',a12_',a13_',a14_'⟩,rfl,⟨a0_w,a1_w,a2_w,a3_w,(by simpa using a4_w),a4_a,a5_w,(by simpa using a6_w),a6_a,(by simpa using a7_w),a7_a,(by simpa using a8_w),a8_a,(by simpa using a9_w),a9_a,(by simpa using a10_w),a10_a,(by simpa using a11_w),a11_a,(by simpa using a12_w),a12_a,(by simpa using a13_w),a13_a,(by simpa using a14_w),a14_a⟩⟩
inductive GExpr where
 | mk (Kind:Int) (Op:Int) (Num:Int) (Name:ByteArray) (Args:(List GExpr))
def GExpr.Kind:GExpr→Int
 | .mk a0 a1 a2 a3 a4=>a0
def GExpr.Op:GExpr→Int
 | .mk a0 a1 a2 a3 a4=>a1
def GExpr.Num:GExpr→Int
 | .mk a0 a1 a2 a3 a4=>a2
def GExpr.Name:GExpr→ByteArray
 | .mk a0 a1 a2 a3 a4=>a3
def GExpr.Args:GExpr→(List GExpr)
 | .mk a0 a1 a2 a3 a4=>a4
mutual
def GExpr.enc:GExpr→List D
 | .mk a0 a1 a2 a3 a4=> [D.v (.int .i64 a0),D.v (.int .i64 a1),D.v (.int .i64 a2),D.v (.string a3),D.sl (GExpr.encs a4)]
def GExpr.encs:List GExpr→List (List D)
 | []=> []
 | x::l=>x.enc::GExpr.encs l
end
theorem GExpr.encs_eq:∀l:List GExpr,GExpr.encs l=l.map GExpr.enc
 | []=>rfl
 | x::l=>by rw [GExpr.encs,GExpr.encs_eq l];rfl
theorem GExpr.enc_eq(x:GExpr):x.enc=[D.v (.int .i64 x.Kind),D.v (.int .i64 x.Op),D.v (.int .i64 x.Num),D.v (.string x.Name),D.sl (x.Args.map GExpr.enc)]:=by
 cases x
 simp only [GExpr.enc,GExpr.encs_eq]
 rfl
@[simp] theorem GExpr.enc_length(x:GExpr):x.enc.length=5:=by cases x;rfl
@[simp] theorem GExpr.enc_0(x:GExpr):x.enc[0]?=some (D.v (.int .i64 x.Kind)):=by rw [GExpr.enc_eq];rfl
@[simp] theorem GExpr.encg_0(x:GExpr) (h:0 < x.enc.length):x.enc[0]=D.v (.int .i64 x.Kind):=by
 have:=GExpr.enc_0 x
 rw [List.getElem?_eq_getElem h]at this
 exact Option.some.inj this
@[simp] theorem GExpr.enc_1(x:GExpr):x.enc[1]?=some (D.v (.int .i64 x.Op)):=by rw [GExpr.enc_eq];rfl
@[simp] theorem GExpr.encg_1(x:GExpr) (h:1 < x.enc.length):x.enc[1]=D.v (.int .i64 x.Op):=by
 have:=GExpr.enc_1 x
 rw [List.getElem?_eq_getElem h]at this
 exact Option.some.inj this
@[simp] theorem GExpr.enc_2(x:GExpr):x.enc[2]?=some (D.v (.int .i64 x.Num)):=by rw [GExpr.enc_eq];rfl
@[simp] theorem GExpr.encg_2(x:GExpr) (h:2 < x.enc.length):x.enc[2]=D.v (.int .i64 x.Num):=by
 have:=GExpr.enc_2 x
 rw [List.getElem?_eq_getElem h]at this
 exact Option.some.inj this
@[simp] theorem GExpr.enc_3(x:GExpr):x.enc[3]?=some (D.v (.string x.Name)):=by rw [GExpr.enc_eq];rfl
@[simp] theorem GExpr.encg_3(x:GExpr) (h:3 < x.enc.length):x.enc[3]=D.v (.string x.Name):=by
 have:=GExpr.enc_3 x
 rw [List.getElem?_eq_getElem h]at this
 exact Option.some.inj this
@[simp] theorem GExpr.enc_4(x:GExpr):x.enc[4]?=some (D.sl (x.Args.map GExpr.enc)):=by rw [GExpr.enc_eq];rfl
@[simp] theorem GExpr.encg_4(x:GExpr) (h:4 < x.enc.length):x.enc[4]=D.sl (x.Args.map GExpr.enc):=by
 have:=GExpr.enc_4 x
 rw [List.getElem?_eq_getElem h]at this
 exact Option.some.inj this
def GExpr.zero:GExpr:= .mk (0) (0) (0) (⟨#[]⟩) ([])
@[simp] theorem GExpr.getZ(o:Option GExpr):(o.map GExpr.enc).getD [D.v (.int .i64 0),D.v (.int .i64 0),D.v (.int .i64 0),D.v (.string ⟨#[]⟩),D.sl []]=(o.getD GExpr.zero).enc:=by cases o <;> rfl
@[simp] theorem GExpr.dropAllv(x:GExpr):List.drop 5 (x.enc.map V.d)=[]:=by cases x;rfl
@[simp] theorem GExpr.enc_all(x:GExpr):x.enc.take 5=x.enc:=by cases x;rfl
@[simp] theorem GExpr.enc_allv(x:GExpr):List.take 5 (x.enc.map V.d)=x.enc.map V.d:=by cases x;rfl
mutual
def GExpr.wf:GExpr→Prop
 | .mk a0 a1 a2 a3 a4=>inR .i64 a0∧inR .i64 a1∧inR .i64 a2∧a3.size≤140737488351232∧a4.length *64≤140737488351232∧GExpr.wfs a4
def GExpr.wfs:List GExpr→Prop
 | []=>True
 | x::l=>x.wf∧GExpr.wfs l
end
theorem GExpr.wfs_iff:∀l:List GExpr,GExpr.wfs l↔∀y∈l,y.wf
 | []=>by simp [GExpr.wfs]
 | x::l=>by rw [GExpr.wfs,GExpr.wfs_iff l];simp
theorem GExpr.wf_iff(x:GExpr):x.wf↔inR .i64 x.Kind∧inR .i64 x.Op∧inR .i64 x.Num∧x.Name.size≤140737488351232∧x.Args.length *64≤140737488351232∧(∀y0:GExpr,y0∈x.Args→y0.wf):=by
 cases x
 simp only [GExpr.wf,GExpr.wfs_iff]
 rfl
theorem GExpr.wl_Args {x:GExpr} (h:x.wf):x.Args.length *64≤140737488351232:=((GExpr.wf_iff x).1 h).2.2.2.2.1
theorem GExpr.wf_Args {x:GExpr} (h:x.wf):(∀y0:GExpr,y0∈x.Args→y0.wf):=((GExpr.wf_iff x).1 h).2.2.2.2.2
theorem tyK_113:tyK prog 113= .st [3,3,3,9,58]:=by kernel_rfl
theorem tyK_58:tyK prog 58= .sl 113 64:=by kernel_rfl
theorem GExpr.of':∀(n:Nat) {ys:List D},SizeOf.sizeOf ys < n→HasT prog 113 ys→∃x:GExpr,ys=x.enc∧x.wf:=by
 intro n
 induction n with
 | zero=>intro ys h;omega
 | succ n ih=>
 intro ys hsz h
 have h':=HasT.st_inv h tyK_113
 obtain⟨a0_,r0,hr0,t0,h0⟩:=h'
 obtain⟨a1_,r1,hr1,t1,h1⟩:=h0
 obtain⟨a2_,r2,hr2,t2,h2⟩:=h1
 obtain⟨a3_,r3,hr3,t3,h3⟩:=h2
 obtain⟨a4_,r4,hr4,t4,h4⟩:=h3
 simp only [HasTs]at h4
 subst h4
 subst hr4
 subst hr3
 subst hr2
 subst hr1
 subst hr0
 obtain⟨a0_',rfl,a0_w⟩:=HasT.int_inv t0 tyK_3
 obtain⟨a1_',rfl,a1_w⟩:=HasT.int_inv t1 tyK_3
 obtain⟨a2_',rfl,a2_w⟩:=HasT.int_inv t2 tyK_3
 obtain⟨a3_',rfl,a3_w⟩:=HasT.str_inv t3 tyK_9
 obtain⟨a4_0,rfl,a4_h,a4_l,a4_w⟩:=HasT.sl_inv t4 tyK_58
 obtain⟨a4_',rfl,a4_a⟩:=map_of (f:=GExpr.enc) (p:=GExpr.wf) (fun a4_e hx=>ih (by have hlt:=List.sizeOf_lt_of_mem hx;simp at hsz;omega) (a4_h a4_e hx))
 exact⟨.mk a0_' a1_' a2_' a3_' a4_',by rw [GExpr.enc_eq];rfl,by rw [GExpr.wf];exact⟨a0_w,a1_w,a2_w,a3_w,(by simpa using a4_w),(GExpr.wfs_iff _).2 a4_a⟩⟩
theorem GExpr.of {ys:List D} (h:HasT prog 113 ys):∃x:GExpr,ys=x.enc∧x.wf:=GExpr.of' _ (Nat.lt_succ_self _) h
inductive GStmt where
 | mk (Kind:Int) (Num:Int) (Name:ByteArray) (Args:(List GExpr)) (Body:(List GStmt)) (Else:(List GStmt))
def GStmt.Kind:GStmt→Int
 | .mk a0 a1 a2 a3 a4 a5=>a0
def GStmt.Num:GStmt→Int
 | .mk a0 a1 a2 a3 a4 a5=>a1
def GStmt.Name:GStmt→ByteArray
 | .mk a0 a1 a2 a3 a4 a5=>a2
def GStmt.Args:GStmt→(List GExpr)
 | .mk a0 a1 a2 a3 a4 a5=>a3
def GStmt.Body:GStmt→(List GStmt)
 | .mk a0 a1 a2 a3 a4 a5=>a4
def GStmt.Else:GStmt→(List GStmt)
 | .mk a0 a1 a2 a3 a4 a5=>a5
mutual
def GStmt.enc:GStmt→List D
 | .mk a0 a1 a2 a3 a4 a5=> [D.v (.int .i64 a0),D.v (.int .i64 a1),D.v (.string a2),D.sl (a3.map GExpr.enc),D.sl (GStmt.encs a4),D.sl (GStmt.encs a5)]
def GStmt.encs:List GStmt→List (List D)
 | []=> []
 | x::l=>x.enc::GStmt.encs l
end
theorem GStmt.encs_eq:∀l:List GStmt,GStmt.encs l=l.map GStmt.enc
 | []=>rfl
 | x::l=>by rw [GStmt.encs,GStmt.encs_eq l];rfl
theorem GStmt.enc_eq(x:GStmt):x.enc=[D.v (.int .i64 x.Kind),D.v (.int .i64 x.Num),D.v (.string x.Name),D.sl (x.Args.map GExpr.enc),D.sl (x.Body.map GStmt.enc),D.sl (x.Else.map GStmt.enc)]:=by
 cases x
 simp only [GStmt.enc,GStmt.encs_eq]
 rfl
@[simp] theorem GStmt.enc_length(x:GStmt):x.enc.length=6:=by cases x;rfl
@[simp] theorem GStmt.enc_0(x:GStmt):x.enc[0]?=some (D.v (.int .i64 x.Kind)):=by rw [GStmt.enc_eq];rfl
@[simp] theorem GStmt.encg_0(x:GStmt) (h:0 < x.enc.length):x.enc[0]=D.v (.int .i64 x.Kind):=by
 have:=GStmt.enc_0 x
 rw [List.getElem?_eq_getElem h]at this
 exact Option.some.inj this
@[simp] theorem GStmt.enc_1(x:GStmt):x.enc[1]?=some (D.v (.int .i64 x.Num)):=by rw [GStmt.enc_eq];rfl
@[simp] theorem GStmt.encg_1(x:GStmt) (h:1 < x.enc.length):x.enc[1]=D.v (.int .i64 x.Num):=by
 have:=GStmt.enc_1 x
 rw [List.getElem?_eq_getElem h]at this
 exact Option.some.inj this
@[simp] theorem GStmt.enc_2(x:GStmt):x.enc[2]?=some (D.v (.string x.Name)):=by rw [GStmt.enc_eq];rfl
@[simp] theorem GStmt.encg_2(x:GStmt) (h:2 < x.enc.length):x.enc[2]=D.v (.string x.Name):=by
 have:=GStmt.enc_2 x
 rw [List.getElem?_eq_getElem h]at this
 exact Option.some.inj this
@[simp] theorem GStmt.enc_3(x:GStmt):x.enc[3]?=some (D.sl (x.Args.map GExpr.enc)):=by rw [GStmt.enc_eq];rfl
@[simp] theorem GStmt.encg_3(x:GStmt) (h:3 < x.enc.length):x.enc[3]=D.sl (x.Args.map GExpr.enc):=by
 have:=GStmt.enc_3 x
 rw [List.getElem?_eq_getElem h]at this
 exact Option.some.inj this
@[simp] theorem GStmt.enc_4(x:GStmt):x.enc[4]?=some (D.sl (x.Body.map GStmt.enc)):=by rw [GStmt.enc_eq];rfl
@[simp] theorem GStmt.encg_4(x:GStmt) (h:4 < x.enc.length):x.enc[4]=D.sl (x.Body.map GStmt.enc):=by
 have:=GStmt.enc_4 x
 rw [List.getElem?_eq_getElem h]at this
 exact Option.some.inj this
@[simp] theorem GStmt.enc_5(x:GStmt):x.enc[5]?=some (D.sl (x.Else.map GStmt.enc)):=by rw [GStmt.enc_eq];rfl
@[simp] theorem GStmt.encg_5(x:GStmt) (h:5 < x.enc.length):x.enc[5]=D.sl (x.Else.map GStmt.enc):=by
 have:=GStmt.enc_5 x
 rw [List.getElem?_eq_getElem h]at this
 exact Option.some.inj this
def GStmt.zero:GStmt:= .mk (0) (0) (⟨#[]⟩) ([]) ([]) ([])
@[simp] theorem GStmt.enc_all(x:GStmt):x.enc.take 6=x.enc:=by cases x;rfl
@[simp] theorem GStmt.enc_allv(x:GStmt):List.take 6 (x.enc.map V.d)=x.enc.map V.d:=by cases x;rfl
mutual
def GStmt.wf:GStmt→Prop
 | .mk a0 a1 a2 a3 a4 a5=>inR .i64 a0∧inR .i64 a1∧a2.size≤140737488351232∧a3.length *64≤140737488351232∧(∀y0:GExpr,y0∈a3→y0.wf)∧a4.length *104≤140737488351232∧GStmt.wfs a4∧a5.length *104≤140737488351232∧GStmt.wfs a5
def GStmt.wfs:List GStmt→Prop
 | []=>True
 | x::l=>x.wf∧GStmt.wfs l
end
theorem GStmt.wfs_iff:∀l:List GStmt,GStmt.wfs l↔∀y∈l,y.wf
 | []=>by simp [GStmt.wfs]
 | x::l=>by rw [GStmt.wfs,GStmt.wfs_iff l];simp
theorem GStmt.wf_iff(x:GStmt):x.wf↔inR .i64 x.Kind∧inR .i64 x.Num∧x.Name.size≤140737488351232∧x.Args.length *64≤140737488351232∧(∀y0:GExpr,y0∈x.Args→y0.wf)∧x.Body.length *104≤140737488351232∧(∀y0:GStmt,y0∈x.Body→y0.wf)∧x.Else.length *104≤140737488351232∧(∀y0:GStmt,y0∈x.Else→y0.wf):=by
 cases x
 simp only [GStmt.wf,GStmt.wfs_iff]
 rfl
theorem GStmt.wf_Num {x:GStmt} (h:x.wf):inR .i64 x.Num:=((GStmt.wf_iff x).1 h).2.1
theorem GStmt.wl_Args {x:GStmt} (h:x.wf):x.Args.length *64≤140737488351232:=((GStmt.wf_iff x).1 h).2.2.2.1
theorem GStmt.wf_Args {x:GStmt} (h:x.wf):(∀y0:GExpr,y0∈x.Args→y0.wf):=((GStmt.wf_iff x).1 h).2.2.2.2.1
theorem GStmt.wl_Body {x:GStmt} (h:x.wf):x.Body.length *104≤140737488351232:=((GStmt.wf_iff x).1 h).2.2.2.2.2.1
theorem GStmt.wf_Body {x:GStmt} (h:x.wf):(∀y0:GStmt,y0∈x.Body→y0.wf):=((GStmt.wf_iff x).1 h).2.2.2.2.2.2.1
theorem GStmt.wl_Else {x:GStmt} (h:x.wf):x.Else.length *104≤140737488351232:=((GStmt.wf_iff x).1 h).2.2.2.2.2.2.2.1
theorem GStmt.wf_Else {x:GStmt} (h:x.wf):(∀y0:GStmt,y0∈x.Else→y0.wf):=((GStmt.wf_iff x).1 h).2.2.2.2.2.2.2.2
theorem tyK_60:tyK prog 60= .st [3,3,9,58,45,45]:=by kernel_rfl
theorem tyK_45:tyK prog 45= .sl 60 104:=by kernel_rfl
theorem GStmt.of':∀(n:Nat) {ys:List D},SizeOf.sizeOf ys < n→HasT prog 60 ys→∃x:GStmt,ys=x.enc∧x.wf:=by
 intro n
 induction n with
 | zero=>intro ys h;omega
 | succ n ih=>
 intro ys hsz h
 have h':=HasT.st_inv h tyK_60
 obtain⟨a0_,r0,hr0,t0,h0⟩:=h'
 obtain⟨a1_,r1,hr1,t1,h1⟩:=h0
 obtain⟨a2_,r2,hr2,t2,h2⟩:=h1
 obtain⟨a3_,r3,hr3,t3,h3⟩:=h2
 obtain⟨a4_,r4,hr4,t4,h4⟩:=h3
 obtain⟨a5_,r5,hr5,t5,h5⟩:=h4
 simp only [HasTs]at h5
 subst h5
 subst hr5
 subst hr4
 subst hr3
 subst hr2
 subst hr1
 subst hr0
 obtain⟨a0_',rfl,a0_w⟩:=HasT.int_inv t0 tyK_3
 obtain⟨a1_',rfl,a1_w⟩:=HasT.int_inv t1 tyK_3
 obtain⟨a2_',rfl,a2_w⟩:=HasT.str_inv t2 tyK_9
 obtain⟨a3_0,rfl,a3_h,a3_l,a3_w⟩:=HasT.sl_inv t3 tyK_58
 obtain⟨a3_',rfl,a3_a⟩:=map_of (f:=GExpr.enc) (p:=fun(y:GExpr)=>y.wf) (fun a3_e hx=>by
  have a3_q:=a3_h a3_e hx
  obtain⟨a3_e',rfl,a3_ew⟩:=GExpr.of a3_q
  exact⟨a3_e',rfl,a3_ew⟩)
 obtain⟨a4_0,rfl,a4_h,a4_l,a4_w⟩:=HasT.sl_inv t4 tyK_45
 obtain⟨a4_',rfl,a4_a⟩:=map_of (f:=GStmt.enc) (p:=GStmt.wf) (fun a4_e hx=>ih (by have hlt:=List.sizeOf_lt_of_mem hx;simp at hsz;omega) (a4_h a4_e hx))
 obtain⟨a5_0,rfl,a5_h,a5_l,a5_w⟩:=HasT.sl_inv t5 tyK_45
 obtain⟨a5_',rfl,a5_a⟩:=map_of (f:=GStmt.enc) (p:=GStmt.wf) (fun a5_e hx=>ih (by have hlt:=List.sizeOf_lt_of_mem hx;simp at hsz;omega) (a5_h a5_e hx))
 exact⟨.mk a0_' a1_' a2_' a3_' a4_' a5_',by rw [GStmt.enc_eq];rfl,by rw [GStmt.wf];exact⟨a0_w,a1_w,a2_w,(by simpa using a3_w),a3_a,(by simpa using a4_w),(GStmt.wfs_iff _).2 a4_a,(by simpa using a5_w),(GStmt.wfs_iff _).2 a5_a⟩⟩
theorem GStmt.of {ys:List D} (h:HasT prog 60 ys):∃x:GStmt,ys=x.enc∧x.wf:=GStmt.of' _ (Nat.lt_succ_self _) h
structure GBook where
 Tables:GTables
 Routines:(List (List GStmt))
def GBook.enc(x:GBook):List D:=[D.v (.int .i64 x.Tables.Title),D.v (.int .i64 x.Tables.By),D.v (.int .i64 x.Tables.Release),D.v (.int .i64 x.Tables.Max),D.sl (encS x.Tables.Texts),D.v (.int .i64 x.Tables.Flags),D.sl (encI x.Tables.Props),D.sl (encI x.Tables.Globals),D.sl (x.Tables.Things.map GThing.enc),D.sl (x.Tables.Acts.map GAct.enc),D.sl (x.Tables.Deeds.map GDeed.enc),D.sl (encI x.Tables.Funcs),D.sl (encI x.Tables.Daemons),D.sl (encI x.Tables.Params),D.sl (encI x.Tables.Locals),D.sl (encSl (List.map GStmt.enc) x.Routines)]
@[simp] theorem GBook.enc_length(x:GBook):x.enc.length=16:=rfl
@[simp] theorem GBook.enc_0(x:GBook):x.enc[0]?=some (D.v (.int .i64 x.Tables.Title)):=rfl
@[simp] theorem GBook.encg_0(x:GBook) (h:0 < x.enc.length):x.enc[0]=D.v (.int .i64 x.Tables.Title):=rfl
@[simp] theorem GBook.enc_1(x:GBook):x.enc[1]?=some (D.v (.int .i64 x.Tables.By)):=rfl
@[simp] theorem GBook.encg_1(x:GBook) (h:1 < x.enc.length):x.enc[1]=D.v (.int .i64 x.Tables.By):=rfl
@[simp] theorem GBook.enc_2(x:GBook):x.enc[2]?=some (D.v (.int .i64 x.Tables.Release)):=rfl
@[simp] theorem GBook.encg_2(x:GBook) (h:2 < x.enc.length):x.enc[2]=D.v (.int .i64 x.Tables.Release):=rfl
@[simp] theorem GBook.enc_3(x:GBook):x.enc[3]?=some (D.v (.int .i64 x.Tables.Max)):=rfl
@[simp] theorem GBook.encg_3(x:GBook) (h:3 < x.enc.length):x.enc[3]=D.v (.int .i64 x.Tables.Max):=rfl
@[simp] theorem GBook.enc_4(x:GBook):x.enc[4]?=some (D.sl (encS x.Tables.Texts)):=rfl
@[simp] theorem GBook.encg_4(x:GBook) (h:4 < x.enc.length):x.enc[4]=D.sl (encS x.Tables.Texts):=rfl
@[simp] theorem GBook.enc_5(x:GBook):x.enc[5]?=some (D.v (.int .i64 x.Tables.Flags)):=rfl
@[simp] theorem GBook.encg_5(x:GBook) (h:5 < x.enc.length):x.enc[5]=D.v (.int .i64 x.Tables.Flags):=rfl
@[simp] theorem GBook.enc_6(x:GBook):x.enc[6]?=some (D.sl (encI x.Tables.Props)):=rfl
@[simp] theorem GBook.encg_6(x:GBook) (h:6 < x.enc.length):x.enc[6]=D.sl (encI x.Tables.Props):=rfl
@[simp] theorem GBook.enc_7(x:GBook):x.enc[7]?=some (D.sl (encI x.Tables.Globals)):=rfl
@[simp] theorem GBook.encg_7(x:GBook) (h:7 < x.enc.length):x.enc[7]=D.sl (encI x.Tables.Globals):=rfl
@[simp] theorem GBook.enc_8(x:GBook):x.enc[8]?=some (D.sl (x.Tables.Things.map GThing.enc)):=rfl
@[simp] theorem GBook.encg_8(x:GBook) (h:8 < x.enc.length):x.enc[8]=D.sl (x.Tables.Things.map GThing.enc):=rfl
@[simp] theorem GBook.enc_9(x:GBook):x.enc[9]?=some (D.sl (x.Tables.Acts.map GAct.enc)):=rfl
@[simp] theorem GBook.encg_9(x:GBook) (h:9 < x.enc.length):x.enc[9]=D.sl (x.Tables.Acts.map GAct.enc):=rfl
@[simp] theorem GBook.enc_10(x:GBook):x.enc[10]?=some (D.sl (x.Tables.Deeds.map GDeed.enc)):=rfl
@[simp] theorem GBook.encg_10(x:GBook) (h:10 < x.enc.length):x.enc[10]=D.sl (x.Tables.Deeds.map GDeed.enc):=rfl
@[simp] theorem GBook.enc_11(x:GBook):x.enc[11]?=some (D.sl (encI x.Tables.Funcs)):=rfl
@[simp] theorem GBook.encg_11(x:GBook) (h:11 < x.enc.length):x.enc[11]=D.sl (encI x.Tables.Funcs):=rfl
@[simp] theorem GBook.enc_12(x:GBook):x.enc[12]?=some (D.sl (encI x.Tables.Daemons)):=rfl
@[simp] theorem GBook.encg_12(x:GBook) (h:12 < x.enc.length):x.enc[12]=D.sl (encI x.Tables.Daemons):=rfl
@[simp] theorem GBook.enc_13(x:GBook):x.enc[13]?=some (D.sl (encI x.Tables.Params)):=rfl
@[simp] theorem GBook.encg_13(x:GBook) (h:13 < x.enc.length):x.enc[13]=D.sl (encI x.Tables.Params):=rfl
@[simp] theorem GBook.enc_14(x:GBook):x.enc[14]?=some (D.sl (encI x.Tables.Locals)):=rfl
@[simp] theorem GBook.encg_14(x:GBook) (h:14 < x.enc.length):x.enc[14]=D.sl (encI x.Tables.Locals):=rfl
@[simp] theorem GBook.enc_15(x:GBook):x.enc[15]?=some (D.sl (encSl (List.map GStmt.enc) x.Routines)):=rfl
@[simp] theorem GBook.encg_15(x:GBook) (h:15 < x.enc.length):x.enc[15]=D.sl (encSl (List.map GStmt.enc) x.Routines):=rfl
def GBook.zero:GBook:=⟨GTables.zero,[]⟩
@[simp] theorem GBook.dropAll(x:GBook):List.drop 16 x.enc=[]:=rfl
@[simp] theorem GBook.dropAllv(x:GBook):List.drop 16 (x.enc.map V.d)=[]:=rfl
@[simp] theorem GBook.enc_all(x:GBook):x.enc.take 16=x.enc:=rfl
@[simp] theorem GBook.enc_allv(x:GBook):List.take 16 (x.enc.map V.d)=x.enc.map V.d:=rfl
@[simp] theorem GBook.sub_Tables(x:GBook):List.take 15 (x.enc)=x.Tables.enc:=rfl
@[simp] theorem GBook.subv_Tables(x:GBook):List.take 15 (x.enc.map V.d)=x.Tables.enc.map V.d:=rfl
def GBook.wf(x:GBook):Prop:=x.Tables.wf∧x.Routines.length *24≤140737488351232∧(∀y0:(List GStmt),y0∈x.Routines→y0.length *104≤140737488351232∧(∀y1:GStmt,y1∈y0→y1.wf))
theorem GBook.wf_Tables {x:GBook} (h:x.wf):x.Tables.wf:=h.1
theorem GBook.wl_Routines {x:GBook} (h:x.wf):x.Routines.length *24≤140737488351232:=h.2.1
theorem GBook.wf_Routines {x:GBook} (h:x.wf):(∀y0:(List GStmt),y0∈x.Routines→y0.length *104≤140737488351232∧(∀y1:GStmt,y1∈y0→y1.wf)):=h.2.2
theorem tyK_31:tyK prog 31= .st [28,29]:=by kernel_rfl
theorem tyK_29:tyK prog 29= .sl 45 24:=by kernel_rfl
theorem GBook.of {ys:List D} (h:HasT prog 31 ys):∃x:GBook,ys=x.enc∧x.wf:=by
 have h':=HasT.st_inv h tyK_31
 obtain⟨a0_,r0,hr0,t0,h0⟩:=h'
 obtain⟨a1_,r1,hr1,t1,h1⟩:=h0
 simp only [HasTs]at h1
 subst h1
 subst hr1
 subst hr0
 obtain⟨a0_',rfl,a0_w⟩:=GTables.of t0
 obtain⟨a1_0,rfl,a1_h,a1_l,a1_w⟩:=HasT.sl_inv t1 tyK_29
 obtain⟨a1_',rfl,a1_a⟩:=map_of (f:=(fun y=> [D.sl (y.map GStmt.enc)])) (p:=fun(y:(List GStmt))=>y.length *104≤140737488351232∧(∀y1:GStmt,y1∈y→y1.wf)) (fun a1_e hx=>by
  have a1_q:=a1_h a1_e hx
  obtain⟨a1_e0,rfl,a1_eh,a1_el,a1_ew⟩:=HasT.sl_inv a1_q tyK_45
  obtain⟨a1_e',rfl,a1_ea⟩:=map_of (f:=GStmt.enc) (p:=fun(y:GStmt)=>y.wf) (fun a1_ee hx=>by
   have a1_eq:=a1_eh a1_ee hx
   obtain⟨a1_ee',rfl,a1_eew⟩:=GStmt.of a1_eq
   exact⟨a1_ee',rfl,a1_eew⟩)
  exact⟨a1_e',rfl,⟨(by simpa using a1_ew),a1_ea⟩⟩)
 exact⟨⟨a0_',a1_'⟩,rfl,⟨a0_w,(by simpa using a1_w),a1_a⟩⟩
structure GStory where
 Tables:GTables
 Entry:(List Int)
 Code:(List Int)
 deriving DecidableEq
def GStory.enc(x:GStory):List D:=[D.v (.int .i64 x.Tables.Title),D.v (.int .i64 x.Tables.By),D.v (.int .i64 x.Tables.Release),D.v (.int .i64 x.Tables.Max),D.sl (encS x.Tables.Texts),D.v (.int .i64 x.Tables.Flags),D.sl (encI x.Tables.Props),D.sl (encI x.Tables.Globals),D.sl (x.Tables.Things.map GThing.enc),D.sl (x.Tables.Acts.map GAct.enc),D.sl (x.Tables.Deeds.map GDeed.enc),D.sl (encI x.Tables.Funcs),D.sl (encI x.Tables.Daemons),D.sl (encI x.Tables.Params),D.sl (encI x.Tables.Locals),D.sl (encI x.Entry),D.sl (x.Code.map fun y=> [D.v (.int .u8 y)])]
@[simp] theorem GStory.enc_length(x:GStory):x.enc.length=17:=rfl
@[simp] theorem GStory.enc_0(x:GStory):x.enc[0]?=some (D.v (.int .i64 x.Tables.Title)):=rfl
@[simp] theorem GStory.encg_0(x:GStory) (h:0 < x.enc.length):x.enc[0]=D.v (.int .i64 x.Tables.Title):=rfl
@[simp] theorem GStory.enc_1(x:GStory):x.enc[1]?=some (D.v (.int .i64 x.Tables.By)):=rfl
@[simp] theorem GStory.encg_1(x:GStory) (h:1 < x.enc.length):x.enc[1]=D.v (.int .i64 x.Tables.By):=rfl
@[simp] theorem GStory.enc_2(x:GStory):x.enc[2]?=some (D.v (.int .i64 x.Tables.Release)):=rfl
@[simp] theorem GStory.encg_2(x:GStory) (h:2 < x.enc.length):x.enc[2]=D.v (.int .i64 x.Tables.Release):=rfl
@[simp] theorem GStory.enc_3(x:GStory):x.enc[3]?=some (D.v (.int .i64 x.Tables.Max)):=rfl
@[simp] theorem GStory.encg_3(x:GStory) (h:3 < x.enc.length):x.enc[3]=D.v (.int .i64 x.Tables.Max):=rfl
@[simp] theorem GStory.enc_4(x:GStory):x.enc[4]?=some (D.sl (encS x.Tables.Texts)):=rfl
@[simp] theorem GStory.encg_4(x:GStory) (h:4 < x.enc.length):x.enc[4]=D.sl (encS x.Tables.Texts):=rfl
@[simp] theorem GStory.enc_5(x:GStory):x.enc[5]?=some (D.v (.int .i64 x.Tables.Flags)):=rfl
@[simp] theorem GStory.encg_5(x:GStory) (h:5 < x.enc.length):x.enc[5]=D.v (.int .i64 x.Tables.Flags):=rfl
@[simp] theorem GStory.enc_6(x:GStory):x.enc[6]?=some (D.sl (encI x.Tables.Props)):=rfl
@[simp] theorem GStory.encg_6(x:GStory) (h:6 < x.enc.length):x.enc[6]=D.sl (encI x.Tables.Props):=rfl
@[simp] theorem GStory.enc_7(x:GStory):x.enc[7]?=some (D.sl (encI x.Tables.Globals)):=rfl
@[simp] theorem GStory.encg_7(x:GStory) (h:7 < x.enc.length):x.enc[7]=D.sl (encI x.Tables.Globals):=rfl
@[simp] theorem GStory.enc_8(x:GStory):x.enc[8]?=some (D.sl (x.Tables.Things.map GThing.enc)):=rfl
@[simp] theorem GStory.encg_8(x:GStory) (h:8 < x.enc.length):x.enc[8]=D.sl (x.Tables.Things.map GThing.enc):=rfl
@[simp] theorem GStory.enc_9(x:GStory):x.enc[9]?=some (D.sl (x.Tables.Acts.map GAct.enc)):=rfl
@[simp] theorem GStory.encg_9(x:GStory) (h:9 < x.enc.length):x.enc[9]=D.sl (x.Tables.Acts.map GAct.enc):=rfl
@[simp] theorem GStory.enc_10(x:GStory):x.enc[10]?=some (D.sl (x.Tables.Deeds.map GDeed.enc)):=rfl
@[simp] theorem GStory.encg_10(x:GStory) (h:10 < x.enc.length):x.enc[10]=D.sl (x.Tables.Deeds.map GDeed.enc):=rfl
@[simp] theorem GStory.enc_11(x:GStory):x.enc[11]?=some (D.sl (encI x.Tables.Funcs)):=rfl
@[simp] theorem GStory.encg_11(x:GStory) (h:11 < x.enc.length):x.enc[11]=D.sl (encI x.Tables.Funcs):=rfl
@[simp] theorem GStory.enc_12(x:GStory):x.enc[12]?=some (D.sl (encI x.Tables.Daemons)):=rfl
@[simp] theorem GStory.encg_12(x:GStory) (h:12 < x.enc.length):x.enc[12]=D.sl (encI x.Tables.Daemons):=rfl
@[simp] theorem GStory.enc_13(x:GStory):x.enc[13]?=some (D.sl (encI x.Tables.Params)):=rfl
@[simp] theorem GStory.encg_13(x:GStory) (h:13 < x.enc.length):x.enc[13]=D.sl (encI x.Tables.Params):=rfl
@[simp] theorem GStory.enc_14(x:GStory):x.enc[14]?=some (D.sl (encI x.Tables.Locals)):=rfl
@[simp] theorem GStory.encg_14(x:GStory) (h:14 < x.enc.length):x.enc[14]=D.sl (encI x.Tables.Locals):=rfl
@[simp] theorem GStory.enc_15(x:GStory):x.enc[15]?=some (D.sl (encI x.Entry)):=rfl
@[simp] theorem GStory.encg_15(x:GStory) (h:15 < x.enc.length):x.enc[15]=D.sl (encI x.Entry):=rfl
@[simp] theorem GStory.enc_16(x:GStory):x.enc[16]?=some (D.sl (x.Code.map fun y=> [D.v (.int .u8 y)])):=rfl
@[simp] theorem GStory.encg_16(x:GStory) (h:16 < x.enc.length):x.enc[16]=D.sl (x.Code.map fun y=> [D.v (.int .u8 y)]):=rfl
@[simp] theorem GStory.fzV(L:Heap) (x:GStory):V.fzs L (x.enc.map V.d)=x.enc.map V.d:=by simp [GStory.enc,V.fzs,V.fz]
def GStory.zero:GStory:=⟨GTables.zero,[],[]⟩
@[simp] theorem GStory.dropAll(x:GStory):List.drop 17 x.enc=[]:=rfl
@[simp] theorem GStory.dropAllv(x:GStory):List.drop 17 (x.enc.map V.d)=[]:=rfl
@[simp] theorem GStory.enc_all(x:GStory):x.enc.take 17=x.enc:=rfl
@[simp] theorem GStory.enc_allv(x:GStory):List.take 17 (x.enc.map V.d)=x.enc.map V.d:=rfl
@[simp] theorem GStory.sub_Tables(x:GStory):List.take 15 (x.enc)=x.Tables.enc:=rfl
@[simp] theorem GStory.subv_Tables(x:GStory):List.take 15 (x.enc.map V.d)=x.Tables.enc.map V.d:=rfl
def GStory.wf(x:GStory):Prop:=x.Tables.wf∧x.Entry.length *8≤140737488351232∧(∀y0:Int,y0∈x.Entry→inR .i64 y0)∧x.Code.length *1≤140737488351232∧(∀y0:Int,y0∈x.Code→inR .u8 y0)
structure GIns where
 Op:Int
 Arg:Int
 deriving DecidableEq
def GIns.enc(x:GIns):List D:=[D.v (.int .i64 x.Op),D.v (.int .i64 x.Arg)]
@[simp] theorem GIns.enc_length(x:GIns):x.enc.length=2:=rfl
@[simp] theorem GIns.enc_0(x:GIns):x.enc[0]?=some (D.v (.int .i64 x.Op)):=rfl
@[simp] theorem GIns.encg_0(x:GIns) (h:0 < x.enc.length):x.enc[0]=D.v (.int .i64 x.Op):=rfl
@[simp] theorem GIns.enc_1(x:GIns):x.enc[1]?=some (D.v (.int .i64 x.Arg)):=rfl
@[simp] theorem GIns.encg_1(x:GIns) (h:1 < x.enc.length):x.enc[1]=D.v (.int .i64 x.Arg):=rfl
@[simp] theorem GIns.fzV(L:Heap) (x:GIns):V.fzs L (x.enc.map V.d)=x.enc.map V.d:=by simp [GIns.enc,V.fzs,V.fz]
def GIns.zero:GIns:=⟨0,0⟩
@[simp] theorem GIns.getZ(o:Option GIns):(o.map GIns.enc).getD [D.v (.int .i64 0),D.v (.int .i64 0)]=(o.getD GIns.zero).enc:=by cases o <;> rfl
@[simp] theorem GIns.dropAll(x:GIns):List.drop 2 x.enc=[]:=rfl
@[simp] theorem GIns.dropAllv(x:GIns):List.drop 2 (x.enc.map V.d)=[]:=rfl
@[simp] theorem GIns.enc_all(x:GIns):x.enc.take 2=x.enc:=rfl
@[simp] theorem GIns.enc_allv(x:GIns):List.take 2 (x.enc.map V.d)=x.enc.map V.d:=rfl
def GIns.wf(x:GIns):Prop:=inR .i64 x.Op∧inR .i64 x.Arg
structure GWorld where
 Globals:(List Int)
 Parent:(List Int)
 Child:(List Int)
 Next:(List Int)
 Flags:(List Int)
 Props:(List Int)
 Timers:(List Int)
 Seed:Int
 Score:Int
 Turns:Int
 Over:Int
 It:Int
 Go:Int
 deriving DecidableEq
def GWorld.enc(x:GWorld):List D:=[D.sl (encI x.Globals),D.sl (encI x.Parent),D.sl (encI x.Child),D.sl (encI x.Next),D.sl (encI x.Flags),D.sl (encI x.Props),D.sl (encI x.Timers),D.v (.int .u64 x.Seed),D.v (.int .i64 x.Score),D.v (.int .i64 x.Turns),D.v (.int .i64 x.Over),D.v (.int .i64 x.It),D.v (.int .i64 x.Go)]
@[simp] theorem GWorld.enc_length(x:GWorld):x.enc.length=13:=rfl
@[simp] theorem GWorld.enc_0(x:GWorld):x.enc[0]?=some (D.sl (encI x.Globals)):=rfl
@[simp] theorem GWorld.encg_0(x:GWorld) (h:0 < x.enc.length):x.enc[0]=D.sl (encI x.Globals):=rfl
@[simp] theorem GWorld.enc_1(x:GWorld):x.enc[1]?=some (D.sl (encI x.Parent)):=rfl
@[simp] theorem GWorld.encg_1(x:GWorld) (h:1 < x.enc.length):x.enc[1]=D.sl (encI x.Parent):=rfl
@[simp] theorem GWorld.enc_2(x:GWorld):x.enc[2]?=some (D.sl (encI x.Child)):=rfl
@[simp] theorem GWorld.encg_2(x:GWorld) (h:2 < x.enc.length):x.enc[2]=D.sl (encI x.Child):=rfl
@[simp] theorem GWorld.enc_3(x:GWorld):x.enc[3]?=some (D.sl (encI x.Next)):=rfl
@[simp] theorem GWorld.encg_3(x:GWorld) (h:3 < x.enc.length):x.enc[3]=D.sl (encI x.Next):=rfl
@[simp] theorem GWorld.enc_4(x:GWorld):x.enc[4]?=some (D.sl (encI x.Flags)):=rfl
@[simp] theorem GWorld.encg_4(x:GWorld) (h:4 < x.enc.length):x.enc[4]=D.sl (encI x.Flags):=rfl
@[simp] theorem GWorld.enc_5(x:GWorld):x.enc[5]?=some (D.sl (encI x.Props)):=rfl
@[simp] theorem GWorld.encg_5(x:GWorld) (h:5 < x.enc.length):x.enc[5]=D.sl (encI x.Props):=rfl
@[simp] theorem GWorld.enc_6(x:GWorld):x.enc[6]?=some (D.sl (encI x.Timers)):=rfl
@[simp] theorem GWorld.encg_6(x:GWorld) (h:6 < x.enc.length):x.enc[6]=D.sl (encI x.Timers):=rfl
@[simp] theorem GWorld.enc_7(x:GWorld):x.enc[7]?=some (D.v (.int .u64 x.Seed)):=rfl
@[simp] theorem GWorld.encg_7(x:GWorld) (h:7 < x.enc.length):x.enc[7]=D.v (.int .u64 x.Seed):=rfl
@[simp] theorem GWorld.enc_8(x:GWorld):x.enc[8]?=some (D.v (.int .i64 x.Score)):=rfl
@[simp] theorem GWorld.encg_8(x:GWorld) (h:8 < x.enc.length):x.enc[8]=D.v (.int .i64 x.Score):=rfl
@[simp] theorem GWorld.enc_9(x:GWorld):x.enc[9]?=some (D.v (.int .i64 x.Turns)):=rfl
@[simp] theorem GWorld.encg_9(x:GWorld) (h:9 < x.enc.length):x.enc[9]=D.v (.int .i64 x.Turns):=rfl
@[simp] theorem GWorld.enc_10(x:GWorld):x.enc[10]?=some (D.v (.int .i64 x.Over)):=rfl
@[simp] theorem GWorld.encg_10(x:GWorld) (h:10 < x.enc.length):x.enc[10]=D.v (.int .i64 x.Over):=rfl
@[simp] theorem GWorld.enc_11(x:GWorld):x.enc[11]?=some (D.v (.int .i64 x.It)):=rfl
@[simp] theorem GWorld.encg_11(x:GWorld) (h:11 < x.enc.length):x.enc[11]=D.v (.int .i64 x.It):=rfl
@[simp] theorem GWorld.enc_12(x:GWorld):x.enc[12]?=some (D.v (.int .i64 x.Go)):=rfl
@[simp] theorem GWorld.encg_12(x:GWorld) (h:12 < x.enc.length):x.enc[12]=D.v (.int .i64 x.Go):=rfl
def GWorld.zero:GWorld:=⟨[],[],[],[],[],[],[],0,0,0,0,0,0⟩
@[simp] theorem GWorld.dropAll(x:GWorld):List.drop 13 x.enc=[]:=rfl
@[simp] theorem GWorld.dropAllv(x:GWorld):List.drop 13 (x.enc.map V.d)=[]:=rfl
@[simp] theorem GWorld.enc_all(x:GWorld):x.enc.take 13=x.enc:=rfl
@[simp] theorem GWorld.enc_allv(x:GWorld):List.take 13 (x.enc.map V.d)=x.enc.map V.d:=rfl
def GWorld.wf(x:GWorld):Prop:=x.Globals.length *8≤140737488351232∧(∀y0:Int,y0∈x.Globals→inR .i64 y0)∧x.Parent.length *8≤140737488351232∧(∀y0:Int,y0∈x.Parent→inR .i64 y0)∧x.Child.length *8≤140737488351232∧(∀y0:Int,y0∈x.Child→inR .i64 y0)∧x.Next.length *8≤140737488351232∧(∀y0:Int,y0∈x.Next→inR .i64 y0)∧x.Flags.length *8≤140737488351232∧(∀y0:Int,y0∈x.Flags→inR .i64 y0)∧x.Props.length *8≤140737488351232∧(∀y0:Int,y0∈x.Props→inR .i64 y0)∧x.Timers.length *8≤140737488351232∧(∀y0:Int,y0∈x.Timers→inR .i64 y0)∧inR .u64 x.Seed∧inR .i64 x.Score∧inR .i64 x.Turns∧inR .i64 x.Over∧inR .i64 x.It∧inR .i64 x.Go
structure GEnv where
 Noun:Int
 Second:Int
 Number:Int
 deriving DecidableEq
structure GTold where
 Err:Int
 World:GWorld
 Out:ByteArray
 Value:Int
 Stopped:Bool
 Fuel:Int
 deriving DecidableEq
structure GFrame where
 Routine:Int
 At:Int
 Base:Int
 Locals:(List Int)
 deriving DecidableEq
structure GMachine where
 Frames:(List GFrame)
 Stack:(List Int)
 Env:GEnv
 Told:GTold
 Done:Bool
 deriving DecidableEq
end Go.Ab
namespace Go.Ab
section
variable {P : Program} {n : Nat} {s : St} {Q : AX → St → Prop} {L : Heap}
structure Pure(P:Program) (f:FuncId) (args:List V) (x:V):Prop where
 en:enters P f=true
 on:V.ons [] args=true
 rn:x.on []=true
 calls:ACalls P f args [] (fun r _=>r= .ret x)
theorem Pure.run {f} {args} {x} {fn} {c} (hf:P.funcs[f]?=some fn) (hb:fn.body=some c) (hs:args.length≤fn.ntmps∧enters P f=true∧V.ons [] args=true∧x.on []=true)
  (h:codeK P fn.ntmps c ⟨argFrame 0 args,[]⟩ (kontK P fn.ntmps (FPost P fn.results.toList (fun r L'=>∃y,r= .ret y∧y.fz L'=x)) [])):Pure P f args x:=
 ⟨hs.2.1,hs.2.2.1,hs.2.2.2,(ACalls.data (ACalls.run hf hb hs.1 h) hs.2.2.2).mono fun _ _ h=>h.1⟩
theorem rn {f:FuncId} {args:List V} {x:V} {fn:Func} {c:Code} (hf:P.funcs[f]?=some fn) (h:codeK P fn.ntmps c ⟨argFrame 0 args,[]⟩ (kontK P fn.ntmps (FPost P fn.results.toList (fun r L'=>∃y,r= .ret y∧y.fz L'=x)) []))
  (hb:fn.body=some c:=by exact rfl) (hn:Nat.ble args.length fn.ntmps=true:=by exact rfl) (he:enters P f=true:=by kernel_rfl) (ho:V.ons [] args=true∧x.on []=true:=by simp):Pure P f args x:=Pure.run hf hb ⟨Nat.le_of_ble_eq_true hn,he,ho.1,ho.2⟩ h
theorem Pure.eq {f} {args args'} {x x'} (h:Pure P f args x) (ha:args=args') (hx:x=x'):Pure P f args' x':=by subst ha;subst hx;exact h
theorem Pure.ok {f} {args} {x} (h:Pure P f args x) L:OKCall P f args L x:=OKCall.pure h.en h.on h.rn h.calls
structure Kept(P:Program) (f:FuncId) (args:List V) (L1:Heap) (x:V):Prop where
 en:enters P f=true
 on:V.ons (keys L1) args=true
 onL:L1.all (fun p=>Res.on (keys L1) p.2 && isBox p.2)=true
 rn:x.scal=true
 calls:ACalls P f args L1 (fun r L'=>r= .ret x∧L'=L1)
theorem AOps.pureC {ops} {o:Oper} {rest} {c} {f} {args} {x} (hop:o.op= .call c) (h:Pure P f args x) (hc:callee s.ev c=some (f,args)) (hg:o.guard=none)
  (hd:∀d,o.dst=some d→d < n) (hr:dstsOk n rest=true) (k:∀bs,runC P ops rest (s.put o.dst x) bs [] (KK P n ops Q)):AOps P n ops (o::rest) s Q:=
 AOps.quietT hg hd (OpT.call hop hc h.en h.on h.rn h.calls) (runC_sound rest _ [] hr k)
theorem AOps.lendC {ops} {o:Oper} {rest} {c} {f} {args args'} {x} (hop:o.op= .call c) (h:Pure P f args' x) (hc:callee s.ev c=some (f,args)) (ha:V.fzs s.L args=args') (hx:x.scal=true) (hg:o.guard=none)
  (hd:∀d,o.dst=some d→d < n) (hr:dstsOk n rest=true) (k:∀bs,runC P ops rest (s.put o.dst x) bs [] (KK P n ops Q)):AOps P n ops (o::rest) s Q:=by
 subst ha
 exact AOps.quietT hg hd (OpT.lend hop hc h.en h.on hx h.calls) (runC_sound rest _ [] hr k)
theorem pC {ops:Array Oper} {o:Oper} {rest:List Oper} {c:Call} {f:FuncId} {args:List V} {x:V} (h:Pure P f args x) (k:∀bs,runC P ops rest (s.put o.dst x) bs [] (KK P n ops Q)) (hop:o.op= .call c:=by exact rfl) (hc:callee s.ev c=some (f,args):=by exact rfl) (hg:o.guard=none:=by exact rfl)
  (hd:∀d,o.dst=some d→d < n:=by simp) (hr:dstsOk n rest=true:=by exact rfl):AOps P n ops (o::rest) s Q:=AOps.pureC hop h hc hg hd hr k
theorem lC {ops:Array Oper} {o:Oper} {rest:List Oper} {c:Call} {f:FuncId} {args args':List V} {x:V} (h:Pure P f args' x) (k:∀bs,runC P ops rest (s.put o.dst x) bs [] (KK P n ops Q)) (hop:o.op= .call c:=by exact rfl) (hc:callee s.ev c=some (f,args):=by exact rfl) (ha:V.fzs s.L args=args':=by simp) (hx:x.scal=true:=by exact rfl) (hg:o.guard=none:=by exact rfl)
  (hd:∀d,o.dst=some d→d < n:=by simp) (hr:dstsOk n rest=true:=by exact rfl):AOps P n ops (o::rest) s Q:=AOps.lendC hop h hc ha hx hg hd hr k
theorem AOps.effC {ops} {o:Oper} {rest} {c} {f} {args} {L1} {R} (hs:List Nat) (hop:o.op= .call c) (h:ACalls P f args L1 R) (hc:callee s.ev c=some (f,args)) (hg:o.guard=none)
  (hd:∀d,o.dst=some d→d < n) (hr:dstsOk n rest=true) (he:enters P f=true) (hL:s.L.filter (fun p=>hs.contains p.1)=L1)
  (ho:V.ons (keys L1) args=true) (hon:L1.all (fun p=>Res.on (keys L1) p.2)=true)
  (hfr:s.fr.all (fun p=>V.on (keys (s.L.filter fun p=>!hs.contains p.1)++(L1.filterMap fun p=>match p.2 with | .box (_+1) _ _=>some p.1 | _=>none)) p.2)=true)
  (hL2:(s.L.filter fun p=>!hs.contains p.1).all (fun p=>Res.on (keys (s.L.filter fun p=>!hs.contains p.1)++(L1.filterMap fun p=>match p.2 with | .box (_+1) _ _=>some p.1 | _=>none)) p.2)=true)
  (hstay:∀r L1',R r L1'→(∃x,r= .ret x)∧(∀k∈keys L1',k∉keys (s.L.filter fun p=>!hs.contains p.1))∧∀k b ty cs,(k,Res.box (b+1) ty cs)∈L1→∃ty' cs',(k,Res.box (b+1) ty' cs')∈L1')
  (k:∀x L1',R (.ret x) L1'→∀bs,runC P ops rest (St.put {s with L:=L1'++s.L.filter fun p=>!hs.contains p.1} o.dst x) bs [] (KK P n ops Q)):AOps P n ops (o::rest) s Q:=
 AOps.callG hg hd hop hc he ho (by subst hL;exact(List.filter_append_perm _ s.L).symm) hon (fun p hp=>List.all_eq_true.1 hfr p hp) (fun p hp=>List.all_eq_true.1 hL2 p hp) h hstay
  (fun x L1' hR=>runC_sound rest _ [] hr (k x L1' hR))
def boxAt:Res→Option Nat
 | .box b _ _=>some b
 | _=>none
attribute [simp] boxAt
theorem boxKeys(L1:Heap):(L1.filterMap fun p=>match p.2 with | .box (_+1) _ _=>some p.1 | _=>none)=keys (L1.filter fun p=>isBox p.2):=by
 induction L1 with
 | nil=>rfl
 | cons p l ih=>
   obtain⟨a,r⟩:=p
   cases r with
   | box b ty cs=>
     cases b with
     | succ b=>simp only [List.filterMap_cons,List.filter_cons,isBox,if_true,keys,List.map_cons,ih]
     | zero=>
       simp only [List.filterMap_cons,List.filter_cons,isBox,ih]
       simp
   | row ty k xs=>
     simp only [List.filterMap_cons,List.filter_cons,isBox,ih]
     simp
   | env A=>
     simp only [List.filterMap_cons,List.filter_cons,isBox,ih]
     simp
   | mp es=>
     simp only [List.filterMap_cons,List.filter_cons,isBox,ih]
     simp
theorem boxStay {L1 L1':Heap} (ho:L1.all (fun p=>!isBox p.2 || L1'.any (fun q=>q.1==p.1 && (isBox q.2 && boxAt q.2==boxAt p.2)))=true) {k b:Nat} {ty:TypeId} {cs:List V} (hm:(k,Res.box (b+1) ty cs)∈L1):∃ty' cs',(k,Res.box (b+1) ty' cs')∈L1':=by
 have:=List.all_eq_true.1 ho _ hm
 simp only [isBox,Bool.not_true,Bool.false_or,List.any_eq_true,Bool.and_eq_true,beq_iff_eq]at this
 obtain⟨⟨a,r⟩,h1,h2,h3,h4⟩:=this
 simp only at h2
 subst h2
 cases r with
 | box b' ty' cs'=>
   simp only [boxAt,Option.some.injEq]at h4
   subst h4
   exact⟨ty',cs',h1⟩
 | row _ _ _=>simp at h3
 | env _=>simp at h3
 | mp _=>simp at h3
theorem AOps.effD {ops:Array Oper} {o:Oper} {rest:List Oper} {c:Call} {f:FuncId} {args:List V} {L1 L1':Heap} {x:V} (hs:List Nat) (hop:o.op= .call c) (h:ACalls P f args L1 (fun r L=>r= .ret x∧L=L1')) (hc:callee s.ev c=some (f,args)) (hg:o.guard=none)
  (hd:∀d,o.dst=some d→d < n) (hr:dstsOk n rest=true) (he:enters P f=true) (hL:s.L.filter (fun p=>hs.contains p.1)=L1)
  (ho:V.ons (keys L1) args=true∧L1.all (fun p=>Res.on (keys L1) p.2)=true∧L1.all (fun p=>!isBox p.2 || L1'.any (fun q=>q.1==p.1 && (isBox q.2 && boxAt q.2==boxAt p.2)))=true)
  (hfr:s.fr.all (fun p=>V.on (keys (s.L.filter fun p=>!hs.contains p.1)++keys (L1.filter fun p=>isBox p.2)) p.2)=true)
  (hL2:(s.L.filter fun p=>!hs.contains p.1).all (fun p=>Res.on (keys (s.L.filter fun p=>!hs.contains p.1)++keys (L1.filter fun p=>isBox p.2)) p.2)=true)
  (hk:(keys L1').all (fun k=>!(keys (s.L.filter fun p=>!hs.contains p.1)).contains k)=true)
  (k:∀bs,runC P ops rest (St.put {s with L:=L1'++s.L.filter fun p=>!hs.contains p.1} o.dst x) bs [] (KK P n ops Q)):AOps P n ops (o::rest) s Q:=by
 have hbx:=boxKeys L1
 refine AOps.effC hs hop h hc hg hd hr he hL ho.1 ho.2.1 (by rw [hbx];exact hfr) (by rw [hbx];exact hL2) ?_ ?_
 ·rintro r L1'' ⟨rfl,rfl⟩
  refine⟨⟨_,rfl⟩,fun k hk'=>?_,fun k b ty cs hm=>?_⟩
  ·have:=List.all_eq_true.1 hk k hk'
   simpa using this
  ·exact boxStay ho.2.2 hm
 ·rintro x' L1'' ⟨e,rfl⟩
  obtain rfl:=AE.ret.inj e
  exact k
theorem eD {ops:Array Oper} {o:Oper} {rest:List Oper} {c:Call} {f:FuncId} {args:List V} {L1 L1':Heap} {x:V} (hs:List Nat) (h:ACalls P f args L1 (fun r L=>r= .ret x∧L=L1'))
  (k:∀bs,runC P ops rest (St.put {s with L:=L1'++s.L.filter fun p=>!hs.contains p.1} o.dst x) bs [] (KK P n ops Q)) (hop:o.op= .call c:=by exact rfl) (hc:callee s.ev c=some (f,args):=by simp) (hg:o.guard=none:=by exact rfl)
  (hd:∀d,o.dst=some d→d < n:=by simp) (hr:dstsOk n rest=true:=by exact rfl) (he:enters P f=true:=by kernel_rfl) (hL:s.L.filter (fun p=>hs.contains p.1)=L1:=by first | rfl | simp)
  (ho:V.ons (keys L1) args=true∧L1.all (fun p=>Res.on (keys L1) p.2)=true∧L1.all (fun p=>!isBox p.2 || L1'.any (fun q=>q.1==p.1 && (isBox q.2 && boxAt q.2==boxAt p.2)))=true:=by simp)
  (hfr:s.fr.all (fun p=>V.on (keys (s.L.filter fun p=>!hs.contains p.1)++keys (L1.filter fun p=>isBox p.2)) p.2)=true:=by simp)
  (hL2:(s.L.filter fun p=>!hs.contains p.1).all (fun p=>Res.on (keys (s.L.filter fun p=>!hs.contains p.1)++keys (L1.filter fun p=>isBox p.2)) p.2)=true:=by simp)
  (hk:(keys L1').all (fun k=>!(keys (s.L.filter fun p=>!hs.contains p.1)).contains k)=true:=by simp):AOps P n ops (o::rest) s Q:=AOps.effD hs hop h hc hg hd hr he hL ho hfr hL2 hk k
def upF(fr:List (Nat×V)) (ov:List (Nat×V)):List (Nat×V):=fr.map fun p=>(p.1,(ov.lookup p.1).getD p.2)
def upL(L:Heap) (ov:List (Nat×Res)):Heap:=L.map fun p=>(p.1,(ov.lookup p.1).getD p.2)
def St.up(s:St) (F:List (Nat×V)) (R:List (Nat×Res)):St:=⟨upF s.fr F,upL s.L R⟩
def LoopS(ts hs:List Nat) (S:Nat→St) (N:Nat) (H:Nat→Prop) (i:Nat) (s:St):Prop:=(s.pick ts hs).on (keys (s.pick ts hs).L)=true∧i < N∧s.pick ts hs=S (i+1)∧H (i+1)
theorem AWP.loopS {c} {ks} ts N (F:Nat→List (Nat×V)) (R:Nat→List (Nat×Res)) H (ht:ts.all (fun t=>decide (t < n))=true)
  (h0:(keys s.L).Nodup∧(s.pick ts (keys s.L)).on (keys (s.pick ts (keys s.L)).L)=true∧s.pick ts (keys s.L)=(s.pick ts (keys s.L)).up (F 0) (R 0)∧H 0)
  (round:∀i,i≤N→H i→codeK P n c ((s.pick ts (keys s.L)).up (F i) (R i)) (kontK P n Q (.inv (LoopS ts (keys s.L) (fun i=>(s.pick ts (keys s.L)).up (F i) (R i)) N H i)::ks))):
  AWP P n (.loop c) s (kontK P n Q ks):=by
 obtain⟨h1,h2,h3,h4⟩:=h0
 refine AWP.weaken (Wk.pick ts (keys s.L) ht h1 h2) (AWP.loop (fun k st=>∃i,k=N-i∧i≤N∧H i∧st=(s.pick ts (keys s.L)).up (F i) (R i)) ⟨N,0,rfl,Nat.zero_le _,h4,h3⟩ ?_)
 rintro k st ⟨i,rfl,hi,hH,rfl⟩
 refine AWP.mono (codeK_sound _ _ _ (round i hi hH)) (fun x s' h=>?_)
 cases x with
 | normal=>
   obtain⟨a1,a2,a3,a4⟩:=h
   exact⟨N-(i+1),by omega,_,Wk.pick ts (keys s.L) ht h1 a1,i+1,rfl,by omega,a4,a3⟩
 | _=>exact h
def Res.rlx:Res→Res
 | .box _ ty cs=> .box 0 ty cs
 | r=>r
def St.rlx(rs:List Nat) (s:St):St:=⟨s.fr,s.L.map fun p=>(p.1,if rs.contains p.1 then p.2.rlx else p.2)⟩
theorem Wk.rlx rs:Wk n s (s.rlx rs):=by
 intro fo m a w g
 have hi:=g.inv
 have hk:keys (St.rlx rs s).L=keys s.L:=by simp [St.rlx]
 refine⟨m,⟨g.size,g.fr,⟨by rw [hk];exact hi.nodup,fun h x hx=>by rw [hk];exact hi.dom h x hx,hi.apart,hi.others,hi.folt,?_,hi.glob⟩,g.defers⟩,Step.refl w _⟩
 intro h r hr
 obtain⟨p,hp,he⟩:=List.mem_map.1 hr
 cases he
 obtain⟨x,hx,hh⟩:=hi.holds p.1 p.2 hp
 refine⟨x,hx,?_⟩
 split
 ·generalize p.2=q at hh
  cases q with
  | row ty k xs=>exact hh
  | env A=>exact hh
  | mp es=>exact hh
  | box b ty cs=>
    obtain⟨bb,_,h1⟩:=hh
    exact⟨bb,.inl rfl,h1⟩
 omega
def LoopR(rs ts hs:List Nat) (S:Nat→St) (N:Nat) (H:Nat→Prop) (i:Nat) (s:St):Prop:=(s.pick ts hs).on (keys (s.pick ts hs).L)=true∧i < N∧(s.pick ts hs).rlx rs=S (i+1)∧H (i+1)
attribute [simp] Res.rlx St.rlx LoopR
def LoopW(n:Nat) (S:Nat→St) (N:Nat) (H:Nat→Prop) (i:Nat) (s:St):Prop:=i < N∧H (i+1)∧Wk n s (S (i+1))
attribute [simp] upF upL St.up LoopS LoopW
@[simp] theorem encB_getElem(l:List Bool) (i:Nat) (h:i < (encB l).length):(encB l)[i]'h=[.v (.bool (l[i]'(by simpa using h)))]:=by simp [encB]
@[simp] theorem encS_getElem(l:List ByteArray) (i:Nat) (h:i < (encS l).length):(encS l)[i]'h=[.v (.string (l[i]'(by simp_all)))]:=by simp [encS]
@[simp] theorem encSl_getElem {α:Type} (g:List α→List (List D)) (l:List (List α)) (i:Nat) (h:i < (encSl g l).length):(encSl g l)[i]'h=[.sl (g (l[i]'(by simp_all)))]:=by simp [encSl]
@[simp] theorem encI_getElem(l:List Int) (i:Nat) (h:i < (encI l).length):(encI l)[i]'h=[.v (.int .i64 (l[i]'(by simp_all)))]:=by simp [encI]
end
end Go.Ab
namespace Go.Ab
section
variable {P : Program} {n : Nat} {s : St} {Q : AX → St → Prop} {L : Heap}
def LoopL {α:Type} (ts hs:List Nat) (S:List α→St) (H:List α→Prop) (pre:List α) (x:α) (s:St):Prop:=(s.pick ts hs).on (keys (s.pick ts hs).L)=true∧s.pick ts hs=S (pre++ [x])∧H (pre++ [x])
theorem AWP.loopL {α:Type} {c:Code} {ks:List KI} (ts:List Nat) (l:List α) (F:List α→List (Nat×V)) (R:List α→List (Nat×Res)) (H:List α→Prop) (ht:ts.all (fun t=>decide (t < n))=true) (hl:l.length≤1000000000000000)
  (h0:(keys s.L).Nodup∧(s.pick ts (keys s.L)).on (keys (s.pick ts (keys s.L)).L)=true∧s.pick ts (keys s.L)=(s.pick ts (keys s.L)).up (F []) (R [])∧H [])
  (round:∀pre x post,l=pre++x::post→H pre→(hlt:pre.length < l.length)→l[pre.length]=x→inR .i64 ((pre.length:Int)+1)→
   codeK P n c ((s.pick ts (keys s.L)).up (F pre) (R pre)) (kontK P n Q (.inv (LoopL ts (keys s.L) (fun l=>(s.pick ts (keys s.L)).up (F l) (R l)) H pre x)::ks)))
  (last:H l→codeK P n c ((s.pick ts (keys s.L)).up (F l) (R l)) (kontK P n Q (.inv (fun _=>False)::ks))):
  AWP P n (.loop c) s (kontK P n Q ks):=by
 obtain⟨h1,h2,h3,h4⟩:=h0
 refine AWP.weaken (Wk.pick ts (keys s.L) ht h1 h2) (AWP.loop (fun k st=>∃pre post,l=pre++post∧k=post.length∧H pre∧st=(s.pick ts (keys s.L)).up (F pre) (R pre)) ⟨l.length,[],l,rfl,rfl,h4,h3⟩ ?_)
 rintro k st ⟨pre,post,hsp,rfl,hH,rfl⟩
 match post,hsp with
 | x::post,hsp=>
   refine AWP.mono (codeK_sound _ _ _ (round pre x post hsp hH (by rw [hsp];simp) (by simp [hsp]) (by rw [inR_i64];rw [hsp]at hl;simp at hl;omega))) (fun y s' h=>?_)
   cases y with
   | normal=>
     obtain⟨a1,a2,a3⟩:=h
     exact⟨post.length,by simp,_,Wk.pick ts (keys s.L) ht h1 a1,pre++ [x],post,by simp [hsp],rfl,a3,a2⟩
   | _=>exact h
 | [],hsp=>
   rw [List.append_nil]at hsp
   subst hsp
   refine AWP.mono (codeK_sound _ _ _ (last hH)) (fun y s' h=>?_)
   cases y with
   | normal=>exact h.elim
   | _=>exact h
end
attribute [simp] LoopL
end Go.Ab
namespace Go.Ab
section
variable {P : Program} {n : Nat} {s : St} {Q : AX → St → Prop} {ops : Array Oper}
theorem Oper.uponIn_mono {F} {d} {o:Oper} {a} {next next'} {Q1 Q2} (hn:∀a w,next a w→next' a w) (he:∀e a w,e≠ .normal→Q1 e a w→Q2 e a w) {r} (h:o.uponIn F d P a next Q1 r):o.uponIn F d P a next' Q2 r:=by
 cases r with
 | ok x w'=>
   cases x <;> simp [Oper.uponIn]at h ⊢ <;>
    first
     | exact hn _ _ h
     | exact⟨h.1,CallsIn.mono h.2 (fun e w'' hh=>by cases e <;> first | exact hn _ _ hh | exact he _ _ _ (by simp) hh | (obtain⟨a0,w0,hq⟩:=hh;exact⟨a0,w0,he _ _ _ (by simp) hq⟩))⟩
     | exact⟨h.1,RowsIn.mono h.2 (fun _ _ hh=>hn _ _ hh)⟩
     | exact⟨h.1,RoundIn.mono h.2 (fun e w'' hh=>by cases e <;> first | exact hn _ _ hh | exact he _ _ _ (by simp) hh | (obtain⟨a0,w0,hq⟩:=hh;exact⟨a0,w0,he _ _ _ (by simp) hq⟩))⟩
 | halt x w'=>cases x <;> simp [Oper.uponIn]at h ⊢ <;> exact he _ _ _ (by simp) h
theorem wpList_app {F} {d} {Q1 Q2} {l2} (hn:∀a w,Q1 .normal a w→wpListIn F d P ops Q2 l2 a w) (he:∀e a w,e≠ .normal→Q1 e a w→Q2 e a w):
  ∀l1 a w,wpListIn F d P ops Q1 l1 a w→wpListIn F d P ops Q2 (l1++l2) a w
 | [],a,w,h=>hn a w h
 | o::l1,a,w,h=>by
   rw [List.cons_append]
   unfold wpListIn at h ⊢
   split
   ·rename_i hw
    rw [if_pos hw]at h
    exact⟨h.1,Oper.uponIn_mono (fun a w=>wpList_app hn he l1 a w) he h.2⟩
   ·rename_i hw
    rw [if_neg hw]at h
    exact⟨h.1,wpList_app hn he l1 _ _ h.2⟩
theorem wpListIn_mono {F} {d} {Q1 Q2} (he:∀e a w,Q1 e a w→Q2 e a w):∀l a w,wpListIn F d P ops Q1 l a w→wpListIn F d P ops Q2 l a w
 | [],a,w,h=>he _ a w h
 | o::l,a,w,h=>by
   unfold wpListIn at h ⊢
   split
   ·rename_i hw
    rw [if_pos hw]at h
    exact⟨h.1,Oper.uponIn_mono (fun a w=>wpListIn_mono he l a w) (fun e a w _=>he e a w) h.2⟩
   ·rename_i hw
    rw [if_neg hw]at h
    exact⟨h.1,wpListIn_mono he l _ _ h.2⟩
theorem AOps.app {l1 l2} (h:AOps P n ops l1 s (AX.then (fun s'=>AOps P n ops l2 s' Q) Q)):AOps P n ops (l1++l2) s Q:=by
 intro fo m0 w0 m a w st g
 refine wpList_app (fun a1 w1 h1=>?_) (fun e a1 w1 hne h1=>?_) l1 a w (h fo m0 w0 m a w st g)
 ·obtain⟨ms,m',x,s',hm,hq,g',hx,st'⟩:=h1
  cases x <;> simp [Exits]at hx
  refine wpListIn_mono (fun _ _ _=>Post.marked hm g' st') _ _ _ (hq (fo.mark ms) m' w1 m' a1 w1 (Step.refl _ _) g')
 ·obtain⟨ms,m',x,s',hm,hq,g',hx,st'⟩:=h1
  refine⟨ms,m',x,s',hm,?_,g',hx,st'⟩
  cases x with
  | normal=>cases e <;> simp [Exits]at hx;exact(hne rfl).elim
  | _=>exact hq
theorem AOps.stop {l} k us (hd:dstsOk n (l.take k)=true) (h:∀bs,runC P ops (l.take k) s bs us (KK P n ops (AX.then (fun s'=>AOps P n ops (l.drop k) s' Q) Q))):AOps P n ops l s Q:=by
 rw [←List.take_append_drop k l]
 exact AOps.app (runC_sound _ _ us hd h)
theorem AWP.regionS {id} {l} (h:AOps P n l.toArray l s Q):AWP P n (.region id l.toArray false) s Q:=
 fun fo m a w _ g=>wp_region_toList (by simpa using h fo m w m a w (Step.refl _ _) g)
theorem AOps.subG {o} {rest} {g} {t} {xo yo} {ty} {a b} (hop:o.op= .binOp .sub t xo yo ty) (hgd:guardV ops s o=some (some g)) (hd:∀d,o.dst=some d→d < n)
  (hx:(s.ev xo).un=iD a∧(s.ev yo).un=iD b) (hu:g=true→uncs s o.op.operands.toList)
  (k:AOps P n ops rest (s.put o.dst (.gd g (iD (IntKind.i64.wrap (a-b))))) Q):AOps P n ops (o::rest) s Q:=by
 refine AOps.guarded hgd hd (fun hg=>⟨fun z=>(s.ev z).un,fun z hz w O m v hr=>un_rel hr (uncs_mem (hu hg) z (by grind)),?_⟩) k
 intro fo m ρ w hi hr
 have h1:=hr xo (by simp_all)
 have h2:=hr yo (by simp_all)
 simp only [hx.1]at h1
 simp only [hx.2]at h2
 have e1:=h1.v_inv
 have e2:=h2.v_inv
 refine⟨.int .i64 (IntKind.i64.wrap (a-b)),?_,.d _ _ (.v _ rfl)⟩
 simp_all [execOp,eqGuard,binOp,Op.intArith]
theorem AOps.pureG {o} {rest} {c} {f} {args} {x} {g} (hop:o.op= .call c) (h:g=true→Pure P f args x) (hc:callee (fun z=>(s.ev z).un) c=some (f,args)) (hgd:guardV ops s o=some (some g)) (hu:g=true→uncs s o.op.operands.toList)
  (hd:∀d,o.dst=some d→d < n) (hr:dstsOk n rest=true) (k:∀bs,runC P ops rest (s.put o.dst (.gd g x)) bs [] (KK P n ops Q)):AOps P n ops (o::rest) s Q:=
 AOps.guardedT hgd hd (fun hg=>⟨fun z=>(s.ev z).un,fun z hz w O m v hr=>un_rel hr (uncs_mem (hu hg) z (by grind)),OpT.call hop hc (h hg).en (h hg).on (h hg).rn (h hg).calls⟩) (runC_sound rest _ [] hr k)
theorem pGh {ops:Array Oper} {o:Oper} {rest:List Oper} {c:Call} {f:FuncId} {args:List V} {x:V} {g:Bool} (h:g=true→Pure P f args x) (k:∀bs,runC P ops rest (s.put o.dst (.gd g x)) bs [] (KK P n ops Q)) (hop:o.op= .call c:=by exact rfl) (hc:callee (fun z=>(s.ev z).un) c=some (f,args):=by exact rfl) (hgd:guardV ops s o=some (some g):=by first | rfl | (simp;rfl)) (hu:g=true→uncs s o.op.operands.toList:=by simp)
  (hd:∀d,o.dst=some d→d < n:=by simp) (hr:dstsOk n rest=true:=by exact rfl):AOps P n ops (o::rest) s Q:=AOps.pureG hop h hc hgd hu hd hr k
theorem pG {ops:Array Oper} {o:Oper} {rest:List Oper} {c:Call} {f:FuncId} {args:List V} {x:V} {g:Bool} (h:Pure P f args x) (k:∀bs,runC P ops rest (s.put o.dst (.gd g x)) bs [] (KK P n ops Q)) (hop:o.op= .call c:=by exact rfl) (hc:callee (fun z=>(s.ev z).un) c=some (f,args):=by exact rfl) (hgd:guardV ops s o=some (some g):=by first | rfl | (simp;rfl)) (hu:g=true→uncs s o.op.operands.toList:=by simp)
  (hd:∀d,o.dst=some d→d < n:=by simp) (hr:dstsOk n rest=true:=by exact rfl):AOps P n ops (o::rest) s Q:=AOps.pureG hop (fun _=>h) hc hgd hu hd hr k
theorem pN {ops:Array Oper} {o:Oper} {rest:List Oper} {c:Call} {f:FuncId} {args:List V} (x:V) (k:∀bs,runC P ops rest (s.put o.dst (.gd false x)) bs [] (KK P n ops Q)) (hop:o.op= .call c:=by exact rfl) (hc:callee (fun z=>(s.ev z).un) c=some (f,args):=by exact rfl) (hgd:guardV ops s o=some (some false):=by first | rfl | (simp;rfl)) (hu:false=true→uncs s o.op.operands.toList:=by simp)
  (hd:∀d,o.dst=some d→d < n:=by simp) (hr:dstsOk n rest=true:=by exact rfl):AOps P n ops (o::rest) s Q:=AOps.pureG hop (fun h=>by cases h) hc hgd hu hd hr k
theorem AWP.seqK {x y} (h:codeK P n x s (kontK P n (AX.then (fun s'=>AWP P n y s' Q) Q) [])):AWP P n (.seq x y) s Q:=AWP.seq (codeK_sound _ _ _ h)
theorem Pure.runA {f} {args} {x} {fn} {c} (hf:P.funcs[f]?=some fn) (hb:fn.body=some c) (hs:args.length≤fn.ntmps∧enters P f=true∧V.ons [] args=true∧x.on []=true)
  (h:AWP P fn.ntmps c ⟨argFrame 0 args,[]⟩ (kontK P fn.ntmps (FPost P fn.results.toList (fun r L'=>∃y,r= .ret y∧y.fz L'=x)) [])):Pure P f args x:=
 ⟨hs.2.1,hs.2.2.1,hs.2.2.2,(ACalls.data (ACalls.of_AWP hf hb hs.1 h) hs.2.2.2).mono fun _ _ h=>h.1⟩
end
end Go.Ab
namespace Go.Ab
section
variable {P : Program} {n : Nat} {s : St} {Q : AX → St → Prop} {L : Heap} {b N : Nat} {ty : TypeId} {k : Nat} {A : Nat → List (List D)}
theorem Wk.ownBox c i h {e k:Nat} {bk} {bt} {cs} (hl:s.L.lookup c=some (.box bk bt cs)) (hi:cs[i]?=some (.d (.v (.slice none 0 0)))) (hn:h∉keys s.L):
  Wk n s ⟨s.fr,(h,.row e k [])::Heap.upd s.L c (.box bk bt (cs.set i (.rv h)))⟩:=by
 intro fo m a w g
 obtain⟨g',st⟩:=g.new (Grows.refl w) hn (r:= .row e k []) (by simp [blk,blk1]) (.inl ⟨rfl,rfl⟩)
 refine⟨_,⟨g'.size,g'.fr,?_,g'.defers⟩,st⟩
 have hi':=g'.inv
 have hkey:keys ((h,Res.row e k [])::Heap.upd s.L c (.box bk bt (cs.set i (.rv h))))=keys ((h,Res.row e k [])::s.L):=by
  grind [keys_upd,keys]
 have hmem:=lookup_mem hl
 refine⟨by rw [hkey];exact hi'.nodup,fun j x hx=>by rw [hkey];exact hi'.dom j x hx,hi'.apart,hi'.others,hi'.folt,?_,hi'.glob⟩
 intro j r hr
 rcases List.mem_cons.1 hr with hr | hr
 ·exact hi'.holds j r (by grind)
 ·obtain⟨p,hp,he⟩:=List.mem_map.1 hr
  split at he
  ·cases he
   obtain⟨x,hx,hh⟩:=hi'.holds c _ (List.mem_cons_of_mem _ hmem)
   refine⟨x,hx,?_⟩
   obtain⟨bb,hbb,cur,e1,e2,e3,e4,e5⟩:=hh
   refine⟨bb,hbb,cur,e1,e2,by grind,e4,fun l v y hv hy=>?_⟩
   rw [List.getElem?_set]at hy
   split at hy
   ·rename_i hil
    subst hil
    split at hy
    ·simp [Option.some.injEq]at hy
     subst hy
     have:=e5 i v _ hv hi
     rw [this.bool_inv]
     exact .rv h _ (mset_same _ _) rfl
    grind
   grind
  ·rw [he]at hp
   exact hi'.holds j r (List.mem_cons_of_mem _ hp)
@[simp] theorem encI_replicate N v:List.replicate N [V.d (.v (.int .i64 v))]=dd (encI (List.replicate N v)):=by simp [dd,encI]
mutual
def V.ren(h g:Nat):V→V
 | .bp i o=>if i=h then .bp g o else .bp i o
 | .rv i=>if i=h then .rv g else .rv i
 | .ep i k x y=>if i=h then .ep g k x y else .ep i k x y
 | .clo fn f c=> .clo fn (V.rens h g f) (V.rens h g c)
 | .agg cs=> .agg (V.rens h g cs)
 | .tup cs=> .tup (V.rens h g cs)
 | .gd b x=> .gd b (V.ren h g x)
 | .d x=> .d x
 | .rp cs=> .rp cs
 | .sv i n=>if i=h then .sv g n else .sv i n
 | .kn Q=> .kn Q
 | .any=> .any
def V.rens(h g:Nat):List V→List V
 | []=> []
 | x::l=>V.ren h g x::V.rens h g l
end
theorem rens_eq h g:∀l:List V,V.rens h g l=l.map (V.ren h g)
 | []=>by rfl
 | x::l=>by simp [V.rens,rens_eq]
theorem rens_d h g (l:List D):V.rens h g (l.map V.d)=l.map V.d:=by
 simp [rens_eq,V.ren]
def Res.ren(h g:Nat):Res→Res
 | .box b ty cs=> .box b ty (V.rens h g cs)
 | .row ty k xs=> .row ty k (xs.map (V.rens h g))
 | .env A=> .env A
 | .mp es=> .mp es
theorem ren_dd h g ys:(dd ys).map (V.rens h g)=dd ys:=by
 simp [dd,rens_d]
def St.ren(h g:Nat) (s:St):St:=⟨s.fr.map fun p=>(p.1,p.2.ren h g),s.L.map fun p=>(if p.1=h then g else p.1,p.2.ren h g)⟩
theorem RelV.ren {w} {O} {m m'} {h g} (hm:∀i x,i≠h→m i=some x→m' i=some x) (hg:∀x,m h=some x→m' g=some x) {x} {y} (hr:RelV w O m x y):RelV w O m' x (y.ren h g):=by
 induction hr with
 | d x y hd=>simpa [V.ren]using RelV.d x y hd
 | bp i off b e=>
   simp only [V.ren]
   split
   ·rename_i he;subst he;exact .bp g off b (hg _ e)
   ·rename_i hne;exact .bp i off b (hm _ _ hne e)
 | rv i x e e1=>
   simp only [V.ren]
   split
   ·rename_i he;subst he;exact .rv g x (hg _ e) e1
   ·rename_i hne;exact .rv i x (hm _ _ hne e) e1
 | ep i k p q b o n c e=>
   simp only [V.ren]
   split
   ·rename_i he;subst he;exact .ep g k p q b o n c (hg _ e)
   ·rename_i hne;exact .ep i k p q b o n c (hm _ _ hne e)
 | rp b off cs f hb hlt hc hr=>simpa [V.ren]using RelV.rp b off cs f hb hlt hc hr
 | sv i n b cap e hc hx=>
   simp only [V.ren]
   split
   ·rename_i he;subst he;exact .sv g n b cap (hg _ e) hc hx
   ·rename_i hne;exact .sv i n b cap (hm _ _ hne e) hc hx
 | clo fn first caps cf cc s1 s2 h1 h2 ih1 ih2=>
   simp only [V.ren,rens_eq]
   refine .clo fn first caps _ _ (by grind) (by grind) ?_ ?_
   ·grind
   grind
 | agg vs cs hs h1 h2 ih=>
   simp only [V.ren,rens_eq]
   refine .agg vs _ (by grind) h1 ?_
   grind
 | tup vs cs hs h2 ih=>
   simp only [V.ren,rens_eq]
   refine .tup vs _ (by grind) ?_
   grind
 | gt x y hr ih=>simpa [V.ren]using RelV.gt x _ ih
 | gf y=>simpa [V.ren]using RelV.gf (y.ren h g)
 | kn x Q h=>simpa [V.ren]using RelV.kn x Q h
 | any x=>simpa [V.ren]using RelV.any x
theorem Res.Holds.ren {w} {O} {m m'} {h g} (hm:∀i x,i≠h→m i=some x→m' i=some x) (hg:∀x,m h=some x→m' g=some x) {x} {r:Res} (hh:r.Holds w O m x):(r.ren h g).Holds w O m' x:=by
 cases r with
 | box b ty cs=>
   obtain⟨bb,hbb,cur,rfl,h1,h2,h3,h4⟩:=hh
   simp [Res.ren,rens_eq]
   refine⟨bb,hbb,cur,rfl,h1,by grind,h3,fun j v c hv hc=>?_⟩
   rw [List.getElem?_map]at hc
   obtain⟨z,hz,rfl⟩:=Option.map_eq_some_iff.1 hc
   exact(h4 j v z hv hz).ren hm hg
 | row ty k xs=>
   rcases hh with⟨rfl,rfl⟩ | ⟨b,off,cap,cur,rfl,h1,h2,h3,h4,h5,h6,h7⟩
   ·exact .inl ⟨rfl,rfl⟩
   ·refine .inr ⟨b,off,cap,cur,by simp,h1,by grind,h3,h4,fun i x hx=>?_,h6,fun i j x y v hx hy hv=>?_⟩
    ·grind [rens_eq,List.length_map]
    ·rw [List.getElem?_map]at hx
     obtain⟨z,hz,rfl⟩:=Option.map_eq_some_iff.1 hx
     rw [rens_eq,List.getElem?_map]at hy
     obtain⟨y',hy',rfl⟩:=Option.map_eq_some_iff.1 hy
     exact(h7 i j z y' v hz hy' hv).ren hm hg
 | env A=>exact hh
 | mp es=>exact hh
theorem Wk.ren h g (hg:g∉keys s.L):Wk n s (s.ren h g):=by
 classical
 intro fo m a w gg
 let m':Nat→Option Value:=fun i=>if i=g then m h else if i=h then none else m i
 have hi:=gg.inv
 have hgn:∀x,m g≠some x:=fun x hx=>hg (hi.dom g x hx)
 have hm:∀i x,i≠h→m i=some x→m' i=some x:=by
  grind
 have hmg:∀x,m h=some x→m' g=some x:=fun x hx=>by grind
 have hm':∀i x,m' i=some x→∃j,m j=some x∧i=(if j=h then g else j):=by
  grind
 have hown:∀b,Ab.own m' b↔Ab.own m b:=by
  intro b
  constructor
  ·rintro⟨i,x,hx,hb⟩
   obtain⟨j,hj,_⟩:=hm' i x hx
   exact⟨j,x,hj,hb⟩
  ·rintro⟨i,x,hx,hb⟩
   by_cases e:i=h
   ·subst e;exact⟨g,x,hmg x hx,hb⟩
   ·exact⟨i,x,hm i x e hx,hb⟩
 have hO:∀b,b < w.heap.size→OO fo m' b→OO fo m b:=fun b _ ho=>ho.imp (hown b).1 id
 have hkey:∀i,i∈keys s.L→(if i=h then g else i)∈keys (s.ren h g).L:=by
  intro i hi'
  obtain⟨p,hp,rfl⟩:=List.mem_map.1 hi'
  exact List.mem_map.2 ⟨_,List.mem_map.2 ⟨p,hp,rfl⟩,rfl⟩
 refine⟨m',⟨gg.size,?_,?_,gg.defers⟩,⟨rfl,rfl,rfl,Nat.le_refl _,fun _ _ _=>rfl,fun b _ ho=>(hown b).1 ho⟩⟩
 ·intro t x hx
  obtain⟨p,hp,he⟩:=List.mem_map.1 hx
  cases he
  obtain⟨h1,h2⟩:=gg.fr p.1 p.2 hp
  exact⟨h1,(h2.ren hm hmg).mono (Keep.refl w _) hO (fun _ _ e=>e)⟩
 ·refine⟨?_,?_,?_,?_,hi.folt,?_,hi.glob.mono (Keep.refl w _) hO⟩
  ·have:keys (s.ren h g).L=(keys s.L).map fun i=>if i=h then g else i:=by
    simp [keys,St.ren,Function.comp_def]
   rw [this]
   have hnd:=hi.nodup
   grind [List.Nodup,List.Pairwise.imp_of_mem]
  ·intro i x hx
   obtain⟨j,hj,rfl⟩:=hm' i x hx
   exact hkey j (hi.dom j x hj)
  ·intro i j x y b hx hy hb hb'
   obtain⟨i',hi1,rfl⟩:=hm' i x hx
   obtain⟨j',hj1,rfl⟩:=hm' j y hy
   rw [hi.apart i' j' x y b hi1 hj1 hb hb']
  ·intro i x b hx hb
   obtain⟨j,hj,_⟩:=hm' i x hx
   exact hi.others j x b hj hb
  ·intro i r hr
   obtain⟨p,hp,he⟩:=List.mem_map.1 hr
   cases he
   obtain⟨x,hx,hh⟩:=hi.holds p.1 p.2 hp
   refine⟨x,?_,(hh.ren hm hmg).mono (fun _ _=>rfl) (Keep.refl w _) hO (fun _ _ e=>e)⟩
   grind
attribute [simp] V.ren V.rens Res.ren St.ren rens_d ren_dd
def EPost(P:Program) (rs:List ResultVar) (R:AE→Heap→Prop) (hs:List Nat) (x:AX) (s:St):Prop:=
 match x with
 | .normal | .ret=>(s.pick [] hs).on (keys (s.pick [] hs).L)=true∧FPost P rs R .ret (s.pick [] hs)
 | _=>False
theorem AWP.epost {P} {c} {rs} {R} hs (hh:hs.Nodup) (h:AWP P n c s (EPost P rs R hs)):AWP P n c s (FPost P rs R):=by
 intro fo m a w hr g
 refine Code.wpIn_mono (fun e a1 w1 hp=>?_) (h fo m a w hr g)
 obtain⟨ms,m',x,s',hmk,hq,g',he,st⟩:=hp
 have key:∀y,(s'.pick [] hs).on (keys (s'.pick [] hs).L)=true∧FPost P rs R .ret (s'.pick [] hs)→(∀m2,Exits w1 (OO (fo.mark ms) m2) m2 e y)→FPost P rs R .ret (s'.pick [] hs)=FPost P rs R y (s'.pick [] hs)→Post fo n m w (FPost P rs R) e a1 w1:=by
  intro y h1 h2 h3
  obtain⟨m2,g2,st2⟩:=Wk.pick [] hs (by simp) hh h1.1 (fo.mark ms) m' a1 w1 g'
  exact⟨ms,m2,y,s'.pick [] hs,hmk,h3 ▸ h1.2,g2,h2 m2,st.trans st2⟩
 cases x with
 | normal=>
   refine key .normal hq (fun m2=>?_) rfl
   grind [Exits]
 | ret=>
   refine key .ret hq (fun m2=>?_) rfl
   grind [Exits]
 | _=>exact hq.elim
theorem ACalls.runP {P} hs (hh:hs.Nodup) {f} {args} {R} {fn} {c} (hf:P.funcs[f]?=some fn) (hb:fn.body=some c) (hn:args.length≤fn.ntmps)
  (h:codeK P fn.ntmps c ⟨argFrame 0 args,L⟩ (kontK P fn.ntmps (EPost P fn.results.toList R hs) [])):ACalls P f args L R:=
 ACalls.of_AWP hf hb hn (AWP.epost hs hh (codeK_sound _ _ _ h))
attribute [simp] EPost
end
end Go.Ab
namespace Go.Ab
section
variable {P : Program} {n : Nat} {s : St} {Q : AX → St → Prop} {ops : Array Oper}
def Leads(P:Program):Next→World→(Ending→World→Prop)→Prop
 | .enter f args,w,R=>Calls P f args w R
 | .round l f tmps assign body,w,R=>RoundIn Fence.wide 0 P l f tmps assign body w R
 | _,_,_=>False
theorem owp_leads {r} {o} {a} {w w'} {nx} {next} {Q} (hrun:(execOp a.eval o).run P w= .ok nx w')
  (h:Leads P nx w' fun
   | .returned v,w''=>next (a.put o.dst v) w''
   | .panicked chain,w''=>Q (.panic chain) a w''
   | .outgrown,_=>LetsOut Q):o.wpIn (wr r) 0 P a w next Q:=by
 refine⟨fun _ _=>trivial,?_⟩
 cases nx <;> simp [Leads]at h
 ·rw [sem_at (not_defer hrun (by simp)),hrun]
  exact⟨fun h=>by grind [wr,Fence.wide],wr_calls h⟩
 ·rw [sem_at (not_defer hrun (by simp)),hrun]
  exact⟨fun h=>by grind [wr,Fence.wide],h⟩
end
end Go.Ab
namespace Go.Ab
section
variable {P : Program} {n : Nat} {s : St} {Q : AX → St → Prop} {ops : Array Oper}
def yv(l:Nat):V:= .d (.v (.func (.yield l) #[] #[]))
structure Bun(w:World) (O:Nat→Prop) (l:Nat) (L:Heap) (m:Nat→Option Value):Prop where
 nodup:(keys L).Nodup
 dom:∀h x,m h=some x→h∈keys L
 apart:∀h h' x x' b,m h=some x→m h'=some x'→blk x b→blk x' b→h=h'
 self:¬own m l
 holds:∀h r,(h,r)∈L→∃x,m h=some x∧r.Holds w O m x
def one(x:Value):Nat→Option Value:=fun h=>if h=5003 then some x else none
end
end Go.Ab
namespace Go.Ab
section
variable {P : Program} {n : Nat} {s : St} {Q : AX → St → Prop}
def putPs:List (Nat×V)→List (Nat×V)→List (Nat×V)
 | [],fr=>fr
 | (t,x)::l,fr=>putPs l ((t,x)::delF t fr)
def labs:Heap→List (Nat×Nat)
 | []=> []
 | (h,.box (b+1) _ _)::L=>(h,b)::labs L
 | _::L=>labs L
def RoundQ(hs:List Nat) (L0 L':Heap) (Hn:Prop) (fr:List (Nat×V)) (K:AX→St→Prop) (x:AX) (s:St):Prop:=
 match x with
 | .normal=>(s.pick [] hs).on (keys (s.pick [] hs).L)=true∧(s.pick [] hs).L=L'∧Hn
 | .pan _=>False
 | x=>(s.pick [] hs).on (keys (s.pick [] hs).L)=true∧labs (s.pick [] hs).L=labs L0∧K x ⟨fr,(s.pick [] hs).L⟩
end
end Go.Ab
namespace Go.Ab
section
variable {P : Program} {n : Nat} {s : St} {Q : AX → St → Prop}
theorem perm_keys {L L':Heap} (h:L.Perm L'):(keys L).Perm (keys L'):=h.map _
end
end Go.Ab
namespace Go.Ab
section
variable {P : Program} {n : Nat} {s : St} {Q : AX → St → Prop}
theorem codeK_rangeF {g:Operand} {ps:List Tmp} {assign body:Code}:codeK P n (.rangeFunc g ps.toArray assign body) s Q=AWP P n (.rangeFunc g ps.toArray assign body) s Q:=by simp [codeK]
attribute [simp] yv codeK_rangeF RoundQ putPs labs
end
end Go.Ab
namespace Go.Ab
section
variable {P : Program} {n : Nat} {s : St} {Q : AX → St → Prop} {L : Heap}
mutual
theorem kill_kill(h:Nat):∀x:V,V.kill h (V.kill h x)=V.kill h x
 | .bp i o=>by simp only [V.kill];split <;> simp [V.kill, *]
 | .rv i=>by simp only [V.kill];split <;> simp [V.kill, *]
 | .ep i k x y=>by simp only [V.kill];split <;> simp [V.kill, *]
 | .clo fn f c=>by simp only [V.kill,kills_kills h f,kills_kills h c]
 | .agg cs=>by simp only [V.kill,kills_kills h cs]
 | .tup cs=>by simp only [V.kill,kills_kills h cs]
 | .gd b x=>by simp only [V.kill,kill_kill h x]
 | .d x=>rfl
 | .rp cs=>rfl
 | .sv i n=>by simp only [V.kill];split <;> simp [V.kill, *]
 | .kn Q=>rfl
 | .any=>rfl
theorem kills_kills(h:Nat):∀l:List V,V.kills h (V.kills h l)=V.kills h l
 | []=>rfl
 | x::l=>by simp only [V.kills,kill_kill h x,kills_kills h l]
end
theorem Inv.perm {fo} {m} {L L'} {w} (hp:L.Perm L') (h:Inv fo m L w):Inv fo m L' w:=
 ⟨(perm_keys hp).nodup_iff.1 h.nodup,fun i x hx=>(perm_keys hp).mem_iff.1 (h.dom i x hx),h.apart,h.others,h.folt,fun i r hr=>h.holds i r (hp.mem_iff.2 hr),h.glob⟩
end
end Go.Ab
namespace Go.Ab
open Go.Proofs Go.Proofs.Tryz
theorem tmix:prog.follows .mixedOrders=true:=by rfl
def fromB(n lo hi:Int):Bool:=decide (lo≤n) && decide (n≤hi)
theorem fromB_iff {n lo hi}:fromB n lo hi=true↔lo≤n∧n≤hi:=by simp [fromB]
def int16(n:Int):Bool:=fromB n (-32768) 32767
theorem refFrom_ok(n lo hi:Int):Pure prog 119 [iD n,iD lo,iD hi] (oD (fromB n lo hi)):=by
 unfold fromB
 refine rn func119 ?_;simp [f119]
theorem refIs_ok(n:Int):Pure prog 158 [iD n] (oD (int16 n)):=by
 unfold int16 fromB
 refine rn func158 ?_;simp [f158]
def allB {α:Type} (p:α→Bool) (l:List α):Bool:=l.all p
theorem allB_nil {α:Type} (p:α→Bool):allB p []=true:=rfl
theorem allB_snoc {α} p pre (x:α):allB p (pre++ [x])=(allB p pre && p x):=by simp [allB]
theorem allB_split {α} {p} {l pre post} {x:α} (h:l=pre++x::post) (hH:allB p pre=true):allB p l=(p x && allB p post):=by
 simp_all [allB]
theorem allB_iff {α} {p} {l:List α}:allB p l=true↔∀x∈l,p x=true:=by simp [allB]
theorem refValues_ok(l:List Int) (hl:l.length≤1000000000000000):Pure prog 120 [.d (.sl (encI l))] (oD (allB int16 l)):=by
 refine rn func120 ?_;simp [f120]
 refine AWP.loopL [0,3] l (fun pre=> [(3,iD pre.length)]) (fun _=> []) (fun pre=>allB int16 pre=true) (by rfl) (by omega) (by simp [allB_nil]) ?_ ?_
 ·rintro pre x post hsp hH hlt hge a4
  have hall:=allB_split hsp hH
  clear hsp
  simp [*]
  refine AOps.pureC rfl (refIs_ok x) (by simp) rfl (by simp) rfl ?_
  simp
  simp_all [allB_snoc]
 ·intro hH
  simp [*]
def smallB(c:Int):Bool:=fromB c 97 122
def greatB(c:Int):Bool:=fromB c 65 90
def digitB(c:Int):Bool:=fromB c 48 57
def rowB(c:Int):Bool:=smallB c || greatB c || digitB c || c==45 || c==39
def txtB(c:UInt8):Bool:=!((decide ((c.toNat:Int) < 32) || decide ((c.toNat:Int) > 126)) && (c.toNat:Int) !=10)
def wrdB(c:UInt8):Bool:=rowB c.toNat &&!greatB c.toNat
def isTextB(s:ByteArray):Bool:=allB txtB s.data.toList && decide (s.size≤1024)
def isWordB(s:ByteArray):Bool:=decide (1≤s.size) && decide (s.size≤9) && (smallB (s.data.toList[0]?.getD 0).toNat || digitB (s.data.toList[0]?.getD 0).toNat) && allB wrdB s.data.toList
theorem refSmall_ok(c:Int):Pure prog 202 [.d (.v (.int .u8 c))] (oD (smallB c)):=by
 unfold smallB fromB
 refine rn func202 ?_;simp [f202]
theorem refGreat_ok(c:Int):Pure prog 205 [.d (.v (.int .u8 c))] (oD (greatB c)):=by
 unfold greatB fromB
 refine rn func205 ?_;simp [f205]
theorem refDigit_ok(c:Int):Pure prog 203 [.d (.v (.int .u8 c))] (oD (digitB c)):=by
 unfold digitB fromB
 refine rn func203 ?_;simp [f203]
theorem refRow_ok(c:Int):Pure prog 204 [.d (.v (.int .u8 c))] (oD (rowB c)):=by
 unfold rowB
 refine rn func204 ?_;simp [-cB,f204]
 repeat' (first
  | (with_reducible refine And.intro ?_ ?_)
  | ((first | (refine condC_split (fun h=>?_) (fun h=>?_) <;> (try simp at h)) | refine pC (refSmall_ok _) ?_ | refine pC (refGreat_ok _) ?_ | refine pC (refDigit_ok _) ?_ | refine lC (refSmall_ok _) ?_ | refine lC (refGreat_ok _) ?_ | refine lC (refDigit_ok _) ?_ | refine pG (refSmall_ok _) ?_ | refine pG (refGreat_ok _) ?_ | refine pG (refDigit_ok _) ?_) <;> (try simp [-cB, *]))
  | (with_reducible intro _))
theorem refIsText_ok(s:ByteArray) (hs:s.size≤1000000000000000):Pure prog 121 [.d (.v (.string s))] (oD (isTextB s)):=by
 have hsz:s.data.toList.length=s.size:=rfl
 unfold isTextB
 refine rn func121 ?_;simp [f121]
 refine AWP.loopL [0,3] s.data.toList (fun pre=> [(3,iD pre.length)]) (fun _=> []) (fun pre=>allB txtB pre=true) (by rfl) (by omega) (by simp [allB_nil]) ?_ ?_
 ·rintro pre x post hsp hH hlt hge a4
  have hall:=allB_split hsp hH
  have hge2:s.data[pre.length]'hlt=x:=by simpa using hge
  rw [hsz]at hlt
  clear hsp hge
  simp [*]
  have:txtB x=true↔((x.toNat:Int) < 32∨126 < (x.toNat:Int)→(x.toNat:Int)=10):=by simp [txtB];omega
  refine⟨fun h1 h2 h3=>(h2 ((this.1 h3) h1)).elim,fun h=>?_⟩
  simp [allB_snoc,hH,this.2 h]
 ·intro hH
  simp [*]
  omega
theorem refIsWord_ok(s:ByteArray) (hs:s.size≤1000000000000000):Pure prog 173 [.d (.v (.string s))] (oD (isWordB s)):=by
 have hsz:s.data.toList.length=s.size:=rfl
 unfold isWordB
 refine rn func173 ?_;simp [-cB,f173]
 repeat' (first
  | (with_reducible refine And.intro ?_ ?_)
  | ((first | (refine condC_split (fun h=>?_) (fun h=>?_) <;> (try simp at h)) | refine pC (refSmall_ok _) ?_ | refine pC (refDigit_ok _) ?_ | refine lC (refSmall_ok _) ?_ | refine lC (refDigit_ok _) ?_ | refine pG (refSmall_ok _) ?_ | refine pG (refDigit_ok _) ?_) <;> (try simp [-cB, *]))
  | (with_reducible intro _))
 all_goals first | omega | assumption | skip
 ·generalize smallB ↑(s.data[0]?.getD 0).toNat=p at *
  generalize digitB ↑(s.data[0]?.getD 0).toNat=q at *
  rename_i h1 h2 h3
  rcases h with(h | h) | ⟨h,h'⟩
  ·omega
  ·omega
  ·simp [h,h']at h3
 ·refine AWP.loopL [0,3] s.data.toList (fun pre=> [(3,iD pre.length)]) (fun _=> []) (fun pre=>allB wrdB pre=true) (by rfl) (by omega) (by simp [allB_nil]) ?_ ?_
  ·rintro pre x post hsp hH hlt hge a4
   have hall:=allB_split hsp hH
   have hge2:s.data[pre.length]'hlt=x:=by simpa using hge
   rw [hsz]at hlt
   clear hsp hge
   have hsn:allB wrdB (pre++ [x])=wrdB x:=by simp [allB_snoc,hH]
   have hx:wrdB x=(rowB x.toNat &&!greatB x.toNat):=rfl
   simp [-cB, *]
   repeat' (first
    | (with_reducible refine And.intro ?_ ?_)
    | ((first | (refine condC_split (fun h=>?_) (fun h=>?_) <;> (try simp at h)) | refine pC (refRow_ok _) ?_ | refine pC (refGreat_ok _) ?_ | refine lC (refRow_ok _) ?_ | refine lC (refGreat_ok _) ?_ | refine pG (refRow_ok _) ?_ | refine pG (refGreat_ok _) ?_) <;> (try simp [-cB, *]))
    | (with_reducible intro _))
   all_goals (first | assumption | omega | (rw [inR_i64];omega) | (simp_all;done) | grind | skip)
  ·intro hH
   simp [*]
   all_goals (first | assumption | omega | (rw [inR_i64];omega) | (simp_all;done) | grind | skip)
def textB(t:GTables) (n:Int) (none:Bool):Bool:=fromB n 0 (t.Texts.length-1) || (none && decide (n= -1))
def routB(t:GTables) (n:Int) (none:Bool):Bool:=(none && decide (n= -1)) || (fromB n 0 (t.Params.length-1) && decide (t.Params[n.toNat]?.getD 0=0))
def thingB(t:GTables) (n:Int):Bool:=fromB n 1 (t.Things.length-1)
theorem refText_ok(t:GTables) (ht:t.wf) (n:Int) (none:Bool):Pure prog 118 [.agg (t.enc.map .d),iD n,oD none] (oD (textB t n none)):=by
 have hlen:t.Texts.length≤1000000000000000:=by have:=ht;simp [GTables.wf]at this;omega
 unfold textB
 refine rn func118 ?_;simp [-cB,f118]
 repeat' (first
  | (with_reducible refine And.intro ?_ ?_)
  | ((first | (refine condC_split (fun h=>?_) (fun h=>?_) <;> (try simp at h)) | refine pC (refFrom_ok _ _ _) ?_ | refine lC (refFrom_ok _ _ _) ?_ | refine pG (refFrom_ok _ _ _) ?_) <;> (try simp [-cB, *]))
  | (with_reducible intro _))
 all_goals (first | assumption | omega | (rw [inR_i64];omega) | (simp_all [fromB];done) | grind [fromB] | skip)
theorem refThing_ok(t:GTables) (ht:t.wf) (n:Int):Pure prog 125 [.agg (t.enc.map .d),iD n] (oD (thingB t n)):=by
 have hlen:t.Things.length≤1000000000000000:=by have:=ht;simp [GTables.wf]at this;omega
 unfold thingB
 refine rn func125 ?_;simp [-cB,f125]
 repeat' (first
  | (with_reducible refine And.intro ?_ ?_)
  | ((first | (refine condC_split (fun h=>?_) (fun h=>?_) <;> (try simp at h)) | refine pC (refFrom_ok _ _ _) ?_ | refine lC (refFrom_ok _ _ _) ?_ | refine pG (refFrom_ok _ _ _) ?_) <;> (try simp [-cB, *]))
  | (with_reducible intro _))
 all_goals (first | assumption | omega | (rw [inR_i64];omega) | (simp_all [fromB];done) | grind [fromB] | skip)
theorem refRoutine_ok(t:GTables) (ht:t.wf) (n:Int) (none:Bool):Pure prog 130 [.agg (t.enc.map .d),iD n,oD none] (oD (routB t n none)):=by
 have hlen:t.Params.length≤1000000000000000:=by have:=ht;simp [GTables.wf]at this;omega
 unfold routB
 refine rn func130 ?_;simp [-cB,f130]
 repeat' (first
  | (with_reducible refine And.intro ?_ ?_)
  | ((first | (refine condC_split (fun h=>?_) (fun h=>?_) <;> (try simp at h)) | refine pC (refFrom_ok _ _ _) ?_ | refine lC (refFrom_ok _ _ _) ?_ | refine pG (refFrom_ok _ _ _) ?_) <;> (try simp [-cB, *]))
  | (with_reducible intro _))
 all_goals (first | assumption | omega | (rw [inR_i64];omega) | (simp_all [fromB];done) | grind [fromB] | skip)
def wordsB(l:List ByteArray) (most:Int):Bool:=allB isWordB l && decide ((l.length:Int)≤most)
theorem refWords_ok(l:List ByteArray) (hl:l.length≤1000000000000000) (hs:∀x∈l,x.size≤1000000000000000) (most:Int):Pure prog 124 [.d (.sl (encS l)),iD most] (oD (wordsB l most)):=by
 unfold wordsB
 refine rn func124 ?_;simp [f124]
 refine AWP.loopL [0,1,5] l (fun pre=> [(5,iD pre.length)]) (fun _=> []) (fun pre=>allB isWordB pre=true) (by rfl) (by omega) (by simp [allB_nil]) ?_ ?_
 ·rintro pre x post hsp hH hlt hge a4
  have hall:=allB_split hsp hH
  have hx:=refIsWord_ok x (hs x (by rw [hsp];simp))
  have hsn:allB isWordB (pre++ [x])=isWordB x:=by simp [allB_snoc,hH]
  clear hsp
  simp [-cB, *]
  repeat' (first
   | (with_reducible refine And.intro ?_ ?_)
   | ((first | (refine condC_split (fun h=>?_) (fun h=>?_) <;> (try simp at h)) | refine pC hx ?_ | refine lC hx ?_ | refine pG hx ?_) <;> (try simp [-cB, *]))
   | (with_reducible intro _))
  all_goals (first | assumption | omega | (rw [inR_i64];omega) | (simp_all;done) | grind | skip)
 ·intro hH
  simp [*]
def nothingB(t:GTables) (x:GThing):Bool:=
 decide (x.Title=0) && decide (x.Text= -1) && decide (x.Parent=0) && decide (x.Flags=0) &&!x.Room && decide (x.Props.length=t.Props.length) && decide (x.Words.length+x.Adjs.length+x.Ways.length=0) && allB (fun n=>decide (n=0)) x.Props
set_option maxRecDepth 20000 in
theorem refNothing_ok(t:GTables) (ht:t.wf) (x:GThing) (hx:x.wf):Pure prog 122 [.agg (t.enc.map .d),.agg (x.enc.map .d)] (oD (nothingB t x)):=by
 have hx':=hx
 simp [GThing.wf]at hx'
 unfold nothingB
 refine rn func122 ?_;simp [-cB,f122]
 repeat' (first
  | (with_reducible refine And.intro ?_ ?_)
  | ((first | (refine condC_split (fun h=>?_) (fun h=>?_) <;> (try simp at h)) | refine pC (refFrom_ok _ _ _) ?_ | refine lC (refFrom_ok _ _ _) ?_ | refine pG (refFrom_ok _ _ _) ?_) <;> (try simp [-cB, *]))
  | (with_reducible intro _))
 obtain⟨-,-,-,-,hq1,-,hq2,-,hq3,-,hq4,-⟩:=hx'
 all_goals (first | assumption | omega | (rw [inR_i64];omega) | (simp_all;done) | grind | skip)
 have hz:decide (x.Words=[])=true∧decide (x.Adjs=[])=true∧decide (x.Ways=[])=true:=by
  have h1:x.Words.length=0:=by omega
  have h2:x.Adjs.length=0:=by omega
  have h3:x.Ways.length=0:=by omega
  simp [List.length_eq_zero_iff]at h1 h2 h3
  simp [h1,h2,h3]
 have hp:decide (x.Props.length=t.Props.length)=true:=by simp;omega
 refine AWP.loopL [3,5] x.Props (fun pre=> [(5,iD pre.length)]) (fun _=> []) (fun pre=>allB (fun n=>decide (n=0)) pre=true) (by rfl) (by omega) (by simp [allB_nil]) ?_ ?_
 ·rintro pre x1 post hsp hH hlt hge a4
  have hall:=allB_split hsp hH
  have hsn:allB (fun n=>decide (n=0)) (pre++ [x1])=decide (x1=0):=by simp [allB_snoc,hH]
  clear hsp h
  simp [-cB, *]
  repeat' (first
   | (with_reducible refine And.intro ?_ ?_)
   | ((first | (refine condC_split (fun h=>?_) (fun h=>?_) <;> (try simp at h)) | refine pC (refRow_ok _) ?_ | refine lC (refRow_ok _) ?_ | refine pG (refRow_ok _) ?_) <;> (try simp [-cB, *]))
   | (with_reducible intro _))
  all_goals (first | assumption | omega | (rw [inR_i64];omega) | (simp_all;done) | grind | skip)
 ·intro hH
  clear h
  simp [*]
def bitsM(n:Int):Int:=2 ^ (min n.toNat 16)
theorem refBits_ok(n:Int):Pure prog 123 [iD n] (iD (bitsM n)):=by
 refine rn func123 ?_;simp [f123]
 refine AWP.loopS [0,3,4] (min n.toNat 16) (fun i=> [(3,iD (2 ^ i)),(4,iD i)]) (fun _=> []) (fun _=>True) (by rfl) (by simp) ?_
 intro i hi _
 have h16:i≤16:=by omega
 have hp:(2:Int) ^ i≤65536∧(0:Int) < 2 ^ i:=by
  have e:(2:Int) ^ i=((2 ^ i:Nat):Int):=by simp
  have:=Nat.pow_le_pow_right (n:=2) (by decide) h16
  have:=Nat.pow_pos (a:=2) (n:=i) (by decide)
  rw [e];omega
 have hs:(2:Int) ^ (i+1)=2 *2 ^ i:=by rw [Int.pow_succ];omega
 simp
 refine⟨fun h1 h2=>⟨iW,iW,by omega,by omega⟩,fun h=>?_⟩
 unfold bitsM
 rw [show min n.toNat 16=i by omega]
end Go.Ab
namespace Go.Ab
section
variable {P : Program} {n : Nat} {Q : AX → St → Prop}
def EffP(P:Program) (ops:Array Oper) (o:Oper) (s:St) (K:V→Option Nat→Heap→Prop) (KP:V→Heap→Prop):Prop:=
 (∃x k L',(∀n,LOp P n ops o s.fr s.L k x L')∧K x k L')∨(∃y L',(∀n,LOpP P n ops o s.fr s.L y L')∧KP y L')
def dAllC(P:Program) (ops:Array Oper) (c:Nat) (ks:List (Option Nat)) (Ls:List Heap):List Dfr→Prop
 | []=>True
 | d::ds=>allP (min d.hi c-d.lo) (d.lo+1) (fun p=>qAt P ops d.o ⟨frAt ks p d.fr,Ls.getD p []⟩ d.x d.told)∧dAllC P ops c ks Ls ds
def runX(P:Program) (ops:Array Oper) (c:Nat):List (Oper×Option (Nat×Nat))→FrM→List (Option Nat)→List Heap→List V→Prop
 | [],_,_,_,_=>True
 | (o,none)::rest,fr,ks,Ls,us=>runX P ops c rest (putM fr o.dst (ks.length+1) .any) (ks++ [none]) (Ls++ [[]]) us
 | (o,some (lo,hi))::rest,fr,ks,Ls,us=>
   if c < lo then runX P ops c rest (putM fr o.dst lo .any) ks Ls us
   else if isCall o then
    match us with
    | []=>False
    | u::us'=>match cv P ops ⟨frAt ks lo fr,Ls.getD lo []⟩ o u with
      | some (x,cd)=>cd∧allP (min hi c-lo) (lo+1) (fun p=>qAt P ops o ⟨frAt ks p fr,Ls.getD p []⟩ x (some u))∧runX P ops c rest (putM fr o.dst lo x) ks Ls us'
      | none=>False
   else
    match qv P ops ⟨frAt ks lo fr,Ls.getD lo []⟩ o with
    | some (x,cd)=>cd∧allP (min hi c-lo) (lo+1) (fun p=>qAt P ops o ⟨frAt ks p fr,Ls.getD p []⟩ x none)∧runX P ops c rest (putM fr o.dst lo x) ks Ls us
    | none=>False
def runP(P:Program) (ops:Array Oper) (ov:List Nat):List (Oper×Option (Nat×Nat))→FrM→List (Option Nat)→List Heap→List V→List Dfr→(FrM→List (Option Nat)→List Heap→Prop)→(V→Heap→Prop)→Prop
 | [],fr,ks,Ls,_,ds,K,_=>dAll P ops ks Ls ds∧K fr ks Ls
 | (o,none)::rest,fr,ks,Ls,us,ds,K,KP=>
   match(if ov.any (fun t=>o.dst==some t)then none else lv P ops ⟨frAt ks ks.length fr,Ls.getD ks.length []⟩ o)with
   | some (x,k,L',c)=>c∧runP P ops ov rest (putM fr o.dst (ks.length+1) x) (ks++ [k]) (Ls++ [L']) us ds K KP
   | none=>EffP P ops o ⟨frAt ks ks.length fr,Ls.getD ks.length []⟩
     (fun x k L'=>runP P ops ov rest (putM fr o.dst (ks.length+1) x) (ks++ [k]) (Ls++ [L']) us ds K KP)
     (fun y L'=>KP y L'∧dAllC P ops ks.length ks Ls ds∧runX P ops ks.length rest (putM fr o.dst (ks.length+1) .any) (ks++ [none]) (Ls++ [[]]) us)
 | (o,some (lo,hi))::rest,fr,ks,Ls,us,ds,K,KP=>
   if isCall o then
    match us with
    | []=>False
    | u::us'=>match cv P ops ⟨frAt ks ks.length fr,Ls.getD ks.length []⟩ o u with
      | some (x,c)=>c∧allP (ks.length-lo) lo (fun p=>qAt P ops o ⟨frAt ks p fr,Ls.getD p []⟩ x (some u))∧
        runP P ops ov rest (putM fr o.dst lo x) ks Ls us' (if ks.length < hi then⟨o,fr,x,ks.length,hi,some u⟩::ds else ds) K KP
      | none=>False
   else
    match qv P ops ⟨frAt ks ks.length fr,Ls.getD ks.length []⟩ o with
    | some (x,c)=>c∧allP (ks.length-lo) lo (fun p=>qAt P ops o ⟨frAt ks p fr,Ls.getD p []⟩ x none)∧
      runP P ops ov rest (putM fr o.dst lo x) ks Ls us (if ks.length < hi then⟨o,fr,x,ks.length,hi,none⟩::ds else ds) K KP
    | none=>False
attribute [simp] runP runX dAllC
end
end Go.Ab
namespace Go.Ab
section
variable {P : Program} {n : Nat} {s : St} {Q : AX → St → Prop}
def DQ(R:Option V→Heap→Prop):AX→St→Prop
 | .normal,s=>R none s.L
 | .ret,s=>R none s.L
 | .pan y,s=>R (some y) s.L
 | _,_=>False
end
end Go.Ab
namespace Go.Ab
section
variable {P : Program} {n : Nat} {s : St} {Q : AX → St → Prop}
variable {QD : FuncId → List (Nat × Nat) → AX → St → Prop}
end
end Go.Ab
namespace Go.Ab
section
variable {P : Program} {n : Nat} {s : St} {Q : AX → St → Prop}
end
end Go.Ab
namespace Go.Ab
section
variable {P : Program} {n : Nat} {s : St} {Q : AX → St → Prop}
def EDQ(hs:List Nat) (R:Option V→Heap→Prop) (x:AX) (s:St):Prop:=
 match x with
 | .normal | .ret=>(s.pick [] hs).on (keys (s.pick [] hs).L)=true∧R none (s.pick [] hs).L
 | .pan y=>(s.pick [] hs).on (keys (s.pick [] hs).L)=true∧y.on []=true∧R (some y) (s.pick [] hs).L
 | _=>False
attribute [simp] EDQ DQ
theorem AWP.ofK {c} (h:codeK P n c s (kontK P n Q [])):AWP P n c s Q:=codeK_sound _ _ _ h
end
end Go.Ab
namespace Go.Ab
section
variable {P : Program} {n : Nat} {s : St} {Q : AX → St → Prop}
end
end Go.Ab
namespace Go.Ab
section
variable {P : Program} {n : Nat} {s : St} {Q : AX → St → Prop} {ops : Array Oper}
theorem AOps.slNil {o:Oper} {rest} {x y} {t e ty} {kc} {xs} (hop:o.op= .binOp .eql t x y ty) (ht:tyE P t=some (e,kc)) (hx:s.ev x= .d (.sl xs)) (hy:s.ev y= .d (.v (.slice none 0 0))) (hg:o.guard=none) (hd:∀d,o.dst=some d→d < n)
  (k:∀b:Bool,(b=true→xs=[])→AOps P n ops rest (s.put o.dst (oD b)) Q):AOps P n ops (o::rest) s Q:=by
 intro fo m0 w0 m a w st g
 have hu:P.underlying t=some (.slice e):=by
  grind [tyE,Option.map_eq_some_iff,Prod.mk.injEq]
 have h1:=eval_rel g x
 rw [hx]at h1
 obtain⟨ad,cap,hv,_,_,kk,b,off,f,ha,_⟩:=h1.d_inv.sl_inv
 have h2:=eval_rel g y
 rw [hy]at h2
 have hv2:=h2.v_inv
 unfold wpListIn
 rw [if_pos (by simp [Region.wanted,hg])]
 have hrun:(execOp a.eval o).run P w= .ok (.value (.bool ad.isNone)) w:=by
  simp_all [Lib.run_eql_slice_nil,execOp,eqGuard]
 refine owp_val hrun (.inl rfl) ?_
 refine k ad.isNone (fun hb=>?_) fo m0 w0 m _ w st (g.put hd (.d _ _ (.v _ rfl)))
 grind
theorem row_on ks (ty k:Nat) ys:Res.on ks (.row ty k (dd ys))=true:=by
 simp
theorem ACalls.rowR {f} {args} {L} {ys} {ty} {k} h
  (hyp:ACalls P f args L (fun r L'=>(r= .ret (.d (.v (.slice none 0 0)))∧L'=[]∧ys=[])∨(∃g,r= .ret (.rv g)∧L'=[(g,.row ty k (dd ys))]))):
  ACalls P f args L (fun r L'=>r= .ret (.rv h)∧L'=[(h,.row ty k (dd ys))]):=by
 intro fo m w xs hi hx
 refine(hyp fo m w xs hi hx).mono ?_
 rintro e w' ⟨m',r,L',hR,he,hi',st⟩
 rcases hR with⟨rfl,rfl,rfl⟩ | ⟨g,rfl,rfl⟩
 ·cases e with
  | returned v=>
    obtain rfl:=he.v_inv
    have hnew:=hi'.new (h:=h) (by simp) (x:= .slice none 0 0) (r:= .row ty k []) (Nat.le_refl _) (fun _ _=>rfl) (by simp [blk,blk1]) (.inl ⟨rfl,rfl⟩)
    refine⟨_,_,_,⟨rfl,rfl⟩,.rv h _ (mset_same _ _) rfl,by simpa using hnew,⟨st.os,st.tape,st.output,st.size,st.block,fun b hb ho=>st.owned b hb ?_⟩⟩
    obtain⟨i,y,hy,hyb⟩:=ho
    by_cases hih:i=h
    ·subst hih;rw [mset_same]at hy;grind [blk,blk1]
    ·rw [mset_ne _ hih]at hy;exact⟨i,y,hy,hyb⟩
  | panicked c=>simp_all [Ends]
  | outgrown=>simp_all [Ends]
 ·cases e with
  | returned v=>
    have hv:m' g=some v∧v.oneCell'=true:=by
     cases he with
     | rv _ _ e e1=>grind
    let m2:Nat→Option Value:=fun i=>if i=h then some v else none
    have hm2:∀i x,m2 i=some x→i=h∧x=v:=by
     grind
    have hown:∀b,own m2 b→own m' b:=by
     rintro b ⟨i,x,hx,hb⟩
     obtain⟨rfl,rfl⟩:=hm2 i x hx
     exact⟨g,_,hv.1,hb⟩
    have hO:∀b,OO fo m2 b→OO fo m' b:=fun b hb=>hb.imp (hown b) id
    refine⟨m2,_,_,⟨rfl,rfl⟩,.rv h v (by grind) hv.2,⟨by simp,?_,?_,?_,hi'.folt,?_,hi'.glob.mono (Keep.refl w' _) (fun b _ hb=>hO b hb)⟩,⟨st.os,st.tape,st.output,st.size,st.block,fun b hb ho=>st.owned b hb (hown b ho)⟩⟩
    ·intro i x hx;obtain⟨rfl,_⟩:=hm2 i x hx;simp
    ·grind
    ·intro i x b hx hb
     obtain⟨rfl,rfl⟩:=hm2 i x hx
     exact hi'.others g _ b hv.1 hb
    ·intro i q hq
     simp only [List.mem_singleton,Prod.mk.injEq]at hq
     obtain⟨rfl,rfl⟩:=hq
     obtain⟨z,hz,hh⟩:=hi'.holds g _ List.mem_cons_self
     rw [hv.1]at hz
     obtain rfl:=Option.some.inj hz
     exact⟨v,by grind,(hh.on (ks:=[]) (m':=m2) (by simp) (row_on [] ty k ys)).mono (fun _ _=>rfl) (Keep.refl w' _) (fun b _ hb=>hO b hb) (fun _ _ e=>e)⟩
  | panicked c=>simp_all [Ends]
  | outgrown=>simp_all [Ends]
end
end Go.Ab
namespace Go.Ab
section
variable {P : Program} {n : Nat} {s : St} {Q : AX → St → Prop} {L : Heap}
theorem AOps.callX {ops} {o:Oper} {rest} {c} {f} {args} {L1 L2:Heap} {R} fr (hg:o.guard=none) (hd:∀d,o.dst=some d→d < n)
  (hop:o.op= .call c) (hc:callee s.ev c=some (f,args)) (he:enters P f=true) (ho:V.ons (keys L1) args=true) (hL:s.L.Perm (L1++L2)) (hon:L1.all (fun p=>Res.on (keys L1) p.2)=true)
  (hfr:∀p∈fr,p∈s.fr∧V.on (keys L2++(L1.filterMap fun p=>match p.2 with | .box (_+1) _ _=>some p.1 | _=>none)) p.2=true)
  (hL2:∀p∈L2,Res.on (keys L2++(L1.filterMap fun p=>match p.2 with | .box (_+1) _ _=>some p.1 | _=>none)) p.2=true)
  (h:ACalls P f args L1 R)
  (hstay:∀r L1',R r L1'→(∃x,r= .ret x)∧(∀k∈keys L1',k∉keys L2)∧∀k b ty cs,(k,Res.box (b+1) ty cs)∈L1→∃ty' cs',(k,Res.box (b+1) ty' cs')∈L1')
  (k:∀x L1',R (.ret x) L1'→AOps P n ops rest (St.put ⟨fr,L1'++L2⟩ o.dst x) Q):AOps P n ops (o::rest) s Q:=by
 intro fo m0 w0 m a w st g
 unfold wpListIn
 rw [if_pos (by simp [Region.wanted,hg])]
 refine call_core hop hc he ho hL hon hL2 h hstay g fun x L1' mm v w' hR hrx hinv stt hbx hkeep hO'=>?_
 have g':G fo n mm ⟨fr,L1'++L2⟩ a w':=⟨g.size,fun t y hy=>by
  obtain⟨q0,q3⟩:=hfr _ hy
  obtain⟨q1,q2⟩:=g.fr t y q0
  exact⟨q1,(q2.on hbx q3).mono hkeep hO' (fun _ _ e=>e)⟩,hinv,g.defers⟩
 exact k x L1' hR fo m0 w0 mm _ w' (st.trans stt) (g'.put hd hrx)
end
end Go.Ab
namespace Go.Ab
section
variable {P : Program} {n : Nat} {s : St} {Q : AX → St → Prop} {L : Heap} {ops : Array Oper}
def XPost(P:Program) (rs:List ResultVar) (R:AE→Heap→Prop) (ts hs:List Nat) (x:AX) (s:St):Prop:=
 match x with
 | .normal | .ret=>(s.pick ts hs).on (keys (s.pick ts hs).L)=true∧FPost P rs R .ret (s.pick ts hs)
 | .pan y=>((s.pick [] hs).on (keys (s.pick [] hs).L)=true∧y.on []=true)∧R (.pan y) (s.pick [] hs).L
 | _=>False
theorem AWP.xpost {c} {rs} {R} ts hs (ht:ts.all (fun t=>decide (t < n))=true) (hh:hs.Nodup) (h:AWP P n c s (XPost P rs R ts hs)):AWP P n c s (FPost P rs R):=by
 intro fo m a w hr g
 refine Code.wpIn_mono (fun e a1 w1 hp=>?_) (h fo m a w hr g)
 obtain⟨ms,m',x,s',hmk,hq,g',he,st⟩:=hp
 have key:∀y,(s'.pick ts hs).on (keys (s'.pick ts hs).L)=true∧FPost P rs R .ret (s'.pick ts hs)→(∀m2,Exits w1 (OO (fo.mark ms) m2) m2 e y)→FPost P rs R .ret (s'.pick ts hs)=FPost P rs R y (s'.pick ts hs)→Post fo n m w (FPost P rs R) e a1 w1:=by
  intro y h1 h2 h3
  obtain⟨m2,g2,st2⟩:=Wk.pick ts hs ht hh h1.1 (fo.mark ms) m' a1 w1 g'
  exact⟨ms,m2,y,s'.pick ts hs,hmk,h3 ▸ h1.2,g2,h2 m2,st.trans st2⟩
 cases x with
 | normal=>
   refine key .normal hq (fun m2=>?_) rfl
   grind [Exits]
 | ret=>
   refine key .ret hq (fun m2=>?_) rfl
   grind [Exits]
 | pan y=>
   obtain⟨⟨h1,h2⟩,h3⟩:=hq
   obtain⟨m2,g2,st2⟩:=Wk.pick [] hs rfl hh h1 (fo.mark ms) m' a1 w1 g'
   refine⟨ms,m2,.pan y,s'.pick [] hs,hmk,h3,g2,?_,st.trans st2⟩
   cases e <;> simp [Exits]at he ⊢
   obtain⟨v,older,rfl,ho',hv⟩:=he
   exact⟨v,older,rfl,ho',(hv.on (by simp) h2).mono (Step.keep st2) (Step.sub st2) (fun _ _ e=>e)⟩
 | exit i=>exact hq.elim
 | goto i=>exact hq.elim
theorem ACalls.runX ts hs {f} {args} {R} {fn} {c} (hf:P.funcs[f]?=some fn) (hb:fn.body=some c) (hn:args.length≤fn.ntmps∧ts.all (fun t=>decide (t < fn.ntmps))=true∧hs.Nodup)
  (h:codeK P fn.ntmps c ⟨argFrame 0 args,L⟩ (kontK P fn.ntmps (XPost P fn.results.toList R ts hs) [])):ACalls P f args L R:=
 ACalls.of_AWP hf hb hn.1 (AWP.xpost ts hs hn.2.1 hn.2.2 (codeK_sound _ _ _ h))
theorem rX(ts hs:List Nat) {f:FuncId} {args:List V} {R:AE→Heap→Prop} {fn:Func} {c:Code} (hf:P.funcs[f]?=some fn) (h:codeK P fn.ntmps c ⟨argFrame 0 args,L⟩ (kontK P fn.ntmps (XPost P fn.results.toList R ts hs) []))
  (hb:fn.body=some c:=by exact rfl) (hn:Nat.ble args.length fn.ntmps=true:=by exact rfl) (ht:ts.all (fun t=>decide (t < fn.ntmps))=true:=by exact rfl) (hd:hs.Nodup:=by decide):ACalls P f args L R:=ACalls.runX ts hs hf hb ⟨Nat.le_of_ble_eq_true hn,ht,hd⟩ h
attribute [simp] XPost
theorem AWP.named {c} (h:∀Q',Q'=Q→AWP P n c s Q'):AWP P n c s Q:=h _ rfl
theorem inB_ne {id j} (h:Q (.exit j) s) (hn:j≠id):AX.inBlock id Q (.exit j) s:=by simp_all
theorem inB_eq {id} (h:Q .normal s):AX.inBlock id Q (.exit id) s:=by simp_all
theorem inB_ret {id} (h:Q .ret s):AX.inBlock id Q .ret s:=h
theorem inB_nrm {id} (h:Q .normal s):AX.inBlock id Q .normal s:=h
theorem thn_ne {f} {j} (h:Q (.exit j) s):AX.then f Q (.exit j) s:=h
theorem thn_nrm {f} (h:f s):AX.then f Q .normal s:=h
theorem thn_ret {f} (h:Q .ret s):AX.then f Q .ret s:=h
end
end Go.Ab
namespace Go.Ab
open Go.Proofs Go.Proofs.Tryz
set_option maxHeartbeats 4000000
set_option maxRecDepth 20000
theorem wAmong_ok(n lo hi:Int):Pure prog 32 [iD n,iD lo,iD hi] (oD (fromB n lo hi)):=by
 unfold fromB
 refine rn func32 ?_;simp [f32]
theorem wIs_ok(n:Int):Pure prog 55 [iD n] (oD (int16 n)):=by
 have e:int16 n=decide (n=IntKind.wrap .i64 (IntKind.wrap .i16 n)):=by
  unfold int16 fromB
  rw [Bool.eq_iff_iff]
  simp [IntKind.wrap,IntKind.signed,IntKind.bits]
  omega
 rw [e]
 refine rn func55 ?_;simp [f55]
theorem wZero_ok(n:Int):Pure prog 107 [iD n] (oD (decide (n=0))):=by
 refine rn func107 ?_;simp [f107]
theorem lSmall_ok(c:Int):Pure prog 165 [.d (.v (.int .u8 c))] (oD (smallB c)):=by
 unfold smallB fromB
 refine rn func165 ?_;simp [f165]
theorem lDigit_ok(c:Int):Pure prog 166 [.d (.v (.int .u8 c))] (oD (digitB c)):=by
 unfold digitB fromB
 refine rn func166 ?_;simp [f166]
def anyB(c:Int):Bool:=(decide (32≤c) && decide (c≤126)) || decide (c=10)
theorem lAny_ok(c:Int):Pure prog 105 [.d (.v (.int .u8 c))] (oD (anyB c)):=by
 unfold anyB
 refine rn func105 ?_;simp [f105]
 omega
def firstB(c:Int):Bool:=smallB c || digitB c
theorem lFirst_ok(c:Int):Pure prog 164 [.d (.v (.int .u8 c))] (oD (firstB c)):=by
 unfold firstB
 refine rn func164 ?_;simp [-cB,f164]
 repeat' (first
  | (with_reducible refine And.intro ?_ ?_)
  | ((first | (refine condC_split (fun h=>?_) (fun h=>?_) <;> (try simp at h)) | refine pC (lSmall_ok _) ?_ | refine pC (lDigit_ok _) ?_ | refine lC (lSmall_ok _) ?_ | refine lC (lDigit_ok _) ?_ | refine pG (lSmall_ok _) ?_ | refine pG (lDigit_ok _) ?_) <;> (try simp [-cB, *]))
  | (with_reducible intro _))
def lallB(s:ByteArray) (most:Int) (p1 p2:Int→Bool):Bool:=
 decide (1≤s.size) && decide ((s.size:Int)≤most) && p1 (s.data.toList[0]?.getD 0).toNat && allB (fun c:UInt8=>p2 c.toNat) s.data.toList
theorem lAll_ok(s:ByteArray) (hs:s.size≤1000000000000000) (most:Int) (g1 g2:Nat) (p1 p2:Int→Bool) (h1:∀c,Pure prog g1 [.d (.v (.int .u8 c))] (oD (p1 c))) (h2:∀c,Pure prog g2 [.d (.v (.int .u8 c))] (oD (p2 c))):
  Pure prog 106 [.d (.v (.string s)),iD most,.clo (.func g1) [] [],.clo (.func g2) [] []] (oD (lallB s most p1 p2)):=by
 have hsz:s.data.toList.length=s.size:=rfl
 unfold lallB
 refine rn func106 ?_;simp [-cB,f106]
 repeat' (first
  | (with_reducible refine And.intro ?_ ?_)
  | ((first | (refine condC_split (fun h=>?_) (fun h=>?_) <;> (try simp at h)) | refine pC (h1 _) ?_ | refine pC (h2 _) ?_ | refine lC (h1 _) ?_ | refine lC (h2 _) ?_ | refine pG (h1 _) ?_ | refine pG (h2 _) ?_) <;> (try simp [-cB, *]))
  | (with_reducible intro _))
 all_goals first | omega | assumption | skip
 ·rename_i a1 a2 a3
  rcases h with(h | h) | h
  ·omega
  ·omega
  ·rw [a3]at h;cases h
 ·refine AWP.loopL [0,3,27,28] s.data.toList (fun pre=> [(28,iD pre.length)]) (fun _=> []) (fun pre=>allB (fun c:UInt8=>p2 c.toNat) pre=true) (by rfl) (by omega) (by simp [allB_nil]) ?_ ?_
  ·rintro pre x post hsp hH hlt hge a4
   have hall:=allB_split hsp hH
   have hge2:s.data[pre.length]'hlt=x:=by simpa using hge
   have hsn:allB (fun c:UInt8=>p2 c.toNat) (pre++ [x])=p2 x.toNat:=by simp [allB_snoc,hH]
   have h3:=h2 x.toNat
   rw [hsz]at hlt
   clear hsp hge
   simp [-cB, *]
   repeat' (first
    | (with_reducible refine And.intro ?_ ?_)
    | ((first | (refine condC_split (fun h=>?_) (fun h=>?_) <;> (try simp at h)) | refine pC h3 ?_ | refine lC h3 ?_ | refine pG h3 ?_) <;> (try simp [-cB, *]))
    | (with_reducible intro _))
   all_goals (first | assumption | omega | (rw [inR_i64];omega) | (simp_all;done) | grind | skip)
  ·intro hH
   simp [*]
   omega
theorem txt_any(c:UInt8):txtB c=anyB c.toNat:=by
 unfold txtB anyB
 rw [Bool.eq_iff_iff]
 simp
theorem any_all(s:ByteArray):isTextB s=(s.toList.isEmpty || lallB s 1024 anyB anyB):=by
 rw [ByteArray.toList_eq]
 unfold isTextB lallB
 rw [show txtB=fun c:UInt8=>anyB c.toNat from funext txt_any]
 have hsz:s.data.toList.length=s.size:=rfl
 cases hl:s.data.toList with
 | nil=>
   rw [hl]at hsz
   have h0:s.size=0:=hsz.symm
   simp [h0,allB]
 | cons c l=>
   rw [hl,List.length_cons]at hsz
   have h2:decide (1≤s.size)=true:=decide_eq_true (by omega)
   have e:decide (s.size≤1024)=decide ((s.size:Int)≤1024):=by
    rw [Bool.eq_iff_iff];simp;omega
   rw [h2,e]
   show _=(false || (true && decide ((s.size:Int)≤1024) && anyB c.toNat && (anyB c.toNat && allB (fun c:UInt8=>anyB c.toNat) l)))
   show((anyB c.toNat && allB (fun c:UInt8=>anyB c.toNat) l) && decide ((s.size:Int)≤1024))=_
   cases anyB c.toNat <;> simp [Bool.and_comm]
theorem wIsText_ok(s:ByteArray) (hs:s.size≤1000000000000000):Pure prog 64 [.d (.v (.string s))] (oD (isTextB s)):=by
 have h:=lAll_ok s hs 1024 105 105 anyB anyB lAny_ok lAny_ok
 rw [any_all]
 generalize lallB s 1024 anyB anyB=R at *
 refine rn func64 ?_;simp [-cB,f64]
 refine pG h ?_
 simp [-cB]
 cases s.toList <;> simp
def wletB(c:Int):Bool:=firstB c || decide (c=45) || decide (c=39)
theorem lEach_ok(b:Nat) (c:Int):ACalls prog 167 [.d (.v (.int .u8 c)),.bp 3 0] [(3,.box (b+1) 138 [.clo (.func 164) [] []])] (fun r L=>r= .ret (oD (wletB c))∧L=[(3,.box (b+1) 138 [.clo (.func 164) [] []])]):=by
 have h:=lFirst_ok c
 unfold wletB
 refine rX [3] [3] func167 ?_;simp [-cB,f167]
 refine pC h ?_
 simp [-cB]
theorem lAllW_ok(s:ByteArray) (hs:s.size≤1000000000000000) (b:Nat):
  ACalls prog 106 [.d (.v (.string s)),iD 9,.clo (.func 164) [] [],.clo (.func 167) [] [.bp 3 0]] [(3,.box (b+1) 138 [.clo (.func 164) [] []])]
   (fun r L=>r= .ret (oD (lallB s 9 firstB wletB))∧L=[(3,.box (b+1) 138 [.clo (.func 164) [] []])]):=by
 have hsz:s.data.toList.length=s.size:=rfl
 have h1:=lFirst_ok
 unfold lallB
 refine rX [8] [3] func106 ?_;simp [-cB,f106]
 repeat' (first
  | (with_reducible refine And.intro ?_ ?_)
  | ((first | (refine condC_split (fun h=>?_) (fun h=>?_) <;> (try simp at h)) | refine pC (h1 _) ?_ | refine lC (h1 _) ?_ | refine pG (h1 _) ?_) <;> (try simp [-cB, *]))
  | (with_reducible intro _))
 all_goals first | omega | assumption | skip
 ·rename_i a1 a2 a3
  rcases h with(h | h) | h
  ·omega
  ·omega
  ·rw [a3]at h;cases h
 ·refine AWP.loopL [0,3,27,28] s.data.toList (fun pre=> [(28,iD pre.length)]) (fun _=> []) (fun pre=>allB (fun c:UInt8=>wletB c.toNat) pre=true) (by rfl) (by omega) (by simp [allB_nil]) ?_ ?_
  ·rintro pre x post hsp hH hlt hge a4
   have hall:=allB_split hsp hH
   have hge2:s.data[pre.length]'hlt=x:=by simpa using hge
   have hsn:allB (fun c:UInt8=>wletB c.toNat) (pre++ [x])=wletB x.toNat:=by simp [allB_snoc,hH]
   have h3:=lEach_ok b x.toNat
   rw [hsz]at hlt
   clear hsp hge h1
   simp [-cB, *]
   refine eD [3] h3 ?_
   simp [-cB]
   cases hw:wletB x.toNat with
   | false=>simp [*]
   | true=>simp [*]
  ·intro hH
   simp [*]
   omega
theorem wrd_let(c:UInt8):wrdB c=wletB c.toNat:=by
 unfold wrdB rowB wletB firstB smallB greatB digitB fromB
 rw [Bool.eq_iff_iff]
 simp
 omega
theorem word_all(s:ByteArray):isWordB s=lallB s 9 firstB wletB:=by
 unfold isWordB lallB firstB
 rw [show wrdB=fun c:UInt8=>wletB c.toNat from funext wrd_let]
 congr 1
 congr 1
 congr 1
 rw [Bool.eq_iff_iff];simp;omega
theorem wIsWord_ok(s:ByteArray) (hs:s.size≤1000000000000000):Pure prog 109 [.d (.v (.string s))] (oD (isWordB s)):=by
 have h:=lAllW_ok s hs
 rw [word_all]
 generalize lallB s 9 firstB wletB=R at *
 refine rn func109 ?_;simp [-cB,f109]
 intro bs
 refine eD [3] ((h _)) ?_
 simp [-cB]
end Go.Ab
namespace Go.Ab
open Go.Proofs Go.Proofs.Tryz
set_option maxHeartbeats 4000000
set_option maxRecDepth 20000
theorem allInt_ok(l:List Int) (hl:l.length≤1000000000000000) (g:Nat) (caps:List V) (hc:V.ons [] caps=true) (p:Int→Bool) (h:∀x∈l,Pure prog g (iD x::caps) (oD (p x))):
  Pure prog 38 [.d (.sl (encI l)),.clo (.func g) [] caps] (oD (allB p l)):=by
 refine Pure.run func38 rfl (by simp [f38,hc]) ?_;simp [-cB,f38,hc]
 refine AWP.loopL [1,7,8,9] l (fun pre=> [(9,iD pre.length)]) (fun _=> []) (fun pre=>allB p pre=true) (by rfl) (by omega) (by simp [allB_nil,hc]) ?_ ?_
 ·rintro pre x post hsp hH hlt hge a4
  have hall:=allB_split hsp hH
  have hsn:allB p (pre++ [x])=p x:=by simp [allB_snoc,hH]
  have h3:=h x (by rw [hsp];simp)
  clear hsp h
  simp [-cB, *]
  repeat' (first
   | (with_reducible refine And.intro ?_ ?_)
   | ((first | (refine condC_split (fun h=>?_) (fun h=>?_) <;> (try simp at h)) | refine pC h3 ?_ | refine lC h3 ?_ | refine pG h3 ?_) <;> (try simp [-cB, *]))
   | (with_reducible intro _))
  all_goals (first | assumption | omega | (rw [inR_i64];omega) | (simp_all;done) | grind | skip)
 ·intro hH
  simp [*]
theorem allStr_ok(l:List ByteArray) (hl:l.length≤1000000000000000) (g:Nat) (caps:List V) (hc:V.ons [] caps=true) (p:ByteArray→Bool) (h:∀x∈l,Pure prog g (.d (.v (.string x))::caps) (oD (p x))):
  Pure prog 63 [.d (.sl (encS l)),.clo (.func g) [] caps] (oD (allB p l)):=by
 refine Pure.run func63 rfl (by simp [f63,hc]) ?_;simp [-cB,f63,hc]
 refine AWP.loopL [1,7,8,9] l (fun pre=> [(9,iD pre.length)]) (fun _=> []) (fun pre=>allB p pre=true) (by rfl) (by omega) (by simp [allB_nil,hc]) ?_ ?_
 ·rintro pre x post hsp hH hlt hge a4
  have hall:=allB_split hsp hH
  have hsn:allB p (pre++ [x])=p x:=by simp [allB_snoc,hH]
  have h3:=h x (by rw [hsp];simp)
  clear hsp h
  simp [-cB, *]
  repeat' (first
   | (with_reducible refine And.intro ?_ ?_)
   | ((first | (refine condC_split (fun h=>?_) (fun h=>?_) <;> (try simp at h)) | refine pC h3 ?_ | refine lC h3 ?_ | refine pG h3 ?_) <;> (try simp [-cB, *]))
   | (with_reducible intro _))
  all_goals (first | assumption | omega | (rw [inR_i64];omega) | (simp_all;done) | grind | skip)
 ·intro hH
  simp [*]
theorem allAct_ok(l:List GAct) (hl:l.length≤1000000000000000) (g:Nat) (caps:List V) (hc:V.ons [] caps=true) (p:GAct→Bool) (h:∀x∈l,Pure prog g (.agg (x.enc.map .d)::caps) (oD (p x))):
  Pure prog 30 [.d (.sl (l.map GAct.enc)),.clo (.func g) [] caps] (oD (allB p l)):=by
 refine Pure.run func30 rfl (by simp [f30,hc]) ?_;simp [-cB,f30,hc]
 refine AWP.loopL [1,7,8,9] l (fun pre=> [(9,iD pre.length)]) (fun _=> []) (fun pre=>allB p pre=true) (by rfl) (by omega) (by simp [allB_nil,hc]) ?_ ?_
 ·rintro pre x post hsp hH hlt hge a4
  have hall:=allB_split hsp hH
  have hsn:allB p (pre++ [x])=p x:=by simp [allB_snoc,hH]
  have h3:=h x (by rw [hsp];simp)
  clear hsp h
  simp [-cB, *]
  repeat' (first
   | (with_reducible refine And.intro ?_ ?_)
   | ((first | (refine condC_split (fun h=>?_) (fun h=>?_) <;> (try simp at h)) | refine pC h3 ?_ | refine lC h3 ?_ | refine pG h3 ?_) <;> (try simp [-cB, *]))
   | (with_reducible intro _))
  all_goals (first | assumption | omega | (rw [inR_i64];omega) | (simp_all;done) | grind | skip)
 ·intro hH
  simp [*]
theorem allLine_ok(l:List (List GSlot)) (hl:l.length≤1000000000000000) (g:Nat) (caps:List V) (hc:V.ons [] caps=true) (p:(List GSlot)→Bool) (h:∀x∈l,Pure prog g (.d (.sl (x.map GSlot.enc))::caps) (oD (p x))):
  Pure prog 33 [.d (.sl (encSl (List.map GSlot.enc) l)),.clo (.func g) [] caps] (oD (allB p l)):=by
 refine Pure.run func33 rfl (by simp [f33,hc]) ?_;simp [-cB,f33,hc]
 refine AWP.loopL [1,7,8,9] l (fun pre=> [(9,iD pre.length)]) (fun _=> []) (fun pre=>allB p pre=true) (by rfl) (by omega) (by simp [allB_nil,hc]) ?_ ?_
 ·rintro pre x post hsp hH hlt hge a4
  have hall:=allB_split hsp hH
  have hsn:allB p (pre++ [x])=p x:=by simp [allB_snoc,hH]
  have h3:=h x (by rw [hsp];simp)
  clear hsp h
  simp [-cB, *]
  repeat' (first
   | (with_reducible refine And.intro ?_ ?_)
   | ((first | (refine condC_split (fun h=>?_) (fun h=>?_) <;> (try simp at h)) | refine pC h3 ?_ | refine lC h3 ?_ | refine pG h3 ?_) <;> (try simp [-cB, *]))
   | (with_reducible intro _))
  all_goals (first | assumption | omega | (rw [inR_i64];omega) | (simp_all;done) | grind | skip)
 ·intro hH
  simp [*]
end Go.Ab
namespace Go.Ab
open Go.Proofs Go.Proofs.Tryz
def prevB:Option GWay→GWay→Bool
 | none,_=>true
 | some p,w=>decide (p.Dir < w.Dir)
def roomB(t:GTables) (n:Int):Bool:=(t.Things[n.toNat]?.getD GThing.zero).Room
def wayB(t:GTables) (prev:Option GWay) (w:GWay):Bool:=
 fromB w.Dir 1 12 && prevB prev w && thingB t w.To && roomB t w.To && routB t w.When true && textB t w.Else true
def waysM(t:GTables):Option GWay→List GWay→Bool
 | _,[]=>true
 | p,w::l=>wayB t p w && waysM t (some w) l
def waysB(t:GTables) (l:List GWay):Bool:=waysM t none l
theorem waysM_app(t:GTables) (l r:List GWay) (p:Option GWay):waysM t p (l++r)=(waysM t p l && waysM t (l.getLast?.or p) r):=by
 induction l generalizing p with
 | nil=>simp [waysM]
 | cons w l ih=>
   rw [List.cons_append,waysM,waysM,ih,Bool.and_assoc]
   cases hl:l.getLast? with
   | none=>have:l=[]:=by simpa using hl
           subst this;simp
   | some q=>simp [List.getLast?_cons,hl]
set_option maxRecDepth 20000 in
theorem refWays_ok(t:GTables) (ht:t.wf) (l:List GWay) (hl:l.length≤1000000000000000) (hw:∀x∈l,x.wf):Pure prog 126 [.agg (t.enc.map .d),.d (.sl (l.map GWay.enc))] (oD (waysB t l)):=by
 have hlen:t.Things.length≤2000000000000:=by have:=ht;simp [GTables.wf]at this;omega
 unfold waysB
 refine rn func126 ?_;simp [f126]
 try intro(_:Nat→Nat)
 refine AWP.loopL [1,2,5] l (fun pre=> [(5,iD pre.length)]) (fun _=> []) (fun pre=>waysM t none pre=true) (by rfl) (by omega) (by simp [waysM]) ?_ ?_
 ·rintro pre x post hsp hH hlt hge a4
  have hall:waysM t none l=(wayB t pre.getLast? x && waysM t (some x) post):=by
   rw [hsp,waysM_app,hH,waysM];simp
  have hsn:waysM t none (pre++ [x])=wayB t pre.getLast? x:=by rw [waysM_app,hH,waysM,waysM];simp
  have hx:=hw x (by rw [hsp];simp)
  have hprev:∀i:Nat,i+1=pre.length→l[i]?=pre.getLast?:=by
   intro i hi
   rw [hsp,List.getElem?_append_left (by omega),List.getLast?_eq_getElem?]
   congr 1;omega
  have hT:thingB t x.To=true→(1≤x.To∧x.To.toNat < t.Things.length):=by
   intro h
   unfold thingB at h
   rw [fromB_iff]at h
   omega
  have hw1:wayB t pre.getLast? x=(fromB x.Dir 1 12 && prevB pre.getLast? x && thingB t x.To && roomB t x.To && routB t x.When true && textB t x.Else true):=rfl
  rw [hw1]at hall hsn
  clear hw hsp
  simp [-cB, *,-hprev,-hT,-hall,-hsn]
  refine AWP.regionD [oD (fromB x.Dir 1 12),oD (thingB t x.To),oD (routB t x.When true),oD (textB t x.Else true)] tmix (by kernel_rfl) (by rfl) ?_
  simp [-cB, *,-hprev,-hT,(refFrom_ok _ _ _).ok,(refThing_ok t ht _).ok,(refRoutine_ok t ht _ _).ok,(refText_ok t ht _ _).ok]
  have hP:(0 < pre.length→(l[pre.length-1]?.getD GWay.zero).Dir < x.Dir)↔prevB pre.getLast? x=true:=by
   cases hg:pre.getLast? with
   | none=>have:pre=[]:=by simpa using hg
           subst this;simp [prevB]
   | some p=>
     have hne:0 < pre.length:=by
      cases pre with
      | nil=>simp at hg
      | cons _ _=>simp
     rw [hprev (pre.length-1) (by omega),hg]
     simp [hne,prevB]
  have hR:(t.Things[x.To.toNat]?.getD GThing.zero).Room=roomB t x.To:=rfl
  have hnl:pre=[]↔¬0 < pre.length:=by cases pre <;> simp
  rw [hR,hnl]
  generalize fromB x.Dir 1 12=b1 at *
  generalize thingB t x.To=b2 at *
  generalize routB t x.When true=b3 at *
  generalize textB t x.Else true=b4 at *
  generalize waysM t (some x) post=b5 at *
  generalize roomB t x.To=b6 at *
  generalize prevB pre.getLast? x=b7 at *
  generalize (l[pre.length-1]?.getD GWay.zero).Dir=d at *
  have hi:0 < pre.length→inR IntKind.i64 ((pre.length:Int)-1):=fun h=>iW
  rcases Nat.eq_zero_or_pos pre.length with hz | hz
  ·have hb7:b7=true:=hP.1 (fun h=>by omega)
   clear hP hprev hnl
   cases b1 <;> simp [hz,hsn,hall,hb7,a4]
   cases b2 <;> simp
   obtain⟨k1,k2⟩:=hT rfl
   cases b6 <;> simp [k2,show 0≤x.To by omega]
   cases b3 <;> simp
   cases b4 <;> simp [a4,hsn,hall,hb7]
   rw [inR_i64];omega
  ·have hP':d < x.Dir↔b7=true:=⟨fun h=>hP.1 (fun _=>h),fun h=>hP.2 h hz⟩
   have hi':=hi hz
   clear hP hprev hnl hi
   have hle:1≤(pre.length:Int)∧pre.length-1 < l.length:=by omega
   cases b1 <;> simp [hz,hsn,hall,a4,hi',hle,hP']
   cases b7 <;> simp
   cases b2 <;> simp
   obtain⟨k1,k2⟩:=hT rfl
   cases b6 <;> simp [k2,show 0≤x.To by omega]
   cases b3 <;> simp
   cases b4 <;> simp [a4,hsn,hall]
   intro h
   have:=hP'.2 rfl
   omega
 ·intro hH
  simp [*]
def thingAt(t:GTables) (n:Int):GThing:=t.Things[n.toNat]?.getD GThing.zero
def parentsB(t:GTables):Prop:=∀x∈t.Things,0≤x.Parent∧x.Parent < t.Things.length
def endsM(t:GTables):Nat→Int→Bool
 | 0,_=>false
 | k+1,x=>if x=0 then true else endsM t k (thingAt t x).Parent
def endsB(t:GTables) (x:Int):Bool:=endsM t t.Things.length x
theorem thingAt_get {t:GTables} {n:Int} (h:0≤n∧n < t.Things.length):t.Things[n.toNat]?=some (thingAt t n):=by
 unfold thingAt
 rw [List.getElem?_eq_getElem (by omega)];simp
theorem thingAt_elem {t:GTables} {n:Int} (h:0≤n∧n < t.Things.length):t.Things[n.toNat]'(by omega)=thingAt t n:=by
 have:=thingAt_get h
 rwa [List.getElem?_eq_getElem (by omega),Option.some.injEq]at this
theorem thingAt_mem {t:GTables} {n:Int} (h:0≤n∧n < t.Things.length):thingAt t n∈t.Things:=List.mem_of_getElem? (thingAt_get h)
def upN(t:GTables):Nat→Int→Int
 | 0,x=>x
 | k+1,x=>upN t k (thingAt t x).Parent
theorem upN_succ(t:GTables) (k:Nat) (x:Int):upN t (k+1) x=(thingAt t (upN t k x)).Parent:=by
 induction k generalizing x with
 | zero=>rfl
 | succ k ih=>rw [upN,ih];rfl
theorem upN_in {t:GTables} (hp:parentsB t) (k:Nat) (x:Int) (hx:0≤x∧x < t.Things.length):0≤upN t k x∧upN t k x < t.Things.length:=by
 induction k generalizing x with
 | zero=>exact hx
 | succ k ih=>exact ih _ (hp _ (thingAt_mem hx))
theorem endsM_up(t:GTables):∀(i k:Nat) (x:Int),(∀j < i,upN t j x≠0)→endsM t (i+k) x=endsM t k (upN t i x)
 | 0,k,x,_=>by rw [Nat.zero_add];rfl
 | i+1,k,x,h=>by
   rw [show i+1+k=(i+k)+1 by omega,endsM,if_neg (show x≠0 from h 0 (by omega)),upN,←endsM_up t i k]
   exact fun j hj=>h (j+1) (by omega)
theorem refEnds_ok(t:GTables) (ht:t.wf) (hp:parentsB t) (x:Int) (hx:0≤x∧x < t.Things.length):Pure prog 127 [.agg (t.enc.map .d),iD x] (oD (endsB t x)):=by
 have hlen:t.Things.length≤2000000000000:=by have:=ht;simp [GTables.wf]at this;omega
 refine rn func127 ?_;simp [f127]
 try intro(_:Nat→Nat)
 refine AWP.loopS [1,2,5] t.Things.length (fun i=> [(1,iD (upN t i x)),(5,iD i)]) (fun _=> []) (fun i=>∀j < i,upN t j x≠0) (by rfl) (by simp [upN]) ?_
 intro i hi hH
 have hu:=upN_in hp i x hx
 have hs:=upN_succ t i x
 have he:=endsM_up t i (t.Things.length-i) x hH
 rw [show i+(t.Things.length-i)=t.Things.length by omega]at he
 have hget:=thingAt_elem hu
 have hs':=hs.symm
 rcases Nat.lt_or_eq_of_le hi with hlt | rfl
 ·have a4:inR .i64 ((i:Int)+1):=iW
  unfold endsB
  rw [show t.Things.length-i=(t.Things.length-(i+1))+1 by omega,endsM,←hs]at he
  clear hs
  simp [-cB, *]
  repeat' (first
   | (with_reducible refine And.intro ?_ ?_)
   | ((first | (refine condC_split (fun h=>?_) (fun h=>?_) <;> (try simp at h)) | refine pC (refRow_ok _) ?_ | refine lC (refRow_ok _) ?_ | refine pG (refRow_ok _) ?_) <;> (try simp [-cB, *]))
   | (with_reducible intro _))
  all_goals (first | assumption | omega | (rw [inR_i64];omega) | (simp_all;done) | grind | skip)
 ·rw [Nat.sub_self]at he
  unfold endsB
  simp [he,endsM]
def roomM(t:GTables):Nat→Int→Bool
 | 0,_=>false
 | k+1,x=>if thingB t x then(if roomB t x then true else roomM t k (thingAt t x).Parent)else false
def inRoomB(t:GTables) (x:Int):Bool:=roomM t t.Things.length x
theorem roomM_up(t:GTables):∀(i k:Nat) (x:Int),(∀j < i,thingB t (upN t j x)=true∧roomB t (upN t j x)=false)→roomM t (i+k) x=roomM t k (upN t i x)
 | 0,k,x,_=>by rw [Nat.zero_add];rfl
 | i+1,k,x,h=>by
   have h0:thingB t x=true∧roomB t x=false:=h 0 (by omega)
   rw [show i+1+k=(i+k)+1 by omega,roomM,if_pos h0.1,h0.2,if_neg (by simp),upN,←roomM_up t i k]
   exact fun j hj=>h (j+1) (by omega)
theorem refRoom_ok(t:GTables) (ht:t.wf) (x:Int):Pure prog 128 [.agg (t.enc.map .d),iD x] (oD (inRoomB t x)):=by
 have hlen:t.Things.length≤2000000000000:=by have:=ht;simp [GTables.wf]at this;omega
 refine rn func128 ?_;simp [f128]
 try intro(_:Nat→Nat)
 refine AWP.loopS [1,2,5] t.Things.length (fun i=> [(1,iD (upN t i x)),(5,iD i)]) (fun _=> []) (fun i=>∀j < i,thingB t (upN t j x)=true∧roomB t (upN t j x)=false) (by rfl) (by simp [upN]) ?_
 intro i hi hH
 have hs':=(upN_succ t i x).symm
 have he:=roomM_up t i (t.Things.length-i) x hH
 rw [show i+(t.Things.length-i)=t.Things.length by omega]at he
 unfold inRoomB
 have hT:thingB t (upN t i x)=true→0≤upN t i x∧upN t i x < t.Things.length:=by
  unfold thingB;rw [fromB_iff];omega
 have hR:(thingAt t (upN t i x)).Room=roomB t (upN t i x):=rfl
 rcases Nat.lt_or_eq_of_le hi with hlt | rfl
 ·have a4:inR .i64 ((i:Int)+1):=iW
  rw [show t.Things.length-i=(t.Things.length-(i+1))+1 by omega,roomM,hs']at he
  simp [-cB, *,-hT]
  refine pG (refThing_ok t ht _) ?_
  generalize hb:thingB t (upN t i x)=b at *
  cases b with
  | false=>
    simp [-cB,he]
  | true=>
    have hu:=hT rfl
    have hget:=thingAt_elem hu
    simp [-cB, *]
    repeat' (first
     | (with_reducible refine And.intro ?_ ?_)
     | ((first | (refine condC_split (fun h=>?_) (fun h=>?_) <;> (try simp at h)) | refine pC (refRow_ok _) ?_ | refine lC (refRow_ok _) ?_ | refine pG (refRow_ok _) ?_) <;> (try simp [-cB, *]))
     | (with_reducible intro _))
    all_goals (first | assumption | omega | (rw [inR_i64];omega) | (simp_all;done) | grind | skip)
 ·rw [Nat.sub_self]at he
  simp [-cB,he,roomM]
  refine pG (refThing_ok t ht _) ?_
  simp
end Go.Ab

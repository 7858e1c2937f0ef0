/-
  The texts Pt Pu Dn Vpeep Vpeep2 Vpeep3 Vpeep4 Vpeep5 Vasm Vasm2 Lo Vasm3 Vasm4 Vasm5 Vasm6 Vasm7 Vasm8 Gexpr Gwrite Gwexpr Gwlog Gwx Gex Glook Glaw1 Gsfew Gsfew2 Gst Gst2 Gst3 Gst4 Gst5 Gst6 Gst7 Gst8 Gst9 Glaw2, one behind the other.
-/
import Derived.Test.YtmhnopomnpgcjaaGreatDoorMh5
set_option linter.unusedSimpArgs false
set_option linter.unusedVariables false
namespace Go.Ab
section
variable {P : Program} {n : Nat} {Q : AX -> St -> Prop}
def Pm(ov:List Nat)(o:Oper):Bool:=rK o||ov.any (λt=>o.dst==some t)
def tv(P:Program)(ops:Array Oper)(s:St)(o:Oper)(u:V):Option (V×Prop):=if rK o then cv P ops s o u else some (u,sQ P ops o s u)
theorem Po{ops s o u x c}(h:tv P ops s o u=some (x,c))(hc:c):sQ P ops o s x:=by
 unfold tv at h;split at h
 ·exact GP h hc
 grind
def LA(P:Program)(ops:Array Oper)(o:Oper)(s:St)(x:V):Option V->Prop
 | some u=>match tv P ops s o u with
   | some (x',c)=>x'=x/\c
   | none=>False
 | none=>match qv P ops s o with
   | some (x',c)=>x'=x/\c
   | none=>False
theorem LB{ops s o x t}(h:LA P ops o s x t):sQ P ops o s x:=by
 cases t with
 | some u=>
   simp only[LA]at h;split at h
   ·rename_i x' c hc;obtain⟨rfl,h⟩:=h;exact Po hc h
   grind
 | none=>
   simp only[LA]at h;split at h
   ·rename_i x' c hc;obtain⟨rfl,h⟩:=h;exact Bf hc h
   grind
def BE(P:Program)(ops:Array Oper)(ks:List (Option Nat))(Ls:List aI):List K1->Prop
 | []=>True
 | d::ds=>py (d.hi-d.lo) (d.lo+1) (λp=>LA P ops d.o ⟨dk ks p d.fr,Ls.getD p []⟩ d.x d.told)/\BE P ops ks Ls ds
def ajx(P:Program)(ops:Array Oper)(o:Oper)(s:St)(K:V->Option Nat->aI->Prop):Prop:=∃x k L',(∀n,fU P n ops o s.fr s.L k x L')/\K x k L'
def runT(P:Program)(ops:Array Oper)(ov:List Nat):List (Oper×Option (Nat×Nat))->ky->List (Option Nat)->List aI->List V->List K1->(ky->List (Option Nat)->List aI->Prop)->Prop
 | [],fr,ks,Ls,_,ds,K=>BE P ops ks Ls ds/\K fr ks Ls
 | (o,none)::rest,fr,ks,Ls,us,ds,K=>
   match lv P ops ⟨dk ks ks.length fr,Ls.getD ks.length []⟩ o with
   | some (x,k,L',c)=>c/\runT P ops ov rest (gX fr o.dst (ks.length+1) x) (ks++ [k]) (Ls++ [L']) us ds K
   | none=>ajx P ops o ⟨dk ks ks.length fr,Ls.getD ks.length []⟩ λx k L'=>runT P ops ov rest (gX fr o.dst (ks.length+1) x) (ks++ [k]) (Ls++ [L']) us ds K
 | (o,some (lo,hi))::rest,fr,ks,Ls,us,ds,K=>
   if Pm ov o then
    match us with
    | []=>False
    | u::kK=>match tv P ops ⟨dk ks ks.length fr,Ls.getD ks.length []⟩ o u with
      | some (x,c)=>c∧py (ks.length-lo) lo (fun p=>LA P ops o ⟨dk ks p fr,Ls.getD p []⟩ x (some u))∧
        runT P ops ov rest (gX fr o.dst lo x) ks Ls kK (if ks.length<hi then⟨o,fr,x,ks.length,hi,some u⟩::ds else ds) K
      | none=>False
   else
    match qv P ops ⟨dk ks ks.length fr,Ls.getD ks.length []⟩ o with
    | some (x,c)=>c∧py (ks.length-lo) lo (fun p=>LA P ops o ⟨dk ks p fr,Ls.getD p []⟩ x none)∧
      runT P ops ov rest (gX fr o.dst lo x) ks Ls us (if ks.length<hi then⟨o,fr,x,ks.length,hi,none⟩::ds else ds) K
    | none=>False
theorem Kh{ops}{ov}{K}:∀l fr ks Ls us ds,Ls.length=ks.length+1→runT P ops ov l fr ks Ls us ds K→
  ∃tr jD jE lK,pM l fr ks.length tr jD (ks++jE).length/\(∀(i:Nat) r z,tr[i]?=some r->l[i]?=some z->GN P n ops (ks++jE) (λp=>(Ls++lK).getD p []) r z.1)/\
   BE P ops (ks++jE) (Ls++lK) ds/\K jD (ks++jE) (Ls++lK)
 | [],fr,ks,Ls,us,ds,hl,h=>by
   refine⟨[],fr,[],[],?_,by simp,?_,?_⟩
   ·simp only[apk];exact .nil fr ks.length
   ·simpa using h.1
   ·simpa using h.2
 | (o,none)::rest,fr,ks,Ls,us,ds,hl,h=>by
   have key:∀(x:V) (k:Option Nat) (L':aI),fU P n ops o (dk ks ks.length fr) (Ls.getD ks.length []) k x L'→runT P ops ov rest (gX fr o.dst (ks.length+1) x) (ks++ [k]) (Ls++ [L']) us ds K→
     ∃tr jD jE lK,pM ((o,none)::rest) fr ks.length tr jD (ks++jE).length/\(∀(i:Nat) (r:Rec) (z:Oper×Option (Nat×Nat)),tr[i]?=some r->((o,none)::rest)[i]?=some z->GN P n ops (ks++jE) (λp=>(Ls++lK).getD p []) r z.1)/\
      BE P ops (ks++jE) (Ls++lK) ds/\K jD (ks++jE) (Ls++lK):=by
    intro x k L' Oj hr;obtain⟨tr,jD,jE,lK,h1,h2,h3,h4⟩:=Kh rest _ _ _ us ds (by grind) hr;rw[apb]at h1 h3 h4;simp only[apb,aoS,aoU,apd]at h1 h2 h3 h4;refine⟨⟨fr,x,0,0,true,ks.length⟩::tr,jD,_,_,.lF (by grind),?_,h3,h4⟩;intro i r z hi hz;cases i with
    | zero=>
      simp only[ape,anc]at hi hz;subst hi;subst hz;refine⟨λ_=>⟨by simp,?_⟩,(λh=>by cases h)⟩;simp only;rw[uI (aoT _),uJ (by omega)];grind
    | succ i=>grind
   rw[runT]at h;split at h
   ·rename_i x k L' c bQ;exact key x k L' (fU.of (n:=n) bQ h.1) h.2
   ·obtain⟨x,k,L',Oj,hr⟩:=h;grind
 | (o,some (lo,hi))::rest,fr,ks,Ls,us,ds,hl,h=>by
   have key:∀(x:V) (t:Option V) (kK:List V),sQ P ops o ⟨dk ks ks.length fr,Ls.getD ks.length []⟩ x→py (ks.length-lo) lo (fun p=>LA P ops o ⟨dk ks p fr,Ls.getD p []⟩ x t)→
     runT P ops ov rest (gX fr o.dst lo x) ks Ls kK (if ks.length<hi then⟨o,fr,x,ks.length,hi,t⟩::ds else ds) K->
     ∃tr jD jE lK,pM ((o,some (lo,hi))::rest) fr ks.length tr jD (ks++jE).length/\(∀(i:Nat) (r:Rec) (z:Oper×Option (Nat×Nat)),tr[i]?=some r->((o,some (lo,hi))::rest)[i]?=some z->GN P n ops (ks++jE) (λp=>(Ls++lK).getD p []) r z.1)/\
      BE P ops (ks++jE) (Ls++lK) ds/\K jD (ks++jE) (Ls++lK):=by
    intro x t kK hc ha hr;obtain⟨tr,jD,jE,lK,h1,h2,h3,h4⟩:=Kh rest _ _ _ kK _ hl hr;have Xj:BE P ops (ks++jE) (Ls++lK) ds:=by
     split at h3
     ·exact h3.2
     omega
    refine⟨⟨fr,x,lo,hi,false,ks.length⟩::tr,jD,jE,lK,.quiet h1,?_,Xj,h4⟩;intro i r z cn hz;cases i with
    | zero=>
      simp only[ape,anc]at cn hz;subst cn;subst hz;refine⟨(λh=>by cases h),λ_ p ns uk=>?_⟩;simp only at ns uk⊢;rcases Nat.lt_trichotomy p ks.length with aw|heq|hgt
      ·grind[uI,uJ,LB,Av]
      ·grind[uI,uJ]
      ·rw[if_pos (by omega)]at h3;exact LB (Av h3.1 p (by grind) (by grind))
    | succ i=>grind
   cases pK:Pm ov o with
   | true=>
     cases us with
     | nil=>simp_all[runT,if_pos]
     | cons u kK=>
       rw[runT,if_pos pK]at h;split at h
       ·rename_i x c hcv;exact key x (some u) kK (Po hcv h.1) h.2.1 h.2.2
       grind
   | false=>
     rw[runT.eq_def]at h;simp only[pK,aph,if_false]at h;split at h
     ·rename_i x c hqv;exact key x none us (Bf hqv h.1) h.2.1 h.2.2
     grind
theorem av.abI{id}{l}{s} rg ov us(hm:P.follows .mixedOrders=true)(ok:K0 n l rg=true)
  (h:runT P l.toArray ov (l.zip rg) (s.fr.map λe=>(e.1,0,e.2)) [] [s.L] us [] (λfr ks Ls=>Q .normal ⟨dk ks ks.length fr,Ls.getD ks.length []⟩)):av P n (.region id l.toArray true) s Q:=by
 intro fo m a w _ g;obtain⟨tr,jD,ks,Ls,h1,h2,-,h4⟩:=Kh (l.zip rg) _ [] [s.L] us [] rfl h;exact wpIn_region_any hm (Be ok h1 h2 rfl h4 g _)
theorem av.aee{id}{l}{s} rg ov us(hm:P.follows .mixedOrders=true)(ok:K0 n l rg=true)
  (h:runT P l.toArray ov (l.zip rg) (s.fr.map λe=>(e.1,0,e.2)) [] [s.L] us [] (λfr ks Ls=>∀bs,Q .normal (St.vB bs ⟨dk ks ks.length fr,Ls.getD ks.length []⟩))):av P n (.region id l.toArray true) s Q:=
 av.opened (av.abI rg ov us hm ok h)
attribute [simp] runT tv LA BE Pm
end
end Go.Ab
namespace Go.Ab
section
variable {P : Program} {n : Nat}
theorem DZ:∀(l:List Nat) x,x∈l->x<=l.foldr max 0
 | [],_,h=>by cases h
 | y::l,x,h=>by
   rcases ao0.1 h with rfl|h
   ·grind
   ·have:=DZ l x h;grind
theorem LC{ops}{o}{s}{ys}{ty}{k}(hg:o.guard=none)
  (h:∀fo m (ρ:Operand->Value) w,Inv fo m s.L w->(∀z,z∈o.op.operands->aB w (OO fo m) m (ρ z) (s.ev z))->
   ∃v w',(execOp ρ o).run P w= .ok (.value v) w'/\hY w w'/\(eW w' (OO fo m) v (.sl ys)\/
    ((∀b,dn v b->w.heap.size<=b)/\∀h,h∉keys s.L->(aV.row ty k (dd ys)).Holds w' (OO fo (eY m h v)) (eY m h v) v))):sQ P ops o s (.d (.sl ys)):=by
 intro fo m a w hi hs next Q' kk
 rw[if_pos (by simp[Region.wanted,hg])];obtain⟨v,w',bw,gr,R8⟩:=h fo m a.eval w hi (λz hz=>vO hi.ef (λt ht=>hs t (kD (by grind))));refine wW bw (.inl rfl) (kk v w' ?_ (hi.grown gr.size gr.block) ⟨gr.os,gr.tape,gr.output,gr.size,λb hb _=>gr.block b hb,λb _ h=>h⟩);rcases R8 with hd|⟨hb,hh⟩
 ·exact .d _ _ hd
 ·have hn:(keys s.L).foldr max 0+1∉keys s.L:=λhm=>by have:=DZ _ _ hm;omega
  have cn:=hi.new hn gr.size gr.block hb (hh _ hn);refine .d _ _ (K3 (ty:=ty) (k:=k) cn (by simp) (cr _ _) (λb ho=>?_) (λb hv ho=>?_))
  ·rcases ho with⟨i,x,hx,gT⟩|hf
   ·exact .inl ⟨i,x,sf hi hn v i x hx,gT⟩
   ·exact .inr hf
  ·have h1:=hb b hv;rcases ho with⟨i,x,hx,gT⟩|hf
   ·have:=hi.lt hx gT;omega
   ·have:=hi.ej b hf;omega
theorem F7{ops:Array Oper}{dst:Option Tmp}{t t2:TypeId}{so xo:Operand}{ty:TypeId}{pos:String}{after:Array Edge}{k by_:Nat}{e:TypeId}{z:List Value}{s:St}{ys:List (List D)}
  (ht:kU P t=some (e,k,by_,z)) (vt:rZ P t2=true) (hs:s.ev so= .kn (λv=>∃ao,v= .slice ao 0 0)) (hx:Gx s.L (s.ev xo)=some (dd ys)) (hk:0<k/\0<by_) (vu:∀y∈ys,y.length=k)
  (hb:ys.length *by_<=140737488355328):
  sQ P ops ⟨dst,.call {callee:= .builtin .append,args:= #[so,xo],argTypes:= #[t,t2]},ty,pos,after,none⟩ s (.d (.sl ys)):=by
 refine LC (ty:=e) (k:=k) rfl ?_;intro fo m ρ w hi hr;obtain⟨i,zv,hu,Tg,hz,kV,vq,nT,wc,kB⟩:=nS ht;obtain⟨d2,nG,nr⟩:=AV vt;have p7:=hr so (by simp[Op.operands,Call.operands]);rw[hs]at p7;obtain⟨ao,xC⟩:∃ao,ρ so= .slice ao 0 0:=X9 p7;have we:=hr xo (by simp[Op.operands,Call.operands]);have afS:∀y∈dd ys,y.length=k:=by
  intro y hy;obtain⟨q,hq,rfl⟩:=aoQ.1 hy;rw[ao8];exact vu q hq
 obtain⟨news,src,Fw⟩:=AU (P:=P) hi we hx hk.1 afS;have hlen:(dd ys).length=ys.length:=by simp[dd]
 have HJ:(dd ys).length<=maxLen:=by rw[hlen];exact CJ hk.2 hb
 have jv:∀{v':Value} {w':World},(Builtin.append_ #[t,t2] ty #[ρ so,ρ xo]).run P w= .ok v' w'→
   (execOp ρ ⟨dst,.call {callee:= .builtin .append,args:= #[so,xo],argTypes:= #[t,t2]},ty,pos,after,none⟩).run P w= .ok (.value v') w':=by
  intro v' w' hr;simp[execOp,resolve,invoke,builtin,hr]
 by_cases rf:dd ys=[]
 ·rw[rf]at src;have CL:news=[]:=apI (by simpa using src.len);subst CL;have bw:(Builtin.append_ #[t,t2] ty #[ρ so,ρ xo]).run P w= .ok (.slice ao 0 0) w:=by
   obtain⟨q1,q2⟩:=src.run w rfl;simp only[apd]at q1 q2;rw[xC];rcases nr with⟨e2,rfl⟩|rfl<;>cases ao<;>simp[Builtin.append_,run_underlying hu,run_underlying nG,sizeOf,typeInfo,Tg,kV,q1,q2,storeCells]
  have hy:ys=[]:=by simpa[dd]using rf
  subst hy;exact⟨_,w,jv bw,hY.refl w,.inl (.sl ao 0 0 [] 0 0 0 (λ_ _=>undef) rfl (by omega) (by simp[maxLen]) (by omega) (by simp) (by omega) (by simp))⟩
 ·have iZ:=apB.2 rf;have bw:=sg (P:=P) (ty:=ty) (ao:=ao) (sLen:=0) (sCap:=0) (olds:=[]) hu nG nr Tg kV hz src Src.empty (by omega) (by simp only[maxLen]at HJ;omega) (by rw[vq];exact growslice_fits (by omega) (by rw[hlen];simpa using hb));have bm:=grownCap_ge w (0+(dd ys).length) 0 e;have vr:=grownCap_le_maxLen w (0+(dd ys).length) 0 e (by omega);have yN:∀b,dn (.slice (some ⟨w.heap.size,0,none⟩) (0+(dd ys).length) (grownCap w (0+(dd ys).length) 0 e)) b->w.heap.size<=b:=by
   intro b hb;simp[dn,jJ]at hb;omega
  have rF:hY w (w.drew.alloc (.cells (#[]++news.toArray++Builtin.zeroCells zv.cells (grownCap w (0+(dd ys).length) 0 e-(0+(dd ys).length))) e)):=by
   have:=hY.alloc w.drew (.cells (#[]++news.toArray++Builtin.zeroCells zv.cells (grownCap w (0+(dd ys).length) 0 e-(0+(dd ys).length))) e);exact⟨this.os,this.tape,this.output,this.size,this.block⟩
  rw [←xC]at bw;refine⟨_,_,jv bw,rF,.inr ⟨yN,fun h hn=>?_⟩⟩;have:=zM (w:=w) (O:=OO fo m) (m:=m) (e:=e) (k:=k) (zv:=zv) (z:=z) (olds:=[]) (news:=news) (xs:=[]) (ys:=dd ys) (cap:=grownCap w (0+(dd ys).length) 0 e) nT wc kB hk.1 (by simp) src.len (by simp) src.one (by simp) afS
    (by simp) Fw (by simpa using bm) vr (w0:=w) (fr:=w.drew.alloc (.cells (#[]++news.toArray++Builtin.zeroCells zv.cells (grownCap w (0+(dd ys).length) 0 e-(0+(dd ys).length))) e))
    (heap_alloc_new w.drew (.cells (#[]++news.toArray++Builtin.zeroCells zv.cells (grownCap w (0+(dd ys).length) 0 e-(0+(dd ys).length))) e))
    (O':=OO fo (eY m h (.slice (some ⟨w.heap.size,0,none⟩) (0+(dd ys).length) (grownCap w (0+(dd ys).length) 0 e)))) (m':=eY m h (.slice (some ⟨w.heap.size,0,none⟩) (0+(dd ys).length) (grownCap w (0+(dd ys).length) 0 e)))
    (λu c hu=>aB.mono (w:=w) (O:=OO fo m) ⟨rF.size,λb hb _=>rF.block b hb⟩ (CD hi yN) (sf hi hn _) hu)
  simpa using this
theorem VJ{ops}{dst}{t}{ty}{pos}{after}{k by_}{e}{z}{s}(ht:kU P t=some (e,k,by_,z)):
  sQ P ops ⟨dst,.buildSlice t 0 #[],ty,pos,after,none⟩ s (.kn (λv=>∃ao,v= .slice ao 0 0)):=by
 intro fo m a w hi hs next Q' kk
 obtain⟨i,zv,hu,Tg,hz,kV,vq,nT,wc,kB⟩:=nS ht;have gr:=hY.alloc w (.cells #[] e);have bw:(execOp a.eval ⟨dst,.buildSlice t 0 #[],ty,pos,after,none⟩).run P w= .ok (.value (.slice (some ⟨w.heap.size,0,none⟩) 0 0)) (w.alloc (.cells #[] e)):=by
  have Is:Instr.fill (λi=>some (i *k,k)) #[] []=some #[]:=rfl;simp[execOp,Instr.buildSlice,run_underlying hu,sizeOf,typeInfo,Tg,kV,newRow,Is,Array.range_zero']
 exact wW bw (.inl rfl) (kk _ _ (.kn _ _ ⟨_,rfl⟩) (hi.grown gr.size gr.block) ⟨gr.os,gr.tape,gr.output,gr.size,λb hb _=>gr.block b hb,λb _ h=>h⟩)
theorem abJ{ops}{dst}{t}{lo co}{ty}{pos}{after}{k by_}{e}{z}{kl kc}{l c}{s:St}
  (ht:kU P t=some (e,k,by_,z)) (hl:s.ev lo= .d (.v (.int kl l))) (hc:s.ev co= .d (.v (.int kc c))) (hk:0<k)
  (h0:0<=l/\l<=c) (hb:c<=maxLen/\by_ *c.toNat<=140737488355328):
  sQ P ops ⟨dst,.makeSlice t lo co,ty,pos,after,none⟩ s (.d (.sl (List.replicate l.toNat (z.map D.v)))):=by
 refine LC (ty:=e) (k:=k) rfl ?_;intro fo m ρ w hi hr;obtain⟨i,zv,hu,Tg,hz,kV,vq,nT,wc,kB⟩:=nS ht;have sL:=hr lo (by simp);have Xc:=hr co (by simp);rw[hl]at sL;rw[hc]at Xc;have vr:c.toNat<=maxLen:=by omega
 have dm:(i.bytes:Int) *c<=281474976710656:=by
  grind
 have bw:=run_make (P:=P) w t e i zv hu Tg hz kl kc l c h0.1 h0.2 dm (by simp_all[maxLen]);rw[kV]at bw;have hx:∀b,dn (.slice (some ⟨w.heap.size,0,none⟩) l.toNat c.toNat) b->w.heap.size<=b:=by simp[dn,jJ]
 refine⟨_,_,?_,hY.alloc w (.cells (madeCells zv.cells (c.toNat *k)) e),.inr ⟨hx,λh hn=>?_⟩⟩
 ·simp[execOp,sL.cy,Xc.cy,bw]
 ·have vA:dd (List.replicate l.toNat (z.map D.v))=List.replicate l.toNat (z.map λx=>V.d (.v x)):=by simp[dd]
  rw[vA];refine .inr ⟨w.heap.size,0,c.toNat,madeCells zv.cells (c.toNat *k),by simp,heap_alloc_new w _,by grind,vr,by simp[madeCells],?_,?_,?_⟩
  ·grind
  ·intro j u Af;have hj:j<c.toNat *k:=by grind[Array.getElem?_eq_some_iff,madeCells]
   rw[oK wc hk hj]at Af;grind
  ·intro p q x y u cG hy Af;have hp:=(aoL.1 cG).1;simp at hp;have:=aoO cG;rw[List.mem_replicate]at this;obtain⟨_,rfl⟩:=this;have hq:q<k:=by grind
   have hpc:(p+1) *k<=c.toNat *k:=ao4 _ (by omega);rw[apS,aqb]at hpc;rw[apz,oK wc hk (by omega),Nat.mul_comm p k,Nat.mul_add_mod,aqu hq]at Af;grind[uy]
end
def D.deep:Nat->D->D
 | 0,x=>x.nn
 | k+1,.sl ys=> .sl (ys.map (·.map (D.deep k)))
 | _+1,x=>x.nn
theorem eW.deep{w:World}{O:Nat->Prop}:∀(k:Nat) {x:Value} {y:D},eW w O x y->eW w O x (y.deep k)
 | 0,x,y,h=>h.nn
 | k+1,x,.v z,h=>by rw[D.deep];exact h.nn;simp
 | k+1,x,.uj t a cs,h=>by rw[D.deep];exact h.nn;simp
 | k+1,x,.sl ys,h=>by
   rw[D.deep];cases h with
   | sl a n cap xs k' b off f hn lA pq ha hk hc hr=>
     refine .sl a n cap _ k' b off f (by simpa using hn) lA pq ha ?_ hc ?_
     ·intro i x hx;rw[aoN]at hx;obtain⟨z,hz,rfl⟩:=aoJ.1 hx;rw[ao8];exact hk i z hz
     ·intro i j x y hx hy;rw[aoN]at hx;obtain⟨z,hz,rfl⟩:=aoJ.1 hx;rw[aoN]at hy;obtain⟨u,hu,rfl⟩:=aoJ.1 hy;exact(hr i j z u hz hu).deep k
def V.BF(k:Nat):V->V
 | .d y=> .d (y.deep k)
 | v=>v
def V.deep(k:Nat):V->V
 | .d y=> .d (y.deep k)
 | .agg cs=> .agg (cs.map (V.BF k))
 | v=>v
theorem aB.BF{w:World}{O:Nat->Prop}{m:Nat->Option Value}(k:Nat){x:Value}{y:V}(h:aB w O m x y):aB w O m x (y.BF k):=by
 unfold V.BF;split
 ·exact .d _ _ (h.kR.deep k)
 ·exact h
theorem aB.deep{w:World}{O:Nat->Prop}{m:Nat->Option Value}(k:Nat){x:Value}{y:V}(h:aB w O m x y):aB w O m x (y.deep k):=by
 unfold V.deep;split
 ·exact .d _ _ (h.kR.deep k)
 ·cases h with
  | agg vs cs hs h1 h=>
    refine .agg vs _ (by simpa using hs) h1 ?_;intro j x y hx hy;rw[aoN]at hy;obtain⟨z,hz,rfl⟩:=aoJ.1 hy;exact(h j x z hx hz).BF k
 ·exact h
theorem aE.deep(k:Nat){P:Program}{f:FuncId}{args lR:List V}{L:aI}{R:AE->aI->Prop}(h:aE P f lR L R)(ha:args.map (V.deep k)=lR):aE P f args L R:=by
 intro fo m w xs hi hx;refine h fo m w xs hi ⟨by rw[hx.1,<-ha,ao8],?_⟩;intro j x y h1 h2;rw[<-ha,aoN]at h2;obtain⟨z,hz,rfl⟩:=aoJ.1 h2;exact(hx.2 j x z h1 hz).deep k
theorem Pure.deep(k:Nat){P:Program}{f:FuncId}{args lR:List V}{x:V}(h:Pure P f lR x)(ha:args.map (V.deep k)=lR)(ho:V.dE [] args=true):Pure P f args x:=
 ⟨h.en,ho,h.rn,h.calls.deep k ha⟩
def aV.deep(k:Nat):aV->aV
 | .box b t cs=> .box b t (cs.map (V.BF k))
 | r=>r
def St.deep(k:Nat)(s:St):St:=⟨s.fr.map λp=>(p.1,p.2.deep k),s.L.map λp=>(p.1,p.2.deep k)⟩
theorem Wk.deep(k:Nat){n:Nat}{s s':St}(h:s.deep k=s'):Wk n s s':=by
 subst h;intro fo m a w g;have hi:=g.inv;have hk:keys (St.deep k s).L=keys s.L:=by simp[keys,St.deep,aq7]
 refine⟨m,⟨g.size,?_,⟨by rw[hk];exact hi.nodup,λh x hx=>by rw[hk];exact hi.fI h x hx,hi.apart,hi.others,hi.ej,?_,hi.ef⟩,g.defers⟩,Step.refl w _⟩
 ·intro t x hx;obtain⟨p,hp,he⟩:=aoQ.1 hx;simp only[aoI]at he;obtain⟨rfl,rfl⟩:=he;obtain⟨h1,h2⟩:=g.fr p.1 p.2 hp;exact⟨h1,h2.deep k⟩
 ·intro h r hr;obtain⟨p,hp,he⟩:=aoQ.1 hr;simp only[aoI]at he;obtain⟨rfl,rfl⟩:=he;obtain⟨x,hx,hh⟩:=hi.holds p.1 p.2 hp;refine⟨x,hx,?_⟩;generalize p.2=q at hh;cases q with
  | row ty k xs=>exact hh
  | env A=>exact hh
  | mp es=>exact hh
  | box b ty cs=>
    obtain⟨bb,h0,cur,e,hb,hs,h1,h2⟩:=hh;refine⟨bb,h0,cur,e,hb,by simpa using hs,?_,?_⟩
    ·exact h1
    ·intro j v z hv hz;rw[aoN]at hz;obtain⟨y,hy,rfl⟩:=aoJ.1 hz;exact(h2 j v y hv hy).BF k
open Go.Proofs Go.Proofs.Tryz
abbrev dA(l:List ai):V:= .d (.sl (l.map ai.enc))
def Pp(l:List ai)(k:Int):Int:=if k<0\/(l.length:Int)<=k then 0 else(l[k.toNat]?.getD ai.zero).Op
theorem AG(l:List ai)(hl:l.length<=1000000000000)(k:Int):Pure prog 268 [dA l,iD k] (iD (Pp l k)):=by
 unfold Pp;refine rn func268 ?_;simp[-cB,f268]
 repeat' (first
  | (with_reducible refine And.intro ?_ ?_)
  | (refine ax (λh=>?_) (λh=>?_)<;>(try simp at h)<;>(try simp[-cB, *]))
  | (with_reducible intro _))
 all_goals (try omega)
theorem qx(l:List ai)(hl:l.length<=1000000000000)(k n:Nat)(hk:k+n<=l.length)(x:List ai)(hx:x.length<=1000000000000):Pure prog 270 [dA l,iD k,iD n,dA x] (dA (iN l k n x)):=by
 unfold iN;refine rn func270 ?_;simp[-cB,f270];have e:((k:Int)+n).toNat=k+n:=by omega
 rw[e,aS];refine⟨by omega,⟨λy hy=>?_,by omega⟩,by omega,by omega,by omega,⟨λy hy=>?_,by omega⟩,?_⟩
 ·obtain⟨z,_,rfl⟩:=aoQ.1 (apO hy);rfl
 ·obtain⟨z,_,rfl⟩:=aoQ.1 (apO (List.mem_of_mem_drop hy));rfl
 ·rw[List.take_of_length_le (by simp)]
theorem sY(n:Int):Pure prog 289 [iD n] (dA (lS n)):=by
 unfold lS;refine rn func289 ?_;simp[-cB,f289]
 repeat' (first
  | (with_reducible refine And.intro ?_ ?_)
  | ((first|(refine ax (λh=>?_) (λh=>?_)<;>(try simp at h))|refine pC (aP _) ?_|refine lC (aP _) ?_|refine pG (aP _) ?_)<;>(try simp[-cB, *]))
  | (with_reducible intro _))
 rfl
theorem Ki(l:List ai)(k j:Nat):Pp l ((k:Int)+j)=fY (l.drop k) j:=by
 unfold Pp fY;rw[apN];by_cases h:k+j<l.length
 ·rw[if_neg (by omega),show((k:Int)+j).toNat=k+j by omega,akC h];rfl
 ·rw[if_pos (by omega),apC (by omega)];rfl
theorem Fe(l:List ai)(k:Nat):Pp l k=fY (l.drop k) 0:=by have:=Ki l k 0;simpa using this
theorem ac4(l:List ai)(k:Nat):Pp l ((k:Int)+1)=fY (l.drop k) 1:=Ki l k 1
theorem ac5(l:List ai)(k:Nat):Pp l ((k:Int)+2)=fY (l.drop k) 2:=Ki l k 2
theorem vJ{l:List ai}{k j:Nat}(h:fY (l.drop k) j≠0):k+j<l.length:=by
 unfold fY at h;rw[apN]at h;by_cases h2:k+j<l.length
 ·exact h2
 ·rw[apC (by omega)]at h;exact(h rfl).elim
theorem ji(l:List ai)(k j:Nat):(l[k+j]?.getD ai.zero).Arg=cg (l.drop k) j:=by
 unfold cg;rw[apN];cases l[k+j]?<;>rfl
def eG(l:List ai)(o:Option (List ai)):V:= .bA [dA (o.getD l),oD o.isSome]
def ve(l:List ai)(k:Nat):Option (List ai):=(oF (l.drop k)).map λy=>iN l k y.1 y.2
set_option maxHeartbeats 2000000 in
theorem MA(l:List ai)(hl:l.length<=100000000000)(k:Nat)(hk:k<=l.length):Pure prog 265 [dA l,iD k] (eG l (ve l k)):=by
 have dS:=λn=>AG l (by omega) n
 have e0:=Fe l k;have e1:=ac4 l k;have e2:=ac5 l k;have a0:=ji l k 0;have a1:=ji l k 1;have a2:=ji l k 2;have l0:=vJ (l:=l) (k:=k) (j:=0);have l1:=vJ (l:=l) (k:=k) (j:=1);have l2:=vJ (l:=l) (k:=k) (j:=2);have hb:=(Lu aj.zero (cg (l.drop k) 2) (cg (l.drop k) 0) (cg (l.drop k) 1)).deep 0 (args:=[.agg [.d (.v (.slice none 0 0)),.d (.v (.slice none 0 0)),.d (.v (.slice none 0 0)),.d (.v (.slice none 0 0)),.d (.v (.slice none 0 0)),.d (.v (.slice none 0 0)),.d (.v (.slice none 0 0)),.d (.v (.int .u64 0)),iD 0,iD 0,iD 0,iD 0,iD 0],iD (cg (l.drop k) 2),iD (cg (l.drop k) 0),iD (cg (l.drop k) 1)]) (by rfl) (by rfl);have b0:∀h:k<l.length,(l[k]'h).Arg=cg (l.drop k) 0:=λh=>by rw[<-ji l k 0];simp[h]
 have b1:∀h:k+1<l.length,(l[k+1]'h).Arg=cg (l.drop k) 1:=λh=>by rw[<-ji l k 1];simp[h]
 have b2:∀h:k+2<l.length,(l[k+2]'h).Arg=cg (l.drop k) 2:=λh=>by rw[<-ji l k 2];simp[h]
 obtain⟨R,hR⟩:∃R,eG l (ve l k)=R:=⟨_,rfl⟩
 have vV:V.on [] R=true:=by rw[<-hR];rfl
 rw[hR];obtain⟨p,hp⟩:∃p,jd aj.zero (cg (l.drop k) 2) (cg (l.drop k) 0) (cg (l.drop k) 1)=p:=⟨_,rfl⟩
 rw[hp]at hb;unfold eM at hb;simp only[apQ]at a0 l0;have c1:((k:Int)+1).toNat=k+1:=by omega
 have c2:((k:Int)+2).toNat=k+2:=by omega
 have i1:aN .i64 ((k:Int)+1):=iW;have i2:aN .i64 ((k:Int)+2):=iW;have W2:∀x:List ai,x.length<=1000->k+3<=l.length->Pure prog 270 [dA l,iD k,iD 3,dA x] (dA (iN l k 3 x)):=λx hx h=>qx l (by omega) k 3 h x (by omega)
 have rB:∀x:List ai,x.length<=1000->k+2<=l.length->Pure prog 270 [dA l,iD k,iD 2,dA x] (dA (iN l k 2 x)):=λx hx h=>qx l (by omega) k 2 h x (by omega)
 refine Pure.run func265 rfl (by simp[f265,vV]) ?_;simp[-cB,f265,vV]
 repeat' (first
  | (with_reducible refine And.intro ?_ ?_)
  | ((first|(refine ax (λh=>?_) (λh=>?_)<;>(try simp at h))|refine pC (dS _) ?_|refine pC (sY _) ?_|refine pC (qm _) ?_|refine pC (qq _) ?_|refine pC (rB _ ?_ ?_) ?_|refine lC (dS _) ?_|refine lC (sY _) ?_|refine lC (qm _) ?_|refine lC (qq _) ?_|refine lC (rB _ ?_ ?_) ?_|refine pG (dS _) ?_|refine pG (sY _) ?_|refine pG (qm _) ?_|refine pG (qq _) ?_|refine pGh (λh=>rB _ ?_ ?_) ?_)<;>(try simp[-cB, *]))
  | (with_reducible intro _))
 all_goals first
  | omega
  | (simp[lS];done)
  | (rw[aS];unfold ez;split<;>omega)
  | (rw[<-hR];simp[eG,ve,oF,notM, *];done)
  | (rw[<-hR];simp_all[eG,ve,oF,notM];done)
  | (have hx:oF (l.drop k)=none:=by(unfold oF;grind)
     rw[<-hR];simp[eG,ve,hx];done)
  | skip
 refine av.bT [.bA [iD p.1,iD p.2]] aT (by kernel_rfl) (by rfl) ?_;simp[-cB,hb.ok, *]
 repeat' (first
  | (with_reducible refine And.intro ?_ ?_)
  | ((first|(refine ax (λh=>?_) (λh=>?_)<;>(try simp at h))|refine pC (sY _) ?_|refine pC (W2 _ ?_ ?_) ?_|refine pC (dS _) ?_|refine pC (qm _) ?_|refine pC (qq _) ?_|refine pC (rB _ ?_ ?_) ?_|refine lC (sY _) ?_|refine lC (W2 _ ?_ ?_) ?_|refine lC (dS _) ?_|refine lC (qm _) ?_|refine lC (qq _) ?_|refine lC (rB _ ?_ ?_) ?_|refine pG (sY _) ?_|refine pGh (λh=>W2 _ ?_ ?_) ?_|refine pG (dS _) ?_|refine pG (qm _) ?_|refine pG (qq _) ?_|refine pGh (λh=>rB _ ?_ ?_) ?_)<;>(try simp[-cB, *]))
  | (with_reducible intro _))
 all_goals first
  | omega
  | (simp[lS];done)
  | (rw[aS];unfold ez;split<;>omega)
  | (rw[<-hR];simp[eG,ve,oF,notM, *];done)
  | (rw[<-hR];simp_all[eG,ve,oF,notM];done)
  | skip
theorem vW{α:Type}{p:α->Bool}:∀(r:List α) (i:Nat),(∀x∈r.take i,p x=true)->(∀x,r[i]?=some x->p x=false)->i<=r.length->(r.takeWhile p).length=i
 | [],i,_,_,h=>by simp at h;simp[h]
 | x::r,0,_,h,_=>by
   have:=h x rfl;rw[aqQ,if_neg (by simp[this])];rfl
 | x::r,i+1,h1,h2,h3=>by
   rw[aqQ,if_pos (h1 x (by simp))];simp only[aoU];rw[vW r i (λy hy=>h1 y (by simp[hy])) (λy hy=>h2 y (by simpa using hy)) (by simpa using h3)]
def tW(l:List ai)(n:Int):Int:=match l.findIdx? (λi=>decide (i.Op=38)&&decide (i.Arg=n))with
 | some k=>k
 | none=> -1
theorem sa{α:Type}{l:List α}{i:Nat}{x y:α}(h:l[i]?=some x)(hy:y∈l.take (i+1)):y∈l.take i\/y=x:=by
 rw[api]at hy;rcases ao1.1 hy with h1|h1
 ·exact Or.inl h1
 ·rw[h]at h1;simp at h1;exact Or.inr h1
theorem IN(l:List ai)(hl:l.length<=100000000000)(n:Int):Pure prog 291 [dA l,iD n] (iD (tW l n)):=by
 refine rn func291 ?_;simp[-cB,f291];refine av.cI [0,1,5] l.length (λi=> [(5,iD i)]) (λ_=> []) (λi=>∀y∈l.take i,(decide (y.Op=38)&&decide (y.Arg=n))=false) (by rfl) (by simp) ?_;intro i hi hH;rcases aoR hi with aw|heq
 ·have hx:l[i]?=some l[i]:=akC aw;have bU:aN .i64 ((i:Int)+1):=iW;by_cases hp:(decide (l[i].Op=38)&&decide (l[i].Arg=n))=true
  ·have hv:tW l n=i:=by
    unfold tW;have:l.findIdx? (λi=>decide (i.Op=38)&&decide (i.Arg=n))=some i:=by
     rw[aqt];refine⟨aw,hp,λj hj=>?_⟩;have H3:j<l.length:=by omega
     have:=hH l[j] (aqr.2 ⟨j,by omega,rfl⟩);simpa using this
    rw[this]
   rw[aoM,decide_eq_true_eq,decide_eq_true_eq]at hp;simp[aw,hp.1,hp.2,hv]
  ·have hn:∀y∈l.take (i+1),(decide (y.Op=38)&&decide (y.Arg=n))=false:=by
    intro y hy;rcases sa hx hy with h|rfl
    ·exact hH y h
    ·simpa using hp
   simp[-cB,aw,bU];refine ax (λh=>?_) (λh=>?_)
   ·exact(hp h).elim
   ·simp[-cB,bU,aw];exact λy hy=>by simpa using hn y hy
 ·have hv:tW l n= -1:=by
   unfold tW;have:l.findIdx? (λi=>decide (i.Op=38)&&decide (i.Arg=n))=none:=by
    rw[List.findIdx?_eq_none_iff];intro y hy;exact hH y (by rw[heq,apl];exact hy)
   rw[this]
  simp[heq,hv]
theorem vf(l:List ai)(hl:l.length<=100000000000)(k:Nat)(hk:k<=l.length):Pure prog 290 [dA l,iD k] (iD ((k+((l.drop k).takeWhile cR).length:Nat):Int)):=by
 refine rn func290 ?_;simp[-cB,f290];refine av.cI [0,1] (l.length-k) (λi=> [(1,iD ((k+i:Nat):Int))]) (λ_=> []) (λi=>∀y∈(l.drop k).take i,cR y=true) (by rfl) (by simp) ?_;intro i hi hH;have bU:aN .i64 ((k:Int)+i+1):=iW;have ht:((k:Int)+i).toNat=k+i:=by omega
 by_cases aw:k+i<l.length
 ·have dj:(k:Int)+i<l.length:=by omega
  have hx:(l.drop k)[i]?=some l[k+i]:=by rw[apN,akC aw]
  have jB:l[k+i]?.getD ai.zero=l[k+i]:=by rw[akC aw];rfl
  have h0:0<=(k:Int)+i:=by omega
  by_cases hp:l[k+i].Op=38
  ·have hn:∀y∈(l.drop k).take (i+1),cR y=true:=by
    intro y hy;rcases sa hx hy with h|rfl
    ·exact hH y h
    ·simp[cR,hp]
   simp[dj,ht,hp,bU,h0,aw];exact⟨by omega,by omega,hn⟩
  ·have hv:((l.drop k).takeWhile cR).length=i:=vW _ i hH (λx cG=>by rw[hx]at cG;cases cG;simp[cR,hp]) (by simp;omega);simp[dj,ht,hp,h0,aw,hv]
 ·have dj:¬(k:Int)+i<l.length:=by omega
  have hv:((l.drop k).takeWhile cR).length=i:=vW _ i hH (λx cG=>by rw[apN,apC (by omega)]at cG;cases cG) (by simp;omega);simp[dj,hv]
theorem IP(l:List ai)(hl:l.length<=100000000000)(n:Int):Pure prog 269 [dA l,iD n] (oD (mN l n)):=by
 refine rn func269 ?_;simp[-cB,f269];refine av.cI [0,1,5] l.length (λi=> [(5,iD i)]) (λ_=> []) (λi=>mN (l.take i) n=false) (by rfl) (by simp[mN]) ?_;intro i hi hH;rcases aoR hi with aw|heq
 ·have hx:l[i]?=some l[i]:=akC aw;have bU:aN .i64 ((i:Int)+1):=iW;by_cases hp:(l[i].Op=24\/l[i].Op=25)/\l[i].Arg=n
  ·have hv:mN l n=true:=by
    unfold mN;refine aqg.2 ⟨l[i],aoV aw,?_⟩;simp[hp.1,hp.2]
   rcases hp.1 with h|h
   ·simp[aw,h,hp.2,hv]
   ·simp[aw,h,hp.2,hv]
  ·have hn:mN (l.take (i+1)) n=false:=by
    unfold mN at hH⊢;rw[api,hx,ap4,hH];simp only[Option.toList,List.any_cons,List.any_nil,Bool.or_false,Bool.false_or,ap9,Bool.or_eq_false_iff,decide_eq_false_iff_not];by_cases h:l[i].Op=24\/l[i].Op=25
    ·exact Or.inr λh2=>hp ⟨h,h2⟩
    ·exact Or.inl (by omega)
   simp[-cB,aw,bU];refine ax (λh=>?_) (λh=>?_)
   ·exact(hp (by simpa using h)).elim
   ·simp[-cB,bU,aw];exact hn
 ·have hv:mN l n=false:=by rw[heq,apl]at hH;exact hH
  simp[heq,hv]
def tX(l:List ai)(k:Nat):Option (List ai):=(mM (l.drop k)).map λy=>iN l k y.1 y.2
set_option maxHeartbeats 2000000 in
theorem VK(l:List ai)(hl:l.length<=100000000000)(k:Nat)(hk:k<=l.length):Pure prog 266 [dA l,iD k] (eG l (tX l k)):=by
 have dS:=λn=>AG l (by omega) n
 have e0:=Fe l k;have e1:=ac4 l k;have e2:=ac5 l k;have l0:=vJ (l:=l) (k:=k) (j:=0);have l1:=vJ (l:=l) (k:=k) (j:=1);have l2:=vJ (l:=l) (k:=k) (j:=2);have b0:∀h:k<l.length,(l[k]'h).Arg=cg (l.drop k) 0:=λh=>by have:=ji l k 0;rw[<-this];simp[h]
 have b1:∀h:k+1<l.length,(l[k+1]'h).Arg=cg (l.drop k) 1:=λh=>by rw[<-ji l k 1];simp[h]
 obtain⟨R,hR⟩:∃R,eG l (tX l k)=R:=⟨_,rfl⟩
 have vV:V.on [] R=true:=by rw[<-hR];rfl
 rw[hR];simp only[apQ]at l0;have c1:((k:Int)+1).toNat=k+1:=by omega
 have i1:aN .i64 ((k:Int)+1):=iW;have i2:aN .i64 ((k:Int)+2):=iW;have rB:∀x:List ai,x.length<=1000->k+2<=l.length->Pure prog 270 [dA l,iD k,iD 2,dA x] (dA (iN l k 2 x)):=λx hx h=>qx l (by omega) k 2 h x (by omega)
 have D0:k+2<=l.length->Pure prog 270 [dA l,iD k,iD 2,.d (.v (.slice none 0 0))] (dA (iN l k 2 [])):=λh=>(rB [] (by simp) h).deep 0 (by rfl) (by rfl)
 refine Pure.run func266 rfl (by simp[f266,vV]) ?_;simp[-cB,f266,vV]
 repeat' (first
  | (with_reducible refine And.intro ?_ ?_)
  | ((first|(refine ax (λh=>?_) (λh=>?_)<;>(try simp at h))|refine pC (dS _) ?_|refine pC (aP _) ?_|refine pC (D0 ?_) ?_|refine lC (dS _) ?_|refine lC (aP _) ?_|refine lC (D0 ?_) ?_|refine pG (dS _) ?_|refine pG (aP _) ?_|refine pGh (λh=>D0 ?_) ?_)<;>(try simp[-cB, *]))
  | (with_reducible intro _))
 all_goals first
  | omega
  | (rw[<-hR];simp[eG,tX,mM, *];done)
  | (rw[<-hR];simp_all[eG,tX,mM];done)
  | (have hx:mM (l.drop k)=none:=by(unfold mM;grind)
     rw[<-hR];simp[eG,tX,hx];done)
  | skip
 refine au.weaken (Wk.freeze 54 (ys:=[(⟨24,cg (l.drop k) 1⟩:ai)].map ai.enc) rfl) ?_;have rC:k+2<=l.length:=by
  have:=l1 (by omega);omega
 simp[-cB];refine au.bB rfl (rB [⟨24,cg (l.drop k) 1⟩] (by simp) rC) rfl rfl (by simp) rfl ?_;simp[-cB];rw[<-hR];simp[eG,tX,mM, *]
def vg(l r:List ai):Option (Nat×Nat×List ai):=
 if kM (fY r 0)/\0<oG r.tail then some (1,oG r.tail,[])
 else if fY r 0=24\/fY r 0=25 then
  (if fY r 0=24/\(r.tail.takeWhile cR).any (λi=>decide (i.Arg=cg r 0))=true then some (0,1,[])
   else(vU l r).map λx=>(0,1,x))
 else none
def sb(l:List ai)(k:Nat):Option (List ai):=(vg l (l.drop k)).map λy=>iN l (k+y.1) y.2.1 y.2.2
theorem VL{l n}:(tW l n= -1/\after l n=none)\/(∃p:Nat,p<l.length/\tW l n=p/\after l n=some (l.drop (p+1))/\cR (l[p]?.getD ai.zero)=true):=by
 induction l with
 | nil=>exact Or.inl ⟨rfl,rfl⟩
 | cons i l ih=>
   unfold tW after;rw[List.findIdx?_cons];by_cases h:i.Op=38/\i.Arg=n
   ·rw[if_pos (by simp[h]),if_pos h];exact Or.inr ⟨0,by simp,rfl,rfl,by grind[cR]⟩
   ·grind[tW,decide]
theorem AH{α:Type} p(l:List α):l.dropWhile p=l.drop (l.takeWhile p).length:=by
 grind[List.takeWhile_append_dropWhile]
theorem Pq{l:List ai}{p}(h:p<l.length)(hl:cR (l[p]?.getD ai.zero)=true):(l.drop (p+1)).dropWhile cR=l.drop (p+((l.drop p).takeWhile cR).length):=by
 rw[AH,ap8];have e:=aqs h;rw[e,aqQ,if_pos (by grind)];grind
theorem AI{α:Type}{p}:∀{l:List α} {x r},l.dropWhile p=x::r->p x=false
 | [],x,r,h=>by simp at h
 | y::l,x,r,h=>by
   rw[List.dropWhile_cons]at h;split at h
   ·exact AI h
   ·rename_i hy;simp at h;rw[<-h.1];simpa using hy
theorem BG(l:List ai) k(hk:k<=l.length):k+oG (l.drop k)<=l.length/\(∀i,i<oG (l.drop k)->k+i<l.length/\¬(l[k+i]?.getD ai.zero).Op=38)/\(k+oG (l.drop k)<l.length->(l[k+oG (l.drop k)]?.getD ai.zero).Op=38):=by
 have h:=qT (λi=>!cR i) (l.drop k);have hlen:=congrArg List.length h;have hle:oG (l.drop k)<=l.length-k:=by grind[oG]
 refine⟨by omega,λi hi=>?_,λaw=>?_⟩
 ·have h1:=by omega
  have h2:=mr (λi=>!cR i) (l.drop k);have h3:(l.drop k)[i]?=((l.drop k).takeWhile λi=>!cR i)[i]?:=by
   conv=>lhs;rw[h]
   rw[apq hi]
  grind[List.getElem_mem,cR,List.getElem?_eq_getElem,Bool.not_eq_true',decide_eq_false_iff_not,of_decide_eq_false]
 ·have h5:=AH (λi=>!cR i) (l.drop k);have h6:(l.drop k).dropWhile (λi=>!cR i)=l.drop (k+oG (l.drop k)):=by rw[h5,ap8];rfl
  have h7:=aqs aw;rw[h7]at h6;have h8:=AI h6;rw[akC aw];simp[cR,Bool.not_eq_false',decide_eq_true_eq]at h8;exact h8
theorem D1(l:List ai) k(hk:k<=l.length):k+((l.drop k).takeWhile cR).length<=l.length/\(∀i h,k+i<l.length/\((l.drop k).takeWhile cR)[i]=l[k+i]?.getD ai.zero):=by
 have h:=qT cR (l.drop k);have hlen:=congrArg List.length h;rw[aoS,ara,ara,ara]at hlen;refine⟨by omega,λi hi=>?_⟩;have h3:(l.drop k)[i]?=((l.drop k).takeWhile cR)[i]?:=by
  grind
 grind
set_option maxHeartbeats 4000000 in
theorem Y8(l:List ai)(hl:l.length<=10000000000)(k:Nat)(hk:k<l.length)(o0:Int)(ho:fY (l.drop k) 0=o0)(hj:o0=24/\oG (l.drop (k+1))=0\/o0=25):Pure prog 267 [dA l,iD k] (eG l (sb l k)):=by
 have dS:=λn=>AG l (by omega) n
 have e0:=Fe l k;obtain⟨R,hR⟩:∃R,eG l (sb l k)=R:=⟨_,rfl⟩
 have vV:V.on [] R=true:=by rw[<-hR];rfl
 rw[hR];have i1:aN .i64 ((k:Int)+1):=iW;have b0:(l[k]?.getD ai.zero).Arg=cg (l.drop k) 0:=ji l k 0;have LD:(l[k]'hk).Arg=cg (l.drop k) 0:=by have:=ji l k 0;rw[<-this];simp[hk]
 have An:(l.drop k).tail=l.drop (k+1):=by rw[List.tail_drop]
 have vl:∀x:List ai,x.length<=1000->Pure prog 270 [dA l,iD k,iD 1,dA x] (dA (iN l k 1 x)):=λx hx=>qx l (by omega) k 1 (by omega) x (by omega)
 have D0:Pure prog 270 [dA l,iD k,iD 1,.d (.v (.slice none 0 0))] (dA (iN l k 1 [])):=(vl [] (by simp)).deep 0 (by rfl) (by rfl);have rk:Pure prog 290 [dA l,iD ((k:Int)+1)] (iD (((k+1:Nat)+((l.drop (k+1)).takeWhile cR).length:Nat):Int)):=vf l (by omega) (k+1) (by omega);rw[ho]at e0;obtain⟨D,hD⟩:∃D,oG (l.drop (k+1))=D:=⟨_,rfl⟩
 have IF:=BG l (k+1) (by omega);rw[hD]at IF hj;obtain⟨Fu,yY,nr⟩:=IF;have D2:vg l (l.drop k)=(if kM o0/\0<D then some (1,D,[])else if o0=24\/o0=25 then
  (if o0=24/\((l.drop (k+1)).takeWhile cR).any (λi=>decide (i.Arg=cg (l.drop k) 0))=true then some (0,1,[])
   else(vU l (l.drop k)).map λx=>(0,1,x))else none):=by
  unfold vg;rw[ho,An,hD]
 obtain⟨T,hT⟩:∃T,(l.drop (k+1)).takeWhile cR=T:=⟨_,rfl⟩
 rw[hT]at D2 rk;have Y9:=D1 l (k+1) (by omega);rw[hT]at Y9;obtain⟨Th,Nu⟩:=Y9;have hwh:=IN l (by omega) (cg (l.drop k) 0);have hbq:=λ(p:Nat) (hp:p<=l.length)=>vf l (by omega) p hp
 have gv:¬(kM o0/\0<D):=by
  rcases hj with h|h
  ·omega
  ·unfold kM;omega
 have vX:sb l k=if o0=24/\T.any (λi=>decide (i.Arg=cg (l.drop k) 0))=true then some (iN l k 1 [])else(vU l (l.drop k)).map λx=>iN l k 1 x:=by
  unfold sb;rw[D2,if_neg gv,if_pos (by omega)];split
  ·rfl
  ·rw[Option.map_map];rfl
 clear D2;obtain⟨M,hM⟩:∃M,T.findIdx (λi=>decide (i.Arg=cg (l.drop k) 0))=M:=⟨_,rfl⟩
 have hM1:o0=24->∀j (h:j<M),∃h2:j<T.length,(T[j]'h2).Arg≠cg (l.drop k) 0:=by
  intro _ j hj;have h1:M<=T.length:=by rw[<-hM];exact List.findIdx_le_length
  refine⟨by omega,?_⟩;have:=List.not_of_lt_findIdx (p:=λi:ai=>decide (i.Arg=cg (l.drop k) 0)) (xs:=T) (i:=j) (by rw[hM];exact hj);simpa using this
 have hM2:o0=24->∀(h:M<T.length),(T[M]'h).Arg=cg (l.drop k) 0:=by
  intro _ h;have h2:T.findIdx (λi=>decide (i.Arg=cg (l.drop k) 0))<T.length:=by rw[hM];exact h
  have:=List.findIdx_getElem (p:=λi:ai=>decide (i.Arg=cg (l.drop k) 0)) (xs:=T) (w:=h2);simp only[hM]at this;simpa using this
 have an5:M<=T.length:=by rw[<-hM];exact List.findIdx_le_length
 have hM4:o0=24->(M<T.length->T.any (λi=>decide (i.Arg=cg (l.drop k) 0))=true)/\(T.any (λi=>decide (i.Arg=cg (l.drop k) 0))=true->M<T.length):=by
  intro _;rw[<-hM,List.findIdx_lt_length];simp
 refine Pure.run func267 rfl (by simp[f267,vV]) ?_;simp[-cB,f267,vV]
 repeat' (first
  | (with_reducible refine And.intro ?_ ?_)
  | ((first|(refine ax (λh=>?_) (λh=>?_)<;>(try simp at h))|refine pC (dS _) ?_|refine pC rk ?_|refine lC (dS _) ?_|refine lC rk ?_|refine pG (dS _) ?_|refine pG rk ?_)<;>(try simp[-cB, *]))
  | (with_reducible intro _))
 all_goals (try (exfalso;omega))
 refine av.cI [0,1,6,7] 0 (λi=> [(7,iD ((k+1+i:Nat):Int))]) (λ_=> []) (λ_=>True) (by rfl) (by simp) ?_;intro i hi _;obtain rfl:i=0:=by omega
 have hD0:D=0:=by omega
 have IQ:((k:Int)+1).toNat=k+1:=by omega
 have j0:0<=(k:Int)+1:=by omega
 have jo:o0=24:=by omega
 by_cases hx:k+1<l.length;have F8:=nr (by omega);rw[hD0]at F8;have j6:(l[k+1]'hx).Op=38:=by rw[apQ,akC hx]at F8;exact F8
 have Pr:(k:Int)+1<l.length:=by omega
 have Za:((l[k+1]'hx).Op !=38)=false:=by simp[j6]
 simp[-cB,j0,IQ,Pr,hx,Za,i1,jo];refine pC rk ?_;simp[-cB,i1]
 rotate_left
 have Pr:¬(k:Int)+1<l.length:=by omega
 simp[-cB,j0,IQ,Pr,hx,i1,jo];refine pC rk ?_;simp[-cB,i1]
 rotate_left
 refine av.cI [0,1,6,8,9] 0 (λi=> [(9,iD ((k+1+i:Nat):Int))]) (λ_=> []) (λ_=>True) (by rfl) (by simp) ?_;intro i2 O1 _;obtain rfl:i2=0:=by omega
 have nv:o0=25:=by omega
 have VM:¬(o0=24/\T.any (λi=>decide (i.Arg=cg (l.drop k) 0))=true):=by omega
 rw[if_neg VM]at vX;simp[-cB,nv]
 rotate_left
 iterate 2
  refine av.cI [0,1,6,8,9] M (λi=> [(9,iD ((k+1+i:Nat):Int))]) (λ_=> []) (λ_=>True) (by rfl) (by simp) ?_;intro i2 O1 _;have q1:((k:Int)+1+i2).toNat=k+1+i2:=by omega
  have q0:0<=(k:Int)+1+i2:=by omega
  have q2:aN .i64 ((k:Int)+1+i2+1):=iW;rcases aoR O1 with nP|GJ
  ·obtain⟨ajy,ajz⟩:=hM1 jo i2 nP;have F2:=Nu i2 ajy;have q3:((k:Int)+1+i2<(k:Int)+1+T.length):=by omega
   have q4:k+1+i2<l.length:=F2.1;have q5:(l[k+1+i2]'q4).Arg≠cg (l.drop k) 0:=by
    have:=ajz;rw[F2.2,akC q4]at this;exact this
   simp[-cB,q0,q1,q2,q3,q4];refine av.bT [] aT (by kernel_rfl) (by rfl) ?_;simp[-cB,q0,q1,q2,q3,q4,hk,LD,q5];omega
  subst GJ;by_cases hMT:i2<T.length
  ·have F2:=Nu i2 hMT;have q3:((k:Int)+1+i2<(k:Int)+1+T.length):=by omega
   have q4:k+1+i2<l.length:=F2.1;have q5:(l[k+1+i2]'q4).Arg=cg (l.drop k) 0:=by
    have:=hM2 jo hMT;rw[F2.2,akC q4]at this;exact this
   have yj:T.any (λi=>decide (i.Arg=cg (l.drop k) 0))=true:=(hM4 jo).1 hMT;rw[if_pos ⟨jo,yj⟩]at vX;simp[-cB,q0,q1,q2,q3,q4];refine av.bT [] aT (by kernel_rfl) (by rfl) ?_;simp[-cB,q0,q1,q2,q3,q4,hk,LD,q5];refine pC D0 ?_;simp[-cB];rw[<-hR,vX];simp[eG]
  have VM:¬(o0=24/\T.any (λi=>decide (i.Arg=cg (l.drop k) 0))=true):=λh=>hMT ((hM4 jo).2 h.2)
  rw[if_neg VM]at vX;have q3:¬((k:Int)+1+i2<(k:Int)+1+T.length):=by omega
  simp[-cB,q0,q1,q2,q3]
  rotate_left
 all_goals
  simp[-cB,hk,LD];refine pC hwh ?_;simp[-cB];rcases VL (l:=l) (n:=cg (l.drop k) 0)with⟨w1,w2⟩|⟨p,w0,w1,w2,w3⟩
  ·have hf:vU l (l.drop k)=none:=by unfold vU;rw[w2]
   rw[hf]at vX;simp[-cB,w1];rw[<-hR,vX];simp[eG]
  have w4:¬(p:Int)<0:=by omega
  have hbp:=hbq p (by omega);have tG:=Pq w0 w3;obtain⟨Q,hQ⟩:∃Q,p+((l.drop p).takeWhile cR).length=Q:=⟨_,rfl⟩
  rw[hQ]at hbp tG;have hQl:Q<=l.length:=by
   have:=(D1 l p (by omega)).1;omega
  have Ps:=dS (Q:Int);rw[Fe]at Ps;have hf:vU l (l.drop k)=if fY (l.drop Q) 0=24/\cg (l.drop Q) 0≠cg (l.drop k) 0 then some [⟨fY (l.drop k) 0,cg (l.drop Q) 0⟩]else none:=by
   unfold vU;rw[w2];simp only[tG]
  rw[ho]at hf;have IS:=vJ (l:=l) (k:=Q) (j:=0);simp only[apQ]at IS;have hbQ:∀h:Q<l.length,(l[Q]'h).Arg=cg (l.drop Q) 0:=λh=>by have:=ji l Q 0;rw[<-this];simp[h]
  simp[-cB,w1,w4];refine pC hbp ?_;simp[-cB];refine av.bT [iD (fY (l.drop Q) 0)] aT (by kernel_rfl) (by rfl) ?_;by_cases Ti:fY (l.drop Q) 0=24
  ·have qlt:Q<l.length:=IS (by omega);have afT:=hbQ qlt;rw[Ti]at Ps;by_cases qa:cg (l.drop Q) 0=cg (l.drop k) 0
   ·rw[if_neg (by simp[qa])]at hf;rw[hf]at vX;simp[-cB,Ps.ok,afT,hk,LD,Ti,qa,qlt];rw[<-hR,vX];simp[eG]
   ·rw[if_pos ⟨Ti,qa⟩]at hf;rw[hf]at vX;have qab:(cg (l.drop Q) 0 !=cg (l.drop k) 0)=true:=by simpa using qa
    simp[-cB,Ps.ok,afT,hk,LD,Ti,qab,qlt]
    first
     | refine au.weaken (Wk.freeze 136 (ys:=[(⟨o0,cg (l.drop Q) 0⟩:ai)].map ai.enc) rfl) ?_
     | refine au.weaken (Wk.freeze 136 (ys:=[(⟨24,cg (l.drop Q) 0⟩:ai)].map ai.enc) rfl) ?_
     | refine au.weaken (Wk.freeze 136 (ys:=[(⟨25,cg (l.drop Q) 0⟩:ai)].map ai.enc) rfl) ?_
    simp[-cB]
    first
     | refine au.bB rfl (vl [⟨o0,cg (l.drop Q) 0⟩] (by simp)) rfl rfl (by simp) rfl ?_
     | refine au.bB rfl (vl [⟨24,cg (l.drop Q) 0⟩] (by simp)) rfl rfl (by simp) rfl ?_
     | refine au.bB rfl (vl [⟨25,cg (l.drop Q) 0⟩] (by simp)) rfl rfl (by simp) rfl ?_
    simp[-cB];rw[<-hR,vX];simp[eG, *]
  ·rw[if_neg (λh=>Ti h.1)]at hf;rw[hf]at vX;simp[-cB,Ps.ok,hk,LD,Ti];rw[<-hR,vX];simp[eG]
set_option maxHeartbeats 4000000 in
theorem Zb(l:List ai)(hl:l.length<=10000000000)(k:Nat)(hk:k<l.length):Pure prog 267 [dA l,iD k] (eG l (sb l k)):=by
 have dS:=λn=>AG l (by omega) n
 have e0:=Fe l k;obtain⟨R,hR⟩:∃R,eG l (sb l k)=R:=⟨_,rfl⟩
 have vV:V.on [] R=true:=by rw[<-hR];rfl
 rw[hR];have i1:aN .i64 ((k:Int)+1):=iW;have b0:(l[k]?.getD ai.zero).Arg=cg (l.drop k) 0:=ji l k 0;have LD:(l[k]'hk).Arg=cg (l.drop k) 0:=by have:=ji l k 0;rw[<-this];simp[hk]
 have An:(l.drop k).tail=l.drop (k+1):=by rw[List.tail_drop]
 have vl:∀x:List ai,x.length<=1000->Pure prog 270 [dA l,iD k,iD 1,dA x] (dA (iN l k 1 x)):=λx hx=>qx l (by omega) k 1 (by omega) x (by omega)
 have D0:Pure prog 270 [dA l,iD k,iD 1,.d (.v (.slice none 0 0))] (dA (iN l k 1 [])):=(vl [] (by simp)).deep 0 (by rfl) (by rfl);have rk:Pure prog 290 [dA l,iD ((k:Int)+1)] (iD (((k+1:Nat)+((l.drop (k+1)).takeWhile cR).length:Nat):Int)):=vf l (by omega) (k+1) (by omega);generalize ho:fY (l.drop k) 0=o0 at *;obtain⟨D,hD⟩:∃D,oG (l.drop (k+1))=D:=⟨_,rfl⟩
 have IF:=BG l (k+1) (by omega);rw[hD]at IF;obtain⟨Fu,yY,nr⟩:=IF;have D2:vg l (l.drop k)=(if kM o0/\0<D then some (1,D,[])else if o0=24\/o0=25 then
  (if o0=24/\((l.drop (k+1)).takeWhile cR).any (λi=>decide (i.Arg=cg (l.drop k) 0))=true then some (0,1,[])
   else(vU l (l.drop k)).map λx=>(0,1,x))else none):=by
  unfold vg;rw[ho,An,hD]
 obtain⟨T,hT⟩:∃T,(l.drop (k+1)).takeWhile cR=T:=⟨_,rfl⟩
 rw[hT]at D2 rk;have Y9:=D1 l (k+1) (by omega);rw[hT]at Y9;obtain⟨Th,Nu⟩:=Y9;have hwh:=IN l (by omega) (cg (l.drop k) 0);have hbq:=λ(p:Nat) (hp:p<=l.length)=>vf l (by omega) p hp
 by_cases G0:kM o0
 ·have R8:(((o0=24\/o0=27)\/o0=28)\/o0=29)\/o0=30:=by unfold kM at G0;omega
  by_cases hd:0<D
  ·have oC:R= .bA [dA (iN l (k+1) D []),oD true]:=by
    rw[<-hR];unfold sb;rw[D2,if_pos ⟨G0,hd⟩];rfl
   have hsw:Pure prog 270 [dA l,iD ((k:Int)+1),iD D,.d (.v (.slice none 0 0))] (dA (iN l (k+1) D [])):=(qx l (by omega) (k+1) D (by omega) [] (by simp)).deep 0 (by rfl) (by rfl);clear hR D2;subst oC;refine rn func267 ?_;simp[-cB,f267]
   repeat' (first
    | (with_reducible refine And.intro ?_ ?_)
    | ((first|(refine ax (λh=>?_) (λh=>?_)<;>(try simp at h))|refine pC (dS _) ?_|refine lC (dS _) ?_|refine pG (dS _) ?_)<;>(try simp[-cB, *]))
    | (with_reducible intro _))
   all_goals (try (exfalso;omega))
   refine av.cI [0,1,6,7] D (λi=> [(7,iD ((k+1+i:Nat):Int))]) (λ_=> []) (λ_=>True) (by rfl) (by simp) ?_;intro i hi _;have j1:((k:Int)+1+i).toNat=k+1+i:=by omega
   have j2:aN .i64 ((k:Int)+1+i+1):=iW;have j0:0<=(k:Int)+1+i:=by omega
   rcases aoR hi with aw|heq
   ·have j3:=yY i aw;have j4:(k:Int)+1+i<l.length:=by omega
    have j5:k+1+i<l.length:=by omega
    have j6:¬(l[k+1+i]'j5).Op=38:=by have:=j3.2;rw[akC j5]at this;exact this
    have Za:(l[k+1+i].Op !=38)=true:=by simpa using j6
    simp[-cB,j0,j1,j2,j4,j5,Za];omega
   ·subst heq;have j7:aN .i64 ((k:Int)+1+i-k):=iW;have j8:aN .i64 ((k:Int)+1+i-k-1):=iW;have j9:(k:Int)+1+i-k-1=i:=by omega
    have j10:(k:Int)+1<(k:Int)+1+i:=by omega
    by_cases hx:k+1+i<l.length
    ·have F8:=nr hx;have IQ:(k:Int)+1+i<l.length:=by omega
     have j6:(l[k+1+i]'hx).Op=38:=by rw[akC hx]at F8;exact F8
     simp[-cB,j0,j1,IQ,hx,j6,i1,j7,j8,j9,j10,hd];refine⟨iW,?_⟩;refine pC hsw ?_;simp
    ·have IQ:¬(k:Int)+1+i<l.length:=by omega
     simp[-cB,j0,j1,IQ,i1,j7,j8,j9,j10,hd];refine⟨iW,?_⟩;refine pC hsw ?_;simp
  ·-- nothing is left out:a jump goes on,B6 others do not
   have hD0:D=0:=by omega
   have gv:¬(kM o0/\0<D):=by omega
   by_cases jo:o0=24
   ·rw[<-hR];exact Y8 l hl k hk o0 ho (Or.inl ⟨jo,by rw[hD];exact hD0⟩)
   ·have oC:R= .bA [dA l,oD false]:=by
     rw[<-hR];unfold sb;rw[D2,if_neg gv,if_neg (by omega)];rfl
    clear D2 hR;subst oC;have nv:¬o0=25:=by omega
    refine rn func267 ?_;simp[-cB,f267]
    repeat' (first
     | (with_reducible refine And.intro ?_ ?_)
     | ((first|(refine ax (λh=>?_) (λh=>?_)<;>(try simp at h))|refine pC (dS _) ?_|refine lC (dS _) ?_|refine pG (dS _) ?_)<;>(try simp[-cB, *]))
     | (with_reducible intro _))
    all_goals (try (exfalso;omega))
    refine av.cI [0,1,6,7] 0 (λi=> [(7,iD ((k+1+i:Nat):Int))]) (λ_=> []) (λ_=>True) (by rfl) (by simp) ?_;intro i hi _;obtain rfl:i=0:=by omega
    have IQ:((k:Int)+1).toNat=k+1:=by omega
    have j0:0<=(k:Int)+1:=by omega
    by_cases hx:k+1<l.length
    ·have F8:=nr (by omega);rw[hD0]at F8;have j6:(l[k+1]'hx).Op=38:=by rw[apQ,akC hx]at F8;exact F8
     have Pr:(k:Int)+1<l.length:=by omega
     have Za:((l[k+1]'hx).Op !=38)=false:=by simp[j6]
     simp[-cB,j0,IQ,Pr,hx,Za,i1];refine ax (λh=>?_) (λh=>?_)
     ·simp
     ·simp at h;omega
    ·have Pr:¬(k:Int)+1<l.length:=by omega
     simp[-cB,j0,IQ,Pr,hx,i1];refine ax (λh=>?_) (λh=>?_)
     ·simp
     ·simp at h;omega
 ·have R8:¬((((o0=24\/o0=27)\/o0=28)\/o0=29)\/o0=30):=by unfold kM at G0;omega
  have gv:¬(kM o0/\0<D):=λh=>G0 h.1
  by_cases nv:o0=25
  ·rw[<-hR];exact Y8 l hl k hk o0 ho (Or.inr nv)
  ·have oC:R= .bA [dA l,oD false]:=by
    rw[<-hR];unfold sb;rw[D2,if_neg gv,if_neg (by omega)];rfl
   clear D2 hR;subst oC;refine rn func267 ?_;simp[-cB,f267]
   repeat' (first
    | (with_reducible refine And.intro ?_ ?_)
    | ((first|(refine ax (λh=>?_) (λh=>?_)<;>(try simp at h))|refine pC (dS _) ?_|refine lC (dS _) ?_|refine pG (dS _) ?_)<;>(try simp[-cB, *]))
    | (with_reducible intro _))
   all_goals (exfalso;omega)
theorem IT l r:qS l r=match oF r with
 | some y=>some (0,y.1,y.2)
 | none=>match mM r with
   | some y=>some (0,y.1,y.2)
   | none=>match vg l r with
     | some y=>some y
     | none=>if fY r 0=38/\mN l (cg r 0)=false then some (0,1,[])else none:=by
 unfold qS vg;grind
set_option maxHeartbeats 2000000 in
theorem RA(l:List ai)(hl:l.length<=10000000000)(k:Nat)(hk:k<l.length):Pure prog 237 [dA l,iD k] (eG l (mq l k)):=by
 have h1:=MA l (by omega) k (by omega);have h2:=VK l (by omega) k (by omega);have h3:=Zb l hl k hk;have dS:=AG l (by omega) k;rw[Fe]at dS;have LF:=IP l (by omega) (cg (l.drop k) 0);have LD:(l[k]'hk).Arg=cg (l.drop k) 0:=by have:=ji l k 0;rw[<-this];simp[hk]
 have D0:Pure prog 270 [dA l,iD k,iD 1,.d (.v (.slice none 0 0))] (dA (iN l k 1 [])):=(qx l (by omega) k 1 (by omega) [] (by simp)).deep 0 (by rfl) (by rfl);have hB:mq l k=match ve l k with
  | some y=>some y
  | none=>match tX l k with
    | some y=>some y
    | none=>match sb l k with
      | some y=>some y
      | none=>if fY (l.drop k) 0=38/\mN l (cg (l.drop k) 0)=false then some (iN l k 1 [])else none:=by
  unfold mq ve tX sb;rw[IT];cases oF (l.drop k)with
  | some y=>rfl
  | none=>
    cases mM (l.drop k)with
    | some y=>rfl
    | none=>
      cases vg l (l.drop k)with
      | some y=>rfl
      | none=>
        simp only[aqR];split<;>rfl
 rw[hB];cases hr:ve l k with
 | some y=>
   rw[hr]at h1;unfold eG at h1⊢;refine rn func237 ?_;simp[-cB,f237];refine pC h1 ?_;simp
 | none=>
   rw[hr]at h1;cases X8:tX l k with
   | some y=>
     rw[X8]at h2;unfold eG at h1 h2⊢;refine rn func237 ?_;simp[-cB,f237];refine pC h1 ?_;simp[-cB];refine pC h2 ?_;simp
   | none=>
     rw[X8]at h2;cases hg:sb l k with
     | some y=>
       rw[hg]at h3;unfold eG at h1 h2 h3⊢;refine rn func237 ?_;simp[-cB,f237];refine pC h1 ?_;simp[-cB];refine pC h2 ?_;simp[-cB];refine pC h3 ?_;simp
     | none=>
       rw[hg]at h3;by_cases kL:fY (l.drop k) 0=38
       ·rw[kL]at dS;cases ha:mN l (cg (l.drop k) 0)with
        | true=>
          rw[ha]at LF;unfold eG at h1 h2 h3⊢;simp only[kL,true_and,reduceCtorEq,if_false];refine rn func237 ?_;simp[-cB,f237]
          repeat' (first
           | (with_reducible refine And.intro ?_ ?_)
           | ((first|(refine ax (λh=>?_) (λh=>?_)<;>(try simp at h))|refine pC h1 ?_|refine pC h2 ?_|refine pC h3 ?_|refine pC dS ?_|refine pC LF ?_|refine lC h1 ?_|refine lC h2 ?_|refine lC h3 ?_|refine lC dS ?_|refine lC LF ?_|refine pG h1 ?_|refine pG h2 ?_|refine pG h3 ?_|refine pG dS ?_|refine pG LF ?_)<;>(try simp[-cB, *]))
           | (with_reducible intro _))
        | false=>
          rw[ha]at LF;unfold eG at h1 h2 h3⊢;simp only[kL,true_and,if_true];refine rn func237 ?_;simp[-cB,f237]
          repeat' (first
           | (with_reducible refine And.intro ?_ ?_)
           | ((first|(refine ax (λh=>?_) (λh=>?_)<;>(try simp at h))|refine pC h1 ?_|refine pC h2 ?_|refine pC h3 ?_|refine pC dS ?_|refine pC LF ?_|refine pC D0 ?_|refine lC h1 ?_|refine lC h2 ?_|refine lC h3 ?_|refine lC dS ?_|refine lC LF ?_|refine lC D0 ?_|refine pG h1 ?_|refine pG h2 ?_|refine pG h3 ?_|refine pG dS ?_|refine pG LF ?_|refine pG D0 ?_)<;>(try simp[-cB, *]))
           | (with_reducible intro _))
       ·unfold eG at h1 h2 h3⊢;simp only[kL,false_and,if_false];refine rn func237 ?_;simp[-cB,f237];have F9:=λn=>IP l (by omega) n
        repeat' (first
         | (with_reducible refine And.intro ?_ ?_)
         | ((first|(refine ax (λh=>?_) (λh=>?_)<;>(try simp at h))|refine pC h1 ?_|refine pC h2 ?_|refine pC h3 ?_|refine pC dS ?_|refine pC (F9 _) ?_|refine lC h1 ?_|refine lC h2 ?_|refine lC h3 ?_|refine lC dS ?_|refine lC (F9 _) ?_|refine pG h1 ?_|refine pG h2 ?_|refine pG h3 ?_|refine pG dS ?_|refine pG (F9 _) ?_)<;>(try simp[-cB, *]))
         | (with_reducible intro _))
theorem Zc{l:List ai}{k n:Nat}{x:List ai}(h:k+n<=l.length)(hx:x.length<=n):(iN l k n x).length<=l.length:=by
 unfold iN;simp only[aoS,apg,ara];omega
theorem BH{l:List ai}{k j:Nat}(h:fY (l.drop k) j≠0):k+j<l.length:=vJ h
theorem RB{l:List ai}{k:Nat}{y:Nat×Nat×List ai}(h:qS l (l.drop k)=some y):k+y.1+y.2.1<=l.length/\y.2.2.length<=y.2.1:=by
 rw[IT]at h;cases hr:oF (l.drop k)with
 | some z=>
   rw[hr]at h;simp only[anc]at h;subst h;unfold oF at hr;split at hr
   ·rename_i hc;have:=BH (l:=l) (k:=k) (j:=2) (by omega);simp only[anc]at hr;subst hr;exact⟨by simp only;omega,by simp[lS]⟩
   ·split at hr
    ·cases hr
    ·have h1:fY (l.drop k) 1≠0->k+1<l.length:=BH;split at hr
     ·simp only[anc]at hr;subst hr;exact⟨by simp only;omega,by simp[lS]⟩
     ·split at hr
      ·simp only[anc]at hr;subst hr;exact⟨by simp only;omega,by simp[lS]⟩
      ·split at hr
       ·simp only[anc]at hr;subst hr;exact⟨by simp only;omega,by simp[lS]⟩
       ·cases hr
 | none=>
   rw[hr]at h;simp only at h;cases hk:mM (l.drop k)with
   | some z=>
     rw[hk]at h;simp only[anc]at h;subst h;unfold mM at hk;have h1:fY (l.drop k) 1≠0->k+1<l.length:=BH;split at hk
     ·simp only[anc]at hk;subst hk;exact⟨by simp only;omega,by simp⟩
     ·split at hk
      ·split at hk
       ·simp only[anc]at hk;subst hk;exact⟨by simp only;omega,by simp⟩
       ·simp only[anc]at hk;subst hk;exact⟨by simp only;omega,by simp⟩
      ·split at hk
       ·simp only[anc]at hk;subst hk;exact⟨by simp only;omega,by simp⟩
       ·cases hk
   | none=>
     rw[hk]at h;simp only at h;have h0:fY (l.drop k) 0≠0->k+0<l.length:=BH;cases hg:vg l (l.drop k)with
     | some z=>
       rw[hg]at h;simp only[anc]at h;subst h;unfold vg at hg;split at hg
       ·rename_i hc;simp only[anc]at hg;subst hg;have:k<l.length:=by have:=hc.1;unfold kM at this;omega
        have hd:=(BG l (k+1) (by omega)).1;rw[List.tail_drop];exact⟨by simp only;omega,by simp⟩
       ·split at hg
        ·split at hg
         ·simp only[anc]at hg;subst hg;exact⟨by simp only;omega,by simp⟩
         ·obtain⟨x,hx,rfl⟩:=aoJ.1 hg;unfold vU at hx;split at hx
          ·cases hx
          ·split at hx
           ·simp only[anc]at hx;subst hx;exact⟨by simp only;omega,by simp⟩
           ·cases hx
        ·cases hg
     | none=>
       rw[hg]at h;simp only at h;split at h
       ·simp only[anc]at h;subst h;exact⟨by simp only;omega,by simp⟩
       ·cases h
theorem RC{l l':List ai}{k:Nat}(h:mq l k=some l'):l'.length<=l.length:=by
 obtain⟨y,hy,rfl⟩:=aoJ.1 h;have:=RB hy;exact Zc (by omega) this.2
theorem Zd{l l':List ai}{n k:Nat}(h:mO l n k=some l'):l'.length<=l.length:=by
 obtain⟨j,_,_,hj⟩:=BC _ _ h;exact RC hj
theorem IU{l:List ai}:∀(n k:Nat),(∀j,k<=j->j<k+n->mq l j=none)->mO l n k=none
 | 0,k,_=>rfl
 | n+1,k,h=>by
   rw[mO,h k (by omega) (by omega)];exact IU n (k+1) (λj h1 h2=>h j (by omega) (by omega))
theorem Ga{l x:List ai}{j:Nat}(hx:mq l j=some x):∀(n k:Nat),k<=j->j<k+n->(∀i,k<=i->i<j->mq l i=none)->mO l n k=some x
 | 0,k,h1,h2,_=>by omega
 | n+1,k,h1,h2,h3=>by
   rw[mO];by_cases e:k=j
   ·rw[e,hx]
   ·rw[h3 k (by omega) (by omega)];exact Ga hx n (k+1) (by omega) (by omega) (λi h4 h5=>h3 i (by omega) h5)
theorem Ze(l:List ai)(hl:l.length<=10000000000):Pure prog 190 [dA l] (eG l (mO l l.length 0)):=by
 obtain⟨R,hR⟩:∃R,eG l (mO l l.length 0)=R:=⟨_,rfl⟩
 have vV:V.on [] R=true:=by rw[<-hR];rfl
 rw[hR];refine Pure.run func190 rfl (by simp[f190,vV]) ?_;simp[-cB,f190,vV];refine av.cI [0,4] l.length (λi=> [(4,iD i)]) (λ_=> []) (λi=>∀j,j<i->mq l j=none) (by rfl) (by simp) ?_;intro i hi hH;rcases aoR hi with aw|heq
 ·have hb:=RA l hl i aw;have bU:aN .i64 ((i:Int)+1):=iW;have dj:(i:Int)<l.length:=by omega
  cases hm:mq l i with
  | some x=>
    rw[hm]at hb;have ho:=Ga hm l.length 0 (by omega) (by omega) (λj _ h=>hH j h);unfold eG at hb;simp[-cB,aw];refine pC hb ?_;simp;rw[<-hR,ho];rfl
  | none=>
    rw[hm]at hb;unfold eG at hb;simp[-cB,aw];refine pC hb ?_;simp[bU,aw];intro j hj;by_cases e:j=i
    ·rw[e];exact hm
    ·exact hH j (by omega)
 ·have ho:=IU l.length 0 (λj _ h=>hH j (by omega));simp[heq];rw[<-hR,ho];rfl
theorem abK{l:List ai}(h:mO l l.length 0=none):∀n,allM n l=l
 | 0=>rfl
 | n+1=>by rw[allM,h]
theorem D3:∀(n:Nat) (l:List ai),allM (n+1) l=(mO (allM n l) (allM n l).length 0).getD (allM n l)
 | 0,l=>by
   rw[allM,allM];cases mO l l.length 0<;>rfl
 | n+1,l=>by
   rw[allM];cases h:mO l l.length 0 with
   | none=>simp only;rw[abK h,h];rfl
   | some x=>
     simp only;rw[D3 n x]
     conv=>rhs;rw[allM,h]
theorem BI:∀(n:Nat) (l:List ai),(allM n l).length<=l.length
 | 0,l=>aoT _
 | n+1,l=>by
   rw[allM];cases h:mO l l.length 0 with
   | none=>exact aoT _
   | some x=>exact apr (BI n x) (Zd h)
theorem abL(l:List ai)(hl:l.length<=10000000000):Pure prog 125 [dA l] (dA (gn l)):=by
 have lg:aN .i64 (16 *(l.length:Int)):=iW;refine rn func125 ?_;simp[-cB,f125];simp[-cB,lg];refine av.cI [0,3,4] (16 *l.length) (λi=> [(0,dA (allM i l)),(4,iD i)]) (λ_=> []) (λ_=>True) (by rfl) (by simp[allM]) ?_;intro i hi _;have ho:=Ze (allM i l) (by have:=BI i l;omega);have hs:=D3 i l;rcases aoR hi with aw|heq
 ·have dj:(i:Int)<16 *(l.length:Int):=by omega
  have bU:aN .i64 ((i:Int)+1):=iW;cases hm:mO (allM i l) (allM i l).length 0 with
  | some x=>
    rw[hm]at ho hs;unfold eG at ho;simp[-cB,dj];refine pC ho ?_;simp[bU];refine⟨by omega,?_⟩;rw[hs];rfl
  | none=>
    rw[hm]at ho;unfold eG at ho;have hp:gn l=allM i l:=by
     unfold gn;have:∀k,allM (i+k) l=allM i l:=by
      intro k
      induction k with
      | zero=>rfl
      | succ k ih=>rw[<-aqz,D3,ih,hm];rfl
     have h2:=this (16 *l.length-i);rw[show i+(16 *l.length-i)=16 *l.length by omega]at h2;exact h2
    simp[-cB,dj];refine pC ho ?_;simp[hp]
 ·have hp:gn l=allM i l:=by unfold gn;rw[heq]
  have dj:¬(i:Int)<16 *(l.length:Int):=by omega
  simp[dj,hp]
theorem VN(n:Int)(l:List Int)(hl:l.length<=1000000):Pure prog 144 [iD n,.d (.sl (aC l))] (oD (l.contains n)):=by
 refine rn func144 ?_;simp[-cB,f144];refine av.cI [0,1,5] l.length (λi=> [(5,iD i)]) (λ_=> []) (λi=>(l.take i).contains n=false) (by rfl) (by simp[aC]) ?_;intro i hi hH;rcases aoR hi with aw|heq
 ·have hx:l[i]?=some l[i]:=akC aw;have bU:aN .i64 ((i:Int)+1):=iW;by_cases hp:l[i]=n
  ·have hv:l.contains n=true:=by simp only[List.contains_iff_mem];exact hp ▸ aoV aw
   have KX:n∈l:=by simpa using hv
   simp[aw,hp,KX]
  ·have hn:(l.take (i+1)).contains n=false:=by
    rw[api,hx];simp only[Option.toList,List.contains_append,hH,Bool.false_or];simpa using λh=>hp h.symm
   have hpb:(l[i]==n)=false:=by simpa using hp
   simp[aw,hp,bU];simpa using hn
 ·have hv:l.contains n=false:=by rw[heq,apl]at hH;exact hH
  simp[heq];simpa using hv
theorem He(n:Int):Pure prog 84 [iD n] (oD (ni n)):=by
 have h:=VN n [1,3,4,5,6,7,8,12,13,14,15,16,19,21,24,25,26,32,33,38] (by simp);unfold ni;refine rn func84 ?_;simp[-cB,f84];refine au.weaken (Wk.freeze 4 (ys:=aC [1,3,4,5,6,7,8,12,13,14,15,16,19,21,24,25,26,32,33,38]) rfl) ?_;simp[-cB];refine pC h ?_;simp
theorem tY(n:Int):Pure prog 85 [iD n] (iD (dC n)):=by
 unfold dC;by_cases h0:n=0
 ·subst h0;refine rn func85 ?_;simp[-cB,f85]
 ·by_cases h1: -128<=n/\n<=127
  ·refine rn func85 ?_;simp[-cB,f85]
   repeat' (first
    | (with_reducible refine And.intro ?_ ?_)
    | (refine ax (λh=>?_) (λh=>?_)<;>(try simp at h)<;>(try simp[-cB, *]))
    | (with_reducible intro _))
   all_goals (try omega)
  ·refine rn func85 ?_;simp[-cB,f85]
   repeat' (first
    | (with_reducible refine And.intro ?_ ?_)
    | (refine ax (λh=>?_) (λh=>?_)<;>(try simp at h)<;>(try simp[-cB, *]))
    | (with_reducible intro _))
   all_goals (try omega)
theorem tZ(i:ai):Pure prog 186 [.agg (i.enc.map .d)] (oD (jmp i.Op)):=by
 unfold jmp;refine rn func186 ?_;simp[-cB,f186]
def vY(l:List ai)(k:Nat)(n:Int):Int:=tW (l.take k) n
theorem zZ(l:List ai)(hl:l.length<=100000000000)(k:Nat)(hk:k<=l.length)(n:Int):Pure prog 234 [dA l,iD k,iD n] (iD (vY l k n)):=by
 refine rn func234 ?_;simp[-cB,f234];refine av.cI [0,1,2,7] k (λi=> [(7,iD i)]) (λ_=> []) (λi=>∀y∈l.take i,(decide (y.Op=38)&&decide (y.Arg=n))=false) (by rfl) (by simp) ?_;intro i hi hH;rcases aoR hi with dj|heq
 ·have aw:i<l.length:=by omega
  have hx:l[i]?=some l[i]:=akC aw;have q9:(l.take k)[i]?=some l[i]:=by rw[aqW,if_pos dj];exact hx
  have bU:aN .i64 ((i:Int)+1):=iW;have zl:(i:Int)<k:=by omega
  by_cases hp:(decide (l[i].Op=38)&&decide (l[i].Arg=n))=true
  ·have hv:vY l k n=i:=by
    unfold vY tW;have:(l.take k).findIdx? (λi=>decide (i.Op=38)&&decide (i.Arg=n))=some i:=by
     rw[aqt];refine⟨by simp;omega,by simpa using hp,λj hj=>?_⟩;have H3:j<l.length:=by omega
     have:=hH l[j] (aqr.2 ⟨j,by omega,rfl⟩);simpa using this
    rw[this]
   rw[aoM,decide_eq_true_eq,decide_eq_true_eq]at hp;simp[aw,zl,hp.1,hp.2,hv]
  ·have hn:∀y∈l.take (i+1),(decide (y.Op=38)&&decide (y.Arg=n))=false:=by
    intro y hy;rcases sa hx hy with h|rfl
    ·exact hH y h
    ·simpa using hp
   simp[-cB,aw,zl,bU];refine ax (λh=>?_) (λh=>?_)
   ·exact(hp h).elim
   ·simp[-cB,bU,aw];exact⟨by omega,λy hy=>by simpa using hn y hy⟩
 ·have hv:vY l k n= -1:=by
   unfold vY tW;have:(l.take k).findIdx? (λi=>decide (i.Op=38)&&decide (i.Arg=n))=none:=by
    rw[List.findIdx?_eq_none_iff];intro y hy;exact hH y (by rw[heq];exact hy)
   rw[this]
  simp[heq,hv]
def gJ(l:List Int):List (List D):=l.map λc=> [.v (.int .u8 c)]
@[simp] theorem agH(l:List Int):(gJ l).length=l.length:=by simp[gJ]
@[simp] theorem agI(a b:List Int):gJ a++gJ b=gJ (a++b):=by simp[gJ]
abbrev Pv(l:List Int):V:= .d (.sl (gJ l))
theorem gq(n:Int):IntKind.wrap .u8 n=n % 256:=by
 unfold IntKind.wrap;simp[IntKind.signed,IntKind.bits]
theorem aef(i:ai): -32768<=uS i/\uS i<=32767:=by
 unfold uS;split
 ·exact cS _
 ·omega
theorem vh(i:ai):Pure prog 187 [.agg (i.enc.map .d)] (Pv (mY i)):=by
 obtain⟨o,a⟩:=i;by_cases ho:o<1\/38<=o
 ·have hv:mY ⟨o,a⟩=[]:=by unfold mY;rw[if_pos ho]
  rw[hv];refine Pure.run func187 rfl (by simp[f187,ai.enc]) ?_;simp[-cB,f187,ai.enc]
  repeat' (first
   | (with_reducible refine And.intro ?_ ?_)
   | (refine ax (λh=>?_) (λh=>?_)<;>(try simp at h)<;>(try simp[-cB, *,ai.enc]))
   | (with_reducible intro _))
  all_goals (first|rfl|omega)
 ·have h1:=aef ⟨o,a⟩;have hv:mY ⟨o,a⟩=fN o (uS ⟨o,a⟩) (dC (uS ⟨o,a⟩)):=by unfold mY;rw[if_neg ho]
  rw[hv];have hw:=aP a;have hh:=He o;obtain⟨n,hn⟩:∃n,uS ⟨o,a⟩=n:=⟨_,rfl⟩
  rw[hn]at h1⊢;unfold uS at hn;simp only at hn;have sW:¬o<1:=by omega
  have lW:¬38<=o:=by omega
  have e1:aN .i64 (4 *o):=iW;have e4:aN .i64 (4 *o+1):=iW;have e5:aN .i64 (4 *o+2):=iW;have e6:(4 *o) % 256=4 *o:=by omega
  have e7:(4 *o+1) % 256=4 *o+1:=by omega
  have e8:(4 *o+2) % 256=4 *o+2:=by omega
  have Hf:=tY n;have hb:=qc n;obtain⟨k,hk⟩:∃k,dC n=k:=⟨_,rfl⟩
  rw[hk]at hb Hf⊢;have oO:Pure prog 84 [iD o] (oD false)/\n=0\/Pure prog 84 [iD o] (oD true)/\aq a=n:=by
   cases hA:ni o
   ·left;rw[hA]at hh hn;exact⟨hh,by simpa using hn.symm⟩
   ·right;rw[hA]at hh hn;exact⟨hh,by simpa using hn⟩
  have Tj:aN .i64 (n+65536):=iW;have q1:0<=n->n.tdiv 256=n / 256:=λh=>apt h
  have q2:0<=n+65536:=by omega
  have q3:(n+65536).tdiv 256=(n+65536) / 256:=apt q2;have q4:(n+65536) / 256 % 256=n / 256 % 256:=by omega
  have q5:0<=n->n.tmod 256=n % 256:=λh=>apa h
  have q6:(n+65536).tmod 256=n % 256:=by rw[apa q2];omega
  clear hh hv;have FL:k=0\/k=1\/k=2:=by omega
  rcases FL with rfl|rfl|rfl
  ·have CL:n=0:=by unfold dC at hk;split at hk;assumption;split at hk<;>omega
   subst CL;have pS:Pure prog 85 [iD 0] (iD 0):=Hf;clear Hf hb hk q1 q2 q3 q4 q5 q6;rcases oO with⟨hh,_⟩|⟨hh,IV⟩
   ·have e9:True:=trivial;refine Pure.run func187 rfl (by simp[f187,sW,lW,ai.enc]) ?_;simp[-cB,f187,sW,lW,ai.enc];intro bs;refine pC hw ?_;simp[-cB];refine pC hh ?_;simp[-cB,e1];refine av.aU [Q0,Q0,Q0,Q0,Q0,Q0,Q0,none,arb] [iD 0] aT (by kernel_rfl) ?_;simp[-cB,e1,e6,pS.ok,gq,e9];refine pC pS ?_;simp[-cB,gq,e9];refine pC pS ?_;simp[gq,e9,gJ,fN,jU]
   ·have e9:True:=trivial;rw[IV]at hw;refine Pure.run func187 rfl (by simp[f187,sW,lW,ai.enc]) ?_;simp[-cB,f187,sW,lW,ai.enc];intro bs;refine pC hw ?_;simp[-cB];refine pC hh ?_;simp[-cB,e1];refine av.aU [Q0,Q0,Q0,Q0,Q0,Q0,Q0,none,arb] [iD 0] aT (by kernel_rfl) ?_;simp[-cB,e1,e6,pS.ok,gq,e9];refine pC pS ?_;simp[-cB,gq,e9];refine pC pS ?_;simp[gq,e9,gJ,fN,jU]
  ·have pS:Pure prog 85 [iD n] (iD 1):=Hf;have hnz:n≠0:=by rintro rfl;simp[dC]at hk
   clear Hf hb hk;rcases oO with⟨hh,CL⟩|⟨hh,IV⟩
   ·exact absurd CL hnz
   ·rw[IV]at hw;by_cases hs:n<0
    ·clear q1 q5;refine Pure.run func187 rfl (by simp[f187,sW,lW,ai.enc]) ?_;simp[-cB,f187,sW,lW,ai.enc];intro bs;refine pC hw ?_;simp[-cB];refine pC hh ?_;simp[-cB,e1];refine av.aU [Q0,Q0,Q0,Q0,Q0,Q0,Q0,none,arb] [iD 1] aT (by kernel_rfl) ?_;simp[-cB,e1,e4,e5,e7,pS.ok,gq,hs,Tj,q6];refine pC pS ?_;simp[-cB,gq,hs,Tj,q6];refine pC pS ?_;simp[gq,hs,Tj,q6,gJ,fN,jU]
    ·have Pw:=q5 (by omega);clear q1 q5;refine Pure.run func187 rfl (by simp[f187,sW,lW,ai.enc]) ?_;simp[-cB,f187,sW,lW,ai.enc];intro bs;refine pC hw ?_;simp[-cB];refine pC hh ?_;simp[-cB,e1];refine av.aU [Q0,Q0,Q0,Q0,Q0,Q0,Q0,none,arb] [iD 1] aT (by kernel_rfl) ?_;simp[-cB,e1,e4,e5,e7,pS.ok,gq,hs,Pw];refine pC pS ?_;simp[-cB,gq,hs,Pw];refine pC pS ?_;simp[gq,hs,Pw,gJ,fN,jU]
  ·have pS:Pure prog 85 [iD n] (iD 2):=Hf;have hnz:n≠0:=by rintro rfl;simp[dC]at hk
   clear Hf hb hk;rcases oO with⟨hh,CL⟩|⟨hh,IV⟩
   ·exact absurd CL hnz
   ·rw[IV]at hw;by_cases hs:n<0
    ·clear q1 q5;refine Pure.run func187 rfl (by simp[f187,sW,lW,ai.enc]) ?_;simp[-cB,f187,sW,lW,ai.enc];intro bs;refine pC hw ?_;simp[-cB];refine pC hh ?_;simp[-cB,e1];refine av.aU [Q0,Q0,Q0,Q0,Q0,Q0,Q0,none,arb] [iD 2] aT (by kernel_rfl) ?_;simp[-cB,e1,e4,e5,e8,pS.ok,gq,hs,Tj,q6,q3,q4];refine pC pS ?_;simp[-cB,gq,hs,Tj,q6,q3,q4];refine pC pS ?_;simp[gq,hs,Tj,q6,q3,q4,gJ,fN,jU];rw[wrap64 iW,q4]
    ·have Pw:=q5 (by omega);have q1':=q1 (by omega);clear q1 q5;refine Pure.run func187 rfl (by simp[f187,sW,lW,ai.enc]) ?_;simp[-cB,f187,sW,lW,ai.enc];intro bs;refine pC hw ?_;simp[-cB];refine pC hh ?_;simp[-cB,e1];refine av.aU [Q0,Q0,Q0,Q0,Q0,Q0,Q0,none,arb] [iD 2] aT (by kernel_rfl) ?_;simp[-cB,e1,e4,e5,e8,pS.ok,gq,hs,Pw,q1'];refine pC pS ?_;simp[-cB,gq,hs,Pw,q1'];refine pC pS ?_;simp[gq,hs,Pw,q1',gJ,fN,jU];rw[wrap64 iW]
theorem Zf(n:Int):Pure prog 236 [iD n] (iD (oH n)):=by
 have hi:=ng n;have he:=vh ⟨24,n⟩;have hf:oH n=if ki n then dC n else 3:=rfl
 have iE:=qc n;have hI:gQ n=ki n:=by simp[gQ,ki,bJ]
 rw[hI]at hi;obtain⟨F,hF⟩:∃F,oH n=F:=⟨_,rfl⟩
 rw[hF]at hf⊢;by_cases h:ki n=true
 ·have hn: -32768<=n/\n<=32767:=by simpa[ki]using h
  rw[h]at hi hf;simp only[if_true]at hf;have hlen:(mY ⟨24,n⟩).length=1+F:=by
   have hA:ni 24=true:=by decide
   rw[hf];simp only[mY,uS,hA,if_true,x9 hn];rw[if_neg (by omega)];simp only[fN,aoU,yl n _ iE];omega
  refine Pure.run func236 rfl (by simp[f236,ai.enc]) ?_;simp[-cB,f236,ai.enc];refine pC hi ?_;simp[ai.enc];refine pC he ?_;simp[hlen];exact⟨iW,by omega⟩
 ·have h':ki n=false:=by simpa using h
  rw[h']at hi hf;simp at hf;refine Pure.run func236 rfl (by simp[f236,ai.enc]) ?_;simp[-cB,f236,ai.enc];refine pC hi ?_;simp[hf]
theorem Zg(o n:Int)(k:Nat)(ho:1<=o/\o<38)(hk:k<=2):Pure prog 188 [iD o,iD n,iD k] (Pv (fN o n k)):=by
 have e1:aN .i64 (4 *o):=iW;have e2:aN .i64 (4 *o+1):=iW;have e3:aN .i64 (4 *o+2):=iW;have e6:(4 *o) % 256=4 *o:=by omega
 have e7:(4 *o+1) % 256=4 *o+1:=by omega
 have e8:(4 *o+2) % 256=4 *o+2:=by omega
 have FL:k=0\/k=1\/k=2:=by omega
 rcases FL with rfl|rfl|rfl
 ·refine Pure.run func188 rfl (by simp[f188,e1,e6,gq]) ?_;simp[-cB,f188,e1,e6,gq];simp[gJ,fN,jU]
 ·refine Pure.run func188 rfl (by simp[f188,e1,e2,e7,gq]) ?_;simp[-cB,f188,e1,e2,e7,gq];simp[gJ,fN,jU]
 ·refine Pure.run func188 rfl (by simp[f188,e1,e3,e8,gq]) ?_;simp[-cB,f188,e1,e3,e8,gq];simp[gJ,fN,jU];show n.fdiv 256 % 256=_;rw[aqP _ (by decide)]
section
variable {P : Program} {n : Nat} {s : St} {Q : AX -> St -> Prop} {L : aI}
def Px:D->Bool
 | .v _=>true
 | _=>false
theorem Zh{ty}{k}{ys}{w}{O O'}{m m'}{x}(h:(aV.row ty k (dd ys)).Holds w O m x)(hp:ys.all (fun y=>y.all Px)=true):
  (aV.row ty k (dd ys)).Holds w O' m' x:=by
 rcases h with h|⟨b,off,cap,cur,h1,h2,h3,h4,h5,h6,h7,h8⟩
 ·exact .inl h
 ·refine .inr ⟨b,off,cap,cur,h1,h2,h3,h4,h5,h6,h7,λi j x y v hx hy hv=>?_⟩;refine Od (h8 i j x y v hx hy hv) ?_;rw[N7]at hx;obtain⟨y0,rf,rfl⟩:=aoJ.1 hx;rw[aoN]at hy;obtain⟨z,hz,rfl⟩:=aoJ.1 hy;have:=aoP.1 (aoP.1 hp y0 (aoO rf)) z (aoO hz);cases z with
  | v u=>rfl
  | sl xs=>cases this
  | uj t ag cs=>cases this
theorem au.ahq{ops}{o:Oper}{rest}{c}{f}{args lR}{ty}{kc}{ys} h(aD:o.op= .call c)
  (hf:aE P f lR [] (λr L'=>∃g,r= .ret (.rv g)/\L'=[(g,.row ty kc (dd ys))])) (he:enters P f=true) (hc:callee s.ev c=some (f,args)) (ha:V.nM s.L args=lR) (ho:V.dE [] lR=true)
  (hs:ys.all (λy=>y.all Px)=true) (hg:o.guard=none) (hd:∀d,o.dst=some d->d<n) (hr:dG n rest=true) (hn:h∉keys s.L)
  (k:∀bs,eR P ops rest (St.put {s with L:=(h,.row ty kc (dd ys))::s.L} o.dst (.rv h)) bs [] (KK P n ops Q)):au P n ops (o::rest) s Q:=by
 subst ha;intro fo m0 w0 m a w st g;unfold wpListIn;rw[if_pos (by simp[Region.wanted,hg])];obtain⟨xs,h1,h2⟩:=oY (P:=P) (w:=w) (m:=m) (O:=OO fo m) aD hc he (λz _=>cm g z);have hi:=g.inv;refine K9 h1 ?_;have fD:ir w (OO fo fP) fP xs (V.nM s.L args):=by
  refine⟨by rw[uG];exact h2.1,λj v y hv hy=>?_⟩;have Ob:=fQ ho y (aoO hy);rw[uF]at hy;obtain⟨z,hz,rfl⟩:=aoJ.1 hy;exact(Oa hi (h2.2 j v z hv hz) Ob).mono (bK.refl w _) (λb _ hb=>hb.elim (λh=>(gH b h).elim) id) (λ_ _ e=>e)
 refine(hf fo fP w xs (hi.none_ λb hb=> .inr hb) fD).mono ?_;rintro e w' ⟨m1,r,L',⟨gg,rfl,rfl⟩,lG,cn,fK⟩;cases e with
 | returned v=>
   have hv:m1 gg=some v/\v.oneCell'=true:=by
    cases lG with
    | rv _ _ e e1=>grind
   obtain⟨z,hz,De⟩:=cn.holds gg (.row ty kc (dd ys)) (by simp);rw[hv.1]at hz;obtain rfl:=aoK hz;have gr:hY w w':=⟨fK.os,fK.tape,fK.output,fK.size,λb hb=>fK.block b hb (gH b)⟩
   obtain⟨g',qg⟩:=g.new gr hn (x:=v) (λb hb=>by
    by_cases aw:b<w.heap.size
    ·exact(gH b (fK.owned b aw ⟨gg,v,hv.1,hb⟩)).elim
    ·omega) (Zh De hs)
   exact(bn rest _ [] hr k) fo m0 w0 _ _ w' (st.trans qg) (g'.put hd (.rv h v (cr _ _) hv.2))
 | panicked ch=>simp_all[Ends]
 | outgrown=>simp_all[Ends]
end
def pT(z:Zl):List Int:=z.map λp=>(p.2:Int)
def yw(z:Zl)(n:Nat):List Int:=(List.range n).map λi=>(aW (z.take i):Int)
theorem Py(z:Zl)(n:Nat):yw z (n+1)=yw z n++ [(aW (z.take n):Int)]:=by
 unfold yw;rw[aql,apL];rfl
theorem Ff(z:Zl)(n:Nat):(yw z n).length=n:=by simp[yw]
theorem Kj(z:Zl){n k:Nat}(h:k<n):(yw z n)[k]?=some (aW (z.take k):Int):=by
 simp[yw,h]
theorem Kk(p:ai×Nat):dY p=if jmp p.1.Op=true then 1+p.2 else(mY p.1).length:=by
 unfold dY;split
 ·rename_i h;rw[h];have:mY p.1=[]:=by unfold mY;rw[if_pos (by omega)]
  rw[this];simp[jmp]
 ·rfl
theorem yx(i:ai):(mY i).length<=3:=by
 unfold mY;split
 ·simp
 ·have:=qc (uS i);simp only[fN,aoU,yl _ _ this];omega
theorem aeg(p:ai×Nat)(h:p.2<=3):dY p<=4:=by
 rw[Kk];have:=yx p.1;split<;>omega
theorem AJ:∀(z:Zl),(∀p∈z,p.2<=3)->aW z<=4 *z.length
 | [],_=>by simp[aW]
 | p::z,h=>by
   have h1:=AJ z (λq hq=>h q (by simp[hq]));have h2:=aeg p (h p (by simp));simp only[aW,ao9,aqO,aoU]at h1⊢;omega
theorem zA(z:Zl)(i:Nat)(h:i<z.length):aW (z.take (i+1))=aW (z.take i)+dY z[i]:=by
 unfold aW;rw[api,akC h];simp only[Option.toList,apL,List.sum_append,ao9,aqX,aqO,List.sum_nil,apQ]
theorem Pz(z:Zl)(hz:z.length≤1000000000)(h3:∀p∈z,p.2≤3):
  aE prog 185 [dA (z.map Prod.fst),.d (.sl (aC (pT z)))] [] (λr L=>∃g,r= .ret (.rv g)/\L=[(g,.row 3 1 (dd (aC (yw z (z.length+1)))))]):=by
 refine rX [4] [1000] func185 ?_;simp[-cB,f185];refine av.weaken (Wk.GQ (t:=6) (h:=1000) (k:=1) (ty:=3) (by rfl) (by simp[keys])) ?_;refine av.cI [0,1,5,6,7] z.length (λi=> [(5,iD (aW (z.take i))),(7,iD i)]) (λi=> [(1000,.row 3 1 (dd (aC (yw z i))))]) (λ_=>True) (by rfl) (by simp[yw,aW]) ?_;intro i hi hH;have hb:aW (z.take i)<=4 *i:=by
  have:=AJ (z.take i) (λp hp=>h3 p (apO hp));rw[apg]at this;omega
 have nu:=Ff z i;have F4:=Py z i;rcases aoR hi with aw|heq
 ·have hx:z[i]?=some z[i]:=akC aw;have bU:aN .i64 ((i:Int)+1):=iW;have mb:=zA z i aw;have ux:=Kk z[i];have sL:=yx z[i].1;have S9:=h3 z[i] (aoV aw);have hj:=tZ z[i].1;have he:=vh z[i].1;have e1:aN .i64 ((aW (z.take i):Int)+1):=iW;have e2:aN .i64 ((aW (z.take i):Int)+1+(z[i].2:Int)):=iW;have e3:aN .i64 ((aW (z.take i):Int)+((mY z[i].1).length:Int)):=iW;cases sZ:jmp z[i].1.Op with
  | true=>
    rw[sZ]at hj ux;simp only[if_true]at ux;have dZ:(pT z)[i]?=some (z[i].2:Int):=by simp[pT,hx]
    simp[-cB,aw,hx,nu];refine⟨by omega,?_⟩;refine pC hj ?_;simp[-cB,aw,hx,nu,e1,e2,bU,dZ,pT,F4,mb,ux];omega
  | false=>
    rw[sZ]at hj ux;simp only[aph,if_false]at ux;simp[-cB,aw,hx,nu];refine⟨by omega,?_⟩;refine pC hj ?_;simp[-cB,aw,hx,nu];refine pC he ?_;simp[aw,hx,e3,bU,F4,mb,ux]
 ·subst heq;simp[nu,F4];omega
theorem RD(z:Zl)(hz:z.length≤1000000000)(h3:∀p∈z,p.2≤3):
  Pure prog 185 [dA (z.map Prod.fst),.d (.sl (aC (pT z)))] (.d (.sl (aC (yw z (z.length+1))))):=by
 refine rn func185 ?_;simp[-cB,f185];refine av.weaken (Wk.GQ (t:=6) (h:=1000) (k:=1) (ty:=3) (by rfl) (by simp[keys])) ?_;refine av.cI [0,1,5,6,7] z.length (λi=> [(5,iD (aW (z.take i))),(7,iD i)]) (λi=> [(1000,.row 3 1 (dd (aC (yw z i))))]) (λ_=>True) (by rfl) (by simp[yw,aW]) ?_;intro i hi hH;have hb:aW (z.take i)<=4 *i:=by
  have:=AJ (z.take i) (λp hp=>h3 p (apO hp));rw[apg]at this;omega
 have nu:=Ff z i;have F4:=Py z i;rcases aoR hi with aw|heq
 ·have hx:z[i]?=some z[i]:=akC aw;have bU:aN .i64 ((i:Int)+1):=iW;have mb:=zA z i aw;have ux:=Kk z[i];have sL:=yx z[i].1;have S9:=h3 z[i] (aoV aw);have hj:=tZ z[i].1;have he:=vh z[i].1;have e1:aN .i64 ((aW (z.take i):Int)+1):=iW;have e2:aN .i64 ((aW (z.take i):Int)+1+(z[i].2:Int)):=iW;have e3:aN .i64 ((aW (z.take i):Int)+((mY z[i].1).length:Int)):=iW;cases sZ:jmp z[i].1.Op with
  | true=>
    rw[sZ]at hj ux;simp only[if_true]at ux;have dZ:(pT z)[i]?=some (z[i].2:Int):=by simp[pT,hx]
    simp[-cB,aw,hx,nu];refine⟨by omega,?_⟩;refine pC hj ?_;simp[-cB,aw,hx,nu,e1,e2,bU,dZ,pT,F4,mb,ux];omega
  | false=>
    rw[sZ]at hj ux;simp only[aph,if_false]at ux;simp[-cB,aw,hx,nu];refine⟨by omega,?_⟩;refine pC hj ?_;simp[-cB,aw,hx,nu];refine pC he ?_;simp[aw,hx,e3,bU,F4,mb,ux]
 ·subst heq;simp[nu,F4];omega
theorem IW:∀(z:Zl) (n:Int),tO z n=((z.map Prod.fst).findIdx? (λi=>decide (i.Op=38)&&decide (i.Arg=n))).map (λk=>aW (z.take k))
 | [],n=>rfl
 | p::z,n=>by
   rw[tO,ao9,List.findIdx?_cons,IW z n];by_cases h:p.1.Op=38/\p.1.Arg=n
   ·have hb:(decide (p.1.Op=38)&&decide (p.1.Arg=n))=true:=by simpa using h
    rw[if_pos h,if_pos hb];rfl
   ·have hb:¬(decide (p.1.Op=38)&&decide (p.1.Arg=n))=true:=by simpa using h
    rw[if_neg h,if_neg hb,Option.map_map,Option.map_map];congr 1
theorem VO{z:Zl}{n:Int}{m:Nat}(h:tO z n=some m):∃k,k<z.length/\vY (z.map Prod.fst) (z.map Prod.fst).length n=(k:Nat)/\m=aW (z.take k):=by
 rw[IW]at h;obtain⟨k,hk,rfl⟩:=aoJ.1 h;refine⟨k,?_,?_,rfl⟩
 ·have:=aqt.1 hk;obtain⟨h1,_⟩:=this;simpa using h1
 ·unfold vY tW;rw[apl,hk]
theorem PA(z:Zl)(hz:z.length≤1000000000)(h3:∀p∈z,p.2≤3)(i:Nat)(hi:i < z.length)(hl:(tO z z[i].1.Arg).isSome):
  Pure prog 189 [dA (z.map Prod.fst),.d (.sl (aC (yw z (z.length+1)))),iD i] (iD (il z z[i].1.Arg (aW (z.take (i+1))))):=by
 obtain⟨m,hm⟩:=apJ.1 hl;obtain⟨k,hk,hn,ri⟩:=VO hm;have bQ:=zZ (z.map Prod.fst) (by simp;omega) (z.map Prod.fst).length (by omega) z[i].1.Arg;rw[hn]at bQ;have hF:il z z[i].1.Arg (aW (z.take (i+1)))=(m:Int)-(aW (z.take (i+1)):Int):=by unfold il;rw[hm];rfl
 rw[hF];have g1:=Kj z (n:=z.length+1) (k:=k) (by omega);have g2:=Kj z (n:=z.length+1) (k:=i+1) (by omega);have b1:=AJ (z.take k) (λp hp=>h3 p (apO hp));have b2:=AJ (z.take (i+1)) (λp hp=>h3 p (apO hp));rw[apg]at b1 b2;have bU:aN .i64 ((i:Int)+1):=iW;have h65:aN .i64 ((m:Int)-(aW (z.take (i+1)):Int)):=iW;have hx:z[i]?=some z[i]:=akC hi;have nu:=Ff z (z.length+1);rw[<-ri]at g1;have Ke:=bQ.ok;simp only[ao8]at Ke;refine rn func189 ?_;simp[-cB,f189];refine av.aU [Q0,Q0,Q0,Q0,Q0,Q0,Q0,Q0,Q0,Q0,Q0,Q0,Q0,Q0,Q0,Q0,Q0,Q0,Q0] [iD k] aT (by kernel_rfl) ?_;simp[Ke,hx,bU,h65,g1,g2,nu,hi];have g3:=(aoL.1 g2).2;exact⟨by omega,by omega,by rw[g3];exact h65,g3⟩
theorem Tk(z:Zl){i:Nat}(h:i<z.length):(pT z)[i]?=some (z[i].2:Int):=by
 simp[pT,akC h]
theorem D4:∀(a b i:Nat) (z:Zl) (x:Bool),dP (a+b) i z x=dP b (i+a) (dP a i z x).1 (dP a i z x).2
 | 0,b,i,z,x=>by simp[dP]
 | a+1,b,i,z,x=>by
   rw[show a+1+b=(a+b)+1 by omega,dP,dP];cases mP z i with
   | none=>simp only;rw[D4 a b (i+1) z x,show i+(a+1)=i+1+a by omega]
   | some z'=>simp only;rw[D4 a b (i+1) z' true,show i+(a+1)=i+1+a by omega]
theorem VP(n:Nat)(z:Zl)(x:Bool):dP (n+1) 0 z x=match mP (dP n 0 z x).1 n with
  | some z'=>(z',true)
  | none=>dP n 0 z x:=by
 rw[D4 n 1 0 z x,apz,dP];cases mP (dP n 0 z x).1 n with
 | none=>rfl
 | some z'=>rfl
def qy(z:Zl):Nat->Zl
 | 0=>z
 | k+1=>(dP (qy z k).length 0 (qy z k) false).1
theorem zB(z:Zl):∀k,qy z (k+1)=qy (qy z 1) k
 | 0=>rfl
 | k+1=>by rw[qy,zB z k];rfl
theorem LG:∀(g:Nat) (z z':Zl),ym g z=some z'->∃N,(∀k,k<N->(dP (qy z k).length 0 (qy z k) false).2=true)/\(dP (qy z N).length 0 (qy z N) false).2=false/\z'=qy z (N+1)
 | 0,z,z',h=>by cases h
 | g+1,z,z',h=>by
   rw[ym]at h;split at h
   ·rename_i hb;obtain⟨N,h1,h2,h3⟩:=LG g _ _ h;refine⟨N+1,λk hk=>?_,?_,?_⟩
    ·cases k with
     | zero=>exact hb
     | succ k=>rw[zB];exact h1 k (by omega)
    ·rw[zB];exact h2
    ·rw[zB];exact h3
   ·rename_i hb;simp only[anc]at h;exact⟨0,λk hk=>by omega,(by simpa using hb:(dP z.length 0 z false).2=false),h.symm⟩
theorem Zi(z:Zl)(h:∀p∈z,zY p):∀k,(qy z k).map Prod.fst=z.map Prod.fst/\∀p∈qy z k,zY p
 | 0=>⟨rfl,h⟩
 | k+1=>by
   obtain⟨h1,h2⟩:=Zi z h k;obtain⟨a1,a2,_⟩:=yq (qy z k).length 0 (qy z k) false h2;exact⟨a1.trans h1,a2⟩
theorem BJ(l:List ai):(kG l).map Prod.fst=l:=by unfold kG;rw[ap6];exact List.map_id l
theorem Kl(l:List ai):∀p∈kG l,zY p:=by
 intro p hp;unfold kG at hp;obtain⟨i,_,rfl⟩:=aoQ.1 hp;exact⟨by simp,λ_=>by simp⟩
theorem aeh(l:List ai):pT (kG l)=List.replicate l.length 0:=by
 unfold pT kG;rw[ap6];have h:((λp:ai×Nat=>(p.2:Int)) ∘ λi:ai=>(i,0))=λ_=>(0:Int):=rfl
 rw[h,List.map_const']
theorem Zj{z:Zl}{i:Nat}(hi:i<z.length)(h:jmp z[i].1.Op=false):mP z i=none:=by
 unfold mP;rw[akC hi];simp[h]
theorem aei(z:Zl)(i:Nat)(x:ai)(n:Nat):pT (z.set i (x,n))=(pT z).set i (n:Int):=by
 simp[pT,List.map_set]
theorem aej{a b:Zl}(h:a.map Prod.fst=b.map Prod.fst){i:Nat}(ha:i<a.length)(hb:i<b.length):a[i].1=b[i].1:=by
 have:=congrArg (λl=>l[i]?) h;simp only[aoN,akC ha,akC hb,apc,anc]at this;exact this
theorem VQ(l:List ai)(hl:l.length≤1000000000)(z':Zl)(hz:ym (3 *l.length+1) (kG l)=some z')(od:∀i∈l,jmp i.Op=true→(bP l).contains i.Arg=true):
  Pure prog 184 [dA l] (.d (.sl (aC (pT z')))):=by
 obtain⟨N,hN1,YG,rfl⟩:=LG _ _ _ hz;have my:=Zi (kG l) (Kl l);simp only[BJ]at my;have hlen:∀k,(qy (kG l) k).length=l.length:=λk=>by simpa using congrArg List.length (my k).1
 refine rn func184 ?_;simp[-cB,f184];refine⟨⟨by simp[maxLen];omega,by omega⟩,?_⟩;refine av.weaken (Wk.eS 9 5002 (by simp[keys])) ?_;refine av.cI [0,3,4] (N+1) (λk=> [(4,oD (decide (k<=N)))]) (λk=> [(5002,.row 3 1 (dd (aC (pT (qy (kG l) k)))))]) (λk=>k<=N+1) (by rfl) (by simp[qy,aeh]) ?_;intro k hk hH;rcases aoR hk with tH|rfl
 ·have Zk:k<=N:=by omega
  obtain⟨hf,aO⟩:=my k;have nT:=hlen k;have VR:qy (kG l) (k+1)=(dP l.length 0 (qy (kG l) k) false).1:=by rw[qy,nT]
  have yN:decide (k+1<=N)=(dP l.length 0 (qy (kG l) k) false).2:=by
   rcases aoR Zk with h|rfl
   ·have:=hN1 k h;rw[nT]at this;rw[this];simp;omega
   ·rw[nT]at YG;rw[YG];simp
  obtain⟨z,hzz⟩:∃z,qy (kG l) k=z:=⟨_,rfl⟩
  rw[hzz]at hf aO nT VR yN⊢;clear hN1 YG hz my hlen hzz;simp[-cB,Zk];refine av.cI [0,3,4,5] l.length (λj=> [(4,oD (dP j 0 z false).2),(5,iD j)]) (λj=> [(5002,.row 3 1 (dd (aC (pT (dP j 0 z false).1))))]) (λ_=>True) (by rfl) (by simp[dP]) ?_;intro j hj _;obtain⟨q1,q2,_⟩:=yq j 0 z false aO;rw[hf]at q1;rcases aoR hj with aw|rfl
  ·have dH:=VP j z false;obtain⟨zj,hzj⟩:∃y,(dP j 0 z false).1=y:=⟨_,rfl⟩
   obtain⟨bj,Oi⟩:∃y,(dP j 0 z false).2=y:=⟨_,rfl⟩
   have pJ:dP j 0 z false=(zj,bj):=by rw[<-hzj,<-Oi]
   rw[pJ]at dH;rw[hzj]at q1 q2;have abM:zj.length=l.length:=by simpa using congrArg List.length q1
   have yy:j<zj.length:=by omega
   have D5:l[j]?=some zj[j].1:=by rw[<-q1,aoN,akC yy];rfl
   have D6:l[j]=zj[j].1:=by
    rw[akC aw]at D5;exact aoK D5
   have h3:∀p∈zj,p.2<=3:=λp hp=>(q2 p hp).1
   have y9:=tZ zj[j].1;have bU:aN .i64 ((j:Int)+1):=iW;simp only at dH;cases sZ:jmp zj[j].1.Op with
   | false=>
     rw[Zj yy sZ]at dH;simp only at dH;rw[sZ]at y9;simp[-cB,aw,D6,pJ,dH];refine pC y9 ?_;simp[-cB,aw,D6,pJ,dH,bU]
   | true=>
     rw[sZ]at y9;have fp:zj[j].1.Arg∈bP (zj.map Prod.fst):=by
      rw[q1];have:=od zj[j].1 (aoO D5) sZ;simpa using this
     have fJ:=Pz zj (by omega) h3;have O0:=PA zj (by omega) h3 j yy (wN _ _ fp);rw[q1,abM]at fJ;rw[q1,abM]at O0;have hfi:=Zf (il zj zj[j].1.Arg (aW (zj.take (j+1))));have hg:mP zj j=if zj[j].2<oH (il zj zj[j].1.Arg (aW (zj.take (j+1))))then some (zj.set j (zj[j].1,oH (il zj zj[j].1.Arg (aW (zj.take (j+1))))))else none:=by
      unfold mP;rw[akC yy];simp[sZ]
     have Zm:=Tk zj yy;have Tl:(pT zj).length=l.length:=by simp[pT,abM]
     have Km:(pT zj)[j]'(by omega)=(zj[j].2:Int):=(aoL.1 Zm).2;have hss:=aei zj j;obtain⟨n,hn⟩:∃n,oH (il zj zj[j].1.Arg (aW (zj.take (j+1))))=n:=⟨_,rfl⟩
     rw[hn]at hfi hg;simp[-cB,aw,D6,pJ,dH];refine pC y9 ?_;simp[-cB,aw,D6,pJ,dH,bU];refine au.ahq 1000 rfl fJ (by kernel_rfl) rfl (by simp) (by simp) (by simp[aC,Px]) rfl (by simp) rfl (by simp[keys]) ?_;simp[-cB,aw,D6,pJ,dH,bU];refine lC O0 ?_;simp[-cB,aw,D6,pJ,dH,bU];refine pC hfi ?_;by_cases hc:zj[j].2<n
     ·rw[if_pos hc]at hg;rw[hg]at dH;have sK:((zj[j].2:Nat):Int)<(n:Nat):=by omega
      simp[aw,D6,pJ,dH,bU,Zm,Km,Tl,hc,sK,hss]
     ·rw[if_neg hc]at hg;rw[hg]at dH;have sK:¬((zj[j].2:Nat):Int)<(n:Nat):=by omega
      simp[aw,D6,pJ,dH,bU,Zm,Km,Tl,hc,sK]
  ·simp[-cB];rw[yN,VR];exact⟨tH,⟨rfl,rfl⟩,Zk⟩
 ·simp;intro h;omega
def BK(S:ByteArray)(i:Nat):Bool:=(S.data[i]?.getD 0).toNat==32
def jj(S:ByteArray):Nat->Nat×ByteArray
 | 0=>(0,⟨#[]⟩)
 | i+1=>if BK S i then((jj S i).1+1,⟨#[]⟩)else((jj S i).1,(jj S i).2++S.extract i (i+1))
theorem Zn(S:ByteArray):∀i,(jj S i).1<=i
 | 0=>aoT _
 | i+1=>by
   have:=Zn S i;rw[jj];split<;>simp only<;>omega
theorem Zo(S:ByteArray):∀i,(jj S i).2.size<=i
 | 0=>aoT _
 | i+1=>by
   have:=Zo S i;rw[jj];split
   ·exact ap0 _
   ·simp only[ao6,ByteArray.size_extract];omega
def vj(S:ByteArray)(o:Int):Nat->Nat->ByteArray
 | 0,_=>⟨#[]⟩
 | n+1,i=>if BK S i=true/\((jj S i).1:Int)=o/\0<o then(jj S i).2 else vj S o n (i+1)
def Hg(S:ByteArray):Nat->Nat->Nat
 | 0,_=>0
 | n+1,i=>(if BK S i then 1 else 0)+Hg S n (i+1)
def PB(S:ByteArray):Nat->Nat->Bool->Bool->Bool
 | 0,_,_,_=>true
 | n+1,i,e,z=>if BK S i then(z||!e)&&PB S n (i+1) true false else PB S n (i+1) false z
theorem IX{S:ByteArray}{o:Int}:∀(n i:Nat),o<=0\/((jj S i).1+Hg S n i:Nat)<=o->vj S o n i=⟨#[]⟩
 | 0,i,h=>rfl
 | n+1,i,h=>by
   rw[vj];rw[Hg]at h;rw[if_neg]
   ·refine IX n (i+1) ?_;rcases h with h|h
    ·exact .inl h
    ·right;rw[jj];split
     ·rename_i hb;rw[if_pos hb]at h;simp only;omega
     ·rename_i hb;rw[if_neg hb]at h;simp only;omega
   ·rintro⟨h1,h2,h3⟩;rcases h with h|h
    ·omega
    ·rw[if_pos h1]at h;omega
theorem BL{S:ByteArray}{o:Int}:∀(n i:Nat) (e z:Bool),i+n<=S.size->PB S n i e z=true->(e=false->(jj S i).2.size≠0)->(z=false->0<(jj S i).1)->(z=true->(jj S i).1=0)->0<o->((jj S i).1:Int)<=o->o<((jj S i).1+Hg S n i:Nat)->(vj S o n i).size≠0
 | 0,i,e,z,hn,hc,he,hz,sI,h0,h1,h2=>by simp[Hg]at h2;omega
 | n+1,i,e,z,hn,hc,he,hz,sI,h0,h1,h2=>by
   rw[vj];rw[PB]at hc;rw[Hg]at h2;by_cases hb:BK S i=true
   ·rw[if_pos hb]at hc h2;simp only[aoM,Bool.or_eq_true,aqG]at hc;by_cases ho:((jj S i).1:Int)=o
    ·rw[if_pos ⟨hb,ho,h0⟩];rcases hc.1 with h|h
     ·have:=sI h;omega
     ·exact he h
    ·rw[if_neg (λh=>ho h.2.1)];have hs:jj S (i+1)=((jj S i).1+1,⟨#[]⟩):=by rw[jj,if_pos hb]
     refine BL n (i+1) true false (by omega) hc.2 (λh=>by cases h) (λ_=>by rw[hs];simp) (λh=>by cases h) h0 ?_ ?_
     ·rw[hs];simp only;omega
     ·rw[hs];simp only;omega
   ·rw[if_neg hb]at hc h2;rw[if_neg (λh=>hb h.1)];have hs:jj S (i+1)=((jj S i).1,(jj S i).2++S.extract i (i+1)):=by rw[jj,if_neg hb]
    refine BL n (i+1) false z (by omega) hc (λ_=>?_) (λh=>by rw[hs];exact hz h) (λh=>by rw[hs];exact sI h) h0 ?_ ?_
    ·rw[hs];simp only[ao6,ByteArray.size_extract];omega
    ·rw[hs];exact h1
    ·rw[hs];simp only;omega
theorem Zp(o:Int):∃R:ByteArray,Pure prog 235 [iD o] (.d (.v (.string R)))/\(R.size=0↔o<1\/38<o):=by
 obtain⟨S,hS⟩:∃S:ByteArray,S={data:= #[32,112,117,115,104,32,112,111,112,32,103,108,111,98,97,108,32,112,117,116,103,108,111,98,97,108,32,108,111,99,97,108,32,112,117,116,108,111,99,97,108,32,115,101,108,102,32,98,105,110,32,110,101,103,32,110,111,116,32,116,101,115,116,32,104,97,115,32,112,114,111,112,32,112,117,116,32,115,101,116,32,117,110,115,101,116,32,109,111,118,101,32,114,101,109,111,118,101,32,116,114,101,101,32,114,97,110,100,111,109,32,116,101,120,116,32,110,117,109,32,116,105,116,108,101,32,106,117,109,112,32,122,101,114,111,32,99,97,108,108,32,114,101,116,117,114,110,32,115,116,111,112,32,119,105,110,32,108,111,115,101,32,97,119,97,114,100,32,115,116,97,114,116,32,104,97,108,116,32,116,114,97,118,101,108,32,108,111,111,107,32,108,105,115,116,32,116,105,99,107,32,108,97,98,101,108,32]}:=⟨_,rfl⟩
 have hz:S.size=207:=by rw[hS];rfl
 have hk:PB S 207 0 true true=true:=by rw[hS];decide+kernel
 have hc:Hg S 207 0=39:=by rw[hS];decide+kernel
 refine⟨vj S o 207 0,?_,?_⟩
 ·obtain⟨R,hR⟩:∃R,vj S o 207 0=R:=⟨_,rfl⟩
  rw[hR];refine rn func235 ?_;simp[-cB,f235];rw[<-hS];clear hS hk hc;refine av.cI [0,3,4,5] 207 (λi=> [(3,iD (jj S i).1),(4,.d (.v (.string (jj S i).2))),(5,iD i)]) (λ_=> []) (λi=>vj S o (207-i) i=R) (by rfl) (by simp[jj,hR]) ?_;intro i hi hH;rcases aoR hi with aw|heq
  ·have dj:(i:Int)<207:=by omega
   have PC:i<S.size:=by omega
   have bU:aN .i64 ((i:Int)+1):=iW;have bQ:jj S (i+1)=if BK S i then((jj S i).1+1,⟨#[]⟩)else((jj S i).1,(jj S i).2++S.extract i (i+1)):=rfl
   rw[show 207-i=(207-(i+1))+1 by omega,vj]at hH;have rk:BK S i=(S.data[i].toNat==32):=by
    unfold BK;rw[ao7 PC];rfl
   have CI:207-(i+1)=206-i:=by omega
   have h65:aN .i64 (((jj S i).1:Int)+1)->True:=λ_=>trivial
   have hcb:(jj S i).1<=i:=Zn S i;have h66:aN .i64 (((jj S i).1:Int)+1):=iW;cases hb:BK S i with
   | true=>
     rw[hb]at bQ hH rk;simp only[if_true]at bQ;simp only[true_and]at hH;have Zq:((S.data[i].toNat:Int) !=32)=false:=by
      have:S.data[i].toNat=32:=by simpa using rk.symm
      simp[this]
     by_cases ho:((jj S i).1:Int)=o/\0<o
     ·rw[if_pos ho]at hH;simp[-cB,aw,dj,PC,Zq,ho.1,ho.2,hH]
     ·rw[if_neg ho]at hH;by_cases CH:((jj S i).1:Int)=o
      ·have DD:¬0<o:=λh=>ho ⟨CH,h⟩
       simp[aw,dj,PC,Zq,CH,DD,bU,bQ,hH];rw[CH]at h66;exact⟨h66,by rw[<-CI];exact hH⟩
      ·simp[aw,dj,PC,Zq,CH,bU,h66,bQ,hH];rw[<-CI];exact hH
   | false=>
     rw[hb]at bQ hH rk;simp only[aph,if_false,false_and]at bQ hH;have Zq:((S.data[i].toNat:Int) !=32)=true:=by
      have:S.data[i].toNat≠32:=by simpa using rk.symm
      simp;omega
     simp[aw,dj,PC,Zq,bU,bQ,hH];have dZ:=Zo S i;exact⟨⟨by omega,by omega⟩,by omega,by rw[<-CI];exact hH⟩
  ·subst heq;have:vj S o 0 207=R:=hH;simp;exact this
 ·constructor
  ·intro h;by_cases hh:o<1\/38<o
   ·exact hh
   ·exact absurd h (BL 207 0 true true (by omega) hk (λh=>by cases h) (λh=>by cases h) (λ_=>rfl) (by omega) (by simp[jj];omega) (by rw[hc];simp[jj];omega))
  ·intro h;rw[IX 207 0 (by rw[hc];simp[jj];omega)];rfl
theorem PD l k n: -1<=vY l k n/\(0<=vY l k n↔(bP (l.take k)).contains n=true):=by
 unfold vY tW;cases h:(l.take k).findIdx? (λi=>decide (i.Op=38)&&decide (i.Arg=n))with
 | none=>
   grind[List.findIdx?_eq_none_iff,bP,qt]
 | some j=>
   grind[List.findIdx?_eq_some_iff_getElem,bP,qt,List.getElem_mem]
set_option maxHeartbeats 2000000 in
theorem VS(l:List ai)(hl:l.length<=100000000000)(i:Nat)(hi:i<l.length):Pure prog 183 [dA l,iD i] (iD (tP l (l.take i) l[i])):=by
 obtain⟨⟨o,a⟩,hx⟩:∃x,l[i]=x:=⟨_,rfl⟩
 rw[hx];have Tm:l[i]?=some ⟨o,a⟩:=by rw[akC hi,hx]
 have vl:=zZ l hl l.length (aoT _) a;have rB:=zZ l hl i (by omega) a;obtain⟨-,p2⟩:=PD l l.length a;obtain⟨-,q2⟩:=PD l i a;rw[apl]at p2;obtain⟨R,hR,hRz⟩:=Zp o;have hh:=He o;have hI:=ng a;have hIb:gQ a=ki a:=by simp[gQ,ki,bJ]
 rw[hIb]at hI;have hj:=tZ ⟨o,a⟩;have hR0:R.toList=[]↔o<1\/38<o:=by
  rw[<-hRz,ByteArray.toList_eq,Array.toList_eq_nil_iff];exact⟨λh=>by rw[ByteArray.size,h];rfl,Array.eq_empty_of_size_eq_zero⟩
 obtain⟨W,hW⟩:∃W,tP l (l.take i) ⟨o,a⟩=W:=⟨_,rfl⟩
 rw[hW];unfold tP at hW;generalize vY l l.length a=A at *;generalize vY l i a=B at *;generalize (bP l).contains a=c1 at *;generalize (bP (l.take i)).contains a=c2 at *;simp only at hj hW;generalize jmp o=j at *;generalize ni o=k at *;generalize ki a=b at *;clear hRz hIb;refine rn func183 ?_;simp[-cB,f183];intro bs;simp[-cB,hx,hi,ai.enc]
 repeat' (first
  | (with_reducible refine And.intro ?_ ?_)
  | (refine ax (λh=>?_) (λh=>?_)<;>(try simp at h)<;>(try simp[-cB,h,hx,hi,ai.enc]))
  | ((first|refine pC hj ?_|refine pC vl ?_|refine pC rB ?_|refine pC hR ?_|refine pC hh ?_|refine pC hI ?_|refine lC hj ?_|refine lC vl ?_|refine lC rB ?_|refine lC hR ?_|refine lC hh ?_|refine lC hI ?_|refine pG hj ?_|refine pG vl ?_|refine pG rB ?_|refine pG hR ?_|refine pG hh ?_|refine pG hI ?_)<;>(try simp[-cB,hx,hi,ai.enc]))
  | (with_reducible intro _))
 all_goals grind
theorem LH{w:Zl}{k:Nat}{p:ai×Nat}(h:jmp p.1.Op=false):om w k p=mY p.1:=by
 unfold om;split
 ·rename_i kL;unfold mY;rw[if_pos (by omega)]
 ·rw[if_neg (by rw[h];simp)]
theorem D7{w:Zl}{k:Nat}{p:ai×Nat}(h:jmp p.1.Op=true):om w k p=fN p.1.Op (il w p.1.Arg (k+dY p)) p.2:=by
 unfold om;rw[if_neg (λkL=>by rw[kL]at h;cases h),if_pos h]
theorem VT(w z:Zl)(i:Nat)(h:i<z.length):fe w 0 (z.take (i+1))=fe w 0 (z.take i)++om w (aW (z.take i)) z[i]:=by
 rw[api,akC h,DU];simp[fe]
theorem PE(w:Zl)(k:Nat)(p:ai×Nat):(om w k p).length<=3:=by
 by_cases h:jmp p.1.Op=true
 ·rw[D7 h,fN,aoU];have:(jU (il w p.1.Arg (k+dY p)) p.2).length<=2:=by
   match p.2 with
   | 0=>simp[jU]
   | 1=>simp[jU]
   | n+2=>simp[jU]
  omega
 ·rw[LH (by simpa using h)];exact yx _
theorem Hi(w:Zl):∀(k:Nat) (z:Zl),(fe w k z).length<=3 *z.length
 | k,[]=>by simp[fe]
 | k,p::z=>by
   have:=Hi w (k+dY p) z;have:=PE w k p;rw[fe,aoS,aoU];omega
theorem afU{o:Int}(h:jmp o=true):1<=o/\o<38:=by
 unfold jmp at h;simp only[Bool.or_eq_true,decide_eq_true_eq]at h;omega
theorem VU{l:List ai}(h:tQ l [] l=0):∀i∈l,jmp i.Op=true->(bP l).contains i.Arg=true:=by
 intro i hi hj;obtain⟨b,c,hbc⟩:=aqB hi;have:=DY [] l h b i c hbc;unfold tP at this;split at this
 ·omega
 ·rename_i hn;cases hc:(bP l).contains i.Arg with
  | true=>rfl
  | false=>exact absurd ⟨hj,hc⟩ hn
theorem BM(l:List Int):∀x∈gJ l,x.length=1:=by
 intro x hx;obtain⟨c,_,rfl⟩:=aoQ.1 hx;rfl
theorem MB(l:List ai)(hl:l.length<=1000000000):Pure prog 124 [dA l] (.bA [Pv (pv l).1,iD (pv l).2]):=by
 obtain⟨c,hc⟩:∃c,pv l=c:=⟨_,rfl⟩
 have hw0:DW l=tQ l (l.take 0) (l.drop 0):=rfl;obtain⟨E,hE⟩:∃E,DW l=E:=⟨_,rfl⟩
 rw[hE]at hw0;obtain⟨z,hz,hf,h3,_⟩:=zx (3 *l.length+1) (kG l) (Kl l) (by simp[kG];omega);rw[BJ]at hf;have nT:z.length=l.length:=by simpa using congrArg List.length hf
 have dZ:=VQ l hl z hz;have HU:∀p∈z,p.2<=3:=λp hp=>(h3 p hp).1
 have fJ:=RD z (by omega) HU;rw[hf,nT]at fJ;have nu:=Ff z (l.length+1);have F9:=Kj z (n:=l.length+1) (k:=l.length) (by omega);have abN:(yw z (l.length+1))[l.length]'(by omega)=(aW z:Int):=by
  rw[akC (by omega)]at F9;rw[aoK F9,<-nT,apl]
 have wh:=hc;unfold pv at wh;rw[hE,hz]at wh;simp only at wh;rw[hc];refine rn func124 ?_;simp[-cB,f124];refine av.cI [0,4] l.length (λi=> [(4,iD i)]) (λ_=> []) (λi=>tQ l (l.take i) (l.drop i)=E) (by rfl) (by simpa using hw0.symm) ?_;intro i hi hH;rcases aoR hi with aw|heq
 ·have bU:aN .i64 ((i:Int)+1):=iW;have Ox:=VS l (by omega) i aw;have hdr:l.drop i=l[i]::l.drop (i+1):=by rw[<-List.getElem_cons_drop]
  have xL:l.take i++ [l[i]]=l.take (i+1):=by rw[api,akC aw];rfl
  rw[hdr,tQ,xL]at hH;by_cases hw:tP l (l.take i) l[i]=0
  ·rw[if_pos hw]at hH;rw[hw]at Ox;simp[-cB,aw];refine pC Ox ?_;simp[aw,bU,hH]
  ·rw[if_neg hw]at hH;rw[hH]at Ox hw;rw[if_pos hw]at wh;simp[-cB,aw];refine pC Ox ?_;simp[aw,hw,<-wh];rfl
 ·have hE0:E=0:=by
   rw[heq,apl,List.drop_length,tQ]at hH;exact hH.symm
  have od:=VU (l:=l) (by rw[<-hE0];exact hE);have dZ:=dZ od;rw[hE0]at wh;simp at wh;simp[-cB,heq];refine pC dZ ?_;simp;refine pC fJ ?_;have ac6:(65536:Int)<(aW z:Int)↔65536<aW z:=by omega
  by_cases hL:65536<aW z
  ·rw[if_pos hL]at wh;simp[nu,abN,hL,ac6,<-wh];rfl
  ·rw[if_neg hL]at wh;simp[nu,abN,hL,ac6];clear hH hE hw0 hz F9 abN;refine av.weaken (Wk.GQ (t:=8) (h:=1000) (k:=1) (ty:=5) (by rfl) (by simp[keys])) ?_;refine av.cI [0,6,7,8,9] l.length (λi=> [(9,iD i)]) (λi=> [(1000,.row 5 1 (dd (gJ (fe z 0 (z.take i)))))]) (λi=>∀p∈z.take i,(jmp p.1.Op&&decide (p.2=3))=false) (by rfl) (by simp[fe,gJ]) ?_;intro j hj hJ;have nF:=Hi z 0 (z.take j);rw[apg]at nF;rcases aoR hj with aw|GJ
   ·have yy:j<z.length:=by omega
    have bU:aN .i64 ((j:Int)+1):=iW;have D5:l[j]=z[j].1:=by
     have:=aej (a:=z) (b:=kG l) (by rw[hf,BJ]) yy (by simp[kG];omega);rw[this];simp[kG]
    have y9:=tZ z[j].1;have jY:=VT z z j yy;have Zm:=Tk z yy;have Tl:(pT z).length=l.length:=by simp[pT,nT]
    have Km:(pT z)[j]'(by omega)=(z[j].2:Int):=(aoL.1 Zm).2;have S9:=HU z[j] (aoV yy);have MQ:(jmp z[j].1.Op&&decide (z[j].2=3))=false->∀p∈z.take (j+1),(jmp p.1.Op&&decide (p.2=3))=false:=by
     intro h p hp;rcases sa (akC yy) hp with h'|rfl
     ·exact hJ p h'
     ·exact h
    cases sZ:jmp z[j].1.Op with
    | false=>
      rw[sZ]at y9 MQ;have he:=vh z[j].1;have sL:=yx z[j].1;rw[LH sZ]at jY;simp[-cB,aw,D5];refine pC y9 ?_;simp[-cB,aw,D5];refine pC he ?_;simp[aw,bU,jY];exact⟨⟨BM _,by omega⟩,λa b zw Sf=>by have:=MQ rfl (a,b) zw;simpa[Sf]using this⟩
    | true=>
      rw[sZ]at y9 MQ;simp[-cB,aw,D5];refine pC y9 ?_;by_cases h3:z[j].2=3
      ·simp[aw,D5,Tl,Km,h3];have yj:(z.any λp=>jmp p.1.Op&&decide (p.2=3))=true:=aqg.2 ⟨z[j],aoV yy,by simp[sZ,h3]⟩;rw[yj]at wh;simp at wh;rw[<-wh];exact⟨rfl,rfl⟩
      ·have YF:¬((z[j].2:Nat):Int)=3:=by omega
       have O0:=PA z (by omega) HU j yy (wN _ _ (by rw[hf];have:=od z[j].1 (by rw[<-D5];exact aoV aw) sZ;simpa using this));rw[hf,nT]at O0;rw[D7 sZ,<-zA z j yy]at jY;have hjp:=Zg z[j].1.Op (il z z[j].1.Arg (aW (z.take (j+1)))) z[j].2 (afU sZ) (by omega);simp[aw,D5,Tl,Km,YF];refine av.aU [Q0,Q0,Q0,Q0,Q0,Q0,Q0,Q0,Q0,Q0,Q0,Q0,Q0,Q0,Q0,none,arb] [iD (il z z[j].1.Arg (aW (z.take (j+1)))),Pv (fN z[j].1.Op (il z z[j].1.Arg (aW (z.take (j+1)))) z[j].2)] aT (by kernel_rfl) ?_;simp[aw,D5,Tl,Km,YF,O0.ok,hjp.ok,jY,bU];have tH:(fN z[j].1.Op (il z z[j].1.Arg (aW (z.take (j+1)))) z[j].2).length<=3:=by
        have:=PE z (aW (z.take j)) z[j];rw[D7 sZ,<-zA z j yy]at this;exact this
       exact⟨⟨BM _,by omega⟩,λa b zw Sf=>by have:=MQ (by simp[h3]) (a,b) zw;simpa[Sf]using this⟩
   ·have ahr:(z.any λp=>jmp p.1.Op&&decide (p.2=3))=false:=by
     rw[ap3];intro p hp;rw[GJ,<-nT,apl]at hJ;rw[hJ p hp];simp
    rw[ahr]at wh;simp at wh;simp[GJ,<-wh];rw[<-nT,apl]
theorem Gb{t:ar}{locals:Int}{e:ay}(h:cT t locals e false=true)(hk:e.Kind=6):∃a b,e.aF=[a,b]:=by
 rw[mQ,aoM]at h;have h1:=h.1;simp[im,hk,fF]at h1;have hl:e.aF.length=2:=by omega
 generalize e.aF=l at hl
 match l,hl with
 | [a,b],_=>exact⟨a,b,rfl⟩
theorem zC{t:ar}{locals:Int}{e x:ay}{said:Bool}(h:cT t locals e said=true)(hx:x∈e.aF):cT t locals x false=true:=by
 rw[mQ,aoM,ph,aoP]at h;exact h.2 x hx
def fG(r:List ai×Int):V:= .bA [.d (.sl (r.1.map ai.enc)),iD r.2]
theorem z6(l:List ay)(hl:l.length≤2199023255488)(n:Int)(hn:0≤n∧n+2 *fq l≤1000000000)
  (ih:∀(i:Nat) (h:i<l.length) (m:Int),0<=m/\m+2 *tU l[i]<=1000000000->Pure prog 292 [.agg (l[i].enc.map .d),iD m] (fG (aX l[i] m))):
  Pure prog 298 [.d (.sl (l.map ay.enc)),iD n] (fG (aZ l n)):=by
 have iE:=λi=>yu (l.take i) (λx _ m=>lr x m) n
 have ajA:∀i,fq (l.take i)<=fq l:=λi=>by
  have:=Hc (l.take i) (l.drop i);rw[ao5]at this;omega
 unfold fG;refine rn func298 ?_;simp[f298];refine av.weaken (Wk.aa1 (t:=6) rfl) ?_;refine av.cI [0,1,6,7] l.length (λi=> [(1,iD (aZ (l.take i) n).2),(6,.d (.sl ((aZ (l.take i) n).1.map ai.enc))),(7,iD i)]) (λ_=> []) (λ_=>True) (by rfl) (by simp[aZ]) ?_;intro i hi _;rcases aoR hi with aw|rfl
 ·have bm:l[i]?=some l[i]:=akC aw;have xL:List.take (i+1) l=List.take i l++ [l[i]]:=by rw[api,bm];rfl
  have hS:=ih i aw;have dH:=VG (l.take i) l[i] n;have dZ:=Hc (l.take i) [l[i]];rw[<-xL]at dH dZ;simp only[fq]at dZ;have h0:=ajA (i+1);have h1:=iE i;have h2:=lr l[i] (aZ (l.take i) n).2;generalize hE:l[i]=x at *;generalize hM:aZ (l.take i) n=k at *;generalize hM':aZ (l.take (i+1)) n=k' at *;obtain⟨k1,k2⟩:=k;simp only at dH h1 h2;have a4:aN .i64 ((i:Int)+1):=iW;simp[aw,bm,hE];have hC:=hS k2 ⟨by omega,by omega⟩;generalize aX x k2=q at *;obtain⟨q1,q2⟩:=q;unfold fG at hC;simp only at h2 dH hC;refine au.bB rfl (hC) (by simp) rfl (by simp) rfl ?_;simp;refine au.bB rfl (dF k1 q1 (by omega) (by omega)) (by simp) rfl (by simp) rfl ?_;simp[hM',dH,a4,aw]
 ·simp
theorem IY(t:ar)(locals:Int)(e:ay)(he:e.wf)(hb:cT t locals e false=true)(n:Int)(hn:0≤n∧n+2 *tU e≤1000000000):
  Pure prog 292 [.agg (e.enc.map .d),iD n] (fG (aX e n)):=by
 obtain⟨N,hN⟩:∃N,SizeOf.sizeOf e<N:=⟨_,ao2 _⟩
 induction N generalizing e n with
 | zero=>omega
 | succ N ih=>
   have hw:=(ay.qj e).1 he;have hlen:e.aF.length<=2199023255488:=by omega
   have jT:∀x∈e.aF,∀m:Int,0<=m/\m+2 *tU x<=1000000000->Pure prog 292 [.agg (x.enc.map .d),iD m] (fG (aX x m)):=λx hx m hm=>
    ih x (hw.2.2.2.2.2 _ hx) (zC hb hx) m hm (by have:=ay.qu hx;omega)
   have hz:=vI e;by_cases hk:e.Kind=6
   ·obtain⟨a,b,hA⟩:=Gb hb hk;have hSa:=jT a (by simp[hA]);have hSb:=jT b (by simp[hA]);rw[hA]at hz;simp only[fq]at hz;have ba:=lr a (n+2);have bb:=lr b (aX a (n+2)).2;have a1:aN .i64 (n+2):=iW;have a2:aN .i64 (n+1):=iW;have Ai:=λL=>(uT n).ok L
    have sW:=λm L=>(lP m).ok L
    have lW:=λm L=>(xe m).ok L
    have hl3:=λa b L=>(cP a b).ok L
    have ca:=hSa (n+2) ⟨by omega,by omega⟩;by_cases ho:e.Op=1
    ·rw[Fb e a b [] n hk ho hA];generalize aX a (n+2)=p at *;obtain⟨p1,p2⟩:=p;have cb:=hSb p2 ⟨by omega,by omega⟩;generalize aX b p2=q at *;obtain⟨q1,q2⟩:=q;unfold fG at ca cb⊢;simp only at ba bb ca cb⊢;refine rn func292 ?_;simp[f292,hk,ho];intro bs;simp[hA,a1];refine au.bB rfl (ca) (by simp) rfl (by simp) rfl ?_;simp[hA,a1,a2,ho];refine au.bB rfl (cb) (by simp) rfl (by simp) rfl ?_;simp[hA,a1,a2,ho];refine au.bB rfl (uT n) (by simp) rfl (by simp) rfl ?_;simp[hA,a1,a2,ho];refine au.weaken (Wk.freeze 48 (ys:=([ai.mk 25 n]).map _) rfl) ?_;simp;refine au.bB rfl (dF (p1) [ai.mk 25 n] (by first|omega|(simp<;>omega)) (by simp)) (by simp) rfl (by simp) rfl ?_;simp[hA,a1,a2,ho];refine au.bB rfl (cP 1 1) (by simp) rfl (by simp) rfl ?_;simp[hA,a1,a2,ho];refine au.bB rfl (xe (n+1)) (by simp) rfl (by simp) rfl ?_;simp[hA,a1,a2,ho];refine au.bB rfl (lP n) (by simp) rfl (by simp) rfl ?_;simp[hA,a1,a2,ho];refine au.weaken (Wk.freeze 60 (ys:=([ai.mk 1 1,ai.mk 24 (n+1),ai.mk 38 n]).map _) rfl) ?_;simp;refine au.bB rfl (dF (p1++ [ai.mk 25 n]) [ai.mk 1 1,ai.mk 24 (n+1),ai.mk 38 n] (by first|omega|(simp<;>omega)) (by simp)) (by simp) rfl (by simp) rfl ?_;simp[hA,a1,a2,ho];refine au.bB rfl (dF (p1++ [ai.mk 25 n]++ [ai.mk 1 1,ai.mk 24 (n+1),ai.mk 38 n]) q1 (by first|omega|(simp<;>omega)) (by omega)) (by simp) rfl (by simp) rfl ?_;simp[hA,a1,a2,ho];refine au.bB rfl (cP 11 0) (by simp) rfl (by simp) rfl ?_;simp[hA,a1,a2,ho];refine au.bB rfl (lP (n+1)) (by simp) rfl (by simp) rfl ?_;simp[hA,a1,a2,ho];refine au.weaken (Wk.freeze 69 (ys:=([ai.mk 11 0,ai.mk 38 (n+1)]).map _) rfl) ?_;simp;refine au.bB rfl (dF (p1++ [ai.mk 25 n]++ [ai.mk 1 1,ai.mk 24 (n+1),ai.mk 38 n]++q1) [ai.mk 11 0,ai.mk 38 (n+1)] (by first|omega|(simp<;>omega)) (by simp)) (by simp) rfl (by simp) rfl ?_;simp[hA,a1,a2,ho]
    ·by_cases iC:e.Op=2
     ·rw[BD e a b [] n hk iC hA];generalize aX a (n+2)=p at *;obtain⟨p1,p2⟩:=p;have cb:=hSb p2 ⟨by omega,by omega⟩;generalize aX b p2=q at *;obtain⟨q1,q2⟩:=q;unfold fG at ca cb⊢;simp only at ba bb ca cb⊢;refine rn func292 ?_;simp[f292,hk,iC];intro bs;simp[hA,a1];refine au.bB rfl (ca) (by simp) rfl (by simp) rfl ?_;simp[hA,a1,a2,iC];refine au.bB rfl (cb) (by simp) rfl (by simp) rfl ?_;simp[hA,a1,a2,iC];refine au.bB rfl (uT n) (by simp) rfl (by simp) rfl ?_;simp[hA,a1,a2,iC];refine au.weaken (Wk.freeze 48 (ys:=([ai.mk 25 n]).map _) rfl) ?_;simp;refine au.bB rfl (dF (p1) [ai.mk 25 n] (by first|omega|(simp<;>omega)) (by simp)) (by simp) rfl (by simp) rfl ?_;simp[hA,a1,a2,iC];refine au.bB rfl (dF (p1++ [ai.mk 25 n]) q1 (by first|omega|(simp<;>omega)) (by omega)) (by simp) rfl (by simp) rfl ?_;simp[hA,a1,a2,iC];refine au.bB rfl (cP 11 0) (by simp) rfl (by simp) rfl ?_;simp[hA,a1,a2,iC];refine au.bB rfl (xe (n+1)) (by simp) rfl (by simp) rfl ?_;simp[hA,a1,a2,iC];refine au.bB rfl (lP n) (by simp) rfl (by simp) rfl ?_;simp[hA,a1,a2,iC];refine au.bB rfl (cP 1 0) (by simp) rfl (by simp) rfl ?_;simp[hA,a1,a2,iC];refine au.bB rfl (lP (n+1)) (by simp) rfl (by simp) rfl ?_;simp[hA,a1,a2,iC];refine au.weaken (Wk.freeze 85 (ys:=([ai.mk 11 0,ai.mk 24 (n+1),ai.mk 38 n,ai.mk 1 0,ai.mk 38 (n+1)]).map _) rfl) ?_;simp;refine au.bB rfl (dF (p1++ [ai.mk 25 n]++q1) [ai.mk 11 0,ai.mk 24 (n+1),ai.mk 38 n,ai.mk 1 0,ai.mk 38 (n+1)] (by first|omega|(simp<;>omega)) (by simp)) (by simp) rfl (by simp) rfl ?_;simp[hA,a1,a2,iC]
     ·have hL:¬yr e:=by simp[yr,hk,ho,iC]
      rw[tV e n hL];have hz:=vI e;have bd:=yu e.aF (λx _ m=>lr x m) n;have hc:=z6 e.aF hlen n ⟨by omega,by omega⟩ (λi h m hm=>jT _ (aoV h) m hm);generalize aZ e.aF n=p at *;obtain⟨p1,p2⟩:=p;unfold fG at hc⊢;simp only at bd hc⊢;refine rn func292 ?_;simp[f292,hk,ho,iC];intro bs;refine au.bB rfl (hc) (by simp) rfl (by simp) rfl ?_;simp;refine au.bB rfl (Y7 e) (by simp) rfl (by simp) rfl ?_;simp;refine au.weaken (Wk.freeze 98 (ys:=([dD e]).map _) rfl) ?_;simp;refine au.bB rfl (dF p1 [dD e] (by omega) (by simp)) (by simp) rfl (by simp) rfl ?_;simp
   ·have hL:¬yr e:=by simp[yr,hk]
    rw[tV e n hL];have hz:=vI e;have bd:=yu e.aF (λx _ m=>lr x m) n;have hc:=z6 e.aF hlen n ⟨by omega,by omega⟩ (λi h m hm=>jT _ (aoV h) m hm);generalize aZ e.aF n=p at *;obtain⟨p1,p2⟩:=p;unfold fG at hc⊢;simp only at bd hc⊢;refine rn func292 ?_;simp[f292,hk];intro bs;refine au.bB rfl (hc) (by simp) rfl (by simp) rfl ?_;simp;refine au.bB rfl (Y7 e) (by simp) rfl (by simp) rfl ?_;simp;refine au.weaken (Wk.freeze 98 (ys:=([dD e]).map _) rfl) ?_;simp;refine au.bB rfl (dF p1 [dD e] (by omega) (by simp)) (by simp) rfl (by simp) rfl ?_;simp
theorem VV{t:ar}{locals:Int}{e:ay}(h:cT t locals e true=true)(h1:e.Kind≠19)(h2:e.Kind≠13):cT t locals e false=true:=by
 rw[mQ]at h⊢;simpa[im,h1,h2]using h
@[simp] theorem an.Td(k n:Int)(s:ByteArray)(a:List ay)(b c:List an):(an.mk k n s a b c).Kind=k:=rfl
@[simp] theorem an.afQ(k n:Int)(s:ByteArray)(a:List ay)(b c:List an):(an.mk k n s a b c).aL=n:=rfl
@[simp] theorem an.aea(k n:Int)(s:ByteArray)(a:List ay)(b c:List an):(an.mk k n s a b c).Name=s:=rfl
@[simp] theorem an.Tc(k n:Int)(s:ByteArray)(a:List ay)(b c:List an):(an.mk k n s a b c).aF=a:=rfl
@[simp] theorem an.aek(k n:Int)(s:ByteArray)(a:List ay)(b c:List an):(an.mk k n s a b c).Body=b:=rfl
@[simp] theorem an.ael(k n:Int)(s:ByteArray)(a:List ay)(b c:List an):(an.mk k n s a b c).bX=c:=rfl
theorem an.qU(s:an):SizeOf.sizeOf s.Body<SizeOf.sizeOf s:=by
 cases s;simp only[an.aek,an.mk.sizeOf_spec];omega
theorem an.qV(s:an):SizeOf.sizeOf s.bX<SizeOf.sizeOf s:=by
 cases s;simp only[an.ael,an.mk.sizeOf_spec];omega
mutual
def AK:an->Nat
 | .mk _ _ _ a b c=>1+fq a+hZ b+hZ c
def hZ:List an->Nat
 | []=>0
 | s::l=>AK s+hZ l
end
theorem ua(s:an):AK s=1+fq s.aF+hZ s.Body+hZ s.bX:=by cases s;rw[AK];rfl
set_option maxHeartbeats 4000000
set_option maxRecDepth 40000
def rz(s:an)(named:Bool)(args:Int)(body other:Bool):Bool:=
 decide ((s.aF.length:Int)=args)&&(body||decide (s.Body.length=0))&&(other||decide (s.bX.length=0))&&(named||(s.Name.toList.isEmpty&&decide (s.aL=0)))
def jH(s:an):Bool×Bool:=
 if s.Kind=1 then(rz s false s.aF.length false false&&eF s.aF.length 1 8,false)
 else if s.Kind=2\/s.Kind=3\/s.Kind=5\/s.Kind=6\/s.Kind=17\/s.Kind=23 then(rz s true 1 false false,true)
 else if s.Kind=4 then(rz s true 2 false false,true)
 else if s.Kind=7 then(rz s false 2 false false,false)
 else if s.Kind=8\/s.Kind=12\/s.Kind=16\/s.Kind=20\/s.Kind=22\/s.Kind=19 then(rz s false 1 false false,false)
 else if s.Kind=9 then(rz s false 1 true true,false)
 else if s.Kind=10 then(rz s false 1 true false,false)
 else if s.Kind=11 then(rz s true 1 true false,true)
 else if s.Kind=18 then(rz s true 0 false false,true)
 else if s.Kind=13\/s.Kind=14\/s.Kind=15\/s.Kind=21 then(rz s false 0 false false,false)
 else(false,false)
def oT(t:ar)(s:an)(locals:Int):Bool:=
 if s.Name.toList.isEmpty then
  if s.Kind=2\/s.Kind=3 then decide (0<=s.aL)&&decide (s.aL<locals)
  else if s.Kind=11 then decide (0<=s.aL)&&decide (s.aL<locals-1)&&decide (1<locals)
  else if s.Kind=23 then eF s.aL 0 (t.aQ.length-1)
  else if s.Kind=4 then eF s.aL 0 (t.aJ.length-1)
  else if s.Kind=5\/s.Kind=6 then decide (0<=s.aL)&&decide (s.aL<t.Flags)
  else if s.Kind=17\/s.Kind=18 then eF s.aL 0 (t.eK.length-1)
  else true
 else false
theorem PF(s:an)(named:Bool)(args:Int)(body other:Bool):Pure prog 230 [.agg (s.enc.map .d),oD named,iD args,oD body,oD other] (oD (rz s named args body other)):=by
 refine rn func230 ?_;simp[f230];refine⟨?_,?_,?_,?_,?_⟩
 any_goals (simp+contextual;done)
 have e:s.Name.toList.isEmpty=decide (s.Name.toList=[]):=by cases s.Name.toList<;>simp
 rw[rz,e,show decide (s.aL=0)=(s.aL==0)from rfl];simp
theorem abO(s:an):Pure prog 180 [.agg (s.enc.map .d)] (.bA [oD (jH s).1,oD (jH s).2]):=by
 refine rn func180 ?_;simp[-cB,f180]
 repeat' (first
  | (with_reducible refine And.intro ?_ ?_)
  | ((first|(refine ax (λh=>?_) (λh=>?_)<;>(try simp at h))|refine pC (PF s _ _ _ _) ?_|refine pC (qw _ _ _) ?_|refine lC (PF s _ _ _ _) ?_|refine lC (qw _ _ _) ?_|refine pG (PF s _ _ _ _) ?_|refine pG (qw _ _ _) ?_)<;>(try simp[-cB, *]))
  | (with_reducible intro _))
 all_goals first|(simp[jH, *];done)|skip
theorem Zr(t:ar)(s:an)(hk:s.Kind=11)(hn:s.Name.toList=[]):Pure prog 181 [.agg (t.enc.map .d),.agg (s.enc.map .d),iD (-9223372036854775808)] (oD false):=by
 refine Pure.GI func181 rfl (by simp[f181]) ?_;refine av.gE ?_;simp[f181];intro bs;refine av.gE ?_;simp[hn];refine av.seq (av.gE ?_);simp[hk];refine av.block (av.gE ?_);simp;refine av.cond rfl (λh=>by simp at h) (λ_=>?_);refine av.gE ?_;simp;refine av.cond rfl (λ_=>?_) (λh=>by simp at h);refine av.seq (av.ad2 (au.stop 7 [] (by rfl) ?_));simp;refine au.ai9 (a:= -9223372036854775808) (b:=1) rfl (by rfl) (by simp) (by simp) (by simp) ?_;refine bn _ _ [] (by rfl) ?_;simp;refine av.ret ?_;simp
theorem Hj(t:ar)(ht:t.wf)(s:an)(locals:Int)(hl:aN .i64 locals):Pure prog 181 [.agg (t.enc.map .d),.agg (s.enc.map .d),iD locals] (oD (oT t s locals)):=by
 have b1:=ar.ow ht;have b2:=ar.ou ht;have b3:=ar.Bi ht;by_cases hm:(s.Kind=11/\s.Name.toList=[])/\locals= -9223372036854775808
 ·obtain⟨⟨hk,hn⟩,rfl⟩:=hm;exact(Zr t s hk hn).eq rfl (by simp[oT,hk,hn])
 have jn:s.Kind=11->s.Name.toList=[]->aN .i64 (locals-1):=λh1 h2=>by
  rw[aS]at hl⊢;have:¬locals= -9223372036854775808:=λh=>hm ⟨⟨h1,h2⟩,h⟩
  omega
 clear hm;refine rn func181 ?_;simp[-cB,f181]
 repeat' (first
  | (with_reducible refine And.intro ?_ ?_)
  | ((first|(refine ax (λh=>?_) (λh=>?_)<;>(try simp at h))|refine pC (qw _ _ _) ?_|refine lC (qw _ _ _) ?_|refine pG (qw _ _ _) ?_)<;>(try simp[-cB, *]))
  | (with_reducible intro _))
 all_goals first|assumption|(exact jn (by assumption) (by assumption))|(rw[aS];omega)|(simp[oT, *];done)|skip
def jM(a b:Int):Int:=if b<a then a else b
theorem IZ(a b:Int):Pure prog 228 [iD a,iD b] (iD (jM a b)):=by
 refine rn func228 ?_;simp[-cB,f228]
 repeat' (first
  | (with_reducible refine And.intro ?_ ?_)
  | (refine ax (λh=>?_) (λh=>?_)<;>(try simp at h)<;>(try simp[-cB, *]))
  | (with_reducible intro _))
 all_goals simp[jM, *]<;>omega
mutual
def MR:an->Int->Int->Int
 | .mk _ _ _ a b c,m,n=>jM (fB a m n) (jM (if b.isEmpty then 0 else(if 1<m then kP b (m-1) 0 else 0)+1) (if c.isEmpty then 0 else(if 1<m then kP c (m-1) 0 else 0)+1))
def kP:List an->Int->Int->Int
 | [],_,n=>n
 | s::l,m,n=>kP l m (MR s m n)
end
def jR(l:List an)(m:Int):Int:=if l.isEmpty then 0 else(if 1<m then kP l (m-1) 0 else 0)+1
theorem Hk(s:an)(m n:Int):MR s m n=jM (fB s.aF m n) (jM (jR s.Body m) (jR s.bX m)):=by cases s;rw[MR];rfl
theorem RE(l:List an)(s:an)(m n:Int):kP (l++ [s]) m n=MR s m (kP l m n):=by
 induction l generalizing n with
 | nil=>simp only[apj,kP]
 | cons x l ih=>simp only[aoX,kP];exact ih _
theorem Zs:∀(N:Nat) (l:List an),SizeOf.sizeOf l<N->∀m n:Int,1<=m->0<=n->n<=m->0<=kP l m n/\kP l m n<=m:=by
 intro N
 induction N with
 | zero=>intro l h;omega
 | succ N ih=>
   intro l h m n h1 h2 h3;cases l with
   | nil=>rw[kP];omega
   | cons s l=>
     rw[kP];have hs:SizeOf.sizeOf s<N:=by simp only[aps]at h;omega
     have hb:=an.qU s;have he:=an.qV s;have hB:∀l':List an,SizeOf.sizeOf l'<N->0<=jR l' m/\jR l' m<=m:=λl' hl=>by
      unfold jR;split
      ·omega
      ·split
       ·have:=ih l' hl (m-1) 0 (by omega) (by omega) (by omega);omega
       ·omega
     have b1:=hB s.Body (by omega);have b2:=hB s.bX (by omega);have b3:=Lz s.aF m n h1 h2 h3;refine ih l (by simp only[aps]at h;omega) m _ h1 ?_ ?_
     ·rw[Hk];unfold jM;repeat' split
      all_goals omega
     ·rw[Hk];unfold jM;repeat' split
      all_goals omega
theorem VW(l:List ay)(x:ay)(m n:Int):fB (l++ [x]) m n=jM (fB l m n) (tT x m):=by
 rw[F6];unfold jM;split<;>split<;>omega
theorem abP(l:List an)(hl:∀s∈l,s.wf)(hlen:l.length *104<=140737488351232)(m:Int)(hm:1<=m/\m<=1000000000000):Pure prog 179 [.d (.sl (l.map an.enc)),iD m] (iD (jR l m)):=by
 obtain⟨n,hn⟩:∃n,SizeOf.sizeOf l<n:=⟨_,ao2 _⟩
 induction n generalizing l m with
 | zero=>omega
 | succ n ih=>
   have jT:∀s∈l,(∀m,1≤m∧m≤1000000000000→Pure prog 179 [.d (.sl (s.Body.map an.enc)),iD m] (iD (jR s.Body m)))∧
     (∀m,1<=m/\m<=1000000000000->Pure prog 179 [.d (.sl (s.bX.map an.enc)),iD m] (iD (jR s.bX m))):=by
    intro s hs;have hw:=hl s hs;have h1:=apo hs;have h2:=an.qU s;have h3:=an.qV s;exact⟨λm hm=>ih s.Body (an.EZ hw) (an.EY hw) m hm (by omega),λm hm=>ih s.bX (an.E1 hw) (an.E0 hw) m hm (by omega)⟩
   by_cases hE:l=[]
   ·subst hE;refine rn func179 ?_;simp[f179];rfl
   have hD:jR l m=(if 1<m then kP l (m-1) 0 else 0)+1:=by unfold jR;simp[hE]
   rw[hD];have hG:=λa b L=>(IZ a b).ok L
   have hBd:=λpre=>Zs _ pre (ao2 _) (m-1) 0
   refine rn func179 ?_;simp[f179];simp[hE];refine⟨λh1=>?_,λh1=>?_⟩
   ·refine av.fj [1,5,15,16,17] l (λpre=> [(5,iD (kP pre (m-1) 0)),(17,iD pre.length)]) (λ_=> []) (λ_=>True) (by rfl) (by omega) (by simp[kP]) ?_ ?_
    ·rintro pre s post bx-aw bm a4;have hS:=jT s (by rw[bx];simp);have Zu:=hl s (by rw[bx];simp);have hwa:=an.JS Zu;have dH:=RE pre s (m-1) 0;rw[Hk]at dH;have hb:=hBd pre (by omega) (by omega) (by omega);generalize kP pre (m-1) 0=v at *;simp[aw,bm];intro bs;refine av.fj [1,5,7,15,16,17,22,23,24] s.aF (λpre=> [(5,iD (fB pre (m-1) v)),(24,iD pre.length)]) (λ_=> []) (λ_=>True) (by rfl) (by omega) (by simp[fB]) ?_ ?_
     ·rintro VX e ac7 zL-nP sq b4;have afD:=VW VX e (m-1) v;have a1:aN .i64 (m-1):=iW;have Tn:=an.wZ Zu e (by rw[zL];simp);simp[nP,sq,a1];intro bL;refine au.bB rfl (aeb e Tn (m-1) ⟨by omega,by omega⟩) (by simp) rfl (by simp) rfl ?_;simp;refine pC (IZ _ _) ?_;simp[b4,afD]
     ·intro _;have c1:=(hS.1 (m-1) ⟨by omega,by omega⟩).ok;have c2:=(hS.2 (m-1) ⟨by omega,by omega⟩).ok;have a1:aN .i64 (m-1):=iW;simp;refine av.bT [iD (jR s.Body (m-1)),iD (jR s.bX (m-1)),iD (jM (jR s.Body (m-1)) (jR s.bX (m-1))),iD (jM (fB s.aF (m-1) v) (jM (jR s.Body (m-1)) (jR s.bX (m-1))))] aT (by kernel_rfl) (by rfl) ?_;simp[c1,c2,a1,a4,hG,dH]
    ·intro _;have hb:=hBd l (by omega) (by omega) (by omega);simp[h1];rw[aS];omega
   ·rw[if_neg (by omega)];exact⟨iW,rfl⟩
theorem D8(l:List an)(hl:∀s∈l,s.wf)(hlen:l.length *104<=140737488351232):Pure prog 122 [.d (.sl (l.map an.enc))] (iD (jR l 65)):=by
 refine rn func122 ?_;simp[f122];refine au.bB rfl (abP l hl hlen 65 (by omega)) (by simp) rfl (by simp) rfl ?_;simp
def Fg(s:an):Bool:=decide ((s.aF[0]?.getD ay.zero).Kind=18)
mutual
def eO(t:ar)(locals:Int):an->Bool
 | .mk k n nm a b c=>(jH (.mk k n nm a b c)).1&&oT t (.mk k n nm a b c) locals&&(decide (k≠19)||Fg (.mk k n nm a b c))&&(a.all λx=>cT t locals x (decide (k=1)))&&(pj t locals b&&decide (b.length<=256))&&(pj t locals c&&decide (c.length<=256))
def pj(t:ar)(locals:Int):List an->Bool
 | []=>true
 | s::l=>eO t locals s&&pj t locals l
end
def iq(t:ar)(locals:Int)(l:List an):Bool:=pj t locals l&&decide (l.length<=256)
theorem zD(t:ar)(locals:Int)(s:an):eO t locals s=((jH s).1&&oT t s locals&&(decide (s.Kind≠19)||Fg s)&&(s.aF.all λx=>cT t locals x (decide (s.Kind=1)))&&iq t locals s.Body&&iq t locals s.bX):=by cases s;rw[eO];rfl
theorem nk(t:ar)(locals:Int)(l:List an):pj t locals l=l.all λs=>eO t locals s:=by
 induction l with
 | nil=>rw[pj];rfl
 | cons s l ih=>rw[pj,ih];rfl
theorem VY{s:an}(h:(jH s).1=true)(hk:s.Kind=19):∃x,s.aF=[x]:=by
 simp[jH,hk,rz]at h;have hl:s.aF.length=1:=by omega
 generalize s.aF=l at hl
 match l,hl with
 | [x],_=>exact⟨x,rfl⟩
theorem D9(t:ar)(ht:t.wf)(locals:Int)(jn:aN .i64 locals)(l:List an)(hl:∀s∈l,s.wf)(hlen:l.length *104<=140737488351232):Pure prog 123 [.agg (t.enc.map .d),.d (.sl (l.map an.enc)),iD locals] (oD (iq t locals l)):=by
 obtain⟨n,hn⟩:∃n,SizeOf.sizeOf l<n:=⟨_,ao2 _⟩
 induction n generalizing l with
 | zero=>omega
 | succ n ih=>
   have jT:∀s∈l,Pure prog 123 [.agg (t.enc.map .d),.d (.sl (s.Body.map an.enc)),iD locals] (oD (iq t locals s.Body))∧
     Pure prog 123 [.agg (t.enc.map .d),.d (.sl (s.bX.map an.enc)),iD locals] (oD (iq t locals s.bX)):=by
    intro s hs;have hw:=hl s hs;have h1:=apo hs;have h2:=an.qU s;have h3:=an.qV s;exact⟨ih s.Body (an.EZ hw) (an.EY hw) (by omega),ih s.bX (an.E1 hw) (an.E0 hw) (by omega)⟩
   refine rn func123 ?_;simp[f123];intro bs0;refine av.fj [1,2,3,13,14,15] l (λpre=> [(15,iD pre.length)]) (λ_=> []) (λpre=>pj t locals pre=true) (by rfl) (by omega) (by simp[pj]) ?_ ?_
   ·rintro pre s post bx ss aw bm a4;have iT:eO t locals s=false->iq t locals l=false:=λh=>by
     unfold iq;rw[nk,bx];simp[h]
    have pz:eO t locals s=true->pj t locals (pre++ [s])=true:=λh=>by
     rw[nk]at ss⊢;rw[List.all_append,ss];simp[h]
    have hS:=jT s (by rw[bx];simp);have Zu:=hl s (by rw[bx];simp);have hwa:=an.JS Zu;rw[zD]at iT pz;have pK:(jH s).1=true->s.Kind=19->0<s.aF.length:=λh1 h2=>by obtain⟨x,hx⟩:=VY h1 h2;simp[hx]
    have Kn:=bx.symm;clear ih jT hlen hn bx;simp[-cB,aw,bm];intro bs;refine pC (abO s) ?_;simp[-cB]
    repeat' (first
     | (with_reducible refine And.intro ?_ ?_)
     | ((first|(refine ax (λh=>?_) (λh=>?_)<;>(try simp at h))|refine pC (Hj t ht s locals jn) ?_|refine lC (Hj t ht s locals jn) ?_|refine pG (Hj t ht s locals jn) ?_)<;>(try simp[-cB, *]))
     | (with_reducible intro _))
    all_goals first|assumption|(exact pK (by assumption) (by assumption))|(apply iT;rcases h with(h|h)|⟨h1,h2⟩<;>simp[Fg, *];done)|skip
    have hS1:=hS.1.ok;have hS2:=hS.2.ok;refine av.fj [1,2,3,8,13,14,15,47,48,49] s.aF (λpre=> [(49,iD pre.length)]) (λ_=> []) (λpre=>(pre.all λx=>cT t locals x (decide (s.Kind=1)))=true) (by rfl) (by omega) (by simp) ?_ ?_
    ·rintro VX e ac7 zL ahs nP sq b4;have Tn:=an.wZ Zu e (by rw[zL];simp);have ajB:cT t locals e (decide (s.Kind=1))=false->iq t locals l=false:=λh=>by
      apply iT;rw[zL];simp[h]
     clear zL iT pz Kn h;simp[-cB,nP,sq];intro bL;refine pC (zy t ht locals e Tn _) ?_;simp[-cB]
     repeat' (first
      | (with_reducible refine And.intro ?_ ?_)
      | ((first|(refine ax (λh=>?_) (λh=>?_)<;>(try simp at h))|refine pC (zy t ht locals e Tn _) ?_|refine lC (zy t ht locals e Tn _) ?_|refine pG (zy t ht locals e Tn _) ?_)<;>(try simp[-cB, *]))
      | (with_reducible intro _))
     all_goals first
      | exact ajB h
      | (rename_i y hy
         rcases hy with hy|rfl
         ·exact aoP.1 ahs y hy
         ·exact h)
    ·intro bV;clear Kn;simp[-cB]
     repeat' (first
      | (with_reducible refine And.intro ?_ ?_)
      | ((first|(refine ax (λh=>?_) (λh=>?_)<;>(try simp at h))|refine pC hS.1 ?_|refine pC hS.2 ?_|refine lC hS.1 ?_|refine lC hS.2 ?_|refine pG hS.1 ?_|refine pG hS.2 ?_)<;>(try simp[-cB, *]))
      | (with_reducible intro _))
     ·apply iT;rcases h with h|h<;>simp[h]
     ·rename_i h';apply pz;obtain⟨⟨h1,h2⟩,h3⟩:=h';have h4:(decide (s.Kind≠19)||Fg s)=true:=by
       by_cases hk:s.Kind=19
       ·simp[Fg,h3 hk]
       ·simp[hk]
      rw[h1,h2,h4,bV,h.1,h.2];rfl
   ·intro ss;simp[iq,ss];omega
theorem PG(t:ar)(ht:t.wf)(locals:Int)(jn:aN .i64 locals)(l:List an)(hl:∀s∈l,s.wf)(hlen:l.length *104<=140737488351232):Pure prog 60 [.agg (t.enc.map .d),.d (.sl (l.map an.enc)),iD locals] (oD (decide (jR l 65<=32)&&iq t locals l)):=by
 refine rn func60 ?_;simp[-cB,f60];intro bs
 repeat' (first
  | (with_reducible refine And.intro ?_ ?_)
  | ((first|(refine ax (λh=>?_) (λh=>?_)<;>(try simp at h))|refine pC (D8 l hl hlen) ?_|refine pC (D9 t ht locals jn l hl hlen) ?_|refine lC (D8 l hl hlen) ?_|refine lC (D9 t ht locals jn l hl hlen) ?_|refine pG (D8 l hl hlen) ?_|refine pG (D9 t ht locals jn l hl hlen) ?_)<;>(try simp[-cB, *]))
  | (with_reducible intro _))
def hU(x:ay)(n:Int):List ai×Int:=
 if x.Kind=19 then([⟨21,x.aL⟩],n)else if x.Kind=13 then((aZ x.aF n).1++ [⟨23,0⟩],(aZ x.aF n).2)else((aX x n).1++ [⟨22,0⟩],(aX x n).2)
def de:List ay->Int->List ai×Int
 | [],n=>([],n)
 | x::l,n=>((hU x n).1++(de l (hU x n).2).1,(de l (hU x n).2).2)
def gR(k num:Int):ai:=
 if k=2\/k=3 then⟨6,num⟩else if k=23 then⟨4,num⟩else if k=4 then⟨14,num⟩else if k=5 then⟨15,num⟩else if k=6 then⟨16,num⟩else if k=17 then⟨32,num⟩else if k=18 then⟨33,num⟩
 else if k=7 then⟨17,0⟩else if k=8 then⟨18,0⟩else if k=12 then⟨27,0⟩else if k=13 then⟨28,0⟩else if k=14 then⟨29,0⟩else if k=15 then⟨30,0⟩else if k=16 then⟨31,0⟩
 else if k=20 then⟨34,0⟩else if k=21 then⟨35,0⟩else if k=22 then⟨36,0⟩else⟨2,0⟩
def tick:ai:=⟨37,0⟩
mutual
def dx:an->Int->List ai×Int
 | .mk k num _ a b c,n=>
   if k=9 then
    (if c.isEmpty then([tick]++(aZ a (n+1)).1++ [⟨25,n⟩]++(bh b (aZ a (n+1)).2).1++ [⟨38,n⟩],(bh b (aZ a (n+1)).2).2)
     else([tick]++(aZ a (n+2)).1++ [⟨25,n⟩]++(bh b (aZ a (n+2)).2).1++ [⟨24,n+1⟩,⟨38,n⟩]++(bh c (bh b (aZ a (n+2)).2).2).1++ [⟨38,n+1⟩],(bh c (bh b (aZ a (n+2)).2).2).2))
   else if k=10 then([⟨38,n⟩,tick]++(aZ a (n+2)).1++ [⟨25,n+1⟩]++(bh b (aZ a (n+2)).2).1++ [⟨24,n⟩,⟨38,n+1⟩],(bh b (aZ a (n+2)).2).2)
   else if k=11 then([tick]++(aZ a (n+2)).1++ [⟨19,2⟩,⟨6,num⟩,⟨38,n⟩,⟨5,num⟩,⟨25,n+1⟩,tick]++ [⟨5,num⟩,⟨19,3⟩,⟨6,num+1⟩]++(bh b (aZ a (n+2)).2).1++ [⟨5,num+1⟩,⟨6,num⟩,⟨24,n⟩,⟨38,n+1⟩],(bh b (aZ a (n+2)).2).2)
   else if k=1 then([tick]++(de a n).1,(de a n).2)
   else([tick]++(aZ a n).1++ [gR k num],(aZ a n).2)
def bh:List an->Int->List ai×Int
 | [],n=>([],n)
 | s::l,n=>((dx s n).1++(bh l (dx s n).2).1,(bh l (dx s n).2).2)
end
theorem BN(s:an)(n:Int)(hk:s.Kind=9)(he:s.bX=[]):dx s n=([tick]++(aZ s.aF (n+1)).1++ [⟨25,n⟩]++(bh s.Body (aZ s.aF (n+1)).2).1++ [⟨38,n⟩],(bh s.Body (aZ s.aF (n+1)).2).2):=by
 cases s;cases hk;cases he;rw[dx];rfl
theorem BO(s:an)(n:Int)(hk:s.Kind=9)(he:s.bX≠ []):dx s n=([tick]++(aZ s.aF (n+2)).1++ [⟨25,n⟩]++(bh s.Body (aZ s.aF (n+2)).2).1++ [⟨24,n+1⟩,⟨38,n⟩]++(bh s.bX (bh s.Body (aZ s.aF (n+2)).2).2).1++ [⟨38,n+1⟩],(bh s.bX (bh s.Body (aZ s.aF (n+2)).2).2).2):=by
 cases s with
 | mk k num nm a b c=>
   cases hk;rw[dx];have:c.isEmpty=false:=by cases c with|nil=>exact(he rfl).elim|cons x l=>rfl
   simp[this]
theorem wP(s:an)(n:Int)(hk:s.Kind=10):dx s n=([⟨38,n⟩,tick]++(aZ s.aF (n+2)).1++ [⟨25,n+1⟩]++(bh s.Body (aZ s.aF (n+2)).2).1++ [⟨24,n⟩,⟨38,n+1⟩],(bh s.Body (aZ s.aF (n+2)).2).2):=by
 cases s;cases hk;rw[dx];rfl
theorem zE(s:an)(n:Int)(hk:s.Kind=11):dx s n=([tick]++(aZ s.aF (n+2)).1++ [⟨19,2⟩,⟨6,s.aL⟩,⟨38,n⟩,⟨5,s.aL⟩,⟨25,n+1⟩,tick]++ [⟨5,s.aL⟩,⟨19,3⟩,⟨6,s.aL+1⟩]++(bh s.Body (aZ s.aF (n+2)).2).1++ [⟨5,s.aL+1⟩,⟨6,s.aL⟩,⟨24,n⟩,⟨38,n+1⟩],(bh s.Body (aZ s.aF (n+2)).2).2):=by
 cases s;cases hk;rw[dx];rfl
theorem yz(s:an)(n:Int)(hk:s.Kind=1):dx s n=([tick]++(de s.aF n).1,(de s.aF n).2):=by
 cases s;cases hk;rw[dx];rfl
theorem wS(s:an)(n:Int)(h1:s.Kind≠9)(h2:s.Kind≠10)(h3:s.Kind≠11)(h4:s.Kind≠1):dx s n=([tick]++(aZ s.aF n).1++ [gR s.Kind s.aL],(aZ s.aF n).2):=by
 cases s with
 | mk k num nm a b c=>
   rw[dx.eq_def];simp only[an.Td]at h1 h2 h3 h4;simp[h1,h2,h3,h4]
theorem Zv(l:List an)(x:an)(m:Int):bh (l++ [x]) m=((bh l m).1++(dx x (bh l m).2).1,(dx x (bh l m).2).2):=by
 induction l generalizing m with
 | nil=>simp[bh]
 | cons y l ih=>simp[bh,ih]
theorem RF(l:List ay)(x:ay)(m:Int):de (l++ [x]) m=((de l m).1++(hU x (de l m).2).1,(hU x (de l m).2).2):=by
 induction l generalizing m with
 | nil=>simp[de]
 | cons y l ih=>simp[de,ih]
theorem aem(l r:List an):hZ (l++r)=hZ l+hZ r:=by
 induction l with
 | nil=>simp[hZ]
 | cons x l ih=>simp only[aoX,hZ,ih];omega
theorem qz(l:List ay)(m:Int):m<=(aZ l m).2/\(aZ l m).2<=m+2 *fq l/\(aZ l m).1.length<=6 *fq l:=yu l (λx _ m=>lr x m) m
theorem Tp(x:ay)(m:Int):m<=(hU x m).2/\(hU x m).2<=m+2 *tU x/\(hU x m).1.length<=7 *tU x:=by
 have h1:=qz x.aF m;have h2:=lr x m;have h3:=vI x;unfold hU;split
 ·simp only[aoU,apd];omega
 ·split
  ·simp only[aoS,aoU,apd];omega
  ·simp only[aoS,aoU,apd];omega
theorem Ea(l:List ay)(m:Int):m<=(de l m).2/\(de l m).2<=m+2 *fq l/\(de l m).1.length<=7 *fq l:=by
 induction l generalizing m with
 | nil=>simp[de,fq]
 | cons x l ih=>
   have h1:=Tp x m;have h2:=ih (hU x m).2;rw[de,fq,aoS];omega
theorem aen:∀(N:Nat) (l:List an),SizeOf.sizeOf l<N->∀m:Int,m<=(bh l m).2/\(bh l m).2<=m+2 *hZ l/\(bh l m).1.length<=16 *hZ l:=by
 intro N
 induction N with
 | zero=>intro l h;omega
 | succ N ih=>
   intro l h m;cases l with
   | nil=>simp[bh,hZ]
   | cons s l=>
     have hl:SizeOf.sizeOf l<N:=by simp only[aps]at h;omega
     have hs:SizeOf.sizeOf s<N:=by simp only[aps]at h;omega
     have hb:=an.qU s;have he:=an.qV s;rw[bh,hZ,ua,aoS];have h2:=ih l hl (dx s m).2;have key:m<=(dx s m).2/\(dx s m).2<=m+2 *(1+fq s.aF+hZ s.Body+hZ s.bX)/\(dx s m).1.length<=16 *(1+fq s.aF+hZ s.Body+hZ s.bX):=by
      by_cases k9:s.Kind=9
      ·by_cases vp:s.bX=[]
       ·rw[BN s m k9 vp];have a1:=qz s.aF (m+1);have a2:=ih s.Body (by omega) (aZ s.aF (m+1)).2;simp only[aoS,aoU,apd];omega
       ·rw[BO s m k9 vp];have a1:=qz s.aF (m+2);have a2:=ih s.Body (by omega) (aZ s.aF (m+2)).2;have a3:=ih s.bX (by omega) (bh s.Body (aZ s.aF (m+2)).2).2;simp only[aoS,aoU,apd];omega
      by_cases rH:s.Kind=10
      ·rw[wP s m rH];have a1:=qz s.aF (m+2);have a2:=ih s.Body (by omega) (aZ s.aF (m+2)).2;simp only[aoS,aoU,apd];omega
      by_cases ub:s.Kind=11
      ·rw[zE s m ub];have a1:=qz s.aF (m+2);have a2:=ih s.Body (by omega) (aZ s.aF (m+2)).2;simp only[aoS,aoU,apd];omega
      by_cases k1:s.Kind=1
      ·rw[yz s m k1];have a1:=Ea s.aF m;simp only[aoS,aoU,apd];omega
      ·rw[wS s m k9 rH ub k1];have a1:=qz s.aF m;simp only[aoS,aoU,apd];omega
     omega
theorem np(l:List an)(m:Int):m<=(bh l m).2/\(bh l m).2<=m+2 *hZ l/\(bh l m).1.length<=16 *hZ l:=aen _ l (ao2 _) m
theorem aeo(s:an)(m:Int):m<=(dx s m).2/\(dx s m).2<=m+2 *AK s/\(dx s m).1.length<=16 *AK s:=by
 have:=np [s] m;simpa[bh,hZ]using this
theorem aep(s:an):Pure prog 299 [.agg (s.enc.map .d)] (.agg ((gR s.Kind s.aL).enc.map .d)):=by
 refine rn func299 ?_;simp[-cB,f299];intro bs
 repeat' (first
  | (with_reducible refine And.intro ?_ ?_)
  | ((first|(refine ax (λh=>?_) (λh=>?_)<;>(try simp at h))|refine pC (cP _ _) ?_|refine lC (cP _ _) ?_|refine pG (cP _ _) ?_)<;>(try simp[-cB, *]))
  | (with_reducible intro _))
 all_goals simp[gR, *]
theorem PH(a b:List ai)(ha:a.length<=1000000000000)(hb:b.length<=1000000000000):aE prog 191 [.d (.sl (a.map ai.enc)),.d (.sl (b.map ai.enc))] [] (λr L=>r= .ret (.rv 5)/\L=[(5,.row 84 2 (dd ((a++b).map ai.enc)))]):=by
 refine aE.run func191 rfl (by simp[f191]) ?_;simp[f191];omega
theorem yA(x:ay)(m:Int):aZ [x] m=aX x m:=by
 simp[aZ]
theorem RG{t:ar}{locals:Int}{e:ay}(h:cT t locals e true=true)(hk:e.Kind=13):∃a,e.aF=[a]:=by
 rw[mQ,aoM]at h;have h1:=h.1;simp[im,hk,fF]at h1;have hl:e.aF.length=1:=by omega
 generalize e.aF=l at hl
 match l,hl with
 | [a],_=>exact⟨a,rfl⟩
theorem Zw(t:ar)(locals:Int)(l:List ay)(hl:∀x∈l,x.wf)(hb:∀x∈l,cT t locals x true=true)(hlen:l.length≤1000000000000000)(n:Int)(hn:0≤n∧n+2 *fq l≤1000000000):
  Pure prog 297 [.d (.sl (l.map ay.enc)),iD n] (fG (de l n)):=by
 unfold fG;refine rn func297 ?_;simp[-cB,f297];refine av.weaken (Wk.GQ (t:=6) (h:=5) (k:=2) (ty:=84) rfl (by simp)) ?_;refine av.fj [0,1,6,7] l (λpre=> [(1,iD (de pre n).2),(7,iD pre.length)]) (λpre=> [(5,.row 84 2 (dd ((de pre n).1.map ai.enc)))]) (λ_=>True) (by rfl) (by omega) (by simp[de]) ?_ ?_
 ·rintro pre x post bx-aw bm a4;have hw:=hl x (by rw[bx];simp);have gT:=hb x (by rw[bx];simp);have dH:=RF pre x n;have dZ:fq pre+tU x<=fq l:=by rw[bx,Hc];simp only[fq];omega
  have b1:=Ea pre n;have b2:=Tp x (de pre n).2;clear bx;generalize de pre n=k at *;obtain⟨k1,k2⟩:=k;simp only at dH b1 b2⊢;have hz:=vI x;by_cases nt:x.Kind=19
  ·have hI:hU x k2=([⟨21,x.aL⟩],k2):=by simp[hU,nt]
   rw[hI]at dH;simp[aw,bm,nt];refine pC (cP _ _) ?_;simp[bm,dH,a4];omega
  ·have hE:∃y,(∀m,hU x m=((aX y m).1++ [⟨if x.Kind=13 then 23 else 22,0⟩],(aX y m).2))/\cT t locals y false=true/\y.wf/\tU y<=tU x/\(if x.Kind=13 then x.aF=[y]else y=x):=by
    by_cases gK:x.Kind=13
    ·obtain⟨y,hy⟩:=RG gT gK;refine⟨y,λm=>by simp[hU,gK,hy,yA],zC gT (by simp[hy]),ay.wZ hw y (by simp[hy]),?_,by simp[gK,hy]⟩;rw[hz,hy];simp only[fq];omega
    ·exact⟨x,λm=>by simp[hU,nt,gK],VV gT nt gK,hw,by omega,by simp[gK]⟩
   obtain⟨y,h1,h2,h3,h4,h5⟩:=hE;have hC:=IY t locals y h3 h2 k2 ⟨by omega,by omega⟩;have b3:=lr y k2;rw[h1]at dH;generalize aX y k2=q at *;obtain⟨q1,q2⟩:=q;unfold fG at hC;simp only at dH hC b3;by_cases gK:x.Kind=13
   ·rw[if_pos gK]at h5 dH;simp[aw,bm,nt,gK,h5];intro bs;refine pC hC ?_;simp;refine au.weaken (Wk.freeze 5 (ys:=k1.map ai.enc) rfl) ?_;simp;refine au.bB rfl (dF k1 q1 (by omega) (by omega)) (by simp) rfl (by simp) rfl ?_;simp;refine pC (cP _ _) ?_;simp;refine au.weaken (Wk.freeze 55 (ys:=([ai.mk 23 0]).map _) rfl) ?_;simp;refine au.eo [] rfl (PH (k1++q1) [ai.mk 23 0] (by simp<;>omega) (by simp)) (by simp) rfl (by simp) rfl (by kernel_rfl) (by simp) (by simp) (by simp) (by simp) (by simp) ?_;simp[dH,a4]
   ·rw[if_neg gK]at h5 dH;subst h5;simp[aw,bm,nt,gK];intro bs;refine pC hC ?_;simp;refine au.weaken (Wk.freeze 5 (ys:=k1.map ai.enc) rfl) ?_;simp;refine au.bB rfl (dF k1 q1 (by omega) (by omega)) (by simp) rfl (by simp) rfl ?_;simp;refine pC (cP _ _) ?_;simp;refine au.weaken (Wk.freeze 55 (ys:=([ai.mk 22 0]).map _) rfl) ?_;simp;refine au.eo [] rfl (PH (k1++q1) [ai.mk 22 0] (by simp<;>omega) (by simp)) (by simp) rfl (by simp) rfl (by kernel_rfl) (by simp) (by simp) (by simp) (by simp) (by simp) ?_;simp[dH,a4]
 ·intro _;simp
theorem AL(h:Nat)(hh:h≠5)(a b:List ai)(ha:a.length<=1000000000000)(hb:b.length<=1000000000000):aE prog 191 [.d (.sl (a.map ai.enc)),.rv h] [(h,.row 84 2 (dd (b.map ai.enc)))] (λr L=>r= .ret (.d (.sl ((a++b).map ai.enc)))/\L=[(h,.row 84 2 (dd (b.map ai.enc)))]):=by
 have h5:(h==5)=false:=by simp[hh]
 refine aE.xQ func191 rfl (by simp[f191]) ?_;refine av.gE ?_;simp[f191];refine av.gE ?_;simp[hh,hh.symm,h5];refine⟨by omega,by omega,?_⟩;refine av.weaken (Wk.freeze 5 (k:=2) (ty:=84) (ys:=a.map ai.enc++b.map ai.enc) rfl) (av.ret ?_);simp[hh,hh.symm,h5]
theorem aeq(h:Nat)(hh:h≠5)(a b:List ai)(ha:a.length<=1000000000000)(hb:b.length<=1000000000000):aE prog 191 [.rv h,.d (.sl (b.map ai.enc))] [(h,.row 84 2 (dd (a.map ai.enc)))] (λr L=>r= .ret (.d (.sl ((a++b).map ai.enc)))/\L=[(h,.row 84 2 (dd (a.map ai.enc)))]):=by
 have h5:(h==5)=false:=by simp[hh]
 refine aE.xQ func191 rfl (by simp[f191]) ?_;refine av.gE ?_;simp[f191];refine av.gE ?_;simp[hh,hh.symm,h5];refine⟨by omega,by omega,?_⟩;refine av.weaken (Wk.freeze 5 (k:=2) (ty:=84) (ys:=a.map ai.enc++b.map ai.enc) rfl) (av.ret ?_);simp[hh,hh.symm,h5]
theorem PI{t:ar}{locals:Int}{s:an}(h:eO t locals s=true):(jH s).1=true/\oT t s locals=true/\(∀x∈s.aF,cT t locals x (decide (s.Kind=1))=true)/\(∀x∈s.Body,eO t locals x=true)/\(∀x∈s.bX,eO t locals x=true):=by
 rw[zD]at h;simp only[aoM,iq,nk,aoP]at h;obtain⟨⟨⟨⟨⟨h1,h2⟩,h3⟩,h4⟩,h5⟩,h6⟩:=h;exact⟨h1,h2,h4,h5.1,h6.1⟩
theorem Eb{s:an}(h:(jH s).1=true)(hk:s.Kind=9\/s.Kind=10\/s.Kind=11):∃x,s.aF=[x]:=by
 have hl:s.aF.length=1:=by
  rcases hk with hk|hk|hk<;>· simp[jH,hk,rz]at h;omega
 generalize s.aF=l at hl
 match l,hl with
 | [x],_=>exact⟨x,rfl⟩
def ac8(s:an):Prop:=∀n:Int,0<=n/\n+2 *AK s<=1000000000->Pure prog 271 [.agg (s.enc.map .d),iD n] (fG (dx s n))
theorem z7(l:List an)(hlen:l.length<=1000000000000000)(ih:∀s∈l,ac8 s)(n:Int)(hn:0<=n/\n+2 *hZ l<=1000000000):Pure prog 238 [.d (.sl (l.map an.enc)),iD n] (fG (bh l n)):=by
 unfold fG;refine rn func238 ?_;simp[f238];refine av.weaken (Wk.aa1 (t:=6) rfl) ?_;refine av.fj [0,1,6,7] l (λpre=> [(1,iD (bh pre n).2),(6,.d (.sl ((bh pre n).1.map ai.enc))),(7,iD pre.length)]) (λ_=> []) (λ_=>True) (by rfl) (by omega) (by simp[bh]) ?_ ?_
 ·rintro pre s post bx-aw bm a4;have hS:=ih s (by rw[bx];simp);have dH:=Zv pre s n;have dZ:hZ pre+AK s<=hZ l:=by rw[bx,aem];simp only[hZ];omega
  have b1:=np pre n;clear bx;generalize bh pre n=k at *;obtain⟨k1,k2⟩:=k;simp only at dH b1;have b2:=aeo s k2;have hC:=hS k2 ⟨by omega,by omega⟩;generalize dx s k2=q at *;obtain⟨q1,q2⟩:=q;unfold fG at hC;simp only at dH hC b2;simp[aw,bm];refine pC hC ?_;simp;refine au.bB rfl (dF k1 q1 (by omega) (by omega)) (by simp) rfl (by simp) rfl ?_;simp[dH,a4]
 ·intro _;simp
theorem VZ(s:an)(x:ay)(hA:s.aF=[x])(n:Int)(hn:0≤n∧n+2 *AK s≤1000000000)(V1:aN .i64 (s.aL+1))(hw:s.wf)
  (hx:∀m:Int,0<=m/\m+2 *tU x<=1000000000->Pure prog 292 [.agg (x.enc.map .d),iD m] (fG (aX x m)))
  (hb:∀m:Int,0<=m/\m+2 *hZ s.Body<=1000000000->Pure prog 238 [.d (.sl (s.Body.map an.enc)),iD m] (fG (bh s.Body m))) (hk:s.Kind=11):
  Pure prog 296 [.agg (s.enc.map .d),iD n] (fG (dx s n)):=by
 rw[zE s n hk,hA,yA];have hz:=ua s;rw[hA]at hz;simp only[fq]at hz;have b1:=lr x (n+2);have b2:=np s.Body (aX x (n+2)).2;have hC:=hx (n+2) ⟨by omega,by omega⟩;generalize aX x (n+2)=p at *;obtain⟨p1,p2⟩:=p;simp only at b1 b2 hC⊢;have hD:=hb p2 ⟨by omega,by omega⟩;generalize bh s.Body p2=q at *;obtain⟨q1,q2⟩:=q;unfold fG at hC hD⊢;simp only at b2 hC hD⊢;have a1:aN .i64 (n+2):=iW;have a2:aN .i64 (n+1):=iW;have c1:=λa b L=>(cP a b).ok L
 have c2:=λm L=>(lP m).ok L
 have c3:=λm L=>(xe m).ok L
 have c4:=λm L=>(uT m).ok L
 refine rn func296 ?_;simp[f296];intro bs;simp[hA,a1];refine pC hC ?_;simp;refine pC hD ?_;simp;refine pC (cP 37 0) ?_;simp;refine au.weaken (Wk.freeze 29 (ys:=([ai.mk 37 0]).map _) rfl) ?_;simp;refine au.bB rfl (dF [ai.mk 37 0] p1 (by simp) (by omega)) (by simp) rfl (by simp) rfl ?_;simp;refine av.aU [Q3,Q0,Q0,Q0,Q0,Q0,Q0,Q0,Q0,Q0,Q0,Q0,Q0,Q0,none,none,ard] [.agg ((ai.mk 19 2).enc.map .d),.agg ((ai.mk 6 s.aL).enc.map .d),.agg ((ai.mk 38 n).enc.map .d),.agg ((ai.mk 5 s.aL).enc.map .d),.agg ((ai.mk 25 (n+1)).enc.map .d),.agg ((ai.mk 37 0).enc.map .d)] aT (by kernel_rfl) ?_;simp[c1,c2,c3,c4,a1,a2];refine gP.intro (λ_=>fU.call 46 [46] rfl (AL 46 (by decide) ([ai.mk 37 0]++p1) [ai.mk 19 2,ai.mk 6 s.aL,ai.mk 38 n,ai.mk 5 s.aL,ai.mk 25 (n+1),ai.mk 37 0] (by simp<;>omega) (by simp)) (by simp) rfl (by kernel_rfl) (by simp[dd]) (by simp) (by simp+contextual) (by simp) (by simp)) ?_;simp;refine av.aU [Q3,Q0,Q0,Q0,Q0,Q0,Q0,Q0,Q0,none,none,ard] [.agg ((ai.mk 5 s.aL).enc.map .d),.agg ((ai.mk 19 3).enc.map .d),.agg ((ai.mk 6 (s.aL+1)).enc.map .d)] aT (by kernel_rfl) ?_;simp[c1,c2,c3,c4,a1,a2,V1];refine gP.intro (λ_=>fU.call 57 [57] rfl (AL 57 (by decide) (([ai.mk 37 0]++p1)++ [ai.mk 19 2,ai.mk 6 s.aL,ai.mk 38 n,ai.mk 5 s.aL,ai.mk 25 (n+1),ai.mk 37 0]) [ai.mk 5 s.aL,ai.mk 19 3,ai.mk 6 (s.aL+1)] (by simp<;>omega) (by simp)) (by simp) rfl (by kernel_rfl) (by simp[dd]) (by simp) (by simp+contextual) (by simp) (by simp)) ?_;simp;have c5:=λL=>(dF ((([ai.mk 37 0]++p1)++ [ai.mk 19 2,ai.mk 6 s.aL,ai.mk 38 n,ai.mk 5 s.aL,ai.mk 25 (n+1),ai.mk 37 0])++ [ai.mk 5 s.aL,ai.mk 19 3,ai.mk 6 (s.aL+1)]) q1 (by simp<;>omega) (by omega)).ok L
 simp at c5;refine av.aU [Q0,Q0,Q0,Q0,Q0,Q0,Q0,Q0,Q0,Q0,Q0,Q0,Q0,Q0,Q0,none,none,arc,ard,ard] [.d (.sl ((((([ai.mk 37 0]++p1)++ [ai.mk 19 2,ai.mk 6 s.aL,ai.mk 38 n,ai.mk 5 s.aL,ai.mk 25 (n+1),ai.mk 37 0])++ [ai.mk 5 s.aL,ai.mk 19 3,ai.mk 6 (s.aL+1)])++q1).map ai.enc)),.agg ((ai.mk 5 (s.aL+1)).enc.map .d),.agg ((ai.mk 6 s.aL).enc.map .d),.agg ((ai.mk 24 n).enc.map .d),.agg ((ai.mk 38 (n+1)).enc.map .d)] aT (by kernel_rfl) ?_;simp[c1,c2,c3,c4,c5,a1,a2,V1];refine gP.intro (λ_=>fU.call 74 [74] rfl (AL 74 (by decide) (((([ai.mk 37 0]++p1)++ [ai.mk 19 2,ai.mk 6 s.aL,ai.mk 38 n,ai.mk 5 s.aL,ai.mk 25 (n+1),ai.mk 37 0])++ [ai.mk 5 s.aL,ai.mk 19 3,ai.mk 6 (s.aL+1)])++q1) [ai.mk 5 (s.aL+1),ai.mk 6 s.aL,ai.mk 24 n,ai.mk 38 (n+1)] (by simp<;>omega) (by simp)) (by simp) rfl (by kernel_rfl) (by simp[dd]) (by simp) (by simp+contextual) (by simp) (by simp)) ?_;simp[tick]
def MT(x:ay):Prop:=∀m:Int,0<=m/\m+2 *tU x<=1000000000->Pure prog 292 [.agg (x.enc.map .d),iD m] (fG (aX x m))
def lQ(l:List an):Prop:=∀m:Int,0<=m/\m+2 *hZ l<=1000000000->Pure prog 238 [.d (.sl (l.map an.enc)),iD m] (fG (bh l m))
theorem Zx(s:an)(x:ay)(hA:s.aF=[x])(n:Int)(hn:0≤n∧n+2 *AK s≤1000000000)(hx:MT x)(hb:lQ s.Body)(hk:s.Kind=9)(he:s.bX=[]):
  Pure prog 271 [.agg (s.enc.map .d),iD n] (fG (dx s n)):=by
 rw[BN s n hk he,hA,yA];have hz:=ua s;rw[hA]at hz;simp only[fq]at hz;have b1:=lr x (n+1);have b2:=np s.Body (aX x (n+1)).2;have hC:=hx (n+1) ⟨by omega,by omega⟩;generalize aX x (n+1)=p at *;obtain⟨p1,p2⟩:=p;simp only at b1 b2 hC⊢;have hD:=hb p2 ⟨by omega,by omega⟩;generalize bh s.Body p2=q at *;obtain⟨q1,q2⟩:=q;unfold fG at hC hD⊢;simp only at b2 hC hD⊢;have a1:aN .i64 (n+2):=iW;have a2:aN .i64 (n+1):=iW;have hlen:s.bX.length=0:=by
  simp[he]
 have e0:((s.bX.length:Int)==0)=true:=by simp[he]
 refine rn func271 ?_;simp[-cB,f271,hk];intro bs;refine pC (cP 37 0) ?_;simp[-cB,hk,a1,a2,hlen,hA,he];refine au.weaken (Wk.freeze 25 (ys:=([ai.mk 37 0]).map _) rfl) ?_;simp[-cB];refine pC hC ?_;simp[-cB];refine pC hD ?_;simp[-cB];refine au.bB rfl (dF [ai.mk 37 0] p1 (by simp) (by omega)) (by simp) rfl (by simp) rfl ?_;simp[-cB];refine pC (uT n) ?_;simp[-cB];refine au.weaken (Wk.freeze 59 (ys:=([ai.mk 25 n]).map _) rfl) ?_;simp[-cB];refine au.bB rfl (dF ([ai.mk 37 0]++p1) [ai.mk 25 n] (by simp<;>omega) (by simp)) (by simp) rfl (by simp) rfl ?_;simp[-cB];refine au.bB rfl (dF ([ai.mk 37 0]++p1++ [ai.mk 25 n]) q1 (by simp<;>omega) (by omega)) (by simp) rfl (by simp) rfl ?_;simp[-cB,hlen,he,e0];refine pC (lP n) ?_;simp[-cB];refine au.weaken (Wk.freeze 70 (ys:=([ai.mk 38 n]).map _) rfl) ?_;simp[-cB];refine au.bB rfl (dF ([ai.mk 37 0]++p1++ [ai.mk 25 n]++q1) [ai.mk 38 n] (by simp<;>omega) (by simp)) (by simp) rfl (by simp) rfl ?_;simp[tick]
theorem Zy(s:an)(x:ay)(hA:s.aF=[x])(n:Int)(hn:0≤n∧n+2 *AK s≤1000000000)(hx:MT x)(hb:lQ s.Body)(hc:lQ s.bX)(hk:s.Kind=9)(he:s.bX≠ []):
  Pure prog 271 [.agg (s.enc.map .d),iD n] (fG (dx s n)):=by
 rw[BO s n hk he,hA,yA];have hz:=ua s;rw[hA]at hz;simp only[fq]at hz;have b1:=lr x (n+2);have b2:=np s.Body (aX x (n+2)).2;have hC:=hx (n+2) ⟨by omega,by omega⟩;generalize aX x (n+2)=p at *;obtain⟨p1,p2⟩:=p;simp only at b1 b2 hC⊢;have hD:=hb p2 ⟨by omega,by omega⟩;have b3:=np s.bX (bh s.Body p2).2;generalize bh s.Body p2=q at *;obtain⟨q1,q2⟩:=q;simp only at b2 b3 hD⊢;have hF:=hc q2 ⟨by omega,by omega⟩;generalize bh s.bX q2=r at *;obtain⟨r1,r2⟩:=r;unfold fG at hC hD hF⊢;simp only at b2 hC hD b3 hF⊢;have a1:aN .i64 (n+2):=iW;have a2:aN .i64 (n+1):=iW;have hlen:0<s.bX.length:=by
  cases h:s.bX with|nil=>exact(he h).elim|cons a l=>simp
 have e0:((s.bX.length:Int)==0)=false:=by simp[he]
 refine rn func271 ?_;simp[-cB,f271,hk];intro bs;refine pC (cP 37 0) ?_;simp[-cB,hk,a1,a2,hlen,hA,he];refine au.weaken (Wk.freeze 25 (ys:=([ai.mk 37 0]).map _) rfl) ?_;simp[-cB];refine pC hC ?_;simp[-cB];refine pC hD ?_;simp[-cB];refine au.bB rfl (dF [ai.mk 37 0] p1 (by simp) (by omega)) (by simp) rfl (by simp) rfl ?_;simp[-cB];refine pC (uT n) ?_;simp[-cB];refine au.weaken (Wk.freeze 59 (ys:=([ai.mk 25 n]).map _) rfl) ?_;simp[-cB];refine au.bB rfl (dF ([ai.mk 37 0]++p1) [ai.mk 25 n] (by simp<;>omega) (by simp)) (by simp) rfl (by simp) rfl ?_;simp[-cB];refine au.bB rfl (dF ([ai.mk 37 0]++p1++ [ai.mk 25 n]) q1 (by simp<;>omega) (by omega)) (by simp) rfl (by simp) rfl ?_;simp[-cB,hlen,he,e0];refine pC hF ?_;simp[-cB,a2];refine pC (xe (n+1)) ?_;simp[-cB];refine pC (lP n) ?_;simp[-cB];refine au.weaken (Wk.freeze 86 (ys:=([ai.mk 24 (n+1),ai.mk 38 n]).map _) rfl) ?_;simp[-cB];refine au.bB rfl (dF ([ai.mk 37 0]++p1++ [ai.mk 25 n]++q1) [ai.mk 24 (n+1),ai.mk 38 n] (by simp<;>omega) (by simp)) (by simp) rfl (by simp) rfl ?_;simp[-cB];refine au.bB rfl (dF (([ai.mk 37 0]++p1++ [ai.mk 25 n]++q1)++ [ai.mk 24 (n+1),ai.mk 38 n]) r1 (by simp<;>omega) (by omega)) (by simp) rfl (by simp) rfl ?_;simp[-cB,a2];refine pC (lP (n+1)) ?_;simp[-cB];refine au.weaken (Wk.freeze 93 (ys:=([ai.mk 38 (n+1)]).map _) rfl) ?_;simp[-cB];refine au.bB rfl (dF (([ai.mk 37 0]++p1++ [ai.mk 25 n]++q1)++ [ai.mk 24 (n+1),ai.mk 38 n]++r1) [ai.mk 38 (n+1)] (by simp<;>omega) (by simp)) (by simp) rfl (by simp) rfl ?_;simp[tick]
theorem RH(s:an)(x:ay)(hA:s.aF=[x])(n:Int)(hn:0≤n∧n+2 *AK s≤1000000000)(hx:MT x)(hb:lQ s.Body)(hk:s.Kind=10):
  Pure prog 271 [.agg (s.enc.map .d),iD n] (fG (dx s n)):=by
 rw[wP s n hk,hA,yA];have hz:=ua s;rw[hA]at hz;simp only[fq]at hz;have b1:=lr x (n+2);have b2:=np s.Body (aX x (n+2)).2;have hC:=hx (n+2) ⟨by omega,by omega⟩;generalize aX x (n+2)=p at *;obtain⟨p1,p2⟩:=p;simp only at b1 b2 hC⊢;have hD:=hb p2 ⟨by omega,by omega⟩;generalize bh s.Body p2=q at *;obtain⟨q1,q2⟩:=q;unfold fG at hC hD⊢;simp only at b2 hC hD⊢;have a1:aN .i64 (n+2):=iW;have a2:aN .i64 (n+1):=iW;have c2:=λm L=>(lP m).ok L
 have c4:=λm L=>(uT m).ok L
 refine rn func271 ?_;simp[-cB,f271,hk];intro bs;refine pC (cP 37 0) ?_;simp[-cB,hk,hA,a1];refine au.weaken (Wk.freeze 25 (ys:=([ai.mk 37 0]).map _) rfl) ?_;simp[-cB];refine pC hC ?_;simp[-cB];refine pC hD ?_;simp[-cB];refine av.aU [Q0,Q0,Q0,Q0,Q0,none,Q3,none,arc,arc,ard,none,none,some (4,4)] [.agg ((ai.mk 38 n).enc.map .d),.agg ((ai.mk 25 (n+1)).enc.map .d)] aT (by kernel_rfl) ?_;simp[c2,c4,a2];refine gP.intro (λ_=>fU.call 120 [120] rfl (aeq 120 (by decide) [ai.mk 38 n,ai.mk 37 0] p1 (by simp) (by omega)) (by simp) rfl (by kernel_rfl) (by simp[dd]) (by simp) (by simp+contextual) (by simp) (by simp)) ?_;simp[c2,c4,a2];refine gP.intro (λ_=>fU.call 126 [126] rfl (AL 126 (by decide) ([ai.mk 38 n,ai.mk 37 0]++p1) [ai.mk 25 (n+1)] (by simp<;>omega) (by simp)) (by simp) rfl (by kernel_rfl) (by simp[dd]) (by simp) (by simp+contextual) (by simp) (by simp)) ?_;simp[c2,c4,a2];refine au.bB rfl (dF (([ai.mk 38 n,ai.mk 37 0]++p1)++ [ai.mk 25 (n+1)]) q1 (by simp<;>omega) (by omega)) (by simp) rfl (by simp) rfl ?_;simp;refine pC (xe n) ?_;simp[a2];refine pC (lP (n+1)) ?_;simp;refine au.weaken (Wk.freeze 136 (ys:=([ai.mk 24 n,ai.mk 38 (n+1)]).map _) rfl) ?_;simp;refine au.bB rfl (dF ((([ai.mk 38 n,ai.mk 37 0]++p1)++ [ai.mk 25 (n+1)])++q1) [ai.mk 24 n,ai.mk 38 (n+1)] (by simp<;>omega) (by simp)) (by simp) rfl (by simp) rfl ?_;simp[tick]
theorem V2(s:an)(n:Int)(hn:0≤n∧n+2 *AK s≤1000000000)(hk:s.Kind=1)(hS:Pure prog 297 [.d (.sl (s.aF.map ay.enc)),iD n] (fG (de s.aF n))):
  Pure prog 271 [.agg (s.enc.map .d),iD n] (fG (dx s n)):=by
 rw[yz s n hk];have hz:=ua s;have b1:=Ea s.aF n;generalize de s.aF n=p at *;obtain⟨p1,p2⟩:=p;unfold fG at hS⊢;simp only at hS b1⊢;refine rn func271 ?_;simp[-cB,f271,hk];intro bs;refine pC (cP 37 0) ?_;simp[-cB,hk];refine au.weaken (Wk.freeze 25 (ys:=([ai.mk 37 0]).map _) rfl) ?_;simp[-cB,hk];refine pC hS ?_;simp[-cB];refine au.bB rfl (dF [ai.mk 37 0] p1 (by simp) (by omega)) (by simp) rfl (by simp) rfl ?_;simp[tick]
theorem RI(s:an)(n:Int)(hk:s.Kind=11)(hS:Pure prog 296 [.agg (s.enc.map .d),iD n] (fG (dx s n))):
  Pure prog 271 [.agg (s.enc.map .d),iD n] (fG (dx s n)):=by
 generalize dx s n=p at *;obtain⟨p1,p2⟩:=p;unfold fG at hS⊢;simp only at hS⊢;refine rn func271 ?_;simp[-cB,f271,hk];intro bs;refine pC (cP 37 0) ?_;simp[-cB,hk];refine pC hS ?_;simp
theorem RJ(s:an)(n:Int)(hn:0≤n∧n+2 *AK s≤1000000000)(h1:s.Kind≠9)(h2:s.Kind≠10)(h3:s.Kind≠11)(h4:s.Kind≠1)(hS:Pure prog 298 [.d (.sl (s.aF.map ay.enc)),iD n] (fG (aZ s.aF n))):
  Pure prog 271 [.agg (s.enc.map .d),iD n] (fG (dx s n)):=by
 rw[wS s n h1 h2 h3 h4];have hz:=ua s;have b1:=qz s.aF n;generalize aZ s.aF n=p at *;obtain⟨p1,p2⟩:=p;unfold fG at hS⊢;simp only at hS b1⊢;have e1:(s.Kind==9)=false:=by simp[h1]
 have e2:(s.Kind==10)=false:=by simp[h2]
 have e3:(s.Kind==11)=false:=by simp[h3]
 have e4:(s.Kind==1)=false:=by simp[h4]
 have c1:=(aep s).ok;have c2:=λL=>(dF [ai.mk 37 0] p1 (by simp) (by omega)).ok L
 simp at c2;refine rn func271 ?_;simp[-cB,f271];intro bs;refine pC (cP 37 0) ?_;simp[-cB,e1,e2,e3,e4];refine au.weaken (Wk.freeze 25 (ys:=([ai.mk 37 0]).map _) rfl) ?_;simp[-cB];refine pC hS ?_;simp[-cB];refine av.aU [Q0,Q0,Q0,Q0,Q0,none,none,arc,ard,ard] [.d (.sl (([ai.mk 37 0]++p1).map ai.enc)),.agg ((gR s.Kind s.aL).enc.map .d)] aT (by kernel_rfl) ?_;simp[c1,c2];refine gP.intro (λ_=>fU.call 171 [171] rfl (AL 171 (by decide) ([ai.mk 37 0]++p1) [gR s.Kind s.aL] (by simp<;>omega) (by simp)) (by simp) rfl (by kernel_rfl) (by simp[dd]) (by simp) (by simp+contextual) (by simp) (by simp)) ?_;simp[tick]
theorem V3(t:ar)(locals:Int)(jn:aN .i64 locals)(s:an)(hw:s.wf)(hb:eO t locals s=true):ac8 s:=by
 obtain⟨N,hN⟩:∃N,SizeOf.sizeOf s<N:=⟨_,ao2 _⟩
 induction N generalizing s with
 | zero=>omega
 | succ N ih=>
   intro n hn;obtain⟨p1,p2,p3,p4,p5⟩:=PI hb;have hz:=ua s;have hla:=an.JS hw;have hlb:=an.EY hw;have hle:=an.E0 hw;have hB:lQ s.Body:=λm hm=>z7 s.Body (by omega) (λx hx=>ih x (an.EZ hw x hx) (p4 x hx) (by have:=an.qU s;have:=apo hx;omega)) m hm
   have hE:lQ s.bX:=λm hm=>z7 s.bX (by omega) (λx hx=>ih x (an.E1 hw x hx) (p5 x hx) (by have:=an.qV s;have:=apo hx;omega)) m hm
   by_cases k1:s.Kind=1
   ·refine V2 s n hn k1 (Zw t locals s.aF (an.wZ hw) (λx hx=>?_) (by omega) n ⟨by omega,by omega⟩);have:=p3 x hx
    rwa[show decide (s.Kind=1)=true by simp[k1]]at this
   have hA:∀x∈s.aF,cT t locals x false=true:=λx hx=>by
    have:=p3 x hx
    rwa[show decide (s.Kind=1)=false by simp[k1]]at this
   have hX:∀x∈s.aF,MT x:=λx hx m hm=>IY t locals x (an.wZ hw x hx) (hA x hx) m hm
   by_cases k9:s.Kind=9
   ·obtain⟨x,hx⟩:=Eb p1 (.inl k9);by_cases he:s.bX=[]
    ·exact Zx s x hx n hn (hX x (by simp[hx])) hB k9 he
    ·exact Zy s x hx n hn (hX x (by simp[hx])) hB hE k9 he
   by_cases rH:s.Kind=10
   ·obtain⟨x,hx⟩:=Eb p1 (.inr (.inl rH));exact RH s x hx n hn (hX x (by simp[hx])) hB rH
   by_cases ub:s.Kind=11
   ·obtain⟨x,hx⟩:=Eb p1 (.inr (.inr ub));have V1:aN .i64 (s.aL+1):=by
     have As:s.Name.toList=[]/\s.aL<locals-1:=by
      unfold oT at p2;cases h:s.Name.toList with
      | nil=>simp[h,ub]at p2;exact⟨rfl,by omega⟩
      | cons a l=>simp[h]at p2
     have h0:0<=s.aL:=by simp[oT,As.1,ub]at p2;omega
     rw[aS]at jn⊢;omega
    exact RI s n ub (VZ s x hx n hn V1 hw (hX x (by simp[hx])) hB ub)
   ·exact RJ s n hn k9 rH ub k1 (z6 s.aF (by omega) n ⟨by omega,by omega⟩ (λi h m hm=>hX _ (aoV h) m hm))
section
variable {t : ar} {locals : Int} {l : List an}
theorem Gc(jn:aN .i64 locals)(hl:∀s∈l,s.wf)(hlen:l.length *104<=140737488351232)(hb:iq t locals l=true):lQ l:=by
 unfold iq at hb;rw[aoM,nk,aoP]at hb;exact λm hm=>z7 l (by omega) (λs hs=>V3 t locals jn s (hl s hs) (hb.1 s hs)) m hm
end
theorem Ko(l:List an)(hl:lQ l)(hn:hZ l<=30000000):Pure prog 192 [.d (.sl (l.map an.enc))] (.d (.sl ((bh l 0).1.map ai.enc))):=by
 have hc:=hl 0 ⟨by omega,by omega⟩;unfold fG at hc;generalize bh l 0=q at *;obtain⟨q1,q2⟩:=q;simp only at hc⊢;refine rn func192 ?_;simp[f192];refine pC hc ?_;simp
theorem Hl(l:List an)(hl:lQ l)(hn:hZ l<=30000000):Pure prog 126 [.d (.sl (l.map an.enc))] (.d (.sl (((bh l 0).1++ [ai.mk 1 0,ai.mk 27 0]).map ai.enc))):=by
 have hc:=Ko l hl hn;have bd:=np l 0;generalize bh l 0=q at *;obtain⟨q1,q2⟩:=q;simp only at hc bd⊢;refine rn func126 ?_;simp[f126];refine pC hc ?_;simp;refine pC (cP 1 0) ?_;simp;refine pC (cP 27 0) ?_;simp;refine au.weaken (Wk.freeze 7 (ys:=([ai.mk 1 0,ai.mk 27 0]).map _) rfl) ?_;simp;refine au.bB rfl (dF q1 [ai.mk 1 0,ai.mk 27 0] (by omega) (by simp)) (by simp) rfl (by simp) rfl ?_;simp
end Go.Ab

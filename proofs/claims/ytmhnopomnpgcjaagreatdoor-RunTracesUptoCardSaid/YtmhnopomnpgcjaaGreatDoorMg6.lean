/-
 HK texts Pt Pu Dn ams ali alj alk alm aok amt Lo amu amv amw amx amy amz amA aln alo amB Gwx Gex amC amD amE alp Gst aol aom aon aoo aop aoq aor aos amF,one behind Cb other.
-/
import Derived.Test.YtmhnopomnpgcjaaGreatDoorMg5
set_option linter.unusedSimpArgs false
set_option linter.unusedVariables false
namespace Go.Ab
section
variable {P : Program} {n : Nat} {Q : AX -> St -> Prop}
def PE(ov:List Nat)(o:Oper):Bool:=rZ o||ov.any (λt=>o.dst==some t)
def tv(P:Program)(ops:Array Oper)(s:St)(o:Oper)(u:V):Option (V×Prop):=if rZ o then cv P ops s o u else some (u,r6 P ops o s u)
theorem PF{ops s o u x c}(h:tv P ops s o u=some (x,c))(hc:c):r6 P ops o s x:=by
 unfold tv at h;split at h
 ·exact G0 h hc
 grind
def LM(P:Program)(ops:Array Oper)(o:Oper)(s:St)(x:V):Option V->Prop
 | some u=>match tv P ops s o u with
   | some (x',c)=>x'=x/\c
   | none=>False
 | none=>match qv P ops s o with
   | some (x',c)=>x'=x/\c
   | none=>False
theorem LN{ops s o x t}(h:LM P ops o s x t):r6 P ops o s x:=by
 cases t with
 | some u=>
   simp only[LM]at h;split at h
   ·rename_i x' c hc;obtain⟨rfl,h⟩:=h;exact PF hc h
   grind
 | none=>
   simp only[LM]at h;split at h
   ·rename_i x' c hc;obtain⟨rfl,h⟩:=h;exact Bn hc h
   grind
def BL(P:Program)(ops:Array Oper)(ks:List (Option Nat))(Ls:List aI):List Lg->Prop
 | []=>True
 | d::ds=>pF (d.hi-d.lo) (d.lo+1) (λp=>LM P ops d.o ⟨dm ks p d.fr,Ls.getD p []⟩ d.x d.told)/\BL P ops ks Ls ds
def ajL(P:Program)(ops:Array Oper)(o:Oper)(s:St)(K:V->Option Nat->aI->Prop):Prop:=∃x k L',(∀n,fN P n ops o s.fr s.L k x L')/\K x k L'
def runT(P:Program)(ops:Array Oper)(ov:List Nat):List (Oper×Option (Nat×Nat))->kv->List (Option Nat)->List aI->List V->List Lg->(kv->List (Option Nat)->List aI->Prop)->Prop
 | [],fr,ks,Ls,_,ds,K=>BL P ops ks Ls ds/\K fr ks Ls
 | (o,none)::rest,fr,ks,Ls,us,ds,K=>
   match lv P ops ⟨dm ks ks.length fr,Ls.getD ks.length []⟩ o with
   | some (x,k,L',c)=>c/\runT P ops ov rest (gX fr o.dst (ks.length+1) x) (ks++ [k]) (Ls++ [L']) us ds K
   | none=>ajL P ops o ⟨dm ks ks.length fr,Ls.getD ks.length []⟩ λx k L'=>runT P ops ov rest (gX fr o.dst (ks.length+1) x) (ks++ [k]) (Ls++ [L']) us ds K
 | (o,some (lo,hi))::rest,fr,ks,Ls,us,ds,K=>
   if PE ov o then
    match us with
    | []=>False
    | u::kM=>match tv P ops ⟨dm ks ks.length fr,Ls.getD ks.length []⟩ o u with
      | some (x,c)=>c∧pF (ks.length-lo) lo (fun p=>LM P ops o ⟨dm ks p fr,Ls.getD p []⟩ x (some u))∧
        runT P ops ov rest (gX fr o.dst lo x) ks Ls kM (if ks.length<hi then⟨o,fr,x,ks.length,hi,some u⟩::ds else ds) K
      | none=>False
   else
    match qv P ops ⟨dm ks ks.length fr,Ls.getD ks.length []⟩ o with
    | some (x,c)=>c∧pF (ks.length-lo) lo (fun p=>LM P ops o ⟨dm ks p fr,Ls.getD p []⟩ x none)∧
      runT P ops ov rest (gX fr o.dst lo x) ks Ls us (if ks.length<hi then⟨o,fr,x,ks.length,hi,none⟩::ds else ds) K
    | none=>False
theorem Ku{ops}{ov}{K}:∀l fr ks Ls us ds,Ls.length=ks.length+1→runT P ops ov l fr ks Ls us ds K→
  ∃tr jD jE lM,pU l fr ks.length tr jD (ks++jE).length/\(∀(i:Nat) r z,tr[i]?=some r->l[i]?=some z->GY P n ops (ks++jE) (λp=>(Ls++lM).getD p []) r z.1)/\
   BL P ops (ks++jE) (Ls++lM) ds/\K jD (ks++jE) (Ls++lM)
 | [],fr,ks,Ls,us,ds,hl,h=>by
   refine⟨[],fr,[],[],?_,by simp,?_,?_⟩
   ·simp only[apL];exact .nil fr ks.length
   ·simpa using h.1
   ·simpa using h.2
 | (o,none)::rest,fr,ks,Ls,us,ds,hl,h=>by
   have key:∀(x:V) (k:Option Nat) (L':aI),fN P n ops o (dm ks ks.length fr) (Ls.getD ks.length []) k x L'→runT P ops ov rest (gX fr o.dst (ks.length+1) x) (ks++ [k]) (Ls++ [L']) us ds K→
     ∃tr jD jE lM,pU ((o,none)::rest) fr ks.length tr jD (ks++jE).length/\(∀(i:Nat) (r:Rec) (z:Oper×Option (Nat×Nat)),tr[i]?=some r->((o,none)::rest)[i]?=some z->GY P n ops (ks++jE) (λp=>(Ls++lM).getD p []) r z.1)/\
      BL P ops (ks++jE) (Ls++lM) ds/\K jD (ks++jE) (Ls++lM):=by
    intro x k L' OD hr;obtain⟨tr,jD,jE,lM,h1,h2,h3,h4⟩:=Ku rest _ _ _ us ds (by grind) hr;rw[apA]at h1 h3 h4;simp only[apA,aph,apj,apC]at h1 h2 h3 h4;refine⟨⟨fr,x,0,0,true,ks.length⟩::tr,jD,_,_,.lH (by grind),?_,h3,h4⟩;intro i r z hi hz;cases i with
    | zero=>
      simp only[apE,anc]at hi hz;subst hi;subst hz;refine⟨λ_=>⟨by simp,?_⟩,(λh=>by cases h)⟩;simp only;rw[uX (api _),uY (by omega)];grind
    | succ i=>grind
   rw[runT]at h;split at h
   ·rename_i x k L' c bV;exact key x k L' (fN.of (n:=n) bV h.1) h.2
   ·obtain⟨x,k,L',OD,hr⟩:=h;grind
 | (o,some (lo,hi))::rest,fr,ks,Ls,us,ds,hl,h=>by
   have key:∀(x:V) (t:Option V) (kM:List V),r6 P ops o ⟨dm ks ks.length fr,Ls.getD ks.length []⟩ x→pF (ks.length-lo) lo (fun p=>LM P ops o ⟨dm ks p fr,Ls.getD p []⟩ x t)→
     runT P ops ov rest (gX fr o.dst lo x) ks Ls kM (if ks.length<hi then⟨o,fr,x,ks.length,hi,t⟩::ds else ds) K->
     ∃tr jD jE lM,pU ((o,some (lo,hi))::rest) fr ks.length tr jD (ks++jE).length/\(∀(i:Nat) (r:Rec) (z:Oper×Option (Nat×Nat)),tr[i]?=some r->((o,some (lo,hi))::rest)[i]?=some z->GY P n ops (ks++jE) (λp=>(Ls++lM).getD p []) r z.1)/\
      BL P ops (ks++jE) (Ls++lM) ds/\K jD (ks++jE) (Ls++lM):=by
    intro x t kM hc ha hr;obtain⟨tr,jD,jE,lM,h1,h2,h3,h4⟩:=Ku rest _ _ _ kM _ hl hr;have Xn:BL P ops (ks++jE) (Ls++lM) ds:=by
     split at h3
     ·exact h3.2
     omega
    refine⟨⟨fr,x,lo,hi,false,ks.length⟩::tr,jD,jE,lM,.quiet h1,?_,Xn,h4⟩;intro i r z cm hz;cases i with
    | zero=>
      simp only[apE,anc]at cm hz;subst cm;subst hz;refine⟨(λh=>by cases h),λ_ p nu uD=>?_⟩;simp only at nu uD⊢;rcases Nat.lt_trichotomy p ks.length with au|heq|hgt
      ·grind[uX,uY,LN,AF]
      ·grind[uX,uY]
      ·rw[if_pos (by omega)]at h3;exact LN (AF h3.1 p (by grind) (by grind))
    | succ i=>grind
   cases pS:PE ov o with
   | true=>
     cases us with
     | nil=>simp_all[runT,if_pos]
     | cons u kM=>
       rw[runT,if_pos pS]at h;split at h
       ·rename_i x c hcv;exact key x (some u) kM (PF hcv h.1) h.2.1 h.2.2
       grind
   | false=>
     rw[runT.eq_def]at h;simp only[pS,apH,if_false]at h;split at h
     ·rename_i x c hqv;exact key x none us (Bn hqv h.1) h.2.1 h.2.2
     grind
theorem av.abS{id}{l}{s} rg ov us(hm:P.follows .mixedOrders=true)(ok:Lf n l rg=true)
  (h:runT P l.toArray ov (l.zip rg) (s.fr.map λe=>(e.1,0,e.2)) [] [s.L] us [] (λfr ks Ls=>Q .normal ⟨dm ks ks.length fr,Ls.getD ks.length []⟩)):av P n (.region id l.toArray true) s Q:=by
 intro fo m a w _ g;obtain⟨tr,jD,ks,Ls,h1,h2,-,h4⟩:=Ku (l.zip rg) _ [] [s.L] us [] rfl h;exact wpIn_region_any hm (Bm ok h1 h2 rfl h4 g _)
theorem av.SF{id}{l}{s} rg ov us(hm:P.follows .mixedOrders=true)(ok:Lf n l rg=true)
  (h:runT P l.toArray ov (l.zip rg) (s.fr.map λe=>(e.1,0,e.2)) [] [s.L] us [] (λfr ks Ls=>∀bs,Q .normal (St.zi bs ⟨dm ks ks.length fr,Ls.getD ks.length []⟩))):av P n (.region id l.toArray true) s Q:=
 av.opened (av.abS rg ov us hm ok h)
attribute [simp] runT tv LM BL PE
end
end Go.Ab
namespace Go.Ab
section
variable {P : Program} {n : Nat}
theorem D4:∀(l:List Nat) x,x∈l->x<=l.foldr max 0
 | [],_,h=>by cases h
 | y::l,x,h=>by
   rcases apq.1 h with rfl|h
   ·grind
   ·have:=D4 l x h;grind
theorem D5{ops}{o}{s}{ys}{ty}{k}(hg:o.guard=none)
  (h:∀fo m (ρ:Operand->Value) w,Inv fo m s.L w->(∀z,z∈o.op.operands->aC w (OO fo m) m (ρ z) (s.ev z))->
   ∃v w',(execOp ρ o).run P w= .ok (.value v) w'/\hY w w'/\(eT w' (OO fo m) v (.sl ys)\/
    ((∀b,dq v b->w.heap.size<=b)/\∀h,h∉keys s.L->(aV.row ty k (dd ys)).Holds w' (OO fo (eV m h v)) (eV m h v) v))):r6 P ops o s (.d (.sl ys)):=by
 intro fo m a w hi hs next Q' kk
 rw[if_pos (by simp[Region.wanted,hg])];obtain⟨v,w',bz,gr,Sq⟩:=h fo m a.eval w hi (λz hz=>vU hi.ee (λt ht=>hs t (kE (by grind))));refine xb bz (.inl rfl) (kk v w' ?_ (hi.grown gr.size gr.block) ⟨gr.os,gr.tape,gr.output,gr.size,λb hb _=>gr.block b hb,λb _ h=>h⟩);rcases Sq with hd|⟨hb,hh⟩
 ·exact .d _ _ hd
 ·have hn:(keys s.L).foldr max 0+1∉keys s.L:=λhm=>by have:=D4 _ _ hm;omega
  have cm:=hi.new hn gr.size gr.block hb (hh _ hn);refine .d _ _ (Li (ty:=ty) (k:=k) cm (by simp) (cq _ _) (λb ho=>?_) (λb hv ho=>?_))
  ·rcases ho with⟨i,x,hx,gS⟩|hf
   ·exact .inl ⟨i,x,sC hi hn v i x hx,gS⟩
   ·exact .inr hf
  ·have h1:=hb b hv;rcases ho with⟨i,x,hx,gS⟩|hf
   ·have:=hi.lt hx gS;omega
   ·have:=hi.ei b hf;omega
theorem Gi{ops:Array Oper}{dst:Option Tmp}{t t2:TypeId}{so xo:Operand}{ty:TypeId}{pos:String}{after:Array Edge}{k by_:Nat}{e:TypeId}{z:List Value}{s:St}{ys:List (List D)}
  (ht:kB P t=some (e,k,by_,z)) (vD:sk P t2=true) (hs:s.ev so= .kn (λv=>∃ao,v= .slice ao 0 0)) (hx:GI s.L (s.ev xo)=some (dd ys)) (hk:0<k/\0<by_) (vE:∀y∈ys,y.length=k)
  (hb:ys.length *by_<=140737488355328):
  r6 P ops ⟨dst,.call {callee:= .builtin .append,args:= #[so,xo],argTypes:= #[t,t2]},ty,pos,after,none⟩ s (.d (.sl ys)):=by
 refine D5 (ty:=e) (k:=k) rfl ?_;intro fo m ρ w hi hr;obtain⟨i,zv,hu,Tv,hz,kW,vB,nS,wj,kA⟩:=nR ht;obtain⟨d2,nG,ns⟩:=A5 vD;have mC:=hr so (by simp[Op.operands,Call.operands]);rw[hs]at mC;obtain⟨ao,xK⟩:∃ao,ρ so= .slice ao 0 0:=Ye mC;have wm:=hr xo (by simp[Op.operands,Call.operands]);have af3:∀y∈dd ys,y.length=k:=by
  intro y hy;obtain⟨q,hq,rfl⟩:=apf.1 hy;rw[apx];exact vE q hq
 obtain⟨news,src,FF⟩:=A4 (P:=P) hi wm hx hk.1 af3;have hlen:(dd ys).length=ys.length:=by simp[dd]
 have FC:(dd ys).length<=maxLen:=by rw[hlen];exact CM hk.2 hb
 have ju:∀{v':Value} {w':World},(Builtin.append_ #[t,t2] ty #[ρ so,ρ xo]).run P w= .ok v' w'→
   (execOp ρ ⟨dst,.call {callee:= .builtin .append,args:= #[so,xo],argTypes:= #[t,t2]},ty,pos,after,none⟩).run P w= .ok (.value v') w':=by
  intro v' w' hr;simp[execOp,resolve,invoke,builtin,hr]
 by_cases rB:dd ys=[]
 ·rw[rB]at src;have CO:news=[]:=aqa (by simpa using src.len);subst CO;have bz:(Builtin.append_ #[t,t2] ty #[ρ so,ρ xo]).run P w= .ok (.slice ao 0 0) w:=by
   obtain⟨q1,q2⟩:=src.run w rfl;simp only[apC]at q1 q2;rw[xK];rcases ns with⟨e2,rfl⟩|rfl<;>cases ao<;>simp[Builtin.append_,run_underlying hu,run_underlying nG,sizeOf,typeInfo,Tv,kW,q1,q2,storeCells]
  have hy:ys=[]:=by simpa[dd]using rB
  subst hy;exact⟨_,w,ju bz,hY.refl w,.inl (.sl ao 0 0 [] 0 0 0 (λ_ _=>undef) rfl (by omega) (by simp[maxLen]) (by omega) (by simp) (by omega) (by simp))⟩
 ·have iZ:=apV.2 rB;have bz:=sD (P:=P) (ty:=ty) (ao:=ao) (sLen:=0) (sCap:=0) (olds:=[]) hu nG ns Tv kW hz src Src.empty (by omega) (by simp only[maxLen]at FC;omega) (by rw[vB];exact growslice_fits (by omega) (by rw[hlen];simpa using hb));have bm:=grownCap_ge w (0+(dd ys).length) 0 e;have vC:=grownCap_le_maxLen w (0+(dd ys).length) 0 e (by omega);have yS:∀b,dq (.slice (some ⟨w.heap.size,0,none⟩) (0+(dd ys).length) (grownCap w (0+(dd ys).length) 0 e)) b->w.heap.size<=b:=by
   intro b hb;simp[dq,jJ]at hb;omega
  have rT:hY w (w.drew.alloc (.cells (#[]++news.toArray++Builtin.zeroCells zv.cells (grownCap w (0+(dd ys).length) 0 e-(0+(dd ys).length))) e)):=by
   have:=hY.alloc w.drew (.cells (#[]++news.toArray++Builtin.zeroCells zv.cells (grownCap w (0+(dd ys).length) 0 e-(0+(dd ys).length))) e);exact⟨this.os,this.tape,this.output,this.size,this.block⟩
  rw [←xK]at bz;refine⟨_,_,ju bz,rT,.inr ⟨yS,fun h hn=>?_⟩⟩;have:=zP (w:=w) (O:=OO fo m) (m:=m) (e:=e) (k:=k) (zv:=zv) (z:=z) (olds:=[]) (news:=news) (xs:=[]) (ys:=dd ys) (cap:=grownCap w (0+(dd ys).length) 0 e) nS wj kA hk.1 (by simp) src.len (by simp) src.one (by simp) af3
    (by simp) FF (by simpa using bm) vC (w0:=w) (fr:=w.drew.alloc (.cells (#[]++news.toArray++Builtin.zeroCells zv.cells (grownCap w (0+(dd ys).length) 0 e-(0+(dd ys).length))) e))
    (heap_alloc_new w.drew (.cells (#[]++news.toArray++Builtin.zeroCells zv.cells (grownCap w (0+(dd ys).length) 0 e-(0+(dd ys).length))) e))
    (O':=OO fo (eV m h (.slice (some ⟨w.heap.size,0,none⟩) (0+(dd ys).length) (grownCap w (0+(dd ys).length) 0 e)))) (m':=eV m h (.slice (some ⟨w.heap.size,0,none⟩) (0+(dd ys).length) (grownCap w (0+(dd ys).length) 0 e)))
    (λu c hu=>aC.mono (w:=w) (O:=OO fo m) ⟨rT.size,λb hb _=>rT.block b hb⟩ (CH hi yS) (sC hi hn _) hu)
  simpa using this
theorem VW{ops}{dst}{t}{ty}{pos}{after}{k by_}{e}{z}{s}(ht:kB P t=some (e,k,by_,z)):
  r6 P ops ⟨dst,.buildSlice t 0 #[],ty,pos,after,none⟩ s (.kn (λv=>∃ao,v= .slice ao 0 0)):=by
 intro fo m a w hi hs next Q' kk
 obtain⟨i,zv,hu,Tv,hz,kW,vB,nS,wj,kA⟩:=nR ht;have gr:=hY.alloc w (.cells #[] e);have bz:(execOp a.eval ⟨dst,.buildSlice t 0 #[],ty,pos,after,none⟩).run P w= .ok (.value (.slice (some ⟨w.heap.size,0,none⟩) 0 0)) (w.alloc (.cells #[] e)):=by
  have II:Instr.fill (λi=>some (i *k,k)) #[] []=some #[]:=rfl;simp[execOp,Instr.buildSlice,run_underlying hu,sizeOf,typeInfo,Tv,kW,newRow,II,Array.range_zero']
 exact xb bz (.inl rfl) (kk _ _ (.kn _ _ ⟨_,rfl⟩) (hi.grown gr.size gr.block) ⟨gr.os,gr.tape,gr.output,gr.size,λb hb _=>gr.block b hb,λb _ h=>h⟩)
theorem C7{ops}{dst}{t}{len}{ps}{ty}{pos}{after}{k by_}{e}{z}{r}{c}{s}{ys}
  (ht:kB P t=some (e,k,by_,z)) (hk:0<k) (hlen:len *k<=2^24)
  (hf:tH (λi=>some (i *k,k)) (List.replicate len (z.map λx=>V.d (.v x))).flatten (ps.toList.map λp=>(p.1,s.ev p.2))=some (r,c)) (hc:c)
  (yR:r=(dd ys).flatten) (Al:ys.length=len) (qd:∀x∈ys,x.length=k):r6 P ops ⟨dst,.buildSlice t len ps,ty,pos,after,none⟩ s (.d (.sl ys)):=by
 refine D5 (ty:=e) (k:=k) rfl ?_;intro fo m ρ w hi hr;obtain⟨v,w',h1,h2,h3,-,h5⟩:=Ak (dst:=dst) (ty:=ty) (pos:=pos) (after:=after) (guard:=none) ht hk hlen hf hc yR (by simp_all) (by simp_all) hi hr;grind
theorem abT{ops}{dst}{t}{lo co}{ty}{pos}{after}{k by_}{e}{z}{kl kc}{l c}{s:St}
  (ht:kB P t=some (e,k,by_,z)) (hl:s.ev lo= .d (.v (.int kl l))) (hc:s.ev co= .d (.v (.int kc c))) (hk:0<k)
  (h0:0<=l/\l<=c) (hb:c<=maxLen/\by_ *c.toNat<=140737488355328):
  r6 P ops ⟨dst,.makeSlice t lo co,ty,pos,after,none⟩ s (.d (.sl (List.replicate l.toNat (z.map D.v)))):=by
 refine D5 (ty:=e) (k:=k) rfl ?_;intro fo m ρ w hi hr;obtain⟨i,zv,hu,Tv,hz,kW,vB,nS,wj,kA⟩:=nR ht;have sZ:=hr lo (by simp);have Xg:=hr co (by simp);rw[hl]at sZ;rw[hc]at Xg;have vC:c.toNat<=maxLen:=by omega
 have dn:(i.bytes:Int) *c<=281474976710656:=by
  grind
 have bz:=run_make (P:=P) w t e i zv hu Tv hz kl kc l c h0.1 h0.2 dn (by simp_all[maxLen]);rw[kW]at bz;have hx:∀b,dq (.slice (some ⟨w.heap.size,0,none⟩) l.toNat c.toNat) b->w.heap.size<=b:=by simp[dq,jJ]
 refine⟨_,_,?_,hY.alloc w (.cells (madeCells zv.cells (c.toNat *k)) e),.inr ⟨hx,λh hn=>?_⟩⟩
 ·simp[execOp,sZ.cy,Xg.cy,bz]
 ·have vG:dd (List.replicate l.toNat (z.map D.v))=List.replicate l.toNat (z.map λx=>V.d (.v x)):=by simp[dd]
  rw[vG];refine .inr ⟨w.heap.size,0,c.toNat,madeCells zv.cells (c.toNat *k),by simp,heap_alloc_new w _,by grind,vC,by simp[madeCells],?_,?_,?_⟩
  ·grind
  ·intro j u Aj;have hj:j<c.toNat *k:=by grind[Array.getElem?_eq_some_iff,madeCells]
   rw[oM wj hk hj]at Aj;grind
  ·intro p q x y u cH hy Aj;have hp:=(apa.1 cH).1;simp at hp;have:=ape cH;rw[List.mem_replicate]at this;obtain⟨_,rfl⟩:=this;have hq:q<k:=by grind
   have hpc:(p+1) *k<=c.toNat *k:=apu _ (by omega);rw[aqk,aqC]at hpc;rw[ap2,oM wj hk (by omega),Nat.mul_comm p k,Nat.mul_add_mod,aqV hq]at Aj;grind[uL]
end
def D.deep:Nat->D->D
 | 0,x=>x.nn
 | k+1,.sl ys=> .sl (ys.map (·.map (D.deep k)))
 | _+1,x=>x.nn
theorem eT.deep{w:World}{O:Nat->Prop}:∀(k:Nat) {x:Value} {y:D},eT w O x y->eT w O x (y.deep k)
 | 0,x,y,h=>h.nn
 | k+1,x,.v z,h=>by rw[D.deep];exact h.nn;simp
 | k+1,x,.uB t a cs,h=>by rw[D.deep];exact h.nn;simp
 | k+1,x,.sl ys,h=>by
   rw[D.deep];cases h with
   | sl a n cap xs k' b off f hn lD pB ha hk hc hr=>
     refine .sl a n cap _ k' b off f (by simpa using hn) lD pB ha ?_ hc ?_
     ·intro i x hx;rw[apc]at hx;obtain⟨z,hz,rfl⟩:=ao8.1 hx;rw[apx];exact hk i z hz
     ·intro i j x y hx hy;rw[apc]at hx;obtain⟨z,hz,rfl⟩:=ao8.1 hx;rw[apc]at hy;obtain⟨u,hu,rfl⟩:=ao8.1 hy;exact(hr i j z u hz hu).deep k
def V.BM(k:Nat):V->V
 | .d y=> .d (y.deep k)
 | v=>v
def V.deep(k:Nat):V->V
 | .d y=> .d (y.deep k)
 | .agg cs=> .agg (cs.map (V.BM k))
 | v=>v
theorem aC.BM{w:World}{O:Nat->Prop}{m:Nat->Option Value}(k:Nat){x:Value}{y:V}(h:aC w O m x y):aC w O m x (y.BM k):=by
 unfold V.BM;split
 ·exact .d _ _ (h.kU.deep k)
 ·exact h
theorem aC.deep{w:World}{O:Nat->Prop}{m:Nat->Option Value}(k:Nat){x:Value}{y:V}(h:aC w O m x y):aC w O m x (y.deep k):=by
 unfold V.deep;split
 ·exact .d _ _ (h.kU.deep k)
 ·cases h with
  | agg vs cs hs h1 h=>
    refine .agg vs _ (by simpa using hs) h1 ?_;intro j x y hx hy;rw[apc]at hy;obtain⟨z,hz,rfl⟩:=ao8.1 hy;exact(h j x z hx hz).BM k
 ·exact h
theorem aE.deep(k:Nat){P:Program}{f:FuncId}{args lU:List V}{L:aI}{R:AE->aI->Prop}(h:aE P f lU L R)(ha:args.map (V.deep k)=lU):aE P f args L R:=by
 intro fo m w xs hi hx;refine h fo m w xs hi ⟨by rw[hx.1,<-ha,apx],?_⟩;intro j x y h1 h2;rw[<-ha,apc]at h2;obtain⟨z,hz,rfl⟩:=ao8.1 h2;exact(hx.2 j x z h1 hz).deep k
theorem Pure.deep(k:Nat){P:Program}{f:FuncId}{args lU:List V}{x:V}(h:Pure P f lU x)(ha:args.map (V.deep k)=lU)(ho:V.dK [] args=true):Pure P f args x:=
 ⟨h.en,ho,h.rn,h.calls.deep k ha⟩
def aV.deep(k:Nat):aV->aV
 | .box b t cs=> .box b t (cs.map (V.BM k))
 | r=>r
def St.deep(k:Nat)(s:St):St:=⟨s.fr.map λp=>(p.1,p.2.deep k),s.L.map λp=>(p.1,p.2.deep k)⟩
theorem Wk.deep(k:Nat){n:Nat}{s s':St}(h:s.deep k=s'):Wk n s s':=by
 subst h;intro fo m a w g;have hi:=g.inv;have hk:keys (St.deep k s).L=keys s.L:=by simp[keys,St.deep,aq7]
 refine⟨m,⟨g.size,?_,⟨by rw[hk];exact hi.nodup,λh x hx=>by rw[hk];exact hi.fI h x hx,hi.apart,hi.others,hi.ei,?_,hi.ee⟩,g.defers⟩,Step.refl w _⟩
 ·intro t x hx;obtain⟨p,hp,he⟩:=apf.1 hx;simp only[ao7]at he;obtain⟨rfl,rfl⟩:=he;obtain⟨h1,h2⟩:=g.fr p.1 p.2 hp;exact⟨h1,h2.deep k⟩
 ·intro h r hr;obtain⟨p,hp,he⟩:=apf.1 hr;simp only[ao7]at he;obtain⟨rfl,rfl⟩:=he;obtain⟨x,hx,hh⟩:=hi.holds p.1 p.2 hp;refine⟨x,hx,?_⟩;generalize p.2=q at hh;cases q with
  | row ty k xs=>exact hh
  | env A=>exact hh
  | mp es=>exact hh
  | box b ty cs=>
    obtain⟨bb,h0,cur,e,hb,hs,h1,h2⟩:=hh;refine⟨bb,h0,cur,e,hb,by simpa using hs,?_,?_⟩
    ·exact h1
    ·intro j v z hv hz;rw[apc]at hz;obtain⟨y,hy,rfl⟩:=ao8.1 hz;exact(h2 j v y hv hy).BM k
open Go.Proofs Go.Proofs.Tryz
abbrev dA(l:List ai):V:= .d (.sl (l.map ai.enc))
def PG(l:List ai)(k:Int):Int:=if k<0\/(l.length:Int)<=k then 0 else(l[k.toNat]?.getD ai.zero).Op
theorem AM(l:List ai)(hl:l.length<=1000000000000)(k:Int):Pure prog 268 [dA l,iD k] (iD (PG l k)):=by
 unfold PG;refine rn func268 ?_;simp[-cB,f268]
 repeat' (first
  | (with_reducible refine And.intro ?_ ?_)
  | (refine aw (λh=>?_) (λh=>?_)<;>(try simp at h)<;>(try simp[-cB, *]))
  | (with_reducible intro _))
 all_goals (try omega)
theorem qE(l:List ai)(hl:l.length<=1000000000000)(k n:Nat)(hk:k+n<=l.length)(x:List ai)(hx:x.length<=1000000000000):Pure prog 270 [dA l,iD k,iD n,dA x] (dA (iO l k n x)):=by
 unfold iO;refine rn func270 ?_;simp[-cB,f270];have e:((k:Int)+n).toNat=k+n:=by omega
 rw[e,aU];refine⟨by omega,⟨λy hy=>?_,by omega⟩,by omega,by omega,by omega,⟨λy hy=>?_,by omega⟩,?_⟩
 ·obtain⟨z,_,rfl⟩:=apf.1 (aqg hy);rfl
 ·obtain⟨z,_,rfl⟩:=apf.1 (aqg (List.mem_of_mem_drop hy));rfl
 ·rw[List.take_of_length_le (by simp)]
theorem tt(n:Int):Pure prog 289 [iD n] (dA (lV n)):=by
 unfold lV;refine rn func289 ?_;simp[-cB,f289]
 repeat' (first
  | (with_reducible refine And.intro ?_ ?_)
  | ((first|(refine aw (λh=>?_) (λh=>?_)<;>(try simp at h))|refine pC (aQ _) ?_|refine lC (aQ _) ?_|refine pG (aQ _) ?_)<;>(try simp[-cB, *]))
  | (with_reducible intro _))
 rfl
theorem Kv(l:List ai)(k j:Nat):PG l ((k:Int)+j)=gh (l.drop k) j:=by
 unfold PG gh;rw[aqf];by_cases h:k+j<l.length
 ·rw[if_neg (by omega),show((k:Int)+j).toNat=k+j by omega,akC h];rfl
 ·rw[if_pos (by omega),apT (by omega)];rfl
theorem Fl(l:List ai)(k:Nat):PG l k=gh (l.drop k) 0:=by have:=Kv l k 0;simpa using this
theorem adi(l:List ai)(k:Nat):PG l ((k:Int)+1)=gh (l.drop k) 1:=Kv l k 1
theorem adj(l:List ai)(k:Nat):PG l ((k:Int)+2)=gh (l.drop k) 2:=Kv l k 2
theorem vO{l:List ai}{k j:Nat}(h:gh (l.drop k) j≠0):k+j<l.length:=by
 unfold gh at h;rw[aqf]at h;by_cases h2:k+j<l.length
 ·exact h2
 ·rw[apT (by omega)]at h;exact(h rfl).elim
theorem ji(l:List ai)(k j:Nat):(l[k+j]?.getD ai.zero).Arg=bZ (l.drop k) j:=by
 unfold bZ;rw[aqf];cases l[k+j]?<;>rfl
def eG(l:List ai)(o:Option (List ai)):V:= .bA [dA (o.getD l),oD o.isSome]
def vr(l:List ai)(k:Nat):Option (List ai):=(oG (l.drop k)).map λy=>iO l k y.1 y.2
set_option maxHeartbeats 2000000 in
theorem MN(l:List ai)(hl:l.length<=100000000000)(k:Nat)(hk:k<=l.length):Pure prog 265 [dA l,iD k] (eG l (vr l k)):=by
 have dS:=λn=>AM l (by omega) n
 have e0:=Fl l k;have e1:=adi l k;have e2:=adj l k;have a0:=ji l k 0;have a1:=ji l k 1;have a2:=ji l k 2;have l0:=vO (l:=l) (k:=k) (j:=0);have l1:=vO (l:=l) (k:=k) (j:=1);have l2:=vO (l:=l) (k:=k) (j:=2);have hb:=(LG aj.zero (bZ (l.drop k) 2) (bZ (l.drop k) 0) (bZ (l.drop k) 1)).deep 0 (args:=[.agg [.d (.v (.slice none 0 0)),.d (.v (.slice none 0 0)),.d (.v (.slice none 0 0)),.d (.v (.slice none 0 0)),.d (.v (.slice none 0 0)),.d (.v (.slice none 0 0)),.d (.v (.slice none 0 0)),.d (.v (.int .u64 0)),iD 0,iD 0,iD 0,iD 0,iD 0],iD (bZ (l.drop k) 2),iD (bZ (l.drop k) 0),iD (bZ (l.drop k) 1)]) (by rfl) (by rfl);have b0:∀h:k<l.length,(l[k]'h).Arg=bZ (l.drop k) 0:=λh=>by rw[<-ji l k 0];simp[h]
 have b1:∀h:k+1<l.length,(l[k+1]'h).Arg=bZ (l.drop k) 1:=λh=>by rw[<-ji l k 1];simp[h]
 have b2:∀h:k+2<l.length,(l[k+2]'h).Arg=bZ (l.drop k) 2:=λh=>by rw[<-ji l k 2];simp[h]
 obtain⟨R,hR⟩:∃R,eG l (vr l k)=R:=⟨_,rfl⟩
 have v8:V.on [] R=true:=by rw[<-hR];rfl
 rw[hR];obtain⟨p,hp⟩:∃p,jd aj.zero (bZ (l.drop k) 2) (bZ (l.drop k) 0) (bZ (l.drop k) 1)=p:=⟨_,rfl⟩
 rw[hp]at hb;unfold eI at hb;simp only[aqi]at a0 l0;have c1:((k:Int)+1).toNat=k+1:=by omega
 have c2:((k:Int)+2).toNat=k+2:=by omega
 have i1:aM .i64 ((k:Int)+1):=iW;have i2:aM .i64 ((k:Int)+2):=iW;have W6:∀x:List ai,x.length<=1000->k+3<=l.length->Pure prog 270 [dA l,iD k,iD 3,dA x] (dA (iO l k 3 x)):=λx hx h=>qE l (by omega) k 3 h x (by omega)
 have rO:∀x:List ai,x.length<=1000->k+2<=l.length->Pure prog 270 [dA l,iD k,iD 2,dA x] (dA (iO l k 2 x)):=λx hx h=>qE l (by omega) k 2 h x (by omega)
 refine Pure.run func265 rfl (by simp[f265,v8]) ?_;simp[-cB,f265,v8]
 repeat' (first
  | (with_reducible refine And.intro ?_ ?_)
  | ((first|(refine aw (λh=>?_) (λh=>?_)<;>(try simp at h))|refine pC (dS _) ?_|refine pC (tt _) ?_|refine pC (qt _) ?_|refine pC (qz _) ?_|refine pC (rO _ ?_ ?_) ?_|refine lC (dS _) ?_|refine lC (tt _) ?_|refine lC (qt _) ?_|refine lC (qz _) ?_|refine lC (rO _ ?_ ?_) ?_|refine pG (dS _) ?_|refine pG (tt _) ?_|refine pG (qt _) ?_|refine pG (qz _) ?_|refine pGh (λh=>rO _ ?_ ?_) ?_)<;>(try simp[-cB, *]))
  | (with_reducible intro _))
 all_goals first
  | omega
  | (simp[lV];done)
  | (rw[aU];unfold ey;split<;>omega)
  | (rw[<-hR];simp[eG,vr,oG,notM, *];done)
  | (rw[<-hR];simp_all[eG,vr,oG,notM];done)
  | (have hx:oG (l.drop k)=none:=by(unfold oG;grind)
     rw[<-hR];simp[eG,vr,hx];done)
  | skip
 refine av.bT [.bA [iD p.1,iD p.2]] aS (by kernel_rfl) (by rfl) ?_;simp[-cB,hb.ok, *]
 repeat' (first
  | (with_reducible refine And.intro ?_ ?_)
  | ((first|(refine aw (λh=>?_) (λh=>?_)<;>(try simp at h))|refine pC (tt _) ?_|refine pC (W6 _ ?_ ?_) ?_|refine pC (dS _) ?_|refine pC (qt _) ?_|refine pC (qz _) ?_|refine pC (rO _ ?_ ?_) ?_|refine lC (tt _) ?_|refine lC (W6 _ ?_ ?_) ?_|refine lC (dS _) ?_|refine lC (qt _) ?_|refine lC (qz _) ?_|refine lC (rO _ ?_ ?_) ?_|refine pG (tt _) ?_|refine pGh (λh=>W6 _ ?_ ?_) ?_|refine pG (dS _) ?_|refine pG (qt _) ?_|refine pG (qz _) ?_|refine pGh (λh=>rO _ ?_ ?_) ?_)<;>(try simp[-cB, *]))
  | (with_reducible intro _))
 all_goals first
  | omega
  | (simp[lV];done)
  | (rw[aU];unfold ey;split<;>omega)
  | (rw[<-hR];simp[eG,vr,oG,notM, *];done)
  | (rw[<-hR];simp_all[eG,vr,oG,notM];done)
  | skip
theorem wc{α:Type}{p:α->Bool}:∀(r:List α) (i:Nat),(∀x∈r.take i,p x=true)->(∀x,r[i]?=some x->p x=false)->i<=r.length->(r.takeWhile p).length=i
 | [],i,_,_,h=>by simp at h;simp[h]
 | x::r,0,_,h,_=>by
   have:=h x rfl;rw[arj,if_neg (by simp[this])];rfl
 | x::r,i+1,h1,h2,h3=>by
   rw[arj,if_pos (h1 x (by simp))];simp only[apj];rw[wc r i (λy hy=>h1 y (by simp[hy])) (λy hy=>h2 y (by simpa using hy)) (by simpa using h3)]
def uj(l:List ai)(n:Int):Int:=match l.findIdx? (λi=>decide (i.Op=38)&&decide (i.Arg=n))with
 | some k=>k
 | none=> -1
theorem sy{α:Type}{l:List α}{i:Nat}{x y:α}(h:l[i]?=some x)(hy:y∈l.take (i+1)):y∈l.take i\/y=x:=by
 rw[apI]at hy;rcases apr.1 hy with h1|h1
 ·exact Or.inl h1
 ·rw[h]at h1;simp at h1;exact Or.inr h1
theorem I2(l:List ai)(hl:l.length<=100000000000)(n:Int):Pure prog 291 [dA l,iD n] (iD (uj l n)):=by
 refine rn func291 ?_;simp[-cB,f291];refine av.cJ [0,1,5] l.length (λi=> [(5,iD i)]) (λ_=> []) (λi=>∀y∈l.take i,(decide (y.Op=38)&&decide (y.Arg=n))=false) (by rfl) (by simp) ?_;intro i hi hH;rcases apg hi with au|heq
 ·have hx:l[i]?=some l[i]:=akC au;have bY:aM .i64 ((i:Int)+1):=iW;by_cases hp:(decide (l[i].Op=38)&&decide (l[i].Arg=n))=true
  ·have hv:uj l n=i:=by
    unfold uj;have:l.findIdx? (λi=>decide (i.Op=38)&&decide (i.Arg=n))=some i:=by
     rw[aqU];refine⟨au,hp,λj hj=>?_⟩;have Ii:j<l.length:=by omega
     have:=hH l[j] (aqS.2 ⟨j,by omega,rfl⟩);simpa using this
    rw[this]
   rw[apb,decide_eq_true_eq,decide_eq_true_eq]at hp;simp[au,hp.1,hp.2,hv]
  ·have hn:∀y∈l.take (i+1),(decide (y.Op=38)&&decide (y.Arg=n))=false:=by
    intro y hy;rcases sy hx hy with h|rfl
    ·exact hH y h
    ·simpa using hp
   simp[-cB,au,bY];refine aw (λh=>?_) (λh=>?_)
   ·exact(hp h).elim
   ·simp[-cB,bY,au];exact λy hy=>by simpa using hn y hy
 ·have hv:uj l n= -1:=by
   unfold uj;have:l.findIdx? (λi=>decide (i.Op=38)&&decide (i.Arg=n))=none:=by
    rw[List.findIdx?_eq_none_iff];intro y hy;exact hH y (by rw[heq,apM];exact hy)
   rw[this]
  simp[heq,hv]
theorem vt(l:List ai)(hl:l.length<=100000000000)(k:Nat)(hk:k<=l.length):Pure prog 290 [dA l,iD k] (iD ((k+((l.drop k).takeWhile cR).length:Nat):Int)):=by
 refine rn func290 ?_;simp[-cB,f290];refine av.cJ [0,1] (l.length-k) (λi=> [(1,iD ((k+i:Nat):Int))]) (λ_=> []) (λi=>∀y∈(l.drop k).take i,cR y=true) (by rfl) (by simp) ?_;intro i hi hH;have bY:aM .i64 ((k:Int)+i+1):=iW;have ht:((k:Int)+i).toNat=k+i:=by omega
 by_cases au:k+i<l.length
 ·have dF:(k:Int)+i<l.length:=by omega
  have hx:(l.drop k)[i]?=some l[k+i]:=by rw[aqf,akC au]
  have jC:l[k+i]?.getD ai.zero=l[k+i]:=by rw[akC au];rfl
  have h0:0<=(k:Int)+i:=by omega
  by_cases hp:l[k+i].Op=38
  ·have hn:∀y∈(l.drop k).take (i+1),cR y=true:=by
    intro y hy;rcases sy hx hy with h|rfl
    ·exact hH y h
    ·simp[cR,hp]
   simp[dF,ht,hp,bY,h0,au];exact⟨by omega,by omega,hn⟩
  ·have hv:((l.drop k).takeWhile cR).length=i:=wc _ i hH (λx cH=>by rw[hx]at cH;cases cH;simp[cR,hp]) (by simp;omega);simp[dF,ht,hp,h0,au,hv]
 ·have dF:¬(k:Int)+i<l.length:=by omega
  have hv:((l.drop k).takeWhile cR).length=i:=wc _ i hH (λx cH=>by rw[aqf,apT (by omega)]at cH;cases cH) (by simp;omega);simp[dF,hv]
theorem I3(l:List ai)(hl:l.length<=100000000000)(n:Int):Pure prog 269 [dA l,iD n] (oD (mP l n)):=by
 refine rn func269 ?_;simp[-cB,f269];refine av.cJ [0,1,5] l.length (λi=> [(5,iD i)]) (λ_=> []) (λi=>mP (l.take i) n=false) (by rfl) (by simp[mP]) ?_;intro i hi hH;rcases apg hi with au|heq
 ·have hx:l[i]?=some l[i]:=akC au;have bY:aM .i64 ((i:Int)+1):=iW;by_cases hp:(l[i].Op=24\/l[i].Op=25)/\l[i].Arg=n
  ·have hv:mP l n=true:=by
    unfold mP;refine aqI.2 ⟨l[i],apk au,?_⟩;simp[hp.1,hp.2]
   rcases hp.1 with h|h
   ·simp[au,h,hp.2,hv]
   ·simp[au,h,hp.2,hv]
  ·have hn:mP (l.take (i+1)) n=false:=by
    unfold mP at hH⊢;rw[apI,hx,aqv,hH];simp only[Option.toList,List.any_cons,List.any_nil,Bool.or_false,Bool.false_or,aqA,Bool.or_eq_false_iff,decide_eq_false_iff_not];by_cases h:l[i].Op=24\/l[i].Op=25
    ·exact Or.inr λh2=>hp ⟨h,h2⟩
    ·exact Or.inl (by omega)
   simp[-cB,au,bY];refine aw (λh=>?_) (λh=>?_)
   ·exact(hp (by simpa using h)).elim
   ·simp[-cB,bY,au];exact hn
 ·have hv:mP l n=false:=by rw[heq,apM]at hH;exact hH
  simp[heq,hv]
def uk(l:List ai)(k:Nat):Option (List ai):=(mO (l.drop k)).map λy=>iO l k y.1 y.2
set_option maxHeartbeats 2000000 in
theorem VX(l:List ai)(hl:l.length<=100000000000)(k:Nat)(hk:k<=l.length):Pure prog 266 [dA l,iD k] (eG l (uk l k)):=by
 have dS:=λn=>AM l (by omega) n
 have e0:=Fl l k;have e1:=adi l k;have e2:=adj l k;have l0:=vO (l:=l) (k:=k) (j:=0);have l1:=vO (l:=l) (k:=k) (j:=1);have l2:=vO (l:=l) (k:=k) (j:=2);have b0:∀h:k<l.length,(l[k]'h).Arg=bZ (l.drop k) 0:=λh=>by have:=ji l k 0;rw[<-this];simp[h]
 have b1:∀h:k+1<l.length,(l[k+1]'h).Arg=bZ (l.drop k) 1:=λh=>by rw[<-ji l k 1];simp[h]
 obtain⟨R,hR⟩:∃R,eG l (uk l k)=R:=⟨_,rfl⟩
 have v8:V.on [] R=true:=by rw[<-hR];rfl
 rw[hR];simp only[aqi]at l0;have c1:((k:Int)+1).toNat=k+1:=by omega
 have i1:aM .i64 ((k:Int)+1):=iW;have i2:aM .i64 ((k:Int)+2):=iW;have rO:∀x:List ai,x.length<=1000->k+2<=l.length->Pure prog 270 [dA l,iD k,iD 2,dA x] (dA (iO l k 2 x)):=λx hx h=>qE l (by omega) k 2 h x (by omega)
 have D6:k+2<=l.length->Pure prog 270 [dA l,iD k,iD 2,.d (.v (.slice none 0 0))] (dA (iO l k 2 [])):=λh=>(rO [] (by simp) h).deep 0 (by rfl) (by rfl)
 refine Pure.run func266 rfl (by simp[f266,v8]) ?_;simp[-cB,f266,v8]
 repeat' (first
  | (with_reducible refine And.intro ?_ ?_)
  | ((first|(refine aw (λh=>?_) (λh=>?_)<;>(try simp at h))|refine pC (dS _) ?_|refine pC (aQ _) ?_|refine pC (D6 ?_) ?_|refine lC (dS _) ?_|refine lC (aQ _) ?_|refine lC (D6 ?_) ?_|refine pG (dS _) ?_|refine pG (aQ _) ?_|refine pGh (λh=>D6 ?_) ?_)<;>(try simp[-cB, *]))
  | (with_reducible intro _))
 all_goals first
  | omega
  | (rw[<-hR];simp[eG,uk,mO, *];done)
  | (rw[<-hR];simp_all[eG,uk,mO];done)
  | (have hx:mO (l.drop k)=none:=by(unfold mO;grind)
     rw[<-hR];simp[eG,uk,hx];done)
  | skip
 refine ay.weaken (Wk.freeze 54 (ys:=[(⟨24,bZ (l.drop k) 1⟩:ai)].map ai.enc) rfl) ?_;have rP:k+2<=l.length:=by
  have:=l1 (by omega);omega
 simp[-cB];refine ay.bC rfl (rO [⟨24,bZ (l.drop k) 1⟩] (by simp) rP) rfl rfl (by simp) rfl ?_;simp[-cB];rw[<-hR];simp[eG,uk,mO, *]
def vu(l r:List ai):Option (Nat×Nat×List ai):=
 if kP (gh r 0)/\0<oH r.tail then some (1,oH r.tail,[])
 else if gh r 0=24\/gh r 0=25 then
  (if gh r 0=24/\(r.tail.takeWhile cR).any (λi=>decide (i.Arg=bZ r 0))=true then some (0,1,[])
   else(v7 l r).map λx=>(0,1,x))
 else none
def sz(l:List ai)(k:Nat):Option (List ai):=(vu l (l.drop k)).map λy=>iO l (k+y.1) y.2.1 y.2.2
theorem VY{l n}:(uj l n= -1/\after l n=none)\/(∃p:Nat,p<l.length/\uj l n=p/\after l n=some (l.drop (p+1))/\cR (l[p]?.getD ai.zero)=true):=by
 induction l with
 | nil=>exact Or.inl ⟨rfl,rfl⟩
 | cons i l ih=>
   unfold uj after;rw[List.findIdx?_cons];by_cases h:i.Op=38/\i.Arg=n
   ·rw[if_pos (by simp[h]),if_pos h];exact Or.inr ⟨0,by simp,rfl,rfl,by grind[cR]⟩
   ·grind[uj,decide]
theorem AN{α:Type} p(l:List α):l.dropWhile p=l.drop (l.takeWhile p).length:=by
 grind[List.takeWhile_append_dropWhile]
theorem PH{l:List ai}{p}(h:p<l.length)(hl:cR (l[p]?.getD ai.zero)=true):(l.drop (p+1)).dropWhile cR=l.drop (p+((l.drop p).takeWhile cR).length):=by
 rw[AN,aqz];have e:=aqT h;rw[e,arj,if_pos (by grind)];grind
theorem AO{α:Type}{p}:∀{l:List α} {x r},l.dropWhile p=x::r->p x=false
 | [],x,r,h=>by simp at h
 | y::l,x,r,h=>by
   rw[List.dropWhile_cons]at h;split at h
   ·exact AO h
   ·rename_i hy;simp at h;rw[<-h.1];simpa using hy
theorem BN(l:List ai) k(hk:k<=l.length):k+oH (l.drop k)<=l.length/\(∀i,i<oH (l.drop k)->k+i<l.length/\¬(l[k+i]?.getD ai.zero).Op=38)/\(k+oH (l.drop k)<l.length->(l[k+oH (l.drop k)]?.getD ai.zero).Op=38):=by
 have h:=re (λi=>!cR i) (l.drop k);have hlen:=congrArg List.length h;have hle:oH (l.drop k)<=l.length-k:=by grind[oH]
 refine⟨by omega,λi hi=>?_,λau=>?_⟩
 ·have h1:=by omega
  have h2:=mx (λi=>!cR i) (l.drop k);have h3:(l.drop k)[i]?=((l.drop k).takeWhile λi=>!cR i)[i]?:=by
   conv=>lhs;rw[h]
   rw[apQ hi]
  grind[List.getElem_mem,cR,List.getElem?_eq_getElem,Bool.not_eq_true',decide_eq_false_iff_not,of_decide_eq_false]
 ·have h5:=AN (λi=>!cR i) (l.drop k);have h6:(l.drop k).dropWhile (λi=>!cR i)=l.drop (k+oH (l.drop k)):=by rw[h5,aqz];rfl
  have h7:=aqT au;rw[h7]at h6;have h8:=AO h6;rw[akC au];simp[cR,Bool.not_eq_false',decide_eq_true_eq]at h8;exact h8
theorem D7(l:List ai) k(hk:k<=l.length):k+((l.drop k).takeWhile cR).length<=l.length/\(∀i h,k+i<l.length/\((l.drop k).takeWhile cR)[i]=l[k+i]?.getD ai.zero):=by
 have h:=re cR (l.drop k);have hlen:=congrArg List.length h;rw[aph,arE,arE,arE]at hlen;refine⟨by omega,λi hi=>?_⟩;have h3:(l.drop k)[i]?=((l.drop k).takeWhile cR)[i]?:=by
  grind
 grind
set_option maxHeartbeats 4000000 in
theorem Zd(l:List ai)(hl:l.length<=10000000000)(k:Nat)(hk:k<l.length)(o0:Int)(ho:gh (l.drop k) 0=o0)(hj:o0=24/\oH (l.drop (k+1))=0\/o0=25):Pure prog 267 [dA l,iD k] (eG l (sz l k)):=by
 have dS:=λn=>AM l (by omega) n
 have e0:=Fl l k;obtain⟨R,hR⟩:∃R,eG l (sz l k)=R:=⟨_,rfl⟩
 have v8:V.on [] R=true:=by rw[<-hR];rfl
 rw[hR];have i1:aM .i64 ((k:Int)+1):=iW;have b0:(l[k]?.getD ai.zero).Arg=bZ (l.drop k) 0:=ji l k 0;have LO:(l[k]'hk).Arg=bZ (l.drop k) 0:=by have:=ji l k 0;rw[<-this];simp[hk]
 have Av:(l.drop k).tail=l.drop (k+1):=by rw[List.tail_drop]
 have vy:∀x:List ai,x.length<=1000->Pure prog 270 [dA l,iD k,iD 1,dA x] (dA (iO l k 1 x)):=λx hx=>qE l (by omega) k 1 (by omega) x (by omega)
 have D6:Pure prog 270 [dA l,iD k,iD 1,.d (.v (.slice none 0 0))] (dA (iO l k 1 [])):=(vy [] (by simp)).deep 0 (by rfl) (by rfl);have rI:Pure prog 290 [dA l,iD ((k:Int)+1)] (iD (((k+1:Nat)+((l.drop (k+1)).takeWhile cR).length:Nat):Int)):=vt l (by omega) (k+1) (by omega);rw[ho]at e0;obtain⟨D,hD⟩:∃D,oH (l.drop (k+1))=D:=⟨_,rfl⟩
 have IV:=BN l (k+1) (by omega);rw[hD]at IV hj;obtain⟨FD,y8,ns⟩:=IV;have D8:vu l (l.drop k)=(if kP o0/\0<D then some (1,D,[])else if o0=24\/o0=25 then
  (if o0=24/\((l.drop (k+1)).takeWhile cR).any (λi=>decide (i.Arg=bZ (l.drop k) 0))=true then some (0,1,[])
   else(v7 l (l.drop k)).map λx=>(0,1,x))else none):=by
  unfold vu;rw[ho,Av,hD]
 obtain⟨T,hT⟩:∃T,(l.drop (k+1)).takeWhile cR=T:=⟨_,rfl⟩
 rw[hT]at D8 rI;have Ze:=D7 l (k+1) (by omega);rw[hT]at Ze;obtain⟨Tw,NI⟩:=Ze;have hwh:=I2 l (by omega) (bZ (l.drop k) 0);have hbq:=λ(p:Nat) (hp:p<=l.length)=>vt l (by omega) p hp
 have gz:¬(kP o0/\0<D):=by
  rcases hj with h|h
  ·omega
  ·unfold kP;omega
 have we:sz l k=if o0=24/\T.any (λi=>decide (i.Arg=bZ (l.drop k) 0))=true then some (iO l k 1 [])else(v7 l (l.drop k)).map λx=>iO l k 1 x:=by
  unfold sz;rw[D8,if_neg gz,if_pos (by omega)];split
  ·rfl
  ·rw[Option.map_map];rfl
 clear D8;obtain⟨M,hM⟩:∃M,T.findIdx (λi=>decide (i.Arg=bZ (l.drop k) 0))=M:=⟨_,rfl⟩
 have hM1:o0=24->∀j (h:j<M),∃h2:j<T.length,(T[j]'h2).Arg≠bZ (l.drop k) 0:=by
  intro _ j hj;have h1:M<=T.length:=by rw[<-hM];exact List.findIdx_le_length
  refine⟨by omega,?_⟩;have:=List.not_of_lt_findIdx (p:=λi:ai=>decide (i.Arg=bZ (l.drop k) 0)) (xs:=T) (i:=j) (by rw[hM];exact hj);simpa using this
 have hM2:o0=24->∀(h:M<T.length),(T[M]'h).Arg=bZ (l.drop k) 0:=by
  intro _ h;have h2:T.findIdx (λi=>decide (i.Arg=bZ (l.drop k) 0))<T.length:=by rw[hM];exact h
  have:=List.findIdx_getElem (p:=λi:ai=>decide (i.Arg=bZ (l.drop k) 0)) (xs:=T) (w:=h2);simp only[hM]at this;simpa using this
 have aot:M<=T.length:=by rw[<-hM];exact List.findIdx_le_length
 have hM4:o0=24->(M<T.length->T.any (λi=>decide (i.Arg=bZ (l.drop k) 0))=true)/\(T.any (λi=>decide (i.Arg=bZ (l.drop k) 0))=true->M<T.length):=by
  intro _;rw[<-hM,List.findIdx_lt_length];simp
 refine Pure.run func267 rfl (by simp[f267,v8]) ?_;simp[-cB,f267,v8]
 repeat' (first
  | (with_reducible refine And.intro ?_ ?_)
  | ((first|(refine aw (λh=>?_) (λh=>?_)<;>(try simp at h))|refine pC (dS _) ?_|refine pC rI ?_|refine lC (dS _) ?_|refine lC rI ?_|refine pG (dS _) ?_|refine pG rI ?_)<;>(try simp[-cB, *]))
  | (with_reducible intro _))
 all_goals (try (exfalso;omega))
 refine av.cJ [0,1,6,7] 0 (λi=> [(7,iD ((k+1+i:Nat):Int))]) (λ_=> []) (λ_=>True) (by rfl) (by simp) ?_;intro i hi _;obtain rfl:i=0:=by omega
 have hD0:D=0:=by omega
 have I4:((k:Int)+1).toNat=k+1:=by omega
 have j0:0<=(k:Int)+1:=by omega
 have jo:o0=24:=by omega
 by_cases hx:k+1<l.length;have Gj:=ns (by omega);rw[hD0]at Gj;have j6:(l[k+1]'hx).Op=38:=by rw[aqi,akC hx]at Gj;exact Gj
 have PI:(k:Int)+1<l.length:=by omega
 have Zf:((l[k+1]'hx).Op !=38)=false:=by simp[j6]
 simp[-cB,j0,I4,PI,hx,Zf,i1,jo];refine pC rI ?_;simp[-cB,i1]
 rotate_left
 have PI:¬(k:Int)+1<l.length:=by omega
 simp[-cB,j0,I4,PI,hx,i1,jo];refine pC rI ?_;simp[-cB,i1]
 rotate_left
 refine av.cJ [0,1,6,8,9] 0 (λi=> [(9,iD ((k+1+i:Nat):Int))]) (λ_=> []) (λ_=>True) (by rfl) (by simp) ?_;intro i2 Pj _;obtain rfl:i2=0:=by omega
 have nw:o0=25:=by omega
 have VZ:¬(o0=24/\T.any (λi=>decide (i.Arg=bZ (l.drop k) 0))=true):=by omega
 rw[if_neg VZ]at we;simp[-cB,nw]
 rotate_left
 iterate 2
  refine av.cJ [0,1,6,8,9] M (λi=> [(9,iD ((k+1+i:Nat):Int))]) (λ_=> []) (λ_=>True) (by rfl) (by simp) ?_;intro i2 Pj _;have q1:((k:Int)+1+i2).toNat=k+1+i2:=by omega
  have q0:0<=(k:Int)+1+i2:=by omega
  have q2:aM .i64 ((k:Int)+1+i2+1):=iW;rcases apg Pj with nN|GV
  ·obtain⟨ajM,ajN⟩:=hM1 jo i2 nN;have Gd:=NI i2 ajM;have q3:((k:Int)+1+i2<(k:Int)+1+T.length):=by omega
   have q4:k+1+i2<l.length:=Gd.1;have q5:(l[k+1+i2]'q4).Arg≠bZ (l.drop k) 0:=by
    have:=ajN;rw[Gd.2,akC q4]at this;exact this
   simp[-cB,q0,q1,q2,q3,q4];refine av.bT [] aS (by kernel_rfl) (by rfl) ?_;simp[-cB,q0,q1,q2,q3,q4,hk,LO,q5];omega
  subst GV;by_cases hMT:i2<T.length
  ·have Gd:=NI i2 hMT;have q3:((k:Int)+1+i2<(k:Int)+1+T.length):=by omega
   have q4:k+1+i2<l.length:=Gd.1;have q5:(l[k+1+i2]'q4).Arg=bZ (l.drop k) 0:=by
    have:=hM2 jo hMT;rw[Gd.2,akC q4]at this;exact this
   have yq:T.any (λi=>decide (i.Arg=bZ (l.drop k) 0))=true:=(hM4 jo).1 hMT;rw[if_pos ⟨jo,yq⟩]at we;simp[-cB,q0,q1,q2,q3,q4];refine av.bT [] aS (by kernel_rfl) (by rfl) ?_;simp[-cB,q0,q1,q2,q3,q4,hk,LO,q5];refine pC D6 ?_;simp[-cB];rw[<-hR,we];simp[eG]
  have VZ:¬(o0=24/\T.any (λi=>decide (i.Arg=bZ (l.drop k) 0))=true):=λh=>hMT ((hM4 jo).2 h.2)
  rw[if_neg VZ]at we;have q3:¬((k:Int)+1+i2<(k:Int)+1+T.length):=by omega
  simp[-cB,q0,q1,q2,q3]
  rotate_left
 all_goals
  simp[-cB,hk,LO];refine pC hwh ?_;simp[-cB];rcases VY (l:=l) (n:=bZ (l.drop k) 0)with⟨w1,w2⟩|⟨p,w0,w1,w2,w3⟩
  ·have hf:v7 l (l.drop k)=none:=by unfold v7;rw[w2]
   rw[hf]at we;simp[-cB,w1];rw[<-hR,we];simp[eG]
  have w4:¬(p:Int)<0:=by omega
  have hbp:=hbq p (by omega);have tV:=PH w0 w3;obtain⟨Q,hQ⟩:∃Q,p+((l.drop p).takeWhile cR).length=Q:=⟨_,rfl⟩
  rw[hQ]at hbp tV;have hQl:Q<=l.length:=by
   have:=(D7 l p (by omega)).1;omega
  have PJ:=dS (Q:Int);rw[Fl]at PJ;have hf:v7 l (l.drop k)=if gh (l.drop Q) 0=24/\bZ (l.drop Q) 0≠bZ (l.drop k) 0 then some [⟨gh (l.drop k) 0,bZ (l.drop Q) 0⟩]else none:=by
   unfold v7;rw[w2];simp only[tV]
  rw[ho]at hf;have I5:=vO (l:=l) (k:=Q) (j:=0);simp only[aqi]at I5;have hbQ:∀h:Q<l.length,(l[Q]'h).Arg=bZ (l.drop Q) 0:=λh=>by have:=ji l Q 0;rw[<-this];simp[h]
  simp[-cB,w1,w4];refine pC hbp ?_;simp[-cB];refine av.bT [iD (gh (l.drop Q) 0)] aS (by kernel_rfl) (by rfl) ?_;by_cases Tx:gh (l.drop Q) 0=24
  ·have qlt:Q<l.length:=I5 (by omega);have af4:=hbQ qlt;rw[Tx]at PJ;by_cases qa:bZ (l.drop Q) 0=bZ (l.drop k) 0
   ·rw[if_neg (by simp[qa])]at hf;rw[hf]at we;simp[-cB,PJ.ok,af4,hk,LO,Tx,qa,qlt];rw[<-hR,we];simp[eG]
   ·rw[if_pos ⟨Tx,qa⟩]at hf;rw[hf]at we;have qab:(bZ (l.drop Q) 0 !=bZ (l.drop k) 0)=true:=by simpa using qa
    simp[-cB,PJ.ok,af4,hk,LO,Tx,qab,qlt]
    first
     | refine ay.weaken (Wk.freeze 136 (ys:=[(⟨o0,bZ (l.drop Q) 0⟩:ai)].map ai.enc) rfl) ?_
     | refine ay.weaken (Wk.freeze 136 (ys:=[(⟨24,bZ (l.drop Q) 0⟩:ai)].map ai.enc) rfl) ?_
     | refine ay.weaken (Wk.freeze 136 (ys:=[(⟨25,bZ (l.drop Q) 0⟩:ai)].map ai.enc) rfl) ?_
    simp[-cB]
    first
     | refine ay.bC rfl (vy [⟨o0,bZ (l.drop Q) 0⟩] (by simp)) rfl rfl (by simp) rfl ?_
     | refine ay.bC rfl (vy [⟨24,bZ (l.drop Q) 0⟩] (by simp)) rfl rfl (by simp) rfl ?_
     | refine ay.bC rfl (vy [⟨25,bZ (l.drop Q) 0⟩] (by simp)) rfl rfl (by simp) rfl ?_
    simp[-cB];rw[<-hR,we];simp[eG, *]
  ·rw[if_neg (λh=>Tx h.1)]at hf;rw[hf]at we;simp[-cB,PJ.ok,hk,LO,Tx];rw[<-hR,we];simp[eG]
set_option maxHeartbeats 4000000 in
theorem Zg(l:List ai)(hl:l.length<=10000000000)(k:Nat)(hk:k<l.length):Pure prog 267 [dA l,iD k] (eG l (sz l k)):=by
 have dS:=λn=>AM l (by omega) n
 have e0:=Fl l k;obtain⟨R,hR⟩:∃R,eG l (sz l k)=R:=⟨_,rfl⟩
 have v8:V.on [] R=true:=by rw[<-hR];rfl
 rw[hR];have i1:aM .i64 ((k:Int)+1):=iW;have b0:(l[k]?.getD ai.zero).Arg=bZ (l.drop k) 0:=ji l k 0;have LO:(l[k]'hk).Arg=bZ (l.drop k) 0:=by have:=ji l k 0;rw[<-this];simp[hk]
 have Av:(l.drop k).tail=l.drop (k+1):=by rw[List.tail_drop]
 have vy:∀x:List ai,x.length<=1000->Pure prog 270 [dA l,iD k,iD 1,dA x] (dA (iO l k 1 x)):=λx hx=>qE l (by omega) k 1 (by omega) x (by omega)
 have D6:Pure prog 270 [dA l,iD k,iD 1,.d (.v (.slice none 0 0))] (dA (iO l k 1 [])):=(vy [] (by simp)).deep 0 (by rfl) (by rfl);have rI:Pure prog 290 [dA l,iD ((k:Int)+1)] (iD (((k+1:Nat)+((l.drop (k+1)).takeWhile cR).length:Nat):Int)):=vt l (by omega) (k+1) (by omega);generalize ho:gh (l.drop k) 0=o0 at *;obtain⟨D,hD⟩:∃D,oH (l.drop (k+1))=D:=⟨_,rfl⟩
 have IV:=BN l (k+1) (by omega);rw[hD]at IV;obtain⟨FD,y8,ns⟩:=IV;have D8:vu l (l.drop k)=(if kP o0/\0<D then some (1,D,[])else if o0=24\/o0=25 then
  (if o0=24/\((l.drop (k+1)).takeWhile cR).any (λi=>decide (i.Arg=bZ (l.drop k) 0))=true then some (0,1,[])
   else(v7 l (l.drop k)).map λx=>(0,1,x))else none):=by
  unfold vu;rw[ho,Av,hD]
 obtain⟨T,hT⟩:∃T,(l.drop (k+1)).takeWhile cR=T:=⟨_,rfl⟩
 rw[hT]at D8 rI;have Ze:=D7 l (k+1) (by omega);rw[hT]at Ze;obtain⟨Tw,NI⟩:=Ze;have hwh:=I2 l (by omega) (bZ (l.drop k) 0);have hbq:=λ(p:Nat) (hp:p<=l.length)=>vt l (by omega) p hp
 by_cases G9:kP o0
 ·have Sq:(((o0=24\/o0=27)\/o0=28)\/o0=29)\/o0=30:=by unfold kP at G9;omega
  by_cases hd:0<D
  ·have oE:R= .bA [dA (iO l (k+1) D []),oD true]:=by
    rw[<-hR];unfold sz;rw[D8,if_pos ⟨G9,hd⟩];rfl
   have hsw:Pure prog 270 [dA l,iD ((k:Int)+1),iD D,.d (.v (.slice none 0 0))] (dA (iO l (k+1) D [])):=(qE l (by omega) (k+1) D (by omega) [] (by simp)).deep 0 (by rfl) (by rfl);clear hR D8;subst oE;refine rn func267 ?_;simp[-cB,f267]
   repeat' (first
    | (with_reducible refine And.intro ?_ ?_)
    | ((first|(refine aw (λh=>?_) (λh=>?_)<;>(try simp at h))|refine pC (dS _) ?_|refine lC (dS _) ?_|refine pG (dS _) ?_)<;>(try simp[-cB, *]))
    | (with_reducible intro _))
   all_goals (try (exfalso;omega))
   refine av.cJ [0,1,6,7] D (λi=> [(7,iD ((k+1+i:Nat):Int))]) (λ_=> []) (λ_=>True) (by rfl) (by simp) ?_;intro i hi _;have j1:((k:Int)+1+i).toNat=k+1+i:=by omega
   have j2:aM .i64 ((k:Int)+1+i+1):=iW;have j0:0<=(k:Int)+1+i:=by omega
   rcases apg hi with au|heq
   ·have j3:=y8 i au;have j4:(k:Int)+1+i<l.length:=by omega
    have j5:k+1+i<l.length:=by omega
    have j6:¬(l[k+1+i]'j5).Op=38:=by have:=j3.2;rw[akC j5]at this;exact this
    have Zf:(l[k+1+i].Op !=38)=true:=by simpa using j6
    simp[-cB,j0,j1,j2,j4,j5,Zf];omega
   ·subst heq;have j7:aM .i64 ((k:Int)+1+i-k):=iW;have j8:aM .i64 ((k:Int)+1+i-k-1):=iW;have j9:(k:Int)+1+i-k-1=i:=by omega
    have j10:(k:Int)+1<(k:Int)+1+i:=by omega
    by_cases hx:k+1+i<l.length
    ·have Gj:=ns hx;have I4:(k:Int)+1+i<l.length:=by omega
     have j6:(l[k+1+i]'hx).Op=38:=by rw[akC hx]at Gj;exact Gj
     simp[-cB,j0,j1,I4,hx,j6,i1,j7,j8,j9,j10,hd];refine⟨iW,?_⟩;refine pC hsw ?_;simp
    ·have I4:¬(k:Int)+1+i<l.length:=by omega
     simp[-cB,j0,j1,I4,i1,j7,j8,j9,j10,hd];refine⟨iW,?_⟩;refine pC hsw ?_;simp
  ·-- nothing is left out:a jump goes on,Cb others do not
   have hD0:D=0:=by omega
   have gz:¬(kP o0/\0<D):=by omega
   by_cases jo:o0=24
   ·rw[<-hR];exact Zd l hl k hk o0 ho (Or.inl ⟨jo,by rw[hD];exact hD0⟩)
   ·have oE:R= .bA [dA l,oD false]:=by
     rw[<-hR];unfold sz;rw[D8,if_neg gz,if_neg (by omega)];rfl
    clear D8 hR;subst oE;have nw:¬o0=25:=by omega
    refine rn func267 ?_;simp[-cB,f267]
    repeat' (first
     | (with_reducible refine And.intro ?_ ?_)
     | ((first|(refine aw (λh=>?_) (λh=>?_)<;>(try simp at h))|refine pC (dS _) ?_|refine lC (dS _) ?_|refine pG (dS _) ?_)<;>(try simp[-cB, *]))
     | (with_reducible intro _))
    all_goals (try (exfalso;omega))
    refine av.cJ [0,1,6,7] 0 (λi=> [(7,iD ((k+1+i:Nat):Int))]) (λ_=> []) (λ_=>True) (by rfl) (by simp) ?_;intro i hi _;obtain rfl:i=0:=by omega
    have I4:((k:Int)+1).toNat=k+1:=by omega
    have j0:0<=(k:Int)+1:=by omega
    by_cases hx:k+1<l.length
    ·have Gj:=ns (by omega);rw[hD0]at Gj;have j6:(l[k+1]'hx).Op=38:=by rw[aqi,akC hx]at Gj;exact Gj
     have PI:(k:Int)+1<l.length:=by omega
     have Zf:((l[k+1]'hx).Op !=38)=false:=by simp[j6]
     simp[-cB,j0,I4,PI,hx,Zf,i1];refine aw (λh=>?_) (λh=>?_)
     ·simp
     ·simp at h;omega
    ·have PI:¬(k:Int)+1<l.length:=by omega
     simp[-cB,j0,I4,PI,hx,i1];refine aw (λh=>?_) (λh=>?_)
     ·simp
     ·simp at h;omega
 ·have Sq:¬((((o0=24\/o0=27)\/o0=28)\/o0=29)\/o0=30):=by unfold kP at G9;omega
  have gz:¬(kP o0/\0<D):=λh=>G9 h.1
  by_cases nw:o0=25
  ·rw[<-hR];exact Zd l hl k hk o0 ho (Or.inr nw)
  ·have oE:R= .bA [dA l,oD false]:=by
    rw[<-hR];unfold sz;rw[D8,if_neg gz,if_neg (by omega)];rfl
   clear D8 hR;subst oE;refine rn func267 ?_;simp[-cB,f267]
   repeat' (first
    | (with_reducible refine And.intro ?_ ?_)
    | ((first|(refine aw (λh=>?_) (λh=>?_)<;>(try simp at h))|refine pC (dS _) ?_|refine lC (dS _) ?_|refine pG (dS _) ?_)<;>(try simp[-cB, *]))
    | (with_reducible intro _))
   all_goals (exfalso;omega)
theorem I6 l r:q8 l r=match oG r with
 | some y=>some (0,y.1,y.2)
 | none=>match mO r with
   | some y=>some (0,y.1,y.2)
   | none=>match vu l r with
     | some y=>some y
     | none=>if gh r 0=38/\mP l (bZ r 0)=false then some (0,1,[])else none:=by
 unfold q8 vu;grind
set_option maxHeartbeats 2000000 in
theorem RN(l:List ai)(hl:l.length<=10000000000)(k:Nat)(hk:k<l.length):Pure prog 237 [dA l,iD k] (eG l (mw l k)):=by
 have h1:=MN l (by omega) k (by omega);have h2:=VX l (by omega) k (by omega);have h3:=Zg l hl k hk;have dS:=AM l (by omega) k;rw[Fl]at dS;have LP:=I3 l (by omega) (bZ (l.drop k) 0);have LO:(l[k]'hk).Arg=bZ (l.drop k) 0:=by have:=ji l k 0;rw[<-this];simp[hk]
 have D6:Pure prog 270 [dA l,iD k,iD 1,.d (.v (.slice none 0 0))] (dA (iO l k 1 [])):=(qE l (by omega) k 1 (by omega) [] (by simp)).deep 0 (by rfl) (by rfl);have hB:mw l k=match vr l k with
  | some y=>some y
  | none=>match uk l k with
    | some y=>some y
    | none=>match sz l k with
      | some y=>some y
      | none=>if gh (l.drop k) 0=38/\mP l (bZ (l.drop k) 0)=false then some (iO l k 1 [])else none:=by
  unfold mw vr uk sz;rw[I6];cases oG (l.drop k)with
  | some y=>rfl
  | none=>
    cases mO (l.drop k)with
    | some y=>rfl
    | none=>
      cases vu l (l.drop k)with
      | some y=>rfl
      | none=>
        simp only[ark];split<;>rfl
 rw[hB];cases hr:vr l k with
 | some y=>
   rw[hr]at h1;unfold eG at h1⊢;refine rn func237 ?_;simp[-cB,f237];refine pC h1 ?_;simp
 | none=>
   rw[hr]at h1;cases X2:uk l k with
   | some y=>
     rw[X2]at h2;unfold eG at h1 h2⊢;refine rn func237 ?_;simp[-cB,f237];refine pC h1 ?_;simp[-cB];refine pC h2 ?_;simp
   | none=>
     rw[X2]at h2;cases hg:sz l k with
     | some y=>
       rw[hg]at h3;unfold eG at h1 h2 h3⊢;refine rn func237 ?_;simp[-cB,f237];refine pC h1 ?_;simp[-cB];refine pC h2 ?_;simp[-cB];refine pC h3 ?_;simp
     | none=>
       rw[hg]at h3;by_cases kN:gh (l.drop k) 0=38
       ·rw[kN]at dS;cases ha:mP l (bZ (l.drop k) 0)with
        | true=>
          rw[ha]at LP;unfold eG at h1 h2 h3⊢;simp only[kN,true_and,reduceCtorEq,if_false];refine rn func237 ?_;simp[-cB,f237]
          repeat' (first
           | (with_reducible refine And.intro ?_ ?_)
           | ((first|(refine aw (λh=>?_) (λh=>?_)<;>(try simp at h))|refine pC h1 ?_|refine pC h2 ?_|refine pC h3 ?_|refine pC dS ?_|refine pC LP ?_|refine lC h1 ?_|refine lC h2 ?_|refine lC h3 ?_|refine lC dS ?_|refine lC LP ?_|refine pG h1 ?_|refine pG h2 ?_|refine pG h3 ?_|refine pG dS ?_|refine pG LP ?_)<;>(try simp[-cB, *]))
           | (with_reducible intro _))
        | false=>
          rw[ha]at LP;unfold eG at h1 h2 h3⊢;simp only[kN,true_and,if_true];refine rn func237 ?_;simp[-cB,f237]
          repeat' (first
           | (with_reducible refine And.intro ?_ ?_)
           | ((first|(refine aw (λh=>?_) (λh=>?_)<;>(try simp at h))|refine pC h1 ?_|refine pC h2 ?_|refine pC h3 ?_|refine pC dS ?_|refine pC LP ?_|refine pC D6 ?_|refine lC h1 ?_|refine lC h2 ?_|refine lC h3 ?_|refine lC dS ?_|refine lC LP ?_|refine lC D6 ?_|refine pG h1 ?_|refine pG h2 ?_|refine pG h3 ?_|refine pG dS ?_|refine pG LP ?_|refine pG D6 ?_)<;>(try simp[-cB, *]))
           | (with_reducible intro _))
       ·unfold eG at h1 h2 h3⊢;simp only[kN,false_and,if_false];refine rn func237 ?_;simp[-cB,f237];have Gk:=λn=>I3 l (by omega) n
        repeat' (first
         | (with_reducible refine And.intro ?_ ?_)
         | ((first|(refine aw (λh=>?_) (λh=>?_)<;>(try simp at h))|refine pC h1 ?_|refine pC h2 ?_|refine pC h3 ?_|refine pC dS ?_|refine pC (Gk _) ?_|refine lC h1 ?_|refine lC h2 ?_|refine lC h3 ?_|refine lC dS ?_|refine lC (Gk _) ?_|refine pG h1 ?_|refine pG h2 ?_|refine pG h3 ?_|refine pG dS ?_|refine pG (Gk _) ?_)<;>(try simp[-cB, *]))
         | (with_reducible intro _))
theorem Zh{l:List ai}{k n:Nat}{x:List ai}(h:k+n<=l.length)(hx:x.length<=n):(iO l k n x).length<=l.length:=by
 unfold iO;simp only[aph,apG,arE];omega
theorem BO{l:List ai}{k j:Nat}(h:gh (l.drop k) j≠0):k+j<l.length:=vO h
theorem RO{l:List ai}{k:Nat}{y:Nat×Nat×List ai}(h:q8 l (l.drop k)=some y):k+y.1+y.2.1<=l.length/\y.2.2.length<=y.2.1:=by
 rw[I6]at h;cases hr:oG (l.drop k)with
 | some z=>
   rw[hr]at h;simp only[anc]at h;subst h;unfold oG at hr;split at hr
   ·rename_i hc;have:=BO (l:=l) (k:=k) (j:=2) (by omega);simp only[anc]at hr;subst hr;exact⟨by simp only;omega,by simp[lV]⟩
   ·split at hr
    ·cases hr
    ·have h1:gh (l.drop k) 1≠0->k+1<l.length:=BO;split at hr
     ·simp only[anc]at hr;subst hr;exact⟨by simp only;omega,by simp[lV]⟩
     ·split at hr
      ·simp only[anc]at hr;subst hr;exact⟨by simp only;omega,by simp[lV]⟩
      ·split at hr
       ·simp only[anc]at hr;subst hr;exact⟨by simp only;omega,by simp[lV]⟩
       ·cases hr
 | none=>
   rw[hr]at h;simp only at h;cases hk:mO (l.drop k)with
   | some z=>
     rw[hk]at h;simp only[anc]at h;subst h;unfold mO at hk;have h1:gh (l.drop k) 1≠0->k+1<l.length:=BO;split at hk
     ·simp only[anc]at hk;subst hk;exact⟨by simp only;omega,by simp⟩
     ·split at hk
      ·split at hk
       ·simp only[anc]at hk;subst hk;exact⟨by simp only;omega,by simp⟩
       ·simp only[anc]at hk;subst hk;exact⟨by simp only;omega,by simp⟩
      ·split at hk
       ·simp only[anc]at hk;subst hk;exact⟨by simp only;omega,by simp⟩
       ·cases hk
   | none=>
     rw[hk]at h;simp only at h;have h0:gh (l.drop k) 0≠0->k+0<l.length:=BO;cases hg:vu l (l.drop k)with
     | some z=>
       rw[hg]at h;simp only[anc]at h;subst h;unfold vu at hg;split at hg
       ·rename_i hc;simp only[anc]at hg;subst hg;have:k<l.length:=by have:=hc.1;unfold kP at this;omega
        have hd:=(BN l (k+1) (by omega)).1;rw[List.tail_drop];exact⟨by simp only;omega,by simp⟩
       ·split at hg
        ·split at hg
         ·simp only[anc]at hg;subst hg;exact⟨by simp only;omega,by simp⟩
         ·obtain⟨x,hx,rfl⟩:=ao8.1 hg;unfold v7 at hx;split at hx
          ·cases hx
          ·split at hx
           ·simp only[anc]at hx;subst hx;exact⟨by simp only;omega,by simp⟩
           ·cases hx
        ·cases hg
     | none=>
       rw[hg]at h;simp only at h;split at h
       ·simp only[anc]at h;subst h;exact⟨by simp only;omega,by simp⟩
       ·cases h
theorem RQ{l l':List ai}{k:Nat}(h:mw l k=some l'):l'.length<=l.length:=by
 obtain⟨y,hy,rfl⟩:=ao8.1 h;have:=RO hy;exact Zh (by omega) this.2
theorem Zi{l l':List ai}{n k:Nat}(h:mQ l n k=some l'):l'.length<=l.length:=by
 obtain⟨j,_,_,hj⟩:=BJ _ _ h;exact RQ hj
theorem I7{l:List ai}:∀(n k:Nat),(∀j,k<=j->j<k+n->mw l j=none)->mQ l n k=none
 | 0,k,_=>rfl
 | n+1,k,h=>by
   rw[mQ,h k (by omega) (by omega)];exact I7 n (k+1) (λj h1 h2=>h j (by omega) (by omega))
theorem Gl{l x:List ai}{j:Nat}(hx:mw l j=some x):∀(n k:Nat),k<=j->j<k+n->(∀i,k<=i->i<j->mw l i=none)->mQ l n k=some x
 | 0,k,h1,h2,_=>by omega
 | n+1,k,h1,h2,h3=>by
   rw[mQ];by_cases e:k=j
   ·rw[e,hx]
   ·rw[h3 k (by omega) (by omega)];exact Gl hx n (k+1) (by omega) (by omega) (λi h4 h5=>h3 i (by omega) h5)
theorem Zj(l:List ai)(hl:l.length<=10000000000):Pure prog 190 [dA l] (eG l (mQ l l.length 0)):=by
 obtain⟨R,hR⟩:∃R,eG l (mQ l l.length 0)=R:=⟨_,rfl⟩
 have v8:V.on [] R=true:=by rw[<-hR];rfl
 rw[hR];refine Pure.run func190 rfl (by simp[f190,v8]) ?_;simp[-cB,f190,v8];refine av.cJ [0,4] l.length (λi=> [(4,iD i)]) (λ_=> []) (λi=>∀j,j<i->mw l j=none) (by rfl) (by simp) ?_;intro i hi hH;rcases apg hi with au|heq
 ·have hb:=RN l hl i au;have bY:aM .i64 ((i:Int)+1):=iW;have dF:(i:Int)<l.length:=by omega
  cases hm:mw l i with
  | some x=>
    rw[hm]at hb;have ho:=Gl hm l.length 0 (by omega) (by omega) (λj _ h=>hH j h);unfold eG at hb;simp[-cB,au];refine pC hb ?_;simp;rw[<-hR,ho];rfl
  | none=>
    rw[hm]at hb;unfold eG at hb;simp[-cB,au];refine pC hb ?_;simp[bY,au];intro j hj;by_cases e:j=i
    ·rw[e];exact hm
    ·exact hH j (by omega)
 ·have ho:=I7 l.length 0 (λj _ h=>hH j (by omega));simp[heq];rw[<-hR,ho];rfl
theorem abU{l:List ai}(h:mQ l l.length 0=none):∀n,allM n l=l
 | 0=>rfl
 | n+1=>by rw[allM,h]
theorem D9:∀(n:Nat) (l:List ai),allM (n+1) l=(mQ (allM n l) (allM n l).length 0).getD (allM n l)
 | 0,l=>by
   rw[allM,allM];cases mQ l l.length 0<;>rfl
 | n+1,l=>by
   rw[allM];cases h:mQ l l.length 0 with
   | none=>simp only;rw[abU h,h];rfl
   | some x=>
     simp only;rw[D9 n x]
     conv=>rhs;rw[allM,h]
theorem BP:∀(n:Nat) (l:List ai),(allM n l).length<=l.length
 | 0,l=>api _
 | n+1,l=>by
   rw[allM];cases h:mQ l l.length 0 with
   | none=>exact api _
   | some x=>exact apR (BP n x) (Zi h)
theorem abV(l:List ai)(hl:l.length<=10000000000):Pure prog 125 [dA l] (dA (gv l)):=by
 have lj:aM .i64 (16 *(l.length:Int)):=iW;refine rn func125 ?_;simp[-cB,f125];simp[-cB,lj];refine av.cJ [0,3,4] (16 *l.length) (λi=> [(0,dA (allM i l)),(4,iD i)]) (λ_=> []) (λ_=>True) (by rfl) (by simp[allM]) ?_;intro i hi _;have ho:=Zj (allM i l) (by have:=BP i l;omega);have hs:=D9 i l;rcases apg hi with au|heq
 ·have dF:(i:Int)<16 *(l.length:Int):=by omega
  have bY:aM .i64 ((i:Int)+1):=iW;cases hm:mQ (allM i l) (allM i l).length 0 with
  | some x=>
    rw[hm]at ho hs;unfold eG at ho;simp[-cB,dF];refine pC ho ?_;simp[bY];refine⟨by omega,?_⟩;rw[hs];rfl
  | none=>
    rw[hm]at ho;unfold eG at ho;have hp:gv l=allM i l:=by
     unfold gv;have:∀k,allM (i+k) l=allM i l:=by
      intro k
      induction k with
      | zero=>rfl
      | succ k ih=>rw[<-aqZ,D9,ih,hm];rfl
     have h2:=this (16 *l.length-i);rw[show i+(16 *l.length-i)=16 *l.length by omega]at h2;exact h2
    simp[-cB,dF];refine pC ho ?_;simp[hp]
 ·have hp:gv l=allM i l:=by unfold gv;rw[heq]
  have dF:¬(i:Int)<16 *(l.length:Int):=by omega
  simp[dF,hp]
theorem V1(n:Int)(l:List Int)(hl:l.length<=1000000):Pure prog 144 [iD n,.d (.sl (aA l))] (oD (l.contains n)):=by
 refine rn func144 ?_;simp[-cB,f144];refine av.cJ [0,1,5] l.length (λi=> [(5,iD i)]) (λ_=> []) (λi=>(l.take i).contains n=false) (by rfl) (by simp[aA]) ?_;intro i hi hH;rcases apg hi with au|heq
 ·have hx:l[i]?=some l[i]:=akC au;have bY:aM .i64 ((i:Int)+1):=iW;by_cases hp:l[i]=n
  ·have hv:l.contains n=true:=by simp only[List.contains_iff_mem];exact hp ▸ apk au
   have K9:n∈l:=by simpa using hv
   simp[au,hp,K9]
  ·have hn:(l.take (i+1)).contains n=false:=by
    rw[apI,hx];simp only[Option.toList,List.contains_append,hH,Bool.false_or];simpa using λh=>hp h.symm
   have hpb:(l[i]==n)=false:=by simpa using hp
   simp[au,hp,bY];simpa using hn
 ·have hv:l.contains n=false:=by rw[heq,apM]at hH;exact hH
  simp[heq];simpa using hv
theorem Hq(n:Int):Pure prog 84 [iD n] (oD (nj n)):=by
 have h:=V1 n [1,3,4,5,6,7,8,12,13,14,15,16,19,21,24,25,26,32,33,38] (by simp);unfold nj;refine rn func84 ?_;simp[-cB,f84];refine ay.weaken (Wk.freeze 4 (ys:=aA [1,3,4,5,6,7,8,12,13,14,15,16,19,21,24,25,26,32,33,38]) rfl) ?_;simp[-cB];refine pC h ?_;simp
theorem um(n:Int):Pure prog 85 [iD n] (iD (dC n)):=by
 unfold dC;by_cases h0:n=0
 ·subst h0;refine rn func85 ?_;simp[-cB,f85]
 ·by_cases h1: -128<=n/\n<=127
  ·refine rn func85 ?_;simp[-cB,f85]
   repeat' (first
    | (with_reducible refine And.intro ?_ ?_)
    | (refine aw (λh=>?_) (λh=>?_)<;>(try simp at h)<;>(try simp[-cB, *]))
    | (with_reducible intro _))
   all_goals (try omega)
  ·refine rn func85 ?_;simp[-cB,f85]
   repeat' (first
    | (with_reducible refine And.intro ?_ ?_)
    | (refine aw (λh=>?_) (λh=>?_)<;>(try simp at h)<;>(try simp[-cB, *]))
    | (with_reducible intro _))
   all_goals (try omega)
theorem uo(i:ai):Pure prog 186 [.agg (i.enc.map .d)] (oD (jmp i.Op)):=by
 unfold jmp;refine rn func186 ?_;simp[-cB,f186]
def wg(l:List ai)(k:Nat)(n:Int):Int:=uj (l.take k) n
theorem Aa(l:List ai)(hl:l.length<=100000000000)(k:Nat)(hk:k<=l.length)(n:Int):Pure prog 234 [dA l,iD k,iD n] (iD (wg l k n)):=by
 refine rn func234 ?_;simp[-cB,f234];refine av.cJ [0,1,2,7] k (λi=> [(7,iD i)]) (λ_=> []) (λi=>∀y∈l.take i,(decide (y.Op=38)&&decide (y.Arg=n))=false) (by rfl) (by simp) ?_;intro i hi hH;rcases apg hi with dF|heq
 ·have au:i<l.length:=by omega
  have hx:l[i]?=some l[i]:=akC au;have qd:(l.take k)[i]?=some l[i]:=by rw[art,if_pos dF];exact hx
  have bY:aM .i64 ((i:Int)+1):=iW;have zt:(i:Int)<k:=by omega
  by_cases hp:(decide (l[i].Op=38)&&decide (l[i].Arg=n))=true
  ·have hv:wg l k n=i:=by
    unfold wg uj;have:(l.take k).findIdx? (λi=>decide (i.Op=38)&&decide (i.Arg=n))=some i:=by
     rw[aqU];refine⟨by simp;omega,by simpa using hp,λj hj=>?_⟩;have Ii:j<l.length:=by omega
     have:=hH l[j] (aqS.2 ⟨j,by omega,rfl⟩);simpa using this
    rw[this]
   rw[apb,decide_eq_true_eq,decide_eq_true_eq]at hp;simp[au,zt,hp.1,hp.2,hv]
  ·have hn:∀y∈l.take (i+1),(decide (y.Op=38)&&decide (y.Arg=n))=false:=by
    intro y hy;rcases sy hx hy with h|rfl
    ·exact hH y h
    ·simpa using hp
   simp[-cB,au,zt,bY];refine aw (λh=>?_) (λh=>?_)
   ·exact(hp h).elim
   ·simp[-cB,bY,au];exact⟨by omega,λy hy=>by simpa using hn y hy⟩
 ·have hv:wg l k n= -1:=by
   unfold wg uj;have:(l.take k).findIdx? (λi=>decide (i.Op=38)&&decide (i.Arg=n))=none:=by
    rw[List.findIdx?_eq_none_iff];intro y hy;exact hH y (by rw[heq];exact hy)
   rw[this]
  simp[heq,hv]
def gk(l:List Int):List (List D):=l.map λc=> [.v (.int .u8 c)]
@[simp] theorem agS(l:List Int):(gk l).length=l.length:=by simp[gk]
@[simp] theorem agT(a b:List Int):gk a++gk b=gk (a++b):=by simp[gk]
abbrev PK(l:List Int):V:= .d (.sl (gk l))
theorem gw(n:Int):IntKind.wrap .u8 n=n % 256:=by
 unfold IntKind.wrap;simp[IntKind.signed,IntKind.bits]
theorem aeo(i:ai): -32768<=u7 i/\u7 i<=32767:=by
 unfold u7;split
 ·exact cS _
 ·omega
theorem vv(i:ai):Pure prog 187 [.agg (i.enc.map .d)] (PK (nk i)):=by
 obtain⟨o,a⟩:=i;by_cases ho:o<1\/38<=o
 ·have hv:nk ⟨o,a⟩=[]:=by unfold nk;rw[if_pos ho]
  rw[hv];refine Pure.run func187 rfl (by simp[f187,ai.enc]) ?_;simp[-cB,f187,ai.enc]
  repeat' (first
   | (with_reducible refine And.intro ?_ ?_)
   | (refine aw (λh=>?_) (λh=>?_)<;>(try simp at h)<;>(try simp[-cB, *,ai.enc]))
   | (with_reducible intro _))
  all_goals (first|rfl|omega)
 ·have h1:=aeo ⟨o,a⟩;have hv:nk ⟨o,a⟩=fO o (u7 ⟨o,a⟩) (dC (u7 ⟨o,a⟩)):=by unfold nk;rw[if_neg ho]
  rw[hv];have hw:=aQ a;have hh:=Hq o;obtain⟨n,hn⟩:∃n,u7 ⟨o,a⟩=n:=⟨_,rfl⟩
  rw[hn]at h1⊢;unfold u7 at hn;simp only at hn;have rC:¬o<1:=by omega
  have lZ:¬38<=o:=by omega
  have e1:aM .i64 (4 *o):=iW;have e4:aM .i64 (4 *o+1):=iW;have e5:aM .i64 (4 *o+2):=iW;have e6:(4 *o) % 256=4 *o:=by omega
  have e7:(4 *o+1) % 256=4 *o+1:=by omega
  have e8:(4 *o+2) % 256=4 *o+2:=by omega
  have Hr:=um n;have hb:=qB n;obtain⟨k,hk⟩:∃k,dC n=k:=⟨_,rfl⟩
  rw[hk]at hb Hr⊢;have oQ:Pure prog 84 [iD o] (oD false)/\n=0\/Pure prog 84 [iD o] (oD true)/\ar a=n:=by
   cases hA:nj o
   ·left;rw[hA]at hh hn;exact⟨hh,by simpa using hn.symm⟩
   ·right;rw[hA]at hh hn;exact⟨hh,by simpa using hn⟩
  have Ty:aM .i64 (n+65536):=iW;have q1:0<=n->n.tdiv 256=n / 256:=λh=>apW h
  have q2:0<=n+65536:=by omega
  have q3:(n+65536).tdiv 256=(n+65536) / 256:=apW q2;have q4:(n+65536) / 256 % 256=n / 256 % 256:=by omega
  have q5:0<=n->n.tmod 256=n % 256:=λh=>apz h
  have q6:(n+65536).tmod 256=n % 256:=by rw[apz q2];omega
  clear hh hv;have FX:k=0\/k=1\/k=2:=by omega
  rcases FX with rfl|rfl|rfl
  ·have CO:n=0:=by unfold dC at hk;split at hk;assumption;split at hk<;>omega
   subst CO;have me:Pure prog 85 [iD 0] (iD 0):=Hr;clear Hr hb hk q1 q2 q3 q4 q5 q6;rcases oQ with⟨hh,_⟩|⟨hh,I8⟩
   ·have e9:True:=trivial;refine Pure.run func187 rfl (by simp[f187,rC,lZ,ai.enc]) ?_;simp[-cB,f187,rC,lZ,ai.enc];intro bs;refine pC hw ?_;simp[-cB];refine pC hh ?_;simp[-cB,e1];refine av.aT [Q0,Q0,Q0,Q0,Q0,Q0,Q0,none,arF] [iD 0] aS (by kernel_rfl) ?_;simp[-cB,e1,e6,me.ok,gw,e9];refine pC me ?_;simp[-cB,gw,e9];refine pC me ?_;simp[gw,e9,gk,fO,kg]
   ·have e9:True:=trivial;rw[I8]at hw;refine Pure.run func187 rfl (by simp[f187,rC,lZ,ai.enc]) ?_;simp[-cB,f187,rC,lZ,ai.enc];intro bs;refine pC hw ?_;simp[-cB];refine pC hh ?_;simp[-cB,e1];refine av.aT [Q0,Q0,Q0,Q0,Q0,Q0,Q0,none,arF] [iD 0] aS (by kernel_rfl) ?_;simp[-cB,e1,e6,me.ok,gw,e9];refine pC me ?_;simp[-cB,gw,e9];refine pC me ?_;simp[gw,e9,gk,fO,kg]
  ·have me:Pure prog 85 [iD n] (iD 1):=Hr;have hnz:n≠0:=by rintro rfl;simp[dC]at hk
   clear Hr hb hk;rcases oQ with⟨hh,CO⟩|⟨hh,I8⟩
   ·exact absurd CO hnz
   ·rw[I8]at hw;by_cases hs:n<0
    ·clear q1 q5;refine Pure.run func187 rfl (by simp[f187,rC,lZ,ai.enc]) ?_;simp[-cB,f187,rC,lZ,ai.enc];intro bs;refine pC hw ?_;simp[-cB];refine pC hh ?_;simp[-cB,e1];refine av.aT [Q0,Q0,Q0,Q0,Q0,Q0,Q0,none,arF] [iD 1] aS (by kernel_rfl) ?_;simp[-cB,e1,e4,e5,e7,me.ok,gw,hs,Ty,q6];refine pC me ?_;simp[-cB,gw,hs,Ty,q6];refine pC me ?_;simp[gw,hs,Ty,q6,gk,fO,kg]
    ·have PL:=q5 (by omega);clear q1 q5;refine Pure.run func187 rfl (by simp[f187,rC,lZ,ai.enc]) ?_;simp[-cB,f187,rC,lZ,ai.enc];intro bs;refine pC hw ?_;simp[-cB];refine pC hh ?_;simp[-cB,e1];refine av.aT [Q0,Q0,Q0,Q0,Q0,Q0,Q0,none,arF] [iD 1] aS (by kernel_rfl) ?_;simp[-cB,e1,e4,e5,e7,me.ok,gw,hs,PL];refine pC me ?_;simp[-cB,gw,hs,PL];refine pC me ?_;simp[gw,hs,PL,gk,fO,kg]
  ·have me:Pure prog 85 [iD n] (iD 2):=Hr;have hnz:n≠0:=by rintro rfl;simp[dC]at hk
   clear Hr hb hk;rcases oQ with⟨hh,CO⟩|⟨hh,I8⟩
   ·exact absurd CO hnz
   ·rw[I8]at hw;by_cases hs:n<0
    ·clear q1 q5;refine Pure.run func187 rfl (by simp[f187,rC,lZ,ai.enc]) ?_;simp[-cB,f187,rC,lZ,ai.enc];intro bs;refine pC hw ?_;simp[-cB];refine pC hh ?_;simp[-cB,e1];refine av.aT [Q0,Q0,Q0,Q0,Q0,Q0,Q0,none,arF] [iD 2] aS (by kernel_rfl) ?_;simp[-cB,e1,e4,e5,e8,me.ok,gw,hs,Ty,q6,q3,q4];refine pC me ?_;simp[-cB,gw,hs,Ty,q6,q3,q4];refine pC me ?_;simp[gw,hs,Ty,q6,q3,q4,gk,fO,kg];rw[wrap64 iW,q4]
    ·have PL:=q5 (by omega);have q1':=q1 (by omega);clear q1 q5;refine Pure.run func187 rfl (by simp[f187,rC,lZ,ai.enc]) ?_;simp[-cB,f187,rC,lZ,ai.enc];intro bs;refine pC hw ?_;simp[-cB];refine pC hh ?_;simp[-cB,e1];refine av.aT [Q0,Q0,Q0,Q0,Q0,Q0,Q0,none,arF] [iD 2] aS (by kernel_rfl) ?_;simp[-cB,e1,e4,e5,e8,me.ok,gw,hs,PL,q1'];refine pC me ?_;simp[-cB,gw,hs,PL,q1'];refine pC me ?_;simp[gw,hs,PL,q1',gk,fO,kg];rw[wrap64 iW]
theorem Zk(n:Int):Pure prog 236 [iD n] (iD (oJ n)):=by
 have hi:=nh n;have he:=vv ⟨24,n⟩;have hf:oJ n=if kh n then dC n else 3:=rfl
 have iE:=qB n;have hI:gP n=kh n:=by simp[gP,kh,bB]
 rw[hI]at hi;obtain⟨F,hF⟩:∃F,oJ n=F:=⟨_,rfl⟩
 rw[hF]at hf⊢;by_cases h:kh n=true
 ·have hn: -32768<=n/\n<=32767:=by simpa[kh]using h
  rw[h]at hi hf;simp only[if_true]at hf;have hlen:(nk ⟨24,n⟩).length=1+F:=by
   have hA:nj 24=true:=by decide
   rw[hf];simp only[nk,u7,hA,if_true,yc hn];rw[if_neg (by omega)];simp only[fO,apj,yr n _ iE];omega
  refine Pure.run func236 rfl (by simp[f236,ai.enc]) ?_;simp[-cB,f236,ai.enc];refine pC hi ?_;simp[ai.enc];refine pC he ?_;simp[hlen];exact⟨iW,by omega⟩
 ·have h':kh n=false:=by simpa using h
  rw[h']at hi hf;simp at hf;refine Pure.run func236 rfl (by simp[f236,ai.enc]) ?_;simp[-cB,f236,ai.enc];refine pC hi ?_;simp[hf]
theorem Zm(o n:Int)(k:Nat)(ho:1<=o/\o<38)(hk:k<=2):Pure prog 188 [iD o,iD n,iD k] (PK (fO o n k)):=by
 have e1:aM .i64 (4 *o):=iW;have e2:aM .i64 (4 *o+1):=iW;have e3:aM .i64 (4 *o+2):=iW;have e6:(4 *o) % 256=4 *o:=by omega
 have e7:(4 *o+1) % 256=4 *o+1:=by omega
 have e8:(4 *o+2) % 256=4 *o+2:=by omega
 have FX:k=0\/k=1\/k=2:=by omega
 rcases FX with rfl|rfl|rfl
 ·refine Pure.run func188 rfl (by simp[f188,e1,e6,gw]) ?_;simp[-cB,f188,e1,e6,gw];simp[gk,fO,kg]
 ·refine Pure.run func188 rfl (by simp[f188,e1,e2,e7,gw]) ?_;simp[-cB,f188,e1,e2,e7,gw];simp[gk,fO,kg]
 ·refine Pure.run func188 rfl (by simp[f188,e1,e3,e8,gw]) ?_;simp[-cB,f188,e1,e3,e8,gw];simp[gk,fO,kg];show n.fdiv 256 % 256=_;rw[ari _ (by decide)]
section
variable {P : Program} {n : Nat} {s : St} {Q : AX -> St -> Prop} {L : aI}
def PM:D->Bool
 | .v _=>true
 | _=>false
theorem Zn{ty}{k}{ys}{w}{O O'}{m m'}{x}(h:(aV.row ty k (dd ys)).Holds w O m x)(hp:ys.all (fun y=>y.all PM)=true):
  (aV.row ty k (dd ys)).Holds w O' m' x:=by
 rcases h with h|⟨b,off,cap,cur,h1,h2,h3,h4,h5,h6,h7,h8⟩
 ·exact .inl h
 ·refine .inr ⟨b,off,cap,cur,h1,h2,h3,h4,h5,h6,h7,λi j x y v hx hy hv=>?_⟩;refine Ow (h8 i j x y v hx hy hv) ?_;rw[Oo]at hx;obtain⟨y0,rB,rfl⟩:=ao8.1 hx;rw[apc]at hy;obtain⟨z,hz,rfl⟩:=ao8.1 hy;have:=apd.1 (apd.1 hp y0 (ape rB)) z (ape hz);cases z with
  | v u=>rfl
  | sl xs=>cases this
  | uB t ag cs=>cases this
theorem ay.ahC{ops}{o:Oper}{rest}{c}{f}{args lU}{ty}{kc}{ys} h(aD:o.op= .call c)
  (hf:aE P f lU [] (λr L'=>∃g,r= .ret (.rv g)/\L'=[(g,.row ty kc (dd ys))])) (he:enters P f=true) (hc:callee s.ev c=some (f,args)) (ha:V.mb s.L args=lU) (ho:V.dK [] lU=true)
  (hs:ys.all (λy=>y.all PM)=true) (hg:o.guard=none) (hd:∀d,o.dst=some d->d<n) (hr:dG n rest=true) (hn:h∉keys s.L)
  (k:∀bs,eM P ops rest (St.put {s with L:=(h,.row ty kc (dd ys))::s.L} o.dst (.rv h)) bs [] (KK P n ops Q)):ay P n ops (o::rest) s Q:=by
 subst ha;intro fo m0 w0 m a w st g;unfold wpListIn;rw[if_pos (by simp[Region.wanted,hg])];obtain⟨xs,h1,h2⟩:=o9 (P:=P) (w:=w) (m:=m) (O:=OO fo m) aD hc he (λz _=>ck g z);have hi:=g.inv;refine Lq h1 ?_;have fC:ir w (OO fo fR) fR xs (V.mb s.L args):=by
  refine⟨by rw[uV];exact h2.1,λj v y hv hy=>?_⟩;have Ov:=fS ho y (ape hy);rw[uU]at hy;obtain⟨z,hz,rfl⟩:=ao8.1 hy;exact(Ou hi (h2.2 j v z hv hz) Ov).mono (bK.refl w _) (λb _ hb=>hb.elim (λh=>(gI b h).elim) id) (λ_ _ e=>e)
 refine(hf fo fR w xs (hi.none_ λb hb=> .inr hb) fC).mono ?_;rintro e w' ⟨m1,r,L',⟨gg,rfl,rfl⟩,kK,cm,fK⟩;cases e with
 | returned v=>
   have hv:m1 gg=some v/\v.oneCell'=true:=by
    cases kK with
    | rv _ _ e e1=>grind
   obtain⟨z,hz,Dq⟩:=cm.holds gg (.row ty kc (dd ys)) (by simp);rw[hv.1]at hz;obtain rfl:=ao9 hz;have gr:hY w w':=⟨fK.os,fK.tape,fK.output,fK.size,λb hb=>fK.block b hb (gI b)⟩
   obtain⟨g',qk⟩:=g.new gr hn (x:=v) (λb hb=>by
    by_cases au:b<w.heap.size
    ·exact(gI b (fK.owned b au ⟨gg,v,hv.1,hb⟩)).elim
    ·omega) (Zn Dq hs)
   exact(bq rest _ [] hr k) fo m0 w0 _ _ w' (st.trans qk) (g'.put hd (.rv h v (cq _ _) hv.2))
 | panicked ch=>simp_all[Ends]
 | outgrown=>simp_all[Ends]
end
def pY(z:Zl):List Int:=z.map λp=>(p.2:Int)
def yz(z:Zl)(n:Nat):List Int:=(List.range n).map λi=>(aW (z.take i):Int)
theorem PN(z:Zl)(n:Nat):yz z (n+1)=yz z n++ [(aW (z.take n):Int)]:=by
 unfold yz;rw[aqu,aqd];rfl
theorem Fm(z:Zl)(n:Nat):(yz z n).length=n:=by simp[yz]
theorem Kw(z:Zl){n k:Nat}(h:k<n):(yz z n)[k]?=some (aW (z.take k):Int):=by
 simp[yz,h]
theorem Kx(p:ai×Nat):dZ p=if jmp p.1.Op=true then 1+p.2 else(nk p.1).length:=by
 unfold dZ;split
 ·rename_i h;rw[h];have:nk p.1=[]:=by unfold nk;rw[if_pos (by omega)]
  rw[this];simp[jmp]
 ·rfl
theorem yA(i:ai):(nk i).length<=3:=by
 unfold nk;split
 ·simp
 ·have:=qB (u7 i);simp only[fO,apj,yr _ _ this];omega
theorem aep(p:ai×Nat)(h:p.2<=3):dZ p<=4:=by
 rw[Kx];have:=yA p.1;split<;>omega
theorem AP:∀(z:Zl),(∀p∈z,p.2<=3)->aW z<=4 *z.length
 | [],_=>by simp[aW]
 | p::z,h=>by
   have h1:=AP z (λq hq=>h q (by simp[hq]));have h2:=aep p (h p (by simp));simp only[aW,apF,arh,apj]at h1⊢;omega
theorem zD(z:Zl)(i:Nat)(h:i<z.length):aW (z.take (i+1))=aW (z.take i)+dZ z[i]:=by
 unfold aW;rw[apI,akC h];simp only[Option.toList,aqd,List.sum_append,apF,List.map_nil,arh,List.sum_nil,aqi]
theorem PO(z:Zl)(hz:z.length≤1000000000)(h3:∀p∈z,p.2≤3):
  aE prog 185 [dA (z.map Prod.fst),.d (.sl (aA (pY z)))] [] (λr L=>∃g,r= .ret (.rv g)/\L=[(g,.row 3 1 (dd (aA (yz z (z.length+1)))))]):=by
 refine rX [4] [1000] func185 ?_;simp[-cB,f185];refine av.weaken (Wk.C4 (t:=6) (h:=1000) (k:=1) (ty:=3) (by rfl) (by simp[keys])) ?_;refine av.cJ [0,1,5,6,7] z.length (λi=> [(5,iD (aW (z.take i))),(7,iD i)]) (λi=> [(1000,.row 3 1 (dd (aA (yz z i))))]) (λ_=>True) (by rfl) (by simp[yz,aW]) ?_;intro i hi hH;have hb:aW (z.take i)<=4 *i:=by
  have:=AP (z.take i) (λp hp=>h3 p (aqg hp));rw[apG]at this;omega
 have nv:=Fm z i;have Gf:=PN z i;rcases apg hi with au|heq
 ·have hx:z[i]?=some z[i]:=akC au;have bY:aM .i64 ((i:Int)+1):=iW;have mj:=zD z i au;have uJ:=Kx z[i];have sZ:=yA z[i].1;have Tn:=h3 z[i] (apk au);have hj:=uo z[i].1;have he:=vv z[i].1;have e1:aM .i64 ((aW (z.take i):Int)+1):=iW;have e2:aM .i64 ((aW (z.take i):Int)+1+(z[i].2:Int)):=iW;have e3:aM .i64 ((aW (z.take i):Int)+((nk z[i].1).length:Int)):=iW;cases tw:jmp z[i].1.Op with
  | true=>
    rw[tw]at hj uJ;simp only[if_true]at uJ;have dW:(pY z)[i]?=some (z[i].2:Int):=by simp[pY,hx]
    simp[-cB,au,hx,nv];refine⟨by omega,?_⟩;refine pC hj ?_;simp[-cB,au,hx,nv,e1,e2,bY,dW,pY,Gf,mj,uJ];omega
  | false=>
    rw[tw]at hj uJ;simp only[apH,if_false]at uJ;simp[-cB,au,hx,nv];refine⟨by omega,?_⟩;refine pC hj ?_;simp[-cB,au,hx,nv];refine pC he ?_;simp[au,hx,e3,bY,Gf,mj,uJ]
 ·subst heq;simp[nv,Gf];omega
theorem RR(z:Zl)(hz:z.length≤1000000000)(h3:∀p∈z,p.2≤3):
  Pure prog 185 [dA (z.map Prod.fst),.d (.sl (aA (pY z)))] (.d (.sl (aA (yz z (z.length+1))))):=by
 refine rn func185 ?_;simp[-cB,f185];refine av.weaken (Wk.C4 (t:=6) (h:=1000) (k:=1) (ty:=3) (by rfl) (by simp[keys])) ?_;refine av.cJ [0,1,5,6,7] z.length (λi=> [(5,iD (aW (z.take i))),(7,iD i)]) (λi=> [(1000,.row 3 1 (dd (aA (yz z i))))]) (λ_=>True) (by rfl) (by simp[yz,aW]) ?_;intro i hi hH;have hb:aW (z.take i)<=4 *i:=by
  have:=AP (z.take i) (λp hp=>h3 p (aqg hp));rw[apG]at this;omega
 have nv:=Fm z i;have Gf:=PN z i;rcases apg hi with au|heq
 ·have hx:z[i]?=some z[i]:=akC au;have bY:aM .i64 ((i:Int)+1):=iW;have mj:=zD z i au;have uJ:=Kx z[i];have sZ:=yA z[i].1;have Tn:=h3 z[i] (apk au);have hj:=uo z[i].1;have he:=vv z[i].1;have e1:aM .i64 ((aW (z.take i):Int)+1):=iW;have e2:aM .i64 ((aW (z.take i):Int)+1+(z[i].2:Int)):=iW;have e3:aM .i64 ((aW (z.take i):Int)+((nk z[i].1).length:Int)):=iW;cases tw:jmp z[i].1.Op with
  | true=>
    rw[tw]at hj uJ;simp only[if_true]at uJ;have dW:(pY z)[i]?=some (z[i].2:Int):=by simp[pY,hx]
    simp[-cB,au,hx,nv];refine⟨by omega,?_⟩;refine pC hj ?_;simp[-cB,au,hx,nv,e1,e2,bY,dW,pY,Gf,mj,uJ];omega
  | false=>
    rw[tw]at hj uJ;simp only[apH,if_false]at uJ;simp[-cB,au,hx,nv];refine⟨by omega,?_⟩;refine pC hj ?_;simp[-cB,au,hx,nv];refine pC he ?_;simp[au,hx,e3,bY,Gf,mj,uJ]
 ·subst heq;simp[nv,Gf];omega
theorem I9:∀(z:Zl) (n:Int),ud z n=((z.map Prod.fst).findIdx? (λi=>decide (i.Op=38)&&decide (i.Arg=n))).map (λk=>aW (z.take k))
 | [],n=>rfl
 | p::z,n=>by
   rw[ud,apF,List.findIdx?_cons,I9 z n];by_cases h:p.1.Op=38/\p.1.Arg=n
   ·have hb:(decide (p.1.Op=38)&&decide (p.1.Arg=n))=true:=by simpa using h
    rw[if_pos h,if_pos hb];rfl
   ·have hb:¬(decide (p.1.Op=38)&&decide (p.1.Arg=n))=true:=by simpa using h
    rw[if_neg h,if_neg hb,Option.map_map,Option.map_map];congr 1
theorem V2{z:Zl}{n:Int}{m:Nat}(h:ud z n=some m):∃k,k<z.length/\wg (z.map Prod.fst) (z.map Prod.fst).length n=(k:Nat)/\m=aW (z.take k):=by
 rw[I9]at h;obtain⟨k,hk,rfl⟩:=ao8.1 h;refine⟨k,?_,?_,rfl⟩
 ·have:=aqU.1 hk;obtain⟨h1,_⟩:=this;simpa using h1
 ·unfold wg uj;rw[apM,hk]
theorem PQ(z:Zl)(hz:z.length≤1000000000)(h3:∀p∈z,p.2≤3)(i:Nat)(hi:i < z.length)(hl:(ud z z[i].1.Arg).isSome):
  Pure prog 189 [dA (z.map Prod.fst),.d (.sl (aA (yz z (z.length+1)))),iD i] (iD (il z z[i].1.Arg (aW (z.take (i+1))))):=by
 obtain⟨m,hm⟩:=aqb.1 hl;obtain⟨k,hk,hn,rH⟩:=V2 hm;have bV:=Aa (z.map Prod.fst) (by simp;omega) (z.map Prod.fst).length (by omega) z[i].1.Arg;rw[hn]at bV;have hF:il z z[i].1.Arg (aW (z.take (i+1)))=(m:Int)-(aW (z.take (i+1)):Int):=by unfold il;rw[hm];rfl
 rw[hF];have g1:=Kw z (n:=z.length+1) (k:=k) (by omega);have g2:=Kw z (n:=z.length+1) (k:=i+1) (by omega);have b1:=AP (z.take k) (λp hp=>h3 p (aqg hp));have b2:=AP (z.take (i+1)) (λp hp=>h3 p (aqg hp));rw[apG]at b1 b2;have bY:aM .i64 ((i:Int)+1):=iW;have h65:aM .i64 ((m:Int)-(aW (z.take (i+1)):Int)):=iW;have hx:z[i]?=some z[i]:=akC hi;have nv:=Fm z (z.length+1);rw[<-rH]at g1;have Kr:=bV.ok;simp only[apx]at Kr;refine rn func189 ?_;simp[-cB,f189];refine av.aT [Q0,Q0,Q0,Q0,Q0,Q0,Q0,Q0,Q0,Q0,Q0,Q0,Q0,Q0,Q0,Q0,Q0,Q0,Q0] [iD k] aS (by kernel_rfl) ?_;simp[Kr,hx,bY,h65,g1,g2,nv,hi];have g3:=(apa.1 g2).2;exact⟨by omega,by omega,by rw[g3];exact h65,g3⟩
theorem Tz(z:Zl){i:Nat}(h:i<z.length):(pY z)[i]?=some (z[i].2:Int):=by
 simp[pY,akC h]
theorem Ea:∀(a b i:Nat) (z:Zl) (x:Bool),dP (a+b) i z x=dP b (i+a) (dP a i z x).1 (dP a i z x).2
 | 0,b,i,z,x=>by simp[dP]
 | a+1,b,i,z,x=>by
   rw[show a+1+b=(a+b)+1 by omega,dP,dP];cases mR z i with
   | none=>simp only;rw[Ea a b (i+1) z x,show i+(a+1)=i+1+a by omega]
   | some z'=>simp only;rw[Ea a b (i+1) z' true,show i+(a+1)=i+1+a by omega]
theorem V3(n:Nat)(z:Zl)(x:Bool):dP (n+1) 0 z x=match mR (dP n 0 z x).1 n with
  | some z'=>(z',true)
  | none=>dP n 0 z x:=by
 rw[Ea n 1 0 z x,ap2,dP];cases mR (dP n 0 z x).1 n with
 | none=>rfl
 | some z'=>rfl
def qF(z:Zl):Nat->Zl
 | 0=>z
 | k+1=>(dP (qF z k).length 0 (qF z k) false).1
theorem zE(z:Zl):∀k,qF z (k+1)=qF (qF z 1) k
 | 0=>rfl
 | k+1=>by rw[qF,zE z k];rfl
theorem LQ:∀(g:Nat) (z z':Zl),yu g z=some z'->∃N,(∀k,k<N->(dP (qF z k).length 0 (qF z k) false).2=true)/\(dP (qF z N).length 0 (qF z N) false).2=false/\z'=qF z (N+1)
 | 0,z,z',h=>by cases h
 | g+1,z,z',h=>by
   rw[yu]at h;split at h
   ·rename_i hb;obtain⟨N,h1,h2,h3⟩:=LQ g _ _ h;refine⟨N+1,λk hk=>?_,?_,?_⟩
    ·cases k with
     | zero=>exact hb
     | succ k=>rw[zE];exact h1 k (by omega)
    ·rw[zE];exact h2
    ·rw[zE];exact h3
   ·rename_i hb;simp only[anc]at h;exact⟨0,λk hk=>by omega,(by simpa using hb:(dP z.length 0 z false).2=false),h.symm⟩
theorem Zo(z:Zl)(h:∀p∈z,z8 p):∀k,(qF z k).map Prod.fst=z.map Prod.fst/\∀p∈qF z k,z8 p
 | 0=>⟨rfl,h⟩
 | k+1=>by
   obtain⟨h1,h2⟩:=Zo z h k;obtain⟨a1,a2,_⟩:=yw (qF z k).length 0 (qF z k) false h2;exact⟨a1.trans h1,a2⟩
theorem BQ(l:List ai):(kH l).map Prod.fst=l:=by unfold kH;rw[aqx];exact List.map_id l
theorem Ky(l:List ai):∀p∈kH l,z8 p:=by
 intro p hp;unfold kH at hp;obtain⟨i,_,rfl⟩:=apf.1 hp;exact⟨by simp,λ_=>by simp⟩
theorem aeq(l:List ai):pY (kH l)=List.replicate l.length 0:=by
 unfold pY kH;rw[aqx];have h:((λp:ai×Nat=>(p.2:Int)) ∘ λi:ai=>(i,0))=λ_=>(0:Int):=rfl
 rw[h,List.map_const']
theorem Zp{z:Zl}{i:Nat}(hi:i<z.length)(h:jmp z[i].1.Op=false):mR z i=none:=by
 unfold mR;rw[akC hi];simp[h]
theorem aer(z:Zl)(i:Nat)(x:ai)(n:Nat):pY (z.set i (x,n))=(pY z).set i (n:Int):=by
 simp[pY,List.map_set]
theorem aes{a b:Zl}(h:a.map Prod.fst=b.map Prod.fst){i:Nat}(ha:i<a.length)(hb:i<b.length):a[i].1=b[i].1:=by
 have:=congrArg (λl=>l[i]?) h;simp only[apc,akC ha,akC hb,apB,anc]at this;exact this
theorem V4(l:List ai)(hl:l.length≤1000000000)(z':Zl)(hz:yu (3 *l.length+1) (kH l)=some z')(ob:∀i∈l,jmp i.Op=true→(bQ l).contains i.Arg=true):
  Pure prog 184 [dA l] (.d (.sl (aA (pY z')))):=by
 obtain⟨N,hN1,YM,rfl⟩:=LQ _ _ _ hz;have iy:=Zo (kH l) (Ky l);simp only[BQ]at iy;have hlen:∀k,(qF (kH l) k).length=l.length:=λk=>by simpa using congrArg List.length (iy k).1
 refine rn func184 ?_;simp[-cB,f184];refine⟨⟨by simp[maxLen];omega,by omega⟩,?_⟩;refine av.weaken (Wk.eB 9 5002 (by simp[keys])) ?_;refine av.cJ [0,3,4] (N+1) (λk=> [(4,oD (decide (k<=N)))]) (λk=> [(5002,.row 3 1 (dd (aA (pY (qF (kH l) k)))))]) (λk=>k<=N+1) (by rfl) (by simp[qF,aeq]) ?_;intro k hk hH;rcases apg hk with tW|rfl
 ·have Zq:k<=N:=by omega
  obtain⟨hf,aN⟩:=iy k;have nS:=hlen k;have V5:qF (kH l) (k+1)=(dP l.length 0 (qF (kH l) k) false).1:=by rw[qF,nS]
  have yS:decide (k+1<=N)=(dP l.length 0 (qF (kH l) k) false).2:=by
   rcases apg Zq with h|rfl
   ·have:=hN1 k h;rw[nS]at this;rw[this];simp;omega
   ·rw[nS]at YM;rw[YM];simp
  obtain⟨z,hzz⟩:∃z,qF (kH l) k=z:=⟨_,rfl⟩
  rw[hzz]at hf aN nS V5 yS⊢;clear hN1 YM hz iy hlen hzz;simp[-cB,Zq];refine av.cJ [0,3,4,5] l.length (λj=> [(4,oD (dP j 0 z false).2),(5,iD j)]) (λj=> [(5002,.row 3 1 (dd (aA (pY (dP j 0 z false).1))))]) (λ_=>True) (by rfl) (by simp[dP]) ?_;intro j hj _;obtain⟨q1,q2,_⟩:=yw j 0 z false aN;rw[hf]at q1;rcases apg hj with au|rfl
  ·have dH:=V3 j z false;obtain⟨zj,hzj⟩:∃y,(dP j 0 z false).1=y:=⟨_,rfl⟩
   obtain⟨bj,OB⟩:∃y,(dP j 0 z false).2=y:=⟨_,rfl⟩
   have pR:dP j 0 z false=(zj,bj):=by rw[<-hzj,<-OB]
   rw[pR]at dH;rw[hzj]at q1 q2;have abW:zj.length=l.length:=by simpa using congrArg List.length q1
   have yB:j<zj.length:=by omega
   have Eb:l[j]?=some zj[j].1:=by rw[<-q1,apc,akC yB];rfl
   have Ec:l[j]=zj[j].1:=by
    rw[akC au]at Eb;exact ao9 Eb
   have h3:∀p∈zj,p.2<=3:=λp hp=>(q2 p hp).1
   have ze:=uo zj[j].1;have bY:aM .i64 ((j:Int)+1):=iW;simp only at dH;cases tw:jmp zj[j].1.Op with
   | false=>
     rw[Zp yB tw]at dH;simp only at dH;rw[tw]at ze;simp[-cB,au,Ec,pR,dH];refine pC ze ?_;simp[-cB,au,Ec,pR,dH,bY]
   | true=>
     rw[tw]at ze;have fm:zj[j].1.Arg∈bQ (zj.map Prod.fst):=by
      rw[q1];have:=ob zj[j].1 (ape Eb) tw;simpa using this
     have fJ:=PO zj (by omega) h3;have Ph:=PQ zj (by omega) h3 j yB (wW _ _ fm);rw[q1,abW]at fJ;rw[q1,abW]at Ph;have hfi:=Zk (il zj zj[j].1.Arg (aW (zj.take (j+1))));have hg:mR zj j=if zj[j].2<oJ (il zj zj[j].1.Arg (aW (zj.take (j+1))))then some (zj.set j (zj[j].1,oJ (il zj zj[j].1.Arg (aW (zj.take (j+1))))))else none:=by
      unfold mR;rw[akC yB];simp[tw]
     have Zr:=Tz zj yB;have TA:(pY zj).length=l.length:=by simp[pY,abW]
     have Kz:(pY zj)[j]'(by omega)=(zj[j].2:Int):=(apa.1 Zr).2;have hss:=aer zj j;obtain⟨n,hn⟩:∃n,oJ (il zj zj[j].1.Arg (aW (zj.take (j+1))))=n:=⟨_,rfl⟩
     rw[hn]at hfi hg;simp[-cB,au,Ec,pR,dH];refine pC ze ?_;simp[-cB,au,Ec,pR,dH,bY];refine ay.ahC 1000 rfl fJ (by kernel_rfl) rfl (by simp) (by simp) (by simp[aA,PM]) rfl (by simp) rfl (by simp[keys]) ?_;simp[-cB,au,Ec,pR,dH,bY];refine lC Ph ?_;simp[-cB,au,Ec,pR,dH,bY];refine pC hfi ?_;by_cases hc:zj[j].2<n
     ·rw[if_pos hc]at hg;rw[hg]at dH;have sY:((zj[j].2:Nat):Int)<(n:Nat):=by omega
      simp[au,Ec,pR,dH,bY,Zr,Kz,TA,hc,sY,hss]
     ·rw[if_neg hc]at hg;rw[hg]at dH;have sY:¬((zj[j].2:Nat):Int)<(n:Nat):=by omega
      simp[au,Ec,pR,dH,bY,Zr,Kz,TA,hc,sY]
  ·simp[-cB];rw[yS,V5];exact⟨tW,⟨rfl,rfl⟩,Zq⟩
 ·simp;intro h;omega
def BR(S:ByteArray)(i:Nat):Bool:=(S.data[i]?.getD 0).toNat==32
def jj(S:ByteArray):Nat->Nat×ByteArray
 | 0=>(0,⟨#[]⟩)
 | i+1=>if BR S i then((jj S i).1+1,⟨#[]⟩)else((jj S i).1,(jj S i).2++S.extract i (i+1))
theorem Zs(S:ByteArray):∀i,(jj S i).1<=i
 | 0=>api _
 | i+1=>by
   have:=Zs S i;rw[jj];split<;>simp only<;>omega
theorem Zu(S:ByteArray):∀i,(jj S i).2.size<=i
 | 0=>api _
 | i+1=>by
   have:=Zu S i;rw[jj];split
   ·exact aqr _
   ·simp only[apw,ByteArray.size_extract];omega
def vw(S:ByteArray)(o:Int):Nat->Nat->ByteArray
 | 0,_=>⟨#[]⟩
 | n+1,i=>if BR S i=true/\((jj S i).1:Int)=o/\0<o then(jj S i).2 else vw S o n (i+1)
def Hs(S:ByteArray):Nat->Nat->Nat
 | 0,_=>0
 | n+1,i=>(if BR S i then 1 else 0)+Hs S n (i+1)
def PR(S:ByteArray):Nat->Nat->Bool->Bool->Bool
 | 0,_,_,_=>true
 | n+1,i,e,z=>if BR S i then(z||!e)&&PR S n (i+1) true false else PR S n (i+1) false z
theorem Ja{S:ByteArray}{o:Int}:∀(n i:Nat),o<=0\/((jj S i).1+Hs S n i:Nat)<=o->vw S o n i=⟨#[]⟩
 | 0,i,h=>rfl
 | n+1,i,h=>by
   rw[vw];rw[Hs]at h;rw[if_neg]
   ·refine Ja n (i+1) ?_;rcases h with h|h
    ·exact .inl h
    ·right;rw[jj];split
     ·rename_i hb;rw[if_pos hb]at h;simp only;omega
     ·rename_i hb;rw[if_neg hb]at h;simp only;omega
   ·rintro⟨h1,h2,h3⟩;rcases h with h|h
    ·omega
    ·rw[if_pos h1]at h;omega
theorem BS{S:ByteArray}{o:Int}:∀(n i:Nat) (e z:Bool),i+n<=S.size->PR S n i e z=true->(e=false->(jj S i).2.size≠0)->(z=false->0<(jj S i).1)->(z=true->(jj S i).1=0)->0<o->((jj S i).1:Int)<=o->o<((jj S i).1+Hs S n i:Nat)->(vw S o n i).size≠0
 | 0,i,e,z,hn,hc,he,hz,sX,h0,h1,h2=>by simp[Hs]at h2;omega
 | n+1,i,e,z,hn,hc,he,hz,sX,h0,h1,h2=>by
   rw[vw];rw[PR]at hc;rw[Hs]at h2;by_cases hb:BR S i=true
   ·rw[if_pos hb]at hc h2;simp only[apb,arl,aqQ]at hc;by_cases ho:((jj S i).1:Int)=o
    ·rw[if_pos ⟨hb,ho,h0⟩];rcases hc.1 with h|h
     ·have:=sX h;omega
     ·exact he h
    ·rw[if_neg (λh=>ho h.2.1)];have hs:jj S (i+1)=((jj S i).1+1,⟨#[]⟩):=by rw[jj,if_pos hb]
     refine BS n (i+1) true false (by omega) hc.2 (λh=>by cases h) (λ_=>by rw[hs];simp) (λh=>by cases h) h0 ?_ ?_
     ·rw[hs];simp only;omega
     ·rw[hs];simp only;omega
   ·rw[if_neg hb]at hc h2;rw[if_neg (λh=>hb h.1)];have hs:jj S (i+1)=((jj S i).1,(jj S i).2++S.extract i (i+1)):=by rw[jj,if_neg hb]
    refine BS n (i+1) false z (by omega) hc (λ_=>?_) (λh=>by rw[hs];exact hz h) (λh=>by rw[hs];exact sX h) h0 ?_ ?_
    ·rw[hs];simp only[apw,ByteArray.size_extract];omega
    ·rw[hs];exact h1
    ·rw[hs];simp only;omega
theorem Zv(o:Int):∃R:ByteArray,Pure prog 235 [iD o] (.d (.v (.string R)))/\(R.size=0↔o<1\/38<o):=by
 obtain⟨S,hS⟩:∃S:ByteArray,S={data:= #[32,112,117,115,104,32,112,111,112,32,103,108,111,98,97,108,32,112,117,116,103,108,111,98,97,108,32,108,111,99,97,108,32,112,117,116,108,111,99,97,108,32,115,101,108,102,32,98,105,110,32,110,101,103,32,110,111,116,32,116,101,115,116,32,104,97,115,32,112,114,111,112,32,112,117,116,32,115,101,116,32,117,110,115,101,116,32,109,111,118,101,32,114,101,109,111,118,101,32,116,114,101,101,32,114,97,110,100,111,109,32,116,101,120,116,32,110,117,109,32,116,105,116,108,101,32,106,117,109,112,32,122,101,114,111,32,99,97,108,108,32,114,101,116,117,114,110,32,115,116,111,112,32,119,105,110,32,108,111,115,101,32,97,119,97,114,100,32,115,116,97,114,116,32,104,97,108,116,32,116,114,97,118,101,108,32,108,111,111,107,32,108,105,115,116,32,116,105,99,107,32,108,97,98,101,108,32]}:=⟨_,rfl⟩
 have hz:S.size=207:=by rw[hS];rfl
 have hk:PR S 207 0 true true=true:=by rw[hS];decide+kernel
 have hc:Hs S 207 0=39:=by rw[hS];decide+kernel
 refine⟨vw S o 207 0,?_,?_⟩
 ·obtain⟨R,hR⟩:∃R,vw S o 207 0=R:=⟨_,rfl⟩
  rw[hR];refine rn func235 ?_;simp[-cB,f235];rw[<-hS];clear hS hk hc;refine av.cJ [0,3,4,5] 207 (λi=> [(3,iD (jj S i).1),(4,.d (.v (.string (jj S i).2))),(5,iD i)]) (λ_=> []) (λi=>vw S o (207-i) i=R) (by rfl) (by simp[jj,hR]) ?_;intro i hi hH;rcases apg hi with au|heq
  ·have dF:(i:Int)<207:=by omega
   have PS:i<S.size:=by omega
   have bY:aM .i64 ((i:Int)+1):=iW;have bV:jj S (i+1)=if BR S i then((jj S i).1+1,⟨#[]⟩)else((jj S i).1,(jj S i).2++S.extract i (i+1)):=rfl
   rw[show 207-i=(207-(i+1))+1 by omega,vw]at hH;have rI:BR S i=(S.data[i].toNat==32):=by
    unfold BR;rw[apy PS];rfl
   have Am:207-(i+1)=206-i:=by omega
   have h65:aM .i64 (((jj S i).1:Int)+1)->True:=λ_=>trivial
   have hcb:(jj S i).1<=i:=Zs S i;have h66:aM .i64 (((jj S i).1:Int)+1):=iW;cases hb:BR S i with
   | true=>
     rw[hb]at bV hH rI;simp only[if_true]at bV;simp only[true_and]at hH;have Zw:((S.data[i].toNat:Int) !=32)=false:=by
      have:S.data[i].toNat=32:=by simpa using rI.symm
      simp[this]
     by_cases ho:((jj S i).1:Int)=o/\0<o
     ·rw[if_pos ho]at hH;simp[-cB,au,dF,PS,Zw,ho.1,ho.2,hH]
     ·rw[if_neg ho]at hH;by_cases CL:((jj S i).1:Int)=o
      ·have DH:¬0<o:=λh=>ho ⟨CL,h⟩
       simp[au,dF,PS,Zw,CL,DH,bY,bV,hH];rw[CL]at h66;exact⟨h66,by rw[<-Am];exact hH⟩
      ·simp[au,dF,PS,Zw,CL,bY,h66,bV,hH];rw[<-Am];exact hH
   | false=>
     rw[hb]at bV hH rI;simp only[apH,if_false,false_and]at bV hH;have Zw:((S.data[i].toNat:Int) !=32)=true:=by
      have:S.data[i].toNat≠32:=by simpa using rI.symm
      simp;omega
     simp[au,dF,PS,Zw,bY,bV,hH];have dW:=Zu S i;exact⟨⟨by omega,by omega⟩,by omega,by rw[<-Am];exact hH⟩
  ·subst heq;have:vw S o 0 207=R:=hH;simp;exact this
 ·constructor
  ·intro h;by_cases hh:o<1\/38<o
   ·exact hh
   ·exact absurd h (BS 207 0 true true (by omega) hk (λh=>by cases h) (λh=>by cases h) (λ_=>rfl) (by omega) (by simp[jj];omega) (by rw[hc];simp[jj];omega))
  ·intro h;rw[Ja 207 0 (by rw[hc];simp[jj];omega)];rfl
theorem PT l k n: -1<=wg l k n/\(0<=wg l k n↔(bQ (l.take k)).contains n=true):=by
 unfold wg uj;cases h:(l.take k).findIdx? (λi=>decide (i.Op=38)&&decide (i.Arg=n))with
 | none=>
   grind[List.findIdx?_eq_none_iff,bQ,qA]
 | some j=>
   grind[List.findIdx?_eq_some_iff_getElem,bQ,qA,List.getElem_mem]
set_option maxHeartbeats 2000000 in
theorem V6(l:List ai)(hl:l.length<=100000000000)(i:Nat)(hi:i<l.length):Pure prog 183 [dA l,iD i] (iD (ue l (l.take i) l[i])):=by
 obtain⟨⟨o,a⟩,hx⟩:∃x,l[i]=x:=⟨_,rfl⟩
 rw[hx];have TB:l[i]?=some ⟨o,a⟩:=by rw[akC hi,hx]
 have vy:=Aa l hl l.length (api _) a;have rO:=Aa l hl i (by omega) a;obtain⟨-,p2⟩:=PT l l.length a;obtain⟨-,q2⟩:=PT l i a;rw[apM]at p2;obtain⟨R,hR,hRz⟩:=Zv o;have hh:=Hq o;have hI:=nh a;have hIb:gP a=kh a:=by simp[gP,kh,bB]
 rw[hIb]at hI;have hj:=uo ⟨o,a⟩;have hR0:R.toList=[]↔o<1\/38<o:=by
  rw[<-hRz,ByteArray.toList_eq,Array.toList_eq_nil_iff];exact⟨λh=>by rw[ByteArray.size,h];rfl,Array.eq_empty_of_size_eq_zero⟩
 obtain⟨W,hW⟩:∃W,ue l (l.take i) ⟨o,a⟩=W:=⟨_,rfl⟩
 rw[hW];unfold ue at hW;generalize wg l l.length a=A at *;generalize wg l i a=B at *;generalize (bQ l).contains a=c1 at *;generalize (bQ (l.take i)).contains a=c2 at *;simp only at hj hW;generalize jmp o=j at *;generalize nj o=k at *;generalize kh a=b at *;clear hRz hIb;refine rn func183 ?_;simp[-cB,f183];intro bs;simp[-cB,hx,hi,ai.enc]
 repeat' (first
  | (with_reducible refine And.intro ?_ ?_)
  | (refine aw (λh=>?_) (λh=>?_)<;>(try simp at h)<;>(try simp[-cB,h,hx,hi,ai.enc]))
  | ((first|refine pC hj ?_|refine pC vy ?_|refine pC rO ?_|refine pC hR ?_|refine pC hh ?_|refine pC hI ?_|refine lC hj ?_|refine lC vy ?_|refine lC rO ?_|refine lC hR ?_|refine lC hh ?_|refine lC hI ?_|refine pG hj ?_|refine pG vy ?_|refine pG rO ?_|refine pG hR ?_|refine pG hh ?_|refine pG hI ?_)<;>(try simp[-cB,hx,hi,ai.enc]))
  | (with_reducible intro _))
 all_goals grind
theorem LR{w:Zl}{k:Nat}{p:ai×Nat}(h:jmp p.1.Op=false):oI w k p=nk p.1:=by
 unfold oI;split
 ·rename_i kN;unfold nk;rw[if_pos (by omega)]
 ·rw[if_neg (by rw[h];simp)]
theorem Ee{w:Zl}{k:Nat}{p:ai×Nat}(h:jmp p.1.Op=true):oI w k p=fO p.1.Op (il w p.1.Arg (k+dZ p)) p.2:=by
 unfold oI;rw[if_neg (λkN=>by rw[kN]at h;cases h),if_pos h]
theorem V7(w z:Zl)(i:Nat)(h:i<z.length):fk w 0 (z.take (i+1))=fk w 0 (z.take i)++oI w (aW (z.take i)) z[i]:=by
 rw[apI,akC h,DY];simp[fk]
theorem PU(w:Zl)(k:Nat)(p:ai×Nat):(oI w k p).length<=3:=by
 by_cases h:jmp p.1.Op=true
 ·rw[Ee h,fO,apj];have:(kg (il w p.1.Arg (k+dZ p)) p.2).length<=2:=by
   match p.2 with
   | 0=>simp[kg]
   | 1=>simp[kg]
   | n+2=>simp[kg]
  omega
 ·rw[LR (by simpa using h)];exact yA _
theorem Ht(w:Zl):∀(k:Nat) (z:Zl),(fk w k z).length<=3 *z.length
 | k,[]=>by simp[fk]
 | k,p::z=>by
   have:=Ht w (k+dZ p) z;have:=PU w k p;rw[fk,aph,apj];omega
theorem af5{o:Int}(h:jmp o=true):1<=o/\o<38:=by
 unfold jmp at h;simp only[arl,decide_eq_true_eq]at h;omega
theorem V8{l:List ai}(h:uf l [] l=0):∀i∈l,jmp i.Op=true->(bQ l).contains i.Arg=true:=by
 intro i hi hj;obtain⟨b,c,hbc⟩:=aq2 hi;have:=D2 [] l h b i c hbc;unfold ue at this;split at this
 ·omega
 ·rename_i hn;cases hc:(bQ l).contains i.Arg with
  | true=>rfl
  | false=>exact absurd ⟨hj,hc⟩ hn
theorem BT(l:List Int):∀x∈gk l,x.length=1:=by
 intro x hx;obtain⟨c,_,rfl⟩:=apf.1 hx;rfl
theorem MO(l:List ai)(hl:l.length<=1000000000):Pure prog 124 [dA l] (.bA [PK (pH l).1,iD (pH l).2]):=by
 obtain⟨c,hc⟩:∃c,pH l=c:=⟨_,rfl⟩
 have hw0:D0 l=uf l (l.take 0) (l.drop 0):=rfl;obtain⟨E,hE⟩:∃E,D0 l=E:=⟨_,rfl⟩
 rw[hE]at hw0;obtain⟨z,hz,hf,h3,_⟩:=zB (3 *l.length+1) (kH l) (Ky l) (by simp[kH];omega);rw[BQ]at hf;have nS:z.length=l.length:=by simpa using congrArg List.length hf
 have dW:=V4 l hl z hz;have H0:∀p∈z,p.2<=3:=λp hp=>(h3 p hp).1
 have fJ:=RR z (by omega) H0;rw[hf,nS]at fJ;have nv:=Fm z (l.length+1);have Gk:=Kw z (n:=l.length+1) (k:=l.length) (by omega);have abX:(yz z (l.length+1))[l.length]'(by omega)=(aW z:Int):=by
  rw[akC (by omega)]at Gk;rw[ao9 Gk,<-nS,apM]
 have wu:=hc;unfold pH at wu;rw[hE,hz]at wu;simp only at wu;rw[hc];refine rn func124 ?_;simp[-cB,f124];refine av.cJ [0,4] l.length (λi=> [(4,iD i)]) (λ_=> []) (λi=>uf l (l.take i) (l.drop i)=E) (by rfl) (by simpa using hw0.symm) ?_;intro i hi hH;rcases apg hi with au|heq
 ·have bY:aM .i64 ((i:Int)+1):=iW;have ON:=V6 l (by omega) i au;have hdr:l.drop i=l[i]::l.drop (i+1):=by rw[<-List.getElem_cons_drop]
  have xO:l.take i++ [l[i]]=l.take (i+1):=by rw[apI,akC au];rfl
  rw[hdr,uf,xO]at hH;by_cases hw:ue l (l.take i) l[i]=0
  ·rw[if_pos hw]at hH;rw[hw]at ON;simp[-cB,au];refine pC ON ?_;simp[au,bY,hH]
  ·rw[if_neg hw]at hH;rw[hH]at ON hw;rw[if_pos hw]at wu;simp[-cB,au];refine pC ON ?_;simp[au,hw,<-wu];rfl
 ·have hE0:E=0:=by
   rw[heq,apM,List.drop_length,uf]at hH;exact hH.symm
  have ob:=V8 (l:=l) (by rw[<-hE0];exact hE);have dW:=dW ob;rw[hE0]at wu;simp at wu;simp[-cB,heq];refine pC dW ?_;simp;refine pC fJ ?_;have adk:(65536:Int)<(aW z:Int)↔65536<aW z:=by omega
  by_cases hL:65536<aW z
  ·rw[if_pos hL]at wu;simp[nv,abX,hL,adk,<-wu];rfl
  ·rw[if_neg hL]at wu;simp[nv,abX,hL,adk];clear hH hE hw0 hz Gk abX;refine av.weaken (Wk.C4 (t:=8) (h:=1000) (k:=1) (ty:=5) (by rfl) (by simp[keys])) ?_;refine av.cJ [0,6,7,8,9] l.length (λi=> [(9,iD i)]) (λi=> [(1000,.row 5 1 (dd (gk (fk z 0 (z.take i)))))]) (λi=>∀p∈z.take i,(jmp p.1.Op&&decide (p.2=3))=false) (by rfl) (by simp[fk,gk]) ?_;intro j hj hJ;have nF:=Ht z 0 (z.take j);rw[apG]at nF;rcases apg hj with au|GV
   ·have yB:j<z.length:=by omega
    have bY:aM .i64 ((j:Int)+1):=iW;have Eb:l[j]=z[j].1:=by
     have:=aes (a:=z) (b:=kH l) (by rw[hf,BQ]) yB (by simp[kH];omega);rw[this];simp[kH]
    have ze:=uo z[j].1;have jV:=V7 z z j yB;have Zr:=Tz z yB;have TA:(pY z).length=l.length:=by simp[pY,nS]
    have Kz:(pY z)[j]'(by omega)=(z[j].2:Int):=(apa.1 Zr).2;have Tn:=H0 z[j] (apk yB);have M5:(jmp z[j].1.Op&&decide (z[j].2=3))=false->∀p∈z.take (j+1),(jmp p.1.Op&&decide (p.2=3))=false:=by
     intro h p hp;rcases sy (akC yB) hp with h'|rfl
     ·exact hJ p h'
     ·exact h
    cases tw:jmp z[j].1.Op with
    | false=>
      rw[tw]at ze M5;have he:=vv z[j].1;have sZ:=yA z[j].1;rw[LR tw]at jV;simp[-cB,au,Eb];refine pC ze ?_;simp[-cB,au,Eb];refine pC he ?_;simp[au,bY,jV];exact⟨⟨BT _,by omega⟩,λa b zA Sw=>by have:=M5 rfl (a,b) zA;simpa[Sw]using this⟩
    | true=>
      rw[tw]at ze M5;simp[-cB,au,Eb];refine pC ze ?_;by_cases h3:z[j].2=3
      ·simp[au,Eb,TA,Kz,h3];have yq:(z.any λp=>jmp p.1.Op&&decide (p.2=3))=true:=aqI.2 ⟨z[j],apk yB,by simp[tw,h3]⟩;rw[yq]at wu;simp at wu;rw[<-wu];exact⟨rfl,rfl⟩
      ·have YL:¬((z[j].2:Nat):Int)=3:=by omega
       have Ph:=PQ z (by omega) H0 j yB (wW _ _ (by rw[hf];have:=ob z[j].1 (by rw[<-Eb];exact apk au) tw;simpa using this));rw[hf,nS]at Ph;rw[Ee tw,<-zD z j yB]at jV;have hjp:=Zm z[j].1.Op (il z z[j].1.Arg (aW (z.take (j+1)))) z[j].2 (af5 tw) (by omega);simp[au,Eb,TA,Kz,YL];refine av.aT [Q0,Q0,Q0,Q0,Q0,Q0,Q0,Q0,Q0,Q0,Q0,Q0,Q0,Q0,Q0,none,arF] [iD (il z z[j].1.Arg (aW (z.take (j+1)))),PK (fO z[j].1.Op (il z z[j].1.Arg (aW (z.take (j+1)))) z[j].2)] aS (by kernel_rfl) ?_;simp[au,Eb,TA,Kz,YL,Ph.ok,hjp.ok,jV,bY];have tW:(fO z[j].1.Op (il z z[j].1.Arg (aW (z.take (j+1)))) z[j].2).length<=3:=by
        have:=PU z (aW (z.take j)) z[j];rw[Ee tw,<-zD z j yB]at this;exact this
       exact⟨⟨BT _,by omega⟩,λa b zA Sw=>by have:=M5 (by simp[h3]) (a,b) zA;simpa[Sw]using this⟩
   ·have ahD:(z.any λp=>jmp p.1.Op&&decide (p.2=3))=false:=by
     rw[aqt];intro p hp;rw[GV,<-nS,apM]at hJ;rw[hJ p hp];simp
    rw[ahD]at wu;simp at wu;simp[GV,<-wu];rw[<-nS,apM]
theorem Gm{t:aq}{locals:Int}{e:ax}(h:cT t locals e false=true)(hk:e.Kind=6):∃a b,e.aF=[a,b]:=by
 rw[mT,apb]at h;have h1:=h.1;simp[im,hk,fG]at h1;have hl:e.aF.length=2:=by omega
 generalize e.aF=l at hl
 match l,hl with
 | [a,b],_=>exact⟨a,b,rfl⟩
theorem zF{t:aq}{locals:Int}{e x:ax}{said:Bool}(h:cT t locals e said=true)(hx:x∈e.aF):cT t locals x false=true:=by
 rw[mT,apb,pv,apd]at h;exact h.2 x hx
def fH(r:List ai×Int):V:= .bA [.d (.sl (r.1.map ai.enc)),iD r.2]
theorem Ac(l:List ax)(hl:l.length≤2199023255488)(n:Int)(hn:0≤n∧n+2 *fp l≤1000000000)
  (ih:∀(i:Nat) (h:i<l.length) (m:Int),0<=m/\m+2 *uh l[i]<=1000000000->Pure prog 292 [.agg (l[i].enc.map .d),iD m] (fH (aX l[i] m))):
  Pure prog 298 [.d (.sl (l.map ax.enc)),iD n] (fH (aZ l n)):=by
 have iE:=λi=>yy (l.take i) (λx _ m=>lx x m) n
 have ajO:∀i,fp (l.take i)<=fp l:=λi=>by
  have:=Hp (l.take i) (l.drop i);rw[apv]at this;omega
 unfold fH;refine rn func298 ?_;simp[f298];refine av.weaken (Wk.abc (t:=6) rfl) ?_;refine av.cJ [0,1,6,7] l.length (λi=> [(1,iD (aZ (l.take i) n).2),(6,.d (.sl ((aZ (l.take i) n).1.map ai.enc))),(7,iD i)]) (λ_=> []) (λ_=>True) (by rfl) (by simp[aZ]) ?_;intro i hi _;rcases apg hi with au|rfl
 ·have bm:l[i]?=some l[i]:=akC au;have xO:List.take (i+1) l=List.take i l++ [l[i]]:=by rw[apI,bm];rfl
  have hS:=ih i au;have dH:=VT (l.take i) l[i] n;have dW:=Hp (l.take i) [l[i]];rw[<-xO]at dH dW;simp only[fp]at dW;have h0:=ajO (i+1);have h1:=iE i;have h2:=lx l[i] (aZ (l.take i) n).2;generalize hE:l[i]=x at *;generalize hM:aZ (l.take i) n=k at *;generalize hM':aZ (l.take (i+1)) n=k' at *;obtain⟨k1,k2⟩:=k;simp only at dH h1 h2;have a4:aM .i64 ((i:Int)+1):=iW;simp[au,bm,hE];have hC:=hS k2 ⟨by omega,by omega⟩;generalize aX x k2=q at *;obtain⟨q1,q2⟩:=q;unfold fH at hC;simp only at h2 dH hC;refine ay.bC rfl (hC) (by simp) rfl (by simp) rfl ?_;simp;refine ay.bC rfl (dE k1 q1 (by omega) (by omega)) (by simp) rfl (by simp) rfl ?_;simp[hM',dH,a4,au]
 ·simp
theorem Jb(t:aq)(locals:Int)(e:ax)(he:e.wf)(hb:cT t locals e false=true)(n:Int)(hn:0≤n∧n+2 *uh e≤1000000000):
  Pure prog 292 [.agg (e.enc.map .d),iD n] (fH (aX e n)):=by
 obtain⟨N,hN⟩:∃N,SizeOf.sizeOf e<N:=⟨_,aps _⟩
 induction N generalizing e n with
 | zero=>omega
 | succ N ih=>
   have hw:=(ax.qo e).1 he;have hlen:e.aF.length<=2199023255488:=by omega
   have jU:∀x∈e.aF,∀m:Int,0<=m/\m+2 *uh x<=1000000000->Pure prog 292 [.agg (x.enc.map .d),iD m] (fH (aX x m)):=λx hx m hm=>
    ih x (hw.2.2.2.2.2 _ hx) (zF hb hx) m hm (by have:=ax.qC hx;omega)
   have hz:=vN e;by_cases hk:e.Kind=6
   ·obtain⟨a,b,hA⟩:=Gm hb hk;have hSa:=jU a (by simp[hA]);have hSb:=jU b (by simp[hA]);rw[hA]at hz;simp only[fp]at hz;have ba:=lx a (n+2);have bb:=lx b (aX a (n+2)).2;have a1:aM .i64 (n+2):=iW;have a2:aM .i64 (n+1):=iW;have Ap:=λL=>(u9 n).ok L
    have rC:=λm L=>(lR m).ok L
    have lZ:=λm L=>(xl m).ok L
    have hl3:=λa b L=>(cP a b).ok L
    have ca:=hSa (n+2) ⟨by omega,by omega⟩;by_cases ho:e.Op=1
    ·rw[Fj e a b [] n hk ho hA];generalize aX a (n+2)=p at *;obtain⟨p1,p2⟩:=p;have cb:=hSb p2 ⟨by omega,by omega⟩;generalize aX b p2=q at *;obtain⟨q1,q2⟩:=q;unfold fH at ca cb⊢;simp only at ba bb ca cb⊢;refine rn func292 ?_;simp[f292,hk,ho];intro bs;simp[hA,a1];refine ay.bC rfl (ca) (by simp) rfl (by simp) rfl ?_;simp[hA,a1,a2,ho];refine ay.bC rfl (cb) (by simp) rfl (by simp) rfl ?_;simp[hA,a1,a2,ho];refine ay.bC rfl (u9 n) (by simp) rfl (by simp) rfl ?_;simp[hA,a1,a2,ho];refine ay.weaken (Wk.freeze 48 (ys:=([ai.mk 25 n]).map _) rfl) ?_;simp;refine ay.bC rfl (dE (p1) [ai.mk 25 n] (by first|omega|(simp<;>omega)) (by simp)) (by simp) rfl (by simp) rfl ?_;simp[hA,a1,a2,ho];refine ay.bC rfl (cP 1 1) (by simp) rfl (by simp) rfl ?_;simp[hA,a1,a2,ho];refine ay.bC rfl (xl (n+1)) (by simp) rfl (by simp) rfl ?_;simp[hA,a1,a2,ho];refine ay.bC rfl (lR n) (by simp) rfl (by simp) rfl ?_;simp[hA,a1,a2,ho];refine ay.weaken (Wk.freeze 60 (ys:=([ai.mk 1 1,ai.mk 24 (n+1),ai.mk 38 n]).map _) rfl) ?_;simp;refine ay.bC rfl (dE (p1++ [ai.mk 25 n]) [ai.mk 1 1,ai.mk 24 (n+1),ai.mk 38 n] (by first|omega|(simp<;>omega)) (by simp)) (by simp) rfl (by simp) rfl ?_;simp[hA,a1,a2,ho];refine ay.bC rfl (dE (p1++ [ai.mk 25 n]++ [ai.mk 1 1,ai.mk 24 (n+1),ai.mk 38 n]) q1 (by first|omega|(simp<;>omega)) (by omega)) (by simp) rfl (by simp) rfl ?_;simp[hA,a1,a2,ho];refine ay.bC rfl (cP 11 0) (by simp) rfl (by simp) rfl ?_;simp[hA,a1,a2,ho];refine ay.bC rfl (lR (n+1)) (by simp) rfl (by simp) rfl ?_;simp[hA,a1,a2,ho];refine ay.weaken (Wk.freeze 69 (ys:=([ai.mk 11 0,ai.mk 38 (n+1)]).map _) rfl) ?_;simp;refine ay.bC rfl (dE (p1++ [ai.mk 25 n]++ [ai.mk 1 1,ai.mk 24 (n+1),ai.mk 38 n]++q1) [ai.mk 11 0,ai.mk 38 (n+1)] (by first|omega|(simp<;>omega)) (by simp)) (by simp) rfl (by simp) rfl ?_;simp[hA,a1,a2,ho]
    ·by_cases iC:e.Op=2
     ·rw[BK e a b [] n hk iC hA];generalize aX a (n+2)=p at *;obtain⟨p1,p2⟩:=p;have cb:=hSb p2 ⟨by omega,by omega⟩;generalize aX b p2=q at *;obtain⟨q1,q2⟩:=q;unfold fH at ca cb⊢;simp only at ba bb ca cb⊢;refine rn func292 ?_;simp[f292,hk,iC];intro bs;simp[hA,a1];refine ay.bC rfl (ca) (by simp) rfl (by simp) rfl ?_;simp[hA,a1,a2,iC];refine ay.bC rfl (cb) (by simp) rfl (by simp) rfl ?_;simp[hA,a1,a2,iC];refine ay.bC rfl (u9 n) (by simp) rfl (by simp) rfl ?_;simp[hA,a1,a2,iC];refine ay.weaken (Wk.freeze 48 (ys:=([ai.mk 25 n]).map _) rfl) ?_;simp;refine ay.bC rfl (dE (p1) [ai.mk 25 n] (by first|omega|(simp<;>omega)) (by simp)) (by simp) rfl (by simp) rfl ?_;simp[hA,a1,a2,iC];refine ay.bC rfl (dE (p1++ [ai.mk 25 n]) q1 (by first|omega|(simp<;>omega)) (by omega)) (by simp) rfl (by simp) rfl ?_;simp[hA,a1,a2,iC];refine ay.bC rfl (cP 11 0) (by simp) rfl (by simp) rfl ?_;simp[hA,a1,a2,iC];refine ay.bC rfl (xl (n+1)) (by simp) rfl (by simp) rfl ?_;simp[hA,a1,a2,iC];refine ay.bC rfl (lR n) (by simp) rfl (by simp) rfl ?_;simp[hA,a1,a2,iC];refine ay.bC rfl (cP 1 0) (by simp) rfl (by simp) rfl ?_;simp[hA,a1,a2,iC];refine ay.bC rfl (lR (n+1)) (by simp) rfl (by simp) rfl ?_;simp[hA,a1,a2,iC];refine ay.weaken (Wk.freeze 85 (ys:=([ai.mk 11 0,ai.mk 24 (n+1),ai.mk 38 n,ai.mk 1 0,ai.mk 38 (n+1)]).map _) rfl) ?_;simp;refine ay.bC rfl (dE (p1++ [ai.mk 25 n]++q1) [ai.mk 11 0,ai.mk 24 (n+1),ai.mk 38 n,ai.mk 1 0,ai.mk 38 (n+1)] (by first|omega|(simp<;>omega)) (by simp)) (by simp) rfl (by simp) rfl ?_;simp[hA,a1,a2,iC]
     ·have hL:¬yx e:=by simp[yx,hk,ho,iC]
      rw[ui e n hL];have hz:=vN e;have bd:=yy e.aF (λx _ m=>lx x m) n;have hc:=Ac e.aF hlen n ⟨by omega,by omega⟩ (λi h m hm=>jU _ (apk h) m hm);generalize aZ e.aF n=p at *;obtain⟨p1,p2⟩:=p;unfold fH at hc⊢;simp only at bd hc⊢;refine rn func292 ?_;simp[f292,hk,ho,iC];intro bs;refine ay.bC rfl (hc) (by simp) rfl (by simp) rfl ?_;simp;refine ay.bC rfl (Zc e) (by simp) rfl (by simp) rfl ?_;simp;refine ay.weaken (Wk.freeze 98 (ys:=([dD e]).map _) rfl) ?_;simp;refine ay.bC rfl (dE p1 [dD e] (by omega) (by simp)) (by simp) rfl (by simp) rfl ?_;simp
   ·have hL:¬yx e:=by simp[yx,hk]
    rw[ui e n hL];have hz:=vN e;have bd:=yy e.aF (λx _ m=>lx x m) n;have hc:=Ac e.aF hlen n ⟨by omega,by omega⟩ (λi h m hm=>jU _ (apk h) m hm);generalize aZ e.aF n=p at *;obtain⟨p1,p2⟩:=p;unfold fH at hc⊢;simp only at bd hc⊢;refine rn func292 ?_;simp[f292,hk];intro bs;refine ay.bC rfl (hc) (by simp) rfl (by simp) rfl ?_;simp;refine ay.bC rfl (Zc e) (by simp) rfl (by simp) rfl ?_;simp;refine ay.weaken (Wk.freeze 98 (ys:=([dD e]).map _) rfl) ?_;simp;refine ay.bC rfl (dE p1 [dD e] (by omega) (by simp)) (by simp) rfl (by simp) rfl ?_;simp
theorem V9{t:aq}{locals:Int}{e:ax}(h:cT t locals e true=true)(h1:e.Kind≠19)(h2:e.Kind≠13):cT t locals e false=true:=by
 rw[mT]at h⊢;simpa[im,h1,h2]using h
@[simp] theorem an.Ts(k n:Int)(s:ByteArray)(a:List ax)(b c:List an):(an.mk k n s a b c).Kind=k:=rfl
@[simp] theorem an.af1(k n:Int)(s:ByteArray)(a:List ax)(b c:List an):(an.mk k n s a b c).aK=n:=rfl
@[simp] theorem an.aek(k n:Int)(s:ByteArray)(a:List ax)(b c:List an):(an.mk k n s a b c).Name=s:=rfl
@[simp] theorem an.Tr(k n:Int)(s:ByteArray)(a:List ax)(b c:List an):(an.mk k n s a b c).aF=a:=rfl
@[simp] theorem an.aet(k n:Int)(s:ByteArray)(a:List ax)(b c:List an):(an.mk k n s a b c).Body=b:=rfl
@[simp] theorem an.aeu(k n:Int)(s:ByteArray)(a:List ax)(b c:List an):(an.mk k n s a b c).bW=c:=rfl
theorem an.rf(s:an):SizeOf.sizeOf s.Body<SizeOf.sizeOf s:=by
 cases s;simp only[an.aet,an.mk.sizeOf_spec];omega
theorem an.rh(s:an):SizeOf.sizeOf s.bW<SizeOf.sizeOf s:=by
 cases s;simp only[an.aeu,an.mk.sizeOf_spec];omega
mutual
def AQ:an->Nat
 | .mk _ _ _ a b c=>1+fp a+iJ b+iJ c
def iJ:List an->Nat
 | []=>0
 | s::l=>AQ s+iJ l
end
theorem uq(s:an):AQ s=1+fp s.aF+iJ s.Body+iJ s.bW:=by cases s;rw[AQ];rfl
set_option maxHeartbeats 4000000
set_option maxRecDepth 40000
def rM(s:an)(named:Bool)(args:Int)(body other:Bool):Bool:=
 decide ((s.aF.length:Int)=args)&&(body||decide (s.Body.length=0))&&(other||decide (s.bW.length=0))&&(named||(s.Name.toList.isEmpty&&decide (s.aK=0)))
def jH(s:an):Bool×Bool:=
 if s.Kind=1 then(rM s false s.aF.length false false&&eF s.aF.length 1 8,false)
 else if s.Kind=2\/s.Kind=3\/s.Kind=5\/s.Kind=6\/s.Kind=17\/s.Kind=23 then(rM s true 1 false false,true)
 else if s.Kind=4 then(rM s true 2 false false,true)
 else if s.Kind=7 then(rM s false 2 false false,false)
 else if s.Kind=8\/s.Kind=12\/s.Kind=16\/s.Kind=20\/s.Kind=22\/s.Kind=19 then(rM s false 1 false false,false)
 else if s.Kind=9 then(rM s false 1 true true,false)
 else if s.Kind=10 then(rM s false 1 true false,false)
 else if s.Kind=11 then(rM s true 1 true false,true)
 else if s.Kind=18 then(rM s true 0 false false,true)
 else if s.Kind=13\/s.Kind=14\/s.Kind=15\/s.Kind=21 then(rM s false 0 false false,false)
 else(false,false)
def oW(t:aq)(s:an)(locals:Int):Bool:=
 if s.Name.toList.isEmpty then
  if s.Kind=2\/s.Kind=3 then decide (0<=s.aK)&&decide (s.aK<locals)
  else if s.Kind=11 then decide (0<=s.aK)&&decide (s.aK<locals-1)&&decide (1<locals)
  else if s.Kind=23 then eF s.aK 0 (t.aP.length-1)
  else if s.Kind=4 then eF s.aK 0 (t.aJ.length-1)
  else if s.Kind=5\/s.Kind=6 then decide (0<=s.aK)&&decide (s.aK<t.Flags)
  else if s.Kind=17\/s.Kind=18 then eF s.aK 0 (t.eA.length-1)
  else true
 else false
theorem PV(s:an)(named:Bool)(args:Int)(body other:Bool):Pure prog 230 [.agg (s.enc.map .d),oD named,iD args,oD body,oD other] (oD (rM s named args body other)):=by
 refine rn func230 ?_;simp[f230];refine⟨?_,?_,?_,?_,?_⟩
 any_goals (simp+contextual;done)
 have e:s.Name.toList.isEmpty=decide (s.Name.toList=[]):=by cases s.Name.toList<;>simp
 rw[rM,e,show decide (s.aK=0)=(s.aK==0)from rfl];simp
theorem abY(s:an):Pure prog 180 [.agg (s.enc.map .d)] (.bA [oD (jH s).1,oD (jH s).2]):=by
 refine rn func180 ?_;simp[-cB,f180]
 repeat' (first
  | (with_reducible refine And.intro ?_ ?_)
  | ((first|(refine aw (λh=>?_) (λh=>?_)<;>(try simp at h))|refine pC (PV s _ _ _ _) ?_|refine pC (qD _ _ _) ?_|refine lC (PV s _ _ _ _) ?_|refine lC (qD _ _ _) ?_|refine pG (PV s _ _ _ _) ?_|refine pG (qD _ _ _) ?_)<;>(try simp[-cB, *]))
  | (with_reducible intro _))
 all_goals first|(simp[jH, *];done)|skip
theorem Zx(t:aq)(s:an)(hk:s.Kind=11)(hn:s.Name.toList=[]):Pure prog 181 [.agg (t.enc.map .d),.agg (s.enc.map .d),iD (-9223372036854775808)] (oD false):=by
 refine Pure.JS func181 rfl (by simp[f181]) ?_;refine av.gW ?_;simp[f181];intro bs;refine av.gW ?_;simp[hn];refine av.seq (av.gW ?_);simp[hk];refine av.block (av.gW ?_);simp;refine av.cond rfl (λh=>by simp at h) (λ_=>?_);refine av.gW ?_;simp;refine av.cond rfl (λ_=>?_) (λh=>by simp at h);refine av.seq (av.aed (ay.stop 7 [] (by rfl) ?_));simp;refine ay.ajm (a:= -9223372036854775808) (b:=1) rfl (by rfl) (by simp) (by simp) (by simp) ?_;refine bq _ _ [] (by rfl) ?_;simp;refine av.ret ?_;simp
theorem Hu(t:aq)(ht:t.wf)(s:an)(locals:Int)(hl:aM .i64 locals):Pure prog 181 [.agg (t.enc.map .d),.agg (s.enc.map .d),iD locals] (oD (oW t s locals)):=by
 have b1:=aq.ow ht;have b2:=aq.ou ht;have b3:=aq.Bq ht;by_cases hm:(s.Kind=11/\s.Name.toList=[])/\locals= -9223372036854775808
 ·obtain⟨⟨hk,hn⟩,rfl⟩:=hm;exact(Zx t s hk hn).eq rfl (by simp[oW,hk,hn])
 have jn:s.Kind=11->s.Name.toList=[]->aM .i64 (locals-1):=λh1 h2=>by
  rw[aU]at hl⊢;have:¬locals= -9223372036854775808:=λh=>hm ⟨⟨h1,h2⟩,h⟩
  omega
 clear hm;refine rn func181 ?_;simp[-cB,f181]
 repeat' (first
  | (with_reducible refine And.intro ?_ ?_)
  | ((first|(refine aw (λh=>?_) (λh=>?_)<;>(try simp at h))|refine pC (qD _ _ _) ?_|refine lC (qD _ _ _) ?_|refine pG (qD _ _ _) ?_)<;>(try simp[-cB, *]))
  | (with_reducible intro _))
 all_goals first|assumption|(exact jn (by assumption) (by assumption))|(rw[aU];omega)|(simp[oW, *];done)|skip
def jO(a b:Int):Int:=if b<a then a else b
theorem Jc(a b:Int):Pure prog 228 [iD a,iD b] (iD (jO a b)):=by
 refine rn func228 ?_;simp[-cB,f228]
 repeat' (first
  | (with_reducible refine And.intro ?_ ?_)
  | (refine aw (λh=>?_) (λh=>?_)<;>(try simp at h)<;>(try simp[-cB, *]))
  | (with_reducible intro _))
 all_goals simp[jO, *]<;>omega
mutual
def M6:an->Int->Int->Int
 | .mk _ _ _ a b c,m,n=>jO (fA a m n) (jO (if b.isEmpty then 0 else(if 1<m then kR b (m-1) 0 else 0)+1) (if c.isEmpty then 0 else(if 1<m then kR c (m-1) 0 else 0)+1))
def kR:List an->Int->Int->Int
 | [],_,n=>n
 | s::l,m,n=>kR l m (M6 s m n)
end
def jS(l:List an)(m:Int):Int:=if l.isEmpty then 0 else(if 1<m then kR l (m-1) 0 else 0)+1
theorem Hv(s:an)(m n:Int):M6 s m n=jO (fA s.aF m n) (jO (jS s.Body m) (jS s.bW m)):=by cases s;rw[M6];rfl
theorem RS(l:List an)(s:an)(m n:Int):kR (l++ [s]) m n=M6 s m (kR l m n):=by
 induction l generalizing n with
 | nil=>simp only[apK,kR]
 | cons x l ih=>simp only[apm,kR];exact ih _
theorem Zy:∀(N:Nat) (l:List an),SizeOf.sizeOf l<N->∀m n:Int,1<=m->0<=n->n<=m->0<=kR l m n/\kR l m n<=m:=by
 intro N
 induction N with
 | zero=>intro l h;omega
 | succ N ih=>
   intro l h m n h1 h2 h3;cases l with
   | nil=>rw[kR];omega
   | cons s l=>
     rw[kR];have hs:SizeOf.sizeOf s<N:=by simp only[apU]at h;omega
     have hb:=an.rf s;have he:=an.rh s;have hB:∀l':List an,SizeOf.sizeOf l'<N->0<=jS l' m/\jS l' m<=m:=λl' hl=>by
      unfold jS;split
      ·omega
      ·split
       ·have:=ih l' hl (m-1) 0 (by omega) (by omega) (by omega);omega
       ·omega
     have b1:=hB s.Body (by omega);have b2:=hB s.bW (by omega);have b3:=LL s.aF m n h1 h2 h3;refine ih l (by simp only[apU]at h;omega) m _ h1 ?_ ?_
     ·rw[Hv];unfold jO;repeat' split
      all_goals omega
     ·rw[Hv];unfold jO;repeat' split
      all_goals omega
theorem Wa(l:List ax)(x:ax)(m n:Int):fA (l++ [x]) m n=jO (fA l m n) (ug x m):=by
 rw[Gh];unfold jO;split<;>split<;>omega
theorem abZ(l:List an)(hl:∀s∈l,s.wf)(hlen:l.length *104<=140737488351232)(m:Int)(hm:1<=m/\m<=1000000000000):Pure prog 179 [.d (.sl (l.map an.enc)),iD m] (iD (jS l m)):=by
 obtain⟨n,hn⟩:∃n,SizeOf.sizeOf l<n:=⟨_,aps _⟩
 induction n generalizing l m with
 | zero=>omega
 | succ n ih=>
   have jU:∀s∈l,(∀m,1≤m∧m≤1000000000000→Pure prog 179 [.d (.sl (s.Body.map an.enc)),iD m] (iD (jS s.Body m)))∧
     (∀m,1<=m/\m<=1000000000000->Pure prog 179 [.d (.sl (s.bW.map an.enc)),iD m] (iD (jS s.bW m))):=by
    intro s hs;have hw:=hl s hs;have h1:=apP hs;have h2:=an.rf s;have h3:=an.rh s;exact⟨λm hm=>ih s.Body (an.E7 hw) (an.E6 hw) m hm (by omega),λm hm=>ih s.bW (an.E9 hw) (an.E8 hw) m hm (by omega)⟩
   by_cases hE:l=[]
   ·subst hE;refine rn func179 ?_;simp[f179];rfl
   have hD:jS l m=(if 1<m then kR l (m-1) 0 else 0)+1:=by unfold jS;simp[hE]
   rw[hD];have hG:=λa b L=>(Jc a b).ok L
   have hBd:=λpre=>Zy _ pre (aps _) (m-1) 0
   refine rn func179 ?_;simp[f179];simp[hE];refine⟨λh1=>?_,λh1=>?_⟩
   ·refine av.fh [1,5,15,16,17] l (λpre=> [(5,iD (kR pre (m-1) 0)),(17,iD pre.length)]) (λ_=> []) (λ_=>True) (by rfl) (by omega) (by simp[kR]) ?_ ?_
    ·rintro pre s post bu-au bm a4;have hS:=jU s (by rw[bu];simp);have Zz:=hl s (by rw[bu];simp);have hwa:=an.J6 Zz;have dH:=RS pre s (m-1) 0;rw[Hv]at dH;have hb:=hBd pre (by omega) (by omega) (by omega);generalize kR pre (m-1) 0=v at *;simp[au,bm];intro bs;refine av.fh [1,5,7,15,16,17,22,23,24] s.aF (λpre=> [(5,iD (fA pre (m-1) v)),(24,iD pre.length)]) (λ_=> []) (λ_=>True) (by rfl) (by omega) (by simp[fA]) ?_ ?_
     ·rintro Wb e adl zO-nN sI b4;have afO:=Wa Wb e (m-1) v;have a1:aM .i64 (m-1):=iW;have TC:=an.xf Zz e (by rw[zO];simp);simp[nN,sI,a1];intro bL;refine ay.bC rfl (ael e TC (m-1) ⟨by omega,by omega⟩) (by simp) rfl (by simp) rfl ?_;simp;refine pC (Jc _ _) ?_;simp[b4,afO]
     ·intro _;have c1:=(hS.1 (m-1) ⟨by omega,by omega⟩).ok;have c2:=(hS.2 (m-1) ⟨by omega,by omega⟩).ok;have a1:aM .i64 (m-1):=iW;simp;refine av.bT [iD (jS s.Body (m-1)),iD (jS s.bW (m-1)),iD (jO (jS s.Body (m-1)) (jS s.bW (m-1))),iD (jO (fA s.aF (m-1) v) (jO (jS s.Body (m-1)) (jS s.bW (m-1))))] aS (by kernel_rfl) (by rfl) ?_;simp[c1,c2,a1,a4,hG,dH]
    ·intro _;have hb:=hBd l (by omega) (by omega) (by omega);simp[h1];rw[aU];omega
   ·rw[if_neg (by omega)];exact⟨iW,rfl⟩
theorem Ef(l:List an)(hl:∀s∈l,s.wf)(hlen:l.length *104<=140737488351232):Pure prog 122 [.d (.sl (l.map an.enc))] (iD (jS l 65)):=by
 refine rn func122 ?_;simp[f122];refine ay.bC rfl (abZ l hl hlen 65 (by omega)) (by simp) rfl (by simp) rfl ?_;simp
def Fo(s:an):Bool:=decide ((s.aF[0]?.getD ax.zero).Kind=18)
mutual
def eJ(t:aq)(locals:Int):an->Bool
 | .mk k n nm a b c=>(jH (.mk k n nm a b c)).1&&oW t (.mk k n nm a b c) locals&&(decide (k≠19)||Fo (.mk k n nm a b c))&&(a.all λx=>cT t locals x (decide (k=1)))&&(pw t locals b&&decide (b.length<=256))&&(pw t locals c&&decide (c.length<=256))
def pw(t:aq)(locals:Int):List an->Bool
 | []=>true
 | s::l=>eJ t locals s&&pw t locals l
end
def iq(t:aq)(locals:Int)(l:List an):Bool:=pw t locals l&&decide (l.length<=256)
theorem zG(t:aq)(locals:Int)(s:an):eJ t locals s=((jH s).1&&oW t s locals&&(decide (s.Kind≠19)||Fo s)&&(s.aF.all λx=>cT t locals x (decide (s.Kind=1)))&&iq t locals s.Body&&iq t locals s.bW):=by cases s;rw[eJ];rfl
theorem np(t:aq)(locals:Int)(l:List an):pw t locals l=l.all λs=>eJ t locals s:=by
 induction l with
 | nil=>rw[pw];rfl
 | cons s l ih=>rw[pw,ih];rfl
theorem Wc{s:an}(h:(jH s).1=true)(hk:s.Kind=19):∃x,s.aF=[x]:=by
 simp[jH,hk,rM]at h;have hl:s.aF.length=1:=by omega
 generalize s.aF=l at hl
 match l,hl with
 | [x],_=>exact⟨x,rfl⟩
theorem Eg(t:aq)(ht:t.wf)(locals:Int)(jn:aM .i64 locals)(l:List an)(hl:∀s∈l,s.wf)(hlen:l.length *104<=140737488351232):Pure prog 123 [.agg (t.enc.map .d),.d (.sl (l.map an.enc)),iD locals] (oD (iq t locals l)):=by
 obtain⟨n,hn⟩:∃n,SizeOf.sizeOf l<n:=⟨_,aps _⟩
 induction n generalizing l with
 | zero=>omega
 | succ n ih=>
   have jU:∀s∈l,Pure prog 123 [.agg (t.enc.map .d),.d (.sl (s.Body.map an.enc)),iD locals] (oD (iq t locals s.Body))∧
     Pure prog 123 [.agg (t.enc.map .d),.d (.sl (s.bW.map an.enc)),iD locals] (oD (iq t locals s.bW)):=by
    intro s hs;have hw:=hl s hs;have h1:=apP hs;have h2:=an.rf s;have h3:=an.rh s;exact⟨ih s.Body (an.E7 hw) (an.E6 hw) (by omega),ih s.bW (an.E9 hw) (an.E8 hw) (by omega)⟩
   refine rn func123 ?_;simp[f123];intro bs0;refine av.fh [1,2,3,13,14,15] l (λpre=> [(15,iD pre.length)]) (λ_=> []) (λpre=>pw t locals pre=true) (by rfl) (by omega) (by simp[pw]) ?_ ?_
   ·rintro pre s post bu sK au bm a4;have iU:eJ t locals s=false->iq t locals l=false:=λh=>by
     unfold iq;rw[np,bu];simp[h]
    have pI:eJ t locals s=true->pw t locals (pre++ [s])=true:=λh=>by
     rw[np]at sK⊢;rw[arp,sK];simp[h]
    have hS:=jU s (by rw[bu];simp);have Zz:=hl s (by rw[bu];simp);have hwa:=an.J6 Zz;rw[zG]at iU pI;have pS:(jH s).1=true->s.Kind=19->0<s.aF.length:=λh1 h2=>by obtain⟨x,hx⟩:=Wc h1 h2;simp[hx]
    have KA:=bu.symm;clear ih jU hlen hn bu;simp[-cB,au,bm];intro bs;refine pC (abY s) ?_;simp[-cB]
    repeat' (first
     | (with_reducible refine And.intro ?_ ?_)
     | ((first|(refine aw (λh=>?_) (λh=>?_)<;>(try simp at h))|refine pC (Hu t ht s locals jn) ?_|refine lC (Hu t ht s locals jn) ?_|refine pG (Hu t ht s locals jn) ?_)<;>(try simp[-cB, *]))
     | (with_reducible intro _))
    all_goals first|assumption|(exact pS (by assumption) (by assumption))|(apply iU;rcases h with(h|h)|⟨h1,h2⟩<;>simp[Fo, *];done)|skip
    have hS1:=hS.1.ok;have hS2:=hS.2.ok;refine av.fh [1,2,3,8,13,14,15,47,48,49] s.aF (λpre=> [(49,iD pre.length)]) (λ_=> []) (λpre=>(pre.all λx=>cT t locals x (decide (s.Kind=1)))=true) (by rfl) (by omega) (by simp) ?_ ?_
    ·rintro Wb e adl zO ahE nN sI b4;have TC:=an.xf Zz e (by rw[zO];simp);have ajP:cT t locals e (decide (s.Kind=1))=false->iq t locals l=false:=λh=>by
      apply iU;rw[zO];simp[h]
     clear zO iU pI KA h;simp[-cB,nN,sI];intro bL;refine pC (zC t ht locals e TC _) ?_;simp[-cB]
     repeat' (first
      | (with_reducible refine And.intro ?_ ?_)
      | ((first|(refine aw (λh=>?_) (λh=>?_)<;>(try simp at h))|refine pC (zC t ht locals e TC _) ?_|refine lC (zC t ht locals e TC _) ?_|refine pG (zC t ht locals e TC _) ?_)<;>(try simp[-cB, *]))
      | (with_reducible intro _))
     all_goals first
      | exact ajP h
      | (rename_i y hy
         rcases hy with hy|rfl
         ·exact apd.1 ahE y hy
         ·exact h)
    ·intro bS;clear KA;simp[-cB]
     repeat' (first
      | (with_reducible refine And.intro ?_ ?_)
      | ((first|(refine aw (λh=>?_) (λh=>?_)<;>(try simp at h))|refine pC hS.1 ?_|refine pC hS.2 ?_|refine lC hS.1 ?_|refine lC hS.2 ?_|refine pG hS.1 ?_|refine pG hS.2 ?_)<;>(try simp[-cB, *]))
      | (with_reducible intro _))
     ·apply iU;rcases h with h|h<;>simp[h]
     ·rename_i h';apply pI;obtain⟨⟨h1,h2⟩,h3⟩:=h';have h4:(decide (s.Kind≠19)||Fo s)=true:=by
       by_cases hk:s.Kind=19
       ·simp[Fo,h3 hk]
       ·simp[hk]
      rw[h1,h2,h4,bS,h.1,h.2];rfl
   ·intro sK;simp[iq,sK];omega
theorem PW(t:aq)(ht:t.wf)(locals:Int)(jn:aM .i64 locals)(l:List an)(hl:∀s∈l,s.wf)(hlen:l.length *104<=140737488351232):Pure prog 60 [.agg (t.enc.map .d),.d (.sl (l.map an.enc)),iD locals] (oD (decide (jS l 65<=32)&&iq t locals l)):=by
 refine rn func60 ?_;simp[-cB,f60];intro bs
 repeat' (first
  | (with_reducible refine And.intro ?_ ?_)
  | ((first|(refine aw (λh=>?_) (λh=>?_)<;>(try simp at h))|refine pC (Ef l hl hlen) ?_|refine pC (Eg t ht locals jn l hl hlen) ?_|refine lC (Ef l hl hlen) ?_|refine lC (Eg t ht locals jn l hl hlen) ?_|refine pG (Ef l hl hlen) ?_|refine pG (Eg t ht locals jn l hl hlen) ?_)<;>(try simp[-cB, *]))
  | (with_reducible intro _))
def hU(x:ax)(n:Int):List ai×Int:=
 if x.Kind=19 then([⟨21,x.aK⟩],n)else if x.Kind=13 then((aZ x.aF n).1++ [⟨23,0⟩],(aZ x.aF n).2)else((aX x n).1++ [⟨22,0⟩],(aX x n).2)
def df:List ax->Int->List ai×Int
 | [],n=>([],n)
 | x::l,n=>((hU x n).1++(df l (hU x n).2).1,(df l (hU x n).2).2)
def gQ(k num:Int):ai:=
 if k=2\/k=3 then⟨6,num⟩else if k=23 then⟨4,num⟩else if k=4 then⟨14,num⟩else if k=5 then⟨15,num⟩else if k=6 then⟨16,num⟩else if k=17 then⟨32,num⟩else if k=18 then⟨33,num⟩
 else if k=7 then⟨17,0⟩else if k=8 then⟨18,0⟩else if k=12 then⟨27,0⟩else if k=13 then⟨28,0⟩else if k=14 then⟨29,0⟩else if k=15 then⟨30,0⟩else if k=16 then⟨31,0⟩
 else if k=20 then⟨34,0⟩else if k=21 then⟨35,0⟩else if k=22 then⟨36,0⟩else⟨2,0⟩
def tick:ai:=⟨37,0⟩
mutual
def dy:an->Int->List ai×Int
 | .mk k num _ a b c,n=>
   if k=9 then
    (if c.isEmpty then([tick]++(aZ a (n+1)).1++ [⟨25,n⟩]++(bl b (aZ a (n+1)).2).1++ [⟨38,n⟩],(bl b (aZ a (n+1)).2).2)
     else([tick]++(aZ a (n+2)).1++ [⟨25,n⟩]++(bl b (aZ a (n+2)).2).1++ [⟨24,n+1⟩,⟨38,n⟩]++(bl c (bl b (aZ a (n+2)).2).2).1++ [⟨38,n+1⟩],(bl c (bl b (aZ a (n+2)).2).2).2))
   else if k=10 then([⟨38,n⟩,tick]++(aZ a (n+2)).1++ [⟨25,n+1⟩]++(bl b (aZ a (n+2)).2).1++ [⟨24,n⟩,⟨38,n+1⟩],(bl b (aZ a (n+2)).2).2)
   else if k=11 then([tick]++(aZ a (n+2)).1++ [⟨19,2⟩,⟨6,num⟩,⟨38,n⟩,⟨5,num⟩,⟨25,n+1⟩,tick]++ [⟨5,num⟩,⟨19,3⟩,⟨6,num+1⟩]++(bl b (aZ a (n+2)).2).1++ [⟨5,num+1⟩,⟨6,num⟩,⟨24,n⟩,⟨38,n+1⟩],(bl b (aZ a (n+2)).2).2)
   else if k=1 then([tick]++(df a n).1,(df a n).2)
   else([tick]++(aZ a n).1++ [gQ k num],(aZ a n).2)
def bl:List an->Int->List ai×Int
 | [],n=>([],n)
 | s::l,n=>((dy s n).1++(bl l (dy s n).2).1,(bl l (dy s n).2).2)
end
theorem BU(s:an)(n:Int)(hk:s.Kind=9)(he:s.bW=[]):dy s n=([tick]++(aZ s.aF (n+1)).1++ [⟨25,n⟩]++(bl s.Body (aZ s.aF (n+1)).2).1++ [⟨38,n⟩],(bl s.Body (aZ s.aF (n+1)).2).2):=by
 cases s;cases hk;cases he;rw[dy];rfl
theorem BV(s:an)(n:Int)(hk:s.Kind=9)(he:s.bW≠ []):dy s n=([tick]++(aZ s.aF (n+2)).1++ [⟨25,n⟩]++(bl s.Body (aZ s.aF (n+2)).2).1++ [⟨24,n+1⟩,⟨38,n⟩]++(bl s.bW (bl s.Body (aZ s.aF (n+2)).2).2).1++ [⟨38,n+1⟩],(bl s.bW (bl s.Body (aZ s.aF (n+2)).2).2).2):=by
 cases s with
 | mk k num nm a b c=>
   cases hk;rw[dy];have:c.isEmpty=false:=by cases c with|nil=>exact(he rfl).elim|cons x l=>rfl
   simp[this]
theorem wX(s:an)(n:Int)(hk:s.Kind=10):dy s n=([⟨38,n⟩,tick]++(aZ s.aF (n+2)).1++ [⟨25,n+1⟩]++(bl s.Body (aZ s.aF (n+2)).2).1++ [⟨24,n⟩,⟨38,n+1⟩],(bl s.Body (aZ s.aF (n+2)).2).2):=by
 cases s;cases hk;rw[dy];rfl
theorem zH(s:an)(n:Int)(hk:s.Kind=11):dy s n=([tick]++(aZ s.aF (n+2)).1++ [⟨19,2⟩,⟨6,s.aK⟩,⟨38,n⟩,⟨5,s.aK⟩,⟨25,n+1⟩,tick]++ [⟨5,s.aK⟩,⟨19,3⟩,⟨6,s.aK+1⟩]++(bl s.Body (aZ s.aF (n+2)).2).1++ [⟨5,s.aK+1⟩,⟨6,s.aK⟩,⟨24,n⟩,⟨38,n+1⟩],(bl s.Body (aZ s.aF (n+2)).2).2):=by
 cases s;cases hk;rw[dy];rfl
theorem yC(s:an)(n:Int)(hk:s.Kind=1):dy s n=([tick]++(df s.aF n).1,(df s.aF n).2):=by
 cases s;cases hk;rw[dy];rfl
theorem wY(s:an)(n:Int)(h1:s.Kind≠9)(h2:s.Kind≠10)(h3:s.Kind≠11)(h4:s.Kind≠1):dy s n=([tick]++(aZ s.aF n).1++ [gQ s.Kind s.aK],(aZ s.aF n).2):=by
 cases s with
 | mk k num nm a b c=>
   rw[dy.eq_def];simp only[an.Ts]at h1 h2 h3 h4;simp[h1,h2,h3,h4]
theorem ZA(l:List an)(x:an)(m:Int):bl (l++ [x]) m=((bl l m).1++(dy x (bl l m).2).1,(dy x (bl l m).2).2):=by
 induction l generalizing m with
 | nil=>simp[bl]
 | cons y l ih=>simp[bl,ih]
theorem RT(l:List ax)(x:ax)(m:Int):df (l++ [x]) m=((df l m).1++(hU x (df l m).2).1,(hU x (df l m).2).2):=by
 induction l generalizing m with
 | nil=>simp[df]
 | cons y l ih=>simp[df,ih]
theorem aev(l r:List an):iJ (l++r)=iJ l+iJ r:=by
 induction l with
 | nil=>simp[iJ]
 | cons x l ih=>simp only[apm,iJ,ih];omega
theorem qG(l:List ax)(m:Int):m<=(aZ l m).2/\(aZ l m).2<=m+2 *fp l/\(aZ l m).1.length<=6 *fp l:=yy l (λx _ m=>lx x m) m
theorem TD(x:ax)(m:Int):m<=(hU x m).2/\(hU x m).2<=m+2 *uh x/\(hU x m).1.length<=7 *uh x:=by
 have h1:=qG x.aF m;have h2:=lx x m;have h3:=vN x;unfold hU;split
 ·simp only[apj,apC];omega
 ·split
  ·simp only[aph,apj,apC];omega
  ·simp only[aph,apj,apC];omega
theorem Eh(l:List ax)(m:Int):m<=(df l m).2/\(df l m).2<=m+2 *fp l/\(df l m).1.length<=7 *fp l:=by
 induction l generalizing m with
 | nil=>simp[df,fp]
 | cons x l ih=>
   have h1:=TD x m;have h2:=ih (hU x m).2;rw[df,fp,aph];omega
theorem aew:∀(N:Nat) (l:List an),SizeOf.sizeOf l<N->∀m:Int,m<=(bl l m).2/\(bl l m).2<=m+2 *iJ l/\(bl l m).1.length<=16 *iJ l:=by
 intro N
 induction N with
 | zero=>intro l h;omega
 | succ N ih=>
   intro l h m;cases l with
   | nil=>simp[bl,iJ]
   | cons s l=>
     have hl:SizeOf.sizeOf l<N:=by simp only[apU]at h;omega
     have hs:SizeOf.sizeOf s<N:=by simp only[apU]at h;omega
     have hb:=an.rf s;have he:=an.rh s;rw[bl,iJ,uq,aph];have h2:=ih l hl (dy s m).2;have key:m<=(dy s m).2/\(dy s m).2<=m+2 *(1+fp s.aF+iJ s.Body+iJ s.bW)/\(dy s m).1.length<=16 *(1+fp s.aF+iJ s.Body+iJ s.bW):=by
      by_cases k9:s.Kind=9
      ·by_cases ru:s.bW=[]
       ·rw[BU s m k9 ru];have a1:=qG s.aF (m+1);have a2:=ih s.Body (by omega) (aZ s.aF (m+1)).2;simp only[aph,apj,apC];omega
       ·rw[BV s m k9 ru];have a1:=qG s.aF (m+2);have a2:=ih s.Body (by omega) (aZ s.aF (m+2)).2;have a3:=ih s.bW (by omega) (bl s.Body (aZ s.aF (m+2)).2).2;simp only[aph,apj,apC];omega
      by_cases s7:s.Kind=10
      ·rw[wX s m s7];have a1:=qG s.aF (m+2);have a2:=ih s.Body (by omega) (aZ s.aF (m+2)).2;simp only[aph,apj,apC];omega
      by_cases ur:s.Kind=11
      ·rw[zH s m ur];have a1:=qG s.aF (m+2);have a2:=ih s.Body (by omega) (aZ s.aF (m+2)).2;simp only[aph,apj,apC];omega
      by_cases k1:s.Kind=1
      ·rw[yC s m k1];have a1:=Eh s.aF m;simp only[aph,apj,apC];omega
      ·rw[wY s m k9 s7 ur k1];have a1:=qG s.aF m;simp only[aph,apj,apC];omega
     omega
theorem nq(l:List an)(m:Int):m<=(bl l m).2/\(bl l m).2<=m+2 *iJ l/\(bl l m).1.length<=16 *iJ l:=aew _ l (aps _) m
theorem aex(s:an)(m:Int):m<=(dy s m).2/\(dy s m).2<=m+2 *AQ s/\(dy s m).1.length<=16 *AQ s:=by
 have:=nq [s] m;simpa[bl,iJ]using this
theorem aey(s:an):Pure prog 299 [.agg (s.enc.map .d)] (.agg ((gQ s.Kind s.aK).enc.map .d)):=by
 refine rn func299 ?_;simp[-cB,f299];intro bs
 repeat' (first
  | (with_reducible refine And.intro ?_ ?_)
  | ((first|(refine aw (λh=>?_) (λh=>?_)<;>(try simp at h))|refine pC (cP _ _) ?_|refine lC (cP _ _) ?_|refine pG (cP _ _) ?_)<;>(try simp[-cB, *]))
  | (with_reducible intro _))
 all_goals simp[gQ, *]
theorem PX(a b:List ai)(ha:a.length<=1000000000000)(hb:b.length<=1000000000000):aE prog 191 [.d (.sl (a.map ai.enc)),.d (.sl (b.map ai.enc))] [] (λr L=>r= .ret (.rv 5)/\L=[(5,.row 84 2 (dd ((a++b).map ai.enc)))]):=by
 refine aE.run func191 rfl (by simp[f191]) ?_;simp[f191];omega
theorem yD(x:ax)(m:Int):aZ [x] m=aX x m:=by
 simp[aZ]
theorem RU{t:aq}{locals:Int}{e:ax}(h:cT t locals e true=true)(hk:e.Kind=13):∃a,e.aF=[a]:=by
 rw[mT,apb]at h;have h1:=h.1;simp[im,hk,fG]at h1;have hl:e.aF.length=1:=by omega
 generalize e.aF=l at hl
 match l,hl with
 | [a],_=>exact⟨a,rfl⟩
theorem ZB(t:aq)(locals:Int)(l:List ax)(hl:∀x∈l,x.wf)(hb:∀x∈l,cT t locals x true=true)(hlen:l.length≤1000000000000000)(n:Int)(hn:0≤n∧n+2 *fp l≤1000000000):
  Pure prog 297 [.d (.sl (l.map ax.enc)),iD n] (fH (df l n)):=by
 unfold fH;refine rn func297 ?_;simp[-cB,f297];refine av.weaken (Wk.C4 (t:=6) (h:=5) (k:=2) (ty:=84) rfl (by simp)) ?_;refine av.fh [0,1,6,7] l (λpre=> [(1,iD (df pre n).2),(7,iD pre.length)]) (λpre=> [(5,.row 84 2 (dd ((df pre n).1.map ai.enc)))]) (λ_=>True) (by rfl) (by omega) (by simp[df]) ?_ ?_
 ·rintro pre x post bu-au bm a4;have hw:=hl x (by rw[bu];simp);have gS:=hb x (by rw[bu];simp);have dH:=RT pre x n;have dW:fp pre+uh x<=fp l:=by rw[bu,Hp];simp only[fp];omega
  have b1:=Eh pre n;have b2:=TD x (df pre n).2;clear bu;generalize df pre n=k at *;obtain⟨k1,k2⟩:=k;simp only at dH b1 b2⊢;have hz:=vN x;by_cases nt:x.Kind=19
  ·have hI:hU x k2=([⟨21,x.aK⟩],k2):=by simp[hU,nt]
   rw[hI]at dH;simp[au,bm,nt];refine pC (cP _ _) ?_;simp[bm,dH,a4];omega
  ·have hE:∃y,(∀m,hU x m=((aX y m).1++ [⟨if x.Kind=13 then 23 else 22,0⟩],(aX y m).2))/\cT t locals y false=true/\y.wf/\uh y<=uh x/\(if x.Kind=13 then x.aF=[y]else y=x):=by
    by_cases gK:x.Kind=13
    ·obtain⟨y,hy⟩:=RU gS gK;refine⟨y,λm=>by simp[hU,gK,hy,yD],zF gS (by simp[hy]),ax.xf hw y (by simp[hy]),?_,by simp[gK,hy]⟩;rw[hz,hy];simp only[fp];omega
    ·exact⟨x,λm=>by simp[hU,nt,gK],V9 gS nt gK,hw,by omega,by simp[gK]⟩
   obtain⟨y,h1,h2,h3,h4,h5⟩:=hE;have hC:=Jb t locals y h3 h2 k2 ⟨by omega,by omega⟩;have b3:=lx y k2;rw[h1]at dH;generalize aX y k2=q at *;obtain⟨q1,q2⟩:=q;unfold fH at hC;simp only at dH hC b3;by_cases gK:x.Kind=13
   ·rw[if_pos gK]at h5 dH;simp[au,bm,nt,gK,h5];intro bs;refine pC hC ?_;simp;refine ay.weaken (Wk.freeze 5 (ys:=k1.map ai.enc) rfl) ?_;simp;refine ay.bC rfl (dE k1 q1 (by omega) (by omega)) (by simp) rfl (by simp) rfl ?_;simp;refine pC (cP _ _) ?_;simp;refine ay.weaken (Wk.freeze 55 (ys:=([ai.mk 23 0]).map _) rfl) ?_;simp;refine ay.u1 [] rfl (PX (k1++q1) [ai.mk 23 0] (by simp<;>omega) (by simp)) (by simp) rfl (by simp) rfl (by kernel_rfl) (by simp) (by simp) (by simp) (by simp) (by simp) ?_;simp[dH,a4]
   ·rw[if_neg gK]at h5 dH;subst h5;simp[au,bm,nt,gK];intro bs;refine pC hC ?_;simp;refine ay.weaken (Wk.freeze 5 (ys:=k1.map ai.enc) rfl) ?_;simp;refine ay.bC rfl (dE k1 q1 (by omega) (by omega)) (by simp) rfl (by simp) rfl ?_;simp;refine pC (cP _ _) ?_;simp;refine ay.weaken (Wk.freeze 55 (ys:=([ai.mk 22 0]).map _) rfl) ?_;simp;refine ay.u1 [] rfl (PX (k1++q1) [ai.mk 22 0] (by simp<;>omega) (by simp)) (by simp) rfl (by simp) rfl (by kernel_rfl) (by simp) (by simp) (by simp) (by simp) (by simp) ?_;simp[dH,a4]
 ·intro _;simp
theorem AR(h:Nat)(hh:h≠5)(a b:List ai)(ha:a.length<=1000000000000)(hb:b.length<=1000000000000):aE prog 191 [.d (.sl (a.map ai.enc)),.rv h] [(h,.row 84 2 (dd (b.map ai.enc)))] (λr L=>r= .ret (.d (.sl ((a++b).map ai.enc)))/\L=[(h,.row 84 2 (dd (b.map ai.enc)))]):=by
 have h5:(h==5)=false:=by simp[hh]
 refine aE.xW func191 rfl (by simp[f191]) ?_;refine av.gW ?_;simp[f191];refine av.gW ?_;simp[hh,hh.symm,h5];refine⟨by omega,by omega,?_⟩;refine av.weaken (Wk.freeze 5 (k:=2) (ty:=84) (ys:=a.map ai.enc++b.map ai.enc) rfl) (av.ret ?_);simp[hh,hh.symm,h5]
theorem aez(h:Nat)(hh:h≠5)(a b:List ai)(ha:a.length<=1000000000000)(hb:b.length<=1000000000000):aE prog 191 [.rv h,.d (.sl (b.map ai.enc))] [(h,.row 84 2 (dd (a.map ai.enc)))] (λr L=>r= .ret (.d (.sl ((a++b).map ai.enc)))/\L=[(h,.row 84 2 (dd (a.map ai.enc)))]):=by
 have h5:(h==5)=false:=by simp[hh]
 refine aE.xW func191 rfl (by simp[f191]) ?_;refine av.gW ?_;simp[f191];refine av.gW ?_;simp[hh,hh.symm,h5];refine⟨by omega,by omega,?_⟩;refine av.weaken (Wk.freeze 5 (k:=2) (ty:=84) (ys:=a.map ai.enc++b.map ai.enc) rfl) (av.ret ?_);simp[hh,hh.symm,h5]
theorem PY{t:aq}{locals:Int}{s:an}(h:eJ t locals s=true):(jH s).1=true/\oW t s locals=true/\(∀x∈s.aF,cT t locals x (decide (s.Kind=1))=true)/\(∀x∈s.Body,eJ t locals x=true)/\(∀x∈s.bW,eJ t locals x=true):=by
 rw[zG]at h;simp only[apb,iq,np,apd]at h;obtain⟨⟨⟨⟨⟨h1,h2⟩,h3⟩,h4⟩,h5⟩,h6⟩:=h;exact⟨h1,h2,h4,h5.1,h6.1⟩
theorem Ei{s:an}(h:(jH s).1=true)(hk:s.Kind=9\/s.Kind=10\/s.Kind=11):∃x,s.aF=[x]:=by
 have hl:s.aF.length=1:=by
  rcases hk with hk|hk|hk<;>· simp[jH,hk,rM]at h;omega
 generalize s.aF=l at hl
 match l,hl with
 | [x],_=>exact⟨x,rfl⟩
def adm(s:an):Prop:=∀n:Int,0<=n/\n+2 *AQ s<=1000000000->Pure prog 271 [.agg (s.enc.map .d),iD n] (fH (dy s n))
theorem Ad(l:List an)(hlen:l.length<=1000000000000000)(ih:∀s∈l,adm s)(n:Int)(hn:0<=n/\n+2 *iJ l<=1000000000):Pure prog 238 [.d (.sl (l.map an.enc)),iD n] (fH (bl l n)):=by
 unfold fH;refine rn func238 ?_;simp[f238];refine av.weaken (Wk.abc (t:=6) rfl) ?_;refine av.fh [0,1,6,7] l (λpre=> [(1,iD (bl pre n).2),(6,.d (.sl ((bl pre n).1.map ai.enc))),(7,iD pre.length)]) (λ_=> []) (λ_=>True) (by rfl) (by omega) (by simp[bl]) ?_ ?_
 ·rintro pre s post bu-au bm a4;have hS:=ih s (by rw[bu];simp);have dH:=ZA pre s n;have dW:iJ pre+AQ s<=iJ l:=by rw[bu,aev];simp only[iJ];omega
  have b1:=nq pre n;clear bu;generalize bl pre n=k at *;obtain⟨k1,k2⟩:=k;simp only at dH b1;have b2:=aex s k2;have hC:=hS k2 ⟨by omega,by omega⟩;generalize dy s k2=q at *;obtain⟨q1,q2⟩:=q;unfold fH at hC;simp only at dH hC b2;simp[au,bm];refine pC hC ?_;simp;refine ay.bC rfl (dE k1 q1 (by omega) (by omega)) (by simp) rfl (by simp) rfl ?_;simp[dH,a4]
 ·intro _;simp
theorem Wd(s:an)(x:ax)(hA:s.aF=[x])(n:Int)(hn:0≤n∧n+2 *AQ s≤1000000000)(We:aM .i64 (s.aK+1))(hw:s.wf)
  (hx:∀m:Int,0<=m/\m+2 *uh x<=1000000000->Pure prog 292 [.agg (x.enc.map .d),iD m] (fH (aX x m)))
  (hb:∀m:Int,0<=m/\m+2 *iJ s.Body<=1000000000->Pure prog 238 [.d (.sl (s.Body.map an.enc)),iD m] (fH (bl s.Body m))) (hk:s.Kind=11):
  Pure prog 296 [.agg (s.enc.map .d),iD n] (fH (dy s n)):=by
 rw[zH s n hk,hA,yD];have hz:=uq s;rw[hA]at hz;simp only[fp]at hz;have b1:=lx x (n+2);have b2:=nq s.Body (aX x (n+2)).2;have hC:=hx (n+2) ⟨by omega,by omega⟩;generalize aX x (n+2)=p at *;obtain⟨p1,p2⟩:=p;simp only at b1 b2 hC⊢;have hD:=hb p2 ⟨by omega,by omega⟩;generalize bl s.Body p2=q at *;obtain⟨q1,q2⟩:=q;unfold fH at hC hD⊢;simp only at b2 hC hD⊢;have a1:aM .i64 (n+2):=iW;have a2:aM .i64 (n+1):=iW;have c1:=λa b L=>(cP a b).ok L
 have c2:=λm L=>(lR m).ok L
 have c3:=λm L=>(xl m).ok L
 have c4:=λm L=>(u9 m).ok L
 refine rn func296 ?_;simp[f296];intro bs;simp[hA,a1];refine pC hC ?_;simp;refine pC hD ?_;simp;refine pC (cP 37 0) ?_;simp;refine ay.weaken (Wk.freeze 29 (ys:=([ai.mk 37 0]).map _) rfl) ?_;simp;refine ay.bC rfl (dE [ai.mk 37 0] p1 (by simp) (by omega)) (by simp) rfl (by simp) rfl ?_;simp;refine av.aT [Q3,Q0,Q0,Q0,Q0,Q0,Q0,Q0,Q0,Q0,Q0,Q0,Q0,Q0,none,none,arG] [.agg ((ai.mk 19 2).enc.map .d),.agg ((ai.mk 6 s.aK).enc.map .d),.agg ((ai.mk 38 n).enc.map .d),.agg ((ai.mk 5 s.aK).enc.map .d),.agg ((ai.mk 25 (n+1)).enc.map .d),.agg ((ai.mk 37 0).enc.map .d)] aS (by kernel_rfl) ?_;simp[c1,c2,c3,c4,a1,a2];refine gx.intro (λ_=>fN.call 46 [46] rfl (AR 46 (by decide) ([ai.mk 37 0]++p1) [ai.mk 19 2,ai.mk 6 s.aK,ai.mk 38 n,ai.mk 5 s.aK,ai.mk 25 (n+1),ai.mk 37 0] (by simp<;>omega) (by simp)) (by simp) rfl (by kernel_rfl) (by simp[dd]) (by simp) (by simp+contextual) (by simp) (by simp)) ?_;simp;refine av.aT [Q3,Q0,Q0,Q0,Q0,Q0,Q0,Q0,Q0,none,none,arG] [.agg ((ai.mk 5 s.aK).enc.map .d),.agg ((ai.mk 19 3).enc.map .d),.agg ((ai.mk 6 (s.aK+1)).enc.map .d)] aS (by kernel_rfl) ?_;simp[c1,c2,c3,c4,a1,a2,We];refine gx.intro (λ_=>fN.call 57 [57] rfl (AR 57 (by decide) (([ai.mk 37 0]++p1)++ [ai.mk 19 2,ai.mk 6 s.aK,ai.mk 38 n,ai.mk 5 s.aK,ai.mk 25 (n+1),ai.mk 37 0]) [ai.mk 5 s.aK,ai.mk 19 3,ai.mk 6 (s.aK+1)] (by simp<;>omega) (by simp)) (by simp) rfl (by kernel_rfl) (by simp[dd]) (by simp) (by simp+contextual) (by simp) (by simp)) ?_;simp;have c5:=λL=>(dE ((([ai.mk 37 0]++p1)++ [ai.mk 19 2,ai.mk 6 s.aK,ai.mk 38 n,ai.mk 5 s.aK,ai.mk 25 (n+1),ai.mk 37 0])++ [ai.mk 5 s.aK,ai.mk 19 3,ai.mk 6 (s.aK+1)]) q1 (by simp<;>omega) (by omega)).ok L
 simp at c5;refine av.aT [Q0,Q0,Q0,Q0,Q0,Q0,Q0,Q0,Q0,Q0,Q0,Q0,Q0,Q0,Q0,none,none,arH,arG,arG] [.d (.sl ((((([ai.mk 37 0]++p1)++ [ai.mk 19 2,ai.mk 6 s.aK,ai.mk 38 n,ai.mk 5 s.aK,ai.mk 25 (n+1),ai.mk 37 0])++ [ai.mk 5 s.aK,ai.mk 19 3,ai.mk 6 (s.aK+1)])++q1).map ai.enc)),.agg ((ai.mk 5 (s.aK+1)).enc.map .d),.agg ((ai.mk 6 s.aK).enc.map .d),.agg ((ai.mk 24 n).enc.map .d),.agg ((ai.mk 38 (n+1)).enc.map .d)] aS (by kernel_rfl) ?_;simp[c1,c2,c3,c4,c5,a1,a2,We];refine gx.intro (λ_=>fN.call 74 [74] rfl (AR 74 (by decide) (((([ai.mk 37 0]++p1)++ [ai.mk 19 2,ai.mk 6 s.aK,ai.mk 38 n,ai.mk 5 s.aK,ai.mk 25 (n+1),ai.mk 37 0])++ [ai.mk 5 s.aK,ai.mk 19 3,ai.mk 6 (s.aK+1)])++q1) [ai.mk 5 (s.aK+1),ai.mk 6 s.aK,ai.mk 24 n,ai.mk 38 (n+1)] (by simp<;>omega) (by simp)) (by simp) rfl (by kernel_rfl) (by simp[dd]) (by simp) (by simp+contextual) (by simp) (by simp)) ?_;simp[tick]
def M7(x:ax):Prop:=∀m:Int,0<=m/\m+2 *uh x<=1000000000->Pure prog 292 [.agg (x.enc.map .d),iD m] (fH (aX x m))
def mU(l:List an):Prop:=∀m:Int,0<=m/\m+2 *iJ l<=1000000000->Pure prog 238 [.d (.sl (l.map an.enc)),iD m] (fH (bl l m))
theorem ZC(s:an)(x:ax)(hA:s.aF=[x])(n:Int)(hn:0≤n∧n+2 *AQ s≤1000000000)(hx:M7 x)(hb:mU s.Body)(hk:s.Kind=9)(he:s.bW=[]):
  Pure prog 271 [.agg (s.enc.map .d),iD n] (fH (dy s n)):=by
 rw[BU s n hk he,hA,yD];have hz:=uq s;rw[hA]at hz;simp only[fp]at hz;have b1:=lx x (n+1);have b2:=nq s.Body (aX x (n+1)).2;have hC:=hx (n+1) ⟨by omega,by omega⟩;generalize aX x (n+1)=p at *;obtain⟨p1,p2⟩:=p;simp only at b1 b2 hC⊢;have hD:=hb p2 ⟨by omega,by omega⟩;generalize bl s.Body p2=q at *;obtain⟨q1,q2⟩:=q;unfold fH at hC hD⊢;simp only at b2 hC hD⊢;have a1:aM .i64 (n+2):=iW;have a2:aM .i64 (n+1):=iW;have hlen:s.bW.length=0:=by
  simp[he]
 have e0:((s.bW.length:Int)==0)=true:=by simp[he]
 refine rn func271 ?_;simp[-cB,f271,hk];intro bs;refine pC (cP 37 0) ?_;simp[-cB,hk,a1,a2,hlen,hA,he];refine ay.weaken (Wk.freeze 25 (ys:=([ai.mk 37 0]).map _) rfl) ?_;simp[-cB];refine pC hC ?_;simp[-cB];refine pC hD ?_;simp[-cB];refine ay.bC rfl (dE [ai.mk 37 0] p1 (by simp) (by omega)) (by simp) rfl (by simp) rfl ?_;simp[-cB];refine pC (u9 n) ?_;simp[-cB];refine ay.weaken (Wk.freeze 59 (ys:=([ai.mk 25 n]).map _) rfl) ?_;simp[-cB];refine ay.bC rfl (dE ([ai.mk 37 0]++p1) [ai.mk 25 n] (by simp<;>omega) (by simp)) (by simp) rfl (by simp) rfl ?_;simp[-cB];refine ay.bC rfl (dE ([ai.mk 37 0]++p1++ [ai.mk 25 n]) q1 (by simp<;>omega) (by omega)) (by simp) rfl (by simp) rfl ?_;simp[-cB,hlen,he,e0];refine pC (lR n) ?_;simp[-cB];refine ay.weaken (Wk.freeze 70 (ys:=([ai.mk 38 n]).map _) rfl) ?_;simp[-cB];refine ay.bC rfl (dE ([ai.mk 37 0]++p1++ [ai.mk 25 n]++q1) [ai.mk 38 n] (by simp<;>omega) (by simp)) (by simp) rfl (by simp) rfl ?_;simp[tick]
theorem ZD(s:an)(x:ax)(hA:s.aF=[x])(n:Int)(hn:0≤n∧n+2 *AQ s≤1000000000)(hx:M7 x)(hb:mU s.Body)(hc:mU s.bW)(hk:s.Kind=9)(he:s.bW≠ []):
  Pure prog 271 [.agg (s.enc.map .d),iD n] (fH (dy s n)):=by
 rw[BV s n hk he,hA,yD];have hz:=uq s;rw[hA]at hz;simp only[fp]at hz;have b1:=lx x (n+2);have b2:=nq s.Body (aX x (n+2)).2;have hC:=hx (n+2) ⟨by omega,by omega⟩;generalize aX x (n+2)=p at *;obtain⟨p1,p2⟩:=p;simp only at b1 b2 hC⊢;have hD:=hb p2 ⟨by omega,by omega⟩;have b3:=nq s.bW (bl s.Body p2).2;generalize bl s.Body p2=q at *;obtain⟨q1,q2⟩:=q;simp only at b2 b3 hD⊢;have hF:=hc q2 ⟨by omega,by omega⟩;generalize bl s.bW q2=r at *;obtain⟨r1,r2⟩:=r;unfold fH at hC hD hF⊢;simp only at b2 hC hD b3 hF⊢;have a1:aM .i64 (n+2):=iW;have a2:aM .i64 (n+1):=iW;have hlen:0<s.bW.length:=by
  cases h:s.bW with|nil=>exact(he h).elim|cons a l=>simp
 have e0:((s.bW.length:Int)==0)=false:=by simp[he]
 refine rn func271 ?_;simp[-cB,f271,hk];intro bs;refine pC (cP 37 0) ?_;simp[-cB,hk,a1,a2,hlen,hA,he];refine ay.weaken (Wk.freeze 25 (ys:=([ai.mk 37 0]).map _) rfl) ?_;simp[-cB];refine pC hC ?_;simp[-cB];refine pC hD ?_;simp[-cB];refine ay.bC rfl (dE [ai.mk 37 0] p1 (by simp) (by omega)) (by simp) rfl (by simp) rfl ?_;simp[-cB];refine pC (u9 n) ?_;simp[-cB];refine ay.weaken (Wk.freeze 59 (ys:=([ai.mk 25 n]).map _) rfl) ?_;simp[-cB];refine ay.bC rfl (dE ([ai.mk 37 0]++p1) [ai.mk 25 n] (by simp<;>omega) (by simp)) (by simp) rfl (by simp) rfl ?_;simp[-cB];refine ay.bC rfl (dE ([ai.mk 37 0]++p1++ [ai.mk 25 n]) q1 (by simp<;>omega) (by omega)) (by simp) rfl (by simp) rfl ?_;simp[-cB,hlen,he,e0];refine pC hF ?_;simp[-cB,a2];refine pC (xl (n+1)) ?_;simp[-cB];refine pC (lR n) ?_;simp[-cB];refine ay.weaken (Wk.freeze 86 (ys:=([ai.mk 24 (n+1),ai.mk 38 n]).map _) rfl) ?_;simp[-cB];refine ay.bC rfl (dE ([ai.mk 37 0]++p1++ [ai.mk 25 n]++q1) [ai.mk 24 (n+1),ai.mk 38 n] (by simp<;>omega) (by simp)) (by simp) rfl (by simp) rfl ?_;simp[-cB];refine ay.bC rfl (dE (([ai.mk 37 0]++p1++ [ai.mk 25 n]++q1)++ [ai.mk 24 (n+1),ai.mk 38 n]) r1 (by simp<;>omega) (by omega)) (by simp) rfl (by simp) rfl ?_;simp[-cB,a2];refine pC (lR (n+1)) ?_;simp[-cB];refine ay.weaken (Wk.freeze 93 (ys:=([ai.mk 38 (n+1)]).map _) rfl) ?_;simp[-cB];refine ay.bC rfl (dE (([ai.mk 37 0]++p1++ [ai.mk 25 n]++q1)++ [ai.mk 24 (n+1),ai.mk 38 n]++r1) [ai.mk 38 (n+1)] (by simp<;>omega) (by simp)) (by simp) rfl (by simp) rfl ?_;simp[tick]
theorem RV(s:an)(x:ax)(hA:s.aF=[x])(n:Int)(hn:0≤n∧n+2 *AQ s≤1000000000)(hx:M7 x)(hb:mU s.Body)(hk:s.Kind=10):
  Pure prog 271 [.agg (s.enc.map .d),iD n] (fH (dy s n)):=by
 rw[wX s n hk,hA,yD];have hz:=uq s;rw[hA]at hz;simp only[fp]at hz;have b1:=lx x (n+2);have b2:=nq s.Body (aX x (n+2)).2;have hC:=hx (n+2) ⟨by omega,by omega⟩;generalize aX x (n+2)=p at *;obtain⟨p1,p2⟩:=p;simp only at b1 b2 hC⊢;have hD:=hb p2 ⟨by omega,by omega⟩;generalize bl s.Body p2=q at *;obtain⟨q1,q2⟩:=q;unfold fH at hC hD⊢;simp only at b2 hC hD⊢;have a1:aM .i64 (n+2):=iW;have a2:aM .i64 (n+1):=iW;have c2:=λm L=>(lR m).ok L
 have c4:=λm L=>(u9 m).ok L
 refine rn func271 ?_;simp[-cB,f271,hk];intro bs;refine pC (cP 37 0) ?_;simp[-cB,hk,hA,a1];refine ay.weaken (Wk.freeze 25 (ys:=([ai.mk 37 0]).map _) rfl) ?_;simp[-cB];refine pC hC ?_;simp[-cB];refine pC hD ?_;simp[-cB];refine av.aT [Q0,Q0,Q0,Q0,Q0,none,Q3,none,arH,arH,arG,none,none,some (4,4)] [.agg ((ai.mk 38 n).enc.map .d),.agg ((ai.mk 25 (n+1)).enc.map .d)] aS (by kernel_rfl) ?_;simp[c2,c4,a2];refine gx.intro (λ_=>fN.call 120 [120] rfl (aez 120 (by decide) [ai.mk 38 n,ai.mk 37 0] p1 (by simp) (by omega)) (by simp) rfl (by kernel_rfl) (by simp[dd]) (by simp) (by simp+contextual) (by simp) (by simp)) ?_;simp[c2,c4,a2];refine gx.intro (λ_=>fN.call 126 [126] rfl (AR 126 (by decide) ([ai.mk 38 n,ai.mk 37 0]++p1) [ai.mk 25 (n+1)] (by simp<;>omega) (by simp)) (by simp) rfl (by kernel_rfl) (by simp[dd]) (by simp) (by simp+contextual) (by simp) (by simp)) ?_;simp[c2,c4,a2];refine ay.bC rfl (dE (([ai.mk 38 n,ai.mk 37 0]++p1)++ [ai.mk 25 (n+1)]) q1 (by simp<;>omega) (by omega)) (by simp) rfl (by simp) rfl ?_;simp;refine pC (xl n) ?_;simp[a2];refine pC (lR (n+1)) ?_;simp;refine ay.weaken (Wk.freeze 136 (ys:=([ai.mk 24 n,ai.mk 38 (n+1)]).map _) rfl) ?_;simp;refine ay.bC rfl (dE ((([ai.mk 38 n,ai.mk 37 0]++p1)++ [ai.mk 25 (n+1)])++q1) [ai.mk 24 n,ai.mk 38 (n+1)] (by simp<;>omega) (by simp)) (by simp) rfl (by simp) rfl ?_;simp[tick]
theorem Wf(s:an)(n:Int)(hn:0≤n∧n+2 *AQ s≤1000000000)(hk:s.Kind=1)(hS:Pure prog 297 [.d (.sl (s.aF.map ax.enc)),iD n] (fH (df s.aF n))):
  Pure prog 271 [.agg (s.enc.map .d),iD n] (fH (dy s n)):=by
 rw[yC s n hk];have hz:=uq s;have b1:=Eh s.aF n;generalize df s.aF n=p at *;obtain⟨p1,p2⟩:=p;unfold fH at hS⊢;simp only at hS b1⊢;refine rn func271 ?_;simp[-cB,f271,hk];intro bs;refine pC (cP 37 0) ?_;simp[-cB,hk];refine ay.weaken (Wk.freeze 25 (ys:=([ai.mk 37 0]).map _) rfl) ?_;simp[-cB,hk];refine pC hS ?_;simp[-cB];refine ay.bC rfl (dE [ai.mk 37 0] p1 (by simp) (by omega)) (by simp) rfl (by simp) rfl ?_;simp[tick]
theorem RX(s:an)(n:Int)(hk:s.Kind=11)(hS:Pure prog 296 [.agg (s.enc.map .d),iD n] (fH (dy s n))):
  Pure prog 271 [.agg (s.enc.map .d),iD n] (fH (dy s n)):=by
 generalize dy s n=p at *;obtain⟨p1,p2⟩:=p;unfold fH at hS⊢;simp only at hS⊢;refine rn func271 ?_;simp[-cB,f271,hk];intro bs;refine pC (cP 37 0) ?_;simp[-cB,hk];refine pC hS ?_;simp
theorem RY(s:an)(n:Int)(hn:0≤n∧n+2 *AQ s≤1000000000)(h1:s.Kind≠9)(h2:s.Kind≠10)(h3:s.Kind≠11)(h4:s.Kind≠1)(hS:Pure prog 298 [.d (.sl (s.aF.map ax.enc)),iD n] (fH (aZ s.aF n))):
  Pure prog 271 [.agg (s.enc.map .d),iD n] (fH (dy s n)):=by
 rw[wY s n h1 h2 h3 h4];have hz:=uq s;have b1:=qG s.aF n;generalize aZ s.aF n=p at *;obtain⟨p1,p2⟩:=p;unfold fH at hS⊢;simp only at hS b1⊢;have e1:(s.Kind==9)=false:=by simp[h1]
 have e2:(s.Kind==10)=false:=by simp[h2]
 have e3:(s.Kind==11)=false:=by simp[h3]
 have e4:(s.Kind==1)=false:=by simp[h4]
 have c1:=(aey s).ok;have c2:=λL=>(dE [ai.mk 37 0] p1 (by simp) (by omega)).ok L
 simp at c2;refine rn func271 ?_;simp[-cB,f271];intro bs;refine pC (cP 37 0) ?_;simp[-cB,e1,e2,e3,e4];refine ay.weaken (Wk.freeze 25 (ys:=([ai.mk 37 0]).map _) rfl) ?_;simp[-cB];refine pC hS ?_;simp[-cB];refine av.aT [Q0,Q0,Q0,Q0,Q0,none,none,arH,arG,arG] [.d (.sl (([ai.mk 37 0]++p1).map ai.enc)),.agg ((gQ s.Kind s.aK).enc.map .d)] aS (by kernel_rfl) ?_;simp[c1,c2];refine gx.intro (λ_=>fN.call 171 [171] rfl (AR 171 (by decide) ([ai.mk 37 0]++p1) [gQ s.Kind s.aK] (by simp<;>omega) (by simp)) (by simp) rfl (by kernel_rfl) (by simp[dd]) (by simp) (by simp+contextual) (by simp) (by simp)) ?_;simp[tick]
theorem Wg(t:aq)(locals:Int)(jn:aM .i64 locals)(s:an)(hw:s.wf)(hb:eJ t locals s=true):adm s:=by
 obtain⟨N,hN⟩:∃N,SizeOf.sizeOf s<N:=⟨_,aps _⟩
 induction N generalizing s with
 | zero=>omega
 | succ N ih=>
   intro n hn;obtain⟨p1,p2,p3,p4,p5⟩:=PY hb;have hz:=uq s;have hla:=an.J6 hw;have hlb:=an.E6 hw;have hle:=an.E8 hw;have hB:mU s.Body:=λm hm=>Ad s.Body (by omega) (λx hx=>ih x (an.E7 hw x hx) (p4 x hx) (by have:=an.rf s;have:=apP hx;omega)) m hm
   have hE:mU s.bW:=λm hm=>Ad s.bW (by omega) (λx hx=>ih x (an.E9 hw x hx) (p5 x hx) (by have:=an.rh s;have:=apP hx;omega)) m hm
   by_cases k1:s.Kind=1
   ·refine Wf s n hn k1 (ZB t locals s.aF (an.xf hw) (λx hx=>?_) (by omega) n ⟨by omega,by omega⟩);have:=p3 x hx
    rwa[show decide (s.Kind=1)=true by simp[k1]]at this
   have hA:∀x∈s.aF,cT t locals x false=true:=λx hx=>by
    have:=p3 x hx
    rwa[show decide (s.Kind=1)=false by simp[k1]]at this
   have hX:∀x∈s.aF,M7 x:=λx hx m hm=>Jb t locals x (an.xf hw x hx) (hA x hx) m hm
   by_cases k9:s.Kind=9
   ·obtain⟨x,hx⟩:=Ei p1 (.inl k9);by_cases he:s.bW=[]
    ·exact ZC s x hx n hn (hX x (by simp[hx])) hB k9 he
    ·exact ZD s x hx n hn (hX x (by simp[hx])) hB hE k9 he
   by_cases s7:s.Kind=10
   ·obtain⟨x,hx⟩:=Ei p1 (.inr (.inl s7));exact RV s x hx n hn (hX x (by simp[hx])) hB s7
   by_cases ur:s.Kind=11
   ·obtain⟨x,hx⟩:=Ei p1 (.inr (.inr ur));have We:aM .i64 (s.aK+1):=by
     have AB:s.Name.toList=[]/\s.aK<locals-1:=by
      unfold oW at p2;cases h:s.Name.toList with
      | nil=>simp[h,ur]at p2;exact⟨rfl,by omega⟩
      | cons a l=>simp[h]at p2
     have h0:0<=s.aK:=by simp[oW,AB.1,ur]at p2;omega
     rw[aU]at jn⊢;omega
    exact RX s n ur (Wd s x hx n hn We hw (hX x (by simp[hx])) hB ur)
   ·exact RY s n hn k9 s7 ur k1 (Ac s.aF (by omega) n ⟨by omega,by omega⟩ (λi h m hm=>hX _ (apk h) m hm))
section
variable {t : aq} {locals : Int} {l : List an}
theorem RZ(jn:aM .i64 locals)(hl:∀s∈l,s.wf)(hlen:l.length *104<=140737488351232)(hb:iq t locals l=true):mU l:=by
 unfold iq at hb;rw[apb,np,apd]at hb;exact λm hm=>Ad l (by omega) (λs hs=>Wg t locals jn s (hl s hs) (hb.1 s hs)) m hm
end
theorem KB(l:List an)(hl:mU l)(hn:iJ l<=30000000):Pure prog 192 [.d (.sl (l.map an.enc))] (.d (.sl ((bl l 0).1.map ai.enc))):=by
 have hc:=hl 0 ⟨by omega,by omega⟩;unfold fH at hc;generalize bl l 0=q at *;obtain⟨q1,q2⟩:=q;simp only at hc⊢;refine rn func192 ?_;simp[f192];refine pC hc ?_;simp
theorem Hw(l:List an)(hl:mU l)(hn:iJ l<=30000000):Pure prog 126 [.d (.sl (l.map an.enc))] (.d (.sl (((bl l 0).1++ [ai.mk 1 0,ai.mk 27 0]).map ai.enc))):=by
 have hc:=KB l hl hn;have bd:=nq l 0;generalize bl l 0=q at *;obtain⟨q1,q2⟩:=q;simp only at hc bd⊢;refine rn func126 ?_;simp[f126];refine pC hc ?_;simp;refine pC (cP 1 0) ?_;simp;refine pC (cP 27 0) ?_;simp;refine ay.weaken (Wk.freeze 7 (ys:=([ai.mk 1 0,ai.mk 27 0]).map _) rfl) ?_;simp;refine ay.bC rfl (dE q1 [ai.mk 1 0,ai.mk 27 0] (by omega) (by simp)) (by simp) rfl (by simp) rfl ?_;simp
end Go.Ab

/-
  The texts Y Z V T Gs Q Lp Wr Fam Pn Rf Rg Rh Ri Sc Bfits, one behind the other.
-/
import Derived.Test.YtmhnopomnpgcjaaGreatDoorMg2
import Derived.ChangeShapes
import Derived.DataReads
import Derived.SizedLaws
import Derived.Carry
import Derived.OpenShut
import Derived.ChangeOld
import Derived.JoinedCond
import Derived.Deep.CondSized
import Derived.Test.YtmhnopomnpgcjaaGreatDoorProg
import Derived.KernelRfl
import Derived.RangeFuncIn
import Derived.Lib.Builder
import Derived.Laws.Externs
set_option linter.unusedSimpArgs false
set_option linter.unusedVariables false
namespace Go.Ab
open Go.ChangeShapes Go.WideShapes Go.RowKit
def ji:Option TypeDesc->Bool
 | some .bool|some (.int _)|some .string|some (.slice _)|some (.struct _)|some (.array _ _)=>false
 | _=>true
inductive cJ(P:Program):TypeId->List D->Prop
 | bool {t:TypeId} (b:Bool) (u:P.underlying t=some .bool):cJ P t [.v (.bool b)]
 | int {t:TypeId} {k:IntKind} (n:Int) (u:P.underlying t=some (.int k)) (h:aN k n):cJ P t [.v (.int k n)]
 | str {t:TypeId} (s:ByteArray) (u:P.underlying t=some .string) (h:s.size<=140737488351232):cJ P t [.v (.string s)]
 | sl {t e:TypeId} (xs:List (List D)) (u:P.underlying t=some (.slice e)) (hx:∀(i:Nat) (x:List D),xs[i]?=some x->cJ P e x) (hl:xs.length<=9223372036854775807) (hw:xs.length *P.bytesOf e<=140737488351232):cJ P t [.sl xs]
 | struct {t:TypeId} {fs:Array Field} (dQ:List (List D)) (u:P.underlying t=some (.struct fs)) (hl:dQ.length=fs.size)
   (h:∀(i:Nat) (f:Field) (ys:List D),fs[i]?=some f->dQ[i]?=some ys->cJ P f.type ys):cJ P t dQ.flatten
 | arr {t e:TypeId} {n:Nat} (dQ:List (List D)) (u:P.underlying t=some (.array n e)) (hl:dQ.length=n)
   (h:∀(i:Nat) (ys:List D),dQ[i]?=some ys->cJ P e ys):cJ P t dQ.flatten
 | other {t:TypeId} (y:D) (u:ji (P.underlying t)=true):cJ P t [y]
mutual
def bD:D->Nat
 | .v (.string s)=>s.size+1
 | .v _=>1
 | .sl xs=>lk xs+1
 | .uu _ _ _=>1
def iN:List D->Nat
 | []=>0
 | x::l=>bD x+iN l
def lk:List (List D)->Nat
 | []=>0
 | x::l=>iN x+lk l
end
mutual
def cQ{H:Type}:DataW H->Nat
 | .lit (.string bytes)=>bytes.length+1
 | .lit _=>1
 | .nil=>1
 | .ptr d=>cQ d+1
 | .slice elems spare=>fQ elems+fQ spare+1
 | .agg parts=>fQ parts+1
 | .iface _ d=>cQ d+1
 | .map entries=>iw entries+1
 | .held _=>1
def fQ{H:Type}:List (DataW H)->Nat
 | []=>0
 | d::r=>cQ d+fQ r
def iw{H:Type}:List (Lit×DataW H)->Nat
 | []=>0
 | x::r=>qp x+iw r
def qp{H:Type}:Lit×DataW H->Nat
 | (.string bytes,d)=>bytes.length+cQ d+1
 | (_,d)=>cQ d+1
end
theorem fU{H}(d:DataW H):1<=cQ d:=by
 cases d with
 | lit l=>cases l<;>simp[cQ]
 | nil=>simp[cQ]
 | ptr d=>simp[cQ]
 | slice elems spare=>simp[cQ]
 | agg parts=>simp[cQ]
 | iface t d=>simp[cQ]
 | map entries=>simp[cQ]
 | held h=>simp[cQ]
theorem adY l r:iN (l++r)=iN l+iN r:=by
 induction l with
 | nil=>simp[iN]
 | cons x l ih=>grind[iN]
theorem Fb{H}:∀l r,l.length=r.length->(∀(i:Nat) x (d:DataW H),l[i]?=some x->r[i]?=some d->iN x<=cQ d)->lk l<=fQ r
 | [],[],_,_=>by simp[lk]
 | x::l,d::r,h,hb=>by
   have h0:=hb 0 x d rfl rfl;have h1:=Fb l r (by grind) (λi x d hx hd=>hb (i+1) x d (by grind) (by grind));grind[lk,fQ]
 | [],_::_,h,_=>by grind
 | _::_,[],h,_=>by grind
theorem F1 l:iN l.flatten=lk l:=by
 induction l with
 | nil=>rfl
 | cons x l ih=>simp_all[adY,lk]
theorem Li{a:Addr}{i}(h:a.spot=none):a.add i=⟨a.block,a.off+i,none⟩:=by
 obtain⟨b,o,s⟩:=a;simp_all[Addr.add]
def DT(P:Program):Nat->List Field->Option Nat
 | o,[]=>some o
 | o,f::fs=>if f.offset=o then DT P (o+P.cellsOf f.type) fs else none
def UN(P:Program):Bool:=(List.range P.types.size).all λt=>match P.underlying t with
 | some (.slice e)=>decide (0<P.cellsOf e)&&decide (e<P.types.size)
 | some (.struct fs)=>(DT P 0 fs.toList==some (P.cellsOf t))&&fs.toList.all λf=>decide (f.type<P.types.size)
 | some (.array n e)=>(P.cellsOf t==n *P.cellsOf e)&&decide (e<P.types.size)
 | _=>true
def gw(w:World)(cs:List Value)(ys:List D):Prop:=
 cs.length=ys.length/\∀(j:Nat) (x:Value) (y:D),cs[j]?=some x->ys[j]?=some y->x.oneCell'=true/\eX w (λ_=>False) x y
theorem gw.nil w:gw w [] []:=⟨rfl,by simp⟩
theorem gw.one{w x y}(h1:x.oneCell'=true)(h:eX w (λ_=>False) x y):gw w [x] [y]:=by
 refine⟨rfl,λj x' y' hx hy=>?_⟩;grind
theorem gw.append{w c1 c2 y1 y2}(h1:gw w c1 y1)(h2:gw w c2 y2):gw w (c1++c2) (y1++y2):=by
 refine⟨by simp[h1.1,h2.1],λj x y hx hy=>?_⟩;by_cases hj:j<c1.length
 ·rw[aqx hj]at hx;rw[aqx (by rw[<-h1.1];exact hj)]at hy;exact h1.2 j x y hx hy
 ·rw[aqE (by omega)]at hx;rw[aqE (by rw[<-h1.1];omega)]at hy;rw[<-h1.1]at hy;exact h2.2 _ x y hx hy
theorem F2{P}{w}{cs:List Value}:∀(Hh:Nat→Field→List D→Prop) fs o,DT P o fs=some cs.length→
  (∀i f,fs[i]?=some f->∃ys,gw w ((cs.drop f.offset).take (P.cellsOf f.type)) ys/\Hh i f ys)->
  ∃dQ:List (List D),dQ.length=fs.length/\gw w (cs.drop o) dQ.flatten/\∀i f ys,fs[i]?=some f->dQ[i]?=some ys->Hh i f ys
 | _,[],o,hc,_=>by
   simp[DT]at hc;subst hc;exact⟨[],rfl,by simp[gw.nil],by simp⟩
 | Hh,f::fs,o,hc,h=>by
   rw[DT]at hc;split at hc
   ·obtain⟨ys,h1,h2⟩:=h 0 f rfl;obtain⟨dQ,h3,h4,h5⟩:=F2 (λi=>Hh (i+1)) fs _ hc (λi g hg=>h (i+1) g (by grind));refine⟨ys::dQ,by grind,?_,λi g zs hi hz=>?_⟩
    ·have e:cs.drop o=((cs.drop f.offset).take (P.cellsOf f.type))++cs.drop (o+P.cellsOf f.type):=by
      grind[List.drop_drop,List.take_append_drop]
     rw[e];exact h1.append h4
    grind
   grind
theorem Ir{w}{k}:∀(Hh:Nat→List D→Prop) n cs,cs.length=n *k→
  (∀i,i<n->∃ys,gw w ((cs.drop (i *k)).take k) ys/\Hh i ys)->
  ∃dQ:List (List D),dQ.length=n/\gw w cs dQ.flatten/\∀i ys,dQ[i]?=some ys->Hh i ys
 | _,0,cs,hl,_=>by
   have:=ap3.1 (by simpa using hl);subst this;exact⟨[],rfl,by simp[gw.nil],by simp⟩
 | Hh,n+1,cs,hl,h=>by
   obtain⟨ys,h1,h2⟩:=h 0 (by omega);obtain⟨dQ,h3,h4,h5⟩:=Ir (k:=k) (λi=>Hh (i+1)) n (cs.drop k) (by grind) (λi hi=>by
    obtain⟨ys,a,b⟩:=h (i+1) (by omega);refine⟨ys,?_,b⟩;rw[aqW,show k+i *k=(i+1) *k by grind];exact a)
   refine⟨ys::dQ,by grind,?_,λi zs hz=>?_⟩
   ·have:=h1.append h4;simp_all
   grind
section
variable {H : Type} {enc : TypeId × Value -> H} {P : Program} {w : World}
theorem F3{e B l}(h:∀n∈DataW.weightsAll P e l,n<=B){d:DataW H}(hd:d∈l):∀n∈DataW.weights P e d,n<=B:=by
 induction l with
 | nil=>cases hd
 | cons a l ih=>
   simp[DataW.weightsAll]at h;grind
theorem DU{B}:∀{ts l} (_:∀n∈DataW.weightsEach P ts l,n<=B) {i:Nat} {t} {d:DataW H} (_:ts[i]?=some t) (_:l[i]?=some d),∀n∈DataW.weights P t d,n<=B
 | [],_,_,i,_,_,ht,_=>by grind
 | _::_,[],_,i,_,_,_,hd=>by grind
 | t0::ts,d0::l,h,i,t,d,ht,hd=>by
   simp[DataW.weightsEach]at h;cases i with
   | zero=>grind
   | succ i=>exact DU (λn hn=>h n (.inr hn)) (by simpa using ht) (by grind)
theorem Lj(hf:UN P=true):∀(fuel:Nat) (t:TypeId) (cs:List Value) (d:DataW H) (ps:List MemPlace),t < P.types.size→
  DataW.trod enc P w 0 (λ_=>true) true fuel t cs=some (d,ps)->(∀n∈DataW.weights P t d,n<=reachBytes)->∃ys,gw w cs ys/\cJ P t ys/\iN ys<=cQ d
 | 0,_,_,_,_,_,h,_=>by simp[DataW.trod]at h
 | fuel+1,t,cs,d,ps,ht,h,hw=>by
   have IH:=Lj hf fuel;have ya:_:=apR.1 hf t (by simpa using ht);unfold DataW.trod at h;split at h
   ·rename_i b hu;exact⟨_,gw.one rfl (.v _ rfl),.bool _ hu,by have:=fU d;simp[iN,bD];omega⟩
   ·rename_i k k' n hu;split at h
    ·rename_i hk;obtain⟨rfl,hk⟩:=hk;exact⟨_,gw.one rfl (.v _ rfl),.int _ hu (by simpa[aN,Lit.wf]using hk),by have:=fU d;simp[iN,bD];omega⟩
    ·cases h
   ·rename_i k k' n hu;exact⟨_,gw.one rfl (.v _ rfl),.other _ (by simp[hu,ji]),by have:=fU d;simp[iN,bD];omega⟩
   ·rename_i s hu;split at h
    ·cases h;refine⟨_,gw.one rfl (.v _ rfl),.str _ hu ?_,by simp only[iN,bD,cQ,Array.length_toList];exact apU _⟩;have:=hw s.data.toList.length (by simp[DataW.weights]);simpa[reachBytes]using this
    ·cases h
   ·rename_i e hu;exact⟨_,gw.one rfl (.v _ rfl),.other _ (by simp[hu,ji]),by have:=fU d;simp[iN,bD];omega⟩
   ·rename_i e a hu;exact⟨_,gw.one rfl (.v _ rfl),.other _ (by simp[hu,ji]),by have:=fU d;simp[iN,bD];omega⟩
   ·rename_i e hu;exact⟨_,gw.one rfl (.sl none 0 0 [] 0 0 0 (λ_ _=>undef) rfl (apU _) (by unfold maxLen;omega) (by omega) (by simp) (by omega) (by simp)),.sl [] hu (by simp) (by simp) (by simp),by have:=fU d;simp[iN,bD,lk];omega⟩
   ·rename_i e a len cap hu;rw[hu]at ya;simp only[apP,decide_eq_true_eq]at ya;simp only at h;split at h
    ·rename_i hb;obtain⟨_,hlc,vr⟩:=hb;obtain⟨elems,he,h⟩:=aqA.1 h;obtain⟨rest,hr,h⟩:=apN.1 h;simp only[apM]at h;obtain⟨rfl,_⟩:=h;have hlen:elems.length=len:=by simpa using mapM_some_length he
     simp only[if_true]at hr;have XQ:rest.length=cap-len:=by simpa using mapM_some_length hr
     have hwl:∀n∈(((elems.map (·.1)).length+(rest.map (·.1)).length) *P.bytesOf e)::(DataW.weightsAll P e (elems.map (·.1))++DataW.weightsAll P e (rest.map (·.1))),n<=reachBytes:=by
      simpa[DataW.weights,hu]using hw
     have key:∀i,i<len->∃cs x,(w.cells? 0 (a.add (i *P.cellsOf e)) (P.cellsOf e))=some cs/\gw w cs x/\cJ P e x/\∀y,elems[i]?=some y->iN x<=cQ y.1:=λi hi=>by
      have ck:=mapM_some_get he i i (by simp[hi]);obtain⟨y,hy⟩:∃y,elems[i]?=some y:=⟨_,anc (by omega)⟩
      rw[hy]at ck;obtain⟨jL,ki,Ik⟩:=aqA.1 ck;obtain⟨yd,yp⟩:=y;obtain⟨x,iZ,Is,yb⟩:=IH e jL yd yp ya.2 Ik (F3 (l:=elems.map (·.1)) (λn hn=>hwl n (ap2 _ (aqm _ hn))) (apV.2 ⟨(yd,yp),apT hy,rfl⟩));exact⟨jL,x,ki,iZ,Is,λy' nw=>by rw[hy]at nw;cases nw;exact yb⟩
     have kc:∀i,∃cs x,i<len->(w.cells? 0 (a.add (i *P.cellsOf e)) (P.cellsOf e))=some cs/\gw w cs x/\cJ P e x/\∀y,elems[i]?=some y->iN x<=cQ y.1:=λi=>by
      by_cases hi:i<len
      ·obtain⟨cs,x,h⟩:=key i hi;exact⟨cs,x,λ_=>h⟩
      ·exact⟨[],[],λh=>absurd h hi⟩
     obtain⟨fc,kc⟩:=asa kc;obtain⟨fx,kc⟩:=asa kc;have spot:0<len->a.spot=none:=λh0=>by
      have:=(World.cells?_some (kc 0 h0).1).2.2 0 ya.1;have hx:∃v,(fc 0)[0]?=some v:=⟨_,anc (by rw[(World.cells?_some (kc 0 h0).1).2.1];exact ya.1)⟩
      obtain⟨v,hv⟩:=hx;rw[hv]at this;have:=World.cell?_spot this;simpa[Addr.add]using this
     have cells:∀i j,i<len->j<P.cellsOf e->w.cell? ⟨a.block,a.off+i *P.cellsOf e+j,none⟩=(fc i)[j]?:=λi j hi hj=>by
      have:=(World.cells?_some (kc i hi).1).2.2 j hj;have hs:=spot (by omega);rw[<-this,Li hs,Li rfl]
     have UO:∀i,i<len->(fc i).length=P.cellsOf e:=λi hi=>(World.cells?_some (kc i hi).1).2.1
     refine⟨_,gw.one rfl (.sl (some a) len cap ((List.range len).map fx) (P.cellsOf e) a.block a.off (λi j=>(fc i).getD j undef) (by rw[aqg,List.length_range]) hlc vr (λh0=>⟨?_,λh=>h,?_⟩) ?_ ?_ ?_),.sl _ hu ?_ ?_ ?_,?_⟩
     ·obtain⟨ab,ao,asp⟩:=a;simp only at spot;rw[spot h0]
     ·have h1:=cells 0 0 h0 ya.1;have:(fc 0)[0]?=some ((fc 0)[0]'(by rw[UO 0 h0];exact ya.1)):=anc _;rw[this]at h1;exact T6 h1
     ·intro i x hx;obtain⟨hi,rfl⟩:i<len/\fx i=x:=by
       simp only[apS,apN]at hx;obtain⟨i',ck,rfl⟩:=hx;have hh:i<len:=by
        have:=(apQ.1 ck).1;simpa using this
       rw[ars hh]at ck;cases ck;exact⟨hh,rfl⟩
      rw[<-(kc i hi).2.1.1];exact UO i hi
     ·intro i j hi hj;rw[cells i j hi hj,anc (by rw[UO i hi];exact hj)];simp[List.getD_eq_getElem?_getD,anc (show j<(fc i).length by rw[UO i hi];exact hj)]
     ·intro i j x y hx hy;obtain⟨hi,rfl⟩:i<len/\fx i=x:=by
       simp only[apS,apN]at hx;obtain⟨i',ck,rfl⟩:=hx;have hh:i<len:=by
        have:=(apQ.1 ck).1;simpa using this
       rw[ars hh]at ck;cases ck;exact⟨hh,rfl⟩
      have Ie:j<(fc i).length:=by
       rw[(kc i hi).2.1.1];exact(apQ.1 hy).1
      refine((kc i hi).2.1.2 j _ y (anc Ie) hy).2 |> λh=>?_
      simpa[List.getD_eq_getElem?_getD,anc Ie]using h
     ·intro i x hx;simp only[apS,apN]at hx;obtain⟨i',ck,rfl⟩:=hx;have hh:i<len:=by
       have:=(apQ.1 ck).1;simpa using this
      rw[ars hh]at ck;cases ck;exact(kc i hh).2.2.1
     ·unfold maxLen at vr;simp;omega
     ·have:=hwl _ ap7;simp only[aqg,hlen,XQ,reachBytes]at this;simp only[aqg,List.length_range];refine aqo ?_ this;exact aqb _ (by omega)
     ·have hs:=Fb ((List.range len).map fx) (elems.map (·.1)) (by simp[hlen]) (λi x d hx hd=>by
       simp only[apS,apN]at hx hd;obtain⟨i',ck,rfl⟩:=hx;obtain⟨y,hy,rfl⟩:=hd;have hh:i<len:=by
        have:=(apQ.1 ck).1;simpa using this
       rw[ars hh]at ck;cases ck;exact(kc i hh).2.2.2 y hy)
      simp only[iN,bD,cQ];omega
    ·cases h
   ·rename_i cs xo F4 fs hu;rw[hu]at ya;simp only[apP,beq_iff_eq,apR,decide_eq_true_eq]at ya;split at h
    ·rename_i oU;obtain⟨xs,yU,h⟩:=apN.1 h;simp only[apM]at h;obtain⟨rfl,_⟩:=h;have hlen:=mapM_some_length yU;obtain⟨dQ,h1,h2,h3⟩:=F2 (w:=w) (cs:=cs) (λi f ys=>cJ P f.type ys/\∀x,xs[i]?=some x->iN ys<=cQ x.1) fs.toList 0 (by rw[oU];exact ya.1) (λi f hi=>by
      have X4:f∈fs.toList:=apT hi;have:=mapM_some_get yU i f hi;obtain⟨x,hx⟩:∃x,xs[i]?=some x:=⟨_,anc (by rw[hlen];exact(apQ.1 hi).1)⟩
      rw[hx]at this;obtain⟨xd,xp⟩:=x;obtain⟨zs,z1,z2,z3⟩:=IH f.type _ xd xp (ya.2 f X4) this (DU (ts:=fs.toList.map (·.type)) (l:=xs.map (·.1)) (by simpa[DataW.weights,hu]using hw) (i:=i) (by simp only[apS,hi];rfl) (by simp only[apS,hx];rfl));exact⟨zs,z1,z2,λx' cy=>by rw[hx]at cy;cases cy;exact z3⟩)
     refine⟨_,by simpa using h2,.struct dQ hu (by simpa using h1) (λi f ys hi hy=>(h3 i f ys (by simpa using hi) hy).1),?_⟩;have hs:=Fb dQ (xs.map (·.1)) (by simp[h1,hlen]) (λi ys d hy hd=>by
      simp only[apS,apN]at hd;obtain⟨x,hx,rfl⟩:=hd;have hif:i<fs.toList.length:=by rw[<-hlen];exact(apQ.1 hx).1
      exact(h3 i _ ys (anc hif) hy).2 x hx)
     rw[F1];simp only[cQ];omega
    ·cases h
   ·rename_i cs xo F4 n e hu;rw[hu]at ya;simp only[apP,beq_iff_eq,decide_eq_true_eq]at ya;split at h
    ·rename_i oU;obtain⟨xs,yU,h⟩:=apN.1 h;simp only[apM]at h;obtain⟨rfl,_⟩:=h;have hlen:xs.length=n:=by simpa using mapM_some_length yU
     obtain⟨dQ,h1,h2,h3⟩:=Ir (w:=w) (k:=P.cellsOf e) (λi ys=>cJ P e ys/\∀x,xs[i]?=some x->iN ys<=cQ x.1) n cs (by rw[oU];exact ya.1) (λi hi=>by
      have:=mapM_some_get yU i i (by simp[hi]);obtain⟨x,hx⟩:∃x,xs[i]?=some x:=⟨_,anc (by omega)⟩
      rw[hx]at this;obtain⟨xd,xp⟩:=x;obtain⟨zs,z1,z2,z3⟩:=IH e _ xd xp ya.2 this (F3 (l:=xs.map (·.1)) (by simpa[DataW.weights,hu]using hw) (apV.2 ⟨_,apT hx,rfl⟩));exact⟨zs,z1,z2,λx' cy=>by rw[hx]at cy;cases cy;exact z3⟩)
     refine⟨_,h2,.arr dQ hu h1 (λi ys hy=>(h3 i ys hy).1),?_⟩;have hs:=Fb dQ (xs.map (·.1)) (by simp[h1,hlen]) (λi ys d hy hd=>by
      simp only[apS,apN]at hd;obtain⟨x,hx,rfl⟩:=hd;exact(h3 i ys hy).2 x hx)
     rw[F1];simp only[cQ];omega
    ·cases h
   ·rename_i ms hu;exact⟨_,gw.one rfl (.v _ rfl),.other _ (by simp[hu,ji]),by have:=fU d;simp[iN,bD];omega⟩
   ·rename_i ms u v hu;exact⟨_,gw.one rfl (.v _ rfl),.other _ (by simp[hu,ji]),by have:=fU d;simp[iN,bD];omega⟩
   ·rename_i hu;exact⟨_,gw.one rfl (.v _ rfl),.other _ (by simp[hu,ji]),by have:=fU d;simp[iN,bD];omega⟩
   ·rename_i hu;exact⟨_,gw.one rfl (.v _ rfl),.other _ (by simp[hu,ji]),by have:=fU d;simp[iN,bD];omega⟩
   ·rename_i hu;exact⟨_,gw.one rfl (.v _ rfl),.other _ (by simp[hu,ji]),by have:=fU d;simp[iN,bD];omega⟩
   ·rename_i hu;exact⟨_,gw.one rfl (.v _ rfl),.other _ (by simp[hu,ji]),by have:=fU d;simp[iN,bD];omega⟩
   ·rename_i hu;exact⟨_,gw.one rfl (.v _ rfl),.other _ (by simp[hu,ji]),by have:=fU d;simp[iN,bD];omega⟩
   ·rename_i hu;exact⟨_,gw.one rfl (.v _ rfl),.other _ (by simp[hu,ji]),by have:=fU d;simp[iN,bD];omega⟩
   ·rename_i hu;exact⟨_,gw.one rfl (.v _ rfl),.other _ (by simp[hu,ji]),by have:=fU d;simp[iN,bD];omega⟩
   ·rename_i hu;exact⟨_,gw.one rfl (.v _ rfl),.other _ (by simp[hu,ji]),by have:=fU d;simp[iN,bD];omega⟩
   ·cases h
end
end Go.Ab
namespace Go.Ab
open Go.ChangeShapes Go.WideShapes Go.RowKit
def zX(P:Program)(t:TypeId)(ys:List D):V:=
 match P.underlying t with
 | some (.struct _)|some (.array _ _)=> .agg (ys.map .d)
 | _=>match ys with
   | [y]=> .d y
   | _=> .any
section
variable {H : Type} {enc : TypeId × Value -> H} {P : Program} {w : World}
theorem aa5{base t v ys}(hc:gw w v.cells.toList ys)(aS:Value.okWide P w .any base t v):az w (OO (⟨λ_=>False,[],none,false⟩:FO) fk) fk v (zX P t ys):=by
 have up:∀x y,eX w (λ_=>False) x y->eX w (OO (⟨λ_=>False,[],none,false⟩:FO) fk) x y:=λx y h=>
  h.mono (bK.refl _ _) (λb _ ho=>by rcases ho with ho|ho;exact absurd ho (gE b);exact ho)
 have ag:∀cs,v= .agg cs->az w (OO (⟨λ_=>False,[],none,false⟩:FO) fk) fk v (.agg (ys.map .d)):=by
  rintro cs rfl;have ki:(Value.agg cs).cells.toList=cs.toList:=rfl;rw[ki]at hc;refine .agg cs _ (by simpa using hc.1) (λj x hx=>?_) (λj x y hx hy=>?_)
  ·have hj:j<ys.length:=by rw[<-hc.1];grind
   exact(hc.2 j x _ (by grind) (anc hj)).1
  ·simp[apS,apN]at hy;obtain⟨y',nw,rfl⟩:=hy;exact .d _ _ (up _ _ (hc.2 j x _ (by grind) nw).2)
 unfold zX;split
 ·grind[Value.okWide]
 ·grind[Value.okWide]
 ·split
  ·rename_i y;have bU:∀cs,v≠ .agg cs:=by
    rintro cs rfl;simp_all[Value.okWide,Cell.okWide,Cell.ok]
   have Xu:v.cells.toList=[v]:=by
    cases v<;>first|rfl|grind
   rw[Xu]at hc;exact .d _ _ (up _ _ (hc.2 0 v y rfl rfl).2)
  ·exact .any _
theorem Ov(hf:UN P=true){base}:∀(ts:List TypeId) vs ds ps,(∀t∈ts,t < P.types.size)→
  DataW.TrodAll enc P w 0 (λ_=>true) true ts vs ds ps->(∀n∈DataW.weightsEach P ts ds,n<=reachBytes)->
  (∀(j:Nat) t v,ts[j]?=some t->vs[j]?=some v->Value.okWide P w .any base t v)->
  ∃dQ:List (List D),dQ.length=ts.length/\(∀(i:Nat) t ys,ts[i]?=some t->dQ[i]?=some ys->cJ P t ys)/\vs.length=ts.length/\ds.length=ts.length/\lk dQ<=fQ ds/\
   ∀(j:Nat) x y,vs[j]?=some x->((ts.zip dQ).map λp=>zX P p.1 p.2)[j]?=some y->az w (OO (⟨λ_=>False,[],none,false⟩:FO) fk) fk x y
 | [],[],[],_,_,_,_,_=>⟨[],rfl,by simp,rfl,rfl,by simp[lk],by simp⟩
 | t::ts,v::vs,d::ds,ps,ht,h,hw,aS=>by
   obtain⟨p,q,h0,hr,rfl⟩:=h;simp[DataW.weightsEach,ap9]at hw;obtain⟨dQ,a1,a2,a3,a4,a6,a5⟩:=Ov hf ts vs ds q (λt h=>ht t (ap2 _ h)) hr (λn hn=>hw n (.inr hn)) (λj t v h1 h2=>aS (j+1) t v (by grind) (by grind));obtain⟨fuel,h0⟩:=h0;obtain⟨ys,b1,b2,b3⟩:=Lj hf fuel t _ d p (ht t ap7) h0 (λn hn=>hw n (.inl hn));refine⟨ys::dQ,by grind,λi t' ys' hi hy=>?_,by grind,by grind,by grind[lk,fQ],λj x y hx hy=>?_⟩
   ·grind
   ·cases j with
    | zero=>simp at hx hy;subst hx;subst hy;exact aa5 b1 (aS 0 t v rfl rfl)
    | succ j=>exact a5 j x y (by grind) (by grind)
 | [],[],_::_,_,_,h,_,_=>h.elim
 | [],_::_,_,_,_,h,_,_=>h.elim
 | _::_,[],_,_,_,h,_,_=>h.elim
 | _::_,_::_,[],_,_,h,_,_=>h.elim
theorem AK(hl:laidOutB P=true){W W'}(hb:Below W.heap.size W W'):∀ts vs ds ps,(∀t∈ts,P.readableRec t=true∧t < P.types.size)→
  DataW.TrodAll enc P W 0 (λ_=>true) true ts vs ds ps->(∀x∈ps,x.block<W.heap.size)->DataW.TrodAll enc P W' 0 (λb=>decide (b<W.heap.size)) true ts vs ds ps
 | [],[],[],_,_,h,_=>h
 | t::ts,v::vs,d::ds,ps,ht,h,ay=>by
   obtain⟨p,q,h0,hr,rfl⟩:=h;exact⟨p,q,Below.trod hl (ht t ap7).1 (ht t ap7).2 h0 hb (λx hx=>ay x (aqm _ hx)),
    AK hl hb ts vs ds q (λt h=>ht t (ap2 _ h)) hr (λx hx=>ay x (aqu _ hx)),rfl⟩
 | [],[],_::_,_,_,h,_=>h.elim
 | [],_::_,_,_,_,h,_=>h.elim
 | _::_,[],_,_,_,h,_=>h.elim
 | _::_,_::_,[],_,_,h,_=>h.elim
end
inductive TK where
 | bool
 | int (k:IntKind)
 | str
 | sl (e:TypeId) (bytes:Nat)
 | st (ts:List TypeId)
 | arr (n:Nat) (e:TypeId)
 | oth
def dJ(P:Program)(t:TypeId):TK:=match P.underlying t with
 | some .bool=> .bool
 | some (.int k)=> .int k
 | some .string=> .str
 | some (.slice e)=> .sl e (P.bytesOf e)
 | some (.struct fs)=> .st (fs.toList.map (·.type))
 | some (.array n e)=> .arr n e
 | _=> .oth
section
variable {P : Program} {t : TypeId} {ys : List D}
theorem cJ.p6(h:cJ P t ys)(hk:dJ P t= .bool):∃b,ys=[.v (.bool b)]:=by
 cases h with
 | bool b u=>exact⟨b,rfl⟩
 | int n u h=>simp[dJ,u]at hk
 | str s u h=>simp[dJ,u]at hk
 | sl xs u hx hl hw=>simp[dJ,u]at hk
 | struct dQ u hl h=>simp[dJ,u]at hk
 | arr dQ u hl h=>simp[dJ,u]at hk
 | other y u=>
   unfold dJ at hk;split at hk<;>first|(simp_all[ji];done)|cases hk
theorem cJ.bw{k:IntKind}(h:cJ P t ys)(hk:dJ P t= .int k):∃n,ys=[.v (.int k n)]/\aN k n:=by
 cases h with
 | bool b u=>simp[dJ,u]at hk
 | int n u h=>simp[dJ,u]at hk;subst hk;exact⟨n,rfl,h⟩
 | str s u h=>simp[dJ,u]at hk
 | sl xs u hx hl hw=>simp[dJ,u]at hk
 | struct dQ u hl h=>simp[dJ,u]at hk
 | arr dQ u hl h=>simp[dJ,u]at hk
 | other y u=>
   unfold dJ at hk;split at hk<;>first|(simp_all[ji];done)|cases hk
theorem cJ.xn(h:cJ P t ys)(hk:dJ P t= .str):∃s,ys=[.v (.string s)]/\s.size<=140737488351232:=by
 cases h with
 | bool b u=>simp[dJ,u]at hk
 | int n u h=>simp[dJ,u]at hk
 | str s u h=>exact⟨s,rfl,h⟩
 | sl xs u hx hl hw=>simp[dJ,u]at hk
 | struct dQ u hl h=>simp[dJ,u]at hk
 | arr dQ u hl h=>simp[dJ,u]at hk
 | other y u=>
   unfold dJ at hk;split at hk<;>first|(simp_all[ji];done)|cases hk
theorem cJ.oT{e:TypeId}{b:Nat}(h:cJ P t ys)(hk:dJ P t= .sl e b):∃xs,ys=[.sl xs]/\(∀x∈xs,cJ P e x)/\xs.length<=9223372036854775807/\xs.length *b<=140737488351232:=by
 cases h with
 | bool b u=>simp[dJ,u]at hk
 | int n u h=>simp[dJ,u]at hk
 | str s u h=>simp[dJ,u]at hk
 | sl xs u hx hl hw=>
   simp only[dJ,u,TK.sl.injEq]at hk;obtain⟨rfl,rfl⟩:=hk;exact⟨xs,rfl,λx cy=>by obtain⟨i,hi⟩:=List.getElem?_of_mem cy;exact hx i x hi,hl,hw⟩
 | struct dQ u hl h=>simp[dJ,u]at hk
 | arr dQ u hl h=>simp[dJ,u]at hk
 | other y u=>
   unfold dJ at hk;split at hk<;>first|(simp_all[ji];done)|cases hk
def Iu(P:Program):List TypeId->List D->Prop
 | [],ys=>ys=[]
 | t::ts,ys=>∃a b,ys=a++b/\cJ P t a/\Iu P ts b
theorem Ow:∀(fs:List Field) (dQ:List (List D)),dQ.length=fs.length->(∀(i:Nat) (f:Field) (ys:List D),fs[i]?=some f->dQ[i]?=some ys->cJ P f.type ys)->Iu P (fs.map (·.type)) dQ.flatten
 | [],[],_,_=>rfl
 | f::fs,y::dQ,hl,h=>⟨y,dQ.flatten,by simp,h 0 f y rfl rfl,Ow fs dQ (by simpa using hl) (λi f' ys h1 h2=>h (i+1) f' ys (by simpa using h1) (by simpa using h2))⟩
 | [],_::_,hl,_=>by simp at hl
 | _::_,[],hl,_=>by simp at hl
theorem cJ.nU{ts:List TypeId}(h:cJ P t ys)(hk:dJ P t= .st ts):Iu P ts ys:=by
 cases h with
 | bool b u=>simp[dJ,u]at hk
 | int n u h=>simp[dJ,u]at hk
 | str s u h=>simp[dJ,u]at hk
 | sl xs u hx hl hw=>simp[dJ,u]at hk
 | struct dQ u hl h=>
   simp only[dJ,u,TK.st.injEq]at hk;subst hk;exact Ow _ dQ (by simpa using hl) (λi f ys h1 h2=>h i f ys (by simpa using h1) h2)
 | arr dQ u hl h=>simp[dJ,u]at hk
 | other y u=>
   unfold dJ at hk;split at hk<;>first|(simp_all[ji];done)|cases hk
end
theorem AL{α:Type}{f:α->List D}{p:α->Prop}:∀{xs:List (List D)},(∀x∈xs,∃a,x=f a/\p a)->∃l:List α,xs=l.map f/\∀a∈l,p a
 | [],_=>⟨[],rfl,by simp⟩
 | x::xs,h=>by
   obtain⟨a,rfl,ha⟩:=h x ap7;obtain⟨l,rfl,hl⟩:=AL (λy hy=>h y (ap2 _ hy));exact⟨a::l,rfl,by simpa using⟨ha,hl⟩⟩
theorem cJ.nA{P:Program}{α:Type}{t e:TypeId}{b:Nat}{ys:List D}{f:α→List D}{p:α→Prop}(h:cJ P t ys)(hk:dJ P t= .sl e b)(g:∀{zs:List D},cJ P e zs→∃x,zs=f x∧p x):
  ∃l:List α,ys=[.sl (l.map f)]/\l.length *b<=140737488351232/\∀x∈l,p x:=by
 obtain⟨xs,rfl,h1,-,h2⟩:=h.oT hk;obtain⟨l,rfl,h3⟩:=AL λx hx=>g (h1 x hx)
 exact⟨l,rfl,by simpa using h2,h3⟩
open Go.Proofs Go.Proofs.Tryz
@[simp] theorem aob:gz prog 3=some (false,1)/\je prog 3=[D.v (.int .i64 0)]/\Av prog 3=false/\tD prog 3=some .i64/\ru prog 3=some [.int .i64 0]/\yW prog 3=false/\gz prog 4=some (false,1)/\je prog 4=[D.v (.bool false)]/\Av prog 4=true/\ru prog 4=some [.bool false]/\gz prog 5=some (false,1)/\je prog 5=[D.v (.int .u8 0)]/\tD prog 5=some .u8/\gz prog 9=some (false,1)/\tC prog 9=true/\je prog 9=[D.v (.string ⟨#[]⟩)]/\yW prog 20=true/\gz prog 22=some (false,1)/\se prog 22=true/\je prog 22=[D.sl []]/\ru prog 22=some [.slice none 0 0]/\nJ prog 22=some (9,1)/\kQ prog 22=some (9,1,16,[.string ⟨#[]⟩])/\gz prog 23=some (false,1):=by and_intros<;>kernel_rfl
@[simp] theorem aoc:tC prog 23=false/\se prog 23=true/\je prog 23=[D.sl []]/\nJ prog 23=some (3,1)/\kQ prog 23=some (3,1,8,[.int .i64 0])/\EV prog 23=none/\gz prog 24=some (false,1)/\nJ prog 24=some (104,9)/\kQ prog 24=some (104,9,136,[.int .i64 0,.int .i64 0,.int .i64 0,.int .i64 0,.bool false,.slice none 0 0,.slice none 0 0,.slice none 0 0,.slice none 0 0])/\gz prog 25=some (false,1)/\nJ prog 25=some (198,2)/\gz prog 26=some (false,1)/\nJ prog 26=some (167,6)/\gz prog 28=some (true,15)/\je prog 28=[D.v (.int .i64 0),D.v (.int .i64 0),D.v (.int .i64 0),D.v (.int .i64 0),D.sl [],D.v (.int .i64 0),D.sl [],D.sl [],D.sl [],D.sl [],D.sl [],D.sl [],D.sl [],D.sl [],D.sl []]/\ru prog 28=some [.int .i64 0,.int .i64 0,.int .i64 0,.int .i64 0,.slice none 0 0,.int .i64 0,.slice none 0 0,.slice none 0 0,.slice none 0 0,.slice none 0 0,.slice none 0 0,.slice none 0 0,.slice none 0 0,.slice none 0 0,.slice none 0 0]/\bZ prog 28 0=some (0,false,1)/\bZ prog 28 1=some (1,false,1)/\bZ prog 28 2=some (2,false,1)/\bZ prog 28 3=some (3,false,1)/\bZ prog 28 4=some (4,false,1)/\bZ prog 28 5=some (5,false,1)/\bZ prog 28 6=some (6,false,1)/\bZ prog 28 7=some (7,false,1):=by and_intros<;>kernel_rfl
@[simp] theorem aod:bZ prog 28 8=some (8,false,1)/\bZ prog 28 9=some (9,false,1)/\bZ prog 28 10=some (10,false,1)/\bZ prog 28 11=some (11,false,1)/\bZ prog 28 12=some (12,false,1)/\bZ prog 28 13=some (13,false,1)/\bZ prog 28 14=some (14,false,1)/\wm prog 28=some ([.int .i64 0,.int .i64 0,.int .i64 0,.int .i64 0,.slice none 0 0,.int .i64 0,.slice none 0 0,.slice none 0 0,.slice none 0 0,.slice none 0 0,.slice none 0 0,.slice none 0 0,.slice none 0 0,.slice none 0 0,.slice none 0 0],[(0,1),(1,1),(2,1),(3,1),(4,1),(5,1),(6,1),(7,1),(8,1),(9,1),(10,1),(11,1),(12,1),(13,1),(14,1)])/\gz prog 29=some (false,1)/\nJ prog 29=some (109,1):=by and_intros<;>kernel_rfl
@[simp] theorem adR:kQ prog 29=some (109,1,24,[.slice none 0 0]):=by kernel_rfl
@[simp] theorem aoe:gz prog 31=some (true,16)/\ru prog 31=some [.int .i64 0,.int .i64 0,.int .i64 0,.int .i64 0,.slice none 0 0,.int .i64 0,.slice none 0 0,.slice none 0 0,.slice none 0 0,.slice none 0 0,.slice none 0 0,.slice none 0 0,.slice none 0 0,.slice none 0 0,.slice none 0 0,.slice none 0 0]/\bZ prog 31 0=some (0,true,15)/\bZ prog 31 1=some (15,false,1)/\wm prog 31=some ([.int .i64 0,.int .i64 0,.int .i64 0,.int .i64 0,.slice none 0 0,.int .i64 0,.slice none 0 0,.slice none 0 0,.slice none 0 0,.slice none 0 0,.slice none 0 0,.slice none 0 0,.slice none 0 0,.slice none 0 0,.slice none 0 0,.slice none 0 0],[(0,15),(15,1)])/\gz prog 32=some (false,1)/\tD prog 32=some .u64/\gz prog 34=some (true,13)/\je prog 34=[D.sl [],D.sl [],D.sl [],D.sl [],D.sl [],D.sl [],D.sl [],D.v (.int .u64 0),D.v (.int .i64 0),D.v (.int .i64 0),D.v (.int .i64 0),D.v (.int .i64 0),D.v (.int .i64 0)]/\ru prog 34=some [.slice none 0 0,.slice none 0 0,.slice none 0 0,.slice none 0 0,.slice none 0 0,.slice none 0 0,.slice none 0 0,.int .u64 0,.int .i64 0,.int .i64 0,.int .i64 0,.int .i64 0,.int .i64 0]/\bZ prog 34 0=some (0,false,1)/\bZ prog 34 1=some (1,false,1)/\bZ prog 34 2=some (2,false,1)/\bZ prog 34 3=some (3,false,1)/\bZ prog 34 4=some (4,false,1)/\bZ prog 34 5=some (5,false,1)/\bZ prog 34 6=some (6,false,1)/\bZ prog 34 7=some (7,false,1)/\bZ prog 34 8=some (8,false,1)/\bZ prog 34 9=some (9,false,1)/\bZ prog 34 10=some (10,false,1)/\bZ prog 34 11=some (11,false,1)/\bZ prog 34 12=some (12,false,1)/\wm prog 34=some ([.slice none 0 0,.slice none 0 0,.slice none 0 0,.slice none 0 0,.slice none 0 0,.slice none 0 0,.slice none 0 0,.int .u64 0,.int .i64 0,.int .i64 0,.int .i64 0,.int .i64 0,.int .i64 0],[(0,1),(1,1),(2,1),(3,1),(4,1),(5,1),(6,1),(7,1),(8,1),(9,1),(10,1),(11,1),(12,1)]):=by and_intros<;>kernel_rfl
@[simp] theorem aof:gz prog 36=some (true,3)/\NJ prog 36=some [.i .i64,.i .i64,.i .i64]/\bZ prog 36 0=some (0,false,1)/\bZ prog 36 1=some (1,false,1)/\bZ prog 36 2=some (2,false,1)/\wm prog 36=some ([.int .i64 0,.int .i64 0,.int .i64 0],[(0,1),(1,1),(2,1)])/\bZ prog 38 0=some (0,false,1)/\bZ prog 38 1=some (1,false,1)/\bZ prog 38 2=some (2,false,1)/\bZ prog 38 3=some (3,false,1)/\bZ prog 38 4=some (4,true,3)/\gz prog 39=some (false,1)/\se prog 39=true/\je prog 39=[D.sl []]/\nJ prog 39=some (5,1)/\kQ prog 39=some (5,1,1,[.int .u8 0])/\gz prog 41=some (true,17)/\je prog 41=[D.v (.int .i64 0),D.v (.int .i64 0),D.v (.int .i64 0),D.v (.int .i64 0),D.sl [],D.v (.int .i64 0),D.sl [],D.sl [],D.sl [],D.sl [],D.sl [],D.sl [],D.sl [],D.sl [],D.sl [],D.sl [],D.sl []]/\ru prog 41=some [.int .i64 0,.int .i64 0,.int .i64 0,.int .i64 0,.slice none 0 0,.int .i64 0,.slice none 0 0,.slice none 0 0,.slice none 0 0,.slice none 0 0,.slice none 0 0,.slice none 0 0,.slice none 0 0,.slice none 0 0,.slice none 0 0,.slice none 0 0,.slice none 0 0]/\bZ prog 41 0=some (0,true,15)/\bZ prog 41 1=some (15,false,1)/\bZ prog 41 2=some (16,false,1)/\wm prog 41=some ([.int .i64 0,.int .i64 0,.int .i64 0,.int .i64 0,.slice none 0 0,.int .i64 0,.slice none 0 0,.slice none 0 0,.slice none 0 0,.slice none 0 0,.slice none 0 0,.slice none 0 0,.slice none 0 0,.slice none 0 0,.slice none 0 0,.slice none 0 0,.slice none 0 0],[(0,15),(15,1),(16,1)])/\gz prog 45=some (false,1):=by and_intros<;>kernel_rfl
@[simp] theorem aog:tC prog 45=false/\se prog 45=true/\je prog 45=[D.sl []]/\nJ prog 45=some (74,4)/\kQ prog 45=some (74,4,48,[.int .i64 0,.int .i64 0,.int .i64 0,.slice none 0 0])/\EV prog 45=none/\gz prog 46=some (false,1)/\je prog 46=[D.v (.int .i64 0)]/\gz prog 48=some (true,18)/\je prog 48=[D.v (.int .i64 0),D.sl [],D.sl [],D.sl [],D.sl [],D.sl [],D.sl [],D.sl [],D.v (.int .u64 0),D.v (.int .i64 0),D.v (.int .i64 0),D.v (.int .i64 0),D.v (.int .i64 0),D.v (.int .i64 0),D.v (.string ⟨#[]⟩),D.v (.int .i64 0),D.v (.bool false),D.v (.int .i64 0)]/\ru prog 48=some [.int .i64 0,.slice none 0 0,.slice none 0 0,.slice none 0 0,.slice none 0 0,.slice none 0 0,.slice none 0 0,.slice none 0 0,.int .u64 0,.int .i64 0,.int .i64 0,.int .i64 0,.int .i64 0,.int .i64 0,.string ⟨#[]⟩,.int .i64 0,.bool false,.int .i64 0]/\bZ prog 48 0=some (0,false,1)/\bZ prog 48 1=some (1,true,13)/\bZ prog 48 2=some (14,false,1)/\bZ prog 48 3=some (15,false,1)/\bZ prog 48 4=some (16,false,1)/\bZ prog 48 5=some (17,false,1)/\wm prog 48=some ([.int .i64 0,.slice none 0 0,.slice none 0 0,.slice none 0 0,.slice none 0 0,.slice none 0 0,.slice none 0 0,.slice none 0 0,.int .u64 0,.int .i64 0,.int .i64 0,.int .i64 0,.int .i64 0,.int .i64 0,.string ⟨#[]⟩,.int .i64 0,.bool false,.int .i64 0],[(0,1),(1,13),(14,1),(15,1),(16,1),(17,1)])/\gz prog 50=some (true,24)/\ru prog 50=some [.slice none 0 0,.slice none 0 0,.int .i64 0,.int .i64 0,.int .i64 0,.int .i64 0,.slice none 0 0,.slice none 0 0,.slice none 0 0,.slice none 0 0,.slice none 0 0,.slice none 0 0,.slice none 0 0,.int .u64 0,.int .i64 0,.int .i64 0,.int .i64 0,.int .i64 0,.int .i64 0,.string ⟨#[]⟩,.int .i64 0,.bool false,.int .i64 0,.bool false]/\bZ prog 50 0=some (0,false,1)/\bZ prog 50 1=some (1,false,1)/\bZ prog 50 2=some (2,true,3)/\bZ prog 50 3=some (5,true,18):=by and_intros<;>kernel_rfl
@[simp] theorem aoh:bZ prog 50 4=some (23,false,1)/\wm prog 50=some ([.slice none 0 0,.slice none 0 0,.int .i64 0,.int .i64 0,.int .i64 0,.int .i64 0,.slice none 0 0,.slice none 0 0,.slice none 0 0,.slice none 0 0,.slice none 0 0,.slice none 0 0,.slice none 0 0,.int .u64 0,.int .i64 0,.int .i64 0,.int .i64 0,.int .i64 0,.int .i64 0,.string ⟨#[]⟩,.int .i64 0,.bool false,.int .i64 0,.bool false],[(0,1),(1,1),(2,3),(5,18),(23,1)])/\gz prog 58=some (true,35)/\bZ prog 58 0=some (0,true,16)/\bZ prog 58 1=some (16,true,13)/\bZ prog 58 2=some (29,false,1)/\bZ prog 58 3=some (30,false,1)/\bZ prog 58 4=some (31,true,3)/\bZ prog 58 5=some (34,false,1)/\gz prog 60=some (false,1)/\tC prog 60=false/\se prog 60=true/\je prog 60=[D.sl []]/\ru prog 60=some [.slice none 0 0]/\nJ prog 60=some (84,2)/\kQ prog 60=some (84,2,16,[.int .i64 0,.int .i64 0])/\gz prog 74=some (true,4)/\je prog 74=[D.v (.int .i64 0),D.v (.int .i64 0),D.v (.int .i64 0),D.sl []]/\ru prog 74=some [.int .i64 0,.int .i64 0,.int .i64 0,.slice none 0 0]/\bZ prog 74 0=some (0,false,1)/\bZ prog 74 1=some (1,false,1)/\bZ prog 74 2=some (2,false,1)/\bZ prog 74 3=some (3,false,1)/\wm prog 74=some ([.int .i64 0,.int .i64 0,.int .i64 0,.slice none 0 0],[(0,1),(1,1),(2,1),(3,1)]):=by and_intros<;>kernel_rfl
@[simp] theorem aoi:gz prog 77=some (true,1)/\ru prog 77=some [.int .i64 0]/\Dk prog 77=true/\bZ prog 77 0=some (0,false,1)/\wm prog 77=some ([.int .i64 0],[(0,1)])/\bZ prog 80 0=some (0,true,24)/\bZ prog 80 1=some (24,true,17)/\bZ prog 80 2=some (41,false,1)/\wm prog 80=some ([.slice none 0 0,.slice none 0 0,.int .i64 0,.int .i64 0,.int .i64 0,.int .i64 0,.slice none 0 0,.slice none 0 0,.slice none 0 0,.slice none 0 0,.slice none 0 0,.slice none 0 0,.slice none 0 0,.int .u64 0,.int .i64 0,.int .i64 0,.int .i64 0,.int .i64 0,.int .i64 0,.string ⟨#[]⟩,.int .i64 0,.bool false,.int .i64 0,.bool false,.int .i64 0,.int .i64 0,.int .i64 0,.int .i64 0,.slice none 0 0,.int .i64 0,.slice none 0 0,.slice none 0 0,.slice none 0 0,.slice none 0 0,.slice none 0 0,.slice none 0 0,.slice none 0 0,.slice none 0 0,.slice none 0 0,.slice none 0 0,.slice none 0 0,.int .i64 0],[(0,24),(24,17),(41,1)])/\gz prog 84=some (true,2)/\je prog 84=[D.v (.int .i64 0),D.v (.int .i64 0)]/\ru prog 84=some [.int .i64 0,.int .i64 0]/\bZ prog 84 0=some (0,false,1)/\bZ prog 84 1=some (1,false,1)/\wm prog 84=some ([.int .i64 0,.int .i64 0],[(0,1),(1,1)])/\gz prog 102=some (false,1)/\nJ prog 102=some (169,4)/\gz prog 104=some (true,9)/\je prog 104=[D.v (.int .i64 0),D.v (.int .i64 0),D.v (.int .i64 0),D.v (.int .i64 0),D.v (.bool false),D.sl [],D.sl [],D.sl [],D.sl []]/\ru prog 104=some [.int .i64 0,.int .i64 0,.int .i64 0,.int .i64 0,.bool false,.slice none 0 0,.slice none 0 0,.slice none 0 0,.slice none 0 0]/\bZ prog 104 0=some (0,false,1)/\bZ prog 104 1=some (1,false,1)/\bZ prog 104 2=some (2,false,1)/\bZ prog 104 3=some (3,false,1):=by and_intros<;>kernel_rfl
@[simp] theorem aoj:bZ prog 104 4=some (4,false,1)/\bZ prog 104 5=some (5,false,1)/\bZ prog 104 6=some (6,false,1)/\bZ prog 104 7=some (7,false,1)/\bZ prog 104 8=some (8,false,1)/\wm prog 104=some ([.int .i64 0,.int .i64 0,.int .i64 0,.int .i64 0,.bool false,.slice none 0 0,.slice none 0 0,.slice none 0 0,.slice none 0 0],[(0,1),(1,1),(2,1),(3,1),(4,1),(5,1),(6,1),(7,1),(8,1)])/\gz prog 105=some (false,1)/\nJ prog 105=some (107,5):=by and_intros<;>kernel_rfl
@[simp] theorem aaR:kQ prog 105=some (107,5,64,[.int .i64 0,.int .i64 0,.int .i64 0,.string ⟨#[]⟩,.slice none 0 0]):=by kernel_rfl
@[simp] theorem aok:gz prog 107=some (true,5)/\je prog 107=[D.v (.int .i64 0),D.v (.int .i64 0),D.v (.int .i64 0),D.v (.string ⟨#[]⟩),D.sl []]/\ru prog 107=some [.int .i64 0,.int .i64 0,.int .i64 0,.string ⟨#[]⟩,.slice none 0 0]/\bZ prog 107 0=some (0,false,1)/\bZ prog 107 1=some (1,false,1)/\bZ prog 107 2=some (2,false,1)/\bZ prog 107 3=some (3,false,1)/\bZ prog 107 4=some (4,false,1)/\wm prog 107=some ([.int .i64 0,.int .i64 0,.int .i64 0,.string ⟨#[]⟩,.slice none 0 0],[(0,1),(1,1),(2,1),(3,1),(4,1)])/\gz prog 109=some (false,1)/\je prog 109=[D.sl []]/\nJ prog 109=some (111,6):=by and_intros<;>kernel_rfl
@[simp] theorem aaS:kQ prog 109=some (111,6,104,[.int .i64 0,.int .i64 0,.string ⟨#[]⟩,.slice none 0 0,.slice none 0 0,.slice none 0 0]):=by kernel_rfl
@[simp] theorem amA:gz prog 111=some (true,6)/\je prog 111=[D.v (.int .i64 0),D.v (.int .i64 0),D.v (.string ⟨#[]⟩),D.sl [],D.sl [],D.sl []]/\ru prog 111=some [.int .i64 0,.int .i64 0,.string ⟨#[]⟩,.slice none 0 0,.slice none 0 0,.slice none 0 0]/\bZ prog 111 0=some (0,false,1)/\bZ prog 111 1=some (1,false,1)/\bZ prog 111 2=some (2,false,1)/\bZ prog 111 3=some (3,false,1)/\bZ prog 111 4=some (4,false,1)/\bZ prog 111 5=some (5,false,1)/\wm prog 111=some ([.int .i64 0,.int .i64 0,.string ⟨#[]⟩,.slice none 0 0,.slice none 0 0,.slice none 0 0],[(0,1),(1,1),(2,1),(3,1),(4,1),(5,1)])/\tD prog 129=some .i8/\tD prog 130=some .u64/\gz prog 167=some (true,6)/\je prog 167=[D.v (.int .i64 0),D.v (.int .i64 0),D.v (.int .i64 0),D.v (.int .i64 0),D.v (.int .i64 0),D.v (.int .i64 0)]/\ru prog 167=some [.int .i64 0,.int .i64 0,.int .i64 0,.int .i64 0,.int .i64 0,.int .i64 0]/\bZ prog 167 0=some (0,false,1)/\bZ prog 167 1=some (1,false,1)/\bZ prog 167 2=some (2,false,1)/\bZ prog 167 3=some (3,false,1)/\bZ prog 167 4=some (4,false,1)/\bZ prog 167 5=some (5,false,1)/\je prog 169=[D.v (.int .i64 0),D.v (.int .i64 0),D.v (.int .i64 0),D.v (.int .i64 0)]/\bZ prog 169 0=some (0,false,1)/\bZ prog 169 1=some (1,false,1):=by and_intros<;>kernel_rfl
@[simp] theorem amB:bZ prog 169 2=some (2,false,1)/\bZ prog 169 3=some (3,false,1)/\tD prog 173=some .i16/\gz prog 196=some (false,1)/\nJ prog 196=some (200,1)/\je prog 198=[D.v (.bool false),D.sl []]/\bZ prog 198 1=some (1,false,1)/\gz prog 200=some (false,1)/\je prog 200=[D.sl []]/\nJ prog 200=some (235,2)/\tD prog 224=some .u32/\gz prog 235=some (true,2)/\je prog 235=[D.v (.int .i64 0),D.sl []]/\ru prog 235=some [.int .i64 0,.slice none 0 0]/\bZ prog 235 0=some (0,false,1)/\bZ prog 235 1=some (1,false,1)/\gz prog 276=some (false,1)/\nJ prog 277=some (276,1)/\kQ prog 277=some (276,1,8,[.pointer none]):=by and_intros<;>kernel_rfl
theorem ajy:(List.range 310).all (λk=>enters prog k||!decide (3<=k/\k<310/\k≠195/\k≠240/\(k<272\/275<k)/\k≠300/\(k<302\/303<k)))=true:=by kernel_rfl
@[simp] theorem aol{k:Nat}(h:3<=k/\k<310/\k≠195/\k≠240/\(k<272\/275<k)/\k≠300/\(k<302\/303<k)):enters prog k=true:=by
 have:=apR.1 ajy k (aqK.2 h.2.1);simpa[h]using this
structure hU where
 AM:Int
 To:Int
 jj:Int
 bC:Int
 deriving DecidableEq
def hU.enc(x:hU):List D:=[D.v (.int .i64 x.AM),D.v (.int .i64 x.To),D.v (.int .i64 x.jj),D.v (.int .i64 x.bC)]
@[simp] theorem hU.gs0(x:hU):x.enc.length=4/\(∀h:0<x.enc.length,x.enc[0]=D.v (.int .i64 x.AM))/\(∀h:1<x.enc.length,x.enc[1]=D.v (.int .i64 x.To))/\(∀h:2<x.enc.length,x.enc[2]=D.v (.int .i64 x.jj))/\(∀h:3<x.enc.length,x.enc[3]=D.v (.int .i64 x.bC)):=by and_intros<;>(intros;rfl)
def hU.zero:hU:=⟨0,0,0,0⟩
@[simp] theorem hU.UP(o:Option hU):(o.map hU.enc).getD [D.v (.int .i64 0),D.v (.int .i64 0),D.v (.int .i64 0),D.v (.int .i64 0)]=(o.getD hU.zero).enc:=by cases o<;>rfl
def hU.wf(x:hU):Prop:=aN .i64 x.AM/\aN .i64 x.To/\aN .i64 x.jj/\aN .i64 x.bC
theorem adZ:dJ prog 169= .st [3,3,3,3]:=by kernel_rfl
theorem cK:dJ prog 3= .int .i64:=by kernel_rfl
theorem hU.of{ys:List D}(h:cJ prog 169 ys):∃x:hU,ys=x.enc/\x.wf:=by
 obtain⟨_,_,rfl,t0,_,_,rfl,t1,_,_,rfl,t2,_,_,rfl,t3,rfl⟩:=h.nU adZ;obtain⟨a0,rfl,w0⟩:=t0.bw cK;obtain⟨a1,rfl,w1⟩:=t1.bw cK;obtain⟨a2,rfl,w2⟩:=t2.bw cK;obtain⟨a3,rfl,w3⟩:=t3.bw cK;exact⟨⟨a0,a1,a2,a3⟩,rfl,w0,w1,w2,w3⟩
structure aZ where
 mg:Int
 Text:Int
 ah:Int
 Flags:Int
 Room:Bool
 aM:(List Int)
 Words:(List ByteArray)
 uL:(List ByteArray)
 mD:(List hU)
 deriving DecidableEq
def aZ.enc(x:aZ):List D:=[D.v (.int .i64 x.mg),D.v (.int .i64 x.Text),D.v (.int .i64 x.ah),D.v (.int .i64 x.Flags),D.v (.bool x.Room),D.sl (aD x.aM),D.sl (iI x.Words),D.sl (iI x.uL),D.sl (x.mD.map hU.enc)]
@[simp] theorem aZ.gs1(x:aZ):x.enc.length=9/\(∀h:0<x.enc.length,x.enc[0]=D.v (.int .i64 x.mg))/\(∀h:1<x.enc.length,x.enc[1]=D.v (.int .i64 x.Text))/\(∀h:2<x.enc.length,x.enc[2]=D.v (.int .i64 x.ah))/\(∀h:3<x.enc.length,x.enc[3]=D.v (.int .i64 x.Flags))/\(∀h:4<x.enc.length,x.enc[4]=D.v (.bool x.Room))/\(∀h:5<x.enc.length,x.enc[5]=D.sl (aD x.aM))/\(∀h:6<x.enc.length,x.enc[6]=D.sl (iI x.Words))/\(∀h:7<x.enc.length,x.enc[7]=D.sl (iI x.uL))/\(∀h:8<x.enc.length,x.enc[8]=D.sl (x.mD.map hU.enc)):=by and_intros<;>(intros;rfl)
def aZ.zero:aZ:=⟨0,0,0,0,false,[],[],[],[]⟩
@[simp] theorem aZ.UP(o:Option aZ):(o.map aZ.enc).getD [D.v (.int .i64 0),D.v (.int .i64 0),D.v (.int .i64 0),D.v (.int .i64 0),D.v (.bool false),D.sl [],D.sl [],D.sl [],D.sl []]=(o.getD aZ.zero).enc:=by cases o<;>rfl
@[simp] theorem aZ.J1(x:aZ):x.enc.take 9=x.enc:= .trans rfl rfl
def aZ.wf(x:aZ):Prop:=aN .i64 x.mg/\aN .i64 x.Text/\aN .i64 x.ah/\aN .i64 x.Flags/\x.aM.length *8<=140737488351232/\(∀y0:Int,y0∈x.aM->aN .i64 y0)/\x.Words.length *16<=140737488351232/\(∀y0:ByteArray,y0∈x.Words->y0.size<=140737488351232)/\x.uL.length *16<=140737488351232/\(∀y0:ByteArray,y0∈x.uL->y0.size<=140737488351232)/\x.mD.length *32<=140737488351232/\(∀y0:hU,y0∈x.mD->y0.wf)
theorem aZ.qq{x:aZ}(h:x.wf):x.aM.length *8<=140737488351232:=h.2.2.2.2.1
theorem aZ.G4{x:aZ}(h:x.wf):x.Words.length *16<=140737488351232:=h.2.2.2.2.2.2.1
theorem aZ.G5{x:aZ}(h:x.wf):(∀y0:ByteArray,y0∈x.Words->y0.size<=140737488351232):=h.2.2.2.2.2.2.2.1
theorem aZ.ad0{x:aZ}(h:x.wf):x.uL.length *16<=140737488351232:=h.2.2.2.2.2.2.2.2.1
theorem aZ.ad1{x:aZ}(h:x.wf):(∀y0:ByteArray,y0∈x.uL->y0.size<=140737488351232):=h.2.2.2.2.2.2.2.2.2.1
theorem aZ.Fc{x:aZ}(h:x.wf):x.mD.length *32<=140737488351232:=h.2.2.2.2.2.2.2.2.2.2.1
theorem aZ.J3{x:aZ}(h:x.wf):(∀y0:hU,y0∈x.mD->y0.wf):=h.2.2.2.2.2.2.2.2.2.2.2
theorem ad2:dJ prog 104= .st [3,3,3,3,4,23,22,22,102]:=by kernel_rfl
theorem ade:dJ prog 4= .bool:=by kernel_rfl
theorem la:dJ prog 23= .sl 3 8:=by kernel_rfl
theorem Iw:dJ prog 22= .sl 9 16:=by kernel_rfl
theorem Fe:dJ prog 9= .str:=by kernel_rfl
theorem ad3:dJ prog 102= .sl 169 32:=by kernel_rfl
theorem aZ.of{ys:List D}(h:cJ prog 104 ys):∃x:aZ,ys=x.enc/\x.wf:=by
 obtain⟨_,_,rfl,t0,_,_,rfl,t1,_,_,rfl,t2,_,_,rfl,t3,_,_,rfl,t4,_,_,rfl,t5,_,_,rfl,t6,_,_,rfl,t7,_,_,rfl,t8,rfl⟩:=h.nU ad2;obtain⟨a0,rfl,w0⟩:=t0.bw cK;obtain⟨a1,rfl,w1⟩:=t1.bw cK;obtain⟨a2,rfl,w2⟩:=t2.bw cK;obtain⟨a3,rfl,w3⟩:=t3.bw cK;obtain⟨a4,rfl⟩:=t4.p6 ade;obtain⟨a5,rfl,l5,w5⟩:=t5.nA la (λh=>h.bw cK);obtain⟨a6,rfl,l6,w6⟩:=t6.nA Iw (λh=>h.xn Fe);obtain⟨a7,rfl,l7,w7⟩:=t7.nA Iw (λh=>h.xn Fe);obtain⟨a8,rfl,l8,w8⟩:=t8.nA ad3 hU.of;exact⟨⟨a0,a1,a2,a3,a4,a5,a6,a7,a8⟩,rfl,w0,w1,w2,w3,l5,w5,l6,w6,l7,w7,l8,w8⟩
structure dn where
 Kind:Int
 Words:(List ByteArray)
 deriving DecidableEq
def dn.enc(x:dn):List D:=[D.v (.int .i64 x.Kind),D.sl (iI x.Words)]
@[simp] theorem dn.gs2(x:dn):x.enc.length=2/\(∀h:0<x.enc.length,x.enc[0]=D.v (.int .i64 x.Kind))/\(∀h:1<x.enc.length,x.enc[1]=D.sl (iI x.Words)):=by and_intros<;>(intros;rfl)
def dn.zero:dn:=⟨0,[]⟩
@[simp] theorem dn.UP(o:Option dn):(o.map dn.enc).getD [D.v (.int .i64 0),D.sl []]=(o.getD dn.zero).enc:=by cases o<;>rfl
@[simp] theorem dn.J1(x:dn):x.enc.take 2=x.enc:= .trans rfl rfl
def dn.wf(x:dn):Prop:=aN .i64 x.Kind/\x.Words.length *16<=140737488351232/\(∀y0:ByteArray,y0∈x.Words->y0.size<=140737488351232)
theorem dn.G4{x:dn}(h:x.wf):x.Words.length *16<=140737488351232:=h.2.1
theorem dn.G5{x:dn}(h:x.wf):(∀y0:ByteArray,y0∈x.Words->y0.size<=140737488351232):=h.2.2
theorem ad4:dJ prog 235= .st [3,22]:=by kernel_rfl
theorem dn.of{ys:List D}(h:cJ prog 235 ys):∃x:dn,ys=x.enc/\x.wf:=by
 obtain⟨_,_,rfl,t0,_,_,rfl,t1,rfl⟩:=h.nU ad4;obtain⟨a0,rfl,w0⟩:=t0.bw cK;obtain⟨a1,rfl,l1,w1⟩:=t1.nA Iw (λh=>h.xn Fe);exact⟨⟨a0,a1⟩,rfl,w0,l1,w1⟩
structure ll where
 Meta:Bool
 tT:(List (List dn))
 deriving DecidableEq
def ll.enc(x:ll):List D:=[D.v (.bool x.Meta),D.sl (oF (List.map dn.enc) x.tT)]
@[simp] theorem ll.gs3(x:ll):x.enc.length=2/\(∀h:1<x.enc.length,x.enc[1]=D.sl (oF (List.map dn.enc) x.tT)):=by and_intros<;>(intros;rfl)
def ll.wf(x:ll):Prop:=x.tT.length *24<=140737488351232/\(∀y0:(List dn),y0∈x.tT->y0.length *32<=140737488351232/\(∀y1:dn,y1∈y0->y1.wf))
theorem ll.aa6{x:ll}(h:x.wf):x.tT.length *24<=140737488351232:=h.1
theorem ll.aa7{x:ll}(h:x.wf):(∀y0:(List dn),y0∈x.tT->y0.length *32<=140737488351232/\(∀y1:dn,y1∈y0->y1.wf)):=h.2
theorem ad5:dJ prog 198= .st [4,196]:=by kernel_rfl
theorem ad6:dJ prog 196= .sl 200 24:=by kernel_rfl
theorem ad7:dJ prog 200= .sl 235 32:=by kernel_rfl
theorem ll.of{ys:List D}(h:cJ prog 198 ys):∃x:ll,ys=x.enc/\x.wf:=by
 obtain⟨_,_,rfl,t0,_,_,rfl,t1,rfl⟩:=h.nU ad5;obtain⟨a0,rfl⟩:=t0.p6 ade;obtain⟨a1,rfl,l1,w1⟩:=t1.nA ad6 (λh=>h.nA ad7 dn.of);exact⟨⟨a0,a1⟩,rfl,l1,w1⟩
structure mh where
 Ox:Int
 Phase:Int
 qt:Int
 Second:Int
 jj:Int
 Body:Int
 deriving DecidableEq
def mh.enc(x:mh):List D:=[D.v (.int .i64 x.Ox),D.v (.int .i64 x.Phase),D.v (.int .i64 x.qt),D.v (.int .i64 x.Second),D.v (.int .i64 x.jj),D.v (.int .i64 x.Body)]
@[simp] theorem mh.gs4(x:mh):x.enc.length=6/\(∀h:0<x.enc.length,x.enc[0]=D.v (.int .i64 x.Ox))/\(∀h:1<x.enc.length,x.enc[1]=D.v (.int .i64 x.Phase))/\(∀h:2<x.enc.length,x.enc[2]=D.v (.int .i64 x.qt))/\(∀h:3<x.enc.length,x.enc[3]=D.v (.int .i64 x.Second))/\(∀h:4<x.enc.length,x.enc[4]=D.v (.int .i64 x.jj))/\(∀h:5<x.enc.length,x.enc[5]=D.v (.int .i64 x.Body))/\x.enc.take 6=x.enc:=by and_intros<;>(intros;rfl)
def mh.wf(x:mh):Prop:=aN .i64 x.Ox/\aN .i64 x.Phase/\aN .i64 x.qt/\aN .i64 x.Second/\aN .i64 x.jj/\aN .i64 x.Body
theorem ad8:dJ prog 167= .st [3,3,3,3,3,3]:=by kernel_rfl
theorem mh.of{ys:List D}(h:cJ prog 167 ys):∃x:mh,ys=x.enc/\x.wf:=by
 obtain⟨_,_,rfl,t0,_,_,rfl,t1,_,_,rfl,t2,_,_,rfl,t3,_,_,rfl,t4,_,_,rfl,t5,rfl⟩:=h.nU ad8;obtain⟨a0,rfl,w0⟩:=t0.bw cK;obtain⟨a1,rfl,w1⟩:=t1.bw cK;obtain⟨a2,rfl,w2⟩:=t2.bw cK;obtain⟨a3,rfl,w3⟩:=t3.bw cK;obtain⟨a4,rfl,w4⟩:=t4.bw cK;obtain⟨a5,rfl,w5⟩:=t5.bw cK;exact⟨⟨a0,a1,a2,a3,a4,a5⟩,rfl,w0,w1,w2,w3,w4,w5⟩
structure aq where
 mg:Int
 By:Int
 pk:Int
 Max:Int
 gO:(List ByteArray)
 Flags:Int
 aM:(List Int)
 aW:(List Int)
 aB:(List aZ)
 sC:(List ll)
 mU:(List mh)
 cS:(List Int)
 eu:(List Int)
 Params:(List Int)
 aJ:(List Int)
 deriving DecidableEq
def aq.enc(x:aq):List D:=[D.v (.int .i64 x.mg),D.v (.int .i64 x.By),D.v (.int .i64 x.pk),D.v (.int .i64 x.Max),D.sl (iI x.gO),D.v (.int .i64 x.Flags),D.sl (aD x.aM),D.sl (aD x.aW),D.sl (x.aB.map aZ.enc),D.sl (x.sC.map ll.enc),D.sl (x.mU.map mh.enc),D.sl (aD x.cS),D.sl (aD x.eu),D.sl (aD x.Params),D.sl (aD x.aJ)]
@[simp] theorem aq.gs5(x:aq):x.enc.length=15/\(∀h:0<x.enc.length,x.enc[0]=D.v (.int .i64 x.mg))/\(∀h:1<x.enc.length,x.enc[1]=D.v (.int .i64 x.By))/\(∀h:2<x.enc.length,x.enc[2]=D.v (.int .i64 x.pk))/\(∀h:3<x.enc.length,x.enc[3]=D.v (.int .i64 x.Max))/\(∀h:4<x.enc.length,x.enc[4]=D.sl (iI x.gO))/\(∀h:5<x.enc.length,x.enc[5]=D.v (.int .i64 x.Flags))/\(∀h:6<x.enc.length,x.enc[6]=D.sl (aD x.aM))/\(∀h:7<x.enc.length,x.enc[7]=D.sl (aD x.aW))/\(∀h:8<x.enc.length,x.enc[8]=D.sl (x.aB.map aZ.enc))/\(∀h:9<x.enc.length,x.enc[9]=D.sl (x.sC.map ll.enc))/\(∀h:10<x.enc.length,x.enc[10]=D.sl (x.mU.map mh.enc))/\(∀h:11<x.enc.length,x.enc[11]=D.sl (aD x.cS))/\(∀h:12<x.enc.length,x.enc[12]=D.sl (aD x.eu))/\(∀h:13<x.enc.length,x.enc[13]=D.sl (aD x.Params))/\(∀h:14<x.enc.length,x.enc[14]=D.sl (aD x.aJ)):=by and_intros<;>(intros;rfl)
def aq.zero:aq:=⟨0,0,0,0,[],0,[],[],[],[],[],[],[],[],[]⟩
@[simp] theorem aq.G6(x:aq):List.take 15 (x.enc.map V.d)=x.enc.map V.d:= .trans rfl rfl
def aq.wf(x:aq):Prop:=aN .i64 x.mg/\aN .i64 x.By/\aN .i64 x.pk/\aN .i64 x.Max/\x.gO.length *16<=140737488351232/\(∀y0:ByteArray,y0∈x.gO->y0.size<=140737488351232)/\aN .i64 x.Flags/\x.aM.length *8<=140737488351232/\(∀y0:Int,y0∈x.aM->aN .i64 y0)/\x.aW.length *8<=140737488351232/\(∀y0:Int,y0∈x.aW->aN .i64 y0)/\x.aB.length *136<=140737488351232/\(∀y0:aZ,y0∈x.aB->y0.wf)/\x.sC.length *32<=140737488351232/\(∀y0:ll,y0∈x.sC->y0.wf)/\x.mU.length *48<=140737488351232/\(∀y0:mh,y0∈x.mU->y0.wf)/\x.cS.length *8<=140737488351232/\(∀y0:Int,y0∈x.cS->aN .i64 y0)/\x.eu.length *8<=140737488351232/\(∀y0:Int,y0∈x.eu->aN .i64 y0)/\x.Params.length *8<=140737488351232/\(∀y0:Int,y0∈x.Params->aN .i64 y0)/\x.aJ.length *8<=140737488351232/\(∀y0:Int,y0∈x.aJ->aN .i64 y0)
theorem aq.Oy{x:aq}(h:x.wf):x.gO.length *16<=140737488351232:=h.2.2.2.2.1
theorem aq.aa8{x:aq}(h:x.wf):(∀y0:ByteArray,y0∈x.gO->y0.size<=140737488351232):=h.2.2.2.2.2.1
theorem aq.qq{x:aq}(h:x.wf):x.aM.length *8<=140737488351232:=h.2.2.2.2.2.2.2.1
theorem aq.oH{x:aq}(h:x.wf):x.aW.length *8<=140737488351232:=h.2.2.2.2.2.2.2.2.2.1
theorem aq.DV{x:aq}(h:x.wf):x.aB.length *136<=140737488351232:=h.2.2.2.2.2.2.2.2.2.2.2.1
theorem aq.Lk{x:aq}(h:x.wf):(∀y0:aZ,y0∈x.aB->y0.wf):=h.2.2.2.2.2.2.2.2.2.2.2.2.1
theorem aq.ad9{x:aq}(h:x.wf):x.sC.length *32<=140737488351232:=h.2.2.2.2.2.2.2.2.2.2.2.2.2.1
theorem aq.aea{x:aq}(h:x.wf):(∀y0:ll,y0∈x.sC->y0.wf):=h.2.2.2.2.2.2.2.2.2.2.2.2.2.2.1
theorem aq.G7{x:aq}(h:x.wf):x.mU.length *48<=140737488351232:=h.2.2.2.2.2.2.2.2.2.2.2.2.2.2.2.1
theorem aq.aa9{x:aq}(h:x.wf):(∀y0:mh,y0∈x.mU->y0.wf):=h.2.2.2.2.2.2.2.2.2.2.2.2.2.2.2.2.1
theorem aq.G8{x:aq}(h:x.wf):x.cS.length *8<=140737488351232:=h.2.2.2.2.2.2.2.2.2.2.2.2.2.2.2.2.2.1
theorem aq.BE{x:aq}(h:x.wf):x.eu.length *8<=140737488351232:=h.2.2.2.2.2.2.2.2.2.2.2.2.2.2.2.2.2.2.2.1
theorem aq.zl{x:aq}(h:x.wf):x.Params.length *8<=140737488351232:=h.2.2.2.2.2.2.2.2.2.2.2.2.2.2.2.2.2.2.2.2.2.1
theorem aq.X5{x:aq}(h:x.wf):x.aJ.length *8<=140737488351232:=h.2.2.2.2.2.2.2.2.2.2.2.2.2.2.2.2.2.2.2.2.2.2.2.1
theorem aq.Ll{x:aq}(h:x.wf):(∀y0:Int,y0∈x.aJ->aN .i64 y0):=h.2.2.2.2.2.2.2.2.2.2.2.2.2.2.2.2.2.2.2.2.2.2.2.2
theorem afK:dJ prog 28= .st [3,3,3,3,22,3,23,23,24,25,26,23,23,23,23]:=by kernel_rfl
theorem afL:dJ prog 24= .sl 104 136:=by kernel_rfl
theorem afM:dJ prog 25= .sl 198 32:=by kernel_rfl
theorem afN:dJ prog 26= .sl 167 48:=by kernel_rfl
theorem aq.of{ys:List D}(h:cJ prog 28 ys):∃x:aq,ys=x.enc/\x.wf:=by
 obtain⟨_,_,rfl,t0,_,_,rfl,t1,_,_,rfl,t2,_,_,rfl,t3,_,_,rfl,t4,_,_,rfl,t5,_,_,rfl,t6,_,_,rfl,t7,_,_,rfl,t8,_,_,rfl,t9,_,_,rfl,t10,_,_,rfl,t11,_,_,rfl,t12,_,_,rfl,t13,_,_,rfl,t14,rfl⟩:=h.nU afK;obtain⟨a0,rfl,w0⟩:=t0.bw cK;obtain⟨a1,rfl,w1⟩:=t1.bw cK;obtain⟨a2,rfl,w2⟩:=t2.bw cK;obtain⟨a3,rfl,w3⟩:=t3.bw cK;obtain⟨a4,rfl,l4,w4⟩:=t4.nA Iw (λh=>h.xn Fe);obtain⟨a5,rfl,w5⟩:=t5.bw cK;obtain⟨a6,rfl,l6,w6⟩:=t6.nA la (λh=>h.bw cK);obtain⟨a7,rfl,l7,w7⟩:=t7.nA la (λh=>h.bw cK);obtain⟨a8,rfl,l8,w8⟩:=t8.nA afL aZ.of;obtain⟨a9,rfl,l9,w9⟩:=t9.nA afM ll.of;obtain⟨a10,rfl,l10,w10⟩:=t10.nA afN mh.of;obtain⟨a11,rfl,l11,w11⟩:=t11.nA la (λh=>h.bw cK);obtain⟨a12,rfl,l12,w12⟩:=t12.nA la (λh=>h.bw cK);obtain⟨a13,rfl,l13,w13⟩:=t13.nA la (λh=>h.bw cK);obtain⟨a14,rfl,l14,w14⟩:=t14.nA la (λh=>h.bw cK);exact⟨⟨a0,a1,a2,a3,a4,a5,a6,a7,a8,a9,a10,a11,a12,a13,a14⟩,rfl,w0,w1,w2,w3,l4,w4,w5,l6,w6,l7,w7,l8,w8,l9,w9,l10,w10,l11,w11,l12,w12,l13,w13,l14,w14⟩
inductive au where
 | mk (Kind:Int) (Op:Int) (aI:Int) (Name:ByteArray) (av:(List au))
def au.Kind:au->Int
 | .mk a0 a1 a2 a3 a4=>a0
def au.Op:au->Int
 | .mk a0 a1 a2 a3 a4=>a1
def au.aI:au->Int
 | .mk a0 a1 a2 a3 a4=>a2
def au.Name:au->ByteArray
 | .mk a0 a1 a2 a3 a4=>a3
def au.av:au->(List au)
 | .mk a0 a1 a2 a3 a4=>a4
mutual
def au.enc:au->List D
 | .mk a0 a1 a2 a3 a4=> [D.v (.int .i64 a0),D.v (.int .i64 a1),D.v (.int .i64 a2),D.v (.string a3),D.sl (au.zY a4)]
def au.zY:List au->List (List D)
 | []=> []
 | x::l=>x.enc::au.zY l
end
theorem au.uM:∀l:List au,au.zY l=l.map au.enc
 | []=>rfl
 | x::l=>by rw[au.zY,au.uM l];rfl
theorem au.lY(x:au):x.enc=[D.v (.int .i64 x.Kind),D.v (.int .i64 x.Op),D.v (.int .i64 x.aI),D.v (.string x.Name),D.sl (x.av.map au.enc)]:=by
 cases x;simp only[au.enc,au.uM];rfl
@[simp] theorem au.wR(x:au):x.enc.length=5:=by cases x;rfl
@[simp] theorem au.UQ(x:au):x.enc[0]?=some (D.v (.int .i64 x.Kind)):=by rw[au.lY];rfl
@[simp] theorem au.afO(x:au)(h:0<x.enc.length):x.enc[0]=D.v (.int .i64 x.Kind):=by
 have:=au.UQ x;rw[anc h]at this;exact apO this
@[simp] theorem au.UR(x:au):x.enc[1]?=some (D.v (.int .i64 x.Op)):=by rw[au.lY];rfl
@[simp] theorem au.afP(x:au)(h:1<x.enc.length):x.enc[1]=D.v (.int .i64 x.Op):=by
 have:=au.UR x;rw[anc h]at this;exact apO this
@[simp] theorem au.US(x:au):x.enc[2]?=some (D.v (.int .i64 x.aI)):=by rw[au.lY];rfl
@[simp] theorem au.afQ(x:au)(h:2<x.enc.length):x.enc[2]=D.v (.int .i64 x.aI):=by
 have:=au.US x;rw[anc h]at this;exact apO this
@[simp] theorem au.UT(x:au):x.enc[3]?=some (D.v (.string x.Name)):=by rw[au.lY];rfl
@[simp] theorem au.afR(x:au)(h:3<x.enc.length):x.enc[3]=D.v (.string x.Name):=by
 have:=au.UT x;rw[anc h]at this;exact apO this
@[simp] theorem au.UU(x:au):x.enc[4]?=some (D.sl (x.av.map au.enc)):=by rw[au.lY];rfl
@[simp] theorem au.afS(x:au)(h:4<x.enc.length):x.enc[4]=D.sl (x.av.map au.enc):=by
 have:=au.UU x;rw[anc h]at this;exact apO this
@[simp] theorem au.X6(L:aH)(x:au):V.mv L (x.enc.map V.d)=x.enc.map V.d:=by simp[au.lY,V.mv,V.fz]
def au.zero:au:= .mk (0) (0) (0) (⟨#[]⟩) ([])
@[simp] theorem au.UP(o:Option au):(o.map au.enc).getD [D.v (.int .i64 0),D.v (.int .i64 0),D.v (.int .i64 0),D.v (.string ⟨#[]⟩),D.sl []]=(o.getD au.zero).enc:=by cases o<;>rfl
@[simp] theorem au.aba(x:au):List.drop 5 (x.enc.map V.d)=[]:=by cases x;rfl
@[simp] theorem au.J1(x:au):x.enc.take 5=x.enc:=by cases x;rfl
@[simp] theorem au.G6(x:au):List.take 5 (x.enc.map V.d)=x.enc.map V.d:=by cases x;rfl
mutual
def au.wf:au->Prop
 | .mk a0 a1 a2 a3 a4=>aN .i64 a0/\aN .i64 a1/\aN .i64 a2/\a3.size<=140737488351232/\a4.length *64<=140737488351232/\au.wu a4
def au.wu:List au->Prop
 | []=>True
 | x::l=>x.wf/\au.wu l
end
theorem au.s8:∀l:List au,au.wu l↔∀y∈l,y.wf
 | []=>by simp[au.wu]
 | x::l=>by rw[au.wu,au.s8 l];simp
theorem au.qu(x:au):x.wf↔aN .i64 x.Kind/\aN .i64 x.Op/\aN .i64 x.aI/\x.Name.size<=140737488351232/\x.av.length *64<=140737488351232/\(∀y0:au,y0∈x.av->y0.wf):=by
 cases x;simp only[au.wf,au.s8];rfl
theorem au.xq{x:au}(h:x.wf):(∀y0:au,y0∈x.av->y0.wf):=((au.qu x).1 h).2.2.2.2.2
theorem aeb:dJ prog 107= .st [3,3,3,9,105]:=by kernel_rfl
theorem SI:dJ prog 105= .sl 107 64:=by kernel_rfl
theorem au.of':∀(n:Nat) {ys:List D},SizeOf.sizeOf ys<n->cJ prog 107 ys->∃x:au,ys=x.enc/\x.wf:=by
 intro n
 induction n with
 | zero=>intro ys h;omega
 | succ n ih=>
 intro ys dW h;have h':=cJ.nU h aeb;obtain⟨a0_,r0,vA,t0,h0⟩:=h';obtain⟨a1_,r1,nK,t1,h1⟩:=h0;obtain⟨a2_,r2,qw,t2,h2⟩:=h1;obtain⟨a3_,r3,SJ,t3,h3⟩:=h2;obtain⟨a4_,r4,hr4,t4,h4⟩:=h3;simp only[Iu]at h4;subst h4;subst hr4;subst SJ;subst qw;subst nK;subst vA;obtain⟨abb,rfl,abc⟩:=cJ.bw t0 cK;obtain⟨abd,rfl,abe⟩:=cJ.bw t1 cK;obtain⟨abf,rfl,abg⟩:=cJ.bw t2 cK;obtain⟨abh,rfl,abi⟩:=cJ.xn t3 Fe;obtain⟨ajz,rfl,abj,ajA,abk⟩:=cJ.oT t4 SI;obtain⟨abl,rfl,abm⟩:=AL (f:=au.enc) (p:=au.wf) (λabn hx=>ih (by have ay:=aqv hx;simp at dW;omega) (abj abn hx));exact⟨.mk abb abd abf abh abl,by rw[au.lY];rfl,by rw[au.wf];exact⟨abc,abe,abg,abi,(by simpa using abk),(au.s8 _).2 abm⟩⟩
theorem au.of{ys:List D}(h:cJ prog 107 ys):∃x:au,ys=x.enc/\x.wf:=au.of' _ (ap5 _) h
inductive al where
 | mk (Kind:Int) (aI:Int) (Name:ByteArray) (av:(List au)) (Body:(List al)) (bC:(List al))
def al.Kind:al->Int
 | .mk a0 a1 a2 a3 a4 a5=>a0
def al.aI:al->Int
 | .mk a0 a1 a2 a3 a4 a5=>a1
def al.Name:al->ByteArray
 | .mk a0 a1 a2 a3 a4 a5=>a2
def al.av:al->(List au)
 | .mk a0 a1 a2 a3 a4 a5=>a3
def al.Body:al->(List al)
 | .mk a0 a1 a2 a3 a4 a5=>a4
def al.bC:al->(List al)
 | .mk a0 a1 a2 a3 a4 a5=>a5
mutual
def al.enc:al->List D
 | .mk a0 a1 a2 a3 a4 a5=> [D.v (.int .i64 a0),D.v (.int .i64 a1),D.v (.string a2),D.sl (a3.map au.enc),D.sl (al.zY a4),D.sl (al.zY a5)]
def al.zY:List al->List (List D)
 | []=> []
 | x::l=>x.enc::al.zY l
end
theorem al.uM:∀l:List al,al.zY l=l.map al.enc
 | []=>rfl
 | x::l=>by rw[al.zY,al.uM l];rfl
theorem al.lY(x:al):x.enc=[D.v (.int .i64 x.Kind),D.v (.int .i64 x.aI),D.v (.string x.Name),D.sl (x.av.map au.enc),D.sl (x.Body.map al.enc),D.sl (x.bC.map al.enc)]:=by
 cases x;simp only[al.enc,al.uM];rfl
@[simp] theorem al.wR(x:al):x.enc.length=6:=by cases x;rfl
@[simp] theorem al.UQ(x:al):x.enc[0]?=some (D.v (.int .i64 x.Kind)):=by rw[al.lY];rfl
@[simp] theorem al.afO(x:al)(h:0<x.enc.length):x.enc[0]=D.v (.int .i64 x.Kind):=by
 have:=al.UQ x;rw[anc h]at this;exact apO this
@[simp] theorem al.UR(x:al):x.enc[1]?=some (D.v (.int .i64 x.aI)):=by rw[al.lY];rfl
@[simp] theorem al.afP(x:al)(h:1<x.enc.length):x.enc[1]=D.v (.int .i64 x.aI):=by
 have:=al.UR x;rw[anc h]at this;exact apO this
@[simp] theorem al.US(x:al):x.enc[2]?=some (D.v (.string x.Name)):=by rw[al.lY];rfl
@[simp] theorem al.afQ(x:al)(h:2<x.enc.length):x.enc[2]=D.v (.string x.Name):=by
 have:=al.US x;rw[anc h]at this;exact apO this
@[simp] theorem al.UT(x:al):x.enc[3]?=some (D.sl (x.av.map au.enc)):=by rw[al.lY];rfl
@[simp] theorem al.afR(x:al)(h:3<x.enc.length):x.enc[3]=D.sl (x.av.map au.enc):=by
 have:=al.UT x;rw[anc h]at this;exact apO this
@[simp] theorem al.UU(x:al):x.enc[4]?=some (D.sl (x.Body.map al.enc)):=by rw[al.lY];rfl
@[simp] theorem al.afS(x:al)(h:4<x.enc.length):x.enc[4]=D.sl (x.Body.map al.enc):=by
 have:=al.UU x;rw[anc h]at this;exact apO this
@[simp] theorem al.ahK(x:al):x.enc[5]?=some (D.sl (x.bC.map al.enc)):=by rw[al.lY];rfl
@[simp] theorem al.alj(x:al)(h:5<x.enc.length):x.enc[5]=D.sl (x.bC.map al.enc):=by
 have:=al.ahK x;rw[anc h]at this;exact apO this
@[simp] theorem al.J1(x:al):x.enc.take 6=x.enc:=by cases x;rfl
@[simp] theorem al.G6(x:al):List.take 6 (x.enc.map V.d)=x.enc.map V.d:=by cases x;rfl
mutual
def al.wf:al->Prop
 | .mk a0 a1 a2 a3 a4 a5=>aN .i64 a0/\aN .i64 a1/\a2.size<=140737488351232/\a3.length *64<=140737488351232/\(∀y0:au,y0∈a3->y0.wf)/\a4.length *104<=140737488351232/\al.wu a4/\a5.length *104<=140737488351232/\al.wu a5
def al.wu:List al->Prop
 | []=>True
 | x::l=>x.wf/\al.wu l
end
theorem al.s8:∀l:List al,al.wu l↔∀y∈l,y.wf
 | []=>by simp[al.wu]
 | x::l=>by rw[al.wu,al.s8 l];simp
theorem al.qu(x:al):x.wf↔aN .i64 x.Kind/\aN .i64 x.aI/\x.Name.size<=140737488351232/\x.av.length *64<=140737488351232/\(∀y0:au,y0∈x.av->y0.wf)/\x.Body.length *104<=140737488351232/\(∀y0:al,y0∈x.Body->y0.wf)/\x.bC.length *104<=140737488351232/\(∀y0:al,y0∈x.bC->y0.wf):=by
 cases x;simp only[al.wf,al.s8];rfl
theorem al.J4{x:al}(h:x.wf):x.av.length *64<=140737488351232:=((al.qu x).1 h).2.2.2.1
theorem al.xq{x:al}(h:x.wf):(∀y0:au,y0∈x.av->y0.wf):=((al.qu x).1 h).2.2.2.2.1
theorem al.Ff{x:al}(h:x.wf):x.Body.length *104<=140737488351232:=((al.qu x).1 h).2.2.2.2.2.1
theorem al.Fg{x:al}(h:x.wf):(∀y0:al,y0∈x.Body->y0.wf):=((al.qu x).1 h).2.2.2.2.2.2.1
theorem al.Fh{x:al}(h:x.wf):x.bC.length *104<=140737488351232:=((al.qu x).1 h).2.2.2.2.2.2.2.1
theorem al.Fi{x:al}(h:x.wf):(∀y0:al,y0∈x.bC->y0.wf):=((al.qu x).1 h).2.2.2.2.2.2.2.2
theorem aec:dJ prog 111= .st [3,3,9,105,109,109]:=by kernel_rfl
theorem J5:dJ prog 109= .sl 111 104:=by kernel_rfl
theorem al.of':∀(n:Nat) {ys:List D},SizeOf.sizeOf ys<n->cJ prog 111 ys->∃x:al,ys=x.enc/\x.wf:=by
 intro n
 induction n with
 | zero=>intro ys h;omega
 | succ n ih=>
 intro ys dW h;have h':=cJ.nU h aec;obtain⟨a0_,r0,vA,t0,h0⟩:=h';obtain⟨a1_,r1,nK,t1,h1⟩:=h0;obtain⟨a2_,r2,qw,t2,h2⟩:=h1;obtain⟨a3_,r3,SJ,t3,h3⟩:=h2;obtain⟨a4_,r4,hr4,t4,h4⟩:=h3;obtain⟨a5_,r5,hr5,t5,h5⟩:=h4;simp only[Iu]at h5;subst h5;subst hr5;subst hr4;subst SJ;subst qw;subst nK;subst vA;obtain⟨abb,rfl,abc⟩:=cJ.bw t0 cK;obtain⟨abd,rfl,abe⟩:=cJ.bw t1 cK;obtain⟨abf,rfl,abg⟩:=cJ.xn t2 Fe;obtain⟨aom,rfl,ajB,aon,abi⟩:=cJ.oT t3 SI;obtain⟨abh,rfl,ajC⟩:=AL (f:=au.enc) (p:=λ(y:au)=>y.wf) (λajD hx=>by
  have ajE:=ajB ajD hx;obtain⟨ahL,rfl,ahM⟩:=au.of ajE;exact⟨ahL,rfl,ahM⟩)
 obtain⟨ajz,rfl,abj,ajA,abk⟩:=cJ.oT t4 J5;obtain⟨abl,rfl,abm⟩:=AL (f:=al.enc) (p:=al.wf) (λabn hx=>ih (by have ay:=aqv hx;simp at dW;omega) (abj abn hx));obtain⟨aoo,rfl,ajF,aop,ajG⟩:=cJ.oT t5 J5;obtain⟨ajH,rfl,ajI⟩:=AL (f:=al.enc) (p:=al.wf) (λajJ hx=>ih (by have ay:=aqv hx;simp at dW;omega) (ajF ajJ hx));exact⟨.mk abb abd abf abh abl ajH,by rw[al.lY];rfl,by rw[al.wf];exact⟨abc,abe,abg,(by simpa using abi),ajC,(by simpa using abk),(al.s8 _).2 abm,(by simpa using ajG),(al.s8 _).2 ajI⟩⟩
theorem al.of{ys:List D}(h:cJ prog 111 ys):∃x:al,ys=x.enc/\x.wf:=al.of' _ (ap5 _) h
structure br where
 Tables:aq
 aF:(List (List al))
def br.enc(x:br):List D:=[D.v (.int .i64 x.Tables.mg),D.v (.int .i64 x.Tables.By),D.v (.int .i64 x.Tables.pk),D.v (.int .i64 x.Tables.Max),D.sl (iI x.Tables.gO),D.v (.int .i64 x.Tables.Flags),D.sl (aD x.Tables.aM),D.sl (aD x.Tables.aW),D.sl (x.Tables.aB.map aZ.enc),D.sl (x.Tables.sC.map ll.enc),D.sl (x.Tables.mU.map mh.enc),D.sl (aD x.Tables.cS),D.sl (aD x.Tables.eu),D.sl (aD x.Tables.Params),D.sl (aD x.Tables.aJ),D.sl (oF (List.map al.enc) x.aF)]
@[simp] theorem br.gs6(x:br):x.enc.length=16/\(∀h:8<x.enc.length,x.enc[8]=D.sl (x.Tables.aB.map aZ.enc))/\(∀h:15<x.enc.length,x.enc[15]=D.sl (oF (List.map al.enc) x.aF)):=by and_intros<;>(intros;rfl)
@[simp] theorem br.X6(L:aH)(x:br):V.mv L (x.enc.map V.d)=x.enc.map V.d:=by simp[br.enc,V.mv,V.fz]
@[simp] theorem br.gs7(x:br):List.take 16 (x.enc.map V.d)=x.enc.map V.d/\List.take 15 (x.enc.map V.d)=x.Tables.enc.map V.d:=by and_intros<;>(intros;rfl)
def br.wf(x:br):Prop:=x.Tables.wf/\x.aF.length *24<=140737488351232/\(∀y0:(List al),y0∈x.aF->y0.length *104<=140737488351232/\(∀y1:al,y1∈y0->y1.wf))
theorem br.vv{x:br}(h:x.wf):x.Tables.wf:=h.1
theorem br.F5{x:br}(h:x.wf):x.aF.length *24<=140737488351232:=h.2.1
theorem br.QU{x:br}(h:x.wf):(∀y0:(List al),y0∈x.aF->y0.length *104<=140737488351232/\(∀y1:al,y1∈y0->y1.wf)):=h.2.2
theorem afT:dJ prog 31= .st [28,29]:=by kernel_rfl
theorem afU:dJ prog 29= .sl 109 24:=by kernel_rfl
theorem br.of{ys:List D}(h:cJ prog 31 ys):∃x:br,ys=x.enc/\x.wf:=by
 obtain⟨_,_,rfl,t0,_,_,rfl,t1,rfl⟩:=h.nU afT;obtain⟨a0,rfl,w0⟩:=aq.of t0;obtain⟨a1,rfl,l1,w1⟩:=t1.nA afU (λh=>h.nA J5 al.of);exact⟨⟨a0,a1⟩,rfl,w0,l1,w1⟩
structure ai where
 aW:(List Int)
 ah:(List Int)
 Child:(List Int)
 Next:(List Int)
 Flags:(List Int)
 aM:(List Int)
 bO:(List Int)
 dN:Int
 Score:Int
 nG:Int
 lq:Int
 It:Int
 Go:Int
 deriving DecidableEq
def ai.enc(x:ai):List D:=[D.sl (aD x.aW),D.sl (aD x.ah),D.sl (aD x.Child),D.sl (aD x.Next),D.sl (aD x.Flags),D.sl (aD x.aM),D.sl (aD x.bO),D.v (.int .u64 x.dN),D.v (.int .i64 x.Score),D.v (.int .i64 x.nG),D.v (.int .i64 x.lq),D.v (.int .i64 x.It),D.v (.int .i64 x.Go)]
@[simp] theorem ai.gs8(x:ai):x.enc.length=13/\(∀h:0<x.enc.length,x.enc[0]=D.sl (aD x.aW))/\(∀h:1<x.enc.length,x.enc[1]=D.sl (aD x.ah))/\(∀h:2<x.enc.length,x.enc[2]=D.sl (aD x.Child))/\(∀h:3<x.enc.length,x.enc[3]=D.sl (aD x.Next))/\(∀h:4<x.enc.length,x.enc[4]=D.sl (aD x.Flags))/\(∀h:5<x.enc.length,x.enc[5]=D.sl (aD x.aM))/\(∀h:6<x.enc.length,x.enc[6]=D.sl (aD x.bO))/\(∀h:8<x.enc.length,x.enc[8]=D.v (.int .i64 x.Score))/\(∀h:9<x.enc.length,x.enc[9]=D.v (.int .i64 x.nG))/\(∀h:10<x.enc.length,x.enc[10]=D.v (.int .i64 x.lq))/\(∀h:11<x.enc.length,x.enc[11]=D.v (.int .i64 x.It))/\(∀h:12<x.enc.length,x.enc[12]=D.v (.int .i64 x.Go)):=by and_intros<;>(intros;rfl)
@[simp] theorem ai.X6(L:aH)(x:ai):V.mv L (x.enc.map V.d)=x.enc.map V.d:=by simp[ai.enc,V.mv,V.fz]
def ai.zero:ai:=⟨[],[],[],[],[],[],[],0,0,0,0,0,0⟩
@[simp] theorem ai.gs9(x:ai):List.drop 13 (x.enc.map V.d)=[]/\List.take 13 (x.enc.map V.d)=x.enc.map V.d:=by and_intros<;>(intros;rfl)
def ai.wf(x:ai):Prop:=x.aW.length *8<=140737488351232/\(∀y0:Int,y0∈x.aW->aN .i64 y0)/\x.ah.length *8<=140737488351232/\(∀y0:Int,y0∈x.ah->aN .i64 y0)/\x.Child.length *8<=140737488351232/\(∀y0:Int,y0∈x.Child->aN .i64 y0)/\x.Next.length *8<=140737488351232/\(∀y0:Int,y0∈x.Next->aN .i64 y0)/\x.Flags.length *8<=140737488351232/\(∀y0:Int,y0∈x.Flags->aN .i64 y0)/\x.aM.length *8<=140737488351232/\(∀y0:Int,y0∈x.aM->aN .i64 y0)/\x.bO.length *8<=140737488351232/\(∀y0:Int,y0∈x.bO->aN .i64 y0)/\aN .u64 x.dN/\aN .i64 x.Score/\aN .i64 x.nG/\aN .i64 x.lq/\aN .i64 x.It/\aN .i64 x.Go
theorem ai.oH{x:ai}(h:x.wf):x.aW.length *8<=140737488351232:=h.1
theorem ai.jB{x:ai}(h:x.wf):x.ah.length *8<=140737488351232:=h.2.2.1
theorem ai.abo{x:ai}(h:x.wf):x.Child.length *8<=140737488351232:=h.2.2.2.2.1
theorem ai.aed{x:ai}(h:x.wf):x.Next.length *8<=140737488351232:=h.2.2.2.2.2.2.1
theorem ai.Oz{x:ai}(h:x.wf):x.Flags.length *8<=140737488351232:=h.2.2.2.2.2.2.2.2.1
theorem ai.qq{x:ai}(h:x.wf):x.aM.length *8<=140737488351232:=h.2.2.2.2.2.2.2.2.2.2.1
theorem ai.Lm{x:ai}(h:x.wf):x.bO.length *8<=140737488351232:=h.2.2.2.2.2.2.2.2.2.2.2.2.1
theorem afV:dJ prog 34= .st [23,23,23,23,23,23,23,32,3,3,3,3,3]:=by kernel_rfl
theorem afW:dJ prog 32= .int .u64:=by kernel_rfl
theorem ai.of{ys:List D}(h:cJ prog 34 ys):∃x:ai,ys=x.enc/\x.wf:=by
 obtain⟨_,_,rfl,t0,_,_,rfl,t1,_,_,rfl,t2,_,_,rfl,t3,_,_,rfl,t4,_,_,rfl,t5,_,_,rfl,t6,_,_,rfl,t7,_,_,rfl,t8,_,_,rfl,t9,_,_,rfl,t10,_,_,rfl,t11,_,_,rfl,t12,rfl⟩:=h.nU afV;obtain⟨a0,rfl,l0,w0⟩:=t0.nA la (λh=>h.bw cK);obtain⟨a1,rfl,l1,w1⟩:=t1.nA la (λh=>h.bw cK);obtain⟨a2,rfl,l2,w2⟩:=t2.nA la (λh=>h.bw cK);obtain⟨a3,rfl,l3,w3⟩:=t3.nA la (λh=>h.bw cK);obtain⟨a4,rfl,l4,w4⟩:=t4.nA la (λh=>h.bw cK);obtain⟨a5,rfl,l5,w5⟩:=t5.nA la (λh=>h.bw cK);obtain⟨a6,rfl,l6,w6⟩:=t6.nA la (λh=>h.bw cK);obtain⟨a7,rfl,w7⟩:=t7.bw afW;obtain⟨a8,rfl,w8⟩:=t8.bw cK;obtain⟨a9,rfl,w9⟩:=t9.bw cK;obtain⟨a10,rfl,w10⟩:=t10.bw cK;obtain⟨a11,rfl,w11⟩:=t11.bw cK;obtain⟨a12,rfl,w12⟩:=t12.bw cK;exact⟨⟨a0,a1,a2,a3,a4,a5,a6,a7,a8,a9,a10,a11,a12⟩,rfl,l0,w0,l1,w1,l2,w2,l3,w3,l4,w4,l5,w5,l6,w6,w7,w8,w9,w10,w11,w12⟩
structure cH where
 qt:Int
 Second:Int
 Number:Int
 deriving DecidableEq
def cH.enc(x:cH):List D:=[D.v (.int .i64 x.qt),D.v (.int .i64 x.Second),D.v (.int .i64 x.Number)]
@[simp] theorem cH.aoq(x:cH):x.enc.length=3/\(∀h:0<x.enc.length,x.enc[0]=D.v (.int .i64 x.qt))/\(∀h:1<x.enc.length,x.enc[1]=D.v (.int .i64 x.Second))/\(∀h:2<x.enc.length,x.enc[2]=D.v (.int .i64 x.Number)):=by and_intros<;>(intros;rfl)
@[simp] theorem cH.eqV(x y:cH):JI (x.enc.map V.d) (y.enc.map V.d)=some (decide (x=y)):=by
 rcases x with⟨a_0,a_1,a_2⟩
 rcases y with⟨b_0,b_1,b_2⟩
 simp only[cH.enc,List.map,JI,vT,lR,NH,if_true,akC,bytes_beq];rw[arv];simp[and_assoc]
@[simp] theorem cH.aor(x:cH):wL [.i .i64,.i .i64,.i .i64] (x.enc.map V.d)=true:=by
 simp[cH.enc,wL,vT,fits,NI]
def cH.zero:cH:=⟨0,0,0⟩
@[simp] theorem cH.G6(x:cH):List.take 3 (x.enc.map V.d)=x.enc.map V.d:= .trans rfl rfl
def cH.wf(x:cH):Prop:=aN .i64 x.qt/\aN .i64 x.Second/\aN .i64 x.Number
theorem afX:dJ prog 36= .st [3,3,3]:=by kernel_rfl
theorem cH.of{ys:List D}(h:cJ prog 36 ys):∃x:cH,ys=x.enc/\x.wf:=by
 obtain⟨_,_,rfl,t0,_,_,rfl,t1,_,_,rfl,t2,rfl⟩:=h.nU afX;obtain⟨a0,rfl,w0⟩:=t0.bw cK;obtain⟨a1,rfl,w1⟩:=t1.bw cK;obtain⟨a2,rfl,w2⟩:=t2.bw cK;exact⟨⟨a0,a1,a2⟩,rfl,w0,w1,w2⟩
structure qW where
 dF:Int
 Fuel:Int
 Steps:Int
 av:(List Int)
 Env:cH
 deriving DecidableEq
def qW.enc(x:qW):List D:=[D.v (.int .i64 x.dF),D.v (.int .i64 x.Fuel),D.v (.int .i64 x.Steps),D.sl (aD x.av),D.v (.int .i64 x.Env.qt),D.v (.int .i64 x.Env.Second),D.v (.int .i64 x.Env.Number)]
@[simp] theorem qW.aos(x:qW):x.enc.length=7/\(∀h:0<x.enc.length,x.enc[0]=D.v (.int .i64 x.dF))/\(∀h:1<x.enc.length,x.enc[1]=D.v (.int .i64 x.Fuel))/\(∀h:2<x.enc.length,x.enc[2]=D.v (.int .i64 x.Steps))/\(∀h:3<x.enc.length,x.enc[3]=D.sl (aD x.av))/\List.drop 4 (x.enc.map V.d)=x.Env.enc.map V.d:=by and_intros<;>(intros;rfl)
def qW.wf(x:qW):Prop:=aN .i64 x.dF/\aN .i64 x.Fuel/\aN .i64 x.Steps/\x.av.length *8<=140737488351232/\(∀y0:Int,y0∈x.av->aN .i64 y0)/\x.Env.wf
theorem afY:dJ prog 38= .st [3,3,3,23,36]:=by kernel_rfl
theorem qW.of{ys:List D}(h:cJ prog 38 ys):∃x:qW,ys=x.enc/\x.wf:=by
 obtain⟨_,_,rfl,t0,_,_,rfl,t1,_,_,rfl,t2,_,_,rfl,t3,_,_,rfl,t4,rfl⟩:=h.nU afY;obtain⟨a0,rfl,w0⟩:=t0.bw cK;obtain⟨a1,rfl,w1⟩:=t1.bw cK;obtain⟨a2,rfl,w2⟩:=t2.bw cK;obtain⟨a3,rfl,l3,w3⟩:=t3.nA la (λh=>h.bw cK);obtain⟨a4,rfl,w4⟩:=cH.of t4;exact⟨⟨a0,a1,a2,a3,a4⟩,rfl,w0,w1,w2,l3,w3,w4⟩
structure an where
 Tables:aq
 Entry:(List Int)
 Code:(List Int)
 deriving DecidableEq
def an.enc(x:an):List D:=[D.v (.int .i64 x.Tables.mg),D.v (.int .i64 x.Tables.By),D.v (.int .i64 x.Tables.pk),D.v (.int .i64 x.Tables.Max),D.sl (iI x.Tables.gO),D.v (.int .i64 x.Tables.Flags),D.sl (aD x.Tables.aM),D.sl (aD x.Tables.aW),D.sl (x.Tables.aB.map aZ.enc),D.sl (x.Tables.sC.map ll.enc),D.sl (x.Tables.mU.map mh.enc),D.sl (aD x.Tables.cS),D.sl (aD x.Tables.eu),D.sl (aD x.Tables.Params),D.sl (aD x.Tables.aJ),D.sl (aD x.Entry),D.sl (x.Code.map λy=> [D.v (.int .u8 y)])]
@[simp] theorem an.aot(x:an):x.enc.length=17/\(∀h:13<x.enc.length,x.enc[13]=D.sl (aD x.Tables.Params))/\(∀h:14<x.enc.length,x.enc[14]=D.sl (aD x.Tables.aJ))/\(∀h:15<x.enc.length,x.enc[15]=D.sl (aD x.Entry))/\(∀h:16<x.enc.length,x.enc[16]=D.sl (x.Code.map λy=> [D.v (.int .u8 y)])):=by and_intros<;>(intros;rfl)
@[simp] theorem an.X6(L:aH)(x:an):V.mv L (x.enc.map V.d)=x.enc.map V.d:=by simp[an.enc,V.mv,V.fz]
def an.zero:an:=⟨aq.zero,[],[]⟩
@[simp] theorem an.aou(x:an):List.take 17 (x.enc.map V.d)=x.enc.map V.d/\List.take 15 (x.enc.map V.d)=x.Tables.enc.map V.d:=by and_intros<;>(intros;rfl)
theorem ahN:dJ prog 5= .int .u8:=by kernel_rfl
structure jh where
 kC:Int
 World:ai
 Out:ByteArray
 Value:Int
 lI:Bool
 Fuel:Int
 deriving DecidableEq
def jh.enc(x:jh):List D:=[D.v (.int .i64 x.kC),D.sl (aD x.World.aW),D.sl (aD x.World.ah),D.sl (aD x.World.Child),D.sl (aD x.World.Next),D.sl (aD x.World.Flags),D.sl (aD x.World.aM),D.sl (aD x.World.bO),D.v (.int .u64 x.World.dN),D.v (.int .i64 x.World.Score),D.v (.int .i64 x.World.nG),D.v (.int .i64 x.World.lq),D.v (.int .i64 x.World.It),D.v (.int .i64 x.World.Go),D.v (.string x.Out),D.v (.int .i64 x.Value),D.v (.bool x.lI),D.v (.int .i64 x.Fuel)]
@[simp] theorem jh.aov(x:jh):x.enc.length=18/\(∀h:0<x.enc.length,x.enc[0]=D.v (.int .i64 x.kC))/\(∀h:14<x.enc.length,x.enc[14]=D.v (.string x.Out))/\(∀h:15<x.enc.length,x.enc[15]=D.v (.int .i64 x.Value))/\(∀h:16<x.enc.length,x.enc[16]=D.v (.bool x.lI))/\(∀h:17<x.enc.length,x.enc[17]=D.v (.int .i64 x.Fuel)):=by and_intros<;>(intros;rfl)
@[simp] theorem jh.X6(L:aH)(x:jh):V.mv L (x.enc.map V.d)=x.enc.map V.d:=by simp[jh.enc,V.mv,V.fz]
def jh.zero:jh:=⟨0,ai.zero,⟨#[]⟩,0,false,0⟩
@[simp] theorem jh.aow(x:jh):List.drop 18 (x.enc.map V.d)=[]/\List.take 18 (x.enc.map V.d)=x.enc.map V.d:=by and_intros<;>(intros;rfl)
structure aG where
 dF:Int
 At:Int
 cE:Int
 aJ:(List Int)
 deriving DecidableEq
def aG.enc(x:aG):List D:=[D.v (.int .i64 x.dF),D.v (.int .i64 x.At),D.v (.int .i64 x.cE),D.sl (aD x.aJ)]
@[simp] theorem aG.wR(x:aG):x.enc.length=4:= .trans rfl rfl
@[simp] theorem aG.aox(x:aG):(∀h:1<x.enc.length,x.enc[1]=D.v (.int .i64 x.At))/\(∀h:2<x.enc.length,x.enc[2]=D.v (.int .i64 x.cE))/\(∀h:3<x.enc.length,x.enc[3]=D.sl (aD x.aJ)):=by and_intros<;>(intros;rfl)
def aG.zero:aG:=⟨0,0,0,[]⟩
theorem aG.cellAt(l:List aG)(i j:Nat)(z:D)(h:aG.zero.enc[j]?=some z):cellAt (dd (l.map aG.enc)) i j [V.d z]=V.d (((l[i]?.getD aG.zero).enc[j]?).getD default):=by
 unfold Go.Ab.cellAt;rw[Od,apS];cases hl:l[i]? with
 | none=>simp[h]
 | some a=>
   have hj:=(apQ.1 h).1;have tO:j<a.enc.length:=by rw[aG.wR]at hj⊢;exact hj
   simp only[aqe,apS,anc tO,aqF]
@[simp] theorem aG.ajK(l:List aG)(i:Nat):Go.Ab.cellAt (dd (l.map aG.enc)) i 1 [V.d (D.v (.int .i64 0))]=V.d (D.v (.int .i64 (l[i]?.getD aG.zero).At)):=(aG.cellAt l i 1 (D.v (.int .i64 0)) rfl).trans (by simp)
@[simp] theorem aG.ajL(l:List aG)(i:Nat):Go.Ab.cellAt (dd (l.map aG.enc)) i 2 [V.d (D.v (.int .i64 0))]=V.d (D.v (.int .i64 (l[i]?.getD aG.zero).cE)):=(aG.cellAt l i 2 (D.v (.int .i64 0)) rfl).trans (by simp)
@[simp] theorem aG.ajM(l:List aG)(i:Nat):Go.Ab.cellAt (dd (l.map aG.enc)) i 3 [V.d (D.sl [])]=V.d (D.sl (aD (l[i]?.getD aG.zero).aJ)):=(aG.cellAt l i 3 (D.sl []) rfl).trans (by simp)
@[simp] theorem aG.aba(x:aG):List.drop 4 (x.enc.map V.d)=[]:= .trans rfl rfl
structure aj where
 Frames:(List aG)
 Stack:(List Int)
 Env:cH
 Told:jh
 bX:Bool
 deriving DecidableEq
def aj.enc(x:aj):List D:=[D.sl (x.Frames.map aG.enc),D.sl (aD x.Stack),D.v (.int .i64 x.Env.qt),D.v (.int .i64 x.Env.Second),D.v (.int .i64 x.Env.Number),D.v (.int .i64 x.Told.kC),D.sl (aD x.Told.World.aW),D.sl (aD x.Told.World.ah),D.sl (aD x.Told.World.Child),D.sl (aD x.Told.World.Next),D.sl (aD x.Told.World.Flags),D.sl (aD x.Told.World.aM),D.sl (aD x.Told.World.bO),D.v (.int .u64 x.Told.World.dN),D.v (.int .i64 x.Told.World.Score),D.v (.int .i64 x.Told.World.nG),D.v (.int .i64 x.Told.World.lq),D.v (.int .i64 x.Told.World.It),D.v (.int .i64 x.Told.World.Go),D.v (.string x.Told.Out),D.v (.int .i64 x.Told.Value),D.v (.bool x.Told.lI),D.v (.int .i64 x.Told.Fuel),D.v (.bool x.bX)]
@[simp] theorem aj.aoy(x:aj):x.enc.length=24/\(∀h:0<x.enc.length,x.enc[0]=D.sl (x.Frames.map aG.enc))/\(∀h:1<x.enc.length,x.enc[1]=D.sl (aD x.Stack))/\(∀h:5<x.enc.length,x.enc[5]=D.v (.int .i64 x.Told.kC))/\(∀h:19<x.enc.length,x.enc[19]=D.v (.string x.Told.Out))/\(∀h:20<x.enc.length,x.enc[20]=D.v (.int .i64 x.Told.Value))/\(∀h:22<x.enc.length,x.enc[22]=D.v (.int .i64 x.Told.Fuel))/\(∀h:23<x.enc.length,x.enc[23]=D.v (.bool x.bX)):=by and_intros<;>(intros;rfl)
def aj.zero:aj:=⟨[],[],cH.zero,jh.zero,false⟩
@[simp] theorem aj.aoz(x:aj):List.drop 24 (x.enc.map V.d)=[]/\List.take 24 (x.enc.map V.d)=x.enc.map V.d/\List.take 3 (List.drop 2 (x.enc.map V.d))=x.Env.enc.map V.d/\List.take 18 (List.drop 5 (x.enc.map V.d))=x.Told.enc.map V.d:=by and_intros<;>(intros;rfl)
structure fi where
 B:br
 W:ai
 dF:Int
 av:(List Int)
 Env:cH
 Fuel:Int
def fi.enc(x:fi):List D:=[D.v (.int .i64 x.B.Tables.mg),D.v (.int .i64 x.B.Tables.By),D.v (.int .i64 x.B.Tables.pk),D.v (.int .i64 x.B.Tables.Max),D.sl (iI x.B.Tables.gO),D.v (.int .i64 x.B.Tables.Flags),D.sl (aD x.B.Tables.aM),D.sl (aD x.B.Tables.aW),D.sl (x.B.Tables.aB.map aZ.enc),D.sl (x.B.Tables.sC.map ll.enc),D.sl (x.B.Tables.mU.map mh.enc),D.sl (aD x.B.Tables.cS),D.sl (aD x.B.Tables.eu),D.sl (aD x.B.Tables.Params),D.sl (aD x.B.Tables.aJ),D.sl (oF (List.map al.enc) x.B.aF),D.sl (aD x.W.aW),D.sl (aD x.W.ah),D.sl (aD x.W.Child),D.sl (aD x.W.Next),D.sl (aD x.W.Flags),D.sl (aD x.W.aM),D.sl (aD x.W.bO),D.v (.int .u64 x.W.dN),D.v (.int .i64 x.W.Score),D.v (.int .i64 x.W.nG),D.v (.int .i64 x.W.lq),D.v (.int .i64 x.W.It),D.v (.int .i64 x.W.Go),D.v (.int .i64 x.dF),D.sl (aD x.av),D.v (.int .i64 x.Env.qt),D.v (.int .i64 x.Env.Second),D.v (.int .i64 x.Env.Number),D.v (.int .i64 x.Fuel)]
@[simp] theorem fi.aoA(x:fi):x.enc.length=35/\(∀h:29<x.enc.length,x.enc[29]=D.v (.int .i64 x.dF))/\(∀h:30<x.enc.length,x.enc[30]=D.sl (aD x.av))/\(∀h:34<x.enc.length,x.enc[34]=D.v (.int .i64 x.Fuel))/\List.take 35 (x.enc.map V.d)=x.enc.map V.d/\List.take 16 (x.enc.map V.d)=x.B.enc.map V.d/\List.take 13 (List.drop 16 (x.enc.map V.d))=x.W.enc.map V.d/\List.take 3 (List.drop 31 (x.enc.map V.d))=x.Env.enc.map V.d:=by and_intros<;>(intros;rfl)
def fi.wf(x:fi):Prop:=x.B.wf/\x.W.wf/\aN .i64 x.dF/\x.av.length *8<=140737488351232/\(∀y0:Int,y0∈x.av->aN .i64 y0)/\x.Env.wf/\aN .i64 x.Fuel
theorem fi.afw{x:fi}(h:x.wf):x.B.wf:=h.1
theorem fi.aaN{x:fi}(h:x.wf):x.W.wf:=h.2.1
theorem afZ:dJ prog 58= .st [31,34,3,23,36,3]:=by kernel_rfl
theorem fi.of{ys:List D}(h:cJ prog 58 ys):∃x:fi,ys=x.enc/\x.wf:=by
 obtain⟨_,_,rfl,t0,_,_,rfl,t1,_,_,rfl,t2,_,_,rfl,t3,_,_,rfl,t4,_,_,rfl,t5,rfl⟩:=h.nU afZ;obtain⟨a0,rfl,w0⟩:=br.of t0;obtain⟨a1,rfl,w1⟩:=ai.of t1;obtain⟨a2,rfl,w2⟩:=t2.bw cK;obtain⟨a3,rfl,l3,w3⟩:=t3.nA la (λh=>h.bw cK);obtain⟨a4,rfl,w4⟩:=cH.of t4;obtain⟨a5,rfl,w5⟩:=t5.bw cK;exact⟨⟨a0,a1,a2,a3,a4,a5⟩,rfl,w0,w1,w2,l3,w3,w4,w5⟩
structure ae where
 Op:Int
 Arg:Int
 deriving DecidableEq
def ae.enc(x:ae):List D:=[D.v (.int .i64 x.Op),D.v (.int .i64 x.Arg)]
@[simp] theorem ae.aoB(x:ae):x.enc.length=2/\(∀h:0<x.enc.length,x.enc[0]=D.v (.int .i64 x.Op))/\(∀h:1<x.enc.length,x.enc[1]=D.v (.int .i64 x.Arg)):=by and_intros<;>(intros;rfl)
@[simp] theorem ae.X6(L:aH)(x:ae):V.mv L (x.enc.map V.d)=x.enc.map V.d:=by simp[ae.enc,V.mv,V.fz]
def ae.zero:ae:=⟨0,0⟩
@[simp] theorem ae.UP(o:Option ae):(o.map ae.enc).getD [D.v (.int .i64 0),D.v (.int .i64 0)]=(o.getD ae.zero).enc:=by cases o<;>rfl
@[simp] theorem ae.aoC(x:ae):x.enc.take 2=x.enc/\List.take 2 (x.enc.map V.d)=x.enc.map V.d:=by and_intros<;>(intros;rfl)
section
variable {P : Program} {n : Nat} {s : St} {Q : AX -> St -> Prop} {L : aH}
structure Pure(P:Program) (f:FuncId) (args:List V) (x:V):Prop where
 en:enters P f=true
 on:V.dA [] args=true
 rn:x.on []=true
 calls:aE P f args [] (λr _=>r= .ret x)
theorem Pure.run{f}{args}{x}{fn}{c}(hf:P.funcs[f]?=some fn)(hb:fn.body=some c)(hs:args.length≤fn.ntmps∧enters P f=true∧V.dA [] args=true∧x.on []=true)
  (h:cP P fn.ntmps c ⟨eH 0 args,[]⟩ (cm P fn.ntmps (fj P fn.results.toList (λr L'=>∃y,r= .ret y/\y.fz L'=x)) [])):Pure P f args x:=
 ⟨hs.2.1,hs.2.2.1,hs.2.2.2,(aE.data (aE.run hf hb hs.1 h) hs.2.2.2).mono λ_ _ h=>h.1⟩
theorem rn{f:FuncId}{args:List V}{x:V}{fn:Func}{c:Code}(hf:P.funcs[f]?=some fn)(h:cP P fn.ntmps c ⟨eH 0 args,[]⟩ (cm P fn.ntmps (fj P fn.results.toList (fun r L'=>∃y,r= .ret y∧y.fz L'=x)) []))
  (hb:fn.body=some c:=by exact rfl) (hn:Nat.ble args.length fn.ntmps=true:=by exact rfl) (he:enters P f=true:=by kernel_rfl) (ho:V.dA [] args=true/\x.on []=true:=by simp):Pure P f args x:=Pure.run hf hb ⟨Nat.le_of_ble_eq_true hn,he,ho.1,ho.2⟩ h
theorem Pure.eq{f args mj x x'}(h:Pure P f args x)(ha:args=mj)(hx:x=x'):Pure P f mj x':=by subst ha;subst hx;exact h
theorem Pure.ok{f args x}(h:Pure P f args x) L:lU P f args L x:=lU.pure h.en h.on h.rn h.calls
structure Kept(P:Program) (f:FuncId) (args:List V) (L1:aH) (x:V):Prop where
 en:enters P f=true
 on:V.dA (keys L1) args=true
 onL:L1.all (λp=>aV.on (keys L1) p.2&&fp p.2)=true
 rn:x.nS=true
 calls:aE P f args L1 (λr L'=>r= .ret x/\L'=L1)
theorem ar.bA{ops}{o:Oper}{rest}{c}{f}{args}{x}(aP:o.op= .call c)(h:Pure P f args x)(hc:callee s.ev c=some (f,args))(hg:o.guard=none)
  (hd:∀d,o.dst=some d->d<n) (hr:dB n rest=true) (k:∀bs,eN P ops rest (s.put o.dst x) bs [] (KK P n ops Q)):ar P n ops (o::rest) s Q:=
 ar.Ij hg hd (qk.call aP hc h.en h.on h.rn h.calls) (bf rest _ [] hr k)
theorem ar.Ix{ops}{o:Oper}{rest}{c}{f}{args mj}{x}(aP:o.op= .call c)(h:Pure P f mj x)(hc:callee s.ev c=some (f,args))(ha:V.mv s.L args=mj)(hx:x.nS=true)(hg:o.guard=none)
  (hd:∀d,o.dst=some d->d<n) (hr:dB n rest=true) (k:∀bs,eN P ops rest (s.put o.dst x) bs [] (KK P n ops Q)):ar P n ops (o::rest) s Q:=by
 subst ha;exact ar.Ij hg hd (qk.ajp aP hc h.en h.on hx h.calls) (bf rest _ [] hr k)
theorem pC{ops:Array Oper}{o:Oper}{rest:List Oper}{c:Call}{f:FuncId}{args:List V}{x:V}(h:Pure P f args x)(k:∀bs,eN P ops rest (s.put o.dst x) bs [] (KK P n ops Q))(aP:o.op= .call c:=by exact rfl)(hc:callee s.ev c=some (f,args):=by exact rfl)(hg:o.guard=none:=by exact rfl)
  (hd:∀d,o.dst=some d->d<n:=by simp) (hr:dB n rest=true:=by exact rfl):ar P n ops (o::rest) s Q:=ar.bA aP h hc hg hd hr k
theorem lC{ops:Array Oper}{o:Oper}{rest:List Oper}{c:Call}{f:FuncId}{args mj:List V}{x:V}(h:Pure P f mj x)(k:∀bs,eN P ops rest (s.put o.dst x) bs [] (KK P n ops Q))(aP:o.op= .call c:=by exact rfl)(hc:callee s.ev c=some (f,args):=by exact rfl)(ha:V.mv s.L args=mj:=by simp)(hx:x.nS=true:=by exact rfl)(hg:o.guard=none:=by exact rfl)
  (hd:∀d,o.dst=some d->d<n:=by simp) (hr:dB n rest=true:=by exact rfl):ar P n ops (o::rest) s Q:=ar.Ix aP h hc ha hx hg hd hr k
theorem ar.ajN{ops}{o:Oper}{rest}{c}{f}{args}{L1}{R}(hs:List Nat)(aP:o.op= .call c)(h:aE P f args L1 R)(hc:callee s.ev c=some (f,args))(hg:o.guard=none)
  (hd:∀d,o.dst=some d->d<n) (hr:dB n rest=true) (he:enters P f=true) (hL:s.L.filter (λp=>hs.contains p.1)=L1)
  (ho:V.dA (keys L1) args=true) (iu:L1.all (λp=>aV.on (keys L1) p.2)=true)
  (ia:s.fr.all (λp=>V.on (keys (s.L.filter λp=>!hs.contains p.1)++(L1.filterMap λp=>match p.2 with|.box (_+1) _ _=>some p.1|_=>none)) p.2)=true)
  (ja:(s.L.filter λp=>!hs.contains p.1).all (λp=>aV.on (keys (s.L.filter λp=>!hs.contains p.1)++(L1.filterMap λp=>match p.2 with|.box (_+1) _ _=>some p.1|_=>none)) p.2)=true)
  (qV:∀r bh,R r bh->(∃x,r= .ret x)/\(∀k∈keys bh,k∉keys (s.L.filter λp=>!hs.contains p.1))/\∀k b ty cs,(k,aV.box (b+1) ty cs)∈L1->∃mw jL,(k,aV.box (b+1) mw jL)∈bh)
  (k:∀x bh,R (.ret x) bh->∀bs,eN P ops rest (St.put {s with L:=bh++s.L.filter λp=>!hs.contains p.1} o.dst x) bs [] (KK P n ops Q)):ar P n ops (o::rest) s Q:=
 ar.ahF hg hd aP hc he ho (by subst hL;exact(aqD _ s.L).symm) iu (λp hp=>apR.1 ia p hp) (λp hp=>apR.1 ja p hp) h qV
  (λx bh hR=>bf rest _ [] hr (k x bh hR))
def mV:aV->Option Nat
 | .box b _ _=>some b
 | _=>none
attribute [simp] mV
theorem SL(L1:aH):(L1.filterMap λp=>match p.2 with|.box (_+1) _ _=>some p.1|_=>none)=keys (L1.filter λp=>fp p.2):=by
 induction L1 with
 | nil=>rfl
 | cons p l ih=>
   obtain⟨a,r⟩:=p;cases r with
   | box b ty cs=>
     cases b with
     | succ b=>simp only[arq,aqG,fp,if_true,keys,aqd,ih]
     | zero=>
       simp only[arq,aqG,fp,ih];simp
   | row ty k xs=>
     simp only[arq,aqG,fp,ih];simp
   | env A=>
     simp only[arq,aqG,fp,ih];simp
   | mp es=>
     simp only[arq,aqG,fp,ih];simp
theorem SM{L1 bh:aH}(ho:L1.all (λp=>!fp p.2||bh.any (λq=>q.1==p.1&&(fp q.2&&mV q.2==mV p.2)))=true){k b:Nat}{ty:TypeId}{cs:List V}(hm:(k,aV.box (b+1) ty cs)∈L1):∃mw jL,(k,aV.box (b+1) mw jL)∈bh:=by
 have:=apR.1 ho _ hm;simp only[fp,Bool.not_true,Bool.false_or,art,apP,beq_iff_eq]at this;obtain⟨⟨a,r⟩,h1,h2,h3,h4⟩:=this;simp only at h2;subst h2;cases r with
 | box b' mw jL=>
   simp only[mV,akC]at h4;subst h4;exact⟨mw,jL,h1⟩
 | row _ _ _=>simp at h3
 | env _=>simp at h3
 | mp _=>simp at h3
theorem ar.ej{ops:Array Oper}{o:Oper}{rest:List Oper}{c:Call}{f:FuncId}{args:List V}{L1 bh:aH}{x:V}(hs:List Nat)(aP:o.op= .call c)(h:aE P f args L1 (fun r L=>r= .ret x∧L=bh))(hc:callee s.ev c=some (f,args))(hg:o.guard=none)
  (hd:∀d,o.dst=some d->d<n) (hr:dB n rest=true) (he:enters P f=true) (hL:s.L.filter (λp=>hs.contains p.1)=L1)
  (ho:V.dA (keys L1) args=true/\L1.all (λp=>aV.on (keys L1) p.2)=true/\L1.all (λp=>!fp p.2||bh.any (λq=>q.1==p.1&&(fp q.2&&mV q.2==mV p.2)))=true)
  (ia:s.fr.all (λp=>V.on (keys (s.L.filter λp=>!hs.contains p.1)++keys (L1.filter λp=>fp p.2)) p.2)=true)
  (ja:(s.L.filter λp=>!hs.contains p.1).all (λp=>aV.on (keys (s.L.filter λp=>!hs.contains p.1)++keys (L1.filter λp=>fp p.2)) p.2)=true)
  (hk:(keys bh).all (λk=>!(keys (s.L.filter λp=>!hs.contains p.1)).contains k)=true)
  (k:∀bs,eN P ops rest (St.put {s with L:=bh++s.L.filter λp=>!hs.contains p.1} o.dst x) bs [] (KK P n ops Q)):ar P n ops (o::rest) s Q:=by
 have gS:=SL L1;refine ar.ajN hs aP h hc hg hd hr he hL ho.1 ho.2.1 (by rw[gS];exact ia) (by rw[gS];exact ja) ?_ ?_
 ·rintro r uI ⟨rfl,rfl⟩;refine⟨⟨_,rfl⟩,λk pL=>?_,λk b ty cs hm=>?_⟩
  ·have:=apR.1 hk k pL;simpa using this
  ·exact SM ho.2.2 hm
 ·rintro x' uI ⟨e,rfl⟩;obtain rfl:=AE.ret.inj e;exact k
theorem eD{ops:Array Oper}{o:Oper}{rest:List Oper}{c:Call}{f:FuncId}{args:List V}{L1 bh:aH}{x:V}(hs:List Nat)(h:aE P f args L1 (fun r L=>r= .ret x∧L=bh))
  (k:∀bs,eN P ops rest (St.put {s with L:=bh++s.L.filter λp=>!hs.contains p.1} o.dst x) bs [] (KK P n ops Q)) (aP:o.op= .call c:=by exact rfl) (hc:callee s.ev c=some (f,args):=by simp) (hg:o.guard=none:=by exact rfl)
  (hd:∀d,o.dst=some d->d<n:=by simp) (hr:dB n rest=true:=by exact rfl) (he:enters P f=true:=by kernel_rfl) (hL:s.L.filter (λp=>hs.contains p.1)=L1:=by first|rfl|simp)
  (ho:V.dA (keys L1) args=true/\L1.all (λp=>aV.on (keys L1) p.2)=true/\L1.all (λp=>!fp p.2||bh.any (λq=>q.1==p.1&&(fp q.2&&mV q.2==mV p.2)))=true:=by simp)
  (ia:s.fr.all (λp=>V.on (keys (s.L.filter λp=>!hs.contains p.1)++keys (L1.filter λp=>fp p.2)) p.2)=true:=by simp)
  (ja:(s.L.filter λp=>!hs.contains p.1).all (λp=>aV.on (keys (s.L.filter λp=>!hs.contains p.1)++keys (L1.filter λp=>fp p.2)) p.2)=true:=by simp)
  (hk:(keys bh).all (λk=>!(keys (s.L.filter λp=>!hs.contains p.1)).contains k)=true:=by simp):ar P n ops (o::rest) s Q:=ar.ej hs aP h hc hg hd hr he hL ho ia ja hk k
def upF(fr:List (Nat×V))(ov:List (Nat×V)):List (Nat×V):=fr.map λp=>(p.1,(ov.lookup p.1).getD p.2)
def Iy(L:aH)(ov:List (Nat×aV)):aH:=L.map λp=>(p.1,(ov.lookup p.1).getD p.2)
def St.up(s:St)(F:List (Nat×V))(R:List (Nat×aV)):St:=⟨upF s.fr F,Iy s.L R⟩
def adf(ts hs:List Nat)(S:Nat->St)(N:Nat)(H:Nat->Prop)(i:Nat)(s:St):Prop:=(s.pick ts hs).on (keys (s.pick ts hs).L)=true/\i<N/\s.pick ts hs=S (i+1)/\H (i+1)
theorem aw.cX{c}{ks} ts N(F:Nat→List (Nat×V))(R:Nat→List (Nat×aV)) H(ht:ts.all (fun t=>decide (t < n))=true)
  (h0:(keys s.L).Nodup/\(s.pick ts (keys s.L)).on (keys (s.pick ts (keys s.L)).L)=true/\s.pick ts (keys s.L)=(s.pick ts (keys s.L)).up (F 0) (R 0)/\H 0)
  (round:∀i,i<=N->H i->cP P n c ((s.pick ts (keys s.L)).up (F i) (R i)) (cm P n Q (.inv (adf ts (keys s.L) (λi=>(s.pick ts (keys s.L)).up (F i) (R i)) N H i)::ks))):
  aw P n (.loop c) s (cm P n Q ks):=by
 obtain⟨h1,h2,h3,h4⟩:=h0;refine aw.weaken (Wk.pick ts (keys s.L) ht h1 h2) (aw.loop (λk st=>∃i,k=N-i/\i<=N/\H i/\st=(s.pick ts (keys s.L)).up (F i) (R i)) ⟨N,0,rfl,aqc _,h4,h3⟩ ?_);rintro k st ⟨i,rfl,hi,hH,rfl⟩;refine aw.mono (eg _ _ _ (round i hi hH)) (λx s' h=>?_);cases x with
 | normal=>
   obtain⟨a1,a2,a3,a4⟩:=h;exact⟨N-(i+1),by omega,_,Wk.pick ts (keys s.L) ht h1 a1,i+1,rfl,by omega,a4,a3⟩
 | _=>exact h
def aV.vE:aV->aV
 | .box _ ty cs=> .box 0 ty cs
 | r=>r
def St.vE(rs:List Nat)(s:St):St:=⟨s.fr,s.L.map λp=>(p.1,if rs.contains p.1 then p.2.vE else p.2)⟩
theorem Wk.vE rs:Wk n s (s.vE rs):=by
 intro fo m a w g;have hi:=g.inv;have hk:keys (St.vE rs s).L=keys s.L:=by simp[St.vE]
 refine⟨m,⟨g.size,g.fr,⟨by rw[hk];exact hi.nodup,λh x hx=>by rw[hk];exact hi.fI h x hx,hi.apart,hi.others,hi.ei,?_,hi.ef⟩,g.defers⟩,Step.refl w _⟩;intro h r hr;obtain⟨p,hp,he⟩:=apV.1 hr;cases he;obtain⟨x,hx,hh⟩:=hi.holds p.1 p.2 hp;refine⟨x,hx,?_⟩;split
 ·generalize p.2=q at hh;cases q with
  | row ty k xs=>exact hh
  | env A=>exact hh
  | mp es=>exact hh
  | box b ty cs=>
    obtain⟨bb,_,h1⟩:=hh;exact⟨bb,.inl rfl,h1⟩
 omega
def ahO(rs ts hs:List Nat)(S:Nat->St)(N:Nat)(H:Nat->Prop)(i:Nat)(s:St):Prop:=(s.pick ts hs).on (keys (s.pick ts hs).L)=true/\i<N/\(s.pick ts hs).vE rs=S (i+1)/\H (i+1)
attribute [simp] aV.vE St.vE ahO
def adg(n:Nat)(S:Nat->St)(N:Nat)(H:Nat->Prop)(i:Nat)(s:St):Prop:=i<N/\H (i+1)/\Wk n s (S (i+1))
theorem aw.ahP{c}{ks} N S H(h0:H 0∧Wk n s (S 0))
  (round:∀i,i<=N->H i->cP P n c (S i) (cm P n Q (.inv (adg n S N H i)::ks))):aw P n (.loop c) s (cm P n Q ks):=by
 refine aw.weaken h0.2 (aw.loop (λk st=>∃i,k=N-i/\i<=N/\H i/\st=S i) ⟨N,0,rfl,aqc _,h0.1,rfl⟩ ?_);rintro k st ⟨i,rfl,hi,hH,rfl⟩;refine aw.mono (eg _ _ _ (round i hi hH)) (λx s' h=>?_);cases x with
 | normal=>
   obtain⟨a1,a2,a3⟩:=h;exact⟨N-(i+1),by omega,_,a3,i+1,rfl,by omega,a2,rfl⟩
 | _=>exact h
attribute [simp] upF Iy St.up adf adg
@[simp] theorem ahQ(ys:List (List D))(i:Nat)(h:i<(dd ys).length):(dd ys)[i]'h=(ys[i]'(by simp_all)).map V.d:=by simp[dd]
@[simp] theorem af0(l:List ByteArray)(i:Nat)(h:i<(iI l).length):(iI l)[i]'h=[.v (.string (l[i]'(by simp_all)))]:=by simp[iI]
@[simp] theorem afk{α:Type}(g:List α->List (List D))(l:List (List α))(i:Nat)(h:i<(oF g l).length):(oF g l)[i]'h=[.sl (g (l[i]'(by simp_all)))]:=by simp[oF]
@[simp] theorem af1(l:List Int)(i:Nat)(h:i<(aD l).length):(aD l)[i]'h=[.v (.int .i64 (l[i]'(by simp_all)))]:=by simp[aD]
end
section
variable {P : Program} {n : Nat} {s : St} {Q : AX -> St -> Prop} {L : aH}
def adh{α:Type}(ts hs:List Nat)(S:List α->St)(H:List α->Prop)(pre:List α)(x:α)(s:St):Prop:=(s.pick ts hs).on (keys (s.pick ts hs).L)=true/\s.pick ts hs=S (pre++ [x])/\H (pre++ [x])
theorem aw.fq{α:Type}{c:Code}{ks:List KI}(ts:List Nat)(l:List α)(F:List α→List (Nat×V))(R:List α→List (Nat×aV))(H:List α→Prop)(ht:ts.all (fun t=>decide (t < n))=true)(hl:l.length≤1000000000000000)
  (h0:(keys s.L).Nodup/\(s.pick ts (keys s.L)).on (keys (s.pick ts (keys s.L)).L)=true/\s.pick ts (keys s.L)=(s.pick ts (keys s.L)).up (F []) (R [])/\H [])
  (round:∀pre x post,l=pre++x::post->H pre->(ay:pre.length<l.length)->l[pre.length]=x->aN .i64 ((pre.length:Int)+1)->
   cP P n c ((s.pick ts (keys s.L)).up (F pre) (R pre)) (cm P n Q (.inv (adh ts (keys s.L) (λl=>(s.pick ts (keys s.L)).up (F l) (R l)) H pre x)::ks)))
  (last:H l->cP P n c ((s.pick ts (keys s.L)).up (F l) (R l)) (cm P n Q (.inv (λ_=>False)::ks))):
  aw P n (.loop c) s (cm P n Q ks):=by
 obtain⟨h1,h2,h3,h4⟩:=h0;refine aw.weaken (Wk.pick ts (keys s.L) ht h1 h2) (aw.loop (λk st=>∃pre post,l=pre++post/\k=post.length/\H pre/\st=(s.pick ts (keys s.L)).up (F pre) (R pre)) ⟨l.length,[],l,rfl,rfl,h4,h3⟩ ?_);rintro k st ⟨pre,post,bn,rfl,hH,rfl⟩
 match post,bn with
 | x::post,bn=>
   refine aw.mono (eg _ _ _ (round pre x post bn hH (by rw[bn];simp) (by simp[bn]) (by rw[aR];rw[bn]at hl;simp at hl;omega))) (λy s' h=>?_);cases y with
   | normal=>
     obtain⟨a1,a2,a3⟩:=h;exact⟨post.length,by simp,_,Wk.pick ts (keys s.L) ht h1 a1,pre++ [x],post,by simp[bn],rfl,a3,a2⟩
   | _=>exact h
 | [],bn=>
   rw[aqp]at bn;subst bn;refine aw.mono (eg _ _ _ (last hH)) (λy s' h=>?_);cases y with
   | normal=>exact h.elim
   | _=>exact h
end
attribute [simp] adh
section
variable {P : Program} {n : Nat} {s : St} {Q : AX -> St -> Prop} {ops : Array Oper}
theorem Oper.F6{F d}{o:Oper}{a next next' Q1 Q2}(hn:∀a w,next a w->next' a w)(he:∀e a w,e≠ .normal->Q1 e a w->Q2 e a w){r}(h:o.uponIn F d P a next Q1 r):o.uponIn F d P a next' Q2 r:=by
 cases r with
 | ok x w'=>
   cases x<;>simp[Oper.uponIn]at h⊢<;>
    first
     | exact hn _ _ h
     | exact⟨h.1,CallsIn.mono h.2 (λe An hh=>by cases e<;>first|exact hn _ _ hh|exact he _ _ _ (by simp) hh|(obtain⟨a0,w0,hq⟩:=hh;exact⟨a0,w0,he _ _ _ (by simp) hq⟩))⟩
     | exact⟨h.1,RowsIn.mono h.2 (λ_ _ hh=>hn _ _ hh)⟩
     | exact⟨h.1,RoundIn.mono h.2 (λe An hh=>by cases e<;>first|exact hn _ _ hh|exact he _ _ _ (by simp) hh|(obtain⟨a0,w0,hq⟩:=hh;exact⟨a0,w0,he _ _ _ (by simp) hq⟩))⟩
 | halt x w'=>cases x<;>simp[Oper.uponIn]at h⊢<;>exact he _ _ _ (by simp) h
theorem BF{F}{d}{Q1 Q2}{l2}(hn:∀a w,Q1 .normal a w→wpListIn F d P ops Q2 l2 a w)(he:∀e a w,e≠ .normal→Q1 e a w→Q2 e a w):
  ∀l1 a w,wpListIn F d P ops Q1 l1 a w->wpListIn F d P ops Q2 (l1++l2) a w
 | [],a,w,h=>hn a w h
 | o::l1,a,w,h=>by
   rw[apZ];unfold wpListIn at h⊢;split
   ·rename_i hw;rw[if_pos hw]at h;exact⟨h.1,Oper.F6 (λa w=>BF hn he l1 a w) he h.2⟩
   ·rename_i hw;rw[if_neg hw]at h;exact⟨h.1,BF hn he l1 _ _ h.2⟩
theorem vY{F d Q1 Q2}(he:∀e a w,Q1 e a w->Q2 e a w):∀l a w,wpListIn F d P ops Q1 l a w->wpListIn F d P ops Q2 l a w
 | [],a,w,h=>he _ a w h
 | o::l,a,w,h=>by
   unfold wpListIn at h⊢;split
   ·rename_i hw;rw[if_pos hw]at h;exact⟨h.1,Oper.F6 (λa w=>vY he l a w) (λe a w _=>he e a w) h.2⟩
   ·rename_i hw;rw[if_neg hw]at h;exact⟨h.1,vY he l _ _ h.2⟩
theorem ar.app{l1 l2}(h:ar P n ops l1 s (AX.then (λs'=>ar P n ops l2 s' Q) Q)):ar P n ops (l1++l2) s Q:=by
 intro fo m0 w0 m a w st g;refine BF (λa1 w1 h1=>?_) (λe a1 w1 bU h1=>?_) l1 a w (h fo m0 w0 m a w st g)
 ·obtain⟨ms,m',x,s',hm,hq,g',hx,fJ⟩:=h1;cases x<;>simp[bF]at hx
  refine vY (λ_ _ _=>fX.marked hm g' fJ) _ _ _ (hq (fo.mark ms) m' w1 m' a1 w1 (Step.refl _ _) g')
 ·obtain⟨ms,m',x,s',hm,hq,g',hx,fJ⟩:=h1;refine⟨ms,m',x,s',hm,?_,g',hx,fJ⟩;cases x with
  | normal=>cases e<;>simp[bF]at hx;exact(bU rfl).elim
  | _=>exact hq
theorem ar.stop{l} k us(hd:dB n (l.take k)=true)(h:∀bs,eN P ops (l.take k) s bs us (KK P n ops (AX.then (λs'=>ar P n ops (l.drop k) s' Q) Q))):ar P n ops l s Q:=by
 rw[<-aqh k l];exact ar.app (bf _ _ us hd h)
theorem aw.aee{id l}(h:ar P n l.toArray l s Q):aw P n (.region id l.toArray false) s Q:=
 λfo m a w _ g=>x5 (by simpa using h fo m w m a w (Step.refl _ _) g)
theorem ar.ajO{o}{rest}{g}{t}{xo yo}{ty}{a b}(aP:o.op= .binOp .sub t xo yo ty)(lD:gk ops s o=some (some g))(hd:∀d,o.dst=some d→d < n)
  (hx:(s.ev xo).un=iD a/\(s.ev yo).un=iD b) (hu:g=true->nQ s o.op.operands.toList)
  (k:ar P n ops rest (s.put o.dst (.gd g (iD (IntKind.i64.wrap (a-b))))) Q):ar P n ops (o::rest) s Q:=by
 refine ar.guarded lD hd (λhg=>⟨λz=>(s.ev z).un,λz hz w O m v hr=>vn hr (sB (hu hg) z (by grind)),?_⟩) k;intro fo m ρ w hi hr;have h1:=hr xo (by simp_all);have h2:=hr yo (by simp_all);simp only[hx.1]at h1;simp only[hx.2]at h2;have e1:=h1.cq;have e2:=h2.cq;refine⟨.int .i64 (IntKind.i64.wrap (a-b)),?_,.d _ _ (.v _ rfl)⟩;simp_all[execOp,eqGuard,binOp,Op.intArith]
theorem ar.fE{o}{rest}{c}{f}{args}{x}{g}(aP:o.op= .call c)(h:g=true→Pure P f args x)(hc:callee (fun z=>(s.ev z).un) c=some (f,args))(lD:gk ops s o=some (some g))(hu:g=true→nQ s o.op.operands.toList)
  (hd:∀d,o.dst=some d->d<n) (hr:dB n rest=true) (k:∀bs,eN P ops rest (s.put o.dst (.gd g x)) bs [] (KK P n ops Q)):ar P n ops (o::rest) s Q:=
 ar.N6 lD hd (λhg=>⟨λz=>(s.ev z).un,λz hz w O m v hr=>vn hr (sB (hu hg) z (by grind)),qk.call aP hc (h hg).en (h hg).on (h hg).rn (h hg).calls⟩) (bf rest _ [] hr k)
theorem pGh{ops:Array Oper}{o:Oper}{rest:List Oper}{c:Call}{f:FuncId}{args:List V}{x:V}{g:Bool}(h:g=true→Pure P f args x)(k:∀bs,eN P ops rest (s.put o.dst (.gd g x)) bs [] (KK P n ops Q))(aP:o.op= .call c:=by exact rfl)(hc:callee (fun z=>(s.ev z).un) c=some (f,args):=by exact rfl)(lD:gk ops s o=some (some g):=by first | rfl | (simp;rfl))(hu:g=true→nQ s o.op.operands.toList:=by simp)
  (hd:∀d,o.dst=some d->d<n:=by simp) (hr:dB n rest=true:=by exact rfl):ar P n ops (o::rest) s Q:=ar.fE aP h hc lD hu hd hr k
theorem pG{ops:Array Oper}{o:Oper}{rest:List Oper}{c:Call}{f:FuncId}{args:List V}{x:V}{g:Bool}(h:Pure P f args x)(k:∀bs,eN P ops rest (s.put o.dst (.gd g x)) bs [] (KK P n ops Q))(aP:o.op= .call c:=by exact rfl)(hc:callee (fun z=>(s.ev z).un) c=some (f,args):=by exact rfl)(lD:gk ops s o=some (some g):=by first | rfl | (simp;rfl))(hu:g=true→nQ s o.op.operands.toList:=by simp)
  (hd:∀d,o.dst=some d->d<n:=by simp) (hr:dB n rest=true:=by exact rfl):ar P n ops (o::rest) s Q:=ar.fE aP (λ_=>h) hc lD hu hd hr k
theorem pN{ops:Array Oper}{o:Oper}{rest:List Oper}{c:Call}{f:FuncId}{args:List V}(x:V)(k:∀bs,eN P ops rest (s.put o.dst (.gd false x)) bs [] (KK P n ops Q))(aP:o.op= .call c:=by exact rfl)(hc:callee (fun z=>(s.ev z).un) c=some (f,args):=by exact rfl)(lD:gk ops s o=some (some false):=by first | rfl | (simp;rfl))(hu:false=true→nQ s o.op.operands.toList:=by simp)
  (hd:∀d,o.dst=some d->d<n:=by simp) (hr:dB n rest=true:=by exact rfl):ar P n ops (o::rest) s Q:=ar.fE aP (λh=>by cases h) hc lD hu hd hr k
theorem aw.fZ{x y}(h:cP P n x s (cm P n (AX.then (λs'=>aw P n y s' Q) Q) [])):aw P n (.seq x y) s Q:=aw.seq (eg _ _ _ h)
theorem Pure.Dw{f}{args}{x}{fn}{c}(hf:P.funcs[f]?=some fn)(hb:fn.body=some c)(hs:args.length≤fn.ntmps∧enters P f=true∧V.dA [] args=true∧x.on []=true)
  (h:aw P fn.ntmps c ⟨eH 0 args,[]⟩ (cm P fn.ntmps (fj P fn.results.toList (λr L'=>∃y,r= .ret y/\y.fz L'=x)) [])):Pure P f args x:=
 ⟨hs.2.1,hs.2.2.1,hs.2.2.2,(aE.data (aE.xY hf hb hs.1 h) hs.2.2.2).mono λ_ _ h=>h.1⟩
end
section
variable {P : Program} {n : Nat} {s : St} {Q : AX -> St -> Prop} {L : aH} {b N : Nat} {ty : TypeId} {k : Nat} {A : Nat -> List (List D)}
theorem Wk.qx c i h{e k:Nat}{bk}{bt}{cs}(hl:s.L.lookup c=some (.box bk bt cs))(hi:cs[i]?=some (.d (.v (.slice none 0 0))))(hn:h∉keys s.L):
  Wk n s ⟨s.fr,(h,.row e k [])::aH.jK s.L c (.box bk bt (cs.set i (.rv h)))⟩:=by
 intro fo m a w g;obtain⟨g',st⟩:=g.new (hZ.refl w) hn (r:= .row e k []) (by simp[df,jU]) (.inl ⟨rfl,rfl⟩);refine⟨_,⟨g'.size,g'.fr,?_,g'.defers⟩,st⟩;have ck:=g'.inv;have DM:keys ((h,aV.row e k [])::aH.jK s.L c (.box bk bt (cs.set i (.rv h))))=keys ((h,aV.row e k [])::s.L):=by
  grind[xM,keys]
 have gA:=dD hl;refine⟨by rw[DM];exact ck.nodup,λj x hx=>by rw[DM];exact ck.fI j x hx,ck.apart,ck.others,ck.ei,?_,ck.ef⟩;intro j r hr;rcases ap8.1 hr with hr|hr
 ·exact ck.holds j r (by grind)
 ·obtain⟨p,hp,he⟩:=apV.1 hr;split at he
  ·cases he;obtain⟨x,hx,hh⟩:=ck.holds c _ (ap2 _ gA);refine⟨x,hx,?_⟩;obtain⟨bb,kA,cur,e1,e2,e3,e4,e5⟩:=hh;refine⟨bb,kA,cur,e1,e2,by grind,e4,λl v y hv hy=>?_⟩;rw[asb]at hy;split at hy
   ·rename_i kF;subst kF;split at hy
    ·simp[akC]at hy;subst hy;have:=e5 i v _ hv hi;rw[this.p6];exact .rv h _ (cn _ _) rfl
    grind
   grind
  ·rw[he]at hp;exact ck.holds j r (ap2 _ hp)
@[simp] theorem J6 N v:List.replicate N [V.d (.v (.int .i64 v))]=dd (aD (List.replicate N v)):=by simp[dd,aD]
mutual
def V.eR(h g:Nat):V->V
 | .bp i o=>if i=h then .bp g o else .bp i o
 | .rv i=>if i=h then .rv g else .rv i
 | .ep i k x y=>if i=h then .ep g k x y else .ep i k x y
 | .eW fn f c=> .eW fn (V.qy h g f) (V.qy h g c)
 | .agg cs=> .agg (V.qy h g cs)
 | .bM cs=> .bM (V.qy h g cs)
 | .gd b x=> .gd b (V.eR h g x)
 | .d x=> .d x
 | .rp cs=> .rp cs
 | .sv i n=>if i=h then .sv g n else .sv i n
 | .kn Q=> .kn Q
 | .any=> .any
def V.qy(h g:Nat):List V->List V
 | []=> []
 | x::l=>V.eR h g x::V.qy h g l
end
theorem qX h g:∀l:List V,V.qy h g l=l.map (V.eR h g)
 | []=>by rfl
 | x::l=>by simp[V.qy,qX]
theorem OA h g(l:List D):V.qy h g (l.map V.d)=l.map V.d:=by
 simp[qX,V.eR]
def aV.eR(h g:Nat):aV->aV
 | .box b ty cs=> .box b ty (V.qy h g cs)
 | .row ty k xs=> .row ty k (xs.map (V.qy h g))
 | .env A=> .env A
 | .mp es=> .mp es
theorem af2 h g ys:(dd ys).map (V.qy h g)=dd ys:=by
 simp[dd,OA]
def St.eR(h g:Nat)(s:St):St:=⟨s.fr.map λp=>(p.1,p.2.eR h g),s.L.map λp=>(if p.1=h then g else p.1,p.2.eR h g)⟩
theorem az.eR{w O m m' h g}(hm:∀i x,i≠h->m i=some x->m' i=some x)(hg:∀x,m h=some x->m' g=some x){x y}(hr:az w O m x y):az w O m' x (y.eR h g):=by
 induction hr with
 | d x y hd=>simpa[V.eR]using az.d x y hd
 | bp i off b e=>
   simp only[V.eR];split
   ·rename_i he;subst he;exact .bp g off b (hg _ e)
   ·rename_i bU;exact .bp i off b (hm _ _ bU e)
 | rv i x e e1=>
   simp only[V.eR];split
   ·rename_i he;subst he;exact .rv g x (hg _ e) e1
   ·rename_i bU;exact .rv i x (hm _ _ bU e) e1
 | ep i k p q b o n c e=>
   simp only[V.eR];split
   ·rename_i he;subst he;exact .ep g k p q b o n c (hg _ e)
   ·rename_i bU;exact .ep i k p q b o n c (hm _ _ bU e)
 | rp b off cs f hb ay hc hr=>simpa[V.eR]using az.rp b off cs f hb ay hc hr
 | sv i n b cap e hc hx=>
   simp only[V.eR];split
   ·rename_i he;subst he;exact .sv g n b cap (hg _ e) hc hx
   ·rename_i bU;exact .sv i n b cap (hm _ _ bU e) hc hx
 | eW fn first eh cf cc s1 s2 h1 h2 CY FH=>
   simp only[V.eR,qX];refine .eW fn first eh _ _ (by grind) (by grind) ?_ ?_
   ·grind
   grind
 | agg vs cs hs h1 h2 ih=>
   simp only[V.eR,qX];refine .agg vs _ (by grind) h1 ?_;grind
 | bM vs cs hs h2 ih=>
   simp only[V.eR,qX];refine .bM vs _ (by grind) ?_;grind
 | gt x y hr ih=>simpa[V.eR]using az.gt x _ ih
 | gf y=>simpa[V.eR]using az.gf (y.eR h g)
 | kn x Q h=>simpa[V.eR]using az.kn x Q h
 | any x=>simpa[V.eR]using az.any x
theorem aV.Holds.eR{w O m m' h g}(hm:∀i x,i≠h->m i=some x->m' i=some x)(hg:∀x,m h=some x->m' g=some x){x}{r:aV}(hh:r.Holds w O m x):(r.eR h g).Holds w O m' x:=by
 cases r with
 | box b ty cs=>
   obtain⟨bb,kA,cur,rfl,h1,h2,h3,h4⟩:=hh;simp[aV.eR,qX];refine⟨bb,kA,cur,rfl,h1,by grind,h3,λj v c hv hc=>?_⟩;rw[apS]at hc;obtain⟨z,hz,rfl⟩:=apN.1 hc;exact(h4 j v z hv hz).eR hm hg
 | row ty k xs=>
   rcases hh with⟨rfl,rfl⟩|⟨b,off,cap,cur,rfl,h1,h2,h3,h4,h5,h6,h7⟩
   ·exact .inl ⟨rfl,rfl⟩
   ·refine .inr ⟨b,off,cap,cur,by simp,h1,by grind,h3,h4,λi x hx=>?_,h6,λi j x y v hx hy hv=>?_⟩
    ·grind[qX,List.length_map]
    ·rw[apS]at hx;obtain⟨z,hz,rfl⟩:=apN.1 hx;rw[qX,apS]at hy;obtain⟨y',nw,rfl⟩:=apN.1 hy;exact(h7 i j z y' v hz nw hv).eR hm hg
 | env A=>exact hh
 | mp es=>exact hh
theorem Wk.eR h g(hg:g∉keys s.L):Wk n s (s.eR h g):=by
 classical
 intro fo m a w gg
 let m':Nat->Option Value:=λi=>if i=g then m h else if i=h then none else m i
 have hi:=gg.inv;have N7:∀x,m g≠some x:=λx hx=>hg (hi.fI g x hx)
 have hm:∀i x,i≠h->m i=some x->m' i=some x:=by
  grind
 have hmg:∀x,m h=some x->m' g=some x:=λx hx=>by grind
 have mu:∀i x,m' i=some x->∃j,m j=some x/\i=(if j=h then g else j):=by
  grind
 have fb:∀b,Ab.own m' b↔Ab.own m b:=by
  intro b;constructor
  ·rintro⟨i,x,hx,hb⟩;obtain⟨j,hj,_⟩:=mu i x hx;exact⟨j,x,hj,hb⟩
  ·rintro⟨i,x,hx,hb⟩;by_cases e:i=h
   ·subst e;exact⟨g,x,hmg x hx,hb⟩
   ·exact⟨i,x,hm i x e hx,hb⟩
 have hO:∀b,b<w.heap.size->OO fo m' b->OO fo m b:=λb _ ho=>ho.imp (fb b).1 id
 have DM:∀i,i∈keys s.L->(if i=h then g else i)∈keys (s.eR h g).L:=by
  intro i ck;obtain⟨p,hp,rfl⟩:=apV.1 ck;exact apV.2 ⟨_,apV.2 ⟨p,hp,rfl⟩,rfl⟩
 refine⟨m',⟨gg.size,?_,?_,gg.defers⟩,⟨rfl,rfl,rfl,apU _,λ_ _ _=>rfl,λb _ ho=>(fb b).1 ho⟩⟩
 ·intro t x hx;obtain⟨p,hp,he⟩:=apV.1 hx;cases he;obtain⟨h1,h2⟩:=gg.fr p.1 p.2 hp;exact⟨h1,(h2.eR hm hmg).mono (bK.refl w _) hO (λ_ _ e=>e)⟩
 ·refine⟨?_,?_,?_,?_,hi.ei,?_,hi.ef.mono (bK.refl w _) hO⟩
  ·have:keys (s.eR h g).L=(keys s.L).map λi=>if i=h then g else i:=by
    simp[keys,St.eR,asc]
   rw[this];have kg:=hi.nodup;grind[List.Nodup,List.Pairwise.imp_of_mem]
  ·intro i x hx;obtain⟨j,hj,rfl⟩:=mu i x hx;exact DM j (hi.fI j x hj)
  ·intro i j x y b hx hy hb de;obtain⟨i',qm,rfl⟩:=mu i x hx;obtain⟨j',SN,rfl⟩:=mu j y hy;rw[hi.apart i' j' x y b qm SN hb de]
  ·intro i x b hx hb;obtain⟨j,hj,_⟩:=mu i x hx;exact hi.others j x b hj hb
  ·intro i r hr;obtain⟨p,hp,he⟩:=apV.1 hr;cases he;obtain⟨x,hx,hh⟩:=hi.holds p.1 p.2 hp;refine⟨x,?_,(hh.eR hm hmg).mono (λ_ _=>rfl) (bK.refl w _) hO (λ_ _ e=>e)⟩;grind
attribute [simp] V.eR V.qy aV.eR St.eR OA af2
def EPost(P:Program)(rs:List ResultVar)(R:AE->aH->Prop)(hs:List Nat)(x:AX)(s:St):Prop:=
 match x with
 | .normal|.ret=>(s.pick [] hs).on (keys (s.pick [] hs).L)=true/\fj P rs R .ret (s.pick [] hs)
 | _=>False
theorem aw.epost{P c rs R} hs(hh:hs.Nodup)(h:aw P n c s (EPost P rs R hs)):aw P n c s (fj P rs R):=by
 intro fo m a w hr g;refine Code.wpIn_mono (λe a1 w1 hp=>?_) (h fo m a w hr g);obtain⟨ms,m',x,s',qz,hq,g',he,st⟩:=hp;have key:∀y,(s'.pick [] hs).on (keys (s'.pick [] hs).L)=true/\fj P rs R .ret (s'.pick [] hs)->(∀m2,bF w1 (OO (fo.mark ms) m2) m2 e y)->fj P rs R .ret (s'.pick [] hs)=fj P rs R y (s'.pick [] hs)->fX fo n m w (fj P rs R) e a1 w1:=by
  intro y h1 h2 h3;obtain⟨m2,g2,oX⟩:=Wk.pick [] hs (by simp) hh h1.1 (fo.mark ms) m' a1 w1 g';exact⟨ms,m2,y,s'.pick [] hs,qz,h3 ▸ h1.2,g2,h2 m2,st.trans oX⟩
 cases x with
 | normal=>
   refine key .normal hq (λm2=>?_) rfl;grind[bF]
 | ret=>
   refine key .ret hq (λm2=>?_) rfl;grind[bF]
 | _=>exact hq.elim
theorem aE.vZ{P} hs(hh:hs.Nodup){f}{args}{R}{fn}{c}(hf:P.funcs[f]?=some fn)(hb:fn.body=some c)(hn:args.length≤fn.ntmps)
  (h:cP P fn.ntmps c ⟨eH 0 args,L⟩ (cm P fn.ntmps (EPost P fn.results.toList R hs) [])):aE P f args L R:=
 aE.xY hf hb hn (aw.epost hs hh (eg _ _ _ h))
attribute [simp] EPost
end
section
variable {P : Program} {n : Nat} {s : St} {Q : AX -> St -> Prop} {ops : Array Oper}
theorem ar.panic{o rest xo t ag cs}(aP:o.op= .panic xo)(hx:s.ev xo= .d (.uu t ag cs))(hg:o.guard=none)(k:Q (.iC (.d (.uu t ag cs))) s):ar P n ops (o::rest) s Q:=by
 intro fo m0 w0 m a w st g;have hr:=cj g xo;rw[hx]at hr;obtain⟨u,hv⟩:=JL hr.lg;unfold wpListIn;rw[if_pos (by simp[Region.wanted,hg])];have bq:(execOp a.eval o).run P w= .halt (.panic (a.eval xo)) w:=by
  simp_all[execOp,Instr.panic]
 refine Xd (by grind) bq ?_;exact .of m (.iC (.d (.uu t ag cs))) s k g ⟨_,[],rfl,by simp,hr⟩ st
def zm(P:Program):Next->World->(Ending->World->Prop)->Prop
 | .enter f args,w,R=>Calls P f args w R
 | .round l f tmps assign body,w,R=>RoundIn Fence.wide 0 P l f tmps assign body w R
 | _,_,_=>False
theorem zm.mono{nx w R R'}(h:zm P nx w R)(hr:∀e w',R e w'->R' e w'):zm P nx w R':=by
 cases nx<;>simp[zm]at h⊢
 ·exact Calls.mono h hr
 grind[RoundIn.mono]
theorem Ln{r}{o}{a}{w w'}{nx}{next}{Q}(bq:(execOp a.eval o).run P w= .ok nx w')
  (h:zm P nx w' fun
   | .returned v,An=>next (a.put o.dst v) An
   | .panicked chain,An=>Q (.panic chain) a An
   | .outgrown,_=>LetsOut Q):o.wpIn (wr r) 0 P a w next Q:=by
 refine⟨λ_ _=>trivial,?_⟩;cases nx<;>simp[zm]at h
 ·rw[CZ (yR bq (by simp)),bq];exact⟨λh=>by grind[wr,Fence.wide],GC h⟩
 ·rw[CZ (yR bq (by simp)),bq];exact⟨λh=>by grind[wr,Fence.wide],h⟩
theorem core{o:Oper}{L1 L2:aH}{R:AE→aH→Prop}
  (hL:s.L.Perm (L1++L2)) (iu:L1.all (λp=>aV.on (keys L1) p.2)=true)
  (ja:∀p∈L2,aV.on (keys L2++(L1.filterMap λp=>match p.2 with|.box (_+1) _ _=>some p.1|_=>none)) p.2=true)
  (qV:∀r bh,R r bh->(∀k∈keys bh,k∉keys L2)/\∀k b ty cs,(k,aV.box (b+1) ty cs)∈L1->∃mw jL,(k,aV.box (b+1) mw jL)∈bh)
  {fo:FO} {m:Nat->Option Value} {a:Act} {w:World}
  (h:∀(gT:FO) (m1:Nat->Option Value),(∀b,OO gT m1 b↔OO fo m b)->(∀h x,h∈keys L1->m h=some x->m1 h=some x)->Inv gT m1 L1 w->∃nx,(execOp a.eval o).run P w= .ok nx w/\zm P nx w (mK gT m1 w R))
  (g:G fo n m s a w) {next:Act->World->Prop} {Q':Exit->Act->World->Prop}
  (k:∀x bh mm v w',R (.ret x) bh->az w' (OO fo mm) mm v x->Inv fo mm (bh++L2) w'->Step w (own m) w' (own mm)->
   (∀h y,h∈keys L2++(L1.filterMap λp=>match p.2 with|.box (_+1) _ _=>some p.1|_=>none)->m h=some y->mm h=some y)->
   bK w (OO fo m) w'->(∀b,b<w.heap.size->OO fo mm b->OO fo m b)->next (a.put o.dst v) w')
  (kp:∀x bh mm ch w',R (.iC x) bh->Bd w' (OO fo mm) mm ch x->Inv fo mm (bh++L2) w'->Step w (own m) w' (own mm)->
   (∀h y,h∈keys L2++(L1.filterMap λp=>match p.2 with|.box (_+1) _ _=>some p.1|_=>none)->m h=some y->mm h=some y)->
   bK w (OO fo m) w'->(∀b,b<w.heap.size->OO fo mm b->OO fo m b)->Q' (.panic ch) a w'):o.wpIn (wr fo.r) 0 P a w next Q':=by
 obtain⟨gT,m1,oY,oG,qm,fin⟩:=frame g.inv hL iu ja;obtain⟨nx,h1,ahR⟩:=h gT m1 oY oG qm;refine Ln h1 (ahR.mono ?_);rintro e w' ⟨uy,r,bh,hR,kD,ck,fJ⟩;obtain⟨DK,GZ⟩:=qV r bh hR;obtain⟨mm,hinv,qn,vV,zW,Bu,cN,s6⟩:=fin w' uy bh ck fJ DK GZ;cases e<;>cases r<;>simp only[Ends]at kD
 ·exact k _ bh mm _ w' hR (kD.mono (bK.refl w' _) (λb _ hb=>(zW b).1 hb) vV) hinv qn Bu cN s6
 ·obtain⟨v,gN,rfl,hold,hv⟩:=kD;exact kp _ bh mm _ w' hR ⟨v,gN,rfl,hold,hv.mono (bK.refl w' _) (λb _ hb=>(zW b).1 hb) vV⟩ hinv qn Bu cN s6
theorem UW{o:Oper}{c}{f}{args}{L1 L2:aH}{R}
  (aP:o.op= .call c) (hc:callee s.ev c=some (f,args)) (he:enters P f=true) (ho:V.dA (keys L1) args=true) (hL:s.L.Perm (L1++L2)) (iu:L1.all (λp=>aV.on (keys L1) p.2)=true)
  (ja:∀p∈L2,aV.on (keys L2++(L1.filterMap λp=>match p.2 with|.box (_+1) _ _=>some p.1|_=>none)) p.2=true)
  (h:aE P f args L1 R)
  (qV:∀r bh,R r bh->(∀k∈keys bh,k∉keys L2)/\∀k b ty cs,(k,aV.box (b+1) ty cs)∈L1->∃mw jL,(k,aV.box (b+1) mw jL)∈bh)
  {fo m a w} (g:G fo n m s a w) {next Q'}
  (k:∀x bh mm v w',R (.ret x) bh->az w' (OO fo mm) mm v x->Inv fo mm (bh++L2) w'->Step w (own m) w' (own mm)->
   (∀h y,h∈keys L2++(L1.filterMap λp=>match p.2 with|.box (_+1) _ _=>some p.1|_=>none)->m h=some y->mm h=some y)->
   bK w (OO fo m) w'->(∀b,b<w.heap.size->OO fo mm b->OO fo m b)->next (a.put o.dst v) w')
  (kp:∀x bh mm ch w',R (.iC x) bh->Bd w' (OO fo mm) mm ch x->Inv fo mm (bh++L2) w'->Step w (own m) w' (own mm)->
   (∀h y,h∈keys L2++(L1.filterMap λp=>match p.2 with|.box (_+1) _ _=>some p.1|_=>none)->m h=some y->mm h=some y)->
   bK w (OO fo m) w'->(∀b,b<w.heap.size->OO fo mm b->OO fo m b)->Q' (.panic ch) a w'):o.wpIn (wr fo.r) 0 P a w next Q':=by
 obtain⟨xs,h1,h2⟩:=pe aP hc he (λz _=>cj g z);refine core hL iu ja qV (λgT m1 oY oG qm=>⟨_,h1,?_⟩) g k kp;refine h gT m1 w xs qm ⟨h2.1,λj v y hv hy=>?_⟩;exact((h2.2 j v y hv hy).on oG (fP ho y (apT hy))).mono (bK.refl w _) (λb _ hb=>(oY b).1 hb) (λ_ _ e=>e)
end
section
variable {P : Program} {n : Nat} {s : St} {Q : AX -> St -> Prop} {ops : Array Oper}
def yv(l:Nat):V:= .d (.v (.func (.yield l) #[] #[]))
def qY(ρ:Operand->V)(c:Call):Option (Nat×List V):=
 match c.callee with
 | .value fo=>match ρ fo with
   | .d (.v (.func (.yield l) first _))=>if first.isEmpty then some (l,c.args.toList.map ρ)else none
   | _=>none
 | _=>none
def rV(P:Program)(l:Nat)(args:List V)(L:aH)(R:AE->aH->Prop):Prop:=
 ∀(fo:FO) (m:Nat->Option Value) (w:World) (xs:Array Value),Inv fo m L w->iA w (OO fo m) m xs args->∃nx,(Instr.yield l xs).run P w= .ok nx w/\zm P nx w (mK fo m w R)
def YR(A B:Env)(r:AE)(L:aH):Prop:=(r= .ret (oD true)/\L=[(5003,.env A)])\/(r= .ret (oD false)/\L=[(5003,.env B)])
def M4(K:Prop)(P:Program)(f:FuncId)(eh:List V)(Lc:aH)(xs:List (List V)):Prop:=
 ∀(l:Nat) (A:Nat->Env) (B:Env),(∀i x,xs[i]?=some x->rV P l x [(5003,.env (A i))] (YR (A (i+1)) B))->(K->∀w O x,¬(A xs.length).H w O x)->
  aE P f (yv l::eh) ((5003,.env (A 0))::Lc) (λr L'=>(∃y,r= .ret y)/\(L'=[(5003,.env (A xs.length))]\/L'=[(5003,.env B)]))
abbrev Iter:=M4 False
theorem X7{o}{c}{l}{args}{ρ}{dm}{w}{O}{m}(aP:o.op= .call c)(hc:qY dm c=some (l,args))
  (hr:∀z,z∈o.op.operands->az w O m (ρ z) (dm z)):iA w O m (c.args.map ρ) args/\(execOp ρ o).run P w=(Instr.yield l (c.args.map ρ)).run P w:=by
 unfold qY at hc;split at hc
 ·rename_i fop qc;split at hc
  ·rename_i l' first eh FQ
   split at hc
   ·cases hc;have h1:=hr fop (by simp_all);rw[FQ]at h1;have h2:=h1.cq;refine⟨⟨by simp,N5 c.args λz hz=>hr z (by simp_all)⟩,?_⟩;simp_all[execOp,resolve,Deferred.ofValue,invoke]
   grind
  grind
 grind
theorem ar.X8{o}{rest}{c}{l}{args}{A A' B}(hw:∀{fo:FO} {m:Nat→Option Value} {a:Act} {w:World},G fo n m s a w→Region.wanted o (yielded ops a.tmps)=true)(hd:∀d,o.dst=some d→d < n)
  {dm} (hρ:∀z,z∈o.op.operands->∀w O m v,az w O m v (s.ev z)->az w O m v (dm z))
  (aP:o.op= .call c) (hc:qY dm c=some (l,args)) (ha:V.dA [5003] args=true) {L2:aH} (hL:s.L.Perm ((5003,.env A)::L2))
  (ia:∀p∈s.fr,V.on (keys L2) p.2=true) (ja:∀p∈L2,aV.on (keys L2) p.2=true) (hk:5003∉keys L2) (h:rV P l args [(5003,.env A)] (YR A' B)) (wrap:V->V) (OB:∀{w O m v x},az w O m v x->az w O m v (wrap x))
  (kt:ar P n ops rest (St.put {s with L:=(5003,.env A')::L2} o.dst (wrap (oD true))) Q) (kf:ar P n ops rest (St.put {s with L:=(5003,.env B)::L2} o.dst (wrap (oD false))) Q):ar P n ops (o::rest) s Q:=by
 intro fo m0 w0 m a w st g;unfold wpListIn;rw[if_pos (hw g)];have ajP:=λz hz=>hρ z hz _ _ _ _ (cj g z)
 refine core (L1:=[(5003,.env A)]) (R:=YR A' B) hL (by rfl) (λp hp=>by grind) ?_ (λgT m1 oY oG qm=>?_) g
  (λx bh mm v w' hR wq hinv qn abp cN s6=>?_) (λx bh mm ch w' hR=>by rcases hR with⟨h,_⟩|⟨h,_⟩<;>cases h)
 ·rintro r bh (⟨_,rfl⟩|⟨_,rfl⟩)<;>exact⟨by simpa[keys]using hk,by simp⟩
 ·obtain⟨h1,h2⟩:=X7 aP hc ajP;rw[h2];refine h gT m1 w _ qm ⟨h1.1,λj v y hv hy=>?_⟩;exact((h1.2 j v y hv hy).on oG (by grind[keys,fP,List.mem_of_getElem?])).mono (bK.refl w _) (λb _ hb=>(oY b).1 hb) (λ_ _ e=>e)
 ·have ajQ:=λh y hh=>abp h y (aqm _ hh)
  have g':G fo n mm {s with L:=bh++L2} a w':=⟨g.size,λt y hy=>by
   obtain⟨q1,q2⟩:=g.fr t y hy;exact⟨q1,(q2.on ajQ (ia _ hy)).mono cN s6 (λ_ _ e=>e)⟩,hinv,g.defers⟩
  rcases hR with⟨h1,rfl⟩|⟨h1,rfl⟩
  ·obtain rfl:=AE.ret.inj h1;exact kt fo m0 w0 mm _ w' (st.trans qn) (g'.put hd (OB wq))
  ·obtain rfl:=AE.ret.inj h1;exact kf fo m0 w0 mm _ w' (st.trans qn) (g'.put hd (OB wq))
theorem G9{h r}:∀{L},(keys L).Nodup->L.lookup h=some r->L.Perm ((h,r)::L.filter (λp=>p.1 !=h))
 | [],_,hl=>by cases hl
 | (k,q)::L,hn,hl=>by
   simp at hn;rw[List.lookup_cons]at hl;by_cases e:h=k
   ·subst e;simp at hl;have:L.filter (λp=>p.1 !=h)=L:=by
     rw[List.filter_eq_self];grind
    simp[*]
   ·have e':(h==k)=false:=by grind
    rw[e']at hl;have hf:((k,q).1 !=h)=true:=by grind
    rw[aqG,hf];exact((G9 hn.2 hl).cons _).trans (List.Perm.swap _ _ _)
theorem ar.X9{o:Oper}{rest}{c}{l}{args}{A A' B}(h:rV P l args [(5003,.env A)] (YR A' B))(aP:o.op= .call c)(hc:qY s.ev c=some (l,args))(ha:V.dA [5003] args=true)(hg:o.guard=none)
  (hd:∀d,o.dst=some d->d<n) (hr:dB n rest=true) (hn:(keys s.L).Nodup) (hL:s.L.lookup 5003=some (.env A))
  (ia:s.fr.all (λp=>V.on (keys (s.L.filter λp=>p.1 !=5003)) p.2)=true) (ja:(s.L.filter λp=>p.1 !=5003).all (λp=>aV.on (keys (s.L.filter λp=>p.1 !=5003)) p.2)=true)
  (kt:∀bs,eN P ops rest (St.put {s with L:=(5003,.env A')::s.L.filter λp=>p.1 !=5003} o.dst (oD true)) bs [] (KK P n ops Q))
  (kf:∀bs,eN P ops rest (St.put {s with L:=(5003,.env B)::s.L.filter λp=>p.1 !=5003} o.dst (oD false)) bs [] (KK P n ops Q)):ar P n ops (o::rest) s Q:=
 ar.X8 (λ_=>by simp[Region.wanted,hg]) hd (λ_ _ _ _ _ _ h=>h) aP hc ha (G9 hn hL) (λp hp=>apR.1 ia p hp) (λp hp=>apR.1 ja p hp) (by simp) h id (λh=>h)
  (bf rest _ [] hr kt) (bf rest _ [] hr kf)
theorem ar.Ya{o}{rest}{c}{l}{args}{A A' B}{b}(h:b=true→rV P l args [(5003,.env A)] (YR A' B))(aP:o.op= .call c)(lD:gk ops s o=some (some b))(hu:b=true→nQ s o.op.operands.toList)(hc:b=true→qY (fun z=>(s.ev z).un) c=some (l,args))(ha:V.dA [5003] args=true)
  (hd:∀d,o.dst=some d->d<n) (hr:dB n rest=true) (hn:(keys s.L).Nodup) (hL:s.L.lookup 5003=some (.env A))
  (ia:s.fr.all (λp=>V.on (keys (s.L.filter λp=>p.1 !=5003)) p.2)=true) (ja:(s.L.filter λp=>p.1 !=5003).all (λp=>aV.on (keys (s.L.filter λp=>p.1 !=5003)) p.2)=true)
  (kt:b=true->∀bs,eN P ops rest (St.put {s with L:=(5003,.env A')::s.L.filter λp=>p.1 !=5003} o.dst (.gd true (oD true))) bs [] (KK P n ops Q))
  (kf:b=true->∀bs,eN P ops rest (St.put {s with L:=(5003,.env B)::s.L.filter λp=>p.1 !=5003} o.dst (.gd true (oD false))) bs [] (KK P n ops Q))
  (kn:b=false->∀bs,eN P ops rest (s.put o.dst (.gd false .any)) bs [] (KK P n ops Q)):ar P n ops (o::rest) s Q:=by
 cases b with
 | true=>
   exact ar.X8 (λg=>nN g lD) hd (λz hz w O m v hr=>vn hr (sB (hu rfl) z (by grind))) aP (hc rfl) ha (G9 hn hL) (λp hp=>apR.1 ia p hp) (λp hp=>apR.1 ja p hp) (by simp) (h rfl) (.gd true) (λh=> .gt _ _ h)
    (bf rest _ [] hr (kt rfl)) (bf rest _ [] hr (kf rfl))
 | false=>
   intro fo m0 w0 m a w st g;unfold wpListIn;rw[if_neg (by grind[nN])];exact⟨λ_ _=>trivial,bf rest _ [] hr (kn rfl) fo m0 w0 m _ w st (g.put hd (.gf _))⟩
def UX:Value->List Value
 | .tuple vs=>vs.toList
 | v=> [v]
theorem Lq x b:(∃v∈UX x,jU v b)↔df x b:=by
 cases x<;>simp[UX,df]
def yc(l:Nat)(L:aH)(m:Nat->Option Value):Value:=
 .tuple (Value.pointer (some ⟨l,0,none⟩)::(keys L).flatMap (λh=>match m h with|some x=>UX x|none=> [])).toArray
theorem uN{l L m}(hd:∀h x,m h=some x->h∈keys L) b:df (yc l L m) b↔b=l\/own m b:=by
 simp only[yc,df,asg,ap8,List.mem_flatMap];constructor
 ·rintro⟨v,rfl|⟨h,hh,hv⟩,hb⟩
  ·simp_all[jU]
  ·right;cases hx:m h with
   | none=>grind
   | some x=>rw[hx]at hv;exact⟨h,x,hx,(Lq x b).1 ⟨v,hv,hb⟩⟩
 ·rintro(rfl|⟨h,x,hx,hb⟩)
  ·exact⟨_,.inl rfl,rfl⟩
  grind[Lq]
structure Bun(w:World) (O:Nat->Prop) (l:Nat) (L:aH) (m:Nat->Option Value):Prop where
 nodup:(keys L).Nodup
 fI:∀h x,m h=some x->h∈keys L
 apart:∀h h' x x' b,m h=some x->m h'=some x'->df x b->df x' b->h=h'
 self:¬own m l
 holds:∀h r,(h,r)∈L->∃x,m h=some x/\r.Holds w O m x
theorem Bun.lt{w O l L m}(hb:Bun w O l L m){b}(h:own m b):b<w.heap.size:=by
 obtain⟨h,x,hx,kA⟩:=h;obtain⟨r,hr⟩:=HR (hb.fI h x hx);obtain⟨x',cy,hh⟩:=hb.holds h r hr;rw[hx]at cy;obtain rfl:=apO cy;exact hh.lt kA
def pn(r0:Loop)(l:Nat)(fr:List (Nat×V))(J:LoopState->Option Code->aH->Prop):Env where
 H w O x:=∃st pd L m,J st pd L/\x=yc l L m/\Bun w O l L m/\w.heap[l]?=some (.loop {r0 with state:=st,pending:=pd})/\∀t y,(t,y)∈fr->az w O m (r0.tmps.getD t undef) y
 mono:=by
  rintro w w' O O' x ⟨st,pd,L,m,hJ,rfl,hb,hl,hf⟩ tU hk hO;have Ha:=λb=>uN (l:=l) (L:=L) (m:=m) hb.fI b
  refine⟨st,pd,L,m,hJ,rfl,⟨hb.nodup,hb.fI,hb.apart,hb.self,λh r hr=>?_⟩,?_,λt y hy=>(hf t y hy).mono hk hO (λ_ _ e=>e)⟩
  ·obtain⟨x,hx,hh⟩:=hb.holds h r hr;exact⟨x,hx,hh.mono (λb kA=>tU b ((Ha b).2 (.inr ⟨h,x,hx,kA⟩))) hk hO (λ_ _ e=>e)⟩
  ·rw[tU l ((Ha l).2 (.inl rfl))];exact hl
 lt:=by
  rintro w O x b ⟨st,pd,L,m,hJ,rfl,hb,hl,hf⟩ kA;rcases(uN (l:=l) (L:=L) (m:=m) hb.fI b).1 kA with rfl|h
  ·exact(ap6.1 hl).1
  ·exact hb.lt h
def one(x:Value):Nat->Option Value:=λh=>if h=5003 then some x else none
theorem J7 x b:own (one x) b↔df x b:=by
 constructor
 ·rintro⟨h,y,hy,hb⟩;simp_all[one]
 ·intro hb;exact⟨5003,x,by rfl,hb⟩
theorem Iz{fo fo'}{r0}{l}{fr}{J}{m}{L}{w}{st}{pd}(hf:∀b,fo.f b→fo'.f b)(hl:fo'.f l)(jz:¬fo.f l)
  (hi:Inv fo' m L w) (hJ:J st pd L) (sD:w.heap[l]?=some (.loop {r0 with state:=st,pending:=pd})) (ia:∀t y,(t,y)∈fr->az w (OO fo' m) m (r0.tmps.getD t undef) y):
  Inv fo (one (yc l L m)) [(5003,.env (pn r0 l fr J))] w:=by
 have Ha:=λb=>uN (l:=l) hi.fI b
 have hO:∀b,OO fo (one (yc l L m)) b->OO fo' m b:=by
  rintro b (h|h)
  ·rcases(Ha b).1 ((J7 _ b).1 h)with rfl|h
   ·exact .inr hl
   ·exact .inl h
  ·exact .inr (hf b h)
 refine⟨by simp,?_,?_,?_,λb h=>hi.ei b (hf b h),?_,hi.ef.mono (bK.refl w _) (λb _ hb=>hO b hb)⟩
 ·simp[one]
 ·simp_all[one]
 ·intro h x b hx hb;by_cases e:h=5003
  ·simp[one,if_pos e]at hx;subst hx;rcases(Ha b).1 hb with rfl|⟨i,y,hy,AN⟩
   ·omega
   ·exact λh=>hi.others i y b hy AN (hf b h)
  simp_all[one]
 ·intro h r hr;simp at hr;obtain⟨rfl,rfl⟩:=hr;refine⟨yc l L m,by rfl,st,pd,L,m,hJ,rfl,⟨hi.nodup,hi.fI,hi.apart,?_,λh r hr=>?_⟩,sD,λt y hy=>(ia t y hy).mono (bK.refl w _) (λb _ hb=>hO b hb) (λ_ _ e=>e)⟩
  ·rintro⟨i,y,hy,hb⟩;exact hi.others i y l hy hb hl
  ·obtain⟨x,hx,hh⟩:=hi.holds h r hr;exact⟨x,hx,hh.mono (λ_ _=>rfl) (bK.refl w _) (λb _ hb=>hO b hb) (λ_ _ e=>e)⟩
theorem Hb{fo}{m1}{r0}{l}{fr}{J}{w}(hi:Inv fo m1 [(5003,.env (pn r0 l fr J))] w) D rr:
  ∃st pd L m,J st pd L/\w.heap[l]?=some (.loop {r0 with state:=st,pending:=pd})/\Inv ⟨λb=>fo.f b\/b=l,D,rr,false⟩ m L w/\(∀t y,(t,y)∈fr->az w (OO ⟨λb=>fo.f b\/b=l,D,rr,false⟩ m) m (r0.tmps.getD t undef) y)/\
   (∀b,own m1 b↔b=l\/own m b)/\¬fo.f l:=by
 obtain⟨x,hx,st,pd,L,m,hJ,rfl,hb,hl,hf⟩:=hi.holds 5003 _ ap7;have Ha:=λb=>uN (l:=l) hb.fI b
 have fb:∀b,own m1 b↔b=l\/own m b:=by
  intro b;rw[<-Ha b];constructor
  ·rintro⟨h,y,hy,AN⟩;have hk:=hi.fI h y hy;simp_all
  ·intro h;exact⟨5003,_,hx,h⟩
 have af3:∀b,own m1 b->¬fo.f b:=by
  rintro b ⟨h,y,hy,AN⟩;exact hi.others h y b hy AN
 have hO:∀b,OO ⟨λb=>fo.f b\/b=l,D,rr,false⟩ m b->OO fo m1 b:=by
  rintro b (h|h|rfl)
  ·exact .inl ((fb b).2 (.inr h))
  ·exact .inr h
  ·exact .inl ((fb _).2 (.inl rfl))
 refine⟨st,pd,L,m,hJ,hl,⟨hb.nodup,hb.fI,hb.apart,?_,?_,?_,hi.ef.mono (bK.refl w _) (λb _ hb=>hO b hb)⟩,λt y hy=>(hf t y hy).mono (bK.refl w _) (λb _ hb=>hO b hb) (λ_ _ e=>e),fb,af3 l ((fb l).2 (.inl rfl))⟩
 ·rintro h y b hy AN (FQ|rfl)
  ·exact af3 b ((fb b).2 (.inr ⟨h,y,hy,AN⟩)) FQ
  ·exact hb.self ⟨h,y,hy,AN⟩
 ·rintro b (FQ|rfl)
  ·exact hi.ei b FQ
  grind
 ·intro h r hr;obtain⟨y,hy,hh⟩:=hb.holds h r hr;exact⟨y,hy,hh.mono (λ_ _=>rfl) (bK.refl w _) (λb _ hb=>hO b hb) (λ_ _ e=>e)⟩
end
section
variable {P : Program} {n : Nat} {s : St} {Q : AX -> St -> Prop}
def wV:List (Nat×V)->List (Nat×V)->List (Nat×V)
 | [],fr=>fr
 | (t,x)::l,fr=>wV l ((t,x)::vS t fr)
def dj:aH->List (Nat×Nat)
 | []=> []
 | (h,.box (b+1) _ _)::L=>(h,b)::dj L
 | _::L=>dj L
theorem ns{h b}:∀{L},(h,b)∈dj L->∃ty cs,(h,aV.box (b+1) ty cs)∈L
 | [],hm=>by cases hm
 | (k,.box 0 ty cs)::L,hm=>by
   simp_all[dj,ns]
 | (k,.box (c+1) ty cs)::L,hm=>by
   simp[dj]at hm;rcases hm with⟨rfl,rfl⟩|hm
   ·grind
   ·obtain⟨mw,jL,h'⟩:=ns hm;exact⟨mw,jL,ap2 _ h'⟩
 | (k,.row ty j xs)::L,hm=>by
   simp_all[dj,ns]
 | (k,.env A)::L,hm=>by
   simp_all[dj,ns]
 | (k,.mp es)::L,hm=>by
   simp_all[dj,ns]
theorem UY{fo m L w}(hi:Inv fo m L w){h x}(hk:h∈(dj L).map (·.1))(hx:m h=some x):∃b,(h,b)∈dj L/\x= .pointer (some ⟨b,0,none⟩):=by
 obtain⟨⟨h',b⟩,hm,rfl⟩:=apV.1 hk;obtain⟨ty,cs,mu⟩:=ns hm;obtain⟨y,hy,bb,kA,cur,rfl,_⟩:=hi.holds _ _ mu;grind
theorem Lr{fo fo' m m' L L' w w'}(hi:Inv fo m L w)(ck:Inv fo' m' L' w')(hl:dj L'=dj L):∀h x,h∈(dj L).map (·.1)->m h=some x->m' h=some x:=by
 intro h x hk hx;obtain⟨b,hb,rfl⟩:=UY hi hk hx;rw[<-hl]at hb;obtain⟨ty,cs,hm⟩:=ns hb;obtain⟨y,hy,Ny⟩:=ck.holds _ _ hm;obtain⟨bb,kA,cur,rfl,_⟩:=Ny;grind
def DW:Option Code->AX->Prop
 | some .ret,.ret=>True
 | some (.exit i),.exit j=>i=j
 | some (.goto i),.goto j=>i=j
 | _,_=>False
def IA(hs:List Nat)(L0 L':aH)(Hn:Prop)(fr:List (Nat×V))(K:AX->St->Prop)(x:AX)(s:St):Prop:=
 match x with
 | .normal=>(s.pick [] hs).on (keys (s.pick [] hs).L)=true/\(s.pick [] hs).L=L'/\Hn
 | .iC _=>False
 | x=>(s.pick [] hs).on (keys (s.pick [] hs).L)=true/\dj (s.pick [] hs).L=dj L0/\K x ⟨fr,(s.pick [] hs).L⟩
theorem QV{ps:List Tmp}{xs}:∀(T:Array Value),(((ps.zip xs).foldl (λtmps (p:Tmp×Value)=>tmps.setIfInBounds p.1 p.2) T)).size=T.size:=by
 induction ps.zip xs with
 | nil=>simp
 | cons p l ih=>grind
theorem IB{w}{O}{m}:∀(ps:List Tmp) xs ys (T:Array Value) fr,xs.length=ps.length→ys.length=ps.length→(∀p:Tmp,p∈ps→p < T.size)→
  (∀(j:Nat) x y,xs[j]?=some x->ys[j]?=some y->az w O m x y)->(∀t y,(t,y)∈fr->t<T.size/\az w O m (T.getD t undef) y)->
  ∀t y,(t,y)∈wV (ps.zip ys) fr->t<T.size/\az w O m (((ps.zip xs).foldl (λtmps (p:Tmp×Value)=>tmps.setIfInBounds p.1 p.2) T).getD t undef) y
 | [],_,_,T,fr,_,_,_,_,hf,t,y,h=>by simpa[wV]using hf t y h
 | p::ps,[],_,_,_,h,_,_,_,_,_,_,_=>by grind
 | p::ps,x::xs,[],_,_,_,h,_,_,_,_,_,_=>by grind
 | p::ps,x::xs,z::ys,T,fr,h1,h2,hp,hr,hf,t,y,h=>by
   simp only[List.zip_cons_cons,wV,List.foldl_cons]at h⊢;have key:=IB ps xs ys (T.setIfInBounds p x) ((p,z)::vS p fr) (by grind) (by grind) (λq hq=>by grind) (λj x y hx hy=>hr (j+1) x y (by grind) (by grind)) (λt y hm=>by
    rcases ap8.1 hm with e|hm
    ·simp only[apM]at e;obtain⟨rfl,rfl⟩:=e;have ay:=hp t ap7;refine⟨by grind,?_⟩;simpa[Array.getD,ay]using hr 0 x y rfl rfl
    ·obtain⟨hm,bU⟩:=sr hm;have:(T.setIfInBounds p x).getD t undef=T.getD t undef:=by
      have Uj:¬p=t:=λe=>bU e.symm
      simp_all
     grind) t y h
   grind
theorem MN{r0:Loop}{l}{fr}{J J' JB}{args}{L0}{K}
  (IC:gi r0.assign=false/\gi r0.body=false) (hT:r0.tmps.size=n) (ID:args.length=r0.params.size) (SO:∀p∈r0.params.toList,p<n) (ha:V.dA [] args=true)
  (ia:∀t y,(t,y)∈fr->t<n/\V.on ((dj L0).map (·.1)) y=true)
  (hJ:∀st pd L,J st pd L->st= .ready/\pd=none/\dj L=dj L0)
  (ahS:∀st pd L,J st pd L->∃L' Hn,(Hn->J' .ready none L'/\dj L'=dj L0)/\cP P n r0.assign ⟨wV (r0.params.toList.zip args) fr,L⟩ (AX.then (λs2=>cP P n r0.body s2 (IA (keys L0) L0 L' Hn fr K)) (λ_ _=>False)))
  (kg:(keys L0).Nodup)
  (hJB:∀pd x L,DW pd x->dj L=dj L0->K x ⟨fr,L⟩->JB .done pd L):
  rV P l args [(5003,.env (pn r0 l fr J))] (YR (pn r0 l fr J') (pn r0 l fr JB)):=by
 intro fo m1 w xs hi hx;obtain⟨st,pd,L,m,hj,sD,ck,hf,fb,jz⟩:=Hb hi [] (some l);obtain⟨rfl,rfl,ox⟩:=hJ _ _ _ hj;obtain⟨L',Hn,Lg,yY⟩:=ahS _ _ _ hj;have dW:xs.size=r0.params.size:=by rw[hx.1,ID]
 let Lt:FO:=⟨λb=>fo.f b\/b=l,[],some l,false⟩
 have hO:∀b,OO Lt m b↔OO fo m1 b:=by
  grind[OO]
 refine⟨.round l r0.fn ((r0.params.zip xs).foldl (λtmps (t,a)=>tmps.setIfInBounds t a) r0.tmps) r0.assign r0.body,?_,?_⟩
 ·simp_all[Instr.yield,Instr.getLoop,Sem.run_bind,xX]
 ·show RoundIn Fence.wide 0 P l r0.fn _ r0.assign r0.body w _;have ahT:(r0.params.zip xs).foldl (λtmps (t,a)=>tmps.setIfInBounds t a) r0.tmps=(r0.params.toList.zip xs.toList).foldl (λtmps (p:Tmp×Value)=>tmps.setIfInBounds p.1 p.2) r0.tmps:=by
   rw[<-Array.foldl_toList,Array.toList_zip]
  rw[ahT];refine roundIn_of_wpIn (F:=Fence.wide) trivial ?_;have g:G Lt n m ⟨wV (r0.params.toList.zip args) fr,L⟩ {tmps:=(r0.params.toList.zip xs.toList).foldl (λtmps (p:Tmp×Value)=>tmps.setIfInBounds p.1 p.2) r0.tmps,defers:=[]} w:=by
   refine⟨by simp_all[QV],λt y hy=>?_,ck,rfl⟩;have:=IB (w:=w) (O:=OO Lt m) (m:=m) r0.params.toList xs.toList args r0.tmps fr (by omega) (by omega) (λp hp=>by grind)
    (λj x y hxj hyj=>((hx.2 j x y (by grind) hyj).on (ks:=[]) (m':=m) (by simp) (fP ha y (apT hyj))).mono (bK.refl w _) (λb _ hb=>(hO b).1 hb) (λ_ _ e=>e))
    (λt y hy=>⟨by grind,hf t y hy⟩) t y hy
   grind
  have h1:=eg _ _ _ yY Lt m _ w (λh=>by grind) g;refine Code.wpIn_mono (F:=Fence.wide.inRound l) ?_ h1;rintro e1 a1 w1 ⟨ms1,m2,x1,s1,mx,OD,g1,iZ,CM⟩;have ahU:¬own m l:=by
   rintro⟨i,y,hy,hb⟩;exact ck.others i y l hy hb (.inr rfl)
  have ahV:w1.heap[l]?=some (.loop {r0 with state:= .ready,pending:=none}):=by
   rw[CM.block l (ap6.1 sD).1 ahU];omega
  cases e1 with
  | normal=>
    cases x1<;>simp only[bF]at iZ
    simp only[AX.then]at OD;show ∃w2,(Instr.beginRound l).run P w1= .ok () w2/\_;refine⟨nR w1 l (.loop {r0 with state:= .busy,pending:=none}),?_,?_⟩
    ·simp_all[Instr.beginRound,Instr.getLoop,Sem.run_bind,xX,Br]
    ·have pU:l<w1.heap.size:=(ap6.1 ahV).1;have g2:=g1.others (w':=nR w1 l (.loop {r0 with state:= .busy,pending:=none})) (by simp[jA,apU]) (λb _ hb=>qS (λe=>hb (.inl (.inr e))));have h2:=eg _ _ _ OD (Lt.mark ms1) m2 _ _ (λh=>by grind) g2;refine Code.wpIn_mono (F:=Fence.wide.inRound l) ?_ h2;rintro e3 a3 w3 ⟨ms3,m3,x3,s3,hm3,SP,g3,yb,ye⟩;rw[FO.KQ]at g3 yb;generalize X4:Lt.mark (ms3++ms1)=Yb at g3 yb;have OE:∀b,fo.f b->Yb.f b:=λb h=>by subst X4;exact .inl (.inl h)
     have hl4:Yb.f l:=by subst X4;exact .inl (.inr rfl)
     have af4:¬own m2 l:=by
      rintro⟨i,y,hy,hb⟩;exact g1.inv.others i y l hy hb (.inl (.inr rfl))
     have UZ:w3.heap[l]?=some (.loop {r0 with state:= .busy,pending:=none}):=by
      rw[ye.block l (by simp_all[jA]) af4];exact K8 pU
     have hl3:l < w3.heap.size:=(ap6.1 UZ).1;have fin:∀(st:LoopState) (pd:Option Code) (J2:LoopState→Option Code→aH→Prop),(s3.pick [] (keys L0)).on (keys (s3.pick [] (keys L0)).L)=true→dj (s3.pick [] (keys L0)).L=dj L0→J2 st pd (s3.pick [] (keys L0)).L→
       ∃m5,Inv fo m5 [(5003,.env (pn r0 l fr J2))] (nR w3 l (.loop {r0 with state:=st,pending:=pd}))/\Step w (own m1) (nR w3 l (.loop {r0 with state:=st,pending:=pd})) (own m5):=by
      intro st pd J2 iu ahW hJ2;obtain⟨m4,g4,st4⟩:=Wk.pick [] (keys L0) (by simp) kg iu Yb m3 a3 w3 g3;have g5:=g4.others (w':=nR w3 l (.loop {r0 with state:=st,pending:=pd})) (by simp[jA,apU]) (λb _ hb=>qS (λe=>hb (e ▸ hl4)));have ahX:=Lr ck g5.inv (ahW.trans ox.symm);have ahY:∀b,b<w.heap.size->own m4 b->own m b:=λb hb h4=>by
       have h3:=st4.owned b (aqa hb (aqo CM.size (by have:=ye.size;grind[jA]))) h4;have h2:=ye.owned b (by rw[jA];exact aqa hb CM.size) h3;exact CM.owned b hb h2
      have tG:∀b,b<w.heap.size->¬own m b->b≠l->(nR w3 l (.loop {r0 with state:=st,pending:=pd})).heap[b]?=w.heap[b]?:=by
       intro b hb ho tU;have Ay:=aqa hb CM.size;rw[qS tU,ye.block b (by simp_all[jA]) (λh=>ho (CM.owned b hb h)),qS tU];exact CM.block b hb ho
      have lj:w.heap.size<=(nR w3 l (.loop {r0 with state:=st,pending:=pd})).heap.size:=by
       rw[jA];exact aqo CM.size (by have:=ye.size;grind[jA])
      have cN:bK w (OO Lt m) (nR w3 l (.loop {r0 with state:=st,pending:=pd})):=⟨lj,λb hb ho=>tG b hb (λh=>ho (.inl h)) (λe=>ho (.inr (.inr e)))⟩
      have hOs:∀b,b<w.heap.size->OO Yb m4 b->OO Lt m b:=by
       rintro b hb (h|h)
       ·exact .inl (ahY b hb h)
       ·subst X4;rcases h with h|h
        ·exact .inr h
        ·exfalso;rcases ap9.1 h with h|h
         ·have h1:=(hm3.2 b h).1;rw[jA]at h1;have:=CM.size;omega
         ·have:=(mx.2 b h).1;omega
      have NF:(nR w3 l (.loop {r0 with state:=st,pending:=pd})).heap[l]?=some (.loop {r0 with state:=st,pending:=pd}):=K8 hl3;refine⟨_,Iz (fo:=fo) (fo':=Yb) OE hl4 jz g5.inv hJ2 NF (λt y hy=>?_),?_⟩
      ·exact((hf t y hy).on ahX (by grind)).mono cN hOs (λ_ _ e=>e)
      ·refine⟨?_,?_,?_,lj,λb hb ho=>?_,λb hb h5=>?_⟩
       ·show w3.os=w.os;exact ye.os.trans CM.os
       ·show w3.tape=w.tape;exact ye.tape.trans CM.tape
       ·show w3.output=w.output;exact ye.output.trans CM.output
       ·grind
       ·rw[J7,uN g5.inv.fI]at h5;grind
     have Hc:∀jump:Option Code,(Instr.endRound l jump).run P w3= .ok (.bool jump.isNone) (nR w3 l (.loop {r0 with state:=if jump.isNone then .ready else .done,pending:=jump})):=by
      intro jump;simp[Instr.endRound,Instr.getLoop,Sem.run_bind,xX UZ (by simp),Br UZ (by simp)]
     have U0:∀(jump:Code) (x:AX),DW (some jump) x→(s3.pick [] (keys L0)).on (keys (s3.pick [] (keys L0)).L)=true∧dj (s3.pick [] (keys L0)).L=dj L0∧K x ⟨fr,(s3.pick [] (keys L0)).L⟩→
       ∃v w',(Instr.endRound l (some jump)).run P w3= .ok v w'/\mK fo m1 w (YR (pn r0 l fr J') (pn r0 l fr JB)) (.returned v) w':=by
      rintro jump x hj ⟨q1,q2,q3⟩;obtain⟨m5,i5,s5⟩:=fin .done (some jump) JB q1 q2 (hJB _ _ _ hj q2 q3);exact⟨_,_,Hc _,m5,.ret (oD false),_,.inr ⟨rfl,rfl⟩,.d _ _ (.v _ rfl),i5,s5⟩
     cases e3 with
     | normal=>
       cases x3<;>simp only[bF]at yb
       obtain⟨q1,q2,q3⟩:=SP;obtain⟨n1,n2⟩:=Lg q3;obtain⟨m5,i5,s5⟩:=fin .ready none J' q1 (by grind) (by grind);exact⟨_,_,Hc none,m5,.ret (oD true),_,.inl ⟨rfl,rfl⟩,.d _ _ (.v _ rfl),i5,s5⟩
     | ret=>
       cases x3<;>simp only[bF]at yb
       exact U0 .ret .ret trivial SP
     | exit i=>
       cases x3<;>simp only[bF]at yb
       subst yb;exact U0 (.exit i) (.exit i) rfl SP
     | goto i=>
       cases x3<;>simp only[bF]at yb
       subst yb;exact U0 (.goto i) (.goto i) rfl SP
     | panic ch=>cases x3<;>simp only[bF]at yb;exact SP.elim
     | outgrown=>grind[bF]
  | exit i=>cases x1<;>simp only[bF]at iZ;simp_all
  | goto i=>cases x1<;>simp only[bF]at iZ;simp_all
  | ret=>cases x1<;>simp only[bF]at iZ;simp_all
  | panic ch=>cases x1<;>simp only[bF]at iZ;simp_all
  | outgrown=>simp_all[bF]
end
section
variable {P : Program} {n : Nat} {s : St} {Q : AX -> St -> Prop}
def OF(w:World)(o:Obj):World:={w with heap:=w.heap.push o}
theorem DX(w:World)(o:Obj):(OF w o).heap.size=w.heap.size+1:=by
 show(w.heap.push o).size=_;rw[Array.size_push]
theorem Lu(w:World)(o:Obj):(OF w o).heap[w.heap.size]?=some o:=by
 show(w.heap.push o)[w.heap.size]?=_;rw[Array.getElem?_push,if_pos rfl]
theorem SQ{w:World}{o:Obj}{b:Nat}(h:b<w.heap.size):(OF w o).heap[b]?=w.heap[b]?:=by
 show(w.heap.push o)[b]?=_;rw[Array.getElem?_push,if_neg (by omega)]
theorem perm_keys{L L':aH}(h:L.Perm L'):(keys L).Perm (keys L'):=h.map _
end
section
variable {P : Program} {n : Nat} {s : St} {Q : AX -> St -> Prop}
theorem OG{g:Operand}{ps:List Tmp}{assign body:Code}:cP P n (.rangeFunc g ps.toArray assign body) s Q=aw P n (.rangeFunc g ps.toArray assign body) s Q:=by simp[cP]
attribute [simp] yv OG IA wV dj
end
section
variable {P : Program} {n : Nat} {s : St} {Q : AX -> St -> Prop} {L : aH}
mutual
theorem Lv(h:Nat):∀x:V,V.kill h (V.kill h x)=V.kill h x
 | .bp i o=>by simp only[V.kill];split<;>simp[V.kill, *]
 | .rv i=>by simp only[V.kill];split<;>simp[V.kill, *]
 | .ep i k x y=>by simp only[V.kill];split<;>simp[V.kill, *]
 | .eW fn f c=>by simp only[V.kill,rW h f,rW h c]
 | .agg cs=>by simp only[V.kill,rW h cs]
 | .bM cs=>by simp only[V.kill,rW h cs]
 | .gd b x=>by simp only[V.kill,Lv h x]
 | .d x=>rfl
 | .rp cs=>rfl
 | .sv i n=>by simp only[V.kill];split<;>simp[V.kill, *]
 | .kn Q=>rfl
 | .any=>rfl
theorem rW(h:Nat):∀l:List V,V.dR h (V.dR h l)=V.dR h l
 | []=>rfl
 | x::l=>by simp only[V.dR,Lv h x,rW h l]
end
theorem Inv.perm{fo m L L' w}(hp:L.Perm L')(h:Inv fo m L w):Inv fo m L' w:=
 ⟨(perm_keys hp).nodup_iff.1 h.nodup,λi x hx=>(perm_keys hp).mem_iff.1 (h.fI i x hx),h.apart,h.others,h.ei,λi r hr=>h.holds i r (hp.mem_iff.2 hr),h.ef⟩
end
theorem bc:prog.follows .mixedOrders=true:=by rfl
def bJ(n lo hi:Int):Bool:=decide (lo<=n)&&decide (n<=hi)
theorem zp{n lo hi}:bJ n lo hi=true↔lo<=n/\n<=hi:=by simp[bJ]
def ib(n:Int):Bool:=bJ n (-32768) 32767
theorem bu n lo hi:Pure prog 57 [iD n,iD lo,iD hi] (oD (bJ n lo hi)):=by
 unfold bJ;refine Pure.run func57 rfl (by simp) ?_;simp
theorem BG n:Pure prog 56 [iD n] (oD (ib n)):=by
 unfold ib bJ;refine Pure.run func56 rfl (by simp) ?_;simp
def cx{α:Type}(p:α->Bool)(l:List α):Bool:=l.all p
theorem hY{α:Type}(p:α->Bool):cx p []=true:=rfl
theorem fV{α} p pre(x:α):cx p (pre++ [x])=(cx p pre&&p x):=by simp[cx]
theorem eU{α p l pre post}{x:α}(h:l=pre++x::post)(hH:cx p pre=true):cx p l=(p x&&cx p post):=by
 simp_all[cx]
theorem abq{α p}{l:List α}:cx p l=true↔∀x∈l,p x=true:=by simp[cx]
theorem jk l(hl:l.length<=1000000000000000):Pure prog 53 [.d (.sl (aD l))] (oD (cx ib l)):=by
 refine Pure.run func53 rfl (by simp) ?_;simp;refine aw.fq [0,3] l (λpre=> [(3,iD pre.length)]) (λ_=> []) (λpre=>cx ib pre=true) (by rfl) (by omega) (by simp[hY]) ?_ ?_
 ·rintro pre x post bn hH ay bR a4;have bQ:=eU bn hH;clear bn;simp[*];refine ar.bA rfl (BG x) (by simp) rfl (by simp) rfl ?_;simp;simp_all[fV]
 ·simp
def DY(c:Int):Bool:=bJ c 97 122
def DZ(c:Int):Bool:=bJ c 65 90
def D0(c:Int):Bool:=bJ c 48 57
def U1(c:Int):Bool:=DY c||DZ c||D0 c||c==45||c==39
def abr(c:UInt8):Bool:=!((decide ((c.toNat:Int)<32)||decide ((c.toNat:Int) > 126))&&(c.toNat:Int) !=10)
def OH(c:UInt8):Bool:=U1 c.toNat&&!DZ c.toNat
def uO(s:ByteArray):Bool:=cx abr s.data.toList&&decide (s.size<=1024)
def xr(s:ByteArray):Bool:=decide (1<=s.size)&&decide (s.size<=9)&&(DY (s.data.toList[0]?.getD 0).toNat||D0 (s.data.toList[0]?.getD 0).toNat)&&cx OH s.data.toList
theorem u6 c:Pure prog 261 [.d (.v (.int .u8 c))] (oD (DY c)):=by
 unfold DY bJ;refine Pure.run func261 rfl (by simp) ?_;simp
theorem u7 c:Pure prog 264 [.d (.v (.int .u8 c))] (oD (DZ c)):=by
 unfold DZ bJ;refine Pure.run func264 rfl (by simp) ?_;simp
theorem u9 c:Pure prog 262 [.d (.v (.int .u8 c))] (oD (D0 c)):=by
 unfold D0 bJ;refine Pure.run func262 rfl (by simp) ?_;simp
theorem jC c:Pure prog 263 [.d (.v (.int .u8 c))] (oD (U1 c)):=by
 unfold U1;refine Pure.run func263 rfl (by simp) ?_;simp
 repeat' (first
  | (refine pC (u6 _) ?_<;>(try simp))
  | (refine ar.fE rfl (λh=>u7 _) rfl (by first|rfl) (by simp) (by simp) rfl ?_<;>(try simp))
  | (refine ar.fE rfl (λh=>u9 _) rfl (by rfl) (by simp) (by simp) rfl ?_<;>(try simp))
  )
theorem OI s(hs:s.size<=1000000000000000):Pure prog 170 [.d (.v (.string s))] (oD (uO s)):=by
 have dW:s.data.toList.length=s.size:=rfl;unfold uO;refine Pure.run func170 rfl (by simp) ?_;simp;refine aw.fq [0,3] s.data.toList (λpre=> [(3,iD pre.length)]) (λ_=> []) (λpre=>cx abr pre=true) (by rfl) (by omega) (by simp[hY]) ?_ ?_
 ·rintro pre x post bn hH ay bR a4;have bQ:=eU bn hH;have sE:s.data[pre.length]'ay=x:=by grind
  simp;grind[abr,fV]
 ·intro hH;simp[*];omega
theorem OJ(s:ByteArray)(hs:s.size<=1000000000000000):Pure prog 227 [.d (.v (.string s))] (oD (xr s)):=by
 have dW:s.data.toList.length=s.size:=rfl;unfold xr;refine rn func227 ?_;simp[-cB,f227]
 repeat' (first
  | (with_reducible refine And.intro ?_ ?_)
  | ((first|(refine aA (λh=>?_) (λh=>?_)<;>(try simp at h))|refine pC (u6 _) ?_|refine pC (u9 _) ?_|refine lC (u6 _) ?_|refine lC (u9 _) ?_|refine pG (u6 _) ?_|refine pG (u9 _) ?_)<;>(try simp[-cB, *]))
  | (with_reducible intro _))
 all_goals first|omega|assumption|skip
 ·generalize DY ↑(s.data[0]?.getD 0).toNat=p at *;generalize D0 ↑(s.data[0]?.getD 0).toNat=q at *;rename_i h1 h2 h3;rcases h with(h|h)|⟨h,h'⟩
  ·omega
  ·omega
  ·simp[h,h']at h3
 ·refine aw.fq [0,3] s.data.toList (λpre=> [(3,iD pre.length)]) (λ_=> []) (λpre=>cx OH pre=true) (by rfl) (by omega) (by simp[hY]) ?_ ?_
  ·rintro pre x post bn hH ay bR a4;have bQ:=eU bn hH;have sE:s.data[pre.length]'ay=x:=by simpa using bR
   rw[dW]at ay;clear bn bR;have ee:cx OH (pre++ [x])=OH x:=by simp[fV,hH]
   have hx:OH x=(U1 x.toNat&&!DZ x.toNat):=rfl;simp[-cB, *]
   repeat' (first
    | (with_reducible refine And.intro ?_ ?_)
    | ((first|(refine aA (λh=>?_) (λh=>?_)<;>(try simp at h))|refine pC (jC _) ?_|refine pC (u7 _) ?_|refine lC (jC _) ?_|refine lC (u7 _) ?_|refine pG (jC _) ?_|refine pG (u7 _) ?_)<;>(try simp[-cB, *]))
    | (with_reducible intro _))
   all_goals (first|assumption|omega|(rw[aR];omega)|(simp_all;done)|grind|skip)
  ·intro hH;simp[*]
   all_goals (first|assumption|omega|(rw[aR];omega)|(simp_all;done)|grind|skip)
def pV(t:aq)(n:Int)(none:Bool):Bool:=bJ n 0 (t.gO.length-1)||(none&&decide (n= -1))
def oI(t:aq)(n:Int)(none:Bool):Bool:=(none&&decide (n= -1))||(bJ n 0 (t.Params.length-1)&&decide (t.Params[n.toNat]?.getD 0=0))
def gV(t:aq)(n:Int):Bool:=bJ n 1 (t.aB.length-1)
theorem mW t(ht:t.wf) n none:Pure prog 169 [.agg (t.enc.map .d),iD n,oD none] (oD (pV t n none)):=by
 have hlen:t.gO.length<=1000000000000000:=by grind[aq.wf]
 unfold pV;refine Pure.run func169 rfl (by simp) ?_;simp
 repeat' (first
  | (with_reducible refine And.intro ?_ ?_)
  | (refine pC (bu _ _ _) ?_<;>(try simp[*]))
  | (with_reducible intro _))
 all_goals (first|grind[aR])
theorem jY t(ht:t.wf) n:Pure prog 173 [.agg (t.enc.map .d),iD n] (oD (gV t n)):=by
 have hlen:t.aB.length<=1000000000000000:=by grind[aq.wf]
 unfold gV;refine Pure.run func173 rfl (by simp) ?_;simp
 repeat' (first
  | (with_reducible refine And.intro ?_ ?_)
  | (refine pC (bu _ _ _) ?_<;>(try simp))
  | (with_reducible intro _))
 grind[aR,bJ]
theorem oZ t(ht:t.wf) n none:Pure prog 178 [.agg (t.enc.map .d),iD n,oD none] (oD (oI t n none)):=by
 have hlen:t.Params.length<=1000000000000000:=by grind[aq.wf]
 unfold oI;refine Pure.run func178 rfl (by simp) ?_;simp[f178]
 repeat' (first
  | (with_reducible refine And.intro ?_ ?_)
  | (refine ar.fE rfl (λh=>bu _ _ _) rfl (by first|rfl) (by simp) (by simp) rfl ?_<;>(try simp[*]))
  | (with_reducible intro _))
 all_goals (first|assumption|omega|(rw[aR];omega)|grind[bJ]|skip)
def rY(l:List ByteArray)(jl:Int):Bool:=cx xr l&&decide ((l.length:Int)<=jl)
theorem zZ l(hl:l.length<=1000000000000000)(hs:∀x∈l,x.size<=1000000000000000) jl:Pure prog 172 [.d (.sl (iI l)),iD jl] (oD (rY l jl)):=by
 unfold rY;refine Pure.run func172 rfl (by simp) ?_;simp[f172];refine aw.fq [0,1,5] l (λpre=> [(5,iD pre.length)]) (λ_=> []) (λpre=>cx xr pre=true) (by rfl) (by omega) (by simp[hY]) ?_ ?_
 ·rintro pre x post bn hH ay bR a4;have bQ:=eU bn hH;have hx:=OJ x (hs x (by grind));have ee:cx xr (pre++ [x])=xr x:=by simp[fV,hH]
  clear bn;simp[-cB, *]
  repeat' (first
   | ((first|(refine aA (λh=>?_) (λh=>?_)<;>(try simp at h))|refine pC hx ?_)<;>(try simp[-cB, *]))
   )
  all_goals (first|assumption|omega|(rw[aR];omega)|(simp_all;done)|grind|skip)
 ·intro hH;simp[*]
def sF(t:aq)(x:aZ):Bool:=
 decide (x.mg=0)&&decide (x.Text= -1)&&decide (x.ah=0)&&decide (x.Flags=0)&&!x.Room&&decide (x.aM.length=t.aM.length)&&decide (x.Words.length+x.uL.length+x.mD.length=0)&&cx (λn=>decide (n=0)) x.aM
set_option maxRecDepth 20000 in
theorem MO(t:aq)(ht:t.wf)(x:aZ)(hx:x.wf):Pure prog 171 [.agg (t.enc.map .d),.agg (x.enc.map .d)] (oD (sF t x)):=by
 have cy:=hx;simp[aZ.wf]at cy;unfold sF;refine rn func171 ?_;simp[-cB,f171]
 repeat' (first
  | (with_reducible refine And.intro ?_ ?_)
  | ((first|(refine aA (λh=>?_) (λh=>?_)<;>(try simp at h))|refine pC (bu _ _ _) ?_|refine lC (bu _ _ _) ?_|refine pG (bu _ _ _) ?_)<;>(try simp[-cB, *]))
  | (with_reducible intro _))
 obtain⟨-,-,-,-,OD,-,hq2,-,SP,-,hq4,-⟩:=cy
 all_goals (first|assumption|omega|(rw[aR];omega)|(simp_all;done)|grind|skip)
 have hz:decide (x.Words=[])=true/\decide (x.uL=[])=true/\decide (x.mD=[])=true:=by
  have h1:x.Words.length=0:=by omega
  have h2:x.uL.length=0:=by omega
  have h3:x.mD.length=0:=by omega
  simp[ap3]at h1 h2 h3;simp[h1,h2,h3]
 have hp:decide (x.aM.length=t.aM.length)=true:=by simp;omega
 refine aw.fq [3,5] x.aM (λpre=> [(5,iD pre.length)]) (λ_=> []) (λpre=>cx (λn=>decide (n=0)) pre=true) (by rfl) (by omega) (by simp[hY]) ?_ ?_
 ·rintro pre x1 post bn hH ay bR a4;have bQ:=eU bn hH;have ee:cx (λn=>decide (n=0)) (pre++ [x1])=decide (x1=0):=by simp[fV,hH]
  clear bn h;simp[-cB, *]
  repeat' (first
   | (with_reducible refine And.intro ?_ ?_)
   | ((first|(refine aA (λh=>?_) (λh=>?_)<;>(try simp at h))|refine pC (jC _) ?_|refine lC (jC _) ?_|refine pG (jC _) ?_)<;>(try simp[-cB, *]))
   | (with_reducible intro _))
  all_goals (first|assumption|omega|(rw[aR];omega)|(simp_all;done)|grind|skip)
 ·intro hH;clear h;simp[*]
def lr(n:Int):Int:=2^(min n.toNat 16)
theorem IE n:Pure prog 55 [iD n] (iD (lr n)):=by
 refine Pure.run func55 rfl (by simp) ?_;simp;refine aw.cX [0,3,4] (min n.toNat 16) (λi=> [(3,iD (2^i)),(4,iD i)]) (λ_=> []) (λ_=>True) (by rfl) (by simp) ?_;intro i hi _;have nB:i<=16:=by omega
 have hp:(2:Int)^i<=65536/\(0:Int)<2^i:=by
  have:=arl (n:=2) (by decide) nB;grind
 simp;grind[aR,lr,min]
end Go.Ab

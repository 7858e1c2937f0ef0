/-
  The texts Y Z V T Gs Q Lp Wr Fam Pn Rf Rg Rh Ri Sc Bfits, one behind the other.
-/
import Derived.Test.YtmhnopomnpgcjaaGreatDoorMh2
import Derived.ChangeShapes
import Derived.DataReads
import Derived.SizedLaws
import Derived.Carry
import Derived.OpenShut
import Derived.ChangeOld
import Derived.JoinedCond
import Derived.Deep.CondSized
import Derived.Test.YtmhnopomnpgcjaaGreatDoorProg
import Derived.KernelRfl
import Derived.RangeFuncIn
import Derived.Lib.Builder
import Derived.Laws.Externs
set_option linter.unusedSimpArgs false
set_option linter.unusedVariables false
namespace Go.Ab
open Go.ChangeShapes Go.WideShapes Go.RowKit
def je:Option TypeDesc->Bool
 | some .bool|some (.int _)|some .string|some (.slice _)|some (.struct _)|some (.array _ _)=>false
 | _=>true
inductive cX(P:Program):TypeId->List D->Prop
 | bool {t:TypeId} (b:Bool) (u:P.underlying t=some .bool):cX P t [.v (.bool b)]
 | int {t:TypeId} {k:IntKind} (n:Int) (u:P.underlying t=some (.int k)) (h:aN k n):cX P t [.v (.int k n)]
 | str {t:TypeId} (s:ByteArray) (u:P.underlying t=some .string) (h:s.size<=140737488351232):cX P t [.v (.string s)]
 | sl {t e:TypeId} (xs:List (List D)) (u:P.underlying t=some (.slice e)) (hx:∀(i:Nat) (x:List D),xs[i]?=some x->cX P e x) (hl:xs.length<=9223372036854775807) (hw:xs.length *P.bytesOf e<=140737488351232):cX P t [.sl xs]
 | struct {t:TypeId} {fs:Array Field} (ey:List (List D)) (u:P.underlying t=some (.struct fs)) (hl:ey.length=fs.size)
   (h:∀(i:Nat) (f:Field) (ys:List D),fs[i]?=some f->ey[i]?=some ys->cX P f.type ys):cX P t ey.flatten
 | arr {t e:TypeId} {n:Nat} (ey:List (List D)) (u:P.underlying t=some (.array n e)) (hl:ey.length=n)
   (h:∀(i:Nat) (ys:List D),ey[i]?=some ys->cX P e ys):cX P t ey.flatten
 | other {t:TypeId} (y:D) (u:je (P.underlying t)=true):cX P t [y]
mutual
def bD:D->Nat
 | .v (.string s)=>s.size+1
 | .v _=>1
 | .sl xs=>mf xs+1
 | .uj _ _ _=>1
def iH:List D->Nat
 | []=>0
 | x::l=>bD x+iH l
def mf:List (List D)->Nat
 | []=>0
 | x::l=>iH x+mf l
end
mutual
def eU{H:Type}:DataW H->Nat
 | .lit (.string bytes)=>bytes.length+1
 | .lit _=>1
 | .nil=>1
 | .ptr d=>eU d+1
 | .slice elems spare=>ll elems+ll spare+1
 | .agg parts=>ll parts+1
 | .iface _ d=>eU d+1
 | .map entries=>rL entries+1
 | .held _=>1
def ll{H:Type}:List (DataW H)->Nat
 | []=>0
 | d::r=>eU d+ll r
def rL{H:Type}:List (Lit×DataW H)->Nat
 | []=>0
 | x::r=>Dr x+rL r
def Dr{H:Type}:Lit×DataW H->Nat
 | (.string bytes,d)=>bytes.length+eU d+1
 | (_,d)=>eU d+1
end
theorem fV{H}(d:DataW H):1<=eU d:=by
 cases d with
 | lit l=>cases l<;>simp[eU]
 | nil=>simp[eU]
 | ptr d=>simp[eU]
 | slice elems spare=>simp[eU]
 | agg parts=>simp[eU]
 | iface t d=>simp[eU]
 | map entries=>simp[eU]
 | held h=>simp[eU]
theorem adN l r:iH (l++r)=iH l+iH r:=by
 induction l with
 | nil=>simp[iH]
 | cons x l ih=>grind[iH]
theorem EV{H}:∀l r,l.length=r.length->(∀(i:Nat) x (d:DataW H),l[i]?=some x->r[i]?=some d->iH x<=eU d)->mf l<=ll r
 | [],[],_,_=>by simp[mf]
 | x::l,d::r,h,hb=>by
   have h0:=hb 0 x d rfl rfl;have h1:=EV l r (by grind) (λi x d hx hd=>hb (i+1) x d (by grind) (by grind));grind[mf,ll]
 | [],_::_,h,_=>by grind
 | _::_,[],h,_=>by grind
theorem FR l:iH l.flatten=mf l:=by
 induction l with
 | nil=>rfl
 | cons x l ih=>simp_all[adN,mf]
theorem K4{a:Addr}{i}(h:a.spot=none):a.add i=⟨a.block,a.off+i,none⟩:=by
 obtain⟨b,o,s⟩:=a;simp_all[Addr.add]
def Ds(P:Program):Nat->List Field->Option Nat
 | o,[]=>some o
 | o,f::fs=>if f.offset=o then Ds P (o+P.cellsOf f.type) fs else none
def UT(P:Program):Bool:=(List.range P.types.size).all λt=>match P.underlying t with
 | some (.slice e)=>decide (0<P.cellsOf e)&&decide (e<P.types.size)
 | some (.struct fs)=>(Ds P 0 fs.toList==some (P.cellsOf t))&&fs.toList.all λf=>decide (f.type<P.types.size)
 | some (.array n e)=>(P.cellsOf t==n *P.cellsOf e)&&decide (e<P.types.size)
 | _=>true
def gu(w:World)(cs:List Value)(ys:List D):Prop:=
 cs.length=ys.length/\∀(j:Nat) (x:Value) (y:D),cs[j]?=some x->ys[j]?=some y->x.oneCell'=true/\eW w (λ_=>False) x y
theorem gu.nil w:gu w [] []:=⟨rfl,by simp⟩
theorem gu.one{w x y}(h1:x.oneCell'=true)(h:eW w (λ_=>False) x y):gu w [x] [y]:=by
 refine⟨rfl,λj x' y' hx hy=>?_⟩;grind
theorem gu.append{w c1 c2 y1 y2}(h1:gu w c1 y1)(h2:gu w c2 y2):gu w (c1++c2) (y1++y2):=by
 refine⟨by simp[h1.1,h2.1],λj x y hx hy=>?_⟩;by_cases hj:j<c1.length
 ·rw[apq hj]at hx;rw[apq (by rw[<-h1.1];exact hj)]at hy;exact h1.2 j x y hx hy
 ·rw[apF (by omega)]at hx;rw[apF (by rw[<-h1.1];omega)]at hy;rw[<-h1.1]at hy;exact h2.2 _ x y hx hy
theorem FT{P}{w}{cs:List Value}:∀(Hh:Nat→Field→List D→Prop) fs o,Ds P o fs=some cs.length→
  (∀i f,fs[i]?=some f->∃ys,gu w ((cs.drop f.offset).take (P.cellsOf f.type)) ys/\Hh i f ys)->
  ∃ey:List (List D),ey.length=fs.length/\gu w (cs.drop o) ey.flatten/\∀i f ys,fs[i]?=some f->ey[i]?=some ys->Hh i f ys
 | _,[],o,hc,_=>by
   simp[Ds]at hc;subst hc;exact⟨[],rfl,by simp[gu.nil],by simp⟩
 | Hh,f::fs,o,hc,h=>by
   rw[Ds]at hc;split at hc
   ·obtain⟨ys,h1,h2⟩:=h 0 f rfl;obtain⟨ey,h3,h4,h5⟩:=FT (λi=>Hh (i+1)) fs _ hc (λi g hg=>h (i+1) g (by grind));refine⟨ys::ey,by grind,?_,λi g zs hi hz=>?_⟩
    ·have e:cs.drop o=((cs.drop f.offset).take (P.cellsOf f.type))++cs.drop (o+P.cellsOf f.type):=by
      grind[List.drop_drop,List.take_append_drop]
     rw[e];exact h1.append h4
    grind
   grind
theorem Ig{w}{k}:∀(Hh:Nat→List D→Prop) n cs,cs.length=n *k→
  (∀i,i<n->∃ys,gu w ((cs.drop (i *k)).take k) ys/\Hh i ys)->
  ∃ey:List (List D),ey.length=n/\gu w cs ey.flatten/\∀i ys,ey[i]?=some ys->Hh i ys
 | _,0,cs,hl,_=>by
   have:=apw.1 (by simpa using hl);subst this;exact⟨[],rfl,by simp[gu.nil],by simp⟩
 | Hh,n+1,cs,hl,h=>by
   obtain⟨ys,h1,h2⟩:=h 0 (by omega);obtain⟨ey,h3,h4,h5⟩:=Ig (k:=k) (λi=>Hh (i+1)) n (cs.drop k) (by grind) (λi hi=>by
    obtain⟨ys,a,b⟩:=h (i+1) (by omega);refine⟨ys,?_,b⟩;rw[ap8,show k+i *k=(i+1) *k by grind];exact a)
   refine⟨ys::ey,by grind,?_,λi zs hz=>?_⟩
   ·have:=h1.append h4;simp_all
   grind
section
variable {H : Type} {enc : TypeId × Value -> H} {P : Program} {w : World}
theorem FU{e B l}(h:∀n∈DataW.weightsAll P e l,n<=B){d:DataW H}(hd:d∈l):∀n∈DataW.weights P e d,n<=B:=by
 induction l with
 | nil=>cases hd
 | cons a l ih=>
   simp[DataW.weightsAll]at h;grind
theorem Dt{B}:∀{ts l} (_:∀n∈DataW.weightsEach P ts l,n<=B) {i:Nat} {t} {d:DataW H} (_:ts[i]?=some t) (_:l[i]?=some d),∀n∈DataW.weights P t d,n<=B
 | [],_,_,i,_,_,ht,_=>by grind
 | _::_,[],_,i,_,_,_,hd=>by grind
 | t0::ts,d0::l,h,i,t,d,ht,hd=>by
   simp[DataW.weightsEach]at h;cases i with
   | zero=>grind
   | succ i=>exact Dt (λn hn=>h n (.inr hn)) (by simpa using ht) (by grind)
theorem K5(hf:UT P=true):∀(fuel:Nat) (t:TypeId) (cs:List Value) (d:DataW H) (ps:List MemPlace),t < P.types.size→
  DataW.trod enc P w 0 (λ_=>true) true fuel t cs=some (d,ps)->(∀n∈DataW.weights P t d,n<=reachBytes)->∃ys,gu w cs ys/\cX P t ys/\iH ys<=eU d
 | 0,_,_,_,_,_,h,_=>by simp[DataW.trod]at h
 | fuel+1,t,cs,d,ps,ht,h,hw=>by
   have IH:=K5 hf fuel;have x4:_:=aoP.1 hf t (by simpa using ht);unfold DataW.trod at h;split at h
   ·rename_i b hu;exact⟨_,gu.one rfl (.v _ rfl),.bool _ hu,by have:=fV d;simp[iH,bD];omega⟩
   ·rename_i k k' n hu;split at h
    ·rename_i hk;obtain⟨rfl,hk⟩:=hk;exact⟨_,gu.one rfl (.v _ rfl),.int _ hu (by simpa[aN,Lit.wf]using hk),by have:=fV d;simp[iH,bD];omega⟩
    ·cases h
   ·rename_i k k' n hu;exact⟨_,gu.one rfl (.v _ rfl),.other _ (by simp[hu,je]),by have:=fV d;simp[iH,bD];omega⟩
   ·rename_i s hu;split at h
    ·cases h;refine⟨_,gu.one rfl (.v _ rfl),.str _ hu ?_,by simp only[iH,bD,eU,Array.length_toList];exact aoT _⟩;have:=hw s.data.toList.length (by simp[DataW.weights]);simpa[reachBytes]using this
    ·cases h
   ·rename_i e hu;exact⟨_,gu.one rfl (.v _ rfl),.other _ (by simp[hu,je]),by have:=fV d;simp[iH,bD];omega⟩
   ·rename_i e a hu;exact⟨_,gu.one rfl (.v _ rfl),.other _ (by simp[hu,je]),by have:=fV d;simp[iH,bD];omega⟩
   ·rename_i e hu;exact⟨_,gu.one rfl (.sl none 0 0 [] 0 0 0 (λ_ _=>undef) rfl (aoT _) (by unfold maxLen;omega) (by omega) (by simp) (by omega) (by simp)),.sl [] hu (by simp) (by simp) (by simp),by have:=fV d;simp[iH,bD,mf];omega⟩
   ·rename_i e a len cap hu;rw[hu]at x4;simp only[aoM,decide_eq_true_eq]at x4;simp only at h;split at h
    ·rename_i hb;obtain⟨_,hlc,vr⟩:=hb;obtain⟨elems,he,h⟩:=apu.1 h;obtain⟨rest,hr,h⟩:=aoJ.1 h;simp only[aoI]at h;obtain⟨rfl,_⟩:=h;have hlen:elems.length=len:=by simpa using mapM_some_length he
     simp only[if_true]at hr;have Yc:rest.length=cap-len:=by simpa using mapM_some_length hr
     have hwl:∀n∈(((elems.map (·.1)).length+(rest.map (·.1)).length) *P.bytesOf e)::(DataW.weightsAll P e (elems.map (·.1))++DataW.weightsAll P e (rest.map (·.1))),n<=reachBytes:=by
      simpa[DataW.weights,hu]using hw
     have key:∀i,i<len->∃cs x,(w.cells? 0 (a.add (i *P.cellsOf e)) (P.cellsOf e))=some cs/\gu w cs x/\cX P e x/\∀y,elems[i]?=some y->iH x<=eU y.1:=λi hi=>by
      have cn:=mapM_some_get he i i (by simp[hi]);obtain⟨y,hy⟩:∃y,elems[i]?=some y:=⟨_,akC (by omega)⟩
      rw[hy]at cn;obtain⟨jA,jY,H8⟩:=apu.1 cn;obtain⟨yd,yp⟩:=y;obtain⟨x,iQ,Cn,rh⟩:=IH e jA yd yp x4.2 H8 (FU (l:=elems.map (·.1)) (λn hn=>hwl n (aoW _ (apf _ hn))) (aoQ.2 ⟨(yd,yp),aoO hy,rfl⟩));exact⟨jA,x,jY,iQ,Cn,λy' nq=>by rw[hy]at nq;cases nq;exact rh⟩
     have kc:∀i,∃cs x,i<len->(w.cells? 0 (a.add (i *P.cellsOf e)) (P.cellsOf e))=some cs/\gu w cs x/\cX P e x/\∀y,elems[i]?=some y->iH x<=eU y.1:=λi=>by
      by_cases hi:i<len
      ·obtain⟨cs,x,h⟩:=key i hi;exact⟨cs,x,λ_=>h⟩
      ·exact⟨[],[],λh=>absurd h hi⟩
     obtain⟨fc,kc⟩:=aq4 kc;obtain⟨fx,kc⟩:=aq4 kc;have spot:0<len->a.spot=none:=λh0=>by
      have:=(World.cells?_some (kc 0 h0).1).2.2 0 x4.1;have hx:∃v,(fc 0)[0]?=some v:=⟨_,akC (by rw[(World.cells?_some (kc 0 h0).1).2.1];exact x4.1)⟩
      obtain⟨v,hv⟩:=hx;rw[hv]at this;have:=World.cell?_spot this;simpa[Addr.add]using this
     have cells:∀i j,i<len->j<P.cellsOf e->w.cell? ⟨a.block,a.off+i *P.cellsOf e+j,none⟩=(fc i)[j]?:=λi j hi hj=>by
      have:=(World.cells?_some (kc i hi).1).2.2 j hj;have hs:=spot (by omega);rw[<-this,K4 hs,K4 rfl]
     have UU:∀i,i<len->(fc i).length=P.cellsOf e:=λi hi=>(World.cells?_some (kc i hi).1).2.1
     refine⟨_,gu.one rfl (.sl (some a) len cap ((List.range len).map fx) (P.cellsOf e) a.block a.off (λi j=>(fc i).getD j undef) (by rw[ao8,List.length_range]) hlc vr (λh0=>⟨?_,λh=>h,?_⟩) ?_ ?_ ?_),.sl _ hu ?_ ?_ ?_,?_⟩
     ·obtain⟨ab,ao,asp⟩:=a;simp only at spot;rw[spot h0]
     ·have h1:=cells 0 0 h0 x4.1;have:(fc 0)[0]?=some ((fc 0)[0]'(by rw[UU 0 h0];exact x4.1)):=akC _;rw[this]at h1;exact TP h1
     ·intro i x hx;obtain⟨hi,rfl⟩:i<len/\fx i=x:=by
       simp only[aoN,aoJ]at hx;obtain⟨i',cn,rfl⟩:=hx;have hh:i<len:=by
        have:=(aoL.1 cn).1;simpa using this
       rw[aqy hh]at cn;cases cn;exact⟨hh,rfl⟩
      rw[<-(kc i hi).2.1.1];exact UU i hi
     ·intro i j hi hj;rw[cells i j hi hj,akC (by rw[UU i hi];exact hj)];simp[List.getD_eq_getElem?_getD,akC (show j<(fc i).length by rw[UU i hi];exact hj)]
     ·intro i j x y hx hy;obtain⟨hi,rfl⟩:i<len/\fx i=x:=by
       simp only[aoN,aoJ]at hx;obtain⟨i',cn,rfl⟩:=hx;have hh:i<len:=by
        have:=(aoL.1 cn).1;simpa using this
       rw[aqy hh]at cn;cases cn;exact⟨hh,rfl⟩
      have H3:j<(fc i).length:=by
       rw[(kc i hi).2.1.1];exact(aoL.1 hy).1
      refine((kc i hi).2.1.2 j _ y (akC H3) hy).2 |> λh=>?_
      simpa[List.getD_eq_getElem?_getD,akC H3]using h
     ·intro i x hx;simp only[aoN,aoJ]at hx;obtain⟨i',cn,rfl⟩:=hx;have hh:i<len:=by
       have:=(aoL.1 cn).1;simpa using this
      rw[aqy hh]at cn;cases cn;exact(kc i hh).2.2.1
     ·unfold maxLen at vr;simp;omega
     ·have:=hwl _ aoZ;simp only[ao8,hlen,Yc,reachBytes]at this;simp only[ao8,List.length_range];refine apr ?_ this;exact ao4 _ (by omega)
     ·have hs:=EV ((List.range len).map fx) (elems.map (·.1)) (by simp[hlen]) (λi x d hx hd=>by
       simp only[aoN,aoJ]at hx hd;obtain⟨i',cn,rfl⟩:=hx;obtain⟨y,hy,rfl⟩:=hd;have hh:i<len:=by
        have:=(aoL.1 cn).1;simpa using this
       rw[aqy hh]at cn;cases cn;exact(kc i hh).2.2.2 y hy)
      simp only[iH,bD,eU];omega
    ·cases h
   ·rename_i cs xo Ih fs hu;rw[hu]at x4;simp only[aoM,beq_iff_eq,aoP,decide_eq_true_eq]at x4;split at h
    ·rename_i nF;obtain⟨xs,B8,h⟩:=aoJ.1 h;simp only[aoI]at h;obtain⟨rfl,_⟩:=h;have hlen:=mapM_some_length B8;obtain⟨ey,h1,h2,h3⟩:=FT (w:=w) (cs:=cs) (λi f ys=>cX P f.type ys/\∀x,xs[i]?=some x->iH ys<=eU x.1) fs.toList 0 (by rw[nF];exact x4.1) (λi f hi=>by
      have Yp:f∈fs.toList:=aoO hi;have:=mapM_some_get B8 i f hi;obtain⟨x,hx⟩:∃x,xs[i]?=some x:=⟨_,akC (by rw[hlen];exact(aoL.1 hi).1)⟩
      rw[hx]at this;obtain⟨xd,xp⟩:=x;obtain⟨zs,z1,z2,z3⟩:=IH f.type _ xd xp (x4.2 f Yp) this (Dt (ts:=fs.toList.map (·.type)) (l:=xs.map (·.1)) (by simpa[DataW.weights,hu]using hw) (i:=i) (by simp only[aoN,hi];rfl) (by simp only[aoN,hx];rfl));exact⟨zs,z1,z2,λx' cG=>by rw[hx]at cG;cases cG;exact z3⟩)
     refine⟨_,by simpa using h2,.struct ey hu (by simpa using h1) (λi f ys hi hy=>(h3 i f ys (by simpa using hi) hy).1),?_⟩;have hs:=EV ey (xs.map (·.1)) (by simp[h1,hlen]) (λi ys d hy hd=>by
      simp only[aoN,aoJ]at hd;obtain⟨x,hx,rfl⟩:=hd;have hif:i<fs.toList.length:=by rw[<-hlen];exact(aoL.1 hx).1
      exact(h3 i _ ys (akC hif) hy).2 x hx)
     rw[FR];simp only[eU];omega
    ·cases h
   ·rename_i cs xo Ih n e hu;rw[hu]at x4;simp only[aoM,beq_iff_eq,decide_eq_true_eq]at x4;split at h
    ·rename_i nF;obtain⟨xs,B8,h⟩:=aoJ.1 h;simp only[aoI]at h;obtain⟨rfl,_⟩:=h;have hlen:xs.length=n:=by simpa using mapM_some_length B8
     obtain⟨ey,h1,h2,h3⟩:=Ig (w:=w) (k:=P.cellsOf e) (λi ys=>cX P e ys/\∀x,xs[i]?=some x->iH ys<=eU x.1) n cs (by rw[nF];exact x4.1) (λi hi=>by
      have:=mapM_some_get B8 i i (by simp[hi]);obtain⟨x,hx⟩:∃x,xs[i]?=some x:=⟨_,akC (by omega)⟩
      rw[hx]at this;obtain⟨xd,xp⟩:=x;obtain⟨zs,z1,z2,z3⟩:=IH e _ xd xp x4.2 this (FU (l:=xs.map (·.1)) (by simpa[DataW.weights,hu]using hw) (aoQ.2 ⟨_,aoO hx,rfl⟩));exact⟨zs,z1,z2,λx' cG=>by rw[hx]at cG;cases cG;exact z3⟩)
     refine⟨_,h2,.arr ey hu h1 (λi ys hy=>(h3 i ys hy).1),?_⟩;have hs:=EV ey (xs.map (·.1)) (by simp[h1,hlen]) (λi ys d hy hd=>by
      simp only[aoN,aoJ]at hd;obtain⟨x,hx,rfl⟩:=hd;exact(h3 i ys hy).2 x hx)
     rw[FR];simp only[eU];omega
    ·cases h
   ·rename_i ms hu;exact⟨_,gu.one rfl (.v _ rfl),.other _ (by simp[hu,je]),by have:=fV d;simp[iH,bD];omega⟩
   ·rename_i ms u v hu;exact⟨_,gu.one rfl (.v _ rfl),.other _ (by simp[hu,je]),by have:=fV d;simp[iH,bD];omega⟩
   ·rename_i hu;exact⟨_,gu.one rfl (.v _ rfl),.other _ (by simp[hu,je]),by have:=fV d;simp[iH,bD];omega⟩
   ·rename_i hu;exact⟨_,gu.one rfl (.v _ rfl),.other _ (by simp[hu,je]),by have:=fV d;simp[iH,bD];omega⟩
   ·rename_i hu;exact⟨_,gu.one rfl (.v _ rfl),.other _ (by simp[hu,je]),by have:=fV d;simp[iH,bD];omega⟩
   ·rename_i hu;exact⟨_,gu.one rfl (.v _ rfl),.other _ (by simp[hu,je]),by have:=fV d;simp[iH,bD];omega⟩
   ·rename_i hu;exact⟨_,gu.one rfl (.v _ rfl),.other _ (by simp[hu,je]),by have:=fV d;simp[iH,bD];omega⟩
   ·rename_i hu;exact⟨_,gu.one rfl (.v _ rfl),.other _ (by simp[hu,je]),by have:=fV d;simp[iH,bD];omega⟩
   ·rename_i hu;exact⟨_,gu.one rfl (.v _ rfl),.other _ (by simp[hu,je]),by have:=fV d;simp[iH,bD];omega⟩
   ·rename_i hu;exact⟨_,gu.one rfl (.v _ rfl),.other _ (by simp[hu,je]),by have:=fV d;simp[iH,bD];omega⟩
   ·cases h
end
end Go.Ab
namespace Go.Ab
open Go.ChangeShapes Go.WideShapes Go.RowKit
def JP(P:Program)(t:TypeId)(ys:List D):V:=
 match P.underlying t with
 | some (.struct _)|some (.array _ _)=> .agg (ys.map .d)
 | _=>match ys with
   | [y]=> .d y
   | _=> .any
section
variable {H : Type} {enc : TypeId × Value -> H} {P : Program} {w : World}
theorem aa3{base t v ys}(hc:gu w v.cells.toList ys)(aO:Value.okWide P w .any base t v):aB w (OO (⟨λ_=>False,[],none,false⟩:FO) fP) fP v (JP P t ys):=by
 have up:∀x y,eW w (λ_=>False) x y->eW w (OO (⟨λ_=>False,[],none,false⟩:FO) fP) x y:=λx y h=>
  h.mono (bK.refl _ _) (λb _ ho=>by rcases ho with ho|ho;exact absurd ho (gH b);exact ho)
 have ag:∀cs,v= .agg cs->aB w (OO (⟨λ_=>False,[],none,false⟩:FO) fP) fP v (.agg (ys.map .d)):=by
  rintro cs rfl;have jY:(Value.agg cs).cells.toList=cs.toList:=rfl;rw[jY]at hc;refine .agg cs _ (by simpa using hc.1) (λj x hx=>?_) (λj x y hx hy=>?_)
  ·have hj:j<ys.length:=by rw[<-hc.1];grind
   exact(hc.2 j x _ (by grind) (akC hj)).1
  ·simp[aoN,aoJ]at hy;obtain⟨y',nq,rfl⟩:=hy;exact .d _ _ (up _ _ (hc.2 j x _ (by grind) nq).2)
 unfold JP;split
 ·grind[Value.okWide]
 ·grind[Value.okWide]
 ·split
  ·rename_i y;have bR:∀cs,v≠ .agg cs:=by
    rintro cs rfl;simp_all[Value.okWide,Cell.okWide,Cell.ok]
   have Xh:v.cells.toList=[v]:=by
    cases v<;>first|rfl|grind
   rw[Xh]at hc;exact .d _ _ (up _ _ (hc.2 0 v y rfl rfl).2)
  ·exact .any _
theorem On(hf:UT P=true){base}:∀(ts:List TypeId) vs ds ps,(∀t∈ts,t < P.types.size)→
  DataW.TrodAll enc P w 0 (λ_=>true) true ts vs ds ps->(∀n∈DataW.weightsEach P ts ds,n<=reachBytes)->
  (∀(j:Nat) t v,ts[j]?=some t->vs[j]?=some v->Value.okWide P w .any base t v)->
  ∃ey:List (List D),ey.length=ts.length/\(∀(i:Nat) t ys,ts[i]?=some t->ey[i]?=some ys->cX P t ys)/\vs.length=ts.length/\ds.length=ts.length/\mf ey<=ll ds/\
   ∀(j:Nat) x y,vs[j]?=some x->((ts.zip ey).map λp=>JP P p.1 p.2)[j]?=some y->aB w (OO (⟨λ_=>False,[],none,false⟩:FO) fP) fP x y
 | [],[],[],_,_,_,_,_=>⟨[],rfl,by simp,rfl,rfl,by simp[mf],by simp⟩
 | t::ts,v::vs,d::ds,ps,ht,h,hw,aO=>by
   obtain⟨p,q,h0,hr,rfl⟩:=h;simp[DataW.weightsEach,ao1]at hw;obtain⟨ey,a1,a2,a3,a4,a6,a5⟩:=On hf ts vs ds q (λt h=>ht t (aoW _ h)) hr (λn hn=>hw n (.inr hn)) (λj t v h1 h2=>aO (j+1) t v (by grind) (by grind));obtain⟨fuel,h0⟩:=h0;obtain⟨ys,b1,b2,b3⟩:=K5 hf fuel t _ d p (ht t aoZ) h0 (λn hn=>hw n (.inl hn));refine⟨ys::ey,by grind,λi t' ys' hi hy=>?_,by grind,by grind,by grind[mf,ll],λj x y hx hy=>?_⟩
   ·grind
   ·cases j with
    | zero=>simp at hx hy;subst hx;subst hy;exact aa3 b1 (aO 0 t v rfl rfl)
    | succ j=>exact a5 j x y (by grind) (by grind)
 | [],[],_::_,_,_,h,_,_=>h.elim
 | [],_::_,_,_,_,h,_,_=>h.elim
 | _::_,[],_,_,_,h,_,_=>h.elim
 | _::_,_::_,[],_,_,h,_,_=>h.elim
theorem Aw(hl:laidOutB P=true){W W'}(hb:Below W.heap.size W W'):∀ts vs ds ps,(∀t∈ts,P.readableRec t=true∧t < P.types.size)→
  DataW.TrodAll enc P W 0 (λ_=>true) true ts vs ds ps->(∀x∈ps,x.block<W.heap.size)->DataW.TrodAll enc P W' 0 (λb=>decide (b<W.heap.size)) true ts vs ds ps
 | [],[],[],_,_,h,_=>h
 | t::ts,v::vs,d::ds,ps,ht,h,aw=>by
   obtain⟨p,q,h0,hr,rfl⟩:=h;exact⟨p,q,Below.trod hl (ht t aoZ).1 (ht t aoZ).2 h0 hb (λx hx=>aw x (apf _ hx)),
    Aw hl hb ts vs ds q (λt h=>ht t (aoW _ h)) hr (λx hx=>aw x (apn _ hx)),rfl⟩
 | [],[],_::_,_,_,h,_=>h.elim
 | [],_::_,_,_,_,h,_=>h.elim
 | _::_,[],_,_,_,h,_=>h.elim
 | _::_,_::_,[],_,_,h,_=>h.elim
end
inductive TK where
 | bool
 | int (k:IntKind)
 | str
 | sl (e:TypeId) (bytes:Nat)
 | st (ts:List TypeId)
 | arr (n:Nat) (e:TypeId)
 | oth
def dT(P:Program)(t:TypeId):TK:=match P.underlying t with
 | some .bool=> .bool
 | some (.int k)=> .int k
 | some .string=> .str
 | some (.slice e)=> .sl e (P.bytesOf e)
 | some (.struct fs)=> .st (fs.toList.map (·.type))
 | some (.array n e)=> .arr n e
 | _=> .oth
section
variable {P : Program} {t : TypeId} {ys : List D}
theorem cX.pV(h:cX P t ys)(hk:dT P t= .bool):∃b,ys=[.v (.bool b)]:=by
 cases h with
 | bool b u=>exact⟨b,rfl⟩
 | int n u h=>simp[dT,u]at hk
 | str s u h=>simp[dT,u]at hk
 | sl xs u hx hl hw=>simp[dT,u]at hk
 | struct ey u hl h=>simp[dT,u]at hk
 | arr ey u hl h=>simp[dT,u]at hk
 | other y u=>
   unfold dT at hk;split at hk<;>first|(simp_all[je];done)|cases hk
theorem cX.bM{k:IntKind}(h:cX P t ys)(hk:dT P t= .int k):∃n,ys=[.v (.int k n)]/\aN k n:=by
 cases h with
 | bool b u=>simp[dT,u]at hk
 | int n u h=>simp[dT,u]at hk;subst hk;exact⟨n,rfl,h⟩
 | str s u h=>simp[dT,u]at hk
 | sl xs u hx hl hw=>simp[dT,u]at hk
 | struct ey u hl h=>simp[dT,u]at hk
 | arr ey u hl h=>simp[dT,u]at hk
 | other y u=>
   unfold dT at hk;split at hk<;>first|(simp_all[je];done)|cases hk
theorem cX.wY(h:cX P t ys)(hk:dT P t= .str):∃s,ys=[.v (.string s)]/\s.size<=140737488351232:=by
 cases h with
 | bool b u=>simp[dT,u]at hk
 | int n u h=>simp[dT,u]at hk
 | str s u h=>exact⟨s,rfl,h⟩
 | sl xs u hx hl hw=>simp[dT,u]at hk
 | struct ey u hl h=>simp[dT,u]at hk
 | arr ey u hl h=>simp[dT,u]at hk
 | other y u=>
   unfold dT at hk;split at hk<;>first|(simp_all[je];done)|cases hk
theorem cX.oJ{e:TypeId}{b:Nat}(h:cX P t ys)(hk:dT P t= .sl e b):∃xs,ys=[.sl xs]/\(∀x∈xs,cX P e x)/\xs.length<=9223372036854775807/\xs.length *b<=140737488351232:=by
 cases h with
 | bool b u=>simp[dT,u]at hk
 | int n u h=>simp[dT,u]at hk
 | str s u h=>simp[dT,u]at hk
 | sl xs u hx hl hw=>
   simp only[dT,u,TK.sl.injEq]at hk;obtain⟨rfl,rfl⟩:=hk;exact⟨xs,rfl,λx cG=>by obtain⟨i,hi⟩:=List.getElem?_of_mem cG;exact hx i x hi,hl,hw⟩
 | struct ey u hl h=>simp[dT,u]at hk
 | arr ey u hl h=>simp[dT,u]at hk
 | other y u=>
   unfold dT at hk;split at hk<;>first|(simp_all[je];done)|cases hk
def Ii(P:Program):List TypeId->List D->Prop
 | [],ys=>ys=[]
 | t::ts,ys=>∃a b,ys=a++b/\cX P t a/\Ii P ts b
theorem Oo:∀(fs:List Field) (ey:List (List D)),ey.length=fs.length->(∀(i:Nat) (f:Field) (ys:List D),fs[i]?=some f->ey[i]?=some ys->cX P f.type ys)->Ii P (fs.map (·.type)) ey.flatten
 | [],[],_,_=>rfl
 | f::fs,y::ey,hl,h=>⟨y,ey.flatten,by simp,h 0 f y rfl rfl,Oo fs ey (by simpa using hl) (λi f' ys h1 h2=>h (i+1) f' ys (by simpa using h1) (by simpa using h2))⟩
 | [],_::_,hl,_=>by simp at hl
 | _::_,[],hl,_=>by simp at hl
theorem cX.oR{ts:List TypeId}(h:cX P t ys)(hk:dT P t= .st ts):Ii P ts ys:=by
 cases h with
 | bool b u=>simp[dT,u]at hk
 | int n u h=>simp[dT,u]at hk
 | str s u h=>simp[dT,u]at hk
 | sl xs u hx hl hw=>simp[dT,u]at hk
 | struct ey u hl h=>
   simp only[dT,u,TK.st.injEq]at hk;subst hk;exact Oo _ ey (by simpa using hl) (λi f ys h1 h2=>h i f ys (by simpa using h1) h2)
 | arr ey u hl h=>simp[dT,u]at hk
 | other y u=>
   unfold dT at hk;split at hk<;>first|(simp_all[je];done)|cases hk
end
theorem Ax{α:Type}{f:α->List D}{p:α->Prop}:∀{xs:List (List D)},(∀x∈xs,∃a,x=f a/\p a)->∃l:List α,xs=l.map f/\∀a∈l,p a
 | [],_=>⟨[],rfl,by simp⟩
 | x::xs,h=>by
   obtain⟨a,rfl,ha⟩:=h x aoZ;obtain⟨l,rfl,hl⟩:=Ax (λy hy=>h y (aoW _ hy));exact⟨a::l,rfl,by simpa using⟨ha,hl⟩⟩
theorem cX.nO{P:Program}{α:Type}{t e:TypeId}{b:Nat}{ys:List D}{f:α→List D}{p:α→Prop}(h:cX P t ys)(hk:dT P t= .sl e b)(g:∀{zs:List D},cX P e zs→∃x,zs=f x∧p x):
  ∃l:List α,ys=[.sl (l.map f)]/\l.length *b<=140737488351232/\∀x∈l,p x:=by
 obtain⟨xs,rfl,h1,-,h2⟩:=h.oJ hk;obtain⟨l,rfl,h3⟩:=Ax λx hx=>g (h1 x hx)
 exact⟨l,rfl,by simpa using h2,h3⟩
open Go.Proofs Go.Proofs.Tryz
@[simp] theorem anl:gS prog 3=some (false,1)/\rW prog 3=false/\iV prog 3=[D.v (.int .i64 0)]/\Ah prog 3=false/\ta prog 3=some .i64/\sJ prog 3=some [.int .i64 0]/\yO prog 3=false/\gS prog 4=some (false,1)/\iV prog 4=[D.v (.bool false)]/\Ah prog 4=true/\sJ prog 4=some [.bool false]/\gS prog 5=some (false,1)/\rW prog 5=false/\iV prog 5=[D.v (.int .u8 0)]/\ta prog 5=some .u8/\gS prog 9=some (false,1)/\rW prog 9=true/\iV prog 9=[D.v (.string ⟨#[]⟩)]/\yO prog 20=true/\gS prog 22=some (false,1)/\rZ prog 22=true/\iV prog 22=[D.sl []]/\sJ prog 22=some [.slice none 0 0]/\nC prog 22=some (9,1):=by and_intros<;>kernel_rfl
@[simp] theorem anm:kU prog 22=some (9,1,16,[.string ⟨#[]⟩])/\gS prog 23=some (false,1)/\rW prog 23=false/\rZ prog 23=true/\iV prog 23=[D.sl []]/\nC prog 23=some (3,1)/\kU prog 23=some (3,1,8,[.int .i64 0])/\ED prog 23=none/\gS prog 24=some (false,1)/\nC prog 24=some (104,9)/\kU prog 24=some (104,9,136,[.int .i64 0,.int .i64 0,.int .i64 0,.int .i64 0,.bool false,.slice none 0 0,.slice none 0 0,.slice none 0 0,.slice none 0 0])/\gS prog 25=some (false,1)/\nC prog 25=some (198,2)/\gS prog 26=some (false,1)/\nC prog 26=some (167,6)/\gS prog 28=some (true,15)/\iV prog 28=[D.v (.int .i64 0),D.v (.int .i64 0),D.v (.int .i64 0),D.v (.int .i64 0),D.sl [],D.v (.int .i64 0),D.sl [],D.sl [],D.sl [],D.sl [],D.sl [],D.sl [],D.sl [],D.sl [],D.sl []]/\sJ prog 28=some [.int .i64 0,.int .i64 0,.int .i64 0,.int .i64 0,.slice none 0 0,.int .i64 0,.slice none 0 0,.slice none 0 0,.slice none 0 0,.slice none 0 0,.slice none 0 0,.slice none 0 0,.slice none 0 0,.slice none 0 0,.slice none 0 0]/\cw prog 28 0=some (0,false,1)/\cw prog 28 1=some (1,false,1)/\cw prog 28 2=some (2,false,1)/\cw prog 28 3=some (3,false,1)/\cw prog 28 4=some (4,false,1)/\cw prog 28 5=some (5,false,1):=by and_intros<;>kernel_rfl
@[simp] theorem ann:cw prog 28 6=some (6,false,1)/\cw prog 28 7=some (7,false,1)/\cw prog 28 8=some (8,false,1)/\cw prog 28 9=some (9,false,1)/\cw prog 28 10=some (10,false,1)/\cw prog 28 11=some (11,false,1)/\cw prog 28 12=some (12,false,1)/\cw prog 28 13=some (13,false,1)/\cw prog 28 14=some (14,false,1)/\v8 prog 28=some ([.int .i64 0,.int .i64 0,.int .i64 0,.int .i64 0,.slice none 0 0,.int .i64 0,.slice none 0 0,.slice none 0 0,.slice none 0 0,.slice none 0 0,.slice none 0 0,.slice none 0 0,.slice none 0 0,.slice none 0 0,.slice none 0 0],[(0,1),(1,1),(2,1),(3,1),(4,1),(5,1),(6,1),(7,1),(8,1),(9,1),(10,1),(11,1),(12,1),(13,1),(14,1)])/\gS prog 29=some (false,1)/\nC prog 29=some (109,1)/\kU prog 29=some (109,1,24,[.slice none 0 0])/\gS prog 31=some (true,16)/\sJ prog 31=some [.int .i64 0,.int .i64 0,.int .i64 0,.int .i64 0,.slice none 0 0,.int .i64 0,.slice none 0 0,.slice none 0 0,.slice none 0 0,.slice none 0 0,.slice none 0 0,.slice none 0 0,.slice none 0 0,.slice none 0 0,.slice none 0 0,.slice none 0 0]/\cw prog 31 0=some (0,true,15)/\cw prog 31 1=some (15,false,1)/\v8 prog 31=some ([.int .i64 0,.int .i64 0,.int .i64 0,.int .i64 0,.slice none 0 0,.int .i64 0,.slice none 0 0,.slice none 0 0,.slice none 0 0,.slice none 0 0,.slice none 0 0,.slice none 0 0,.slice none 0 0,.slice none 0 0,.slice none 0 0,.slice none 0 0],[(0,15),(15,1)])/\gS prog 32=some (false,1)/\ta prog 32=some .u64/\gS prog 34=some (true,13)/\iV prog 34=[D.sl [],D.sl [],D.sl [],D.sl [],D.sl [],D.sl [],D.sl [],D.v (.int .u64 0),D.v (.int .i64 0),D.v (.int .i64 0),D.v (.int .i64 0),D.v (.int .i64 0),D.v (.int .i64 0)]/\sJ prog 34=some [.slice none 0 0,.slice none 0 0,.slice none 0 0,.slice none 0 0,.slice none 0 0,.slice none 0 0,.slice none 0 0,.int .u64 0,.int .i64 0,.int .i64 0,.int .i64 0,.int .i64 0,.int .i64 0]/\cw prog 34 0=some (0,false,1):=by and_intros<;>kernel_rfl
@[simp] theorem ano:cw prog 34 1=some (1,false,1)/\cw prog 34 2=some (2,false,1)/\cw prog 34 3=some (3,false,1)/\cw prog 34 4=some (4,false,1)/\cw prog 34 5=some (5,false,1)/\cw prog 34 6=some (6,false,1)/\cw prog 34 7=some (7,false,1)/\cw prog 34 8=some (8,false,1)/\cw prog 34 9=some (9,false,1)/\cw prog 34 10=some (10,false,1)/\cw prog 34 11=some (11,false,1)/\cw prog 34 12=some (12,false,1)/\v8 prog 34=some ([.slice none 0 0,.slice none 0 0,.slice none 0 0,.slice none 0 0,.slice none 0 0,.slice none 0 0,.slice none 0 0,.int .u64 0,.int .i64 0,.int .i64 0,.int .i64 0,.int .i64 0,.int .i64 0],[(0,1),(1,1),(2,1),(3,1),(4,1),(5,1),(6,1),(7,1),(8,1),(9,1),(10,1),(11,1),(12,1)])/\gS prog 36=some (true,3)/\iV prog 36=[D.v (.int .i64 0),D.v (.int .i64 0),D.v (.int .i64 0)]/\Nq prog 36=some [.i .i64,.i .i64,.i .i64]/\cw prog 36 0=some (0,false,1)/\cw prog 36 1=some (1,false,1)/\cw prog 36 2=some (2,false,1)/\v8 prog 36=some ([.int .i64 0,.int .i64 0,.int .i64 0],[(0,1),(1,1),(2,1)])/\cw prog 38 0=some (0,false,1)/\cw prog 38 1=some (1,false,1)/\cw prog 38 2=some (2,false,1)/\cw prog 38 3=some (3,false,1):=by and_intros<;>kernel_rfl
@[simp] theorem anp:cw prog 38 4=some (4,true,3)/\gS prog 39=some (false,1)/\rZ prog 39=true/\iV prog 39=[D.sl []]/\nC prog 39=some (5,1)/\kU prog 39=some (5,1,1,[.int .u8 0])/\gS prog 41=some (true,17)/\iV prog 41=[D.v (.int .i64 0),D.v (.int .i64 0),D.v (.int .i64 0),D.v (.int .i64 0),D.sl [],D.v (.int .i64 0),D.sl [],D.sl [],D.sl [],D.sl [],D.sl [],D.sl [],D.sl [],D.sl [],D.sl [],D.sl [],D.sl []]/\sJ prog 41=some [.int .i64 0,.int .i64 0,.int .i64 0,.int .i64 0,.slice none 0 0,.int .i64 0,.slice none 0 0,.slice none 0 0,.slice none 0 0,.slice none 0 0,.slice none 0 0,.slice none 0 0,.slice none 0 0,.slice none 0 0,.slice none 0 0,.slice none 0 0,.slice none 0 0]/\cw prog 41 0=some (0,true,15)/\cw prog 41 1=some (15,false,1)/\cw prog 41 2=some (16,false,1)/\v8 prog 41=some ([.int .i64 0,.int .i64 0,.int .i64 0,.int .i64 0,.slice none 0 0,.int .i64 0,.slice none 0 0,.slice none 0 0,.slice none 0 0,.slice none 0 0,.slice none 0 0,.slice none 0 0,.slice none 0 0,.slice none 0 0,.slice none 0 0,.slice none 0 0,.slice none 0 0],[(0,15),(15,1),(16,1)])/\gS prog 45=some (false,1)/\rW prog 45=false/\rZ prog 45=true/\iV prog 45=[D.sl []]/\nC prog 45=some (74,4)/\kU prog 45=some (74,4,48,[.int .i64 0,.int .i64 0,.int .i64 0,.slice none 0 0])/\ED prog 45=none/\gS prog 46=some (false,1)/\iV prog 46=[D.v (.int .i64 0)]/\gS prog 48=some (true,18)/\cw prog 48 0=some (0,false,1):=by and_intros<;>kernel_rfl
@[simp] theorem anq:cw prog 48 1=some (1,true,13)/\cw prog 48 2=some (14,false,1)/\cw prog 48 3=some (15,false,1)/\cw prog 48 4=some (16,false,1)/\cw prog 48 5=some (17,false,1)/\v8 prog 48=some ([.int .i64 0,.slice none 0 0,.slice none 0 0,.slice none 0 0,.slice none 0 0,.slice none 0 0,.slice none 0 0,.slice none 0 0,.int .u64 0,.int .i64 0,.int .i64 0,.int .i64 0,.int .i64 0,.int .i64 0,.string ⟨#[]⟩,.int .i64 0,.bool false,.int .i64 0],[(0,1),(1,13),(14,1),(15,1),(16,1),(17,1)])/\gS prog 50=some (true,24)/\iV prog 50=[D.sl [],D.sl [],D.v (.int .i64 0),D.v (.int .i64 0),D.v (.int .i64 0),D.v (.int .i64 0),D.sl [],D.sl [],D.sl [],D.sl [],D.sl [],D.sl [],D.sl [],D.v (.int .u64 0),D.v (.int .i64 0),D.v (.int .i64 0),D.v (.int .i64 0),D.v (.int .i64 0),D.v (.int .i64 0),D.v (.string ⟨#[]⟩),D.v (.int .i64 0),D.v (.bool false),D.v (.int .i64 0),D.v (.bool false)]/\sJ prog 50=some [.slice none 0 0,.slice none 0 0,.int .i64 0,.int .i64 0,.int .i64 0,.int .i64 0,.slice none 0 0,.slice none 0 0,.slice none 0 0,.slice none 0 0,.slice none 0 0,.slice none 0 0,.slice none 0 0,.int .u64 0,.int .i64 0,.int .i64 0,.int .i64 0,.int .i64 0,.int .i64 0,.string ⟨#[]⟩,.int .i64 0,.bool false,.int .i64 0,.bool false]/\cw prog 50 0=some (0,false,1)/\cw prog 50 1=some (1,false,1)/\cw prog 50 2=some (2,true,3)/\cw prog 50 3=some (5,true,18)/\cw prog 50 4=some (23,false,1)/\v8 prog 50=some ([.slice none 0 0,.slice none 0 0,.int .i64 0,.int .i64 0,.int .i64 0,.int .i64 0,.slice none 0 0,.slice none 0 0,.slice none 0 0,.slice none 0 0,.slice none 0 0,.slice none 0 0,.slice none 0 0,.int .u64 0,.int .i64 0,.int .i64 0,.int .i64 0,.int .i64 0,.int .i64 0,.string ⟨#[]⟩,.int .i64 0,.bool false,.int .i64 0,.bool false],[(0,1),(1,1),(2,3),(5,18),(23,1)])/\rZ prog 60=true/\nC prog 60=some (84,2)/\kU prog 60=some (84,2,16,[.int .i64 0,.int .i64 0])/\gS prog 74=some (true,4)/\iV prog 74=[D.v (.int .i64 0),D.v (.int .i64 0),D.v (.int .i64 0),D.sl []]/\sJ prog 74=some [.int .i64 0,.int .i64 0,.int .i64 0,.slice none 0 0]/\cw prog 74 0=some (0,false,1)/\cw prog 74 1=some (1,false,1)/\cw prog 74 2=some (2,false,1):=by and_intros<;>kernel_rfl
@[simp] theorem anr:cw prog 74 3=some (3,false,1)/\v8 prog 74=some ([.int .i64 0,.int .i64 0,.int .i64 0,.slice none 0 0],[(0,1),(1,1),(2,1),(3,1)])/\gS prog 77=some (true,1)/\sJ prog 77=some [.int .i64 0]/\CR prog 77=true/\cw prog 77 0=some (0,false,1)/\v8 prog 77=some ([.int .i64 0],[(0,1)])/\cw prog 80 0=some (0,true,24)/\cw prog 80 1=some (24,true,17)/\cw prog 80 2=some (41,false,1)/\v8 prog 80=some ([.slice none 0 0,.slice none 0 0,.int .i64 0,.int .i64 0,.int .i64 0,.int .i64 0,.slice none 0 0,.slice none 0 0,.slice none 0 0,.slice none 0 0,.slice none 0 0,.slice none 0 0,.slice none 0 0,.int .u64 0,.int .i64 0,.int .i64 0,.int .i64 0,.int .i64 0,.int .i64 0,.string ⟨#[]⟩,.int .i64 0,.bool false,.int .i64 0,.bool false,.int .i64 0,.int .i64 0,.int .i64 0,.int .i64 0,.slice none 0 0,.int .i64 0,.slice none 0 0,.slice none 0 0,.slice none 0 0,.slice none 0 0,.slice none 0 0,.slice none 0 0,.slice none 0 0,.slice none 0 0,.slice none 0 0,.slice none 0 0,.slice none 0 0,.int .i64 0],[(0,24),(24,17),(41,1)])/\gS prog 84=some (true,2)/\iV prog 84=[D.v (.int .i64 0),D.v (.int .i64 0)]/\sJ prog 84=some [.int .i64 0,.int .i64 0]/\cw prog 84 0=some (0,false,1)/\cw prog 84 1=some (1,false,1)/\v8 prog 84=some ([.int .i64 0,.int .i64 0],[(0,1),(1,1)])/\gS prog 102=some (false,1)/\nC prog 102=some (169,4)/\gS prog 104=some (true,9)/\iV prog 104=[D.v (.int .i64 0),D.v (.int .i64 0),D.v (.int .i64 0),D.v (.int .i64 0),D.v (.bool false),D.sl [],D.sl [],D.sl [],D.sl []]/\sJ prog 104=some [.int .i64 0,.int .i64 0,.int .i64 0,.int .i64 0,.bool false,.slice none 0 0,.slice none 0 0,.slice none 0 0,.slice none 0 0]/\cw prog 104 0=some (0,false,1)/\cw prog 104 1=some (1,false,1):=by and_intros<;>kernel_rfl
@[simp] theorem ans:cw prog 104 2=some (2,false,1)/\cw prog 104 3=some (3,false,1)/\cw prog 104 4=some (4,false,1)/\cw prog 104 5=some (5,false,1)/\cw prog 104 6=some (6,false,1)/\cw prog 104 7=some (7,false,1)/\cw prog 104 8=some (8,false,1)/\v8 prog 104=some ([.int .i64 0,.int .i64 0,.int .i64 0,.int .i64 0,.bool false,.slice none 0 0,.slice none 0 0,.slice none 0 0,.slice none 0 0],[(0,1),(1,1),(2,1),(3,1),(4,1),(5,1),(6,1),(7,1),(8,1)])/\gS prog 105=some (false,1)/\nC prog 105=some (107,5)/\kU prog 105=some (107,5,64,[.int .i64 0,.int .i64 0,.int .i64 0,.string ⟨#[]⟩,.slice none 0 0])/\gS prog 107=some (true,5)/\iV prog 107=[D.v (.int .i64 0),D.v (.int .i64 0),D.v (.int .i64 0),D.v (.string ⟨#[]⟩),D.sl []]/\sJ prog 107=some [.int .i64 0,.int .i64 0,.int .i64 0,.string ⟨#[]⟩,.slice none 0 0]/\cw prog 107 0=some (0,false,1)/\cw prog 107 1=some (1,false,1)/\cw prog 107 2=some (2,false,1)/\cw prog 107 3=some (3,false,1)/\cw prog 107 4=some (4,false,1)/\v8 prog 107=some ([.int .i64 0,.int .i64 0,.int .i64 0,.string ⟨#[]⟩,.slice none 0 0],[(0,1),(1,1),(2,1),(3,1),(4,1)])/\gS prog 109=some (false,1)/\iV prog 109=[D.sl []]/\nC prog 109=some (111,6)/\kU prog 109=some (111,6,104,[.int .i64 0,.int .i64 0,.string ⟨#[]⟩,.slice none 0 0,.slice none 0 0,.slice none 0 0]):=by and_intros<;>kernel_rfl
@[simp] theorem ant:gS prog 111=some (true,6)/\iV prog 111=[D.v (.int .i64 0),D.v (.int .i64 0),D.v (.string ⟨#[]⟩),D.sl [],D.sl [],D.sl []]/\sJ prog 111=some [.int .i64 0,.int .i64 0,.string ⟨#[]⟩,.slice none 0 0,.slice none 0 0,.slice none 0 0]/\cw prog 111 0=some (0,false,1)/\cw prog 111 1=some (1,false,1)/\cw prog 111 2=some (2,false,1)/\cw prog 111 3=some (3,false,1)/\cw prog 111 4=some (4,false,1)/\cw prog 111 5=some (5,false,1)/\v8 prog 111=some ([.int .i64 0,.int .i64 0,.string ⟨#[]⟩,.slice none 0 0,.slice none 0 0,.slice none 0 0],[(0,1),(1,1),(2,1),(3,1),(4,1),(5,1)])/\ta prog 129=some .i8/\ta prog 130=some .u64/\gS prog 167=some (true,6)/\iV prog 167=[D.v (.int .i64 0),D.v (.int .i64 0),D.v (.int .i64 0),D.v (.int .i64 0),D.v (.int .i64 0),D.v (.int .i64 0)]/\sJ prog 167=some [.int .i64 0,.int .i64 0,.int .i64 0,.int .i64 0,.int .i64 0,.int .i64 0]/\cw prog 167 0=some (0,false,1)/\cw prog 167 1=some (1,false,1)/\cw prog 167 2=some (2,false,1)/\cw prog 167 3=some (3,false,1)/\cw prog 167 4=some (4,false,1)/\cw prog 167 5=some (5,false,1)/\iV prog 169=[D.v (.int .i64 0),D.v (.int .i64 0),D.v (.int .i64 0),D.v (.int .i64 0)]/\cw prog 169 0=some (0,false,1)/\cw prog 169 1=some (1,false,1):=by and_intros<;>kernel_rfl
@[simp] theorem anu:cw prog 169 2=some (2,false,1)/\cw prog 169 3=some (3,false,1)/\ta prog 173=some .i16/\gS prog 196=some (false,1)/\nC prog 196=some (200,1)/\iV prog 198=[D.v (.bool false),D.sl []]/\cw prog 198 1=some (1,false,1)/\gS prog 200=some (false,1)/\iV prog 200=[D.sl []]/\nC prog 200=some (235,2)/\ta prog 224=some .u32/\gS prog 235=some (true,2)/\iV prog 235=[D.v (.int .i64 0),D.sl []]/\sJ prog 235=some [.int .i64 0,.slice none 0 0]/\cw prog 235 0=some (0,false,1)/\cw prog 235 1=some (1,false,1)/\gS prog 276=some (false,1)/\nC prog 277=some (276,1)/\kU prog 277=some (276,1,8,[.pointer none]):=by and_intros<;>kernel_rfl
theorem aiS:(List.range 310).all (λk=>enters prog k||!decide (3<=k/\k<310/\k≠195/\k≠240/\(k<272\/275<k)/\k≠300/\(k<302\/303<k)))=true:=by kernel_rfl
@[simp] theorem anv{k:Nat}(h:3<=k/\k<310/\k≠195/\k≠240/\(k<272\/275<k)/\k≠300/\(k<302\/303<k)):enters prog k=true:=by
 have:=aoP.1 aiS k (ap2.2 h.2.1);simpa[h]using this
structure gY where
 Ay:Int
 To:Int
 jf:Int
 bX:Int
 deriving DecidableEq
def gY.enc(x:gY):List D:=[D.v (.int .i64 x.Ay),D.v (.int .i64 x.To),D.v (.int .i64 x.jf),D.v (.int .i64 x.bX)]
@[simp] theorem gY.gs0(x:gY):x.enc.length=4/\(∀h:0<x.enc.length,x.enc[0]=D.v (.int .i64 x.Ay))/\(∀h:1<x.enc.length,x.enc[1]=D.v (.int .i64 x.To))/\(∀h:2<x.enc.length,x.enc[2]=D.v (.int .i64 x.jf))/\(∀h:3<x.enc.length,x.enc[3]=D.v (.int .i64 x.bX)):=by and_intros<;>(intros;rfl)
def gY.zero:gY:=⟨0,0,0,0⟩
@[simp] theorem gY.UW(o:Option gY):(o.map gY.enc).getD [D.v (.int .i64 0),D.v (.int .i64 0),D.v (.int .i64 0),D.v (.int .i64 0)]=(o.getD gY.zero).enc:=by cases o<;>rfl
def gY.wf(x:gY):Prop:=aN .i64 x.Ay/\aN .i64 x.To/\aN .i64 x.jf/\aN .i64 x.bX
theorem adO:dT prog 169= .st [3,3,3,3]:=by kernel_rfl
theorem cW:dT prog 3= .int .i64:=by kernel_rfl
theorem gY.of{ys:List D}(h:cX prog 169 ys):∃x:gY,ys=x.enc/\x.wf:=by
 obtain⟨_,_,rfl,t0,_,_,rfl,t1,_,_,rfl,t2,_,_,rfl,t3,rfl⟩:=h.oR adO;obtain⟨a0,rfl,w0⟩:=t0.bM cW;obtain⟨a1,rfl,w1⟩:=t1.bM cW;obtain⟨a2,rfl,w2⟩:=t2.bM cW;obtain⟨a3,rfl,w3⟩:=t3.bM cW;exact⟨⟨a0,a1,a2,a3⟩,rfl,w0,w1,w2,w3⟩
structure bg where
 la:Int
 Text:Int
 ae:Int
 Flags:Int
 Room:Bool
 aJ:(List Int)
 Words:(List ByteArray)
 uK:(List ByteArray)
 mh:(List gY)
 deriving DecidableEq
def bg.enc(x:bg):List D:=[D.v (.int .i64 x.la),D.v (.int .i64 x.Text),D.v (.int .i64 x.ae),D.v (.int .i64 x.Flags),D.v (.bool x.Room),D.sl (aC x.aJ),D.sl (iO x.Words),D.sl (iO x.uK),D.sl (x.mh.map gY.enc)]
@[simp] theorem bg.gs1(x:bg):x.enc.length=9/\(∀h:0<x.enc.length,x.enc[0]=D.v (.int .i64 x.la))/\(∀h:1<x.enc.length,x.enc[1]=D.v (.int .i64 x.Text))/\(∀h:2<x.enc.length,x.enc[2]=D.v (.int .i64 x.ae))/\(∀h:3<x.enc.length,x.enc[3]=D.v (.int .i64 x.Flags))/\(∀h:4<x.enc.length,x.enc[4]=D.v (.bool x.Room))/\(∀h:5<x.enc.length,x.enc[5]=D.sl (aC x.aJ))/\(∀h:6<x.enc.length,x.enc[6]=D.sl (iO x.Words))/\(∀h:7<x.enc.length,x.enc[7]=D.sl (iO x.uK))/\(∀h:8<x.enc.length,x.enc[8]=D.sl (x.mh.map gY.enc)):=by and_intros<;>(intros;rfl)
def bg.zero:bg:=⟨0,0,0,0,false,[],[],[],[]⟩
@[simp] theorem bg.UW(o:Option bg):(o.map bg.enc).getD [D.v (.int .i64 0),D.v (.int .i64 0),D.v (.int .i64 0),D.v (.int .i64 0),D.v (.bool false),D.sl [],D.sl [],D.sl [],D.sl []]=(o.getD bg.zero).enc:=by cases o<;>rfl
@[simp] theorem bg.JQ(x:bg):x.enc.take 9=x.enc:= .trans rfl rfl
def bg.wf(x:bg):Prop:=aN .i64 x.la/\aN .i64 x.Text/\aN .i64 x.ae/\aN .i64 x.Flags/\x.aJ.length *8<=140737488351232/\(∀y0:Int,y0∈x.aJ->aN .i64 y0)/\x.Words.length *16<=140737488351232/\(∀y0:ByteArray,y0∈x.Words->y0.size<=140737488351232)/\x.uK.length *16<=140737488351232/\(∀y0:ByteArray,y0∈x.uK->y0.size<=140737488351232)/\x.mh.length *32<=140737488351232/\(∀y0:gY,y0∈x.mh->y0.wf)
theorem bg.ou{x:bg}(h:x.wf):x.aJ.length *8<=140737488351232:=h.2.2.2.2.1
theorem bg.GR{x:bg}(h:x.wf):x.Words.length *16<=140737488351232:=h.2.2.2.2.2.2.1
theorem bg.GS{x:bg}(h:x.wf):(∀y0:ByteArray,y0∈x.Words->y0.size<=140737488351232):=h.2.2.2.2.2.2.2.1
theorem bg.adP{x:bg}(h:x.wf):x.uK.length *16<=140737488351232:=h.2.2.2.2.2.2.2.2.1
theorem bg.adQ{x:bg}(h:x.wf):(∀y0:ByteArray,y0∈x.uK->y0.size<=140737488351232):=h.2.2.2.2.2.2.2.2.2.1
theorem bg.EW{x:bg}(h:x.wf):x.mh.length *32<=140737488351232:=h.2.2.2.2.2.2.2.2.2.2.1
theorem bg.JR{x:bg}(h:x.wf):(∀y0:gY,y0∈x.mh->y0.wf):=h.2.2.2.2.2.2.2.2.2.2.2
theorem adR:dT prog 104= .st [3,3,3,3,4,23,22,22,102]:=by kernel_rfl
theorem acV:dT prog 4= .bool:=by kernel_rfl
theorem lL:dT prog 23= .sl 3 8:=by kernel_rfl
theorem Ij:dT prog 22= .sl 9 16:=by kernel_rfl
theorem EX:dT prog 9= .str:=by kernel_rfl
theorem adS:dT prog 102= .sl 169 32:=by kernel_rfl
theorem bg.of{ys:List D}(h:cX prog 104 ys):∃x:bg,ys=x.enc/\x.wf:=by
 obtain⟨_,_,rfl,t0,_,_,rfl,t1,_,_,rfl,t2,_,_,rfl,t3,_,_,rfl,t4,_,_,rfl,t5,_,_,rfl,t6,_,_,rfl,t7,_,_,rfl,t8,rfl⟩:=h.oR adR;obtain⟨a0,rfl,w0⟩:=t0.bM cW;obtain⟨a1,rfl,w1⟩:=t1.bM cW;obtain⟨a2,rfl,w2⟩:=t2.bM cW;obtain⟨a3,rfl,w3⟩:=t3.bM cW;obtain⟨a4,rfl⟩:=t4.pV acV;obtain⟨a5,rfl,l5,w5⟩:=t5.nO lL (λh=>h.bM cW);obtain⟨a6,rfl,l6,w6⟩:=t6.nO Ij (λh=>h.wY EX);obtain⟨a7,rfl,l7,w7⟩:=t7.nO Ij (λh=>h.wY EX);obtain⟨a8,rfl,l8,w8⟩:=t8.nO adS gY.of;exact⟨⟨a0,a1,a2,a3,a4,a5,a6,a7,a8⟩,rfl,w0,w1,w2,w3,l5,w5,l6,w6,l7,w7,l8,w8⟩
structure du where
 Kind:Int
 Words:(List ByteArray)
 deriving DecidableEq
def du.enc(x:du):List D:=[D.v (.int .i64 x.Kind),D.sl (iO x.Words)]
@[simp] theorem du.gs2(x:du):x.enc.length=2/\(∀h:0<x.enc.length,x.enc[0]=D.v (.int .i64 x.Kind))/\(∀h:1<x.enc.length,x.enc[1]=D.sl (iO x.Words)):=by and_intros<;>(intros;rfl)
def du.zero:du:=⟨0,[]⟩
@[simp] theorem du.UW(o:Option du):(o.map du.enc).getD [D.v (.int .i64 0),D.sl []]=(o.getD du.zero).enc:=by cases o<;>rfl
@[simp] theorem du.JQ(x:du):x.enc.take 2=x.enc:= .trans rfl rfl
def du.wf(x:du):Prop:=aN .i64 x.Kind/\x.Words.length *16<=140737488351232/\(∀y0:ByteArray,y0∈x.Words->y0.size<=140737488351232)
theorem du.GR{x:du}(h:x.wf):x.Words.length *16<=140737488351232:=h.2.1
theorem du.GS{x:du}(h:x.wf):(∀y0:ByteArray,y0∈x.Words->y0.size<=140737488351232):=h.2.2
theorem adT:dT prog 235= .st [3,22]:=by kernel_rfl
theorem du.of{ys:List D}(h:cX prog 235 ys):∃x:du,ys=x.enc/\x.wf:=by
 obtain⟨_,_,rfl,t0,_,_,rfl,t1,rfl⟩:=h.oR adT;obtain⟨a0,rfl,w0⟩:=t0.bM cW;obtain⟨a1,rfl,l1,w1⟩:=t1.nO Ij (λh=>h.wY EX);exact⟨⟨a0,a1⟩,rfl,w0,l1,w1⟩
structure lM where
 Meta:Bool
 tD:(List (List du))
 deriving DecidableEq
def lM.enc(x:lM):List D:=[D.v (.bool x.Meta),D.sl (pI (List.map du.enc) x.tD)]
@[simp] theorem lM.gs3(x:lM):x.enc.length=2/\(∀h:1<x.enc.length,x.enc[1]=D.sl (pI (List.map du.enc) x.tD)):=by and_intros<;>(intros;rfl)
def lM.wf(x:lM):Prop:=x.tD.length *24<=140737488351232/\(∀y0:(List du),y0∈x.tD->y0.length *32<=140737488351232/\(∀y1:du,y1∈y0->y1.wf))
theorem lM.aa4{x:lM}(h:x.wf):x.tD.length *24<=140737488351232:=h.1
theorem lM.aa5{x:lM}(h:x.wf):(∀y0:(List du),y0∈x.tD->y0.length *32<=140737488351232/\(∀y1:du,y1∈y0->y1.wf)):=h.2
theorem adU:dT prog 198= .st [4,196]:=by kernel_rfl
theorem adV:dT prog 196= .sl 200 24:=by kernel_rfl
theorem adW:dT prog 200= .sl 235 32:=by kernel_rfl
theorem lM.of{ys:List D}(h:cX prog 198 ys):∃x:lM,ys=x.enc/\x.wf:=by
 obtain⟨_,_,rfl,t0,_,_,rfl,t1,rfl⟩:=h.oR adU;obtain⟨a0,rfl⟩:=t0.pV acV;obtain⟨a1,rfl,l1,w1⟩:=t1.nO adV (λh=>h.nO adW du.of);exact⟨⟨a0,a1⟩,rfl,l1,w1⟩
structure mB where
 Oq:Int
 Phase:Int
 qi:Int
 Second:Int
 jf:Int
 Body:Int
 deriving DecidableEq
def mB.enc(x:mB):List D:=[D.v (.int .i64 x.Oq),D.v (.int .i64 x.Phase),D.v (.int .i64 x.qi),D.v (.int .i64 x.Second),D.v (.int .i64 x.jf),D.v (.int .i64 x.Body)]
@[simp] theorem mB.gs4(x:mB):x.enc.length=6/\(∀h:0<x.enc.length,x.enc[0]=D.v (.int .i64 x.Oq))/\(∀h:1<x.enc.length,x.enc[1]=D.v (.int .i64 x.Phase))/\(∀h:2<x.enc.length,x.enc[2]=D.v (.int .i64 x.qi))/\(∀h:3<x.enc.length,x.enc[3]=D.v (.int .i64 x.Second))/\(∀h:4<x.enc.length,x.enc[4]=D.v (.int .i64 x.jf))/\(∀h:5<x.enc.length,x.enc[5]=D.v (.int .i64 x.Body))/\x.enc.take 6=x.enc:=by and_intros<;>(intros;rfl)
def mB.wf(x:mB):Prop:=aN .i64 x.Oq/\aN .i64 x.Phase/\aN .i64 x.qi/\aN .i64 x.Second/\aN .i64 x.jf/\aN .i64 x.Body
theorem adX:dT prog 167= .st [3,3,3,3,3,3]:=by kernel_rfl
theorem mB.of{ys:List D}(h:cX prog 167 ys):∃x:mB,ys=x.enc/\x.wf:=by
 obtain⟨_,_,rfl,t0,_,_,rfl,t1,_,_,rfl,t2,_,_,rfl,t3,_,_,rfl,t4,_,_,rfl,t5,rfl⟩:=h.oR adX;obtain⟨a0,rfl,w0⟩:=t0.bM cW;obtain⟨a1,rfl,w1⟩:=t1.bM cW;obtain⟨a2,rfl,w2⟩:=t2.bM cW;obtain⟨a3,rfl,w3⟩:=t3.bM cW;obtain⟨a4,rfl,w4⟩:=t4.bM cW;obtain⟨a5,rfl,w5⟩:=t5.bM cW;exact⟨⟨a0,a1,a2,a3,a4,a5⟩,rfl,w0,w1,w2,w3,w4,w5⟩
structure ar where
 la:Int
 By:Int
 qQ:Int
 Max:Int
 gy:(List ByteArray)
 Flags:Int
 aJ:(List Int)
 aQ:(List Int)
 az:(List bg)
 tE:(List lM)
 nA:(List mB)
 cY:(List Int)
 eK:(List Int)
 Params:(List Int)
 aM:(List Int)
 deriving DecidableEq
def ar.enc(x:ar):List D:=[D.v (.int .i64 x.la),D.v (.int .i64 x.By),D.v (.int .i64 x.qQ),D.v (.int .i64 x.Max),D.sl (iO x.gy),D.v (.int .i64 x.Flags),D.sl (aC x.aJ),D.sl (aC x.aQ),D.sl (x.az.map bg.enc),D.sl (x.tE.map lM.enc),D.sl (x.nA.map mB.enc),D.sl (aC x.cY),D.sl (aC x.eK),D.sl (aC x.Params),D.sl (aC x.aM)]
@[simp] theorem ar.gs5(x:ar):x.enc.length=15/\(∀h:0<x.enc.length,x.enc[0]=D.v (.int .i64 x.la))/\(∀h:1<x.enc.length,x.enc[1]=D.v (.int .i64 x.By))/\(∀h:2<x.enc.length,x.enc[2]=D.v (.int .i64 x.qQ))/\(∀h:3<x.enc.length,x.enc[3]=D.v (.int .i64 x.Max))/\(∀h:4<x.enc.length,x.enc[4]=D.sl (iO x.gy))/\(∀h:5<x.enc.length,x.enc[5]=D.v (.int .i64 x.Flags))/\(∀h:6<x.enc.length,x.enc[6]=D.sl (aC x.aJ))/\(∀h:7<x.enc.length,x.enc[7]=D.sl (aC x.aQ))/\(∀h:8<x.enc.length,x.enc[8]=D.sl (x.az.map bg.enc))/\(∀h:9<x.enc.length,x.enc[9]=D.sl (x.tE.map lM.enc))/\(∀h:10<x.enc.length,x.enc[10]=D.sl (x.nA.map mB.enc))/\(∀h:11<x.enc.length,x.enc[11]=D.sl (aC x.cY))/\(∀h:12<x.enc.length,x.enc[12]=D.sl (aC x.eK))/\(∀h:13<x.enc.length,x.enc[13]=D.sl (aC x.Params))/\(∀h:14<x.enc.length,x.enc[14]=D.sl (aC x.aM)):=by and_intros<;>(intros;rfl)
def ar.zero:ar:=⟨0,0,0,0,[],0,[],[],[],[],[],[],[],[],[]⟩
@[simp] theorem ar.GU(x:ar):List.take 15 (x.enc.map V.d)=x.enc.map V.d:= .trans rfl rfl
def ar.wf(x:ar):Prop:=aN .i64 x.la/\aN .i64 x.By/\aN .i64 x.qQ/\aN .i64 x.Max/\x.gy.length *16<=140737488351232/\(∀y0:ByteArray,y0∈x.gy->y0.size<=140737488351232)/\aN .i64 x.Flags/\x.aJ.length *8<=140737488351232/\(∀y0:Int,y0∈x.aJ->aN .i64 y0)/\x.aQ.length *8<=140737488351232/\(∀y0:Int,y0∈x.aQ->aN .i64 y0)/\x.az.length *136<=140737488351232/\(∀y0:bg,y0∈x.az->y0.wf)/\x.tE.length *32<=140737488351232/\(∀y0:lM,y0∈x.tE->y0.wf)/\x.nA.length *48<=140737488351232/\(∀y0:mB,y0∈x.nA->y0.wf)/\x.cY.length *8<=140737488351232/\(∀y0:Int,y0∈x.cY->aN .i64 y0)/\x.eK.length *8<=140737488351232/\(∀y0:Int,y0∈x.eK->aN .i64 y0)/\x.Params.length *8<=140737488351232/\(∀y0:Int,y0∈x.Params->aN .i64 y0)/\x.aM.length *8<=140737488351232/\(∀y0:Int,y0∈x.aM->aN .i64 y0)
theorem ar.Ot{x:ar}(h:x.wf):x.gy.length *16<=140737488351232:=h.2.2.2.2.1
theorem ar.aa6{x:ar}(h:x.wf):(∀y0:ByteArray,y0∈x.gy->y0.size<=140737488351232):=h.2.2.2.2.2.1
theorem ar.ou{x:ar}(h:x.wf):x.aJ.length *8<=140737488351232:=h.2.2.2.2.2.2.2.1
theorem ar.ow{x:ar}(h:x.wf):x.aQ.length *8<=140737488351232:=h.2.2.2.2.2.2.2.2.2.1
theorem ar.Du{x:ar}(h:x.wf):x.az.length *136<=140737488351232:=h.2.2.2.2.2.2.2.2.2.2.2.1
theorem ar.K6{x:ar}(h:x.wf):(∀y0:bg,y0∈x.az->y0.wf):=h.2.2.2.2.2.2.2.2.2.2.2.2.1
theorem ar.adY{x:ar}(h:x.wf):x.tE.length *32<=140737488351232:=h.2.2.2.2.2.2.2.2.2.2.2.2.2.1
theorem ar.adZ{x:ar}(h:x.wf):(∀y0:lM,y0∈x.tE->y0.wf):=h.2.2.2.2.2.2.2.2.2.2.2.2.2.2.1
theorem ar.GV{x:ar}(h:x.wf):x.nA.length *48<=140737488351232:=h.2.2.2.2.2.2.2.2.2.2.2.2.2.2.2.1
theorem ar.aa7{x:ar}(h:x.wf):(∀y0:mB,y0∈x.nA->y0.wf):=h.2.2.2.2.2.2.2.2.2.2.2.2.2.2.2.2.1
theorem ar.GW{x:ar}(h:x.wf):x.cY.length *8<=140737488351232:=h.2.2.2.2.2.2.2.2.2.2.2.2.2.2.2.2.2.1
theorem ar.Bi{x:ar}(h:x.wf):x.eK.length *8<=140737488351232:=h.2.2.2.2.2.2.2.2.2.2.2.2.2.2.2.2.2.2.2.1
theorem ar.zf{x:ar}(h:x.wf):x.Params.length *8<=140737488351232:=h.2.2.2.2.2.2.2.2.2.2.2.2.2.2.2.2.2.2.2.2.2.1
theorem ar.Yq{x:ar}(h:x.wf):x.aM.length *8<=140737488351232:=h.2.2.2.2.2.2.2.2.2.2.2.2.2.2.2.2.2.2.2.2.2.2.2.1
theorem ar.K7{x:ar}(h:x.wf):(∀y0:Int,y0∈x.aM->aN .i64 y0):=h.2.2.2.2.2.2.2.2.2.2.2.2.2.2.2.2.2.2.2.2.2.2.2.2
theorem ae8:dT prog 28= .st [3,3,3,3,22,3,23,23,24,25,26,23,23,23,23]:=by kernel_rfl
theorem ae9:dT prog 24= .sl 104 136:=by kernel_rfl
theorem afa:dT prog 25= .sl 198 32:=by kernel_rfl
theorem afb:dT prog 26= .sl 167 48:=by kernel_rfl
theorem ar.of{ys:List D}(h:cX prog 28 ys):∃x:ar,ys=x.enc/\x.wf:=by
 obtain⟨_,_,rfl,t0,_,_,rfl,t1,_,_,rfl,t2,_,_,rfl,t3,_,_,rfl,t4,_,_,rfl,t5,_,_,rfl,t6,_,_,rfl,t7,_,_,rfl,t8,_,_,rfl,t9,_,_,rfl,t10,_,_,rfl,t11,_,_,rfl,t12,_,_,rfl,t13,_,_,rfl,t14,rfl⟩:=h.oR ae8;obtain⟨a0,rfl,w0⟩:=t0.bM cW;obtain⟨a1,rfl,w1⟩:=t1.bM cW;obtain⟨a2,rfl,w2⟩:=t2.bM cW;obtain⟨a3,rfl,w3⟩:=t3.bM cW;obtain⟨a4,rfl,l4,w4⟩:=t4.nO Ij (λh=>h.wY EX);obtain⟨a5,rfl,w5⟩:=t5.bM cW;obtain⟨a6,rfl,l6,w6⟩:=t6.nO lL (λh=>h.bM cW);obtain⟨a7,rfl,l7,w7⟩:=t7.nO lL (λh=>h.bM cW);obtain⟨a8,rfl,l8,w8⟩:=t8.nO ae9 bg.of;obtain⟨a9,rfl,l9,w9⟩:=t9.nO afa lM.of;obtain⟨a10,rfl,l10,w10⟩:=t10.nO afb mB.of;obtain⟨a11,rfl,l11,w11⟩:=t11.nO lL (λh=>h.bM cW);obtain⟨a12,rfl,l12,w12⟩:=t12.nO lL (λh=>h.bM cW);obtain⟨a13,rfl,l13,w13⟩:=t13.nO lL (λh=>h.bM cW);obtain⟨a14,rfl,l14,w14⟩:=t14.nO lL (λh=>h.bM cW);exact⟨⟨a0,a1,a2,a3,a4,a5,a6,a7,a8,a9,a10,a11,a12,a13,a14⟩,rfl,w0,w1,w2,w3,l4,w4,w5,l6,w6,l7,w7,l8,w8,l9,w9,l10,w10,l11,w11,l12,w12,l13,w13,l14,w14⟩
inductive ay where
 | mk (Kind:Int) (Op:Int) (aL:Int) (Name:ByteArray) (aF:(List ay))
def ay.Kind:ay->Int
 | .mk a0 a1 a2 a3 a4=>a0
def ay.Op:ay->Int
 | .mk a0 a1 a2 a3 a4=>a1
def ay.aL:ay->Int
 | .mk a0 a1 a2 a3 a4=>a2
def ay.Name:ay->ByteArray
 | .mk a0 a1 a2 a3 a4=>a3
def ay.aF:ay->(List ay)
 | .mk a0 a1 a2 a3 a4=>a4
mutual
def ay.enc:ay->List D
 | .mk a0 a1 a2 a3 a4=> [D.v (.int .i64 a0),D.v (.int .i64 a1),D.v (.int .i64 a2),D.v (.string a3),D.sl (ay.zP a4)]
def ay.zP:List ay->List (List D)
 | []=> []
 | x::l=>x.enc::ay.zP l
end
theorem ay.uL:∀l:List ay,ay.zP l=l.map ay.enc
 | []=>rfl
 | x::l=>by rw[ay.zP,ay.uL l];rfl
theorem ay.mC(x:ay):x.enc=[D.v (.int .i64 x.Kind),D.v (.int .i64 x.Op),D.v (.int .i64 x.aL),D.v (.string x.Name),D.sl (x.aF.map ay.enc)]:=by
 cases x;simp only[ay.enc,ay.uL];rfl
@[simp] theorem ay.Bj(x:ay):x.enc.length=5:=by cases x;rfl
@[simp] theorem ay.UX(x:ay):x.enc[0]?=some (D.v (.int .i64 x.Kind)):=by rw[ay.mC];rfl
@[simp] theorem ay.afc(x:ay)(h:0<x.enc.length):x.enc[0]=D.v (.int .i64 x.Kind):=by
 have:=ay.UX x;rw[akC h]at this;exact aoK this
@[simp] theorem ay.UY(x:ay):x.enc[1]?=some (D.v (.int .i64 x.Op)):=by rw[ay.mC];rfl
@[simp] theorem ay.afd(x:ay)(h:1<x.enc.length):x.enc[1]=D.v (.int .i64 x.Op):=by
 have:=ay.UY x;rw[akC h]at this;exact aoK this
@[simp] theorem ay.UZ(x:ay):x.enc[2]?=some (D.v (.int .i64 x.aL)):=by rw[ay.mC];rfl
@[simp] theorem ay.afe(x:ay)(h:2<x.enc.length):x.enc[2]=D.v (.int .i64 x.aL):=by
 have:=ay.UZ x;rw[akC h]at this;exact aoK this
@[simp] theorem ay.U0(x:ay):x.enc[3]?=some (D.v (.string x.Name)):=by rw[ay.mC];rfl
@[simp] theorem ay.aff(x:ay)(h:3<x.enc.length):x.enc[3]=D.v (.string x.Name):=by
 have:=ay.U0 x;rw[akC h]at this;exact aoK this
@[simp] theorem ay.U1(x:ay):x.enc[4]?=some (D.sl (x.aF.map ay.enc)):=by rw[ay.mC];rfl
@[simp] theorem ay.afg(x:ay)(h:4<x.enc.length):x.enc[4]=D.sl (x.aF.map ay.enc):=by
 have:=ay.U1 x;rw[akC h]at this;exact aoK this
def ay.zero:ay:= .mk (0) (0) (0) (⟨#[]⟩) ([])
@[simp] theorem ay.UW(o:Option ay):(o.map ay.enc).getD [D.v (.int .i64 0),D.v (.int .i64 0),D.v (.int .i64 0),D.v (.string ⟨#[]⟩),D.sl []]=(o.getD ay.zero).enc:=by cases o<;>rfl
@[simp] theorem ay.aiT(x:ay):List.drop 5 (x.enc.map V.d)=[]:=by cases x;rfl
@[simp] theorem ay.JQ(x:ay):x.enc.take 5=x.enc:=by cases x;rfl
@[simp] theorem ay.GU(x:ay):List.take 5 (x.enc.map V.d)=x.enc.map V.d:=by cases x;rfl
mutual
def ay.wf:ay->Prop
 | .mk a0 a1 a2 a3 a4=>aN .i64 a0/\aN .i64 a1/\aN .i64 a2/\a3.size<=140737488351232/\a4.length *64<=140737488351232/\ay.zg a4
def ay.zg:List ay->Prop
 | []=>True
 | x::l=>x.wf/\ay.zg l
end
theorem ay.sU:∀l:List ay,ay.zg l↔∀y∈l,y.wf
 | []=>by simp[ay.zg]
 | x::l=>by rw[ay.zg,ay.sU l];simp
theorem ay.qj(x:ay):x.wf↔aN .i64 x.Kind/\aN .i64 x.Op/\aN .i64 x.aL/\x.Name.size<=140737488351232/\x.aF.length *64<=140737488351232/\(∀y0:ay,y0∈x.aF->y0.wf):=by
 cases x;simp only[ay.wf,ay.sU];rfl
theorem ay.wZ{x:ay}(h:x.wf):(∀y0:ay,y0∈x.aF->y0.wf):=((ay.qj x).1 h).2.2.2.2.2
theorem ad0:dT prog 107= .st [3,3,3,9,105]:=by kernel_rfl
theorem SC:dT prog 105= .sl 107 64:=by kernel_rfl
theorem ay.of':∀(n:Nat) {ys:List D},SizeOf.sizeOf ys<n->cX prog 107 ys->∃x:ay,ys=x.enc/\x.wf:=by
 intro n
 induction n with
 | zero=>intro ys h;omega
 | succ n ih=>
 intro ys dZ h;have h':=cX.oR h ad0;obtain⟨a0_,r0,tz,t0,h0⟩:=h';obtain⟨a1_,r1,nD,t1,h1⟩:=h0;obtain⟨a2_,r2,qk,t2,h2⟩:=h1;obtain⟨a3_,r3,SD,t3,h3⟩:=h2;obtain⟨a4_,r4,hr4,t4,h4⟩:=h3;simp only[Ii]at h4;subst h4;subst hr4;subst SD;subst qk;subst nD;subst tz;obtain⟨aa8,rfl,aa9⟩:=cX.bM t0 cW;obtain⟨aba,rfl,abb⟩:=cX.bM t1 cW;obtain⟨abc,rfl,abd⟩:=cX.bM t2 cW;obtain⟨abe,rfl,abf⟩:=cX.wY t3 EX;obtain⟨aiU,rfl,abg,aiV,abh⟩:=cX.oJ t4 SC;obtain⟨abi,rfl,abj⟩:=Ax (f:=ay.enc) (p:=ay.wf) (λabk hx=>ih (by have aw:=apo hx;simp at dZ;omega) (abg abk hx));exact⟨.mk aa8 aba abc abe abi,by rw[ay.mC];rfl,by rw[ay.wf];exact⟨aa9,abb,abd,abf,(by simpa using abh),(ay.sU _).2 abj⟩⟩
theorem ay.of{ys:List D}(h:cX prog 107 ys):∃x:ay,ys=x.enc/\x.wf:=ay.of' _ (ao2 _) h
inductive an where
 | mk (Kind:Int) (aL:Int) (Name:ByteArray) (aF:(List ay)) (Body:(List an)) (bX:(List an))
def an.Kind:an->Int
 | .mk a0 a1 a2 a3 a4 a5=>a0
def an.aL:an->Int
 | .mk a0 a1 a2 a3 a4 a5=>a1
def an.Name:an->ByteArray
 | .mk a0 a1 a2 a3 a4 a5=>a2
def an.aF:an->(List ay)
 | .mk a0 a1 a2 a3 a4 a5=>a3
def an.Body:an->(List an)
 | .mk a0 a1 a2 a3 a4 a5=>a4
def an.bX:an->(List an)
 | .mk a0 a1 a2 a3 a4 a5=>a5
mutual
def an.enc:an->List D
 | .mk a0 a1 a2 a3 a4 a5=> [D.v (.int .i64 a0),D.v (.int .i64 a1),D.v (.string a2),D.sl (a3.map ay.enc),D.sl (an.zP a4),D.sl (an.zP a5)]
def an.zP:List an->List (List D)
 | []=> []
 | x::l=>x.enc::an.zP l
end
theorem an.uL:∀l:List an,an.zP l=l.map an.enc
 | []=>rfl
 | x::l=>by rw[an.zP,an.uL l];rfl
theorem an.mC(x:an):x.enc=[D.v (.int .i64 x.Kind),D.v (.int .i64 x.aL),D.v (.string x.Name),D.sl (x.aF.map ay.enc),D.sl (x.Body.map an.enc),D.sl (x.bX.map an.enc)]:=by
 cases x;simp only[an.enc,an.uL];rfl
@[simp] theorem an.Bj(x:an):x.enc.length=6:=by cases x;rfl
@[simp] theorem an.UX(x:an):x.enc[0]?=some (D.v (.int .i64 x.Kind)):=by rw[an.mC];rfl
@[simp] theorem an.afc(x:an)(h:0<x.enc.length):x.enc[0]=D.v (.int .i64 x.Kind):=by
 have:=an.UX x;rw[akC h]at this;exact aoK this
@[simp] theorem an.UY(x:an):x.enc[1]?=some (D.v (.int .i64 x.aL)):=by rw[an.mC];rfl
@[simp] theorem an.afd(x:an)(h:1<x.enc.length):x.enc[1]=D.v (.int .i64 x.aL):=by
 have:=an.UY x;rw[akC h]at this;exact aoK this
@[simp] theorem an.UZ(x:an):x.enc[2]?=some (D.v (.string x.Name)):=by rw[an.mC];rfl
@[simp] theorem an.afe(x:an)(h:2<x.enc.length):x.enc[2]=D.v (.string x.Name):=by
 have:=an.UZ x;rw[akC h]at this;exact aoK this
@[simp] theorem an.U0(x:an):x.enc[3]?=some (D.sl (x.aF.map ay.enc)):=by rw[an.mC];rfl
@[simp] theorem an.aff(x:an)(h:3<x.enc.length):x.enc[3]=D.sl (x.aF.map ay.enc):=by
 have:=an.U0 x;rw[akC h]at this;exact aoK this
@[simp] theorem an.U1(x:an):x.enc[4]?=some (D.sl (x.Body.map an.enc)):=by rw[an.mC];rfl
@[simp] theorem an.afg(x:an)(h:4<x.enc.length):x.enc[4]=D.sl (x.Body.map an.enc):=by
 have:=an.U1 x;rw[akC h]at this;exact aoK this
@[simp] theorem an.agZ(x:an):x.enc[5]?=some (D.sl (x.bX.map an.enc)):=by rw[an.mC];rfl
@[simp] theorem an.akN(x:an)(h:5<x.enc.length):x.enc[5]=D.sl (x.bX.map an.enc):=by
 have:=an.agZ x;rw[akC h]at this;exact aoK this
@[simp] theorem an.JQ(x:an):x.enc.take 6=x.enc:=by cases x;rfl
@[simp] theorem an.GU(x:an):List.take 6 (x.enc.map V.d)=x.enc.map V.d:=by cases x;rfl
mutual
def an.wf:an->Prop
 | .mk a0 a1 a2 a3 a4 a5=>aN .i64 a0/\aN .i64 a1/\a2.size<=140737488351232/\a3.length *64<=140737488351232/\(∀y0:ay,y0∈a3->y0.wf)/\a4.length *104<=140737488351232/\an.zg a4/\a5.length *104<=140737488351232/\an.zg a5
def an.zg:List an->Prop
 | []=>True
 | x::l=>x.wf/\an.zg l
end
theorem an.sU:∀l:List an,an.zg l↔∀y∈l,y.wf
 | []=>by simp[an.zg]
 | x::l=>by rw[an.zg,an.sU l];simp
theorem an.qj(x:an):x.wf↔aN .i64 x.Kind/\aN .i64 x.aL/\x.Name.size<=140737488351232/\x.aF.length *64<=140737488351232/\(∀y0:ay,y0∈x.aF->y0.wf)/\x.Body.length *104<=140737488351232/\(∀y0:an,y0∈x.Body->y0.wf)/\x.bX.length *104<=140737488351232/\(∀y0:an,y0∈x.bX->y0.wf):=by
 cases x;simp only[an.wf,an.sU];rfl
theorem an.JS{x:an}(h:x.wf):x.aF.length *64<=140737488351232:=((an.qj x).1 h).2.2.2.1
theorem an.wZ{x:an}(h:x.wf):(∀y0:ay,y0∈x.aF->y0.wf):=((an.qj x).1 h).2.2.2.2.1
theorem an.EY{x:an}(h:x.wf):x.Body.length *104<=140737488351232:=((an.qj x).1 h).2.2.2.2.2.1
theorem an.EZ{x:an}(h:x.wf):(∀y0:an,y0∈x.Body->y0.wf):=((an.qj x).1 h).2.2.2.2.2.2.1
theorem an.E0{x:an}(h:x.wf):x.bX.length *104<=140737488351232:=((an.qj x).1 h).2.2.2.2.2.2.2.1
theorem an.E1{x:an}(h:x.wf):(∀y0:an,y0∈x.bX->y0.wf):=((an.qj x).1 h).2.2.2.2.2.2.2.2
theorem ad1:dT prog 111= .st [3,3,9,105,109,109]:=by kernel_rfl
theorem JT:dT prog 109= .sl 111 104:=by kernel_rfl
theorem an.of':∀(n:Nat) {ys:List D},SizeOf.sizeOf ys<n->cX prog 111 ys->∃x:an,ys=x.enc/\x.wf:=by
 intro n
 induction n with
 | zero=>intro ys h;omega
 | succ n ih=>
 intro ys dZ h;have h':=cX.oR h ad1;obtain⟨a0_,r0,tz,t0,h0⟩:=h';obtain⟨a1_,r1,nD,t1,h1⟩:=h0;obtain⟨a2_,r2,qk,t2,h2⟩:=h1;obtain⟨a3_,r3,SD,t3,h3⟩:=h2;obtain⟨a4_,r4,hr4,t4,h4⟩:=h3;obtain⟨a5_,r5,hr5,t5,h5⟩:=h4;simp only[Ii]at h5;subst h5;subst hr5;subst hr4;subst SD;subst qk;subst nD;subst tz;obtain⟨aa8,rfl,aa9⟩:=cX.bM t0 cW;obtain⟨aba,rfl,abb⟩:=cX.bM t1 cW;obtain⟨abc,rfl,abd⟩:=cX.wY t2 EX;obtain⟨anw,rfl,aiW,anx,abf⟩:=cX.oJ t3 SC;obtain⟨abe,rfl,aiX⟩:=Ax (f:=ay.enc) (p:=λ(y:ay)=>y.wf) (λaiY hx=>by
  have aiZ:=aiW aiY hx;obtain⟨ag0,rfl,ag1⟩:=ay.of aiZ;exact⟨ag0,rfl,ag1⟩)
 obtain⟨aiU,rfl,abg,aiV,abh⟩:=cX.oJ t4 JT;obtain⟨abi,rfl,abj⟩:=Ax (f:=an.enc) (p:=an.wf) (λabk hx=>ih (by have aw:=apo hx;simp at dZ;omega) (abg abk hx));obtain⟨anz,rfl,ai0,anA,ai1⟩:=cX.oJ t5 JT;obtain⟨ai2,rfl,ai3⟩:=Ax (f:=an.enc) (p:=an.wf) (λai4 hx=>ih (by have aw:=apo hx;simp at dZ;omega) (ai0 ai4 hx));exact⟨.mk aa8 aba abc abe abi ai2,by rw[an.mC];rfl,by rw[an.wf];exact⟨aa9,abb,abd,(by simpa using abf),aiX,(by simpa using abh),(an.sU _).2 abj,(by simpa using ai1),(an.sU _).2 ai3⟩⟩
theorem an.of{ys:List D}(h:cX prog 111 ys):∃x:an,ys=x.enc/\x.wf:=an.of' _ (ao2 _) h
structure bW where
 Tables:ar
 aK:(List (List an))
def bW.enc(x:bW):List D:=[D.v (.int .i64 x.Tables.la),D.v (.int .i64 x.Tables.By),D.v (.int .i64 x.Tables.qQ),D.v (.int .i64 x.Tables.Max),D.sl (iO x.Tables.gy),D.v (.int .i64 x.Tables.Flags),D.sl (aC x.Tables.aJ),D.sl (aC x.Tables.aQ),D.sl (x.Tables.az.map bg.enc),D.sl (x.Tables.tE.map lM.enc),D.sl (x.Tables.nA.map mB.enc),D.sl (aC x.Tables.cY),D.sl (aC x.Tables.eK),D.sl (aC x.Tables.Params),D.sl (aC x.Tables.aM),D.sl (pI (List.map an.enc) x.aK)]
@[simp] theorem bW.gs6(x:bW):x.enc.length=16/\(∀h:8<x.enc.length,x.enc[8]=D.sl (x.Tables.az.map bg.enc))/\(∀h:15<x.enc.length,x.enc[15]=D.sl (pI (List.map an.enc) x.aK)):=by and_intros<;>(intros;rfl)
@[simp] theorem bW.fzV(L:aI)(x:bW):V.nM L (x.enc.map V.d)=x.enc.map V.d:=by simp[bW.enc,V.nM,V.fz]
@[simp] theorem bW.gs7(x:bW):List.take 16 (x.enc.map V.d)=x.enc.map V.d/\List.take 15 (x.enc.map V.d)=x.Tables.enc.map V.d:=by and_intros<;>(intros;rfl)
def bW.wf(x:bW):Prop:=x.Tables.wf/\x.aK.length *24<=140737488351232/\(∀y0:(List an),y0∈x.aK->y0.length *104<=140737488351232/\(∀y1:an,y1∈y0->y1.wf))
theorem bW.Dv{x:bW}(h:x.wf):x.Tables.wf:=h.1
theorem bW.FV{x:bW}(h:x.wf):x.aK.length *24<=140737488351232:=h.2.1
theorem bW.Rq{x:bW}(h:x.wf):(∀y0:(List an),y0∈x.aK->y0.length *104<=140737488351232/\(∀y1:an,y1∈y0->y1.wf)):=h.2.2
theorem afh:dT prog 31= .st [28,29]:=by kernel_rfl
theorem afi:dT prog 29= .sl 109 24:=by kernel_rfl
theorem bW.of{ys:List D}(h:cX prog 31 ys):∃x:bW,ys=x.enc/\x.wf:=by
 obtain⟨_,_,rfl,t0,_,_,rfl,t1,rfl⟩:=h.oR afh;obtain⟨a0,rfl,w0⟩:=ar.of t0;obtain⟨a1,rfl,l1,w1⟩:=t1.nO afi (λh=>h.nO JT an.of);exact⟨⟨a0,a1⟩,rfl,w0,l1,w1⟩
structure aj where
 aQ:(List Int)
 ae:(List Int)
 Child:(List Int)
 Next:(List Int)
 Flags:(List Int)
 aJ:(List Int)
 bc:(List Int)
 cO:Int
 Score:Int
 jO:Int
 iB:Int
 It:Int
 Go:Int
 deriving DecidableEq
def aj.enc(x:aj):List D:=[D.sl (aC x.aQ),D.sl (aC x.ae),D.sl (aC x.Child),D.sl (aC x.Next),D.sl (aC x.Flags),D.sl (aC x.aJ),D.sl (aC x.bc),D.v (.int .u64 x.cO),D.v (.int .i64 x.Score),D.v (.int .i64 x.jO),D.v (.int .i64 x.iB),D.v (.int .i64 x.It),D.v (.int .i64 x.Go)]
@[simp] theorem aj.gs8(x:aj):x.enc.length=13/\(∀h:0<x.enc.length,x.enc[0]=D.sl (aC x.aQ))/\(∀h:1<x.enc.length,x.enc[1]=D.sl (aC x.ae))/\(∀h:2<x.enc.length,x.enc[2]=D.sl (aC x.Child))/\(∀h:3<x.enc.length,x.enc[3]=D.sl (aC x.Next))/\(∀h:4<x.enc.length,x.enc[4]=D.sl (aC x.Flags))/\(∀h:5<x.enc.length,x.enc[5]=D.sl (aC x.aJ))/\(∀h:6<x.enc.length,x.enc[6]=D.sl (aC x.bc))/\(∀h:8<x.enc.length,x.enc[8]=D.v (.int .i64 x.Score))/\(∀h:9<x.enc.length,x.enc[9]=D.v (.int .i64 x.jO))/\(∀h:10<x.enc.length,x.enc[10]=D.v (.int .i64 x.iB))/\(∀h:11<x.enc.length,x.enc[11]=D.v (.int .i64 x.It))/\(∀h:12<x.enc.length,x.enc[12]=D.v (.int .i64 x.Go)):=by and_intros<;>(intros;rfl)
@[simp] theorem aj.fzV(L:aI)(x:aj):V.nM L (x.enc.map V.d)=x.enc.map V.d:=by simp[aj.enc,V.nM,V.fz]
def aj.zero:aj:=⟨[],[],[],[],[],[],[],0,0,0,0,0,0⟩
@[simp] theorem aj.gs9(x:aj):List.drop 13 (x.enc.map V.d)=[]/\List.take 13 (x.enc.map V.d)=x.enc.map V.d:=by and_intros<;>(intros;rfl)
def aj.wf(x:aj):Prop:=x.aQ.length *8<=140737488351232/\(∀y0:Int,y0∈x.aQ->aN .i64 y0)/\x.ae.length *8<=140737488351232/\(∀y0:Int,y0∈x.ae->aN .i64 y0)/\x.Child.length *8<=140737488351232/\(∀y0:Int,y0∈x.Child->aN .i64 y0)/\x.Next.length *8<=140737488351232/\(∀y0:Int,y0∈x.Next->aN .i64 y0)/\x.Flags.length *8<=140737488351232/\(∀y0:Int,y0∈x.Flags->aN .i64 y0)/\x.aJ.length *8<=140737488351232/\(∀y0:Int,y0∈x.aJ->aN .i64 y0)/\x.bc.length *8<=140737488351232/\(∀y0:Int,y0∈x.bc->aN .i64 y0)/\aN .u64 x.cO/\aN .i64 x.Score/\aN .i64 x.jO/\aN .i64 x.iB/\aN .i64 x.It/\aN .i64 x.Go
theorem aj.ow{x:aj}(h:x.wf):x.aQ.length *8<=140737488351232:=h.1
theorem aj.fW{x:aj}(h:x.wf):x.ae.length *8<=140737488351232:=h.2.2.1
theorem aj.Ou{x:aj}(h:x.wf):x.Child.length *8<=140737488351232:=h.2.2.2.2.1
theorem aj.SE{x:aj}(h:x.wf):x.Next.length *8<=140737488351232:=h.2.2.2.2.2.2.1
theorem aj.Ov{x:aj}(h:x.wf):x.Flags.length *8<=140737488351232:=h.2.2.2.2.2.2.2.2.1
theorem aj.ou{x:aj}(h:x.wf):x.aJ.length *8<=140737488351232:=h.2.2.2.2.2.2.2.2.2.2.1
theorem aj.K8{x:aj}(h:x.wf):x.bc.length *8<=140737488351232:=h.2.2.2.2.2.2.2.2.2.2.2.2.1
theorem afj:dT prog 34= .st [23,23,23,23,23,23,23,32,3,3,3,3,3]:=by kernel_rfl
theorem afk:dT prog 32= .int .u64:=by kernel_rfl
theorem aj.of{ys:List D}(h:cX prog 34 ys):∃x:aj,ys=x.enc/\x.wf:=by
 obtain⟨_,_,rfl,t0,_,_,rfl,t1,_,_,rfl,t2,_,_,rfl,t3,_,_,rfl,t4,_,_,rfl,t5,_,_,rfl,t6,_,_,rfl,t7,_,_,rfl,t8,_,_,rfl,t9,_,_,rfl,t10,_,_,rfl,t11,_,_,rfl,t12,rfl⟩:=h.oR afj;obtain⟨a0,rfl,l0,w0⟩:=t0.nO lL (λh=>h.bM cW);obtain⟨a1,rfl,l1,w1⟩:=t1.nO lL (λh=>h.bM cW);obtain⟨a2,rfl,l2,w2⟩:=t2.nO lL (λh=>h.bM cW);obtain⟨a3,rfl,l3,w3⟩:=t3.nO lL (λh=>h.bM cW);obtain⟨a4,rfl,l4,w4⟩:=t4.nO lL (λh=>h.bM cW);obtain⟨a5,rfl,l5,w5⟩:=t5.nO lL (λh=>h.bM cW);obtain⟨a6,rfl,l6,w6⟩:=t6.nO lL (λh=>h.bM cW);obtain⟨a7,rfl,w7⟩:=t7.bM afk;obtain⟨a8,rfl,w8⟩:=t8.bM cW;obtain⟨a9,rfl,w9⟩:=t9.bM cW;obtain⟨a10,rfl,w10⟩:=t10.bM cW;obtain⟨a11,rfl,w11⟩:=t11.bM cW;obtain⟨a12,rfl,w12⟩:=t12.bM cW;exact⟨⟨a0,a1,a2,a3,a4,a5,a6,a7,a8,a9,a10,a11,a12⟩,rfl,l0,w0,l1,w1,l2,w2,l3,w3,l4,w4,l5,w5,l6,w6,w7,w8,w9,w10,w11,w12⟩
structure dy where
 qi:Int
 Second:Int
 Number:Int
 deriving DecidableEq
def dy.enc(x:dy):List D:=[D.v (.int .i64 x.qi),D.v (.int .i64 x.Second),D.v (.int .i64 x.Number)]
@[simp] theorem dy.anB(x:dy):x.enc.length=3/\(∀h:0<x.enc.length,x.enc[0]=D.v (.int .i64 x.qi))/\(∀h:1<x.enc.length,x.enc[1]=D.v (.int .i64 x.Second))/\(∀h:2<x.enc.length,x.enc[2]=D.v (.int .i64 x.Number)):=by and_intros<;>(intros;rfl)
@[simp] theorem dy.eqV(x y:dy):Jx (x.enc.map V.d) (y.enc.map V.d)=some (decide (x=y)):=by
 rcases x with⟨a_0,a_1,a_2⟩
 rcases y with⟨b_0,b_1,b_2⟩
 simp only[dy.enc,List.map,Jx,vM,lD,Nn,if_true,anc,bytes_beq];rw[aqk];simp[and_assoc]
@[simp] theorem dy.anC(x:dy):wv [.i .i64,.i .i64,.i .i64] (x.enc.map V.d)=true:=by
 simp[dy.enc,wv,vM,fits,Np]
def dy.zero:dy:=⟨0,0,0⟩
@[simp] theorem dy.GU(x:dy):List.take 3 (x.enc.map V.d)=x.enc.map V.d:= .trans rfl rfl
def dy.wf(x:dy):Prop:=aN .i64 x.qi/\aN .i64 x.Second/\aN .i64 x.Number
theorem afl:dT prog 36= .st [3,3,3]:=by kernel_rfl
theorem dy.of{ys:List D}(h:cX prog 36 ys):∃x:dy,ys=x.enc/\x.wf:=by
 obtain⟨_,_,rfl,t0,_,_,rfl,t1,_,_,rfl,t2,rfl⟩:=h.oR afl;obtain⟨a0,rfl,w0⟩:=t0.bM cW;obtain⟨a1,rfl,w1⟩:=t1.bM cW;obtain⟨a2,rfl,w2⟩:=t2.bM cW;exact⟨⟨a0,a1,a2⟩,rfl,w0,w1,w2⟩
structure qL where
 kv:Int
 Fuel:Int
 Steps:Int
 aF:(List Int)
 Env:dy
 deriving DecidableEq
def qL.enc(x:qL):List D:=[D.v (.int .i64 x.kv),D.v (.int .i64 x.Fuel),D.v (.int .i64 x.Steps),D.sl (aC x.aF),D.v (.int .i64 x.Env.qi),D.v (.int .i64 x.Env.Second),D.v (.int .i64 x.Env.Number)]
@[simp] theorem qL.anD(x:qL):x.enc.length=7/\(∀h:0<x.enc.length,x.enc[0]=D.v (.int .i64 x.kv))/\(∀h:1<x.enc.length,x.enc[1]=D.v (.int .i64 x.Fuel))/\(∀h:2<x.enc.length,x.enc[2]=D.v (.int .i64 x.Steps))/\(∀h:3<x.enc.length,x.enc[3]=D.sl (aC x.aF))/\List.drop 4 (x.enc.map V.d)=x.Env.enc.map V.d:=by and_intros<;>(intros;rfl)
def qL.wf(x:qL):Prop:=aN .i64 x.kv/\aN .i64 x.Fuel/\aN .i64 x.Steps/\x.aF.length *8<=140737488351232/\(∀y0:Int,y0∈x.aF->aN .i64 y0)/\x.Env.wf
theorem afm:dT prog 38= .st [3,3,3,23,36]:=by kernel_rfl
theorem qL.of{ys:List D}(h:cX prog 38 ys):∃x:qL,ys=x.enc/\x.wf:=by
 obtain⟨_,_,rfl,t0,_,_,rfl,t1,_,_,rfl,t2,_,_,rfl,t3,_,_,rfl,t4,rfl⟩:=h.oR afm;obtain⟨a0,rfl,w0⟩:=t0.bM cW;obtain⟨a1,rfl,w1⟩:=t1.bM cW;obtain⟨a2,rfl,w2⟩:=t2.bM cW;obtain⟨a3,rfl,l3,w3⟩:=t3.nO lL (λh=>h.bM cW);obtain⟨a4,rfl,w4⟩:=dy.of t4;exact⟨⟨a0,a1,a2,a3,a4⟩,rfl,w0,w1,w2,l3,w3,w4⟩
structure al where
 Tables:ar
 Entry:(List Int)
 Code:(List Int)
 deriving DecidableEq
def al.enc(x:al):List D:=[D.v (.int .i64 x.Tables.la),D.v (.int .i64 x.Tables.By),D.v (.int .i64 x.Tables.qQ),D.v (.int .i64 x.Tables.Max),D.sl (iO x.Tables.gy),D.v (.int .i64 x.Tables.Flags),D.sl (aC x.Tables.aJ),D.sl (aC x.Tables.aQ),D.sl (x.Tables.az.map bg.enc),D.sl (x.Tables.tE.map lM.enc),D.sl (x.Tables.nA.map mB.enc),D.sl (aC x.Tables.cY),D.sl (aC x.Tables.eK),D.sl (aC x.Tables.Params),D.sl (aC x.Tables.aM),D.sl (aC x.Entry),D.sl (x.Code.map λy=> [D.v (.int .u8 y)])]
@[simp] theorem al.anE(x:al):x.enc.length=17/\(∀h:8<x.enc.length,x.enc[8]=D.sl (x.Tables.az.map bg.enc))/\(∀h:11<x.enc.length,x.enc[11]=D.sl (aC x.Tables.cY))/\(∀h:13<x.enc.length,x.enc[13]=D.sl (aC x.Tables.Params))/\(∀h:14<x.enc.length,x.enc[14]=D.sl (aC x.Tables.aM))/\(∀h:15<x.enc.length,x.enc[15]=D.sl (aC x.Entry))/\(∀h:16<x.enc.length,x.enc[16]=D.sl (x.Code.map λy=> [D.v (.int .u8 y)])):=by and_intros<;>(intros;rfl)
@[simp] theorem al.fzV(L:aI)(x:al):V.nM L (x.enc.map V.d)=x.enc.map V.d:=by simp[al.enc,V.nM,V.fz]
def al.zero:al:=⟨ar.zero,[],[]⟩
@[simp] theorem al.anF(x:al):List.take 17 (x.enc.map V.d)=x.enc.map V.d/\List.take 15 (x.enc.map V.d)=x.Tables.enc.map V.d:=by and_intros<;>(intros;rfl)
structure u4 where
 Ik:Int
 World:aj
 Out:ByteArray
 Value:Int
 pb:Bool
 Fuel:Int
 deriving DecidableEq
def u4.enc(x:u4):List D:=[D.v (.int .i64 x.Ik),D.sl (aC x.World.aQ),D.sl (aC x.World.ae),D.sl (aC x.World.Child),D.sl (aC x.World.Next),D.sl (aC x.World.Flags),D.sl (aC x.World.aJ),D.sl (aC x.World.bc),D.v (.int .u64 x.World.cO),D.v (.int .i64 x.World.Score),D.v (.int .i64 x.World.jO),D.v (.int .i64 x.World.iB),D.v (.int .i64 x.World.It),D.v (.int .i64 x.World.Go),D.v (.string x.Out),D.v (.int .i64 x.Value),D.v (.bool x.pb),D.v (.int .i64 x.Fuel)]
def u4.zero:u4:=⟨0,aj.zero,⟨#[]⟩,0,false,0⟩
structure aG where
 kv:Int
 At:Int
 bO:Int
 aM:(List Int)
 deriving DecidableEq
def aG.enc(x:aG):List D:=[D.v (.int .i64 x.kv),D.v (.int .i64 x.At),D.v (.int .i64 x.bO),D.sl (aC x.aM)]
@[simp] theorem aG.Bj(x:aG):x.enc.length=4:= .trans rfl rfl
@[simp] theorem aG.anG(x:aG):(∀h:1<x.enc.length,x.enc[1]=D.v (.int .i64 x.At))/\(∀h:2<x.enc.length,x.enc[2]=D.v (.int .i64 x.bO))/\(∀h:3<x.enc.length,x.enc[3]=D.sl (aC x.aM)):=by and_intros<;>(intros;rfl)
def aG.zero:aG:=⟨0,0,0,[]⟩
theorem aG.cellAt(l:List aG)(i j:Nat)(z:D)(h:aG.zero.enc[j]?=some z):cellAt (dd (l.map aG.enc)) i j [V.d z]=V.d (((l[i]?.getD aG.zero).enc[j]?).getD default):=by
 unfold Go.Ab.cellAt;rw[N7,aoN];cases hl:l[i]? with
 | none=>simp[h]
 | some a=>
   have hj:=(aoL.1 h).1;have tA:j<a.enc.length:=by rw[aG.Bj]at hj⊢;exact hj
   simp only[apc,aoN,akC tA,apA]
@[simp] theorem aG.ai5(l:List aG)(i:Nat):Go.Ab.cellAt (dd (l.map aG.enc)) i 1 [V.d (D.v (.int .i64 0))]=V.d (D.v (.int .i64 (l[i]?.getD aG.zero).At)):=(aG.cellAt l i 1 (D.v (.int .i64 0)) rfl).trans (by simp)
@[simp] theorem aG.ai6(l:List aG)(i:Nat):Go.Ab.cellAt (dd (l.map aG.enc)) i 2 [V.d (D.v (.int .i64 0))]=V.d (D.v (.int .i64 (l[i]?.getD aG.zero).bO)):=(aG.cellAt l i 2 (D.v (.int .i64 0)) rfl).trans (by simp)
@[simp] theorem aG.ai7(l:List aG)(i:Nat):Go.Ab.cellAt (dd (l.map aG.enc)) i 3 [V.d (D.sl [])]=V.d (D.sl (aC (l[i]?.getD aG.zero).aM)):=(aG.cellAt l i 3 (D.sl []) rfl).trans (by simp)
@[simp] theorem aG.anH(x:aG):List.drop 4 (x.enc.map V.d)=[]/\x.enc.take 4=x.enc/\List.take 4 (x.enc.map V.d)=x.enc.map V.d:=by and_intros<;>(intros;rfl)
structure ah where
 Frames:(List aG)
 Stack:(List Int)
 Env:dy
 Told:u4
 gB:Bool
 deriving DecidableEq
def ah.enc(x:ah):List D:=[D.sl (x.Frames.map aG.enc),D.sl (aC x.Stack),D.v (.int .i64 x.Env.qi),D.v (.int .i64 x.Env.Second),D.v (.int .i64 x.Env.Number),D.v (.int .i64 x.Told.Ik),D.sl (aC x.Told.World.aQ),D.sl (aC x.Told.World.ae),D.sl (aC x.Told.World.Child),D.sl (aC x.Told.World.Next),D.sl (aC x.Told.World.Flags),D.sl (aC x.Told.World.aJ),D.sl (aC x.Told.World.bc),D.v (.int .u64 x.Told.World.cO),D.v (.int .i64 x.Told.World.Score),D.v (.int .i64 x.Told.World.jO),D.v (.int .i64 x.Told.World.iB),D.v (.int .i64 x.Told.World.It),D.v (.int .i64 x.Told.World.Go),D.v (.string x.Told.Out),D.v (.int .i64 x.Told.Value),D.v (.bool x.Told.pb),D.v (.int .i64 x.Told.Fuel),D.v (.bool x.gB)]
@[simp] theorem ah.anI(x:ah):x.enc.length=24/\(∀h:0<x.enc.length,x.enc[0]=D.sl (x.Frames.map aG.enc))/\(∀h:1<x.enc.length,x.enc[1]=D.sl (aC x.Stack))/\(∀h:5<x.enc.length,x.enc[5]=D.v (.int .i64 x.Told.Ik))/\(∀h:20<x.enc.length,x.enc[20]=D.v (.int .i64 x.Told.Value))/\(∀h:22<x.enc.length,x.enc[22]=D.v (.int .i64 x.Told.Fuel))/\(∀h:23<x.enc.length,x.enc[23]=D.v (.bool x.gB)):=by and_intros<;>(intros;rfl)
@[simp] theorem ah.fzV(L:aI)(x:ah):V.nM L (x.enc.map V.d)=x.enc.map V.d:=by simp[ah.enc,V.nM,V.fz]
def ah.zero:ah:=⟨[],[],dy.zero,u4.zero,false⟩
@[simp] theorem ah.anJ(x:ah):List.drop 24 (x.enc.map V.d)=[]/\List.take 24 (x.enc.map V.d)=x.enc.map V.d/\List.take 3 (List.drop 2 (x.enc.map V.d))=x.Env.enc.map V.d/\List.take 18 (List.drop 5 (x.enc.map V.d))=x.Told.enc.map V.d:=by and_intros<;>(intros;rfl)
structure ai where
 Op:Int
 Arg:Int
 deriving DecidableEq
def ai.enc(x:ai):List D:=[D.v (.int .i64 x.Op),D.v (.int .i64 x.Arg)]
@[simp] theorem ai.anK(x:ai):x.enc.length=2/\(∀h:0<x.enc.length,x.enc[0]=D.v (.int .i64 x.Op))/\(∀h:1<x.enc.length,x.enc[1]=D.v (.int .i64 x.Arg)):=by and_intros<;>(intros;rfl)
@[simp] theorem ai.fzV(L:aI)(x:ai):V.nM L (x.enc.map V.d)=x.enc.map V.d:=by simp[ai.enc,V.nM,V.fz]
def ai.zero:ai:=⟨0,0⟩
@[simp] theorem ai.UW(o:Option ai):(o.map ai.enc).getD [D.v (.int .i64 0),D.v (.int .i64 0)]=(o.getD ai.zero).enc:=by cases o<;>rfl
@[simp] theorem ai.anL(x:ai):x.enc.take 2=x.enc/\List.take 2 (x.enc.map V.d)=x.enc.map V.d:=by and_intros<;>(intros;rfl)
section
variable {P : Program} {n : Nat} {s : St} {Q : AX -> St -> Prop} {L : aI}
structure Pure(P:Program) (f:FuncId) (args:List V) (x:V):Prop where
 en:enters P f=true
 on:V.dE [] args=true
 rn:x.on []=true
 calls:aE P f args [] (λr _=>r= .ret x)
theorem Pure.run{f}{args}{x}{fn}{c}(hf:P.funcs[f]?=some fn)(hb:fn.body=some c)(hs:args.length≤fn.ntmps∧enters P f=true∧V.dE [] args=true∧x.on []=true)
  (h:cV P fn.ntmps c ⟨eH 0 args,[]⟩ (cp P fn.ntmps (ff P fn.results.toList (λr L'=>∃y,r= .ret y/\y.fz L'=x)) [])):Pure P f args x:=
 ⟨hs.2.1,hs.2.2.1,hs.2.2.2,(aE.data (aE.run hf hb hs.1 h) hs.2.2.2).mono λ_ _ h=>h.1⟩
theorem rn{f:FuncId}{args:List V}{x:V}{fn:Func}{c:Code}(hf:P.funcs[f]?=some fn)(h:cV P fn.ntmps c ⟨eH 0 args,[]⟩ (cp P fn.ntmps (ff P fn.results.toList (fun r L'=>∃y,r= .ret y∧y.fz L'=x)) []))
  (hb:fn.body=some c:=by exact rfl) (hn:Nat.ble args.length fn.ntmps=true:=by exact rfl) (he:enters P f=true:=by kernel_rfl) (ho:V.dE [] args=true/\x.on []=true:=by simp):Pure P f args x:=Pure.run hf hb ⟨Nat.le_of_ble_eq_true hn,he,ho.1,ho.2⟩ h
theorem Pure.eq{f args lR x x'}(h:Pure P f args x)(ha:args=lR)(hx:x=x'):Pure P f lR x':=by subst ha;subst hx;exact h
theorem Pure.ok{f args x}(h:Pure P f args x) L:kJ P f args L x:=kJ.pure h.en h.on h.rn h.calls
structure Kept(P:Program) (f:FuncId) (args:List V) (L1:aI) (x:V):Prop where
 en:enters P f=true
 on:V.dE (keys L1) args=true
 onL:L1.all (λp=>aV.on (keys L1) p.2&&fh p.2)=true
 rn:x.nN=true
 calls:aE P f args L1 (λr L'=>r= .ret x/\L'=L1)
theorem au.bB{ops}{o:Oper}{rest}{c}{f}{args}{x}(aD:o.op= .call c)(h:Pure P f args x)(hc:callee s.ev c=some (f,args))(hg:o.guard=none)
  (hd:∀d,o.dst=some d->d<n) (hr:dG n rest=true) (k:∀bs,eR P ops rest (s.put o.dst x) bs [] (KK P n ops Q)):au P n ops (o::rest) s Q:=
 au.H7 hg hd (qd.call aD hc h.en h.on h.rn h.calls) (bn rest _ [] hr k)
theorem au.Il{ops}{o:Oper}{rest}{c}{f}{args lR}{x}(aD:o.op= .call c)(h:Pure P f lR x)(hc:callee s.ev c=some (f,args))(ha:V.nM s.L args=lR)(hx:x.nN=true)(hg:o.guard=none)
  (hd:∀d,o.dst=some d->d<n) (hr:dG n rest=true) (k:∀bs,eR P ops rest (s.put o.dst x) bs [] (KK P n ops Q)):au P n ops (o::rest) s Q:=by
 subst ha;exact au.H7 hg hd (qd.aiJ aD hc h.en h.on hx h.calls) (bn rest _ [] hr k)
theorem pC{ops:Array Oper}{o:Oper}{rest:List Oper}{c:Call}{f:FuncId}{args:List V}{x:V}(h:Pure P f args x)(k:∀bs,eR P ops rest (s.put o.dst x) bs [] (KK P n ops Q))(aD:o.op= .call c:=by exact rfl)(hc:callee s.ev c=some (f,args):=by exact rfl)(hg:o.guard=none:=by exact rfl)
  (hd:∀d,o.dst=some d->d<n:=by simp) (hr:dG n rest=true:=by exact rfl):au P n ops (o::rest) s Q:=au.bB aD h hc hg hd hr k
theorem lC{ops:Array Oper}{o:Oper}{rest:List Oper}{c:Call}{f:FuncId}{args lR:List V}{x:V}(h:Pure P f lR x)(k:∀bs,eR P ops rest (s.put o.dst x) bs [] (KK P n ops Q))(aD:o.op= .call c:=by exact rfl)(hc:callee s.ev c=some (f,args):=by exact rfl)(ha:V.nM s.L args=lR:=by simp)(hx:x.nN=true:=by exact rfl)(hg:o.guard=none:=by exact rfl)
  (hd:∀d,o.dst=some d->d<n:=by simp) (hr:dG n rest=true:=by exact rfl):au P n ops (o::rest) s Q:=au.Il aD h hc ha hx hg hd hr k
theorem au.ai8{ops}{o:Oper}{rest}{c}{f}{args}{L1}{R}(hs:List Nat)(aD:o.op= .call c)(h:aE P f args L1 R)(hc:callee s.ev c=some (f,args))(hg:o.guard=none)
  (hd:∀d,o.dst=some d->d<n) (hr:dG n rest=true) (he:enters P f=true) (hL:s.L.filter (λp=>hs.contains p.1)=L1)
  (ho:V.dE (keys L1) args=true) (ij:L1.all (λp=>aV.on (keys L1) p.2)=true)
  (iy:s.fr.all (λp=>V.on (keys (s.L.filter λp=>!hs.contains p.1)++(L1.filterMap λp=>match p.2 with|.box (_+1) _ _=>some p.1|_=>none)) p.2)=true)
  (iS:(s.L.filter λp=>!hs.contains p.1).all (λp=>aV.on (keys (s.L.filter λp=>!hs.contains p.1)++(L1.filterMap λp=>match p.2 with|.box (_+1) _ _=>some p.1|_=>none)) p.2)=true)
  (qP:∀r bq,R r bq->(∃x,r= .ret x)/\(∀k∈keys bq,k∉keys (s.L.filter λp=>!hs.contains p.1))/\∀k b ty cs,(k,aV.box (b+1) ty cs)∈L1->∃lY jA,(k,aV.box (b+1) lY jA)∈bq)
  (k:∀x bq,R (.ret x) bq->∀bs,eR P ops rest (St.put {s with L:=bq++s.L.filter λp=>!hs.contains p.1} o.dst x) bs [] (KK P n ops Q)):au P n ops (o::rest) s Q:=
 au.agU hg hd aD hc he ho (by subst hL;exact(apE _ s.L).symm) ij (λp hp=>aoP.1 iy p hp) (λp hp=>aoP.1 iS p hp) h qP
  (λx bq hR=>bn rest _ [] hr (k x bq hR))
def mD:aV->Option Nat
 | .box b _ _=>some b
 | _=>none
attribute [simp] mD
theorem SF(L1:aI):(L1.filterMap λp=>match p.2 with|.box (_+1) _ _=>some p.1|_=>none)=keys (L1.filter λp=>fh p.2):=by
 induction L1 with
 | nil=>rfl
 | cons p l ih=>
   obtain⟨a,r⟩:=p;cases r with
   | box b ty cs=>
     cases b with
     | succ b=>simp only[aqf,apH,fh,if_true,keys,ao9,ih]
     | zero=>
       simp only[aqf,apH,fh,ih];simp
   | row ty k xs=>
     simp only[aqf,apH,fh,ih];simp
   | env A=>
     simp only[aqf,apH,fh,ih];simp
   | mp es=>
     simp only[aqf,apH,fh,ih];simp
theorem SG{L1 bq:aI}(ho:L1.all (λp=>!fh p.2||bq.any (λq=>q.1==p.1&&(fh q.2&&mD q.2==mD p.2)))=true){k b:Nat}{ty:TypeId}{cs:List V}(hm:(k,aV.box (b+1) ty cs)∈L1):∃lY jA,(k,aV.box (b+1) lY jA)∈bq:=by
 have:=aoP.1 ho _ hm;simp only[fh,Bool.not_true,Bool.false_or,aqg,aoM,beq_iff_eq]at this;obtain⟨⟨a,r⟩,h1,h2,h3,h4⟩:=this;simp only at h2;subst h2;cases r with
 | box b' lY jA=>
   simp only[mD,anc]at h4;subst h4;exact⟨lY,jA,h1⟩
 | row _ _ _=>simp at h3
 | env _=>simp at h3
 | mp _=>simp at h3
theorem au.eo{ops:Array Oper}{o:Oper}{rest:List Oper}{c:Call}{f:FuncId}{args:List V}{L1 bq:aI}{x:V}(hs:List Nat)(aD:o.op= .call c)(h:aE P f args L1 (fun r L=>r= .ret x∧L=bq))(hc:callee s.ev c=some (f,args))(hg:o.guard=none)
  (hd:∀d,o.dst=some d->d<n) (hr:dG n rest=true) (he:enters P f=true) (hL:s.L.filter (λp=>hs.contains p.1)=L1)
  (ho:V.dE (keys L1) args=true/\L1.all (λp=>aV.on (keys L1) p.2)=true/\L1.all (λp=>!fh p.2||bq.any (λq=>q.1==p.1&&(fh q.2&&mD q.2==mD p.2)))=true)
  (iy:s.fr.all (λp=>V.on (keys (s.L.filter λp=>!hs.contains p.1)++keys (L1.filter λp=>fh p.2)) p.2)=true)
  (iS:(s.L.filter λp=>!hs.contains p.1).all (λp=>aV.on (keys (s.L.filter λp=>!hs.contains p.1)++keys (L1.filter λp=>fh p.2)) p.2)=true)
  (hk:(keys bq).all (λk=>!(keys (s.L.filter λp=>!hs.contains p.1)).contains k)=true)
  (k:∀bs,eR P ops rest (St.put {s with L:=bq++s.L.filter λp=>!hs.contains p.1} o.dst x) bs [] (KK P n ops Q)):au P n ops (o::rest) s Q:=by
 have gT:=SF L1;refine au.ai8 hs aD h hc hg hd hr he hL ho.1 ho.2.1 (by rw[gT];exact iy) (by rw[gT];exact iS) ?_ ?_
 ·rintro r uH ⟨rfl,rfl⟩;refine⟨⟨_,rfl⟩,λk re=>?_,λk b ty cs hm=>?_⟩
  ·have:=aoP.1 hk k re;simpa using this
  ·exact SG ho.2.2 hm
 ·rintro x' uH ⟨e,rfl⟩;obtain rfl:=AE.ret.inj e;exact k
theorem eD{ops:Array Oper}{o:Oper}{rest:List Oper}{c:Call}{f:FuncId}{args:List V}{L1 bq:aI}{x:V}(hs:List Nat)(h:aE P f args L1 (fun r L=>r= .ret x∧L=bq))
  (k:∀bs,eR P ops rest (St.put {s with L:=bq++s.L.filter λp=>!hs.contains p.1} o.dst x) bs [] (KK P n ops Q)) (aD:o.op= .call c:=by exact rfl) (hc:callee s.ev c=some (f,args):=by simp) (hg:o.guard=none:=by exact rfl)
  (hd:∀d,o.dst=some d->d<n:=by simp) (hr:dG n rest=true:=by exact rfl) (he:enters P f=true:=by kernel_rfl) (hL:s.L.filter (λp=>hs.contains p.1)=L1:=by first|rfl|simp)
  (ho:V.dE (keys L1) args=true/\L1.all (λp=>aV.on (keys L1) p.2)=true/\L1.all (λp=>!fh p.2||bq.any (λq=>q.1==p.1&&(fh q.2&&mD q.2==mD p.2)))=true:=by simp)
  (iy:s.fr.all (λp=>V.on (keys (s.L.filter λp=>!hs.contains p.1)++keys (L1.filter λp=>fh p.2)) p.2)=true:=by simp)
  (iS:(s.L.filter λp=>!hs.contains p.1).all (λp=>aV.on (keys (s.L.filter λp=>!hs.contains p.1)++keys (L1.filter λp=>fh p.2)) p.2)=true:=by simp)
  (hk:(keys bq).all (λk=>!(keys (s.L.filter λp=>!hs.contains p.1)).contains k)=true:=by simp):au P n ops (o::rest) s Q:=au.eo hs aD h hc hg hd hr he hL ho iy iS hk k
def upF(fr:List (Nat×V))(ov:List (Nat×V)):List (Nat×V):=fr.map λp=>(p.1,(ov.lookup p.1).getD p.2)
def Im(L:aI)(ov:List (Nat×aV)):aI:=L.map λp=>(p.1,(ov.lookup p.1).getD p.2)
def St.up(s:St)(F:List (Nat×V))(R:List (Nat×aV)):St:=⟨upF s.fr F,Im s.L R⟩
def acW(ts hs:List Nat)(S:Nat->St)(N:Nat)(H:Nat->Prop)(i:Nat)(s:St):Prop:=(s.pick ts hs).on (keys (s.pick ts hs).L)=true/\i<N/\s.pick ts hs=S (i+1)/\H (i+1)
theorem av.cI{c}{ks} ts N(F:Nat→List (Nat×V))(R:Nat→List (Nat×aV)) H(ht:ts.all (fun t=>decide (t < n))=true)
  (h0:(keys s.L).Nodup/\(s.pick ts (keys s.L)).on (keys (s.pick ts (keys s.L)).L)=true/\s.pick ts (keys s.L)=(s.pick ts (keys s.L)).up (F 0) (R 0)/\H 0)
  (round:∀i,i<=N->H i->cV P n c ((s.pick ts (keys s.L)).up (F i) (R i)) (cp P n Q (.inv (acW ts (keys s.L) (λi=>(s.pick ts (keys s.L)).up (F i) (R i)) N H i)::ks))):
  av P n (.loop c) s (cp P n Q ks):=by
 obtain⟨h1,h2,h3,h4⟩:=h0;refine av.weaken (Wk.pick ts (keys s.L) ht h1 h2) (av.loop (λk st=>∃i,k=N-i/\i<=N/\H i/\st=(s.pick ts (keys s.L)).up (F i) (R i)) ⟨N,0,rfl,ap0 _,h4,h3⟩ ?_);rintro k st ⟨i,rfl,hi,hH,rfl⟩;refine av.mono (eg _ _ _ (round i hi hH)) (λx s' h=>?_);cases x with
 | normal=>
   obtain⟨a1,a2,a3,a4⟩:=h;exact⟨N-(i+1),by omega,_,Wk.pick ts (keys s.L) ht h1 a1,i+1,rfl,by omega,a4,a3⟩
 | _=>exact h
def aV.tt:aV->aV
 | .box _ ty cs=> .box 0 ty cs
 | r=>r
def St.tt(rs:List Nat)(s:St):St:=⟨s.fr,s.L.map λp=>(p.1,if rs.contains p.1 then p.2.tt else p.2)⟩
theorem Wk.tt rs:Wk n s (s.tt rs):=by
 intro fo m a w g;have hi:=g.inv;have hk:keys (St.tt rs s).L=keys s.L:=by simp[St.tt]
 refine⟨m,⟨g.size,g.fr,⟨by rw[hk];exact hi.nodup,λh x hx=>by rw[hk];exact hi.fI h x hx,hi.apart,hi.others,hi.ej,?_,hi.ef⟩,g.defers⟩,Step.refl w _⟩;intro h r hr;obtain⟨p,hp,he⟩:=aoQ.1 hr;cases he;obtain⟨x,hx,hh⟩:=hi.holds p.1 p.2 hp;refine⟨x,hx,?_⟩;split
 ·generalize p.2=q at hh;cases q with
  | row ty k xs=>exact hh
  | env A=>exact hh
  | mp es=>exact hh
  | box b ty cs=>
    obtain⟨bb,_,h1⟩:=hh;exact⟨bb,.inl rfl,h1⟩
 omega
def ag2(rs ts hs:List Nat)(S:Nat->St)(N:Nat)(H:Nat->Prop)(i:Nat)(s:St):Prop:=(s.pick ts hs).on (keys (s.pick ts hs).L)=true/\i<N/\(s.pick ts hs).tt rs=S (i+1)/\H (i+1)
attribute [simp] aV.tt St.tt ag2
def acX(n:Nat)(S:Nat->St)(N:Nat)(H:Nat->Prop)(i:Nat)(s:St):Prop:=i<N/\H (i+1)/\Wk n s (S (i+1))
theorem av.ag3{c}{ks} N S H(h0:H 0∧Wk n s (S 0))
  (round:∀i,i<=N->H i->cV P n c (S i) (cp P n Q (.inv (acX n S N H i)::ks))):av P n (.loop c) s (cp P n Q ks):=by
 refine av.weaken h0.2 (av.loop (λk st=>∃i,k=N-i/\i<=N/\H i/\st=S i) ⟨N,0,rfl,ap0 _,h0.1,rfl⟩ ?_);rintro k st ⟨i,rfl,hi,hH,rfl⟩;refine av.mono (eg _ _ _ (round i hi hH)) (λx s' h=>?_);cases x with
 | normal=>
   obtain⟨a1,a2,a3⟩:=h;exact⟨N-(i+1),by omega,_,a3,i+1,rfl,by omega,a2,rfl⟩
 | _=>exact h
attribute [simp] upF Im St.up acW acX
@[simp] theorem ag4(ys:List (List D))(i:Nat)(h:i<(dd ys).length):(dd ys)[i]'h=(ys[i]'(by simp_all)).map V.d:=by simp[dd]
@[simp] theorem afn(l:List ByteArray)(i:Nat)(h:i<(iO l).length):(iO l)[i]'h=[.v (.string (l[i]'(by simp_all)))]:=by simp[iO]
@[simp] theorem aeP{α:Type}(g:List α->List (List D))(l:List (List α))(i:Nat)(h:i<(pI g l).length):(pI g l)[i]'h=[.sl (g (l[i]'(by simp_all)))]:=by simp[pI]
@[simp] theorem afo(l:List Int)(i:Nat)(h:i<(aC l).length):(aC l)[i]'h=[.v (.int .i64 (l[i]'(by simp_all)))]:=by simp[aC]
end
section
variable {P : Program} {n : Nat} {s : St} {Q : AX -> St -> Prop} {L : aI}
def acY{α:Type}(ts hs:List Nat)(S:List α->St)(H:List α->Prop)(pre:List α)(x:α)(s:St):Prop:=(s.pick ts hs).on (keys (s.pick ts hs).L)=true/\s.pick ts hs=S (pre++ [x])/\H (pre++ [x])
theorem av.fj{α:Type}{c:Code}{ks:List KI}(ts:List Nat)(l:List α)(F:List α→List (Nat×V))(R:List α→List (Nat×aV))(H:List α→Prop)(ht:ts.all (fun t=>decide (t < n))=true)(hl:l.length≤1000000000000000)
  (h0:(keys s.L).Nodup/\(s.pick ts (keys s.L)).on (keys (s.pick ts (keys s.L)).L)=true/\s.pick ts (keys s.L)=(s.pick ts (keys s.L)).up (F []) (R [])/\H [])
  (round:∀pre x post,l=pre++x::post->H pre->(aw:pre.length<l.length)->l[pre.length]=x->aN .i64 ((pre.length:Int)+1)->
   cV P n c ((s.pick ts (keys s.L)).up (F pre) (R pre)) (cp P n Q (.inv (acY ts (keys s.L) (λl=>(s.pick ts (keys s.L)).up (F l) (R l)) H pre x)::ks)))
  (last:H l->cV P n c ((s.pick ts (keys s.L)).up (F l) (R l)) (cp P n Q (.inv (λ_=>False)::ks))):
  av P n (.loop c) s (cp P n Q ks):=by
 obtain⟨h1,h2,h3,h4⟩:=h0;refine av.weaken (Wk.pick ts (keys s.L) ht h1 h2) (av.loop (λk st=>∃pre post,l=pre++post/\k=post.length/\H pre/\st=(s.pick ts (keys s.L)).up (F pre) (R pre)) ⟨l.length,[],l,rfl,rfl,h4,h3⟩ ?_);rintro k st ⟨pre,post,bx,rfl,hH,rfl⟩
 match post,bx with
 | x::post,bx=>
   refine av.mono (eg _ _ _ (round pre x post bx hH (by rw[bx];simp) (by simp[bx]) (by rw[aS];rw[bx]at hl;simp at hl;omega))) (λy s' h=>?_);cases y with
   | normal=>
     obtain⟨a1,a2,a3⟩:=h;exact⟨post.length,by simp,_,Wk.pick ts (keys s.L) ht h1 a1,pre++ [x],post,by simp[bx],rfl,a3,a2⟩
   | _=>exact h
 | [],bx=>
   rw[apk]at bx;subst bx;refine av.mono (eg _ _ _ (last hH)) (λy s' h=>?_);cases y with
   | normal=>exact h.elim
   | _=>exact h
end
attribute [simp] acY
section
variable {P : Program} {n : Nat} {s : St} {Q : AX -> St -> Prop} {ops : Array Oper}
theorem Oper.FW{F d}{o:Oper}{a next next' Q1 Q2}(hn:∀a w,next a w->next' a w)(he:∀e a w,e≠ .normal->Q1 e a w->Q2 e a w){r}(h:o.uponIn F d P a next Q1 r):o.uponIn F d P a next' Q2 r:=by
 cases r with
 | ok x w'=>
   cases x<;>simp[Oper.uponIn]at h⊢<;>
    first
     | exact hn _ _ h
     | exact⟨h.1,CallsIn.mono h.2 (λe Ad hh=>by cases e<;>first|exact hn _ _ hh|exact he _ _ _ (by simp) hh|(obtain⟨a0,w0,hq⟩:=hh;exact⟨a0,w0,he _ _ _ (by simp) hq⟩))⟩
     | exact⟨h.1,RowsIn.mono h.2 (λ_ _ hh=>hn _ _ hh)⟩
     | exact⟨h.1,RoundIn.mono h.2 (λe Ad hh=>by cases e<;>first|exact hn _ _ hh|exact he _ _ _ (by simp) hh|(obtain⟨a0,w0,hq⟩:=hh;exact⟨a0,w0,he _ _ _ (by simp) hq⟩))⟩
 | halt x w'=>cases x<;>simp[Oper.uponIn]at h⊢<;>exact he _ _ _ (by simp) h
theorem Bk{F}{d}{Q1 Q2}{l2}(hn:∀a w,Q1 .normal a w→wpListIn F d P ops Q2 l2 a w)(he:∀e a w,e≠ .normal→Q1 e a w→Q2 e a w):
  ∀l1 a w,wpListIn F d P ops Q1 l1 a w->wpListIn F d P ops Q2 (l1++l2) a w
 | [],a,w,h=>hn a w h
 | o::l1,a,w,h=>by
   rw[aoX];unfold wpListIn at h⊢;split
   ·rename_i hw;rw[if_pos hw]at h;exact⟨h.1,Oper.FW (λa w=>Bk hn he l1 a w) he h.2⟩
   ·rename_i hw;rw[if_neg hw]at h;exact⟨h.1,Bk hn he l1 _ _ h.2⟩
theorem vR{F d Q1 Q2}(he:∀e a w,Q1 e a w->Q2 e a w):∀l a w,wpListIn F d P ops Q1 l a w->wpListIn F d P ops Q2 l a w
 | [],a,w,h=>he _ a w h
 | o::l,a,w,h=>by
   unfold wpListIn at h⊢;split
   ·rename_i hw;rw[if_pos hw]at h;exact⟨h.1,Oper.FW (λa w=>vR he l a w) (λe a w _=>he e a w) h.2⟩
   ·rename_i hw;rw[if_neg hw]at h;exact⟨h.1,vR he l _ _ h.2⟩
theorem au.app{l1 l2}(h:au P n ops l1 s (AX.then (λs'=>au P n ops l2 s' Q) Q)):au P n ops (l1++l2) s Q:=by
 intro fo m0 w0 m a w st g;refine Bk (λa1 w1 h1=>?_) (λe a1 w1 bR h1=>?_) l1 a w (h fo m0 w0 m a w st g)
 ·obtain⟨ms,m',x,s',hm,hq,g',hx,fK⟩:=h1;cases x<;>simp[bF]at hx
  refine vR (λ_ _ _=>fZ.marked hm g' fK) _ _ _ (hq (fo.mark ms) m' w1 m' a1 w1 (Step.refl _ _) g')
 ·obtain⟨ms,m',x,s',hm,hq,g',hx,fK⟩:=h1;refine⟨ms,m',x,s',hm,?_,g',hx,fK⟩;cases x with
  | normal=>cases e<;>simp[bF]at hx;exact(bR rfl).elim
  | _=>exact hq
theorem au.stop{l} k us(hd:dG n (l.take k)=true)(h:∀bs,eR P ops (l.take k) s bs us (KK P n ops (AX.then (λs'=>au P n ops (l.drop k) s' Q) Q))):au P n ops l s Q:=by
 rw[<-ao5 k l];exact au.app (bn _ _ us hd h)
theorem av.ad2{id l}(h:au P n l.toArray l s Q):av P n (.region id l.toArray false) s Q:=
 λfo m a w _ g=>xV (by simpa using h fo m w m a w (Step.refl _ _) g)
theorem au.ai9{o}{rest}{g}{t}{xo yo}{ty}{a b}(aD:o.op= .binOp .sub t xo yo ty)(jB:fv ops s o=some (some g))(hd:∀d,o.dst=some d→d < n)
  (hx:(s.ev xo).un=iD a/\(s.ev yo).un=iD b) (hu:g=true->nK s o.op.operands.toList)
  (k:au P n ops rest (s.put o.dst (.gd g (iD (IntKind.i64.wrap (a-b))))) Q):au P n ops (o::rest) s Q:=by
 refine au.guarded jB hd (λhg=>⟨λz=>(s.ev z).un,λz hz w O m v hr=>vn hr (sk (hu hg) z (by grind)),?_⟩) k;intro fo m ρ w hi hr;have h1:=hr xo (by simp_all);have h2:=hr yo (by simp_all);simp only[hx.1]at h1;simp only[hx.2]at h2;have e1:=h1.cy;have e2:=h2.cy;refine⟨.int .i64 (IntKind.i64.wrap (a-b)),?_,.d _ _ (.v _ rfl)⟩;simp_all[execOp,eqGuard,binOp,Op.intArith]
theorem au.eL{o}{rest}{c}{f}{args}{x}{g}(aD:o.op= .call c)(h:g=true→Pure P f args x)(hc:callee (fun z=>(s.ev z).un) c=some (f,args))(jB:fv ops s o=some (some g))(hu:g=true→nK s o.op.operands.toList)
  (hd:∀d,o.dst=some d->d<n) (hr:dG n rest=true) (k:∀bs,eR P ops rest (s.put o.dst (.gd g x)) bs [] (KK P n ops Q)):au P n ops (o::rest) s Q:=
 au.N1 jB hd (λhg=>⟨λz=>(s.ev z).un,λz hz w O m v hr=>vn hr (sk (hu hg) z (by grind)),qd.call aD hc (h hg).en (h hg).on (h hg).rn (h hg).calls⟩) (bn rest _ [] hr k)
theorem pGh{ops:Array Oper}{o:Oper}{rest:List Oper}{c:Call}{f:FuncId}{args:List V}{x:V}{g:Bool}(h:g=true→Pure P f args x)(k:∀bs,eR P ops rest (s.put o.dst (.gd g x)) bs [] (KK P n ops Q))(aD:o.op= .call c:=by exact rfl)(hc:callee (fun z=>(s.ev z).un) c=some (f,args):=by exact rfl)(jB:fv ops s o=some (some g):=by first | rfl | (simp;rfl))(hu:g=true→nK s o.op.operands.toList:=by simp)
  (hd:∀d,o.dst=some d->d<n:=by simp) (hr:dG n rest=true:=by exact rfl):au P n ops (o::rest) s Q:=au.eL aD h hc jB hu hd hr k
theorem pG{ops:Array Oper}{o:Oper}{rest:List Oper}{c:Call}{f:FuncId}{args:List V}{x:V}{g:Bool}(h:Pure P f args x)(k:∀bs,eR P ops rest (s.put o.dst (.gd g x)) bs [] (KK P n ops Q))(aD:o.op= .call c:=by exact rfl)(hc:callee (fun z=>(s.ev z).un) c=some (f,args):=by exact rfl)(jB:fv ops s o=some (some g):=by first | rfl | (simp;rfl))(hu:g=true→nK s o.op.operands.toList:=by simp)
  (hd:∀d,o.dst=some d->d<n:=by simp) (hr:dG n rest=true:=by exact rfl):au P n ops (o::rest) s Q:=au.eL aD (λ_=>h) hc jB hu hd hr k
theorem pN{ops:Array Oper}{o:Oper}{rest:List Oper}{c:Call}{f:FuncId}{args:List V}(x:V)(k:∀bs,eR P ops rest (s.put o.dst (.gd false x)) bs [] (KK P n ops Q))(aD:o.op= .call c:=by exact rfl)(hc:callee (fun z=>(s.ev z).un) c=some (f,args):=by exact rfl)(jB:fv ops s o=some (some false):=by first | rfl | (simp;rfl))(hu:false=true→nK s o.op.operands.toList:=by simp)
  (hd:∀d,o.dst=some d->d<n:=by simp) (hr:dG n rest=true:=by exact rfl):au P n ops (o::rest) s Q:=au.eL aD (λh=>by cases h) hc jB hu hd hr k
theorem av.gE{x y}(h:cV P n x s (cp P n (AX.then (λs'=>av P n y s' Q) Q) [])):av P n (.seq x y) s Q:=av.seq (eg _ _ _ h)
theorem Pure.GI{f}{args}{x}{fn}{c}(hf:P.funcs[f]?=some fn)(hb:fn.body=some c)(hs:args.length≤fn.ntmps∧enters P f=true∧V.dE [] args=true∧x.on []=true)
  (h:av P fn.ntmps c ⟨eH 0 args,[]⟩ (cp P fn.ntmps (ff P fn.results.toList (λr L'=>∃y,r= .ret y/\y.fz L'=x)) [])):Pure P f args x:=
 ⟨hs.2.1,hs.2.2.1,hs.2.2.2,(aE.data (aE.xQ hf hb hs.1 h) hs.2.2.2).mono λ_ _ h=>h.1⟩
end
section
variable {P : Program} {n : Nat} {s : St} {Q : AX -> St -> Prop} {L : aI} {b N : Nat} {ty : TypeId} {k : Nat} {A : Nat -> List (List D)}
theorem Wk.rM c i h{e k:Nat}{bk}{bt}{cs}(hl:s.L.lookup c=some (.box bk bt cs))(hi:cs[i]?=some (.d (.v (.slice none 0 0))))(hn:h∉keys s.L):
  Wk n s ⟨s.fr,(h,.row e k [])::aI.jz s.L c (.box bk bt (cs.set i (.rv h)))⟩:=by
 intro fo m a w g;obtain⟨g',st⟩:=g.new (hY.refl w) hn (r:= .row e k []) (by simp[dn,jJ]) (.inl ⟨rfl,rfl⟩);refine⟨_,⟨g'.size,g'.fr,?_,g'.defers⟩,st⟩;have cn:=g'.inv;have Dj:keys ((h,aV.row e k [])::aI.jz s.L c (.box bk bt (cs.set i (.rv h))))=keys ((h,aV.row e k [])::s.L):=by
  grind[xz,keys]
 have fp:=dK hl;refine⟨by rw[Dj];exact cn.nodup,λj x hx=>by rw[Dj];exact cn.fI j x hx,cn.apart,cn.others,cn.ej,?_,cn.ef⟩;intro j r hr;rcases ao0.1 hr with hr|hr
 ·exact cn.holds j r (by grind)
 ·obtain⟨p,hp,he⟩:=aoQ.1 hr;split at he
  ·cases he;obtain⟨x,hx,hh⟩:=cn.holds c _ (aoW _ fp);refine⟨x,hx,?_⟩;obtain⟨bb,kq,cur,e1,e2,e3,e4,e5⟩:=hh;refine⟨bb,kq,cur,e1,e2,by grind,e4,λl v y hv hy=>?_⟩;rw[aq5]at hy;split at hy
   ·rename_i kx;subst kx;split at hy
    ·simp[anc]at hy;subst hy;have:=e5 i v _ hv hi;rw[this.pV];exact .rv h _ (cr _ _) rfl
    grind
   grind
  ·rw[he]at hp;exact cn.holds j r (aoW _ hp)
@[simp] theorem JU N v:List.replicate N [V.d (.v (.int .i64 v))]=dd (aC (List.replicate N v)):=by simp[dd,aC]
mutual
def V.eS(h g:Nat):V->V
 | .bp i o=>if i=h then .bp g o else .bp i o
 | .rv i=>if i=h then .rv g else .rv i
 | .ep i k x y=>if i=h then .ep g k x y else .ep i k x y
 | .fu fn f c=> .fu fn (V.ql h g f) (V.ql h g c)
 | .agg cs=> .agg (V.ql h g cs)
 | .bA cs=> .bA (V.ql h g cs)
 | .gd b x=> .gd b (V.eS h g x)
 | .d x=> .d x
 | .rp cs=> .rp cs
 | .sv i n=>if i=h then .sv g n else .sv i n
 | .kn Q=> .kn Q
 | .any=> .any
def V.ql(h g:Nat):List V->List V
 | []=> []
 | x::l=>V.eS h g x::V.ql h g l
end
theorem qR h g:∀l:List V,V.ql h g l=l.map (V.eS h g)
 | []=>by rfl
 | x::l=>by simp[V.ql,qR]
theorem Ow h g(l:List D):V.ql h g (l.map V.d)=l.map V.d:=by
 simp[qR,V.eS]
def aV.eS(h g:Nat):aV->aV
 | .box b ty cs=> .box b ty (V.ql h g cs)
 | .row ty k xs=> .row ty k (xs.map (V.ql h g))
 | .env A=> .env A
 | .mp es=> .mp es
theorem afp h g ys:(dd ys).map (V.ql h g)=dd ys:=by
 simp[dd,Ow]
def St.eS(h g:Nat)(s:St):St:=⟨s.fr.map λp=>(p.1,p.2.eS h g),s.L.map λp=>(if p.1=h then g else p.1,p.2.eS h g)⟩
theorem aB.eS{w O m m' h g}(hm:∀i x,i≠h->m i=some x->m' i=some x)(hg:∀x,m h=some x->m' g=some x){x y}(hr:aB w O m x y):aB w O m' x (y.eS h g):=by
 induction hr with
 | d x y hd=>simpa[V.eS]using aB.d x y hd
 | bp i off b e=>
   simp only[V.eS];split
   ·rename_i he;subst he;exact .bp g off b (hg _ e)
   ·rename_i bR;exact .bp i off b (hm _ _ bR e)
 | rv i x e e1=>
   simp only[V.eS];split
   ·rename_i he;subst he;exact .rv g x (hg _ e) e1
   ·rename_i bR;exact .rv i x (hm _ _ bR e) e1
 | ep i k p q b o n c e=>
   simp only[V.eS];split
   ·rename_i he;subst he;exact .ep g k p q b o n c (hg _ e)
   ·rename_i bR;exact .ep i k p q b o n c (hm _ _ bR e)
 | rp b off cs f hb aw hc hr=>simpa[V.eS]using aB.rp b off cs f hb aw hc hr
 | sv i n b cap e hc hx=>
   simp only[V.eS];split
   ·rename_i he;subst he;exact .sv g n b cap (hg _ e) hc hx
   ·rename_i bR;exact .sv i n b cap (hm _ _ bR e) hc hx
 | fu fn first ei cf cc s1 s2 h1 h2 Fs Kv=>
   simp only[V.eS,qR];refine .fu fn first ei _ _ (by grind) (by grind) ?_ ?_
   ·grind
   grind
 | agg vs cs hs h1 h2 ih=>
   simp only[V.eS,qR];refine .agg vs _ (by grind) h1 ?_;grind
 | bA vs cs hs h2 ih=>
   simp only[V.eS,qR];refine .bA vs _ (by grind) ?_;grind
 | gt x y hr ih=>simpa[V.eS]using aB.gt x _ ih
 | gf y=>simpa[V.eS]using aB.gf (y.eS h g)
 | kn x Q h=>simpa[V.eS]using aB.kn x Q h
 | any x=>simpa[V.eS]using aB.any x
theorem aV.Holds.eS{w O m m' h g}(hm:∀i x,i≠h->m i=some x->m' i=some x)(hg:∀x,m h=some x->m' g=some x){x}{r:aV}(hh:r.Holds w O m x):(r.eS h g).Holds w O m' x:=by
 cases r with
 | box b ty cs=>
   obtain⟨bb,kq,cur,rfl,h1,h2,h3,h4⟩:=hh;simp[aV.eS,qR];refine⟨bb,kq,cur,rfl,h1,by grind,h3,λj v c hv hc=>?_⟩;rw[aoN]at hc;obtain⟨z,hz,rfl⟩:=aoJ.1 hc;exact(h4 j v z hv hz).eS hm hg
 | row ty k xs=>
   rcases hh with⟨rfl,rfl⟩|⟨b,off,cap,cur,rfl,h1,h2,h3,h4,h5,h6,h7⟩
   ·exact .inl ⟨rfl,rfl⟩
   ·refine .inr ⟨b,off,cap,cur,by simp,h1,by grind,h3,h4,λi x hx=>?_,h6,λi j x y v hx hy hv=>?_⟩
    ·grind[qR,List.length_map]
    ·rw[aoN]at hx;obtain⟨z,hz,rfl⟩:=aoJ.1 hx;rw[qR,aoN]at hy;obtain⟨y',nq,rfl⟩:=aoJ.1 hy;exact(h7 i j z y' v hz nq hv).eS hm hg
 | env A=>exact hh
 | mp es=>exact hh
theorem Wk.eS h g(hg:g∉keys s.L):Wk n s (s.eS h g):=by
 classical
 intro fo m a w gg
 let m':Nat->Option Value:=λi=>if i=g then m h else if i=h then none else m i
 have hi:=gg.inv;have N2:∀x,m g≠some x:=λx hx=>hg (hi.fI g x hx)
 have hm:∀i x,i≠h->m i=some x->m' i=some x:=by
  grind
 have hmg:∀x,m h=some x->m' g=some x:=λx hx=>by grind
 have nJ:∀i x,m' i=some x->∃j,m j=some x/\i=(if j=h then g else j):=by
  grind
 have eZ:∀b,Ab.own m' b↔Ab.own m b:=by
  intro b;constructor
  ·rintro⟨i,x,hx,hb⟩;obtain⟨j,hj,_⟩:=nJ i x hx;exact⟨j,x,hj,hb⟩
  ·rintro⟨i,x,hx,hb⟩;by_cases e:i=h
   ·subst e;exact⟨g,x,hmg x hx,hb⟩
   ·exact⟨i,x,hm i x e hx,hb⟩
 have hO:∀b,b<w.heap.size->OO fo m' b->OO fo m b:=λb _ ho=>ho.imp (eZ b).1 id
 have Dj:∀i,i∈keys s.L->(if i=h then g else i)∈keys (s.eS h g).L:=by
  intro i cn;obtain⟨p,hp,rfl⟩:=aoQ.1 cn;exact aoQ.2 ⟨_,aoQ.2 ⟨p,hp,rfl⟩,rfl⟩
 refine⟨m',⟨gg.size,?_,?_,gg.defers⟩,⟨rfl,rfl,rfl,aoT _,λ_ _ _=>rfl,λb _ ho=>(eZ b).1 ho⟩⟩
 ·intro t x hx;obtain⟨p,hp,he⟩:=aoQ.1 hx;cases he;obtain⟨h1,h2⟩:=gg.fr p.1 p.2 hp;exact⟨h1,(h2.eS hm hmg).mono (bK.refl w _) hO (λ_ _ e=>e)⟩
 ·refine⟨?_,?_,?_,?_,hi.ej,?_,hi.ef.mono (bK.refl w _) hO⟩
  ·have:keys (s.eS h g).L=(keys s.L).map λi=>if i=h then g else i:=by
    simp[keys,St.eS,aq7]
   rw[this];have gv:=hi.nodup;grind[List.Nodup,List.Pairwise.imp_of_mem]
  ·intro i x hx;obtain⟨j,hj,rfl⟩:=nJ i x hx;exact Dj j (hi.fI j x hj)
  ·intro i j x y b hx hy hb dm;obtain⟨i',qe,rfl⟩:=nJ i x hx;obtain⟨j',SH,rfl⟩:=nJ j y hy;rw[hi.apart i' j' x y b qe SH hb dm]
  ·intro i x b hx hb;obtain⟨j,hj,_⟩:=nJ i x hx;exact hi.others j x b hj hb
  ·intro i r hr;obtain⟨p,hp,he⟩:=aoQ.1 hr;cases he;obtain⟨x,hx,hh⟩:=hi.holds p.1 p.2 hp;refine⟨x,?_,(hh.eS hm hmg).mono (λ_ _=>rfl) (bK.refl w _) hO (λ_ _ e=>e)⟩;grind
attribute [simp] V.eS V.ql aV.eS St.eS Ow afp
def EPost(P:Program)(rs:List ResultVar)(R:AE->aI->Prop)(hs:List Nat)(x:AX)(s:St):Prop:=
 match x with
 | .normal|.ret=>(s.pick [] hs).on (keys (s.pick [] hs).L)=true/\ff P rs R .ret (s.pick [] hs)
 | _=>False
theorem av.epost{P c rs R} hs(hh:hs.Nodup)(h:av P n c s (EPost P rs R hs)):av P n c s (ff P rs R):=by
 intro fo m a w hr g;refine Code.wpIn_mono (λe a1 w1 hp=>?_) (h fo m a w hr g);obtain⟨ms,m',x,s',ri,hq,g',he,st⟩:=hp;have key:∀y,(s'.pick [] hs).on (keys (s'.pick [] hs).L)=true/\ff P rs R .ret (s'.pick [] hs)->(∀m2,bF w1 (OO (fo.mark ms) m2) m2 e y)->ff P rs R .ret (s'.pick [] hs)=ff P rs R y (s'.pick [] hs)->fZ fo n m w (ff P rs R) e a1 w1:=by
  intro y h1 h2 h3;obtain⟨m2,g2,oP⟩:=Wk.pick [] hs (by simp) hh h1.1 (fo.mark ms) m' a1 w1 g';exact⟨ms,m2,y,s'.pick [] hs,ri,h3 ▸ h1.2,g2,h2 m2,st.trans oP⟩
 cases x with
 | normal=>
   refine key .normal hq (λm2=>?_) rfl;grind[bF]
 | ret=>
   refine key .ret hq (λm2=>?_) rfl;grind[bF]
 | _=>exact hq.elim
theorem aE.x5{P} hs(hh:hs.Nodup){f}{args}{R}{fn}{c}(hf:P.funcs[f]?=some fn)(hb:fn.body=some c)(hn:args.length≤fn.ntmps)
  (h:cV P fn.ntmps c ⟨eH 0 args,L⟩ (cp P fn.ntmps (EPost P fn.results.toList R hs) [])):aE P f args L R:=
 aE.xQ hf hb hn (av.epost hs hh (eg _ _ _ h))
attribute [simp] EPost
end
section
variable {P : Program} {n : Nat} {s : St} {Q : AX -> St -> Prop} {ops : Array Oper}
theorem au.panic{o rest xo t ag cs}(aD:o.op= .panic xo)(hx:s.ev xo= .d (.uj t ag cs))(hg:o.guard=none)(k:Q (.ix (.d (.uj t ag cs))) s):au P n ops (o::rest) s Q:=by
 intro fo m0 w0 m a w st g;have hr:=cm g xo;rw[hx]at hr;obtain⟨u,hv⟩:=JA hr.kR;unfold wpListIn;rw[if_pos (by simp[Region.wanted,hg])];have bw:(execOp a.eval o).run P w= .halt (.panic (a.eval xo)) w:=by
  simp_all[execOp,Instr.panic]
 refine W1 (by grind) bw ?_;exact .of m (.ix (.d (.uj t ag cs))) s k g ⟨_,[],rfl,by simp,hr⟩ st
def zh(P:Program):Next->World->(Ending->World->Prop)->Prop
 | .enter f args,w,R=>Calls P f args w R
 | .round l f tmps assign body,w,R=>RoundIn Fence.wide 0 P l f tmps assign body w R
 | _,_,_=>False
theorem zh.mono{nx w R R'}(h:zh P nx w R)(hr:∀e w',R e w'->R' e w'):zh P nx w R':=by
 cases nx<;>simp[zh]at h⊢
 ·exact Calls.mono h hr
 grind[RoundIn.mono]
theorem K9{r}{o}{a}{w w'}{nx}{next}{Q}(bw:(execOp a.eval o).run P w= .ok nx w')
  (h:zh P nx w' fun
   | .returned v,Ad=>next (a.put o.dst v) Ad
   | .panicked chain,Ad=>Q (.panic chain) a Ad
   | .outgrown,_=>LetsOut Q):o.wpIn (wr r) 0 P a w next Q:=by
 refine⟨λ_ _=>trivial,?_⟩;cases nx<;>simp[zh]at h
 ·rw[Cx (yK bw (by simp)),bw];exact⟨λh=>by grind[wr,Fence.wide],Gq h⟩
 ·rw[Cx (yK bw (by simp)),bw];exact⟨λh=>by grind[wr,Fence.wide],h⟩
theorem core{o:Oper}{L1 L2:aI}{R:AE→aI→Prop}
  (hL:s.L.Perm (L1++L2)) (ij:L1.all (λp=>aV.on (keys L1) p.2)=true)
  (iS:∀p∈L2,aV.on (keys L2++(L1.filterMap λp=>match p.2 with|.box (_+1) _ _=>some p.1|_=>none)) p.2=true)
  (qP:∀r bq,R r bq->(∀k∈keys bq,k∉keys L2)/\∀k b ty cs,(k,aV.box (b+1) ty cs)∈L1->∃lY jA,(k,aV.box (b+1) lY jA)∈bq)
  {fo:FO} {m:Nat->Option Value} {a:Act} {w:World}
  (h:∀(gV:FO) (m1:Nat->Option Value),(∀b,OO gV m1 b↔OO fo m b)->(∀h x,h∈keys L1->m h=some x->m1 h=some x)->Inv gV m1 L1 w->∃nx,(execOp a.eval o).run P w= .ok nx w/\zh P nx w (mv gV m1 w R))
  (g:G fo n m s a w) {next:Act->World->Prop} {Q':Exit->Act->World->Prop}
  (k:∀x bq mm v w',R (.ret x) bq->aB w' (OO fo mm) mm v x->Inv fo mm (bq++L2) w'->Step w (own m) w' (own mm)->
   (∀h y,h∈keys L2++(L1.filterMap λp=>match p.2 with|.box (_+1) _ _=>some p.1|_=>none)->m h=some y->mm h=some y)->
   bK w (OO fo m) w'->(∀b,b<w.heap.size->OO fo mm b->OO fo m b)->next (a.put o.dst v) w')
  (kp:∀x bq mm ch w',R (.ix x) bq->AP w' (OO fo mm) mm ch x->Inv fo mm (bq++L2) w'->Step w (own m) w' (own mm)->
   (∀h y,h∈keys L2++(L1.filterMap λp=>match p.2 with|.box (_+1) _ _=>some p.1|_=>none)->m h=some y->mm h=some y)->
   bK w (OO fo m) w'->(∀b,b<w.heap.size->OO fo mm b->OO fo m b)->Q' (.panic ch) a w'):o.wpIn (wr fo.r) 0 P a w next Q':=by
 obtain⟨gV,m1,oQ,ot,qe,fin⟩:=frame g.inv hL ij iS;obtain⟨nx,h1,ag5⟩:=h gV m1 oQ ot qe;refine K9 h1 (ag5.mono ?_);rintro e w' ⟨uv,r,bq,hR,lG,cn,fK⟩;obtain⟨Dd,GK⟩:=qP r bq hR;obtain⟨mm,hinv,qg,vP,zO,Ba,cQ,sS⟩:=fin w' uv bq cn fK Dd GK;cases e<;>cases r<;>simp only[Ends]at lG
 ·exact k _ bq mm _ w' hR (lG.mono (bK.refl w' _) (λb _ hb=>(zO b).1 hb) vP) hinv qg Ba cQ sS
 ·obtain⟨v,gM,rfl,hold,hv⟩:=lG;exact kp _ bq mm _ w' hR ⟨v,gM,rfl,hold,hv.mono (bK.refl w' _) (λb _ hb=>(zO b).1 hb) vP⟩ hinv qg Ba cQ sS
theorem U2{o:Oper}{c}{f}{args}{L1 L2:aI}{R}
  (aD:o.op= .call c) (hc:callee s.ev c=some (f,args)) (he:enters P f=true) (ho:V.dE (keys L1) args=true) (hL:s.L.Perm (L1++L2)) (ij:L1.all (λp=>aV.on (keys L1) p.2)=true)
  (iS:∀p∈L2,aV.on (keys L2++(L1.filterMap λp=>match p.2 with|.box (_+1) _ _=>some p.1|_=>none)) p.2=true)
  (h:aE P f args L1 R)
  (qP:∀r bq,R r bq->(∀k∈keys bq,k∉keys L2)/\∀k b ty cs,(k,aV.box (b+1) ty cs)∈L1->∃lY jA,(k,aV.box (b+1) lY jA)∈bq)
  {fo m a w} (g:G fo n m s a w) {next Q'}
  (k:∀x bq mm v w',R (.ret x) bq->aB w' (OO fo mm) mm v x->Inv fo mm (bq++L2) w'->Step w (own m) w' (own mm)->
   (∀h y,h∈keys L2++(L1.filterMap λp=>match p.2 with|.box (_+1) _ _=>some p.1|_=>none)->m h=some y->mm h=some y)->
   bK w (OO fo m) w'->(∀b,b<w.heap.size->OO fo mm b->OO fo m b)->next (a.put o.dst v) w')
  (kp:∀x bq mm ch w',R (.ix x) bq->AP w' (OO fo mm) mm ch x->Inv fo mm (bq++L2) w'->Step w (own m) w' (own mm)->
   (∀h y,h∈keys L2++(L1.filterMap λp=>match p.2 with|.box (_+1) _ _=>some p.1|_=>none)->m h=some y->mm h=some y)->
   bK w (OO fo m) w'->(∀b,b<w.heap.size->OO fo mm b->OO fo m b)->Q' (.panic ch) a w'):o.wpIn (wr fo.r) 0 P a w next Q':=by
 obtain⟨xs,h1,h2⟩:=oY aD hc he (λz _=>cm g z);refine core hL ij iS qP (λgV m1 oQ ot qe=>⟨_,h1,?_⟩) g k kp;refine h gV m1 w xs qe ⟨h2.1,λj v y hv hy=>?_⟩;exact((h2.2 j v y hv hy).on ot (fQ ho y (aoO hy))).mono (bK.refl w _) (λb _ hb=>(oQ b).1 hb) (λ_ _ e=>e)
end
section
variable {P : Program} {n : Nat} {s : St} {Q : AX -> St -> Prop} {ops : Array Oper}
def yv(l:Nat):V:= .d (.v (.func (.yield l) #[] #[]))
def sV(ρ:Operand->V)(c:Call):Option (Nat×List V):=
 match c.callee with
 | .value fo=>match ρ fo with
   | .d (.v (.func (.yield l) first _))=>if first.isEmpty then some (l,c.args.toList.map ρ)else none
   | _=>none
 | _=>none
def tF(P:Program)(l:Nat)(args:List V)(L:aI)(R:AE->aI->Prop):Prop:=
 ∀(fo:FO) (m:Nat->Option Value) (w:World) (xs:Array Value),Inv fo m L w->ir w (OO fo m) m xs args->∃nx,(Instr.yield l xs).run P w= .ok nx w/\zh P nx w (mv fo m w R)
def YR(A B:Env)(r:AE)(L:aI):Prop:=(r= .ret (oD true)/\L=[(5003,.env A)])\/(r= .ret (oD false)/\L=[(5003,.env B)])
def U3(K:Prop)(P:Program)(f:FuncId)(ei:List V)(Lc:aI)(xs:List (List V)):Prop:=
 ∀(l:Nat) (A:Nat->Env) (B:Env),(∀i x,xs[i]?=some x->tF P l x [(5003,.env (A i))] (YR (A (i+1)) B))->(K->∀w O x,¬(A xs.length).H w O x)->
  aE P f (yv l::ei) ((5003,.env (A 0))::Lc) (λr L'=>(∃y,r= .ret y)/\(L'=[(5003,.env (A xs.length))]\/L'=[(5003,.env B)]))
abbrev Iter:=U3 False
theorem Yr{o}{c}{l}{args}{ρ}{dt}{w}{O}{m}(aD:o.op= .call c)(hc:sV dt c=some (l,args))
  (hr:∀z,z∈o.op.operands->aB w O m (ρ z) (dt z)):ir w O m (c.args.map ρ) args/\(execOp ρ o).run P w=(Instr.yield l (c.args.map ρ)).run P w:=by
 unfold sV at hc;split at hc
 ·rename_i fop p6;split at hc
  ·rename_i l' first ei FA
   split at hc
   ·cases hc;have h1:=hr fop (by simp_all);rw[FA]at h1;have h2:=h1.cy;refine⟨⟨by simp,N0 c.args λz hz=>hr z (by simp_all)⟩,?_⟩;simp_all[execOp,resolve,Deferred.ofValue,invoke]
   grind
  grind
 grind
theorem au.Ys{o}{rest}{c}{l}{args}{A A' B}(hw:∀{fo:FO} {m:Nat→Option Value} {a:Act} {w:World},G fo n m s a w→Region.wanted o (yielded ops a.tmps)=true)(hd:∀d,o.dst=some d→d < n)
  {dt} (hρ:∀z,z∈o.op.operands->∀w O m v,aB w O m v (s.ev z)->aB w O m v (dt z))
  (aD:o.op= .call c) (hc:sV dt c=some (l,args)) (ha:V.dE [5003] args=true) {L2:aI} (hL:s.L.Perm ((5003,.env A)::L2))
  (iy:∀p∈s.fr,V.on (keys L2) p.2=true) (iS:∀p∈L2,aV.on (keys L2) p.2=true) (hk:5003∉keys L2) (h:tF P l args [(5003,.env A)] (YR A' B)) (wrap:V->V) (Ox:∀{w O m v x},aB w O m v x->aB w O m v (wrap x))
  (kt:au P n ops rest (St.put {s with L:=(5003,.env A')::L2} o.dst (wrap (oD true))) Q) (kf:au P n ops rest (St.put {s with L:=(5003,.env B)::L2} o.dst (wrap (oD false))) Q):au P n ops (o::rest) s Q:=by
 intro fo m0 w0 m a w st g;unfold wpListIn;rw[if_pos (hw g)];have aja:=λz hz=>hρ z hz _ _ _ _ (cm g z)
 refine core (L1:=[(5003,.env A)]) (R:=YR A' B) hL (by rfl) (λp hp=>by grind) ?_ (λgV m1 oQ ot qe=>?_) g
  (λx bq mm v w' hR we hinv qg abl cQ sS=>?_) (λx bq mm ch w' hR=>by rcases hR with⟨h,_⟩|⟨h,_⟩<;>cases h)
 ·rintro r bq (⟨_,rfl⟩|⟨_,rfl⟩)<;>exact⟨by simpa[keys]using hk,by simp⟩
 ·obtain⟨h1,h2⟩:=Yr aD hc aja;rw[h2];refine h gV m1 w _ qe ⟨h1.1,λj v y hv hy=>?_⟩;exact((h1.2 j v y hv hy).on ot (by grind[keys,fQ,List.mem_of_getElem?])).mono (bK.refl w _) (λb _ hb=>(oQ b).1 hb) (λ_ _ e=>e)
 ·have ajb:=λh y hh=>abl h y (apf _ hh)
  have g':G fo n mm {s with L:=bq++L2} a w':=⟨g.size,λt y hy=>by
   obtain⟨q1,q2⟩:=g.fr t y hy;exact⟨q1,(q2.on ajb (iy _ hy)).mono cQ sS (λ_ _ e=>e)⟩,hinv,g.defers⟩
  rcases hR with⟨h1,rfl⟩|⟨h1,rfl⟩
  ·obtain rfl:=AE.ret.inj h1;exact kt fo m0 w0 mm _ w' (st.trans qg) (g'.put hd (Ox we))
  ·obtain rfl:=AE.ret.inj h1;exact kf fo m0 w0 mm _ w' (st.trans qg) (g'.put hd (Ox we))
theorem GX{h r}:∀{L},(keys L).Nodup->L.lookup h=some r->L.Perm ((h,r)::L.filter (λp=>p.1 !=h))
 | [],_,hl=>by cases hl
 | (k,q)::L,hn,hl=>by
   simp at hn;rw[List.lookup_cons]at hl;by_cases e:h=k
   ·subst e;simp at hl;have:L.filter (λp=>p.1 !=h)=L:=by
     rw[List.filter_eq_self];grind
    simp[*]
   ·have e':(h==k)=false:=by grind
    rw[e']at hl;have hf:((k,q).1 !=h)=true:=by grind
    rw[apH,hf];exact((GX hn.2 hl).cons _).trans (List.Perm.swap _ _ _)
theorem au.afq{o:Oper}{rest}{c}{l}{args}{A A' B}(h:tF P l args [(5003,.env A)] (YR A' B))(aD:o.op= .call c)(hc:sV s.ev c=some (l,args))(ha:V.dE [5003] args=true)(hg:o.guard=none)
  (hd:∀d,o.dst=some d->d<n) (hr:dG n rest=true) (hn:(keys s.L).Nodup) (hL:s.L.lookup 5003=some (.env A))
  (iy:s.fr.all (λp=>V.on (keys (s.L.filter λp=>p.1 !=5003)) p.2)=true) (iS:(s.L.filter λp=>p.1 !=5003).all (λp=>aV.on (keys (s.L.filter λp=>p.1 !=5003)) p.2)=true)
  (kt:∀bs,eR P ops rest (St.put {s with L:=(5003,.env A')::s.L.filter λp=>p.1 !=5003} o.dst (oD true)) bs [] (KK P n ops Q))
  (kf:∀bs,eR P ops rest (St.put {s with L:=(5003,.env B)::s.L.filter λp=>p.1 !=5003} o.dst (oD false)) bs [] (KK P n ops Q)):au P n ops (o::rest) s Q:=
 au.Ys (λ_=>by simp[Region.wanted,hg]) hd (λ_ _ _ _ _ _ h=>h) aD hc ha (GX hn hL) (λp hp=>aoP.1 iy p hp) (λp hp=>aoP.1 iS p hp) (by simp) h id (λh=>h)
  (bn rest _ [] hr kt) (bn rest _ [] hr kf)
theorem au.Yt{o}{rest}{c}{l}{args}{A A' B}{b}(h:b=true→tF P l args [(5003,.env A)] (YR A' B))(aD:o.op= .call c)(jB:fv ops s o=some (some b))(hu:b=true→nK s o.op.operands.toList)(hc:b=true→sV (fun z=>(s.ev z).un) c=some (l,args))(ha:V.dE [5003] args=true)
  (hd:∀d,o.dst=some d->d<n) (hr:dG n rest=true) (hn:(keys s.L).Nodup) (hL:s.L.lookup 5003=some (.env A))
  (iy:s.fr.all (λp=>V.on (keys (s.L.filter λp=>p.1 !=5003)) p.2)=true) (iS:(s.L.filter λp=>p.1 !=5003).all (λp=>aV.on (keys (s.L.filter λp=>p.1 !=5003)) p.2)=true)
  (kt:b=true->∀bs,eR P ops rest (St.put {s with L:=(5003,.env A')::s.L.filter λp=>p.1 !=5003} o.dst (.gd true (oD true))) bs [] (KK P n ops Q))
  (kf:b=true->∀bs,eR P ops rest (St.put {s with L:=(5003,.env B)::s.L.filter λp=>p.1 !=5003} o.dst (.gd true (oD false))) bs [] (KK P n ops Q))
  (kn:b=false->∀bs,eR P ops rest (s.put o.dst (.gd false .any)) bs [] (KK P n ops Q)):au P n ops (o::rest) s Q:=by
 cases b with
 | true=>
   exact au.Ys (λg=>nH g jB) hd (λz hz w O m v hr=>vn hr (sk (hu rfl) z (by grind))) aD (hc rfl) ha (GX hn hL) (λp hp=>aoP.1 iy p hp) (λp hp=>aoP.1 iS p hp) (by simp) (h rfl) (.gd true) (λh=> .gt _ _ h)
    (bn rest _ [] hr (kt rfl)) (bn rest _ [] hr (kf rfl))
 | false=>
   intro fo m0 w0 m a w st g;unfold wpListIn;rw[if_neg (by grind[nH])];exact⟨λ_ _=>trivial,bn rest _ [] hr (kn rfl) fo m0 w0 m _ w st (g.put hd (.gf _))⟩
def U4:Value->List Value
 | .tuple vs=>vs.toList
 | v=> [v]
theorem Ld x b:(∃v∈U4 x,jJ v b)↔dn x b:=by
 cases x<;>simp[U4,dn]
def x6(l:Nat)(L:aI)(m:Nat->Option Value):Value:=
 .tuple (Value.pointer (some ⟨l,0,none⟩)::(keys L).flatMap (λh=>match m h with|some x=>U4 x|none=> [])).toArray
theorem uM{l L m}(hd:∀h x,m h=some x->h∈keys L) b:dn (x6 l L m) b↔b=l\/own m b:=by
 simp only[x6,dn,aq9,ao0,aqK];constructor
 ·rintro⟨v,rfl|⟨h,hh,hv⟩,hb⟩
  ·simp_all[jJ]
  ·right;cases hx:m h with
   | none=>grind
   | some x=>rw[hx]at hv;exact⟨h,x,hx,(Ld x b).1 ⟨v,hv,hb⟩⟩
 ·rintro(rfl|⟨h,x,hx,hb⟩)
  ·exact⟨_,.inl rfl,rfl⟩
  grind[Ld]
structure Bun(w:World) (O:Nat->Prop) (l:Nat) (L:aI) (m:Nat->Option Value):Prop where
 nodup:(keys L).Nodup
 fI:∀h x,m h=some x->h∈keys L
 apart:∀h h' x x' b,m h=some x->m h'=some x'->dn x b->dn x' b->h=h'
 self:¬own m l
 holds:∀h r,(h,r)∈L->∃x,m h=some x/\r.Holds w O m x
theorem Bun.lt{w O l L m}(hb:Bun w O l L m){b}(h:own m b):b<w.heap.size:=by
 obtain⟨h,x,hx,kq⟩:=h;obtain⟨r,hr⟩:=HG (hb.fI h x hx);obtain⟨x',cG,hh⟩:=hb.holds h r hr;rw[hx]at cG;obtain rfl:=aoK cG;exact hh.lt kq
def pc(r0:Loop)(l:Nat)(fr:List (Nat×V))(J:LoopState->Option Code->aI->Prop):Env where
 H w O x:=∃st pd L m,J st pd L/\x=x6 l L m/\Bun w O l L m/\w.heap[l]?=some (.loop {r0 with state:=st,pending:=pd})/\∀t y,(t,y)∈fr->aB w O m (r0.tmps.getD t undef) y
 mono:=by
  rintro w w' O O' x ⟨st,pd,L,m,hJ,rfl,hb,hl,hf⟩ tG hk hO;have GY:=λb=>uM (l:=l) (L:=L) (m:=m) hb.fI b
  refine⟨st,pd,L,m,hJ,rfl,⟨hb.nodup,hb.fI,hb.apart,hb.self,λh r hr=>?_⟩,?_,λt y hy=>(hf t y hy).mono hk hO (λ_ _ e=>e)⟩
  ·obtain⟨x,hx,hh⟩:=hb.holds h r hr;exact⟨x,hx,hh.mono (λb kq=>tG b ((GY b).2 (.inr ⟨h,x,hx,kq⟩))) hk hO (λ_ _ e=>e)⟩
  ·rw[tG l ((GY l).2 (.inl rfl))];exact hl
 lt:=by
  rintro w O x b ⟨st,pd,L,m,hJ,rfl,hb,hl,hf⟩ kq;rcases(uM (l:=l) (L:=L) (m:=m) hb.fI b).1 kq with rfl|h
  ·exact(aoY.1 hl).1
  ·exact hb.lt h
def one(x:Value):Nat->Option Value:=λh=>if h=5003 then some x else none
theorem JV x b:own (one x) b↔dn x b:=by
 constructor
 ·rintro⟨h,y,hy,hb⟩;simp_all[one]
 ·intro hb;exact⟨5003,x,by rfl,hb⟩
theorem Io{fo fo'}{r0}{l}{fr}{J}{m}{L}{w}{st}{pd}(hf:∀b,fo.f b→fo'.f b)(hl:fo'.f l)(jn:¬fo.f l)
  (hi:Inv fo' m L w) (hJ:J st pd L) (sn:w.heap[l]?=some (.loop {r0 with state:=st,pending:=pd})) (iy:∀t y,(t,y)∈fr->aB w (OO fo' m) m (r0.tmps.getD t undef) y):
  Inv fo (one (x6 l L m)) [(5003,.env (pc r0 l fr J))] w:=by
 have GY:=λb=>uM (l:=l) hi.fI b
 have hO:∀b,OO fo (one (x6 l L m)) b->OO fo' m b:=by
  rintro b (h|h)
  ·rcases(GY b).1 ((JV _ b).1 h)with rfl|h
   ·exact .inr hl
   ·exact .inl h
  ·exact .inr (hf b h)
 refine⟨by simp,?_,?_,?_,λb h=>hi.ej b (hf b h),?_,hi.ef.mono (bK.refl w _) (λb _ hb=>hO b hb)⟩
 ·simp[one]
 ·simp_all[one]
 ·intro h x b hx hb;by_cases e:h=5003
  ·simp[one,if_pos e]at hx;subst hx;rcases(GY b).1 hb with rfl|⟨i,y,hy,x7⟩
   ·omega
   ·exact λh=>hi.others i y b hy x7 (hf b h)
  simp_all[one]
 ·intro h r hr;simp at hr;obtain⟨rfl,rfl⟩:=hr;refine⟨x6 l L m,by rfl,st,pd,L,m,hJ,rfl,⟨hi.nodup,hi.fI,hi.apart,?_,λh r hr=>?_⟩,sn,λt y hy=>(iy t y hy).mono (bK.refl w _) (λb _ hb=>hO b hb) (λ_ _ e=>e)⟩
  ·rintro⟨i,y,hy,hb⟩;exact hi.others i y l hy hb hl
  ·obtain⟨x,hx,hh⟩:=hi.holds h r hr;exact⟨x,hx,hh.mono (λ_ _=>rfl) (bK.refl w _) (λb _ hb=>hO b hb) (λ_ _ e=>e)⟩
theorem GZ{fo}{m1}{r0}{l}{fr}{J}{w}(hi:Inv fo m1 [(5003,.env (pc r0 l fr J))] w) D rr:
  ∃st pd L m,J st pd L/\w.heap[l]?=some (.loop {r0 with state:=st,pending:=pd})/\Inv ⟨λb=>fo.f b\/b=l,D,rr,false⟩ m L w/\(∀t y,(t,y)∈fr->aB w (OO ⟨λb=>fo.f b\/b=l,D,rr,false⟩ m) m (r0.tmps.getD t undef) y)/\
   (∀b,own m1 b↔b=l\/own m b)/\¬fo.f l:=by
 obtain⟨x,hx,st,pd,L,m,hJ,rfl,hb,hl,hf⟩:=hi.holds 5003 _ aoZ;have GY:=λb=>uM (l:=l) hb.fI b
 have eZ:∀b,own m1 b↔b=l\/own m b:=by
  intro b;rw[<-GY b];constructor
  ·rintro⟨h,y,hy,x7⟩;have hk:=hi.fI h y hy;simp_all
  ·intro h;exact⟨5003,_,hx,h⟩
 have afr:∀b,own m1 b->¬fo.f b:=by
  rintro b ⟨h,y,hy,x7⟩;exact hi.others h y b hy x7
 have hO:∀b,OO ⟨λb=>fo.f b\/b=l,D,rr,false⟩ m b->OO fo m1 b:=by
  rintro b (h|h|rfl)
  ·exact .inl ((eZ b).2 (.inr h))
  ·exact .inr h
  ·exact .inl ((eZ _).2 (.inl rfl))
 refine⟨st,pd,L,m,hJ,hl,⟨hb.nodup,hb.fI,hb.apart,?_,?_,?_,hi.ef.mono (bK.refl w _) (λb _ hb=>hO b hb)⟩,λt y hy=>(hf t y hy).mono (bK.refl w _) (λb _ hb=>hO b hb) (λ_ _ e=>e),eZ,afr l ((eZ l).2 (.inl rfl))⟩
 ·rintro h y b hy x7 (FA|rfl)
  ·exact afr b ((eZ b).2 (.inr ⟨h,y,hy,x7⟩)) FA
  ·exact hb.self ⟨h,y,hy,x7⟩
 ·rintro b (FA|rfl)
  ·exact hi.ej b FA
  grind
 ·intro h r hr;obtain⟨y,hy,hh⟩:=hb.holds h r hr;exact⟨y,hy,hh.mono (λ_ _=>rfl) (bK.refl w _) (λb _ hb=>hO b hb) (λ_ _ e=>e)⟩
end
section
variable {P : Program} {n : Nat} {s : St} {Q : AX -> St -> Prop}
def wF:List (Nat×V)->List (Nat×V)->List (Nat×V)
 | [],fr=>fr
 | (t,x)::l,fr=>wF l ((t,x)::vL t fr)
def dz:aI->List (Nat×Nat)
 | []=> []
 | (h,.box (b+1) _ _)::L=>(h,b)::dz L
 | _::L=>dz L
theorem nf{h b}:∀{L},(h,b)∈dz L->∃ty cs,(h,aV.box (b+1) ty cs)∈L
 | [],hm=>by cases hm
 | (k,.box 0 ty cs)::L,hm=>by
   simp_all[dz,nf]
 | (k,.box (c+1) ty cs)::L,hm=>by
   simp[dz]at hm;rcases hm with⟨rfl,rfl⟩|hm
   ·grind
   ·obtain⟨lY,jA,h'⟩:=nf hm;exact⟨lY,jA,aoW _ h'⟩
 | (k,.row ty j xs)::L,hm=>by
   simp_all[dz,nf]
 | (k,.env A)::L,hm=>by
   simp_all[dz,nf]
 | (k,.mp es)::L,hm=>by
   simp_all[dz,nf]
theorem U5{fo m L w}(hi:Inv fo m L w){h x}(hk:h∈(dz L).map (·.1))(hx:m h=some x):∃b,(h,b)∈dz L/\x= .pointer (some ⟨b,0,none⟩):=by
 obtain⟨⟨h',b⟩,hm,rfl⟩:=aoQ.1 hk;obtain⟨ty,cs,nJ⟩:=nf hm;obtain⟨y,hy,bb,kq,cur,rfl,_⟩:=hi.holds _ _ nJ;grind
theorem Le{fo fo' m m' L L' w w'}(hi:Inv fo m L w)(cn:Inv fo' m' L' w')(hl:dz L'=dz L):∀h x,h∈(dz L).map (·.1)->m h=some x->m' h=some x:=by
 intro h x hk hx;obtain⟨b,hb,rfl⟩:=U5 hi hk hx;rw[<-hl]at hb;obtain⟨ty,cs,hm⟩:=nf hb;obtain⟨y,hy,Nc⟩:=cn.holds _ _ hm;obtain⟨bb,kq,cur,rfl,_⟩:=Nc;grind
def Dw:Option Code->AX->Prop
 | some .ret,.ret=>True
 | some (.exit i),.exit j=>i=j
 | some (.goto i),.goto j=>i=j
 | _,_=>False
def Ip(hs:List Nat)(L0 L':aI)(Hn:Prop)(fr:List (Nat×V))(K:AX->St->Prop)(x:AX)(s:St):Prop:=
 match x with
 | .normal=>(s.pick [] hs).on (keys (s.pick [] hs).L)=true/\(s.pick [] hs).L=L'/\Hn
 | .ix _=>False
 | x=>(s.pick [] hs).on (keys (s.pick [] hs).L)=true/\dz (s.pick [] hs).L=dz L0/\K x ⟨fr,(s.pick [] hs).L⟩
theorem Rr{ps:List Tmp}{xs}:∀(T:Array Value),(((ps.zip xs).foldl (λtmps (p:Tmp×Value)=>tmps.setIfInBounds p.1 p.2) T)).size=T.size:=by
 induction ps.zip xs with
 | nil=>simp
 | cons p l ih=>grind
theorem Iq{w}{O}{m}:∀(ps:List Tmp) xs ys (T:Array Value) fr,xs.length=ps.length→ys.length=ps.length→(∀p:Tmp,p∈ps→p < T.size)→
  (∀(j:Nat) x y,xs[j]?=some x->ys[j]?=some y->aB w O m x y)->(∀t y,(t,y)∈fr->t<T.size/\aB w O m (T.getD t undef) y)->
  ∀t y,(t,y)∈wF (ps.zip ys) fr->t<T.size/\aB w O m (((ps.zip xs).foldl (λtmps (p:Tmp×Value)=>tmps.setIfInBounds p.1 p.2) T).getD t undef) y
 | [],_,_,T,fr,_,_,_,_,hf,t,y,h=>by simpa[wF]using hf t y h
 | p::ps,[],_,_,_,h,_,_,_,_,_,_,_=>by grind
 | p::ps,x::xs,[],_,_,_,h,_,_,_,_,_,_=>by grind
 | p::ps,x::xs,z::ys,T,fr,h1,h2,hp,hr,hf,t,y,h=>by
   simp only[List.zip_cons_cons,wF,List.foldl_cons]at h⊢;have key:=Iq ps xs ys (T.setIfInBounds p x) ((p,z)::vL p fr) (by grind) (by grind) (λq hq=>by grind) (λj x y hx hy=>hr (j+1) x y (by grind) (by grind)) (λt y hm=>by
    rcases ao0.1 hm with e|hm
    ·simp only[aoI]at e;obtain⟨rfl,rfl⟩:=e;have aw:=hp t aoZ;refine⟨by grind,?_⟩;simpa[Array.getD,aw]using hr 0 x y rfl rfl
    ·obtain⟨hm,bR⟩:=se hm;have:(T.setIfInBounds p x).getD t undef=T.getD t undef:=by
      have T0:¬p=t:=λe=>bR e.symm
      simp_all
     grind) t y h
   grind
theorem Mv{r0:Loop}{l}{fr}{J J' JB}{args}{L0}{K}
  (Ir:gN r0.assign=false/\gN r0.body=false) (hT:r0.tmps.size=n) (Is:args.length=r0.params.size) (SI:∀p∈r0.params.toList,p<n) (ha:V.dE [] args=true)
  (iy:∀t y,(t,y)∈fr->t<n/\V.on ((dz L0).map (·.1)) y=true)
  (hJ:∀st pd L,J st pd L->st= .ready/\pd=none/\dz L=dz L0)
  (ag6:∀st pd L,J st pd L->∃L' Hn,(Hn->J' .ready none L'/\dz L'=dz L0)/\cV P n r0.assign ⟨wF (r0.params.toList.zip args) fr,L⟩ (AX.then (λs2=>cV P n r0.body s2 (Ip (keys L0) L0 L' Hn fr K)) (λ_ _=>False)))
  (gv:(keys L0).Nodup)
  (hJB:∀pd x L,Dw pd x->dz L=dz L0->K x ⟨fr,L⟩->JB .done pd L):
  tF P l args [(5003,.env (pc r0 l fr J))] (YR (pc r0 l fr J') (pc r0 l fr JB)):=by
 intro fo m1 w xs hi hx;obtain⟨st,pd,L,m,hj,sn,cn,hf,eZ,jn⟩:=GZ hi [] (some l);obtain⟨rfl,rfl,od⟩:=hJ _ _ _ hj;obtain⟨L',Hn,Ol,E3⟩:=ag6 _ _ _ hj;have dZ:xs.size=r0.params.size:=by rw[hx.1,Is]
 let Lf:FO:=⟨λb=>fo.f b\/b=l,[],some l,false⟩
 have hO:∀b,OO Lf m b↔OO fo m1 b:=by
  grind[OO]
 refine⟨.round l r0.fn ((r0.params.zip xs).foldl (λtmps (t,a)=>tmps.setIfInBounds t a) r0.tmps) r0.assign r0.body,?_,?_⟩
 ·simp_all[Instr.yield,Instr.getLoop,Sem.run_bind,xP]
 ·show RoundIn Fence.wide 0 P l r0.fn _ r0.assign r0.body w _;have ag7:(r0.params.zip xs).foldl (λtmps (t,a)=>tmps.setIfInBounds t a) r0.tmps=(r0.params.toList.zip xs.toList).foldl (λtmps (p:Tmp×Value)=>tmps.setIfInBounds p.1 p.2) r0.tmps:=by
   rw[<-Array.foldl_toList,Array.toList_zip]
  rw[ag7];refine roundIn_of_wpIn (F:=Fence.wide) trivial ?_;have g:G Lf n m ⟨wF (r0.params.toList.zip args) fr,L⟩ {tmps:=(r0.params.toList.zip xs.toList).foldl (λtmps (p:Tmp×Value)=>tmps.setIfInBounds p.1 p.2) r0.tmps,defers:=[]} w:=by
   refine⟨by simp_all[Rr],λt y hy=>?_,cn,rfl⟩;have:=Iq (w:=w) (O:=OO Lf m) (m:=m) r0.params.toList xs.toList args r0.tmps fr (by omega) (by omega) (λp hp=>by grind)
    (λj x y hxj hyj=>((hx.2 j x y (by grind) hyj).on (ks:=[]) (m':=m) (by simp) (fQ ha y (aoO hyj))).mono (bK.refl w _) (λb _ hb=>(hO b).1 hb) (λ_ _ e=>e))
    (λt y hy=>⟨by grind,hf t y hy⟩) t y hy
   grind
  have h1:=eg _ _ _ E3 Lf m _ w (λh=>by grind) g;refine Code.wpIn_mono (F:=Fence.wide.inRound l) ?_ h1;rintro e1 a1 w1 ⟨ms1,m2,x1,s1,lZ,Oy,g1,iQ,Co⟩;have ag8:¬own m l:=by
   rintro⟨i,y,hy,hb⟩;exact cn.others i y l hy hb (.inr rfl)
  have ag9:w1.heap[l]?=some (.loop {r0 with state:= .ready,pending:=none}):=by
   rw[Co.block l (aoY.1 sn).1 ag8];omega
  cases e1 with
  | normal=>
    cases x1<;>simp only[bF]at iQ
    simp only[AX.then]at Oy;show ∃w2,(Instr.beginRound l).run P w1= .ok () w2/\_;refine⟨nL w1 l (.loop {r0 with state:= .busy,pending:=none}),?_,?_⟩
    ·simp_all[Instr.beginRound,Instr.getLoop,Sem.run_bind,xP,A7]
    ·have sW:l<w1.heap.size:=(aoY.1 ag9).1;have g2:=g1.others (w':=nL w1 l (.loop {r0 with state:= .busy,pending:=none})) (by simp[jr,aoT]) (λb _ hb=>qM (λe=>hb (.inl (.inr e))));have h2:=eg _ _ _ Oy (Lf.mark ms1) m2 _ _ (λh=>by grind) g2;refine Code.wpIn_mono (F:=Fence.wide.inRound l) ?_ h2;rintro e3 a3 w3 ⟨ms3,m3,x3,s3,hm3,SJ,g3,rh,x8⟩;rw[FO.Kx]at g3 rh;generalize Yp:Lf.mark (ms3++ms1)=Yu at g3 rh;have Oz:∀b,fo.f b->Yu.f b:=λb h=>by subst Yp;exact .inl (.inl h)
     have hl4:Yu.f l:=by subst Yp;exact .inl (.inr rfl)
     have afs:¬own m2 l:=by
      rintro⟨i,y,hy,hb⟩;exact g1.inv.others i y l hy hb (.inl (.inr rfl))
     have U6:w3.heap[l]?=some (.loop {r0 with state:= .busy,pending:=none}):=by
      rw[x8.block l (by simp_all[jr]) afs];exact KY sW
     have hl3:l < w3.heap.size:=(aoY.1 U6).1;have fin:∀(st:LoopState) (pd:Option Code) (J2:LoopState→Option Code→aI→Prop),(s3.pick [] (keys L0)).on (keys (s3.pick [] (keys L0)).L)=true→dz (s3.pick [] (keys L0)).L=dz L0→J2 st pd (s3.pick [] (keys L0)).L→
       ∃m5,Inv fo m5 [(5003,.env (pc r0 l fr J2))] (nL w3 l (.loop {r0 with state:=st,pending:=pd}))/\Step w (own m1) (nL w3 l (.loop {r0 with state:=st,pending:=pd})) (own m5):=by
      intro st pd J2 ij aha hJ2;obtain⟨m4,g4,st4⟩:=Wk.pick [] (keys L0) (by simp) gv ij Yu m3 a3 w3 g3;have g5:=g4.others (w':=nL w3 l (.loop {r0 with state:=st,pending:=pd})) (by simp[jr,aoT]) (λb _ hb=>qM (λe=>hb (e ▸ hl4)));have ahb:=Le cn g5.inv (aha.trans od.symm);have ahc:∀b,b<w.heap.size->own m4 b->own m b:=λb hb h4=>by
       have h3:=st4.owned b (ao3 hb (apr Co.size (by have:=x8.size;grind[jr]))) h4;have h2:=x8.owned b (by rw[jr];exact ao3 hb Co.size) h3;exact Co.owned b hb h2
      have ti:∀b,b<w.heap.size->¬own m b->b≠l->(nL w3 l (.loop {r0 with state:=st,pending:=pd})).heap[b]?=w.heap[b]?:=by
       intro b hb ho tG;have C2:=ao3 hb Co.size;rw[qM tG,x8.block b (by simp_all[jr]) (λh=>ho (Co.owned b hb h)),qM tG];exact Co.block b hb ho
      have kV:w.heap.size<=(nL w3 l (.loop {r0 with state:=st,pending:=pd})).heap.size:=by
       rw[jr];exact apr Co.size (by have:=x8.size;grind[jr])
      have cQ:bK w (OO Lf m) (nL w3 l (.loop {r0 with state:=st,pending:=pd})):=⟨kV,λb hb ho=>ti b hb (λh=>ho (.inl h)) (λe=>ho (.inr (.inr e)))⟩
      have hOs:∀b,b<w.heap.size->OO Yu m4 b->OO Lf m b:=by
       rintro b hb (h|h)
       ·exact .inl (ahc b hb h)
       ·subst Yp;rcases h with h|h
        ·exact .inr h
        ·exfalso;rcases ao1.1 h with h|h
         ·have h1:=(hm3.2 b h).1;rw[jr]at h1;have:=Co.size;omega
         ·have:=(lZ.2 b h).1;omega
      have Nj:(nL w3 l (.loop {r0 with state:=st,pending:=pd})).heap[l]?=some (.loop {r0 with state:=st,pending:=pd}):=KY hl3;refine⟨_,Io (fo:=fo) (fo':=Yu) Oz hl4 jn g5.inv hJ2 Nj (λt y hy=>?_),?_⟩
      ·exact((hf t y hy).on ahb (by grind)).mono cQ hOs (λ_ _ e=>e)
      ·refine⟨?_,?_,?_,kV,λb hb ho=>?_,λb hb h5=>?_⟩
       ·show w3.os=w.os;exact x8.os.trans Co.os
       ·show w3.tape=w.tape;exact x8.tape.trans Co.tape
       ·show w3.output=w.output;exact x8.output.trans Co.output
       ·grind
       ·rw[JV,uM g5.inv.fI]at h5;grind
     have G0:∀jump:Option Code,(Instr.endRound l jump).run P w3= .ok (.bool jump.isNone) (nL w3 l (.loop {r0 with state:=if jump.isNone then .ready else .done,pending:=jump})):=by
      intro jump;simp[Instr.endRound,Instr.getLoop,Sem.run_bind,xP U6 (by simp),A7 U6 (by simp)]
     have U7:∀(jump:Code) (x:AX),Dw (some jump) x→(s3.pick [] (keys L0)).on (keys (s3.pick [] (keys L0)).L)=true∧dz (s3.pick [] (keys L0)).L=dz L0∧K x ⟨fr,(s3.pick [] (keys L0)).L⟩→
       ∃v w',(Instr.endRound l (some jump)).run P w3= .ok v w'/\mv fo m1 w (YR (pc r0 l fr J') (pc r0 l fr JB)) (.returned v) w':=by
      rintro jump x hj ⟨q1,q2,q3⟩;obtain⟨m5,i5,s5⟩:=fin .done (some jump) JB q1 q2 (hJB _ _ _ hj q2 q3);exact⟨_,_,G0 _,m5,.ret (oD false),_,.inr ⟨rfl,rfl⟩,.d _ _ (.v _ rfl),i5,s5⟩
     cases e3 with
     | normal=>
       cases x3<;>simp only[bF]at rh
       obtain⟨q1,q2,q3⟩:=SJ;obtain⟨n1,n2⟩:=Ol q3;obtain⟨m5,i5,s5⟩:=fin .ready none J' q1 (by grind) (by grind);exact⟨_,_,G0 none,m5,.ret (oD true),_,.inl ⟨rfl,rfl⟩,.d _ _ (.v _ rfl),i5,s5⟩
     | ret=>
       cases x3<;>simp only[bF]at rh
       exact U7 .ret .ret trivial SJ
     | exit i=>
       cases x3<;>simp only[bF]at rh
       subst rh;exact U7 (.exit i) (.exit i) rfl SJ
     | goto i=>
       cases x3<;>simp only[bF]at rh
       subst rh;exact U7 (.goto i) (.goto i) rfl SJ
     | panic ch=>cases x3<;>simp only[bF]at rh;exact SJ.elim
     | outgrown=>grind[bF]
  | exit i=>cases x1<;>simp only[bF]at iQ;simp_all
  | goto i=>cases x1<;>simp only[bF]at iQ;simp_all
  | ret=>cases x1<;>simp only[bF]at iQ;simp_all
  | panic ch=>cases x1<;>simp only[bF]at iQ;simp_all
  | outgrown=>simp_all[bF]
end
section
variable {P : Program} {n : Nat} {s : St} {Q : AX -> St -> Prop}
def OA(w:World)(o:Obj):World:={w with heap:=w.heap.push o}
theorem Dx(w:World)(o:Obj):(OA w o).heap.size=w.heap.size+1:=by
 show(w.heap.push o).size=_;rw[Array.size_push]
theorem Lg(w:World)(o:Obj):(OA w o).heap[w.heap.size]?=some o:=by
 show(w.heap.push o)[w.heap.size]?=_;rw[Array.getElem?_push,if_pos rfl]
theorem SL{w:World}{o:Obj}{b:Nat}(h:b<w.heap.size):(OA w o).heap[b]?=w.heap[b]?:=by
 show(w.heap.push o)[b]?=_;rw[Array.getElem?_push,if_neg (by omega)]
theorem perm_keys{L L':aI}(h:L.Perm L'):(keys L).Perm (keys L'):=h.map _
end
section
variable {P : Program} {n : Nat} {s : St} {Q : AX -> St -> Prop}
theorem OB{g:Operand}{ps:List Tmp}{assign body:Code}:cV P n (.rangeFunc g ps.toArray assign body) s Q=av P n (.rangeFunc g ps.toArray assign body) s Q:=by simp[cV]
attribute [simp] yv OB Ip wF dz
end
section
variable {P : Program} {n : Nat} {s : St} {Q : AX -> St -> Prop} {L : aI}
mutual
theorem Lh(h:Nat):∀x:V,V.kill h (V.kill h x)=V.kill h x
 | .bp i o=>by simp only[V.kill];split<;>simp[V.kill, *]
 | .rv i=>by simp only[V.kill];split<;>simp[V.kill, *]
 | .ep i k x y=>by simp only[V.kill];split<;>simp[V.kill, *]
 | .fu fn f c=>by simp only[V.kill,rN h f,rN h c]
 | .agg cs=>by simp only[V.kill,rN h cs]
 | .bA cs=>by simp only[V.kill,rN h cs]
 | .gd b x=>by simp only[V.kill,Lh h x]
 | .d x=>rfl
 | .rp cs=>rfl
 | .sv i n=>by simp only[V.kill];split<;>simp[V.kill, *]
 | .kn Q=>rfl
 | .any=>rfl
theorem rN(h:Nat):∀l:List V,V.dU h (V.dU h l)=V.dU h l
 | []=>rfl
 | x::l=>by simp only[V.dU,Lh h x,rN h l]
end
theorem Inv.perm{fo m L L' w}(hp:L.Perm L')(h:Inv fo m L w):Inv fo m L' w:=
 ⟨(perm_keys hp).nodup_iff.1 h.nodup,λi x hx=>(perm_keys hp).mem_iff.1 (h.fI i x hx),h.apart,h.others,h.ej,λi r hr=>h.holds i r (hp.mem_iff.2 hr),h.ef⟩
end
theorem aT:prog.follows .mixedOrders=true:=by rfl
def bJ(n lo hi:Int):Bool:=decide (lo<=n)&&decide (n<=hi)
theorem zi{n lo hi}:bJ n lo hi=true↔lo<=n/\n<=hi:=by simp[bJ]
def gQ(n:Int):Bool:=bJ n (-32768) 32767
theorem bz n lo hi:Pure prog 57 [iD n,iD lo,iD hi] (oD (bJ n lo hi)):=by
 unfold bJ;refine Pure.run func57 rfl (by simp) ?_;simp
theorem ng n:Pure prog 56 [iD n] (oD (gQ n)):=by
 unfold gQ bJ;refine Pure.run func56 rfl (by simp) ?_;simp
def cC{α:Type}(p:α->Bool)(l:List α):Bool:=l.all p
theorem gZ{α:Type}(p:α->Bool):cC p []=true:=rfl
theorem fX{α} p pre(x:α):cC p (pre++ [x])=(cC p pre&&p x):=by simp[cC]
theorem eV{α p l pre post}{x:α}(h:l=pre++x::post)(hH:cC p pre=true):cC p l=(p x&&cC p post):=by
 simp_all[cC]
theorem abm{α p}{l:List α}:cC p l=true↔∀x∈l,p x=true:=by simp[cC]
theorem jg l(hl:l.length<=1000000000000000):Pure prog 53 [.d (.sl (aC l))] (oD (cC gQ l)):=by
 refine Pure.run func53 rfl (by simp) ?_;simp;refine av.fj [0,3] l (λpre=> [(3,iD pre.length)]) (λ_=> []) (λpre=>cC gQ pre=true) (by rfl) (by omega) (by simp[gZ]) ?_ ?_
 ·rintro pre x post bx hH aw bm a4;have bV:=eV bx hH;clear bx;simp[*];refine au.bB rfl (ng x) (by simp) rfl (by simp) rfl ?_;simp;simp_all[fX]
 ·simp
def Dy(c:Int):Bool:=bJ c 97 122
def Dz(c:Int):Bool:=bJ c 65 90
def DA(c:Int):Bool:=bJ c 48 57
def U8(c:Int):Bool:=Dy c||Dz c||DA c||c==45||c==39
def abn(c:UInt8):Bool:=!((decide ((c.toNat:Int)<32)||decide ((c.toNat:Int) > 126))&&(c.toNat:Int) !=10)
def OD(c:UInt8):Bool:=U8 c.toNat&&!Dz c.toNat
def uN(s:ByteArray):Bool:=cC abn s.data.toList&&decide (s.size<=1024)
def xa(s:ByteArray):Bool:=decide (1<=s.size)&&decide (s.size<=9)&&(Dy (s.data.toList[0]?.getD 0).toNat||DA (s.data.toList[0]?.getD 0).toNat)&&cC OD s.data.toList
theorem u5 c:Pure prog 261 [.d (.v (.int .u8 c))] (oD (Dy c)):=by
 unfold Dy bJ;refine Pure.run func261 rfl (by simp) ?_;simp
theorem u6 c:Pure prog 264 [.d (.v (.int .u8 c))] (oD (Dz c)):=by
 unfold Dz bJ;refine Pure.run func264 rfl (by simp) ?_;simp
theorem u7 c:Pure prog 262 [.d (.v (.int .u8 c))] (oD (DA c)):=by
 unfold DA bJ;refine Pure.run func262 rfl (by simp) ?_;simp
theorem js c:Pure prog 263 [.d (.v (.int .u8 c))] (oD (U8 c)):=by
 unfold U8;refine Pure.run func263 rfl (by simp) ?_;simp
 repeat' (first
  | (refine pC (u5 _) ?_<;>(try simp))
  | (refine au.eL rfl (λh=>u6 _) rfl (by first|rfl) (by simp) (by simp) rfl ?_<;>(try simp))
  | (refine au.eL rfl (λh=>u7 _) rfl (by rfl) (by simp) (by simp) rfl ?_<;>(try simp))
  )
theorem OE s(hs:s.size<=1000000000000000):Pure prog 170 [.d (.v (.string s))] (oD (uN s)):=by
 have dZ:s.data.toList.length=s.size:=rfl;unfold uN;refine Pure.run func170 rfl (by simp) ?_;simp;refine av.fj [0,3] s.data.toList (λpre=> [(3,iD pre.length)]) (λ_=> []) (λpre=>cC abn pre=true) (by rfl) (by omega) (by simp[gZ]) ?_ ?_
 ·rintro pre x post bx hH aw bm a4;have bV:=eV bx hH;have sq:s.data[pre.length]'aw=x:=by grind
  simp;grind[abn,fX]
 ·intro hH;simp[*];omega
theorem OF(s:ByteArray)(hs:s.size<=1000000000000000):Pure prog 227 [.d (.v (.string s))] (oD (xa s)):=by
 have dZ:s.data.toList.length=s.size:=rfl;unfold xa;refine rn func227 ?_;simp[-cB,f227]
 repeat' (first
  | (with_reducible refine And.intro ?_ ?_)
  | ((first|(refine ax (λh=>?_) (λh=>?_)<;>(try simp at h))|refine pC (u5 _) ?_|refine pC (u7 _) ?_|refine lC (u5 _) ?_|refine lC (u7 _) ?_|refine pG (u5 _) ?_|refine pG (u7 _) ?_)<;>(try simp[-cB, *]))
  | (with_reducible intro _))
 all_goals first|omega|assumption|skip
 ·generalize Dy ↑(s.data[0]?.getD 0).toNat=p at *;generalize DA ↑(s.data[0]?.getD 0).toNat=q at *;rename_i h1 h2 h3;rcases h with(h|h)|⟨h,h'⟩
  ·omega
  ·omega
  ·simp[h,h']at h3
 ·refine av.fj [0,3] s.data.toList (λpre=> [(3,iD pre.length)]) (λ_=> []) (λpre=>cC OD pre=true) (by rfl) (by omega) (by simp[gZ]) ?_ ?_
  ·rintro pre x post bx hH aw bm a4;have bV:=eV bx hH;have sq:s.data[pre.length]'aw=x:=by simpa using bm
   rw[dZ]at aw;clear bx bm;have dH:cC OD (pre++ [x])=OD x:=by simp[fX,hH]
   have hx:OD x=(U8 x.toNat&&!Dz x.toNat):=rfl;simp[-cB, *]
   repeat' (first
    | (with_reducible refine And.intro ?_ ?_)
    | ((first|(refine ax (λh=>?_) (λh=>?_)<;>(try simp at h))|refine pC (js _) ?_|refine pC (u6 _) ?_|refine lC (js _) ?_|refine lC (u6 _) ?_|refine pG (js _) ?_|refine pG (u6 _) ?_)<;>(try simp[-cB, *]))
    | (with_reducible intro _))
   all_goals (first|assumption|omega|(rw[aS];omega)|(simp_all;done)|grind|skip)
  ·intro hH;simp[*]
   all_goals (first|assumption|omega|(rw[aS];omega)|(simp_all;done)|grind|skip)
def pP(t:ar)(n:Int)(none:Bool):Bool:=bJ n 0 (t.gy.length-1)||(none&&decide (n= -1))
def ox(t:ar)(n:Int)(none:Bool):Bool:=(none&&decide (n= -1))||(bJ n 0 (t.Params.length-1)&&decide (t.Params[n.toNat]?.getD 0=0))
def gW(t:ar)(n:Int):Bool:=bJ n 1 (t.az.length-1)
theorem mF t(ht:t.wf) n none:Pure prog 169 [.agg (t.enc.map .d),iD n,oD none] (oD (pP t n none)):=by
 have hlen:t.gy.length<=1000000000000000:=by grind[ar.wf]
 unfold pP;refine Pure.run func169 rfl (by simp) ?_;simp
 repeat' (first
  | (with_reducible refine And.intro ?_ ?_)
  | (refine pC (bz _ _ _) ?_<;>(try simp[*]))
  | (with_reducible intro _))
 all_goals (first|grind[aS])
theorem jP t(ht:t.wf) n:Pure prog 173 [.agg (t.enc.map .d),iD n] (oD (gW t n)):=by
 have hlen:t.az.length<=1000000000000000:=by grind[ar.wf]
 unfold gW;refine Pure.run func173 rfl (by simp) ?_;simp
 repeat' (first
  | (with_reducible refine And.intro ?_ ?_)
  | (refine pC (bz _ _ _) ?_<;>(try simp))
  | (with_reducible intro _))
 grind[aS,bJ]
theorem oS t(ht:t.wf) n none:Pure prog 178 [.agg (t.enc.map .d),iD n,oD none] (oD (ox t n none)):=by
 have hlen:t.Params.length<=1000000000000000:=by grind[ar.wf]
 unfold ox;refine Pure.run func178 rfl (by simp) ?_;simp[f178]
 repeat' (first
  | (with_reducible refine And.intro ?_ ?_)
  | (refine au.eL rfl (λh=>bz _ _ _) rfl (by first|rfl) (by simp) (by simp) rfl ?_<;>(try simp[*]))
  | (with_reducible intro _))
 all_goals (first|assumption|omega|(rw[aS];omega)|grind[bJ]|skip)
def rO(l:List ByteArray)(OG:Int):Bool:=cC xa l&&decide ((l.length:Int)<=OG)
theorem zQ l(hl:l.length<=1000000000000000)(hs:∀x∈l,x.size<=1000000000000000) OG:Pure prog 172 [.d (.sl (iO l)),iD OG] (oD (rO l OG)):=by
 unfold rO;refine Pure.run func172 rfl (by simp) ?_;simp[f172];refine av.fj [0,1,5] l (λpre=> [(5,iD pre.length)]) (λ_=> []) (λpre=>cC xa pre=true) (by rfl) (by omega) (by simp[gZ]) ?_ ?_
 ·rintro pre x post bx hH aw bm a4;have bV:=eV bx hH;have hx:=OF x (hs x (by grind));have dH:cC xa (pre++ [x])=xa x:=by simp[fX,hH]
  clear bx;simp[-cB, *]
  repeat' (first
   | ((first|(refine ax (λh=>?_) (λh=>?_)<;>(try simp at h))|refine pC hx ?_)<;>(try simp[-cB, *]))
   )
  all_goals (first|assumption|omega|(rw[aS];omega)|(simp_all;done)|grind|skip)
 ·intro hH;simp[*]
def sr(t:ar)(x:bg):Bool:=
 decide (x.la=0)&&decide (x.Text= -1)&&decide (x.ae=0)&&decide (x.Flags=0)&&!x.Room&&decide (x.aJ.length=t.aJ.length)&&decide (x.Words.length+x.uK.length+x.mh.length=0)&&cC (λn=>decide (n=0)) x.aJ
set_option maxRecDepth 20000 in
theorem Mw(t:ar)(ht:t.wf)(x:bg)(hx:x.wf):Pure prog 171 [.agg (t.enc.map .d),.agg (x.enc.map .d)] (oD (sr t x)):=by
 have cG:=hx;simp[bg.wf]at cG;unfold sr;refine rn func171 ?_;simp[-cB,f171]
 repeat' (first
  | (with_reducible refine And.intro ?_ ?_)
  | ((first|(refine ax (λh=>?_) (λh=>?_)<;>(try simp at h))|refine pC (bz _ _ _) ?_|refine lC (bz _ _ _) ?_|refine pG (bz _ _ _) ?_)<;>(try simp[-cB, *]))
  | (with_reducible intro _))
 obtain⟨-,-,-,-,Oy,-,hq2,-,SJ,-,hq4,-⟩:=cG
 all_goals (first|assumption|omega|(rw[aS];omega)|(simp_all;done)|grind|skip)
 have hz:decide (x.Words=[])=true/\decide (x.uK=[])=true/\decide (x.mh=[])=true:=by
  have h1:x.Words.length=0:=by omega
  have h2:x.uK.length=0:=by omega
  have h3:x.mh.length=0:=by omega
  simp[apw]at h1 h2 h3;simp[h1,h2,h3]
 have hp:decide (x.aJ.length=t.aJ.length)=true:=by simp;omega
 refine av.fj [3,5] x.aJ (λpre=> [(5,iD pre.length)]) (λ_=> []) (λpre=>cC (λn=>decide (n=0)) pre=true) (by rfl) (by omega) (by simp[gZ]) ?_ ?_
 ·rintro pre x1 post bx hH aw bm a4;have bV:=eV bx hH;have dH:cC (λn=>decide (n=0)) (pre++ [x1])=decide (x1=0):=by simp[fX,hH]
  clear bx h;simp[-cB, *]
  repeat' (first
   | (with_reducible refine And.intro ?_ ?_)
   | ((first|(refine ax (λh=>?_) (λh=>?_)<;>(try simp at h))|refine pC (js _) ?_|refine lC (js _) ?_|refine pG (js _) ?_)<;>(try simp[-cB, *]))
   | (with_reducible intro _))
  all_goals (first|assumption|omega|(rw[aS];omega)|(simp_all;done)|grind|skip)
 ·intro hH;clear h;simp[*]
def kZ(n:Int):Int:=2^(min n.toNat 16)
theorem Iu n:Pure prog 55 [iD n] (iD (kZ n)):=by
 refine Pure.run func55 rfl (by simp) ?_;simp;refine av.cI [0,3,4] (min n.toNat 16) (λi=> [(3,iD (2^i)),(4,iD i)]) (λ_=> []) (λ_=>True) (by rfl) (by simp) ?_;intro i hi _;have lg:i<=16:=by omega
 have hp:(2:Int)^i<=65536/\(0:Int)<2^i:=by
  have:=apG (n:=2) (by decide) lg;grind
 simp;grind[aS,kZ,min]
end Go.Ab

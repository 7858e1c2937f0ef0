/-
 HK texts Y Z V T Gs Q Lp Wr Fam Pn Rf Rg Rh Ri Sc ama,one behind Cb other.
-/
import Derived.Test.YtmhnopomnpgcjaaGreatDoorMg2
import Derived.ChangeShapes
import Derived.DataReads
import Derived.SizedLaws
import Derived.Carry
import Derived.OpenShut
import Derived.ChangeOld
import Derived.JoinedCond
import Derived.Deep.CondSized
import Derived.Test.YtmhnopomnpgcjaaGreatDoorProg
import Derived.KernelRfl
import Derived.RangeFuncIn
import Derived.Lib.Builder
import Derived.Laws.Externs
set_option linter.unusedSimpArgs false
set_option linter.unusedVariables false
namespace Go.Ab
open Go.ChangeShapes Go.WideShapes Go.RowKit
def je:Option TypeDesc->Bool
 | some .bool|some (.int _)|some .string|some (.slice _)|some (.struct _)|some (.array _ _)=>false
 | _=>true
inductive cY(P:Program):TypeId->List D->Prop
 | bool {t:TypeId} (b:Bool) (u:P.underlying t=some .bool):cY P t [.v (.bool b)]
 | int {t:TypeId} {k:IntKind} (n:Int) (u:P.underlying t=some (.int k)) (h:aM k n):cY P t [.v (.int k n)]
 | str {t:TypeId} (s:ByteArray) (u:P.underlying t=some .string) (h:s.size<=140737488351232):cY P t [.v (.string s)]
 | sl {t e:TypeId} (xs:List (List D)) (u:P.underlying t=some (.slice e)) (hx:∀(i:Nat) (x:List D),xs[i]?=some x->cY P e x) (hl:xs.length<=9223372036854775807) (hw:xs.length *P.bytesOf e<=140737488351232):cY P t [.sl xs]
 | struct {t:TypeId} {fs:Array Field} (ew:List (List D)) (u:P.underlying t=some (.struct fs)) (hl:ew.length=fs.size)
   (h:∀(i:Nat) (f:Field) (ys:List D),fs[i]?=some f->ew[i]?=some ys->cY P f.type ys):cY P t ew.flatten
 | arr {t e:TypeId} {n:Nat} (ew:List (List D)) (u:P.underlying t=some (.array n e)) (hl:ew.length=n)
   (h:∀(i:Nat) (ys:List D),ew[i]?=some ys->cY P e ys):cY P t ew.flatten
 | other {t:TypeId} (y:D) (u:je (P.underlying t)=true):cY P t [y]
mutual
def bD:D->Nat
 | .v (.string s)=>s.size+1
 | .v _=>1
 | .sl xs=>mZ xs+1
 | .uB _ _ _=>1
def iI:List D->Nat
 | []=>0
 | x::l=>bD x+iI l
def mZ:List (List D)->Nat
 | []=>0
 | x::l=>iI x+mZ l
end
mutual
def eQ{H:Type}:DataW H->Nat
 | .lit (.string bytes)=>bytes.length+1
 | .lit _=>1
 | .nil=>1
 | .ptr d=>eQ d+1
 | .slice elems spare=>lr elems+lr spare+1
 | .agg parts=>lr parts+1
 | .iface _ d=>eQ d+1
 | .map entries=>r7 entries+1
 | .held _=>1
def lr{H:Type}:List (DataW H)->Nat
 | []=>0
 | d::r=>eQ d+lr r
def r7{H:Type}:List (Lit×DataW H)->Nat
 | []=>0
 | x::r=>Dw x+r7 r
def Dw{H:Type}:Lit×DataW H->Nat
 | (.string bytes,d)=>bytes.length+eQ d+1
 | (_,d)=>eQ d+1
end
theorem fW{H}(d:DataW H):1<=eQ d:=by
 cases d with
 | lit l=>cases l<;>simp[eQ]
 | nil=>simp[eQ]
 | ptr d=>simp[eQ]
 | slice elems spare=>simp[eQ]
 | agg parts=>simp[eQ]
 | iface t d=>simp[eQ]
 | map entries=>simp[eQ]
 | held h=>simp[eQ]
theorem adY l r:iI (l++r)=iI l+iI r:=by
 induction l with
 | nil=>simp[iI]
 | cons x l ih=>grind[iI]
theorem E3{H}:∀l r,l.length=r.length->(∀(i:Nat) x (d:DataW H),l[i]?=some x->r[i]?=some d->iI x<=eQ d)->mZ l<=lr r
 | [],[],_,_=>by simp[mZ]
 | x::l,d::r,h,hb=>by
   have h0:=hb 0 x d rfl rfl;have h1:=E3 l r (by grind) (λi x d hx hd=>hb (i+1) x d (by grind) (by grind));grind[mZ,lr]
 | [],_::_,h,_=>by grind
 | _::_,[],h,_=>by grind
theorem F2 l:iI l.flatten=mZ l:=by
 induction l with
 | nil=>rfl
 | cons x l ih=>simp_all[adY,mZ]
theorem Lj{a:Addr}{i}(h:a.spot=none):a.add i=⟨a.block,a.off+i,none⟩:=by
 obtain⟨b,o,s⟩:=a;simp_all[Addr.add]
def Dx(P:Program):Nat->List Field->Option Nat
 | o,[]=>some o
 | o,f::fs=>if f.offset=o then Dx P (o+P.cellsOf f.type) fs else none
def U7(P:Program):Bool:=(List.range P.types.size).all λt=>match P.underlying t with
 | some (.slice e)=>decide (0<P.cellsOf e)&&decide (e<P.types.size)
 | some (.struct fs)=>(Dx P 0 fs.toList==some (P.cellsOf t))&&fs.toList.all λf=>decide (f.type<P.types.size)
 | some (.array n e)=>(P.cellsOf t==n *P.cellsOf e)&&decide (e<P.types.size)
 | _=>true
def gy(w:World)(cs:List Value)(ys:List D):Prop:=
 cs.length=ys.length/\∀(j:Nat) (x:Value) (y:D),cs[j]?=some x->ys[j]?=some y->x.oneCell'=true/\eT w (λ_=>False) x y
theorem gy.nil w:gy w [] []:=⟨rfl,by simp⟩
theorem gy.one{w x y}(h1:x.oneCell'=true)(h:eT w (λ_=>False) x y):gy w [x] [y]:=by
 refine⟨rfl,λj x' y' hx hy=>?_⟩;grind
theorem gy.append{w c1 c2 y1 y2}(h1:gy w c1 y1)(h2:gy w c2 y2):gy w (c1++c2) (y1++y2):=by
 refine⟨by simp[h1.1,h2.1],λj x y hx hy=>?_⟩;by_cases hj:j<c1.length
 ·rw[apQ hj]at hx;rw[apQ (by rw[<-h1.1];exact hj)]at hy;exact h1.2 j x y hx hy
 ·rw[ap6 (by omega)]at hx;rw[ap6 (by rw[<-h1.1];omega)]at hy;rw[<-h1.1]at hy;exact h2.2 _ x y hx hy
theorem F3{P}{w}{cs:List Value}:∀(Hh:Nat→Field→List D→Prop) fs o,Dx P o fs=some cs.length→
  (∀i f,fs[i]?=some f->∃ys,gy w ((cs.drop f.offset).take (P.cellsOf f.type)) ys/\Hh i f ys)->
  ∃ew:List (List D),ew.length=fs.length/\gy w (cs.drop o) ew.flatten/\∀i f ys,fs[i]?=some f->ew[i]?=some ys->Hh i f ys
 | _,[],o,hc,_=>by
   simp[Dx]at hc;subst hc;exact⟨[],rfl,by simp[gy.nil],by simp⟩
 | Hh,f::fs,o,hc,h=>by
   rw[Dx]at hc;split at hc
   ·obtain⟨ys,h1,h2⟩:=h 0 f rfl;obtain⟨ew,h3,h4,h5⟩:=F3 (λi=>Hh (i+1)) fs _ hc (λi g hg=>h (i+1) g (by grind));refine⟨ys::ew,by grind,?_,λi g zs hi hz=>?_⟩
    ·have e:cs.drop o=((cs.drop f.offset).take (P.cellsOf f.type))++cs.drop (o+P.cellsOf f.type):=by
      grind[List.drop_drop,List.take_append_drop]
     rw[e];exact h1.append h4
    grind
   grind
theorem Ix{w}{k}:∀(Hh:Nat→List D→Prop) n cs,cs.length=n *k→
  (∀i,i<n->∃ys,gy w ((cs.drop (i *k)).take k) ys/\Hh i ys)->
  ∃ew:List (List D),ew.length=n/\gy w cs ew.flatten/\∀i ys,ew[i]?=some ys->Hh i ys
 | _,0,cs,hl,_=>by
   have:=apZ.1 (by simpa using hl);subst this;exact⟨[],rfl,by simp[gy.nil],by simp⟩
 | Hh,n+1,cs,hl,h=>by
   obtain⟨ys,h1,h2⟩:=h 0 (by omega);obtain⟨ew,h3,h4,h5⟩:=Ix (k:=k) (λi=>Hh (i+1)) n (cs.drop k) (by grind) (λi hi=>by
    obtain⟨ys,a,b⟩:=h (i+1) (by omega);refine⟨ys,?_,b⟩;rw[aqz,show k+i *k=(i+1) *k by grind];exact a)
   refine⟨ys::ew,by grind,?_,λi zs hz=>?_⟩
   ·have:=h1.append h4;simp_all
   grind
section
variable {H : Type} {enc : TypeId × Value -> H} {P : Program} {w : World}
theorem F4{e B l}(h:∀n∈DataW.weightsAll P e l,n<=B){d:DataW H}(hd:d∈l):∀n∈DataW.weights P e d,n<=B:=by
 induction l with
 | nil=>cases hd
 | cons a l ih=>
   simp[DataW.weightsAll]at h;grind
theorem Dy{B}:∀{ts l} (_:∀n∈DataW.weightsEach P ts l,n<=B) {i:Nat} {t} {d:DataW H} (_:ts[i]?=some t) (_:l[i]?=some d),∀n∈DataW.weights P t d,n<=B
 | [],_,_,i,_,_,ht,_=>by grind
 | _::_,[],_,i,_,_,_,hd=>by grind
 | t0::ts,d0::l,h,i,t,d,ht,hd=>by
   simp[DataW.weightsEach]at h;cases i with
   | zero=>grind
   | succ i=>exact Dy (λn hn=>h n (.inr hn)) (by simpa using ht) (by grind)
theorem Lk(hf:U7 P=true):∀(fuel:Nat) (t:TypeId) (cs:List Value) (d:DataW H) (ps:List MemPlace),t < P.types.size→
  DataW.trod enc P w 0 (λ_=>true) true fuel t cs=some (d,ps)->(∀n∈DataW.weights P t d,n<=reachBytes)->∃ys,gy w cs ys/\cY P t ys/\iI ys<=eQ d
 | 0,_,_,_,_,_,h,_=>by simp[DataW.trod]at h
 | fuel+1,t,cs,d,ps,ht,h,hw=>by
   have IH:=Lk hf fuel;have x8:_:=apd.1 hf t (by simpa using ht);unfold DataW.trod at h;split at h
   ·rename_i b hu;exact⟨_,gy.one rfl (.v _ rfl),.bool _ hu,by have:=fW d;simp[iI,bD];omega⟩
   ·rename_i k k' n hu;split at h
    ·rename_i hk;obtain⟨rfl,hk⟩:=hk;exact⟨_,gy.one rfl (.v _ rfl),.int _ hu (by simpa[aM,Lit.wf]using hk),by have:=fW d;simp[iI,bD];omega⟩
    ·cases h
   ·rename_i k k' n hu;exact⟨_,gy.one rfl (.v _ rfl),.other _ (by simp[hu,je]),by have:=fW d;simp[iI,bD];omega⟩
   ·rename_i s hu;split at h
    ·cases h;refine⟨_,gy.one rfl (.v _ rfl),.str _ hu ?_,by simp only[iI,bD,eQ,Array.length_toList];exact api _⟩;have:=hw s.data.toList.length (by simp[DataW.weights]);simpa[reachBytes]using this
    ·cases h
   ·rename_i e hu;exact⟨_,gy.one rfl (.v _ rfl),.other _ (by simp[hu,je]),by have:=fW d;simp[iI,bD];omega⟩
   ·rename_i e a hu;exact⟨_,gy.one rfl (.v _ rfl),.other _ (by simp[hu,je]),by have:=fW d;simp[iI,bD];omega⟩
   ·rename_i e hu;exact⟨_,gy.one rfl (.sl none 0 0 [] 0 0 0 (λ_ _=>undef) rfl (api _) (by unfold maxLen;omega) (by omega) (by simp) (by omega) (by simp)),.sl [] hu (by simp) (by simp) (by simp),by have:=fW d;simp[iI,bD,mZ];omega⟩
   ·rename_i e a len cap hu;rw[hu]at x8;simp only[apb,decide_eq_true_eq]at x8;simp only at h;split at h
    ·rename_i hb;obtain⟨_,hlc,vC⟩:=hb;obtain⟨elems,he,h⟩:=apX.1 h;obtain⟨rest,hr,h⟩:=ao8.1 h;simp only[ao7]at h;obtain⟨rfl,_⟩:=h;have hlen:elems.length=len:=by simpa using mapM_some_length he
     simp only[if_true]at hr;have Yh:rest.length=cap-len:=by simpa using mapM_some_length hr
     have hwl:∀n∈(((elems.map (·.1)).length+(rest.map (·.1)).length) *P.bytesOf e)::(DataW.weightsAll P e (elems.map (·.1))++DataW.weightsAll P e (rest.map (·.1))),n<=reachBytes:=by
      simpa[DataW.weights,hu]using hw
     have key:∀i,i<len->∃cs x,(w.cells? 0 (a.add (i *P.cellsOf e)) (P.cellsOf e))=some cs/\gy w cs x/\cY P e x/\∀y,elems[i]?=some y->iI x<=eQ y.1:=λi hi=>by
      have cm:=mapM_some_get he i i (by simp[hi]);obtain⟨y,hy⟩:∃y,elems[i]?=some y:=⟨_,akC (by omega)⟩
      rw[hy]at cm;obtain⟨jB,jV,Ip⟩:=apX.1 cm;obtain⟨yd,yp⟩:=y;obtain⟨x,iR,Cr,rF⟩:=IH e jB yd yp x8.2 Ip (F4 (l:=elems.map (·.1)) (λn hn=>hwl n (apl _ (apD _ hn))) (apf.2 ⟨(yd,yp),ape hy,rfl⟩));exact⟨jB,x,jV,iR,Cr,λy' nr=>by rw[hy]at nr;cases nr;exact rF⟩
     have kc:∀i,∃cs x,i<len->(w.cells? 0 (a.add (i *P.cellsOf e)) (P.cellsOf e))=some cs/\gy w cs x/\cY P e x/\∀y,elems[i]?=some y->iI x<=eQ y.1:=λi=>by
      by_cases hi:i<len
      ·obtain⟨cs,x,h⟩:=key i hi;exact⟨cs,x,λ_=>h⟩
      ·exact⟨[],[],λh=>absurd h hi⟩
     obtain⟨fc,kc⟩:=arz kc;obtain⟨fx,kc⟩:=arz kc;have spot:0<len->a.spot=none:=λh0=>by
      have:=(World.cells?_some (kc 0 h0).1).2.2 0 x8.1;have hx:∃v,(fc 0)[0]?=some v:=⟨_,akC (by rw[(World.cells?_some (kc 0 h0).1).2.1];exact x8.1)⟩
      obtain⟨v,hv⟩:=hx;rw[hv]at this;have:=World.cell?_spot this;simpa[Addr.add]using this
     have cells:∀i j,i<len->j<P.cellsOf e->w.cell? ⟨a.block,a.off+i *P.cellsOf e+j,none⟩=(fc i)[j]?:=λi j hi hj=>by
      have:=(World.cells?_some (kc i hi).1).2.2 j hj;have hs:=spot (by omega);rw[<-this,Lj hs,Lj rfl]
     have U8:∀i,i<len->(fc i).length=P.cellsOf e:=λi hi=>(World.cells?_some (kc i hi).1).2.1
     refine⟨_,gy.one rfl (.sl (some a) len cap ((List.range len).map fx) (P.cellsOf e) a.block a.off (λi j=>(fc i).getD j undef) (by rw[apx,List.length_range]) hlc vC (λh0=>⟨?_,λh=>h,?_⟩) ?_ ?_ ?_),.sl _ hu ?_ ?_ ?_,?_⟩
     ·obtain⟨ab,ao,asp⟩:=a;simp only at spot;rw[spot h0]
     ·have h1:=cells 0 0 h0 x8.1;have:(fc 0)[0]?=some ((fc 0)[0]'(by rw[U8 0 h0];exact x8.1)):=akC _;rw[this]at h1;exact T5 h1
     ·intro i x hx;obtain⟨hi,rfl⟩:i<len/\fx i=x:=by
       simp only[apc,ao8]at hx;obtain⟨i',cm,rfl⟩:=hx;have hh:i<len:=by
        have:=(apa.1 cm).1;simpa using this
       rw[aqG hh]at cm;cases cm;exact⟨hh,rfl⟩
      rw[<-(kc i hi).2.1.1];exact U8 i hi
     ·intro i j hi hj;rw[cells i j hi hj,akC (by rw[U8 i hi];exact hj)];simp[List.getD_eq_getElem?_getD,akC (show j<(fc i).length by rw[U8 i hi];exact hj)]
     ·intro i j x y hx hy;obtain⟨hi,rfl⟩:i<len/\fx i=x:=by
       simp only[apc,ao8]at hx;obtain⟨i',cm,rfl⟩:=hx;have hh:i<len:=by
        have:=(apa.1 cm).1;simpa using this
       rw[aqG hh]at cm;cases cm;exact⟨hh,rfl⟩
      have Ii:j<(fc i).length:=by
       rw[(kc i hi).2.1.1];exact(apa.1 hy).1
      refine((kc i hi).2.1.2 j _ y (akC Ii) hy).2 |> λh=>?_
      simpa[List.getD_eq_getElem?_getD,akC Ii]using h
     ·intro i x hx;simp only[apc,ao8]at hx;obtain⟨i',cm,rfl⟩:=hx;have hh:i<len:=by
       have:=(apa.1 cm).1;simpa using this
      rw[aqG hh]at cm;cases cm;exact(kc i hh).2.2.1
     ·unfold maxLen at vC;simp;omega
     ·have:=hwl _ apo;simp only[apx,hlen,Yh,reachBytes]at this;simp only[apx,List.length_range];refine apR ?_ this;exact apu _ (by omega)
     ·have hs:=E3 ((List.range len).map fx) (elems.map (·.1)) (by simp[hlen]) (λi x d hx hd=>by
       simp only[apc,ao8]at hx hd;obtain⟨i',cm,rfl⟩:=hx;obtain⟨y,hy,rfl⟩:=hd;have hh:i<len:=by
        have:=(apa.1 cm).1;simpa using this
       rw[aqG hh]at cm;cases cm;exact(kc i hh).2.2.2 y hy)
      simp only[iI,bD,eQ];omega
    ·cases h
   ·rename_i cs xo Iy fs hu;rw[hu]at x8;simp only[apb,beq_iff_eq,apd,decide_eq_true_eq]at x8;split at h
    ·rename_i nF;obtain⟨xs,yR,h⟩:=ao8.1 h;simp only[ao7]at h;obtain⟨rfl,_⟩:=h;have hlen:=mapM_some_length yR;obtain⟨ew,h1,h2,h3⟩:=F3 (w:=w) (cs:=cs) (λi f ys=>cY P f.type ys/\∀x,xs[i]?=some x->iI ys<=eQ x.1) fs.toList 0 (by rw[nF];exact x8.1) (λi f hi=>by
      have Yu:f∈fs.toList:=ape hi;have:=mapM_some_get yR i f hi;obtain⟨x,hx⟩:∃x,xs[i]?=some x:=⟨_,akC (by rw[hlen];exact(apa.1 hi).1)⟩
      rw[hx]at this;obtain⟨xd,xp⟩:=x;obtain⟨zs,z1,z2,z3⟩:=IH f.type _ xd xp (x8.2 f Yu) this (Dy (ts:=fs.toList.map (·.type)) (l:=xs.map (·.1)) (by simpa[DataW.weights,hu]using hw) (i:=i) (by simp only[apc,hi];rfl) (by simp only[apc,hx];rfl));exact⟨zs,z1,z2,λx' cH=>by rw[hx]at cH;cases cH;exact z3⟩)
     refine⟨_,by simpa using h2,.struct ew hu (by simpa using h1) (λi f ys hi hy=>(h3 i f ys (by simpa using hi) hy).1),?_⟩;have hs:=E3 ew (xs.map (·.1)) (by simp[h1,hlen]) (λi ys d hy hd=>by
      simp only[apc,ao8]at hd;obtain⟨x,hx,rfl⟩:=hd;have hif:i<fs.toList.length:=by rw[<-hlen];exact(apa.1 hx).1
      exact(h3 i _ ys (akC hif) hy).2 x hx)
     rw[F2];simp only[eQ];omega
    ·cases h
   ·rename_i cs xo Iy n e hu;rw[hu]at x8;simp only[apb,beq_iff_eq,decide_eq_true_eq]at x8;split at h
    ·rename_i nF;obtain⟨xs,yR,h⟩:=ao8.1 h;simp only[ao7]at h;obtain⟨rfl,_⟩:=h;have hlen:xs.length=n:=by simpa using mapM_some_length yR
     obtain⟨ew,h1,h2,h3⟩:=Ix (w:=w) (k:=P.cellsOf e) (λi ys=>cY P e ys/\∀x,xs[i]?=some x->iI ys<=eQ x.1) n cs (by rw[nF];exact x8.1) (λi hi=>by
      have:=mapM_some_get yR i i (by simp[hi]);obtain⟨x,hx⟩:∃x,xs[i]?=some x:=⟨_,akC (by omega)⟩
      rw[hx]at this;obtain⟨xd,xp⟩:=x;obtain⟨zs,z1,z2,z3⟩:=IH e _ xd xp x8.2 this (F4 (l:=xs.map (·.1)) (by simpa[DataW.weights,hu]using hw) (apf.2 ⟨_,ape hx,rfl⟩));exact⟨zs,z1,z2,λx' cH=>by rw[hx]at cH;cases cH;exact z3⟩)
     refine⟨_,h2,.arr ew hu h1 (λi ys hy=>(h3 i ys hy).1),?_⟩;have hs:=E3 ew (xs.map (·.1)) (by simp[h1,hlen]) (λi ys d hy hd=>by
      simp only[apc,ao8]at hd;obtain⟨x,hx,rfl⟩:=hd;exact(h3 i ys hy).2 x hx)
     rw[F2];simp only[eQ];omega
    ·cases h
   ·rename_i ms hu;exact⟨_,gy.one rfl (.v _ rfl),.other _ (by simp[hu,je]),by have:=fW d;simp[iI,bD];omega⟩
   ·rename_i ms u v hu;exact⟨_,gy.one rfl (.v _ rfl),.other _ (by simp[hu,je]),by have:=fW d;simp[iI,bD];omega⟩
   ·rename_i hu;exact⟨_,gy.one rfl (.v _ rfl),.other _ (by simp[hu,je]),by have:=fW d;simp[iI,bD];omega⟩
   ·rename_i hu;exact⟨_,gy.one rfl (.v _ rfl),.other _ (by simp[hu,je]),by have:=fW d;simp[iI,bD];omega⟩
   ·rename_i hu;exact⟨_,gy.one rfl (.v _ rfl),.other _ (by simp[hu,je]),by have:=fW d;simp[iI,bD];omega⟩
   ·rename_i hu;exact⟨_,gy.one rfl (.v _ rfl),.other _ (by simp[hu,je]),by have:=fW d;simp[iI,bD];omega⟩
   ·rename_i hu;exact⟨_,gy.one rfl (.v _ rfl),.other _ (by simp[hu,je]),by have:=fW d;simp[iI,bD];omega⟩
   ·rename_i hu;exact⟨_,gy.one rfl (.v _ rfl),.other _ (by simp[hu,je]),by have:=fW d;simp[iI,bD];omega⟩
   ·rename_i hu;exact⟨_,gy.one rfl (.v _ rfl),.other _ (by simp[hu,je]),by have:=fW d;simp[iI,bD];omega⟩
   ·rename_i hu;exact⟨_,gy.one rfl (.v _ rfl),.other _ (by simp[hu,je]),by have:=fW d;simp[iI,bD];omega⟩
   ·cases h
end
end Go.Ab
namespace Go.Ab
open Go.ChangeShapes Go.WideShapes Go.RowKit
def J3(P:Program)(t:TypeId)(ys:List D):V:=
 match P.underlying t with
 | some (.struct _)|some (.array _ _)=> .agg (ys.map .d)
 | _=>match ys with
   | [y]=> .d y
   | _=> .any
section
variable {H : Type} {enc : TypeId × Value -> H} {P : Program} {w : World}
theorem abe{base t v ys}(hc:gy w v.cells.toList ys)(aN:Value.okWide P w .any base t v):aC w (OO (⟨λ_=>False,[],none,false⟩:FO) fR) fR v (J3 P t ys):=by
 have up:∀x y,eT w (λ_=>False) x y->eT w (OO (⟨λ_=>False,[],none,false⟩:FO) fR) x y:=λx y h=>
  h.mono (bK.refl _ _) (λb _ ho=>by rcases ho with ho|ho;exact absurd ho (gI b);exact ho)
 have ag:∀cs,v= .agg cs->aC w (OO (⟨λ_=>False,[],none,false⟩:FO) fR) fR v (.agg (ys.map .d)):=by
  rintro cs rfl;have jV:(Value.agg cs).cells.toList=cs.toList:=rfl;rw[jV]at hc;refine .agg cs _ (by simpa using hc.1) (λj x hx=>?_) (λj x y hx hy=>?_)
  ·have hj:j<ys.length:=by rw[<-hc.1];grind
   exact(hc.2 j x _ (by grind) (akC hj)).1
  ·simp[apc,ao8]at hy;obtain⟨y',nr,rfl⟩:=hy;exact .d _ _ (up _ _ (hc.2 j x _ (by grind) nr).2)
 unfold J3;split
 ·grind[Value.okWide]
 ·grind[Value.okWide]
 ·split
  ·rename_i y;have bR:∀cs,v≠ .agg cs:=by
    rintro cs rfl;simp_all[Value.okWide,Cell.okWide,Cell.ok]
   have Xl:v.cells.toList=[v]:=by
    cases v<;>first|rfl|grind
   rw[Xl]at hc;exact .d _ _ (up _ _ (hc.2 0 v y rfl rfl).2)
  ·exact .any _
theorem OG(hf:U7 P=true){base}:∀(ts:List TypeId) vs ds ps,(∀t∈ts,t < P.types.size)→
  DataW.TrodAll enc P w 0 (λ_=>true) true ts vs ds ps->(∀n∈DataW.weightsEach P ts ds,n<=reachBytes)->
  (∀(j:Nat) t v,ts[j]?=some t->vs[j]?=some v->Value.okWide P w .any base t v)->
  ∃ew:List (List D),ew.length=ts.length/\(∀(i:Nat) t ys,ts[i]?=some t->ew[i]?=some ys->cY P t ys)/\vs.length=ts.length/\ds.length=ts.length/\mZ ew<=lr ds/\
   ∀(j:Nat) x y,vs[j]?=some x->((ts.zip ew).map λp=>J3 P p.1 p.2)[j]?=some y->aC w (OO (⟨λ_=>False,[],none,false⟩:FO) fR) fR x y
 | [],[],[],_,_,_,_,_=>⟨[],rfl,by simp,rfl,rfl,by simp[mZ],by simp⟩
 | t::ts,v::vs,d::ds,ps,ht,h,hw,aN=>by
   obtain⟨p,q,h0,hr,rfl⟩:=h;simp[DataW.weightsEach,apr]at hw;obtain⟨ew,a1,a2,a3,a4,a6,a5⟩:=OG hf ts vs ds q (λt h=>ht t (apl _ h)) hr (λn hn=>hw n (.inr hn)) (λj t v h1 h2=>aN (j+1) t v (by grind) (by grind));obtain⟨fuel,h0⟩:=h0;obtain⟨ys,b1,b2,b3⟩:=Lk hf fuel t _ d p (ht t apo) h0 (λn hn=>hw n (.inl hn));refine⟨ys::ew,by grind,λi t' ys' hi hy=>?_,by grind,by grind,by grind[mZ,lr],λj x y hx hy=>?_⟩
   ·grind
   ·cases j with
    | zero=>simp at hx hy;subst hx;subst hy;exact abe b1 (aN 0 t v rfl rfl)
    | succ j=>exact a5 j x y (by grind) (by grind)
 | [],[],_::_,_,_,h,_,_=>h.elim
 | [],_::_,_,_,_,h,_,_=>h.elim
 | _::_,[],_,_,_,h,_,_=>h.elim
 | _::_,_::_,[],_,_,h,_,_=>h.elim
theorem AG(hl:laidOutB P=true){W W'}(hb:Below W.heap.size W W'):∀ts vs ds ps,(∀t∈ts,P.readableRec t=true∧t < P.types.size)→
  DataW.TrodAll enc P W 0 (λ_=>true) true ts vs ds ps->(∀x∈ps,x.block<W.heap.size)->DataW.TrodAll enc P W' 0 (λb=>decide (b<W.heap.size)) true ts vs ds ps
 | [],[],[],_,_,h,_=>h
 | t::ts,v::vs,d::ds,ps,ht,h,au=>by
   obtain⟨p,q,h0,hr,rfl⟩:=h;exact⟨p,q,Below.trod hl (ht t apo).1 (ht t apo).2 h0 hb (λx hx=>au x (apD _ hx)),
    AG hl hb ts vs ds q (λt h=>ht t (apl _ h)) hr (λx hx=>au x (apO _ hx)),rfl⟩
 | [],[],_::_,_,_,h,_=>h.elim
 | [],_::_,_,_,_,h,_=>h.elim
 | _::_,[],_,_,_,h,_=>h.elim
 | _::_,_::_,[],_,_,h,_=>h.elim
end
inductive TK where
 | bool
 | int (k:IntKind)
 | str
 | sl (e:TypeId) (bytes:Nat)
 | st (ts:List TypeId)
 | arr (n:Nat) (e:TypeId)
 | oth
def dT(P:Program)(t:TypeId):TK:=match P.underlying t with
 | some .bool=> .bool
 | some (.int k)=> .int k
 | some .string=> .str
 | some (.slice e)=> .sl e (P.bytesOf e)
 | some (.struct fs)=> .st (fs.toList.map (·.type))
 | some (.array n e)=> .arr n e
 | _=> .oth
section
variable {P : Program} {t : TypeId} {ys : List D}
theorem cY.p6(h:cY P t ys)(hk:dT P t= .bool):∃b,ys=[.v (.bool b)]:=by
 cases h with
 | bool b u=>exact⟨b,rfl⟩
 | int n u h=>simp[dT,u]at hk
 | str s u h=>simp[dT,u]at hk
 | sl xs u hx hl hw=>simp[dT,u]at hk
 | struct ew u hl h=>simp[dT,u]at hk
 | arr ew u hl h=>simp[dT,u]at hk
 | other y u=>
   unfold dT at hk;split at hk<;>first|(simp_all[je];done)|cases hk
theorem cY.bM{k:IntKind}(h:cY P t ys)(hk:dT P t= .int k):∃n,ys=[.v (.int k n)]/\aM k n:=by
 cases h with
 | bool b u=>simp[dT,u]at hk
 | int n u h=>simp[dT,u]at hk;subst hk;exact⟨n,rfl,h⟩
 | str s u h=>simp[dT,u]at hk
 | sl xs u hx hl hw=>simp[dT,u]at hk
 | struct ew u hl h=>simp[dT,u]at hk
 | arr ew u hl h=>simp[dT,u]at hk
 | other y u=>
   unfold dT at hk;split at hk<;>first|(simp_all[je];done)|cases hk
theorem cY.xe(h:cY P t ys)(hk:dT P t= .str):∃s,ys=[.v (.string s)]/\s.size<=140737488351232:=by
 cases h with
 | bool b u=>simp[dT,u]at hk
 | int n u h=>simp[dT,u]at hk
 | str s u h=>exact⟨s,rfl,h⟩
 | sl xs u hx hl hw=>simp[dT,u]at hk
 | struct ew u hl h=>simp[dT,u]at hk
 | arr ew u hl h=>simp[dT,u]at hk
 | other y u=>
   unfold dT at hk;split at hk<;>first|(simp_all[je];done)|cases hk
theorem cY.oL{e:TypeId}{b:Nat}(h:cY P t ys)(hk:dT P t= .sl e b):∃xs,ys=[.sl xs]/\(∀x∈xs,cY P e x)/\xs.length<=9223372036854775807/\xs.length *b<=140737488351232:=by
 cases h with
 | bool b u=>simp[dT,u]at hk
 | int n u h=>simp[dT,u]at hk
 | str s u h=>simp[dT,u]at hk
 | sl xs u hx hl hw=>
   simp only[dT,u,TK.sl.injEq]at hk;obtain⟨rfl,rfl⟩:=hk;exact⟨xs,rfl,λx cH=>by obtain⟨i,hi⟩:=List.getElem?_of_mem cH;exact hx i x hi,hl,hw⟩
 | struct ew u hl h=>simp[dT,u]at hk
 | arr ew u hl h=>simp[dT,u]at hk
 | other y u=>
   unfold dT at hk;split at hk<;>first|(simp_all[je];done)|cases hk
def Iz(P:Program):List TypeId->List D->Prop
 | [],ys=>ys=[]
 | t::ts,ys=>∃a b,ys=a++b/\cY P t a/\Iz P ts b
theorem OH:∀(fs:List Field) (ew:List (List D)),ew.length=fs.length->(∀(i:Nat) (f:Field) (ys:List D),fs[i]?=some f->ew[i]?=some ys->cY P f.type ys)->Iz P (fs.map (·.type)) ew.flatten
 | [],[],_,_=>rfl
 | f::fs,y::ew,hl,h=>⟨y,ew.flatten,by simp,h 0 f y rfl rfl,OH fs ew (by simpa using hl) (λi f' ys h1 h2=>h (i+1) f' ys (by simpa using h1) (by simpa using h2))⟩
 | [],_::_,hl,_=>by simp at hl
 | _::_,[],hl,_=>by simp at hl
theorem cY.oU{ts:List TypeId}(h:cY P t ys)(hk:dT P t= .st ts):Iz P ts ys:=by
 cases h with
 | bool b u=>simp[dT,u]at hk
 | int n u h=>simp[dT,u]at hk
 | str s u h=>simp[dT,u]at hk
 | sl xs u hx hl hw=>simp[dT,u]at hk
 | struct ew u hl h=>
   simp only[dT,u,TK.st.injEq]at hk;subst hk;exact OH _ ew (by simpa using hl) (λi f ys h1 h2=>h i f ys (by simpa using h1) h2)
 | arr ew u hl h=>simp[dT,u]at hk
 | other y u=>
   unfold dT at hk;split at hk<;>first|(simp_all[je];done)|cases hk
end
theorem AH{α:Type}{f:α->List D}{p:α->Prop}:∀{xs:List (List D)},(∀x∈xs,∃a,x=f a/\p a)->∃l:List α,xs=l.map f/\∀a∈l,p a
 | [],_=>⟨[],rfl,by simp⟩
 | x::xs,h=>by
   obtain⟨a,rfl,ha⟩:=h x apo;obtain⟨l,rfl,hl⟩:=AH (λy hy=>h y (apl _ hy));exact⟨a::l,rfl,by simpa using⟨ha,hl⟩⟩
theorem cY.nL{P:Program}{α:Type}{t e:TypeId}{b:Nat}{ys:List D}{f:α→List D}{p:α→Prop}(h:cY P t ys)(hk:dT P t= .sl e b)(g:∀{zs:List D},cY P e zs→∃x,zs=f x∧p x):
  ∃l:List α,ys=[.sl (l.map f)]/\l.length *b<=140737488351232/\∀x∈l,p x:=by
 obtain⟨xs,rfl,h1,-,h2⟩:=h.oL hk;obtain⟨l,rfl,h3⟩:=AH λx hx=>g (h1 x hx)
 exact⟨l,rfl,by simpa using h2,h3⟩
open Go.Proofs Go.Proofs.Tryz
@[simp] theorem anJ:gD prog 3=some (false,1)/\qP prog 3=false/\iP prog 3=[D.v (.int .i64 0)]/\Ao prog 3=false/\tD prog 3=some .i64/\rQ prog 3=some [.int .i64 0]/\yT prog 3=false/\gD prog 4=some (false,1)/\iP prog 4=[D.v (.bool false)]/\Ao prog 4=true/\rQ prog 4=some [.bool false]/\gD prog 5=some (false,1)/\qP prog 5=false/\iP prog 5=[D.v (.int .u8 0)]/\tD prog 5=some .u8/\gD prog 9=some (false,1)/\qP prog 9=true/\iP prog 9=[D.v (.string ⟨#[]⟩)]/\yT prog 20=true/\gD prog 22=some (false,1)/\sk prog 22=true/\iP prog 22=[D.sl []]/\rQ prog 22=some [.slice none 0 0]/\nC prog 22=some (9,1):=by and_intros<;>kernel_rfl
@[simp] theorem anK:kB prog 22=some (9,1,16,[.string ⟨#[]⟩])/\gD prog 23=some (false,1)/\qP prog 23=false/\sk prog 23=true/\iP prog 23=[D.sl []]/\nC prog 23=some (3,1)/\kB prog 23=some (3,1,8,[.int .i64 0])/\EI prog 23=none/\gD prog 24=some (false,1)/\nC prog 24=some (104,9)/\kB prog 24=some (104,9,136,[.int .i64 0,.int .i64 0,.int .i64 0,.int .i64 0,.bool false,.slice none 0 0,.slice none 0 0,.slice none 0 0,.slice none 0 0])/\gD prog 25=some (false,1)/\nC prog 25=some (198,2)/\gD prog 26=some (false,1)/\nC prog 26=some (167,6)/\gD prog 28=some (true,15)/\iP prog 28=[D.v (.int .i64 0),D.v (.int .i64 0),D.v (.int .i64 0),D.v (.int .i64 0),D.sl [],D.v (.int .i64 0),D.sl [],D.sl [],D.sl [],D.sl [],D.sl [],D.sl [],D.sl [],D.sl [],D.sl []]/\rQ prog 28=some [.int .i64 0,.int .i64 0,.int .i64 0,.int .i64 0,.slice none 0 0,.int .i64 0,.slice none 0 0,.slice none 0 0,.slice none 0 0,.slice none 0 0,.slice none 0 0,.slice none 0 0,.slice none 0 0,.slice none 0 0,.slice none 0 0]/\cu prog 28 0=some (0,false,1)/\cu prog 28 1=some (1,false,1)/\cu prog 28 2=some (2,false,1)/\cu prog 28 3=some (3,false,1)/\cu prog 28 4=some (4,false,1)/\cu prog 28 5=some (5,false,1):=by and_intros<;>kernel_rfl
@[simp] theorem anL:cu prog 28 6=some (6,false,1)/\cu prog 28 7=some (7,false,1)/\cu prog 28 8=some (8,false,1)/\cu prog 28 9=some (9,false,1)/\cu prog 28 10=some (10,false,1)/\cu prog 28 11=some (11,false,1)/\cu prog 28 12=some (12,false,1)/\cu prog 28 13=some (13,false,1)/\cu prog 28 14=some (14,false,1)/\wi prog 28=some ([.int .i64 0,.int .i64 0,.int .i64 0,.int .i64 0,.slice none 0 0,.int .i64 0,.slice none 0 0,.slice none 0 0,.slice none 0 0,.slice none 0 0,.slice none 0 0,.slice none 0 0,.slice none 0 0,.slice none 0 0,.slice none 0 0],[(0,1),(1,1),(2,1),(3,1),(4,1),(5,1),(6,1),(7,1),(8,1),(9,1),(10,1),(11,1),(12,1),(13,1),(14,1)])/\gD prog 29=some (false,1)/\nC prog 29=some (109,1):=by and_intros<;>kernel_rfl
@[simp] theorem adQ:kB prog 29=some (109,1,24,[.slice none 0 0]):=by kernel_rfl
@[simp] theorem anM:gD prog 31=some (true,16)/\cu prog 31 0=some (0,true,15)/\cu prog 31 1=some (15,false,1)/\wi prog 31=some ([.int .i64 0,.int .i64 0,.int .i64 0,.int .i64 0,.slice none 0 0,.int .i64 0,.slice none 0 0,.slice none 0 0,.slice none 0 0,.slice none 0 0,.slice none 0 0,.slice none 0 0,.slice none 0 0,.slice none 0 0,.slice none 0 0,.slice none 0 0],[(0,15),(15,1)])/\gD prog 32=some (false,1)/\tD prog 32=some .u64/\gD prog 34=some (true,13)/\iP prog 34=[D.sl [],D.sl [],D.sl [],D.sl [],D.sl [],D.sl [],D.sl [],D.v (.int .u64 0),D.v (.int .i64 0),D.v (.int .i64 0),D.v (.int .i64 0),D.v (.int .i64 0),D.v (.int .i64 0)]/\rQ prog 34=some [.slice none 0 0,.slice none 0 0,.slice none 0 0,.slice none 0 0,.slice none 0 0,.slice none 0 0,.slice none 0 0,.int .u64 0,.int .i64 0,.int .i64 0,.int .i64 0,.int .i64 0,.int .i64 0]/\cu prog 34 0=some (0,false,1)/\cu prog 34 1=some (1,false,1)/\cu prog 34 2=some (2,false,1)/\cu prog 34 3=some (3,false,1)/\cu prog 34 4=some (4,false,1)/\cu prog 34 5=some (5,false,1)/\cu prog 34 6=some (6,false,1)/\cu prog 34 7=some (7,false,1)/\cu prog 34 8=some (8,false,1)/\cu prog 34 9=some (9,false,1)/\cu prog 34 10=some (10,false,1)/\cu prog 34 11=some (11,false,1)/\cu prog 34 12=some (12,false,1)/\wi prog 34=some ([.slice none 0 0,.slice none 0 0,.slice none 0 0,.slice none 0 0,.slice none 0 0,.slice none 0 0,.slice none 0 0,.int .u64 0,.int .i64 0,.int .i64 0,.int .i64 0,.int .i64 0,.int .i64 0],[(0,1),(1,1),(2,1),(3,1),(4,1),(5,1),(6,1),(7,1),(8,1),(9,1),(10,1),(11,1),(12,1)])/\gD prog 36=some (true,3):=by and_intros<;>kernel_rfl
@[simp] theorem anN:cu prog 36 0=some (0,false,1)/\cu prog 36 1=some (1,false,1)/\cu prog 36 2=some (2,false,1)/\wi prog 36=some ([.int .i64 0,.int .i64 0,.int .i64 0],[(0,1),(1,1),(2,1)])/\gD prog 39=some (false,1)/\sk prog 39=true/\iP prog 39=[D.sl []]/\nC prog 39=some (5,1)/\kB prog 39=some (5,1,1,[.int .u8 0])/\gD prog 41=some (true,17)/\iP prog 41=[D.v (.int .i64 0),D.v (.int .i64 0),D.v (.int .i64 0),D.v (.int .i64 0),D.sl [],D.v (.int .i64 0),D.sl [],D.sl [],D.sl [],D.sl [],D.sl [],D.sl [],D.sl [],D.sl [],D.sl [],D.sl [],D.sl []]/\rQ prog 41=some [.int .i64 0,.int .i64 0,.int .i64 0,.int .i64 0,.slice none 0 0,.int .i64 0,.slice none 0 0,.slice none 0 0,.slice none 0 0,.slice none 0 0,.slice none 0 0,.slice none 0 0,.slice none 0 0,.slice none 0 0,.slice none 0 0,.slice none 0 0,.slice none 0 0]/\cu prog 41 0=some (0,true,15)/\cu prog 41 1=some (15,false,1)/\cu prog 41 2=some (16,false,1)/\wi prog 41=some ([.int .i64 0,.int .i64 0,.int .i64 0,.int .i64 0,.slice none 0 0,.int .i64 0,.slice none 0 0,.slice none 0 0,.slice none 0 0,.slice none 0 0,.slice none 0 0,.slice none 0 0,.slice none 0 0,.slice none 0 0,.slice none 0 0,.slice none 0 0,.slice none 0 0],[(0,15),(15,1),(16,1)])/\gD prog 45=some (false,1)/\qP prog 45=false/\sk prog 45=true/\iP prog 45=[D.sl []]/\nC prog 45=some (74,4)/\kB prog 45=some (74,4,48,[.int .i64 0,.int .i64 0,.int .i64 0,.slice none 0 0])/\EI prog 45=none/\gD prog 46=some (false,1):=by and_intros<;>kernel_rfl
@[simp] theorem anO:iP prog 46=[D.v (.int .i64 0)]/\gD prog 48=some (true,18)/\iP prog 48=[D.v (.int .i64 0),D.sl [],D.sl [],D.sl [],D.sl [],D.sl [],D.sl [],D.sl [],D.v (.int .u64 0),D.v (.int .i64 0),D.v (.int .i64 0),D.v (.int .i64 0),D.v (.int .i64 0),D.v (.int .i64 0),D.v (.string ⟨#[]⟩),D.v (.int .i64 0),D.v (.bool false),D.v (.int .i64 0)]/\rQ prog 48=some [.int .i64 0,.slice none 0 0,.slice none 0 0,.slice none 0 0,.slice none 0 0,.slice none 0 0,.slice none 0 0,.slice none 0 0,.int .u64 0,.int .i64 0,.int .i64 0,.int .i64 0,.int .i64 0,.int .i64 0,.string ⟨#[]⟩,.int .i64 0,.bool false,.int .i64 0]/\cu prog 48 0=some (0,false,1)/\cu prog 48 1=some (1,true,13)/\cu prog 48 2=some (14,false,1)/\cu prog 48 3=some (15,false,1)/\cu prog 48 4=some (16,false,1)/\cu prog 48 5=some (17,false,1)/\wi prog 48=some ([.int .i64 0,.slice none 0 0,.slice none 0 0,.slice none 0 0,.slice none 0 0,.slice none 0 0,.slice none 0 0,.slice none 0 0,.int .u64 0,.int .i64 0,.int .i64 0,.int .i64 0,.int .i64 0,.int .i64 0,.string ⟨#[]⟩,.int .i64 0,.bool false,.int .i64 0],[(0,1),(1,13),(14,1),(15,1),(16,1),(17,1)])/\gD prog 50=some (true,24)/\iP prog 50=[D.sl [],D.sl [],D.v (.int .i64 0),D.v (.int .i64 0),D.v (.int .i64 0),D.v (.int .i64 0),D.sl [],D.sl [],D.sl [],D.sl [],D.sl [],D.sl [],D.sl [],D.v (.int .u64 0),D.v (.int .i64 0),D.v (.int .i64 0),D.v (.int .i64 0),D.v (.int .i64 0),D.v (.int .i64 0),D.v (.string ⟨#[]⟩),D.v (.int .i64 0),D.v (.bool false),D.v (.int .i64 0),D.v (.bool false)]/\rQ prog 50=some [.slice none 0 0,.slice none 0 0,.int .i64 0,.int .i64 0,.int .i64 0,.int .i64 0,.slice none 0 0,.slice none 0 0,.slice none 0 0,.slice none 0 0,.slice none 0 0,.slice none 0 0,.slice none 0 0,.int .u64 0,.int .i64 0,.int .i64 0,.int .i64 0,.int .i64 0,.int .i64 0,.string ⟨#[]⟩,.int .i64 0,.bool false,.int .i64 0,.bool false]/\cu prog 50 0=some (0,false,1)/\cu prog 50 1=some (1,false,1)/\cu prog 50 2=some (2,true,3)/\cu prog 50 3=some (5,true,18)/\cu prog 50 4=some (23,false,1)/\wi prog 50=some ([.slice none 0 0,.slice none 0 0,.int .i64 0,.int .i64 0,.int .i64 0,.int .i64 0,.slice none 0 0,.slice none 0 0,.slice none 0 0,.slice none 0 0,.slice none 0 0,.slice none 0 0,.slice none 0 0,.int .u64 0,.int .i64 0,.int .i64 0,.int .i64 0,.int .i64 0,.int .i64 0,.string ⟨#[]⟩,.int .i64 0,.bool false,.int .i64 0,.bool false],[(0,1),(1,1),(2,3),(5,18),(23,1)])/\gD prog 58=some (true,35)/\cu prog 58 0=some (0,true,16)/\cu prog 58 1=some (16,true,13)/\cu prog 58 2=some (29,false,1):=by and_intros<;>kernel_rfl
@[simp] theorem anP:cu prog 58 3=some (30,false,1)/\cu prog 58 4=some (31,true,3)/\cu prog 58 5=some (34,false,1)/\gD prog 60=some (false,1)/\qP prog 60=false/\sk prog 60=true/\iP prog 60=[D.sl []]/\rQ prog 60=some [.slice none 0 0]/\nC prog 60=some (84,2)/\kB prog 60=some (84,2,16,[.int .i64 0,.int .i64 0])/\gD prog 74=some (true,4)/\iP prog 74=[D.v (.int .i64 0),D.v (.int .i64 0),D.v (.int .i64 0),D.sl []]/\rQ prog 74=some [.int .i64 0,.int .i64 0,.int .i64 0,.slice none 0 0]/\cu prog 74 1=some (1,false,1)/\cu prog 74 2=some (2,false,1)/\cu prog 74 3=some (3,false,1)/\wi prog 74=some ([.int .i64 0,.int .i64 0,.int .i64 0,.slice none 0 0],[(0,1),(1,1),(2,1),(3,1)])/\gD prog 77=some (true,1)/\rQ prog 77=some [.int .i64 0]/\CU prog 77=true/\cu prog 77 0=some (0,false,1)/\wi prog 77=some ([.int .i64 0],[(0,1)])/\cu prog 80 0=some (0,true,24)/\cu prog 80 1=some (24,true,17):=by and_intros<;>kernel_rfl
@[simp] theorem anQ:cu prog 80 2=some (41,false,1)/\wi prog 80=some ([.slice none 0 0,.slice none 0 0,.int .i64 0,.int .i64 0,.int .i64 0,.int .i64 0,.slice none 0 0,.slice none 0 0,.slice none 0 0,.slice none 0 0,.slice none 0 0,.slice none 0 0,.slice none 0 0,.int .u64 0,.int .i64 0,.int .i64 0,.int .i64 0,.int .i64 0,.int .i64 0,.string ⟨#[]⟩,.int .i64 0,.bool false,.int .i64 0,.bool false,.int .i64 0,.int .i64 0,.int .i64 0,.int .i64 0,.slice none 0 0,.int .i64 0,.slice none 0 0,.slice none 0 0,.slice none 0 0,.slice none 0 0,.slice none 0 0,.slice none 0 0,.slice none 0 0,.slice none 0 0,.slice none 0 0,.slice none 0 0,.slice none 0 0,.int .i64 0],[(0,24),(24,17),(41,1)])/\gD prog 84=some (true,2)/\iP prog 84=[D.v (.int .i64 0),D.v (.int .i64 0)]/\rQ prog 84=some [.int .i64 0,.int .i64 0]/\ND prog 84=some [.i .i64,.i .i64]/\cu prog 84 0=some (0,false,1)/\cu prog 84 1=some (1,false,1)/\wi prog 84=some ([.int .i64 0,.int .i64 0],[(0,1),(1,1)])/\gD prog 102=some (false,1)/\nC prog 102=some (169,4)/\gD prog 104=some (true,9)/\iP prog 104=[D.v (.int .i64 0),D.v (.int .i64 0),D.v (.int .i64 0),D.v (.int .i64 0),D.v (.bool false),D.sl [],D.sl [],D.sl [],D.sl []]/\rQ prog 104=some [.int .i64 0,.int .i64 0,.int .i64 0,.int .i64 0,.bool false,.slice none 0 0,.slice none 0 0,.slice none 0 0,.slice none 0 0]/\cu prog 104 0=some (0,false,1)/\cu prog 104 1=some (1,false,1)/\cu prog 104 2=some (2,false,1)/\cu prog 104 3=some (3,false,1)/\cu prog 104 4=some (4,false,1)/\cu prog 104 5=some (5,false,1)/\cu prog 104 6=some (6,false,1)/\cu prog 104 7=some (7,false,1)/\cu prog 104 8=some (8,false,1)/\wi prog 104=some ([.int .i64 0,.int .i64 0,.int .i64 0,.int .i64 0,.bool false,.slice none 0 0,.slice none 0 0,.slice none 0 0,.slice none 0 0],[(0,1),(1,1),(2,1),(3,1),(4,1),(5,1),(6,1),(7,1),(8,1)]):=by and_intros<;>kernel_rfl
@[simp] theorem aks:gD prog 105=some (false,1):=by kernel_rfl
@[simp] theorem akt:nC prog 105=some (107,5):=by kernel_rfl
@[simp] theorem aa0:kB prog 105=some (107,5,64,[.int .i64 0,.int .i64 0,.int .i64 0,.string ⟨#[]⟩,.slice none 0 0]):=by kernel_rfl
@[simp] theorem anR:gD prog 107=some (true,5)/\iP prog 107=[D.v (.int .i64 0),D.v (.int .i64 0),D.v (.int .i64 0),D.v (.string ⟨#[]⟩),D.sl []]/\rQ prog 107=some [.int .i64 0,.int .i64 0,.int .i64 0,.string ⟨#[]⟩,.slice none 0 0]/\cu prog 107 0=some (0,false,1)/\cu prog 107 1=some (1,false,1)/\cu prog 107 2=some (2,false,1)/\cu prog 107 3=some (3,false,1)/\cu prog 107 4=some (4,false,1)/\wi prog 107=some ([.int .i64 0,.int .i64 0,.int .i64 0,.string ⟨#[]⟩,.slice none 0 0],[(0,1),(1,1),(2,1),(3,1),(4,1)])/\gD prog 109=some (false,1)/\iP prog 109=[D.sl []]/\nC prog 109=some (111,6):=by and_intros<;>kernel_rfl
@[simp] theorem aa1:kB prog 109=some (111,6,104,[.int .i64 0,.int .i64 0,.string ⟨#[]⟩,.slice none 0 0,.slice none 0 0,.slice none 0 0]):=by kernel_rfl
@[simp] theorem anS:gD prog 111=some (true,6)/\iP prog 111=[D.v (.int .i64 0),D.v (.int .i64 0),D.v (.string ⟨#[]⟩),D.sl [],D.sl [],D.sl []]/\rQ prog 111=some [.int .i64 0,.int .i64 0,.string ⟨#[]⟩,.slice none 0 0,.slice none 0 0,.slice none 0 0]/\cu prog 111 0=some (0,false,1)/\cu prog 111 1=some (1,false,1)/\cu prog 111 2=some (2,false,1)/\cu prog 111 3=some (3,false,1)/\cu prog 111 4=some (4,false,1)/\cu prog 111 5=some (5,false,1)/\wi prog 111=some ([.int .i64 0,.int .i64 0,.string ⟨#[]⟩,.slice none 0 0,.slice none 0 0,.slice none 0 0],[(0,1),(1,1),(2,1),(3,1),(4,1),(5,1)])/\tD prog 129=some .i8/\tD prog 130=some .u64/\gD prog 167=some (true,6)/\iP prog 167=[D.v (.int .i64 0),D.v (.int .i64 0),D.v (.int .i64 0),D.v (.int .i64 0),D.v (.int .i64 0),D.v (.int .i64 0)]/\rQ prog 167=some [.int .i64 0,.int .i64 0,.int .i64 0,.int .i64 0,.int .i64 0,.int .i64 0]/\cu prog 167 0=some (0,false,1)/\cu prog 167 1=some (1,false,1)/\cu prog 167 2=some (2,false,1)/\cu prog 167 3=some (3,false,1)/\cu prog 167 4=some (4,false,1)/\cu prog 167 5=some (5,false,1)/\iP prog 169=[D.v (.int .i64 0),D.v (.int .i64 0),D.v (.int .i64 0),D.v (.int .i64 0)]/\cu prog 169 0=some (0,false,1)/\cu prog 169 1=some (1,false,1):=by and_intros<;>kernel_rfl
@[simp] theorem amb:cu prog 169 2=some (2,false,1)/\cu prog 169 3=some (3,false,1)/\tD prog 173=some .i16/\gD prog 196=some (false,1)/\nC prog 196=some (200,1)/\iP prog 198=[D.v (.bool false),D.sl []]/\cu prog 198 1=some (1,false,1)/\gD prog 200=some (false,1)/\iP prog 200=[D.sl []]/\nC prog 200=some (235,2)/\tD prog 224=some .u32/\gD prog 235=some (true,2)/\iP prog 235=[D.v (.int .i64 0),D.sl []]/\rQ prog 235=some [.int .i64 0,.slice none 0 0]/\cu prog 235 0=some (0,false,1)/\cu prog 235 1=some (1,false,1)/\gD prog 276=some (false,1)/\nC prog 277=some (276,1)/\kB prog 277=some (276,1,8,[.pointer none]):=by and_intros<;>kernel_rfl
theorem ai5:(List.range 310).all (λk=>enters prog k||!decide (3<=k/\k<310/\k≠195/\k≠240/\(k<272\/275<k)/\k≠300/\(k<302\/303<k)))=true:=by kernel_rfl
@[simp] theorem anT{k:Nat}(h:3<=k/\k<310/\k≠195/\k≠240/\(k<272\/275<k)/\k≠300/\(k<302\/303<k)):enters prog k=true:=by
 have:=apd.1 ai5 k (apS.2 h.2.1);simpa[h]using this
structure gY where
 AI:Int
 To:Int
 jf:Int
 bW:Int
 deriving DecidableEq
def gY.enc(x:gY):List D:=[D.v (.int .i64 x.AI),D.v (.int .i64 x.To),D.v (.int .i64 x.jf),D.v (.int .i64 x.bW)]
@[simp] theorem gY.gs0(x:gY):x.enc.length=4/\(∀h:0<x.enc.length,x.enc[0]=D.v (.int .i64 x.AI))/\(∀h:1<x.enc.length,x.enc[1]=D.v (.int .i64 x.To))/\(∀h:2<x.enc.length,x.enc[2]=D.v (.int .i64 x.jf))/\(∀h:3<x.enc.length,x.enc[3]=D.v (.int .i64 x.bW)):=by and_intros<;>(intros;rfl)
def gY.zero:gY:=⟨0,0,0,0⟩
@[simp] theorem gY.U9(o:Option gY):(o.map gY.enc).getD [D.v (.int .i64 0),D.v (.int .i64 0),D.v (.int .i64 0),D.v (.int .i64 0)]=(o.getD gY.zero).enc:=by cases o<;>rfl
def gY.wf(x:gY):Prop:=aM .i64 x.AI/\aM .i64 x.To/\aM .i64 x.jf/\aM .i64 x.bW
theorem adZ:dT prog 169= .st [3,3,3,3]:=by kernel_rfl
theorem cX:dT prog 3= .int .i64:=by kernel_rfl
theorem gY.of{ys:List D}(h:cY prog 169 ys):∃x:gY,ys=x.enc/\x.wf:=by
 obtain⟨_,_,rfl,t0,_,_,rfl,t1,_,_,rfl,t2,_,_,rfl,t3,rfl⟩:=h.oU adZ;obtain⟨a0,rfl,w0⟩:=t0.bM cX;obtain⟨a1,rfl,w1⟩:=t1.bM cX;obtain⟨a2,rfl,w2⟩:=t2.bM cX;obtain⟨a3,rfl,w3⟩:=t3.bM cX;exact⟨⟨a0,a1,a2,a3⟩,rfl,w0,w1,w2,w3⟩
structure bg where
 kx:Int
 Text:Int
 ah:Int
 Flags:Int
 Room:Bool
 aJ:(List Int)
 Words:(List ByteArray)
 uZ:(List ByteArray)
 mr:(List gY)
 deriving DecidableEq
def bg.enc(x:bg):List D:=[D.v (.int .i64 x.kx),D.v (.int .i64 x.Text),D.v (.int .i64 x.ah),D.v (.int .i64 x.Flags),D.v (.bool x.Room),D.sl (aA x.aJ),D.sl (iB x.Words),D.sl (iB x.uZ),D.sl (x.mr.map gY.enc)]
@[simp] theorem bg.gs1(x:bg):x.enc.length=9/\(∀h:0<x.enc.length,x.enc[0]=D.v (.int .i64 x.kx))/\(∀h:1<x.enc.length,x.enc[1]=D.v (.int .i64 x.Text))/\(∀h:2<x.enc.length,x.enc[2]=D.v (.int .i64 x.ah))/\(∀h:3<x.enc.length,x.enc[3]=D.v (.int .i64 x.Flags))/\(∀h:4<x.enc.length,x.enc[4]=D.v (.bool x.Room))/\(∀h:5<x.enc.length,x.enc[5]=D.sl (aA x.aJ))/\(∀h:6<x.enc.length,x.enc[6]=D.sl (iB x.Words))/\(∀h:7<x.enc.length,x.enc[7]=D.sl (iB x.uZ))/\(∀h:8<x.enc.length,x.enc[8]=D.sl (x.mr.map gY.enc)):=by and_intros<;>(intros;rfl)
def bg.zero:bg:=⟨0,0,0,0,false,[],[],[],[]⟩
@[simp] theorem bg.U9(o:Option bg):(o.map bg.enc).getD [D.v (.int .i64 0),D.v (.int .i64 0),D.v (.int .i64 0),D.v (.int .i64 0),D.v (.bool false),D.sl [],D.sl [],D.sl [],D.sl []]=(o.getD bg.zero).enc:=by cases o<;>rfl
@[simp] theorem bg.J4(x:bg):x.enc.take 9=x.enc:= .trans rfl rfl
def bg.wf(x:bg):Prop:=aM .i64 x.kx/\aM .i64 x.Text/\aM .i64 x.ah/\aM .i64 x.Flags/\x.aJ.length *8<=140737488351232/\(∀y0:Int,y0∈x.aJ->aM .i64 y0)/\x.Words.length *16<=140737488351232/\(∀y0:ByteArray,y0∈x.Words->y0.size<=140737488351232)/\x.uZ.length *16<=140737488351232/\(∀y0:ByteArray,y0∈x.uZ->y0.size<=140737488351232)/\x.mr.length *32<=140737488351232/\(∀y0:gY,y0∈x.mr->y0.wf)
theorem bg.ou{x:bg}(h:x.wf):x.aJ.length *8<=140737488351232:=h.2.2.2.2.1
theorem bg.G1{x:bg}(h:x.wf):x.Words.length *16<=140737488351232:=h.2.2.2.2.2.2.1
theorem bg.G2{x:bg}(h:x.wf):(∀y0:ByteArray,y0∈x.Words->y0.size<=140737488351232):=h.2.2.2.2.2.2.2.1
theorem bg.ad0{x:bg}(h:x.wf):x.uZ.length *16<=140737488351232:=h.2.2.2.2.2.2.2.2.1
theorem bg.ad1{x:bg}(h:x.wf):(∀y0:ByteArray,y0∈x.uZ->y0.size<=140737488351232):=h.2.2.2.2.2.2.2.2.2.1
theorem bg.E4{x:bg}(h:x.wf):x.mr.length *32<=140737488351232:=h.2.2.2.2.2.2.2.2.2.2.1
theorem bg.J5{x:bg}(h:x.wf):(∀y0:gY,y0∈x.mr->y0.wf):=h.2.2.2.2.2.2.2.2.2.2.2
theorem ad2:dT prog 104= .st [3,3,3,3,4,23,22,22,102]:=by kernel_rfl
theorem ac7:dT prog 4= .bool:=by kernel_rfl
theorem lN:dT prog 23= .sl 3 8:=by kernel_rfl
theorem IA:dT prog 22= .sl 9 16:=by kernel_rfl
theorem E5:dT prog 9= .str:=by kernel_rfl
theorem ad3:dT prog 102= .sl 169 32:=by kernel_rfl
theorem bg.of{ys:List D}(h:cY prog 104 ys):∃x:bg,ys=x.enc/\x.wf:=by
 obtain⟨_,_,rfl,t0,_,_,rfl,t1,_,_,rfl,t2,_,_,rfl,t3,_,_,rfl,t4,_,_,rfl,t5,_,_,rfl,t6,_,_,rfl,t7,_,_,rfl,t8,rfl⟩:=h.oU ad2;obtain⟨a0,rfl,w0⟩:=t0.bM cX;obtain⟨a1,rfl,w1⟩:=t1.bM cX;obtain⟨a2,rfl,w2⟩:=t2.bM cX;obtain⟨a3,rfl,w3⟩:=t3.bM cX;obtain⟨a4,rfl⟩:=t4.p6 ac7;obtain⟨a5,rfl,l5,w5⟩:=t5.nL lN (λh=>h.bM cX);obtain⟨a6,rfl,l6,w6⟩:=t6.nL IA (λh=>h.xe E5);obtain⟨a7,rfl,l7,w7⟩:=t7.nL IA (λh=>h.xe E5);obtain⟨a8,rfl,l8,w8⟩:=t8.nL ad3 gY.of;exact⟨⟨a0,a1,a2,a3,a4,a5,a6,a7,a8⟩,rfl,w0,w1,w2,w3,l5,w5,l6,w6,l7,w7,l8,w8⟩
structure dv where
 Kind:Int
 Words:(List ByteArray)
 deriving DecidableEq
def dv.enc(x:dv):List D:=[D.v (.int .i64 x.Kind),D.sl (iB x.Words)]
@[simp] theorem dv.gs2(x:dv):x.enc.length=2/\(∀h:0<x.enc.length,x.enc[0]=D.v (.int .i64 x.Kind))/\(∀h:1<x.enc.length,x.enc[1]=D.sl (iB x.Words)):=by and_intros<;>(intros;rfl)
def dv.zero:dv:=⟨0,[]⟩
@[simp] theorem dv.U9(o:Option dv):(o.map dv.enc).getD [D.v (.int .i64 0),D.sl []]=(o.getD dv.zero).enc:=by cases o<;>rfl
@[simp] theorem dv.J4(x:dv):x.enc.take 2=x.enc:= .trans rfl rfl
def dv.wf(x:dv):Prop:=aM .i64 x.Kind/\x.Words.length *16<=140737488351232/\(∀y0:ByteArray,y0∈x.Words->y0.size<=140737488351232)
theorem dv.G1{x:dv}(h:x.wf):x.Words.length *16<=140737488351232:=h.2.1
theorem dv.G2{x:dv}(h:x.wf):(∀y0:ByteArray,y0∈x.Words->y0.size<=140737488351232):=h.2.2
theorem ad4:dT prog 235= .st [3,22]:=by kernel_rfl
theorem dv.of{ys:List D}(h:cY prog 235 ys):∃x:dv,ys=x.enc/\x.wf:=by
 obtain⟨_,_,rfl,t0,_,_,rfl,t1,rfl⟩:=h.oU ad4;obtain⟨a0,rfl,w0⟩:=t0.bM cX;obtain⟨a1,rfl,l1,w1⟩:=t1.nL IA (λh=>h.xe E5);exact⟨⟨a0,a1⟩,rfl,w0,l1,w1⟩
structure la where
 Meta:Bool
 tU:(List (List dv))
 deriving DecidableEq
def la.enc(x:la):List D:=[D.v (.bool x.Meta),D.sl (oi (List.map dv.enc) x.tU)]
@[simp] theorem la.gs3(x:la):x.enc.length=2/\(∀h:1<x.enc.length,x.enc[1]=D.sl (oi (List.map dv.enc) x.tU)):=by and_intros<;>(intros;rfl)
def la.wf(x:la):Prop:=x.tU.length *24<=140737488351232/\(∀y0:(List dv),y0∈x.tU->y0.length *32<=140737488351232/\(∀y1:dv,y1∈y0->y1.wf))
theorem la.abf{x:la}(h:x.wf):x.tU.length *24<=140737488351232:=h.1
theorem la.abg{x:la}(h:x.wf):(∀y0:(List dv),y0∈x.tU->y0.length *32<=140737488351232/\(∀y1:dv,y1∈y0->y1.wf)):=h.2
theorem ad5:dT prog 198= .st [4,196]:=by kernel_rfl
theorem ad6:dT prog 196= .sl 200 24:=by kernel_rfl
theorem ad7:dT prog 200= .sl 235 32:=by kernel_rfl
theorem la.of{ys:List D}(h:cY prog 198 ys):∃x:la,ys=x.enc/\x.wf:=by
 obtain⟨_,_,rfl,t0,_,_,rfl,t1,rfl⟩:=h.oU ad5;obtain⟨a0,rfl⟩:=t0.p6 ac7;obtain⟨a1,rfl,l1,w1⟩:=t1.nL ad6 (λh=>h.nL ad7 dv.of);exact⟨⟨a0,a1⟩,rfl,l1,w1⟩
structure lT where
 OI:Int
 Phase:Int
 qn:Int
 Second:Int
 jf:Int
 Body:Int
 deriving DecidableEq
def lT.enc(x:lT):List D:=[D.v (.int .i64 x.OI),D.v (.int .i64 x.Phase),D.v (.int .i64 x.qn),D.v (.int .i64 x.Second),D.v (.int .i64 x.jf),D.v (.int .i64 x.Body)]
@[simp] theorem lT.gs4(x:lT):x.enc.length=6/\(∀h:0<x.enc.length,x.enc[0]=D.v (.int .i64 x.OI))/\(∀h:1<x.enc.length,x.enc[1]=D.v (.int .i64 x.Phase))/\(∀h:2<x.enc.length,x.enc[2]=D.v (.int .i64 x.qn))/\(∀h:3<x.enc.length,x.enc[3]=D.v (.int .i64 x.Second))/\(∀h:4<x.enc.length,x.enc[4]=D.v (.int .i64 x.jf))/\(∀h:5<x.enc.length,x.enc[5]=D.v (.int .i64 x.Body))/\x.enc.take 6=x.enc:=by and_intros<;>(intros;rfl)
def lT.wf(x:lT):Prop:=aM .i64 x.OI/\aM .i64 x.Phase/\aM .i64 x.qn/\aM .i64 x.Second/\aM .i64 x.jf/\aM .i64 x.Body
theorem ad8:dT prog 167= .st [3,3,3,3,3,3]:=by kernel_rfl
theorem lT.of{ys:List D}(h:cY prog 167 ys):∃x:lT,ys=x.enc/\x.wf:=by
 obtain⟨_,_,rfl,t0,_,_,rfl,t1,_,_,rfl,t2,_,_,rfl,t3,_,_,rfl,t4,_,_,rfl,t5,rfl⟩:=h.oU ad8;obtain⟨a0,rfl,w0⟩:=t0.bM cX;obtain⟨a1,rfl,w1⟩:=t1.bM cX;obtain⟨a2,rfl,w2⟩:=t2.bM cX;obtain⟨a3,rfl,w3⟩:=t3.bM cX;obtain⟨a4,rfl,w4⟩:=t4.bM cX;obtain⟨a5,rfl,w5⟩:=t5.bM cX;exact⟨⟨a0,a1,a2,a3,a4,a5⟩,rfl,w0,w1,w2,w3,w4,w5⟩
structure aq where
 kx:Int
 By:Int
 pg:Int
 Max:Int
 fP:(List ByteArray)
 Flags:Int
 aJ:(List Int)
 aP:(List Int)
 az:(List bg)
 sG:(List la)
 mG:(List lT)
 cV:(List Int)
 eA:(List Int)
 Params:(List Int)
 aL:(List Int)
 deriving DecidableEq
def aq.enc(x:aq):List D:=[D.v (.int .i64 x.kx),D.v (.int .i64 x.By),D.v (.int .i64 x.pg),D.v (.int .i64 x.Max),D.sl (iB x.fP),D.v (.int .i64 x.Flags),D.sl (aA x.aJ),D.sl (aA x.aP),D.sl (x.az.map bg.enc),D.sl (x.sG.map la.enc),D.sl (x.mG.map lT.enc),D.sl (aA x.cV),D.sl (aA x.eA),D.sl (aA x.Params),D.sl (aA x.aL)]
@[simp] theorem aq.gs5(x:aq):x.enc.length=15/\(∀h:0<x.enc.length,x.enc[0]=D.v (.int .i64 x.kx))/\(∀h:1<x.enc.length,x.enc[1]=D.v (.int .i64 x.By))/\(∀h:2<x.enc.length,x.enc[2]=D.v (.int .i64 x.pg))/\(∀h:3<x.enc.length,x.enc[3]=D.v (.int .i64 x.Max))/\(∀h:4<x.enc.length,x.enc[4]=D.sl (iB x.fP))/\(∀h:5<x.enc.length,x.enc[5]=D.v (.int .i64 x.Flags))/\(∀h:6<x.enc.length,x.enc[6]=D.sl (aA x.aJ))/\(∀h:7<x.enc.length,x.enc[7]=D.sl (aA x.aP))/\(∀h:8<x.enc.length,x.enc[8]=D.sl (x.az.map bg.enc))/\(∀h:9<x.enc.length,x.enc[9]=D.sl (x.sG.map la.enc))/\(∀h:10<x.enc.length,x.enc[10]=D.sl (x.mG.map lT.enc))/\(∀h:11<x.enc.length,x.enc[11]=D.sl (aA x.cV))/\(∀h:12<x.enc.length,x.enc[12]=D.sl (aA x.eA))/\(∀h:13<x.enc.length,x.enc[13]=D.sl (aA x.Params))/\(∀h:14<x.enc.length,x.enc[14]=D.sl (aA x.aL)):=by and_intros<;>(intros;rfl)
def aq.zero:aq:=⟨0,0,0,0,[],0,[],[],[],[],[],[],[],[],[]⟩
@[simp] theorem aq.G3(x:aq):List.take 15 (x.enc.map V.d)=x.enc.map V.d:= .trans rfl rfl
def aq.wf(x:aq):Prop:=aM .i64 x.kx/\aM .i64 x.By/\aM .i64 x.pg/\aM .i64 x.Max/\x.fP.length *16<=140737488351232/\(∀y0:ByteArray,y0∈x.fP->y0.size<=140737488351232)/\aM .i64 x.Flags/\x.aJ.length *8<=140737488351232/\(∀y0:Int,y0∈x.aJ->aM .i64 y0)/\x.aP.length *8<=140737488351232/\(∀y0:Int,y0∈x.aP->aM .i64 y0)/\x.az.length *136<=140737488351232/\(∀y0:bg,y0∈x.az->y0.wf)/\x.sG.length *32<=140737488351232/\(∀y0:la,y0∈x.sG->y0.wf)/\x.mG.length *48<=140737488351232/\(∀y0:lT,y0∈x.mG->y0.wf)/\x.cV.length *8<=140737488351232/\(∀y0:Int,y0∈x.cV->aM .i64 y0)/\x.eA.length *8<=140737488351232/\(∀y0:Int,y0∈x.eA->aM .i64 y0)/\x.Params.length *8<=140737488351232/\(∀y0:Int,y0∈x.Params->aM .i64 y0)/\x.aL.length *8<=140737488351232/\(∀y0:Int,y0∈x.aL->aM .i64 y0)
theorem aq.OJ{x:aq}(h:x.wf):x.fP.length *16<=140737488351232:=h.2.2.2.2.1
theorem aq.abh{x:aq}(h:x.wf):(∀y0:ByteArray,y0∈x.fP->y0.size<=140737488351232):=h.2.2.2.2.2.1
theorem aq.ou{x:aq}(h:x.wf):x.aJ.length *8<=140737488351232:=h.2.2.2.2.2.2.2.1
theorem aq.ow{x:aq}(h:x.wf):x.aP.length *8<=140737488351232:=h.2.2.2.2.2.2.2.2.2.1
theorem aq.Dz{x:aq}(h:x.wf):x.az.length *136<=140737488351232:=h.2.2.2.2.2.2.2.2.2.2.2.1
theorem aq.Ll{x:aq}(h:x.wf):(∀y0:bg,y0∈x.az->y0.wf):=h.2.2.2.2.2.2.2.2.2.2.2.2.1
theorem aq.ad9{x:aq}(h:x.wf):x.sG.length *32<=140737488351232:=h.2.2.2.2.2.2.2.2.2.2.2.2.2.1
theorem aq.aea{x:aq}(h:x.wf):(∀y0:la,y0∈x.sG->y0.wf):=h.2.2.2.2.2.2.2.2.2.2.2.2.2.2.1
theorem aq.G4{x:aq}(h:x.wf):x.mG.length *48<=140737488351232:=h.2.2.2.2.2.2.2.2.2.2.2.2.2.2.2.1
theorem aq.abi{x:aq}(h:x.wf):(∀y0:lT,y0∈x.mG->y0.wf):=h.2.2.2.2.2.2.2.2.2.2.2.2.2.2.2.2.1
theorem aq.G5{x:aq}(h:x.wf):x.cV.length *8<=140737488351232:=h.2.2.2.2.2.2.2.2.2.2.2.2.2.2.2.2.2.1
theorem aq.Bq{x:aq}(h:x.wf):x.eA.length *8<=140737488351232:=h.2.2.2.2.2.2.2.2.2.2.2.2.2.2.2.2.2.2.2.1
theorem aq.zk{x:aq}(h:x.wf):x.Params.length *8<=140737488351232:=h.2.2.2.2.2.2.2.2.2.2.2.2.2.2.2.2.2.2.2.2.2.1
theorem aq.Yv{x:aq}(h:x.wf):x.aL.length *8<=140737488351232:=h.2.2.2.2.2.2.2.2.2.2.2.2.2.2.2.2.2.2.2.2.2.2.2.1
theorem aq.Lm{x:aq}(h:x.wf):(∀y0:Int,y0∈x.aL->aM .i64 y0):=h.2.2.2.2.2.2.2.2.2.2.2.2.2.2.2.2.2.2.2.2.2.2.2.2
theorem afk:dT prog 28= .st [3,3,3,3,22,3,23,23,24,25,26,23,23,23,23]:=by kernel_rfl
theorem afl:dT prog 24= .sl 104 136:=by kernel_rfl
theorem afm:dT prog 25= .sl 198 32:=by kernel_rfl
theorem afn:dT prog 26= .sl 167 48:=by kernel_rfl
theorem aq.of{ys:List D}(h:cY prog 28 ys):∃x:aq,ys=x.enc/\x.wf:=by
 obtain⟨_,_,rfl,t0,_,_,rfl,t1,_,_,rfl,t2,_,_,rfl,t3,_,_,rfl,t4,_,_,rfl,t5,_,_,rfl,t6,_,_,rfl,t7,_,_,rfl,t8,_,_,rfl,t9,_,_,rfl,t10,_,_,rfl,t11,_,_,rfl,t12,_,_,rfl,t13,_,_,rfl,t14,rfl⟩:=h.oU afk;obtain⟨a0,rfl,w0⟩:=t0.bM cX;obtain⟨a1,rfl,w1⟩:=t1.bM cX;obtain⟨a2,rfl,w2⟩:=t2.bM cX;obtain⟨a3,rfl,w3⟩:=t3.bM cX;obtain⟨a4,rfl,l4,w4⟩:=t4.nL IA (λh=>h.xe E5);obtain⟨a5,rfl,w5⟩:=t5.bM cX;obtain⟨a6,rfl,l6,w6⟩:=t6.nL lN (λh=>h.bM cX);obtain⟨a7,rfl,l7,w7⟩:=t7.nL lN (λh=>h.bM cX);obtain⟨a8,rfl,l8,w8⟩:=t8.nL afl bg.of;obtain⟨a9,rfl,l9,w9⟩:=t9.nL afm la.of;obtain⟨a10,rfl,l10,w10⟩:=t10.nL afn lT.of;obtain⟨a11,rfl,l11,w11⟩:=t11.nL lN (λh=>h.bM cX);obtain⟨a12,rfl,l12,w12⟩:=t12.nL lN (λh=>h.bM cX);obtain⟨a13,rfl,l13,w13⟩:=t13.nL lN (λh=>h.bM cX);obtain⟨a14,rfl,l14,w14⟩:=t14.nL lN (λh=>h.bM cX);exact⟨⟨a0,a1,a2,a3,a4,a5,a6,a7,a8,a9,a10,a11,a12,a13,a14⟩,rfl,w0,w1,w2,w3,l4,w4,w5,l6,w6,l7,w7,l8,w8,l9,w9,l10,w10,l11,w11,l12,w12,l13,w13,l14,w14⟩
inductive ax where
 | mk (Kind:Int) (Op:Int) (aK:Int) (Name:ByteArray) (aF:(List ax))
def ax.Kind:ax->Int
 | .mk a0 a1 a2 a3 a4=>a0
def ax.Op:ax->Int
 | .mk a0 a1 a2 a3 a4=>a1
def ax.aK:ax->Int
 | .mk a0 a1 a2 a3 a4=>a2
def ax.Name:ax->ByteArray
 | .mk a0 a1 a2 a3 a4=>a3
def ax.aF:ax->(List ax)
 | .mk a0 a1 a2 a3 a4=>a4
mutual
def ax.enc:ax->List D
 | .mk a0 a1 a2 a3 a4=> [D.v (.int .i64 a0),D.v (.int .i64 a1),D.v (.int .i64 a2),D.v (.string a3),D.sl (ax.zT a4)]
def ax.zT:List ax->List (List D)
 | []=> []
 | x::l=>x.enc::ax.zT l
end
theorem ax.u0:∀l:List ax,ax.zT l=l.map ax.enc
 | []=>rfl
 | x::l=>by rw[ax.zT,ax.u0 l];rfl
theorem ax.lO(x:ax):x.enc=[D.v (.int .i64 x.Kind),D.v (.int .i64 x.Op),D.v (.int .i64 x.aK),D.v (.string x.Name),D.sl (x.aF.map ax.enc)]:=by
 cases x;simp only[ax.enc,ax.u0];rfl
@[simp] theorem ax.wH(x:ax):x.enc.length=5:=by cases x;rfl
@[simp] theorem ax.Va(x:ax):x.enc[0]?=some (D.v (.int .i64 x.Kind)):=by rw[ax.lO];rfl
@[simp] theorem ax.afo(x:ax)(h:0<x.enc.length):x.enc[0]=D.v (.int .i64 x.Kind):=by
 have:=ax.Va x;rw[akC h]at this;exact ao9 this
@[simp] theorem ax.Vb(x:ax):x.enc[1]?=some (D.v (.int .i64 x.Op)):=by rw[ax.lO];rfl
@[simp] theorem ax.afp(x:ax)(h:1<x.enc.length):x.enc[1]=D.v (.int .i64 x.Op):=by
 have:=ax.Vb x;rw[akC h]at this;exact ao9 this
@[simp] theorem ax.Vc(x:ax):x.enc[2]?=some (D.v (.int .i64 x.aK)):=by rw[ax.lO];rfl
@[simp] theorem ax.afq(x:ax)(h:2<x.enc.length):x.enc[2]=D.v (.int .i64 x.aK):=by
 have:=ax.Vc x;rw[akC h]at this;exact ao9 this
@[simp] theorem ax.Vd(x:ax):x.enc[3]?=some (D.v (.string x.Name)):=by rw[ax.lO];rfl
@[simp] theorem ax.afr(x:ax)(h:3<x.enc.length):x.enc[3]=D.v (.string x.Name):=by
 have:=ax.Vd x;rw[akC h]at this;exact ao9 this
@[simp] theorem ax.Ve(x:ax):x.enc[4]?=some (D.sl (x.aF.map ax.enc)):=by rw[ax.lO];rfl
@[simp] theorem ax.afs(x:ax)(h:4<x.enc.length):x.enc[4]=D.sl (x.aF.map ax.enc):=by
 have:=ax.Ve x;rw[akC h]at this;exact ao9 this
@[simp] theorem ax.Yw(L:aI)(x:ax):V.mb L (x.enc.map V.d)=x.enc.map V.d:=by simp[ax.lO,V.mb,V.fz]
def ax.zero:ax:= .mk (0) (0) (0) (⟨#[]⟩) ([])
@[simp] theorem ax.U9(o:Option ax):(o.map ax.enc).getD [D.v (.int .i64 0),D.v (.int .i64 0),D.v (.int .i64 0),D.v (.string ⟨#[]⟩),D.sl []]=(o.getD ax.zero).enc:=by cases o<;>rfl
@[simp] theorem ax.ai6(x:ax):List.drop 5 (x.enc.map V.d)=[]:=by cases x;rfl
@[simp] theorem ax.J4(x:ax):x.enc.take 5=x.enc:=by cases x;rfl
@[simp] theorem ax.G3(x:ax):List.take 5 (x.enc.map V.d)=x.enc.map V.d:=by cases x;rfl
mutual
def ax.wf:ax->Prop
 | .mk a0 a1 a2 a3 a4=>aM .i64 a0/\aM .i64 a1/\aM .i64 a2/\a3.size<=140737488351232/\a4.length *64<=140737488351232/\ax.wo a4
def ax.wo:List ax->Prop
 | []=>True
 | x::l=>x.wf/\ax.wo l
end
theorem ax.tp:∀l:List ax,ax.wo l↔∀y∈l,y.wf
 | []=>by simp[ax.wo]
 | x::l=>by rw[ax.wo,ax.tp l];simp
theorem ax.qo(x:ax):x.wf↔aM .i64 x.Kind/\aM .i64 x.Op/\aM .i64 x.aK/\x.Name.size<=140737488351232/\x.aF.length *64<=140737488351232/\(∀y0:ax,y0∈x.aF->y0.wf):=by
 cases x;simp only[ax.wf,ax.tp];rfl
theorem ax.xf{x:ax}(h:x.wf):(∀y0:ax,y0∈x.aF->y0.wf):=((ax.qo x).1 h).2.2.2.2.2
theorem aeb:dT prog 107= .st [3,3,3,9,105]:=by kernel_rfl
theorem SR:dT prog 105= .sl 107 64:=by kernel_rfl
theorem ax.of':∀(n:Nat) {ys:List D},SizeOf.sizeOf ys<n->cY prog 107 ys->∃x:ax,ys=x.enc/\x.wf:=by
 intro n
 induction n with
 | zero=>intro ys h;omega
 | succ n ih=>
 intro ys dW h;have h':=cY.oU h aeb;obtain⟨a0_,r0,tO,t0,h0⟩:=h';obtain⟨a1_,r1,nD,t1,h1⟩:=h0;obtain⟨a2_,r2,qp,t2,h2⟩:=h1;obtain⟨a3_,r3,SS,t3,h3⟩:=h2;obtain⟨a4_,r4,hr4,t4,h4⟩:=h3;simp only[Iz]at h4;subst h4;subst hr4;subst SS;subst qp;subst nD;subst tO;obtain⟨abj,rfl,abk⟩:=cY.bM t0 cX;obtain⟨abl,rfl,abm⟩:=cY.bM t1 cX;obtain⟨abn,rfl,abo⟩:=cY.bM t2 cX;obtain⟨abp,rfl,abq⟩:=cY.xe t3 E5;obtain⟨ai7,rfl,abr,ai8,abt⟩:=cY.oL t4 SR;obtain⟨abu,rfl,abv⟩:=AH (f:=ax.enc) (p:=ax.wf) (λabw hx=>ih (by have au:=apP hx;simp at dW;omega) (abr abw hx));exact⟨.mk abj abl abn abp abu,by rw[ax.lO];rfl,by rw[ax.wf];exact⟨abk,abm,abo,abq,(by simpa using abt),(ax.tp _).2 abv⟩⟩
theorem ax.of{ys:List D}(h:cY prog 107 ys):∃x:ax,ys=x.enc/\x.wf:=ax.of' _ (aps _) h
inductive an where
 | mk (Kind:Int) (aK:Int) (Name:ByteArray) (aF:(List ax)) (Body:(List an)) (bW:(List an))
def an.Kind:an->Int
 | .mk a0 a1 a2 a3 a4 a5=>a0
def an.aK:an->Int
 | .mk a0 a1 a2 a3 a4 a5=>a1
def an.Name:an->ByteArray
 | .mk a0 a1 a2 a3 a4 a5=>a2
def an.aF:an->(List ax)
 | .mk a0 a1 a2 a3 a4 a5=>a3
def an.Body:an->(List an)
 | .mk a0 a1 a2 a3 a4 a5=>a4
def an.bW:an->(List an)
 | .mk a0 a1 a2 a3 a4 a5=>a5
mutual
def an.enc:an->List D
 | .mk a0 a1 a2 a3 a4 a5=> [D.v (.int .i64 a0),D.v (.int .i64 a1),D.v (.string a2),D.sl (a3.map ax.enc),D.sl (an.zT a4),D.sl (an.zT a5)]
def an.zT:List an->List (List D)
 | []=> []
 | x::l=>x.enc::an.zT l
end
theorem an.u0:∀l:List an,an.zT l=l.map an.enc
 | []=>rfl
 | x::l=>by rw[an.zT,an.u0 l];rfl
theorem an.lO(x:an):x.enc=[D.v (.int .i64 x.Kind),D.v (.int .i64 x.aK),D.v (.string x.Name),D.sl (x.aF.map ax.enc),D.sl (x.Body.map an.enc),D.sl (x.bW.map an.enc)]:=by
 cases x;simp only[an.enc,an.u0];rfl
@[simp] theorem an.wH(x:an):x.enc.length=6:=by cases x;rfl
@[simp] theorem an.Va(x:an):x.enc[0]?=some (D.v (.int .i64 x.Kind)):=by rw[an.lO];rfl
@[simp] theorem an.afo(x:an)(h:0<x.enc.length):x.enc[0]=D.v (.int .i64 x.Kind):=by
 have:=an.Va x;rw[akC h]at this;exact ao9 this
@[simp] theorem an.Vb(x:an):x.enc[1]?=some (D.v (.int .i64 x.aK)):=by rw[an.lO];rfl
@[simp] theorem an.afp(x:an)(h:1<x.enc.length):x.enc[1]=D.v (.int .i64 x.aK):=by
 have:=an.Vb x;rw[akC h]at this;exact ao9 this
@[simp] theorem an.Vc(x:an):x.enc[2]?=some (D.v (.string x.Name)):=by rw[an.lO];rfl
@[simp] theorem an.afq(x:an)(h:2<x.enc.length):x.enc[2]=D.v (.string x.Name):=by
 have:=an.Vc x;rw[akC h]at this;exact ao9 this
@[simp] theorem an.Vd(x:an):x.enc[3]?=some (D.sl (x.aF.map ax.enc)):=by rw[an.lO];rfl
@[simp] theorem an.afr(x:an)(h:3<x.enc.length):x.enc[3]=D.sl (x.aF.map ax.enc):=by
 have:=an.Vd x;rw[akC h]at this;exact ao9 this
@[simp] theorem an.Ve(x:an):x.enc[4]?=some (D.sl (x.Body.map an.enc)):=by rw[an.lO];rfl
@[simp] theorem an.afs(x:an)(h:4<x.enc.length):x.enc[4]=D.sl (x.Body.map an.enc):=by
 have:=an.Ve x;rw[akC h]at this;exact ao9 this
@[simp] theorem an.ahb(x:an):x.enc[5]?=some (D.sl (x.bW.map an.enc)):=by rw[an.lO];rfl
@[simp] theorem an.ak4(x:an)(h:5<x.enc.length):x.enc[5]=D.sl (x.bW.map an.enc):=by
 have:=an.ahb x;rw[akC h]at this;exact ao9 this
@[simp] theorem an.J4(x:an):x.enc.take 6=x.enc:=by cases x;rfl
@[simp] theorem an.G3(x:an):List.take 6 (x.enc.map V.d)=x.enc.map V.d:=by cases x;rfl
mutual
def an.wf:an->Prop
 | .mk a0 a1 a2 a3 a4 a5=>aM .i64 a0/\aM .i64 a1/\a2.size<=140737488351232/\a3.length *64<=140737488351232/\(∀y0:ax,y0∈a3->y0.wf)/\a4.length *104<=140737488351232/\an.wo a4/\a5.length *104<=140737488351232/\an.wo a5
def an.wo:List an->Prop
 | []=>True
 | x::l=>x.wf/\an.wo l
end
theorem an.tp:∀l:List an,an.wo l↔∀y∈l,y.wf
 | []=>by simp[an.wo]
 | x::l=>by rw[an.wo,an.tp l];simp
theorem an.qo(x:an):x.wf↔aM .i64 x.Kind/\aM .i64 x.aK/\x.Name.size<=140737488351232/\x.aF.length *64<=140737488351232/\(∀y0:ax,y0∈x.aF->y0.wf)/\x.Body.length *104<=140737488351232/\(∀y0:an,y0∈x.Body->y0.wf)/\x.bW.length *104<=140737488351232/\(∀y0:an,y0∈x.bW->y0.wf):=by
 cases x;simp only[an.wf,an.tp];rfl
theorem an.J6{x:an}(h:x.wf):x.aF.length *64<=140737488351232:=((an.qo x).1 h).2.2.2.1
theorem an.xf{x:an}(h:x.wf):(∀y0:ax,y0∈x.aF->y0.wf):=((an.qo x).1 h).2.2.2.2.1
theorem an.E6{x:an}(h:x.wf):x.Body.length *104<=140737488351232:=((an.qo x).1 h).2.2.2.2.2.1
theorem an.E7{x:an}(h:x.wf):(∀y0:an,y0∈x.Body->y0.wf):=((an.qo x).1 h).2.2.2.2.2.2.1
theorem an.E8{x:an}(h:x.wf):x.bW.length *104<=140737488351232:=((an.qo x).1 h).2.2.2.2.2.2.2.1
theorem an.E9{x:an}(h:x.wf):(∀y0:an,y0∈x.bW->y0.wf):=((an.qo x).1 h).2.2.2.2.2.2.2.2
theorem aec:dT prog 111= .st [3,3,9,105,109,109]:=by kernel_rfl
theorem J7:dT prog 109= .sl 111 104:=by kernel_rfl
theorem an.of':∀(n:Nat) {ys:List D},SizeOf.sizeOf ys<n->cY prog 111 ys->∃x:an,ys=x.enc/\x.wf:=by
 intro n
 induction n with
 | zero=>intro ys h;omega
 | succ n ih=>
 intro ys dW h;have h':=cY.oU h aec;obtain⟨a0_,r0,tO,t0,h0⟩:=h';obtain⟨a1_,r1,nD,t1,h1⟩:=h0;obtain⟨a2_,r2,qp,t2,h2⟩:=h1;obtain⟨a3_,r3,SS,t3,h3⟩:=h2;obtain⟨a4_,r4,hr4,t4,h4⟩:=h3;obtain⟨a5_,r5,hr5,t5,h5⟩:=h4;simp only[Iz]at h5;subst h5;subst hr5;subst hr4;subst SS;subst qp;subst nD;subst tO;obtain⟨abj,rfl,abk⟩:=cY.bM t0 cX;obtain⟨abl,rfl,abm⟩:=cY.bM t1 cX;obtain⟨abn,rfl,abo⟩:=cY.xe t2 E5;obtain⟨anU,rfl,ai9,anV,abq⟩:=cY.oL t3 SR;obtain⟨abp,rfl,aja⟩:=AH (f:=ax.enc) (p:=λ(y:ax)=>y.wf) (λajb hx=>by
  have ajc:=ai9 ajb hx;obtain⟨ahc,rfl,ahd⟩:=ax.of ajc;exact⟨ahc,rfl,ahd⟩)
 obtain⟨ai7,rfl,abr,ai8,abt⟩:=cY.oL t4 J7;obtain⟨abu,rfl,abv⟩:=AH (f:=an.enc) (p:=an.wf) (λabw hx=>ih (by have au:=apP hx;simp at dW;omega) (abr abw hx));obtain⟨anW,rfl,ajd,anX,aje⟩:=cY.oL t5 J7;obtain⟨ajf,rfl,ajg⟩:=AH (f:=an.enc) (p:=an.wf) (λajh hx=>ih (by have au:=apP hx;simp at dW;omega) (ajd ajh hx));exact⟨.mk abj abl abn abp abu ajf,by rw[an.lO];rfl,by rw[an.wf];exact⟨abk,abm,abo,(by simpa using abq),aja,(by simpa using abt),(an.tp _).2 abv,(by simpa using aje),(an.tp _).2 ajg⟩⟩
theorem an.of{ys:List D}(h:cY prog 111 ys):∃x:an,ys=x.enc/\x.wf:=an.of' _ (aps _) h
structure cM where
 Tables:aq
 aO:(List (List an))
def cM.enc(x:cM):List D:=[D.v (.int .i64 x.Tables.kx),D.v (.int .i64 x.Tables.By),D.v (.int .i64 x.Tables.pg),D.v (.int .i64 x.Tables.Max),D.sl (iB x.Tables.fP),D.v (.int .i64 x.Tables.Flags),D.sl (aA x.Tables.aJ),D.sl (aA x.Tables.aP),D.sl (x.Tables.az.map bg.enc),D.sl (x.Tables.sG.map la.enc),D.sl (x.Tables.mG.map lT.enc),D.sl (aA x.Tables.cV),D.sl (aA x.Tables.eA),D.sl (aA x.Tables.Params),D.sl (aA x.Tables.aL),D.sl (oi (List.map an.enc) x.aO)]
@[simp] theorem cM.gs6(x:cM):x.enc.length=16/\(∀h:15<x.enc.length,x.enc[15]=D.sl (oi (List.map an.enc) x.aO))/\List.take 16 (x.enc.map V.d)=x.enc.map V.d/\List.take 15 (x.enc.map V.d)=x.Tables.enc.map V.d:=by and_intros<;>(intros;rfl)
def cM.wf(x:cM):Prop:=x.Tables.wf/\x.aO.length *24<=140737488351232/\(∀y0:(List an),y0∈x.aO->y0.length *104<=140737488351232/\(∀y1:an,y1∈y0->y1.wf))
theorem cM.C5{x:cM}(h:x.wf):x.Tables.wf:=h.1
theorem cM.F5{x:cM}(h:x.wf):x.aO.length *24<=140737488351232:=h.2.1
theorem cM.RF{x:cM}(h:x.wf):(∀y0:(List an),y0∈x.aO->y0.length *104<=140737488351232/\(∀y1:an,y1∈y0->y1.wf)):=h.2.2
theorem aft:dT prog 31= .st [28,29]:=by kernel_rfl
theorem afu:dT prog 29= .sl 109 24:=by kernel_rfl
theorem cM.of{ys:List D}(h:cY prog 31 ys):∃x:cM,ys=x.enc/\x.wf:=by
 obtain⟨_,_,rfl,t0,_,_,rfl,t1,rfl⟩:=h.oU aft;obtain⟨a0,rfl,w0⟩:=aq.of t0;obtain⟨a1,rfl,l1,w1⟩:=t1.nL afu (λh=>h.nL J7 an.of);exact⟨⟨a0,a1⟩,rfl,w0,l1,w1⟩
structure aj where
 aP:(List Int)
 ah:(List Int)
 Child:(List Int)
 Next:(List Int)
 Flags:(List Int)
 aJ:(List Int)
 bc:(List Int)
 cL:Int
 Score:Int
 jx:Int
 ij:Int
 It:Int
 Go:Int
 deriving DecidableEq
def aj.enc(x:aj):List D:=[D.sl (aA x.aP),D.sl (aA x.ah),D.sl (aA x.Child),D.sl (aA x.Next),D.sl (aA x.Flags),D.sl (aA x.aJ),D.sl (aA x.bc),D.v (.int .u64 x.cL),D.v (.int .i64 x.Score),D.v (.int .i64 x.jx),D.v (.int .i64 x.ij),D.v (.int .i64 x.It),D.v (.int .i64 x.Go)]
@[simp] theorem aj.gs7(x:aj):x.enc.length=13/\(∀h:0<x.enc.length,x.enc[0]=D.sl (aA x.aP))/\(∀h:1<x.enc.length,x.enc[1]=D.sl (aA x.ah))/\(∀h:2<x.enc.length,x.enc[2]=D.sl (aA x.Child))/\(∀h:3<x.enc.length,x.enc[3]=D.sl (aA x.Next))/\(∀h:4<x.enc.length,x.enc[4]=D.sl (aA x.Flags))/\(∀h:5<x.enc.length,x.enc[5]=D.sl (aA x.aJ))/\(∀h:6<x.enc.length,x.enc[6]=D.sl (aA x.bc))/\(∀h:8<x.enc.length,x.enc[8]=D.v (.int .i64 x.Score))/\(∀h:9<x.enc.length,x.enc[9]=D.v (.int .i64 x.jx))/\(∀h:10<x.enc.length,x.enc[10]=D.v (.int .i64 x.ij))/\(∀h:11<x.enc.length,x.enc[11]=D.v (.int .i64 x.It))/\(∀h:12<x.enc.length,x.enc[12]=D.v (.int .i64 x.Go)):=by and_intros<;>(intros;rfl)
@[simp] theorem aj.Yw(L:aI)(x:aj):V.mb L (x.enc.map V.d)=x.enc.map V.d:=by simp[aj.enc,V.mb,V.fz]
def aj.zero:aj:=⟨[],[],[],[],[],[],[],0,0,0,0,0,0⟩
@[simp] theorem aj.gs8(x:aj):List.drop 13 (x.enc.map V.d)=[]/\List.take 13 (x.enc.map V.d)=x.enc.map V.d:=by and_intros<;>(intros;rfl)
def aj.wf(x:aj):Prop:=x.aP.length *8<=140737488351232/\(∀y0:Int,y0∈x.aP->aM .i64 y0)/\x.ah.length *8<=140737488351232/\(∀y0:Int,y0∈x.ah->aM .i64 y0)/\x.Child.length *8<=140737488351232/\(∀y0:Int,y0∈x.Child->aM .i64 y0)/\x.Next.length *8<=140737488351232/\(∀y0:Int,y0∈x.Next->aM .i64 y0)/\x.Flags.length *8<=140737488351232/\(∀y0:Int,y0∈x.Flags->aM .i64 y0)/\x.aJ.length *8<=140737488351232/\(∀y0:Int,y0∈x.aJ->aM .i64 y0)/\x.bc.length *8<=140737488351232/\(∀y0:Int,y0∈x.bc->aM .i64 y0)/\aM .u64 x.cL/\aM .i64 x.Score/\aM .i64 x.jx/\aM .i64 x.ij/\aM .i64 x.It/\aM .i64 x.Go
theorem aj.ow{x:aj}(h:x.wf):x.aP.length *8<=140737488351232:=h.1
theorem aj.fX{x:aj}(h:x.wf):x.ah.length *8<=140737488351232:=h.2.2.1
theorem aj.OK{x:aj}(h:x.wf):x.Child.length *8<=140737488351232:=h.2.2.2.2.1
theorem aj.SU{x:aj}(h:x.wf):x.Next.length *8<=140737488351232:=h.2.2.2.2.2.2.1
theorem aj.OL{x:aj}(h:x.wf):x.Flags.length *8<=140737488351232:=h.2.2.2.2.2.2.2.2.1
theorem aj.ou{x:aj}(h:x.wf):x.aJ.length *8<=140737488351232:=h.2.2.2.2.2.2.2.2.2.2.1
theorem aj.Ln{x:aj}(h:x.wf):x.bc.length *8<=140737488351232:=h.2.2.2.2.2.2.2.2.2.2.2.2.1
theorem afv:dT prog 34= .st [23,23,23,23,23,23,23,32,3,3,3,3,3]:=by kernel_rfl
theorem afw:dT prog 32= .int .u64:=by kernel_rfl
theorem aj.of{ys:List D}(h:cY prog 34 ys):∃x:aj,ys=x.enc/\x.wf:=by
 obtain⟨_,_,rfl,t0,_,_,rfl,t1,_,_,rfl,t2,_,_,rfl,t3,_,_,rfl,t4,_,_,rfl,t5,_,_,rfl,t6,_,_,rfl,t7,_,_,rfl,t8,_,_,rfl,t9,_,_,rfl,t10,_,_,rfl,t11,_,_,rfl,t12,rfl⟩:=h.oU afv;obtain⟨a0,rfl,l0,w0⟩:=t0.nL lN (λh=>h.bM cX);obtain⟨a1,rfl,l1,w1⟩:=t1.nL lN (λh=>h.bM cX);obtain⟨a2,rfl,l2,w2⟩:=t2.nL lN (λh=>h.bM cX);obtain⟨a3,rfl,l3,w3⟩:=t3.nL lN (λh=>h.bM cX);obtain⟨a4,rfl,l4,w4⟩:=t4.nL lN (λh=>h.bM cX);obtain⟨a5,rfl,l5,w5⟩:=t5.nL lN (λh=>h.bM cX);obtain⟨a6,rfl,l6,w6⟩:=t6.nL lN (λh=>h.bM cX);obtain⟨a7,rfl,w7⟩:=t7.bM afw;obtain⟨a8,rfl,w8⟩:=t8.bM cX;obtain⟨a9,rfl,w9⟩:=t9.bM cX;obtain⟨a10,rfl,w10⟩:=t10.bM cX;obtain⟨a11,rfl,w11⟩:=t11.bM cX;obtain⟨a12,rfl,w12⟩:=t12.bM cX;exact⟨⟨a0,a1,a2,a3,a4,a5,a6,a7,a8,a9,a10,a11,a12⟩,rfl,l0,w0,l1,w1,l2,w2,l3,w3,l4,w4,l5,w5,l6,w6,w7,w8,w9,w10,w11,w12⟩
structure dx where
 qn:Int
 Second:Int
 Number:Int
 deriving DecidableEq
def dx.enc(x:dx):List D:=[D.v (.int .i64 x.qn),D.v (.int .i64 x.Second),D.v (.int .i64 x.Number)]
@[simp] theorem dx.gs9(x:dx):x.enc.length=3/\(∀h:0<x.enc.length,x.enc[0]=D.v (.int .i64 x.qn))/\(∀h:1<x.enc.length,x.enc[1]=D.v (.int .i64 x.Second))/\(∀h:2<x.enc.length,x.enc[2]=D.v (.int .i64 x.Number)):=by and_intros<;>(intros;rfl)
def dx.zero:dx:=⟨0,0,0⟩
@[simp] theorem dx.G3(x:dx):List.take 3 (x.enc.map V.d)=x.enc.map V.d:= .trans rfl rfl
def dx.wf(x:dx):Prop:=aM .i64 x.qn/\aM .i64 x.Second/\aM .i64 x.Number
theorem afx:dT prog 36= .st [3,3,3]:=by kernel_rfl
theorem dx.of{ys:List D}(h:cY prog 36 ys):∃x:dx,ys=x.enc/\x.wf:=by
 obtain⟨_,_,rfl,t0,_,_,rfl,t1,_,_,rfl,t2,rfl⟩:=h.oU afx;obtain⟨a0,rfl,w0⟩:=t0.bM cX;obtain⟨a1,rfl,w1⟩:=t1.bM cX;obtain⟨a2,rfl,w2⟩:=t2.bM cX;exact⟨⟨a0,a1,a2⟩,rfl,w0,w1,w2⟩
structure amc where
 qU:Int
 Fuel:Int
 Steps:Int
 aF:(List Int)
 Env:dx
 deriving DecidableEq
structure al where
 Tables:aq
 Entry:(List Int)
 Code:(List Int)
 deriving DecidableEq
def al.enc(x:al):List D:=[D.v (.int .i64 x.Tables.kx),D.v (.int .i64 x.Tables.By),D.v (.int .i64 x.Tables.pg),D.v (.int .i64 x.Tables.Max),D.sl (iB x.Tables.fP),D.v (.int .i64 x.Tables.Flags),D.sl (aA x.Tables.aJ),D.sl (aA x.Tables.aP),D.sl (x.Tables.az.map bg.enc),D.sl (x.Tables.sG.map la.enc),D.sl (x.Tables.mG.map lT.enc),D.sl (aA x.Tables.cV),D.sl (aA x.Tables.eA),D.sl (aA x.Tables.Params),D.sl (aA x.Tables.aL),D.sl (aA x.Entry),D.sl (x.Code.map λy=> [D.v (.int .u8 y)])]
@[simp] theorem al.anY(x:al):x.enc.length=17/\(∀h:8<x.enc.length,x.enc[8]=D.sl (x.Tables.az.map bg.enc))/\(∀h:11<x.enc.length,x.enc[11]=D.sl (aA x.Tables.cV))/\(∀h:13<x.enc.length,x.enc[13]=D.sl (aA x.Tables.Params))/\(∀h:14<x.enc.length,x.enc[14]=D.sl (aA x.Tables.aL))/\(∀h:15<x.enc.length,x.enc[15]=D.sl (aA x.Entry))/\(∀h:16<x.enc.length,x.enc[16]=D.sl (x.Code.map λy=> [D.v (.int .u8 y)])):=by and_intros<;>(intros;rfl)
@[simp] theorem al.Yw(L:aI)(x:al):V.mb L (x.enc.map V.d)=x.enc.map V.d:=by simp[al.enc,V.mb,V.fz]
def al.zero:al:=⟨aq.zero,[],[]⟩
@[simp] theorem al.anZ(x:al):List.take 17 (x.enc.map V.d)=x.enc.map V.d/\List.take 15 (x.enc.map V.d)=x.Tables.enc.map V.d:=by and_intros<;>(intros;rfl)
structure lS where
 s9:Int
 World:aj
 Out:ByteArray
 Value:Int
 jM:Bool
 Fuel:Int
 deriving DecidableEq
def lS.enc(x:lS):List D:=[D.v (.int .i64 x.s9),D.sl (aA x.World.aP),D.sl (aA x.World.ah),D.sl (aA x.World.Child),D.sl (aA x.World.Next),D.sl (aA x.World.Flags),D.sl (aA x.World.aJ),D.sl (aA x.World.bc),D.v (.int .u64 x.World.cL),D.v (.int .i64 x.World.Score),D.v (.int .i64 x.World.jx),D.v (.int .i64 x.World.ij),D.v (.int .i64 x.World.It),D.v (.int .i64 x.World.Go),D.v (.string x.Out),D.v (.int .i64 x.Value),D.v (.bool x.jM),D.v (.int .i64 x.Fuel)]
@[simp] theorem lS.an0(x:lS):x.enc.length=18/\(∀h:0<x.enc.length,x.enc[0]=D.v (.int .i64 x.s9))/\(∀h:14<x.enc.length,x.enc[14]=D.v (.string x.Out))/\(∀h:15<x.enc.length,x.enc[15]=D.v (.int .i64 x.Value))/\(∀h:16<x.enc.length,x.enc[16]=D.v (.bool x.jM))/\(∀h:17<x.enc.length,x.enc[17]=D.v (.int .i64 x.Fuel)):=by and_intros<;>(intros;rfl)
@[simp] theorem lS.Yw(L:aI)(x:lS):V.mb L (x.enc.map V.d)=x.enc.map V.d:=by simp[lS.enc,V.mb,V.fz]
def lS.zero:lS:=⟨0,aj.zero,⟨#[]⟩,0,false,0⟩
@[simp] theorem lS.an1(x:lS):List.drop 18 (x.enc.map V.d)=[]/\List.take 18 (x.enc.map V.d)=x.enc.map V.d:=by and_intros<;>(intros;rfl)
structure aG where
 qU:Int
 At:Int
 bP:Int
 aL:(List Int)
 deriving DecidableEq
def aG.enc(x:aG):List D:=[D.v (.int .i64 x.qU),D.v (.int .i64 x.At),D.v (.int .i64 x.bP),D.sl (aA x.aL)]
@[simp] theorem aG.wH(x:aG):x.enc.length=4:= .trans rfl rfl
@[simp] theorem aG.an2(x:aG):(∀h:1<x.enc.length,x.enc[1]=D.v (.int .i64 x.At))/\(∀h:2<x.enc.length,x.enc[2]=D.v (.int .i64 x.bP))/\(∀h:3<x.enc.length,x.enc[3]=D.sl (aA x.aL)):=by and_intros<;>(intros;rfl)
def aG.zero:aG:=⟨0,0,0,[]⟩
theorem aG.cellAt(l:List aG)(i j:Nat)(z:D)(h:aG.zero.enc[j]?=some z):cellAt (dd (l.map aG.enc)) i j [V.d z]=V.d (((l[i]?.getD aG.zero).enc[j]?).getD default):=by
 unfold Go.Ab.cellAt;rw[Oo,apc];cases hl:l[i]? with
 | none=>simp[h]
 | some a=>
   have hj:=(apa.1 h).1;have tP:j<a.enc.length:=by rw[aG.wH]at hj⊢;exact hj
   simp only[apB,apc,akC tP,ap3]
@[simp] theorem aG.aji(l:List aG)(i:Nat):Go.Ab.cellAt (dd (l.map aG.enc)) i 1 [V.d (D.v (.int .i64 0))]=V.d (D.v (.int .i64 (l[i]?.getD aG.zero).At)):=(aG.cellAt l i 1 (D.v (.int .i64 0)) rfl).trans (by simp)
@[simp] theorem aG.ajj(l:List aG)(i:Nat):Go.Ab.cellAt (dd (l.map aG.enc)) i 2 [V.d (D.v (.int .i64 0))]=V.d (D.v (.int .i64 (l[i]?.getD aG.zero).bP)):=(aG.cellAt l i 2 (D.v (.int .i64 0)) rfl).trans (by simp)
@[simp] theorem aG.ajk(l:List aG)(i:Nat):Go.Ab.cellAt (dd (l.map aG.enc)) i 3 [V.d (D.sl [])]=V.d (D.sl (aA (l[i]?.getD aG.zero).aL)):=(aG.cellAt l i 3 (D.sl []) rfl).trans (by simp)
@[simp] theorem aG.an3(x:aG):List.drop 4 (x.enc.map V.d)=[]/\x.enc.take 4=x.enc/\List.take 4 (x.enc.map V.d)=x.enc.map V.d:=by and_intros<;>(intros;rfl)
structure ae where
 Frames:(List aG)
 Stack:(List Int)
 Env:dx
 Told:lS
 de:Bool
 deriving DecidableEq
def ae.enc(x:ae):List D:=[D.sl (x.Frames.map aG.enc),D.sl (aA x.Stack),D.v (.int .i64 x.Env.qn),D.v (.int .i64 x.Env.Second),D.v (.int .i64 x.Env.Number),D.v (.int .i64 x.Told.s9),D.sl (aA x.Told.World.aP),D.sl (aA x.Told.World.ah),D.sl (aA x.Told.World.Child),D.sl (aA x.Told.World.Next),D.sl (aA x.Told.World.Flags),D.sl (aA x.Told.World.aJ),D.sl (aA x.Told.World.bc),D.v (.int .u64 x.Told.World.cL),D.v (.int .i64 x.Told.World.Score),D.v (.int .i64 x.Told.World.jx),D.v (.int .i64 x.Told.World.ij),D.v (.int .i64 x.Told.World.It),D.v (.int .i64 x.Told.World.Go),D.v (.string x.Told.Out),D.v (.int .i64 x.Told.Value),D.v (.bool x.Told.jM),D.v (.int .i64 x.Told.Fuel),D.v (.bool x.de)]
@[simp] theorem ae.an4(x:ae):x.enc.length=24/\(∀h:0<x.enc.length,x.enc[0]=D.sl (x.Frames.map aG.enc))/\(∀h:1<x.enc.length,x.enc[1]=D.sl (aA x.Stack))/\(∀h:22<x.enc.length,x.enc[22]=D.v (.int .i64 x.Told.Fuel))/\(∀h:23<x.enc.length,x.enc[23]=D.v (.bool x.de)):=by and_intros<;>(intros;rfl)
@[simp] theorem ae.Yw(L:aI)(x:ae):V.mb L (x.enc.map V.d)=x.enc.map V.d:=by simp[ae.enc,V.mb,V.fz]
def ae.zero:ae:=⟨[],[],dx.zero,lS.zero,false⟩
@[simp] theorem ae.an5(x:ae):List.drop 24 (x.enc.map V.d)=[]/\List.take 24 (x.enc.map V.d)=x.enc.map V.d/\List.take 3 (List.drop 2 (x.enc.map V.d))=x.Env.enc.map V.d/\List.take 18 (List.drop 5 (x.enc.map V.d))=x.Told.enc.map V.d:=by and_intros<;>(intros;rfl)
structure jw where
 B:cM
 W:aj
 qU:Int
 aF:(List Int)
 Env:dx
 Fuel:Int
def jw.enc(x:jw):List D:=[D.v (.int .i64 x.B.Tables.kx),D.v (.int .i64 x.B.Tables.By),D.v (.int .i64 x.B.Tables.pg),D.v (.int .i64 x.B.Tables.Max),D.sl (iB x.B.Tables.fP),D.v (.int .i64 x.B.Tables.Flags),D.sl (aA x.B.Tables.aJ),D.sl (aA x.B.Tables.aP),D.sl (x.B.Tables.az.map bg.enc),D.sl (x.B.Tables.sG.map la.enc),D.sl (x.B.Tables.mG.map lT.enc),D.sl (aA x.B.Tables.cV),D.sl (aA x.B.Tables.eA),D.sl (aA x.B.Tables.Params),D.sl (aA x.B.Tables.aL),D.sl (oi (List.map an.enc) x.B.aO),D.sl (aA x.W.aP),D.sl (aA x.W.ah),D.sl (aA x.W.Child),D.sl (aA x.W.Next),D.sl (aA x.W.Flags),D.sl (aA x.W.aJ),D.sl (aA x.W.bc),D.v (.int .u64 x.W.cL),D.v (.int .i64 x.W.Score),D.v (.int .i64 x.W.jx),D.v (.int .i64 x.W.ij),D.v (.int .i64 x.W.It),D.v (.int .i64 x.W.Go),D.v (.int .i64 x.qU),D.sl (aA x.aF),D.v (.int .i64 x.Env.qn),D.v (.int .i64 x.Env.Second),D.v (.int .i64 x.Env.Number),D.v (.int .i64 x.Fuel)]
@[simp] theorem jw.an6(x:jw):x.enc.length=35/\(∀h:29<x.enc.length,x.enc[29]=D.v (.int .i64 x.qU))/\(∀h:30<x.enc.length,x.enc[30]=D.sl (aA x.aF))/\(∀h:34<x.enc.length,x.enc[34]=D.v (.int .i64 x.Fuel))/\List.take 35 (x.enc.map V.d)=x.enc.map V.d/\List.take 16 (x.enc.map V.d)=x.B.enc.map V.d/\List.take 13 (List.drop 16 (x.enc.map V.d))=x.W.enc.map V.d/\List.take 3 (List.drop 31 (x.enc.map V.d))=x.Env.enc.map V.d:=by and_intros<;>(intros;rfl)
def jw.wf(x:jw):Prop:=x.B.wf/\x.W.wf/\aM .i64 x.qU/\x.aF.length *8<=140737488351232/\(∀y0:Int,y0∈x.aF->aM .i64 y0)/\x.Env.wf/\aM .i64 x.Fuel
theorem jw.aiK{x:jw}(h:x.wf):x.B.wf:=h.1
theorem jw.ae6{x:jw}(h:x.wf):x.W.wf:=h.2.1
theorem afy:dT prog 58= .st [31,34,3,23,36,3]:=by kernel_rfl
theorem jw.of{ys:List D}(h:cY prog 58 ys):∃x:jw,ys=x.enc/\x.wf:=by
 obtain⟨_,_,rfl,t0,_,_,rfl,t1,_,_,rfl,t2,_,_,rfl,t3,_,_,rfl,t4,_,_,rfl,t5,rfl⟩:=h.oU afy;obtain⟨a0,rfl,w0⟩:=cM.of t0;obtain⟨a1,rfl,w1⟩:=aj.of t1;obtain⟨a2,rfl,w2⟩:=t2.bM cX;obtain⟨a3,rfl,l3,w3⟩:=t3.nL lN (λh=>h.bM cX);obtain⟨a4,rfl,w4⟩:=dx.of t4;obtain⟨a5,rfl,w5⟩:=t5.bM cX;exact⟨⟨a0,a1,a2,a3,a4,a5⟩,rfl,w0,w1,w2,l3,w3,w4,w5⟩
structure ai where
 Op:Int
 Arg:Int
 deriving DecidableEq
def ai.enc(x:ai):List D:=[D.v (.int .i64 x.Op),D.v (.int .i64 x.Arg)]
@[simp] theorem ai.an7(x:ai):x.enc.length=2/\(∀h:0<x.enc.length,x.enc[0]=D.v (.int .i64 x.Op))/\(∀h:1<x.enc.length,x.enc[1]=D.v (.int .i64 x.Arg)):=by and_intros<;>(intros;rfl)
@[simp] theorem ai.Yw(L:aI)(x:ai):V.mb L (x.enc.map V.d)=x.enc.map V.d:=by simp[ai.enc,V.mb,V.fz]
@[simp] theorem ai.eqV(x y:ai):JL (x.enc.map V.d) (y.enc.map V.d)=some (decide (x=y)):=by
 rcases x with⟨a_0,a_1⟩
 rcases y with⟨b_0,b_1⟩
 simp only[ai.enc,List.map,JL,vR,lF,NB,if_true,anc,bytes_beq];rw[aqM];simp[and_assoc]
@[simp] theorem ai.an8(x:ai):wC [.i .i64,.i .i64] (x.enc.map V.d)=true:=by
 simp[ai.enc,wC,vR,fits,NC]
def ai.zero:ai:=⟨0,0⟩
@[simp] theorem ai.U9(o:Option ai):(o.map ai.enc).getD [D.v (.int .i64 0),D.v (.int .i64 0)]=(o.getD ai.zero).enc:=by cases o<;>rfl
@[simp] theorem ai.an9(x:ai):x.enc.take 2=x.enc/\List.take 2 (x.enc.map V.d)=x.enc.map V.d:=by and_intros<;>(intros;rfl)
section
variable {P : Program} {n : Nat} {s : St} {Q : AX -> St -> Prop} {L : aI}
structure Pure(P:Program) (f:FuncId) (args:List V) (x:V):Prop where
 en:enters P f=true
 on:V.dK [] args=true
 rn:x.on []=true
 calls:aE P f args [] (λr _=>r= .ret x)
theorem Pure.run{f}{args}{x}{fn}{c}(hf:P.funcs[f]?=some fn)(hb:fn.body=some c)(hs:args.length≤fn.ntmps∧enters P f=true∧V.dK [] args=true∧x.on []=true)
  (h:cW P fn.ntmps c ⟨eH 0 args,[]⟩ (cn P fn.ntmps (fb P fn.results.toList (λr L'=>∃y,r= .ret y/\y.fz L'=x)) [])):Pure P f args x:=
 ⟨hs.2.1,hs.2.2.1,hs.2.2.2,(aE.data (aE.run hf hb hs.1 h) hs.2.2.2).mono λ_ _ h=>h.1⟩
theorem rn{f:FuncId}{args:List V}{x:V}{fn:Func}{c:Code}(hf:P.funcs[f]?=some fn)(h:cW P fn.ntmps c ⟨eH 0 args,[]⟩ (cn P fn.ntmps (fb P fn.results.toList (fun r L'=>∃y,r= .ret y∧y.fz L'=x)) []))
  (hb:fn.body=some c:=by exact rfl) (hn:Nat.ble args.length fn.ntmps=true:=by exact rfl) (he:enters P f=true:=by kernel_rfl) (ho:V.dK [] args=true/\x.on []=true:=by simp):Pure P f args x:=Pure.run hf hb ⟨Nat.le_of_ble_eq_true hn,he,ho.1,ho.2⟩ h
theorem Pure.eq{f args lU x x'}(h:Pure P f args x)(ha:args=lU)(hx:x=x'):Pure P f lU x':=by subst ha;subst hx;exact h
theorem Pure.ok{f args x}(h:Pure P f args x) L:kL P f args L x:=kL.pure h.en h.on h.rn h.calls
structure Kept(P:Program) (f:FuncId) (args:List V) (L1:aI) (x:V):Prop where
 en:enters P f=true
 on:V.dK (keys L1) args=true
 onL:L1.all (λp=>aV.on (keys L1) p.2&&ff p.2)=true
 rn:x.nK=true
 calls:aE P f args L1 (λr L'=>r= .ret x/\L'=L1)
theorem ay.bC{ops}{o:Oper}{rest}{c}{f}{args}{x}(aD:o.op= .call c)(h:Pure P f args x)(hc:callee s.ev c=some (f,args))(hg:o.guard=none)
  (hd:∀d,o.dst=some d->d<n) (hr:dG n rest=true) (k:∀bs,eM P ops rest (s.put o.dst x) bs [] (KK P n ops Q)):ay P n ops (o::rest) s Q:=
 ay.Io hg hd (qi.call aD hc h.en h.on h.rn h.calls) (bq rest _ [] hr k)
theorem ay.IB{ops}{o:Oper}{rest}{c}{f}{args lU}{x}(aD:o.op= .call c)(h:Pure P f lU x)(hc:callee s.ev c=some (f,args))(ha:V.mb s.L args=lU)(hx:x.nK=true)(hg:o.guard=none)
  (hd:∀d,o.dst=some d->d<n) (hr:dG n rest=true) (k:∀bs,eM P ops rest (s.put o.dst x) bs [] (KK P n ops Q)):ay P n ops (o::rest) s Q:=by
 subst ha;exact ay.Io hg hd (qi.aiW aD hc h.en h.on hx h.calls) (bq rest _ [] hr k)
theorem pC{ops:Array Oper}{o:Oper}{rest:List Oper}{c:Call}{f:FuncId}{args:List V}{x:V}(h:Pure P f args x)(k:∀bs,eM P ops rest (s.put o.dst x) bs [] (KK P n ops Q))(aD:o.op= .call c:=by exact rfl)(hc:callee s.ev c=some (f,args):=by exact rfl)(hg:o.guard=none:=by exact rfl)
  (hd:∀d,o.dst=some d->d<n:=by simp) (hr:dG n rest=true:=by exact rfl):ay P n ops (o::rest) s Q:=ay.bC aD h hc hg hd hr k
theorem lC{ops:Array Oper}{o:Oper}{rest:List Oper}{c:Call}{f:FuncId}{args lU:List V}{x:V}(h:Pure P f lU x)(k:∀bs,eM P ops rest (s.put o.dst x) bs [] (KK P n ops Q))(aD:o.op= .call c:=by exact rfl)(hc:callee s.ev c=some (f,args):=by exact rfl)(ha:V.mb s.L args=lU:=by simp)(hx:x.nK=true:=by exact rfl)(hg:o.guard=none:=by exact rfl)
  (hd:∀d,o.dst=some d->d<n:=by simp) (hr:dG n rest=true:=by exact rfl):ay P n ops (o::rest) s Q:=ay.IB aD h hc ha hx hg hd hr k
theorem ay.ajl{ops}{o:Oper}{rest}{c}{f}{args}{L1}{R}(hs:List Nat)(aD:o.op= .call c)(h:aE P f args L1 R)(hc:callee s.ev c=some (f,args))(hg:o.guard=none)
  (hd:∀d,o.dst=some d->d<n) (hr:dG n rest=true) (he:enters P f=true) (hL:s.L.filter (λp=>hs.contains p.1)=L1)
  (ho:V.dK (keys L1) args=true) (ig:L1.all (λp=>aV.on (keys L1) p.2)=true)
  (hZ:s.fr.all (λp=>V.on (keys (s.L.filter λp=>!hs.contains p.1)++(L1.filterMap λp=>match p.2 with|.box (_+1) _ _=>some p.1|_=>none)) p.2)=true)
  (iT:(s.L.filter λp=>!hs.contains p.1).all (λp=>aV.on (keys (s.L.filter λp=>!hs.contains p.1)++(L1.filterMap λp=>match p.2 with|.box (_+1) _ _=>some p.1|_=>none)) p.2)=true)
  (qY:∀r br,R r br->(∃x,r= .ret x)/\(∀k∈keys br,k∉keys (s.L.filter λp=>!hs.contains p.1))/\∀k b ty cs,(k,aV.box (b+1) ty cs)∈L1->∃mf jB,(k,aV.box (b+1) mf jB)∈br)
  (k:∀x br,R (.ret x) br->∀bs,eM P ops rest (St.put {s with L:=br++s.L.filter λp=>!hs.contains p.1} o.dst x) bs [] (KK P n ops Q)):ay P n ops (o::rest) s Q:=
 ay.ag6 hg hd aD hc he ho (by subst hL;exact(ap5 _ s.L).symm) ig (λp hp=>apd.1 hZ p hp) (λp hp=>apd.1 iT p hp) h qY
  (λx br hR=>bq rest _ [] hr (k x br hR))
def mH:aV->Option Nat
 | .box b _ _=>some b
 | _=>none
attribute [simp] mH
theorem SV(L1:aI):(L1.filterMap λp=>match p.2 with|.box (_+1) _ _=>some p.1|_=>none)=keys (L1.filter λp=>ff p.2):=by
 induction L1 with
 | nil=>rfl
 | cons p l ih=>
   obtain⟨a,r⟩:=p;cases r with
   | box b ty cs=>
     cases b with
     | succ b=>simp only[aqH,ap8,ff,if_true,keys,apF,ih]
     | zero=>
       simp only[aqH,ap8,ff,ih];simp
   | row ty k xs=>
     simp only[aqH,ap8,ff,ih];simp
   | env A=>
     simp only[aqH,ap8,ff,ih];simp
   | mp es=>
     simp only[aqH,ap8,ff,ih];simp
theorem SW{L1 br:aI}(ho:L1.all (λp=>!ff p.2||br.any (λq=>q.1==p.1&&(ff q.2&&mH q.2==mH p.2)))=true){k b:Nat}{ty:TypeId}{cs:List V}(hm:(k,aV.box (b+1) ty cs)∈L1):∃mf jB,(k,aV.box (b+1) mf jB)∈br:=by
 have:=apd.1 ho _ hm;simp only[ff,Bool.not_true,Bool.false_or,aqI,apb,beq_iff_eq]at this;obtain⟨⟨a,r⟩,h1,h2,h3,h4⟩:=this;simp only at h2;subst h2;cases r with
 | box b' mf jB=>
   simp only[mH,anc]at h4;subst h4;exact⟨mf,jB,h1⟩
 | row _ _ _=>simp at h3
 | env _=>simp at h3
 | mp _=>simp at h3
theorem ay.u1{ops:Array Oper}{o:Oper}{rest:List Oper}{c:Call}{f:FuncId}{args:List V}{L1 br:aI}{x:V}(hs:List Nat)(aD:o.op= .call c)(h:aE P f args L1 (fun r L=>r= .ret x∧L=br))(hc:callee s.ev c=some (f,args))(hg:o.guard=none)
  (hd:∀d,o.dst=some d->d<n) (hr:dG n rest=true) (he:enters P f=true) (hL:s.L.filter (λp=>hs.contains p.1)=L1)
  (ho:V.dK (keys L1) args=true/\L1.all (λp=>aV.on (keys L1) p.2)=true/\L1.all (λp=>!ff p.2||br.any (λq=>q.1==p.1&&(ff q.2&&mH q.2==mH p.2)))=true)
  (hZ:s.fr.all (λp=>V.on (keys (s.L.filter λp=>!hs.contains p.1)++keys (L1.filter λp=>ff p.2)) p.2)=true)
  (iT:(s.L.filter λp=>!hs.contains p.1).all (λp=>aV.on (keys (s.L.filter λp=>!hs.contains p.1)++keys (L1.filter λp=>ff p.2)) p.2)=true)
  (hk:(keys br).all (λk=>!(keys (s.L.filter λp=>!hs.contains p.1)).contains k)=true)
  (k:∀bs,eM P ops rest (St.put {s with L:=br++s.L.filter λp=>!hs.contains p.1} o.dst x) bs [] (KK P n ops Q)):ay P n ops (o::rest) s Q:=by
 have gS:=SV L1;refine ay.ajl hs aD h hc hg hd hr he hL ho.1 ho.2.1 (by rw[gS];exact hZ) (by rw[gS];exact iT) ?_ ?_
 ·rintro r uW ⟨rfl,rfl⟩;refine⟨⟨_,rfl⟩,λk rA=>?_,λk b ty cs hm=>?_⟩
  ·have:=apd.1 hk k rA;simpa using this
  ·exact SW ho.2.2 hm
 ·rintro x' uW ⟨e,rfl⟩;obtain rfl:=AE.ret.inj e;exact k
theorem eD{ops:Array Oper}{o:Oper}{rest:List Oper}{c:Call}{f:FuncId}{args:List V}{L1 br:aI}{x:V}(hs:List Nat)(h:aE P f args L1 (fun r L=>r= .ret x∧L=br))
  (k:∀bs,eM P ops rest (St.put {s with L:=br++s.L.filter λp=>!hs.contains p.1} o.dst x) bs [] (KK P n ops Q)) (aD:o.op= .call c:=by exact rfl) (hc:callee s.ev c=some (f,args):=by simp) (hg:o.guard=none:=by exact rfl)
  (hd:∀d,o.dst=some d->d<n:=by simp) (hr:dG n rest=true:=by exact rfl) (he:enters P f=true:=by kernel_rfl) (hL:s.L.filter (λp=>hs.contains p.1)=L1:=by first|rfl|simp)
  (ho:V.dK (keys L1) args=true/\L1.all (λp=>aV.on (keys L1) p.2)=true/\L1.all (λp=>!ff p.2||br.any (λq=>q.1==p.1&&(ff q.2&&mH q.2==mH p.2)))=true:=by simp)
  (hZ:s.fr.all (λp=>V.on (keys (s.L.filter λp=>!hs.contains p.1)++keys (L1.filter λp=>ff p.2)) p.2)=true:=by simp)
  (iT:(s.L.filter λp=>!hs.contains p.1).all (λp=>aV.on (keys (s.L.filter λp=>!hs.contains p.1)++keys (L1.filter λp=>ff p.2)) p.2)=true:=by simp)
  (hk:(keys br).all (λk=>!(keys (s.L.filter λp=>!hs.contains p.1)).contains k)=true:=by simp):ay P n ops (o::rest) s Q:=ay.u1 hs aD h hc hg hd hr he hL ho hZ iT hk k
def upF(fr:List (Nat×V))(ov:List (Nat×V)):List (Nat×V):=fr.map λp=>(p.1,(ov.lookup p.1).getD p.2)
def IC(L:aI)(ov:List (Nat×aV)):aI:=L.map λp=>(p.1,(ov.lookup p.1).getD p.2)
def St.up(s:St)(F:List (Nat×V))(R:List (Nat×aV)):St:=⟨upF s.fr F,IC s.L R⟩
def ac8(ts hs:List Nat)(S:Nat->St)(N:Nat)(H:Nat->Prop)(i:Nat)(s:St):Prop:=(s.pick ts hs).on (keys (s.pick ts hs).L)=true/\i<N/\s.pick ts hs=S (i+1)/\H (i+1)
theorem av.cJ{c}{ks} ts N(F:Nat→List (Nat×V))(R:Nat→List (Nat×aV)) H(ht:ts.all (fun t=>decide (t < n))=true)
  (h0:(keys s.L).Nodup/\(s.pick ts (keys s.L)).on (keys (s.pick ts (keys s.L)).L)=true/\s.pick ts (keys s.L)=(s.pick ts (keys s.L)).up (F 0) (R 0)/\H 0)
  (round:∀i,i<=N->H i->cW P n c ((s.pick ts (keys s.L)).up (F i) (R i)) (cn P n Q (.inv (ac8 ts (keys s.L) (λi=>(s.pick ts (keys s.L)).up (F i) (R i)) N H i)::ks))):
  av P n (.loop c) s (cn P n Q ks):=by
 obtain⟨h1,h2,h3,h4⟩:=h0;refine av.weaken (Wk.pick ts (keys s.L) ht h1 h2) (av.loop (λk st=>∃i,k=N-i/\i<=N/\H i/\st=(s.pick ts (keys s.L)).up (F i) (R i)) ⟨N,0,rfl,aqr _,h4,h3⟩ ?_);rintro k st ⟨i,rfl,hi,hH,rfl⟩;refine av.mono (ef _ _ _ (round i hi hH)) (λx s' h=>?_);cases x with
 | normal=>
   obtain⟨a1,a2,a3,a4⟩:=h;exact⟨N-(i+1),by omega,_,Wk.pick ts (keys s.L) ht h1 a1,i+1,rfl,by omega,a4,a3⟩
 | _=>exact h
def aV.yZ:aV->aV
 | .box _ ty cs=> .box 0 ty cs
 | r=>r
def St.yZ(rs:List Nat)(s:St):St:=⟨s.fr,s.L.map λp=>(p.1,if rs.contains p.1 then p.2.yZ else p.2)⟩
theorem Wk.yZ rs:Wk n s (s.yZ rs):=by
 intro fo m a w g;have hi:=g.inv;have hk:keys (St.yZ rs s).L=keys s.L:=by simp[St.yZ]
 refine⟨m,⟨g.size,g.fr,⟨by rw[hk];exact hi.nodup,λh x hx=>by rw[hk];exact hi.fI h x hx,hi.apart,hi.others,hi.ei,?_,hi.ee⟩,g.defers⟩,Step.refl w _⟩;intro h r hr;obtain⟨p,hp,he⟩:=apf.1 hr;cases he;obtain⟨x,hx,hh⟩:=hi.holds p.1 p.2 hp;refine⟨x,hx,?_⟩;split
 ·generalize p.2=q at hh;cases q with
  | row ty k xs=>exact hh
  | env A=>exact hh
  | mp es=>exact hh
  | box b ty cs=>
    obtain⟨bb,_,h1⟩:=hh;exact⟨bb,.inl rfl,h1⟩
 omega
def ahe(rs ts hs:List Nat)(S:Nat->St)(N:Nat)(H:Nat->Prop)(i:Nat)(s:St):Prop:=(s.pick ts hs).on (keys (s.pick ts hs).L)=true/\i<N/\(s.pick ts hs).yZ rs=S (i+1)/\H (i+1)
attribute [simp] aV.yZ St.yZ ahe
def ac9(n:Nat)(S:Nat->St)(N:Nat)(H:Nat->Prop)(i:Nat)(s:St):Prop:=i<N/\H (i+1)/\Wk n s (S (i+1))
theorem av.ahf{c}{ks} N S H(h0:H 0∧Wk n s (S 0))
  (round:∀i,i<=N->H i->cW P n c (S i) (cn P n Q (.inv (ac9 n S N H i)::ks))):av P n (.loop c) s (cn P n Q ks):=by
 refine av.weaken h0.2 (av.loop (λk st=>∃i,k=N-i/\i<=N/\H i/\st=S i) ⟨N,0,rfl,aqr _,h0.1,rfl⟩ ?_);rintro k st ⟨i,rfl,hi,hH,rfl⟩;refine av.mono (ef _ _ _ (round i hi hH)) (λx s' h=>?_);cases x with
 | normal=>
   obtain⟨a1,a2,a3⟩:=h;exact⟨N-(i+1),by omega,_,a3,i+1,rfl,by omega,a2,rfl⟩
 | _=>exact h
attribute [simp] upF IC St.up ac8 ac9
@[simp] theorem ahg(ys:List (List D))(i:Nat)(h:i<(dd ys).length):(dd ys)[i]'h=(ys[i]'(by simp_all)).map V.d:=by simp[dd]
@[simp] theorem afz(l:List ByteArray)(i:Nat)(h:i<(iB l).length):(iB l)[i]'h=[.v (.string (l[i]'(by simp_all)))]:=by simp[iB]
@[simp] theorem aeY{α:Type}(g:List α->List (List D))(l:List (List α))(i:Nat)(h:i<(oi g l).length):(oi g l)[i]'h=[.sl (g (l[i]'(by simp_all)))]:=by simp[oi]
@[simp] theorem afA(l:List Int)(i:Nat)(h:i<(aA l).length):(aA l)[i]'h=[.v (.int .i64 (l[i]'(by simp_all)))]:=by simp[aA]
end
section
variable {P : Program} {n : Nat} {s : St} {Q : AX -> St -> Prop} {L : aI}
def ada{α:Type}(ts hs:List Nat)(S:List α->St)(H:List α->Prop)(pre:List α)(x:α)(s:St):Prop:=(s.pick ts hs).on (keys (s.pick ts hs).L)=true/\s.pick ts hs=S (pre++ [x])/\H (pre++ [x])
theorem av.fh{α:Type}{c:Code}{ks:List KI}(ts:List Nat)(l:List α)(F:List α→List (Nat×V))(R:List α→List (Nat×aV))(H:List α→Prop)(ht:ts.all (fun t=>decide (t < n))=true)(hl:l.length≤1000000000000000)
  (h0:(keys s.L).Nodup/\(s.pick ts (keys s.L)).on (keys (s.pick ts (keys s.L)).L)=true/\s.pick ts (keys s.L)=(s.pick ts (keys s.L)).up (F []) (R [])/\H [])
  (round:∀pre x post,l=pre++x::post->H pre->(au:pre.length<l.length)->l[pre.length]=x->aM .i64 ((pre.length:Int)+1)->
   cW P n c ((s.pick ts (keys s.L)).up (F pre) (R pre)) (cn P n Q (.inv (ada ts (keys s.L) (λl=>(s.pick ts (keys s.L)).up (F l) (R l)) H pre x)::ks)))
  (last:H l->cW P n c ((s.pick ts (keys s.L)).up (F l) (R l)) (cn P n Q (.inv (λ_=>False)::ks))):
  av P n (.loop c) s (cn P n Q ks):=by
 obtain⟨h1,h2,h3,h4⟩:=h0;refine av.weaken (Wk.pick ts (keys s.L) ht h1 h2) (av.loop (λk st=>∃pre post,l=pre++post/\k=post.length/\H pre/\st=(s.pick ts (keys s.L)).up (F pre) (R pre)) ⟨l.length,[],l,rfl,rfl,h4,h3⟩ ?_);rintro k st ⟨pre,post,bu,rfl,hH,rfl⟩
 match post,bu with
 | x::post,bu=>
   refine av.mono (ef _ _ _ (round pre x post bu hH (by rw[bu];simp) (by simp[bu]) (by rw[aU];rw[bu]at hl;simp at hl;omega))) (λy s' h=>?_);cases y with
   | normal=>
     obtain⟨a1,a2,a3⟩:=h;exact⟨post.length,by simp,_,Wk.pick ts (keys s.L) ht h1 a1,pre++ [x],post,by simp[bu],rfl,a3,a2⟩
   | _=>exact h
 | [],bu=>
   rw[apL]at bu;subst bu;refine av.mono (ef _ _ _ (last hH)) (λy s' h=>?_);cases y with
   | normal=>exact h.elim
   | _=>exact h
end
attribute [simp] ada
section
variable {P : Program} {n : Nat} {s : St} {Q : AX -> St -> Prop} {ops : Array Oper}
theorem Oper.F6{F d}{o:Oper}{a next next' Q1 Q2}(hn:∀a w,next a w->next' a w)(he:∀e a w,e≠ .normal->Q1 e a w->Q2 e a w){r}(h:o.uponIn F d P a next Q1 r):o.uponIn F d P a next' Q2 r:=by
 cases r with
 | ok x w'=>
   cases x<;>simp[Oper.uponIn]at h⊢<;>
    first
     | exact hn _ _ h
     | exact⟨h.1,CallsIn.mono h.2 (λe Ah hh=>by cases e<;>first|exact hn _ _ hh|exact he _ _ _ (by simp) hh|(obtain⟨a0,w0,hq⟩:=hh;exact⟨a0,w0,he _ _ _ (by simp) hq⟩))⟩
     | exact⟨h.1,RowsIn.mono h.2 (λ_ _ hh=>hn _ _ hh)⟩
     | exact⟨h.1,RoundIn.mono h.2 (λe Ah hh=>by cases e<;>first|exact hn _ _ hh|exact he _ _ _ (by simp) hh|(obtain⟨a0,w0,hq⟩:=hh;exact⟨a0,w0,he _ _ _ (by simp) hq⟩))⟩
 | halt x w'=>cases x<;>simp[Oper.uponIn]at h⊢<;>exact he _ _ _ (by simp) h
theorem Br{F}{d}{Q1 Q2}{l2}(hn:∀a w,Q1 .normal a w→wpListIn F d P ops Q2 l2 a w)(he:∀e a w,e≠ .normal→Q1 e a w→Q2 e a w):
  ∀l1 a w,wpListIn F d P ops Q1 l1 a w->wpListIn F d P ops Q2 (l1++l2) a w
 | [],a,w,h=>hn a w h
 | o::l1,a,w,h=>by
   rw[apm];unfold wpListIn at h⊢;split
   ·rename_i hw;rw[if_pos hw]at h;exact⟨h.1,Oper.F6 (λa w=>Br hn he l1 a w) he h.2⟩
   ·rename_i hw;rw[if_neg hw]at h;exact⟨h.1,Br hn he l1 _ _ h.2⟩
theorem vX{F d Q1 Q2}(he:∀e a w,Q1 e a w->Q2 e a w):∀l a w,wpListIn F d P ops Q1 l a w->wpListIn F d P ops Q2 l a w
 | [],a,w,h=>he _ a w h
 | o::l,a,w,h=>by
   unfold wpListIn at h⊢;split
   ·rename_i hw;rw[if_pos hw]at h;exact⟨h.1,Oper.F6 (λa w=>vX he l a w) (λe a w _=>he e a w) h.2⟩
   ·rename_i hw;rw[if_neg hw]at h;exact⟨h.1,vX he l _ _ h.2⟩
theorem ay.app{l1 l2}(h:ay P n ops l1 s (AX.then (λs'=>ay P n ops l2 s' Q) Q)):ay P n ops (l1++l2) s Q:=by
 intro fo m0 w0 m a w st g;refine Br (λa1 w1 h1=>?_) (λe a1 w1 bR h1=>?_) l1 a w (h fo m0 w0 m a w st g)
 ·obtain⟨ms,m',x,s',hm,hq,g',hx,fK⟩:=h1;cases x<;>simp[bG]at hx
  refine vX (λ_ _ _=>gi.marked hm g' fK) _ _ _ (hq (fo.mark ms) m' w1 m' a1 w1 (Step.refl _ _) g')
 ·obtain⟨ms,m',x,s',hm,hq,g',hx,fK⟩:=h1;refine⟨ms,m',x,s',hm,?_,g',hx,fK⟩;cases x with
  | normal=>cases e<;>simp[bG]at hx;exact(bR rfl).elim
  | _=>exact hq
theorem ay.stop{l} k us(hd:dG n (l.take k)=true)(h:∀bs,eM P ops (l.take k) s bs us (KK P n ops (AX.then (λs'=>ay P n ops (l.drop k) s' Q) Q))):ay P n ops l s Q:=by
 rw[<-apv k l];exact ay.app (bq _ _ us hd h)
theorem av.aed{id l}(h:ay P n l.toArray l s Q):av P n (.region id l.toArray false) s Q:=
 λfo m a w _ g=>xZ (by simpa using h fo m w m a w (Step.refl _ _) g)
theorem ay.ajm{o}{rest}{g}{t}{xo yo}{ty}{a b}(aD:o.op= .binOp .sub t xo yo ty)(jC:fq ops s o=some (some g))(hd:∀d,o.dst=some d→d < n)
  (hx:(s.ev xo).un=iD a/\(s.ev yo).un=iD b) (hu:g=true->nI s o.op.operands.toList)
  (k:ay P n ops rest (s.put o.dst (.gd g (iD (IntKind.i64.wrap (a-b))))) Q):ay P n ops (o::rest) s Q:=by
 refine ay.guarded jC hd (λhg=>⟨λz=>(s.ev z).un,λz hz w O m v hr=>vA hr (sF (hu hg) z (by grind)),?_⟩) k;intro fo m ρ w hi hr;have h1:=hr xo (by simp_all);have h2:=hr yo (by simp_all);simp only[hx.1]at h1;simp only[hx.2]at h2;have e1:=h1.cy;have e2:=h2.cy;refine⟨.int .i64 (IntKind.i64.wrap (a-b)),?_,.d _ _ (.v _ rfl)⟩;simp_all[execOp,eqGuard,binOp,Op.intArith]
theorem ay.ss{o}{rest}{c}{f}{args}{x}{g}(aD:o.op= .call c)(h:g=true→Pure P f args x)(hc:callee (fun z=>(s.ev z).un) c=some (f,args))(jC:fq ops s o=some (some g))(hu:g=true→nI s o.op.operands.toList)
  (hd:∀d,o.dst=some d->d<n) (hr:dG n rest=true) (k:∀bs,eM P ops rest (s.put o.dst (.gd g x)) bs [] (KK P n ops Q)):ay P n ops (o::rest) s Q:=
 ay.Oh jC hd (λhg=>⟨λz=>(s.ev z).un,λz hz w O m v hr=>vA hr (sF (hu hg) z (by grind)),qi.call aD hc (h hg).en (h hg).on (h hg).rn (h hg).calls⟩) (bq rest _ [] hr k)
theorem pGh{ops:Array Oper}{o:Oper}{rest:List Oper}{c:Call}{f:FuncId}{args:List V}{x:V}{g:Bool}(h:g=true→Pure P f args x)(k:∀bs,eM P ops rest (s.put o.dst (.gd g x)) bs [] (KK P n ops Q))(aD:o.op= .call c:=by exact rfl)(hc:callee (fun z=>(s.ev z).un) c=some (f,args):=by exact rfl)(jC:fq ops s o=some (some g):=by first | rfl | (simp;rfl))(hu:g=true→nI s o.op.operands.toList:=by simp)
  (hd:∀d,o.dst=some d->d<n:=by simp) (hr:dG n rest=true:=by exact rfl):ay P n ops (o::rest) s Q:=ay.ss aD h hc jC hu hd hr k
theorem pG{ops:Array Oper}{o:Oper}{rest:List Oper}{c:Call}{f:FuncId}{args:List V}{x:V}{g:Bool}(h:Pure P f args x)(k:∀bs,eM P ops rest (s.put o.dst (.gd g x)) bs [] (KK P n ops Q))(aD:o.op= .call c:=by exact rfl)(hc:callee (fun z=>(s.ev z).un) c=some (f,args):=by exact rfl)(jC:fq ops s o=some (some g):=by first | rfl | (simp;rfl))(hu:g=true→nI s o.op.operands.toList:=by simp)
  (hd:∀d,o.dst=some d->d<n:=by simp) (hr:dG n rest=true:=by exact rfl):ay P n ops (o::rest) s Q:=ay.ss aD (λ_=>h) hc jC hu hd hr k
theorem pN{ops:Array Oper}{o:Oper}{rest:List Oper}{c:Call}{f:FuncId}{args:List V}(x:V)(k:∀bs,eM P ops rest (s.put o.dst (.gd false x)) bs [] (KK P n ops Q))(aD:o.op= .call c:=by exact rfl)(hc:callee (fun z=>(s.ev z).un) c=some (f,args):=by exact rfl)(jC:fq ops s o=some (some false):=by first | rfl | (simp;rfl))(hu:false=true→nI s o.op.operands.toList:=by simp)
  (hd:∀d,o.dst=some d->d<n:=by simp) (hr:dG n rest=true:=by exact rfl):ay P n ops (o::rest) s Q:=ay.ss aD (λh=>by cases h) hc jC hu hd hr k
theorem av.gW{x y}(h:cW P n x s (cn P n (AX.then (λs'=>av P n y s' Q) Q) [])):av P n (.seq x y) s Q:=av.seq (ef _ _ _ h)
theorem Pure.JS{f}{args}{x}{fn}{c}(hf:P.funcs[f]?=some fn)(hb:fn.body=some c)(hs:args.length≤fn.ntmps∧enters P f=true∧V.dK [] args=true∧x.on []=true)
  (h:av P fn.ntmps c ⟨eH 0 args,[]⟩ (cn P fn.ntmps (fb P fn.results.toList (λr L'=>∃y,r= .ret y/\y.fz L'=x)) [])):Pure P f args x:=
 ⟨hs.2.1,hs.2.2.1,hs.2.2.2,(aE.data (aE.xW hf hb hs.1 h) hs.2.2.2).mono λ_ _ h=>h.1⟩
end
section
variable {P : Program} {n : Nat} {s : St} {Q : AX -> St -> Prop} {L : aI} {b N : Nat} {ty : TypeId} {k : Nat} {A : Nat -> List (List D)}
theorem Wk.qh c i h{e k:Nat}{bk}{bt}{cs}(hl:s.L.lookup c=some (.box bk bt cs))(hi:cs[i]?=some (.d (.v (.slice none 0 0))))(hn:h∉keys s.L):
  Wk n s ⟨s.fr,(h,.row e k [])::aI.jA s.L c (.box bk bt (cs.set i (.rv h)))⟩:=by
 intro fo m a w g;obtain⟨g',st⟩:=g.new (hY.refl w) hn (r:= .row e k []) (by simp[dq,jJ]) (.inl ⟨rfl,rfl⟩);refine⟨_,⟨g'.size,g'.fr,?_,g'.defers⟩,st⟩;have cm:=g'.inv;have Dr:keys ((h,aV.row e k [])::aI.jA s.L c (.box bk bt (cs.set i (.rv h))))=keys ((h,aV.row e k [])::s.L):=by
  grind[xH,keys]
 have fm:=dL hl;refine⟨by rw[Dr];exact cm.nodup,λj x hx=>by rw[Dr];exact cm.fI j x hx,cm.apart,cm.others,cm.ei,?_,cm.ee⟩;intro j r hr;rcases apq.1 hr with hr|hr
 ·exact cm.holds j r (by grind)
 ·obtain⟨p,hp,he⟩:=apf.1 hr;split at he
  ·cases he;obtain⟨x,hx,hh⟩:=cm.holds c _ (apl _ fm);refine⟨x,hx,?_⟩;obtain⟨bb,km,cur,e1,e2,e3,e4,e5⟩:=hh;refine⟨bb,km,cur,e1,e2,by grind,e4,λl v y hv hy=>?_⟩;rw[arA]at hy;split at hy
   ·rename_i kr;subst kr;split at hy
    ·simp[anc]at hy;subst hy;have:=e5 i v _ hv hi;rw[this.p6];exact .rv h _ (cq _ _) rfl
    grind
   grind
  ·rw[he]at hp;exact cm.holds j r (apl _ hp)
@[simp] theorem J8 N v:List.replicate N [V.d (.v (.int .i64 v))]=dd (aA (List.replicate N v)):=by simp[dd,aA]
mutual
def V.eB(h g:Nat):V->V
 | .bp i o=>if i=h then .bp g o else .bp i o
 | .rv i=>if i=h then .rv g else .rv i
 | .ep i k x y=>if i=h then .ep g k x y else .ep i k x y
 | .eS fn f c=> .eS fn (V.qq h g f) (V.qq h g c)
 | .agg cs=> .agg (V.qq h g cs)
 | .bA cs=> .bA (V.qq h g cs)
 | .gd b x=> .gd b (V.eB h g x)
 | .d x=> .d x
 | .rp cs=> .rp cs
 | .sv i n=>if i=h then .sv g n else .sv i n
 | .kn Q=> .kn Q
 | .any=> .any
def V.qq(h g:Nat):List V->List V
 | []=> []
 | x::l=>V.eB h g x::V.qq h g l
end
theorem qZ h g:∀l:List V,V.qq h g l=l.map (V.eB h g)
 | []=>by rfl
 | x::l=>by simp[V.qq,qZ]
theorem OM h g(l:List D):V.qq h g (l.map V.d)=l.map V.d:=by
 simp[qZ,V.eB]
def aV.eB(h g:Nat):aV->aV
 | .box b ty cs=> .box b ty (V.qq h g cs)
 | .row ty k xs=> .row ty k (xs.map (V.qq h g))
 | .env A=> .env A
 | .mp es=> .mp es
theorem afB h g ys:(dd ys).map (V.qq h g)=dd ys:=by
 simp[dd,OM]
def St.eB(h g:Nat)(s:St):St:=⟨s.fr.map λp=>(p.1,p.2.eB h g),s.L.map λp=>(if p.1=h then g else p.1,p.2.eB h g)⟩
theorem aC.eB{w O m m' h g}(hm:∀i x,i≠h->m i=some x->m' i=some x)(hg:∀x,m h=some x->m' g=some x){x y}(hr:aC w O m x y):aC w O m' x (y.eB h g):=by
 induction hr with
 | d x y hd=>simpa[V.eB]using aC.d x y hd
 | bp i off b e=>
   simp only[V.eB];split
   ·rename_i he;subst he;exact .bp g off b (hg _ e)
   ·rename_i bR;exact .bp i off b (hm _ _ bR e)
 | rv i x e e1=>
   simp only[V.eB];split
   ·rename_i he;subst he;exact .rv g x (hg _ e) e1
   ·rename_i bR;exact .rv i x (hm _ _ bR e) e1
 | ep i k p q b o n c e=>
   simp only[V.eB];split
   ·rename_i he;subst he;exact .ep g k p q b o n c (hg _ e)
   ·rename_i bR;exact .ep i k p q b o n c (hm _ _ bR e)
 | rp b off cs f hb au hc hr=>simpa[V.eB]using aC.rp b off cs f hb au hc hr
 | sv i n b cap e hc hx=>
   simp only[V.eB];split
   ·rename_i he;subst he;exact .sv g n b cap (hg _ e) hc hx
   ·rename_i bR;exact .sv i n b cap (hm _ _ bR e) hc hx
 | eS fn first eh cf cc s1 s2 h1 h2 FA KJ=>
   simp only[V.eB,qZ];refine .eS fn first eh _ _ (by grind) (by grind) ?_ ?_
   ·grind
   grind
 | agg vs cs hs h1 h2 ih=>
   simp only[V.eB,qZ];refine .agg vs _ (by grind) h1 ?_;grind
 | bA vs cs hs h2 ih=>
   simp only[V.eB,qZ];refine .bA vs _ (by grind) ?_;grind
 | gt x y hr ih=>simpa[V.eB]using aC.gt x _ ih
 | gf y=>simpa[V.eB]using aC.gf (y.eB h g)
 | kn x Q h=>simpa[V.eB]using aC.kn x Q h
 | any x=>simpa[V.eB]using aC.any x
theorem aV.Holds.eB{w O m m' h g}(hm:∀i x,i≠h->m i=some x->m' i=some x)(hg:∀x,m h=some x->m' g=some x){x}{r:aV}(hh:r.Holds w O m x):(r.eB h g).Holds w O m' x:=by
 cases r with
 | box b ty cs=>
   obtain⟨bb,km,cur,rfl,h1,h2,h3,h4⟩:=hh;simp[aV.eB,qZ];refine⟨bb,km,cur,rfl,h1,by grind,h3,λj v c hv hc=>?_⟩;rw[apc]at hc;obtain⟨z,hz,rfl⟩:=ao8.1 hc;exact(h4 j v z hv hz).eB hm hg
 | row ty k xs=>
   rcases hh with⟨rfl,rfl⟩|⟨b,off,cap,cur,rfl,h1,h2,h3,h4,h5,h6,h7⟩
   ·exact .inl ⟨rfl,rfl⟩
   ·refine .inr ⟨b,off,cap,cur,by simp,h1,by grind,h3,h4,λi x hx=>?_,h6,λi j x y v hx hy hv=>?_⟩
    ·grind[qZ,List.length_map]
    ·rw[apc]at hx;obtain⟨z,hz,rfl⟩:=ao8.1 hx;rw[qZ,apc]at hy;obtain⟨y',nr,rfl⟩:=ao8.1 hy;exact(h7 i j z y' v hz nr hv).eB hm hg
 | env A=>exact hh
 | mp es=>exact hh
theorem Wk.eB h g(hg:g∉keys s.L):Wk n s (s.eB h g):=by
 classical
 intro fo m a w gg
 let m':Nat->Option Value:=λi=>if i=g then m h else if i=h then none else m i
 have hi:=gg.inv;have Oi:∀x,m g≠some x:=λx hx=>hg (hi.fI g x hx)
 have hm:∀i x,i≠h->m i=some x->m' i=some x:=by
  grind
 have hmg:∀x,m h=some x->m' g=some x:=λx hx=>by grind
 have mE:∀i x,m' i=some x->∃j,m j=some x/\i=(if j=h then g else j):=by
  grind
 have eW:∀b,Ab.own m' b↔Ab.own m b:=by
  intro b;constructor
  ·rintro⟨i,x,hx,hb⟩;obtain⟨j,hj,_⟩:=mE i x hx;exact⟨j,x,hj,hb⟩
  ·rintro⟨i,x,hx,hb⟩;by_cases e:i=h
   ·subst e;exact⟨g,x,hmg x hx,hb⟩
   ·exact⟨i,x,hm i x e hx,hb⟩
 have hO:∀b,b<w.heap.size->OO fo m' b->OO fo m b:=λb _ ho=>ho.imp (eW b).1 id
 have Dr:∀i,i∈keys s.L->(if i=h then g else i)∈keys (s.eB h g).L:=by
  intro i cm;obtain⟨p,hp,rfl⟩:=apf.1 cm;exact apf.2 ⟨_,apf.2 ⟨p,hp,rfl⟩,rfl⟩
 refine⟨m',⟨gg.size,?_,?_,gg.defers⟩,⟨rfl,rfl,rfl,api _,λ_ _ _=>rfl,λb _ ho=>(eW b).1 ho⟩⟩
 ·intro t x hx;obtain⟨p,hp,he⟩:=apf.1 hx;cases he;obtain⟨h1,h2⟩:=gg.fr p.1 p.2 hp;exact⟨h1,(h2.eB hm hmg).mono (bK.refl w _) hO (λ_ _ e=>e)⟩
 ·refine⟨?_,?_,?_,?_,hi.ei,?_,hi.ee.mono (bK.refl w _) hO⟩
  ·have:keys (s.eB h g).L=(keys s.L).map λi=>if i=h then g else i:=by
    simp[keys,St.eB,aq7]
   rw[this];have gz:=hi.nodup;grind[List.Nodup,List.Pairwise.imp_of_mem]
  ·intro i x hx;obtain⟨j,hj,rfl⟩:=mE i x hx;exact Dr j (hi.fI j x hj)
  ·intro i j x y b hx hy hb dn;obtain⟨i',qj,rfl⟩:=mE i x hx;obtain⟨j',SX,rfl⟩:=mE j y hy;rw[hi.apart i' j' x y b qj SX hb dn]
  ·intro i x b hx hb;obtain⟨j,hj,_⟩:=mE i x hx;exact hi.others j x b hj hb
  ·intro i r hr;obtain⟨p,hp,he⟩:=apf.1 hr;cases he;obtain⟨x,hx,hh⟩:=hi.holds p.1 p.2 hp;refine⟨x,?_,(hh.eB hm hmg).mono (λ_ _=>rfl) (bK.refl w _) hO (λ_ _ e=>e)⟩;grind
attribute [simp] V.eB V.qq aV.eB St.eB OM afB
def EPost(P:Program)(rs:List ResultVar)(R:AE->aI->Prop)(hs:List Nat)(x:AX)(s:St):Prop:=
 match x with
 | .normal|.ret=>(s.pick [] hs).on (keys (s.pick [] hs).L)=true/\fb P rs R .ret (s.pick [] hs)
 | _=>False
theorem av.epost{P c rs R} hs(hh:hs.Nodup)(h:av P n c s (EPost P rs R hs)):av P n c s (fb P rs R):=by
 intro fo m a w hr g;refine Code.wpIn_mono (λe a1 w1 hp=>?_) (h fo m a w hr g);obtain⟨ms,m',x,s',rH,hq,g',he,st⟩:=hp;have key:∀y,(s'.pick [] hs).on (keys (s'.pick [] hs).L)=true/\fb P rs R .ret (s'.pick [] hs)->(∀m2,bG w1 (OO (fo.mark ms) m2) m2 e y)->fb P rs R .ret (s'.pick [] hs)=fb P rs R y (s'.pick [] hs)->gi fo n m w (fb P rs R) e a1 w1:=by
  intro y h1 h2 h3;obtain⟨m2,g2,oS⟩:=Wk.pick [] hs (by simp) hh h1.1 (fo.mark ms) m' a1 w1 g';exact⟨ms,m2,y,s'.pick [] hs,rH,h3 ▸ h1.2,g2,h2 m2,st.trans oS⟩
 cases x with
 | normal=>
   refine key .normal hq (λm2=>?_) rfl;grind[bG]
 | ret=>
   refine key .ret hq (λm2=>?_) rfl;grind[bG]
 | _=>exact hq.elim
theorem aE.vT{P} hs(hh:hs.Nodup){f}{args}{R}{fn}{c}(hf:P.funcs[f]?=some fn)(hb:fn.body=some c)(hn:args.length≤fn.ntmps)
  (h:cW P fn.ntmps c ⟨eH 0 args,L⟩ (cn P fn.ntmps (EPost P fn.results.toList R hs) [])):aE P f args L R:=
 aE.xW hf hb hn (av.epost hs hh (ef _ _ _ h))
attribute [simp] EPost
end
section
variable {P : Program} {n : Nat} {s : St} {Q : AX -> St -> Prop} {ops : Array Oper}
theorem ay.panic{o rest xo t ag cs}(aD:o.op= .panic xo)(hx:s.ev xo= .d (.uB t ag cs))(hg:o.guard=none)(k:Q (.ix (.d (.uB t ag cs))) s):ay P n ops (o::rest) s Q:=by
 intro fo m0 w0 m a w st g;have hr:=ck g xo;rw[hx]at hr;obtain⟨u,hv⟩:=JO hr.kU;unfold wpListIn;rw[if_pos (by simp[Region.wanted,hg])];have bz:(execOp a.eval o).run P w= .halt (.panic (a.eval xo)) w:=by
  simp_all[execOp,Instr.panic]
 refine W5 (by grind) bz ?_;exact .of m (.ix (.d (.uB t ag cs))) s k g ⟨_,[],rfl,by simp,hr⟩ st
def zl(P:Program):Next->World->(Ending->World->Prop)->Prop
 | .enter f args,w,R=>Calls P f args w R
 | .round l f tmps assign body,w,R=>RoundIn Fence.wide 0 P l f tmps assign body w R
 | _,_,_=>False
theorem zl.mono{nx w R R'}(h:zl P nx w R)(hr:∀e w',R e w'->R' e w'):zl P nx w R':=by
 cases nx<;>simp[zl]at h⊢
 ·exact Calls.mono h hr
 grind[RoundIn.mono]
theorem Lq{r}{o}{a}{w w'}{nx}{next}{Q}(bz:(execOp a.eval o).run P w= .ok nx w')
  (h:zl P nx w' fun
   | .returned v,Ah=>next (a.put o.dst v) Ah
   | .panicked chain,Ah=>Q (.panic chain) a Ah
   | .outgrown,_=>LetsOut Q):o.wpIn (wr r) 0 P a w next Q:=by
 refine⟨λ_ _=>trivial,?_⟩;cases nx<;>simp[zl]at h
 ·rw[CB (yO bz (by simp)),bz];exact⟨λh=>by grind[wr,Fence.wide],GB h⟩
 ·rw[CB (yO bz (by simp)),bz];exact⟨λh=>by grind[wr,Fence.wide],h⟩
theorem core{o:Oper}{L1 L2:aI}{R:AE→aI→Prop}
  (hL:s.L.Perm (L1++L2)) (ig:L1.all (λp=>aV.on (keys L1) p.2)=true)
  (iT:∀p∈L2,aV.on (keys L2++(L1.filterMap λp=>match p.2 with|.box (_+1) _ _=>some p.1|_=>none)) p.2=true)
  (qY:∀r br,R r br->(∀k∈keys br,k∉keys L2)/\∀k b ty cs,(k,aV.box (b+1) ty cs)∈L1->∃mf jB,(k,aV.box (b+1) mf jB)∈br)
  {fo:FO} {m:Nat->Option Value} {a:Act} {w:World}
  (h:∀(gT:FO) (m1:Nat->Option Value),(∀b,OO gT m1 b↔OO fo m b)->(∀h x,h∈keys L1->m h=some x->m1 h=some x)->Inv gT m1 L1 w->∃nx,(execOp a.eval o).run P w= .ok nx w/\zl P nx w (mz gT m1 w R))
  (g:G fo n m s a w) {next:Act->World->Prop} {Q':Exit->Act->World->Prop}
  (k:∀x br mm v w',R (.ret x) br->aC w' (OO fo mm) mm v x->Inv fo mm (br++L2) w'->Step w (own m) w' (own mm)->
   (∀h y,h∈keys L2++(L1.filterMap λp=>match p.2 with|.box (_+1) _ _=>some p.1|_=>none)->m h=some y->mm h=some y)->
   bK w (OO fo m) w'->(∀b,b<w.heap.size->OO fo mm b->OO fo m b)->next (a.put o.dst v) w')
  (kp:∀x br mm ch w',R (.ix x) br->AW w' (OO fo mm) mm ch x->Inv fo mm (br++L2) w'->Step w (own m) w' (own mm)->
   (∀h y,h∈keys L2++(L1.filterMap λp=>match p.2 with|.box (_+1) _ _=>some p.1|_=>none)->m h=some y->mm h=some y)->
   bK w (OO fo m) w'->(∀b,b<w.heap.size->OO fo mm b->OO fo m b)->Q' (.panic ch) a w'):o.wpIn (wr fo.r) 0 P a w next Q':=by
 obtain⟨gT,m1,oT,ot,qj,fin⟩:=frame g.inv hL ig iT;obtain⟨nx,h1,ahh⟩:=h gT m1 oT ot qj;refine Lq h1 (ahh.mono ?_);rintro e w' ⟨ta,r,br,hR,kK,cm,fK⟩;obtain⟨Dm,GW⟩:=qY r br hR;obtain⟨mm,hinv,qk,vV,zS,Bi,cQ,tj⟩:=fin w' ta br cm fK Dm GW;cases e<;>cases r<;>simp only[Ends]at kK
 ·exact k _ br mm _ w' hR (kK.mono (bK.refl w' _) (λb _ hb=>(zS b).1 hb) vV) hinv qk Bi cQ tj
 ·obtain⟨v,gM,rfl,hold,hv⟩:=kK;exact kp _ br mm _ w' hR ⟨v,gM,rfl,hold,hv.mono (bK.refl w' _) (λb _ hb=>(zS b).1 hb) vV⟩ hinv qk Bi cQ tj
theorem Vf{o:Oper}{c}{f}{args}{L1 L2:aI}{R}
  (aD:o.op= .call c) (hc:callee s.ev c=some (f,args)) (he:enters P f=true) (ho:V.dK (keys L1) args=true) (hL:s.L.Perm (L1++L2)) (ig:L1.all (λp=>aV.on (keys L1) p.2)=true)
  (iT:∀p∈L2,aV.on (keys L2++(L1.filterMap λp=>match p.2 with|.box (_+1) _ _=>some p.1|_=>none)) p.2=true)
  (h:aE P f args L1 R)
  (qY:∀r br,R r br->(∀k∈keys br,k∉keys L2)/\∀k b ty cs,(k,aV.box (b+1) ty cs)∈L1->∃mf jB,(k,aV.box (b+1) mf jB)∈br)
  {fo m a w} (g:G fo n m s a w) {next Q'}
  (k:∀x br mm v w',R (.ret x) br->aC w' (OO fo mm) mm v x->Inv fo mm (br++L2) w'->Step w (own m) w' (own mm)->
   (∀h y,h∈keys L2++(L1.filterMap λp=>match p.2 with|.box (_+1) _ _=>some p.1|_=>none)->m h=some y->mm h=some y)->
   bK w (OO fo m) w'->(∀b,b<w.heap.size->OO fo mm b->OO fo m b)->next (a.put o.dst v) w')
  (kp:∀x br mm ch w',R (.ix x) br->AW w' (OO fo mm) mm ch x->Inv fo mm (br++L2) w'->Step w (own m) w' (own mm)->
   (∀h y,h∈keys L2++(L1.filterMap λp=>match p.2 with|.box (_+1) _ _=>some p.1|_=>none)->m h=some y->mm h=some y)->
   bK w (OO fo m) w'->(∀b,b<w.heap.size->OO fo mm b->OO fo m b)->Q' (.panic ch) a w'):o.wpIn (wr fo.r) 0 P a w next Q':=by
 obtain⟨xs,h1,h2⟩:=o9 aD hc he (λz _=>ck g z);refine core hL ig iT qY (λgT m1 oT ot qj=>⟨_,h1,?_⟩) g k kp;refine h gT m1 w xs qj ⟨h2.1,λj v y hv hy=>?_⟩;exact((h2.2 j v y hv hy).on ot (fS ho y (ape hy))).mono (bK.refl w _) (λb _ hb=>(oT b).1 hb) (λ_ _ e=>e)
end
section
variable {P : Program} {n : Nat} {s : St} {Q : AX -> St -> Prop} {ops : Array Oper}
def yv(l:Nat):V:= .d (.v (.func (.yield l) #[] #[]))
def qT(ρ:Operand->V)(c:Call):Option (Nat×List V):=
 match c.callee with
 | .value fo=>match ρ fo with
   | .d (.v (.func (.yield l) first _))=>if first.isEmpty then some (l,c.args.toList.map ρ)else none
   | _=>none
 | _=>none
def rY(P:Program)(l:Nat)(args:List V)(L:aI)(R:AE->aI->Prop):Prop:=
 ∀(fo:FO) (m:Nat->Option Value) (w:World) (xs:Array Value),Inv fo m L w->ir w (OO fo m) m xs args->∃nx,(Instr.yield l xs).run P w= .ok nx w/\zl P nx w (mz fo m w R)
def YR(A B:Env)(r:AE)(L:aI):Prop:=(r= .ret (oD true)/\L=[(5003,.env A)])\/(r= .ret (oD false)/\L=[(5003,.env B)])
def MV(K:Prop)(P:Program)(f:FuncId)(eh:List V)(Lc:aI)(xs:List (List V)):Prop:=
 ∀(l:Nat) (A:Nat->Env) (B:Env),(∀i x,xs[i]?=some x->rY P l x [(5003,.env (A i))] (YR (A (i+1)) B))->(K->∀w O x,¬(A xs.length).H w O x)->
  aE P f (yv l::eh) ((5003,.env (A 0))::Lc) (λr L'=>(∃y,r= .ret y)/\(L'=[(5003,.env (A xs.length))]\/L'=[(5003,.env B)]))
abbrev Iter:=MV False
theorem Yx{o}{c}{l}{args}{ρ}{du}{w}{O}{m}(aD:o.op= .call c)(hc:qT du c=some (l,args))
  (hr:∀z,z∈o.op.operands->aC w O m (ρ z) (du z)):ir w O m (c.args.map ρ) args/\(execOp ρ o).run P w=(Instr.yield l (c.args.map ρ)).run P w:=by
 unfold qT at hc;split at hc
 ·rename_i fop qc;split at hc
  ·rename_i l' first eh FI
   split at hc
   ·cases hc;have h1:=hr fop (by simp_all);rw[FI]at h1;have h2:=h1.cy;refine⟨⟨by simp,Og c.args λz hz=>hr z (by simp_all)⟩,?_⟩;simp_all[execOp,resolve,Deferred.ofValue,invoke]
   grind
  grind
 grind
theorem ay.Yy{o}{rest}{c}{l}{args}{A A' B}(hw:∀{fo:FO} {m:Nat→Option Value} {a:Act} {w:World},G fo n m s a w→Region.wanted o (yielded ops a.tmps)=true)(hd:∀d,o.dst=some d→d < n)
  {du} (hρ:∀z,z∈o.op.operands->∀w O m v,aC w O m v (s.ev z)->aC w O m v (du z))
  (aD:o.op= .call c) (hc:qT du c=some (l,args)) (ha:V.dK [5003] args=true) {L2:aI} (hL:s.L.Perm ((5003,.env A)::L2))
  (hZ:∀p∈s.fr,V.on (keys L2) p.2=true) (iT:∀p∈L2,aV.on (keys L2) p.2=true) (hk:5003∉keys L2) (h:rY P l args [(5003,.env A)] (YR A' B)) (wrap:V->V) (ON:∀{w O m v x},aC w O m v x->aC w O m v (wrap x))
  (kt:ay P n ops rest (St.put {s with L:=(5003,.env A')::L2} o.dst (wrap (oD true))) Q) (kf:ay P n ops rest (St.put {s with L:=(5003,.env B)::L2} o.dst (wrap (oD false))) Q):ay P n ops (o::rest) s Q:=by
 intro fo m0 w0 m a w st g;unfold wpListIn;rw[if_pos (hw g)];have ajn:=λz hz=>hρ z hz _ _ _ _ (ck g z)
 refine core (L1:=[(5003,.env A)]) (R:=YR A' B) hL (by rfl) (λp hp=>by grind) ?_ (λgT m1 oT ot qj=>?_) g
  (λx br mm v w' hR wm hinv qk abx cQ tj=>?_) (λx br mm ch w' hR=>by rcases hR with⟨h,_⟩|⟨h,_⟩<;>cases h)
 ·rintro r br (⟨_,rfl⟩|⟨_,rfl⟩)<;>exact⟨by simpa[keys]using hk,by simp⟩
 ·obtain⟨h1,h2⟩:=Yx aD hc ajn;rw[h2];refine h gT m1 w _ qj ⟨h1.1,λj v y hv hy=>?_⟩;exact((h1.2 j v y hv hy).on ot (by grind[keys,fS,List.mem_of_getElem?])).mono (bK.refl w _) (λb _ hb=>(oT b).1 hb) (λ_ _ e=>e)
 ·have ajo:=λh y hh=>abx h y (apD _ hh)
  have g':G fo n mm {s with L:=br++L2} a w':=⟨g.size,λt y hy=>by
   obtain⟨q1,q2⟩:=g.fr t y hy;exact⟨q1,(q2.on ajo (hZ _ hy)).mono cQ tj (λ_ _ e=>e)⟩,hinv,g.defers⟩
  rcases hR with⟨h1,rfl⟩|⟨h1,rfl⟩
  ·obtain rfl:=AE.ret.inj h1;exact kt fo m0 w0 mm _ w' (st.trans qk) (g'.put hd (ON wm))
  ·obtain rfl:=AE.ret.inj h1;exact kf fo m0 w0 mm _ w' (st.trans qk) (g'.put hd (ON wm))
theorem G6{h r}:∀{L},(keys L).Nodup->L.lookup h=some r->L.Perm ((h,r)::L.filter (λp=>p.1 !=h))
 | [],_,hl=>by cases hl
 | (k,q)::L,hn,hl=>by
   simp at hn;rw[List.lookup_cons]at hl;by_cases e:h=k
   ·subst e;simp at hl;have:L.filter (λp=>p.1 !=h)=L:=by
     rw[List.filter_eq_self];grind
    simp[*]
   ·have e':(h==k)=false:=by grind
    rw[e']at hl;have hf:((k,q).1 !=h)=true:=by grind
    rw[ap8,hf];exact((G6 hn.2 hl).cons _).trans (List.Perm.swap _ _ _)
theorem ay.X3{o:Oper}{rest}{c}{l}{args}{A A' B}(h:rY P l args [(5003,.env A)] (YR A' B))(aD:o.op= .call c)(hc:qT s.ev c=some (l,args))(ha:V.dK [5003] args=true)(hg:o.guard=none)
  (hd:∀d,o.dst=some d->d<n) (hr:dG n rest=true) (hn:(keys s.L).Nodup) (hL:s.L.lookup 5003=some (.env A))
  (hZ:s.fr.all (λp=>V.on (keys (s.L.filter λp=>p.1 !=5003)) p.2)=true) (iT:(s.L.filter λp=>p.1 !=5003).all (λp=>aV.on (keys (s.L.filter λp=>p.1 !=5003)) p.2)=true)
  (kt:∀bs,eM P ops rest (St.put {s with L:=(5003,.env A')::s.L.filter λp=>p.1 !=5003} o.dst (oD true)) bs [] (KK P n ops Q))
  (kf:∀bs,eM P ops rest (St.put {s with L:=(5003,.env B)::s.L.filter λp=>p.1 !=5003} o.dst (oD false)) bs [] (KK P n ops Q)):ay P n ops (o::rest) s Q:=
 ay.Yy (λ_=>by simp[Region.wanted,hg]) hd (λ_ _ _ _ _ _ h=>h) aD hc ha (G6 hn hL) (λp hp=>apd.1 hZ p hp) (λp hp=>apd.1 iT p hp) (by simp) h id (λh=>h)
  (bq rest _ [] hr kt) (bq rest _ [] hr kf)
theorem ay.Yz{o}{rest}{c}{l}{args}{A A' B}{b}(h:b=true→rY P l args [(5003,.env A)] (YR A' B))(aD:o.op= .call c)(jC:fq ops s o=some (some b))(hu:b=true→nI s o.op.operands.toList)(hc:b=true→qT (fun z=>(s.ev z).un) c=some (l,args))(ha:V.dK [5003] args=true)
  (hd:∀d,o.dst=some d->d<n) (hr:dG n rest=true) (hn:(keys s.L).Nodup) (hL:s.L.lookup 5003=some (.env A))
  (hZ:s.fr.all (λp=>V.on (keys (s.L.filter λp=>p.1 !=5003)) p.2)=true) (iT:(s.L.filter λp=>p.1 !=5003).all (λp=>aV.on (keys (s.L.filter λp=>p.1 !=5003)) p.2)=true)
  (kt:b=true->∀bs,eM P ops rest (St.put {s with L:=(5003,.env A')::s.L.filter λp=>p.1 !=5003} o.dst (.gd true (oD true))) bs [] (KK P n ops Q))
  (kf:b=true->∀bs,eM P ops rest (St.put {s with L:=(5003,.env B)::s.L.filter λp=>p.1 !=5003} o.dst (.gd true (oD false))) bs [] (KK P n ops Q))
  (kn:b=false->∀bs,eM P ops rest (s.put o.dst (.gd false .any)) bs [] (KK P n ops Q)):ay P n ops (o::rest) s Q:=by
 cases b with
 | true=>
   exact ay.Yy (λg=>nH g jC) hd (λz hz w O m v hr=>vA hr (sF (hu rfl) z (by grind))) aD (hc rfl) ha (G6 hn hL) (λp hp=>apd.1 hZ p hp) (λp hp=>apd.1 iT p hp) (by simp) (h rfl) (.gd true) (λh=> .gt _ _ h)
    (bq rest _ [] hr (kt rfl)) (bq rest _ [] hr (kf rfl))
 | false=>
   intro fo m0 w0 m a w st g;unfold wpListIn;rw[if_neg (by grind[nH])];exact⟨λ_ _=>trivial,bq rest _ [] hr (kn rfl) fo m0 w0 m _ w st (g.put hd (.gf _))⟩
def Vg:Value->List Value
 | .tuple vs=>vs.toList
 | v=> [v]
theorem Lr x b:(∃v∈Vg x,jJ v b)↔dq x b:=by
 cases x<;>simp[Vg,dq]
def x9(l:Nat)(L:aI)(m:Nat->Option Value):Value:=
 .tuple (Value.pointer (some ⟨l,0,none⟩)::(keys L).flatMap (λh=>match m h with|some x=>Vg x|none=> [])).toArray
theorem u2{l L m}(hd:∀h x,m h=some x->h∈keys L) b:dq (x9 l L m) b↔b=l\/own m b:=by
 simp only[x9,dq,arD,apq,arb];constructor
 ·rintro⟨v,rfl|⟨h,hh,hv⟩,hb⟩
  ·simp_all[jJ]
  ·right;cases hx:m h with
   | none=>grind
   | some x=>rw[hx]at hv;exact⟨h,x,hx,(Lr x b).1 ⟨v,hv,hb⟩⟩
 ·rintro(rfl|⟨h,x,hx,hb⟩)
  ·exact⟨_,.inl rfl,rfl⟩
  grind[Lr]
structure Bun(w:World) (O:Nat->Prop) (l:Nat) (L:aI) (m:Nat->Option Value):Prop where
 nodup:(keys L).Nodup
 fI:∀h x,m h=some x->h∈keys L
 apart:∀h h' x x' b,m h=some x->m h'=some x'->dq x b->dq x' b->h=h'
 self:¬own m l
 holds:∀h r,(h,r)∈L->∃x,m h=some x/\r.Holds w O m x
theorem Bun.lt{w O l L m}(hb:Bun w O l L m){b}(h:own m b):b<w.heap.size:=by
 obtain⟨h,x,hx,km⟩:=h;obtain⟨r,hr⟩:=HQ (hb.fI h x hx);obtain⟨x',cH,hh⟩:=hb.holds h r hr;rw[hx]at cH;obtain rfl:=ao9 cH;exact hh.lt km
def ph(r0:Loop)(l:Nat)(fr:List (Nat×V))(J:LoopState->Option Code->aI->Prop):Env where
 H w O x:=∃st pd L m,J st pd L/\x=x9 l L m/\Bun w O l L m/\w.heap[l]?=some (.loop {r0 with state:=st,pending:=pd})/\∀t y,(t,y)∈fr->aC w O m (r0.tmps.getD t undef) y
 mono:=by
  rintro w w' O O' x ⟨st,pd,L,m,hJ,rfl,hb,hl,hf⟩ tV hk hO;have G7:=λb=>u2 (l:=l) (L:=L) (m:=m) hb.fI b
  refine⟨st,pd,L,m,hJ,rfl,⟨hb.nodup,hb.fI,hb.apart,hb.self,λh r hr=>?_⟩,?_,λt y hy=>(hf t y hy).mono hk hO (λ_ _ e=>e)⟩
  ·obtain⟨x,hx,hh⟩:=hb.holds h r hr;exact⟨x,hx,hh.mono (λb km=>tV b ((G7 b).2 (.inr ⟨h,x,hx,km⟩))) hk hO (λ_ _ e=>e)⟩
  ·rw[tV l ((G7 l).2 (.inl rfl))];exact hl
 lt:=by
  rintro w O x b ⟨st,pd,L,m,hJ,rfl,hb,hl,hf⟩ km;rcases(u2 (l:=l) (L:=L) (m:=m) hb.fI b).1 km with rfl|h
  ·exact(apn.1 hl).1
  ·exact hb.lt h
def one(x:Value):Nat->Option Value:=λh=>if h=5003 then some x else none
theorem J9 x b:own (one x) b↔dq x b:=by
 constructor
 ·rintro⟨h,y,hy,hb⟩;simp_all[one]
 ·intro hb;exact⟨5003,x,by rfl,hb⟩
theorem ID{fo fo'}{r0}{l}{fr}{J}{m}{L}{w}{st}{pd}(hf:∀b,fo.f b→fo'.f b)(hl:fo'.f l)(jn:¬fo.f l)
  (hi:Inv fo' m L w) (hJ:J st pd L) (sH:w.heap[l]?=some (.loop {r0 with state:=st,pending:=pd})) (hZ:∀t y,(t,y)∈fr->aC w (OO fo' m) m (r0.tmps.getD t undef) y):
  Inv fo (one (x9 l L m)) [(5003,.env (ph r0 l fr J))] w:=by
 have G7:=λb=>u2 (l:=l) hi.fI b
 have hO:∀b,OO fo (one (x9 l L m)) b->OO fo' m b:=by
  rintro b (h|h)
  ·rcases(G7 b).1 ((J9 _ b).1 h)with rfl|h
   ·exact .inr hl
   ·exact .inl h
  ·exact .inr (hf b h)
 refine⟨by simp,?_,?_,?_,λb h=>hi.ei b (hf b h),?_,hi.ee.mono (bK.refl w _) (λb _ hb=>hO b hb)⟩
 ·simp[one]
 ·simp_all[one]
 ·intro h x b hx hb;by_cases e:h=5003
  ·simp[one,if_pos e]at hx;subst hx;rcases(G7 b).1 hb with rfl|⟨i,y,hy,ya⟩
   ·omega
   ·exact λh=>hi.others i y b hy ya (hf b h)
  simp_all[one]
 ·intro h r hr;simp at hr;obtain⟨rfl,rfl⟩:=hr;refine⟨x9 l L m,by rfl,st,pd,L,m,hJ,rfl,⟨hi.nodup,hi.fI,hi.apart,?_,λh r hr=>?_⟩,sH,λt y hy=>(hZ t y hy).mono (bK.refl w _) (λb _ hb=>hO b hb) (λ_ _ e=>e)⟩
  ·rintro⟨i,y,hy,hb⟩;exact hi.others i y l hy hb hl
  ·obtain⟨x,hx,hh⟩:=hi.holds h r hr;exact⟨x,hx,hh.mono (λ_ _=>rfl) (bK.refl w _) (λb _ hb=>hO b hb) (λ_ _ e=>e)⟩
theorem G8{fo}{m1}{r0}{l}{fr}{J}{w}(hi:Inv fo m1 [(5003,.env (ph r0 l fr J))] w) D rr:
  ∃st pd L m,J st pd L/\w.heap[l]?=some (.loop {r0 with state:=st,pending:=pd})/\Inv ⟨λb=>fo.f b\/b=l,D,rr,false⟩ m L w/\(∀t y,(t,y)∈fr->aC w (OO ⟨λb=>fo.f b\/b=l,D,rr,false⟩ m) m (r0.tmps.getD t undef) y)/\
   (∀b,own m1 b↔b=l\/own m b)/\¬fo.f l:=by
 obtain⟨x,hx,st,pd,L,m,hJ,rfl,hb,hl,hf⟩:=hi.holds 5003 _ apo;have G7:=λb=>u2 (l:=l) hb.fI b
 have eW:∀b,own m1 b↔b=l\/own m b:=by
  intro b;rw[<-G7 b];constructor
  ·rintro⟨h,y,hy,ya⟩;have hk:=hi.fI h y hy;simp_all
  ·intro h;exact⟨5003,_,hx,h⟩
 have afC:∀b,own m1 b->¬fo.f b:=by
  rintro b ⟨h,y,hy,ya⟩;exact hi.others h y b hy ya
 have hO:∀b,OO ⟨λb=>fo.f b\/b=l,D,rr,false⟩ m b->OO fo m1 b:=by
  rintro b (h|h|rfl)
  ·exact .inl ((eW b).2 (.inr h))
  ·exact .inr h
  ·exact .inl ((eW _).2 (.inl rfl))
 refine⟨st,pd,L,m,hJ,hl,⟨hb.nodup,hb.fI,hb.apart,?_,?_,?_,hi.ee.mono (bK.refl w _) (λb _ hb=>hO b hb)⟩,λt y hy=>(hf t y hy).mono (bK.refl w _) (λb _ hb=>hO b hb) (λ_ _ e=>e),eW,afC l ((eW l).2 (.inl rfl))⟩
 ·rintro h y b hy ya (FI|rfl)
  ·exact afC b ((eW b).2 (.inr ⟨h,y,hy,ya⟩)) FI
  ·exact hb.self ⟨h,y,hy,ya⟩
 ·rintro b (FI|rfl)
  ·exact hi.ei b FI
  grind
 ·intro h r hr;obtain⟨y,hy,hh⟩:=hb.holds h r hr;exact⟨y,hy,hh.mono (λ_ _=>rfl) (bK.refl w _) (λb _ hb=>hO b hb) (λ_ _ e=>e)⟩
end
section
variable {P : Program} {n : Nat} {s : St} {Q : AX -> St -> Prop}
def wL:List (Nat×V)->List (Nat×V)->List (Nat×V)
 | [],fr=>fr
 | (t,x)::l,fr=>wL l ((t,x)::vQ t fr)
def dz:aI->List (Nat×Nat)
 | []=> []
 | (h,.box (b+1) _ _)::L=>(h,b)::dz L
 | _::L=>dz L
theorem ng{h b}:∀{L},(h,b)∈dz L->∃ty cs,(h,aV.box (b+1) ty cs)∈L
 | [],hm=>by cases hm
 | (k,.box 0 ty cs)::L,hm=>by
   simp_all[dz,ng]
 | (k,.box (c+1) ty cs)::L,hm=>by
   simp[dz]at hm;rcases hm with⟨rfl,rfl⟩|hm
   ·grind
   ·obtain⟨mf,jB,h'⟩:=ng hm;exact⟨mf,jB,apl _ h'⟩
 | (k,.row ty j xs)::L,hm=>by
   simp_all[dz,ng]
 | (k,.env A)::L,hm=>by
   simp_all[dz,ng]
 | (k,.mp es)::L,hm=>by
   simp_all[dz,ng]
theorem Vh{fo m L w}(hi:Inv fo m L w){h x}(hk:h∈(dz L).map (·.1))(hx:m h=some x):∃b,(h,b)∈dz L/\x= .pointer (some ⟨b,0,none⟩):=by
 obtain⟨⟨h',b⟩,hm,rfl⟩:=apf.1 hk;obtain⟨ty,cs,mE⟩:=ng hm;obtain⟨y,hy,bb,km,cur,rfl,_⟩:=hi.holds _ _ mE;grind
theorem Lt{fo fo' m m' L L' w w'}(hi:Inv fo m L w)(cm:Inv fo' m' L' w')(hl:dz L'=dz L):∀h x,h∈(dz L).map (·.1)->m h=some x->m' h=some x:=by
 intro h x hk hx;obtain⟨b,hb,rfl⟩:=Vh hi hk hx;rw[<-hl]at hb;obtain⟨ty,cs,hm⟩:=ng hb;obtain⟨y,hy,Ns⟩:=cm.holds _ _ hm;obtain⟨bb,km,cur,rfl,_⟩:=Ns;grind
def DA:Option Code->AX->Prop
 | some .ret,.ret=>True
 | some (.exit i),.exit j=>i=j
 | some (.goto i),.goto j=>i=j
 | _,_=>False
def IE(hs:List Nat)(L0 L':aI)(Hn:Prop)(fr:List (Nat×V))(K:AX->St->Prop)(x:AX)(s:St):Prop:=
 match x with
 | .normal=>(s.pick [] hs).on (keys (s.pick [] hs).L)=true/\(s.pick [] hs).L=L'/\Hn
 | .ix _=>False
 | x=>(s.pick [] hs).on (keys (s.pick [] hs).L)=true/\dz (s.pick [] hs).L=dz L0/\K x ⟨fr,(s.pick [] hs).L⟩
theorem RG{ps:List Tmp}{xs}:∀(T:Array Value),(((ps.zip xs).foldl (λtmps (p:Tmp×Value)=>tmps.setIfInBounds p.1 p.2) T)).size=T.size:=by
 induction ps.zip xs with
 | nil=>simp
 | cons p l ih=>grind
theorem IF{w}{O}{m}:∀(ps:List Tmp) xs ys (T:Array Value) fr,xs.length=ps.length→ys.length=ps.length→(∀p:Tmp,p∈ps→p < T.size)→
  (∀(j:Nat) x y,xs[j]?=some x->ys[j]?=some y->aC w O m x y)->(∀t y,(t,y)∈fr->t<T.size/\aC w O m (T.getD t undef) y)->
  ∀t y,(t,y)∈wL (ps.zip ys) fr->t<T.size/\aC w O m (((ps.zip xs).foldl (λtmps (p:Tmp×Value)=>tmps.setIfInBounds p.1 p.2) T).getD t undef) y
 | [],_,_,T,fr,_,_,_,_,hf,t,y,h=>by simpa[wL]using hf t y h
 | p::ps,[],_,_,_,h,_,_,_,_,_,_,_=>by grind
 | p::ps,x::xs,[],_,_,_,h,_,_,_,_,_,_=>by grind
 | p::ps,x::xs,z::ys,T,fr,h1,h2,hp,hr,hf,t,y,h=>by
   simp only[List.zip_cons_cons,wL,List.foldl_cons]at h⊢;have key:=IF ps xs ys (T.setIfInBounds p x) ((p,z)::vQ p fr) (by grind) (by grind) (λq hq=>by grind) (λj x y hx hy=>hr (j+1) x y (by grind) (by grind)) (λt y hm=>by
    rcases apq.1 hm with e|hm
    ·simp only[ao7]at e;obtain⟨rfl,rfl⟩:=e;have au:=hp t apo;refine⟨by grind,?_⟩;simpa[Array.getD,au]using hr 0 x y rfl rfl
    ·obtain⟨hm,bR⟩:=sB hm;have:(T.setIfInBounds p x).getD t undef=T.getD t undef:=by
      have Ui:¬p=t:=λe=>bR e.symm
      simp_all
     grind) t y h
   grind
theorem MI{r0:Loop}{l}{fr}{J J' JB}{args}{L0}{K}
  (IG:gm r0.assign=false/\gm r0.body=false) (hT:r0.tmps.size=n) (II:args.length=r0.params.size) (SY:∀p∈r0.params.toList,p<n) (ha:V.dK [] args=true)
  (hZ:∀t y,(t,y)∈fr->t<n/\V.on ((dz L0).map (·.1)) y=true)
  (hJ:∀st pd L,J st pd L->st= .ready/\pd=none/\dz L=dz L0)
  (ahi:∀st pd L,J st pd L->∃L' Hn,(Hn->J' .ready none L'/\dz L'=dz L0)/\cW P n r0.assign ⟨wL (r0.params.toList.zip args) fr,L⟩ (AX.then (λs2=>cW P n r0.body s2 (IE (keys L0) L0 L' Hn fr K)) (λ_ _=>False)))
  (gz:(keys L0).Nodup)
  (hJB:∀pd x L,DA pd x->dz L=dz L0->K x ⟨fr,L⟩->JB .done pd L):
  rY P l args [(5003,.env (ph r0 l fr J))] (YR (ph r0 l fr J') (ph r0 l fr JB)):=by
 intro fo m1 w xs hi hx;obtain⟨st,pd,L,m,hj,sH,cm,hf,eW,jn⟩:=G8 hi [] (some l);obtain⟨rfl,rfl,ob⟩:=hJ _ _ _ hj;obtain⟨L',Hn,OE,Fa⟩:=ahi _ _ _ hj;have dW:xs.size=r0.params.size:=by rw[hx.1,II]
 let Lu:FO:=⟨λb=>fo.f b\/b=l,[],some l,false⟩
 have hO:∀b,OO Lu m b↔OO fo m1 b:=by
  grind[OO]
 refine⟨.round l r0.fn ((r0.params.zip xs).foldl (λtmps (t,a)=>tmps.setIfInBounds t a) r0.tmps) r0.assign r0.body,?_,?_⟩
 ·simp_all[Instr.yield,Instr.getLoop,Sem.run_bind,xV]
 ·show RoundIn Fence.wide 0 P l r0.fn _ r0.assign r0.body w _;have ahj:(r0.params.zip xs).foldl (λtmps (t,a)=>tmps.setIfInBounds t a) r0.tmps=(r0.params.toList.zip xs.toList).foldl (λtmps (p:Tmp×Value)=>tmps.setIfInBounds p.1 p.2) r0.tmps:=by
   rw[<-Array.foldl_toList,Array.toList_zip]
  rw[ahj];refine roundIn_of_wpIn (F:=Fence.wide) trivial ?_;have g:G Lu n m ⟨wL (r0.params.toList.zip args) fr,L⟩ {tmps:=(r0.params.toList.zip xs.toList).foldl (λtmps (p:Tmp×Value)=>tmps.setIfInBounds p.1 p.2) r0.tmps,defers:=[]} w:=by
   refine⟨by simp_all[RG],λt y hy=>?_,cm,rfl⟩;have:=IF (w:=w) (O:=OO Lu m) (m:=m) r0.params.toList xs.toList args r0.tmps fr (by omega) (by omega) (λp hp=>by grind)
    (λj x y hxj hyj=>((hx.2 j x y (by grind) hyj).on (ks:=[]) (m':=m) (by simp) (fS ha y (ape hyj))).mono (bK.refl w _) (λb _ hb=>(hO b).1 hb) (λ_ _ e=>e))
    (λt y hy=>⟨by grind,hf t y hy⟩) t y hy
   grind
  have h1:=ef _ _ _ Fa Lu m _ w (λh=>by grind) g;refine Code.wpIn_mono (F:=Fence.wide.inRound l) ?_ h1;rintro e1 a1 w1 ⟨ms1,m2,x1,s1,mg,OP,g1,iR,Cs⟩;have ahk:¬own m l:=by
   rintro⟨i,y,hy,hb⟩;exact cm.others i y l hy hb (.inr rfl)
  have ahl:w1.heap[l]?=some (.loop {r0 with state:= .ready,pending:=none}):=by
   rw[Cs.block l (apn.1 sH).1 ahk];omega
  cases e1 with
  | normal=>
    cases x1<;>simp only[bG]at iR
    simp only[AX.then]at OP;show ∃w2,(Instr.beginRound l).run P w1= .ok () w2/\_;refine⟨nJ w1 l (.loop {r0 with state:= .busy,pending:=none}),?_,?_⟩
    ·simp_all[Instr.beginRound,Instr.getLoop,Sem.run_bind,xV,Bf]
    ·have rC:l<w1.heap.size:=(apn.1 ahl).1;have g2:=g1.others (w':=nJ w1 l (.loop {r0 with state:= .busy,pending:=none})) (by simp[jr,api]) (λb _ hb=>qV (λe=>hb (.inl (.inr e))));have h2:=ef _ _ _ OP (Lu.mark ms1) m2 _ _ (λh=>by grind) g2;refine Code.wpIn_mono (F:=Fence.wide.inRound l) ?_ h2;rintro e3 a3 w3 ⟨ms3,m3,x3,s3,hm3,SZ,g3,rF,yb⟩;rw[FO.KM]at g3 rF;generalize Yu:Lu.mark (ms3++ms1)=YA at g3 rF;have OQ:∀b,fo.f b->YA.f b:=λb h=>by subst Yu;exact .inl (.inl h)
     have hl4:YA.f l:=by subst Yu;exact .inl (.inr rfl)
     have afD:¬own m2 l:=by
      rintro⟨i,y,hy,hb⟩;exact g1.inv.others i y l hy hb (.inl (.inr rfl))
     have Vi:w3.heap[l]?=some (.loop {r0 with state:= .busy,pending:=none}):=by
      rw[yb.block l (by simp_all[jr]) afD];exact Ld rC
     have hl3:l < w3.heap.size:=(apn.1 Vi).1;have fin:∀(st:LoopState) (pd:Option Code) (J2:LoopState→Option Code→aI→Prop),(s3.pick [] (keys L0)).on (keys (s3.pick [] (keys L0)).L)=true→dz (s3.pick [] (keys L0)).L=dz L0→J2 st pd (s3.pick [] (keys L0)).L→
       ∃m5,Inv fo m5 [(5003,.env (ph r0 l fr J2))] (nJ w3 l (.loop {r0 with state:=st,pending:=pd}))/\Step w (own m1) (nJ w3 l (.loop {r0 with state:=st,pending:=pd})) (own m5):=by
      intro st pd J2 ig ahm hJ2;obtain⟨m4,g4,st4⟩:=Wk.pick [] (keys L0) (by simp) gz ig YA m3 a3 w3 g3;have g5:=g4.others (w':=nJ w3 l (.loop {r0 with state:=st,pending:=pd})) (by simp[jr,api]) (λb _ hb=>qV (λe=>hb (e ▸ hl4)));have ahn:=Lt cm g5.inv (ahm.trans ob.symm);have aho:∀b,b<w.heap.size->own m4 b->own m b:=λb hb h4=>by
       have h3:=st4.owned b (apt hb (apR Cs.size (by have:=yb.size;grind[jr]))) h4;have h2:=yb.owned b (by rw[jr];exact apt hb Cs.size) h3;exact Cs.owned b hb h2
      have tG:∀b,b<w.heap.size->¬own m b->b≠l->(nJ w3 l (.loop {r0 with state:=st,pending:=pd})).heap[b]?=w.heap[b]?:=by
       intro b hb ho tV;have Il:=apt hb Cs.size;rw[qV tV,yb.block b (by simp_all[jr]) (λh=>ho (Cs.owned b hb h)),qV tV];exact Cs.block b hb ho
      have kW:w.heap.size<=(nJ w3 l (.loop {r0 with state:=st,pending:=pd})).heap.size:=by
       rw[jr];exact apR Cs.size (by have:=yb.size;grind[jr])
      have cQ:bK w (OO Lu m) (nJ w3 l (.loop {r0 with state:=st,pending:=pd})):=⟨kW,λb hb ho=>tG b hb (λh=>ho (.inl h)) (λe=>ho (.inr (.inr e)))⟩
      have hOs:∀b,b<w.heap.size->OO YA m4 b->OO Lu m b:=by
       rintro b hb (h|h)
       ·exact .inl (aho b hb h)
       ·subst Yu;rcases h with h|h
        ·exact .inr h
        ·exfalso;rcases apr.1 h with h|h
         ·have h1:=(hm3.2 b h).1;rw[jr]at h1;have:=Cs.size;omega
         ·have:=(mg.2 b h).1;omega
      have Nz:(nJ w3 l (.loop {r0 with state:=st,pending:=pd})).heap[l]?=some (.loop {r0 with state:=st,pending:=pd}):=Ld hl3;refine⟨_,ID (fo:=fo) (fo':=YA) OQ hl4 jn g5.inv hJ2 Nz (λt y hy=>?_),?_⟩
      ·exact((hf t y hy).on ahn (by grind)).mono cQ hOs (λ_ _ e=>e)
      ·refine⟨?_,?_,?_,kW,λb hb ho=>?_,λb hb h5=>?_⟩
       ·show w3.os=w.os;exact yb.os.trans Cs.os
       ·show w3.tape=w.tape;exact yb.tape.trans Cs.tape
       ·show w3.output=w.output;exact yb.output.trans Cs.output
       ·grind
       ·rw[J9,u2 g5.inv.fI]at h5;grind
     have G9:∀jump:Option Code,(Instr.endRound l jump).run P w3= .ok (.bool jump.isNone) (nJ w3 l (.loop {r0 with state:=if jump.isNone then .ready else .done,pending:=jump})):=by
      intro jump;simp[Instr.endRound,Instr.getLoop,Sem.run_bind,xV Vi (by simp),Bf Vi (by simp)]
     have Vj:∀(jump:Code) (x:AX),DA (some jump) x→(s3.pick [] (keys L0)).on (keys (s3.pick [] (keys L0)).L)=true∧dz (s3.pick [] (keys L0)).L=dz L0∧K x ⟨fr,(s3.pick [] (keys L0)).L⟩→
       ∃v w',(Instr.endRound l (some jump)).run P w3= .ok v w'/\mz fo m1 w (YR (ph r0 l fr J') (ph r0 l fr JB)) (.returned v) w':=by
      rintro jump x hj ⟨q1,q2,q3⟩;obtain⟨m5,i5,s5⟩:=fin .done (some jump) JB q1 q2 (hJB _ _ _ hj q2 q3);exact⟨_,_,G9 _,m5,.ret (oD false),_,.inr ⟨rfl,rfl⟩,.d _ _ (.v _ rfl),i5,s5⟩
     cases e3 with
     | normal=>
       cases x3<;>simp only[bG]at rF
       obtain⟨q1,q2,q3⟩:=SZ;obtain⟨n1,n2⟩:=OE q3;obtain⟨m5,i5,s5⟩:=fin .ready none J' q1 (by grind) (by grind);exact⟨_,_,G9 none,m5,.ret (oD true),_,.inl ⟨rfl,rfl⟩,.d _ _ (.v _ rfl),i5,s5⟩
     | ret=>
       cases x3<;>simp only[bG]at rF
       exact Vj .ret .ret trivial SZ
     | exit i=>
       cases x3<;>simp only[bG]at rF
       subst rF;exact Vj (.exit i) (.exit i) rfl SZ
     | goto i=>
       cases x3<;>simp only[bG]at rF
       subst rF;exact Vj (.goto i) (.goto i) rfl SZ
     | panic ch=>cases x3<;>simp only[bG]at rF;exact SZ.elim
     | outgrown=>grind[bG]
  | exit i=>cases x1<;>simp only[bG]at iR;simp_all
  | goto i=>cases x1<;>simp only[bG]at iR;simp_all
  | ret=>cases x1<;>simp only[bG]at iR;simp_all
  | panic ch=>cases x1<;>simp only[bG]at iR;simp_all
  | outgrown=>simp_all[bG]
end
section
variable {P : Program} {n : Nat} {s : St} {Q : AX -> St -> Prop}
def OR(w:World)(o:Obj):World:={w with heap:=w.heap.push o}
theorem DB(w:World)(o:Obj):(OR w o).heap.size=w.heap.size+1:=by
 show(w.heap.push o).size=_;rw[Array.size_push]
theorem Lv(w:World)(o:Obj):(OR w o).heap[w.heap.size]?=some o:=by
 show(w.heap.push o)[w.heap.size]?=_;rw[Array.getElem?_push,if_pos rfl]
theorem S3{w:World}{o:Obj}{b:Nat}(h:b<w.heap.size):(OR w o).heap[b]?=w.heap[b]?:=by
 show(w.heap.push o)[b]?=_;rw[Array.getElem?_push,if_neg (by omega)]
theorem perm_keys{L L':aI}(h:L.Perm L'):(keys L).Perm (keys L'):=h.map _
end
section
variable {P : Program} {n : Nat} {s : St} {Q : AX -> St -> Prop}
theorem OS{g:Operand}{ps:List Tmp}{assign body:Code}:cW P n (.rangeFunc g ps.toArray assign body) s Q=av P n (.rangeFunc g ps.toArray assign body) s Q:=by simp[cW]
attribute [simp] yv OS IE wL dz
end
section
variable {P : Program} {n : Nat} {s : St} {Q : AX -> St -> Prop} {L : aI}
mutual
theorem Lw(h:Nat):∀x:V,V.kill h (V.kill h x)=V.kill h x
 | .bp i o=>by simp only[V.kill];split<;>simp[V.kill, *]
 | .rv i=>by simp only[V.kill];split<;>simp[V.kill, *]
 | .ep i k x y=>by simp only[V.kill];split<;>simp[V.kill, *]
 | .eS fn f c=>by simp only[V.kill,r8 h f,r8 h c]
 | .agg cs=>by simp only[V.kill,r8 h cs]
 | .bA cs=>by simp only[V.kill,r8 h cs]
 | .gd b x=>by simp only[V.kill,Lw h x]
 | .d x=>rfl
 | .rp cs=>rfl
 | .sv i n=>by simp only[V.kill];split<;>simp[V.kill, *]
 | .kn Q=>rfl
 | .any=>rfl
theorem r8(h:Nat):∀l:List V,V.dU h (V.dU h l)=V.dU h l
 | []=>rfl
 | x::l=>by simp only[V.dU,Lw h x,r8 h l]
end
theorem Inv.perm{fo m L L' w}(hp:L.Perm L')(h:Inv fo m L w):Inv fo m L' w:=
 ⟨(perm_keys hp).nodup_iff.1 h.nodup,λi x hx=>(perm_keys hp).mem_iff.1 (h.fI i x hx),h.apart,h.others,h.ei,λi r hr=>h.holds i r (hp.mem_iff.2 hr),h.ee⟩
end
theorem aS:prog.follows .mixedOrders=true:=by kernel_rfl
def bB(n lo hi:Int):Bool:=decide (lo<=n)&&decide (n<=hi)
theorem zm{n lo hi:Int}:bB n lo hi=true↔lo<=n/\n<=hi:=by simp[bB]
def gP(n:Int):Bool:=bB n (-32768) 32767
theorem bh(n lo hi:Int):Pure prog 57 [iD n,iD lo,iD hi] (oD (bB n lo hi)):=by
 unfold bB;refine rn func57 ?_;simp[f57]
theorem nh(n:Int):Pure prog 56 [iD n] (oD (gP n)):=by
 unfold gP bB;refine rn func56 ?_;simp[f56]
def cD{α:Type}(p:α->Bool)(l:List α):Bool:=l.all p
theorem gZ{α:Type}(p:α->Bool):cD p []=true:=rfl
theorem fY{α:Type}(p:α->Bool)(pre:List α)(x:α):cD p (pre++ [x])=(cD p pre&&p x):=by simp[cD]
theorem eR{α:Type}{p:α->Bool}{l pre post:List α}{x:α}(h:l=pre++x::post)(hH:cD p pre=true):cD p l=(p x&&cD p post):=by
 unfold cD at *;rw[h,arp,hH];simp
theorem aby{α:Type}{p:α->Bool}{l:List α}:cD p l=true↔∀x∈l,p x=true:=by simp[cD]
theorem jg(l:List Int)(hl:l.length<=1000000000000000):Pure prog 53 [.d (.sl (aA l))] (oD (cD gP l)):=by
 refine rn func53 ?_;simp[f53];refine av.fh [0,3] l (λpre=> [(3,iD pre.length)]) (λ_=> []) (λpre=>cD gP pre=true) (by rfl) (by omega) (by simp[gZ]) ?_ ?_
 ·rintro pre x post bu hH au bm a4;have bS:=eR bu hH;clear bu;simp[*];refine ay.bC rfl (nh x) (by simp) rfl (by simp) rfl ?_;simp;simp_all[fY]
 ·intro hH;simp[*]
def DC(c:Int):Bool:=bB c 97 122
def DD(c:Int):Bool:=bB c 65 90
def DE(c:Int):Bool:=bB c 48 57
def Vk(c:Int):Bool:=DC c||DD c||DE c||c==45||c==39
def Vl(c:UInt8):Bool:=!((decide ((c.toNat:Int)<32)||decide ((c.toNat:Int) > 126))&&(c.toNat:Int) !=10)
def OT(c:UInt8):Bool:=Vk c.toNat&&!DD c.toNat
def u3(s:ByteArray):Bool:=cD Vl s.data.toList&&decide (s.size<=1024)
def xg(s:ByteArray):Bool:=decide (1<=s.size)&&decide (s.size<=9)&&(DC (s.data.toList[0]?.getD 0).toNat||DE (s.data.toList[0]?.getD 0).toNat)&&cD OT s.data.toList
theorem pj(c:Int):Pure prog 261 [.d (.v (.int .u8 c))] (oD (DC c)):=by
 unfold DC bB;refine rn func261 ?_;simp[f261]
theorem pk(c:Int):Pure prog 264 [.d (.v (.int .u8 c))] (oD (DD c)):=by
 unfold DD bB;refine rn func264 ?_;simp[f264]
theorem pn(c:Int):Pure prog 262 [.d (.v (.int .u8 c))] (oD (DE c)):=by
 unfold DE bB;refine rn func262 ?_;simp[f262]
theorem js(c:Int):Pure prog 263 [.d (.v (.int .u8 c))] (oD (Vk c)):=by
 unfold Vk;refine rn func263 ?_;simp[-cB,f263]
 repeat' (first
  | (with_reducible refine And.intro ?_ ?_)
  | ((first|(refine aw (λh=>?_) (λh=>?_)<;>(try simp at h))|refine pC (pj _) ?_|refine pC (pk _) ?_|refine pC (pn _) ?_|refine lC (pj _) ?_|refine lC (pk _) ?_|refine lC (pn _) ?_|refine pG (pj _) ?_|refine pG (pk _) ?_|refine pG (pn _) ?_)<;>(try simp[-cB, *]))
  | (with_reducible intro _))
theorem OU(s:ByteArray)(hs:s.size<=1000000000000000):Pure prog 170 [.d (.v (.string s))] (oD (u3 s)):=by
 have dW:s.data.toList.length=s.size:=rfl;unfold u3;refine rn func170 ?_;simp[f170];refine av.fh [0,3] s.data.toList (λpre=> [(3,iD pre.length)]) (λ_=> []) (λpre=>cD Vl pre=true) (by rfl) (by omega) (by simp[gZ]) ?_ ?_
 ·rintro pre x post bu hH au bm a4;have bS:=eR bu hH;have sI:s.data[pre.length]'au=x:=by simpa using bm
  rw[dW]at au;clear bu bm;simp[*];have:Vl x=true↔((x.toNat:Int)<32\/126<(x.toNat:Int)->(x.toNat:Int)=10):=by simp[Vl];omega
  refine⟨λh1 h2 h3=>(h2 ((this.1 h3) h1)).elim,λh=>?_⟩;simp[fY,hH,this.2 h]
 ·intro hH;simp[*];omega
theorem OV(s:ByteArray)(hs:s.size<=1000000000000000):Pure prog 227 [.d (.v (.string s))] (oD (xg s)):=by
 have dW:s.data.toList.length=s.size:=rfl;unfold xg;refine rn func227 ?_;simp[-cB,f227]
 repeat' (first
  | (with_reducible refine And.intro ?_ ?_)
  | ((first|(refine aw (λh=>?_) (λh=>?_)<;>(try simp at h))|refine pC (pj _) ?_|refine pC (pn _) ?_|refine lC (pj _) ?_|refine lC (pn _) ?_|refine pG (pj _) ?_|refine pG (pn _) ?_)<;>(try simp[-cB, *]))
  | (with_reducible intro _))
 all_goals first|omega|assumption|skip
 ·generalize DC ↑(s.data[0]?.getD 0).toNat=p at *;generalize DE ↑(s.data[0]?.getD 0).toNat=q at *;rename_i h1 h2 h3;rcases h with(h|h)|⟨h,h'⟩
  ·omega
  ·omega
  ·simp[h,h']at h3
 ·refine av.fh [0,3] s.data.toList (λpre=> [(3,iD pre.length)]) (λ_=> []) (λpre=>cD OT pre=true) (by rfl) (by omega) (by simp[gZ]) ?_ ?_
  ·rintro pre x post bu hH au bm a4;have bS:=eR bu hH;have sI:s.data[pre.length]'au=x:=by simpa using bm
   rw[dW]at au;clear bu bm;have dH:cD OT (pre++ [x])=OT x:=by simp[fY,hH]
   have hx:OT x=(Vk x.toNat&&!DD x.toNat):=rfl;simp[-cB, *]
   repeat' (first
    | (with_reducible refine And.intro ?_ ?_)
    | ((first|(refine aw (λh=>?_) (λh=>?_)<;>(try simp at h))|refine pC (js _) ?_|refine pC (pk _) ?_|refine lC (js _) ?_|refine lC (pk _) ?_|refine pG (js _) ?_|refine pG (pk _) ?_)<;>(try simp[-cB, *]))
    | (with_reducible intro _))
   all_goals (first|assumption|omega|(rw[aU];omega)|(simp_all;done)|grind|skip)
  ·intro hH;simp[*]
   all_goals (first|assumption|omega|(rw[aU];omega)|(simp_all;done)|grind|skip)
def pV(t:aq)(n:Int)(none:Bool):Bool:=bB n 0 (t.fP.length-1)||(none&&decide (n= -1))
def ox(t:aq)(n:Int)(none:Bool):Bool:=(none&&decide (n= -1))||(bB n 0 (t.Params.length-1)&&decide (t.Params[n.toNat]?.getD 0=0))
def gV(t:aq)(n:Int):Bool:=bB n 1 (t.az.length-1)
theorem mI(t:aq)(ht:t.wf)(n:Int)(none:Bool):Pure prog 169 [.agg (t.enc.map .d),iD n,oD none] (oD (pV t n none)):=by
 have hlen:t.fP.length<=1000000000000000:=by have:=ht;simp[aq.wf]at this;omega
 unfold pV;refine rn func169 ?_;simp[-cB,f169]
 repeat' (first
  | (with_reducible refine And.intro ?_ ?_)
  | ((first|(refine aw (λh=>?_) (λh=>?_)<;>(try simp at h))|refine pC (bh _ _ _) ?_|refine lC (bh _ _ _) ?_|refine pG (bh _ _ _) ?_)<;>(try simp[-cB, *]))
  | (with_reducible intro _))
 all_goals (first|assumption|omega|(rw[aU];omega)|(simp_all[bB];done)|grind[bB]|skip)
theorem jQ(t:aq)(ht:t.wf)(n:Int):Pure prog 173 [.agg (t.enc.map .d),iD n] (oD (gV t n)):=by
 have hlen:t.az.length<=1000000000000000:=by have:=ht;simp[aq.wf]at this;omega
 unfold gV;refine rn func173 ?_;simp[-cB,f173]
 repeat' (first
  | (with_reducible refine And.intro ?_ ?_)
  | ((first|(refine aw (λh=>?_) (λh=>?_)<;>(try simp at h))|refine pC (bh _ _ _) ?_|refine lC (bh _ _ _) ?_|refine pG (bh _ _ _) ?_)<;>(try simp[-cB, *]))
  | (with_reducible intro _))
 all_goals (first|assumption|omega|(rw[aU];omega)|(simp_all[bB];done)|grind[bB]|skip)
theorem oV(t:aq)(ht:t.wf)(n:Int)(none:Bool):Pure prog 178 [.agg (t.enc.map .d),iD n,oD none] (oD (ox t n none)):=by
 have hlen:t.Params.length<=1000000000000000:=by have:=ht;simp[aq.wf]at this;omega
 unfold ox;refine rn func178 ?_;simp[-cB,f178]
 repeat' (first
  | (with_reducible refine And.intro ?_ ?_)
  | ((first|(refine aw (λh=>?_) (λh=>?_)<;>(try simp at h))|refine pC (bh _ _ _) ?_|refine lC (bh _ _ _) ?_|refine pG (bh _ _ _) ?_)<;>(try simp[-cB, *]))
  | (with_reducible intro _))
 all_goals (first|assumption|omega|(rw[aU];omega)|(simp_all[bB];done)|grind[bB]|skip)
def sa(l:List ByteArray)(ej:Int):Bool:=cD xg l&&decide ((l.length:Int)<=ej)
theorem zU(l:List ByteArray)(hl:l.length<=1000000000000000)(hs:∀x∈l,x.size<=1000000000000000)(ej:Int):Pure prog 172 [.d (.sl (iB l)),iD ej] (oD (sa l ej)):=by
 unfold sa;refine rn func172 ?_;simp[f172];refine av.fh [0,1,5] l (λpre=> [(5,iD pre.length)]) (λ_=> []) (λpre=>cD xg pre=true) (by rfl) (by omega) (by simp[gZ]) ?_ ?_
 ·rintro pre x post bu hH au bm a4;have bS:=eR bu hH;have hx:=OV x (hs x (by rw[bu];simp));have dH:cD xg (pre++ [x])=xg x:=by simp[fY,hH]
  clear bu;simp[-cB, *]
  repeat' (first
   | (with_reducible refine And.intro ?_ ?_)
   | ((first|(refine aw (λh=>?_) (λh=>?_)<;>(try simp at h))|refine pC hx ?_|refine lC hx ?_|refine pG hx ?_)<;>(try simp[-cB, *]))
   | (with_reducible intro _))
  all_goals (first|assumption|omega|(rw[aU];omega)|(simp_all;done)|grind|skip)
 ·intro hH;simp[*]
def sJ(t:aq)(x:bg):Bool:=
 decide (x.kx=0)&&decide (x.Text= -1)&&decide (x.ah=0)&&decide (x.Flags=0)&&!x.Room&&decide (x.aJ.length=t.aJ.length)&&decide (x.Words.length+x.uZ.length+x.mr.length=0)&&cD (λn=>decide (n=0)) x.aJ
set_option maxRecDepth 20000 in
theorem MJ(t:aq)(ht:t.wf)(x:bg)(hx:x.wf):Pure prog 171 [.agg (t.enc.map .d),.agg (x.enc.map .d)] (oD (sJ t x)):=by
 have cH:=hx;simp[bg.wf]at cH;unfold sJ;refine rn func171 ?_;simp[-cB,f171]
 repeat' (first
  | (with_reducible refine And.intro ?_ ?_)
  | ((first|(refine aw (λh=>?_) (λh=>?_)<;>(try simp at h))|refine pC (bh _ _ _) ?_|refine lC (bh _ _ _) ?_|refine pG (bh _ _ _) ?_)<;>(try simp[-cB, *]))
  | (with_reducible intro _))
 obtain⟨-,-,-,-,OP,-,hq2,-,SZ,-,hq4,-⟩:=cH
 all_goals (first|assumption|omega|(rw[aU];omega)|(simp_all;done)|grind|skip)
 have hz:decide (x.Words=[])=true/\decide (x.uZ=[])=true/\decide (x.mr=[])=true:=by
  have h1:x.Words.length=0:=by omega
  have h2:x.uZ.length=0:=by omega
  have h3:x.mr.length=0:=by omega
  simp[apZ]at h1 h2 h3;simp[h1,h2,h3]
 have hp:decide (x.aJ.length=t.aJ.length)=true:=by simp;omega
 refine av.fh [3,5] x.aJ (λpre=> [(5,iD pre.length)]) (λ_=> []) (λpre=>cD (λn=>decide (n=0)) pre=true) (by rfl) (by omega) (by simp[gZ]) ?_ ?_
 ·rintro pre x1 post bu hH au bm a4;have bS:=eR bu hH;have dH:cD (λn=>decide (n=0)) (pre++ [x1])=decide (x1=0):=by simp[fY,hH]
  clear bu h;simp[-cB, *]
  repeat' (first
   | (with_reducible refine And.intro ?_ ?_)
   | ((first|(refine aw (λh=>?_) (λh=>?_)<;>(try simp at h))|refine pC (js _) ?_|refine lC (js _) ?_|refine pG (js _) ?_)<;>(try simp[-cB, *]))
   | (with_reducible intro _))
  all_goals (first|assumption|omega|(rw[aU];omega)|(simp_all;done)|grind|skip)
 ·intro hH;clear h;simp[*]
def kX(n:Int):Int:=2^(min n.toNat 16)
theorem IJ(n:Int):Pure prog 55 [iD n] (iD (kX n)):=by
 refine rn func55 ?_;simp[f55];refine av.cJ [0,3,4] (min n.toNat 16) (λi=> [(3,iD (2^i)),(4,iD i)]) (λ_=> []) (λ_=>True) (by rfl) (by simp) ?_;intro i hi _;have lj:i<=16:=by omega
 have hp:(2:Int)^i<=65536/\(0:Int)<2^i:=by
  have e:(2:Int)^i=((2^i:Nat):Int):=by simp
  have:=ap7 (n:=2) (by decide) lj;have:=Nat.pow_pos (a:=2) (n:=i) (by decide);rw[e];omega
 have hs:(2:Int)^(i+1)=2 *2^i:=by rw[Int.pow_succ];omega
 simp;refine⟨λh1 h2=>⟨iW,iW,by omega,by omega⟩,λh=>?_⟩;unfold kX;rw[show min n.toNat 16=i by omega]
end Go.Ab

/-
 HK texts aoa Ed ak5 ec amd ak6 ak7 ak8 ak9 ala aku Df Dg Dh Di Rj Nl alb aob Nx ame amf amg alc,one behind Cb other.
-/
import Derived.Test.YtmhnopomnpgcjaaGreatDoorMg3
import Derived.RecoverIn
import Derived.WalkSpells
set_option linter.unusedSimpArgs false
set_option linter.unusedVariables false
namespace Go.Ab
open Go.Proofs Go.Proofs.Tryz
def ar(n:Int):Int:=IntKind.wrap .i16 n
theorem iA(n:Int):ar n=(n+32768) % 65536-32768:=by
 unfold ar IntKind.wrap;simp[IntKind.signed,IntKind.bits]
 try omega
theorem Pure.none{f:FuncId}{args:List V}{x:V}(h:False):Pure prog f args x:=h.elim
theorem cS(n:Int): -32768<=ar n/\ar n<=32767:=by rw[iA];omega
theorem yc{n:Int}(h: -32768<=n/\n<=32767):ar n=n:=by rw[iA];omega
theorem RH(n:Int):ar (ar n)=ar n:=yc (cS n)
theorem wrap64{n:Int}(h:aM .i64 n):IntKind.wrap .i64 n=n:=by
 rw[aU]at h;unfold IntKind.wrap;simp[IntKind.signed,IntKind.bits]
 try omega
theorem aQ(n:Int):Pure prog 68 [iD n] (iD (ar n)):=by
 have h0:=iA n;have h1:n.tmod 65536=if 0<=n then n % 65536 else -((-n) % 65536):=by
  split
  ·rename_i h;exact apz h
  ·rename_i h;have:=Int.neg_tmod (a:= -n) (b:=65536);rw[Int.neg_neg]at this;rw[this,apz (by omega)]
 refine rn func68 ?_;simp[-cB,f68];generalize n.tmod 65536=m at *;generalize hr:ar n=r at *
 repeat' (first
  | (with_reducible refine And.intro ?_ ?_)
  | ((first|(refine aw (λh=>?_) (λh=>?_)<;>(try simp at h))|refine pC Pure.none ?_|refine lC Pure.none ?_|refine pG Pure.none ?_)<;>(try simp[-cB, *]))
  | (with_reducible intro _))
 all_goals (try rw[aU])
 all_goals (split at h1<;>omega)
theorem cC(n:Int):Pure prog 67 [iD n] (iD (ar n)):=by
 have h0:aM .i64 (ar n):=by have:=cS n;rw[aU];omega
 have h1:=wrap64 h0;refine rn func67 ?_;simp[-cB,f67];exact h1
theorem ahp(n:Int):Pure prog 248 [iD n] (oD (gP n)):=by
 have h0:aM .i64 (ar n):=by have:=cS n;rw[aU];omega
 have h1:=wrap64 h0;have h2:=iA n;refine rn func248 ?_;simp[-cB,f248];rw[show IntKind.wrap .i16 n=ar n from rfl,h1,gP,bB];rw[aqM];simp;omega
def zV(a b:Int):Int:=ar (ar a+ar b)
def Vm(a b:Int):Int:=ar (ar a-ar b)
def mulM(a b:Int):Int:=ar (ar a *ar b)
def rL(a:Int):Int:=ar (0-ar a)
def Ka(a b:Int):Int×Int:=if ar b=0 then(0,1)else(ar ((ar a).tdiv (ar b)),0)
def Kb(a b:Int):Int×Int:=if ar b=0 then(0,1)else(ar ((ar a).tmod (ar b)),0)
theorem YB{a b:Int}(ha: -32768<=a/\a<=32767)(hb: -32768<=b/\b<=32767): -1073741824<=a *b/\a *b<=1073741824:=by
 have h1:a *b<=a.natAbs *b.natAbs:=by
  have:(a *b).natAbs=a.natAbs *b.natAbs:=Int.natAbs_mul a b;omega
 have h2: -(a.natAbs *b.natAbs:Int)<=a *b:=by
  have:(a *b).natAbs=a.natAbs *b.natAbs:=Int.natAbs_mul a b;omega
 have h3:a.natAbs *b.natAbs<=32768 *32768:=Nat.mul_le_mul (by omega) (by omega);omega
def eI(p:Int×Int):V:= .bA [iD p.1,iD p.2]
theorem zp(a b:Int):Pure prog 100 [iD a,iD b] (iD (zV a b)):=by
 have ha:=cS a;have hb:=cS b;have h:aM .i64 (ar a+ar b):=iW;refine rn func100 ?_;simp[-cB,f100]
 try intro(_:Nat->Nat)
 repeat' (first
  | (with_reducible refine And.intro ?_ ?_)
  | ((first|(refine aw (λh=>?_) (λh=>?_)<;>(try simp at h))|refine pC (aQ _) ?_|refine lC (aQ _) ?_|refine pG (aQ _) ?_)<;>(try simp[-cB, *]))
  | (with_reducible intro _))
 rfl
theorem DF(a b:Int):Pure prog 161 [iD a,iD b] (iD (Vm a b)):=by
 have ha:=cS a;have hb:=cS b;have h:aM .i64 (ar a-ar b):=iW;refine rn func161 ?_;simp[-cB,f161]
 try intro(_:Nat->Nat)
 repeat' (first
  | (with_reducible refine And.intro ?_ ?_)
  | ((first|(refine aw (λh=>?_) (λh=>?_)<;>(try simp at h))|refine pC (aQ _) ?_|refine lC (aQ _) ?_|refine pG (aQ _) ?_)<;>(try simp[-cB, *]))
  | (with_reducible intro _))
 rfl
theorem DG(a b:Int):Pure prog 162 [iD a,iD b] (iD (mulM a b)):=by
 have h:aM .i64 (ar a *ar b):=by have:=YB (cS a) (cS b);rw[aU];omega
 refine rn func162 ?_;simp[-cB,f162]
 try intro(_:Nat->Nat)
 repeat' (first
  | (with_reducible refine And.intro ?_ ?_)
  | ((first|(refine aw (λh=>?_) (λh=>?_)<;>(try simp at h))|refine pC (aQ _) ?_|refine lC (aQ _) ?_|refine pG (aQ _) ?_)<;>(try simp[-cB, *]))
  | (with_reducible intro _))
 rfl
theorem qt(a:Int):Pure prog 104 [iD a] (iD (rL a)):=by
 have h:aM .i64 (0-ar a):=by have:=cS a;rw[aU];omega
 rw[rL];generalize hx:0-ar a=x at *;refine rn func104 ?_;simp[-cB,f104]
 try intro(_:Nat->Nat)
 repeat' (first
  | (with_reducible refine And.intro ?_ ?_)
  | ((first|(refine aw (λh=>?_) (λh=>?_)<;>(try simp at h))|refine pC (aQ _) ?_|refine lC (aQ _) ?_|refine pG (aQ _) ?_)<;>(try simp[-cB, *,hx]))
  | (with_reducible intro _))
theorem YC(a b:Int):Pure prog 202 [iD a,iD b] (iD (zV a b)):=by
 have ha:=cS a;have hb:=cS b;have h:aM .i64 (ar a+ar b):=iW;refine rn func202 ?_;simp[-cB,f202]
 try intro(_:Nat->Nat)
 repeat' (first
  | (with_reducible refine And.intro ?_ ?_)
  | ((first|(refine aw (λh=>?_) (λh=>?_)<;>(try simp at h))|refine pC (cC _) ?_|refine lC (cC _) ?_|refine pG (cC _) ?_)<;>(try simp[-cB, *]))
  | (with_reducible intro _))
 rfl
theorem afE(a b:Int):Pure prog 203 [iD a,iD b] (iD (Vm a b)):=by
 have ha:=cS a;have hb:=cS b;have h:aM .i64 (ar a-ar b):=iW;refine rn func203 ?_;simp[-cB,f203]
 try intro(_:Nat->Nat)
 repeat' (first
  | (with_reducible refine And.intro ?_ ?_)
  | ((first|(refine aw (λh=>?_) (λh=>?_)<;>(try simp at h))|refine pC (cC _) ?_|refine lC (cC _) ?_|refine pG (cC _) ?_)<;>(try simp[-cB, *]))
  | (with_reducible intro _))
 rfl
theorem afF(a b:Int):Pure prog 204 [iD a,iD b] (iD (mulM a b)):=by
 have h:aM .i64 (ar a *ar b):=by have:=YB (cS a) (cS b);rw[aU];omega
 refine rn func204 ?_;simp[-cB,f204]
 try intro(_:Nat->Nat)
 repeat' (first
  | (with_reducible refine And.intro ?_ ?_)
  | ((first|(refine aw (λh=>?_) (λh=>?_)<;>(try simp at h))|refine pC (cC _) ?_|refine lC (cC _) ?_|refine pG (cC _) ?_)<;>(try simp[-cB, *]))
  | (with_reducible intro _))
 rfl
theorem afG(a:Int):Pure prog 136 [iD a] (iD (rL a)):=by
 have h:aM .i64 (- ar a):=by have:=cS a;rw[aU];omega
 rw[rL,Int.zero_sub];refine rn func136 ?_;simp[-cB,f136]
 try intro(_:Nat->Nat)
 repeat' (first
  | (with_reducible refine And.intro ?_ ?_)
  | ((first|(refine aw (λh=>?_) (λh=>?_)<;>(try simp at h))|refine pC (cC _) ?_|refine lC (cC _) ?_|refine pG (cC _) ?_)<;>(try simp[-cB, *]))
  | (with_reducible intro _))
theorem S4{a b:Int}(ha: -32768<=a/\a<=32767): -32768<=a.tdiv b/\a.tdiv b<=32768:=by
 have:(a.tdiv b).natAbs<=a.natAbs:=by rw[Int.natAbs_tdiv];exact Nat.div_le_self _ _
 omega
theorem Ha{a b:Int}(ha: -32768<=a/\a<=32767):IntKind.wrap .i64 (a.tdiv b)=a.tdiv b:=wrap64 (by have:=S4 (b:=b) ha;rw[aU];omega)
theorem aee{a b:Int}(ha: -32768<=a/\a<=32767): -32768<=a.tmod b/\a.tmod b<=32767:=by
 have h1:(a.tmod b).natAbs=a.natAbs % b.natAbs:=Int.natAbs_tmod a b;have h2:a.natAbs % b.natAbs<=a.natAbs:=Nat.mod_le _ _;have h3:0<=a->0<=a.tmod b:=λh=>Int.tmod_nonneg _ h
 have h4:a<0->a.tmod b<=0:=λh=>by
  have:=Int.tmod_nonneg b (a:= -a) (by omega);rw[Int.neg_tmod]at this;omega
 generalize a.natAbs % b.natAbs=q at *;omega
theorem YD(a b:Int):Pure prog 163 [iD a,iD b] (eI (Ka a b)):=by
 have h:=Ha (b:=ar b) (cS a);unfold eI Ka;refine rn func163 ?_;simp[-cB,f163]
 try intro(_:Nat->Nat)
 repeat' (first
  | (with_reducible refine And.intro ?_ ?_)
  | ((first|(refine aw (λh=>?_) (λh=>?_)<;>(try simp at h))|refine pC (aQ _) ?_|refine lC (aQ _) ?_|refine pG (aQ _) ?_)<;>(try simp[-cB, *]))
  | (with_reducible intro _))
theorem afH(a b:Int):Pure prog 205 [iD a,iD b] (eI (Ka a b)):=by
 have h:=Ha (b:=ar b) (cS a);unfold eI Ka;refine rn func205 ?_;simp[-cB,f205]
 try intro(_:Nat->Nat)
 repeat' (first
  | (with_reducible refine And.intro ?_ ?_)
  | ((first|(refine aw (λh=>?_) (λh=>?_)<;>(try simp at h))|refine pC (cC _) ?_|refine lC (cC _) ?_|refine pG (cC _) ?_)<;>(try simp[-cB, *]))
  | (with_reducible intro _))
theorem YE(a b:Int):Pure prog 164 [iD a,iD b] (eI (Kb a b)):=by
 have h:=Ha (b:=ar b) (cS a);have hd:=S4 (b:=ar b) (cS a);unfold eI Kb;refine rn func164 ?_;simp[-cB,f164]
 try intro(_:Nat->Nat)
 repeat' (first
  | (with_reducible refine And.intro ?_ ?_)
  | ((first|(refine aw (λh=>?_) (λh=>?_)<;>(try simp at h))|refine pC (aQ _) ?_|refine lC (aQ _) ?_|refine pG (aQ _) ?_)<;>(try simp[-cB, *]))
  | (with_reducible intro _))
 all_goals (have hm:=aee (b:=ar b) (cS a))
 all_goals (have he:=Int.tmod_def (ar a) (ar b))
 all_goals (rw[Int.mul_comm]at he)
 all_goals (have ha:=cS a)
 ·rw[aU];omega
 ·rw[aU];omega
 ·rw[yc hm];omega
theorem afI(a b:Int):Pure prog 206 [iD a,iD b] (eI (Kb a b)):=by
 unfold eI Kb;refine rn func206 ?_;simp[-cB,f206]
 try intro(_:Nat->Nat)
 repeat' (first
  | (with_reducible refine And.intro ?_ ?_)
  | ((first|(refine aw (λh=>?_) (λh=>?_)<;>(try simp at h))|refine pC (cC _) ?_|refine lC (cC _) ?_|refine pG (cC _) ?_)<;>(try simp[-cB, *]))
  | (with_reducible intro _))
end Go.Ab
namespace Go.Ab
def mu(l:Array Oper):Nat->Array Bool->List Nat->Prop
 | 0,_,L=>L=[]
 | f+1,ls,L=>(Region.ready .any l ls=[]/\L=[])\/∃i L',L=i::L'/\i∈Region.ready .any l ls/\mu l f (ls.setIfInBounds i true) L'
theorem Kc l:∀f t ls,mu l f ls (Region.linearise.go .any l f t ls []):=by
 intro f
 induction f with
 | zero=>intro t ls;rfl
 | succ f ih=>
   intro t ls;change mu l (f+1) ls (match(Region.ready .any l ls)[t % (Region.ready .any l ls).length]? with
    | some i=>Region.linearise.go .any l f (t / (Region.ready .any l ls).length) (ls.setIfInBounds i true) [i]
    | none=> [].reverse)
   cases hi:(Region.ready .any l ls)[t % (Region.ready .any l ls).length]? with
   | none=>
     left;refine⟨?_,rfl⟩;cases hr:Region.ready .any l ls with
     | nil=>rfl
     | cons x xs=>
       simp_all[Nat.mod_lt]
   | some i=>
     right;grind[List.mem_of_getElem?,Region.ready,linearise_go_acc]
theorem mu.run{F n P l Q}:∀f ls L a w,wpAnyIn F n P .any l Q f ls a w->mu l f ls L->wpOpsIn F n P l Q L a w:=by
 intro f
 induction f with
 | zero=>intro ls L a w h hL;rw[show L=[]from hL];exact h.2
 | succ f ih=>
   intro ls L a w h hL;rcases hL with⟨h1,rfl⟩|⟨i,L',rfl,hi,hL'⟩
   ·exact h.1 h1
   ·exact wpOpIn_mono (λa w h2=>ih _ _ a w h2 hL') (h.2 i hi)
def oy:List Oper->Nat->Nat->List Oper
 | [],_,_=> []
 | o::l,0,i=>{o with after:=o.after.push ⟨i,.data⟩}::l
 | o::l,j+1,i=>o::oy l j i
theorem Hb:∀l j i,(oy l j i).length=l.length
 | [],_,_=>rfl
 | _::_,0,_=>rfl
 | o::l,j+1,i=>by simp[oy,Hb]
theorem Kd{k}:∀l j i,k≠j->(oy l j i)[k]?=l[k]?
 | [],_,_,_=>rfl
 | o::l,0,i,h=>by
   cases k with
   | zero=>omega
   | succ k=>rfl
 | o::l,j+1,i,h=>by
   cases k with
   | zero=>rfl
   | succ k=>simpa[oy]using Kd l j i (by omega)
theorem Fb:∀l j i,(oy l j i)[j]?=(l[j]?).map λo=>{o with after:=o.after.push ⟨i,.data⟩}
 | [],_,_=>rfl
 | o::l,0,i=>rfl
 | o::l,j+1,i=>by simp[oy,Fb]
theorem YF{ls:Array Bool}{i}(h:ls.getD i true=false) b:i<ls.size/\ls.getD i b=false:=by
 grind
theorem u4{l j i k ls}(h:k≠j):k∈Region.ready .any (oy l j i).toArray ls↔k∈Region.ready .any l.toArray ls:=by
 simp_all[mem_ready,Kd]
theorem YG{l j i k ls}(h:k∈Region.ready .any (oy l j i).toArray ls):k∈Region.ready .any l.toArray ls:=by
 by_cases hk:k=j
 ·subst hk;rw[mem_ready]at h⊢;obtain⟨h1,o,h2,h3⟩:=h;simp[Fb]at h2;grind
 simp_all[u4]
theorem OW{l j i k ls}(hi:ls.getD i false=true)(h:k∈Region.ready .any l.toArray ls):k∈Region.ready .any (oy l j i).toArray ls:=by
 by_cases hk:k=j
 ·rw[mem_ready]at h⊢;obtain⟨h1,o,h2,h3⟩:=h;refine⟨h1,{o with after:=o.after.push ⟨i,.data⟩},?_,λe he hb=>?_⟩
  ·simp_all[Fb]
  grind
 simp_all[u4]
theorem Ct{l j i ls}(h:Region.ready .any l.toArray ls=[]):Region.ready .any (oy l j i).toArray ls=[]:=by
 rw[aqn]at h⊢;exact λk hk=>h k (YG hk)
theorem YH{ls:Array Bool}{i k}(h:ls.getD k false=true):(ls.setIfInBounds i true).getD k false=true:=by
 by_cases hk:i=k
 ·rcases apJ i ls.size with h'|h'
  ·simp_all
  grind
 simp_all
theorem mu.add{l j i}:∀f ls L,ls.getD i false=true->mu l.toArray f ls L->mu (oy l j i).toArray f ls L:=by
 intro f
 induction f with
 | zero=>intro ls L _ h;exact h
 | succ f ih=>
   intro ls L hi h;rcases h with⟨h1,h2⟩|⟨k,L',h1,h2,h3⟩
   ·exact .inl ⟨Ct h1,h2⟩
   ·exact .inr ⟨k,L',h1,OW hi h2,ih _ _ (YH hi) h3⟩
theorem mu.split{l i j}(NL:i≠j):∀f ls L,mu l.toArray f ls L->mu (oy l j i).toArray f ls L\/mu (oy l i j).toArray f ls L:=by
 intro f
 induction f with
 | zero=>intro ls L h;exact .inl h
 | succ f ih=>
   intro ls L h;rcases h with⟨h1,h2⟩|⟨k,L',h1,h2,h3⟩
   ·exact .inl (.inl ⟨Ct h1,h2⟩)
   ·have nf:(ls.setIfInBounds k true).getD k false=true:=by
     have:=(YF (mem_ready.1 h2).1 false).1;simp_all
    by_cases zt:k=i
    ·subst zt;exact .inl (.inr ⟨k,L',h1,(u4 NL).2 h2,h3.add f _ _ nf⟩)
    ·by_cases hkj:k=j
     ·subst hkj;exact .inr (.inr ⟨k,L',h1,(u4 (Ne.symm NL)).2 h2,h3.add f _ _ nf⟩)
     ·rcases ih _ _ h3 with h4|h4
      ·exact .inl (.inr ⟨k,L',h1,(u4 hkj).2 h2,h4⟩)
      ·exact .inr (.inr ⟨k,L',h1,(u4 zt).2 h2,h4⟩)
structure Alike(q:Nat->Nat) (o o':Oper):Prop where
 dst:o'.dst=o.dst
 op:o'.op=o.op
 type:o'.type=o.type
 pos:o'.pos=o.pos
 guard:o'.guard=o.guard.map λg=>(q g.1,g.2)
theorem Alike.wpIn{q o o'}(h:Alike q o o'){F n P a w K Q}:o'.wpIn F n P a w K Q=o.wpIn F n P a w K Q:=by
 obtain⟨h1,h2,h3,h4,h5⟩:=h;obtain⟨d,p,t,s,af,g⟩:=o;subst h1;subst h2;subst h3;rfl
theorem F7{q}{l l'}(h:∀i,(l[i]?=none∧l'[q i]?=none)∨∃o o',l[i]?=some o∧l'[q i]?=some o'∧Alike q o o'){F}{n}{P}{Q}:
  ∀L a w,wpOpsIn F n P l' Q (L.map q) a w->wpOpsIn F n P l Q L a w:=by
 have hy:∀tm j,yielded l' tm (q j)=yielded l tm j:=by
  intro tm j;unfold yielded;rcases h j with⟨h1,h2⟩|⟨o,o',h1,h2,h3⟩
  ·grind
  ·rw[h1,h2];simp[aqy,h3.dst]
 intro L
 induction L with
 | nil=>intro a w h;exact h
 | cons i L ih=>
   intro a w hh;simp[apF,wpOpsIn]at hh⊢;rcases h i with⟨h1,h2⟩|⟨o,o',h1,h2,h3⟩
   ·grind
   ·rw[h2]at hh;rw[h1];simp at hh⊢;have hw:Region.wanted o' (yielded l' a.tmps)=Region.wanted o (yielded l a.tmps):=by
     unfold Region.wanted;rw[h3.guard];grind
    rw[hw]at hh;split
    ·rename_i hc;rw[if_pos hc,h3.wpIn]at hh;grind[Oper.wpIn_mono]
    ·rename_i hc;rw[if_neg hc,h3.dst]at hh;have:o'.about P w a.eval=o.about P w a.eval:=by
      unfold Oper.about;rw[h3.op,h3.type]
     grind
def Ke(q:List Nat)(o:Oper):Oper:={o with after:=o.after.map λe=>⟨q.getD e.on 0,e.ground⟩,guard:=o.guard.map λg=>(q.getD g.1 0,g.2)}
def vI(l:List Oper)(i:Nat):Oper:=l[i]?.getD default
def zu(p q:List Nat)(l:List Oper):List Oper:=p.map λi=>Ke q (vI l i)
def YI(p q:List Nat)(l:List Oper):Bool:=
 p.length==l.length&&q.length==l.length&&(List.range l.length).all λi=>decide (p.getD i 0<l.length)&&decide (q.getD i 0<l.length)&&(p.getD (q.getD i 0) 0==i)&&(q.getD (p.getD i 0) 0==i)
section
variable {P : Program} {n : Nat} {Q : AX -> St -> Prop}
def fF(P:Program)(n:Nat)(l:List Oper)(s:St)(Q:AX->St->Prop):Prop:=∀fo m a w,G fo n m s a w->∀L,mu l.toArray l.length (Array.replicate l.length false) L->wpOpsIn (wr fo.r) 0 P l.toArray (gi fo n m w Q) L a {w with drawn:=w.drawn+1}
theorem fF.region{id l s}(hm:P.follows .mixedOrders=true)(h:fF P n l s Q):av P n (.region id l.toArray true) s Q:=by
 intro fo m a w _ g;refine wpIn_region_draw λt=>?_
 simp[Region.schedule];refine h fo m a w g _ ?_;grind[Kc,Array.replicate,Region.linearise]
theorem fF.ajp{l s} i j(NL:i≠j)(h1:fF P n (oy l j i) s Q)(h2:fF P n (oy l i j) s Q):fF P n l s Q:=by
 have key:∀j i {fo:FO} {a:Act} {w:World} {Q:Exit->Act->World->Prop} {L:List Nat},wpOpsIn (wr fo.r) 0 P (oy l j i).toArray Q L a w->wpOpsIn (wr fo.r) 0 P l.toArray Q L a w:=by
  intro j i fo a w Q L h;refine F7 (q:=id) (l':=(oy l j i).toArray) (λk=>?_) L a w (by simp_all);simp only[id_eq,aqc];by_cases hk:k=j
  ·subst hk;rw[Fb];cases l[k]? with
   | none=>simp
   | some o=>exact .inr ⟨o,_,rfl,rfl,⟨rfl,rfl,rfl,rfl,by simp⟩⟩
  ·rw[Kd l j i hk];cases l[k]? with
   | none=>simp
   | some o=>exact .inr ⟨o,_,rfl,rfl,⟨rfl,rfl,rfl,rfl,by simp⟩⟩
 intro fo m a w g L hL;rcases mu.split NL _ _ _ hL with hL|hL
 ·exact key j i (h1 fo m a w g L (by simp_all[Hb]))
 ·exact key i j (h2 fo m a w g L (by simp_all[Hb]))
theorem mu.map{l l':List Oper}{q p:Nat→Nat}(hlen:l'.length=l.length)(hl:∀i,i < l.length→q i < l.length∧p (q i)=i)(hp:∀i,i < l.length→p i < l.length∧q (p i)=i)
  (h:∀i,i<l.length->∀o,l[i]?=some o->∃o',l'[q i]?=some o'/\o'.after=o.after.map λe=>⟨q e.on,e.ground⟩) (cp:∀(i:Nat) (o:Oper),l[i]?=some o->∀e∈o.after,e.on<l.length):
  ∀f ls AJ L,ls.size=l.length->AJ.size=l.length->(∀i,i<l.length->AJ.getD (q i) false=ls.getD i false)->mu l.toArray f ls L->mu l'.toArray f AJ (L.map q):=by
 have rdy:∀(ls AJ:Array Bool),ls.size=l.length->AJ.size=l.length->(∀i,i<l.length->AJ.getD (q i) false=ls.getD i false)->∀i,i<l.length->(q i∈Region.ready .any l'.toArray AJ↔i∈Region.ready .any l.toArray ls):=by
  intro ls AJ h1 h2 h3 i hi;have ho:=akC hi;obtain⟨o',iC,ha⟩:=h i hi _ ho;have DH:l'.toArray[q i]?=some o':=by grind
  have ho3:l.toArray[i]?=some l[i]:=by simp
  have hg:∀k b,k<l.length->ls.getD k b=ls.getD k false:=λk b hk=>qX (by omega)
  have YJ:∀k b,k<l.length->AJ.getD k b=AJ.getD k false:=λk b hk=>qX (by omega)
  rw[mem_ready,mem_ready,hg i true hi,YJ _ true (hl i hi).1,h3 i hi,DH,ho3];refine and_congr_right λ_=>?_
  constructor
  ·rintro⟨o2,DH,hk⟩;obtain rfl:=ao9 DH;refine⟨_,rfl,λe he hb=>?_⟩;have:=hk ⟨q e.on,e.ground⟩ (by grind) hb;grind
  ·rintro⟨o2,DH,hk⟩;obtain rfl:=ao9 DH;refine⟨_,rfl,λe he hb=>?_⟩;rw[ha]at he;obtain⟨e0,ru,rfl⟩:=Array.mem_map.1 he;have:=hk e0 ru hb;grind
 intro f
 induction f with
 | zero=>intro ls AJ L _ _ _ hL;rw[show L=[]from hL];rfl
 | succ f ih=>
   intro ls AJ L h1 h2 h3 hL;rcases hL with⟨h4,rfl⟩|⟨k,L',rfl,h5,h6⟩
   ·refine .inl ⟨?_,rfl⟩;rw[aqn]at h4⊢;intro k hk;have tW:k<l.length:=by
     grind[mem_ready,Array.getElem?_eq_some_iff]
    grind
   ·have tW:k<l.length:=by
     grind[mem_ready,Array.getElem?_eq_some_iff]
    refine .inr ⟨q k,L'.map q,rfl,(rdy ls AJ h1 h2 h3 k tW).2 h5,ih _ _ _ (by grind) (by grind) (λi hi=>?_) h6⟩;by_cases hik:k=i
    ·simp_all
    ·have hq:q k≠q i:=by
      grind
     simp_all
def inE(l:List Oper):Bool:=l.all λo=>(o.after.toList.all λe=>decide (e.on<l.length))&&(match o.guard with|some g=>decide (g.1<l.length)|none=>true)
theorem fF.perm{l s} p q(hp:YI p q l=true)(hi:inE l=true)(h:fF P n (zu p q l) s Q):fF P n l s Q:=by
 unfold YI at hp;simp only[apb,beq_iff_eq,apd,apS,decide_eq_true_eq]at hp;obtain⟨⟨p1,p2⟩,p3⟩:=hp;have hlen:(zu p q l).length=l.length:=by simp[zu,p1]
 have dS:∀i,i<l.length->(zu p q l)[q.getD i 0]?=some (Ke q (vI l i)):=by
  grind[zu,List.getElem?_eq_getElem]
 have hao:∀(i:Nat) (o:Oper),l[i]?=some o->vI l i=o:=by simp_all[vI]
 have q0:∀i,l.length<=i->q.getD i 0=0:=by
  grind
 let qf:Nat->Nat:=λi=>if i<l.length then q.getD i 0 else i
 let pf:Nat->Nat:=λi=>if i<l.length then p.getD i 0 else i
 have hqf:∀i,i<l.length->qf i=q.getD i 0:=λi hi=>if_pos hi
 have hpf:∀i,i<l.length->pf i=p.getD i 0:=λi hi=>if_pos hi
 unfold inE at hi;simp only[apd,apb,decide_eq_true_eq]at hi;intro fo m a w g L hL;have iT:mu (zu p q l).toArray l.length (Array.replicate l.length false) (L.map qf):=by
  refine mu.map (p:=pf) hlen (λi hi=>?_) (λi hi=>?_) (λi cm o ho=>?_) (λi o ho e he=>?_) _ _ _ _ (by simp) (by simp) (λi hi=>?_) hL
  ·grind
  ·grind
  ·rw[hqf i cm];refine⟨_,dS i cm,?_⟩;rw[hao i o ho];simp only[Ke];have hoi:=(hi o (ape ho)).1;simp_all
  ·grind
  simp_all
 refine F7 (q:=qf) (l':=(zu p q l).toArray) (λi=>?_) L a _ (h fo m a w g _ (by grind));simp only[aqc];by_cases cm:i<l.length
 ·right;refine⟨l[i],Ke q l[i],akC cm,?_,⟨rfl,rfl,rfl,rfl,?_⟩⟩
  ·grind
  ·simp only[Ke];have hoi:=(hi l[i] (apk cm)).2;cases hg:l[i].guard with
   | none=>rfl
   | some g=>
     grind
 grind
theorem fF.m0{l}{s} rg us(ok:Lf n l rg=true)
  (h:runM P l.toArray (l.zip rg) (s.fr.map λe=>(e.1,0,e.2)) [] [s.L] us [] (λfr ks Ls=>Q .normal ⟨dm ks ks.length fr,Ls.getD ks.length []⟩)):fF P n l s Q:=by
 intro fo m a w g L hL;obtain⟨tr,jD,ks,Ls,h1,h2,-,h4⟩:=E0 (l.zip rg) _ [] [s.L] us [] rfl h;exact mu.run _ _ _ _ _ (Bm ok h1 h2 rfl h4 g _) hL
theorem av.eY{id l s}(hm:P.follows .mixedOrders=true)(h:fF P n l s (λx s'=>∀bs,Q x (s'.zi bs))):av P n (.region id l.toArray true) s Q:=
 av.opened (fF.region hm h)
attribute [simp] oy Ke vI zu
end
open Go.Proofs Go.Proofs.Tryz
theorem afJ(a:List Int)(n i:Nat)(hi:i<a.length)(hn:a.length<=n):((a.take i).map ar++List.replicate (n-i) 0).set i (ar a[i])=(a.take (i+1)).map ar++List.replicate (n-(i+1)) 0:=by
 have h1:((a.take i).map ar).length=i:=by simp;omega
 rw[List.set_append,if_neg (by omega),h1,Nat.sub_self,show n-i=(n-(i+1))+1 by omega,List.replicate_succ,List.set_cons_zero,apI (l:=a),akC hi,aqd,apA];rfl
set_option maxHeartbeats 4000000 in
set_option maxRecDepth 20000 in
theorem H9(s:al)(r:Nat)(e:Int)(n:Nat)(he:s.Entry[r]?=some e)(hn:s.Tables.aL[r]?=some (n:Int))(Cm:n≤1000000)(a:List Int)(ha:a.length≤n)(base:Int):
  Pure prog 30 [.agg (s.enc.map .d),iD r,.d (.sl (aA a)),iD base] (.agg ((aG.mk r e base (a.map ar++List.replicate (n-a.length) 0)).enc.map .d)):=by
 obtain⟨nD,x6⟩:=apa.1 he;obtain⟨qp,Am⟩:=apa.1 hn;refine rn func30 ?_;simp[-cB,f30];intro bs;refine av.eY aS (fF.ajp 13 15 (by decide) (fF.m0 [arH,arH,arH,arH,arH,arH,arH,Q0,Q0,Q0,Q0,Q0,Q0,none,arI,none,none] [] (by kernel_rfl) ?_) (fF.perm [0,1,2,3,4,5,6,7,8,9,10,11,12,15,13,14,16] [0,1,2,3,4,5,6,7,8,9,10,11,12,14,15,13,16] (by kernel_rfl) (by kernel_rfl) (fF.m0 [arH,arH,arH,arH,arH,arH,arH,Q3,Q3,Q3,Q3,Q3,Q3,none,none,arG,none] [] (by kernel_rfl) ?_)))
 all_goals
  simp[-cB,x6,nD,Am,qp];refine⟨⟨by simp only[maxLen];omega,by omega⟩,λK6=>?_⟩;refine av.cJ [8,9,27,28,29] a.length (λi=> [(29,iD i)]) (λi=> [(25,.row 3 1 (dd (aA ((a.take i).map ar++List.replicate (n-i) 0))))]) (λ_=>True) (by rfl) (by simp[dd,aA,-J8]) ?_;intro i hi _;rcases apg hi with au|heq
  ·have bY:aM .i64 ((i:Int)+1):=iW;have dF:(i:Int)<a.length:=by omega
   have mj:=afJ a n i au ha;have Lx:((a.take i).map ar++List.replicate (n-i) 0).length=n:=by simp;omega
   have hw:=cC a[i];generalize (a.take i).map ar++List.replicate (n-i) 0=ls at *;simp[-cB,au,dF];refine av.aT [Q0,Q0,Q0,Q0,Q0,Q0,none] [iD (ar a[i])] aS (by kernel_rfl) ?_;simp[-cB,hw.ok,Lx,au,dF,bY];exact⟨by omega,by rw[mj,List.map_take]⟩
  ·simp[-cB,heq,aG.enc]
def aH(l:List Int)(i:Int):Int:=if i<0 then 0 else l[i.toNat]?.getD 0
def bU(n:Nat)(x:Int):Bool:=decide (1<=x/\x<n)
theorem aY{n:Nat}{x:Int}:bU n x=true↔1<=x/\x<n:=by simp[bU]
theorem Ly{n:Nat}{x:Int}:bU n x=false↔¬(1<=x/\x<n):=by simp[bU]
def bI(nx:List Int)(n:Nat):Nat->Int->List Int
 | 0,_=> []
 | k+1,c=>if bU n c then c::bI nx n k (aH nx c)else []
theorem wM(nx:List Int)(n:Nat):∀k c,(bI nx n k c).length<=k
 | 0,c=>by simp[bI]
 | k+1,c=>by
   rw[bI];split
   ·have:=wM nx n k (aH nx c);simp;omega
   ·simp
theorem mJ{nx:List Int}{n:Nat}:∀{k c x},x∈bI nx n k c->1<=x/\x<n
 | 0,c,x,h=>by simp[bI]at h
 | k+1,c,x,h=>by
   rw[bI]at h;split at h
   ·rename_i hc;rcases apq.1 h with rfl|h
    ·exact aY.1 hc
    ·exact mJ h
   ·simp at h
inductive Ch(nx:List Int) (n:Nat):Int->List Int->Prop
 | nil:Ch nx n 0 []
 | cons {c:Int} {l:List Int} (h:1<=c/\c<n) (t:Ch nx n (aH nx c) l):Ch nx n c (c::l)
theorem Ch.mem{nx:List Int}{n:Nat}{c:Int}{l:List Int}(h:Ch nx n c l):∀x∈l,1<=x/\x<n:=by
 induction h with
 | nil=>simp
 | cons h t ih=>
   intro x hx;rcases apq.1 hx with rfl|hx
   ·exact h
   ·exact ih x hx
theorem Ch.uniq{nx:List Int}{n:Nat}{c:Int}{l l':List Int}(h:Ch nx n c l)(h':Ch nx n c l'):l=l':=by
 induction h generalizing l' with
 | nil=>cases h' with
   | nil=>rfl
   | cons h t=>omega
 | cons h t ih=>cases h' with
   | nil=>omega
   | cons h' t'=>rw[ih t']
theorem Ch.chain{nx:List Int}{n:Nat}{c:Int}{l:List Int}(h:Ch nx n c l):∀k,l.length<=k->bI nx n k c=l:=by
 induction h with
 | nil=>intro k _;cases k<;>simp[bI,bU]
 | cons h t ih=>
   intro k hk;simp only[apj]at hk;obtain⟨k,rfl⟩:∃j,k=j+1:=⟨k-1,by omega⟩
   rw[bI,if_pos (aY.2 h),ih k (by omega)]
theorem Ch.nodup{nx:List Int}{n:Nat}{c:Int}{l:List Int}(h:Ch nx n c l):l.Nodup:=by
 induction h with
 | nil=>simp
 | @cons c l h t ih=>
   refine ap0.2 ⟨λhm=>?_,ih⟩;obtain⟨a,b,rfl⟩:=aq2 hm;have sub:∀{a:List Int} {d:Int},Ch nx n d (a++c::b)->Ch nx n c (c::b):=by
    intro a
    induction a with
    | nil=>intro d hd;cases hd with
      | cons h t=>exact .cons h t
    | cons y a iha=>intro d hd;cases hd with
      | cons h t=>exact iha t
   have h1:=sub t;have h2:=(Ch.cons h t).uniq h1;have:=congrArg List.length h2;simp at this;omega
theorem ye{n:Nat}{l:List Int}(h:l.Nodup)(hm:∀x∈l,1<=x/\x<n):l.length<n\/l=[]:=by
 have key:∀(n:Nat) (l:List Int),l.Nodup->(∀x∈l,1<=x/\x<n)->l.length<=n-1:=by
  intro n
  induction n with
  | zero=>
    intro l _ hm;cases l with
    | nil=>simp
    | cons x l=>have:=hm x apo;omega
  | succ n ih=>
    intro l hd hm;by_cases hn:(n:Int)∈l
    ·have h1:=ih (l.erase n) (hd.erase _) (λx hx=>by
      have h2:=hm x (List.mem_of_mem_erase hx);have h3:x≠n:=λe=>by subst e;exact(hd.not_mem_erase hx)
      omega)
     rw[aru hn]at h1;have:=List.length_pos_of_mem hn;have h4:=hm n hn;omega
    ·have:=ih l hd (λx hx=>by
      have h2:=hm x hx;have h3:x≠n:=λe=>hn (e ▸ hx)
      omega)
     omega
 cases l with
 | nil=>exact .inr rfl
 | cons x l=>
   have:=key n _ h hm;have h2:=hm x apo;left;simp at this⊢;omega
theorem Ch.len{nx:List Int}{n:Nat}{c:Int}{l:List Int}(h:Ch nx n c l):l.length<=n:=by
 rcases ye h.nodup h.mem with h|h
 ·omega
 ·simp[h]
theorem Ch.full{nx:List Int}{n:Nat}{c:Int}{l:List Int}(h:Ch nx n c l):bI nx n n c=l:=h.chain n h.len
theorem Ch.rJ{nx nx':List Int}{n:Nat}{c:Int}{l:List Int}(h:Ch nx n c l)(hk:∀x∈l,aH nx' x=aH nx x):Ch nx' n c l:=by
 induction h with
 | nil=>exact .nil
 | cons h t ih=>
   refine .cons h ?_;rw[hk _ apo];exact ih (λx hx=>hk x (apl _ hx))
structure Tree where
 bn:List Int
 gn:List Int
 gq:List Int
structure ec(t:Tree) (n:Nat) (ls:Int->List Int):Prop where
 pos:0<n
 lp:t.bn.length=n
 lc:t.gn.length=n
 ln:t.gq.length=n
 p0:aH t.bn 0=0
 c0:aH t.gn 0=0
 n0:aH t.gq 0=0
 ch:∀x:Int,1<=x->x<n->Ch t.gq n (aH t.gn x) (ls x)
 par:∀x:Int,1<=x->x<n->∀y∈ls x,aH t.bn y=x
 up:∀x:Int,1<=x->x<n->aH t.bn x=0/\aH t.gq x=0\/(1<=aH t.bn x/\aH t.bn x<n)/\x∈ls (aH t.bn x)
 ends:∀x:Int,1<=x->x<n->∃l,Ch t.bn n x l
def bw(t:Tree)(x:Int):List Int:=if bU t.bn.length x then bI t.gq t.bn.length t.bn.length (aH t.gn x)else []
def ik(t:Tree)(x:Int):List Int:=bI t.bn t.bn.length t.bn.length x
def dj(t:Tree)(x:Int):Int:=(ik t x).getLastD 0
theorem ec.kids{t:Tree}{n:Nat}{ls:Int->List Int}(h:ec t n ls){x:Int}(hx:1<=x/\x<n):bw t x=ls x:=by
 rw[bw,h.lp,if_pos (aY.2 hx),(h.ch x hx.1 hx.2).full]
def xh(t:Tree)(x:Int):Bool:=
 (bw t x).all (λy=>decide (aH t.bn y=x)&&decide ((bw t x).count y=1)) &&
  decide ((match(bw t x).getLast? with|some y=>aH t.gq y|none=>aH t.gn x)=0)
theorem OX{nx:List Int}{n:Nat}(h0:aH nx 0=0):∀{k:Nat} {c:Int},(bI nx n k c).length < k∨(bI nx n k c).Nodup∧n≤k→
  (match(bI nx n k c).getLast? with|some y=>aH nx y|none=>c)=0->Ch nx n c (bI nx n k c):=by
 intro k
 induction k with
 | zero=>
   intro c hd he;simp only[bI,List.getLast?_nil]at he⊢;subst he;exact .nil
 | succ k ih=>
   intro c hd he;rw[bI]at hd he⊢;by_cases hc:bU n c=true
   ·rw[if_pos hc]at hd he⊢;have wN:(match(bI nx n k (aH nx c)).getLast? with|some y=>aH nx y|none=>aH nx c)=0:=by
     rw[arv]at he;cases hl:(bI nx n k (aH nx c)).getLast? with
     | none=>simpa[hl]using he
     | some y=>simpa[hl]using he
    refine .cons (aY.1 hc) ?_;cases k with
    | zero=>simp only[bI,List.getLast?_nil]at wN⊢;rw[wN];exact .nil
    | succ k=>
      refine ih ?_ wN;rcases hd with hd|⟨hd,hn⟩
      ·left;simpa using hd
      ·-- there are amh ald aoc rounds
       left;have h1:=ye hd (λx hx=>by
        rcases apq.1 hx with rfl|hx
        ·exact aY.1 hc
        ·exact mJ hx)
       rcases h1 with h1|h1
       ·simp only[apj]at h1;omega
       ·cases h1
   ·rw[if_neg hc]at hd he⊢;simp only[List.getLast?_nil]at he;subst he;exact .nil
def aj.tree(w:aj):Tree:=⟨w.ah,w.Child,w.Next⟩
def cw(nx:List Int):Nat->Int->Int
 | 0,c=>c
 | k+1,c=>cw nx k (aH nx c)
theorem fy(nx:List Int):∀(k:Nat) (c:Int),cw nx (k+1) c=aH nx (cw nx k c)
 | 0,c=>rfl
 | k+1,c=>by rw[cw,fy nx k];rfl
theorem vJ(nx:List Int)(n:Nat):∀(i k:Nat) (c:Int),(∀j<i,bU n (cw nx j c)=true)->bI nx n (i+k) c=(List.range i).map (λj=>cw nx j c)++bI nx n k (cw nx i c)
 | 0,k,c,_=>by rw[ap2];rfl
 | i+1,k,c,h=>by
   have h0:bU n c=true:=h 0 (by omega);rw[show i+1+k=(i+k)+1 by omega,bI,if_pos h0,vJ nx n i k (aH nx c) (λj hj=>h (j+1) (by omega)),List.range_succ_eq_map];simp[cw,aq7]
def jX(nx:List Int)(i:Nat)(c:Int):List Int:=(List.range i).map (λj=>cw nx j c)
theorem zW(nx:List Int)(i:Nat)(c:Int):jX nx (i+1) c=jX nx i c++ [cw nx i c]:=by simp[jX,aqu]
theorem Bs(nx:List Int)(i:Nat)(c:Int):(jX nx i c).length=i:=by simp[jX]
theorem fi{nx:List Int}{n i:Nat}{c:Int}(h:∀j<i,bU n (cw nx j c)=true)(hs:bU n (cw nx i c)=false\/i=n)(hi:i<=n):bI nx n n c=jX nx i c:=by
 have:=vJ nx n i (n-i) c h;rw[show i+(n-i)=n by omega]at this;rw[this];rcases hs with hs|hs
 ·cases hk:n-i with
  | zero=>simp[bI,jX]
  | succ k=>rw[bI,if_neg (by simp[hs])];simp[jX]
 ·rw[hs,Nat.sub_self];simp[bI,jX]
theorem fZ(w:aj)(x:Int):Pure prog 113 [.agg (w.enc.map .d),iD x] (oD (bU w.ah.length x)):=by
 refine rn func113 ?_;simp[-cB,f113];simp[bU]
theorem bE(w:aj)(x:Int):Pure prog 155 [.agg (w.enc.map .d),iD x] (oD (bU w.ah.length x)):=by
 refine rn func155 ?_;simp[-cB,f155];simp[bU]
theorem oz(l:List Int)(i:Int):Pure prog 168 [.d (.sl (aA l)),iD i] (iD (aH l i)):=by
 unfold aH;refine rn func168 ?_;simp[-cB,f168]
 repeat' (first
  | (with_reducible refine And.intro ?_ ?_)
  | ((first|(refine aw (λh=>?_) (λh=>?_)<;>(try simp at h))|refine pC Pure.none ?_|refine lC Pure.none ?_|refine pG Pure.none ?_)<;>(try simp[-cB, *]))
  | (with_reducible intro _))
 ·rw[apT (by omega)];rfl
 ·omega
theorem nM(w:aj)(hw:w.wf)(x:Int):Pure prog 116 [.agg (w.enc.map .d),iD x] (.d (.sl (aA (bw w.tree x)))):=by
 have hl:=aj.fX hw;have e1:w.tree.bn=w.ah:=rfl;have e2:w.tree.gn=w.Child:=rfl;have e3:w.tree.gq=w.Next:=rfl;unfold bw;rw[e1,e2,e3];cases hx:bU w.ah.length x with
 | false=>
   refine rn func116 ?_;simp[-cB,f116]
   try intro(_:Nat->Nat)
   refine ay.weaken (Wk.abc (t:=5) rfl) ?_
   repeat' (first
    | (with_reducible refine And.intro ?_ ?_)
    | ((first|(refine aw (λh=>?_) (λh=>?_)<;>(try simp at h))|refine pC (fZ _ _) ?_|refine pC (oz _ _) ?_|refine lC (fZ _ _) ?_|refine lC (oz _ _) ?_|refine pG (fZ _ _) ?_|refine pG (oz _ _) ?_)<;>(try simp[-cB, *]))
    | (with_reducible intro _))
 | true=>
   refine rn func116 ?_;simp[-cB,f116]
   try intro(_:Nat->Nat)
   repeat' (first
    | (with_reducible refine And.intro ?_ ?_)
    | ((first|(refine aw (λh=>?_) (λh=>?_)<;>(try simp at h))|refine pC (fZ _ _) ?_|refine pC (oz _ _) ?_|refine lC (fZ _ _) ?_|refine lC (oz _ _) ?_|refine pG (fZ _ _) ?_|refine pG (oz _ _) ?_)<;>(try simp[-cB, *]))
    | (with_reducible intro _))
   generalize hc:aH w.Child x=c;refine av.weaken (Wk.C4 (t:=5) (h:=30) (k:=1) (ty:=3) rfl (by simp)) ?_;refine av.cJ [2,5,6,7] w.ah.length (λi=> [(6,iD (cw w.Next i c)),(7,iD i)]) (λi=> [(30,.row 3 1 (dd (aA (jX w.Next i c))))]) (λi=>∀j<i,bU w.ah.length (cw w.Next j c)=true) (by rfl) (by simp[cw,jX,aA]) ?_;intro i hi hH;have hs:=fy w.Next i c;have hf:=zW w.Next i c;have lY:=Bs w.Next i c;rcases apg hi with au|rfl
   ·have a4:aM .i64 ((i:Int)+1):=iW;cases hT:bU w.ah.length (cw w.Next i c)with
    | false=>
      have bV:=fi hH (.inl hT) hi;simp[-cB,au];refine pG (fZ w _) ?_;simp[-cB,hT,bV]
    | true=>
      have jY:∀j<i+1,bU w.ah.length (cw w.Next j c)=true:=λj hj=>by
       rcases apJ j i with h|h
       ·exact hH j h
       ·rw[show j=i by omega];exact hT
      simp[-cB,au];refine pG (fZ w _) ?_;simp[-cB,hT,hs,hf,lY];refine⟨by omega,?_⟩
      repeat' (first
       | (with_reducible refine And.intro ?_ ?_)
       | ((first|(refine aw (λh=>?_) (λh=>?_)<;>(try simp at h))|refine pC (oz _ _) ?_|refine lC (oz _ _) ?_|refine pG (oz _ _) ?_)<;>(try simp[-cB, *]))
       | (with_reducible intro _))
      exact jY _ (by assumption)
   ·have bV:=fi hH (.inr rfl) hi;simp[-cB];refine pG (fZ w _) ?_;simp[-cB,bV]
theorem ni{l:List Int}{x:Int}(h:bU l.length x=true):l[x.toNat]'(by have:=aY.1 h;omega)=aH l x:=by
 have:=aY.1 h;rw[aH,if_neg (by omega),akC (by omega)];rfl
theorem eo{l:List Int}{x:Int}(h:bU l.length x=true):l[x.toNat]?.getD 0=aH l x:=by
 have:=aY.1 h;rw[aH,if_neg (by omega)]
theorem Lz{nx:List Int}{n i:Nat}{c:Int}(h:∀j<i+1,bU n (cw nx j c)=true)(hi:i<n):cw nx i c∈bI nx n n c:=by
 have:=vJ nx n (i+1) (n-(i+1)) c h;rw[show i+1+(n-(i+1))=n by omega]at this;rw[this];exact apD _ (apf.2 ⟨i,apS.2 (by omega),rfl⟩)
theorem OY(w:aj)(hw:w.wf)(x y:Int):Pure prog 117 [.agg (w.enc.map .d),iD x,iD y] (oD (decide (y∈ik w.tree x))):=by
 have hl:=aj.fX hw;have e1:w.tree.bn=w.ah:=rfl;unfold ik;rw[e1];refine rn func117 ?_;simp[-cB,f117]
 try intro(_:Nat->Nat)
 refine av.cJ [1,2,3,7] w.ah.length (λi=> [(1,iD (cw w.ah i x)),(7,iD i)]) (λ_=> []) (λi=>∀j<i,bU w.ah.length (cw w.ah j x)=true/\cw w.ah j x≠y) (by rfl) (by simp[cw]) ?_;intro i hi hH;have hs:=fy w.ah i x;have iU:y∉jX w.ah i x:=by
  intro hm;obtain⟨j,hj,he⟩:=apf.1 hm;exact(hH j (apS.1 hj)).2 he
 rcases apg hi with au|rfl
 ·have a4:aM .i64 ((i:Int)+1):=iW;cases hT:bU w.ah.length (cw w.ah i x)with
  | false=>
    have bV:=fi (λj hj=>(hH j hj).1) (.inl hT) hi;simp[-cB,au];refine pG (fZ w _) ?_;simp[-cB,hT,bV,iU]
  | true=>
    have hg:=ni hT;have nV:=eo hT;have hb:=aY.1 hT;have jY:∀j<i+1,bU w.ah.length (cw w.ah j x)=true:=λj hj=>by
     rcases apJ j i with h|h
     ·exact(hH j h).1
     ·rw[show j=i by omega];exact hT
    have cp:=Lz jY au;simp[-cB,au];refine pG (fZ w _) ?_;by_cases F8:cw w.ah i x=y
    ·rw[F8]at cp hT;simp[-cB,hT,F8,cp]
    ·simp[-cB,hT,hs,hg,nV,F8,a4];refine⟨by omega,by omega,λj hj=>?_⟩;rcases apJ j i with h|h
     ·exact hH j h
     ·rw[show j=i by omega];exact⟨hT,F8⟩
 ·have bV:=fi (λj hj=>(hH j hj).1) (.inr rfl) hi;simp[-cB];refine pG (fZ w _) ?_;simp[-cB,bV,iU]
theorem YK(w:aj)(hw:w.wf)(x:Int):Pure prog 118 [.agg (w.enc.map .d),iD x] (iD (dj w.tree x)):=by
 have hl:=aj.fX hw;have e1:w.tree.bn=w.ah:=rfl;unfold dj ik;rw[e1];refine rn func118 ?_;simp[-cB,f118]
 try intro(_:Nat->Nat)
 refine av.cJ [1,2,5,6] w.ah.length (λi=> [(1,iD (cw w.ah i x)),(5,iD ((jX w.ah i x).getLastD 0)),(6,iD i)]) (λ_=> []) (λi=>∀j<i,bU w.ah.length (cw w.ah j x)=true) (by rfl) (by simp[cw,jX]) ?_;intro i hi hH;have hs:=fy w.ah i x;have hf:=zW w.ah i x;rcases apg hi with au|rfl
 ·have a4:aM .i64 ((i:Int)+1):=iW;cases hT:bU w.ah.length (cw w.ah i x)with
  | false=>
    have bV:=fi hH (.inl hT) hi;simp[-cB,au];refine pG (fZ w _) ?_;simp[-cB,hT,bV]
  | true=>
    have hg:=ni hT;have nV:=eo hT;have hb:=aY.1 hT;have jY:∀j<i+1,bU w.ah.length (cw w.ah j x)=true:=λj hj=>by
     rcases apJ j i with h|h
     ·exact hH j h
     ·rw[show j=i by omega];exact hT
    simp[-cB,au];refine pG (fZ w _) ?_;simp[-cB,hT,hs,hf,hg,nV,a4];exact⟨by omega,by omega,jY⟩
 ·have bV:=fi hH (.inr rfl) hi;simp[-cB];refine pG (fZ w _) ?_;simp[-cB,bV]
theorem Kf(w:aj)(hw:w.wf)(x y:Int):Pure prog 156 [.agg (w.enc.map .d),iD x,iD y] (oD (decide (y∈ik w.tree x))):=by
 have hl:=aj.fX hw;have e1:w.tree.bn=w.ah:=rfl;unfold ik;rw[e1];refine rn func156 ?_;simp[-cB,f156]
 try intro(_:Nat->Nat)
 refine av.cJ [1,2,3,7] w.ah.length (λi=> [(1,iD (cw w.ah i x)),(7,iD i)]) (λ_=> []) (λi=>∀j<i,bU w.ah.length (cw w.ah j x)=true/\cw w.ah j x≠y) (by rfl) (by simp[cw]) ?_;intro i hi hH;have hs:=fy w.ah i x;have iU:y∉jX w.ah i x:=by
  intro hm;obtain⟨j,hj,he⟩:=apf.1 hm;exact(hH j (apS.1 hj)).2 he
 rcases apg hi with au|rfl
 ·have a4:aM .i64 ((i:Int)+1):=iW;cases hT:bU w.ah.length (cw w.ah i x)with
  | false=>
    have bV:=fi (λj hj=>(hH j hj).1) (.inl hT) hi;simp[-cB,au];refine pG (bE w _) ?_;simp[-cB,hT,bV,iU]
  | true=>
    have hg:=ni hT;have nV:=eo hT;have hb:=aY.1 hT;have jY:∀j<i+1,bU w.ah.length (cw w.ah j x)=true:=λj hj=>by
     rcases apJ j i with h|h
     ·exact(hH j h).1
     ·rw[show j=i by omega];exact hT
    have cp:=Lz jY au;simp[-cB,au];refine pG (bE w _) ?_;by_cases F8:cw w.ah i x=y
    ·rw[F8]at cp hT;simp[-cB,hT,F8,cp]
    ·simp[-cB,hT,hs,hg,nV,F8,a4];refine⟨by omega,by omega,λj hj=>?_⟩;rcases apJ j i with h|h
     ·exact hH j h
     ·rw[show j=i by omega];exact⟨hT,F8⟩
 ·have bV:=fi (λj hj=>(hH j hj).1) (.inr rfl) hi;simp[-cB];refine pG (bE w _) ?_;simp[-cB,bV,iU]
theorem sb(w:aj)(hw:w.wf)(x:Int):Pure prog 159 [.agg (w.enc.map .d),iD x] (iD (dj w.tree x)):=by
 have hl:=aj.fX hw;have e1:w.tree.bn=w.ah:=rfl;unfold dj ik;rw[e1];refine rn func159 ?_;simp[-cB,f159]
 try intro(_:Nat->Nat)
 refine av.cJ [1,2,5,6] w.ah.length (λi=> [(1,iD (cw w.ah i x)),(5,iD ((jX w.ah i x).getLastD 0)),(6,iD i)]) (λ_=> []) (λi=>∀j<i,bU w.ah.length (cw w.ah j x)=true) (by rfl) (by simp[cw,jX]) ?_;intro i hi hH;have hs:=fy w.ah i x;have hf:=zW w.ah i x;rcases apg hi with au|rfl
 ·have a4:aM .i64 ((i:Int)+1):=iW;cases hT:bU w.ah.length (cw w.ah i x)with
  | false=>
    have bV:=fi hH (.inl hT) hi;simp[-cB,au];refine pG (bE w _) ?_;simp[-cB,hT,bV]
  | true=>
    have hg:=ni hT;have nV:=eo hT;have hb:=aY.1 hT;have jY:∀j<i+1,bU w.ah.length (cw w.ah j x)=true:=λj hj=>by
     rcases apJ j i with h|h
     ·exact hH j h
     ·rw[show j=i by omega];exact hT
    simp[-cB,au];refine pG (bE w _) ?_;simp[-cB,hT,hs,hf,hg,nV,a4];exact⟨by omega,by omega,jY⟩
 ·have bV:=fi hH (.inr rfl) hi;simp[-cB];refine pG (bE w _) ?_;simp[-cB,bV]
theorem oA(w:aj)(hw:w.wf)(x:Int):Pure prog 157 [.agg (w.enc.map .d),iD x] (.d (.sl (aA (bw w.tree x)))):=by
 refine rn func157 ?_;simp[-cB,f157]
 try intro(_:Nat->Nat)
 repeat' (first
  | (with_reducible refine And.intro ?_ ?_)
  | ((first|(refine aw (λh=>?_) (λh=>?_)<;>(try simp at h))|refine pC (nM w hw _) ?_|refine lC (nM w hw _) ?_|refine pG (nM w hw _) ?_)<;>(try simp[-cB, *]))
  | (with_reducible intro _))
theorem F9(l:List Int)(hl:l.length<=1000000000000000)(x:Int):Pure prog 115 [.d (.sl (aA l)),iD x] (iD (l.count x)):=by
 refine rn func115 ?_;simp[-cB,f115];refine av.fh [0,1,5,6] l (λpre=> [(5,iD (pre.count x)),(6,iD pre.length)]) (λ_=> []) (λ_=>True) (by rfl) (by omega) (by simp) ?_ ?_
 ·rintro pre y post bu-au bm a4;have hc:aM .i64 ((pre.count x:Int)+1):=by
   have:=List.count_le_length (a:=x) (l:=pre);rw[aU];omega
  clear bu;by_cases hy:y=x
  ·subst hy;simp[-cB,au,bm,a4,hc,List.count_append]
  ·simp[-cB,au,bm,a4,hy,List.count_append,List.count_cons]
 ·intro _;simp
theorem nW{t:Tree}{x y:Int}(h:y∈bw t x):1<=y/\y<t.bn.length:=by
 unfold bw at h;split at h
 ·exact mJ h
 ·cases h
theorem mK(t:Tree)(x:Int):(bw t x).length<=t.bn.length:=by
 unfold bw;split
 ·exact wM _ _ _ _
 ·simp
theorem oB(l:List Int)(x:Int)(h:0<=x):l[x.toNat]?.getD 0=aH l x:=by rw[aH,if_neg (by omega)]
theorem oC(l:List Int)(x:Int)(h:0<=x)(h2:x.toNat<l.length):l[x.toNat]=aH l x:=by
 rw[aH,if_neg (by omega),akC h2];rfl
def jm(t:Tree)(x:Int)(L:List Int)(y:Int):Bool:=decide (aH t.bn y=x)&&decide (L.count y=1)
theorem Bt(t:Tree)(x:Int):xh t x=((bw t x).all (jm t x (bw t x))&&decide ((match(bw t x).getLast? with|some y=>aH t.gq y|none=>aH t.gn x)=0)):=rfl
theorem OZ(w:aj)(hw:w.wf)(hc:w.Child.length=w.ah.length)(hn:w.Next.length=w.ah.length)(x:Int)(hx:1≤x∧x < w.ah.length):
  Pure prog 114 [.agg (w.enc.map .d),iD x] (oD (xh w.tree x)):=by
 have hl:=aj.fX hw;have e1:w.tree.bn=w.ah:=rfl;have e2:w.tree.gn=w.Child:=rfl;have e3:w.tree.gq=w.Next:=rfl;have pL:=nM w hw x;have hk:=λy=>nW (t:=w.tree) (x:=x) (y:=y)
 have tW:=mK w.tree x;rw[e1]at tW hk;rw[Bt,e2,e3];generalize bw w.tree x=L at *;have afK:=λy=>(F9 L (by omega) y).ok
 have hgx:=oB w.Child x (by omega);have afL:=oC w.Child x (by omega) (by omega);refine rn func114 ?_;simp[-cB,f114]
 try intro(_:Nat->Nat)
 repeat' (first
  | (with_reducible refine And.intro ?_ ?_)
  | ((first|(refine aw (λh=>?_) (λh=>?_)<;>(try simp at h))|refine pC pL ?_|refine lC pL ?_|refine pG pL ?_)<;>(try simp[-cB, *]))
  | (with_reducible intro _))
 clear pL;refine av.fh [1,2,5,6] L (λpre=> [(6,iD pre.length)]) (λ_=> []) (λpre=>pre.all (jm w.tree x L)=true) (by rfl) (by omega) (by simp) ?_ ?_
 ·rintro pre y post bu hH au bm a4;have hy:=hk y (by rw[bu];simp);have bS:L.all (jm w.tree x L)=(jm w.tree x L y&&post.all (jm w.tree x L)):=by
   have:(pre++y::post).all (jm w.tree x L)=(jm w.tree x L y&&post.all (jm w.tree x L)):=by
    rw[arp,hH,arC,ap1]
   rw[<-bu]at this;exact this
  have hgy:=oB w.ah y (by omega);have abz:=oC w.ah y (by omega) (by omega);have sK:(pre++ [y]).all (jm w.tree x L)=jm w.tree x L y:=by rw[arp,hH];simp
  have hp:jm w.tree x L y=(decide (aH w.ah y=x)&&decide (L.count y=1)):=rfl;have ahq:(!decide (aH w.ah y=x)||((L.count y:Int) !=1))=!jm w.tree x L y:=by
   rw[hp,aqM];simp;omega
  clear bu;simp[-cB,au,bm];refine av.bT [iD (L.count y)] aS (by kernel_rfl) (by rfl) ?_;simp[-cB,au,bm,hgy,abz,afK y];simp only[ahq];have hH':∀z∈pre,jm w.tree x L z=true:=apd.1 hH;refine⟨by omega,?_⟩;cases hb:jm w.tree x L y with
  | false=>simp[bS,hb]
  | true=>
    simp[hb,a4];rintro z (hz|rfl)
    ·exact hH' z hz
    ·exact hb
 ·intro hH;cases hL:L.getLast? with
  | none=>
    have:L=[]:=List.getLast?_eq_none_iff.1 hL;subst this;simp[-cB,hgx,afL];omega
  | some y=>
    have bR:L≠ []:=by rintro rfl;cases hL
    have iZ:0<L.length:=apV.2 bR;have hyL:y∈L:=arc hL;have hy:=hk y hyL;have hgy:=oB w.Next y (by omega);have abz:=oC w.Next y (by omega) (by omega);have wN:L[L.length-1]?=some y:=by rw[<-hL,arn]
    have afM:L[L.length-1]'(by omega)=y:=(apa.1 wN).2;have ajq:((L.length:Int)-1).toNat=L.length-1:=by omega
    simp[-cB,hgx,afL,iZ];refine⟨by omega,?_⟩;refine av.bT [] aS (by kernel_rfl) (by rfl) ?_;simp[-cB,ajq,wN,afM,hgy,abz,hH];exact⟨iW,by omega,by omega,by omega⟩
def su(t:Tree)(x:Int):Bool:=
 !(decide (aH t.bn x≠0) &&!bU t.bn.length (aH t.bn x)) &&!(decide (aH t.bn x=0) && decide (aH t.gq x≠0)) && xh t x &&
   !(decide (aH t.bn x≠0)&&decide ((bw t (aH t.bn x)).count x≠1))&&!(bU t.bn.length (aH t.bn x)&&decide (x∈ik t (aH t.bn x)))
def po(t:Tree):Bool:=
 decide (t.bn.length≠0)&&decide (t.gn.length=t.bn.length)&&decide (t.gq.length=t.bn.length)&&decide (aH t.bn 0=0)&&decide (aH t.gn 0=0)&&decide (aH t.gq 0=0) &&
  (List.range (t.bn.length-1)).all λk=>su t (k+1)
set_option maxRecDepth 20000 in
set_option maxHeartbeats 4000000 in
theorem O0(w:aj)(hw:w.wf):Pure prog 52 [.agg (w.enc.map .d)] (oD (po w.tree)):=by
 have hl:=aj.fX hw;have e1:w.tree.bn=w.ah:=rfl;have e2:w.tree.gn=w.Child:=rfl;have e3:w.tree.gq=w.Next:=rfl;unfold po;rw[e1,e2,e3];have g1:=oB w.ah 0 (by omega);have g2:=oB w.Child 0 (by omega);have g3:=oB w.Next 0 (by omega);simp at g1 g2 g3;by_cases h1:w.ah.length=0
 ·refine Pure.run func52 rfl (by simp[f52,h1]) ?_;simp[-cB,f52,h1]
 have gA:w.ah≠ []:=λh=>h1 (by simp[h])
 by_cases h2:¬w.Child.length=w.ah.length
 ·have lG:¬((w.Child.length:Int)=w.ah.length):=by omega
  refine Pure.run func52 rfl (by simp[f52,h1,gA,h2,lG]) ?_;simp[-cB,f52,h1,gA,h2,lG]
 have h2:=aql.1 h2;by_cases h3:¬w.Next.length=w.ah.length
 ·have YL:¬((w.Next.length:Int)=w.ah.length):=by omega
  refine Pure.run func52 rfl (by simp[f52,h1,gA,h2,h3,YL]) ?_;simp[-cB,f52,h1,gA,h2,h3,YL]
 have h3:=aql.1 h3;have q1:=oC w.ah 0 (by omega) (by simp;omega);have q2:=oC w.Child 0 (by omega) (by simp;omega);have q3:=oC w.Next 0 (by omega) (by simp;omega);have iZ:0<w.ah.length:=by omega
 simp at q1 q2 q3;by_cases z1:¬aH w.ah 0=0
 ·refine Pure.run func52 rfl (by simp[f52,h1,gA,h2,h3,g1,g2,g3,q1,q2,q3,iZ,z1]) ?_;simp[-cB,f52,h1,gA,h2,h3,g1,g2,g3,q1,q2,q3,iZ,z1]
 have z1:=aql.1 z1;by_cases z2:¬aH w.Child 0=0
 ·refine Pure.run func52 rfl (by simp[f52,h1,gA,h2,h3,g1,g2,g3,q1,q2,q3,iZ,z1,z2]) ?_;simp[-cB,f52,h1,gA,h2,h3,g1,g2,g3,q1,q2,q3,iZ,z1,z2]
 have z2:=aql.1 z2;by_cases z3:¬aH w.Next 0=0
 ·have z3':(aH w.Next 0 !=0)=true:=by simpa using z3
  refine Pure.run func52 rfl (by simp[f52,h1,gA,h2,h3,g1,g2,g3,q1,q2,q3,iZ,z1,z2,z3,z3']) ?_;simp[-cB,f52,h1,gA,h2,h3,g1,g2,g3,q1,q2,q3,iZ,z1,z2,z3,z3']
 have z3:=aql.1 z3;simp only[h1,h2,h3,z1,z2,z3,ne_eq,not_false_eq_true,decide_true,ap1];generalize oE:((List.range (w.ah.length-1)).all λk=>su w.tree ((k:Int)+1))=res;refine Pure.run func52 rfl (by simp[f52,h1,gA,h2,h3,g1,g2,g3,q1,q2,q3,iZ,z1,z2,z3]) ?_;simp[-cB,f52,h1,gA,h2,h3,g1,g2,g3,q1,q2,q3,iZ,z1,z2,z3];intro bs;refine av.cJ [1,3,4] (w.ah.length-1) (λi=> [(4,iD (i+1))]) (λ_=> []) (λi=>∀k<i,su w.tree (k+1)=true) (by rfl) (by simp) ?_;intro i hi hH;rcases apg hi with au|Xf
 ·have a4:aM .i64 ((i:Int)+1+1):=iW;have hx:1<=(i:Int)+1/\(i:Int)+1<w.ah.length:=by omega
  have dF:(i:Int)+1<w.ah.length:=by omega
  have IK:=oB w.ah ((i:Int)+1) (by omega);have S5:=oB w.Next ((i:Int)+1) (by omega);have IL:=oC w.ah ((i:Int)+1) (by omega) (by omega);have S6:=oC w.Next ((i:Int)+1) (by omega) (by omega);have pW:((i:Int)+1).toNat=i+1:=by omega
  simp only[pW]at IK S5 IL S6;have IM:su w.tree ((i:Int)+1)=false->res=false:=λh=>by
   rw[<-oE,List.all_eq_false];exact⟨i,apS.2 au,by simp[h]⟩
  have oQ:su w.tree ((i:Int)+1)=true->∀k<i+1,su w.tree ((k:Int)+1)=true:=λh k hk=>by
   rcases apJ k i with h2|h2
   ·exact hH k h2
   ·rw[show k=i by omega];exact h
  have hN:su w.tree ((i:Int)+1)=(!(decide (aH w.ah ((i:Int)+1)≠0)&&!bU w.ah.length (aH w.ah ((i:Int)+1)))&&!(decide (aH w.ah ((i:Int)+1)=0)&&decide (aH w.Next ((i:Int)+1)≠0))&&xh w.tree ((i:Int)+1) &&
   !(decide (aH w.ah ((i:Int)+1)≠0)&&decide ((bw w.tree (aH w.ah ((i:Int)+1))).count ((i:Int)+1)≠1))&&!(bU w.ah.length (aH w.ah ((i:Int)+1))&&decide (((i:Int)+1)∈ik w.tree (aH w.ah ((i:Int)+1))))):=rfl
  have nF:=OZ w hw h2 h3 ((i:Int)+1) hx;have KO:=λp=>nM w hw p
  have tW:=λp=>mK w.tree p
  rw[e1]at tW;have rz:=λp=>F9 (bw w.tree p) (by have:=tW p;omega) ((i:Int)+1)
  have S7:=λp=>fZ w p
  have hcw:=λp=>OY w hw p ((i:Int)+1)
  simp[-cB,dF,IK,S5,IL,S6,h2,h3];generalize aH w.ah ((i:Int)+1)=p at *;generalize aH w.Next ((i:Int)+1)=nx at *;have O1:=KO p;have Vn:=rz p;have O2:=S7 p;have O3:=hcw p;generalize xh w.tree ((i:Int)+1)=lb at *;generalize bw w.tree p=kd at *;generalize bU w.ah.length p=ip at *;generalize decide (((i:Int)+1)∈ik w.tree p)=up at *;generalize su w.tree ((i:Int)+1)=nb at *;clear oE KO tW rz S7 hcw gA g1 g2 g3 q1 q2 q3 z1 z2 z3;by_cases mB:p=0<;>by_cases sW:nx=0
  all_goals refine⟨by omega,?_⟩
  all_goals try simp[-cB,mB,sW]
  all_goals try rw[mB]at O2
  all_goals try rw[mB]at O3
  all_goals try rw[mB]at O1
  all_goals try rw[mB]at IK IL
  all_goals try rw[sW]at S5 S6
  all_goals
   repeat' (first
    | (with_reducible refine And.intro ?_ ?_)
    | (refine aw (λh=>?_) (λh=>?_)<;>(try simp at h)<;>(try simp[-cB,h,mB,sW,a4,au,IK,S5,IL,S6,h2,h3]))
    | ((first|refine pC O2 ?_|refine pC nF ?_|refine pC O1 ?_|refine pC Vn ?_|refine pC O3 ?_|refine lC O2 ?_|refine lC nF ?_|refine lC O1 ?_|refine lC Vn ?_|refine lC O3 ?_|refine pG O2 ?_|refine pG nF ?_|refine pG O1 ?_|refine pG Vn ?_|refine pG O3 ?_)<;>(try simp[-cB,mB,sW,a4,au,IK,S5,IL,S6,h2,h3]))
    | (with_reducible intro _))
   all_goals clear O2 nF O1 Vn O3 IK S5 IL S6
   all_goals first|assumption|omega|(refine IM ?_;rw[hN];clear hN IM oQ hH;cases ip<;>cases lb<;>cases up<;>simp_all<;>omega)|(refine oQ ?_ _ (by assumption);rw[hN];clear hN IM oQ hH;cases ip<;>cases lb<;>cases up<;>simp_all<;>omega)|skip
 ·subst Xf;have bS:∀k,k<w.ah.length-1->su w.tree ((k:Int)+1)=true:=hH;have CP:¬(((w.ah.length-1:Nat):Int)+1<w.ah.length):=by omega
  have hr:res=true:=by rw[<-oE,apd];exact λk hk=>bS k (apS.1 hk)
  simp[-cB,CP,hr]
def Fc:Option gY->gY->Bool
 | none,_=>true
 | some p,w=>decide (p.AI<w.AI)
def wP(t:aq)(n:Int):Bool:=(t.az[n.toNat]?.getD bg.zero).Room
def Vo(t:aq)(prev:Option gY)(w:gY):Bool:=
 bB w.AI 1 12&&Fc prev w&&gV t w.To&&wP t w.To&&ox t w.jf true&&pV t w.bW true
def mL(t:aq):Option gY->List gY->Bool
 | _,[]=>true
 | p,w::l=>Vo t p w&&mL t (some w) l
def M1(t:aq)(l:List gY):Bool:=mL t none l
theorem LA(t:aq)(l r:List gY)(p:Option gY):mL t p (l++r)=(mL t p l&&mL t (l.getLast?.or p) r):=by
 induction l generalizing p with
 | nil=>simp[mL]
 | cons w l ih=>
   rw[apm,mL,mL,ih,ary];cases hl:l.getLast? with
   | none=>have:l=[]:=by simpa using hl
           subst this;simp
   | some q=>simp[arv,hl]
set_option maxRecDepth 20000 in
theorem Bu(t:aq)(ht:t.wf)(l:List gY)(hl:l.length<=1000000000000000)(hw:∀x∈l,x.wf):Pure prog 174 [.agg (t.enc.map .d),.d (.sl (l.map gY.enc))] (oD (M1 t l)):=by
 have hlen:t.az.length<=2000000000000:=by have:=ht;simp[aq.wf]at this;omega
 unfold M1;refine rn func174 ?_;simp[f174]
 try intro(_:Nat->Nat)
 refine av.fh [1,2,5] l (λpre=> [(5,iD pre.length)]) (λ_=> []) (λpre=>mL t none pre=true) (by rfl) (by omega) (by simp[mL]) ?_ ?_
 ·rintro pre x post bu hH au bm a4;have bS:mL t none l=(Vo t pre.getLast? x&&mL t (some x) post):=by
   rw[bu,LA,hH,mL];simp
  have dH:mL t none (pre++ [x])=Vo t pre.getLast? x:=by rw[LA,hH,mL,mL];simp
  have hx:=hw x (by rw[bu];simp);have IN:∀i:Nat,i+1=pre.length->l[i]?=pre.getLast?:=by
   intro i hi;rw[bu,apQ (by omega),arn];congr 1;omega
  have hT:gV t x.To=true->(1<=x.To/\x.To.toNat<t.az.length):=by
   intro h;unfold gV at h;rw[zm]at h;omega
  have Cu:Vo t pre.getLast? x=(bB x.AI 1 12&&Fc pre.getLast? x&&gV t x.To&&wP t x.To&&ox t x.jf true&&pV t x.bW true):=rfl;rw[Cu]at bS dH;clear hw bu;simp[-cB, *,-IN,-hT,-bS,-dH];refine av.bT [oD (bB x.AI 1 12),oD (gV t x.To),oD (ox t x.jf true),oD (pV t x.bW true)] aS (by kernel_rfl) (by rfl) ?_;simp[-cB, *,-IN,-hT,(bh _ _ _).ok,(jQ t ht _).ok,(oV t ht _ _).ok,(mI t ht _ _).ok];have hP:(0<pre.length->(l[pre.length-1]?.getD gY.zero).AI<x.AI)↔Fc pre.getLast? x=true:=by
   cases hg:pre.getLast? with
   | none=>have:pre=[]:=by simpa using hg
           subst this;simp[Fc]
   | some p=>
     have bR:0<pre.length:=by
      cases pre with
      | nil=>simp at hg
      | cons _ _=>simp
     rw[IN (pre.length-1) (by omega),hg];simp[bR,Fc]
  have hR:(t.az[x.To.toNat]?.getD bg.zero).Room=wP t x.To:=rfl;have CP:pre=[]↔¬0<pre.length:=by cases pre<;>simp
  rw[hR,CP];generalize bB x.AI 1 12=b1 at *;generalize gV t x.To=b2 at *;generalize ox t x.jf true=b3 at *;generalize pV t x.bW true=b4 at *;generalize mL t (some x) post=b5 at *;generalize wP t x.To=b6 at *;generalize Fc pre.getLast? x=b7 at *;generalize (l[pre.length-1]?.getD gY.zero).AI=d at *;have hi:0<pre.length->aM IntKind.i64 ((pre.length:Int)-1):=λh=>iW
  rcases Nat.eq_zero_or_pos pre.length with hz|hz
  ·have hb7:b7=true:=hP.1 (λh=>by omega);clear hP IN CP;cases b1<;>simp[hz,dH,bS,hb7,a4]
   cases b2<;>simp
   obtain⟨k1,k2⟩:=hT rfl;cases b6<;>simp[k2,show 0<=x.To by omega]
   cases b3<;>simp
   cases b4<;>simp[a4,dH,bS,hb7]
   rw[aU];omega
  ·have hP':d<x.AI↔b7=true:=⟨λh=>hP.1 (λ_=>h),λh=>hP.2 h hz⟩
   have cm:=hi hz;clear hP IN CP hi;have hle:1<=(pre.length:Int)/\pre.length-1<l.length:=by omega
   cases b1<;>simp[hz,dH,bS,a4,cm,hle,hP']
   cases b7<;>simp
   cases b2<;>simp
   obtain⟨k1,k2⟩:=hT rfl;cases b6<;>simp[k2,show 0<=x.To by omega]
   cases b3<;>simp
   cases b4<;>simp[a4,dH,bS]
   intro h;have:=hP'.2 rfl;omega
 ·intro hH;simp[*]
def bx(t:aq)(n:Int):bg:=t.az[n.toNat]?.getD bg.zero
def Hc(t:aq):Prop:=∀x∈t.az,0<=x.ah/\x.ah<t.az.length
def Bv(t:aq):Nat->Int->Bool
 | 0,_=>false
 | k+1,x=>if x=0 then true else Bv t k (bx t x).ah
def Bw(t:aq)(x:Int):Bool:=Bv t t.az.length x
theorem vl{t:aq}{n:Int}(h:0<=n/\n<t.az.length):t.az[n.toNat]?=some (bx t n):=by
 unfold bx;rw[akC (by omega)];simp
theorem tX{t:aq}{n:Int}(h:0<=n/\n<t.az.length):t.az[n.toNat]'(by omega)=bx t n:=by
 have:=vl h
 rwa[akC (by omega),anc]at this
theorem RI{t:aq}{n:Int}(h:0<=n/\n<t.az.length):bx t n∈t.az:=ape (vl h)
def nX(t:aq):Nat->Int->Int
 | 0,x=>x
 | k+1,x=>nX t k (bx t x).ah
theorem O4(t:aq)(k:Nat)(x:Int):nX t (k+1) x=(bx t (nX t k x)).ah:=by
 induction k generalizing x with
 | zero=>rfl
 | succ k ih=>rw[nX,ih];rfl
theorem afN{t:aq}(hp:Hc t)(k:Nat)(x:Int)(hx:0<=x/\x<t.az.length):0<=nX t k x/\nX t k x<t.az.length:=by
 induction k generalizing x with
 | zero=>exact hx
 | succ k ih=>exact ih _ (hp _ (RI hx))
theorem O5(t:aq):∀(i k:Nat) (x:Int),(∀j<i,nX t j x≠0)->Bv t (i+k) x=Bv t k (nX t i x)
 | 0,k,x,_=>by rw[ap2];rfl
 | i+1,k,x,h=>by
   rw[show i+1+k=(i+k)+1 by omega,Bv,if_neg (show x≠0 from h 0 (by omega)),nX,<-O5 t i k];exact λj hj=>h (j+1) (by omega)
theorem Vp(t:aq)(ht:t.wf)(hp:Hc t)(x:Int)(hx:0<=x/\x<t.az.length):Pure prog 175 [.agg (t.enc.map .d),iD x] (oD (Bw t x)):=by
 have hlen:t.az.length<=2000000000000:=by have:=ht;simp[aq.wf]at this;omega
 refine rn func175 ?_;simp[f175]
 try intro(_:Nat->Nat)
 refine av.cJ [1,2,5] t.az.length (λi=> [(1,iD (nX t i x)),(5,iD i)]) (λ_=> []) (λi=>∀j<i,nX t j x≠0) (by rfl) (by simp[nX]) ?_;intro i hi hH;have hu:=afN hp i x hx;have hs:=O4 t i x;have he:=O5 t i (t.az.length-i) x hH;rw[show i+(t.az.length-i)=t.az.length by omega]at he;have jT:=tX hu;have hs':=hs.symm;rcases apg hi with au|rfl
 ·have a4:aM .i64 ((i:Int)+1):=iW;unfold Bw;rw[show t.az.length-i=(t.az.length-(i+1))+1 by omega,Bv,<-hs]at he;clear hs;simp[-cB, *]
  repeat' (first
   | (with_reducible refine And.intro ?_ ?_)
   | ((first|(refine aw (λh=>?_) (λh=>?_)<;>(try simp at h))|refine pC (js _) ?_|refine lC (js _) ?_|refine pG (js _) ?_)<;>(try simp[-cB, *]))
   | (with_reducible intro _))
  all_goals (first|assumption|omega|(rw[aU];omega)|(simp_all;done)|grind|skip)
 ·rw[Nat.sub_self]at he;unfold Bw;simp[he,Bv]
def Bx(t:aq):Nat->Int->Bool
 | 0,_=>false
 | k+1,x=>if gV t x then(if wP t x then true else Bx t k (bx t x).ah)else false
def Kg(t:aq)(x:Int):Bool:=Bx t t.az.length x
theorem O6(t:aq):∀(i k:Nat) (x:Int),(∀j<i,gV t (nX t j x)=true/\wP t (nX t j x)=false)->Bx t (i+k) x=Bx t k (nX t i x)
 | 0,k,x,_=>by rw[ap2];rfl
 | i+1,k,x,h=>by
   have h0:gV t x=true/\wP t x=false:=h 0 (by omega);rw[show i+1+k=(i+k)+1 by omega,Bx,if_pos h0.1,h0.2,if_neg (by simp),nX,<-O6 t i k];exact λj hj=>h (j+1) (by omega)
theorem Bz(t:aq)(ht:t.wf)(x:Int):Pure prog 176 [.agg (t.enc.map .d),iD x] (oD (Kg t x)):=by
 have hlen:t.az.length<=2000000000000:=by have:=ht;simp[aq.wf]at this;omega
 refine rn func176 ?_;simp[f176]
 try intro(_:Nat->Nat)
 refine av.cJ [1,2,5] t.az.length (λi=> [(1,iD (nX t i x)),(5,iD i)]) (λ_=> []) (λi=>∀j<i,gV t (nX t j x)=true/\wP t (nX t j x)=false) (by rfl) (by simp[nX]) ?_;intro i hi hH;have hs':=(O4 t i x).symm;have he:=O6 t i (t.az.length-i) x hH;rw[show i+(t.az.length-i)=t.az.length by omega]at he;unfold Kg;have hT:gV t (nX t i x)=true->0<=nX t i x/\nX t i x<t.az.length:=by
  unfold gV;rw[zm];omega
 have hR:(bx t (nX t i x)).Room=wP t (nX t i x):=rfl;rcases apg hi with au|rfl
 ·have a4:aM .i64 ((i:Int)+1):=iW;rw[show t.az.length-i=(t.az.length-(i+1))+1 by omega,Bx,hs']at he;simp[-cB, *,-hT];refine pG (jQ t ht _) ?_;generalize hb:gV t (nX t i x)=b at *;cases b with
  | false=>
    simp[-cB,he]
  | true=>
    have hu:=hT rfl;have jT:=tX hu;simp[-cB, *]
    repeat' (first
     | (with_reducible refine And.intro ?_ ?_)
     | ((first|(refine aw (λh=>?_) (λh=>?_)<;>(try simp at h))|refine pC (js _) ?_|refine lC (js _) ?_|refine pG (js _) ?_)<;>(try simp[-cB, *]))
     | (with_reducible intro _))
    all_goals (first|assumption|omega|(rw[aU];omega)|(simp_all;done)|grind|skip)
 ·rw[Nat.sub_self]at he;simp[-cB,he,Bx];refine pG (jQ t ht _) ?_;simp
def xk(t:aq)(x:bg):Bool:=
 pV t x.kx false&&pV t x.Text true&&bB x.Flags 0 (kX t.Flags-1)&&decide (x.aJ.length=t.aJ.length)&&cD gP x.aJ&&sa x.Words 8&&sa x.uZ 8 &&
 (decide (x.ah=0)||gV t x.ah)&&(!x.Room||decide (x.ah=0))&&(x.Room||decide (x.mr.length=0))&&M1 t x.mr
def Fe(t:aq):Bool:=
 bB t.az.length 3 128&&sJ t (bx t 0)&&!(bx t 1).Room&&cD (xk t) (t.az.drop 1)&&cD (λ(i:Nat)=>Bw t ((i:Int)+1)) (List.range (t.az.length-1))&&Kg t 1
theorem A8(n:Int):1<=kX n/\kX n<=65536:=by
 unfold kX;generalize hm:min n.toNat 16=i;have lj:i<=16:=by omega
 have e:(2:Int)^i=((2^i:Nat):Int):=by simp
 have:=ap7 (n:=2) (by decide) lj;have:=Nat.pow_pos (a:=2) (n:=i) (by decide);rw[e];omega
set_option maxRecDepth 20000 in
theorem yf(t:aq)(ht:t.wf):Pure prog 120 [.agg (t.enc.map .d)] (oD (Fe t)):=by
 have hlen:t.az.length<=2000000000000:=by have:=ht;simp[aq.wf]at this;omega
 have uF:=aq.Ll ht;unfold Fe;refine rn func120 ?_;simp[f120]
 try intro(_:Nat->Nat)
 refine av.bT [oD (bB t.az.length 3 128),oD (sJ t (bx t 0))] aS (by kernel_rfl) (by rfl) ?_;have h0:bx t 0=t.az[0]?.getD bg.zero:=rfl;have hz:(bx t 0).wf:=by
  rw[h0];cases h:t.az[0]? with
  | none=>simp[bg.wf,bg.zero,aU]
  | some x=>exact uF x (ape h)
 simp[-cB,(bh _ _ _).ok,<-h0,(MJ t ht _ hz).ok];have hN:bB t.az.length 3 128=true->3<=t.az.length/\t.az.length<=128:=by rw[zm];omega
 generalize bB t.az.length 3 128=p1 at *;cases p1<;>simp[-cB,hN]
 obtain⟨hN1,YM⟩:=hN rfl;clear hN;have hR1:sJ t (bx t 0)=true->(bx t 0).ah=0:=by
  intro h;simp[sJ]at h;exact h.1.1.1.1.1.2
 generalize sJ t (bx t 0)=p2 at *;cases p2<;>simp[-cB,show 0<t.az.length by omega,show 1<t.az.length by omega]
 have h1:bx t 1=t.az[1]?.getD bg.zero:=rfl;have gA:t.az[1]'(by omega)=bx t 1:=by rw[h1,akC (by omega)];simp
 rw[gA];generalize (bx t 1).Room=p3 at *;cases p3<;>simp[-cB]
 generalize hl:t.az.tail=l at *;have Lx:l.length+1=t.az.length:=by rw[<-hl];simp;omega
 have hlg:∀(k:Nat) (h:k<l.length),t.az[k+1]'(by omega)=l[k]:=by intro k h;subst hl;simp
 refine av.fh [1,3] l (λpre=> [(3,iD ((pre.length:Int)+1))]) (λ_=> []) (λpre=>cD (xk t) pre=true) (by rfl) (by omega) (by simp[gZ]) ?_ ?_
 ·rintro pre x post bu hH au bm a4;have bS:=eR bu hH;have dH:cD (xk t) (pre++ [x])=xk t x:=by simp[fY,hH]
  have Kh:=hlg _ au;rw[bm]at Kh;have uI:x.wf:=uF x (by rw[<-Kh];exact apk _);have c1:(pre.length:Int)+1<t.az.length:=by omega
  have c2:pre.length+1<t.az.length:=by omega
  have tV:=A8 t.Flags;have aN:xk t x=(pV t x.kx false&&pV t x.Text true&&bB x.Flags 0 (kX t.Flags-1)&&decide (x.aJ.length=t.aJ.length)&&cD gP x.aJ&&sa x.Words 8&&sa x.uZ 8 &&
   (decide (x.ah=0)||gV t x.ah)&&(!x.Room||decide (x.ah=0))&&(x.Room||decide (x.mr.length=0))&&M1 t x.mr):=rfl
  clear uF bu hlg bm hN1 YM h0 h1 gA hz;have c0:0<=(pre.length:Int)+1:=by omega
  simp[-cB,c0,c1,c2,Kh,bS]
  try intro(_:Nat->Nat)
  refine av.bT [oD (pV t x.kx false),oD (pV t x.Text true),iD (kX t.Flags),oD (bB x.Flags 0 (kX t.Flags-1)),oD (cD gP x.aJ),oD (sa x.Words 8),oD (sa x.uZ 8)] aS (by kernel_rfl) (by rfl) ?_;simp[-cB,(mI t ht _ _).ok,(IJ _).ok,(bh _ _ _).ok,(jg x.aJ (by have:=bg.ou uI;omega)).ok,(zU x.Words (by have:=bg.G1 uI;omega) (λy hy=>by have:=bg.G2 uI y hy;omega) _).ok,(zU x.uZ (by have:=bg.ad0 uI;omega) (λy hy=>by have:=bg.ad1 uI y hy;omega) _).ok];refine⟨λh h'=>⟨iW,h,h'⟩,?_⟩;refine aw (λh=>?_) (λh=>?_)
  ·simp[-cB];simp at h
   all_goals (first|assumption|omega|(rw[aU];omega)|(simp_all;done)|grind|skip)
  ·simp[-cB];simp at h
   repeat' (first
    | (with_reducible refine And.intro ?_ ?_)
    | ((first|(refine aw (λh=>?_) (λh=>?_)<;>(try simp at h))|refine pC (jQ t ht _) ?_|refine ay.bC rfl (Bu t ht x.mr (by have:=bg.E4 uI;omega) (bg.J5 uI)) rfl rfl (by simp) rfl ?_|refine lC (jQ t ht _) ?_|refine ay.IB rfl (Bu t ht x.mr (by have:=bg.E4 uI;omega) (bg.J5 uI)) rfl (by simp) rfl rfl (by simp) rfl ?_|refine pG (jQ t ht _) ?_|refine ay.ss rfl (λh=>Bu t ht x.mr (by have:=bg.E4 uI;omega) (bg.J5 uI)) rfl (by first|rfl|(simp;rfl)) (by simp) (by simp) rfl ?_)<;>(try simp[-cB, *]))
    | (with_reducible intro _))
   all_goals (first|assumption|omega|(rw[aU];omega)|(simp_all;done)|grind|skip)
 ·intro hH;have oe:Hc t:=by
   intro x hx;obtain⟨k,hk,rfl⟩:=aqF hx;cases k with
   | zero=>
     have:=hR1 rfl;rw[h0,akC hk]at this;simp only[ap3]at this;rw[this];omega
   | succ k=>
     rw[hlg k (by omega)];have:=aby.1 hH l[k] (apk _);simp[xk,gV,bB]at this;omega
  clear uF h0 hz hR1 h1 gA hlg;have c9:¬((l.length:Int)+1<t.az.length):=by omega
  simp[-cB,c9,hH];refine av.fh [1,5] (List.range (t.az.length-1)) (λpre=> [(5,iD ((pre.length:Int)+1))]) (λ_=> []) (λpre=>cD (λ(i:Nat)=>Bw t ((i:Int)+1)) pre=true) (by rfl) (by simp;omega) (by simp[gZ]) ?_ ?_
  ·rintro pre x post bu jY au bm a4;have bS:=eR bu jY;have hx:pre.length=x:=by simpa using bm
   have dH:cD (λ(i:Nat)=>Bw t ((i:Int)+1)) (pre++ [x])=Bw t ((x:Int)+1):=by simp[fY,jY]
   simp at au;subst hx;have c1:(pre.length:Int)+1<t.az.length:=by omega
   have hE:=Vp t ht oe ((pre.length:Int)+1) (by omega);clear bu bm;simp[-cB,c1,bS]
   repeat' (first
    | (with_reducible refine And.intro ?_ ?_)
    | ((first|(refine aw (λh=>?_) (λh=>?_)<;>(try simp at h))|refine pC hE ?_|refine lC hE ?_|refine pG hE ?_)<;>(try simp[-cB, *]))
    | (with_reducible intro _))
   all_goals (first|assumption|omega|(rw[aU];omega)|(simp_all;done)|grind|skip)
  ·intro jY;have c1:¬(((t.az.length-1:Nat):Int)+1<t.az.length):=by omega
   simp[-cB,c1,jY]
   repeat' (first
    | (with_reducible refine And.intro ?_ ?_)
    | ((first|(refine aw (λh=>?_) (λh=>?_)<;>(try simp at h))|refine pC (Bz t ht 1) ?_|refine lC (Bz t ht 1) ?_|refine pG (Bz t ht 1) ?_)<;>(try simp[-cB, *]))
    | (with_reducible intro _))
def yg(t:aq)(i:Nat):Bool:=bB (t.Params[i]?.getD 0) 0 8&&bB (t.aL[i]?.getD 0) (t.Params[i]?.getD 0) 24
def IP(t:aq):Bool:=
 decide (t.fP.length<=4096)&&pV t t.kx false&&pV t t.By false&&bB t.pg 0 32767&&bB t.Max 0 32767&&bB t.Flags 4 16 &&
 (decide (t.aJ.length<=16)&&decide (t.aP.length<=64)&&cD gP t.aJ&&cD gP t.aP&&decide (t.Params.length=t.aL.length)&&decide (t.Params.length<=2048)) &&
 cD u3 t.fP&&cD (yg t) (List.range t.Params.length)
set_option maxRecDepth 20000 in
theorem BA(t:aq)(ht:t.wf):Pure prog 119 [.agg (t.enc.map .d)] (oD (IP t)):=by
 have iR:=aq.OJ ht;have Cr:=aq.ou ht;have rF:=aq.ow ht;have YN:=aq.zk ht;have Cv:=aq.Yv ht;have IQ:=aq.abh ht;unfold IP;refine rn func119 ?_;simp[-cB,f119]
 repeat' (first
  | (with_reducible refine And.intro ?_ ?_)
  | ((first|(refine aw (λh=>?_) (λh=>?_)<;>(try simp at h))|refine pC (mI t ht _ _) ?_|refine pC (bh _ _ _) ?_|refine ay.bC rfl (jg t.aJ (by omega)) rfl rfl (by simp) rfl ?_|refine ay.bC rfl (jg t.aP (by omega)) rfl rfl (by simp) rfl ?_|refine lC (mI t ht _ _) ?_|refine lC (bh _ _ _) ?_|refine ay.IB rfl (jg t.aJ (by omega)) rfl (by simp) rfl rfl (by simp) rfl ?_|refine ay.IB rfl (jg t.aP (by omega)) rfl (by simp) rfl rfl (by simp) rfl ?_|refine pG (mI t ht _ _) ?_|refine pG (bh _ _ _) ?_|refine ay.ss rfl (λh=>jg t.aJ (by omega)) rfl (by first|rfl|(simp;rfl)) (by simp) (by simp) rfl ?_|refine ay.ss rfl (λh=>jg t.aP (by omega)) rfl (by first|rfl|(simp;rfl)) (by simp) (by simp) rfl ?_)<;>(try simp[-cB, *]))
  | (with_reducible intro _))
 all_goals (first|assumption|omega|(rw[aU];omega)|(simp_all;done)|grind|skip)
 have e1:t.fP.length<=4096:=by omega
 have e2:t.aJ.length<=16:=by omega
 have e3:t.aP.length<=64:=by omega
 have e4:t.Params.length=t.aL.length:=by omega
 have e5:t.Params.length<=2048:=by omega
 refine av.fh [1,3] t.fP (λpre=> [(3,iD pre.length)]) (λ_=> []) (λpre=>cD u3 pre=true) (by rfl) (by omega) (by simp[gZ]) ?_ ?_
 ·rintro pre x post bu hH au bm a4;have bS:=eR bu hH;have dH:cD u3 (pre++ [x])=u3 x:=by simp[fY,hH]
  have hT:=OU x (by have:=IQ x (by rw[bu];simp);omega);clear bu IQ;simp[-cB,au,bm,bS,a4]
  repeat' (first
   | (with_reducible refine And.intro ?_ ?_)
   | ((first|(refine aw (λh=>?_) (λh=>?_)<;>(try simp at h))|refine pC hT ?_|refine lC hT ?_|refine pG hT ?_)<;>(try simp[-cB, *]))
   | (with_reducible intro _))
  all_goals (first|assumption|omega|(rw[aU];omega)|(simp_all;done)|grind|skip)
 ·intro hH;simp[-cB,hH];refine av.fh [1,4] (List.range t.Params.length) (λpre=> [(4,iD pre.length)]) (λ_=> []) (λpre=>cD (yg t) pre=true) (by rfl) (by simp;omega) (by simp[gZ]) ?_ ?_
  ·rintro pre x post bu jY au bm a4;have bS:=eR bu jY;have hx:pre.length=x:=by simpa using bm
   simp at au;subst hx;have dH:cD (yg t) (pre++ [pre.length])=yg t pre.length:=by rw[fY,jY];simp
   have nN:pre.length<t.aL.length:=by omega
   have hpx:yg t pre.length=(bB t.Params[pre.length] 0 8&&bB t.aL[pre.length] t.Params[pre.length] 24):=by simp[yg,au,nN]
   clear bu bm;simp[-cB,au,nN,bS];refine av.bT [oD (bB (t.Params[pre.length]?.getD 0) 0 8),oD (bB (t.aL[pre.length]?.getD 0) (t.Params[pre.length]?.getD 0) 24)] aS (by kernel_rfl) (by rfl) ?_;simp[-cB,au,nN,(bh _ _ _).ok];refine aw (λh=>?_) (λh=>?_)
   ·simp[-cB];simp at h
    all_goals (first|assumption|omega|(rw[aU];omega)|(simp_all;done)|grind|skip)
   ·simp[-cB];simp at h
    all_goals (first|assumption|omega|(rw[aU];omega)|(simp_all;done)|grind|skip)
  ·intro jY;simp[-cB,jY]
   all_goals (first|assumption|omega|(rw[aU];omega)|(simp_all;done)|grind|skip)
def IS(s:dv):Bool:=bB s.Kind 1 5&&!(decide (s.Kind=1)&&decide (s.Words.length=0))&&!(decide (s.Kind≠1)&&decide (0<s.Words.length))&&sa s.Words 4
def zw(s:dv):Bool:=decide (s.Kind=2)||decide (s.Kind=3)
def BC(l:List dv):Bool:=
 cD IS l&&(bB l.length 1 8&&(decide ((l[0]?.getD dv.zero).Kind=1)||decide ((l[0]?.getD dv.zero).Kind=5))&&decide ((l.countP zw:Int)<=2)&&decide ((l.countP (λs=>decide (s.Kind=4)):Int)<=1)&&decide ((l.countP (λs=>decide (s.Kind=5)):Int)<=1))
set_option maxRecDepth 20000 in
theorem Vq(l:List dv)(hl:l.length<=1000000000000000)(hw:∀x∈l,x.wf):Pure prog 177 [.d (.sl (l.map dv.enc))] (oD (BC l)):=by
 unfold BC;refine rn func177 ?_;simp[-cB,f177];refine av.fh [0,3,4,5,6] l (λpre=> [(3,iD (pre.countP zw)),(4,iD (pre.countP (λs=>decide (s.Kind=4)))),(5,iD (pre.countP (λs=>decide (s.Kind=5)))),(6,iD pre.length)]) (λ_=> []) (λpre=>cD IS pre=true) (by rfl) (by omega) (by simp[gZ]) ?_ ?_
 ·rintro pre x post bu hH au bm a4;have bS:=eR bu hH;have dH:cD IS (pre++ [x])=IS x:=by simp[fY,hH]
  have uI:=hw x (by rw[bu];simp);have c1:=List.countP_le_length (p:=zw) (l:=pre);have c2:=List.countP_le_length (p:=λs:dv=>decide (s.Kind=4)) (l:=pre);have c3:=List.countP_le_length (p:=λs:dv=>decide (s.Kind=5)) (l:=pre);have Am:(pre++ [x]).countP zw=pre.countP zw+(if zw x then 1 else 0):=by rw[aqK];simp[aqW]
  have Cm:(pre++ [x]).countP (λs:dv=>decide (s.Kind=4))=pre.countP (λs:dv=>decide (s.Kind=4))+(if x.Kind=4 then 1 else 0):=by rw[aqK];simp[aqW]
  have hn3:(pre++ [x]).countP (λs:dv=>decide (s.Kind=5))=pre.countP (λs:dv=>decide (s.Kind=5))+(if x.Kind=5 then 1 else 0):=by rw[aqK];simp[aqW]
  have hW:=zU x.Words (by have:=dv.G1 uI;omega) (λy hy=>by have:=dv.G2 uI y hy;omega) 4;have Sr:IS x=(bB x.Kind 1 5&&!(decide (x.Kind=1)&&decide (x.Words.length=0))&&!(decide (x.Kind≠1)&&decide (0<x.Words.length))&&sa x.Words 4):=rfl;have sW:zw x=(decide (x.Kind=2)||decide (x.Kind=3)):=rfl;generalize kj:pre.countP zw=k1 at *;generalize rP:pre.countP (λs:dv=>decide (s.Kind=4))=k2 at *;generalize FX:pre.countP (λs:dv=>decide (s.Kind=5))=k3 at *;clear bu hw kj rP FX;simp[-cB,au,bm,bS,a4]
  repeat' (first
   | (with_reducible refine And.intro ?_ ?_)
   | ((first|(refine aw (λh=>?_) (λh=>?_)<;>(try simp at h))|refine pC (bh _ _ _) ?_|refine pC hW ?_|refine lC (bh _ _ _) ?_|refine lC hW ?_|refine pG (bh _ _ _) ?_|refine pG hW ?_)<;>(try simp[-cB, *]))
   | (with_reducible intro _))
  all_goals (first|assumption|omega|(rw[aU];omega)|(simp_all;done)|grind|skip)
 ·intro hH;have hF:bB l.length 1 8=true->0<l.length:=by rw[zm];omega
  simp[-cB,hH]
  repeat' (first
   | (with_reducible refine And.intro ?_ ?_)
   | ((first|(refine aw (λh=>?_) (λh=>?_)<;>(try simp at h))|refine pC (bh _ _ _) ?_|refine lC (bh _ _ _) ?_|refine pG (bh _ _ _) ?_)<;>(try simp[-cB, *]))
   | (with_reducible intro _))
  all_goals first|assumption|exact hF (by assumption)
def O7(a:la):Bool:=bB a.tU.length 1 8&&cD BC a.tU
def IT(t:aq)(d:lT):Bool:=
 bB d.OI 0 (t.sG.length-1)&&bB d.Phase 1 3&&(decide (d.qn= -1)||gV t d.qn)&&(decide (d.Second= -1)||gV t d.Second)&&ox t d.jf true&&ox t d.Body false
def DI(t:aq):Bool:=
 (decide (t.sG.length<=64)&&decide (t.mG.length<=512)&&decide (t.cV.length<=64)&&decide (t.eA.length<=16)) &&
 (cD O7 t.sG&&(cD (IT t) t.mG&&(cD (λn=>bB n 0 (t.Params.length-1)) t.cV&&cD (λn=>ox t n false) t.eA)))
set_option maxHeartbeats 1000000 in
set_option maxRecDepth 20000 in
theorem zX(t:aq)(ht:t.wf):Pure prog 121 [.agg (t.enc.map .d)] (oD (DI t)):=by
 have iR:=aq.ad9 ht;have Cr:=aq.G4 ht;have rF:=aq.G5 ht;have YN:=aq.Bq ht;have Cv:=aq.zk ht;have IQ:=aq.aea ht;have YO:=aq.abi ht;unfold DI;refine rn func121 ?_;simp[-cB,f121]
 repeat' (first
  | (with_reducible refine And.intro ?_ ?_)
  | ((first|(refine aw (λh=>?_) (λh=>?_)<;>(try simp at h))|refine pC (mI t ht _ _) ?_|refine lC (mI t ht _ _) ?_|refine pG (mI t ht _ _) ?_)<;>(try simp[-cB, *]))
  | (with_reducible intro _))
 all_goals (first|assumption|omega|(rw[aU];omega)|(simp_all;done)|grind|skip)
 have e1:t.sG.length<=64:=by omega
 have e2:t.mG.length<=512:=by omega
 have e3:t.cV.length<=64:=by omega
 have e4:t.eA.length<=16:=by omega
 refine av.fh [1,3] t.sG (λpre=> [(3,iD pre.length)]) (λ_=> []) (λpre=>cD O7 pre=true) (by rfl) (by omega) (by simp[gZ]) ?_ ?_
 ·rintro pre x post bu hH au bm a4;have bS:=eR bu hH;have dH:cD O7 (pre++ [x])=O7 x:=by simp[fY,hH]
  have uI:=IQ x (by rw[bu];simp);have hax:O7 x=(bB x.tU.length 1 8&&cD BC x.tU):=rfl;clear bu IQ YO;simp[-cB,au,bm,bS,a4]
  repeat' (first
   | (with_reducible refine And.intro ?_ ?_)
   | ((first|(refine aw (λh=>?_) (λh=>?_)<;>(try simp at h))|refine pC (bh _ _ _) ?_|refine lC (bh _ _ _) ?_|refine pG (bh _ _ _) ?_)<;>(try simp[-cB, *]))
   | (with_reducible intro _))
  all_goals (first|assumption|omega|(rw[aU];omega)|(simp_all;done)|grind|skip)
  refine av.fh [1,3,4] x.tU (λpre=> [(4,iD pre.length)]) (λ_=> []) (λpre=>cD BC pre=true) (by rfl) (by have:=la.abf uI;omega) (by simp[gZ]) ?_ ?_
  ·rintro ajr y ami bu jY nN sI a5;have EZ:=eR bu jY;have afO:cD BC (ajr++ [y])=BC y:=by simp[fY,jY]
   have O8:=la.abg uI y (by rw[bu];simp);have hL:=Vq y (by omega) O8.2;clear bu;simp[-cB,au,bm,nN,sI,EZ,a4,a5]
   repeat' (first
    | (with_reducible refine And.intro ?_ ?_)
    | ((first|(refine aw (λh=>?_) (λh=>?_)<;>(try simp at h))|refine pC hL ?_|refine lC hL ?_|refine pG hL ?_)<;>(try simp[-cB, *]))
    | (with_reducible intro _))
   all_goals (first|assumption|omega|(rw[aU];omega)|(simp_all;done)|grind|skip)
  ·intro jY;simp[-cB,au,bm,jY]
   repeat' (first
    | (with_reducible refine And.intro ?_ ?_)
    | ((first|(refine aw (λh=>?_) (λh=>?_)<;>(try simp at h))|refine pC (bh _ _ _) ?_|refine lC (bh _ _ _) ?_|refine pG (bh _ _ _) ?_)<;>(try simp[-cB, *]))
    | (with_reducible intro _))
   all_goals (first|assumption|omega|(rw[aU];omega)|(simp_all;done)|grind|skip)
 ·intro hH;simp[-cB,hH];refine av.fh [1,5] t.mG (λpre=> [(5,iD pre.length)]) (λ_=> []) (λpre=>cD (IT t) pre=true) (by rfl) (by omega) (by simp[gZ]) ?_ ?_
  ·rintro pre x post bu jY au bm a4;have bS:=eR bu jY;have dH:cD (IT t) (pre++ [x])=IT t x:=by simp[fY,jY]
   have uI:=YO x (by rw[bu];simp);have hdx:IT t x=(bB x.OI 0 (t.sG.length-1)&&bB x.Phase 1 3&&(decide (x.qn= -1)||gV t x.qn)&&(decide (x.Second= -1)||gV t x.Second)&&ox t x.jf true&&ox t x.Body false):=rfl;clear bu IQ YO;simp[-cB,au,bm,bS,a4]
   repeat' (first
    | (with_reducible refine And.intro ?_ ?_)
    | ((first|(refine aw (λh=>?_) (λh=>?_)<;>(try simp at h))|refine pC (bh _ _ _) ?_|refine pC (jQ t ht _) ?_|refine pC (oV t ht _ _) ?_|refine lC (bh _ _ _) ?_|refine lC (jQ t ht _) ?_|refine lC (oV t ht _ _) ?_|refine pG (bh _ _ _) ?_|refine pG (jQ t ht _) ?_|refine pG (oV t ht _ _) ?_)<;>(try simp[-cB, *]))
    | (with_reducible intro _))
   all_goals (first|assumption|omega|(rw[aU];omega)|(simp_all;done)|grind|skip)
  ·intro jY;simp[-cB,jY];refine av.fh [1,7] t.cV (λpre=> [(7,iD pre.length)]) (λ_=> []) (λpre=>cD (λn=>bB n 0 (t.Params.length-1)) pre=true) (by rfl) (by omega) (by simp[gZ]) ?_ ?_
   ·rintro pre x post bu hH3 au bm a4;have bS:=eR bu hH3;have dH:cD (λn=>bB n 0 (t.Params.length-1)) (pre++ [x])=bB x 0 (t.Params.length-1):=by rw[fY,hH3];simp
    clear bu IQ YO;simp[-cB,au,bm,bS,a4];refine av.bT [oD (bB x 0 (t.Params.length-1))] aS (by kernel_rfl) (by rfl) ?_;simp[-cB,au,bm,(bh _ _ _).ok];refine⟨iW,?_⟩
    repeat' (first
     | (with_reducible refine And.intro ?_ ?_)
     | ((first|(refine aw (λh=>?_) (λh=>?_)<;>(try simp at h))|refine pC (bh _ _ _) ?_|refine lC (bh _ _ _) ?_|refine pG (bh _ _ _) ?_)<;>(try simp[-cB, *]))
     | (with_reducible intro _))
    all_goals (first|assumption|omega|(rw[aU];omega)|(simp_all;done)|grind|skip)
   ·intro hH3;simp[-cB,hH3];refine av.fh [1,8] t.eA (λpre=> [(8,iD pre.length)]) (λ_=> []) (λpre=>cD (λn=>ox t n false) pre=true) (by rfl) (by omega) (by simp[gZ]) ?_ ?_
    ·rintro pre x post bu hH4 au bm a4;have bS:=eR bu hH4;have dH:cD (λn=>ox t n false) (pre++ [x])=ox t x false:=by rw[fY,hH4];simp
     clear bu IQ YO;simp[-cB,au,bm,bS,a4];refine av.bT [oD (ox t x false)] aS (by kernel_rfl) (by rfl) ?_;simp[-cB,au,bm,(oV t ht _ _).ok]
     repeat' (first
      | (with_reducible refine And.intro ?_ ?_)
      | ((first|(refine aw (λh=>?_) (λh=>?_)<;>(try simp at h))|refine pC (bh _ _ _) ?_|refine lC (bh _ _ _) ?_|refine pG (bh _ _ _) ?_)<;>(try simp[-cB, *]))
      | (with_reducible intro _))
     all_goals (first|assumption|omega|(rw[aU];omega)|(simp_all;done)|grind|skip)
    ·intro hH4;simp[hH4,e1,e2,e3,e4]
def fD(t:aq):Bool:=IP t&&Fe t&&DI t
theorem Vr(t:aq)(ht:t.wf):Pure prog 59 [.agg (t.enc.map .d)] (oD (fD t)):=by
 unfold fD;refine rn func59 ?_;simp[-cB,f59]
 repeat' (first
  | (with_reducible refine And.intro ?_ ?_)
  | ((first|(refine aw (λh=>?_) (λh=>?_)<;>(try simp at h))|refine pC (BA t ht) ?_|refine pC (yf t ht) ?_|refine pC (zX t ht) ?_|refine lC (BA t ht) ?_|refine lC (yf t ht) ?_|refine lC (zX t ht) ?_|refine pG (BA t ht) ?_|refine pG (yf t ht) ?_|refine pG (zX t ht) ?_)<;>(try simp[-cB, *]))
  | (with_reducible intro _))
 all_goals (first|assumption|omega|(rw[aU];omega)|(simp_all;done)|grind|skip)
theorem LB(l:List Int)(hl:l.length<=1000000000000000)(lo hi:Int):Pure prog 54 [.d (.sl (aA l)),iD lo,iD hi] (oD (cD (λx=>bB x lo hi) l)):=by
 refine rn func54 ?_;simp[-cB,f54];refine av.fh [0,1,2,7] l (λpre=> [(7,iD pre.length)]) (λ_=> []) (λpre=>cD (λx=>bB x lo hi) pre=true) (by rfl) (by omega) (by simp[gZ]) ?_ ?_
 ·rintro pre x post bu hH au bm a4;have bS:=eR bu hH;have dH:=fY (λx=>bB x lo hi) pre x;rw[hH]at dH;clear bu;simp[-cB,au,bm];refine pC (bh _ _ _) ?_;simp[-cB];refine aw (λh=>?_) (λh=>?_)<;>simp at h<;>simp[-cB,h,au,bm,bS,dH,a4]
 ·intro hH;simp[-cB,hH]
def tq(t:aq)(w:aj):Bool:=(List.range (t.az.length-1)).all (λk=>!((bx t (k+1)).Room&&decide (aH w.ah (k+1)≠0)))&&(bx t (dj w.tree 1)).Room
theorem Ki(t:Tree)(x:Int)(h:0<t.bn.length):0<=dj t x/\dj t x<t.bn.length:=by
 unfold dj;cases hl:(ik t x).getLast? with
 | none=>simp[aqB,hl];omega
 | some y=>
   have:=mJ (arc hl);simp[aqB,hl];omega
theorem O9(t:aq)(ht:t.wf)(w:aj)(hw:w.wf)(hlen:w.ah.length=t.az.length)(iZ:0<t.az.length):Pure prog 58 [.agg (t.enc.map .d),.agg (w.enc.map .d)] (oD (tq t w)):=by
 have hl:=aj.fX hw;have vY:=(YK w hw 1).ok;have hb:=Ki w.tree 1 (by show 0<w.ah.length;omega);have e1:w.tree.bn=w.ah:=rfl;rw[e1]at hb;unfold tq;generalize oE:((List.range (t.az.length-1)).all (λk=>!((bx t (k+1)).Room&&decide (aH w.ah (k+1)≠0))))=res;refine rn func58 ?_;simp[-cB,f58];intro bs;refine av.cJ [2,3,5] (t.az.length-1) (λi=> [(5,iD (i+1))]) (λ_=> []) (λi=>∀k<i,((bx t (k+1)).Room&&decide (aH w.ah (k+1)≠0))=false) (by rfl) (by simp) ?_;intro i hi hH;rcases apg hi with au|Xf
 ·have a4:aM .i64 ((i:Int)+1+1):=iW;have dF:(i:Int)+1<t.az.length:=by omega
  have nN:i+1<t.az.length:=by omega
  have IK:=oB w.ah ((i:Int)+1) (by omega);have IL:=oC w.ah ((i:Int)+1) (by omega) (by omega);have tg:=vl (t:=t) (n:=(i:Int)+1) (by omega);have te:=tX (t:=t) (n:=(i:Int)+1) (by omega);have pW:((i:Int)+1).toNat=i+1:=by omega
  simp only[pW]at IK IL tg te;have IM:((bx t ((i:Int)+1)).Room&&decide (aH w.ah ((i:Int)+1)≠0))=true->res=false:=λh=>by
   rw[<-oE,List.all_eq_false];exact⟨i,apS.2 au,by simp only[h];simp⟩
  have oQ:((bx t ((i:Int)+1)).Room&&decide (aH w.ah ((i:Int)+1)≠0))=false->∀k<i+1,((bx t ((k:Int)+1)).Room&&decide (aH w.ah ((k:Int)+1)≠0))=false:=λh k hk=>by
   rcases apJ k i with h2|h2
   ·exact hH k h2
   ·rw[show k=i by omega];exact h
  generalize hTh:bx t ((i:Int)+1)=th at *;generalize aH w.ah ((i:Int)+1)=p at *;simp[-cB,dF,nN,IK,IL,tg,te];refine⟨by omega,λ_=>⟨by omega,by assumption⟩,?_⟩;have hc:(th.Room&&(p !=0))=(th.Room&&decide (p≠0)):=by rw[aqM];simp
  rw[hc];refine aw (λh=>?_) (λh=>?_)
  ·have:=IM h;simp[this]
  ·have:=oQ h;simp[-cB,a4];exact⟨by omega,by simpa using this⟩
 ·subst Xf;have hr:res=true:=by
   rw[<-oE,apd];intro k hk;rw[hH k (apS.1 hk)];rfl
  have CP:¬(((t.az.length-1:Nat):Int)+1<t.az.length):=by omega
  have tg:=vl (t:=t) (n:=dj w.tree 1) (by omega);have te:=tX (t:=t) (n:=dj w.tree 1) (by omega);simp[-cB,CP,hr];refine av.bT [iD (dj w.tree 1)] aS (by kernel_rfl) (by rfl) ?_;simp[-cB,vY,tg,te];omega
def cA(t:aq)(w:aj):Bool:=
 decide (w.aP.length=t.aP.length)&&decide (w.ah.length=t.az.length)&&decide (w.Flags.length=t.az.length)&&decide (w.aJ.length=t.az.length *t.aJ.length)&&decide (w.bc.length=t.eA.length)&&po w.tree &&
 (cD gP w.aP&&cD gP w.aJ&&cD (λx=>bB x 0 (kX t.Flags-1)) w.Flags&&cD (λx=>bB x 0 32767) w.bc&&gP w.Score&&bB w.jx 0 2147483647) &&
 (bB w.ij 0 3&&bB w.It 0 (t.az.length-1)&&bB w.Go 0 12&&tq t w)
set_option maxRecDepth 20000 in
set_option maxHeartbeats 4000000 in
theorem RC(t:aq)(ht:t.wf)(w:aj)(hw:w.wf)(fv:t.aJ.length<=16)(Av:t.az.length<=128):Pure prog 25 [.agg (t.enc.map .d),.agg (w.enc.map .d)] (oD (cA t w)):=by
 have hl:=aj.fX hw;have l1:=aj.ow hw;have l5:=aj.OL hw;have l6:=aj.ou hw;have l7:=aj.Ln hw;have hmul:aM .i64 ((t.az.length:Int) *t.aJ.length):=by
  have h1:t.az.length *t.aJ.length<=128 *16:=Nat.mul_le_mul Av fv;have h2:((t.az.length:Int) *t.aJ.length)=((t.az.length *t.aJ.length:Nat):Int):=by simp
  rw[h2,aU];omega
 have hN:=O0 w hw;have hb:=A8 t.Flags;have c1:=(jg w.aP (by omega)).ok;have c2:=(jg w.aJ (by omega)).ok;have c3:=(IJ t.Flags).ok;have c4:=(LB w.Flags (by omega) 0 (kX t.Flags-1)).ok;have c5:=(LB w.bc (by omega) 0 32767).ok;have c6:=(nh w.Score).ok;have c7:=(bh w.jx 0 2147483647).ok;unfold cA;have c8:=bh w.ij 0 3;have c9:=bh w.It 0 (t.az.length-1);have c10:=bh w.Go 0 12;refine rn func25 ?_;simp[-cB,f25];intro bs;refine⟨λa1 a2 a3=>⟨hmul,⟨a1,a2⟩,a3⟩,?_⟩;refine pG hN ?_;simp[-cB];refine aw (λh=>?_) (λh=>?_)<;>simp at h
 ·simp[-cB];intro a1 a2 a3 a4 a5 a6;exfalso;rcases h with((((h|h)|h)|h)|h)|h
  ·omega
  ·omega
  ·omega
  ·rw[a4]at h;simp at h
  ·omega
  ·rw[a6]at h;cases h
 ·simp[-cB];have hm:=h.1.1.2;have hlen:w.ah.length=t.az.length:=by omega
  have hP:w.aJ.length=t.az.length *t.aJ.length:=by
   have:((t.az.length:Int) *t.aJ.length)=((t.az.length *t.aJ.length:Nat):Int):=by simp
   omega
  have iZ:0<t.az.length:=by
   have:=h.2;unfold po at this;simp at this;have:=this.1.1.1.1.1.1;have e1:w.tree.bn=w.ah:=rfl;rw[e1]at this;have:=apV.2 this;omega
  have c11:=O9 t ht w hw hlen iZ;have f1:w.aP.length=t.aP.length:=by omega
  have f3:w.Flags.length=t.az.length:=by omega
  have f5:w.bc.length=t.eA.length:=by omega
  have f6:=h.2;refine av.bT [oD (cD gP w.aP),oD (cD gP w.aJ),iD (kX t.Flags),oD (cD (λx=>bB x 0 (kX t.Flags-1)) w.Flags),oD (cD (λx=>bB x 0 32767) w.bc),oD (gP w.Score),oD (bB w.jx 0 2147483647)] aS (by kernel_rfl) (by rfl) ?_;simp[-cB,c1,c2,c3,c4,c5,c6,c7];refine⟨λa b=>⟨iW,a,b⟩,?_⟩;refine aw (λh2=>?_) (λh2=>?_)<;>simp at h2
  ·simp[-cB];intro a1 a2 a3 a4 a5 a6 b1 b2 b3 b4 b5 b6;exfalso;simp[*]at h2
  ·obtain⟨⟨⟨⟨⟨b1,b2⟩,b3⟩,b4⟩,b5⟩,b6⟩:=h2;simp[-cB];refine pC c8 ?_;simp[-cB];refine⟨λa=>⟨iW,a⟩,?_⟩;refine pG c9 ?_;simp[-cB];refine pG c10 ?_;simp[-cB];refine pG c11 ?_;simp[hlen,hP,f1,f3,f5,f6,b1,b2,b3,b4,b5,b6]
section
variable {P : Program} {n : Nat} {s : St} {Q : AX -> St -> Prop}
def mM(w:World)(O:Nat->Prop)(m:Nat->Option Value):FrameMode->Option V->Prop
 | .returning,none=>True
 | .panicking chain,some x=>AW w O m chain x
 | _,_=>False
def Vs(w:World)(O:Nat->Prop)(m:Nat->Option Value)(u':FrameMode)(r:Option V):Ending->Prop
 | .returned _=>mM w O m (settle u') r
 | .panicked chain=>mM w O m (raised u' chain) r
 | .outgrown=>False
def BD(fo:FO)(m:Nat->Option Value)(w:World)(R:Option V->aI->Prop)(e:Ending)(u':FrameMode)(w':World):Prop:=
 ∃m' r L',R r L'/\Vs w' (OO fo m') m' u' r e/\Inv fo m' L' w'/\Step w (own m) w' (own m')
def jF(P:Program)(f:FuncId)(args:List V)(L:aI)(px:Option V)(R:Option V->aI->Prop):Prop:=
 ∀(fo:FO) m w (xs:Array Value) u,Inv fo m L w->ir w (OO fo m) m xs args->mM w (OO fo m) m u px->CallsDIn Fence.wide 0 P f xs u w (BD fo m w R)
def DQ(R:Option V->aI->Prop):AX->St->Prop
 | .normal,s=>R none s.L
 | .ret,s=>R none s.L
 | .ix y,s=>R (some y) s.L
 | _,_=>False
def RecM(u u':FrameMode)(px:Option V):Prop:=
 match px with
 | none=>u= .returning/\u'= .returning
 | some _=>∃v gM,u= .panicking ({v:=v,recovered:=false}::gM)/\u'= .panicking ({v:=v,recovered:=true}::gM)/\∀e∈gM,e.goexit=false
theorem IU{u u' px}(h:RecM u u' px):settle u'= .returning:=by
 cases px with
 | none=>obtain⟨_,rfl⟩:=h;rfl
 | some x=>
   obtain⟨v,gM,hu,rfl,ho⟩:=h;clear hu;unfold settle;have:gM.dropWhile (λe=>!e.goexit)=[]:=by
    induction gM with
    | nil=>rfl
    | cons e l ih=>
      simp_all
   grind
theorem Vt{u u' px}(h:RecM u u' px){w O m chain y}(hc:AW w O m chain y):mM w O m (raised u' chain) (some y):=by
 obtain⟨v,gM,rfl,hold,hv⟩:=hc;cases px with
 | none=>obtain⟨_,rfl⟩:=h;exact⟨v,gM,rfl,hold,hv⟩
 | some x=>
   obtain⟨v',afP,_,rfl,ho⟩:=h;refine⟨v,gM++{v:=v',recovered:=true}::afP,rfl,λe he=>?_,hv⟩;grind
def S8(P:Program)(n:Nat)(c:Code)(s:St)(px:Option V)(R:Option V->aI->Prop):Prop:=
 ∀(fo:FO) m a w (w0:World) (m0:Nat->Option Value) (fn:Func) (c0:Frame) (cs:List Frame),fo.D=[]->fo.r=none->fo.nm=true->fn.results.toList=[]->G fo n m s a w->mM w (OO fo m) m c0.mode px->Step w0 (own m0) w (own m)->
  c.wpSIn Fence.wide 0 P (bodyPostS P fn c0 cs (BD fo m0 w0 R)) a (c0::cs) w
def ajs:Option V->Bool
 | none=>true
 | some x=>x.on []
def Vu:Option V->V
 | none=> .d (.v .nilIface)
 | some x=>x
def u5:List Oper->St->Option St
 | [],s=>some s
 | o::l,s=>match o.op,o.dst,o.guard with
   | .move x,some d,none=>u5 l (s.put (some d) (s.ev x))
   | .assign x,some d,none=>u5 l (s.put (some d) (s.ev x))
   | _,_,_=>none
def Kj(n:Nat)(l:List Oper):Bool:=l.all λo=>match o.dst with
 | some d=>decide (d<n)
 | none=>false
theorem S9{fo}{m}{ops}{K}{cs}{w}:∀l k s s' a,(∀j,l[j]?=ops[k+j]?)→u5 l s=some s'→Kj n l=true→G fo n m s a w→
  (∀a',G fo n m s' a' w->K .normal a' cs w)->wpOpsSIn Fence.wide 0 P ops K (List.range' k l.length) a cs w
 | [],k,s,s',a,_,hm,_,g,hK=>by
   simp only[u5,anc]at hm;subst hm;exact hK a g
 | o::l,k,s,s',a,hl,hm,aN,g,hK=>by
   have h0:ops[k]?=some o:=by simpa using(hl 0).symm
   have hl':∀j,l[j]?=ops[k+1+j]?:=λj=>by
    have:=hl (j+1);grind
   simp only [Kj,arC,apb]at aN;rw [apj,List.range'_succ];simp only [wpOpsSIn,h0];refine⟨fun _ _=>trivial,?_⟩;have key:∀x d,o.dst=some d→o.guard=none→(execOp a.eval o).run P w= .ok (.value (a.eval x)) w→u5 l (s.put (some d) (s.ev x))=some s'→
     (if Region.wanted o (yielded ops a.tmps)=true then
      match(execOp a.eval o).run P w with
      | .ok .recover w'=>
        match recoverD cs with
        | some (v,jB)=>wpOpsSIn Fence.wide 0 P ops K (List.range' (k+1) l.length) (a.put o.dst v) jB w'
        | none=>wpOpsSIn Fence.wide 0 P ops K (List.range' (k+1) l.length) (a.put o.dst .nilIface) cs w'
      | .ok (.value v) w'=>wpOpsSIn Fence.wide 0 P ops K (List.range' (k+1) l.length) (a.put o.dst v) cs w'
      | .ok .skip w'=>wpOpsSIn Fence.wide 0 P ops K (List.range' (k+1) l.length) (a.put o.dst undef) cs w'
      | .halt (.panic v) w'=>K (.panic [{v,recovered:=false}]) a cs w'
      | _=>False
     else wpOpsSIn Fence.wide 0 P ops K (List.range' (k+1) l.length) (a.put o.dst undef) cs w):=by
    intro x d hd hg bz Xp;rw[if_pos (by simp[Region.wanted,hg]),bz];have gp:G fo n m (s.put (some d) (s.ev x)) (a.put o.dst (a.eval x)) w:=by
     rw[hd];exact g.put (dst:=some d) (λd' e=>by grind) (ck g x)
    exact S9 l (k+1) _ s' _ hl' Xp aN.2 gp hK
   unfold u5 at hm;split at hm
   ·simp_all[execOp]
   ·simp_all[execOp]
   grind
theorem S8.rest{y}{px}{R}{fo}{m}{a}{w w0}{m0}{fn}{c0}{cs}{u'}(hD:fo.D=[])(hr:fo.r=none)(AB:fo.nm=true)(oE:fn.results.toList=[])
  (g:G fo n m s a w) (sH:RecM c0.mode u' px) (LC:Step w0 (own m0) w (own m)) (IG:gm y=false) (h:av P n y s (DQ R)):y.wpSIn Fence.wide 0 P (bodyPostS P fn c0 cs (BD fo m0 w0 R)) a ({c0 with mode:=u'}::cs) w:=by
 refine wpSIn_of_wpIn rfl ?_;have h1:=h fo m a w (λe=>by grind) g;rw[hr]at h1;have Pa:∀T,∀w1,(results fn T).run P w1= .ok (.tuple #[]) w1:=by
  simp_all[Im]
 refine Code.wpIn_mono ?_ h1;rintro e a1 w1 ⟨ms,m1,x1,s1,rH,hq,g1,iR,st⟩;obtain rfl:=rH.1.2 AB;rw[FO.AY]at g1 iR;have IV:a1.defers=[]:=by rw[g1.defers,hD]
 cases e with
 | normal=>
   cases x1<;>simp[bG]at iR
   exact⟨IV,u',rfl,_,Pa _ _,m1,none,s1.L,hq,by grind[Vs,IU,mM],g1.inv,LC.trans st⟩
 | ret=>
   cases x1<;>simp[bG]at iR
   exact⟨IV,u',rfl,_,Pa _ _,m1,none,s1.L,hq,by grind[Vs,IU,mM],g1.inv,LC.trans st⟩
 | panic ch=>
   cases x1<;>simp[bG]at iR
   rename_i y';exact⟨IV,u',rfl,m1,some y',s1.L,hq,Vt sH iR,g1.inv,LC.trans st⟩
 | exit i=>cases x1<;>simp[bG]at iR;exact hq.elim
 | goto i=>cases x1<;>simp[bG]at iR;exact hq.elim
 | outgrown=>simp_all[bG]
theorem S8.rec{id}{o}{l}{d}{y}{px}{R}{s'}(bz:∀ρ w,(execOp ρ o).run P w= .ok .recover w)(hd:o.dst=some d)(FU:d < n)(hg:o.guard=none)
  (hm:u5 l (s.put (some d) (Vu px))=some s') (aN:Kj n l=true) (IG:gm y=false) (h:av P n y s' (DQ R)):S8 P n (.seq (.region id (o::l).toArray false) y) s px R:=by
 intro fo m a w w0 m0 fn c0 cs hD hr AB oE g Cw LC;refine wpSIn_seq (wpSIn_region ?_);have uO:∀j,l[j]?=(o::l).toArray[1+j]?:=λj=>by
  grind
 have afQ:List.range (o::l).toArray.size=0::List.range' 1 l.length:=by
  simp[List.range_eq_range',List.range'_succ]
 rw [afQ];simp only [wpOpsSIn,aqc];refine⟨fun _ _=>trivial,?_⟩;rw [if_pos (by simp [Region.wanted,hg]),bz];simp only [hd];have fin:∀u' (v:Value),aC w (OO fo m) m v (Vu px)→RecM c0.mode u' px→
   wpOpsSIn Fence.wide 0 P (o::l).toArray (Exit.thenS (y.wpSIn Fence.wide 0 P (bodyPostS P fn c0 cs (BD fo m0 w0 R))) (bodyPostS P fn c0 cs (BD fo m0 w0 R))) (List.range' 1 l.length) (a.put (some d) v) ({c0 with mode:=u'}::cs) w:=by
  intro u' v hv sH;refine S9 l 1 _ s' _ uO hm aN (g.put (λd' e=>by grind) hv) (λa' g'=>?_);exact S8.rest hD hr AB oE g' sH LC IG h
 cases px with
 | none=>
   have M3:c0.mode= .returning:=by
    grind[mM]
   have hn:recoverD (c0::cs)=none:=by grind[recoverD]
   rw[hn];have:=fin .returning .nilIface (.d _ _ (.v _ rfl)) ⟨M3,rfl⟩;rw[show({c0 with mode:= .returning}:Frame)=c0 by rw[<-M3]]at this;omega
 | some x=>
   unfold mM at Cw;split at Cw
   ·grind
   ·rename_i ch x' M3 e;obtain rfl:=ao9 e;obtain⟨v,gM,rfl,ho,hv⟩:=Cw;have hn:recoverD (c0::cs)=some (v,{c0 with mode:= .panicking ({v:=v,recovered:=true}::gM)}::cs):=by grind[recoverD]
    rw[hn];exact fin _ v hv ⟨v,gM,M3,rfl,ho⟩
   grind
theorem jF.run{f}{args}{L}{px}{R}{fn}{c}(hf:P.funcs[f]?=some fn)(hb:fn.body=some c)(hn:args.length≤fn.ntmps)(oE:fn.results.toList=[])
  (h:S8 P fn.ntmps c ⟨eH 0 args,L⟩ px R):jF P f args L px R:=by
 intro fo m w xs u hi hx hu;refine callsDIn_of_wpSIn hf hb trivial (λc0 cs yh=>?_);subst yh;have dW:(xs++Array.replicate (fn.ntmps-xs.size) undef).size=fn.ntmps:=by
  have:=hx.1;grind
 let fo':FO:=⟨fo.f,[],none,true⟩
 have g:G fo' fn.ntmps m ⟨eH 0 args,L⟩ {tmps:=xs++Array.replicate (fn.ntmps-xs.size) undef,defers:=[]} w:=by
  refine⟨dW,?_,⟨hi.nodup,hi.fI,hi.apart,hi.others,hi.ei,hi.holds,hi.ee⟩,rfl⟩;intro t y hy;obtain⟨h1,h2,h3⟩:=p7 hy;simp at h2 h3;refine⟨by omega,?_⟩;have au:t<xs.size:=by rw[hx.1];exact h3
  have:(xs++Array.replicate (fn.ntmps-xs.size) undef).getD t undef=xs[t]:=by
   simp[Array.getD,au];omega
  rw[this];exact hx.2 t _ y (apy au) h2
 have hE:BD fo' m w R=BD fo m w R:=by
  funext e u' w';refine propext ⟨?_,?_⟩
  ·rintro⟨m',r,L',h1,h2,h3,h4⟩;exact⟨m',r,L',h1,h2,⟨h3.nodup,h3.fI,h3.apart,h3.others,h3.ei,h3.holds,h3.ee⟩,h4⟩
  ·rintro⟨m',r,L',h1,h2,h3,h4⟩;exact⟨m',r,L',h1,h2,⟨h3.nodup,h3.fI,h3.apart,h3.others,h3.ei,h3.holds,h3.ee⟩,h4⟩
 rw[<-hE];exact h fo' m _ w w m fn c0 cs rfl rfl rfl oE g hu (Step.refl w _)
end
section
variable {P : Program} {n : Nat} {s : St} {Q : AX -> St -> Prop}
def BE(f:FuncId)(hs:List (Nat×Nat)):Deferred:=⟨.fn (.func f) (hs.map λp=>Value.pointer (some ⟨p.2,0,none⟩)).toArray,#[]⟩
def DJ(P:Program)(n:Nat)(c:Code)(s:St)(Q:AX->St->Prop)(QD:FuncId->List (Nat×Nat)->AX->St->Prop):Prop:=
 ∀(fo:FO) m a w,fo.r=none->fo.D=[]->fo.nm=true->G fo n m s a w->
  c.wpIn Fence.wide 0 P (λe a' w'=>gi fo n m w Q e a' w'\/∃f hs,enters P f=true/\gi ⟨fo.f,[BE f hs],none,true⟩ n m w (QD f hs) e a' w') a w
variable {QD : FuncId -> List (Nat × Nat) -> AX -> St -> Prop}
theorem DJ.Vv{x y}(IG:gm x=false)(h:av P n x s (AX.then (λs'=>DJ P n y s' Q QD) Q)):DJ P n (.seq x y) s Q QD:=by
 intro fo m a w hr hD AB g;refine wpIn_seq ?_;have h1:=h fo m a w (λe=>by grind) g;rw[hr]at h1;refine Code.wpIn_mono ?_ h1;rintro e a1 w1 ⟨ms,m1,x1,s1,rH,hq,g1,iR,st⟩;obtain rfl:=rH.1.2 AB;have gg:=g1;rw[FO.AY]at gg;cases e with
 | normal=>
   cases x1<;>simp[bG]at iR
   refine Code.wpIn_mono ?_ (hq fo m1 a1 w1 hr hD AB gg);grind[gi.step]
 | exit i=>cases x1<;>simp[bG]at iR;exact .inl ⟨[],m1,_,s1,rH,hq,g1,iR,st⟩
 | goto i=>cases x1<;>simp[bG]at iR;exact .inl ⟨[],m1,_,s1,rH,hq,g1,iR,st⟩
 | ret=>cases x1<;>simp[bG]at iR;exact .inl ⟨[],m1,_,s1,rH,hq,g1,iR,st⟩
 | panic ch=>cases x1<;>simp only[bG]at iR;exact .inl ⟨[],m1,_,s1,rH,hq,g1,iR,st⟩
 | outgrown=>simp_all[bG]
def Pb(L:aI):List V->List (Nat×Nat)->Prop
 | [],[]=>True
 | x::xs,p::ps=>x= .bp p.1 0/\p∈dz L/\Pb L xs ps
 | _,_=>False
theorem Ga{fo}{m}{L}{w}(hi:Inv fo m L w):∀xs ps vs,Pb L xs ps→vs.length=xs.length→(∀(j:Nat) v x,vs[j]?=some v→xs[j]?=some x→aC w (OO fo m) m v x)→
  vs=ps.map λp=>Value.pointer (some ⟨p.2,0,none⟩)
 | [],[],vs,_,hl,_=>by grind
 | x::xs,p::ps,v::vs,⟨hx,hp,ht⟩,hl,hr=>by
   have h0:=hr 0 v x rfl rfl;subst hx;obtain⟨b,hb,rfl⟩:=xB h0;obtain⟨ty,cs,hm⟩:=ng hp;obtain⟨z,hz,bb,km,cur,rfl,_⟩:=hi.holds _ _ hm;rw[hz]at hb;simp only[anc,Value.pointer.injEq,Addr.mk.injEq]at hb;obtain rfl:bb=p.2:=by omega
   obtain rfl:=hb.1;rw[apF,<-Ga hi xs ps vs ht (by grind) (λj v x h1 h2=>hr (j+1) v x (by grind) (by grind))]
 | [],_::_,_,h,_,_=>h.elim
 | _::_,[],_,h,_,_=>h.elim
 | _::_,_::_,[],_,hl,_=>by grind
theorem DJ.defer{id}{o1 o2}{t:Tmp}{f}{sL}{hs}{y}{c}(h1:o1.op= .makeFunc (.func f) #[] sL)(y8:o1.dst=some t)(F1:t < n)(Pc:o1.guard=none)
  (h2:o2.op= .defer c) (hc:c.callee= .value (.tmp t)) (hca:c.args= #[]) (ns:o2.dst=none) (nV:o2.guard=none) (lD:Pb s.L (sL.toList.map s.ev) hs) (he:enters P f=true) (IG:gm y=false)
  (h:av P n y (s.put (some t) (.eS (.func f) [] (sL.toList.map s.ev))) (QD f hs)):DJ P n (.seq (.region id #[o1,o2] false) y) s Q QD:=by
 intro fo m a w hr hD AB g;refine wpIn_seq (wpIn_region_list ?_);have amj:(sL.toList.map a.eval)=hs.map λp=>Value.pointer (some ⟨p.2,0,none⟩):=by
  refine Ga g.inv _ _ _ lD (by simp) (λj v x hv hx=>?_);simp only[apc,ao8]at hv hx;obtain⟨z,hz,rfl⟩:=hv;obtain⟨z',Ap,rfl⟩:=hx;rw[hz]at Ap;obtain rfl:=ao9 Ap;exact ck g z
 have fC:aC w (OO fo m) m (.func (.func f) #[] (sL.map a.eval)) (.eS (.func f) [] (sL.toList.map s.ev)):=by
  refine .eS _ _ _ _ _ rfl (by simp) (by simp) (λj x y hx hy=>?_);have cH:(sL.toList.map a.eval)[j]?=some x:=by
   grind
  simp only[apc,ao8]at cH hy;obtain⟨z,hz,rfl⟩:=cH;obtain⟨z',Ap,rfl⟩:=hy;rw[hz]at Ap;obtain rfl:=ao9 Ap;exact ck g z
 have g1:=g.put (dst:=some t) (λd e=>by grind) fC;have ht:(a.put (some t) (.func (.func f) #[] (sL.map a.eval))).eval (.tmp t)= .func (.func f) #[] (sL.map a.eval):=by
  have:=g.size;simp_all[Act.eval,Act.put,Array.getD]
 have ahr:(execOp a.eval o1).run P w= .ok (.value (.func (.func f) #[] (sL.map a.eval))) w:=by simp[execOp,h1,Instr.makeFunc]
 unfold wpListIn;rw[if_pos (by grind[Region.wanted])];refine⟨λ_ _=>trivial,?_⟩;show Oper.uponIn Fence.wide 0 P o1 a _ _ ((o1.semAt none a.eval).run P w);rw[Oper.semAt_none,ahr,Oper.uponIn_value,y8];unfold wpListIn;rw[if_pos (by grind[Region.wanted])];refine⟨λ_ _=>trivial,?_⟩;show Oper.uponIn Fence.wide 0 P o2 _ _ _ ((o2.semAt none _).run P w);have ahs:(execOp (a.put (some t) (.func (.func f) #[] (sL.map a.eval))).eval o2).run P w= .ok (.defer (BE f hs)) w:=by
  have:(sL.map a.eval)=(hs.map λp=>Value.pointer (some ⟨p.2,0,none⟩)).toArray:=by
   grind
  simp_all[execOp,resolve,Deferred.ofValue,Sem.run_bind,Sem.run_pure,Result.andThen_ok,BE]
 rw[Oper.semAt_none,ahs,Oper.uponIn_defer,ns];unfold wpListIn
 let fo':FO:=⟨fo.f,[BE f hs],none,true⟩
 have g2:G fo' n m (s.put (some t) (.eS (.func f) [] (sL.toList.map s.ev))) {a.put (some t) (.func (.func f) #[] (sL.map a.eval))with defers:=BE f hs::(a.put (some t) (.func (.func f) #[] (sL.map a.eval))).defers} w:=by
  refine⟨g1.size,g1.fr,⟨g1.inv.nodup,g1.inv.fI,g1.inv.apart,g1.inv.others,g1.inv.ei,g1.inv.holds,g1.inv.ee⟩,?_⟩;have:=g1.defers;grind
 refine Code.wpIn_mono (F:=Fence.wide) ?_ (h fo' m _ w (λe=>by grind) g2);grind
end
section
variable {P : Program} {n : Nat} {s : St} {Q : AX -> St -> Prop}
def Ta(s:St):List (Nat×V):=s.fr.filter λp=>V.on ((dz s.L).map (·.1)) p.2
def He(P:Program)(rs:List ResultVar)(R:AE->aI->Prop)(s:St)(r:Option V)(L':aI):Prop:=
 dz L'=dz s.L/\match r with
  | none=>fb P rs R .ret ⟨Ta s,L'⟩
  | some y=>R (.ix y) L'
def LvD(P:Program)(rs:List ResultVar)(R:AE->aI->Prop)(f:FuncId)(hs:List (Nat×Nat))(x:AX)(s:St):Prop:=
 match x with
 | .normal|.ret=>(∀p∈hs,p∈dz s.L)/\jF P f (hs.map λp=> .bp p.1 0) s.L none (He P rs R s)
 | .ix v=>(∀p∈hs,p∈dz s.L)/\jF P f (hs.map λp=> .bp p.1 0) s.L (some v) (He P rs R s)
 | _=>False
theorem zY{fo}{m m0}{a}{w w0}{fn}{R}{f}{hs}{px}{u}(hu:u≠ .run)(FF:fo.nm=true)
  (hh:∀p∈hs,p∈dz s.L) (h:jF P f (hs.map λp=> .bp p.1 0) s.L px (He P fn.results.toList R s)) (he:enters P f=true) (g:G fo n m s a w) (hm:mM w (OO fo m) m u px) (LC:Step w0 (own m0) w (own m)):
  LeavesIn Fence.wide 0 P fn a.tmps (mz fo m0 w0 R) [BE f hs] u w:=by
 have oa:ir w (OO fo m) m (hs.map λp=>Value.pointer (some ⟨p.2,0,none⟩)).toArray (hs.map λp=> .bp p.1 0):=by
  refine⟨by simp,λj x y hx hy=>?_⟩;simp only[aqc,apc,ao8]at hx hy;obtain⟨p,hp,rfl⟩:=hx;obtain⟨p',As,rfl⟩:=hy;rw[hp]at As;obtain rfl:=ao9 As;obtain⟨ty,cs,fm⟩:=ng (hh p (ape hp));obtain⟨z,hz,bb,km,cur,rfl,_⟩:=g.inv.holds _ _ fm;obtain rfl:bb=p.2:=by omega
  exact .bp _ _ _ hz
 refine leavesIn_cons hu (λh=>by grind[Fence.wide]) (f:=f) (args:=(hs.map λp=>Value.pointer (some ⟨p.2,0,none⟩)).toArray) (by simp_all[invoke,xX]) (λ_ _=>trivial) ?_;refine(h fo m w _ u g.inv oa hm).mono ?_;rintro e u' w' ⟨m',r,L',⟨ob,hR⟩,zx,cm,st⟩;have tG:=Lt g.inv cm ob;have g':G fo n m' ⟨Ta s,L'⟩ a w':=by
  refine⟨g.size,λt y hy=>?_,cm,g.defers⟩;obtain⟨h1,h2⟩:=aqm.1 hy;obtain⟨q1,q2⟩:=g.fr t y h1;exact⟨q1,(q2.on tG h2).mono (Step.rJ st) (Step.sub st) (λ_ _ e=>e)⟩
 have fin:∀Pg,mM w' (OO fo m') m' Pg r->LeavesIn Fence.wide 0 P fn a.tmps (mz fo m0 w0 R) [] Pg w':=by
  intro Pg Cw;unfold mM at Cw;split at Cw
  ·simp[fb]at hR;split at hR
   ·rename_i xs c hr;obtain⟨v,k1,k2⟩:=sr g' hr hR.1;exact⟨v,k1,m',_,_,hR.2,k2,cm,LC.trans st⟩
   grind
  ·exact⟨m',_,_,hR,Cw,cm,LC.trans st⟩
  grind
 cases e with
 | returned v=>exact fin _ zx
 | panicked ch=>exact fin _ zx
 | outgrown=>exact zx.elim
theorem aE.YP{f}{fn}{c}{args}{L}{R}(hf:P.funcs[f]?=some fn)(hb:fn.body=some c)(hn:args.length≤fn.ntmps)
  (h:DJ P fn.ntmps c ⟨eH 0 args,L⟩ (fb P fn.results.toList R) (LvD P fn.results.toList R)):aE P f args L R:=by
 intro fo m w xs hi hx
 let fo':FO:=⟨fo.f,[],none,true⟩
 have DK:∀e w',mz fo' m w R e w'->mz fo m w R e w':=λ_ _ ⟨m',r,L',h1,h2,h3,h4⟩=>⟨m',r,L',h1,h2,⟨h3.nodup,h3.fI,h3.apart,h3.others,h3.ei,h3.holds,h3.ee⟩,h4⟩
 refine Calls.mono ?_ DK;refine callsIn_wide.1 (callsIn_of_wp_defers (n:=0) hf hb trivial ?_);have dW:(xs++Array.replicate (fn.ntmps-xs.size) undef).size=fn.ntmps:=by
  have:=hx.1;grind
 have g:G fo' fn.ntmps m ⟨eH 0 args,L⟩ {tmps:=xs++Array.replicate (fn.ntmps-xs.size) undef,defers:=[]} w:=by
  refine⟨dW,?_,⟨hi.nodup,hi.fI,hi.apart,hi.others,hi.ei,hi.holds,hi.ee⟩,rfl⟩;intro t y hy;obtain⟨h1,h2,h3⟩:=p7 hy;simp only[Nat.sub_zero,ap2]at h2 h3;refine⟨by omega,?_⟩;have au:t<xs.size:=by rw[hx.1];exact h3
  have:(xs++Array.replicate (fn.ntmps-xs.size) undef).getD t undef=xs[t]:=by
   simp[Array.getD,au];omega
  rw[this];exact hx.2 t _ y (apy au) h2
 refine Code.wpIn_mono (F:=Fence.wide) ?_ (h fo' m _ w rfl rfl rfl g);rintro e a' w' (⟨ms,m',x,s',rH,hq,g',cH,st⟩|⟨f2,hs,F0,ms,m',x,s',rH,hq,g',cH,st⟩)
 ·obtain rfl:=rH.1.2 rfl;rw[FO.AY]at g' cH;have xU:a'.defers=[]:=g'.defers;have Of:fb P fn.results.toList R .ret s'->LeavesIn Fence.wide 0 P fn a'.tmps (mz fo' m w R) a'.defers .returning w':=by
   intro hq;rw[xU];simp only[fb]at hq;split at hq
   ·rename_i ys c' hr;obtain⟨v,k1,k2⟩:=sr g' hr hq.1;exact⟨v,k1,m',_,_,hq.2,k2,g'.inv,st⟩
   grind
  cases e with
  | normal=>cases x<;>simp only[bG]at cH;exact Of hq
  | ret=>cases x<;>simp only[bG]at cH;exact Of hq
  | panic ch=>
    cases x<;>simp only[bG]at cH
    simp only[fb]at hq;show LeavesIn Fence.wide 0 P fn a'.tmps (mz fo' m w R) a'.defers (.panicking ch) w';rw[xU];exact⟨m',_,_,hq,cH,g'.inv,st⟩
  | exit i=>cases x<;>simp only[bG]at cH;simp_all
  | goto i=>cases x<;>simp only[bG]at cH;simp_all
  | outgrown=>simp_all[bG]
 ·obtain rfl:=rH.1.2 rfl;rw[FO.AY]at g' cH;have xU:a'.defers=[BE f2 hs]:=g'.defers;have g2:G fo' fn.ntmps m' s' {a' with defers:=[]} w':=⟨g'.size,g'.fr,⟨g'.inv.nodup,g'.inv.fI,g'.inv.apart,g'.inv.others,g'.inv.ei,g'.inv.holds,g'.inv.ee⟩,rfl⟩
  cases e with
  | normal=>
    cases x<;>simp only[bG]at cH
    show LeavesIn Fence.wide 0 P fn a'.tmps (mz fo' m w R) a'.defers .returning w';rw[xU];exact zY (a:={a' with defers:=[]}) (by simp) rfl hq.1 hq.2 F0 g2 trivial st
  | ret=>
    cases x<;>simp only[bG]at cH
    show LeavesIn Fence.wide 0 P fn a'.tmps (mz fo' m w R) a'.defers .returning w';rw[xU];exact zY (a:={a' with defers:=[]}) (by simp) rfl hq.1 hq.2 F0 g2 trivial st
  | panic ch=>
    cases x<;>simp only[bG]at cH
    show LeavesIn Fence.wide 0 P fn a'.tmps (mz fo' m w R) a'.defers (.panicking ch) w';rw[xU];exact zY (a:={a' with defers:=[]}) (by simp) rfl hq.1 hq.2 F0 g2 cH st
  | exit i=>cases x<;>simp only[bG]at cH;exact hq.elim
  | goto i=>cases x<;>simp only[bG]at cH;exact hq.elim
  | outgrown=>simp_all[bG]
end
section
variable {P : Program} {n : Nat} {s : St} {Q : AX -> St -> Prop}
theorem jF.frame{f:FuncId}{args:List V}{L L1 L2:aI}{px:Option V}{R1:Option V→aI→Prop}(h:jF P f args L1 px R1)(hL:L.Perm (L1++L2))(ho:V.dK (keys L1) args=true)(hx:ajs px=true)(ig:L1.all (fun p=>aV.on (keys L1) p.2)=true)
  (iT:∀p∈L2,aV.on (keys L2++(L1.filterMap λp=>match p.2 with|.box (_+1) _ _=>some p.1|_=>none)) p.2=true)
  (qY:∀r br,R1 r br->(∀k∈keys br,k∉keys L2)/\∀k b ty cs,(k,aV.box (b+1) ty cs)∈L1->∃mf jB,(k,aV.box (b+1) mf jB)∈br):
  jF P f args L px (λr L'=>∃br,R1 r br/\L'=br++L2):=by
 intro fo m w xs u hi yR hu;obtain⟨gT,m1,oT,ot,qj,fin⟩:=Go.Ab.frame hi hL ig iT;have ajt:ir w (OO gT m1) m1 xs args:=⟨yR.1,λj v y hv hy=>((yR.2 j v y hv hy).on ot (fS ho y (ape hy))).mono (bK.refl w _) (λb _ hb=>(oT b).1 hb) (λ_ _ e=>e)⟩
 have tc:mM w (OO gT m1) m1 u px:=by
  unfold mM at hu⊢;split at hu
  ·trivial
  ·obtain⟨v,gM,rfl,iC,hv⟩:=hu;exact⟨v,gM,rfl,iC,(hv.on (ks:=[]) (m':=m1) (by simp) hx).mono (bK.refl w _) (λb _ hb=>(oT b).1 hb) (λ_ _ e=>e)⟩
  ·exact hu.elim
 refine(h gT m1 w xs u qj ajt tc).mono ?_;rintro e u' w' ⟨ta,r,br,hR,zx,cm,fK⟩;obtain⟨Dm,GW⟩:=qY r br hR;obtain⟨mm,hinv,qk,vV,zS,-⟩:=fin w' ta br cm fK Dm GW;refine⟨mm,r,_,⟨br,hR,rfl⟩,?_,hinv,qk⟩;have md:∀Pg:FrameMode,mM w' (OO gT ta) ta Pg r->mM w' (OO fo mm) mm Pg r:=by
  intro Pg Cw;unfold mM at Cw⊢;split at Cw
  ·trivial
  ·obtain⟨v,gM,rfl,iC,hv⟩:=Cw;exact⟨v,gM,rfl,iC,hv.mono (bK.refl w' _) (λb _ hb=>(zS b).1 hb) vV⟩
  ·exact Cw.elim
 cases e with
 | returned v=>exact md _ zx
 | panicked ch=>exact md _ zx
 | outgrown=>exact zx.elim
def EDQ(hs:List Nat)(R:Option V->aI->Prop)(x:AX)(s:St):Prop:=
 match x with
 | .normal|.ret=>(s.pick [] hs).on (keys (s.pick [] hs).L)=true/\R none (s.pick [] hs).L
 | .ix y=>(s.pick [] hs).on (keys (s.pick [] hs).L)=true/\y.on []=true/\R (some y) (s.pick [] hs).L
 | _=>False
theorem av.edq{c hs R}(hh:hs.Nodup)(h:av P n c s (EDQ hs R)):av P n c s (DQ R):=by
 intro fo m a w hr g;refine Code.wpIn_mono (λe a' w' hp=>?_) (h fo m a w hr g);obtain⟨ms,m',x,s',rH,hq,g',he,st⟩:=hp;cases x with
 | normal=>
   obtain⟨m2,g2,oS⟩:=Wk.pick [] hs rfl hh hq.1 (fo.mark ms) m' a' w' g';refine⟨ms,m2,.normal,_,rH,hq.2,g2,?_,st.trans oS⟩;grind[bG]
 | ret=>
   obtain⟨m2,g2,oS⟩:=Wk.pick [] hs rfl hh hq.1 (fo.mark ms) m' a' w' g';refine⟨ms,m2,.ret,_,rH,hq.2,g2,?_,st.trans oS⟩;grind[bG]
 | ix y=>
   obtain⟨m2,g2,oS⟩:=Wk.pick [] hs rfl hh hq.1 (fo.mark ms) m' a' w' g';refine⟨ms,m2,.ix y,_,rH,hq.2.2,g2,?_,st.trans oS⟩;cases e<;>simp[bG]at he⊢
   obtain⟨v,gM,rfl,iC,hv⟩:=he;exact⟨v,gM,rfl,iC,(hv.on (by simp) hq.2.1).mono (Step.rJ oS) (Step.sub oS) (λ_ _ e=>e)⟩
 | exit i=>exact hq.elim
 | goto i=>exact hq.elim
attribute [simp] EDQ DQ
theorem av.vF{c}(h:cW P n c s (cn P n Q [])):av P n c s Q:=ef _ _ _ h
end
section
variable {P : Program} {n : Nat} {s : St} {Q : AX -> St -> Prop}
theorem av.aef{g}{ps:Array Tmp}{assign body}{f}{eh}{xs}
  (J:Nat->aI->Prop) K (L0 Lc:aI) fr (hL0:s.L.Perm (L0++Lc)) (h5:5003∉keys Lc) (hLc:∀p∈Lc,aV.on (keys Lc) p.2=true) (YQ:∀p∈L0,aV.on (keys L0) p.2=true) (abA:∀p∈fr,p∈s.fr)
  (hg:s.ev g= .eS (.func f) [] eh) (he:enters P f=true) (Vw:V.dK (keys Lc) eh=true) {KP} (iy:MV KP P f eh Lc xs)
  (IG:gm assign=false/\gm body=false) (II:∀(i:Nat) (x:List V),xs[i]?=some x->x.length=ps.size/\V.dK [] x=true) (SY:∀p∈ps.toList,p<n)
  (gz:(keys L0).Nodup) (hZ:∀t y,(t,y)∈fr->V.on ((dz L0).map (·.1)) y=true)
  (hKJ:KP->∀L,¬J xs.length L) (hJ0:J 0 L0) (hJl:∀i L,J i L->dz L=dz L0)
  (round:∀(i:Nat) (x:List V) L,xs[i]?=some x->J i L->∃L' Hn,(Hn->J (i+1) L'/\dz L'=dz L0)/\cW P n assign ⟨wL (ps.toList.zip x) fr,L⟩ (AX.then (λs2=>cW P n body s2 (IE (keys L0) L0 L' Hn fr K)) (λ_ _=>False)))
  (last:∀L,J xs.length L->Q .normal ⟨fr,L⟩) (hK:∀x L,K x ⟨fr,L⟩->Q x ⟨fr,L⟩):av P n (.rangeFunc g ps assign body) s Q:=by
 intro fo m a w hr gG;have ny:fo.r=none:=(hr rfl).1;have AB:fo.nm=false:=(hr rfl).2;refine wpIn_rangeFunc (F:=wr fo.r) (n:=0) (P:=P) (λfn _=>?_)
 let r:=w.heap.size
 let wa:=OR w (.deferred (some []))
 let r0:Loop:={state:= .ready,pending:=none,fn,tmps:=a.tmps,params:=ps,assign,body,defers:=r}
 let l:=wa.heap.size
 let w1:=OR wa (.loop r0)
 have hl:l=w.heap.size+1:=DB _ _;have Cu:w1.heap.size=w.heap.size+2:=by grind[DB]
 have hi:=gG.inv;have hold:∀b,b<w.heap.size->w1.heap[b]?=w.heap[b]?:=λb hb=>by
  grind[S3,DB]
 have hrl:w1.heap[r]?=some (.deferred (some [])):=by
  rw[S3 (by omega)];exact Lv _ _
 have Lx:w1.heap[l]?=some (.loop r0):=Lv _ _;have Cn:=ck gG g;rw[hg]at Cn;obtain⟨fa,ca,ev,s1,s2,g1,g2⟩:=SL Cn;have Ph:fa= #[]:=by grind
 subst Ph;refine⟨l,[⟨.collected r,#[]⟩],w1,⟨.fn (.func f) ca,#[.func (.yield l) #[] #[]]⟩,w1,f,#[.func (.yield l) #[] #[]]++ca,w1,?_,?_,λ_ _=>trivial,?_,λh=>by grind[wr,Fence.wide],?_⟩
 ·show(Instr.enterLoop fn a.tmps ps assign body (wr fo.r).round).run P w=_;rw[show(wr fo.r).round=none from ny];rfl
 ·have hcv:∀v,a.eval (.const v)=v:=λ_=>rfl
  simp_all[resolve,rangeCall,Deferred.ofValue]
 ·simp_all[invoke,xX]
 have pJ:∀x,x∈keys s.L↔x∈keys L0\/x∈keys Lc:=by
  grind[keys]
 have aju:(keys L0).Nodup/\(keys Lc).Nodup/\∀x,x∈keys L0->x∉keys Lc:=by
  have hp:(keys s.L).Perm (keys L0++keys Lc):=by grind[keys]
  have:=hp.nodup_iff.1 hi.nodup;grind
 let ml:Nat->Option Value:=λh=>if h∈keys L0 then m h else none
 let mc:Nat->Option Value:=λh=>if h∈keys Lc then m h else none
 have IW:∀h x,ml h=some x->m h=some x/\h∈keys L0:=by
  grind
 have IX:∀h x,mc h=some x->m h=some x/\h∈keys Lc:=by
  grind
 have abB:∀h x,h∈keys L0->m h=some x->ml h=some x:=λh x hh hx=>by grind
 have abC:∀h x,h∈keys Lc->m h=some x->mc h=some x:=λh x hh hx=>by grind
 have olm:∀b,own ml b->own m b:=λb ⟨h,x,hx,hb⟩=>⟨h,x,(IW h x hx).1,hb⟩
 have ocm:∀b,own mc b->own m b:=λb ⟨h,x,hx,hb⟩=>⟨h,x,(IX h x hx).1,hb⟩
 have abD:∀b,own ml b->own mc b->False:=by
  rintro b ⟨h,x,hx,hb⟩ ⟨h',x',cH,dn⟩;have:=hi.apart h h' x x' b (IW h x hx).1 (IX h' x' cH).1 hb dn;grind
 let gT:FO:=⟨λb=>fo.f b\/b=r,[],none,false⟩
 let foB:FO:=⟨λb=>(fo.f b\/b=r)\/own mc b,[],none,false⟩
 let fo2:FO:=⟨λb=>((fo.f b\/b=r)\/own mc b)\/b=l,[],none,false⟩
 have eW:∀b,own m b->b<w.heap.size:=λb ⟨h,x,hx,hb⟩=>hi.lt hx hb
 have hO2:∀b,b<w.heap.size->OO fo2 ml b->OO fo m b:=by
  rintro b hb (h|(((h|h)|h)|h))
  ·exact .inl (olm b h)
  ·exact .inr h
  ·omega
  ·exact .inl (ocm b h)
  ·omega
 have kj:bK w (OO fo m) w1:=⟨by omega,λb hb _=>hold b hb⟩
 have Pj:Inv fo2 ml L0 w1:=by
  refine⟨aju.1,λh x hx=>(IW h x hx).2,λh h' x x' b hx cH hb dn=>hi.apart h h' x x' b (IW h x hx).1 (IW h' x' cH).1 hb dn,?_,?_,?_,hi.ee.mono kj hO2⟩
  ·rintro h x b hx hb (((h'|h')|h')|h')
   ·exact hi.others h x b (IW h x hx).1 hb h'
   ·have:=hi.lt (IW h x hx).1 hb;omega
   ·exact abD b ⟨h,x,hx,hb⟩ h'
   ·have:=hi.lt (IW h x hx).1 hb;omega
  ·rintro b (((h'|h')|h')|h')
   ·have:=hi.ei b h';omega
   ·omega
   ·grind
   ·omega
  ·intro h q hq;obtain⟨x,hx,hh⟩:=hi.holds h q (hL0.mem_iff.2 (apD _ hq));have hk:h∈keys L0:=apf.2 ⟨_,hq,rfl⟩;exact⟨x,abB h x hk hx,(hh.on abB (YQ _ hq)).mono (λb hb=>hold b (hi.lt hx hb)) kj hO2 (λ_ _ e=>e)⟩
 let B:=ph r0 l fr (λst pd L=>st= .done/\∃c x,pd=some c/\DA pd x/\K x ⟨fr,L⟩)
 let A:Nat->Env:=λi=>ph r0 l fr (λst pd L=>(st= .ready/\pd=none/\dz L=dz L0)/\J i L)
 have Yg:∀h,h∈(dz L0).map (·.1)->h∈keys L0:=by
  intro h hh;obtain⟨p,hp,rfl⟩:=apf.1 hh;obtain⟨ty,cs,hm⟩:=ng (h:=p.1) (b:=p.2) hp;exact apf.2 ⟨_,hm,rfl⟩
 have aht:∀t y,(t,y)∈fr->aC w1 (OO fo2 ml) ml (r0.tmps.getD t undef) y:=λt y hy=>(((gG.fr t y (abA _ hy)).2.on (λh x hh hx=>abB h x (Yg h hh) hx) (hZ t y hy))).mono kj hO2 (λ_ _ e=>e)
 have ajv:¬foB.f l:=by
  rintro((h|h)|h)
  ·have:=hi.ei _ h;omega
  ·omega
  grind
 have hbB:Inv foB (one (x9 l L0 ml)) [(5003,.env (A 0))] w1:=
  ID (fo:=foB) (fo':=fo2) (λb h=> .inl h) (.inr rfl) ajv Pj ⟨⟨rfl,rfl,rfl⟩,hJ0⟩ Lx aht
 let m1:Nat->Option Value:=λh=>if h=5003 then some (x9 l L0 ml)else mc h
 have mg:∀h x,m1 h=some x->(h=5003/\x=x9 l L0 ml)\/(h≠5003/\mc h=some x):=by
  grind
 have Vx:∀h x,mc h=some x->m1 h=some x:=by
  grind
 have tV:=λb=>u2 (l:=l) (L:=L0) (m:=ml) Pj.fI b
 have afR:∀b,own m1 b↔(b=l\/own ml b)\/own mc b:=by
  intro b;constructor
  ·rintro⟨h,x,hx,hb⟩;rcases mg h x hx with⟨rfl,rfl⟩|⟨_,hx⟩
   ·grind
   ·exact .inr ⟨h,x,hx,hb⟩
  ·rintro(h|⟨h,x,hx,hb⟩)
   ·exact⟨5003,_,by rfl,(tV b).2 h⟩
   ·exact⟨h,x,Vx h x hx,hb⟩
 have ajw:∀b,OO gT m1 b↔OO foB (one (x9 l L0 ml)) b:=by
  grind[OO,J9]
 have Vy:∀b,b<w.heap.size->OO gT m1 b->OO fo m b:=by
  intro b hb ho;rcases ho with ho|ho
  ·rcases(afR b).1 ho with(rfl|h)|h
   ·omega
   ·exact .inl (olm b h)
   ·exact .inl (ocm b h)
  ·rcases ho with h|h
   ·exact .inr h
   ·omega
 have Il:Inv gT m1 ((5003,.env (A 0))::Lc) w1:=by
  refine⟨?_,?_,?_,?_,?_,?_,hi.ee.mono kj Vy⟩
  ·grind[keys,List.nodup_cons]
  ·intro h x hx;rcases mg h x hx with⟨rfl,_⟩|⟨_,hx⟩
   ·simp
   ·exact apl _ (IX h x hx).2
  ·intro h h' x x' b hx cH hb dn;rcases mg h x hx with⟨rfl,rfl⟩|⟨_,hx⟩<;>rcases mg h' x' cH with⟨rfl,rfl⟩|⟨_,cH⟩
   ·rfl
   ·rcases(tV b).1 hb with rfl|h1
    ·have:=hi.lt (IX h' x' cH).1 dn;omega
    ·exact(abD b h1 ⟨h',x',cH,dn⟩).elim
   ·rcases(tV b).1 dn with rfl|h1
    ·have:=hi.lt (IX h x hx).1 hb;omega
    ·exact(abD b h1 ⟨h,x,hx,hb⟩).elim
   ·exact hi.apart h h' x x' b (IX h x hx).1 (IX h' x' cH).1 hb dn
  ·intro h x b hx hb hf;rcases mg h x hx with⟨rfl,rfl⟩|⟨_,hx⟩
   ·rcases(tV b).1 hb with rfl|⟨i,z,hz,hzb⟩
    ·grind
    ·rcases hf with h|h
     ·exact hi.others i z b (IW i z hz).1 hzb h
     grind
   ·rcases hf with h'|h'
    ·exact hi.others h x b (IX h x hx).1 hb h'
    ·have:=hi.lt (IX h x hx).1 hb;omega
  ·rintro b (h|h)
   ·have:=hi.ei b h;omega
   ·omega
  ·intro h q hq;rcases apq.1 hq with e|hq
   ·simp only[ao7]at e;obtain⟨rfl,rfl⟩:=e;obtain⟨x,hx,hh⟩:=hbB.holds 5003 _ apo;have cH:x=x9 l L0 ml:=by grind[one]
    subst cH;exact⟨_,by rfl,hh.mono (λ_ _=>rfl) (bK.refl w1 _) (λb _ hb=>(ajw b).1 hb) (λi z hz=>by
     by_cases e:i=5003
     ·grind
     ·simp only[one,if_neg e]at hz;cases hz)⟩
   ·obtain⟨x,hx,hh⟩:=hi.holds h q (hL0.mem_iff.2 (apO _ hq));have hk:h∈keys Lc:=apf.2 ⟨_,hq,rfl⟩;exact⟨x,Vx h x (abC h x hk hx),((hh.on abC (hLc _ hq)).mono (λb hb=>hold b (hi.lt hx hb)) kj Vy Vx)⟩
 have pS:=iy l A B (λi x hx=>?_) (λhk w O x hA=>by obtain⟨st,pd,L,m,⟨-,hJ⟩,-⟩:=hA;grind)
 ·have oa:ir w1 (OO gT m1) m1 (#[.func (.yield l) #[] #[]]++ca) (yv l::eh):=by
   have h1:ir w1 (OO gT m1) m1 #[.func (.yield l) #[] #[]] [yv l]:=by
    refine⟨rfl,λj x y hx hy=>?_⟩
    match j with
    | 0=>
      simp only[apE,anc]at hy;have cH:x= .func (.yield l) #[] #[]:=by grind
      subst hy;subst cH;exact .d _ _ (.v _ rfl)
    | j+1=>grind
   refine h1.append (ys':=eh) ⟨s2,λj x y hx hy=>?_⟩;exact((g2 j x y hx hy).on abC (fS Vw y (ape hy))).mono kj Vy Vx
  have hc:=pS gT m1 w1 _ Il oa;refine GB (hc.mono ?_);rintro e w3 ⟨m',rr,L',⟨⟨y,rfl⟩,hL'⟩,zx,hi3,yb⟩;have ajx:¬own m1 r:=by
   grind
  have SS:w3.heap[r]?=some (.deferred (some [])):=by rw[yb.block r (by omega) ajx];omega
  have ahu:∀b,own m1 b->b=l\/own m b:=λb h=>by
   grind
  have fin:∀st pd L m2,st≠ .busy→w3.heap[l]?=some (.loop {r0 with state:=st,pending:=pd})→Inv ⟨fun b=>gT.f b∨b=l,[],none,false⟩ m2 L w3→(∀t y,(t,y)∈fr→aC w3 (OO ⟨fun b=>gT.f b∨b=l,[],none,false⟩ m2) m2 (r0.tmps.getD t undef) y)→(∀b,own m' b↔b=l∨own m2 b)→
    ∃w4,(Instr.endLoop l).run P w3= .ok pd w4/\G (fo.mark [r]) n m2 ⟨fr,L⟩ {a with defers:=[⟨.collected r,#[]⟩]++a.defers} w4/\Step w (own m) w4 (own m2)/\Marks fo.nm w w4 [r]:=by
   intro st pd L m2 bV sH DL OQ YS;have hl3:l<w3.heap.size:=(apn.1 sH).1;refine⟨nJ w3 l (.loop {r0 with state:= .exhausted,pending:=pd}),?_,?_,?_,?_⟩
   ·simp[Instr.endLoop,Instr.getLoop,Sem.run_bind,xV sH (by simp),Bf sH (by simp),bV]
   ·have g4:G (⟨λb=>gT.f b\/b=l,⟨.collected r,#[]⟩::fo.D,fo.r,fo.nm⟩:FO) n m2 ⟨fr,L⟩ {a with defers:=[⟨.collected r,#[]⟩]++a.defers} w3:=
     ⟨gG.size,λt y hy=>⟨(gG.fr t y (abA _ hy)).1,OQ t y hy⟩,⟨DL.nodup,DL.fI,DL.apart,DL.others,DL.ei,DL.holds,DL.ee⟩,by simp[gG.defers]⟩
    have g5:=g4.others (w':=nJ w3 l (.loop {r0 with state:= .exhausted,pending:=pd})) (by simp[jr,api]) (λb _ hb=>qV (λe=>hb (.inr e)));have jU:∀b,(fo.mark [r]).f b->(λb=>gT.f b\/b=l) b:=by
     rintro b (h|h)
     ·grind
     grind
    refine⟨g5.size,λt y hy=>⟨(g5.fr t y hy).1,(g5.fr t y hy).2.mono (bK.refl _ _) (λb _ hb=>hb.imp id (jU b)) (λ_ _ e=>e)⟩,g5.inv.less jU,?_⟩;simp[FO.mark,gG.defers]
   ·refine⟨?_,?_,?_,?_,λb hb ho=>?_,λb hb ho=>?_⟩
    ·show w3.os=w.os;exact yb.os
    ·show w3.tape=w.tape;exact yb.tape
    ·show w3.output=w.output;exact yb.output
    ·grind[jr]
    ·rw[qV (by omega),yb.block b (by omega) (λh=>(ahu b h).elim (λh=>by omega) ho)];grind
    ·have h1:=yb.owned b (by omega) ((YS b).2 (.inr ho));grind
   ·refine⟨⟨by simp,by grind⟩,λb hb=>?_⟩;obtain rfl:b=r:=by grind
    exact⟨api _,by grind[qV]⟩
  cases e with
  | returned v=>
    rcases hL' with rfl|rfl
    ·obtain⟨st,pd,L,m2,⟨⟨rfl,rfl,ob⟩,hJ⟩,sH,DL,OQ,YS,_⟩:=G8 hi3 [] none;obtain⟨w4,h1,h2,h3,h4⟩:=fin _ _ L m2 (by simp) sH DL OQ YS;exact⟨none,w4,h1,[r],m2,.normal,_,h4,last L hJ,h2,trivial,h3⟩
    ·obtain⟨st,pd,L,m2,⟨rfl,c,x,rfl,hj,hKx⟩,sH,DL,OQ,YS,_⟩:=G8 hi3 [] none;obtain⟨w4,h1,h2,h3,h4⟩:=fin _ _ L m2 (by simp) sH DL OQ YS;refine⟨some c,w4,h1,?_⟩;have hq:=hK x L hKx;show Code.wpIn (wr fo.r) 0 P c _ _ w4;cases c<;>cases x<;>simp only[DA]at hj
     all_goals first
      | exact wpIn_ret (show gi fo n m w Q .ret _ _ from⟨[r],m2,_,_,h4,hq,h2,trivial,h3⟩)
      | (subst hj;exact wpIn_exit (show gi fo n m w Q (.exit _) _ _ from⟨[r],m2,_,_,h4,hq,h2,rfl,h3⟩))
      | (subst hj;exact wpIn_goto (show gi fo n m w Q (.goto _) _ _ from⟨[r],m2,_,_,h4,hq,h2,rfl,h3⟩))
  | panicked ch=>grind[Ends]
  | outgrown=>grind[Ends]
 ·obtain⟨iR,Cr⟩:=II i x hx;refine MI (r0:=r0) (l:=l) (fr:=fr) (L0:=L0) (K:=K) IG gG.size iR SY Cr (λt y hy=>⟨(gG.fr t y (abA _ hy)).1,hZ t y hy⟩) (λst pd L h=>h.1) ?_ gz ?_
  ·rintro st pd L ⟨⟨rfl,rfl,ob⟩,hj⟩;obtain⟨L',Hn,h1,h2⟩:=round i x L hx hj;exact⟨L',Hn,λh=>⟨⟨⟨rfl,rfl,(h1 h).2⟩,(h1 h).1⟩,(h1 h).2⟩,h2⟩
  ·intro pd x' L hj ob hKx;cases pd with
   | none=>grind[DA]
   | some c=>grind
theorem av.uR{α:Type}{g}{ps}{assign body}{f}{eh}{ks}(hs ts:List Nat) l e(R:List α→List (Nat×aV))(H:List α→Prop)
  {KP} (iy:MV KP P f eh (s.L.filter λp=>hs.contains p.1) (l.map e)) (hg:s.ev g= .eS (.func f) [] eh) (he:enters P f=true) (Vw:V.dK (keys (s.L.filter λp=>hs.contains p.1)) eh=true)
  (IG:gm assign=false/\gm body=false) (II:∀x∈l,(e x).length=ps.size/\V.dK [] (e x)=true) (SY:ps.toList.all (λp=>decide (p<n))=true) (ht:ts.all (λt=>decide (t<n))=true)
  (h0:(keys (s.L.filter λp=>!hs.contains p.1)).Nodup/\((s.L.filter λp=>!hs.contains p.1).all (λp=>aV.on (keys (s.L.filter λp=>!hs.contains p.1)) p.2)=true/\(s.L.filter λp=>hs.contains p.1).all (λp=>aV.on (keys (s.L.filter λp=>hs.contains p.1)) p.2)=true/\(keys (s.L.filter λp=>hs.contains p.1)).contains 5003=false)/\(ts.all λt=>V.on ((dz (s.L.filter λp=>!hs.contains p.1)).map (·.1)) (eU t s.fr))=true/\(s.L.filter λp=>!hs.contains p.1)=IC (s.L.filter λp=>!hs.contains p.1) (R [])/\H [])
  (ob:∀pre,dz (IC (s.L.filter λp=>!hs.contains p.1) (R pre))=dz (s.L.filter λp=>!hs.contains p.1))
  (round:∀pre x post,l=pre++x::post->H pre->cW P n assign ⟨wL (ps.toList.zip (e x)) (ts.map λt=>(t,eU t s.fr)),IC (s.L.filter λp=>!hs.contains p.1) (R pre)⟩
   (cn P n (λ_ _=>False) [.inv (λs2=>cW P n body s2 (cn P n (IE (keys (s.L.filter λp=>!hs.contains p.1)) (s.L.filter λp=>!hs.contains p.1) (IC (s.L.filter λp=>!hs.contains p.1) (R (pre++ [x]))) (H (pre++ [x])) (ts.map λt=>(t,eU t s.fr)) (cn P n Q ks)) []))]))
  (last:H l->cn P n Q ks .normal ⟨ts.map λt=>(t,eU t s.fr),IC (s.L.filter λp=>!hs.contains p.1) (R l)⟩) (hKH:KP->¬H l:=by exact λh=>h.elim):av P n (.rangeFunc g ps assign body) s (cn P n Q ks):=by
 obtain⟨h1,h2,h3,h4,h5⟩:=h0
 let s1:St:=⟨(ts.map λt=>(t,eU t s.fr))++s.fr,s.L⟩
 have hw:Wk n s s1:=by
  intro fo m a w gG;refine⟨m,⟨gG.size,λt x hx=>?_,gG.inv,gG.defers⟩,Step.refl w _⟩;rcases apr.1 hx with hx|hx
  ·obtain⟨t',SJ,e⟩:=apf.1 hx;simp only[ao7]at e;obtain⟨rfl,rfl⟩:=e;rw[apd]at ht;refine⟨by grind,?_⟩;exact qQ gG t'
  ·exact gG.fr t x hx
 have ajy:∀t,eU t s1.fr=eU t s.fr:=by
  intro t;show eU t ((ts.map λt=>(t,eU t s.fr))++s.fr)=_;clear hw h2 h3 ht round last
  induction ts with
  | nil=>rfl
  | cons u ts ih=>
    simp_all
 have Pc:s1.ev g= .eS (.func f) [] eh:=by
  simp_all
 refine av.weaken hw ?_;refine av.aef (J:=λi L=>L=IC (s.L.filter λp=>!hs.contains p.1) (R (l.take i))/\H (l.take i)) (K:=cn P n Q ks) (s.L.filter λp=>!hs.contains p.1) (s.L.filter λp=>hs.contains p.1) (ts.map λt=>(t,eU t s.fr)) ((ap5 (λp=>hs.contains p.1) s.L).symm.trans List.perm_append_comm) (by grind) (λp hp=>apd.1 h2.2.1 p hp) (λp hp=>apd.1 h2.1 p hp) (λp hp=>apD _ hp) Pc he Vw iy IG ?_ ?_ h1 ?_ (λhk L h=>hKH hk (by grind)) ?_ ?_ ?_ ?_ ?_
 ·grind
 ·grind
 ·grind
 ·grind
 ·grind
 ·rintro i x L hx ⟨rfl,hH⟩;rw[apc]at hx;obtain⟨z,hz,rfl⟩:=ao8.1 hx;have au:i<l.length:=(apa.1 hz).1;have bu:l=l.take i++z::l.drop (i+1):=by
   grind[List.drop_eq_getElem_cons,List.getElem?_eq_getElem,Option.some.injEq,List.take_append_drop]
  have xO:l.take (i+1)=l.take i++ [z]:=by grind
  refine⟨IC (s.L.filter λp=>!hs.contains p.1) (R (l.take i++ [z])),H (l.take i++ [z]),λh=>⟨by grind,ob _⟩,?_⟩;have hr:=round _ z _ bu hH;exact hr
 ·rintro L ⟨rfl,hH⟩;rw[apx,apM]at *;exact last hH
 ·intro x L h;exact h
end
section
variable {P : Program} {n : Nat} {s : St} {Q : AX -> St -> Prop} {ops : Array Oper}
theorem ay.adb{o:Oper}{rest}{x y}{t e ty}{kc}{xs}(aD:o.op= .binOp .eql t x y ty)(ht:nC P t=some (e,kc))(hx:s.ev x= .d (.sl xs))(hy:s.ev y= .d (.v (.slice none 0 0)))(hg:o.guard=none)(hd:∀d,o.dst=some d→d < n)
  (k:∀b:Bool,(b=true->xs=[])->ay P n ops rest (s.put o.dst (oD b)) Q):ay P n ops (o::rest) s Q:=by
 intro fo m0 w0 m a w st g;have hu:P.underlying t=some (.slice e):=by
  grind[nC,Option.map_eq_some_iff,Prod.mk.injEq]
 have h1:=ck g x;rw[hx]at h1;obtain⟨ad,cap,hv,_,_,kk,b,off,f,ha,_⟩:=h1.kU.oL;have h2:=ck g y;rw[hy]at h2;have K9:=h2.cy;unfold wpListIn;rw[if_pos (by simp[Region.wanted,hg])];have bz:(execOp a.eval o).run P w= .ok (.value (.bool ad.isNone)) w:=by
  simp_all[Lib.run_eql_slice_nil,execOp,eqGuard]
 refine xb bz (.inl rfl) ?_;refine k ad.isNone (λhb=>?_) fo m0 w0 m _ w st (g.put hd (.d _ _ (.v _ rfl)));grind
theorem afS ks(ty k:Nat) ys:aV.on ks (.row ty k (dd ys))=true:=by
 simp
theorem aE.abE{f}{args}{L}{ys}{ty}{k} h
  (hyp:aE P f args L (λr L'=>(r= .ret (.d (.v (.slice none 0 0)))/\L'=[]/\ys=[])\/(∃g,r= .ret (.rv g)/\L'=[(g,.row ty k (dd ys))]))):
  aE P f args L (λr L'=>r= .ret (.rv h)/\L'=[(h,.row ty k (dd ys))]):=by
 intro fo m w xs hi hx;refine(hyp fo m w xs hi hx).mono ?_;rintro e w' ⟨m',r,L',hR,he,cm,st⟩;rcases hR with⟨rfl,rfl,rfl⟩|⟨g,rfl,rfl⟩
 ·cases e with
  | returned v=>
    obtain rfl:=he.cy;have ajz:=cm.new (h:=h) (by simp) (x:= .slice none 0 0) (r:= .row ty k []) (api _) (λ_ _=>rfl) (by simp[dq,jJ]) (.inl ⟨rfl,rfl⟩);refine⟨_,_,_,⟨rfl,rfl⟩,.rv h _ (cq _ _) rfl,by simpa using ajz,⟨st.os,st.tape,st.output,st.size,st.block,λb hb ho=>st.owned b hb ?_⟩⟩;obtain⟨i,y,hy,ya⟩:=ho;by_cases kJ:i=h
    ·subst kJ;rw[cq]at hy;grind[dq,jJ]
    ·rw[ez _ kJ]at hy;exact⟨i,y,hy,ya⟩
  | panicked c=>simp_all[Ends]
  | outgrown=>simp_all[Ends]
 ·cases e with
  | returned v=>
    have hv:m' g=some v/\v.oneCell'=true:=by
     cases he with
     | rv _ _ e e1=>grind
    let m2:Nat->Option Value:=λi=>if i=h then some v else none
    have tC:∀i x,m2 i=some x->i=h/\x=v:=by
     grind
    have eW:∀b,own m2 b->own m' b:=by
     rintro b ⟨i,x,hx,hb⟩;obtain⟨rfl,rfl⟩:=tC i x hx;exact⟨g,_,hv.1,hb⟩
    have hO:∀b,OO fo m2 b->OO fo m' b:=λb hb=>hb.imp (eW b) id
    refine⟨m2,_,_,⟨rfl,rfl⟩,.rv h v (by grind) hv.2,⟨by simp,?_,?_,?_,cm.ei,?_,cm.ee.mono (bK.refl w' _) (λb _ hb=>hO b hb)⟩,⟨st.os,st.tape,st.output,st.size,st.block,λb hb ho=>st.owned b hb (eW b ho)⟩⟩
    ·intro i x hx;obtain⟨rfl,_⟩:=tC i x hx;simp
    ·grind
    ·intro i x b hx hb;obtain⟨rfl,rfl⟩:=tC i x hx;exact cm.others g _ b hv.1 hb
    ·intro i q hq;simp only[aqJ,ao7]at hq;obtain⟨rfl,rfl⟩:=hq;obtain⟨z,hz,hh⟩:=cm.holds g _ apo;rw[hv.1]at hz;obtain rfl:=ao9 hz;exact⟨v,by grind,(hh.on (ks:=[]) (m':=m2) (by simp) (afS [] ty k ys)).mono (λ_ _=>rfl) (bK.refl w' _) (λb _ hb=>hO b hb) (λ_ _ e=>e)⟩
  | panicked c=>simp_all[Ends]
  | outgrown=>simp_all[Ends]
theorem aE.wk{f args L R R'}(h:aE P f args L R)(hw:∀r L',R r L'->∃x x2 L2,r= .ret x/\Wk 1 ⟨[(0,x)],L'⟩ ⟨[(0,x2)],L2⟩/\R' (.ret x2) L2):aE P f args L R':=by
 intro fo m w xs hi hx;refine(h fo m w xs hi hx).mono ?_;rintro e w' ⟨m',r,L',hR,he,cm,st⟩;obtain⟨x,x2,L2,rfl,hwk,hR'⟩:=hw r L' hR;cases e with
 | returned v=>
   simp[Ends]at he;have g:G fo 1 m' ⟨[(0,x)],L'⟩ {tmps:= #[v],defers:=fo.D} w':=by
    refine⟨rfl,λt y hy=>?_,cm,rfl⟩;simp_all
   obtain⟨m2,g2,oS⟩:=hwk fo m' _ w' g;exact⟨m2,_,L2,hR',(g2.fr 0 x2 apo).2,g2.inv,st.trans oS⟩
 | panicked c=>simp_all[Ends]
 | outgrown=>simp_all[Ends]
end
theorem ia(h:Nat)(l:List Int)(hl:l.length *8<=140737488355328):aE prog 34 [.d (.sl (aA l))] [] (λr L=>r= .ret (.rv h)/\L=[(h,.row 3 1 (dd (aA l)))]):=by
 refine aE.abE h ?_;refine aE.run func34 rfl (by simp[f34]) ?_;simp[f34];refine ay.adb rfl (by simp;exact⟨rfl,rfl⟩) rfl rfl rfl (by simp) ?_;intro b hb;refine ay.nil ?_;cases b with
 | true=>
   have hl:l=[]:=by have:=hb rfl;simpa[aA]using this
   subst hl;simp[-cB,aA]
 | false=>
   simp[-cB];exact hl
theorem dM(w:aj)(x:Int):Pure prog 209 [.agg (w.enc.map .d),iD x] (oD (bU w.ah.length x)):=by
 refine rn func209 ?_;simp[-cB,f209];simp[bU]
def Kk(w:aj)(x:Int):aI:=[(5201,.box 0 34 (w.enc.map .d)),(5202,.box 0 3 [iD x])]
theorem YT(w:aj)(x:Int):aE prog 243 [.agg (w.enc.map .d),iD x] [] (λr L=>r= .ret (.eS (.func 277) [] [.bp 5201 0,.bp 5202 0])/\L=Kk w x):=by
 refine aE.wk (R:=λr L=>r= .ret (.eS (.func 277) [] [.bp 2 0,.bp 3 0])/\∃b2 b3,L=[(3,.box b3 3 [iD x]),(2,.box b2 34 (w.enc.map .d))]) ?_ ?_
 ·refine aE.run func243 rfl (by simp[f243]) ?_;simp[f243]
 ·rintro r L ⟨rfl,b2,b3,rfl⟩;refine⟨_,_,_,rfl,((Wk.yZ [2,3]).trans ((Wk.eB 2 5201 (by simp[keys])).trans ((Wk.eB 3 5202 (by simp[keys])).trans (Wk.pick [0] [5201,5202] (by simp) (by decide) ?_)))),?_⟩
  ·simp
  ·simp[Kk,St.pick]
theorem Tb(w:aj)(hw:w.wf)(x:Int):Iter prog 277 [.bp 5201 0,.bp 5202 0] (Kk w x) ((ik w.tree x).map λi=> [iD i]):=by
 intro l A B hy _;have hl:=aj.fX hw;have e1:w.tree.bn=w.ah:=rfl;unfold ik at hy⊢;rw[e1]at hy⊢;unfold Kk;generalize mh:bI w.ah w.ah.length w.ah.length x=ch at *;refine aE.vT [5003] (by simp) func277 rfl (by simp[f277]) ?_;simp[f277];refine av.cJ [0,1,2,4] w.ah.length (λi=> [(4,iD ((w.ah.length:Int)-i))]) (λi=> [(5003,.env (A i)),(5202,.box 0 3 [iD (cw w.ah i x)])]) (λi=>∀j<i,bU w.ah.length (cw w.ah j x)=true) (by rfl) (by simp[cw]) ?_;intro i hi hH;have hs:=fy w.ah i x;have lY:=Bs w.ah i x;rcases apg hi with au|rfl
 ·have a4:aM .i64 ((w.ah.length:Int)-i-1):=iW;cases hT:bU w.ah.length (cw w.ah i x)with
  | false=>
    have bV:=fi hH (.inl hT) hi;rw[mh]at bV;simp[-cB];refine pC (dM w _) ?_;simp[-cB,hT];refine ay.guarded (b:=false) (x:=oD false) rfl (by simp) (λh=>by cases h) ?_;refine bq _ _ [] (by rfl) ?_;simp[-cB,bV,lY]
  | true=>
    have hg:=ni hT;have nV:=eo hT;have hb:=aY.1 hT;have jY:∀j<i+1,bU w.ah.length (cw w.ah j x)=true:=λj hj=>by
     rcases apJ j i with h|h
     ·exact hH j h
     ·rw[show j=i by omega];exact hT
    have S7:ch[i]?=some (cw w.ah i x):=by
     have:=vJ w.ah w.ah.length (i+1) (w.ah.length-(i+1)) x jY;rw[show i+1+(w.ah.length-(i+1))=w.ah.length by omega,mh]at this;rw[this,apQ (by simp)];simp
    have N4:rY prog l [iD (cw w.ah i x)] [(5003,.env (A i))] (YR (A (i+1)) B):=hy i _ (by rw[apc,S7];rfl);simp[-cB];refine pC (dM w _) ?_;simp[-cB,hT,au];refine ay.Yz ((λ_:true=true=>N4)) rfl (by simp) (by simp) (by simp[qT]) (by simp) (by simp) rfl (by simp[keys]) rfl (by simp) (by simp) ?_ ?_ ?_
    ·intro _ bL;simp[-cB,List.filter,hs,hg,nV,a4];exact⟨by omega,au,by omega,jY⟩
    ·intro _ bL;simp[-cB,List.filter]
    ·intro hr;cases hr
 ·have bV:=fi hH (.inr rfl) hi;rw[mh]at bV;simp[-cB];refine pC (dM w _) ?_;simp[-cB];refine ay.guarded (b:=false) (x:=oD false) rfl (by simp) (λh=>by cases h) ?_;refine bq _ _ [] (by rfl) ?_;simp[-cB,bV,lY]
theorem IY(w:aj)(hw:w.wf)(x:Int):Pure prog 198 [.agg (w.enc.map .d),iD x] (iD (dj w.tree x)):=by
 unfold dj;have iy:=Tb w hw x;have hu:=YT w x;unfold Kk at iy hu;generalize ik w.tree x=us at *;refine rn func198 ?_;simp[-cB,f198];intro bs K6;refine eD [] hu ?_;simp[-cB];refine av.uR [5201,5202] [5] us (λi=> [iD i]) (λpre=> [(5,.box (K6 0+1) 3 [iD (pre.getLastD 0)])]) (λ_=>True) (by simpa[List.filter]using iy) rfl (by simp) (by simp[List.filter]) (by simp[gm]) (by simp) (by rfl) (by rfl) (by simp[List.filter]) (by simp[List.filter]) ?_ ?_
 ·rintro pre y post bu -;simp[-cB,List.filter]
 ·intro _;simp[-cB,List.filter]
theorem YU(w:aj)(hw:w.wf)(x y:Int):Pure prog 283 [.agg (w.enc.map .d),iD x,iD y] (oD (decide (y∈ik w.tree x))):=by
 have iy:=Tb w hw x;have hu:=YT w x;unfold Kk at iy hu;generalize ik w.tree x=us at *;refine rn func283 ?_;simp[-cB,f283];intro bs;refine eD [] hu ?_;simp[-cB];refine av.uR [5201,5202] [5,6] us (λi=> [iD i]) (λpre=> []) (λpre=>y∉pre) (by simpa[List.filter]using iy) rfl (by simp) (by simp[List.filter]) (by simp[gm]) (by simp) (by rfl) (by rfl) (by simp[List.filter]) (by simp[List.filter]) ?_ ?_
 ·rintro pre z post bu hH;by_cases hz:z=y
  ·subst hz;simp[-cB,List.filter,bu]
  ·simp[-cB,List.filter,hz,hH];exact λh=>hz h.symm
 ·intro hH;simp[-cB,List.filter,hH]
section
variable {P : Program} {n : Nat} {s : St} {Q : AX -> St -> Prop} {L : aI}
theorem ay.jh{ops}{o:Oper}{rest}{c}{f}{args}{L1 L2:aI}{R} fr(hg:o.guard=none)(hd:∀d,o.dst=some d→d < n)
  (aD:o.op= .call c) (hc:callee s.ev c=some (f,args)) (he:enters P f=true) (ho:V.dK (keys L1) args=true) (hL:s.L.Perm (L1++L2)) (ig:L1.all (λp=>aV.on (keys L1) p.2)=true)
  (hZ:∀p∈fr,p∈s.fr/\V.on (keys L2++(L1.filterMap λp=>match p.2 with|.box (_+1) _ _=>some p.1|_=>none)) p.2=true)
  (iT:∀p∈L2,aV.on (keys L2++(L1.filterMap λp=>match p.2 with|.box (_+1) _ _=>some p.1|_=>none)) p.2=true)
  (h:aE P f args L1 R)
  (qY:∀r br,R r br->(∃x,r= .ret x)/\(∀k∈keys br,k∉keys L2)/\∀k b ty cs,(k,aV.box (b+1) ty cs)∈L1->∃mf jB,(k,aV.box (b+1) mf jB)∈br)
  (k:∀x br,R (.ret x) br->ay P n ops rest (St.put ⟨fr,br++L2⟩ o.dst x) Q):ay P n ops (o::rest) s Q:=by
 intro fo m0 w0 m a w st g;unfold wpListIn;rw[if_pos (by simp[Region.wanted,hg])];refine zg aD hc he ho hL ig iT h qY g λx br mm v w' hR wm hinv qk gS cQ tj=>?_
 have g':G fo n mm ⟨fr,br++L2⟩ a w':=⟨g.size,λt y hy=>by
  obtain⟨q0,q3⟩:=hZ _ hy;obtain⟨q1,q2⟩:=g.fr t y q0;exact⟨q1,(q2.on gS q3).mono cQ tj (λ_ _ e=>e)⟩,hinv,g.defers⟩
 exact k x br hR fo m0 w0 mm _ w' (st.trans qk) (g'.put hd wm)
theorem ay.afT{ops}{o:Oper}{rest}{c}{f}{args}{L1 br}{x}(hs:List Nat)(aD:o.op= .call c)(h:aE P f args L1 (fun r L=>r= .ret x∧L=br))(hc:callee s.ev c=some (f,args))(hg:o.guard=none)
  (hd:∀d,o.dst=some d->d<n) (hr:dG n rest=true) (he:enters P f=true) (hL:s.L.filter (λp=>hs.contains p.1)=L1)
  (ho:V.dK (keys L1) args=true/\L1.all (λp=>aV.on (keys L1) p.2)=true/\L1.all (λp=>match p.2 with|.box (_+1) _ _=>false|_=>true)=true)
  (iT:(s.L.filter λp=>!hs.contains p.1).all (λp=>aV.on (keys (s.L.filter λp=>!hs.contains p.1)) p.2)=true)
  (hk:(keys br).all (λk=>!(keys (s.L.filter λp=>!hs.contains p.1)).contains k)=true)
  (k:∀bs,eM P ops rest (St.put ⟨s.fr.filter λp=>V.on (keys (s.L.filter λp=>!hs.contains p.1)) p.2,br++s.L.filter λp=>!hs.contains p.1⟩ o.dst x) bs [] (KK P n ops Q)):ay P n ops (o::rest) s Q:=by
 have hb:(L1.filterMap λp=>match p.2 with|.box (_+1) _ _=>some p.1|_=>none)=[]:=by
  grind[List.filterMap_eq_nil_iff,List.all_eq_true]
 refine ay.jh (s.fr.filter λp=>V.on (keys (s.L.filter λp=>!hs.contains p.1)) p.2) hg hd aD hc he ho.1 (by subst hL;exact(ap5 _ s.L).symm) ho.2.1 ?_ ?_ h ?_ ?_
 ·grind
 ·grind
 ·grind
 ·rintro x' uW ⟨e,rfl⟩;obtain rfl:=AE.ret.inj e;exact bq rest _ [] hr k
end
def qu(w:aj)(x:Int):aI:=[(5201,.box 0 34 (w.enc.map .d)),(5202,.box 0 3 [iD x])]
theorem Gb(w:aj)(x:Int):aE prog 245 [.agg (w.enc.map .d),iD x] [] (λr L=>r= .ret (.eS (.func 279) [] [.bp 5201 0,.bp 5202 0])/\L=qu w x):=by
 refine aE.wk (R:=λr L=>r= .ret (.eS (.func 279) [] [.bp 2 0,.bp 3 0])/\∃b2 b3,L=[(3,.box b3 3 [iD x]),(2,.box b2 34 (w.enc.map .d))]) ?_ ?_
 ·refine aE.run func245 rfl (by simp[f245]) ?_;simp[f245]
 ·rintro r L ⟨rfl,b2,b3,rfl⟩;refine⟨_,_,_,rfl,((Wk.yZ [2,3]).trans ((Wk.eB 2 5201 (by simp[keys])).trans ((Wk.eB 3 5202 (by simp[keys])).trans (Wk.pick [0] [5201,5202] (by simp) (by decide) ?_)))),?_⟩
  ·simp
  ·simp[qu,St.pick]
theorem DM(w:aj)(hw:w.wf)(hC:w.Child.length=w.ah.length)(hN:w.Next.length=w.ah.length)(x:Int):Iter prog 279 [.bp 5201 0,.bp 5202 0] (qu w x) ((bw w.tree x).map λi=> [iD i]):=by
 intro l A B hy _;have hl:=aj.fX hw;have e1:w.tree.bn=w.ah:=rfl;have e2:w.tree.gn=w.Child:=rfl;have e3:w.tree.gq=w.Next:=rfl;unfold bw at hy⊢;rw[e1,e2,e3]at hy⊢;unfold qu;cases hx:bU w.ah.length x with
 | false=>
   simp only[hx]at hy⊢;refine aE.vT [5003] (by simp) func279 rfl (by simp[f279]) ?_;simp[f279];refine pC (dM w _) ?_;simp[hx]
 | true=>
   simp only[hx,if_true]at hy⊢;generalize hc:aH w.Child x=c at *;generalize mh:bI w.Next w.ah.length w.ah.length c=ch at *;refine aE.vT [5003] (by simp) func279 rfl (by simp[f279]) ?_;simp[f279];refine pC (dM w _) ?_;simp[-cB,hx];have SH:=aY.1 hx;have hg0:w.Child[x.toNat]?.getD 0=c:=by rw[<-hc];exact eo (by rw[hC];exact hx)
   refine⟨⟨by omega,by omega⟩,?_⟩;rw[hg0];refine av.cJ [0,1,4,5] w.ah.length (λi=> [(4,iD ((w.ah.length:Int)-i)),(5,iD (cw w.Next i c))]) (λi=> [(5003,.env (A i))]) (λi=>∀j<i,bU w.ah.length (cw w.Next j c)=true) (by rfl) (by simp[cw]) ?_;intro i hi hH;have hs:=fy w.Next i c;have lY:=Bs w.Next i c;rcases apg hi with au|rfl
   ·have a4:aM .i64 ((w.ah.length:Int)-i-1):=iW;cases hT:bU w.ah.length (cw w.Next i c)with
    | false=>
      have bV:=fi hH (.inl hT) hi;rw[mh]at bV;simp[-cB];refine pC (dM w _) ?_;simp[-cB,hT];refine ay.guarded (b:=false) (x:=oD false) rfl (by simp) (λh=>by cases h) ?_;refine bq _ _ [] (by rfl) ?_;simp[-cB,bV,lY]
    | true=>
      have YV:bU w.Next.length (cw w.Next i c)=true:=by rw[hN];exact hT
      have hg:=ni YV;have nV:=eo YV;have hb:=aY.1 hT;have jY:∀j<i+1,bU w.ah.length (cw w.Next j c)=true:=λj hj=>by
       rcases apJ j i with h|h
       ·exact hH j h
       ·rw[show j=i by omega];exact hT
      have S7:ch[i]?=some (cw w.Next i c):=by
       have:=vJ w.Next w.ah.length (i+1) (w.ah.length-(i+1)) c jY;rw[show i+1+(w.ah.length-(i+1))=w.ah.length by omega,mh]at this;rw[this,apQ (by simp)];simp
      have N4:rY prog l [iD (cw w.Next i c)] [(5003,.env (A i))] (YR (A (i+1)) B):=hy i _ (by rw[apc,S7];rfl);simp[-cB];refine pC (dM w _) ?_;simp[-cB,hT,au];refine ay.Yz ((λ_:true=true=>N4)) rfl (by simp) (by simp) (by simp[qT]) (by simp) (by simp) rfl (by simp[keys]) rfl (by simp) (by simp) ?_ ?_ ?_
      ·intro _ bL;simp[-cB,List.filter,hs,hg,nV,a4];exact⟨by omega,au,by omega,jY⟩
      ·intro _ bL;simp[-cB,List.filter]
      ·intro hr;cases hr
   ·have bV:=fi hH (.inr rfl) hi;rw[mh]at bV;simp[-cB];refine pC (dM w _) ?_;simp[-cB];refine ay.guarded (b:=false) (x:=oD false) rfl (by simp) (λh=>by cases h) ?_;refine bq _ _ [] (by rfl) ?_;simp[-cB,bV,lY]
theorem Pk(f:FuncId)(he:enters prog f=true)(xs:List Int)(Al:xs.length *8≤140737488355328)(w:aj)(x:Int)(iy:Iter prog f [.bp 5201 0,.bp 5202 0] (qu w x) (xs.map fun i=> [iD i])):
  aE prog 278 [.d (.v (.slice none 0 0)),.eS (.func f) [] [.bp 5201 0,.bp 5202 0]] (qu w x) (λr L=>r= .ret (.rv 40)/\L=[(40,.row 3 1 (dd (aA xs)))]):=by
 unfold qu at iy⊢;refine aE.wk (R:=λr L=>r= .ret (.rv 40)/\∃b2,L=[(40,.row 3 1 (dd (aA xs))),(2,.box b2 23 [.rv 40])]) ?_ ?_
 ·refine aE.run func278 rfl (by simp[f278]) ?_;simp[f278];intro bs;refine av.weaken (Wk.qh (e:=3) (k:=1) 2 0 40 rfl rfl (by simp[keys])) ?_;simp[-cB];refine av.uR [5201,5202] [2] xs (λi=> [iD i]) (λpre=> [(40,.row 3 1 (dd (aA pre)))]) (λpre=>True) (by simpa[List.filter]using iy) rfl he (by simp[List.filter]) (by simp[gm]) (by simp) (by rfl) (by rfl) (by simp[List.filter,aA]) (by simp[List.filter]) ?_ ?_
  ·rintro pre z post bu hH;have ajA:(pre.length+1) *8<=140737488355328:=by
    rw[bu]at Al;simp at Al;omega
   simp[-cB,List.filter,ajA,aA,dd]
  ·intro hH;simp[-cB,List.filter]
 ·rintro r L ⟨rfl,b2,rfl⟩;refine⟨_,_,_,rfl,((Wk.yZ []).trans (Wk.pick [0] [40] (by simp) (by decide) ?_)),?_⟩
  ·simp[dd,aA]
  ·simp[St.pick]
theorem Vz(f:FuncId)(he:enters prog f=true)(xs:List Int)(Al:xs.length *8≤140737488355328)(w:aj)(x:Int)(iy:Iter prog f [.bp 5201 0,.bp 5202 0] (qu w x) (xs.map fun i=> [iD i])):
  aE prog 244 [.eS (.func f) [] [.bp 5201 0,.bp 5202 0]] (qu w x) (λr L=>r= .ret (.rv 40)/\L=[(40,.row 3 1 (dd (aA xs)))]):=by
 have ha:=Pk f he xs Al w x iy;clear iy;unfold qu at ha⊢;refine aE.run func244 rfl (by simp[f244]) ?_;simp[f244];refine ay.afT [5201,5202] rfl (ha) (by simp) rfl (by simp) rfl (by kernel_rfl) (by first|rfl|simp) (by simp) (by simp) (by simp) ?_;simp[-cB]
theorem Gc(w:aj)(hw:w.wf)(hC:w.Child.length=w.ah.length)(hN:w.Next.length=w.ah.length)(x:Int):Pure prog 200 [.agg (w.enc.map .d),iD x] (.d (.sl (aA (bw w.tree x)))):=by
 have hl:=aj.fX hw;have hk:=Gb w x;have Al:(bw w.tree x).length *8<=140737488355328:=by
  unfold bw;have h1:(bI w.tree.gq w.tree.bn.length w.tree.bn.length (aH w.tree.gn x)).length<=w.ah.length:=wM _ _ _ _;split
  ·omega
  ·simp
 have hc:=Vz 279 (by kernel_rfl) _ Al w x (DM w hw hC hN x);unfold qu at hk hc;generalize bw w.tree x=ks at *;refine rn func200 ?_;simp[-cB,f200];intro bs;refine eD [] hk ?_;simp[-cB];refine ay.afT [5201,5202] rfl (hc) (by simp) rfl (by simp) rfl (by kernel_rfl) (by first|rfl|simp) (by simp) (by simp) (by simp) ?_;simp[-cB]
def eE(w:aj):List V:=[.rv 70,.rv 71,.rv 72,.rv 73,.rv 74,.rv 75,.rv 76,.d (.v (.int .u64 w.cL)),iD w.Score,iD w.jx,iD w.ij,iD w.It,iD w.Go]
def gC(w:aj):aI:=[(76,.row 3 1 (dd (aA w.bc))),(75,.row 3 1 (dd (aA w.aJ))),(74,.row 3 1 (dd (aA w.Flags))),(73,.row 3 1 (dd (aA w.Next))),(72,.row 3 1 (dd (aA w.Child))),(71,.row 3 1 (dd (aA w.ah))),(70,.row 3 1 (dd (aA w.aP)))]
def nB(w:aj)(b0 b1 i:Nat):St:=⟨[(12,.rv 12),(13,iD 7),(14,iD i),(1,.bp 1 0),(2,.bp 2 0)],
 (gC w).drop (7-i)++ [(12,.row 276 1 [[.bp 1 0],[.bp 1 1],[.bp 1 2],[.bp 1 3],[.bp 1 4],[.bp 1 5],[.bp 1 6]]),(2,.box b1 34 (List.replicate 7 (.d (.v (.slice none 0 0)))++ .d (.v (.int .u64 0))::List.replicate 5 (iD 0))),(1,.box b0 34 ((eE w).take i++(w.enc.map .d).drop i))]⟩
theorem abF(w:aj)(hw:w.wf):aE prog 305 [.agg (w.enc.map .d)] [] (λr L=>r= .ret (.agg (eE w))/\∃b0 b1,L=[(76,.row 3 1 (dd (aA w.bc))),(75,.row 3 1 (dd (aA w.aJ))),(74,.row 3 1 (dd (aA w.Flags))),(73,.row 3 1 (dd (aA w.Next))),(72,.row 3 1 (dd (aA w.Child))),(71,.row 3 1 (dd (aA w.ah))),(70,.row 3 1 (dd (aA w.aP))),(12,.row 276 1 [[.bp 1 0],[.bp 1 1],[.bp 1 2],[.bp 1 3],[.bp 1 4],[.bp 1 5],[.bp 1 6]]),(2,.box b1 34 (eE w)),(1,.box b0 34 (eE w))]):=by
 have h0:=aj.ow hw;have h1:=aj.fX hw;have h2:=aj.OK hw;have h3:=aj.SU hw;have h4:=aj.OL hw;have h5:=aj.ou hw;have h6:=aj.Ln hw;refine aE.run func305 rfl (by simp[f305]) ?_;simp[f305];intro bs;refine av.ahf 7 (nB w (bs 0+1) (bs 1+1)) (λ_=>True) ⟨trivial,?_⟩ ?_
 ·exact Wk.pick [12,13,14,1,2] [12,2,1] rfl (by simp) rfl
 intro i hi _;rcases(by omega:i=0\/i=1\/i=2\/i=3\/i=4\/i=5\/i=6\/i=7)with rfl|rfl|rfl|rfl|rfl|rfl|rfl|rfl
 ·simp[-cB,cellAt,nB,gC,eE,aj.enc,List.replicate];refine ay.u1 [] rfl (ia 70 w.aP (by omega)) (by simp) rfl (by simp) rfl (by kernel_rfl) (by simp) (by simp) (by simp) (by simp) (by simp) ?_;simp[-cB,nB,gC,eE,aj.enc,List.replicate];exact⟨iW,Wk.pick [12,13,14,1,2] [70,12,2,1] rfl (by simp) (by simp)⟩
 ·simp[-cB,cellAt,nB,gC,eE,aj.enc,List.replicate];refine ay.u1 [] rfl (ia 71 w.ah (by omega)) (by simp) rfl (by simp) rfl (by kernel_rfl) (by simp) (by simp) (by simp) (by simp) (by simp) ?_;simp[-cB,nB,gC,eE,aj.enc,List.replicate];exact⟨iW,Wk.pick [12,13,14,1,2] [71,70,12,2,1] rfl (by simp) (by simp)⟩
 ·simp[-cB,cellAt,nB,gC,eE,aj.enc,List.replicate];refine ay.u1 [] rfl (ia 72 w.Child (by omega)) (by simp) rfl (by simp) rfl (by kernel_rfl) (by simp) (by simp) (by simp) (by simp) (by simp) ?_;simp[-cB,nB,gC,eE,aj.enc,List.replicate];exact⟨iW,Wk.pick [12,13,14,1,2] [72,71,70,12,2,1] rfl (by simp) (by simp)⟩
 ·simp[-cB,cellAt,nB,gC,eE,aj.enc,List.replicate];refine ay.u1 [] rfl (ia 73 w.Next (by omega)) (by simp) rfl (by simp) rfl (by kernel_rfl) (by simp) (by simp) (by simp) (by simp) (by simp) ?_;simp[-cB,nB,gC,eE,aj.enc,List.replicate];exact⟨iW,Wk.pick [12,13,14,1,2] [73,72,71,70,12,2,1] rfl (by simp) (by simp)⟩
 ·simp[-cB,cellAt,nB,gC,eE,aj.enc,List.replicate];refine ay.u1 [] rfl (ia 74 w.Flags (by omega)) (by simp) rfl (by simp) rfl (by kernel_rfl) (by simp) (by simp) (by simp) (by simp) (by simp) ?_;simp[-cB,nB,gC,eE,aj.enc,List.replicate];exact⟨iW,Wk.pick [12,13,14,1,2] [74,73,72,71,70,12,2,1] rfl (by simp) (by simp)⟩
 ·simp[-cB,cellAt,nB,gC,eE,aj.enc,List.replicate];refine ay.u1 [] rfl (ia 75 w.aJ (by omega)) (by simp) rfl (by simp) rfl (by kernel_rfl) (by simp) (by simp) (by simp) (by simp) (by simp) ?_;simp[-cB,nB,gC,eE,aj.enc,List.replicate];exact⟨iW,Wk.pick [12,13,14,1,2] [75,74,73,72,71,70,12,2,1] rfl (by simp) (by simp)⟩
 ·simp[-cB,cellAt,nB,gC,eE,aj.enc,List.replicate];refine ay.u1 [] rfl (ia 76 w.bc (by omega)) (by simp) rfl (by simp) rfl (by kernel_rfl) (by simp) (by simp) (by simp) (by simp) (by simp) ?_;simp[-cB,nB,gC,eE,aj.enc,List.replicate];exact⟨iW,Wk.pick [12,13,14,1,2] [76,75,74,73,72,71,70,12,2,1] rfl (by simp) (by simp)⟩
 ·simp[-cB,nB,gC,eE,aj.enc,List.replicate]
theorem aeg(w:aj)(hw:w.wf):aE prog 305 [.agg (w.enc.map .d)] [] (λr L=>r= .ret (.agg (eE w))/\L=gC w):=by
 refine aE.wk (abF w hw) ?_;rintro r L ⟨rfl,b0,b1,rfl⟩;refine⟨_,_,_,rfl,Wk.pick [0] [76,75,74,73,72,71,70] (by simp) (by decide) ?_,?_⟩
 ·simp[eE,dd]
 ·simp[gC,eE,St.pick]
theorem lu{l:List Int}{x:Int}(hx:0<=x/\x<l.length)(v y:Int):aH (l.set x.toNat v) y=if y=x then v else aH l y:=by
 unfold aH;by_cases hy:y<0
 ·rw[if_pos hy,if_pos hy,if_neg (by omega)]
 ·rw[if_neg hy,if_neg hy,arA];by_cases he:y=x
  ·subst he;rw[if_pos rfl,if_pos rfl,if_pos (by omega)];rfl
  ·rw[if_neg (by omega),if_neg he]
def sM(nx:List Int)(x:Int)(l:List Int):List Int:=l.foldl (λa c=>if aH nx c=x then a.set c.toNat (aH nx x)else a) nx
theorem DN(nx:List Int)(x:Int)(l:List Int)(c:Int):sM nx x (l++ [c])=if aH nx c=x then(sM nx x l).set c.toNat (aH nx x)else sM nx x l:=by simp[sM]
theorem yi(nx:List Int)(x:Int)(l:List Int):(sM nx x l).length=nx.length:=by
 unfold sM
 suffices h:∀a:List Int,(l.foldl (λa c=>if aH nx c=x then a.set c.toNat (aH nx x)else a) a).length=a.length from h nx
 induction l with
 | nil=>intro a;rfl
 | cons c l ih=>intro a;rw[List.foldl_cons,ih];split<;>simp
theorem aeh(nx:List Int)(x:Int)(l:List Int)(hl:∀y∈l,0<=y/\y<nx.length)(y:Int):aH (sM nx x l) y=if y∈l/\aH nx y=x then aH nx x else aH nx y:=by
 suffices h:∀r:List Int,(∀y∈r,0<=y/\y<nx.length)->aH (sM nx x r.reverse) y=if y∈r/\aH nx y=x then aH nx x else aH nx y by
  have:=h l.reverse (by simpa using hl);simpa using this
 intro r
 induction r with
 | nil=>intro _;simp[sM]
 | cons c r ih=>
   intro hr;have SP:=ih (λy hy=>hr y (apl _ hy));rw[aq6,DN];by_cases hc:aH nx c=x
   ·rw[if_pos hc,lu (by rw[yi];exact hr c apo),SP];by_cases hy:y=c
    ·subst hy;simp[hc]
    ·simp[hy]
   ·rw[if_neg hc,SP];by_cases hy:y=c
    ·subst hy;simp[hc]
    ·simp[hy]
theorem Ch.next{nx:List Int}{n:Nat}{c:Int}{l:List Int}(h:Ch nx n c l):∀y∈l,aH nx y=0\/aH nx y∈l.tail:=by
 induction h with
 | nil=>simp
 | @cons c l h t ih=>
   intro y hy;rcases apq.1 hy with rfl|hy
   ·generalize aH nx y=z at t;cases t with
    | nil=>left;rfl
    | cons h' t'=>right;simp
   ·rcases ih y hy with e|e
    ·exact .inl e
    ·exact .inr (List.mem_of_mem_tail e)
theorem Ch.cut{nx nx':List Int}{n:Nat}{c x:Int}{l:List Int}(h:Ch nx n c l)(hx:1<=x)(hk:∀y∈l,y≠x->aH nx' y=if aH nx y=x then aH nx x else aH nx y):Ch nx' n (if c=x then aH nx x else c) (l.erase x):=by
 induction h with
 | nil=>rw[if_neg (by omega)];exact .nil
 | @cons c l h t ih=>
   have gz:=(Ch.cons h t).nodup;have sW:=(Ch.cons h t).next
   by_cases hc:c=x
   ·subst hc;rw[if_pos rfl,List.erase_cons_head];refine t.rJ λy hy=>?_
    have bR:y≠c:=λe=>by subst e;exact(ap0.1 gz).1 hy
    rw[hk y (apl _ hy) bR,if_neg];intro e;rcases sW y (apl _ hy)with e2|e2
    ·omega
    ·rw[e]at e2;exact(ap0.1 gz).1 e2
   ·rw[if_neg hc,List.erase_cons_tail (by simpa using hc)];refine .cons h ?_;rw[hk c apo hc];exact ih (λy hy=>hk y (apl _ hy))
theorem Ch.stop{nx nx':List Int}{n:Nat}{c x:Int}{l:List Int}(h:Ch nx n c l)(hk:∀y,aH nx' y=if y=x then 0 else aH nx y):∃l',Ch nx' n c l':=by
 induction h with
 | nil=>exact⟨_,.nil⟩
 | @cons c l h t ih=>
   by_cases hc:c=x
   ·exact⟨[c],.cons h (by rw[hk,if_pos hc];exact .nil)⟩
   ·obtain⟨l',h'⟩:=ih;exact⟨c::l',.cons h (by rw[hk,if_neg hc];exact h')⟩
def jZ(t:Tree)(x:Int):Tree where
 bn:=t.bn.set x.toNat 0
 gn:=if aH t.bn x≠0/\aH t.gn (aH t.bn x)=x then t.gn.set (aH t.bn x).toNat (aH t.gq x)else t.gn
 gq:=(if aH t.bn x=0\/aH t.gn (aH t.bn x)=x then t.gq else sM t.gq x (bw t (aH t.bn x))).set x.toNat 0
theorem ec.leave{t:Tree}{n:Nat}{ls:Int->List Int}(h:ec t n ls){x:Int}(hx:1<=x/\x<n):ec (jZ t x) n (λu=>if u=aH t.bn x then(ls u).erase x else ls u):=by
 have hP:∀y,aH (jZ t x).bn y=if y=x then 0 else aH t.bn y:=λy=>lu (by rw[h.lp];omega) 0 y
 have wq:=h.up x hx.1 hx.2;have hC:∀u,1<=u->aH (jZ t x).gn u=if u=aH t.bn x then(if aH t.gn u=x then aH t.gq x else aH t.gn u)else aH t.gn u:=by
  intro u hu;unfold jZ
  try dsimp only
  by_cases hc:aH t.bn x≠0/\aH t.gn (aH t.bn x)=x
  ·rw[if_pos hc,lu (by rw[h.lc];rcases wq with h1|h1<;>omega)];by_cases he:u=aH t.bn x
   ·rw[if_pos he,if_pos he,if_pos (by rw[he];exact hc.2)]
   ·rw[if_neg he,if_neg he]
  ·rw[if_neg hc];by_cases he:u=aH t.bn x
   ·rw[if_pos he,if_neg];intro e;exact hc ⟨by omega,by rw[<-he];exact e⟩
   ·rw[if_neg he]
 have hN:∀y,aH (jZ t x).gq y=if y=x then 0 else if y∈ls (aH t.bn x)/\aH t.bn x≠0/\aH t.gq y=x then aH t.gq x else aH t.gq y:=by
  intro y;unfold jZ
  try dsimp only
  rw[lu (by split<;>simp only[yi,h.ln]<;>omega)];by_cases hy:y=x
  ·rw[if_pos hy,if_pos hy]
  ·rw[if_neg hy,if_neg hy];by_cases hc:aH t.bn x=0\/aH t.gn (aH t.bn x)=x
   ·rw[if_pos hc,if_neg];rintro⟨h1,h2,h3⟩;have hc:=hc.resolve_left h2;have hu:=(wq.resolve_left (λe=>h2 e.1)).1;have mh:=h.ch _ hu.1 hu.2;rw[hc]at mh;rcases mh.next y h1 with e|e
    ·omega
    ·rw[h3]at e;cases hl:ls (aH t.bn x)with
     | nil=>rw[hl]at h1;cases h1
     | cons a r=>
       rw[hl]at mh e;have gz:=mh.nodup;cases mh with
       | cons _ _=>exact(ap0.1 gz).1 e
   ·rw[if_neg hc];have h0:aH t.bn x≠0:=λe=>hc (.inl e)
    have hu:=(wq.resolve_left (λe=>h0 e.1)).1;rw[h.kids hu,aeh _ _ _ (λz hz=>by have:=(h.ch _ hu.1 hu.2).mem z hz;rw[h.ln];omega)];simp[h0]
 refine⟨h.pos,by simp[jZ,h.lp],by unfold jZ;dsimp only;split<;>simp[h.lc],by unfold jZ;dsimp only;split<;>simp[h.ln,yi],?_,?_,?_,?_,?_,?_,?_⟩
 ·rw[hP,h.p0];split<;>rfl
 ·have hle:aH (jZ t x).gn 0=aH t.gn 0:=by
   unfold jZ;dsimp only;split
   ·rename_i hc;rw[lu (by rw[h.lc];rcases wq with h1|h1<;>omega),if_neg (by omega)]
   ·rfl
  rw[hle,h.c0]
 ·rw[hN,if_neg (by omega),if_neg,h.n0];rintro⟨h1,h2,h3⟩;rw[h.n0]at h3;omega
 ·intro u tc nG
  try dsimp only
  rw[hC u tc];have mh:=h.ch u tc nG;by_cases he:u=aH t.bn x
  ·rw[if_pos he,if_pos he];refine mh.cut hx.1 λy hy AK=>?_
   rw[hN,if_neg AK];rw[he]at hy;have h0:aH t.bn x≠0:=by omega
   simp[hy,h0]
  ·rw[if_neg he,if_neg he];refine mh.rJ λy hy=>?_
   have Tc:=h.par u tc nG y hy;have AK:y≠x:=λe=>he (by rw[<-e];exact Tc.symm)
   rw[hN,if_neg AK,if_neg];rintro⟨h1,h2,-⟩;have hu:=(wq.resolve_left (λe=>h2 e.1)).1;exact he (by rw[<-Tc];exact(h.par _ hu.1 hu.2 y h1))
 ·intro u tc nG y hy
  try dsimp only at hy
  rw[hP];by_cases he:u=aH t.bn x
  ·rw[if_pos he]at hy;have mh:=h.ch u tc nG;have:=(List.Nodup.mem_erase_iff mh.nodup).1 hy;rw[if_neg this.1];exact h.par u tc nG y this.2
  ·rw[if_neg he]at hy;have Tc:=h.par u tc nG y hy;rw[if_neg (λe=>he (by rw[<-e];exact Tc.symm))];exact Tc
 ·intro y LD yj
  try dsimp only
  by_cases AK:y=x
  ·left;rw[hP,hN,if_pos AK,if_pos AK];exact⟨rfl,rfl⟩
  ·rw[hP,if_neg AK];rcases h.up y LD yj with⟨h1,h2⟩|⟨h1,h2⟩
   ·left;refine⟨h1,?_⟩;rw[hN,if_neg AK,if_neg,h2];rintro⟨-,-,h3⟩;rw[h2]at h3;omega
   ·right;refine⟨h1,?_⟩;split
    ·exact(List.mem_erase_of_ne AK).2 h2
    ·exact h2
 ·intro y LD yj;obtain⟨l,hl⟩:=h.ends y LD yj;exact hl.stop hP
def yl(t:Tree)(x to:Int):Tree where
 bn:=t.bn.set x.toNat to
 gn:=t.gn.set to.toNat x
 gq:=t.gq.set x.toNat (aH t.gn to)
theorem ec.put{t:Tree}{n:Nat}{ls:Int→List Int}(h:ec t n ls){x to:Int}(hx:1≤x∧x < n)(pW:1≤to∧to < n)(h0:aH t.bn x=0){l:List Int}(hl:Ch t.bn n to l)(Al:x∉l):
  ec (yl t x to) n (λu=>if u=to then x::ls to else ls u):=by
 have hP:∀y,aH (yl t x to).bn y=if y=x then to else aH t.bn y:=λy=>lu (by rw[h.lp];omega) to y
 have hC:∀y,aH (yl t x to).gn y=if y=to then x else aH t.gn y:=λy=>lu (by rw[h.lc];omega) x y
 have hN:∀y,aH (yl t x to).gq y=if y=x then aH t.gn to else aH t.gq y:=λy=>lu (by rw[h.ln];omega) _ y
 have iU:∀u:Int,1<=u->u<n->x∉ls u:=λu h1 h2 hm=>by have:=h.par u h1 h2 x hm;omega
 have au:=hl.rJ (nx':=(yl t x to).bn) (λy hy=>by rw[hP,if_neg (λe=>Al (by rw[<-e];exact hy))]);refine⟨h.pos,by simp[yl,h.lp],by simp[yl,h.lc],by simp[yl,h.ln],?_,?_,?_,?_,?_,?_,?_⟩
 ·rw[hP,if_neg (by omega),h.p0]
 ·rw[hC,if_neg (by omega),h.c0]
 ·rw[hN,if_neg (by omega),h.n0]
 ·intro u tc nG
  try dsimp only
  rw[hC];have hk:=(h.ch u tc nG).rJ (nx':=(yl t x to).gq) (λy hy=>by rw[hN,if_neg (λe=>iU u tc nG (by rw[<-e];exact hy))]);by_cases he:u=to
  ·subst he;rw[if_pos rfl,if_pos rfl];refine .cons hx ?_;rw[hN,if_pos rfl];exact hk
  ·rw[if_neg he,if_neg he];exact hk
 ·intro u tc nG y hy
  try dsimp only at hy
  rw[hP];by_cases he:u=to
  ·subst he;rw[if_pos rfl]at hy;rcases apq.1 hy with rfl|hy
   ·rw[if_pos rfl]
   ·rw[if_neg (λe=>iU u tc nG (by rw[<-e];exact hy))];exact h.par u tc nG y hy
  ·rw[if_neg he]at hy;rw[if_neg (λe=>iU u tc nG (by rw[<-e];exact hy))];exact h.par u tc nG y hy
 ·intro y LD yj
  try dsimp only
  rw[hP,hN];by_cases AK:y=x
  ·subst AK;right;rw[if_pos rfl];exact⟨pW,by rw[if_pos rfl];exact apo⟩
  ·rw[if_neg AK,if_neg AK];rcases h.up y LD yj with h1|⟨h1,h2⟩
   ·exact .inl h1
   ·refine .inr ⟨h1,?_⟩;split
    ·rename_i e;rw[<-e];exact apl _ h2
    ·exact h2
 ·intro y LD yj;obtain⟨l2,lZ⟩:=h.ends y LD yj;clear LD yj
  induction lZ with
  | nil=>exact⟨_,.nil⟩
  | @cons c l3 hc _ ih=>
    by_cases Pl:c=x
    ·exact⟨c::l,.cons hc (by rw[hP,if_pos Pl];exact au)⟩
    ·obtain⟨l4,h4⟩:=ih;exact⟨c::l4,.cons hc (by rw[hP,if_neg Pl];exact h4)⟩
theorem ec.YW{t:Tree}{n:Nat}{ls:Int->List Int}(h:ec t n ls){x:Int}(hx:1<=x/\x<n):Ch t.bn n x (ik t x):=by
 obtain⟨l,hl⟩:=h.ends x hx.1 hx.2;rw[ik,h.lp,hl.full];exact hl
theorem ec.move{t:Tree}{n:Nat}{ls:Int→List Int}(h:ec t n ls){x to:Int}(hx:1≤x∧x < n)(pW:1≤to∧to < n)(iU:x∉ik t to):
  ec (yl (jZ t x) x to) n (λu=>if u=to then x::(if to=aH t.bn x then(ls to).erase x else ls to)else if u=aH t.bn x then(ls u).erase x else ls u):=by
 have hP:∀y,aH (jZ t x).bn y=if y=x then 0 else aH t.bn y:=λy=>lu (by rw[h.lp];omega) 0 y
 refine(h.leave hx).put hx pW (by rw[hP,if_pos rfl]) ((h.YW pW).rJ λy hy=>?_) iU;rw[hP,if_neg (λe=>iU (by rw[<-e];exact hy))]
def cx(w:aj)(x:Int):aj:=
 {w with
  ah:=w.ah.set x.toNat 0
  Child:=if aH w.ah x≠0/\aH w.Child (aH w.ah x)=x then w.Child.set (aH w.ah x).toNat (aH w.Next x)else w.Child
  Next:=(if aH w.ah x=0\/aH w.Child (aH w.ah x)=x then w.Next else sM w.Next x (bw w.tree (aH w.ah x))).set x.toNat 0}
structure aei(w:aj) (x:Int):Prop where
 wf:w.wf
 hC:w.Child.length=w.ah.length
 hN:w.Next.length=w.ah.length
 hx:bU w.ah.length x=true
 up:aH w.ah x=0\/bU w.ah.length (aH w.ah x)=true
theorem vn(w:aj)(x:Int):(cx w x).tree=jZ w.tree x:=rfl
theorem abG(w:aj)(x:Int)(h:aei w x):aE prog 284 [.agg (w.enc.map .d),iD x] [] (λr L=>r= .ret (.agg (eE (cx w x)))/\∃b1 b2 b3 b4 Td Iy cs3 cs4,L=(5,.box b1 34 Td)::(gC (cx w x)++ [(4,.box b2 34 Iy),(3,.box b3 3 cs3),(2,.box b4 34 cs4)])):=by
 obtain⟨hw,hC,hN,hx,wq⟩:=h;have hg:=ni hx;have nV:=eo hx;have hb:=aY.1 hx;have DK:=aeg w hw;unfold gC at DK;refine aE.run func284 rfl (by simp[f284]) ?_;simp[f284];intro bs;refine eD [] DK ?_;simp[-cB,eE,hg,nV];intro K6;refine⟨⟨by omega,by omega⟩,by omega,?_⟩;cases h0:decide (aH w.ah x=0)with
 | true=>
   have xR:=of_decide_eq_true h0;simp[-cB,xR];refine av.aT [Q0,Q0,Q0,Q3,Q3,Q3,Q0,none,arF,none] [] aS (by kernel_rfl) ?_;simp[-cB,cx,gC,xR];omega
 | false=>
   have xR:=of_decide_eq_false h0;have hT:=wq.resolve_left xR;have YV:bU w.Child.length (aH w.ah x)=true:=by rw[hC];exact hT
   have Gd:bU w.Next.length x=true:=by rw[hN];exact hx
   have hu:=aY.1 hT;have hcg:=ni YV;have ajB:=eo YV;have hng:=ni Gd;have Pm:=eo Gd;simp[-cB,xR];refine av.bT [] aS (by kernel_rfl) (by rfl) ?_;simp[-cB,ajB];refine⟨⟨by omega,by omega⟩,by omega,?_⟩;cases h1:decide (aH w.Child (aH w.ah x)=x)with
   | true=>
     have gA:=of_decide_eq_true h1;simp[-cB];refine av.aT [Q0,Q0,Q0,Q0,Q0,Q0,Q0,Q0,Q0,none] [] aS (by kernel_rfl) ?_;simp[-cB,Pm];refine⟨⟨by omega,by omega⟩,by omega,by omega,by omega,?_⟩;refine av.aT [Q0,Q0,Q0,Q3,Q3,Q3,Q0,none,arF,none] [] aS (by kernel_rfl) ?_;simp[-cB,cx,gC,xR,gA];omega
   | false=>
     have gA:=of_decide_eq_false h1;have hk:=Gb w (aH w.ah x);have iy:=DM w hw hC hN (aH w.ah x);unfold qu at hk iy;simp[-cB];refine eD [] hk ?_;simp[-cB];have fm:=λy=>nW (t:=w.tree) (x:=aH w.ah x) (y:=y)
     have hP:w.tree.bn=w.ah:=rfl;rw[hP]at fm;have hlc:=yi w.Next x;have hlv:cx w x={w with ah:=w.ah.set x.toNat 0,Next:=(sM w.Next x (bw w.tree (aH w.ah x))).set x.toNat 0}:=by simp[cx,xR,gA]
     rw[hlv];generalize bw w.tree (aH w.ah x)=ks at *;refine av.uR [5201,5202] [2,3,4,5] ks (λi=> [iD i]) (λpre=> [(73,.row 3 1 (dd (aA (sM w.Next x pre))))]) (λpre=>True) (by simpa[List.filter]using iy) rfl (by kernel_rfl) (by simp[List.filter]) (by simp[gm]) (by simp) (by rfl) (by rfl) (by simp[List.filter,sM]) (by simp[List.filter]) ?_ ?_
     ·rintro pre z post bu -;have hz:=fm z (by rw[bu];simp);have hT4:bU w.Next.length z=true:=by rw[hN];exact aY.2 hz
      have hzg:=ni hT4;have ajC:=eo hT4;have jV:=DN w.Next x pre z;simp[-cB,List.filter];refine av.bT [] aS (by kernel_rfl) (by rfl) ?_;simp[-cB,ajC];refine⟨⟨by omega,by omega⟩,?_⟩;cases h2:decide (aH w.Next z=x)with
      | true=>
        have lG:=of_decide_eq_true h2;simp[-cB];refine av.aT [Q0,Q0,Q0,Q0,Q0,Q0,Q0,Q0,Q0,none] [] aS (by kernel_rfl) ?_;simp[-cB,Pm,jV,lG,hlc];omega
      | false=>
        have lG:=of_decide_eq_false h2;simp[-cB,jV,lG]
     ·intro _;simp[-cB,List.filter];refine av.aT [Q0,Q0,Q0,Q3,Q3,Q3,Q0,none,arF,none] [] aS (by kernel_rfl) ?_;simp[-cB,gC,hlc];omega
end Go.Ab

/-
  The texts Bnum Ed Vframe Nest Bnest Bright Bfits2 Bfits3 Bfits4 Bfits5 Bright2 Df Dg Dh Di Rj Nl Bclone Bups Nx Bkids Bcopy Nest2 Bleave Bmove, one behind the other.
-/
import Derived.Test.YtmhnopomnpgcjaaGreatDoorMg3
import Derived.RecoverIn
import Derived.WalkSpells
set_option linter.unusedSimpArgs false
set_option linter.unusedVariables false
namespace Go.Ab
open Go.Proofs Go.Proofs.Tryz
def ax(n:Int):Int:=IntKind.wrap .i16 n
theorem jm n:ax n=(n+32768) % 65536-32768:=by
 grind[ax,IntKind.wrap,IntKind.signed,IntKind.bits]
theorem Pure.none{f:FuncId}{args:List V}{x:V}(h:False):Pure prog f args x:=h.elim
theorem cR n: -32768<=ax n/\ax n<=32767:=by grind[jm]
theorem yf{n}(h: -32768<=n/\n<=32767):ax n=n:=by grind[jm]
theorem QW n:ax (ax n)=ax n:=yf (cR n)
theorem wrap64{n}(h:aN .i64 n):IntKind.wrap .i64 n=n:=by
 grind[aR,IntKind.wrap,IntKind.signed,IntKind.bits]
theorem bB(n:Int):Pure prog 68 [iD n] (iD (ax n)):=by
 have h0:=jm n;have h1:n.tmod 65536=if 0<=n then n % 65536 else -((-n) % 65536):=by
  split
  ·rename_i h;exact aqT h
  ·rename_i h;have:=Int.neg_tmod (a:= -n) (b:=65536);rw[Int.neg_neg]at this;rw[this,aqT (by omega)]
 refine rn func68 ?_;simp[-cB,f68];generalize n.tmod 65536=m at *;generalize hr:ax n=r at *
 repeat' (first
  | (with_reducible refine And.intro ?_ ?_)
  | ((first|(refine aA (λh=>?_) (λh=>?_)<;>(try simp at h))|refine pC Pure.none ?_|refine lC Pure.none ?_|refine pG Pure.none ?_)<;>(try simp[-cB, *]))
  | (with_reducible intro _))
 all_goals (try rw[aR])
 all_goals (split at h1<;>omega)
theorem cu(n:Int):Pure prog 67 [iD n] (iD (ax n)):=by
 have h0:aN .i64 (ax n):=by have:=cR n;rw[aR];omega
 have h1:=wrap64 h0;refine rn func67 ?_;simp[-cB,f67];exact h1
theorem ahZ(n:Int):Pure prog 248 [iD n] (oD (ib n)):=by
 have h0:aN .i64 (ax n):=by have:=cR n;rw[aR];omega
 have h1:=wrap64 h0;have h2:=jm n;refine rn func248 ?_;simp[-cB,f248];rw[show IntKind.wrap .i16 n=ax n from rfl,h1,ib,bJ];rw[arv];simp;omega
def D1(a b:Int):Int:=ax (ax a+ax b)
def U2(a b:Int):Int:=ax (ax a-ax b)
def mulM(a b:Int):Int:=ax (ax a *ax b)
def uP(a:Int):Int:=ax (0-ax a)
def J8(a b:Int):Int×Int:=if ax b=0 then(0,1)else(ax ((ax a).tdiv (ax b)),0)
def J9(a b:Int):Int×Int:=if ax b=0 then(0,1)else(ax ((ax a).tmod (ax b)),0)
theorem Yc{a b:Int}(ha: -32768<=a/\a<=32767)(hb: -32768<=b/\b<=32767): -1073741824<=a *b/\a *b<=1073741824:=by
 have h1:a *b<=a.natAbs *b.natAbs:=by
  have:(a *b).natAbs=a.natAbs *b.natAbs:=Int.natAbs_mul a b;omega
 have h2: -(a.natAbs *b.natAbs:Int)<=a *b:=by
  have:(a *b).natAbs=a.natAbs *b.natAbs:=Int.natAbs_mul a b;omega
 have h3:a.natAbs *b.natAbs<=32768 *32768:=ar9 (by omega) (by omega);omega
def gW(p:Int×Int):V:= .bM [iD p.1,iD p.2]
theorem D2(a b:Int):Pure prog 100 [iD a,iD b] (iD (D1 a b)):=by
 have ha:=cR a;have hb:=cR b;have h:aN .i64 (ax a+ax b):=iW;refine rn func100 ?_;simp[-cB,f100]
 try intro(_:Nat->Nat)
 repeat' (first
  | (with_reducible refine And.intro ?_ ?_)
  | ((first|(refine aA (λh=>?_) (λh=>?_)<;>(try simp at h))|refine pC (bB _) ?_|refine lC (bB _) ?_|refine pG (bB _) ?_)<;>(try simp[-cB, *]))
  | (with_reducible intro _))
 rfl
theorem D3(a b:Int):Pure prog 161 [iD a,iD b] (iD (U2 a b)):=by
 have ha:=cR a;have hb:=cR b;have h:aN .i64 (ax a-ax b):=iW;refine rn func161 ?_;simp[-cB,f161]
 try intro(_:Nat->Nat)
 repeat' (first
  | (with_reducible refine And.intro ?_ ?_)
  | ((first|(refine aA (λh=>?_) (λh=>?_)<;>(try simp at h))|refine pC (bB _) ?_|refine lC (bB _) ?_|refine pG (bB _) ?_)<;>(try simp[-cB, *]))
  | (with_reducible intro _))
 rfl
theorem D4(a b:Int):Pure prog 162 [iD a,iD b] (iD (mulM a b)):=by
 have h:aN .i64 (ax a *ax b):=by have:=Yc (cR a) (cR b);rw[aR];omega
 refine rn func162 ?_;simp[-cB,f162]
 try intro(_:Nat->Nat)
 repeat' (first
  | (with_reducible refine And.intro ?_ ?_)
  | ((first|(refine aA (λh=>?_) (λh=>?_)<;>(try simp at h))|refine pC (bB _) ?_|refine lC (bB _) ?_|refine pG (bB _) ?_)<;>(try simp[-cB, *]))
  | (with_reducible intro _))
 rfl
theorem s9(a:Int):Pure prog 104 [iD a] (iD (uP a)):=by
 have h:aN .i64 (0-ax a):=by have:=cR a;rw[aR];omega
 rw[uP];generalize hx:0-ax a=x at *;refine rn func104 ?_;simp[-cB,f104]
 try intro(_:Nat->Nat)
 repeat' (first
  | (with_reducible refine And.intro ?_ ?_)
  | ((first|(refine aA (λh=>?_) (λh=>?_)<;>(try simp at h))|refine pC (bB _) ?_|refine lC (bB _) ?_|refine pG (bB _) ?_)<;>(try simp[-cB, *,hx]))
  | (with_reducible intro _))
theorem Yd(a b:Int):Pure prog 202 [iD a,iD b] (iD (D1 a b)):=by
 have ha:=cR a;have hb:=cR b;have h:aN .i64 (ax a+ax b):=iW;refine rn func202 ?_;simp[-cB,f202]
 try intro(_:Nat->Nat)
 repeat' (first
  | (with_reducible refine And.intro ?_ ?_)
  | ((first|(refine aA (λh=>?_) (λh=>?_)<;>(try simp at h))|refine pC (cu _) ?_|refine lC (cu _) ?_|refine pG (cu _) ?_)<;>(try simp[-cB, *]))
  | (with_reducible intro _))
 rfl
theorem af5(a b:Int):Pure prog 203 [iD a,iD b] (iD (U2 a b)):=by
 have ha:=cR a;have hb:=cR b;have h:aN .i64 (ax a-ax b):=iW;refine rn func203 ?_;simp[-cB,f203]
 try intro(_:Nat->Nat)
 repeat' (first
  | (with_reducible refine And.intro ?_ ?_)
  | ((first|(refine aA (λh=>?_) (λh=>?_)<;>(try simp at h))|refine pC (cu _) ?_|refine lC (cu _) ?_|refine pG (cu _) ?_)<;>(try simp[-cB, *]))
  | (with_reducible intro _))
 rfl
theorem af6(a b:Int):Pure prog 204 [iD a,iD b] (iD (mulM a b)):=by
 have h:aN .i64 (ax a *ax b):=by have:=Yc (cR a) (cR b);rw[aR];omega
 refine rn func204 ?_;simp[-cB,f204]
 try intro(_:Nat->Nat)
 repeat' (first
  | (with_reducible refine And.intro ?_ ?_)
  | ((first|(refine aA (λh=>?_) (λh=>?_)<;>(try simp at h))|refine pC (cu _) ?_|refine lC (cu _) ?_|refine pG (cu _) ?_)<;>(try simp[-cB, *]))
  | (with_reducible intro _))
 rfl
theorem af7(a:Int):Pure prog 136 [iD a] (iD (uP a)):=by
 have h:aN .i64 (- ax a):=by have:=cR a;rw[aR];omega
 rw[uP,Int.zero_sub];refine rn func136 ?_;simp[-cB,f136]
 try intro(_:Nat->Nat)
 repeat' (first
  | (with_reducible refine And.intro ?_ ?_)
  | ((first|(refine aA (λh=>?_) (λh=>?_)<;>(try simp at h))|refine pC (cu _) ?_|refine lC (cu _) ?_|refine pG (cu _) ?_)<;>(try simp[-cB, *]))
  | (with_reducible intro _))
theorem SR{a b:Int}(ha: -32768<=a/\a<=32767): -32768<=a.tdiv b/\a.tdiv b<=32768:=by
 have:(a.tdiv b).natAbs<=a.natAbs:=by rw[Int.natAbs_tdiv];exact Nat.div_le_self _ _
 omega
theorem He{a b:Int}(ha: -32768<=a/\a<=32767):IntKind.wrap .i64 (a.tdiv b)=a.tdiv b:=wrap64 (by have:=SR (b:=b) ha;rw[aR];omega)
theorem aef{a b:Int}(ha: -32768<=a/\a<=32767): -32768<=a.tmod b/\a.tmod b<=32767:=by
 have h1:(a.tmod b).natAbs=a.natAbs % b.natAbs:=Int.natAbs_tmod a b;have h2:a.natAbs % b.natAbs<=a.natAbs:=Nat.mod_le _ _;have h3:0<=a->0<=a.tmod b:=λh=>Int.tmod_nonneg _ h
 have h4:a<0->a.tmod b<=0:=λh=>by
  have:=Int.tmod_nonneg b (a:= -a) (by omega);rw[Int.neg_tmod]at this;omega
 generalize a.natAbs % b.natAbs=q at *;omega
theorem Ye(a b:Int):Pure prog 163 [iD a,iD b] (gW (J8 a b)):=by
 have h:=He (b:=ax b) (cR a);unfold gW J8;refine rn func163 ?_;simp[-cB,f163]
 try intro(_:Nat->Nat)
 repeat' (first
  | (with_reducible refine And.intro ?_ ?_)
  | ((first|(refine aA (λh=>?_) (λh=>?_)<;>(try simp at h))|refine pC (bB _) ?_|refine lC (bB _) ?_|refine pG (bB _) ?_)<;>(try simp[-cB, *]))
  | (with_reducible intro _))
theorem af8(a b:Int):Pure prog 205 [iD a,iD b] (gW (J8 a b)):=by
 have h:=He (b:=ax b) (cR a);unfold gW J8;refine rn func205 ?_;simp[-cB,f205]
 try intro(_:Nat->Nat)
 repeat' (first
  | (with_reducible refine And.intro ?_ ?_)
  | ((first|(refine aA (λh=>?_) (λh=>?_)<;>(try simp at h))|refine pC (cu _) ?_|refine lC (cu _) ?_|refine pG (cu _) ?_)<;>(try simp[-cB, *]))
  | (with_reducible intro _))
theorem Yf(a b:Int):Pure prog 164 [iD a,iD b] (gW (J9 a b)):=by
 have h:=He (b:=ax b) (cR a);have hd:=SR (b:=ax b) (cR a);unfold gW J9;refine rn func164 ?_;simp[-cB,f164]
 try intro(_:Nat->Nat)
 repeat' (first
  | (with_reducible refine And.intro ?_ ?_)
  | ((first|(refine aA (λh=>?_) (λh=>?_)<;>(try simp at h))|refine pC (bB _) ?_|refine lC (bB _) ?_|refine pG (bB _) ?_)<;>(try simp[-cB, *]))
  | (with_reducible intro _))
 all_goals (have hm:=aef (b:=ax b) (cR a))
 all_goals (have he:=Int.tmod_def (ax a) (ax b))
 all_goals (rw[Int.mul_comm]at he)
 all_goals (have ha:=cR a)
 ·rw[aR];omega
 ·rw[aR];omega
 ·rw[yf hm];omega
theorem af9(a b:Int):Pure prog 206 [iD a,iD b] (gW (J9 a b)):=by
 unfold gW J9;refine rn func206 ?_;simp[-cB,f206]
 try intro(_:Nat->Nat)
 repeat' (first
  | (with_reducible refine And.intro ?_ ?_)
  | ((first|(refine aA (λh=>?_) (λh=>?_)<;>(try simp at h))|refine pC (cu _) ?_|refine lC (cu _) ?_|refine pG (cu _) ?_)<;>(try simp[-cB, *]))
  | (with_reducible intro _))
end Go.Ab
namespace Go.Ab
def mF(l:Array Oper):Nat->Array Bool->List Nat->Prop
 | 0,_,L=>L=[]
 | f+1,ls,L=>(Region.ready .any l ls=[]/\L=[])\/∃i L',L=i::L'/\i∈Region.ready .any l ls/\mF l f (ls.setIfInBounds i true) L'
theorem Ka l:∀f t ls,mF l f ls (Region.linearise.go .any l f t ls []):=by
 intro f
 induction f with
 | zero=>intro t ls;rfl
 | succ f ih=>
   intro t ls;change mF l (f+1) ls (match(Region.ready .any l ls)[t % (Region.ready .any l ls).length]? with
    | some i=>Region.linearise.go .any l f (t / (Region.ready .any l ls).length) (ls.setIfInBounds i true) [i]
    | none=> [].reverse)
   cases hi:(Region.ready .any l ls)[t % (Region.ready .any l ls).length]? with
   | none=>
     left;refine⟨?_,rfl⟩;cases hr:Region.ready .any l ls with
     | nil=>rfl
     | cons x xs=>
       simp_all[Nat.mod_lt]
   | some i=>
     right;grind[List.mem_of_getElem?,Region.ready,linearise_go_acc]
theorem mF.run{F n P l Q}:∀f ls L a w,wpAnyIn F n P .any l Q f ls a w->mF l f ls L->wpOpsIn F n P l Q L a w:=by
 intro f
 induction f with
 | zero=>intro ls L a w h hL;rw[show L=[]from hL];exact h.2
 | succ f ih=>
   intro ls L a w h hL;rcases hL with⟨h1,rfl⟩|⟨i,L',rfl,hi,hL'⟩
   ·exact h.1 h1
   ·exact wpOpIn_mono (λa w h2=>ih _ _ a w h2 hL') (h.2 i hi)
def oJ:List Oper->Nat->Nat->List Oper
 | [],_,_=> []
 | o::l,0,i=>{o with after:=o.after.push ⟨i,.data⟩}::l
 | o::l,j+1,i=>o::oJ l j i
theorem Hf:∀l j i,(oJ l j i).length=l.length
 | [],_,_=>rfl
 | _::_,0,_=>rfl
 | o::l,j+1,i=>by simp[oJ,Hf]
theorem Kb{k}:∀l j i,k≠j->(oJ l j i)[k]?=l[k]?
 | [],_,_,_=>rfl
 | o::l,0,i,h=>by
   cases k with
   | zero=>omega
   | succ k=>rfl
 | o::l,j+1,i,h=>by
   cases k with
   | zero=>rfl
   | succ k=>simpa[oJ]using Kb l j i (by omega)
theorem Fj:∀l j i,(oJ l j i)[j]?=(l[j]?).map λo=>{o with after:=o.after.push ⟨i,.data⟩}
 | [],_,_=>rfl
 | o::l,0,i=>rfl
 | o::l,j+1,i=>by simp[oJ,Fj]
theorem Yg{ls:Array Bool}{i}(h:ls.getD i true=false) b:i<ls.size/\ls.getD i b=false:=by
 grind
theorem uQ{l j i k ls}(h:k≠j):k∈Region.ready .any (oJ l j i).toArray ls↔k∈Region.ready .any l.toArray ls:=by
 simp_all[mem_ready,Kb]
theorem Yh{l j i k ls}(h:k∈Region.ready .any (oJ l j i).toArray ls):k∈Region.ready .any l.toArray ls:=by
 by_cases hk:k=j
 ·subst hk;rw[mem_ready]at h⊢;obtain⟨h1,o,h2,h3⟩:=h;simp[Fj]at h2;grind
 simp_all[uQ]
theorem OK{l j i k ls}(hi:ls.getD i false=true)(h:k∈Region.ready .any l.toArray ls):k∈Region.ready .any (oJ l j i).toArray ls:=by
 by_cases hk:k=j
 ·rw[mem_ready]at h⊢;obtain⟨h1,o,h2,h3⟩:=h;refine⟨h1,{o with after:=o.after.push ⟨i,.data⟩},?_,λe he hb=>?_⟩
  ·simp_all[Fj]
  grind
 simp_all[uQ]
theorem CN{l j i ls}(h:Region.ready .any l.toArray ls=[]):Region.ready .any (oJ l j i).toArray ls=[]:=by
 rw[aq1]at h⊢;exact λk hk=>h k (Yh hk)
theorem Yi{ls:Array Bool}{i k}(h:ls.getD k false=true):(ls.setIfInBounds i true).getD k false=true:=by
 by_cases hk:i=k
 ·rcases aq7 i ls.size with h'|h'
  ·simp_all
  grind
 simp_all
theorem mF.add{l j i}:∀f ls L,ls.getD i false=true->mF l.toArray f ls L->mF (oJ l j i).toArray f ls L:=by
 intro f
 induction f with
 | zero=>intro ls L _ h;exact h
 | succ f ih=>
   intro ls L hi h;rcases h with⟨h1,h2⟩|⟨k,L',h1,h2,h3⟩
   ·exact .inl ⟨CN h1,h2⟩
   ·exact .inr ⟨k,L',h1,OK hi h2,ih _ _ (Yi hi) h3⟩
theorem mF.split{l i j}(NP:i≠j):∀f ls L,mF l.toArray f ls L->mF (oJ l j i).toArray f ls L\/mF (oJ l i j).toArray f ls L:=by
 intro f
 induction f with
 | zero=>intro ls L h;exact .inl h
 | succ f ih=>
   intro ls L h;rcases h with⟨h1,h2⟩|⟨k,L',h1,h2,h3⟩
   ·exact .inl (.inl ⟨CN h1,h2⟩)
   ·have nr:(ls.setIfInBounds k true).getD k false=true:=by
     have:=(Yg (mem_ready.1 h2).1 false).1;simp_all
    by_cases OL:k=i
    ·subst OL;exact .inl (.inr ⟨k,L',h1,(uQ NP).2 h2,h3.add f _ _ nr⟩)
    ·by_cases hkj:k=j
     ·subst hkj;exact .inr (.inr ⟨k,L',h1,(uQ (Ne.symm NP)).2 h2,h3.add f _ _ nr⟩)
     ·rcases ih _ _ h3 with h4|h4
      ·exact .inl (.inr ⟨k,L',h1,(uQ hkj).2 h2,h4⟩)
      ·exact .inr (.inr ⟨k,L',h1,(uQ OL).2 h2,h4⟩)
structure Alike(q:Nat->Nat) (o o':Oper):Prop where
 dst:o'.dst=o.dst
 op:o'.op=o.op
 type:o'.type=o.type
 pos:o'.pos=o.pos
 guard:o'.guard=o.guard.map λg=>(q g.1,g.2)
theorem Alike.wpIn{q o o'}(h:Alike q o o'){F n P a w K Q}:o'.wpIn F n P a w K Q=o.wpIn F n P a w K Q:=by
 obtain⟨h1,h2,h3,h4,h5⟩:=h;obtain⟨d,p,t,s,af,g⟩:=o;subst h1;subst h2;subst h3;rfl
theorem F7{q}{l l'}(h:∀i,(l[i]?=none∧l'[q i]?=none)∨∃o o',l[i]?=some o∧l'[q i]?=some o'∧Alike q o o'){F}{n}{P}{Q}:
  ∀L a w,wpOpsIn F n P l' Q (L.map q) a w->wpOpsIn F n P l Q L a w:=by
 have hy:∀tm j,yielded l' tm (q j)=yielded l tm j:=by
  intro tm j;unfold yielded;rcases h j with⟨h1,h2⟩|⟨o,o',h1,h2,h3⟩
  ·grind
  ·rw[h1,h2];simp[arf,h3.dst]
 intro L
 induction L with
 | nil=>intro a w h;exact h
 | cons i L ih=>
   intro a w hh;simp[aqd,wpOpsIn]at hh⊢;rcases h i with⟨h1,h2⟩|⟨o,o',h1,h2,h3⟩
   ·grind
   ·rw[h2]at hh;rw[h1];simp at hh⊢;have hw:Region.wanted o' (yielded l' a.tmps)=Region.wanted o (yielded l a.tmps):=by
     unfold Region.wanted;rw[h3.guard];grind
    rw[hw]at hh;split
    ·rename_i hc;rw[if_pos hc,h3.wpIn]at hh;grind[Oper.wpIn_mono]
    ·rename_i hc;rw[if_neg hc,h3.dst]at hh;have:o'.about P w a.eval=o.about P w a.eval:=by
      unfold Oper.about;rw[h3.op,h3.type]
     grind
def Kc(q:List Nat)(o:Oper):Oper:={o with after:=o.after.map λe=>⟨q.getD e.on 0,e.ground⟩,guard:=o.guard.map λg=>(q.getD g.1 0,g.2)}
def vF(l:List Oper)(i:Nat):Oper:=l[i]?.getD default
def zq(p q:List Nat)(l:List Oper):List Oper:=p.map λi=>Kc q (vF l i)
def Yj(p q:List Nat)(l:List Oper):Bool:=
 p.length==l.length&&q.length==l.length&&(List.range l.length).all λi=>decide (p.getD i 0<l.length)&&decide (q.getD i 0<l.length)&&(p.getD (q.getD i 0) 0==i)&&(q.getD (p.getD i 0) 0==i)
section
variable {P : Program} {n : Nat} {Q : AX -> St -> Prop}
def dY(P:Program)(n:Nat)(l:List Oper)(s:St)(Q:AX->St->Prop):Prop:=∀fo m a w,G fo n m s a w->∀L,mF l.toArray l.length (Array.replicate l.length false) L->wpOpsIn (wr fo.r) 0 P l.toArray (fX fo n m w Q) L a {w with drawn:=w.drawn+1}
theorem dY.region{id l s}(hm:P.follows .mixedOrders=true)(h:dY P n l s Q):aw P n (.region id l.toArray true) s Q:=by
 intro fo m a w _ g;refine wpIn_region_draw λt=>?_
 simp[Region.schedule];refine h fo m a w g _ ?_;grind[Ka,Array.replicate,Region.linearise]
theorem dY.abt{l s} i j(NP:i≠j)(h1:dY P n (oJ l j i) s Q)(h2:dY P n (oJ l i j) s Q):dY P n l s Q:=by
 have key:∀j i {fo:FO} {a:Act} {w:World} {Q:Exit->Act->World->Prop} {L:List Nat},wpOpsIn (wr fo.r) 0 P (oJ l j i).toArray Q L a w->wpOpsIn (wr fo.r) 0 P l.toArray Q L a w:=by
  intro j i fo a w Q L h;refine F7 (q:=id) (l':=(oJ l j i).toArray) (λk=>?_) L a w (by simp_all);simp only[id_eq,aqJ];by_cases hk:k=j
  ·subst hk;rw[Fj];cases l[k]? with
   | none=>simp
   | some o=>exact .inr ⟨o,_,rfl,rfl,⟨rfl,rfl,rfl,rfl,by simp⟩⟩
  ·rw[Kb l j i hk];cases l[k]? with
   | none=>simp
   | some o=>exact .inr ⟨o,_,rfl,rfl,⟨rfl,rfl,rfl,rfl,by simp⟩⟩
 intro fo m a w g L hL;rcases mF.split NP _ _ _ hL with hL|hL
 ·exact key j i (h1 fo m a w g L (by simp_all[Hf]))
 ·exact key i j (h2 fo m a w g L (by simp_all[Hf]))
theorem mF.map{l l':List Oper}{q p:Nat→Nat}(hlen:l'.length=l.length)(hl:∀i,i < l.length→q i < l.length∧p (q i)=i)(hp:∀i,i < l.length→p i < l.length∧q (p i)=i)
  (h:∀i,i<l.length->∀o,l[i]?=some o->∃o',l'[q i]?=some o'/\o'.after=o.after.map λe=>⟨q e.on,e.ground⟩) (cO:∀(i:Nat) (o:Oper),l[i]?=some o->∀e∈o.after,e.on<l.length):
  ∀f ls AO L,ls.size=l.length->AO.size=l.length->(∀i,i<l.length->AO.getD (q i) false=ls.getD i false)->mF l.toArray f ls L->mF l'.toArray f AO (L.map q):=by
 have rdy:∀(ls AO:Array Bool),ls.size=l.length->AO.size=l.length->(∀i,i<l.length->AO.getD (q i) false=ls.getD i false)->∀i,i<l.length->(q i∈Region.ready .any l'.toArray AO↔i∈Region.ready .any l.toArray ls):=by
  intro ls AO h1 h2 h3 i hi;have ho:=anc hi;obtain⟨o',ir,ha⟩:=h i hi _ ho;have Ax:l'.toArray[q i]?=some o':=by grind
  have ho3:l.toArray[i]?=some l[i]:=by simp
  have hg:∀k b,k<l.length->ls.getD k b=ls.getD k false:=λk b hk=>qU (by omega)
  have Yk:∀k b,k<l.length->AO.getD k b=AO.getD k false:=λk b hk=>qU (by omega)
  rw[mem_ready,mem_ready,hg i true hi,Yk _ true (hl i hi).1,h3 i hi,Ax,ho3];refine and_congr_right λ_=>?_
  constructor
  ·rintro⟨o2,Ax,hk⟩;obtain rfl:=apO Ax;refine⟨_,rfl,λe he hb=>?_⟩;have:=hk ⟨q e.on,e.ground⟩ (by grind) hb;grind
  ·rintro⟨o2,Ax,hk⟩;obtain rfl:=apO Ax;refine⟨_,rfl,λe he hb=>?_⟩;rw[ha]at he;obtain⟨e0,vp,rfl⟩:=Array.mem_map.1 he;have:=hk e0 vp hb;grind
 intro f
 induction f with
 | zero=>intro ls AO L _ _ _ hL;rw[show L=[]from hL];rfl
 | succ f ih=>
   intro ls AO L h1 h2 h3 hL;rcases hL with⟨h4,rfl⟩|⟨k,L',rfl,h5,h6⟩
   ·refine .inl ⟨?_,rfl⟩;rw[aq1]at h4⊢;intro k hk;have vG:k<l.length:=by
     grind[mem_ready,Array.getElem?_eq_some_iff]
    grind
   ·have vG:k<l.length:=by
     grind[mem_ready,Array.getElem?_eq_some_iff]
    refine .inr ⟨q k,L'.map q,rfl,(rdy ls AO h1 h2 h3 k vG).2 h5,ih _ _ _ (by grind) (by grind) (λi hi=>?_) h6⟩;by_cases hik:k=i
    ·simp_all
    ·have hq:q k≠q i:=by
      grind
     simp_all
def inE(l:List Oper):Bool:=l.all λo=>(o.after.toList.all λe=>decide (e.on<l.length))&&(match o.guard with|some g=>decide (g.1<l.length)|none=>true)
theorem dY.perm{l s} p q(hp:Yj p q l=true)(hi:inE l=true)(h:dY P n (zq p q l) s Q):dY P n l s Q:=by
 unfold Yj at hp;simp only[apP,beq_iff_eq,apR,aqK,decide_eq_true_eq]at hp;obtain⟨⟨p1,p2⟩,p3⟩:=hp;have hlen:(zq p q l).length=l.length:=by simp[zq,p1]
 have dx:∀i,i<l.length->(zq p q l)[q.getD i 0]?=some (Kc q (vF l i)):=by
  grind[zq,List.getElem?_eq_getElem]
 have hao:∀(i:Nat) (o:Oper),l[i]?=some o->vF l i=o:=by simp_all[vF]
 have q0:∀i,l.length<=i->q.getD i 0=0:=by
  grind
 let qf:Nat->Nat:=λi=>if i<l.length then q.getD i 0 else i
 let pf:Nat->Nat:=λi=>if i<l.length then p.getD i 0 else i
 have hqf:∀i,i<l.length->qf i=q.getD i 0:=λi hi=>if_pos hi
 have hpf:∀i,i<l.length->pf i=p.getD i 0:=λi hi=>if_pos hi
 unfold inE at hi;simp only[apR,apP,decide_eq_true_eq]at hi;intro fo m a w g L hL;have ja:mF (zq p q l).toArray l.length (Array.replicate l.length false) (L.map qf):=by
  refine mF.map (p:=pf) hlen (λi hi=>?_) (λi hi=>?_) (λi ck o ho=>?_) (λi o ho e he=>?_) _ _ _ _ (by simp) (by simp) (λi hi=>?_) hL
  ·grind
  ·grind
  ·rw[hqf i ck];refine⟨_,dx i ck,?_⟩;rw[hao i o ho];simp only[Kc];have hoi:=(hi o (apT ho)).1;simp_all
  ·grind
  simp_all
 refine F7 (q:=qf) (l':=(zq p q l).toArray) (λi=>?_) L a _ (h fo m a w g _ (by grind));simp only[aqJ];by_cases ck:i<l.length
 ·right;refine⟨l[i],Kc q l[i],anc ck,?_,⟨rfl,rfl,rfl,rfl,?_⟩⟩
  ·grind
  ·simp only[Kc];have hoi:=(hi l[i] (ap1 ck)).2;cases hg:l[i].guard with
   | none=>rfl
   | some g=>
     grind
 grind
theorem dY.m0{l}{s} rg us(ok:Ld n l rg=true)
  (h:runM P l.toArray (l.zip rg) (s.fr.map λe=>(e.1,0,e.2)) [] [s.L] us [] (λfr ks Ls=>Q .normal ⟨dc ks ks.length fr,Ls.getD ks.length []⟩)):dY P n l s Q:=by
 intro fo m a w g L hL;obtain⟨tr,jO,ks,Ls,h1,h2,-,h4⟩:=E9 (l.zip rg) _ [] [s.L] us [] rfl h;exact mF.run _ _ _ _ _ (Bz ok h1 h2 rfl h4 g _) hL
theorem aw.ew{id l s}(hm:P.follows .mixedOrders=true)(h:dY P n l s (λx s'=>∀bs,Q x (s'.vC bs))):aw P n (.region id l.toArray true) s Q:=
 aw.opened (dY.region hm h)
theorem aw.aeg{c s}(h:∀bs,aw P n c (s.vC bs) Q):aw P n c s Q:=λfo m a w hr g=>by
 obtain⟨bs,g2⟩:=g.vC;exact h bs fo m a w hr g2
theorem aw.merge{c c2 s} s0(h1:aw P n c s (λx s'=>x= .normal/\Wk n s' s0))(h2:∀bs,aw P n c2 (s0.vC bs) Q):aw P n (.seq c c2) s Q:=
 aw.seq (aw.mono h1 λx s' ⟨hx,hw⟩=>by subst hx;exact aw.weaken hw (aw.aeg h2))
attribute [simp] oJ Kc vF zq
end
open Go.Proofs Go.Proofs.Tryz
theorem aga(a:List Int)(n i:Nat)(hi:i<a.length)(hn:a.length<=n):((a.take i).map ax++List.replicate (n-i) 0).set i (ax a[i])=(a.take (i+1)).map ax++List.replicate (n-(i+1)) 0:=by
 have h1:((a.take i).map ax).length=i:=by simp;omega
 rw[List.set_append,if_neg (by omega),h1,Nat.sub_self,show n-i=(n-(i+1))+1 by omega,List.replicate_succ,List.set_cons_zero,aqy (l:=a),anc hi,aqM,ap0];rfl
set_option maxHeartbeats 4000000 in
set_option maxRecDepth 20000 in
theorem wW(s:an)(r:Nat)(e:Int)(n:Nat)(he:s.Entry[r]?=some e)(hn:s.Tables.aJ[r]?=some (n:Int))(rS:n≤1000000)(a:List Int)(ha:a.length≤n)(base:Int):
  Pure prog 30 [.agg (s.enc.map .d),iD r,.d (.sl (aD a)),iD base] (.agg ((aG.mk r e base (a.map ax++List.replicate (n-a.length) 0)).enc.map .d)):=by
 obtain⟨nK,x8⟩:=apQ.1 he;obtain⟨qw,rP⟩:=apQ.1 hn;refine rn func30 ?_;simp[-cB,f30];intro bs;refine aw.ew bc (dY.abt 13 15 (by decide) (dY.m0 [asj,asj,asj,asj,asj,asj,asj,Q0,Q0,Q0,Q0,Q0,Q0,none,asn,none,none] [] (by kernel_rfl) ?_) (dY.perm [0,1,2,3,4,5,6,7,8,9,10,11,12,15,13,14,16] [0,1,2,3,4,5,6,7,8,9,10,11,12,14,15,13,16] (by kernel_rfl) (by kernel_rfl) (dY.m0 [asj,asj,asj,asj,asj,asj,asj,Q3,Q3,Q3,Q3,Q3,Q3,none,none,asl,none] [] (by kernel_rfl) ?_)))
 all_goals
  simp[-cB,x8,nK,rP,qw];refine⟨⟨by simp only[maxLen];omega,by omega⟩,λLw=>?_⟩;refine aw.cX [8,9,27,28,29] a.length (λi=> [(29,iD i)]) (λi=> [(25,.row 3 1 (dd (aD ((a.take i).map ax++List.replicate (n-i) 0))))]) (λ_=>True) (by rfl) (by simp[dd,aD,-J6]) ?_;intro i hi _;rcases apW hi with ay|heq
  ·have da:aN .i64 ((i:Int)+1):=iW;have dw:(i:Int)<a.length:=by omega
   have rE:=aga a n i ay ha;have Lx:((a.take i).map ax++List.replicate (n-i) 0).length=n:=by simp;omega
   have hw:=cu a[i];generalize (a.take i).map ax++List.replicate (n-i) 0=ls at *;simp[-cB,ay,dw];refine aw.bI [Q0,Q0,Q0,Q0,Q0,Q0,none] [iD (ax a[i])] bc (by kernel_rfl) ?_;simp[-cB,hw.ok,Lx,ay,dw,da];exact⟨by omega,by rw[rE,List.map_take]⟩
  ·simp[-cB,heq,aG.enc]
def aL(l:List Int)(i:Int):Int:=if i<0 then 0 else l[i.toNat]?.getD 0
def cT(n:Nat)(x:Int):Bool:=decide (1<=x/\x<n)
theorem bG{n:Nat}{x:Int}:cT n x=true↔1<=x/\x<n:=by simp[cT]
def bP(nx:List Int)(n:Nat):Nat->Int->List Int
 | 0,_=> []
 | k+1,c=>if cT n c then c::bP nx n k (aL nx c)else []
theorem BH(nx:List Int)(n:Nat):∀k c,(bP nx n k c).length<=k
 | 0,c=>by simp[bP]
 | k+1,c=>by
   rw[bP];split
   ·have:=BH nx n k (aL nx c);simp;omega
   ·simp
theorem mY{nx:List Int}{n:Nat}:∀{k c x},x∈bP nx n k c->1<=x/\x<n
 | 0,c,x,h=>by simp[bP]at h
 | k+1,c,x,h=>by
   rw[bP]at h;split at h
   ·rename_i hc;rcases ap8.1 h with rfl|h
    ·exact bG.1 hc
    ·exact mY h
   ·simp at h
inductive Ch(nx:List Int) (n:Nat):Int->List Int->Prop
 | nil:Ch nx n 0 []
 | cons {c:Int} {l:List Int} (h:1<=c/\c<n) (t:Ch nx n (aL nx c) l):Ch nx n c (c::l)
theorem Ch.mem{nx:List Int}{n:Nat}{c:Int}{l:List Int}(h:Ch nx n c l):∀x∈l,1<=x/\x<n:=by
 induction h with
 | nil=>simp
 | cons h t ih=>
   intro x hx;rcases ap8.1 hx with rfl|hx
   ·exact h
   ·exact ih x hx
theorem Ch.uniq{nx:List Int}{n:Nat}{c:Int}{l l':List Int}(h:Ch nx n c l)(h':Ch nx n c l'):l=l':=by
 induction h generalizing l' with
 | nil=>cases h' with
   | nil=>rfl
   | cons h t=>omega
 | cons h t ih=>cases h' with
   | nil=>omega
   | cons h' t'=>rw[ih t']
theorem Ch.chain{nx:List Int}{n:Nat}{c:Int}{l:List Int}(h:Ch nx n c l):∀k,l.length<=k->bP nx n k c=l:=by
 induction h with
 | nil=>intro k _;cases k<;>simp[bP,cT]
 | cons h t ih=>
   intro k hk;simp only[apY]at hk;obtain⟨k,rfl⟩:∃j,k=j+1:=⟨k-1,by omega⟩
   rw[bP,if_pos (bG.2 h),ih k (by omega)]
theorem Ch.nodup{nx:List Int}{n:Nat}{c:Int}{l:List Int}(h:Ch nx n c l):l.Nodup:=by
 induction h with
 | nil=>simp
 | @cons c l h t ih=>
   refine aqZ.2 ⟨λhm=>?_,ih⟩;obtain⟨a,b,rfl⟩:=arh hm;have sub:∀{a:List Int} {d:Int},Ch nx n d (a++c::b)->Ch nx n c (c::b):=by
    intro a
    induction a with
    | nil=>intro d hd;cases hd with
      | cons h t=>exact .cons h t
    | cons y a iha=>intro d hd;cases hd with
      | cons h t=>exact iha t
   have h1:=sub t;have h2:=(Ch.cons h t).uniq h1;have:=congrArg List.length h2;simp at this;omega
theorem BI{n:Nat}{l:List Int}(h:l.Nodup)(hm:∀x∈l,1<=x/\x<n):l.length<n\/l=[]:=by
 have key:∀(n:Nat) (l:List Int),l.Nodup->(∀x∈l,1<=x/\x<n)->l.length<=n-1:=by
  intro n
  induction n with
  | zero=>
    intro l _ hm;cases l with
    | nil=>simp
    | cons x l=>have:=hm x ap7;omega
  | succ n ih=>
    intro l hd hm;by_cases hn:(n:Int)∈l
    ·have h1:=ih (l.erase n) (hd.erase _) (λx hx=>by
      have h2:=hm x (List.mem_of_mem_erase hx);have h3:x≠n:=λe=>by subst e;exact(hd.not_mem_erase hx)
      omega)
     rw[ar4 hn]at h1;have:=List.length_pos_of_mem hn;have h4:=hm n hn;omega
    ·have:=ih l hd (λx hx=>by
      have h2:=hm x hx;have h3:x≠n:=λe=>hn (e ▸ hx)
      omega)
     omega
 cases l with
 | nil=>exact .inr rfl
 | cons x l=>
   have:=key n _ h hm;have h2:=hm x ap7;left;simp at this⊢;omega
theorem Ch.len{nx:List Int}{n:Nat}{c:Int}{l:List Int}(h:Ch nx n c l):l.length<=n:=by
 rcases BI h.nodup h.mem with h|h
 ·omega
 ·simp[h]
theorem Ch.full{nx:List Int}{n:Nat}{c:Int}{l:List Int}(h:Ch nx n c l):bP nx n n c=l:=h.chain n h.len
theorem Ch.rH{nx nx':List Int}{n:Nat}{c:Int}{l:List Int}(h:Ch nx n c l)(hk:∀x∈l,aL nx' x=aL nx x):Ch nx' n c l:=by
 induction h with
 | nil=>exact .nil
 | cons h t ih=>
   refine .cons h ?_;rw[hk _ ap7];exact ih (λx hx=>hk x (ap2 _ hx))
structure Tree where
 bz:List Int
 jQ:List Int
 km:List Int
structure iJ(t:Tree) (n:Nat) (ls:Int->List Int):Prop where
 pos:0<n
 lp:t.bz.length=n
 lc:t.jQ.length=n
 ln:t.km.length=n
 p0:aL t.bz 0=0
 c0:aL t.jQ 0=0
 n0:aL t.km 0=0
 ch:∀x:Int,1<=x->x<n->Ch t.km n (aL t.jQ x) (ls x)
 par:∀x:Int,1<=x->x<n->∀y∈ls x,aL t.bz y=x
 up:∀x:Int,1<=x->x<n->aL t.bz x=0/\aL t.km x=0\/(1<=aL t.bz x/\aL t.bz x<n)/\x∈ls (aL t.bz x)
 ends:∀x:Int,1<=x->x<n->∃l,Ch t.bz n x l
def cz(t:Tree)(x:Int):List Int:=if cT t.bz.length x then bP t.km t.bz.length t.bz.length (aL t.jQ x)else []
def jV(t:Tree)(x:Int):List Int:=bP t.bz t.bz.length t.bz.length x
def gh(t:Tree)(x:Int):Int:=(jV t x).getLastD 0
theorem iJ.kids{t:Tree}{n:Nat}{ls:Int->List Int}(h:iJ t n ls){x:Int}(hx:1<=x/\x<n):cz t x=ls x:=by
 rw[cz,h.lp,if_pos (bG.2 hx),(h.ch x hx.1 hx.2).full]
def xu(t:Tree)(x:Int):Bool:=
 (cz t x).all (λy=>decide (aL t.bz y=x)&&decide ((cz t x).count y=1)) &&
  decide ((match(cz t x).getLast? with|some y=>aL t.km y|none=>aL t.jQ x)=0)
theorem OM{nx:List Int}{n:Nat}(h0:aL nx 0=0):∀{k:Nat} {c:Int},(bP nx n k c).length < k∨(bP nx n k c).Nodup∧n≤k→
  (match(bP nx n k c).getLast? with|some y=>aL nx y|none=>c)=0->Ch nx n c (bP nx n k c):=by
 intro k
 induction k with
 | zero=>
   intro c hd he;simp only[bP,List.getLast?_nil]at he⊢;subst he;exact .nil
 | succ k ih=>
   intro c hd he;rw[bP]at hd he⊢;by_cases hc:cT n c=true
   ·rw[if_pos hc]at hd he⊢;have wX:(match(bP nx n k (aL nx c)).getLast? with|some y=>aL nx y|none=>aL nx c)=0:=by
     rw[ar5]at he;cases hl:(bP nx n k (aL nx c)).getLast? with
     | none=>simpa[hl]using he
     | some y=>simpa[hl]using he
    refine .cons (bG.1 hc) ?_;cases k with
    | zero=>simp only[bP,List.getLast?_nil]at wX⊢;rw[wX];exact .nil
    | succ k=>
      refine ih ?_ wX;rcases hd with hd|⟨hd,hn⟩
      ·left;simpa using hd
      ·-- there are amH alu aoF rounds
       left;have h1:=BI hd (λx hx=>by
        rcases ap8.1 hx with rfl|hx
        ·exact bG.1 hc
        ·exact mY hx)
       rcases h1 with h1|h1
       ·simp only[apY]at h1;omega
       ·cases h1
   ·rw[if_neg hc]at hd he⊢;simp only[List.getLast?_nil]at he;subst he;exact .nil
def ai.tree(w:ai):Tree:=⟨w.ah,w.Child,w.Next⟩
def eB(nx:List Int):Nat->Int->Int
 | 0,c=>c
 | k+1,c=>eB nx k (aL nx c)
theorem ta nx:∀k c,eB nx (k+1) c=aL nx (eB nx k c)
 | 0,c=>rfl
 | k+1,c=>by rw[eB,ta nx k];rfl
theorem vH nx n:∀i k c,(∀j<i,cT n (eB nx j c)=true)->bP nx n (i+k) c=(List.range i).map (λj=>eB nx j c)++bP nx n k (eB nx i c)
 | 0,k,c,_=>by rw[aqB];rfl
 | i+1,k,c,h=>by
   have h0:cT n c=true:=h 0 (by omega);rw[show i+1+k=(i+k)+1 by omega,bP,if_pos h0,vH nx n i k (aL nx c) (λj hj=>h (j+1) (by omega)),List.range_succ_eq_map];simp[eB]
def mZ(nx:List Int)(i:Nat)(c:Int):List Int:=(List.range i).map (λj=>eB nx j c)
theorem F8 nx i c:mZ nx (i+1) c=mZ nx i c++ [eB nx i c]:=by simp[mZ,ara]
theorem BJ nx i c:(mZ nx i c).length=i:=by simp[mZ]
theorem jc{nx n i c}(h:∀j<i,cT n (eB nx j c)=true)(hs:cT n (eB nx i c)=false\/i=n)(hi:i<=n):bP nx n n c=mZ nx i c:=by
 have:=vH nx n i (n-i) c h;rw[show i+(n-i)=n by omega]at this;rw[this];rcases hs with hs|hs
 ·cases hk:n-i with
  | zero=>simp[bP,mZ]
  | succ k=>simp_all[bP,mZ]
 simp_all[bP,mZ]
theorem jD(w:ai) x:Pure prog 113 [.agg (w.enc.map .d),iD x] (oD (cT w.ah.length x)):=by
 refine Pure.run func113 rfl (by simp) ?_;simp[cT]
theorem lu(w:ai) x:Pure prog 155 [.agg (w.enc.map .d),iD x] (oD (cT w.ah.length x)):=by
 refine Pure.run func155 rfl (by simp) ?_;simp[cT]
theorem Hg l i:Pure prog 168 [.d (.sl (aD l)),iD i] (iD (aL l i)):=by
 unfold aL;refine Pure.run func168 rfl (by simp) ?_;simp[-cB]
 repeat' (first
  | (refine aA (λh=>?_) (λh=>?_)<;>(try simp at h)<;>(try simp[*]))
  )
 ·grind
 ·omega
theorem AP(w:ai)(hw:w.wf) x:Pure prog 116 [.agg (w.enc.map .d),iD x] (.d (.sl (aD (cz w.tree x)))):=by
 have hl:=ai.jB hw;have e1:w.tree.bz=w.ah:=rfl;have e2:w.tree.jQ=w.Child:=rfl;have e3:w.tree.km=w.Next:=rfl;unfold cz;rw[e1,e2,e3];cases hx:cT w.ah.length x with
 | false=>
   refine Pure.run func116 rfl (by simp) ?_;simp[-cB,f116]
   try intro(_:Nat->Nat)
   refine ar.weaken (Wk.aa3 (t:=5) rfl) ?_
   repeat' (first
    | (with_reducible refine And.intro ?_ ?_)
    | ((first|(refine aA (λh=>?_) (λh=>?_)<;>(try simp at h))|refine pC (jD _ _) ?_|refine pC (Hg _ _) ?_)<;>(try simp[-cB, *]))
    | (with_reducible intro _))
 | true=>
   refine Pure.run func116 rfl (by simp) ?_;simp[-cB,f116]
   try intro(_:Nat->Nat)
   repeat' (first
    | (with_reducible refine And.intro ?_ ?_)
    | ((first|(refine aA (λh=>?_) (λh=>?_)<;>(try simp at h))|refine pC (jD _ _) ?_|refine pC (Hg _ _) ?_)<;>(try simp[-cB, *]))
    | (with_reducible intro _))
   generalize hc:aL w.Child x=c;refine aw.weaken (Wk.Ot (t:=5) (h:=30) (k:=1) (ty:=3) rfl (by simp)) ?_;refine aw.cX [2,5,6,7] w.ah.length (λi=> [(6,iD (eB w.Next i c)),(7,iD i)]) (λi=> [(30,.row 3 1 (dd (aD (mZ w.Next i c))))]) (λi=>∀j<i,cT w.ah.length (eB w.Next j c)=true) (by rfl) (by simp[eB,mZ,aD]) ?_;intro i hi hH;have hs:=ta w.Next i c;have hf:=F8 w.Next i c;have mL:=BJ w.Next i c;rcases apW hi with ay|rfl
   ·have a4:aN .i64 ((i:Int)+1):=by grind[aR]
    cases hT:cT w.ah.length (eB w.Next i c)with
    | false=>
      have bx:=jc hH (.inl hT) hi;simp[-cB,ay];refine ar.fE rfl (λh=>jD w _) rfl (by rfl) (by simp) (by simp) rfl ?_;simp[-cB,hT,bx]
    | true=>
      simp[-cB,ay];refine ar.fE rfl (λh=>jD w _) rfl (by rfl) (by simp) (by simp) rfl ?_;simp[-cB,hT,hs,hf,mL];refine⟨by omega,?_⟩
      repeat' (first
       | (with_reducible refine And.intro ?_ ?_)
       | (refine pC (Hg _ _) ?_<;>(try simp[-cB, *]))
       | (with_reducible intro _))
      grind
   ·have bx:=jc hH (.inr rfl) hi;simp[-cB];refine ar.fE rfl (λh=>jD w _) rfl (by rfl) (by simp) (by simp) rfl ?_;simp[-cB,bx]
theorem qA{l:List Int}{x:Int}(h:cT l.length x=true):l[x.toNat]'(by grind[bG])=aL l x:=by
 have:=bG.1 h;rw[aL,if_neg (by omega),anc (by omega)];rfl
theorem jn{l x}(h:cT l.length x=true):l[x.toNat]?.getD 0=aL l x:=by
 have:=bG.1 h;rw[aL,if_neg (by omega)]
theorem Yl{nx n i c}(h:∀j<i+1,cT n (eB nx j c)=true)(hi:i<n):eB nx i c∈bP nx n n c:=by
 have:=vH nx n (i+1) (n-(i+1)) c h;grind
theorem ON(w:ai)(hw:w.wf) x y:Pure prog 117 [.agg (w.enc.map .d),iD x,iD y] (oD (decide (y∈jV w.tree x))):=by
 have hl:=ai.jB hw;have e1:w.tree.bz=w.ah:=rfl;unfold jV;rw[e1];refine Pure.run func117 rfl (by simp) ?_;simp[-cB,f117]
 try intro(_:Nat->Nat)
 refine aw.cX [1,2,3,7] w.ah.length (λi=> [(1,iD (eB w.ah i x)),(7,iD i)]) (λ_=> []) (λi=>∀j<i,cT w.ah.length (eB w.ah j x)=true/\eB w.ah j x≠y) (by rfl) (by simp[eB]) ?_;intro i hi hH;have hs:=ta w.ah i x;have jN:y∉mZ w.ah i x:=by
  intro hm;obtain⟨j,hj,he⟩:=apV.1 hm;grind
 rcases apW hi with ay|rfl
 ·have a4:aN .i64 ((i:Int)+1):=by grind[aR]
  cases hT:cT w.ah.length (eB w.ah i x)with
  | false=>
    have bx:=jc (λj hj=>(hH j hj).1) (.inl hT) hi;simp[-cB,ay];refine ar.fE rfl (λh=>jD w _) rfl (by rfl) (by simp) (by simp) rfl ?_;simp[-cB,hT,bx,jN]
  | true=>
    have hg:=qA hT;have oi:=jn hT;have hb:=bG.1 hT;have nV:∀j<i+1,cT w.ah.length (eB w.ah j x)=true:=λj hj=>by
     grind
    have cO:=Yl nV ay;simp[-cB,ay];refine ar.fE rfl (λh=>jD w _) rfl (by rfl) (by simp) (by simp) rfl ?_;by_cases hxy:eB w.ah i x=y
    ·rw[hxy]at cO hT;simp[-cB,hT,hxy,cO]
    ·simp[-cB,hT,hs,hg,oi,hxy,a4];grind
 ·have bx:=jc (λj hj=>(hH j hj).1) (.inr rfl) hi;simp[-cB];refine ar.fE rfl (λh=>jD w _) rfl (by rfl) (by simp) (by simp) rfl ?_;simp[-cB,bx,jN]
theorem Ym(w:ai)(hw:w.wf) x:Pure prog 118 [.agg (w.enc.map .d),iD x] (iD (gh w.tree x)):=by
 have hl:=ai.jB hw;have e1:w.tree.bz=w.ah:=rfl;unfold gh jV;rw[e1];refine Pure.run func118 rfl (by simp) ?_;simp[-cB,f118]
 try intro(_:Nat->Nat)
 refine aw.cX [1,2,5,6] w.ah.length (λi=> [(1,iD (eB w.ah i x)),(5,iD ((mZ w.ah i x).getLastD 0)),(6,iD i)]) (λ_=> []) (λi=>∀j<i,cT w.ah.length (eB w.ah j x)=true) (by rfl) (by simp[eB,mZ]) ?_;intro i hi hH;have hs:=ta w.ah i x;have hf:=F8 w.ah i x;rcases apW hi with ay|rfl
 ·have a4:aN .i64 ((i:Int)+1):=by grind[aR]
  cases hT:cT w.ah.length (eB w.ah i x)with
  | false=>
    have bx:=jc hH (.inl hT) hi;simp[-cB,ay];refine ar.fE rfl (λh=>jD w _) rfl (by rfl) (by simp) (by simp) rfl ?_;simp[-cB,hT,bx]
  | true=>
    have hg:=qA hT;have oi:=jn hT;have hb:=bG.1 hT;simp[-cB,ay];refine ar.fE rfl (λh=>jD w _) rfl (by rfl) (by simp) (by simp) rfl ?_;simp[-cB,hT,hs,hf,hg,oi,a4];grind
 ·have bx:=jc hH (.inr rfl) hi;simp[-cB];refine ar.fE rfl (λh=>jD w _) rfl (by rfl) (by simp) (by simp) rfl ?_;simp[-cB,bx]
theorem F9 l(hl:l.length<=1000000000000000) x:Pure prog 115 [.d (.sl (aD l)),iD x] (iD (l.count x)):=by
 refine Pure.run func115 rfl (by simp) ?_;simp[f115];refine aw.fq [0,1,5,6] l (λpre=> [(5,iD (pre.count x)),(6,iD pre.length)]) (λ_=> []) (λ_=>True) (by rfl) (by omega) (by simp) ?_ ?_
 ·rintro pre y post bn-ay bR a4;have hc:aN .i64 ((pre.count x:Int)+1):=by
   grind[List.count_le_length,aR]
  by_cases hy:y=x
  ·subst hy;simp[ay,bR,a4,hc]
  ·simp[ay,bR,a4,hy,List.count_cons]
 ·simp
theorem vI{t:Tree}{x y:Int}(h:y∈cz t x):1<=y/\y<t.bz.length:=by
 unfold cz at h;split at h
 ·exact mY h
 ·cases h
theorem tc(t:Tree)(x:Int):(cz t x).length<=t.bz.length:=by
 unfold cz;split
 ·exact BH _ _ _ _
 ·simp
theorem oK(l:List Int)(x:Int)(h:0<=x):l[x.toNat]?.getD 0=aL l x:=by rw[aL,if_neg (by omega)]
theorem oL(l:List Int)(x:Int)(h:0<=x)(h2:x.toNat<l.length):l[x.toNat]=aL l x:=by
 rw[aL,if_neg (by omega),anc h2];rfl
def jx(t:Tree)(x:Int)(L:List Int)(y:Int):Bool:=decide (aL t.bz y=x)&&decide (L.count y=1)
theorem BK(t:Tree)(x:Int):xu t x=((cz t x).all (jx t x (cz t x))&&decide ((match(cz t x).getLast? with|some y=>aL t.km y|none=>aL t.jQ x)=0)):=rfl
theorem OP(w:ai)(hw:w.wf)(hc:w.Child.length=w.ah.length)(hn:w.Next.length=w.ah.length)(x:Int)(hx:1≤x∧x < w.ah.length):
  Pure prog 114 [.agg (w.enc.map .d),iD x] (oD (xu w.tree x)):=by
 have hl:=ai.jB hw;have e1:w.tree.bz=w.ah:=rfl;have e2:w.tree.jQ=w.Child:=rfl;have e3:w.tree.km=w.Next:=rfl;have xS:=AP w hw x;have hk:=λy=>vI (t:=w.tree) (x:=x) (y:=y)
 have vG:=tc w.tree x;rw[e1]at vG hk;rw[BK,e2,e3];generalize cz w.tree x=L at *;have agb:=λy=>(F9 L (by omega) y).ok
 have hgx:=oK w.Child x (by omega);have agc:=oL w.Child x (by omega) (by omega);refine rn func114 ?_;simp[-cB,f114]
 try intro(_:Nat->Nat)
 repeat' (first
  | (with_reducible refine And.intro ?_ ?_)
  | ((first|(refine aA (λh=>?_) (λh=>?_)<;>(try simp at h))|refine pC xS ?_|refine lC xS ?_|refine pG xS ?_)<;>(try simp[-cB, *]))
  | (with_reducible intro _))
 clear xS;refine aw.fq [1,2,5,6] L (λpre=> [(6,iD pre.length)]) (λ_=> []) (λpre=>pre.all (jx w.tree x L)=true) (by rfl) (by omega) (by simp) ?_ ?_
 ·rintro pre y post bn hH ay bR a4;have hy:=hk y (by rw[bn];simp);have bQ:L.all (jx w.tree x L)=(jx w.tree x L y&&post.all (jx w.tree x L)):=by
   have:(pre++y::post).all (jx w.tree x L)=(jx w.tree x L y&&post.all (jx w.tree x L)):=by
    rw[List.all_append,hH,ase,ard]
   rw[<-bn]at this;exact this
  have hgy:=oK w.ah y (by omega);have abu:=oL w.ah y (by omega) (by omega);have sG:(pre++ [y]).all (jx w.tree x L)=jx w.tree x L y:=by rw[List.all_append,hH];simp
  have hp:jx w.tree x L y=(decide (aL w.ah y=x)&&decide (L.count y=1)):=rfl;have ah0:(!decide (aL w.ah y=x)||((L.count y:Int) !=1))=!jx w.tree x L y:=by
   rw[hp,arv];simp;omega
  clear bn;simp[-cB,ay,bR];refine aw.cV [iD (L.count y)] bc (by kernel_rfl) (by rfl) ?_;simp[-cB,ay,bR,hgy,abu,agb y];simp only[ah0];have hH':∀z∈pre,jx w.tree x L z=true:=apR.1 hH;refine⟨by omega,?_⟩;cases hb:jx w.tree x L y with
  | false=>simp[bQ,hb]
  | true=>
    simp[hb,a4];rintro z (hz|rfl)
    ·exact hH' z hz
    ·exact hb
 ·intro hH;cases hL:L.getLast? with
  | none=>
    have:L=[]:=List.getLast?_eq_none_iff.1 hL;subst this;simp[-cB,hgx,agc];omega
  | some y=>
    have bU:L≠ []:=by rintro rfl;cases hL
    have iX:0<L.length:=aqz.2 bU;have hyL:y∈L:=arP hL;have hy:=hk y hyL;have hgy:=oK w.Next y (by omega);have abu:=oL w.Next y (by omega) (by omega);have wX:L[L.length-1]?=some y:=by rw[<-hL,arZ]
    have agd:L[L.length-1]'(by omega)=y:=(apQ.1 wX).2;have ajR:((L.length:Int)-1).toNat=L.length-1:=by omega
    simp[-cB,hgx,agc,iX];refine⟨by omega,?_⟩;refine aw.cV [] bc (by kernel_rfl) (by rfl) ?_;simp[-cB,ajR,wX,agd,hgy,abu,hH];exact⟨iW,by omega,by omega,by omega⟩
def sh(t:Tree)(x:Int):Bool:=
 !(decide (aL t.bz x≠0) &&!cT t.bz.length (aL t.bz x)) &&!(decide (aL t.bz x=0) && decide (aL t.km x≠0)) && xu t x &&
   !(decide (aL t.bz x≠0)&&decide ((cz t (aL t.bz x)).count x≠1))&&!(cT t.bz.length (aL t.bz x)&&decide (x∈jV t (aL t.bz x)))
def po(t:Tree):Bool:=
 decide (t.bz.length≠0)&&decide (t.jQ.length=t.bz.length)&&decide (t.km.length=t.bz.length)&&decide (aL t.bz 0=0)&&decide (aL t.jQ 0=0)&&decide (aL t.km 0=0) &&
  (List.range (t.bz.length-1)).all λk=>sh t (k+1)
set_option maxRecDepth 20000 in
set_option maxHeartbeats 4000000 in
theorem OQ(w:ai)(hw:w.wf):Pure prog 52 [.agg (w.enc.map .d)] (oD (po w.tree)):=by
 have hl:=ai.jB hw;have e1:w.tree.bz=w.ah:=rfl;have e2:w.tree.jQ=w.Child:=rfl;have e3:w.tree.km=w.Next:=rfl;unfold po;rw[e1,e2,e3];have g1:=oK w.ah 0 (by omega);have g2:=oK w.Child 0 (by omega);have g3:=oK w.Next 0 (by omega);simp at g1 g2 g3;by_cases h1:w.ah.length=0
 ·refine Pure.run func52 rfl (by simp[f52,h1]) ?_;simp[-cB,f52,h1]
 have jy:w.ah≠ []:=λh=>h1 (by simp[h])
 by_cases h2:¬w.Child.length=w.ah.length
 ·have rQ:¬((w.Child.length:Int)=w.ah.length):=by omega
  refine Pure.run func52 rfl (by simp[f52,h1,jy,h2,rQ]) ?_;simp[-cB,f52,h1,jy,h2,rQ]
 have h2:=aqX.1 h2;by_cases h3:¬w.Next.length=w.ah.length
 ·have SS:¬((w.Next.length:Int)=w.ah.length):=by omega
  refine Pure.run func52 rfl (by simp[f52,h1,jy,h2,h3,SS]) ?_;simp[-cB,f52,h1,jy,h2,h3,SS]
 have h3:=aqX.1 h3;have q1:=oL w.ah 0 (by omega) (by simp;omega);have q2:=oL w.Child 0 (by omega) (by simp;omega);have q3:=oL w.Next 0 (by omega) (by simp;omega);have iX:0<w.ah.length:=by omega
 simp at q1 q2 q3;by_cases z1:¬aL w.ah 0=0
 ·refine Pure.run func52 rfl (by simp[f52,h1,jy,h2,h3,g1,g2,g3,q1,q2,q3,iX,z1]) ?_;simp[-cB,f52,h1,jy,h2,h3,g1,g2,g3,q1,q2,q3,iX,z1]
 have z1:=aqX.1 z1;by_cases z2:¬aL w.Child 0=0
 ·refine Pure.run func52 rfl (by simp[f52,h1,jy,h2,h3,g1,g2,g3,q1,q2,q3,iX,z1,z2]) ?_;simp[-cB,f52,h1,jy,h2,h3,g1,g2,g3,q1,q2,q3,iX,z1,z2]
 have z2:=aqX.1 z2;by_cases z3:¬aL w.Next 0=0
 ·have z3':(aL w.Next 0 !=0)=true:=by simpa using z3
  refine Pure.run func52 rfl (by simp[f52,h1,jy,h2,h3,g1,g2,g3,q1,q2,q3,iX,z1,z2,z3,z3']) ?_;simp[-cB,f52,h1,jy,h2,h3,g1,g2,g3,q1,q2,q3,iX,z1,z2,z3,z3']
 have z3:=aqX.1 z3;simp only[h1,h2,h3,z1,z2,z3,ne_eq,not_false_eq_true,decide_true,ard];generalize oM:((List.range (w.ah.length-1)).all λk=>sh w.tree ((k:Int)+1))=res;refine Pure.run func52 rfl (by simp[f52,h1,jy,h2,h3,g1,g2,g3,q1,q2,q3,iX,z1,z2,z3]) ?_;simp[-cB,f52,h1,jy,h2,h3,g1,g2,g3,q1,q2,q3,iX,z1,z2,z3];intro bs;refine aw.cX [1,3,4] (w.ah.length-1) (λi=> [(4,iD (i+1))]) (λ_=> []) (λi=>∀k<i,sh w.tree (k+1)=true) (by rfl) (by simp) ?_;intro i hi hH;rcases apW hi with ay|Xn
 ·have a4:aN .i64 ((i:Int)+1+1):=iW;have hx:1<=(i:Int)+1/\(i:Int)+1<w.ah.length:=by omega
  have dw:(i:Int)+1<w.ah.length:=by omega
  have IF:=oK w.ah ((i:Int)+1) (by omega);have SU:=oK w.Next ((i:Int)+1) (by omega);have IG:=oL w.ah ((i:Int)+1) (by omega) (by omega);have SV:=oL w.Next ((i:Int)+1) (by omega) (by omega);have wy:((i:Int)+1).toNat=i+1:=by omega
  simp only[wy]at IF SU IG SV;have II:sh w.tree ((i:Int)+1)=false->res=false:=λh=>by
   rw[<-oM,List.all_eq_false];exact⟨i,aqK.2 ay,by simp[h]⟩
  have rD:sh w.tree ((i:Int)+1)=true->∀k<i+1,sh w.tree ((k:Int)+1)=true:=λh k hk=>by
   rcases aq7 k i with h2|h2
   ·exact hH k h2
   ·rw[show k=i by omega];exact h
  have hN:sh w.tree ((i:Int)+1)=(!(decide (aL w.ah ((i:Int)+1)≠0)&&!cT w.ah.length (aL w.ah ((i:Int)+1)))&&!(decide (aL w.ah ((i:Int)+1)=0)&&decide (aL w.Next ((i:Int)+1)≠0))&&xu w.tree ((i:Int)+1) &&
   !(decide (aL w.ah ((i:Int)+1)≠0)&&decide ((cz w.tree (aL w.ah ((i:Int)+1))).count ((i:Int)+1)≠1))&&!(cT w.ah.length (aL w.ah ((i:Int)+1))&&decide (((i:Int)+1)∈jV w.tree (aL w.ah ((i:Int)+1))))):=rfl
  have oU:=OP w hw h2 h3 ((i:Int)+1) hx;have KS:=λp=>AP w hw p
  have vG:=λp=>tc w.tree p
  rw[e1]at vG;have tH:=λp=>F9 (cz w.tree p) (by have:=vG p;omega) ((i:Int)+1)
  have SW:=λp=>jD w p
  have hcw:=λp=>ON w hw p ((i:Int)+1)
  simp[-cB,dw,IF,SU,IG,SV,h2,h3];generalize aL w.ah ((i:Int)+1)=p at *;generalize aL w.Next ((i:Int)+1)=nx at *;have OR:=KS p;have U3:=tH p;have OS:=SW p;have OT:=hcw p;generalize xu w.tree ((i:Int)+1)=lb at *;generalize cz w.tree p=kd at *;generalize cT w.ah.length p=ip at *;generalize decide (((i:Int)+1)∈jV w.tree p)=up at *;generalize sh w.tree ((i:Int)+1)=nb at *;clear oM KS vG tH SW hcw jy g1 g2 g3 q1 q2 q3 z1 z2 z3;by_cases mN:p=0<;>by_cases sS:nx=0
  all_goals refine⟨by omega,?_⟩
  all_goals try simp[-cB,mN,sS]
  all_goals try rw[mN]at OS
  all_goals try rw[mN]at OT
  all_goals try rw[mN]at OR
  all_goals try rw[mN]at IF IG
  all_goals try rw[sS]at SU SV
  all_goals
   repeat' (first
    | (with_reducible refine And.intro ?_ ?_)
    | (refine aA (λh=>?_) (λh=>?_)<;>(try simp at h)<;>(try simp[-cB,h,mN,sS,a4,ay,IF,SU,IG,SV,h2,h3]))
    | ((first|refine pC OS ?_|refine pC oU ?_|refine pC OR ?_|refine pC U3 ?_|refine pC OT ?_|refine lC OS ?_|refine lC oU ?_|refine lC OR ?_|refine lC U3 ?_|refine lC OT ?_|refine pG OS ?_|refine pG oU ?_|refine pG OR ?_|refine pG U3 ?_|refine pG OT ?_)<;>(try simp[-cB,mN,sS,a4,ay,IF,SU,IG,SV,h2,h3]))
    | (with_reducible intro _))
   all_goals clear OS oU OR U3 OT IF SU IG SV
   all_goals first|assumption|omega|(refine II ?_;rw[hN];clear hN II rD hH;cases ip<;>cases lb<;>cases up<;>simp_all<;>omega)|(refine rD ?_ _ (by assumption);rw[hN];clear hN II rD hH;cases ip<;>cases lb<;>cases up<;>simp_all<;>omega)|skip
 ·subst Xn;have bQ:∀k,k<w.ah.length-1->sh w.tree ((k:Int)+1)=true:=hH;have KW:¬(((w.ah.length-1:Nat):Int)+1<w.ah.length):=by omega
  have hr:res=true:=by rw[<-oM,apR];exact λk hk=>bQ k (aqK.1 hk)
  simp[-cB,KW,hr]
def Fk:Option hU->hU->Bool
 | none,_=>true
 | some p,w=>decide (p.AM<w.AM)
def wY(t:aq)(n:Int):Bool:=(t.aB[n.toNat]?.getD aZ.zero).Room
def U4(t:aq)(prev:Option hU)(w:hU):Bool:=
 bJ w.AM 1 12&&Fk prev w&&gV t w.To&&wY t w.To&&oI t w.jj true&&pV t w.bC true
def na(t:aq):Option hU->List hU->Bool
 | _,[]=>true
 | p,w::l=>U4 t p w&&na t (some w) l
def M5(t:aq)(l:List hU):Bool:=na t none l
theorem Ly(t:aq)(l r:List hU)(p:Option hU):na t p (l++r)=(na t p l&&na t (l.getLast?.or p) r):=by
 induction l generalizing p with
 | nil=>simp[na]
 | cons w l ih=>
   rw[apZ,na,na,ih,ar8];cases hl:l.getLast? with
   | none=>have:l=[]:=by simpa using hl
           subst this;simp
   | some q=>simp[ar5,hl]
set_option maxRecDepth 20000 in
theorem BL(t:aq)(ht:t.wf)(l:List hU)(hl:l.length<=1000000000000000)(hw:∀x∈l,x.wf):Pure prog 174 [.agg (t.enc.map .d),.d (.sl (l.map hU.enc))] (oD (M5 t l)):=by
 have hlen:t.aB.length<=2000000000000:=by have:=ht;simp[aq.wf]at this;omega
 unfold M5;refine rn func174 ?_;simp[f174]
 try intro(_:Nat->Nat)
 refine aw.fq [1,2,5] l (λpre=> [(5,iD pre.length)]) (λ_=> []) (λpre=>na t none pre=true) (by rfl) (by omega) (by simp[na]) ?_ ?_
 ·rintro pre x post bn hH ay bR a4;have bQ:na t none l=(U4 t pre.getLast? x&&na t (some x) post):=by
   rw[bn,Ly,hH,na];simp
  have ee:na t none (pre++ [x])=U4 t pre.getLast? x:=by rw[Ly,hH,na,na];simp
  have hx:=hw x (by rw[bn];simp);have IJ:∀i:Nat,i+1=pre.length->l[i]?=pre.getLast?:=by
   intro i hi;rw[bn,aqx (by omega),arZ];congr 1;omega
  have hT:gV t x.To=true->(1<=x.To/\x.To.toNat<t.aB.length):=by
   intro h;unfold gV at h;rw[zp]at h;omega
  have CO:U4 t pre.getLast? x=(bJ x.AM 1 12&&Fk pre.getLast? x&&gV t x.To&&wY t x.To&&oI t x.jj true&&pV t x.bC true):=rfl;rw[CO]at bQ ee;clear hw bn;simp[-cB, *,-IJ,-hT,-bQ,-ee];refine aw.cV [oD (bJ x.AM 1 12),oD (gV t x.To),oD (oI t x.jj true),oD (pV t x.bC true)] bc (by kernel_rfl) (by rfl) ?_;simp[-cB, *,-IJ,-hT,(bu _ _ _).ok,(jY t ht _).ok,(oZ t ht _ _).ok,(mW t ht _ _).ok];have hP:(0<pre.length->(l[pre.length-1]?.getD hU.zero).AM<x.AM)↔Fk pre.getLast? x=true:=by
   cases hg:pre.getLast? with
   | none=>have:pre=[]:=by simpa using hg
           subst this;simp[Fk]
   | some p=>
     have bU:0<pre.length:=by
      cases pre with
      | nil=>simp at hg
      | cons _ _=>simp
     rw[IJ (pre.length-1) (by omega),hg];simp[bU,Fk]
  have hR:(t.aB[x.To.toNat]?.getD aZ.zero).Room=wY t x.To:=rfl;have KW:pre=[]↔¬0<pre.length:=by cases pre<;>simp
  rw[hR,KW];generalize bJ x.AM 1 12=b1 at *;generalize gV t x.To=b2 at *;generalize oI t x.jj true=b3 at *;generalize pV t x.bC true=b4 at *;generalize na t (some x) post=b5 at *;generalize wY t x.To=b6 at *;generalize Fk pre.getLast? x=b7 at *;generalize (l[pre.length-1]?.getD hU.zero).AM=d at *;have hi:0<pre.length->aN IntKind.i64 ((pre.length:Int)-1):=λh=>iW
  rcases Nat.eq_zero_or_pos pre.length with hz|hz
  ·have hb7:b7=true:=hP.1 (λh=>by omega);clear hP IJ KW;cases b1<;>simp[hz,ee,bQ,hb7,a4]
   cases b2<;>simp
   obtain⟨k1,k2⟩:=hT rfl;cases b6<;>simp[k2,show 0<=x.To by omega]
   cases b3<;>simp
   cases b4<;>simp[a4,ee,bQ,hb7]
   rw[aR];omega
  ·have hP':d<x.AM↔b7=true:=⟨λh=>hP.1 (λ_=>h),λh=>hP.2 h hz⟩
   have ck:=hi hz;clear hP IJ KW hi;have hle:1<=(pre.length:Int)/\pre.length-1<l.length:=by omega
   cases b1<;>simp[hz,ee,bQ,a4,ck,hle,hP']
   cases b7<;>simp
   cases b2<;>simp
   obtain⟨k1,k2⟩:=hT rfl;cases b6<;>simp[k2,show 0<=x.To by omega]
   cases b3<;>simp
   cases b4<;>simp[a4,ee,bQ]
   intro h;have:=hP'.2 rfl;omega
 ·intro hH;simp[*]
def bW(t:aq)(n:Int):aZ:=t.aB[n.toNat]?.getD aZ.zero
def Hi(t:aq):Prop:=∀x∈t.aB,0<=x.ah/\x.ah<t.aB.length
def BM(t:aq):Nat->Int->Bool
 | 0,_=>false
 | k+1,x=>if x=0 then true else BM t k (bW t x).ah
def BN(t:aq)(x:Int):Bool:=BM t t.aB.length x
theorem vc{t:aq}{n:Int}(h:0<=n/\n<t.aB.length):t.aB[n.toNat]?=some (bW t n):=by
 unfold bW;rw[anc (by omega)];simp
theorem tV{t:aq}{n:Int}(h:0<=n/\n<t.aB.length):t.aB[n.toNat]'(by omega)=bW t n:=by
 have:=vc h
 rwa[anc (by omega),akC]at this
theorem QX{t:aq}{n:Int}(h:0<=n/\n<t.aB.length):bW t n∈t.aB:=apT (vc h)
def om(t:aq):Nat->Int->Int
 | 0,x=>x
 | k+1,x=>om t k (bW t x).ah
theorem OU(t:aq)(k:Nat)(x:Int):om t (k+1) x=(bW t (om t k x)).ah:=by
 induction k generalizing x with
 | zero=>rfl
 | succ k ih=>rw[om,ih];rfl
theorem age{t:aq}(hp:Hi t)(k:Nat)(x:Int)(hx:0<=x/\x<t.aB.length):0<=om t k x/\om t k x<t.aB.length:=by
 induction k generalizing x with
 | zero=>exact hx
 | succ k ih=>exact ih _ (hp _ (QX hx))
theorem OV(t:aq):∀(i k:Nat) (x:Int),(∀j<i,om t j x≠0)->BM t (i+k) x=BM t k (om t i x)
 | 0,k,x,_=>by rw[aqB];rfl
 | i+1,k,x,h=>by
   rw[show i+1+k=(i+k)+1 by omega,BM,if_neg (show x≠0 from h 0 (by omega)),om,<-OV t i k];exact λj hj=>h (j+1) (by omega)
theorem U5(t:aq)(ht:t.wf)(hp:Hi t)(x:Int)(hx:0<=x/\x<t.aB.length):Pure prog 175 [.agg (t.enc.map .d),iD x] (oD (BN t x)):=by
 have hlen:t.aB.length<=2000000000000:=by have:=ht;simp[aq.wf]at this;omega
 refine rn func175 ?_;simp[f175]
 try intro(_:Nat->Nat)
 refine aw.cX [1,2,5] t.aB.length (λi=> [(1,iD (om t i x)),(5,iD i)]) (λ_=> []) (λi=>∀j<i,om t j x≠0) (by rfl) (by simp[om]) ?_;intro i hi hH;have hu:=age hp i x hx;have hs:=OU t i x;have he:=OV t i (t.aB.length-i) x hH;rw[show i+(t.aB.length-i)=t.aB.length by omega]at he;have ke:=tV hu;have hs':=hs.symm;rcases apW hi with ay|rfl
 ·have a4:aN .i64 ((i:Int)+1):=iW;unfold BN;rw[show t.aB.length-i=(t.aB.length-(i+1))+1 by omega,BM,<-hs]at he;clear hs;simp[-cB, *]
  repeat' (first
   | (with_reducible refine And.intro ?_ ?_)
   | ((first|(refine aA (λh=>?_) (λh=>?_)<;>(try simp at h))|refine pC (jC _) ?_|refine lC (jC _) ?_|refine pG (jC _) ?_)<;>(try simp[-cB, *]))
   | (with_reducible intro _))
  all_goals (first|assumption|omega|(rw[aR];omega)|(simp_all;done)|grind|skip)
 ·rw[Nat.sub_self]at he;unfold BN;simp[he,BM]
def BO(t:aq):Nat->Int->Bool
 | 0,_=>false
 | k+1,x=>if gV t x then(if wY t x then true else BO t k (bW t x).ah)else false
def Kd(t:aq)(x:Int):Bool:=BO t t.aB.length x
theorem OW(t:aq):∀(i k:Nat) (x:Int),(∀j<i,gV t (om t j x)=true/\wY t (om t j x)=false)->BO t (i+k) x=BO t k (om t i x)
 | 0,k,x,_=>by rw[aqB];rfl
 | i+1,k,x,h=>by
   have h0:gV t x=true/\wY t x=false:=h 0 (by omega);rw[show i+1+k=(i+k)+1 by omega,BO,if_pos h0.1,h0.2,if_neg (by simp),om,<-OW t i k];exact λj hj=>h (j+1) (by omega)
theorem BP(t:aq)(ht:t.wf)(x:Int):Pure prog 176 [.agg (t.enc.map .d),iD x] (oD (Kd t x)):=by
 have hlen:t.aB.length<=2000000000000:=by have:=ht;simp[aq.wf]at this;omega
 refine rn func176 ?_;simp[f176]
 try intro(_:Nat->Nat)
 refine aw.cX [1,2,5] t.aB.length (λi=> [(1,iD (om t i x)),(5,iD i)]) (λ_=> []) (λi=>∀j<i,gV t (om t j x)=true/\wY t (om t j x)=false) (by rfl) (by simp[om]) ?_;intro i hi hH;have hs':=(OU t i x).symm;have he:=OW t i (t.aB.length-i) x hH;rw[show i+(t.aB.length-i)=t.aB.length by omega]at he;unfold Kd;have hT:gV t (om t i x)=true->0<=om t i x/\om t i x<t.aB.length:=by
  unfold gV;rw[zp];omega
 have hR:(bW t (om t i x)).Room=wY t (om t i x):=rfl;rcases apW hi with ay|rfl
 ·have a4:aN .i64 ((i:Int)+1):=iW;rw[show t.aB.length-i=(t.aB.length-(i+1))+1 by omega,BO,hs']at he;simp[-cB, *,-hT];refine pG (jY t ht _) ?_;generalize hb:gV t (om t i x)=b at *;cases b with
  | false=>
    simp[-cB,he]
  | true=>
    have hu:=hT rfl;have ke:=tV hu;simp[-cB, *]
    repeat' (first
     | (with_reducible refine And.intro ?_ ?_)
     | ((first|(refine aA (λh=>?_) (λh=>?_)<;>(try simp at h))|refine pC (jC _) ?_|refine lC (jC _) ?_|refine pG (jC _) ?_)<;>(try simp[-cB, *]))
     | (with_reducible intro _))
    all_goals (first|assumption|omega|(rw[aR];omega)|(simp_all;done)|grind|skip)
 ·rw[Nat.sub_self]at he;simp[-cB,he,BO];refine pG (jY t ht _) ?_;simp
def xv(t:aq)(x:aZ):Bool:=
 pV t x.mg false&&pV t x.Text true&&bJ x.Flags 0 (lr t.Flags-1)&&decide (x.aM.length=t.aM.length)&&cx ib x.aM&&rY x.Words 8&&rY x.uL 8 &&
 (decide (x.ah=0)||gV t x.ah)&&(!x.Room||decide (x.ah=0))&&(x.Room||decide (x.mD.length=0))&&M5 t x.mD
def Fl(t:aq):Bool:=
 bJ t.aB.length 3 128&&sF t (bW t 0)&&!(bW t 1).Room&&cx (xv t) (t.aB.drop 1)&&cx (λ(i:Nat)=>BN t ((i:Int)+1)) (List.range (t.aB.length-1))&&Kd t 1
theorem BQ(n:Int):1<=lr n/\lr n<=65536:=by
 unfold lr;generalize hm:min n.toNat 16=i;have nB:i<=16:=by omega
 have e:(2:Int)^i=((2^i:Nat):Int):=by simp
 have:=arl (n:=2) (by decide) nB;have:=Nat.pow_pos (a:=2) (n:=i) (by decide);rw[e];omega
set_option maxRecDepth 20000 in
theorem yg(t:aq)(ht:t.wf):Pure prog 120 [.agg (t.enc.map .d)] (oD (Fl t)):=by
 have hlen:t.aB.length<=2000000000000:=by have:=ht;simp[aq.wf]at this;omega
 have CP:=aq.Lk ht;unfold Fl;refine rn func120 ?_;simp[f120]
 try intro(_:Nat->Nat)
 refine aw.cV [oD (bJ t.aB.length 3 128),oD (sF t (bW t 0))] bc (by kernel_rfl) (by rfl) ?_;have h0:bW t 0=t.aB[0]?.getD aZ.zero:=rfl;have hz:(bW t 0).wf:=by
  rw[h0];cases h:t.aB[0]? with
  | none=>simp[aZ.wf,aZ.zero,aR]
  | some x=>exact CP x (apT h)
 simp[-cB,(bu _ _ _).ok,<-h0,(MO t ht _ hz).ok];have hN:bJ t.aB.length 3 128=true->3<=t.aB.length/\t.aB.length<=128:=by rw[zp];omega
 generalize bJ t.aB.length 3 128=p1 at *;cases p1<;>simp[-cB,hN]
 obtain⟨NT,K4⟩:=hN rfl;clear hN;have hR1:sF t (bW t 0)=true->(bW t 0).ah=0:=by
  intro h;simp[sF]at h;exact h.1.1.1.1.1.2
 generalize sF t (bW t 0)=p2 at *;cases p2<;>simp[-cB,show 0<t.aB.length by omega,show 1<t.aB.length by omega]
 have h1:bW t 1=t.aB[1]?.getD aZ.zero:=rfl;have jy:t.aB[1]'(by omega)=bW t 1:=by rw[h1,anc (by omega)];simp
 rw[jy];generalize (bW t 1).Room=p3 at *;cases p3<;>simp[-cB]
 generalize hl:t.aB.tail=l at *;have Lx:l.length+1=t.aB.length:=by rw[<-hl];simp;omega
 have hlg:∀(k:Nat) (h:k<l.length),t.aB[k+1]'(by omega)=l[k]:=by intro k h;subst hl;simp
 refine aw.fq [1,3] l (λpre=> [(3,iD ((pre.length:Int)+1))]) (λ_=> []) (λpre=>cx (xv t) pre=true) (by rfl) (by omega) (by simp[hY]) ?_ ?_
 ·rintro pre x post bn hH ay bR a4;have bQ:=eU bn hH;have ee:cx (xv t) (pre++ [x])=xv t x:=by simp[fV,hH]
  have Ke:=hlg _ ay;rw[bR]at Ke;have uz:x.wf:=CP x (by rw[<-Ke];exact ap1 _);have c1:(pre.length:Int)+1<t.aB.length:=by omega
  have c2:pre.length+1<t.aB.length:=by omega
  have tU:=BQ t.Flags;have aS:xv t x=(pV t x.mg false&&pV t x.Text true&&bJ x.Flags 0 (lr t.Flags-1)&&decide (x.aM.length=t.aM.length)&&cx ib x.aM&&rY x.Words 8&&rY x.uL 8 &&
   (decide (x.ah=0)||gV t x.ah)&&(!x.Room||decide (x.ah=0))&&(x.Room||decide (x.mD.length=0))&&M5 t x.mD):=rfl
  clear CP bn hlg bR NT K4 h0 h1 jy hz;have c0:0<=(pre.length:Int)+1:=by omega
  simp[-cB,c0,c1,c2,Ke,bQ]
  try intro(_:Nat->Nat)
  refine aw.cV [oD (pV t x.mg false),oD (pV t x.Text true),iD (lr t.Flags),oD (bJ x.Flags 0 (lr t.Flags-1)),oD (cx ib x.aM),oD (rY x.Words 8),oD (rY x.uL 8)] bc (by kernel_rfl) (by rfl) ?_;simp[-cB,(mW t ht _ _).ok,(IE _).ok,(bu _ _ _).ok,(jk x.aM (by have:=aZ.qq uz;omega)).ok,(zZ x.Words (by have:=aZ.G4 uz;omega) (λy hy=>by have:=aZ.G5 uz y hy;omega) _).ok,(zZ x.uL (by have:=aZ.ad0 uz;omega) (λy hy=>by have:=aZ.ad1 uz y hy;omega) _).ok];refine⟨λh h'=>⟨iW,h,h'⟩,?_⟩;refine aA (λh=>?_) (λh=>?_)
  ·simp[-cB];simp at h
   all_goals (first|assumption|omega|(rw[aR];omega)|(simp_all;done)|grind|skip)
  ·simp[-cB];simp at h
   repeat' (first
    | (with_reducible refine And.intro ?_ ?_)
    | ((first|(refine aA (λh=>?_) (λh=>?_)<;>(try simp at h))|refine pC (jY t ht _) ?_|refine ar.bA rfl (BL t ht x.mD (by have:=aZ.Fc uz;omega) (aZ.J3 uz)) rfl rfl (by simp) rfl ?_|refine lC (jY t ht _) ?_|refine ar.Ix rfl (BL t ht x.mD (by have:=aZ.Fc uz;omega) (aZ.J3 uz)) rfl (by simp) rfl rfl (by simp) rfl ?_|refine pG (jY t ht _) ?_|refine ar.fE rfl (λh=>BL t ht x.mD (by have:=aZ.Fc uz;omega) (aZ.J3 uz)) rfl (by first|rfl|(simp;rfl)) (by simp) (by simp) rfl ?_)<;>(try simp[-cB, *]))
    | (with_reducible intro _))
   all_goals (first|assumption|omega|(rw[aR];omega)|(simp_all;done)|grind|skip)
 ·intro hH;have pE:Hi t:=by
   intro x hx;obtain⟨k,hk,rfl⟩:=arp hx;cases k with
   | zero=>
     have:=hR1 rfl;rw[h0,anc hk]at this;simp only[aqF]at this;rw[this];omega
   | succ k=>
     rw[hlg k (by omega)];have:=abq.1 hH l[k] (ap1 _);simp[xv,gV,bJ]at this;omega
  clear CP h0 hz hR1 h1 jy hlg;have c9:¬((l.length:Int)+1<t.aB.length):=by omega
  simp[-cB,c9,hH];refine aw.fq [1,5] (List.range (t.aB.length-1)) (λpre=> [(5,iD ((pre.length:Int)+1))]) (λ_=> []) (λpre=>cx (λ(i:Nat)=>BN t ((i:Int)+1)) pre=true) (by rfl) (by simp;omega) (by simp[hY]) ?_ ?_
  ·rintro pre x post bn nV ay bR a4;have bQ:=eU bn nV;have hx:pre.length=x:=by simpa using bR
   have ee:cx (λ(i:Nat)=>BN t ((i:Int)+1)) (pre++ [x])=BN t ((x:Int)+1):=by simp[fV,nV]
   simp at ay;subst hx;have c1:(pre.length:Int)+1<t.aB.length:=by omega
   have hE:=U5 t ht pE ((pre.length:Int)+1) (by omega);clear bn bR;simp[-cB,c1,bQ]
   repeat' (first
    | (with_reducible refine And.intro ?_ ?_)
    | ((first|(refine aA (λh=>?_) (λh=>?_)<;>(try simp at h))|refine pC hE ?_|refine lC hE ?_|refine pG hE ?_)<;>(try simp[-cB, *]))
    | (with_reducible intro _))
   all_goals (first|assumption|omega|(rw[aR];omega)|(simp_all;done)|grind|skip)
  ·intro nV;have c1:¬(((t.aB.length-1:Nat):Int)+1<t.aB.length):=by omega
   simp[-cB,c1,nV]
   repeat' (first
    | (with_reducible refine And.intro ?_ ?_)
    | ((first|(refine aA (λh=>?_) (λh=>?_)<;>(try simp at h))|refine pC (BP t ht 1) ?_|refine lC (BP t ht 1) ?_|refine pG (BP t ht 1) ?_)<;>(try simp[-cB, *]))
    | (with_reducible intro _))
def yh(t:aq)(i:Nat):Bool:=bJ (t.Params[i]?.getD 0) 0 8&&bJ (t.aJ[i]?.getD 0) (t.Params[i]?.getD 0) 24
def IK(t:aq):Bool:=
 decide (t.gO.length<=4096)&&pV t t.mg false&&pV t t.By false&&bJ t.pk 0 32767&&bJ t.Max 0 32767&&bJ t.Flags 4 16 &&
 (decide (t.aM.length<=16)&&decide (t.aW.length<=64)&&cx ib t.aM&&cx ib t.aW&&decide (t.Params.length=t.aJ.length)&&decide (t.Params.length<=2048)) &&
 cx uO t.gO&&cx (yh t) (List.range t.Params.length)
set_option maxRecDepth 20000 in
theorem BR(t:aq)(ht:t.wf):Pure prog 119 [.agg (t.enc.map .d)] (oD (IK t)):=by
 have iZ:=aq.Oy ht;have Is:=aq.qq ht;have yb:=aq.oH ht;have hx4:=aq.zl ht;have hx5:=aq.X5 ht;have Lz:=aq.aa8 ht;unfold IK;refine rn func119 ?_;simp[-cB,f119]
 repeat' (first
  | (with_reducible refine And.intro ?_ ?_)
  | ((first|(refine aA (λh=>?_) (λh=>?_)<;>(try simp at h))|refine pC (mW t ht _ _) ?_|refine pC (bu _ _ _) ?_|refine ar.bA rfl (jk t.aM (by omega)) rfl rfl (by simp) rfl ?_|refine ar.bA rfl (jk t.aW (by omega)) rfl rfl (by simp) rfl ?_|refine lC (mW t ht _ _) ?_|refine lC (bu _ _ _) ?_|refine ar.Ix rfl (jk t.aM (by omega)) rfl (by simp) rfl rfl (by simp) rfl ?_|refine ar.Ix rfl (jk t.aW (by omega)) rfl (by simp) rfl rfl (by simp) rfl ?_|refine pG (mW t ht _ _) ?_|refine pG (bu _ _ _) ?_|refine ar.fE rfl (λh=>jk t.aM (by omega)) rfl (by first|rfl|(simp;rfl)) (by simp) (by simp) rfl ?_|refine ar.fE rfl (λh=>jk t.aW (by omega)) rfl (by first|rfl|(simp;rfl)) (by simp) (by simp) rfl ?_)<;>(try simp[-cB, *]))
  | (with_reducible intro _))
 all_goals (first|assumption|omega|(rw[aR];omega)|(simp_all;done)|grind|skip)
 have e1:t.gO.length<=4096:=by omega
 have e2:t.aM.length<=16:=by omega
 have e3:t.aW.length<=64:=by omega
 have e4:t.Params.length=t.aJ.length:=by omega
 have e5:t.Params.length<=2048:=by omega
 refine aw.fq [1,3] t.gO (λpre=> [(3,iD pre.length)]) (λ_=> []) (λpre=>cx uO pre=true) (by rfl) (by omega) (by simp[hY]) ?_ ?_
 ·rintro pre x post bn hH ay bR a4;have bQ:=eU bn hH;have ee:cx uO (pre++ [x])=uO x:=by simp[fV,hH]
  have hT:=OI x (by have:=Lz x (by rw[bn];simp);omega);clear bn Lz;simp[-cB,ay,bR,bQ,a4]
  repeat' (first
   | (with_reducible refine And.intro ?_ ?_)
   | ((first|(refine aA (λh=>?_) (λh=>?_)<;>(try simp at h))|refine pC hT ?_|refine lC hT ?_|refine pG hT ?_)<;>(try simp[-cB, *]))
   | (with_reducible intro _))
  all_goals (first|assumption|omega|(rw[aR];omega)|(simp_all;done)|grind|skip)
 ·intro hH;simp[-cB,hH];refine aw.fq [1,4] (List.range t.Params.length) (λpre=> [(4,iD pre.length)]) (λ_=> []) (λpre=>cx (yh t) pre=true) (by rfl) (by simp;omega) (by simp[hY]) ?_ ?_
  ·rintro pre x post bn nV ay bR a4;have bQ:=eU bn nV;have hx:pre.length=x:=by simpa using bR
   simp at ay;subst hx;have ee:cx (yh t) (pre++ [pre.length])=yh t pre.length:=by rw[fV,nV];simp
   have pF:pre.length<t.aJ.length:=by omega
   have hpx:yh t pre.length=(bJ t.Params[pre.length] 0 8&&bJ t.aJ[pre.length] t.Params[pre.length] 24):=by simp[yh,ay,pF]
   clear bn bR;simp[-cB,ay,pF,bQ];refine aw.cV [oD (bJ (t.Params[pre.length]?.getD 0) 0 8),oD (bJ (t.aJ[pre.length]?.getD 0) (t.Params[pre.length]?.getD 0) 24)] bc (by kernel_rfl) (by rfl) ?_;simp[-cB,ay,pF,(bu _ _ _).ok];refine aA (λh=>?_) (λh=>?_)
   ·simp[-cB];simp at h
    all_goals (first|assumption|omega|(rw[aR];omega)|(simp_all;done)|grind|skip)
   ·simp[-cB];simp at h
    all_goals (first|assumption|omega|(rw[aR];omega)|(simp_all;done)|grind|skip)
  ·intro nV;simp[-cB,nV]
   all_goals (first|assumption|omega|(rw[aR];omega)|(simp_all;done)|grind|skip)
def IL(s:dn):Bool:=bJ s.Kind 1 5&&!(decide (s.Kind=1)&&decide (s.Words.length=0))&&!(decide (s.Kind≠1)&&decide (0<s.Words.length))&&rY s.Words 4
def zt(s:dn):Bool:=decide (s.Kind=2)||decide (s.Kind=3)
def BS(l:List dn):Bool:=
 cx IL l&&(bJ l.length 1 8&&(decide ((l[0]?.getD dn.zero).Kind=1)||decide ((l[0]?.getD dn.zero).Kind=5))&&decide ((l.countP zt:Int)<=2)&&decide ((l.countP (λs=>decide (s.Kind=4)):Int)<=1)&&decide ((l.countP (λs=>decide (s.Kind=5)):Int)<=1))
set_option maxRecDepth 20000 in
theorem U6(l:List dn)(hl:l.length<=1000000000000000)(hw:∀x∈l,x.wf):Pure prog 177 [.d (.sl (l.map dn.enc))] (oD (BS l)):=by
 unfold BS;refine rn func177 ?_;simp[-cB,f177];refine aw.fq [0,3,4,5,6] l (λpre=> [(3,iD (pre.countP zt)),(4,iD (pre.countP (λs=>decide (s.Kind=4)))),(5,iD (pre.countP (λs=>decide (s.Kind=5)))),(6,iD pre.length)]) (λ_=> []) (λpre=>cx IL pre=true) (by rfl) (by omega) (by simp[hY]) ?_ ?_
 ·rintro pre x post bn hH ay bR a4;have bQ:=eU bn hH;have ee:cx IL (pre++ [x])=IL x:=by simp[fV,hH]
  have uz:=hw x (by rw[bn];simp);have c1:=List.countP_le_length (p:=zt) (l:=pre);have c2:=List.countP_le_length (p:=λs:dn=>decide (s.Kind=4)) (l:=pre);have c3:=List.countP_le_length (p:=λs:dn=>decide (s.Kind=5)) (l:=pre);have rP:(pre++ [x]).countP zt=pre.countP zt+(if zt x then 1 else 0):=by rw[aru];simp[arG]
  have rS:(pre++ [x]).countP (λs:dn=>decide (s.Kind=4))=pre.countP (λs:dn=>decide (s.Kind=4))+(if x.Kind=4 then 1 else 0):=by rw[aru];simp[arG]
  have hn3:(pre++ [x]).countP (λs:dn=>decide (s.Kind=5))=pre.countP (λs:dn=>decide (s.Kind=5))+(if x.Kind=5 then 1 else 0):=by rw[aru];simp[arG]
  have hW:=zZ x.Words (by have:=dn.G4 uz;omega) (λy hy=>by have:=dn.G5 uz y hy;omega) 4;have Sf:IL x=(bJ x.Kind 1 5&&!(decide (x.Kind=1)&&decide (x.Words.length=0))&&!(decide (x.Kind≠1)&&decide (0<x.Words.length))&&rY x.Words 4):=rfl;have sS:zt x=(decide (x.Kind=2)||decide (x.Kind=3)):=rfl;generalize nu:pre.countP zt=k1 at *;generalize tF:pre.countP (λs:dn=>decide (s.Kind=4))=k2 at *;generalize K7:pre.countP (λs:dn=>decide (s.Kind=5))=k3 at *;clear bn hw nu tF K7;simp[-cB,ay,bR,bQ,a4]
  repeat' (first
   | (with_reducible refine And.intro ?_ ?_)
   | ((first|(refine aA (λh=>?_) (λh=>?_)<;>(try simp at h))|refine pC (bu _ _ _) ?_|refine pC hW ?_|refine lC (bu _ _ _) ?_|refine lC hW ?_|refine pG (bu _ _ _) ?_|refine pG hW ?_)<;>(try simp[-cB, *]))
   | (with_reducible intro _))
  all_goals (first|assumption|omega|(rw[aR];omega)|(simp_all;done)|grind|skip)
 ·intro hH;have hF:bJ l.length 1 8=true->0<l.length:=by rw[zp];omega
  simp[-cB,hH]
  repeat' (first
   | (with_reducible refine And.intro ?_ ?_)
   | ((first|(refine aA (λh=>?_) (λh=>?_)<;>(try simp at h))|refine pC (bu _ _ _) ?_|refine lC (bu _ _ _) ?_|refine pG (bu _ _ _) ?_)<;>(try simp[-cB, *]))
   | (with_reducible intro _))
  all_goals first|assumption|exact hF (by assumption)
def OX(a:ll):Bool:=bJ a.tT.length 1 8&&cx BS a.tT
def IM(t:aq)(d:mh):Bool:=
 bJ d.Ox 0 (t.sC.length-1)&&bJ d.Phase 1 3&&(decide (d.qt= -1)||gV t d.qt)&&(decide (d.Second= -1)||gV t d.Second)&&oI t d.jj true&&oI t d.Body false
def D5(t:aq):Bool:=
 (decide (t.sC.length<=64)&&decide (t.mU.length<=512)&&decide (t.cS.length<=64)&&decide (t.eu.length<=16)) &&
 (cx OX t.sC&&(cx (IM t) t.mU&&(cx (λn=>bJ n 0 (t.Params.length-1)) t.cS&&cx (λn=>oI t n false) t.eu)))
set_option maxHeartbeats 1000000 in
set_option maxRecDepth 20000 in
theorem z6(t:aq)(ht:t.wf):Pure prog 121 [.agg (t.enc.map .d)] (oD (D5 t)):=by
 have iZ:=aq.ad9 ht;have Is:=aq.G7 ht;have yb:=aq.G8 ht;have hx4:=aq.BE ht;have hx5:=aq.zl ht;have Lz:=aq.aea ht;have Yn:=aq.aa9 ht;unfold D5;refine rn func121 ?_;simp[-cB,f121]
 repeat' (first
  | (with_reducible refine And.intro ?_ ?_)
  | ((first|(refine aA (λh=>?_) (λh=>?_)<;>(try simp at h))|refine pC (mW t ht _ _) ?_|refine lC (mW t ht _ _) ?_|refine pG (mW t ht _ _) ?_)<;>(try simp[-cB, *]))
  | (with_reducible intro _))
 all_goals (first|assumption|omega|(rw[aR];omega)|(simp_all;done)|grind|skip)
 have e1:t.sC.length<=64:=by omega
 have e2:t.mU.length<=512:=by omega
 have e3:t.cS.length<=64:=by omega
 have e4:t.eu.length<=16:=by omega
 refine aw.fq [1,3] t.sC (λpre=> [(3,iD pre.length)]) (λ_=> []) (λpre=>cx OX pre=true) (by rfl) (by omega) (by simp[hY]) ?_ ?_
 ·rintro pre x post bn hH ay bR a4;have bQ:=eU bn hH;have ee:cx OX (pre++ [x])=OX x:=by simp[fV,hH]
  have uz:=Lz x (by rw[bn];simp);have hax:OX x=(bJ x.tT.length 1 8&&cx BS x.tT):=rfl;clear bn Lz Yn;simp[-cB,ay,bR,bQ,a4]
  repeat' (first
   | (with_reducible refine And.intro ?_ ?_)
   | ((first|(refine aA (λh=>?_) (λh=>?_)<;>(try simp at h))|refine pC (bu _ _ _) ?_|refine lC (bu _ _ _) ?_|refine pG (bu _ _ _) ?_)<;>(try simp[-cB, *]))
   | (with_reducible intro _))
  all_goals (first|assumption|omega|(rw[aR];omega)|(simp_all;done)|grind|skip)
  refine aw.fq [1,3,4] x.tT (λpre=> [(4,iD pre.length)]) (λ_=> []) (λpre=>cx BS pre=true) (by rfl) (by have:=ll.aa6 uz;omega) (by simp[hY]) ?_ ?_
  ·rintro ajS y amI bn nV pF sE a5;have E8:=eU bn nV;have agf:cx BS (ajS++ [y])=BS y:=by simp[fV,nV]
   have hyw:=ll.aa7 uz y (by rw[bn];simp);have hL:=U6 y (by omega) hyw.2;clear bn;simp[-cB,ay,bR,pF,sE,E8,a4,a5]
   repeat' (first
    | (with_reducible refine And.intro ?_ ?_)
    | ((first|(refine aA (λh=>?_) (λh=>?_)<;>(try simp at h))|refine pC hL ?_|refine lC hL ?_|refine pG hL ?_)<;>(try simp[-cB, *]))
    | (with_reducible intro _))
   all_goals (first|assumption|omega|(rw[aR];omega)|(simp_all;done)|grind|skip)
  ·intro nV;simp[-cB,ay,bR,nV]
   repeat' (first
    | (with_reducible refine And.intro ?_ ?_)
    | ((first|(refine aA (λh=>?_) (λh=>?_)<;>(try simp at h))|refine pC (bu _ _ _) ?_|refine lC (bu _ _ _) ?_|refine pG (bu _ _ _) ?_)<;>(try simp[-cB, *]))
    | (with_reducible intro _))
   all_goals (first|assumption|omega|(rw[aR];omega)|(simp_all;done)|grind|skip)
 ·intro hH;simp[-cB,hH];refine aw.fq [1,5] t.mU (λpre=> [(5,iD pre.length)]) (λ_=> []) (λpre=>cx (IM t) pre=true) (by rfl) (by omega) (by simp[hY]) ?_ ?_
  ·rintro pre x post bn nV ay bR a4;have bQ:=eU bn nV;have ee:cx (IM t) (pre++ [x])=IM t x:=by simp[fV,nV]
   have uz:=Yn x (by rw[bn];simp);have hdx:IM t x=(bJ x.Ox 0 (t.sC.length-1)&&bJ x.Phase 1 3&&(decide (x.qt= -1)||gV t x.qt)&&(decide (x.Second= -1)||gV t x.Second)&&oI t x.jj true&&oI t x.Body false):=rfl;clear bn Lz Yn;simp[-cB,ay,bR,bQ,a4]
   repeat' (first
    | (with_reducible refine And.intro ?_ ?_)
    | ((first|(refine aA (λh=>?_) (λh=>?_)<;>(try simp at h))|refine pC (bu _ _ _) ?_|refine pC (jY t ht _) ?_|refine pC (oZ t ht _ _) ?_|refine lC (bu _ _ _) ?_|refine lC (jY t ht _) ?_|refine lC (oZ t ht _ _) ?_|refine pG (bu _ _ _) ?_|refine pG (jY t ht _) ?_|refine pG (oZ t ht _ _) ?_)<;>(try simp[-cB, *]))
    | (with_reducible intro _))
   all_goals (first|assumption|omega|(rw[aR];omega)|(simp_all;done)|grind|skip)
  ·intro nV;simp[-cB,nV];refine aw.fq [1,7] t.cS (λpre=> [(7,iD pre.length)]) (λ_=> []) (λpre=>cx (λn=>bJ n 0 (t.Params.length-1)) pre=true) (by rfl) (by omega) (by simp[hY]) ?_ ?_
   ·rintro pre x post bn hH3 ay bR a4;have bQ:=eU bn hH3;have ee:cx (λn=>bJ n 0 (t.Params.length-1)) (pre++ [x])=bJ x 0 (t.Params.length-1):=by rw[fV,hH3];simp
    clear bn Lz Yn;simp[-cB,ay,bR,bQ,a4];refine aw.cV [oD (bJ x 0 (t.Params.length-1))] bc (by kernel_rfl) (by rfl) ?_;simp[-cB,ay,bR,(bu _ _ _).ok];refine⟨iW,?_⟩
    repeat' (first
     | (with_reducible refine And.intro ?_ ?_)
     | ((first|(refine aA (λh=>?_) (λh=>?_)<;>(try simp at h))|refine pC (bu _ _ _) ?_|refine lC (bu _ _ _) ?_|refine pG (bu _ _ _) ?_)<;>(try simp[-cB, *]))
     | (with_reducible intro _))
    all_goals (first|assumption|omega|(rw[aR];omega)|(simp_all;done)|grind|skip)
   ·intro hH3;simp[-cB,hH3];refine aw.fq [1,8] t.eu (λpre=> [(8,iD pre.length)]) (λ_=> []) (λpre=>cx (λn=>oI t n false) pre=true) (by rfl) (by omega) (by simp[hY]) ?_ ?_
    ·rintro pre x post bn hH4 ay bR a4;have bQ:=eU bn hH4;have ee:cx (λn=>oI t n false) (pre++ [x])=oI t x false:=by rw[fV,hH4];simp
     clear bn Lz Yn;simp[-cB,ay,bR,bQ,a4];refine aw.cV [oD (oI t x false)] bc (by kernel_rfl) (by rfl) ?_;simp[-cB,ay,bR,(oZ t ht _ _).ok]
     repeat' (first
      | (with_reducible refine And.intro ?_ ?_)
      | ((first|(refine aA (λh=>?_) (λh=>?_)<;>(try simp at h))|refine pC (bu _ _ _) ?_|refine lC (bu _ _ _) ?_|refine pG (bu _ _ _) ?_)<;>(try simp[-cB, *]))
      | (with_reducible intro _))
     all_goals (first|assumption|omega|(rw[aR];omega)|(simp_all;done)|grind|skip)
    ·intro hH4;simp[hH4,e1,e2,e3,e4]
def fF(t:aq):Bool:=IK t&&Fl t&&D5 t
theorem U7(t:aq)(ht:t.wf):Pure prog 59 [.agg (t.enc.map .d)] (oD (fF t)):=by
 unfold fF;refine rn func59 ?_;simp[-cB,f59]
 repeat' (first
  | (with_reducible refine And.intro ?_ ?_)
  | ((first|(refine aA (λh=>?_) (λh=>?_)<;>(try simp at h))|refine pC (BR t ht) ?_|refine pC (yg t ht) ?_|refine pC (z6 t ht) ?_|refine lC (BR t ht) ?_|refine lC (yg t ht) ?_|refine lC (z6 t ht) ?_|refine pG (BR t ht) ?_|refine pG (yg t ht) ?_|refine pG (z6 t ht) ?_)<;>(try simp[-cB, *]))
  | (with_reducible intro _))
 all_goals (first|assumption|omega|(rw[aR];omega)|(simp_all;done)|grind|skip)
theorem LA(l:List Int)(hl:l.length<=1000000000000000)(lo hi:Int):Pure prog 54 [.d (.sl (aD l)),iD lo,iD hi] (oD (cx (λx=>bJ x lo hi) l)):=by
 refine rn func54 ?_;simp[-cB,f54];refine aw.fq [0,1,2,7] l (λpre=> [(7,iD pre.length)]) (λ_=> []) (λpre=>cx (λx=>bJ x lo hi) pre=true) (by rfl) (by omega) (by simp[hY]) ?_ ?_
 ·rintro pre x post bn hH ay bR a4;have bQ:=eU bn hH;have ee:=fV (λx=>bJ x lo hi) pre x;rw[hH]at ee;clear bn;simp[-cB,ay,bR];refine pC (bu _ _ _) ?_;simp[-cB];refine aA (λh=>?_) (λh=>?_)<;>simp at h<;>simp[-cB,h,ay,bR,bQ,ee,a4]
 ·intro hH;simp[-cB,hH]
def td(t:aq)(w:ai):Bool:=(List.range (t.aB.length-1)).all (λk=>!((bW t (k+1)).Room&&decide (aL w.ah (k+1)≠0)))&&(bW t (gh w.tree 1)).Room
theorem SX(t:Tree)(x:Int)(h:0<t.bz.length):0<=gh t x/\gh t x<t.bz.length:=by
 unfold gh;cases hl:(jV t x).getLast? with
 | none=>simp[arj,hl];omega
 | some y=>
   have:=mY (arP hl);simp[arj,hl];omega
theorem OY(t:aq)(ht:t.wf)(w:ai)(hw:w.wf)(hlen:w.ah.length=t.aB.length)(iX:0<t.aB.length):Pure prog 58 [.agg (t.enc.map .d),.agg (w.enc.map .d)] (oD (td t w)):=by
 have hl:=ai.jB hw;have v7:=(Ym w hw 1).ok;have hb:=SX w.tree 1 (by show 0<w.ah.length;omega);have e1:w.tree.bz=w.ah:=rfl;rw[e1]at hb;unfold td;generalize oM:((List.range (t.aB.length-1)).all (λk=>!((bW t (k+1)).Room&&decide (aL w.ah (k+1)≠0))))=res;refine rn func58 ?_;simp[-cB,f58];intro bs;refine aw.cX [2,3,5] (t.aB.length-1) (λi=> [(5,iD (i+1))]) (λ_=> []) (λi=>∀k<i,((bW t (k+1)).Room&&decide (aL w.ah (k+1)≠0))=false) (by rfl) (by simp) ?_;intro i hi hH;rcases apW hi with ay|Xn
 ·have a4:aN .i64 ((i:Int)+1+1):=iW;have dw:(i:Int)+1<t.aB.length:=by omega
  have pF:i+1<t.aB.length:=by omega
  have IF:=oK w.ah ((i:Int)+1) (by omega);have IG:=oL w.ah ((i:Int)+1) (by omega) (by omega);have tg:=vc (t:=t) (n:=(i:Int)+1) (by omega);have te:=tV (t:=t) (n:=(i:Int)+1) (by omega);have wy:((i:Int)+1).toNat=i+1:=by omega
  simp only[wy]at IF IG tg te;have II:((bW t ((i:Int)+1)).Room&&decide (aL w.ah ((i:Int)+1)≠0))=true->res=false:=λh=>by
   rw[<-oM,List.all_eq_false];exact⟨i,aqK.2 ay,by simp only[h];simp⟩
  have rD:((bW t ((i:Int)+1)).Room&&decide (aL w.ah ((i:Int)+1)≠0))=false->∀k<i+1,((bW t ((k:Int)+1)).Room&&decide (aL w.ah ((k:Int)+1)≠0))=false:=λh k hk=>by
   rcases aq7 k i with h2|h2
   ·exact hH k h2
   ·rw[show k=i by omega];exact h
  generalize hTh:bW t ((i:Int)+1)=th at *;generalize aL w.ah ((i:Int)+1)=p at *;simp[-cB,dw,pF,IF,IG,tg,te];refine⟨by omega,λ_=>⟨by omega,by assumption⟩,?_⟩;have hc:(th.Room&&(p !=0))=(th.Room&&decide (p≠0)):=by rw[arv];simp
  rw[hc];refine aA (λh=>?_) (λh=>?_)
  ·have:=II h;simp[this]
  ·have:=rD h;simp[-cB,a4];exact⟨by omega,by simpa using this⟩
 ·subst Xn;have hr:res=true:=by
   rw[<-oM,apR];intro k hk;rw[hH k (aqK.1 hk)];rfl
  have KW:¬(((t.aB.length-1:Nat):Int)+1<t.aB.length):=by omega
  have tg:=vc (t:=t) (n:=gh w.tree 1) (by omega);have te:=tV (t:=t) (n:=gh w.tree 1) (by omega);simp[-cB,KW,hr];refine aw.cV [iD (gh w.tree 1)] bc (by kernel_rfl) (by rfl) ?_;simp[-cB,v7,tg,te];omega
def bS(t:aq)(w:ai):Bool:=
 decide (w.aW.length=t.aW.length)&&decide (w.ah.length=t.aB.length)&&decide (w.Flags.length=t.aB.length)&&decide (w.aM.length=t.aB.length *t.aM.length)&&decide (w.bO.length=t.eu.length)&&po w.tree &&
 (cx ib w.aW&&cx ib w.aM&&cx (λx=>bJ x 0 (lr t.Flags-1)) w.Flags&&cx (λx=>bJ x 0 32767) w.bO&&ib w.Score&&bJ w.nG 0 2147483647) &&
 (bJ w.lq 0 3&&bJ w.It 0 (t.aB.length-1)&&bJ w.Go 0 12&&td t w)
set_option maxRecDepth 20000 in
set_option maxHeartbeats 4000000 in
theorem zT(t:aq)(ht:t.wf)(w:ai)(hw:w.wf)(fB:t.aM.length<=16)(AI:t.aB.length<=128):Pure prog 25 [.agg (t.enc.map .d),.agg (w.enc.map .d)] (oD (bS t w)):=by
 have hl:=ai.jB hw;have l1:=ai.oH hw;have l5:=ai.Oz hw;have l6:=ai.qq hw;have l7:=ai.Lm hw;have hmul:aN .i64 ((t.aB.length:Int) *t.aM.length):=by
  have h1:t.aB.length *t.aM.length<=128 *16:=ar9 AI fB;have h2:((t.aB.length:Int) *t.aM.length)=((t.aB.length *t.aM.length:Nat):Int):=by simp
  rw[h2,aR];omega
 have hN:=OQ w hw;have hb:=BQ t.Flags;have c1:=(jk w.aW (by omega)).ok;have c2:=(jk w.aM (by omega)).ok;have c3:=(IE t.Flags).ok;have c4:=(LA w.Flags (by omega) 0 (lr t.Flags-1)).ok;have c5:=(LA w.bO (by omega) 0 32767).ok;have c6:=(BG w.Score).ok;have c7:=(bu w.nG 0 2147483647).ok;unfold bS;have c8:=bu w.lq 0 3;have c9:=bu w.It 0 (t.aB.length-1);have c10:=bu w.Go 0 12;refine rn func25 ?_;simp[-cB,f25];intro bs;refine⟨λa1 a2 a3=>⟨hmul,⟨a1,a2⟩,a3⟩,?_⟩;refine pG hN ?_;simp[-cB];refine aA (λh=>?_) (λh=>?_)<;>simp at h
 ·simp[-cB];intro a1 a2 a3 a4 a5 a6;exfalso;rcases h with((((h|h)|h)|h)|h)|h
  ·omega
  ·omega
  ·omega
  ·rw[a4]at h;simp at h
  ·omega
  ·rw[a6]at h;cases h
 ·simp[-cB];have hm:=h.1.1.2;have hlen:w.ah.length=t.aB.length:=by omega
  have hP:w.aM.length=t.aB.length *t.aM.length:=by
   have:((t.aB.length:Int) *t.aM.length)=((t.aB.length *t.aM.length:Nat):Int):=by simp
   omega
  have iX:0<t.aB.length:=by
   have:=h.2;unfold po at this;simp at this;have:=this.1.1.1.1.1.1;have e1:w.tree.bz=w.ah:=rfl;rw[e1]at this;have:=aqz.2 this;omega
  have c11:=OY t ht w hw hlen iX;have f1:w.aW.length=t.aW.length:=by omega
  have f3:w.Flags.length=t.aB.length:=by omega
  have f5:w.bO.length=t.eu.length:=by omega
  have f6:=h.2;refine aw.cV [oD (cx ib w.aW),oD (cx ib w.aM),iD (lr t.Flags),oD (cx (λx=>bJ x 0 (lr t.Flags-1)) w.Flags),oD (cx (λx=>bJ x 0 32767) w.bO),oD (ib w.Score),oD (bJ w.nG 0 2147483647)] bc (by kernel_rfl) (by rfl) ?_;simp[-cB,c1,c2,c3,c4,c5,c6,c7];refine⟨λa b=>⟨iW,a,b⟩,?_⟩;refine aA (λh2=>?_) (λh2=>?_)<;>simp at h2
  ·simp[-cB];intro a1 a2 a3 a4 a5 a6 b1 b2 b3 b4 b5 b6;exfalso;simp[*]at h2
  ·obtain⟨⟨⟨⟨⟨b1,b2⟩,b3⟩,b4⟩,b5⟩,b6⟩:=h2;simp[-cB];refine pC c8 ?_;simp[-cB];refine⟨λa=>⟨iW,a⟩,?_⟩;refine pG c9 ?_;simp[-cB];refine pG c10 ?_;simp[-cB];refine pG c11 ?_;simp[hlen,hP,f1,f3,f5,f6,b1,b2,b3,b4,b5,b6]
section
variable {P : Program} {n : Nat} {s : St} {Q : AX -> St -> Prop}
def nc(w:World)(O:Nat->Prop)(m:Nat->Option Value):FrameMode->Option V->Prop
 | .returning,none=>True
 | .panicking chain,some x=>Bd w O m chain x
 | _,_=>False
def U8(w:World)(O:Nat->Prop)(m:Nat->Option Value)(u':FrameMode)(r:Option V):Ending->Prop
 | .returned _=>nc w O m (settle u') r
 | .panicked chain=>nc w O m (raised u' chain) r
 | .outgrown=>False
def BT(fo:FO)(m:Nat->Option Value)(w:World)(R:Option V->aH->Prop)(e:Ending)(u':FrameMode)(w':World):Prop:=
 ∃m' r L',R r L'/\U8 w' (OO fo m') m' u' r e/\Inv fo m' L' w'/\Step w (own m) w' (own m')
def jR(P:Program)(f:FuncId)(args:List V)(L:aH)(px:Option V)(R:Option V->aH->Prop):Prop:=
 ∀(fo:FO) m w (xs:Array Value) u,Inv fo m L w->iA w (OO fo m) m xs args->nc w (OO fo m) m u px->CallsDIn Fence.wide 0 P f xs u w (BT fo m w R)
def DQ(R:Option V->aH->Prop):AX->St->Prop
 | .normal,s=>R none s.L
 | .ret,s=>R none s.L
 | .iC y,s=>R (some y) s.L
 | _,_=>False
def RecM(u u':FrameMode)(px:Option V):Prop:=
 match px with
 | none=>u= .returning/\u'= .returning
 | some _=>∃v gN,u= .panicking ({v:=v,recovered:=false}::gN)/\u'= .panicking ({v:=v,recovered:=true}::gN)/\∀e∈gN,e.goexit=false
theorem IN{u u' px}(h:RecM u u' px):settle u'= .returning:=by
 cases px with
 | none=>obtain⟨_,rfl⟩:=h;rfl
 | some x=>
   obtain⟨v,gN,hu,rfl,ho⟩:=h;clear hu;unfold settle;have:gN.dropWhile (λe=>!e.goexit)=[]:=by
    induction gN with
    | nil=>rfl
    | cons e l ih=>
      simp_all
   grind
theorem U9{u u' px}(h:RecM u u' px){w O m chain y}(hc:Bd w O m chain y):nc w O m (raised u' chain) (some y):=by
 obtain⟨v,gN,rfl,hold,hv⟩:=hc;cases px with
 | none=>obtain⟨_,rfl⟩:=h;exact⟨v,gN,rfl,hold,hv⟩
 | some x=>
   obtain⟨v',agh,_,rfl,ho⟩:=h;refine⟨v,gN++{v:=v',recovered:=true}::agh,rfl,λe he=>?_,hv⟩;grind
def SY(P:Program)(n:Nat)(c:Code)(s:St)(px:Option V)(R:Option V->aH->Prop):Prop:=
 ∀(fo:FO) m a w (w0:World) (m0:Nat->Option Value) (fn:Func) (c0:Frame) (cs:List Frame),fo.D=[]->fo.r=none->fo.nm=true->fn.results.toList=[]->G fo n m s a w->nc w (OO fo m) m c0.mode px->Step w0 (own m0) w (own m)->
  c.wpSIn Fence.wide 0 P (bodyPostS P fn c0 cs (BT fo m0 w0 R)) a (c0::cs) w
def ajT:Option V->Bool
 | none=>true
 | some x=>x.on []
def Va:Option V->V
 | none=> .d (.v .nilIface)
 | some x=>x
def uR:List Oper->St->Option St
 | [],s=>some s
 | o::l,s=>match o.op,o.dst,o.guard with
   | .move x,some d,none=>uR l (s.put (some d) (s.ev x))
   | .assign x,some d,none=>uR l (s.put (some d) (s.ev x))
   | _,_,_=>none
def Kf(n:Nat)(l:List Oper):Bool:=l.all λo=>match o.dst with
 | some d=>decide (d<n)
 | none=>false
theorem SZ{fo}{m}{ops}{K}{cs}{w}:∀l k s s' a,(∀j,l[j]?=ops[k+j]?)→uR l s=some s'→Kf n l=true→G fo n m s a w→
  (∀a',G fo n m s' a' w->K .normal a' cs w)->wpOpsSIn Fence.wide 0 P ops K (List.range' k l.length) a cs w
 | [],k,s,s',a,_,hm,_,g,hK=>by
   simp only[uR,akC]at hm;subst hm;exact hK a g
 | o::l,k,s,s',a,hl,hm,aS,g,hK=>by
   have h0:ops[k]?=some o:=by simpa using(hl 0).symm
   have hl':∀j,l[j]?=ops[k+1+j]?:=λj=>by
    have:=hl (j+1);grind
   simp only [Kf,ase,apP]at aS;rw [apY,List.range'_succ];simp only [wpOpsSIn,h0];refine⟨fun _ _=>trivial,?_⟩;have key:∀x d,o.dst=some d→o.guard=none→(execOp a.eval o).run P w= .ok (.value (a.eval x)) w→uR l (s.put (some d) (s.ev x))=some s'→
     (if Region.wanted o (yielded ops a.tmps)=true then
      match(execOp a.eval o).run P w with
      | .ok .recover w'=>
        match recoverD cs with
        | some (v,jL)=>wpOpsSIn Fence.wide 0 P ops K (List.range' (k+1) l.length) (a.put o.dst v) jL w'
        | none=>wpOpsSIn Fence.wide 0 P ops K (List.range' (k+1) l.length) (a.put o.dst .nilIface) cs w'
      | .ok (.value v) w'=>wpOpsSIn Fence.wide 0 P ops K (List.range' (k+1) l.length) (a.put o.dst v) cs w'
      | .ok .skip w'=>wpOpsSIn Fence.wide 0 P ops K (List.range' (k+1) l.length) (a.put o.dst undef) cs w'
      | .halt (.panic v) w'=>K (.panic [{v,recovered:=false}]) a cs w'
      | _=>False
     else wpOpsSIn Fence.wide 0 P ops K (List.range' (k+1) l.length) (a.put o.dst undef) cs w):=by
    intro x d hd hg bq Xy;rw[if_pos (by simp[Region.wanted,hg]),bq];have gp:G fo n m (s.put (some d) (s.ev x)) (a.put o.dst (a.eval x)) w:=by
     rw[hd];exact g.put (dst:=some d) (λd' e=>by grind) (cj g x)
    exact SZ l (k+1) _ s' _ hl' Xy aS.2 gp hK
   unfold uR at hm;split at hm
   ·simp_all[execOp]
   ·simp_all[execOp]
   grind
theorem SY.rest{y}{px}{R}{fo}{m}{a}{w w0}{m0}{fn}{c0}{cs}{u'}(hD:fo.D=[])(hr:fo.r=none)(zb:fo.nm=true)(oM:fn.results.toList=[])
  (g:G fo n m s a w) (sD:RecM c0.mode u' px) (LB:Step w0 (own m0) w (own m)) (IC:gi y=false) (h:aw P n y s (DQ R)):y.wpSIn Fence.wide 0 P (bodyPostS P fn c0 cs (BT fo m0 w0 R)) a ({c0 with mode:=u'}::cs) w:=by
 refine wpSIn_of_wpIn rfl ?_;have h1:=h fo m a w (λe=>by grind) g;rw[hr]at h1;have OZ:∀T,∀w1,(results fn T).run P w1= .ok (.tuple #[]) w1:=by
  simp_all[Ii]
 refine Code.wpIn_mono ?_ h1;rintro e a1 w1 ⟨ms,m1,x1,s1,qz,hq,g1,iZ,st⟩;obtain rfl:=qz.1.2 zb;rw[FO.Be]at g1 iZ;have IP:a1.defers=[]:=by rw[g1.defers,hD]
 cases e with
 | normal=>
   cases x1<;>simp[bF]at iZ
   exact⟨IP,u',rfl,_,OZ _ _,m1,none,s1.L,hq,by grind[U8,IN,nc],g1.inv,LB.trans st⟩
 | ret=>
   cases x1<;>simp[bF]at iZ
   exact⟨IP,u',rfl,_,OZ _ _,m1,none,s1.L,hq,by grind[U8,IN,nc],g1.inv,LB.trans st⟩
 | panic ch=>
   cases x1<;>simp[bF]at iZ
   rename_i y';exact⟨IP,u',rfl,m1,some y',s1.L,hq,U9 sD iZ,g1.inv,LB.trans st⟩
 | exit i=>cases x1<;>simp[bF]at iZ;exact hq.elim
 | goto i=>cases x1<;>simp[bF]at iZ;exact hq.elim
 | outgrown=>simp_all[bF]
theorem SY.rec{id}{o}{l}{d}{y}{px}{R}{s'}(bq:∀ρ w,(execOp ρ o).run P w= .ok .recover w)(hd:o.dst=some d)(FZ:d < n)(hg:o.guard=none)
  (hm:uR l (s.put (some d) (Va px))=some s') (aS:Kf n l=true) (IC:gi y=false) (h:aw P n y s' (DQ R)):SY P n (.seq (.region id (o::l).toArray false) y) s px R:=by
 intro fo m a w w0 m0 fn c0 cs hD hr zb oM g CQ LB;refine wpSIn_seq (wpSIn_region ?_);have Hj:∀j,l[j]?=(o::l).toArray[1+j]?:=λj=>by
  grind
 have agi:List.range (o::l).toArray.size=0::List.range' 1 l.length:=by
  simp[List.range_eq_range',List.range'_succ]
 rw [agi];simp only [wpOpsSIn,aqJ];refine⟨fun _ _=>trivial,?_⟩;rw [if_pos (by simp [Region.wanted,hg]),bq];simp only [hd];have fin:∀u' (v:Value),az w (OO fo m) m v (Va px)→RecM c0.mode u' px→
   wpOpsSIn Fence.wide 0 P (o::l).toArray (Exit.thenS (y.wpSIn Fence.wide 0 P (bodyPostS P fn c0 cs (BT fo m0 w0 R))) (bodyPostS P fn c0 cs (BT fo m0 w0 R))) (List.range' 1 l.length) (a.put (some d) v) ({c0 with mode:=u'}::cs) w:=by
  intro u' v hv sD;refine SZ l 1 _ s' _ Hj hm aS (g.put (λd' e=>by grind) hv) (λa' g'=>?_);exact SY.rest hD hr zb oM g' sD LB IC h
 cases px with
 | none=>
   have M6:c0.mode= .returning:=by
    grind[nc]
   have hn:recoverD (c0::cs)=none:=by grind[recoverD]
   rw[hn];have:=fin .returning .nilIface (.d _ _ (.v _ rfl)) ⟨M6,rfl⟩;rw[show({c0 with mode:= .returning}:Frame)=c0 by rw[<-M6]]at this;omega
 | some x=>
   unfold nc at CQ;split at CQ
   ·grind
   ·rename_i ch x' M6 e;obtain rfl:=apO e;obtain⟨v,gN,rfl,ho,hv⟩:=CQ;have hn:recoverD (c0::cs)=some (v,{c0 with mode:= .panicking ({v:=v,recovered:=true}::gN)}::cs):=by grind[recoverD]
    rw[hn];exact fin _ v hv ⟨v,gN,M6,rfl,ho⟩
   grind
theorem jR.run{f}{args}{L}{px}{R}{fn}{c}(hf:P.funcs[f]?=some fn)(hb:fn.body=some c)(hn:args.length≤fn.ntmps)(oM:fn.results.toList=[])
  (h:SY P fn.ntmps c ⟨eH 0 args,L⟩ px R):jR P f args L px R:=by
 intro fo m w xs u hi hx hu;refine callsDIn_of_wpSIn hf hb trivial (λc0 cs yi=>?_);subst yi;have dW:(xs++Array.replicate (fn.ntmps-xs.size) undef).size=fn.ntmps:=by
  have:=hx.1;grind
 let fo':FO:=⟨fo.f,[],none,true⟩
 have g:G fo' fn.ntmps m ⟨eH 0 args,L⟩ {tmps:=xs++Array.replicate (fn.ntmps-xs.size) undef,defers:=[]} w:=by
  refine⟨dW,?_,⟨hi.nodup,hi.fI,hi.apart,hi.others,hi.ei,hi.holds,hi.ef⟩,rfl⟩;intro t y hy;obtain⟨h1,h2,h3⟩:=p7 hy;simp at h2 h3;refine⟨by omega,?_⟩;have ay:t<xs.size:=by rw[hx.1];exact h3
  have:(xs++Array.replicate (fn.ntmps-xs.size) undef).getD t undef=xs[t]:=by
   simp[Array.getD,ay];omega
  rw[this];exact hx.2 t _ y (aqf ay) h2
 have hE:BT fo' m w R=BT fo m w R:=by
  funext e u' w';refine propext ⟨?_,?_⟩
  ·rintro⟨m',r,L',h1,h2,h3,h4⟩;exact⟨m',r,L',h1,h2,⟨h3.nodup,h3.fI,h3.apart,h3.others,h3.ei,h3.holds,h3.ef⟩,h4⟩
  ·rintro⟨m',r,L',h1,h2,h3,h4⟩;exact⟨m',r,L',h1,h2,⟨h3.nodup,h3.fI,h3.apart,h3.others,h3.ei,h3.holds,h3.ef⟩,h4⟩
 rw[<-hE];exact h fo' m _ w w m fn c0 cs rfl rfl rfl oM g hu (Step.refl w _)
end
section
variable {P : Program} {n : Nat} {s : St} {Q : AX -> St -> Prop}
def BU(f:FuncId)(hs:List (Nat×Nat)):Deferred:=⟨.fn (.func f) (hs.map λp=>Value.pointer (some ⟨p.2,0,none⟩)).toArray,#[]⟩
def D6(P:Program)(n:Nat)(c:Code)(s:St)(Q:AX->St->Prop)(QD:FuncId->List (Nat×Nat)->AX->St->Prop):Prop:=
 ∀(fo:FO) m a w,fo.r=none->fo.D=[]->fo.nm=true->G fo n m s a w->
  c.wpIn Fence.wide 0 P (λe a' w'=>fX fo n m w Q e a' w'\/∃f hs,enters P f=true/\fX ⟨fo.f,[BU f hs],none,true⟩ n m w (QD f hs) e a' w') a w
variable {QD : FuncId -> List (Nat × Nat) -> AX -> St -> Prop}
theorem D6.Vb{x y}(IC:gi x=false)(h:aw P n x s (AX.then (λs'=>D6 P n y s' Q QD) Q)):D6 P n (.seq x y) s Q QD:=by
 intro fo m a w hr hD zb g;refine wpIn_seq ?_;have h1:=h fo m a w (λe=>by grind) g;rw[hr]at h1;refine Code.wpIn_mono ?_ h1;rintro e a1 w1 ⟨ms,m1,x1,s1,qz,hq,g1,iZ,st⟩;obtain rfl:=qz.1.2 zb;have gg:=g1;rw[FO.Be]at gg;cases e with
 | normal=>
   cases x1<;>simp[bF]at iZ
   refine Code.wpIn_mono ?_ (hq fo m1 a1 w1 hr hD zb gg);grind[fX.step]
 | exit i=>cases x1<;>simp[bF]at iZ;exact .inl ⟨[],m1,_,s1,qz,hq,g1,iZ,st⟩
 | goto i=>cases x1<;>simp[bF]at iZ;exact .inl ⟨[],m1,_,s1,qz,hq,g1,iZ,st⟩
 | ret=>cases x1<;>simp[bF]at iZ;exact .inl ⟨[],m1,_,s1,qz,hq,g1,iZ,st⟩
 | panic ch=>cases x1<;>simp only[bF]at iZ;exact .inl ⟨[],m1,_,s1,qz,hq,g1,iZ,st⟩
 | outgrown=>simp_all[bF]
def O0(L:aH):List V->List (Nat×Nat)->Prop
 | [],[]=>True
 | x::xs,p::ps=>x= .bp p.1 0/\p∈dj L/\O0 L xs ps
 | _,_=>False
theorem Ga{fo}{m}{L}{w}(hi:Inv fo m L w):∀xs ps vs,O0 L xs ps→vs.length=xs.length→(∀(j:Nat) v x,vs[j]?=some v→xs[j]?=some x→az w (OO fo m) m v x)→
  vs=ps.map λp=>Value.pointer (some ⟨p.2,0,none⟩)
 | [],[],vs,_,hl,_=>by grind
 | x::xs,p::ps,v::vs,⟨hx,hp,ht⟩,hl,hr=>by
   have h0:=hr 0 v x rfl rfl;subst hx;obtain⟨b,hb,rfl⟩:=xJ h0;obtain⟨ty,cs,hm⟩:=ns hp;obtain⟨z,hz,bb,kA,cur,rfl,_⟩:=hi.holds _ _ hm;rw[hz]at hb;simp only[akC,Value.pointer.injEq,Addr.mk.injEq]at hb;obtain rfl:bb=p.2:=by omega
   obtain rfl:=hb.1;rw[aqd,<-Ga hi xs ps vs ht (by grind) (λj v x h1 h2=>hr (j+1) v x (by grind) (by grind))]
 | [],_::_,_,h,_,_=>h.elim
 | _::_,[],_,h,_,_=>h.elim
 | _::_,_::_,[],_,hl,_=>by grind
theorem D6.defer{id}{o1 o2}{t:Tmp}{f}{sH}{hs}{y}{c}(h1:o1.op= .makeFunc (.func f) #[] sH)(zc:o1.dst=some t)(SF:t < n)(IQ:o1.guard=none)
  (h2:o2.op= .defer c) (hc:c.callee= .value (.tmp t)) (hca:c.args= #[]) (kB:o2.dst=none) (oi:o2.guard=none) (lN:O0 s.L (sH.toList.map s.ev) hs) (he:enters P f=true) (IC:gi y=false)
  (h:aw P n y (s.put (some t) (.eW (.func f) [] (sH.toList.map s.ev))) (QD f hs)):D6 P n (.seq (.region id #[o1,o2] false) y) s Q QD:=by
 intro fo m a w hr hD zb g;refine wpIn_seq (wpIn_region_list ?_);have amJ:(sH.toList.map a.eval)=hs.map λp=>Value.pointer (some ⟨p.2,0,none⟩):=by
  refine Ga g.inv _ _ _ lN (by simp) (λj v x hv hx=>?_);simp only[apS,apN]at hv hx;obtain⟨z,hz,rfl⟩:=hv;obtain⟨z',Aw,rfl⟩:=hx;rw[hz]at Aw;obtain rfl:=apO Aw;exact cj g z
 have fC:az w (OO fo m) m (.func (.func f) #[] (sH.map a.eval)) (.eW (.func f) [] (sH.toList.map s.ev)):=by
  refine .eW _ _ _ _ _ rfl (by simp) (by simp) (λj x y hx hy=>?_);have cy:(sH.toList.map a.eval)[j]?=some x:=by
   grind
  simp only[apS,apN]at cy hy;obtain⟨z,hz,rfl⟩:=cy;obtain⟨z',Aw,rfl⟩:=hy;rw[hz]at Aw;obtain rfl:=apO Aw;exact cj g z
 have g1:=g.put (dst:=some t) (λd e=>by grind) fC;have ht:(a.put (some t) (.func (.func f) #[] (sH.map a.eval))).eval (.tmp t)= .func (.func f) #[] (sH.map a.eval):=by
  have:=g.size;simp_all[Act.eval,Act.put,Array.getD]
 have ah1:(execOp a.eval o1).run P w= .ok (.value (.func (.func f) #[] (sH.map a.eval))) w:=by simp[execOp,h1,Instr.makeFunc]
 unfold wpListIn;rw[if_pos (by grind[Region.wanted])];refine⟨λ_ _=>trivial,?_⟩;show Oper.uponIn Fence.wide 0 P o1 a _ _ ((o1.semAt none a.eval).run P w);rw[Oper.semAt_none,ah1,Oper.uponIn_value,zc];unfold wpListIn;rw[if_pos (by grind[Region.wanted])];refine⟨λ_ _=>trivial,?_⟩;show Oper.uponIn Fence.wide 0 P o2 _ _ _ ((o2.semAt none _).run P w);have ah2:(execOp (a.put (some t) (.func (.func f) #[] (sH.map a.eval))).eval o2).run P w= .ok (.defer (BU f hs)) w:=by
  have:(sH.map a.eval)=(hs.map λp=>Value.pointer (some ⟨p.2,0,none⟩)).toArray:=by
   grind
  simp_all[execOp,resolve,Deferred.ofValue,Sem.run_bind,Sem.run_pure,Result.andThen_ok,BU]
 rw[Oper.semAt_none,ah2,Oper.uponIn_defer,kB];unfold wpListIn
 let fo':FO:=⟨fo.f,[BU f hs],none,true⟩
 have g2:G fo' n m (s.put (some t) (.eW (.func f) [] (sH.toList.map s.ev))) {a.put (some t) (.func (.func f) #[] (sH.map a.eval))with defers:=BU f hs::(a.put (some t) (.func (.func f) #[] (sH.map a.eval))).defers} w:=by
  refine⟨g1.size,g1.fr,⟨g1.inv.nodup,g1.inv.fI,g1.inv.apart,g1.inv.others,g1.inv.ei,g1.inv.holds,g1.inv.ef⟩,?_⟩;have:=g1.defers;grind
 refine Code.wpIn_mono (F:=Fence.wide) ?_ (h fo' m _ w (λe=>by grind) g2);grind
end
section
variable {P : Program} {n : Nat} {s : St} {Q : AX -> St -> Prop}
def S3(s:St):List (Nat×V):=s.fr.filter λp=>V.on ((dj s.L).map (·.1)) p.2
def Hk(P:Program)(rs:List ResultVar)(R:AE->aH->Prop)(s:St)(r:Option V)(L':aH):Prop:=
 dj L'=dj s.L/\match r with
  | none=>fj P rs R .ret ⟨S3 s,L'⟩
  | some y=>R (.iC y) L'
def LvD(P:Program)(rs:List ResultVar)(R:AE->aH->Prop)(f:FuncId)(hs:List (Nat×Nat))(x:AX)(s:St):Prop:=
 match x with
 | .normal|.ret=>(∀p∈hs,p∈dj s.L)/\jR P f (hs.map λp=> .bp p.1 0) s.L none (Hk P rs R s)
 | .iC v=>(∀p∈hs,p∈dj s.L)/\jR P f (hs.map λp=> .bp p.1 0) s.L (some v) (Hk P rs R s)
 | _=>False
theorem z7{fo}{m m0}{a}{w w0}{fn}{R}{f}{hs}{px}{u}(hu:u≠ .run)(FM:fo.nm=true)
  (hh:∀p∈hs,p∈dj s.L) (h:jR P f (hs.map λp=> .bp p.1 0) s.L px (Hk P fn.results.toList R s)) (he:enters P f=true) (g:G fo n m s a w) (hm:nc w (OO fo m) m u px) (LB:Step w0 (own m0) w (own m)):
  LeavesIn Fence.wide 0 P fn a.tmps (mK fo m0 w0 R) [BU f hs] u w:=by
 have ow:iA w (OO fo m) m (hs.map λp=>Value.pointer (some ⟨p.2,0,none⟩)).toArray (hs.map λp=> .bp p.1 0):=by
  refine⟨by simp,λj x y hx hy=>?_⟩;simp only[aqJ,apS,apN]at hx hy;obtain⟨p,hp,rfl⟩:=hx;obtain⟨p',LC,rfl⟩:=hy;rw[hp]at LC;obtain rfl:=apO LC;obtain⟨ty,cs,gA⟩:=ns (hh p (apT hp));obtain⟨z,hz,bb,kA,cur,rfl,_⟩:=g.inv.holds _ _ gA;obtain rfl:bb=p.2:=by omega
  exact .bp _ _ _ hz
 refine leavesIn_cons hu (λh=>by grind[Fence.wide]) (f:=f) (args:=(hs.map λp=>Value.pointer (some ⟨p.2,0,none⟩)).toArray) (by simp_all[invoke,xZ]) (λ_ _=>trivial) ?_;refine(h fo m w _ u g.inv ow hm).mono ?_;rintro e u' w' ⟨m',r,L',⟨ox,hR⟩,zu,ck,st⟩;have tG:=Lr g.inv ck ox;have g':G fo n m' ⟨S3 s,L'⟩ a w':=by
  refine⟨g.size,λt y hy=>?_,ck,g.defers⟩;obtain⟨h1,h2⟩:=aq0.1 hy;obtain⟨q1,q2⟩:=g.fr t y h1;exact⟨q1,(q2.on tG h2).mono (Step.rH st) (Step.sub st) (λ_ _ e=>e)⟩
 have fin:∀O1,nc w' (OO fo m') m' O1 r->LeavesIn Fence.wide 0 P fn a.tmps (mK fo m0 w0 R) [] O1 w':=by
  intro O1 CQ;unfold nc at CQ;split at CQ
  ·simp[fj]at hR;split at hR
   ·rename_i xs c hr;obtain⟨v,k1,k2⟩:=sg g' hr hR.1;exact⟨v,k1,m',_,_,hR.2,k2,ck,LB.trans st⟩
   grind
  ·exact⟨m',_,_,hR,CQ,ck,LB.trans st⟩
  grind
 cases e with
 | returned v=>exact fin _ zu
 | panicked ch=>exact fin _ zu
 | outgrown=>exact zu.elim
theorem aE.Yo{f}{fn}{c}{args}{L}{R}(hf:P.funcs[f]?=some fn)(hb:fn.body=some c)(hn:args.length≤fn.ntmps)
  (h:D6 P fn.ntmps c ⟨eH 0 args,L⟩ (fj P fn.results.toList R) (LvD P fn.results.toList R)):aE P f args L R:=by
 intro fo m w xs hi hx
 let fo':FO:=⟨fo.f,[],none,true⟩
 have LD:∀e w',mK fo' m w R e w'->mK fo m w R e w':=λ_ _ ⟨m',r,L',h1,h2,h3,h4⟩=>⟨m',r,L',h1,h2,⟨h3.nodup,h3.fI,h3.apart,h3.others,h3.ei,h3.holds,h3.ef⟩,h4⟩
 refine Calls.mono ?_ LD;refine callsIn_wide.1 (callsIn_of_wp_defers (n:=0) hf hb trivial ?_);have dW:(xs++Array.replicate (fn.ntmps-xs.size) undef).size=fn.ntmps:=by
  have:=hx.1;grind
 have g:G fo' fn.ntmps m ⟨eH 0 args,L⟩ {tmps:=xs++Array.replicate (fn.ntmps-xs.size) undef,defers:=[]} w:=by
  refine⟨dW,?_,⟨hi.nodup,hi.fI,hi.apart,hi.others,hi.ei,hi.holds,hi.ef⟩,rfl⟩;intro t y hy;obtain⟨h1,h2,h3⟩:=p7 hy;simp only[Nat.sub_zero,aqB]at h2 h3;refine⟨by omega,?_⟩;have ay:t<xs.size:=by rw[hx.1];exact h3
  have:(xs++Array.replicate (fn.ntmps-xs.size) undef).getD t undef=xs[t]:=by
   simp[Array.getD,ay];omega
  rw[this];exact hx.2 t _ y (aqf ay) h2
 refine Code.wpIn_mono (F:=Fence.wide) ?_ (h fo' m _ w rfl rfl rfl g);rintro e a' w' (⟨ms,m',x,s',qz,hq,g',cy,st⟩|⟨f2,hs,F0,ms,m',x,s',qz,hq,g',cy,st⟩)
 ·obtain rfl:=qz.1.2 rfl;rw[FO.Be]at g' cy;have xW:a'.defers=[]:=g'.defers;have N4:fj P fn.results.toList R .ret s'->LeavesIn Fence.wide 0 P fn a'.tmps (mK fo' m w R) a'.defers .returning w':=by
   intro hq;rw[xW];simp only[fj]at hq;split at hq
   ·rename_i ys c' hr;obtain⟨v,k1,k2⟩:=sg g' hr hq.1;exact⟨v,k1,m',_,_,hq.2,k2,g'.inv,st⟩
   grind
  cases e with
  | normal=>cases x<;>simp only[bF]at cy;exact N4 hq
  | ret=>cases x<;>simp only[bF]at cy;exact N4 hq
  | panic ch=>
    cases x<;>simp only[bF]at cy
    simp only[fj]at hq;show LeavesIn Fence.wide 0 P fn a'.tmps (mK fo' m w R) a'.defers (.panicking ch) w';rw[xW];exact⟨m',_,_,hq,cy,g'.inv,st⟩
  | exit i=>cases x<;>simp only[bF]at cy;simp_all
  | goto i=>cases x<;>simp only[bF]at cy;simp_all
  | outgrown=>simp_all[bF]
 ·obtain rfl:=qz.1.2 rfl;rw[FO.Be]at g' cy;have xW:a'.defers=[BU f2 hs]:=g'.defers;have g2:G fo' fn.ntmps m' s' {a' with defers:=[]} w':=⟨g'.size,g'.fr,⟨g'.inv.nodup,g'.inv.fI,g'.inv.apart,g'.inv.others,g'.inv.ei,g'.inv.holds,g'.inv.ef⟩,rfl⟩
  cases e with
  | normal=>
    cases x<;>simp only[bF]at cy
    show LeavesIn Fence.wide 0 P fn a'.tmps (mK fo' m w R) a'.defers .returning w';rw[xW];exact z7 (a:={a' with defers:=[]}) (by simp) rfl hq.1 hq.2 F0 g2 trivial st
  | ret=>
    cases x<;>simp only[bF]at cy
    show LeavesIn Fence.wide 0 P fn a'.tmps (mK fo' m w R) a'.defers .returning w';rw[xW];exact z7 (a:={a' with defers:=[]}) (by simp) rfl hq.1 hq.2 F0 g2 trivial st
  | panic ch=>
    cases x<;>simp only[bF]at cy
    show LeavesIn Fence.wide 0 P fn a'.tmps (mK fo' m w R) a'.defers (.panicking ch) w';rw[xW];exact z7 (a:={a' with defers:=[]}) (by simp) rfl hq.1 hq.2 F0 g2 cy st
  | exit i=>cases x<;>simp only[bF]at cy;exact hq.elim
  | goto i=>cases x<;>simp only[bF]at cy;exact hq.elim
  | outgrown=>simp_all[bF]
end
section
variable {P : Program} {n : Nat} {s : St} {Q : AX -> St -> Prop}
theorem jR.frame{f:FuncId}{args:List V}{L L1 L2:aH}{px:Option V}{R1:Option V→aH→Prop}(h:jR P f args L1 px R1)(hL:L.Perm (L1++L2))(ho:V.dA (keys L1) args=true)(hx:ajT px=true)(iu:L1.all (fun p=>aV.on (keys L1) p.2)=true)
  (ja:∀p∈L2,aV.on (keys L2++(L1.filterMap λp=>match p.2 with|.box (_+1) _ _=>some p.1|_=>none)) p.2=true)
  (qV:∀r bh,R1 r bh->(∀k∈keys bh,k∉keys L2)/\∀k b ty cs,(k,aV.box (b+1) ty cs)∈L1->∃mw jL,(k,aV.box (b+1) mw jL)∈bh):
  jR P f args L px (λr L'=>∃bh,R1 r bh/\L'=bh++L2):=by
 intro fo m w xs u hi yU hu;obtain⟨gT,m1,oY,oG,qm,fin⟩:=Go.Ab.frame hi hL iu ja;have ajU:iA w (OO gT m1) m1 xs args:=⟨yU.1,λj v y hv hy=>((yU.2 j v y hv hy).on oG (fP ho y (apT hy))).mono (bK.refl w _) (λb _ hb=>(oY b).1 hb) (λ_ _ e=>e)⟩
 have sY:nc w (OO gT m1) m1 u px:=by
  unfold nc at hu⊢;split at hu
  ·trivial
  ·obtain⟨v,gN,rfl,ir,hv⟩:=hu;exact⟨v,gN,rfl,ir,(hv.on (ks:=[]) (m':=m1) (by simp) hx).mono (bK.refl w _) (λb _ hb=>(oY b).1 hb) (λ_ _ e=>e)⟩
  ·exact hu.elim
 refine(h gT m1 w xs u qm ajU sY).mono ?_;rintro e u' w' ⟨uy,r,bh,hR,zu,ck,fJ⟩;obtain⟨DK,GZ⟩:=qV r bh hR;obtain⟨mm,hinv,qn,vV,zW,-⟩:=fin w' uy bh ck fJ DK GZ;refine⟨mm,r,_,⟨bh,hR,rfl⟩,?_,hinv,qn⟩;have md:∀O1:FrameMode,nc w' (OO gT uy) uy O1 r->nc w' (OO fo mm) mm O1 r:=by
  intro O1 CQ;unfold nc at CQ⊢;split at CQ
  ·trivial
  ·obtain⟨v,gN,rfl,ir,hv⟩:=CQ;exact⟨v,gN,rfl,ir,hv.mono (bK.refl w' _) (λb _ hb=>(zW b).1 hb) vV⟩
  ·exact CQ.elim
 cases e with
 | returned v=>exact md _ zu
 | panicked ch=>exact md _ zu
 | outgrown=>exact zu.elim
def EDQ(hs:List Nat)(R:Option V->aH->Prop)(x:AX)(s:St):Prop:=
 match x with
 | .normal|.ret=>(s.pick [] hs).on (keys (s.pick [] hs).L)=true/\R none (s.pick [] hs).L
 | .iC y=>(s.pick [] hs).on (keys (s.pick [] hs).L)=true/\y.on []=true/\R (some y) (s.pick [] hs).L
 | _=>False
theorem aw.edq{c hs R}(hh:hs.Nodup)(h:aw P n c s (EDQ hs R)):aw P n c s (DQ R):=by
 intro fo m a w hr g;refine Code.wpIn_mono (λe a' w' hp=>?_) (h fo m a w hr g);obtain⟨ms,m',x,s',qz,hq,g',he,st⟩:=hp;cases x with
 | normal=>
   obtain⟨m2,g2,oX⟩:=Wk.pick [] hs rfl hh hq.1 (fo.mark ms) m' a' w' g';refine⟨ms,m2,.normal,_,qz,hq.2,g2,?_,st.trans oX⟩;grind[bF]
 | ret=>
   obtain⟨m2,g2,oX⟩:=Wk.pick [] hs rfl hh hq.1 (fo.mark ms) m' a' w' g';refine⟨ms,m2,.ret,_,qz,hq.2,g2,?_,st.trans oX⟩;grind[bF]
 | iC y=>
   obtain⟨m2,g2,oX⟩:=Wk.pick [] hs rfl hh hq.1 (fo.mark ms) m' a' w' g';refine⟨ms,m2,.iC y,_,qz,hq.2.2,g2,?_,st.trans oX⟩;cases e<;>simp[bF]at he⊢
   obtain⟨v,gN,rfl,ir,hv⟩:=he;exact⟨v,gN,rfl,ir,(hv.on (by simp) hq.2.1).mono (Step.rH oX) (Step.sub oX) (λ_ _ e=>e)⟩
 | exit i=>exact hq.elim
 | goto i=>exact hq.elim
attribute [simp] EDQ DQ
theorem aw.tJ{c}(h:cP P n c s (cm P n Q [])):aw P n c s Q:=eg _ _ _ h
end
section
variable {P : Program} {n : Nat} {s : St} {Q : AX -> St -> Prop}
theorem aw.aeh{g}{ps:Array Tmp}{assign body}{f}{eh}{xs}
  (J:Nat->aH->Prop) K (L0 Lc:aH) fr (hL0:s.L.Perm (L0++Lc)) (h5:5003∉keys Lc) (hLc:∀p∈Lc,aV.on (keys Lc) p.2=true) (Yp:∀p∈L0,aV.on (keys L0) p.2=true) (abv:∀p∈fr,p∈s.fr)
  (hg:s.ev g= .eW (.func f) [] eh) (he:enters P f=true) (Vc:V.dA (keys Lc) eh=true) {KP} (gR:M4 KP P f eh Lc xs)
  (IC:gi assign=false/\gi body=false) (ID:∀(i:Nat) (x:List V),xs[i]?=some x->x.length=ps.size/\V.dA [] x=true) (SO:∀p∈ps.toList,p<n)
  (kg:(keys L0).Nodup) (ia:∀t y,(t,y)∈fr->V.on ((dj L0).map (·.1)) y=true)
  (hKJ:KP->∀L,¬J xs.length L) (hJ0:J 0 L0) (hJl:∀i L,J i L->dj L=dj L0)
  (round:∀(i:Nat) (x:List V) L,xs[i]?=some x->J i L->∃L' Hn,(Hn->J (i+1) L'/\dj L'=dj L0)/\cP P n assign ⟨wV (ps.toList.zip x) fr,L⟩ (AX.then (λs2=>cP P n body s2 (IA (keys L0) L0 L' Hn fr K)) (λ_ _=>False)))
  (last:∀L,J xs.length L->Q .normal ⟨fr,L⟩) (hK:∀x L,K x ⟨fr,L⟩->Q x ⟨fr,L⟩):aw P n (.rangeFunc g ps assign body) s Q:=by
 intro fo m a w hr gG;have nC:fo.r=none:=(hr rfl).1;have zb:fo.nm=false:=(hr rfl).2;refine wpIn_rangeFunc (F:=wr fo.r) (n:=0) (P:=P) (λfn _=>?_)
 let r:=w.heap.size
 let wa:=OF w (.deferred (some []))
 let r0:Loop:={state:= .ready,pending:=none,fn,tmps:=a.tmps,params:=ps,assign,body,defers:=r}
 let l:=wa.heap.size
 let w1:=OF wa (.loop r0)
 have hl:l=w.heap.size+1:=DX _ _;have CO:w1.heap.size=w.heap.size+2:=by grind[DX]
 have hi:=gG.inv;have hold:∀b,b<w.heap.size->w1.heap[b]?=w.heap[b]?:=λb hb=>by
  grind[SQ,DX]
 have hrl:w1.heap[r]?=some (.deferred (some [])):=by
  rw[SQ (by omega)];exact Lu _ _
 have Lx:w1.heap[l]?=some (.loop r0):=Lu _ _;have CH:=cj gG g;rw[hg]at CH;obtain⟨fa,ca,ev,s1,s2,g1,g2⟩:=SB CH;have O2:fa= #[]:=by grind
 subst O2;refine⟨l,[⟨.collected r,#[]⟩],w1,⟨.fn (.func f) ca,#[.func (.yield l) #[] #[]]⟩,w1,f,#[.func (.yield l) #[] #[]]++ca,w1,?_,?_,λ_ _=>trivial,?_,λh=>by grind[wr,Fence.wide],?_⟩
 ·show(Instr.enterLoop fn a.tmps ps assign body (wr fo.r).round).run P w=_;rw[show(wr fo.r).round=none from nC];rfl
 ·have hcv:∀v,a.eval (.const v)=v:=λ_=>rfl
  simp_all[resolve,rangeCall,Deferred.ofValue]
 ·simp_all[invoke,xZ]
 have pK:∀x,x∈keys s.L↔x∈keys L0\/x∈keys Lc:=by
  grind[keys]
 have ajV:(keys L0).Nodup/\(keys Lc).Nodup/\∀x,x∈keys L0->x∉keys Lc:=by
  have hp:(keys s.L).Perm (keys L0++keys Lc):=by grind[keys]
  have:=hp.nodup_iff.1 hi.nodup;grind
 let ml:Nat->Option Value:=λh=>if h∈keys L0 then m h else none
 let mc:Nat->Option Value:=λh=>if h∈keys Lc then m h else none
 have IS:∀h x,ml h=some x->m h=some x/\h∈keys L0:=by
  grind
 have IT:∀h x,mc h=some x->m h=some x/\h∈keys Lc:=by
  grind
 have abw:∀h x,h∈keys L0->m h=some x->ml h=some x:=λh x hh hx=>by grind
 have abx:∀h x,h∈keys Lc->m h=some x->mc h=some x:=λh x hh hx=>by grind
 have olm:∀b,own ml b->own m b:=λb ⟨h,x,hx,hb⟩=>⟨h,x,(IS h x hx).1,hb⟩
 have ocm:∀b,own mc b->own m b:=λb ⟨h,x,hx,hb⟩=>⟨h,x,(IT h x hx).1,hb⟩
 have aby:∀b,own ml b->own mc b->False:=by
  rintro b ⟨h,x,hx,hb⟩ ⟨h',x',cy,de⟩;have:=hi.apart h h' x x' b (IS h x hx).1 (IT h' x' cy).1 hb de;grind
 let gT:FO:=⟨λb=>fo.f b\/b=r,[],none,false⟩
 let foB:FO:=⟨λb=>(fo.f b\/b=r)\/own mc b,[],none,false⟩
 let fo2:FO:=⟨λb=>((fo.f b\/b=r)\/own mc b)\/b=l,[],none,false⟩
 have fb:∀b,own m b->b<w.heap.size:=λb ⟨h,x,hx,hb⟩=>hi.lt hx hb
 have hO2:∀b,b<w.heap.size->OO fo2 ml b->OO fo m b:=by
  rintro b hb (h|(((h|h)|h)|h))
  ·exact .inl (olm b h)
  ·exact .inr h
  ·omega
  ·exact .inl (ocm b h)
  ·omega
 have nu:bK w (OO fo m) w1:=⟨by omega,λb hb _=>hold b hb⟩
 have FU:Inv fo2 ml L0 w1:=by
  refine⟨ajV.1,λh x hx=>(IS h x hx).2,λh h' x x' b hx cy hb de=>hi.apart h h' x x' b (IS h x hx).1 (IS h' x' cy).1 hb de,?_,?_,?_,hi.ef.mono nu hO2⟩
  ·rintro h x b hx hb (((h'|h')|h')|h')
   ·exact hi.others h x b (IS h x hx).1 hb h'
   ·have:=hi.lt (IS h x hx).1 hb;omega
   ·exact aby b ⟨h,x,hx,hb⟩ h'
   ·have:=hi.lt (IS h x hx).1 hb;omega
  ·rintro b (((h'|h')|h')|h')
   ·have:=hi.ei b h';omega
   ·omega
   ·grind
   ·omega
  ·intro h q hq;obtain⟨x,hx,hh⟩:=hi.holds h q (hL0.mem_iff.2 (aqm _ hq));have hk:h∈keys L0:=apV.2 ⟨_,hq,rfl⟩;exact⟨x,abw h x hk hx,(hh.on abw (Yp _ hq)).mono (λb hb=>hold b (hi.lt hx hb)) nu hO2 (λ_ _ e=>e)⟩
 let B:=pn r0 l fr (λst pd L=>st= .done/\∃c x,pd=some c/\DW pd x/\K x ⟨fr,L⟩)
 let A:Nat->Env:=λi=>pn r0 l fr (λst pd L=>(st= .ready/\pd=none/\dj L=dj L0)/\J i L)
 have XP:∀h,h∈(dj L0).map (·.1)->h∈keys L0:=by
  intro h hh;obtain⟨p,hp,rfl⟩:=apV.1 hh;obtain⟨ty,cs,hm⟩:=ns (h:=p.1) (b:=p.2) hp;exact apV.2 ⟨_,hm,rfl⟩
 have ah3:∀t y,(t,y)∈fr->az w1 (OO fo2 ml) ml (r0.tmps.getD t undef) y:=λt y hy=>(((gG.fr t y (abv _ hy)).2.on (λh x hh hx=>abw h x (XP h hh) hx) (ia t y hy))).mono nu hO2 (λ_ _ e=>e)
 have ajW:¬foB.f l:=by
  rintro((h|h)|h)
  ·have:=hi.ei _ h;omega
  ·omega
  grind
 have hbB:Inv foB (one (yc l L0 ml)) [(5003,.env (A 0))] w1:=
  Iz (fo:=foB) (fo':=fo2) (λb h=> .inl h) (.inr rfl) ajW FU ⟨⟨rfl,rfl,rfl⟩,hJ0⟩ Lx ah3
 let m1:Nat->Option Value:=λh=>if h=5003 then some (yc l L0 ml)else mc h
 have mx:∀h x,m1 h=some x->(h=5003/\x=yc l L0 ml)\/(h≠5003/\mc h=some x):=by
  grind
 have Vd:∀h x,mc h=some x->m1 h=some x:=by
  grind
 have tU:=λb=>uN (l:=l) (L:=L0) (m:=ml) FU.fI b
 have agj:∀b,own m1 b↔(b=l\/own ml b)\/own mc b:=by
  intro b;constructor
  ·rintro⟨h,x,hx,hb⟩;rcases mx h x hx with⟨rfl,rfl⟩|⟨_,hx⟩
   ·grind
   ·exact .inr ⟨h,x,hx,hb⟩
  ·rintro(h|⟨h,x,hx,hb⟩)
   ·exact⟨5003,_,by rfl,(tU b).2 h⟩
   ·exact⟨h,x,Vd h x hx,hb⟩
 have ajX:∀b,OO gT m1 b↔OO foB (one (yc l L0 ml)) b:=by
  grind[OO,J7]
 have Ve:∀b,b<w.heap.size->OO gT m1 b->OO fo m b:=by
  intro b hb ho;rcases ho with ho|ho
  ·rcases(agj b).1 ho with(rfl|h)|h
   ·omega
   ·exact .inl (olm b h)
   ·exact .inl (ocm b h)
  ·rcases ho with h|h
   ·exact .inr h
   ·omega
 have Ay:Inv gT m1 ((5003,.env (A 0))::Lc) w1:=by
  refine⟨?_,?_,?_,?_,?_,?_,hi.ef.mono nu Ve⟩
  ·grind[keys,List.nodup_cons]
  ·intro h x hx;rcases mx h x hx with⟨rfl,_⟩|⟨_,hx⟩
   ·simp
   ·exact ap2 _ (IT h x hx).2
  ·intro h h' x x' b hx cy hb de;rcases mx h x hx with⟨rfl,rfl⟩|⟨_,hx⟩<;>rcases mx h' x' cy with⟨rfl,rfl⟩|⟨_,cy⟩
   ·rfl
   ·rcases(tU b).1 hb with rfl|h1
    ·have:=hi.lt (IT h' x' cy).1 de;omega
    ·exact(aby b h1 ⟨h',x',cy,de⟩).elim
   ·rcases(tU b).1 de with rfl|h1
    ·have:=hi.lt (IT h x hx).1 hb;omega
    ·exact(aby b h1 ⟨h,x,hx,hb⟩).elim
   ·exact hi.apart h h' x x' b (IT h x hx).1 (IT h' x' cy).1 hb de
  ·intro h x b hx hb hf;rcases mx h x hx with⟨rfl,rfl⟩|⟨_,hx⟩
   ·rcases(tU b).1 hb with rfl|⟨i,z,hz,hzb⟩
    ·grind
    ·rcases hf with h|h
     ·exact hi.others i z b (IS i z hz).1 hzb h
     grind
   ·rcases hf with h'|h'
    ·exact hi.others h x b (IT h x hx).1 hb h'
    ·have:=hi.lt (IT h x hx).1 hb;omega
  ·rintro b (h|h)
   ·have:=hi.ei b h;omega
   ·omega
  ·intro h q hq;rcases ap8.1 hq with e|hq
   ·simp only[apM]at e;obtain⟨rfl,rfl⟩:=e;obtain⟨x,hx,hh⟩:=hbB.holds 5003 _ ap7;have cy:x=yc l L0 ml:=by grind[one]
    subst cy;exact⟨_,by rfl,hh.mono (λ_ _=>rfl) (bK.refl w1 _) (λb _ hb=>(ajX b).1 hb) (λi z hz=>by
     by_cases e:i=5003
     ·grind
     ·simp only[one,if_neg e]at hz;cases hz)⟩
   ·obtain⟨x,hx,hh⟩:=hi.holds h q (hL0.mem_iff.2 (aqu _ hq));have hk:h∈keys Lc:=apV.2 ⟨_,hq,rfl⟩;exact⟨x,Vd h x (abx h x hk hx),((hh.on abx (hLc _ hq)).mono (λb hb=>hold b (hi.lt hx hb)) nu Ve Vd)⟩
 have pR:=gR l A B (λi x hx=>?_) (λhk w O x hA=>by obtain⟨st,pd,L,m,⟨-,hJ⟩,-⟩:=hA;grind)
 ·have ow:iA w1 (OO gT m1) m1 (#[.func (.yield l) #[] #[]]++ca) (yv l::eh):=by
   have h1:iA w1 (OO gT m1) m1 #[.func (.yield l) #[] #[]] [yv l]:=by
    refine⟨rfl,λj x y hx hy=>?_⟩
    match j with
    | 0=>
      simp only[aqk,akC]at hy;have cy:x= .func (.yield l) #[] #[]:=by grind
      subst hy;subst cy;exact .d _ _ (.v _ rfl)
    | j+1=>grind
   refine h1.append (ys':=eh) ⟨s2,λj x y hx hy=>?_⟩;exact((g2 j x y hx hy).on abx (fP Vc y (apT hy))).mono nu Ve Vd
  have hc:=pR gT m1 w1 _ Ay ow;refine GC (hc.mono ?_);rintro e w3 ⟨m',rr,L',⟨⟨y,rfl⟩,hL'⟩,zu,hi3,ye⟩;have ajY:¬own m1 r:=by
   grind
  have SJ:w3.heap[r]?=some (.deferred (some [])):=by rw[ye.block r (by omega) ajY];omega
  have ah4:∀b,own m1 b->b=l\/own m b:=λb h=>by
   grind
  have fin:∀st pd L m2,st≠ .busy→w3.heap[l]?=some (.loop {r0 with state:=st,pending:=pd})→Inv ⟨fun b=>gT.f b∨b=l,[],none,false⟩ m2 L w3→(∀t y,(t,y)∈fr→az w3 (OO ⟨fun b=>gT.f b∨b=l,[],none,false⟩ m2) m2 (r0.tmps.getD t undef) y)→(∀b,own m' b↔b=l∨own m2 b)→
    ∃w4,(Instr.endLoop l).run P w3= .ok pd w4/\G (fo.mark [r]) n m2 ⟨fr,L⟩ {a with defers:=[⟨.collected r,#[]⟩]++a.defers} w4/\Step w (own m) w4 (own m2)/\Marks fo.nm w w4 [r]:=by
   intro st pd L m2 bx sD D7 OE Yq;have hl3:l<w3.heap.size:=(ap6.1 sD).1;refine⟨nR w3 l (.loop {r0 with state:= .exhausted,pending:=pd}),?_,?_,?_,?_⟩
   ·simp[Instr.endLoop,Instr.getLoop,Sem.run_bind,xX sD (by simp),Br sD (by simp),bx]
   ·have g4:G (⟨λb=>gT.f b\/b=l,⟨.collected r,#[]⟩::fo.D,fo.r,fo.nm⟩:FO) n m2 ⟨fr,L⟩ {a with defers:=[⟨.collected r,#[]⟩]++a.defers} w3:=
     ⟨gG.size,λt y hy=>⟨(gG.fr t y (abv _ hy)).1,OE t y hy⟩,⟨D7.nodup,D7.fI,D7.apart,D7.others,D7.ei,D7.holds,D7.ef⟩,by simp[gG.defers]⟩
    have g5:=g4.others (w':=nR w3 l (.loop {r0 with state:= .exhausted,pending:=pd})) (by simp[jA,apU]) (λb _ hb=>qS (λe=>hb (.inr e)));have kh:∀b,(fo.mark [r]).f b->(λb=>gT.f b\/b=l) b:=by
     rintro b (h|h)
     ·grind
     grind
    refine⟨g5.size,λt y hy=>⟨(g5.fr t y hy).1,(g5.fr t y hy).2.mono (bK.refl _ _) (λb _ hb=>hb.imp id (kh b)) (λ_ _ e=>e)⟩,g5.inv.less kh,?_⟩;simp[FO.mark,gG.defers]
   ·refine⟨?_,?_,?_,?_,λb hb ho=>?_,λb hb ho=>?_⟩
    ·show w3.os=w.os;exact ye.os
    ·show w3.tape=w.tape;exact ye.tape
    ·show w3.output=w.output;exact ye.output
    ·grind[jA]
    ·rw[qS (by omega),ye.block b (by omega) (λh=>(ah4 b h).elim (λh=>by omega) ho)];grind
    ·have h1:=ye.owned b (by omega) ((Yq b).2 (.inr ho));grind
   ·refine⟨⟨by simp,by grind⟩,λb hb=>?_⟩;obtain rfl:b=r:=by grind
    exact⟨apU _,by grind[qS]⟩
  cases e with
  | returned v=>
    rcases hL' with rfl|rfl
    ·obtain⟨st,pd,L,m2,⟨⟨rfl,rfl,ox⟩,hJ⟩,sD,D7,OE,Yq,_⟩:=Hb hi3 [] none;obtain⟨w4,h1,h2,h3,h4⟩:=fin _ _ L m2 (by simp) sD D7 OE Yq;exact⟨none,w4,h1,[r],m2,.normal,_,h4,last L hJ,h2,trivial,h3⟩
    ·obtain⟨st,pd,L,m2,⟨rfl,c,x,rfl,hj,hKx⟩,sD,D7,OE,Yq,_⟩:=Hb hi3 [] none;obtain⟨w4,h1,h2,h3,h4⟩:=fin _ _ L m2 (by simp) sD D7 OE Yq;refine⟨some c,w4,h1,?_⟩;have hq:=hK x L hKx;show Code.wpIn (wr fo.r) 0 P c _ _ w4;cases c<;>cases x<;>simp only[DW]at hj
     all_goals first
      | exact wpIn_ret (show fX fo n m w Q .ret _ _ from⟨[r],m2,_,_,h4,hq,h2,trivial,h3⟩)
      | (subst hj;exact wpIn_exit (show fX fo n m w Q (.exit _) _ _ from⟨[r],m2,_,_,h4,hq,h2,rfl,h3⟩))
      | (subst hj;exact wpIn_goto (show fX fo n m w Q (.goto _) _ _ from⟨[r],m2,_,_,h4,hq,h2,rfl,h3⟩))
  | panicked ch=>grind[Ends]
  | outgrown=>grind[Ends]
 ·obtain⟨iZ,Is⟩:=ID i x hx;refine MN (r0:=r0) (l:=l) (fr:=fr) (L0:=L0) (K:=K) IC gG.size iZ SO Is (λt y hy=>⟨(gG.fr t y (abv _ hy)).1,ia t y hy⟩) (λst pd L h=>h.1) ?_ kg ?_
  ·rintro st pd L ⟨⟨rfl,rfl,ox⟩,hj⟩;obtain⟨L',Hn,h1,h2⟩:=round i x L hx hj;exact⟨L',Hn,λh=>⟨⟨⟨rfl,rfl,(h1 h).2⟩,(h1 h).1⟩,(h1 h).2⟩,h2⟩
  ·intro pd x' L hj ox hKx;cases pd with
   | none=>grind[DW]
   | some c=>grind
theorem aw.uS{α:Type}{g}{ps}{assign body}{f}{eh}{ks}(hs ts:List Nat) l e(R:List α→List (Nat×aV))(H:List α→Prop)
  {KP} (gR:M4 KP P f eh (s.L.filter λp=>hs.contains p.1) (l.map e)) (hg:s.ev g= .eW (.func f) [] eh) (he:enters P f=true) (Vc:V.dA (keys (s.L.filter λp=>hs.contains p.1)) eh=true)
  (IC:gi assign=false/\gi body=false) (ID:∀x∈l,(e x).length=ps.size/\V.dA [] (e x)=true) (SO:ps.toList.all (λp=>decide (p<n))=true) (ht:ts.all (λt=>decide (t<n))=true)
  (h0:(keys (s.L.filter λp=>!hs.contains p.1)).Nodup/\((s.L.filter λp=>!hs.contains p.1).all (λp=>aV.on (keys (s.L.filter λp=>!hs.contains p.1)) p.2)=true/\(s.L.filter λp=>hs.contains p.1).all (λp=>aV.on (keys (s.L.filter λp=>hs.contains p.1)) p.2)=true/\(keys (s.L.filter λp=>hs.contains p.1)).contains 5003=false)/\(ts.all λt=>V.on ((dj (s.L.filter λp=>!hs.contains p.1)).map (·.1)) (eY t s.fr))=true/\(s.L.filter λp=>!hs.contains p.1)=Iy (s.L.filter λp=>!hs.contains p.1) (R [])/\H [])
  (ox:∀pre,dj (Iy (s.L.filter λp=>!hs.contains p.1) (R pre))=dj (s.L.filter λp=>!hs.contains p.1))
  (round:∀pre x post,l=pre++x::post->H pre->cP P n assign ⟨wV (ps.toList.zip (e x)) (ts.map λt=>(t,eY t s.fr)),Iy (s.L.filter λp=>!hs.contains p.1) (R pre)⟩
   (cm P n (λ_ _=>False) [.inv (λs2=>cP P n body s2 (cm P n (IA (keys (s.L.filter λp=>!hs.contains p.1)) (s.L.filter λp=>!hs.contains p.1) (Iy (s.L.filter λp=>!hs.contains p.1) (R (pre++ [x]))) (H (pre++ [x])) (ts.map λt=>(t,eY t s.fr)) (cm P n Q ks)) []))]))
  (last:H l->cm P n Q ks .normal ⟨ts.map λt=>(t,eY t s.fr),Iy (s.L.filter λp=>!hs.contains p.1) (R l)⟩) (hKH:KP->¬H l:=by exact λh=>h.elim):aw P n (.rangeFunc g ps assign body) s (cm P n Q ks):=by
 obtain⟨h1,h2,h3,h4,h5⟩:=h0
 let s1:St:=⟨(ts.map λt=>(t,eY t s.fr))++s.fr,s.L⟩
 have hw:Wk n s s1:=by
  intro fo m a w gG;refine⟨m,⟨gG.size,λt x hx=>?_,gG.inv,gG.defers⟩,Step.refl w _⟩;rcases ap9.1 hx with hx|hx
  ·obtain⟨t',Sz,e⟩:=apV.1 hx;simp only[apM]at e;obtain⟨rfl,rfl⟩:=e;rw[apR]at ht;refine⟨by grind,?_⟩;exact qP gG t'
  ·exact gG.fr t x hx
 have ajZ:∀t,eY t s1.fr=eY t s.fr:=by
  intro t;show eY t ((ts.map λt=>(t,eY t s.fr))++s.fr)=_;clear hw h2 h3 ht round last
  induction ts with
  | nil=>rfl
  | cons u ts ih=>
    simp_all
 have IQ:s1.ev g= .eW (.func f) [] eh:=by
  simp_all
 refine aw.weaken hw ?_;refine aw.aeh (J:=λi L=>L=Iy (s.L.filter λp=>!hs.contains p.1) (R (l.take i))/\H (l.take i)) (K:=cm P n Q ks) (s.L.filter λp=>!hs.contains p.1) (s.L.filter λp=>hs.contains p.1) (ts.map λt=>(t,eY t s.fr)) ((aqD (λp=>hs.contains p.1) s.L).symm.trans List.perm_append_comm) (by grind) (λp hp=>apR.1 h2.2.1 p hp) (λp hp=>apR.1 h2.1 p hp) (λp hp=>aqm _ hp) IQ he Vc gR IC ?_ ?_ h1 ?_ (λhk L h=>hKH hk (by grind)) ?_ ?_ ?_ ?_ ?_
 ·grind
 ·grind
 ·grind
 ·grind
 ·grind
 ·rintro i x L hx ⟨rfl,hH⟩;rw[apS]at hx;obtain⟨z,hz,rfl⟩:=apN.1 hx;have ay:i<l.length:=(apQ.1 hz).1;have bn:l=l.take i++z::l.drop (i+1):=by
   grind[List.drop_eq_getElem_cons,List.getElem?_eq_getElem,Option.some.injEq,List.take_append_drop]
  have AQ:l.take (i+1)=l.take i++ [z]:=by grind
  refine⟨Iy (s.L.filter λp=>!hs.contains p.1) (R (l.take i++ [z])),H (l.take i++ [z]),λh=>⟨by grind,ox _⟩,?_⟩;have hr:=round _ z _ bn hH;exact hr
 ·rintro L ⟨rfl,hH⟩;rw[aqg,aqC]at *;exact last hH
 ·intro x L h;exact h
end
section
variable {P : Program} {n : Nat} {s : St} {Q : AX -> St -> Prop} {ops : Array Oper}
theorem ar.adi{o:Oper}{rest}{x y}{t e ty}{kc}{xs}(aP:o.op= .binOp .eql t x y ty)(ht:nJ P t=some (e,kc))(hx:s.ev x= .d (.sl xs))(hy:s.ev y= .d (.v (.slice none 0 0)))(hg:o.guard=none)(hd:∀d,o.dst=some d→d < n)
  (k:∀b:Bool,(b=true->xs=[])->ar P n ops rest (s.put o.dst (oD b)) Q):ar P n ops (o::rest) s Q:=by
 intro fo m0 w0 m a w st g;have hu:P.underlying t=some (.slice e):=by
  grind[nJ,Option.map_eq_some_iff,Prod.mk.injEq]
 have h1:=cj g x;rw[hx]at h1;obtain⟨ad,cap,hv,_,_,kk,b,off,f,ha,_⟩:=h1.lg.oT;have h2:=cj g y;rw[hy]at h2;have za:=h2.cq;unfold wpListIn;rw[if_pos (by simp[Region.wanted,hg])];have bq:(execOp a.eval o).run P w= .ok (.value (.bool ad.isNone)) w:=by
  simp_all[Lib.run_eql_slice_nil,execOp,eqGuard]
 refine xl bq (.inl rfl) ?_;refine k ad.isNone (λhb=>?_) fo m0 w0 m _ w st (g.put hd (.d _ _ (.v _ rfl)));grind
theorem agk ks(ty k:Nat) ys:aV.on ks (.row ty k (dd ys))=true:=by
 simp
theorem aE.agl{f}{args}{L}{ys}{ty}{k} h
  (hyp:aE P f args L (λr L'=>(r= .ret (.d (.v (.slice none 0 0)))/\L'=[]/\ys=[])\/(∃g,r= .ret (.rv g)/\L'=[(g,.row ty k (dd ys))]))):
  aE P f args L (λr L'=>r= .ret (.rv h)/\L'=[(h,.row ty k (dd ys))]):=by
 intro fo m w xs hi hx;refine(hyp fo m w xs hi hx).mono ?_;rintro e w' ⟨m',r,L',hR,he,ck,st⟩;rcases hR with⟨rfl,rfl,rfl⟩|⟨g,rfl,rfl⟩
 ·cases e with
  | returned v=>
    obtain rfl:=he.cq;have aj0:=ck.new (h:=h) (by simp) (x:= .slice none 0 0) (r:= .row ty k []) (apU _) (λ_ _=>rfl) (by simp[df,jU]) (.inl ⟨rfl,rfl⟩);refine⟨_,_,_,⟨rfl,rfl⟩,.rv h _ (cn _ _) rfl,by simpa using aj0,⟨st.os,st.tape,st.output,st.size,st.block,λb hb ho=>st.owned b hb ?_⟩⟩;obtain⟨i,y,hy,AN⟩:=ho;by_cases kX:i=h
    ·subst kX;rw[cn]at hy;grind[df,jU]
    ·rw[et _ kX]at hy;exact⟨i,y,hy,AN⟩
  | panicked c=>simp_all[Ends]
  | outgrown=>simp_all[Ends]
 ·cases e with
  | returned v=>
    have hv:m' g=some v/\v.oneCell'=true:=by
     cases he with
     | rv _ _ e e1=>grind
    let m2:Nat->Option Value:=λi=>if i=h then some v else none
    have tB:∀i x,m2 i=some x->i=h/\x=v:=by
     grind
    have fb:∀b,own m2 b->own m' b:=by
     rintro b ⟨i,x,hx,hb⟩;obtain⟨rfl,rfl⟩:=tB i x hx;exact⟨g,_,hv.1,hb⟩
    have hO:∀b,OO fo m2 b->OO fo m' b:=λb hb=>hb.imp (fb b) id
    refine⟨m2,_,_,⟨rfl,rfl⟩,.rv h v (by grind) hv.2,⟨by simp,?_,?_,?_,ck.ei,?_,ck.ef.mono (bK.refl w' _) (λb _ hb=>hO b hb)⟩,⟨st.os,st.tape,st.output,st.size,st.block,λb hb ho=>st.owned b hb (fb b ho)⟩⟩
    ·intro i x hx;obtain⟨rfl,_⟩:=tB i x hx;simp
    ·grind
    ·intro i x b hx hb;obtain⟨rfl,rfl⟩:=tB i x hx;exact ck.others g _ b hv.1 hb
    ·intro i q hq;simp only[aq5,apM]at hq;obtain⟨rfl,rfl⟩:=hq;obtain⟨z,hz,hh⟩:=ck.holds g _ ap7;rw[hv.1]at hz;obtain rfl:=apO hz;exact⟨v,by grind,(hh.on (ks:=[]) (m':=m2) (by simp) (agk [] ty k ys)).mono (λ_ _=>rfl) (bK.refl w' _) (λb _ hb=>hO b hb) (λ_ _ e=>e)⟩
  | panicked c=>simp_all[Ends]
  | outgrown=>simp_all[Ends]
theorem aE.wk{f args L R R'}(h:aE P f args L R)(hw:∀r L',R r L'->∃x x2 L2,r= .ret x/\Wk 1 ⟨[(0,x)],L'⟩ ⟨[(0,x2)],L2⟩/\R' (.ret x2) L2):aE P f args L R':=by
 intro fo m w xs hi hx;refine(h fo m w xs hi hx).mono ?_;rintro e w' ⟨m',r,L',hR,he,ck,st⟩;obtain⟨x,x2,L2,rfl,hwk,hR'⟩:=hw r L' hR;cases e with
 | returned v=>
   simp[Ends]at he;have g:G fo 1 m' ⟨[(0,x)],L'⟩ {tmps:= #[v],defers:=fo.D} w':=by
    refine⟨rfl,λt y hy=>?_,ck,rfl⟩;simp_all
   obtain⟨m2,g2,oX⟩:=hwk fo m' _ w' g;exact⟨m2,_,L2,hR',(g2.fr 0 x2 ap7).2,g2.inv,st.trans oX⟩
 | panicked c=>simp_all[Ends]
 | outgrown=>simp_all[Ends]
end
theorem ic(h:Nat)(l:List Int)(hl:l.length *8<=140737488355328):aE prog 34 [.d (.sl (aD l))] [] (λr L=>r= .ret (.rv h)/\L=[(h,.row 3 1 (dd (aD l)))]):=by
 refine aE.agl h ?_;refine aE.run func34 rfl (by simp[f34]) ?_;simp[f34];refine ar.adi rfl (by simp;exact⟨rfl,rfl⟩) rfl rfl rfl (by simp) ?_;intro b hb;refine ar.nil ?_;cases b with
 | true=>
   have hl:l=[]:=by have:=hb rfl;simpa[aD]using this
   subst hl;simp[-cB,aD]
 | false=>
   simp[-cB];exact hl
theorem dG(w:ai)(x:Int):Pure prog 209 [.agg (w.enc.map .d),iD x] (oD (cT w.ah.length x)):=by
 refine rn func209 ?_;simp[-cB,f209];simp[cT]
def Kg(w:ai)(x:Int):aH:=[(5201,.box 0 34 (w.enc.map .d)),(5202,.box 0 3 [iD x])]
theorem Yr(w:ai)(x:Int):aE prog 243 [.agg (w.enc.map .d),iD x] [] (λr L=>r= .ret (.eW (.func 277) [] [.bp 5201 0,.bp 5202 0])/\L=Kg w x):=by
 refine aE.wk (R:=λr L=>r= .ret (.eW (.func 277) [] [.bp 2 0,.bp 3 0])/\∃b2 b3,L=[(3,.box b3 3 [iD x]),(2,.box b2 34 (w.enc.map .d))]) ?_ ?_
 ·refine aE.run func243 rfl (by simp[f243]) ?_;simp[f243]
 ·rintro r L ⟨rfl,b2,b3,rfl⟩;refine⟨_,_,_,rfl,((Wk.vE [2,3]).trans ((Wk.eR 2 5201 (by simp[keys])).trans ((Wk.eR 3 5202 (by simp[keys])).trans (Wk.pick [0] [5201,5202] (by simp) (by decide) ?_)))),?_⟩
  ·simp
  ·simp[Kg,St.pick]
theorem S4(w:ai)(hw:w.wf)(x:Int):Iter prog 277 [.bp 5201 0,.bp 5202 0] (Kg w x) ((jV w.tree x).map λi=> [iD i]):=by
 intro l A B hy _;have hl:=ai.jB hw;have e1:w.tree.bz=w.ah:=rfl;unfold jV at hy⊢;rw[e1]at hy⊢;unfold Kg;generalize nT:bP w.ah w.ah.length w.ah.length x=ch at *;refine aE.vZ [5003] (by simp) func277 rfl (by simp[f277]) ?_;simp[f277];refine aw.cX [0,1,2,4] w.ah.length (λi=> [(4,iD ((w.ah.length:Int)-i))]) (λi=> [(5003,.env (A i)),(5202,.box 0 3 [iD (eB w.ah i x)])]) (λi=>∀j<i,cT w.ah.length (eB w.ah j x)=true) (by rfl) (by simp[eB]) ?_;intro i hi hH;have hs:=ta w.ah i x;have mL:=BJ w.ah i x;rcases apW hi with ay|rfl
 ·have a4:aN .i64 ((w.ah.length:Int)-i-1):=iW;cases hT:cT w.ah.length (eB w.ah i x)with
  | false=>
    have bx:=jc hH (.inl hT) hi;rw[nT]at bx;simp[-cB];refine pC (dG w _) ?_;simp[-cB,hT];refine ar.guarded (b:=false) (x:=oD false) rfl (by simp) (λh=>by cases h) ?_;refine bf _ _ [] (by rfl) ?_;simp[-cB,bx,mL]
  | true=>
    have hg:=qA hT;have oi:=jn hT;have hb:=bG.1 hT;have nV:∀j<i+1,cT w.ah.length (eB w.ah j x)=true:=λj hj=>by
     rcases aq7 j i with h|h
     ·exact hH j h
     ·rw[show j=i by omega];exact hT
    have SW:ch[i]?=some (eB w.ah i x):=by
     have:=vH w.ah w.ah.length (i+1) (w.ah.length-(i+1)) x nV;rw[show i+1+(w.ah.length-(i+1))=w.ah.length by omega,nT]at this;rw[this,aqx (by simp)];simp
    have O3:rV prog l [iD (eB w.ah i x)] [(5003,.env (A i))] (YR (A (i+1)) B):=hy i _ (by rw[apS,SW];rfl);simp[-cB];refine pC (dG w _) ?_;simp[-cB,hT,ay];refine ar.Ya ((λ_:true=true=>O3)) rfl (by simp) (by simp) (by simp[qY]) (by simp) (by simp) rfl (by simp[keys]) rfl (by simp) (by simp) ?_ ?_ ?_
    ·intro _ cI;simp[-cB,List.filter,hs,hg,oi,a4];exact⟨by omega,ay,by omega,nV⟩
    ·intro _ cI;simp[-cB,List.filter]
    ·intro hr;cases hr
 ·have bx:=jc hH (.inr rfl) hi;rw[nT]at bx;simp[-cB];refine pC (dG w _) ?_;simp[-cB];refine ar.guarded (b:=false) (x:=oD false) rfl (by simp) (λh=>by cases h) ?_;refine bf _ _ [] (by rfl) ?_;simp[-cB,bx,mL]
theorem IU(w:ai)(hw:w.wf)(x:Int):Pure prog 198 [.agg (w.enc.map .d),iD x] (iD (gh w.tree x)):=by
 unfold gh;have gR:=S4 w hw x;have hu:=Yr w x;unfold Kg at gR hu;generalize jV w.tree x=us at *;refine rn func198 ?_;simp[-cB,f198];intro bs Lw;refine eD [] hu ?_;simp[-cB];refine aw.uS [5201,5202] [5] us (λi=> [iD i]) (λpre=> [(5,.box (Lw 0+1) 3 [iD (pre.getLastD 0)])]) (λ_=>True) (by simpa[List.filter]using gR) rfl (by simp) (by simp[List.filter]) (by simp[gi]) (by simp) (by rfl) (by rfl) (by simp[List.filter]) (by simp[List.filter]) ?_ ?_
 ·rintro pre y post bn -;simp[-cB,List.filter]
 ·intro _;simp[-cB,List.filter]
theorem Ys(w:ai)(hw:w.wf)(x y:Int):Pure prog 283 [.agg (w.enc.map .d),iD x,iD y] (oD (decide (y∈jV w.tree x))):=by
 have gR:=S4 w hw x;have hu:=Yr w x;unfold Kg at gR hu;generalize jV w.tree x=us at *;refine rn func283 ?_;simp[-cB,f283];intro bs;refine eD [] hu ?_;simp[-cB];refine aw.uS [5201,5202] [5,6] us (λi=> [iD i]) (λpre=> []) (λpre=>y∉pre) (by simpa[List.filter]using gR) rfl (by simp) (by simp[List.filter]) (by simp[gi]) (by simp) (by rfl) (by rfl) (by simp[List.filter]) (by simp[List.filter]) ?_ ?_
 ·rintro pre z post bn hH;by_cases hz:z=y
  ·subst hz;simp[-cB,List.filter,bn]
  ·simp[-cB,List.filter,hz,hH];exact λh=>hz h.symm
 ·intro hH;simp[-cB,List.filter,hH]
section
variable {P : Program} {n : Nat} {s : St} {Q : AX -> St -> Prop} {L : aH}
theorem ar.jo{ops}{o:Oper}{rest}{c}{f}{args}{L1 L2:aH}{R} fr(hg:o.guard=none)(hd:∀d,o.dst=some d→d < n)
  (aP:o.op= .call c) (hc:callee s.ev c=some (f,args)) (he:enters P f=true) (ho:V.dA (keys L1) args=true) (hL:s.L.Perm (L1++L2)) (iu:L1.all (λp=>aV.on (keys L1) p.2)=true)
  (ia:∀p∈fr,p∈s.fr/\V.on (keys L2++(L1.filterMap λp=>match p.2 with|.box (_+1) _ _=>some p.1|_=>none)) p.2=true)
  (ja:∀p∈L2,aV.on (keys L2++(L1.filterMap λp=>match p.2 with|.box (_+1) _ _=>some p.1|_=>none)) p.2=true)
  (h:aE P f args L1 R)
  (qV:∀r bh,R r bh->(∃x,r= .ret x)/\(∀k∈keys bh,k∉keys L2)/\∀k b ty cs,(k,aV.box (b+1) ty cs)∈L1->∃mw jL,(k,aV.box (b+1) mw jL)∈bh)
  (k:∀x bh,R (.ret x) bh->ar P n ops rest (St.put ⟨fr,bh++L2⟩ o.dst x) Q):ar P n ops (o::rest) s Q:=by
 intro fo m0 w0 m a w st g;unfold wpListIn;rw[if_pos (by simp[Region.wanted,hg])];refine zi aP hc he ho hL iu ja h qV g λx bh mm v w' hR wq hinv qn gS cN s6=>?_
 have g':G fo n mm ⟨fr,bh++L2⟩ a w':=⟨g.size,λt y hy=>by
  obtain⟨q0,q3⟩:=ia _ hy;obtain⟨q1,q2⟩:=g.fr t y q0;exact⟨q1,(q2.on gS q3).mono cN s6 (λ_ _ e=>e)⟩,hinv,g.defers⟩
 exact k x bh hR fo m0 w0 mm _ w' (st.trans qn) (g'.put hd wq)
theorem ar.agm{ops}{o:Oper}{rest}{c}{f}{args}{L1 bh}{x}(hs:List Nat)(aP:o.op= .call c)(h:aE P f args L1 (fun r L=>r= .ret x∧L=bh))(hc:callee s.ev c=some (f,args))(hg:o.guard=none)
  (hd:∀d,o.dst=some d->d<n) (hr:dB n rest=true) (he:enters P f=true) (hL:s.L.filter (λp=>hs.contains p.1)=L1)
  (ho:V.dA (keys L1) args=true/\L1.all (λp=>aV.on (keys L1) p.2)=true/\L1.all (λp=>match p.2 with|.box (_+1) _ _=>false|_=>true)=true)
  (ja:(s.L.filter λp=>!hs.contains p.1).all (λp=>aV.on (keys (s.L.filter λp=>!hs.contains p.1)) p.2)=true)
  (hk:(keys bh).all (λk=>!(keys (s.L.filter λp=>!hs.contains p.1)).contains k)=true)
  (k:∀bs,eN P ops rest (St.put ⟨s.fr.filter λp=>V.on (keys (s.L.filter λp=>!hs.contains p.1)) p.2,bh++s.L.filter λp=>!hs.contains p.1⟩ o.dst x) bs [] (KK P n ops Q)):ar P n ops (o::rest) s Q:=by
 have hb:(L1.filterMap λp=>match p.2 with|.box (_+1) _ _=>some p.1|_=>none)=[]:=by
  grind[List.filterMap_eq_nil_iff,List.all_eq_true]
 refine ar.jo (s.fr.filter λp=>V.on (keys (s.L.filter λp=>!hs.contains p.1)) p.2) hg hd aP hc he ho.1 (by subst hL;exact(aqD _ s.L).symm) ho.2.1 ?_ ?_ h ?_ ?_
 ·grind
 ·grind
 ·grind
 ·rintro x' uI ⟨e,rfl⟩;obtain rfl:=AE.ret.inj e;exact bf rest _ [] hr k
end
def qB(w:ai)(x:Int):aH:=[(5201,.box 0 34 (w.enc.map .d)),(5202,.box 0 3 [iD x])]
theorem Gb(w:ai)(x:Int):aE prog 245 [.agg (w.enc.map .d),iD x] [] (λr L=>r= .ret (.eW (.func 279) [] [.bp 5201 0,.bp 5202 0])/\L=qB w x):=by
 refine aE.wk (R:=λr L=>r= .ret (.eW (.func 279) [] [.bp 2 0,.bp 3 0])/\∃b2 b3,L=[(3,.box b3 3 [iD x]),(2,.box b2 34 (w.enc.map .d))]) ?_ ?_
 ·refine aE.run func245 rfl (by simp[f245]) ?_;simp[f245]
 ·rintro r L ⟨rfl,b2,b3,rfl⟩;refine⟨_,_,_,rfl,((Wk.vE [2,3]).trans ((Wk.eR 2 5201 (by simp[keys])).trans ((Wk.eR 3 5202 (by simp[keys])).trans (Wk.pick [0] [5201,5202] (by simp) (by decide) ?_)))),?_⟩
  ·simp
  ·simp[qB,St.pick]
theorem D8(w:ai)(hw:w.wf)(hC:w.Child.length=w.ah.length)(hN:w.Next.length=w.ah.length)(x:Int):Iter prog 279 [.bp 5201 0,.bp 5202 0] (qB w x) ((cz w.tree x).map λi=> [iD i]):=by
 intro l A B hy _;have hl:=ai.jB hw;have e1:w.tree.bz=w.ah:=rfl;have e2:w.tree.jQ=w.Child:=rfl;have e3:w.tree.km=w.Next:=rfl;unfold cz at hy⊢;rw[e1,e2,e3]at hy⊢;unfold qB;cases hx:cT w.ah.length x with
 | false=>
   simp only[hx]at hy⊢;refine aE.vZ [5003] (by simp) func279 rfl (by simp[f279]) ?_;simp[f279];refine pC (dG w _) ?_;simp[hx]
 | true=>
   simp only[hx,if_true]at hy⊢;generalize hc:aL w.Child x=c at *;generalize nT:bP w.Next w.ah.length w.ah.length c=ch at *;refine aE.vZ [5003] (by simp) func279 rfl (by simp[f279]) ?_;simp[f279];refine pC (dG w _) ?_;simp[-cB,hx];have hb0:=bG.1 hx;have hg0:w.Child[x.toNat]?.getD 0=c:=by rw[<-hc];exact jn (by rw[hC];exact hx)
   refine⟨⟨by omega,by omega⟩,?_⟩;rw[hg0];refine aw.cX [0,1,4,5] w.ah.length (λi=> [(4,iD ((w.ah.length:Int)-i)),(5,iD (eB w.Next i c))]) (λi=> [(5003,.env (A i))]) (λi=>∀j<i,cT w.ah.length (eB w.Next j c)=true) (by rfl) (by simp[eB]) ?_;intro i hi hH;have hs:=ta w.Next i c;have mL:=BJ w.Next i c;rcases apW hi with ay|rfl
   ·have a4:aN .i64 ((w.ah.length:Int)-i-1):=iW;cases hT:cT w.ah.length (eB w.Next i c)with
    | false=>
      have bx:=jc hH (.inl hT) hi;rw[nT]at bx;simp[-cB];refine pC (dG w _) ?_;simp[-cB,hT];refine ar.guarded (b:=false) (x:=oD false) rfl (by simp) (λh=>by cases h) ?_;refine bf _ _ [] (by rfl) ?_;simp[-cB,bx,mL]
    | true=>
      have Yt:cT w.Next.length (eB w.Next i c)=true:=by rw[hN];exact hT
      have hg:=qA Yt;have oi:=jn Yt;have hb:=bG.1 hT;have nV:∀j<i+1,cT w.ah.length (eB w.Next j c)=true:=λj hj=>by
       rcases aq7 j i with h|h
       ·exact hH j h
       ·rw[show j=i by omega];exact hT
      have SW:ch[i]?=some (eB w.Next i c):=by
       have:=vH w.Next w.ah.length (i+1) (w.ah.length-(i+1)) c nV;rw[show i+1+(w.ah.length-(i+1))=w.ah.length by omega,nT]at this;rw[this,aqx (by simp)];simp
      have O3:rV prog l [iD (eB w.Next i c)] [(5003,.env (A i))] (YR (A (i+1)) B):=hy i _ (by rw[apS,SW];rfl);simp[-cB];refine pC (dG w _) ?_;simp[-cB,hT,ay];refine ar.Ya ((λ_:true=true=>O3)) rfl (by simp) (by simp) (by simp[qY]) (by simp) (by simp) rfl (by simp[keys]) rfl (by simp) (by simp) ?_ ?_ ?_
      ·intro _ cI;simp[-cB,List.filter,hs,hg,oi,a4];exact⟨by omega,ay,by omega,nV⟩
      ·intro _ cI;simp[-cB,List.filter]
      ·intro hr;cases hr
   ·have bx:=jc hH (.inr rfl) hi;rw[nT]at bx;simp[-cB];refine pC (dG w _) ?_;simp[-cB];refine ar.guarded (b:=false) (x:=oD false) rfl (by simp) (λh=>by cases h) ?_;refine bf _ _ [] (by rfl) ?_;simp[-cB,bx,mL]
theorem O4(f:FuncId)(he:enters prog f=true)(xs:List Int)(Ar:xs.length *8≤140737488355328)(w:ai)(x:Int)(gR:Iter prog f [.bp 5201 0,.bp 5202 0] (qB w x) (xs.map fun i=> [iD i])):
  aE prog 278 [.d (.v (.slice none 0 0)),.eW (.func f) [] [.bp 5201 0,.bp 5202 0]] (qB w x) (λr L=>r= .ret (.rv 40)/\L=[(40,.row 3 1 (dd (aD xs)))]):=by
 unfold qB at gR⊢;refine aE.wk (R:=λr L=>r= .ret (.rv 40)/\∃b2,L=[(40,.row 3 1 (dd (aD xs))),(2,.box b2 23 [.rv 40])]) ?_ ?_
 ·refine aE.run func278 rfl (by simp[f278]) ?_;simp[f278];intro bs;refine aw.weaken (Wk.qx (e:=3) (k:=1) 2 0 40 rfl rfl (by simp[keys])) ?_;simp[-cB];refine aw.uS [5201,5202] [2] xs (λi=> [iD i]) (λpre=> [(40,.row 3 1 (dd (aD pre)))]) (λpre=>True) (by simpa[List.filter]using gR) rfl he (by simp[List.filter]) (by simp[gi]) (by simp) (by rfl) (by rfl) (by simp[List.filter,aD]) (by simp[List.filter]) ?_ ?_
  ·rintro pre z post bn hH;have aj1:(pre.length+1) *8<=140737488355328:=by
    rw[bn]at Ar;simp at Ar;omega
   simp[-cB,List.filter,aj1,aD,dd]
  ·intro hH;simp[-cB,List.filter]
 ·rintro r L ⟨rfl,b2,rfl⟩;refine⟨_,_,_,rfl,((Wk.vE []).trans (Wk.pick [0] [40] (by simp) (by decide) ?_)),?_⟩
  ·simp[dd,aD]
  ·simp[St.pick]
theorem Vf(f:FuncId)(he:enters prog f=true)(xs:List Int)(Ar:xs.length *8≤140737488355328)(w:ai)(x:Int)(gR:Iter prog f [.bp 5201 0,.bp 5202 0] (qB w x) (xs.map fun i=> [iD i])):
  aE prog 244 [.eW (.func f) [] [.bp 5201 0,.bp 5202 0]] (qB w x) (λr L=>r= .ret (.rv 40)/\L=[(40,.row 3 1 (dd (aD xs)))]):=by
 have ha:=O4 f he xs Ar w x gR;clear gR;unfold qB at ha⊢;refine aE.run func244 rfl (by simp[f244]) ?_;simp[f244];refine ar.agm [5201,5202] rfl (ha) (by simp) rfl (by simp) rfl (by kernel_rfl) (by first|rfl|simp) (by simp) (by simp) (by simp) ?_;simp[-cB]
theorem Gc(w:ai)(hw:w.wf)(hC:w.Child.length=w.ah.length)(hN:w.Next.length=w.ah.length)(x:Int):Pure prog 200 [.agg (w.enc.map .d),iD x] (.d (.sl (aD (cz w.tree x)))):=by
 have hl:=ai.jB hw;have hk:=Gb w x;have Ar:(cz w.tree x).length *8<=140737488355328:=by
  unfold cz;have h1:(bP w.tree.km w.tree.bz.length w.tree.bz.length (aL w.tree.jQ x)).length<=w.ah.length:=BH _ _ _ _;split
  ·omega
  ·simp
 have hc:=Vf 279 (by kernel_rfl) _ Ar w x (D8 w hw hC hN x);unfold qB at hk hc;generalize cz w.tree x=ks at *;refine rn func200 ?_;simp[-cB,f200];intro bs;refine eD [] hk ?_;simp[-cB];refine ar.agm [5201,5202] rfl (hc) (by simp) rfl (by simp) rfl (by kernel_rfl) (by first|rfl|simp) (by simp) (by simp) (by simp) ?_;simp[-cB]
def eC(w:ai):List V:=[.rv 70,.rv 71,.rv 72,.rv 73,.rv 74,.rv 75,.rv 76,.d (.v (.int .u64 w.dN)),iD w.Score,iD w.nG,iD w.lq,iD w.It,iD w.Go]
def gy(w:ai):aH:=[(76,.row 3 1 (dd (aD w.bO))),(75,.row 3 1 (dd (aD w.aM))),(74,.row 3 1 (dd (aD w.Flags))),(73,.row 3 1 (dd (aD w.Next))),(72,.row 3 1 (dd (aD w.Child))),(71,.row 3 1 (dd (aD w.ah))),(70,.row 3 1 (dd (aD w.aW)))]
def nH(w:ai)(b0 b1 i:Nat):St:=⟨[(12,.rv 12),(13,iD 7),(14,iD i),(1,.bp 1 0),(2,.bp 2 0)],
 (gy w).drop (7-i)++ [(12,.row 276 1 [[.bp 1 0],[.bp 1 1],[.bp 1 2],[.bp 1 3],[.bp 1 4],[.bp 1 5],[.bp 1 6]]),(2,.box b1 34 (List.replicate 7 (.d (.v (.slice none 0 0)))++ .d (.v (.int .u64 0))::List.replicate 5 (iD 0))),(1,.box b0 34 ((eC w).take i++(w.enc.map .d).drop i))]⟩
theorem abz(w:ai)(hw:w.wf):aE prog 305 [.agg (w.enc.map .d)] [] (λr L=>r= .ret (.agg (eC w))/\∃b0 b1,L=[(76,.row 3 1 (dd (aD w.bO))),(75,.row 3 1 (dd (aD w.aM))),(74,.row 3 1 (dd (aD w.Flags))),(73,.row 3 1 (dd (aD w.Next))),(72,.row 3 1 (dd (aD w.Child))),(71,.row 3 1 (dd (aD w.ah))),(70,.row 3 1 (dd (aD w.aW))),(12,.row 276 1 [[.bp 1 0],[.bp 1 1],[.bp 1 2],[.bp 1 3],[.bp 1 4],[.bp 1 5],[.bp 1 6]]),(2,.box b1 34 (eC w)),(1,.box b0 34 (eC w))]):=by
 have h0:=ai.oH hw;have h1:=ai.jB hw;have h2:=ai.abo hw;have h3:=ai.aed hw;have h4:=ai.Oz hw;have h5:=ai.qq hw;have h6:=ai.Lm hw;refine aE.run func305 rfl (by simp[f305]) ?_;simp[f305];intro bs;refine aw.ahP 7 (nH w (bs 0+1) (bs 1+1)) (λ_=>True) ⟨trivial,?_⟩ ?_
 ·exact Wk.pick [12,13,14,1,2] [12,2,1] rfl (by simp) rfl
 intro i hi _;rcases(by omega:i=0\/i=1\/i=2\/i=3\/i=4\/i=5\/i=6\/i=7)with rfl|rfl|rfl|rfl|rfl|rfl|rfl|rfl
 ·simp[-cB,cellAt,nH,gy,eC,ai.enc,List.replicate];refine ar.ej [] rfl (ic 70 w.aW (by omega)) (by simp) rfl (by simp) rfl (by kernel_rfl) (by simp) (by simp) (by simp) (by simp) (by simp) ?_;simp[-cB,nH,gy,eC,ai.enc,List.replicate];exact⟨iW,Wk.pick [12,13,14,1,2] [70,12,2,1] rfl (by simp) (by simp)⟩
 ·simp[-cB,cellAt,nH,gy,eC,ai.enc,List.replicate];refine ar.ej [] rfl (ic 71 w.ah (by omega)) (by simp) rfl (by simp) rfl (by kernel_rfl) (by simp) (by simp) (by simp) (by simp) (by simp) ?_;simp[-cB,nH,gy,eC,ai.enc,List.replicate];exact⟨iW,Wk.pick [12,13,14,1,2] [71,70,12,2,1] rfl (by simp) (by simp)⟩
 ·simp[-cB,cellAt,nH,gy,eC,ai.enc,List.replicate];refine ar.ej [] rfl (ic 72 w.Child (by omega)) (by simp) rfl (by simp) rfl (by kernel_rfl) (by simp) (by simp) (by simp) (by simp) (by simp) ?_;simp[-cB,nH,gy,eC,ai.enc,List.replicate];exact⟨iW,Wk.pick [12,13,14,1,2] [72,71,70,12,2,1] rfl (by simp) (by simp)⟩
 ·simp[-cB,cellAt,nH,gy,eC,ai.enc,List.replicate];refine ar.ej [] rfl (ic 73 w.Next (by omega)) (by simp) rfl (by simp) rfl (by kernel_rfl) (by simp) (by simp) (by simp) (by simp) (by simp) ?_;simp[-cB,nH,gy,eC,ai.enc,List.replicate];exact⟨iW,Wk.pick [12,13,14,1,2] [73,72,71,70,12,2,1] rfl (by simp) (by simp)⟩
 ·simp[-cB,cellAt,nH,gy,eC,ai.enc,List.replicate];refine ar.ej [] rfl (ic 74 w.Flags (by omega)) (by simp) rfl (by simp) rfl (by kernel_rfl) (by simp) (by simp) (by simp) (by simp) (by simp) ?_;simp[-cB,nH,gy,eC,ai.enc,List.replicate];exact⟨iW,Wk.pick [12,13,14,1,2] [74,73,72,71,70,12,2,1] rfl (by simp) (by simp)⟩
 ·simp[-cB,cellAt,nH,gy,eC,ai.enc,List.replicate];refine ar.ej [] rfl (ic 75 w.aM (by omega)) (by simp) rfl (by simp) rfl (by kernel_rfl) (by simp) (by simp) (by simp) (by simp) (by simp) ?_;simp[-cB,nH,gy,eC,ai.enc,List.replicate];exact⟨iW,Wk.pick [12,13,14,1,2] [75,74,73,72,71,70,12,2,1] rfl (by simp) (by simp)⟩
 ·simp[-cB,cellAt,nH,gy,eC,ai.enc,List.replicate];refine ar.ej [] rfl (ic 76 w.bO (by omega)) (by simp) rfl (by simp) rfl (by kernel_rfl) (by simp) (by simp) (by simp) (by simp) (by simp) ?_;simp[-cB,nH,gy,eC,ai.enc,List.replicate];exact⟨iW,Wk.pick [12,13,14,1,2] [76,75,74,73,72,71,70,12,2,1] rfl (by simp) (by simp)⟩
 ·simp[-cB,nH,gy,eC,ai.enc,List.replicate]
theorem aei(w:ai)(hw:w.wf):aE prog 305 [.agg (w.enc.map .d)] [] (λr L=>r= .ret (.agg (eC w))/\L=gy w):=by
 refine aE.wk (abz w hw) ?_;rintro r L ⟨rfl,b0,b1,rfl⟩;refine⟨_,_,_,rfl,Wk.pick [0] [76,75,74,73,72,71,70] (by simp) (by decide) ?_,?_⟩
 ·simp[eC,dd]
 ·simp[gy,eC,St.pick]
theorem mI{l:List Int}{x:Int}(hx:0<=x/\x<l.length)(v y:Int):aL (l.set x.toNat v) y=if y=x then v else aL l y:=by
 unfold aL;by_cases hy:y<0
 ·rw[if_pos hy,if_pos hy,if_neg (by omega)]
 ·rw[if_neg hy,if_neg hy,asb];by_cases he:y=x
  ·subst he;rw[if_pos rfl,if_pos rfl,if_pos (by omega)];rfl
  ·rw[if_neg (by omega),if_neg he]
def tW(nx:List Int)(x:Int)(l:List Int):List Int:=l.foldl (λa c=>if aL nx c=x then a.set c.toNat (aL nx x)else a) nx
theorem LF(nx:List Int)(x:Int)(l:List Int)(c:Int):tW nx x (l++ [c])=if aL nx c=x then(tW nx x l).set c.toNat (aL nx x)else tW nx x l:=by simp[tW]
theorem yj(nx:List Int)(x:Int)(l:List Int):(tW nx x l).length=nx.length:=by
 unfold tW
 suffices h:∀a:List Int,(l.foldl (λa c=>if aL nx c=x then a.set c.toNat (aL nx x)else a) a).length=a.length from h nx
 induction l with
 | nil=>intro a;rfl
 | cons c l ih=>intro a;rw[List.foldl_cons,ih];split<;>simp
theorem aej(nx:List Int)(x:Int)(l:List Int)(hl:∀y∈l,0<=y/\y<nx.length)(y:Int):aL (tW nx x l) y=if y∈l/\aL nx y=x then aL nx x else aL nx y:=by
 suffices h:∀r:List Int,(∀y∈r,0<=y/\y<nx.length)->aL (tW nx x r.reverse) y=if y∈r/\aL nx y=x then aL nx x else aL nx y by
  have:=h l.reverse (by simpa using hl);simpa using this
 intro r
 induction r with
 | nil=>intro _;simp[tW]
 | cons c r ih=>
   intro hr;have SG:=ih (λy hy=>hr y (ap2 _ hy));rw[arL,LF];by_cases hc:aL nx c=x
   ·rw[if_pos hc,mI (by rw[yj];exact hr c ap7),SG];by_cases hy:y=c
    ·subst hy;simp[hc]
    ·simp[hy]
   ·rw[if_neg hc,SG];by_cases hy:y=c
    ·subst hy;simp[hc]
    ·simp[hy]
theorem Ch.next{nx:List Int}{n:Nat}{c:Int}{l:List Int}(h:Ch nx n c l):∀y∈l,aL nx y=0\/aL nx y∈l.tail:=by
 induction h with
 | nil=>simp
 | @cons c l h t ih=>
   intro y hy;rcases ap8.1 hy with rfl|hy
   ·generalize aL nx y=z at t;cases t with
    | nil=>left;rfl
    | cons h' t'=>right;simp
   ·rcases ih y hy with e|e
    ·exact .inl e
    ·exact .inr (List.mem_of_mem_tail e)
theorem Ch.cut{nx nx':List Int}{n:Nat}{c x:Int}{l:List Int}(h:Ch nx n c l)(hx:1<=x)(hk:∀y∈l,y≠x->aL nx' y=if aL nx y=x then aL nx x else aL nx y):Ch nx' n (if c=x then aL nx x else c) (l.erase x):=by
 induction h with
 | nil=>rw[if_neg (by omega)];exact .nil
 | @cons c l h t ih=>
   have kg:=(Ch.cons h t).nodup;have sS:=(Ch.cons h t).next
   by_cases hc:c=x
   ·subst hc;rw[if_pos rfl,List.erase_cons_head];refine t.rH λy hy=>?_
    have bU:y≠c:=λe=>by subst e;exact(aqZ.1 kg).1 hy
    rw[hk y (ap2 _ hy) bU,if_neg];intro e;rcases sS y (ap2 _ hy)with e2|e2
    ·omega
    ·rw[e]at e2;exact(aqZ.1 kg).1 e2
   ·rw[if_neg hc,List.erase_cons_tail (by simpa using hc)];refine .cons h ?_;rw[hk c ap7 hc];exact ih (λy hy=>hk y (ap2 _ hy))
theorem Ch.stop{nx nx':List Int}{n:Nat}{c x:Int}{l:List Int}(h:Ch nx n c l)(hk:∀y,aL nx' y=if y=x then 0 else aL nx y):∃l',Ch nx' n c l':=by
 induction h with
 | nil=>exact⟨_,.nil⟩
 | @cons c l h t ih=>
   by_cases hc:c=x
   ·exact⟨[c],.cons h (by rw[hk,if_pos hc];exact .nil)⟩
   ·obtain⟨l',h'⟩:=ih;exact⟨c::l',.cons h (by rw[hk,if_neg hc];exact h')⟩
def nd(t:Tree)(x:Int):Tree where
 bz:=t.bz.set x.toNat 0
 jQ:=if aL t.bz x≠0/\aL t.jQ (aL t.bz x)=x then t.jQ.set (aL t.bz x).toNat (aL t.km x)else t.jQ
 km:=(if aL t.bz x=0\/aL t.jQ (aL t.bz x)=x then t.km else tW t.km x (cz t (aL t.bz x))).set x.toNat 0
theorem iJ.leave{t:Tree}{n:Nat}{ls:Int->List Int}(h:iJ t n ls){x:Int}(hx:1<=x/\x<n):iJ (nd t x) n (λu=>if u=aL t.bz x then(ls u).erase x else ls u):=by
 have hP:∀y,aL (nd t x).bz y=if y=x then 0 else aL t.bz y:=λy=>mI (by rw[h.lp];omega) 0 y
 have AR:=h.up x hx.1 hx.2;have hC:∀u,1<=u->aL (nd t x).jQ u=if u=aL t.bz x then(if aL t.jQ u=x then aL t.km x else aL t.jQ u)else aL t.jQ u:=by
  intro u hu;unfold nd
  try dsimp only
  by_cases hc:aL t.bz x≠0/\aL t.jQ (aL t.bz x)=x
  ·rw[if_pos hc,mI (by rw[h.lc];rcases AR with h1|h1<;>omega)];by_cases he:u=aL t.bz x
   ·rw[if_pos he,if_pos he,if_pos (by rw[he];exact hc.2)]
   ·rw[if_neg he,if_neg he]
  ·rw[if_neg hc];by_cases he:u=aL t.bz x
   ·rw[if_pos he,if_neg];intro e;exact hc ⟨by omega,by rw[<-he];exact e⟩
   ·rw[if_neg he]
 have hN:∀y,aL (nd t x).km y=if y=x then 0 else if y∈ls (aL t.bz x)/\aL t.bz x≠0/\aL t.km y=x then aL t.km x else aL t.km y:=by
  intro y;unfold nd
  try dsimp only
  rw[mI (by split<;>simp only[yj,h.ln]<;>omega)];by_cases hy:y=x
  ·rw[if_pos hy,if_pos hy]
  ·rw[if_neg hy,if_neg hy];by_cases hc:aL t.bz x=0\/aL t.jQ (aL t.bz x)=x
   ·rw[if_pos hc,if_neg];rintro⟨h1,h2,h3⟩;have hc:=hc.resolve_left h2;have hu:=(AR.resolve_left (λe=>h2 e.1)).1;have nT:=h.ch _ hu.1 hu.2;rw[hc]at nT;rcases nT.next y h1 with e|e
    ·omega
    ·rw[h3]at e;cases hl:ls (aL t.bz x)with
     | nil=>rw[hl]at h1;cases h1
     | cons a r=>
       rw[hl]at nT e;have kg:=nT.nodup;cases nT with
       | cons _ _=>exact(aqZ.1 kg).1 e
   ·rw[if_neg hc];have h0:aL t.bz x≠0:=λe=>hc (.inl e)
    have hu:=(AR.resolve_left (λe=>h0 e.1)).1;rw[h.kids hu,aej _ _ _ (λz hz=>by have:=(h.ch _ hu.1 hu.2).mem z hz;rw[h.ln];omega)];simp[h0]
 refine⟨h.pos,by simp[nd,h.lp],by unfold nd;dsimp only;split<;>simp[h.lc],by unfold nd;dsimp only;split<;>simp[h.ln,yj],?_,?_,?_,?_,?_,?_,?_⟩
 ·rw[hP,h.p0];split<;>rfl
 ·have hle:aL (nd t x).jQ 0=aL t.jQ 0:=by
   unfold nd;dsimp only;split
   ·rename_i hc;rw[mI (by rw[h.lc];rcases AR with h1|h1<;>omega),if_neg (by omega)]
   ·rfl
  rw[hle,h.c0]
 ·rw[hN,if_neg (by omega),if_neg,h.n0];rintro⟨h1,h2,h3⟩;rw[h.n0]at h3;omega
 ·intro u sY nM
  try dsimp only
  rw[hC u sY];have nT:=h.ch u sY nM;by_cases he:u=aL t.bz x
  ·rw[if_pos he,if_pos he];refine nT.cut hx.1 λy hy AS=>?_
   rw[hN,if_neg AS];rw[he]at hy;have h0:aL t.bz x≠0:=by omega
   simp[hy,h0]
  ·rw[if_neg he,if_neg he];refine nT.rH λy hy=>?_
   have S5:=h.par u sY nM y hy;have AS:y≠x:=λe=>he (by rw[<-e];exact S5.symm)
   rw[hN,if_neg AS,if_neg];rintro⟨h1,h2,-⟩;have hu:=(AR.resolve_left (λe=>h2 e.1)).1;exact he (by rw[<-S5];exact(h.par _ hu.1 hu.2 y h1))
 ·intro u sY nM y hy
  try dsimp only at hy
  rw[hP];by_cases he:u=aL t.bz x
  ·rw[if_pos he]at hy;have nT:=h.ch u sY nM;have:=(List.Nodup.mem_erase_iff nT.nodup).1 hy;rw[if_neg this.1];exact h.par u sY nM y this.2
  ·rw[if_neg he]at hy;have S5:=h.par u sY nM y hy;rw[if_neg (λe=>he (by rw[<-e];exact S5.symm))];exact S5
 ·intro y LG LH
  try dsimp only
  by_cases AS:y=x
  ·left;rw[hP,hN,if_pos AS,if_pos AS];exact⟨rfl,rfl⟩
  ·rw[hP,if_neg AS];rcases h.up y LG LH with⟨h1,h2⟩|⟨h1,h2⟩
   ·left;refine⟨h1,?_⟩;rw[hN,if_neg AS,if_neg,h2];rintro⟨-,-,h3⟩;rw[h2]at h3;omega
   ·right;refine⟨h1,?_⟩;split
    ·exact(List.mem_erase_of_ne AS).2 h2
    ·exact h2
 ·intro y LG LH;obtain⟨l,hl⟩:=h.ends y LG LH;exact hl.stop hP
def yl(t:Tree)(x to:Int):Tree where
 bz:=t.bz.set x.toNat to
 jQ:=t.jQ.set to.toNat x
 km:=t.km.set x.toNat (aL t.jQ to)
theorem iJ.put{t:Tree}{n:Nat}{ls:Int→List Int}(h:iJ t n ls){x to:Int}(hx:1≤x∧x < n)(wy:1≤to∧to < n)(h0:aL t.bz x=0){l:List Int}(hl:Ch t.bz n to l)(Ar:x∉l):
  iJ (yl t x to) n (λu=>if u=to then x::ls to else ls u):=by
 have hP:∀y,aL (yl t x to).bz y=if y=x then to else aL t.bz y:=λy=>mI (by rw[h.lp];omega) to y
 have hC:∀y,aL (yl t x to).jQ y=if y=to then x else aL t.jQ y:=λy=>mI (by rw[h.lc];omega) x y
 have hN:∀y,aL (yl t x to).km y=if y=x then aL t.jQ to else aL t.km y:=λy=>mI (by rw[h.ln];omega) _ y
 have jN:∀u:Int,1<=u->u<n->x∉ls u:=λu h1 h2 hm=>by have:=h.par u h1 h2 x hm;omega
 have ay:=hl.rH (nx':=(yl t x to).bz) (λy hy=>by rw[hP,if_neg (λe=>Ar (by rw[<-e];exact hy))]);refine⟨h.pos,by simp[yl,h.lp],by simp[yl,h.lc],by simp[yl,h.ln],?_,?_,?_,?_,?_,?_,?_⟩
 ·rw[hP,if_neg (by omega),h.p0]
 ·rw[hC,if_neg (by omega),h.c0]
 ·rw[hN,if_neg (by omega),h.n0]
 ·intro u sY nM
  try dsimp only
  rw[hC];have hk:=(h.ch u sY nM).rH (nx':=(yl t x to).km) (λy hy=>by rw[hN,if_neg (λe=>jN u sY nM (by rw[<-e];exact hy))]);by_cases he:u=to
  ·subst he;rw[if_pos rfl,if_pos rfl];refine .cons hx ?_;rw[hN,if_pos rfl];exact hk
  ·rw[if_neg he,if_neg he];exact hk
 ·intro u sY nM y hy
  try dsimp only at hy
  rw[hP];by_cases he:u=to
  ·subst he;rw[if_pos rfl]at hy;rcases ap8.1 hy with rfl|hy
   ·rw[if_pos rfl]
   ·rw[if_neg (λe=>jN u sY nM (by rw[<-e];exact hy))];exact h.par u sY nM y hy
  ·rw[if_neg he]at hy;rw[if_neg (λe=>jN u sY nM (by rw[<-e];exact hy))];exact h.par u sY nM y hy
 ·intro y LG LH
  try dsimp only
  rw[hP,hN];by_cases AS:y=x
  ·subst AS;right;rw[if_pos rfl];exact⟨wy,by rw[if_pos rfl];exact ap7⟩
  ·rw[if_neg AS,if_neg AS];rcases h.up y LG LH with h1|⟨h1,h2⟩
   ·exact .inl h1
   ·refine .inr ⟨h1,?_⟩;split
    ·rename_i e;rw[<-e];exact ap2 _ h2
    ·exact h2
 ·intro y LG LH;obtain⟨l2,nv⟩:=h.ends y LG LH;clear LG LH
  induction nv with
  | nil=>exact⟨_,.nil⟩
  | @cons c l3 hc _ ih=>
    by_cases O5:c=x
    ·exact⟨c::l,.cons hc (by rw[hP,if_pos O5];exact ay)⟩
    ·obtain⟨l4,h4⟩:=ih;exact⟨c::l4,.cons hc (by rw[hP,if_neg O5];exact h4)⟩
theorem iJ.Yu{t:Tree}{n:Nat}{ls:Int->List Int}(h:iJ t n ls){x:Int}(hx:1<=x/\x<n):Ch t.bz n x (jV t x):=by
 obtain⟨l,hl⟩:=h.ends x hx.1 hx.2;rw[jV,h.lp,hl.full];exact hl
theorem iJ.move{t:Tree}{n:Nat}{ls:Int→List Int}(h:iJ t n ls){x to:Int}(hx:1≤x∧x < n)(wy:1≤to∧to < n)(jN:x∉jV t to):
  iJ (yl (nd t x) x to) n (λu=>if u=to then x::(if to=aL t.bz x then(ls to).erase x else ls to)else if u=aL t.bz x then(ls u).erase x else ls u):=by
 have hP:∀y,aL (nd t x).bz y=if y=x then 0 else aL t.bz y:=λy=>mI (by rw[h.lp];omega) 0 y
 refine(h.leave hx).put hx wy (by rw[hP,if_pos rfl]) ((h.Yu wy).rH λy hy=>?_) jN;rw[hP,if_neg (λe=>jN (by rw[<-e];exact hy))]
def dv(w:ai)(x:Int):ai:=
 {w with
  ah:=w.ah.set x.toNat 0
  Child:=if aL w.ah x≠0/\aL w.Child (aL w.ah x)=x then w.Child.set (aL w.ah x).toNat (aL w.Next x)else w.Child
  Next:=(if aL w.ah x=0\/aL w.Child (aL w.ah x)=x then w.Next else tW w.Next x (cz w.tree (aL w.ah x))).set x.toNat 0}
structure aek(w:ai) (x:Int):Prop where
 wf:w.wf
 hC:w.Child.length=w.ah.length
 hN:w.Next.length=w.ah.length
 hx:cT w.ah.length x=true
 up:aL w.ah x=0\/cT w.ah.length (aL w.ah x)=true
theorem vd(w:ai)(x:Int):(dv w x).tree=nd w.tree x:=rfl
theorem abA(w:ai)(x:Int)(h:aek w x):aE prog 284 [.agg (w.enc.map .d),iD x] [] (λr L=>r= .ret (.agg (eC (dv w x)))/\∃b1 b2 b3 b4 Yv F4 cs3 cs4,L=(5,.box b1 34 Yv)::(gy (dv w x)++ [(4,.box b2 34 F4),(3,.box b3 3 cs3),(2,.box b4 34 cs4)])):=by
 obtain⟨hw,hC,hN,hx,AR⟩:=h;have hg:=qA hx;have oi:=jn hx;have hb:=bG.1 hx;have LD:=aei w hw;unfold gy at LD;refine aE.run func284 rfl (by simp[f284]) ?_;simp[f284];intro bs;refine eD [] LD ?_;simp[-cB,eC,hg,oi];intro Lw;refine⟨⟨by omega,by omega⟩,by omega,?_⟩;cases h0:decide (aL w.ah x=0)with
 | true=>
   have AB:=of_decide_eq_true h0;simp[-cB,AB];refine aw.bI [Q0,Q0,Q0,Q3,Q3,Q3,Q0,none,asi,none] [] bc (by kernel_rfl) ?_;simp[-cB,dv,gy,AB];omega
 | false=>
   have AB:=of_decide_eq_false h0;have hT:=AR.resolve_left AB;have Yt:cT w.Child.length (aL w.ah x)=true:=by rw[hC];exact hT
   have LI:cT w.Next.length x=true:=by rw[hN];exact hx
   have hu:=bG.1 hT;have hcg:=qA Yt;have aj2:=jn Yt;have hng:=qA LI;have agn:=jn LI;simp[-cB,AB];refine aw.cV [] bc (by kernel_rfl) (by rfl) ?_;simp[-cB,aj2];refine⟨⟨by omega,by omega⟩,by omega,?_⟩;cases h1:decide (aL w.Child (aL w.ah x)=x)with
   | true=>
     have jy:=of_decide_eq_true h1;simp[-cB];refine aw.bI [Q0,Q0,Q0,Q0,Q0,Q0,Q0,Q0,Q0,none] [] bc (by kernel_rfl) ?_;simp[-cB,agn];refine⟨⟨by omega,by omega⟩,by omega,by omega,by omega,?_⟩;refine aw.bI [Q0,Q0,Q0,Q3,Q3,Q3,Q0,none,asi,none] [] bc (by kernel_rfl) ?_;simp[-cB,dv,gy,AB,jy];omega
   | false=>
     have jy:=of_decide_eq_false h1;have hk:=Gb w (aL w.ah x);have gR:=D8 w hw hC hN (aL w.ah x);unfold qB at hk gR;simp[-cB];refine eD [] hk ?_;simp[-cB];have gA:=λy=>vI (t:=w.tree) (x:=aL w.ah x) (y:=y)
     have hP:w.tree.bz=w.ah:=rfl;rw[hP]at gA;have hlc:=yj w.Next x;have hlv:dv w x={w with ah:=w.ah.set x.toNat 0,Next:=(tW w.Next x (cz w.tree (aL w.ah x))).set x.toNat 0}:=by simp[dv,AB,jy]
     rw[hlv];generalize cz w.tree (aL w.ah x)=ks at *;refine aw.uS [5201,5202] [2,3,4,5] ks (λi=> [iD i]) (λpre=> [(73,.row 3 1 (dd (aD (tW w.Next x pre))))]) (λpre=>True) (by simpa[List.filter]using gR) rfl (by kernel_rfl) (by simp[List.filter]) (by simp[gi]) (by simp) (by rfl) (by rfl) (by simp[List.filter,tW]) (by simp[List.filter]) ?_ ?_
     ·rintro pre z post bn -;have hz:=gA z (by rw[bn];simp);have hT4:cT w.Next.length z=true:=by rw[hN];exact bG.2 hz
      have hzg:=qA hT4;have aj3:=jn hT4;have ki:=LF w.Next x pre z;simp[-cB,List.filter];refine aw.cV [] bc (by kernel_rfl) (by rfl) ?_;simp[-cB,aj3];refine⟨⟨by omega,by omega⟩,?_⟩;cases h2:decide (aL w.Next z=x)with
      | true=>
        have rQ:=of_decide_eq_true h2;simp[-cB];refine aw.bI [Q0,Q0,Q0,Q0,Q0,Q0,Q0,Q0,Q0,none] [] bc (by kernel_rfl) ?_;simp[-cB,agn,ki,rQ,hlc];omega
      | false=>
        have rQ:=of_decide_eq_false h2;simp[-cB,ki,rQ]
     ·intro _;simp[-cB,List.filter];refine aw.bI [Q0,Q0,Q0,Q3,Q3,Q3,Q0,none,asi,none] [] bc (by kernel_rfl) ?_;simp[-cB,gy,hlc];omega
structure ym(w:ai):Prop where
 wf:w.wf
 hC:w.Child.length=w.ah.length
 hN:w.Next.length=w.ah.length
 up:∀x,cT w.ah.length x=true->aL w.ah x=0\/cT w.ah.length (aL w.ah x)=true
theorem ym.ael{w:ai}(hw:w.wf){ls:Int->List Int}(h:iJ w.tree w.ah.length ls):ym w:=⟨hw,h.lc,h.ln,λx hx=>by
 rcases h.up x (bG.1 hx).1 (bG.1 hx).2 with h1|h1
 ·exact .inl h1.1
 ·exact .inr (bG.2 h1.1)⟩
def ve(w:ai)(x to:Int):ai:=
 {dv w x with
  ah:=(dv w x).ah.set x.toNat to
  Next:=(dv w x).Next.set x.toNat (aL (dv w x).Child to)
  Child:=(dv w x).Child.set to.toNat x}
theorem IV(w:ai)(x to:Int):(ve w x to).tree=yl (dv w x).tree x to:=rfl
theorem uT(w:ai)(x:Int):(dv w x).ah.length=w.ah.length:=by simp[dv]
theorem O6(w:ai)(x:Int):(dv w x).Child.length=w.Child.length:=by unfold dv;dsimp only;split<;>simp
theorem O7(w:ai)(x:Int):(dv w x).Next.length=w.Next.length:=by unfold dv;dsimp only;split<;>simp[yj]
theorem LJ(w:ai)(h:ym w)(x:Int)(hx:cT w.ah.length x=true):aE prog 284 [.agg (w.enc.map .d),iD x] [] (λr L=>r= .ret (.agg (eC (dv w x)))/\L=gy (dv w x)):=by
 refine aE.wk (abA w x ⟨h.wf,h.hC,h.hN,hx,h.up x hx⟩) ?_;rintro r L ⟨rfl,b1,b2,b3,b4,Yv,F4,cs3,cs4,rfl⟩;refine⟨_,_,_,rfl,Wk.pick [0] [76,75,74,73,72,71,70] (by simp) (by decide) ?_,?_⟩
 ·simp[eC,gy,dd]
 ·simp[gy,eC,St.pick]
def kH(w:ai)(x:Int):ai×Int:=if cT w.ah.length x then(dv w x,0)else(w,11)
theorem D9(w:ai)(h:ym w)(x:Int):Pure prog 254 [.agg (w.enc.map .d),iD x] (.bM [.agg ((kH w x).1.enc.map .d),iD (kH w x).2]):=by
 unfold kH;cases hx:cT w.ah.length x with
 | false=>
   refine rn func254 ?_;simp[-cB,f254]
   try intro(_:Nat->Nat)
   refine pC (dG w _) ?_;simp[-cB,hx]
 | true=>
   have hl:=LJ w h x hx;unfold gy at hl;refine rn func254 ?_;simp[-cB,f254]
   try intro(_:Nat->Nat)
   refine pC (dG w _) ?_;simp[-cB,hx];refine eD [] hl ?_;simp[-cB,eC];rfl
def pW(w:ai)(x to:Int):ai×Int:=
 if cT w.ah.length x&&cT w.ah.length to then if x∈jV w.tree to then(w,18)else(ve w x to,0)else(w,11)
theorem Kh(w:ai)(h:ym w)(x to:Int):Pure prog 253 [.agg (w.enc.map .d),iD x,iD to] (.bM [.agg ((pW w x to).1.enc.map .d),iD (pW w x to).2]):=by
 have hC:=h.hC;have hN:=h.hN;unfold pW;cases hx:cT w.ah.length x with
 | false=>
   refine rn func253 ?_;simp[-cB,f253]
   try intro(_:Nat->Nat)
   refine pC (dG w _) ?_;simp[-cB,hx];refine pG (dG w _) ?_;simp[-cB]
 | true=>
   cases wy:cT w.ah.length to with
   | false=>
     refine rn func253 ?_;simp[-cB,f253]
     try intro(_:Nat->Nat)
     refine pC (dG w _) ?_;simp[-cB,hx];refine pG (dG w _) ?_;simp[-cB,wy]
   | true=>
     refine rn func253 ?_;simp[-cB,f253]
     try intro(_:Nat->Nat)
     refine pC (dG w _) ?_;simp[-cB,hx];refine pG (dG w _) ?_;simp[-cB,wy];refine pC (Ys w h.wf _ _) ?_;simp[-cB];by_cases hm:x∈jV w.tree to
     ·simp[-cB,hm]
     ·have hl:=LJ w h x hx;unfold gy at hl;have hb:=bG.1 hx;have pP:=bG.1 wy;have h1:=uT w x;have h2:=O6 w x;have h3:=O7 w x;have hT:cT (dv w x).Child.length to=true:=by rw[h2,hC];exact wy
      have oi:=jn hT;simp[-cB,hm];refine eD [] hl ?_;simp[-cB,eC];intro bs;refine aw.bI [Q0,Q0,Q0,Q3,Q3,Q3,asj,asj,asj,Q0,Q0,Q0,Q0,Q0,Q0,asj,Q0,none,asi,none,asl,none] [] bc (by kernel_rfl) ?_;simp[-cB,oi,h1,h2,h3];exact⟨⟨by omega,by omega⟩,by omega,⟨by omega,by omega⟩,by omega,⟨by omega,by omega⟩,by omega,⟨by omega,by omega⟩,by omega,rfl⟩
end Go.Ab

/-
  The texts Bnum Ed Vframe Nest Bnest Bright Bfits2 Bfits3 Bfits4 Bfits5 Bright2 Df Dg Dh Di Rj Nl Bclone Bups Nx Bkids Bcopy Nest2 Bleave, one behind the other.
-/
import Derived.Test.YtmhnopomnpgcjaaGreatDoorMh3
import Derived.RecoverIn
import Derived.WalkSpells
set_option linter.unusedSimpArgs false
set_option linter.unusedVariables false
namespace Go.Ab
open Go.Proofs Go.Proofs.Tryz
def aq(n:Int):Int:=IntKind.wrap .i16 n
theorem iA(n:Int):aq n=(n+32768) % 65536-32768:=by
 unfold aq IntKind.wrap;simp[IntKind.signed,IntKind.bits]
 try omega
theorem Pure.none{f:FuncId}{args:List V}{x:V}(h:False):Pure prog f args x:=h.elim
theorem cS(n:Int): -32768<=aq n/\aq n<=32767:=by rw[iA];omega
theorem x9{n:Int}(h: -32768<=n/\n<=32767):aq n=n:=by rw[iA];omega
theorem Rs(n:Int):aq (aq n)=aq n:=x9 (cS n)
theorem wrap64{n:Int}(h:aN .i64 n):IntKind.wrap .i64 n=n:=by
 rw[aS]at h;unfold IntKind.wrap;simp[IntKind.signed,IntKind.bits]
 try omega
theorem aP(n:Int):Pure prog 68 [iD n] (iD (aq n)):=by
 have h0:=iA n;have h1:n.tmod 65536=if 0<=n then n % 65536 else -((-n) % 65536):=by
  split
  ·rename_i h;exact apa h
  ·rename_i h;have:=Int.neg_tmod (a:= -n) (b:=65536);rw[Int.neg_neg]at this;rw[this,apa (by omega)]
 refine rn func68 ?_;simp[-cB,f68];generalize n.tmod 65536=m at *;generalize hr:aq n=r at *
 repeat' (first
  | (with_reducible refine And.intro ?_ ?_)
  | ((first|(refine ax (λh=>?_) (λh=>?_)<;>(try simp at h))|refine pC Pure.none ?_|refine lC Pure.none ?_|refine pG Pure.none ?_)<;>(try simp[-cB, *]))
  | (with_reducible intro _))
 all_goals (try rw[aS])
 all_goals (split at h1<;>omega)
theorem cA(n:Int):Pure prog 67 [iD n] (iD (aq n)):=by
 have h0:aN .i64 (aq n):=by have:=cS n;rw[aS];omega
 have h1:=wrap64 h0;refine rn func67 ?_;simp[-cB,f67];exact h1
theorem ahd(n:Int):Pure prog 248 [iD n] (oD (gQ n)):=by
 have h0:aN .i64 (aq n):=by have:=cS n;rw[aS];omega
 have h1:=wrap64 h0;have h2:=iA n;refine rn func248 ?_;simp[-cB,f248];rw[show IntKind.wrap .i16 n=aq n from rfl,h1,gQ,bJ];rw[aqk];simp;omega
def zR(a b:Int):Int:=aq (aq a+aq b)
def U9(a b:Int):Int:=aq (aq a-aq b)
def mulM(a b:Int):Int:=aq (aq a *aq b)
def ry(a:Int):Int:=aq (0-aq a)
def JW(a b:Int):Int×Int:=if aq b=0 then(0,1)else(aq ((aq a).tdiv (aq b)),0)
def JX(a b:Int):Int×Int:=if aq b=0 then(0,1)else(aq ((aq a).tmod (aq b)),0)
theorem Yv{a b:Int}(ha: -32768<=a/\a<=32767)(hb: -32768<=b/\b<=32767): -1073741824<=a *b/\a *b<=1073741824:=by
 have h1:a *b<=a.natAbs *b.natAbs:=by
  have:(a *b).natAbs=a.natAbs *b.natAbs:=Int.natAbs_mul a b;omega
 have h2: -(a.natAbs *b.natAbs:Int)<=a *b:=by
  have:(a *b).natAbs=a.natAbs *b.natAbs:=Int.natAbs_mul a b;omega
 have h3:a.natAbs *b.natAbs<=32768 *32768:=aq3 (by omega) (by omega);omega
def eM(p:Int×Int):V:= .bA [iD p.1,iD p.2]
theorem zk(a b:Int):Pure prog 100 [iD a,iD b] (iD (zR a b)):=by
 have ha:=cS a;have hb:=cS b;have h:aN .i64 (aq a+aq b):=iW;refine rn func100 ?_;simp[-cB,f100]
 try intro(_:Nat->Nat)
 repeat' (first
  | (with_reducible refine And.intro ?_ ?_)
  | ((first|(refine ax (λh=>?_) (λh=>?_)<;>(try simp at h))|refine pC (aP _) ?_|refine lC (aP _) ?_|refine pG (aP _) ?_)<;>(try simp[-cB, *]))
  | (with_reducible intro _))
 rfl
theorem DB(a b:Int):Pure prog 161 [iD a,iD b] (iD (U9 a b)):=by
 have ha:=cS a;have hb:=cS b;have h:aN .i64 (aq a-aq b):=iW;refine rn func161 ?_;simp[-cB,f161]
 try intro(_:Nat->Nat)
 repeat' (first
  | (with_reducible refine And.intro ?_ ?_)
  | ((first|(refine ax (λh=>?_) (λh=>?_)<;>(try simp at h))|refine pC (aP _) ?_|refine lC (aP _) ?_|refine pG (aP _) ?_)<;>(try simp[-cB, *]))
  | (with_reducible intro _))
 rfl
theorem DC(a b:Int):Pure prog 162 [iD a,iD b] (iD (mulM a b)):=by
 have h:aN .i64 (aq a *aq b):=by have:=Yv (cS a) (cS b);rw[aS];omega
 refine rn func162 ?_;simp[-cB,f162]
 try intro(_:Nat->Nat)
 repeat' (first
  | (with_reducible refine And.intro ?_ ?_)
  | ((first|(refine ax (λh=>?_) (λh=>?_)<;>(try simp at h))|refine pC (aP _) ?_|refine lC (aP _) ?_|refine pG (aP _) ?_)<;>(try simp[-cB, *]))
  | (with_reducible intro _))
 rfl
theorem qm(a:Int):Pure prog 104 [iD a] (iD (ry a)):=by
 have h:aN .i64 (0-aq a):=by have:=cS a;rw[aS];omega
 rw[ry];generalize hx:0-aq a=x at *;refine rn func104 ?_;simp[-cB,f104]
 try intro(_:Nat->Nat)
 repeat' (first
  | (with_reducible refine And.intro ?_ ?_)
  | ((first|(refine ax (λh=>?_) (λh=>?_)<;>(try simp at h))|refine pC (aP _) ?_|refine lC (aP _) ?_|refine pG (aP _) ?_)<;>(try simp[-cB, *,hx]))
  | (with_reducible intro _))
theorem Yw(a b:Int):Pure prog 202 [iD a,iD b] (iD (zR a b)):=by
 have ha:=cS a;have hb:=cS b;have h:aN .i64 (aq a+aq b):=iW;refine rn func202 ?_;simp[-cB,f202]
 try intro(_:Nat->Nat)
 repeat' (first
  | (with_reducible refine And.intro ?_ ?_)
  | ((first|(refine ax (λh=>?_) (λh=>?_)<;>(try simp at h))|refine pC (cA _) ?_|refine lC (cA _) ?_|refine pG (cA _) ?_)<;>(try simp[-cB, *]))
  | (with_reducible intro _))
 rfl
theorem aft(a b:Int):Pure prog 203 [iD a,iD b] (iD (U9 a b)):=by
 have ha:=cS a;have hb:=cS b;have h:aN .i64 (aq a-aq b):=iW;refine rn func203 ?_;simp[-cB,f203]
 try intro(_:Nat->Nat)
 repeat' (first
  | (with_reducible refine And.intro ?_ ?_)
  | ((first|(refine ax (λh=>?_) (λh=>?_)<;>(try simp at h))|refine pC (cA _) ?_|refine lC (cA _) ?_|refine pG (cA _) ?_)<;>(try simp[-cB, *]))
  | (with_reducible intro _))
 rfl
theorem afu(a b:Int):Pure prog 204 [iD a,iD b] (iD (mulM a b)):=by
 have h:aN .i64 (aq a *aq b):=by have:=Yv (cS a) (cS b);rw[aS];omega
 refine rn func204 ?_;simp[-cB,f204]
 try intro(_:Nat->Nat)
 repeat' (first
  | (with_reducible refine And.intro ?_ ?_)
  | ((first|(refine ax (λh=>?_) (λh=>?_)<;>(try simp at h))|refine pC (cA _) ?_|refine lC (cA _) ?_|refine pG (cA _) ?_)<;>(try simp[-cB, *]))
  | (with_reducible intro _))
 rfl
theorem afv(a:Int):Pure prog 136 [iD a] (iD (ry a)):=by
 have h:aN .i64 (- aq a):=by have:=cS a;rw[aS];omega
 rw[ry,Int.zero_sub];refine rn func136 ?_;simp[-cB,f136]
 try intro(_:Nat->Nat)
 repeat' (first
  | (with_reducible refine And.intro ?_ ?_)
  | ((first|(refine ax (λh=>?_) (λh=>?_)<;>(try simp at h))|refine pC (cA _) ?_|refine lC (cA _) ?_|refine pG (cA _) ?_)<;>(try simp[-cB, *]))
  | (with_reducible intro _))
theorem SM{a b:Int}(ha: -32768<=a/\a<=32767): -32768<=a.tdiv b/\a.tdiv b<=32768:=by
 have:(a.tdiv b).natAbs<=a.natAbs:=by rw[Int.natAbs_tdiv];exact Nat.div_le_self _ _
 omega
theorem G1{a b:Int}(ha: -32768<=a/\a<=32767):IntKind.wrap .i64 (a.tdiv b)=a.tdiv b:=wrap64 (by have:=SM (b:=b) ha;rw[aS];omega)
theorem ad3{a b:Int}(ha: -32768<=a/\a<=32767): -32768<=a.tmod b/\a.tmod b<=32767:=by
 have h1:(a.tmod b).natAbs=a.natAbs % b.natAbs:=Int.natAbs_tmod a b;have h2:a.natAbs % b.natAbs<=a.natAbs:=Nat.mod_le _ _;have h3:0<=a->0<=a.tmod b:=λh=>Int.tmod_nonneg _ h
 have h4:a<0->a.tmod b<=0:=λh=>by
  have:=Int.tmod_nonneg b (a:= -a) (by omega);rw[Int.neg_tmod]at this;omega
 generalize a.natAbs % b.natAbs=q at *;omega
theorem Yx(a b:Int):Pure prog 163 [iD a,iD b] (eM (JW a b)):=by
 have h:=G1 (b:=aq b) (cS a);unfold eM JW;refine rn func163 ?_;simp[-cB,f163]
 try intro(_:Nat->Nat)
 repeat' (first
  | (with_reducible refine And.intro ?_ ?_)
  | ((first|(refine ax (λh=>?_) (λh=>?_)<;>(try simp at h))|refine pC (aP _) ?_|refine lC (aP _) ?_|refine pG (aP _) ?_)<;>(try simp[-cB, *]))
  | (with_reducible intro _))
theorem afw(a b:Int):Pure prog 205 [iD a,iD b] (eM (JW a b)):=by
 have h:=G1 (b:=aq b) (cS a);unfold eM JW;refine rn func205 ?_;simp[-cB,f205]
 try intro(_:Nat->Nat)
 repeat' (first
  | (with_reducible refine And.intro ?_ ?_)
  | ((first|(refine ax (λh=>?_) (λh=>?_)<;>(try simp at h))|refine pC (cA _) ?_|refine lC (cA _) ?_|refine pG (cA _) ?_)<;>(try simp[-cB, *]))
  | (with_reducible intro _))
theorem Yy(a b:Int):Pure prog 164 [iD a,iD b] (eM (JX a b)):=by
 have h:=G1 (b:=aq b) (cS a);have hd:=SM (b:=aq b) (cS a);unfold eM JX;refine rn func164 ?_;simp[-cB,f164]
 try intro(_:Nat->Nat)
 repeat' (first
  | (with_reducible refine And.intro ?_ ?_)
  | ((first|(refine ax (λh=>?_) (λh=>?_)<;>(try simp at h))|refine pC (aP _) ?_|refine lC (aP _) ?_|refine pG (aP _) ?_)<;>(try simp[-cB, *]))
  | (with_reducible intro _))
 all_goals (have hm:=ad3 (b:=aq b) (cS a))
 all_goals (have he:=Int.tmod_def (aq a) (aq b))
 all_goals (rw[Int.mul_comm]at he)
 all_goals (have ha:=cS a)
 ·rw[aS];omega
 ·rw[aS];omega
 ·rw[x9 hm];omega
theorem afx(a b:Int):Pure prog 206 [iD a,iD b] (eM (JX a b)):=by
 unfold eM JX;refine rn func206 ?_;simp[-cB,f206]
 try intro(_:Nat->Nat)
 repeat' (first
  | (with_reducible refine And.intro ?_ ?_)
  | ((first|(refine ax (λh=>?_) (λh=>?_)<;>(try simp at h))|refine pC (cA _) ?_|refine lC (cA _) ?_|refine pG (cA _) ?_)<;>(try simp[-cB, *]))
  | (with_reducible intro _))
end Go.Ab
namespace Go.Ab
def mj(l:Array Oper):Nat->Array Bool->List Nat->Prop
 | 0,_,L=>L=[]
 | f+1,ls,L=>(Region.ready .any l ls=[]/\L=[])\/∃i L',L=i::L'/\i∈Region.ready .any l ls/\mj l f (ls.setIfInBounds i true) L'
theorem JY l:∀f t ls,mj l f ls (Region.linearise.go .any l f t ls []):=by
 intro f
 induction f with
 | zero=>intro t ls;rfl
 | succ f ih=>
   intro t ls;change mj l (f+1) ls (match(Region.ready .any l ls)[t % (Region.ready .any l ls).length]? with
    | some i=>Region.linearise.go .any l f (t / (Region.ready .any l ls).length) (ls.setIfInBounds i true) [i]
    | none=> [].reverse)
   cases hi:(Region.ready .any l ls)[t % (Region.ready .any l ls).length]? with
   | none=>
     left;refine⟨?_,rfl⟩;cases hr:Region.ready .any l ls with
     | nil=>rfl
     | cons x xs=>
       simp_all[Nat.mod_lt]
   | some i=>
     right;grind[List.mem_of_getElem?,Region.ready,linearise_go_acc]
theorem mj.run{F n P l Q}:∀f ls L a w,wpAnyIn F n P .any l Q f ls a w->mj l f ls L->wpOpsIn F n P l Q L a w:=by
 intro f
 induction f with
 | zero=>intro ls L a w h hL;rw[show L=[]from hL];exact h.2
 | succ f ih=>
   intro ls L a w h hL;rcases hL with⟨h1,rfl⟩|⟨i,L',rfl,hi,hL'⟩
   ·exact h.1 h1
   ·exact wpOpIn_mono (λa w h2=>ih _ _ a w h2 hL') (h.2 i hi)
def oy:List Oper->Nat->Nat->List Oper
 | [],_,_=> []
 | o::l,0,i=>{o with after:=o.after.push ⟨i,.data⟩}::l
 | o::l,j+1,i=>o::oy l j i
theorem G2:∀l j i,(oy l j i).length=l.length
 | [],_,_=>rfl
 | _::_,0,_=>rfl
 | o::l,j+1,i=>by simp[oy,G2]
theorem JZ{k}:∀l j i,k≠j->(oy l j i)[k]?=l[k]?
 | [],_,_,_=>rfl
 | o::l,0,i,h=>by
   cases k with
   | zero=>omega
   | succ k=>rfl
 | o::l,j+1,i,h=>by
   cases k with
   | zero=>rfl
   | succ k=>simpa[oy]using JZ l j i (by omega)
theorem E4:∀l j i,(oy l j i)[j]?=(l[j]?).map λo=>{o with after:=o.after.push ⟨i,.data⟩}
 | [],_,_=>rfl
 | o::l,0,i=>rfl
 | o::l,j+1,i=>by simp[oy,E4]
theorem Yz{ls:Array Bool}{i}(h:ls.getD i true=false) b:i<ls.size/\ls.getD i b=false:=by
 grind
theorem uO{l j i k ls}(h:k≠j):k∈Region.ready .any (oy l j i).toArray ls↔k∈Region.ready .any l.toArray ls:=by
 simp_all[mem_ready,JZ]
theorem YA{l j i k ls}(h:k∈Region.ready .any (oy l j i).toArray ls):k∈Region.ready .any l.toArray ls:=by
 by_cases hk:k=j
 ·subst hk;rw[mem_ready]at h⊢;obtain⟨h1,o,h2,h3⟩:=h;simp[E4]at h2;grind
 simp_all[uO]
theorem OH{l j i k ls}(hi:ls.getD i false=true)(h:k∈Region.ready .any l.toArray ls):k∈Region.ready .any (oy l j i).toArray ls:=by
 by_cases hk:k=j
 ·rw[mem_ready]at h⊢;obtain⟨h1,o,h2,h3⟩:=h;refine⟨h1,{o with after:=o.after.push ⟨i,.data⟩},?_,λe he hb=>?_⟩
  ·simp_all[E4]
  grind
 simp_all[uO]
theorem Cp{l j i ls}(h:Region.ready .any l.toArray ls=[]):Region.ready .any (oy l j i).toArray ls=[]:=by
 rw[apV]at h⊢;exact λk hk=>h k (YA hk)
theorem YB{ls:Array Bool}{i k}(h:ls.getD k false=true):(ls.setIfInBounds i true).getD k false=true:=by
 by_cases hk:i=k
 ·rcases apZ i ls.size with h'|h'
  ·simp_all
  grind
 simp_all
theorem mj.add{l j i}:∀f ls L,ls.getD i false=true->mj l.toArray f ls L->mj (oy l j i).toArray f ls L:=by
 intro f
 induction f with
 | zero=>intro ls L _ h;exact h
 | succ f ih=>
   intro ls L hi h;rcases h with⟨h1,h2⟩|⟨k,L',h1,h2,h3⟩
   ·exact .inl ⟨Cp h1,h2⟩
   ·exact .inr ⟨k,L',h1,OH hi h2,ih _ _ (YB hi) h3⟩
theorem mj.split{l i j}(Ny:i≠j):∀f ls L,mj l.toArray f ls L->mj (oy l j i).toArray f ls L\/mj (oy l i j).toArray f ls L:=by
 intro f
 induction f with
 | zero=>intro ls L h;exact .inl h
 | succ f ih=>
   intro ls L h;rcases h with⟨h1,h2⟩|⟨k,L',h1,h2,h3⟩
   ·exact .inl (.inl ⟨Cp h1,h2⟩)
   ·have nd:(ls.setIfInBounds k true).getD k false=true:=by
     have:=(Yz (mem_ready.1 h2).1 false).1;simp_all
    by_cases zl:k=i
    ·subst zl;exact .inl (.inr ⟨k,L',h1,(uO Ny).2 h2,h3.add f _ _ nd⟩)
    ·by_cases hkj:k=j
     ·subst hkj;exact .inr (.inr ⟨k,L',h1,(uO (Ne.symm Ny)).2 h2,h3.add f _ _ nd⟩)
     ·rcases ih _ _ h3 with h4|h4
      ·exact .inl (.inr ⟨k,L',h1,(uO hkj).2 h2,h4⟩)
      ·exact .inr (.inr ⟨k,L',h1,(uO zl).2 h2,h4⟩)
structure Alike(q:Nat->Nat) (o o':Oper):Prop where
 dst:o'.dst=o.dst
 op:o'.op=o.op
 type:o'.type=o.type
 pos:o'.pos=o.pos
 guard:o'.guard=o.guard.map λg=>(q g.1,g.2)
theorem Alike.wpIn{q o o'}(h:Alike q o o'){F n P a w K Q}:o'.wpIn F n P a w K Q=o.wpIn F n P a w K Q:=by
 obtain⟨h1,h2,h3,h4,h5⟩:=h;obtain⟨d,p,t,s,af,g⟩:=o;subst h1;subst h2;subst h3;rfl
theorem FX{q}{l l'}(h:∀i,(l[i]?=none∧l'[q i]?=none)∨∃o o',l[i]?=some o∧l'[q i]?=some o'∧Alike q o o'){F}{n}{P}{Q}:
  ∀L a w,wpOpsIn F n P l' Q (L.map q) a w->wpOpsIn F n P l Q L a w:=by
 have hy:∀tm j,yielded l' tm (q j)=yielded l tm j:=by
  intro tm j;unfold yielded;rcases h j with⟨h1,h2⟩|⟨o,o',h1,h2,h3⟩
  ·grind
  ·rw[h1,h2];simp[ap7,h3.dst]
 intro L
 induction L with
 | nil=>intro a w h;exact h
 | cons i L ih=>
   intro a w hh;simp[ao9,wpOpsIn]at hh⊢;rcases h i with⟨h1,h2⟩|⟨o,o',h1,h2,h3⟩
   ·grind
   ·rw[h2]at hh;rw[h1];simp at hh⊢;have hw:Region.wanted o' (yielded l' a.tmps)=Region.wanted o (yielded l a.tmps):=by
     unfold Region.wanted;rw[h3.guard];grind
    rw[hw]at hh;split
    ·rename_i hc;rw[if_pos hc,h3.wpIn]at hh;grind[Oper.wpIn_mono]
    ·rename_i hc;rw[if_neg hc,h3.dst]at hh;have:o'.about P w a.eval=o.about P w a.eval:=by
      unfold Oper.about;rw[h3.op,h3.type]
     grind
def J0(q:List Nat)(o:Oper):Oper:={o with after:=o.after.map λe=>⟨q.getD e.on 0,e.ground⟩,guard:=o.guard.map λg=>(q.getD g.1 0,g.2)}
def vD(l:List Oper)(i:Nat):Oper:=l[i]?.getD default
def zm(p q:List Nat)(l:List Oper):List Oper:=p.map λi=>J0 q (vD l i)
def YC(p q:List Nat)(l:List Oper):Bool:=
 p.length==l.length&&q.length==l.length&&(List.range l.length).all λi=>decide (p.getD i 0<l.length)&&decide (q.getD i 0<l.length)&&(p.getD (q.getD i 0) 0==i)&&(q.getD (p.getD i 0) 0==i)
section
variable {P : Program} {n : Nat} {Q : AX -> St -> Prop}
def dM(P:Program)(n:Nat)(l:List Oper)(s:St)(Q:AX->St->Prop):Prop:=∀fo m a w,G fo n m s a w->∀L,mj l.toArray l.length (Array.replicate l.length false) L->wpOpsIn (wr fo.r) 0 P l.toArray (fZ fo n m w Q) L a {w with drawn:=w.drawn+1}
theorem dM.region{id l s}(hm:P.follows .mixedOrders=true)(h:dM P n l s Q):av P n (.region id l.toArray true) s Q:=by
 intro fo m a w _ g;refine wpIn_region_draw λt=>?_
 simp[Region.schedule];refine h fo m a w g _ ?_;grind[JY,Array.replicate,Region.linearise]
theorem dM.Uw{l s} i j(Ny:i≠j)(h1:dM P n (oy l j i) s Q)(h2:dM P n (oy l i j) s Q):dM P n l s Q:=by
 have key:∀j i {fo:FO} {a:Act} {w:World} {Q:Exit->Act->World->Prop} {L:List Nat},wpOpsIn (wr fo.r) 0 P (oy l j i).toArray Q L a w->wpOpsIn (wr fo.r) 0 P l.toArray Q L a w:=by
  intro j i fo a w Q L h;refine FX (q:=id) (l':=(oy l j i).toArray) (λk=>?_) L a w (by simp_all);simp only[id_eq,apK];by_cases hk:k=j
  ·subst hk;rw[E4];cases l[k]? with
   | none=>simp
   | some o=>exact .inr ⟨o,_,rfl,rfl,⟨rfl,rfl,rfl,rfl,by simp⟩⟩
  ·rw[JZ l j i hk];cases l[k]? with
   | none=>simp
   | some o=>exact .inr ⟨o,_,rfl,rfl,⟨rfl,rfl,rfl,rfl,by simp⟩⟩
 intro fo m a w g L hL;rcases mj.split Ny _ _ _ hL with hL|hL
 ·exact key j i (h1 fo m a w g L (by simp_all[G2]))
 ·exact key i j (h2 fo m a w g L (by simp_all[G2]))
theorem mj.map{l l':List Oper}{q p:Nat→Nat}(hlen:l'.length=l.length)(hl:∀i,i < l.length→q i < l.length∧p (q i)=i)(hp:∀i,i < l.length→p i < l.length∧q (p i)=i)
  (h:∀i,i<l.length->∀o,l[i]?=some o->∃o',l'[q i]?=some o'/\o'.after=o.after.map λe=>⟨q e.on,e.ground⟩) (cq:∀(i:Nat) (o:Oper),l[i]?=some o->∀e∈o.after,e.on<l.length):
  ∀f ls Az L,ls.size=l.length->Az.size=l.length->(∀i,i<l.length->Az.getD (q i) false=ls.getD i false)->mj l.toArray f ls L->mj l'.toArray f Az (L.map q):=by
 have rdy:∀(ls Az:Array Bool),ls.size=l.length->Az.size=l.length->(∀i,i<l.length->Az.getD (q i) false=ls.getD i false)->∀i,i<l.length->(q i∈Region.ready .any l'.toArray Az↔i∈Region.ready .any l.toArray ls):=by
  intro ls Az h1 h2 h3 i hi;have ho:=akC hi;obtain⟨o',iC,ha⟩:=h i hi _ ho;have DD:l'.toArray[q i]?=some o':=by grind
  have ho3:l.toArray[i]?=some l[i]:=by simp
  have hg:∀k b,k<l.length->ls.getD k b=ls.getD k false:=λk b hk=>qO (by omega)
  have YD:∀k b,k<l.length->Az.getD k b=Az.getD k false:=λk b hk=>qO (by omega)
  rw[mem_ready,mem_ready,hg i true hi,YD _ true (hl i hi).1,h3 i hi,DD,ho3];refine and_congr_right λ_=>?_
  constructor
  ·rintro⟨o2,DD,hk⟩;obtain rfl:=aoK DD;refine⟨_,rfl,λe he hb=>?_⟩;have:=hk ⟨q e.on,e.ground⟩ (by grind) hb;grind
  ·rintro⟨o2,DD,hk⟩;obtain rfl:=aoK DD;refine⟨_,rfl,λe he hb=>?_⟩;rw[ha]at he;obtain⟨e0,vp,rfl⟩:=Array.mem_map.1 he;have:=hk e0 vp hb;grind
 intro f
 induction f with
 | zero=>intro ls Az L _ _ _ hL;rw[show L=[]from hL];rfl
 | succ f ih=>
   intro ls Az L h1 h2 h3 hL;rcases hL with⟨h4,rfl⟩|⟨k,L',rfl,h5,h6⟩
   ·refine .inl ⟨?_,rfl⟩;rw[apV]at h4⊢;intro k hk;have tH:k<l.length:=by
     grind[mem_ready,Array.getElem?_eq_some_iff]
    grind
   ·have tH:k<l.length:=by
     grind[mem_ready,Array.getElem?_eq_some_iff]
    refine .inr ⟨q k,L'.map q,rfl,(rdy ls Az h1 h2 h3 k tH).2 h5,ih _ _ _ (by grind) (by grind) (λi hi=>?_) h6⟩;by_cases hik:k=i
    ·simp_all
    ·have hq:q k≠q i:=by
      grind
     simp_all
def inE(l:List Oper):Bool:=l.all λo=>(o.after.toList.all λe=>decide (e.on<l.length))&&(match o.guard with|some g=>decide (g.1<l.length)|none=>true)
theorem dM.perm{l s} p q(hp:YC p q l=true)(hi:inE l=true)(h:dM P n (zm p q l) s Q):dM P n l s Q:=by
 unfold YC at hp;simp only[aoM,beq_iff_eq,aoP,ap2,decide_eq_true_eq]at hp;obtain⟨⟨p1,p2⟩,p3⟩:=hp;have hlen:(zm p q l).length=l.length:=by simp[zm,p1]
 have dS:∀i,i<l.length->(zm p q l)[q.getD i 0]?=some (J0 q (vD l i)):=by
  grind[zm,List.getElem?_eq_getElem]
 have hao:∀(i:Nat) (o:Oper),l[i]?=some o->vD l i=o:=by simp_all[vD]
 have q0:∀i,l.length<=i->q.getD i 0=0:=by
  grind
 let qf:Nat->Nat:=λi=>if i<l.length then q.getD i 0 else i
 let pf:Nat->Nat:=λi=>if i<l.length then p.getD i 0 else i
 have hqf:∀i,i<l.length->qf i=q.getD i 0:=λi hi=>if_pos hi
 have hpf:∀i,i<l.length->pf i=p.getD i 0:=λi hi=>if_pos hi
 unfold inE at hi;simp only[aoP,aoM,decide_eq_true_eq]at hi;intro fo m a w g L hL;have iS:mj (zm p q l).toArray l.length (Array.replicate l.length false) (L.map qf):=by
  refine mj.map (p:=pf) hlen (λi hi=>?_) (λi hi=>?_) (λi cn o ho=>?_) (λi o ho e he=>?_) _ _ _ _ (by simp) (by simp) (λi hi=>?_) hL
  ·grind
  ·grind
  ·rw[hqf i cn];refine⟨_,dS i cn,?_⟩;rw[hao i o ho];simp only[J0];have hoi:=(hi o (aoO ho)).1;simp_all
  ·grind
  simp_all
 refine FX (q:=qf) (l':=(zm p q l).toArray) (λi=>?_) L a _ (h fo m a w g _ (by grind));simp only[apK];by_cases cn:i<l.length
 ·right;refine⟨l[i],J0 q l[i],akC cn,?_,⟨rfl,rfl,rfl,rfl,?_⟩⟩
  ·grind
  ·simp only[J0];have hoi:=(hi l[i] (aoV cn)).2;cases hg:l[i].guard with
   | none=>rfl
   | some g=>
     grind
 grind
theorem dM.m0{l}{s} rg us(ok:K0 n l rg=true)
  (h:runM P l.toArray (l.zip rg) (s.fr.map λe=>(e.1,0,e.2)) [] [s.L] us [] (λfr ks Ls=>Q .normal ⟨dk ks ks.length fr,Ls.getD ks.length []⟩)):dM P n l s Q:=by
 intro fo m a w g L hL;obtain⟨tr,jD,ks,Ls,h1,h2,-,h4⟩:=ET (l.zip rg) _ [] [s.L] us [] rfl h;exact mj.run _ _ _ _ _ (Be ok h1 h2 rfl h4 g _) hL
theorem av.ee{id l s}(hm:P.follows .mixedOrders=true)(h:dM P n l s (λx s'=>∀bs,Q x (s'.vB bs))):av P n (.region id l.toArray true) s Q:=
 av.opened (dM.region hm h)
theorem av.ad4{c s}(h:∀bs,av P n c (s.vB bs) Q):av P n c s Q:=λfo m a w hr g=>by
 obtain⟨bs,g2⟩:=g.vB;exact h bs fo m a w hr g2
theorem av.merge{c c2 s} s0(h1:av P n c s (λx s'=>x= .normal/\Wk n s' s0))(h2:∀bs,av P n c2 (s0.vB bs) Q):av P n (.seq c c2) s Q:=
 av.seq (av.mono h1 λx s' ⟨hx,hw⟩=>by subst hx;exact av.weaken hw (av.ad4 h2))
attribute [simp] oy J0 vD zm
end
open Go.Proofs Go.Proofs.Tryz
theorem afy(a:List Int)(n i:Nat)(hi:i<a.length)(hn:a.length<=n):((a.take i).map aq++List.replicate (n-i) 0).set i (aq a[i])=(a.take (i+1)).map aq++List.replicate (n-(i+1)) 0:=by
 have h1:((a.take i).map aq).length=i:=by simp;omega
 rw[List.set_append,if_neg (by omega),h1,Nat.sub_self,show n-i=(n-(i+1))+1 by omega,List.replicate_succ,List.set_cons_zero,api (l:=a),akC hi,apL,apb];rfl
set_option maxHeartbeats 4000000 in
set_option maxRecDepth 20000 in
theorem wB(s:al)(r:Nat)(e:Int)(n:Nat)(he:s.Entry[r]?=some e)(hn:s.Tables.aM[r]?=some (n:Int))(yW:n≤1000000)(a:List Int)(ha:a.length≤n)(base:Int):
  Pure prog 30 [.agg (s.enc.map .d),iD r,.d (.sl (aC a)),iD base] (.agg ((aG.mk r e base (a.map aq++List.replicate (n-a.length) 0)).enc.map .d)):=by
 obtain⟨nD,xY⟩:=aoL.1 he;obtain⟨qk,CI⟩:=aoL.1 hn;refine rn func30 ?_;simp[-cB,f30];intro bs;refine av.ee aT (dM.Uw 13 15 (by decide) (dM.m0 [arc,arc,arc,arc,arc,arc,arc,Q0,Q0,Q0,Q0,Q0,Q0,none,arh,none,none] [] (by kernel_rfl) ?_) (dM.perm [0,1,2,3,4,5,6,7,8,9,10,11,12,15,13,14,16] [0,1,2,3,4,5,6,7,8,9,10,11,12,14,15,13,16] (by kernel_rfl) (by kernel_rfl) (dM.m0 [arc,arc,arc,arc,arc,arc,arc,Q3,Q3,Q3,Q3,Q3,Q3,none,none,ard,none] [] (by kernel_rfl) ?_)))
 all_goals
  simp[-cB,xY,nD,CI,qk];refine⟨⟨by simp only[maxLen];omega,by omega⟩,λKU=>?_⟩;refine av.cI [8,9,27,28,29] a.length (λi=> [(29,iD i)]) (λi=> [(25,.row 3 1 (dd (aC ((a.take i).map aq++List.replicate (n-i) 0))))]) (λ_=>True) (by rfl) (by simp[dd,aC,-JU]) ?_;intro i hi _;rcases aoR hi with aw|heq
  ·have bU:aN .i64 ((i:Int)+1):=iW;have dj:(i:Int)<a.length:=by omega
   have mb:=afy a n i aw ha;have Li:((a.take i).map aq++List.replicate (n-i) 0).length=n:=by simp;omega
   have hw:=cA a[i];generalize (a.take i).map aq++List.replicate (n-i) 0=ls at *;simp[-cB,aw,dj];refine av.aU [Q0,Q0,Q0,Q0,Q0,Q0,none] [iD (aq a[i])] aT (by kernel_rfl) ?_;simp[-cB,hw.ok,Li,aw,dj,bU];exact⟨by omega,by rw[mb,List.map_take]⟩
  ·simp[-cB,heq,aG.enc]
def aH(l:List Int)(i:Int):Int:=if i<0 then 0 else l[i.toNat]?.getD 0
def bY(n:Nat)(x:Int):Bool:=decide (1<=x/\x<n)
theorem aY{n:Nat}{x:Int}:bY n x=true↔1<=x/\x<n:=by simp[bY]
theorem Lj{n:Nat}{x:Int}:bY n x=false↔¬(1<=x/\x<n):=by simp[bY]
def bH(nx:List Int)(n:Nat):Nat->Int->List Int
 | 0,_=> []
 | k+1,c=>if bY n c then c::bH nx n k (aH nx c)else []
theorem wG(nx:List Int)(n:Nat):∀k c,(bH nx n k c).length<=k
 | 0,c=>by simp[bH]
 | k+1,c=>by
   rw[bH];split
   ·have:=wG nx n k (aH nx c);simp;omega
   ·simp
theorem mG{nx:List Int}{n:Nat}:∀{k c x},x∈bH nx n k c->1<=x/\x<n
 | 0,c,x,h=>by simp[bH]at h
 | k+1,c,x,h=>by
   rw[bH]at h;split at h
   ·rename_i hc;rcases ao0.1 h with rfl|h
    ·exact aY.1 hc
    ·exact mG h
   ·simp at h
inductive Ch(nx:List Int) (n:Nat):Int->List Int->Prop
 | nil:Ch nx n 0 []
 | cons {c:Int} {l:List Int} (h:1<=c/\c<n) (t:Ch nx n (aH nx c) l):Ch nx n c (c::l)
theorem Ch.mem{nx:List Int}{n:Nat}{c:Int}{l:List Int}(h:Ch nx n c l):∀x∈l,1<=x/\x<n:=by
 induction h with
 | nil=>simp
 | cons h t ih=>
   intro x hx;rcases ao0.1 hx with rfl|hx
   ·exact h
   ·exact ih x hx
theorem Ch.uniq{nx:List Int}{n:Nat}{c:Int}{l l':List Int}(h:Ch nx n c l)(h':Ch nx n c l'):l=l':=by
 induction h generalizing l' with
 | nil=>cases h' with
   | nil=>rfl
   | cons h t=>omega
 | cons h t ih=>cases h' with
   | nil=>omega
   | cons h' t'=>rw[ih t']
theorem Ch.chain{nx:List Int}{n:Nat}{c:Int}{l:List Int}(h:Ch nx n c l):∀k,l.length<=k->bH nx n k c=l:=by
 induction h with
 | nil=>intro k _;cases k<;>simp[bH,bY]
 | cons h t ih=>
   intro k hk;simp only[aoU]at hk;obtain⟨k,rfl⟩:∃j,k=j+1:=⟨k-1,by omega⟩
   rw[bH,if_pos (aY.2 h),ih k (by omega)]
theorem Ch.nodup{nx:List Int}{n:Nat}{c:Int}{l:List Int}(h:Ch nx n c l):l.Nodup:=by
 induction h with
 | nil=>simp
 | @cons c l h t ih=>
   refine apx.2 ⟨λhm=>?_,ih⟩;obtain⟨a,b,rfl⟩:=aqB hm;have sub:∀{a:List Int} {d:Int},Ch nx n d (a++c::b)->Ch nx n c (c::b):=by
    intro a
    induction a with
    | nil=>intro d hd;cases hd with
      | cons h t=>exact .cons h t
    | cons y a iha=>intro d hd;cases hd with
      | cons h t=>exact iha t
   have h1:=sub t;have h2:=(Ch.cons h t).uniq h1;have:=congrArg List.length h2;simp at this;omega
theorem ya{n:Nat}{l:List Int}(h:l.Nodup)(hm:∀x∈l,1<=x/\x<n):l.length<n\/l=[]:=by
 have key:∀(n:Nat) (l:List Int),l.Nodup->(∀x∈l,1<=x/\x<n)->l.length<=n-1:=by
  intro n
  induction n with
  | zero=>
    intro l _ hm;cases l with
    | nil=>simp
    | cons x l=>have:=hm x aoZ;omega
  | succ n ih=>
    intro l hd hm;by_cases hn:(n:Int)∈l
    ·have h1:=ih (l.erase n) (hd.erase _) (λx hx=>by
      have h2:=hm x (List.mem_of_mem_erase hx);have h3:x≠n:=λe=>by subst e;exact(hd.not_mem_erase hx)
      omega)
     rw[aqY hn]at h1;have:=List.length_pos_of_mem hn;have h4:=hm n hn;omega
    ·have:=ih l hd (λx hx=>by
      have h2:=hm x hx;have h3:x≠n:=λe=>hn (e ▸ hx)
      omega)
     omega
 cases l with
 | nil=>exact .inr rfl
 | cons x l=>
   have:=key n _ h hm;have h2:=hm x aoZ;left;simp at this⊢;omega
theorem Ch.len{nx:List Int}{n:Nat}{c:Int}{l:List Int}(h:Ch nx n c l):l.length<=n:=by
 rcases ya h.nodup h.mem with h|h
 ·omega
 ·simp[h]
theorem Ch.full{nx:List Int}{n:Nat}{c:Int}{l:List Int}(h:Ch nx n c l):bH nx n n c=l:=h.chain n h.len
theorem Ch.rq{nx nx':List Int}{n:Nat}{c:Int}{l:List Int}(h:Ch nx n c l)(hk:∀x∈l,aH nx' x=aH nx x):Ch nx' n c l:=by
 induction h with
 | nil=>exact .nil
 | cons h t ih=>
   refine .cons h ?_;rw[hk _ aoZ];exact ih (λx hx=>hk x (aoW _ hx))
structure Tree where
 bl:List Int
 gi:List Int
 gk:List Int
structure ec(t:Tree) (n:Nat) (ls:Int->List Int):Prop where
 pos:0<n
 lp:t.bl.length=n
 lc:t.gi.length=n
 ln:t.gk.length=n
 p0:aH t.bl 0=0
 c0:aH t.gi 0=0
 n0:aH t.gk 0=0
 ch:∀x:Int,1<=x->x<n->Ch t.gk n (aH t.gi x) (ls x)
 par:∀x:Int,1<=x->x<n->∀y∈ls x,aH t.bl y=x
 up:∀x:Int,1<=x->x<n->aH t.bl x=0/\aH t.gk x=0\/(1<=aH t.bl x/\aH t.bl x<n)/\x∈ls (aH t.bl x)
 ends:∀x:Int,1<=x->x<n->∃l,Ch t.bl n x l
def br(t:Tree)(x:Int):List Int:=if bY t.bl.length x then bH t.gk t.bl.length t.bl.length (aH t.gi x)else []
def ik(t:Tree)(x:Int):List Int:=bH t.bl t.bl.length t.bl.length x
def dw(t:Tree)(x:Int):Int:=(ik t x).getLastD 0
theorem ec.kids{t:Tree}{n:Nat}{ls:Int->List Int}(h:ec t n ls){x:Int}(hx:1<=x/\x<n):br t x=ls x:=by
 rw[br,h.lp,if_pos (aY.2 hx),(h.ch x hx.1 hx.2).full]
def xb(t:Tree)(x:Int):Bool:=
 (br t x).all (λy=>decide (aH t.bl y=x)&&decide ((br t x).count y=1)) &&
  decide ((match(br t x).getLast? with|some y=>aH t.gk y|none=>aH t.gi x)=0)
theorem OI{nx:List Int}{n:Nat}(h0:aH nx 0=0):∀{k:Nat} {c:Int},(bH nx n k c).length < k∨(bH nx n k c).Nodup∧n≤k→
  (match(bH nx n k c).getLast? with|some y=>aH nx y|none=>c)=0->Ch nx n c (bH nx n k c):=by
 intro k
 induction k with
 | zero=>
   intro c hd he;simp only[bH,List.getLast?_nil]at he⊢;subst he;exact .nil
 | succ k ih=>
   intro c hd he;rw[bH]at hd he⊢;by_cases hc:bY n c=true
   ·rw[if_pos hc]at hd he⊢;have wH:(match(bH nx n k (aH nx c)).getLast? with|some y=>aH nx y|none=>aH nx c)=0:=by
     rw[aqZ]at he;cases hl:(bH nx n k (aH nx c)).getLast? with
     | none=>simpa[hl]using he
     | some y=>simpa[hl]using he
    refine .cons (aY.1 hc) ?_;cases k with
    | zero=>simp only[bH,List.getLast?_nil]at wH⊢;rw[wH];exact .nil
    | succ k=>
      refine ih ?_ wH;rcases hd with hd|⟨hd,hn⟩
      ·left;simpa using hd
      ·-- there are alX akW anO rounds
       left;have h1:=ya hd (λx hx=>by
        rcases ao0.1 hx with rfl|hx
        ·exact aY.1 hc
        ·exact mG hx)
       rcases h1 with h1|h1
       ·simp only[aoU]at h1;omega
       ·cases h1
   ·rw[if_neg hc]at hd he⊢;simp only[List.getLast?_nil]at he;subst he;exact .nil
def aj.tree(w:aj):Tree:=⟨w.ae,w.Child,w.Next⟩
def cF(nx:List Int):Nat->Int->Int
 | 0,c=>c
 | k+1,c=>cF nx k (aH nx c)
theorem fA nx:∀k c,cF nx (k+1) c=aH nx (cF nx k c)
 | 0,c=>rfl
 | k+1,c=>by rw[cF,fA nx k];rfl
theorem vE nx n:∀i k c,(∀j<i,bY n (cF nx j c)=true)->bH nx n (i+k) c=(List.range i).map (λj=>cF nx j c)++bH nx n k (cF nx i c)
 | 0,k,c,_=>by rw[apz];rfl
 | i+1,k,c,h=>by
   have h0:bY n c=true:=h 0 (by omega);rw[show i+1+k=(i+k)+1 by omega,bH,if_pos h0,vE nx n i k (aH nx c) (λj hj=>h (j+1) (by omega)),List.range_succ_eq_map];simp[cF]
def ke(nx:List Int)(i:Nat)(c:Int):List Int:=(List.range i).map (λj=>cF nx j c)
theorem zS nx i c:ke nx (i+1) c=ke nx i c++ [cF nx i c]:=by simp[ke,aql]
theorem Bl nx i c:(ke nx i c).length=i:=by simp[ke]
theorem fk{nx n i c}(h:∀j<i,bY n (cF nx j c)=true)(hs:bY n (cF nx i c)=false\/i=n)(hi:i<=n):bH nx n n c=ke nx i c:=by
 have:=vE nx n i (n-i) c h;rw[show i+(n-i)=n by omega]at this;rw[this];rcases hs with hs|hs
 ·cases hk:n-i with
  | zero=>simp[bH,ke]
  | succ k=>simp_all[bH,ke]
 simp_all[bH,ke]
theorem jt(w:aj) x:Pure prog 113 [.agg (w.enc.map .d),iD x] (oD (bY w.ae.length x)):=by
 refine Pure.run func113 rfl (by simp) ?_;simp[bY]
theorem bC(w:aj) x:Pure prog 155 [.agg (w.enc.map .d),iD x] (oD (bY w.ae.length x)):=by
 refine Pure.run func155 rfl (by simp) ?_;simp[bY]
theorem G3 l i:Pure prog 168 [.d (.sl (aC l)),iD i] (iD (aH l i)):=by
 unfold aH;refine Pure.run func168 rfl (by simp) ?_;simp[-cB]
 repeat' (first
  | (refine ax (λh=>?_) (λh=>?_)<;>(try simp at h)<;>(try simp[*]))
  )
 ·grind
 ·omega
theorem uP(w:aj)(hw:w.wf) x:Pure prog 116 [.agg (w.enc.map .d),iD x] (.d (.sl (aC (br w.tree x)))):=by
 have hl:=aj.fW hw;have e1:w.tree.bl=w.ae:=rfl;have e2:w.tree.gi=w.Child:=rfl;have e3:w.tree.gk=w.Next:=rfl;unfold br;rw[e1,e2,e3];cases hx:bY w.ae.length x with
 | false=>
   refine Pure.run func116 rfl (by simp) ?_;simp[-cB,f116]
   try intro(_:Nat->Nat)
   refine au.weaken (Wk.aa1 (t:=5) rfl) ?_
   repeat' (first
    | (with_reducible refine And.intro ?_ ?_)
    | ((first|(refine ax (λh=>?_) (λh=>?_)<;>(try simp at h))|refine pC (jt _ _) ?_|refine pC (G3 _ _) ?_)<;>(try simp[-cB, *]))
    | (with_reducible intro _))
 | true=>
   refine Pure.run func116 rfl (by simp) ?_;simp[-cB,f116]
   try intro(_:Nat->Nat)
   repeat' (first
    | (with_reducible refine And.intro ?_ ?_)
    | ((first|(refine ax (λh=>?_) (λh=>?_)<;>(try simp at h))|refine pC (jt _ _) ?_|refine pC (G3 _ _) ?_)<;>(try simp[-cB, *]))
    | (with_reducible intro _))
   generalize hc:aH w.Child x=c;refine av.weaken (Wk.GQ (t:=5) (h:=30) (k:=1) (ty:=3) rfl (by simp)) ?_;refine av.cI [2,5,6,7] w.ae.length (λi=> [(6,iD (cF w.Next i c)),(7,iD i)]) (λi=> [(30,.row 3 1 (dd (aC (ke w.Next i c))))]) (λi=>∀j<i,bY w.ae.length (cF w.Next j c)=true) (by rfl) (by simp[cF,ke,aC]) ?_;intro i hi hH;have hs:=fA w.Next i c;have hf:=zS w.Next i c;have lV:=Bl w.Next i c;rcases aoR hi with aw|rfl
   ·have a4:aN .i64 ((i:Int)+1):=by grind[aS]
    cases hT:bY w.ae.length (cF w.Next i c)with
    | false=>
      have bQ:=fk hH (.inl hT) hi;simp[-cB,aw];refine au.eL rfl (λh=>jt w _) rfl (by rfl) (by simp) (by simp) rfl ?_;simp[-cB,hT,bQ]
    | true=>
      simp[-cB,aw];refine au.eL rfl (λh=>jt w _) rfl (by rfl) (by simp) (by simp) rfl ?_;simp[-cB,hT,hs,hf,lV];refine⟨by omega,?_⟩
      repeat' (first
       | (with_reducible refine And.intro ?_ ?_)
       | (refine pC (G3 _ _) ?_<;>(try simp[-cB, *]))
       | (with_reducible intro _))
      grind
   ·have bQ:=fk hH (.inr rfl) hi;simp[-cB];refine au.eL rfl (λh=>jt w _) rfl (by rfl) (by simp) (by simp) rfl ?_;simp[-cB,bQ]
theorem nh{l:List Int}{x:Int}(h:bY l.length x=true):l[x.toNat]'(by grind[aY])=aH l x:=by
 have:=aY.1 h;rw[aH,if_neg (by omega),akC (by omega)];rfl
theorem er{l x}(h:bY l.length x=true):l[x.toNat]?.getD 0=aH l x:=by
 have:=aY.1 h;rw[aH,if_neg (by omega)]
theorem Lk{nx n i c}(h:∀j<i+1,bY n (cF nx j c)=true)(hi:i<n):cF nx i c∈bH nx n n c:=by
 have:=vE nx n (i+1) (n-(i+1)) c h;grind
theorem OJ(w:aj)(hw:w.wf) x y:Pure prog 117 [.agg (w.enc.map .d),iD x,iD y] (oD (decide (y∈ik w.tree x))):=by
 have hl:=aj.fW hw;have e1:w.tree.bl=w.ae:=rfl;unfold ik;rw[e1];refine Pure.run func117 rfl (by simp) ?_;simp[-cB,f117]
 try intro(_:Nat->Nat)
 refine av.cI [1,2,3,7] w.ae.length (λi=> [(1,iD (cF w.ae i x)),(7,iD i)]) (λ_=> []) (λi=>∀j<i,bY w.ae.length (cF w.ae j x)=true/\cF w.ae j x≠y) (by rfl) (by simp[cF]) ?_;intro i hi hH;have hs:=fA w.ae i x;have iT:y∉ke w.ae i x:=by
  intro hm;obtain⟨j,hj,he⟩:=aoQ.1 hm;grind
 rcases aoR hi with aw|rfl
 ·have a4:aN .i64 ((i:Int)+1):=by grind[aS]
  cases hT:bY w.ae.length (cF w.ae i x)with
  | false=>
    have bQ:=fk (λj hj=>(hH j hj).1) (.inl hT) hi;simp[-cB,aw];refine au.eL rfl (λh=>jt w _) rfl (by rfl) (by simp) (by simp) rfl ?_;simp[-cB,hT,bQ,iT]
  | true=>
    have hg:=nh hT;have nW:=er hT;have hb:=aY.1 hT;have mH:∀j<i+1,bY w.ae.length (cF w.ae j x)=true:=λj hj=>by
     grind
    have cq:=Lk mH aw;simp[-cB,aw];refine au.eL rfl (λh=>jt w _) rfl (by rfl) (by simp) (by simp) rfl ?_;by_cases Ll:cF w.ae i x=y
    ·rw[Ll]at cq hT;simp[-cB,hT,Ll,cq]
    ·simp[-cB,hT,hs,hg,nW,Ll,a4];grind
 ·have bQ:=fk (λj hj=>(hH j hj).1) (.inr rfl) hi;simp[-cB];refine au.eL rfl (λh=>jt w _) rfl (by rfl) (by simp) (by simp) rfl ?_;simp[-cB,bQ,iT]
theorem YE(w:aj)(hw:w.wf) x:Pure prog 118 [.agg (w.enc.map .d),iD x] (iD (dw w.tree x)):=by
 have hl:=aj.fW hw;have e1:w.tree.bl=w.ae:=rfl;unfold dw ik;rw[e1];refine Pure.run func118 rfl (by simp) ?_;simp[-cB,f118]
 try intro(_:Nat->Nat)
 refine av.cI [1,2,5,6] w.ae.length (λi=> [(1,iD (cF w.ae i x)),(5,iD ((ke w.ae i x).getLastD 0)),(6,iD i)]) (λ_=> []) (λi=>∀j<i,bY w.ae.length (cF w.ae j x)=true) (by rfl) (by simp[cF,ke]) ?_;intro i hi hH;have hs:=fA w.ae i x;have hf:=zS w.ae i x;rcases aoR hi with aw|rfl
 ·have a4:aN .i64 ((i:Int)+1):=by grind[aS]
  cases hT:bY w.ae.length (cF w.ae i x)with
  | false=>
    have bQ:=fk hH (.inl hT) hi;simp[-cB,aw];refine au.eL rfl (λh=>jt w _) rfl (by rfl) (by simp) (by simp) rfl ?_;simp[-cB,hT,bQ]
  | true=>
    have hg:=nh hT;have nW:=er hT;have hb:=aY.1 hT;simp[-cB,aw];refine au.eL rfl (λh=>jt w _) rfl (by rfl) (by simp) (by simp) rfl ?_;simp[-cB,hT,hs,hf,hg,nW,a4];grind
 ·have bQ:=fk hH (.inr rfl) hi;simp[-cB];refine au.eL rfl (λh=>jt w _) rfl (by rfl) (by simp) (by simp) rfl ?_;simp[-cB,bQ]
theorem J1(w:aj)(hw:w.wf) x y:Pure prog 156 [.agg (w.enc.map .d),iD x,iD y] (oD (decide (y∈ik w.tree x))):=by
 have hl:=aj.fW hw;have e1:w.tree.bl=w.ae:=rfl;unfold ik;rw[e1];refine Pure.run func156 rfl (by simp) ?_;simp[-cB,f156]
 try intro(_:Nat->Nat)
 refine av.cI [1,2,3,7] w.ae.length (λi=> [(1,iD (cF w.ae i x)),(7,iD i)]) (λ_=> []) (λi=>∀j<i,bY w.ae.length (cF w.ae j x)=true/\cF w.ae j x≠y) (by rfl) (by simp[cF]) ?_;intro i hi hH;have hs:=fA w.ae i x;have iT:y∉ke w.ae i x:=by
  intro hm;obtain⟨j,hj,he⟩:=aoQ.1 hm;grind
 rcases aoR hi with aw|rfl
 ·have a4:aN .i64 ((i:Int)+1):=by grind[aS]
  cases hT:bY w.ae.length (cF w.ae i x)with
  | false=>
    have bQ:=fk (λj hj=>(hH j hj).1) (.inl hT) hi;simp[-cB,aw];refine au.eL rfl (λh=>bC w _) rfl (by rfl) (by simp) (by simp) rfl ?_;simp[-cB,hT,bQ,iT]
  | true=>
    have hg:=nh hT;have nW:=er hT;have hb:=aY.1 hT;have mH:∀j<i+1,bY w.ae.length (cF w.ae j x)=true:=λj hj=>by
     grind
    have cq:=Lk mH aw;simp[-cB,aw];refine au.eL rfl (λh=>bC w _) rfl (by rfl) (by simp) (by simp) rfl ?_;by_cases Ll:cF w.ae i x=y
    ·rw[Ll]at cq hT;simp[-cB,hT,Ll,cq]
    ·simp[-cB,hT,hs,hg,nW,Ll,a4];grind
 ·have bQ:=fk (λj hj=>(hH j hj).1) (.inr rfl) hi;simp[-cB];refine au.eL rfl (λh=>bC w _) rfl (by rfl) (by simp) (by simp) rfl ?_;simp[-cB,bQ,iT]
theorem rP(w:aj)(hw:w.wf) x:Pure prog 159 [.agg (w.enc.map .d),iD x] (iD (dw w.tree x)):=by
 have hl:=aj.fW hw;have e1:w.tree.bl=w.ae:=rfl;unfold dw ik;rw[e1];refine Pure.run func159 rfl (by simp) ?_;simp[-cB,f159]
 try intro(_:Nat->Nat)
 refine av.cI [1,2,5,6] w.ae.length (λi=> [(1,iD (cF w.ae i x)),(5,iD ((ke w.ae i x).getLastD 0)),(6,iD i)]) (λ_=> []) (λi=>∀j<i,bY w.ae.length (cF w.ae j x)=true) (by rfl) (by simp[cF,ke]) ?_;intro i hi hH;have hs:=fA w.ae i x;have hf:=zS w.ae i x;rcases aoR hi with aw|rfl
 ·have a4:aN .i64 ((i:Int)+1):=by grind[aS]
  cases hT:bY w.ae.length (cF w.ae i x)with
  | false=>
    have bQ:=fk hH (.inl hT) hi;simp[-cB,aw];refine au.eL rfl (λh=>bC w _) rfl (by rfl) (by simp) (by simp) rfl ?_;simp[-cB,hT,bQ]
  | true=>
    have hg:=nh hT;have nW:=er hT;have hb:=aY.1 hT;simp[-cB,aw];refine au.eL rfl (λh=>bC w _) rfl (by rfl) (by simp) (by simp) rfl ?_;simp[-cB,hT,hs,hf,hg,nW,a4];grind
 ·have bQ:=fk hH (.inr rfl) hi;simp[-cB];refine au.eL rfl (λh=>bC w _) rfl (by rfl) (by simp) (by simp) rfl ?_;simp[-cB,bQ]
theorem oz(w:aj)(hw:w.wf) x:Pure prog 157 [.agg (w.enc.map .d),iD x] (.d (.sl (aC (br w.tree x)))):=by
 refine Pure.run func157 rfl (by simp) ?_;simp
 repeat' (first
  | (refine pC (uP w hw _) ?_<;>(try simp))
  | (with_reducible intro _))
theorem FY l(hl:l.length<=1000000000000000) x:Pure prog 115 [.d (.sl (aC l)),iD x] (iD (l.count x)):=by
 refine Pure.run func115 rfl (by simp) ?_;simp[f115];refine av.fj [0,1,5,6] l (λpre=> [(5,iD (pre.count x)),(6,iD pre.length)]) (λ_=> []) (λ_=>True) (by rfl) (by omega) (by simp) ?_ ?_
 ·rintro pre y post bx-aw bm a4;have hc:aN .i64 ((pre.count x:Int)+1):=by
   grind[List.count_le_length,aS]
  by_cases hy:y=x
  ·subst hy;simp[aw,bm,a4,hc]
  ·simp[aw,bm,a4,hy,List.count_cons]
 ·simp
theorem nX{t:Tree}{x y:Int}(h:y∈br t x):1<=y/\y<t.bl.length:=by
 unfold br at h;split at h
 ·exact mG h
 ·cases h
theorem mI(t:Tree)(x:Int):(br t x).length<=t.bl.length:=by
 unfold br;split
 ·exact wG _ _ _ _
 ·simp
theorem oA(l:List Int)(x:Int)(h:0<=x):l[x.toNat]?.getD 0=aH l x:=by rw[aH,if_neg (by omega)]
theorem oB(l:List Int)(x:Int)(h:0<=x)(h2:x.toNat<l.length):l[x.toNat]=aH l x:=by
 rw[aH,if_neg (by omega),akC h2];rfl
def jm(t:Tree)(x:Int)(L:List Int)(y:Int):Bool:=decide (aH t.bl y=x)&&decide (L.count y=1)
theorem Bm(t:Tree)(x:Int):xb t x=((br t x).all (jm t x (br t x))&&decide ((match(br t x).getLast? with|some y=>aH t.gk y|none=>aH t.gi x)=0)):=rfl
theorem OK(w:aj)(hw:w.wf)(hc:w.Child.length=w.ae.length)(hn:w.Next.length=w.ae.length)(x:Int)(hx:1≤x∧x < w.ae.length):
  Pure prog 114 [.agg (w.enc.map .d),iD x] (oD (xb w.tree x)):=by
 have hl:=aj.fW hw;have e1:w.tree.bl=w.ae:=rfl;have e2:w.tree.gi=w.Child:=rfl;have e3:w.tree.gk=w.Next:=rfl;have pD:=uP w hw x;have hk:=λy=>nX (t:=w.tree) (x:=x) (y:=y)
 have tH:=mI w.tree x;rw[e1]at tH hk;rw[Bm,e2,e3];generalize br w.tree x=L at *;have afz:=λy=>(FY L (by omega) y).ok
 have hgx:=oA w.Child x (by omega);have afA:=oB w.Child x (by omega) (by omega);refine rn func114 ?_;simp[-cB,f114]
 try intro(_:Nat->Nat)
 repeat' (first
  | (with_reducible refine And.intro ?_ ?_)
  | ((first|(refine ax (λh=>?_) (λh=>?_)<;>(try simp at h))|refine pC pD ?_|refine lC pD ?_|refine pG pD ?_)<;>(try simp[-cB, *]))
  | (with_reducible intro _))
 clear pD;refine av.fj [1,2,5,6] L (λpre=> [(6,iD pre.length)]) (λ_=> []) (λpre=>pre.all (jm w.tree x L)=true) (by rfl) (by omega) (by simp) ?_ ?_
 ·rintro pre y post bx hH aw bm a4;have hy:=hk y (by rw[bx];simp);have bV:L.all (jm w.tree x L)=(jm w.tree x L y&&post.all (jm w.tree x L)):=by
   have:(pre++y::post).all (jm w.tree x L)=(jm w.tree x L y&&post.all (jm w.tree x L)):=by
    rw[List.all_append,hH,aq8,apy]
   rw[<-bx]at this;exact this
  have hgy:=oA w.ae y (by omega);have abo:=oB w.ae y (by omega) (by omega);have ss:(pre++ [y]).all (jm w.tree x L)=jm w.tree x L y:=by rw[List.all_append,hH];simp
  have hp:jm w.tree x L y=(decide (aH w.ae y=x)&&decide (L.count y=1)):=rfl;have ahe:(!decide (aH w.ae y=x)||((L.count y:Int) !=1))=!jm w.tree x L y:=by
   rw[hp,aqk];simp;omega
  clear bx;simp[-cB,aw,bm];refine av.bT [iD (L.count y)] aT (by kernel_rfl) (by rfl) ?_;simp[-cB,aw,bm,hgy,abo,afz y];simp only[ahe];have hH':∀z∈pre,jm w.tree x L z=true:=aoP.1 hH;refine⟨by omega,?_⟩;cases hb:jm w.tree x L y with
  | false=>simp[bV,hb]
  | true=>
    simp[hb,a4];rintro z (hz|rfl)
    ·exact hH' z hz
    ·exact hb
 ·intro hH;cases hL:L.getLast? with
  | none=>
    have:L=[]:=List.getLast?_eq_none_iff.1 hL;subst this;simp[-cB,hgx,afA];omega
  | some y=>
    have bR:L≠ []:=by rintro rfl;cases hL
    have iZ:0<L.length:=apB.2 bR;have hyL:y∈L:=aqL hL;have hy:=hk y hyL;have hgy:=oA w.Next y (by omega);have abo:=oB w.Next y (by omega) (by omega);have wH:L[L.length-1]?=some y:=by rw[<-hL,List.getLast?_eq_getElem?]
    have afB:L[L.length-1]'(by omega)=y:=(aoL.1 wH).2;have ajc:((L.length:Int)-1).toNat=L.length-1:=by omega
    simp[-cB,hgx,afA,iZ];refine⟨by omega,?_⟩;refine av.bT [] aT (by kernel_rfl) (by rfl) ?_;simp[-cB,ajc,wH,afB,hgy,abo,hH];exact⟨iW,by omega,by omega,by omega⟩
def r8(t:Tree)(x:Int):Bool:=
 !(decide (aH t.bl x≠0) &&!bY t.bl.length (aH t.bl x)) &&!(decide (aH t.bl x=0) && decide (aH t.gk x≠0)) && xb t x &&
   !(decide (aH t.bl x≠0)&&decide ((br t (aH t.bl x)).count x≠1))&&!(bY t.bl.length (aH t.bl x)&&decide (x∈ik t (aH t.bl x)))
def pe(t:Tree):Bool:=
 decide (t.bl.length≠0)&&decide (t.gi.length=t.bl.length)&&decide (t.gk.length=t.bl.length)&&decide (aH t.bl 0=0)&&decide (aH t.gi 0=0)&&decide (aH t.gk 0=0) &&
  (List.range (t.bl.length-1)).all λk=>r8 t (k+1)
set_option maxRecDepth 20000 in
set_option maxHeartbeats 4000000 in
theorem OL(w:aj)(hw:w.wf):Pure prog 52 [.agg (w.enc.map .d)] (oD (pe w.tree)):=by
 have hl:=aj.fW hw;have e1:w.tree.bl=w.ae:=rfl;have e2:w.tree.gi=w.Child:=rfl;have e3:w.tree.gk=w.Next:=rfl;unfold pe;rw[e1,e2,e3];have g1:=oA w.ae 0 (by omega);have g2:=oA w.Child 0 (by omega);have g3:=oA w.Next 0 (by omega);simp at g1 g2 g3;by_cases h1:w.ae.length=0
 ·refine Pure.run func52 rfl (by simp[f52,h1]) ?_;simp[-cB,f52,h1]
 have gw:w.ae≠ []:=λh=>h1 (by simp[h])
 by_cases h2:¬w.Child.length=w.ae.length
 ·have lE:¬((w.Child.length:Int)=w.ae.length):=by omega
  refine Pure.run func52 rfl (by simp[f52,h1,gw,h2,lE]) ?_;simp[-cB,f52,h1,gw,h2,lE]
 have h2:=apT.1 h2;by_cases h3:¬w.Next.length=w.ae.length
 ·have YF:¬((w.Next.length:Int)=w.ae.length):=by omega
  refine Pure.run func52 rfl (by simp[f52,h1,gw,h2,h3,YF]) ?_;simp[-cB,f52,h1,gw,h2,h3,YF]
 have h3:=apT.1 h3;have q1:=oB w.ae 0 (by omega) (by simp;omega);have q2:=oB w.Child 0 (by omega) (by simp;omega);have q3:=oB w.Next 0 (by omega) (by simp;omega);have iZ:0<w.ae.length:=by omega
 simp at q1 q2 q3;by_cases z1:¬aH w.ae 0=0
 ·refine Pure.run func52 rfl (by simp[f52,h1,gw,h2,h3,g1,g2,g3,q1,q2,q3,iZ,z1]) ?_;simp[-cB,f52,h1,gw,h2,h3,g1,g2,g3,q1,q2,q3,iZ,z1]
 have z1:=apT.1 z1;by_cases z2:¬aH w.Child 0=0
 ·refine Pure.run func52 rfl (by simp[f52,h1,gw,h2,h3,g1,g2,g3,q1,q2,q3,iZ,z1,z2]) ?_;simp[-cB,f52,h1,gw,h2,h3,g1,g2,g3,q1,q2,q3,iZ,z1,z2]
 have z2:=apT.1 z2;by_cases z3:¬aH w.Next 0=0
 ·have z3':(aH w.Next 0 !=0)=true:=by simpa using z3
  refine Pure.run func52 rfl (by simp[f52,h1,gw,h2,h3,g1,g2,g3,q1,q2,q3,iZ,z1,z2,z3,z3']) ?_;simp[-cB,f52,h1,gw,h2,h3,g1,g2,g3,q1,q2,q3,iZ,z1,z2,z3,z3']
 have z3:=apT.1 z3;simp only[h1,h2,h3,z1,z2,z3,ne_eq,not_false_eq_true,decide_true,apy];generalize oC:((List.range (w.ae.length-1)).all λk=>r8 w.tree ((k:Int)+1))=res;refine Pure.run func52 rfl (by simp[f52,h1,gw,h2,h3,g1,g2,g3,q1,q2,q3,iZ,z1,z2,z3]) ?_;simp[-cB,f52,h1,gw,h2,h3,g1,g2,g3,q1,q2,q3,iZ,z1,z2,z3];intro bs;refine av.cI [1,3,4] (w.ae.length-1) (λi=> [(4,iD (i+1))]) (λ_=> []) (λi=>∀k<i,r8 w.tree (k+1)=true) (by rfl) (by simp) ?_;intro i hi hH;rcases aoR hi with aw|Xb
 ·have a4:aN .i64 ((i:Int)+1+1):=iW;have hx:1<=(i:Int)+1/\(i:Int)+1<w.ae.length:=by omega
  have dj:(i:Int)+1<w.ae.length:=by omega
  have Iw:=oA w.ae ((i:Int)+1) (by omega);have SN:=oA w.Next ((i:Int)+1) (by omega);have Ix:=oB w.ae ((i:Int)+1) (by omega) (by omega);have SO:=oB w.Next ((i:Int)+1) (by omega) (by omega);have pQ:((i:Int)+1).toNat=i+1:=by omega
  simp only[pQ]at Iw SN Ix SO;have Iy:r8 w.tree ((i:Int)+1)=false->res=false:=λh=>by
   rw[<-oC,List.all_eq_false];exact⟨i,ap2.2 aw,by simp[h]⟩
  have oO:r8 w.tree ((i:Int)+1)=true->∀k<i+1,r8 w.tree ((k:Int)+1)=true:=λh k hk=>by
   rcases apZ k i with h2|h2
   ·exact hH k h2
   ·rw[show k=i by omega];exact h
  have hN:r8 w.tree ((i:Int)+1)=(!(decide (aH w.ae ((i:Int)+1)≠0)&&!bY w.ae.length (aH w.ae ((i:Int)+1)))&&!(decide (aH w.ae ((i:Int)+1)=0)&&decide (aH w.Next ((i:Int)+1)≠0))&&xb w.tree ((i:Int)+1) &&
   !(decide (aH w.ae ((i:Int)+1)≠0)&&decide ((br w.tree (aH w.ae ((i:Int)+1))).count ((i:Int)+1)≠1))&&!(bY w.ae.length (aH w.ae ((i:Int)+1))&&decide (((i:Int)+1)∈ik w.tree (aH w.ae ((i:Int)+1))))):=rfl
  have nF:=OK w hw h2 h3 ((i:Int)+1) hx;have Kz:=λp=>uP w hw p
  have tH:=λp=>mI w.tree p
  rw[e1]at tH;have v7:=λp=>FY (br w.tree p) (by have:=tH p;omega) ((i:Int)+1)
  have SP:=λp=>jt w p
  have hcw:=λp=>OJ w hw p ((i:Int)+1)
  simp[-cB,dj,Iw,SN,Ix,SO,h2,h3];generalize aH w.ae ((i:Int)+1)=p at *;generalize aH w.Next ((i:Int)+1)=nx at *;have OM:=Kz p;have Va:=v7 p;have ON:=SP p;have OP:=hcw p;generalize xb w.tree ((i:Int)+1)=lb at *;generalize br w.tree p=kd at *;generalize bY w.ae.length p=ip at *;generalize decide (((i:Int)+1)∈ik w.tree p)=up at *;generalize r8 w.tree ((i:Int)+1)=nb at *;clear oC Kz tH v7 SP hcw gw g1 g2 g3 q1 q2 q3 z1 z2 z3;by_cases mx:p=0<;>by_cases sH:nx=0
  all_goals refine⟨by omega,?_⟩
  all_goals try simp[-cB,mx,sH]
  all_goals try rw[mx]at ON
  all_goals try rw[mx]at OP
  all_goals try rw[mx]at OM
  all_goals try rw[mx]at Iw Ix
  all_goals try rw[sH]at SN SO
  all_goals
   repeat' (first
    | (with_reducible refine And.intro ?_ ?_)
    | (refine ax (λh=>?_) (λh=>?_)<;>(try simp at h)<;>(try simp[-cB,h,mx,sH,a4,aw,Iw,SN,Ix,SO,h2,h3]))
    | ((first|refine pC ON ?_|refine pC nF ?_|refine pC OM ?_|refine pC Va ?_|refine pC OP ?_|refine lC ON ?_|refine lC nF ?_|refine lC OM ?_|refine lC Va ?_|refine lC OP ?_|refine pG ON ?_|refine pG nF ?_|refine pG OM ?_|refine pG Va ?_|refine pG OP ?_)<;>(try simp[-cB,mx,sH,a4,aw,Iw,SN,Ix,SO,h2,h3]))
    | (with_reducible intro _))
   all_goals clear ON nF OM Va OP Iw SN Ix SO
   all_goals first|assumption|omega|(refine Iy ?_;rw[hN];clear hN Iy oO hH;cases ip<;>cases lb<;>cases up<;>simp_all<;>omega)|(refine oO ?_ _ (by assumption);rw[hN];clear hN Iy oO hH;cases ip<;>cases lb<;>cases up<;>simp_all<;>omega)|skip
 ·subst Xb;have bV:∀k,k<w.ae.length-1->r8 w.tree ((k:Int)+1)=true:=hH;have CM:¬(((w.ae.length-1:Nat):Int)+1<w.ae.length):=by omega
  have hr:res=true:=by rw[<-oC,aoP];exact λk hk=>bV k (ap2.1 hk)
  simp[-cB,CM,hr]
def E5:Option gY->gY->Bool
 | none,_=>true
 | some p,w=>decide (p.Ay<w.Ay)
def wI(t:ar)(n:Int):Bool:=(t.az[n.toNat]?.getD bg.zero).Room
def Vb(t:ar)(prev:Option gY)(w:gY):Bool:=
 bJ w.Ay 1 12&&E5 prev w&&gW t w.To&&wI t w.To&&ox t w.jf true&&pP t w.bX true
def mJ(t:ar):Option gY->List gY->Bool
 | _,[]=>true
 | p,w::l=>Vb t p w&&mJ t (some w) l
def MN(t:ar)(l:List gY):Bool:=mJ t none l
theorem Lm(t:ar)(l r:List gY)(p:Option gY):mJ t p (l++r)=(mJ t p l&&mJ t (l.getLast?.or p) r):=by
 induction l generalizing p with
 | nil=>simp[mJ]
 | cons w l ih=>
   rw[aoX,mJ,mJ,ih,aq2];cases hl:l.getLast? with
   | none=>have:l=[]:=by simpa using hl
           subst this;simp
   | some q=>simp[aqZ,hl]
set_option maxRecDepth 20000 in
theorem Bn(t:ar)(ht:t.wf)(l:List gY)(hl:l.length<=1000000000000000)(hw:∀x∈l,x.wf):Pure prog 174 [.agg (t.enc.map .d),.d (.sl (l.map gY.enc))] (oD (MN t l)):=by
 have hlen:t.az.length<=2000000000000:=by have:=ht;simp[ar.wf]at this;omega
 unfold MN;refine rn func174 ?_;simp[f174]
 try intro(_:Nat->Nat)
 refine av.fj [1,2,5] l (λpre=> [(5,iD pre.length)]) (λ_=> []) (λpre=>mJ t none pre=true) (by rfl) (by omega) (by simp[mJ]) ?_ ?_
 ·rintro pre x post bx hH aw bm a4;have bV:mJ t none l=(Vb t pre.getLast? x&&mJ t (some x) post):=by
   rw[bx,Lm,hH,mJ];simp
  have dH:mJ t none (pre++ [x])=Vb t pre.getLast? x:=by rw[Lm,hH,mJ,mJ];simp
  have hx:=hw x (by rw[bx];simp);have Iz:∀i:Nat,i+1=pre.length->l[i]?=pre.getLast?:=by
   intro i hi;rw[bx,apq (by omega),List.getLast?_eq_getElem?];congr 1;omega
  have hT:gW t x.To=true->(1<=x.To/\x.To.toNat<t.az.length):=by
   intro h;unfold gW at h;rw[zi]at h;omega
  have Cq:Vb t pre.getLast? x=(bJ x.Ay 1 12&&E5 pre.getLast? x&&gW t x.To&&wI t x.To&&ox t x.jf true&&pP t x.bX true):=rfl;rw[Cq]at bV dH;clear hw bx;simp[-cB, *,-Iz,-hT,-bV,-dH];refine av.bT [oD (bJ x.Ay 1 12),oD (gW t x.To),oD (ox t x.jf true),oD (pP t x.bX true)] aT (by kernel_rfl) (by rfl) ?_;simp[-cB, *,-Iz,-hT,(bz _ _ _).ok,(jP t ht _).ok,(oS t ht _ _).ok,(mF t ht _ _).ok];have hP:(0<pre.length->(l[pre.length-1]?.getD gY.zero).Ay<x.Ay)↔E5 pre.getLast? x=true:=by
   cases hg:pre.getLast? with
   | none=>have:pre=[]:=by simpa using hg
           subst this;simp[E5]
   | some p=>
     have bR:0<pre.length:=by
      cases pre with
      | nil=>simp at hg
      | cons _ _=>simp
     rw[Iz (pre.length-1) (by omega),hg];simp[bR,E5]
  have hR:(t.az[x.To.toNat]?.getD bg.zero).Room=wI t x.To:=rfl;have CM:pre=[]↔¬0<pre.length:=by cases pre<;>simp
  rw[hR,CM];generalize bJ x.Ay 1 12=b1 at *;generalize gW t x.To=b2 at *;generalize ox t x.jf true=b3 at *;generalize pP t x.bX true=b4 at *;generalize mJ t (some x) post=b5 at *;generalize wI t x.To=b6 at *;generalize E5 pre.getLast? x=b7 at *;generalize (l[pre.length-1]?.getD gY.zero).Ay=d at *;have hi:0<pre.length->aN IntKind.i64 ((pre.length:Int)-1):=λh=>iW
  rcases Nat.eq_zero_or_pos pre.length with hz|hz
  ·have hb7:b7=true:=hP.1 (λh=>by omega);clear hP Iz CM;cases b1<;>simp[hz,dH,bV,hb7,a4]
   cases b2<;>simp
   obtain⟨k1,k2⟩:=hT rfl;cases b6<;>simp[k2,show 0<=x.To by omega]
   cases b3<;>simp
   cases b4<;>simp[a4,dH,bV,hb7]
   rw[aS];omega
  ·have hP':d<x.Ay↔b7=true:=⟨λh=>hP.1 (λ_=>h),λh=>hP.2 h hz⟩
   have cn:=hi hz;clear hP Iz CM hi;have hle:1<=(pre.length:Int)/\pre.length-1<l.length:=by omega
   cases b1<;>simp[hz,dH,bV,a4,cn,hle,hP']
   cases b7<;>simp
   cases b2<;>simp
   obtain⟨k1,k2⟩:=hT rfl;cases b6<;>simp[k2,show 0<=x.To by omega]
   cases b3<;>simp
   cases b4<;>simp[a4,dH,bV]
   intro h;have:=hP'.2 rfl;omega
 ·intro hH;simp[*]
def bu(t:ar)(n:Int):bg:=t.az[n.toNat]?.getD bg.zero
def G4(t:ar):Prop:=∀x∈t.az,0<=x.ae/\x.ae<t.az.length
def Bo(t:ar):Nat->Int->Bool
 | 0,_=>false
 | k+1,x=>if x=0 then true else Bo t k (bu t x).ae
def Bp(t:ar)(x:Int):Bool:=Bo t t.az.length x
theorem u9{t:ar}{n:Int}(h:0<=n/\n<t.az.length):t.az[n.toNat]?=some (bu t n):=by
 unfold bu;rw[akC (by omega)];simp
theorem tI{t:ar}{n:Int}(h:0<=n/\n<t.az.length):t.az[n.toNat]'(by omega)=bu t n:=by
 have:=u9 h
 rwa[akC (by omega),anc]at this
theorem Rt{t:ar}{n:Int}(h:0<=n/\n<t.az.length):bu t n∈t.az:=aoO (u9 h)
def nY(t:ar):Nat->Int->Int
 | 0,x=>x
 | k+1,x=>nY t k (bu t x).ae
theorem OQ(t:ar)(k:Nat)(x:Int):nY t (k+1) x=(bu t (nY t k x)).ae:=by
 induction k generalizing x with
 | zero=>rfl
 | succ k ih=>rw[nY,ih];rfl
theorem afC{t:ar}(hp:G4 t)(k:Nat)(x:Int)(hx:0<=x/\x<t.az.length):0<=nY t k x/\nY t k x<t.az.length:=by
 induction k generalizing x with
 | zero=>exact hx
 | succ k ih=>exact ih _ (hp _ (Rt hx))
theorem OR(t:ar):∀(i k:Nat) (x:Int),(∀j<i,nY t j x≠0)->Bo t (i+k) x=Bo t k (nY t i x)
 | 0,k,x,_=>by rw[apz];rfl
 | i+1,k,x,h=>by
   rw[show i+1+k=(i+k)+1 by omega,Bo,if_neg (show x≠0 from h 0 (by omega)),nY,<-OR t i k];exact λj hj=>h (j+1) (by omega)
theorem Vc(t:ar)(ht:t.wf)(hp:G4 t)(x:Int)(hx:0<=x/\x<t.az.length):Pure prog 175 [.agg (t.enc.map .d),iD x] (oD (Bp t x)):=by
 have hlen:t.az.length<=2000000000000:=by have:=ht;simp[ar.wf]at this;omega
 refine rn func175 ?_;simp[f175]
 try intro(_:Nat->Nat)
 refine av.cI [1,2,5] t.az.length (λi=> [(1,iD (nY t i x)),(5,iD i)]) (λ_=> []) (λi=>∀j<i,nY t j x≠0) (by rfl) (by simp[nY]) ?_;intro i hi hH;have hu:=afC hp i x hx;have hs:=OQ t i x;have he:=OR t i (t.az.length-i) x hH;rw[show i+(t.az.length-i)=t.az.length by omega]at he;have jS:=tI hu;have hs':=hs.symm;rcases aoR hi with aw|rfl
 ·have a4:aN .i64 ((i:Int)+1):=iW;unfold Bp;rw[show t.az.length-i=(t.az.length-(i+1))+1 by omega,Bo,<-hs]at he;clear hs;simp[-cB, *]
  repeat' (first
   | (with_reducible refine And.intro ?_ ?_)
   | ((first|(refine ax (λh=>?_) (λh=>?_)<;>(try simp at h))|refine pC (js _) ?_|refine lC (js _) ?_|refine pG (js _) ?_)<;>(try simp[-cB, *]))
   | (with_reducible intro _))
  all_goals (first|assumption|omega|(rw[aS];omega)|(simp_all;done)|grind|skip)
 ·rw[Nat.sub_self]at he;unfold Bp;simp[he,Bo]
def Bq(t:ar):Nat->Int->Bool
 | 0,_=>false
 | k+1,x=>if gW t x then(if wI t x then true else Bq t k (bu t x).ae)else false
def J3(t:ar)(x:Int):Bool:=Bq t t.az.length x
theorem OS(t:ar):∀(i k:Nat) (x:Int),(∀j<i,gW t (nY t j x)=true/\wI t (nY t j x)=false)->Bq t (i+k) x=Bq t k (nY t i x)
 | 0,k,x,_=>by rw[apz];rfl
 | i+1,k,x,h=>by
   have h0:gW t x=true/\wI t x=false:=h 0 (by omega);rw[show i+1+k=(i+k)+1 by omega,Bq,if_pos h0.1,h0.2,if_neg (by simp),nY,<-OS t i k];exact λj hj=>h (j+1) (by omega)
theorem Br(t:ar)(ht:t.wf)(x:Int):Pure prog 176 [.agg (t.enc.map .d),iD x] (oD (J3 t x)):=by
 have hlen:t.az.length<=2000000000000:=by have:=ht;simp[ar.wf]at this;omega
 refine rn func176 ?_;simp[f176]
 try intro(_:Nat->Nat)
 refine av.cI [1,2,5] t.az.length (λi=> [(1,iD (nY t i x)),(5,iD i)]) (λ_=> []) (λi=>∀j<i,gW t (nY t j x)=true/\wI t (nY t j x)=false) (by rfl) (by simp[nY]) ?_;intro i hi hH;have hs':=(OQ t i x).symm;have he:=OS t i (t.az.length-i) x hH;rw[show i+(t.az.length-i)=t.az.length by omega]at he;unfold J3;have hT:gW t (nY t i x)=true->0<=nY t i x/\nY t i x<t.az.length:=by
  unfold gW;rw[zi];omega
 have hR:(bu t (nY t i x)).Room=wI t (nY t i x):=rfl;rcases aoR hi with aw|rfl
 ·have a4:aN .i64 ((i:Int)+1):=iW;rw[show t.az.length-i=(t.az.length-(i+1))+1 by omega,Bq,hs']at he;simp[-cB, *,-hT];refine pG (jP t ht _) ?_;generalize hb:gW t (nY t i x)=b at *;cases b with
  | false=>
    simp[-cB,he]
  | true=>
    have hu:=hT rfl;have jS:=tI hu;simp[-cB, *]
    repeat' (first
     | (with_reducible refine And.intro ?_ ?_)
     | ((first|(refine ax (λh=>?_) (λh=>?_)<;>(try simp at h))|refine pC (js _) ?_|refine lC (js _) ?_|refine pG (js _) ?_)<;>(try simp[-cB, *]))
     | (with_reducible intro _))
    all_goals (first|assumption|omega|(rw[aS];omega)|(simp_all;done)|grind|skip)
 ·rw[Nat.sub_self]at he;simp[-cB,he,Bq];refine pG (jP t ht _) ?_;simp
def xc(t:ar)(x:bg):Bool:=
 pP t x.la false&&pP t x.Text true&&bJ x.Flags 0 (kZ t.Flags-1)&&decide (x.aJ.length=t.aJ.length)&&cC gQ x.aJ&&rO x.Words 8&&rO x.uK 8 &&
 (decide (x.ae=0)||gW t x.ae)&&(!x.Room||decide (x.ae=0))&&(x.Room||decide (x.mh.length=0))&&MN t x.mh
def E6(t:ar):Bool:=
 bJ t.az.length 3 128&&sr t (bu t 0)&&!(bu t 1).Room&&cC (xc t) (t.az.drop 1)&&cC (λ(i:Nat)=>Bp t ((i:Int)+1)) (List.range (t.az.length-1))&&J3 t 1
theorem AZ(n:Int):1<=kZ n/\kZ n<=65536:=by
 unfold kZ;generalize hm:min n.toNat 16=i;have lg:i<=16:=by omega
 have e:(2:Int)^i=((2^i:Nat):Int):=by simp
 have:=apG (n:=2) (by decide) lg;have:=Nat.pow_pos (a:=2) (n:=i) (by decide);rw[e];omega
set_option maxRecDepth 20000 in
theorem yb(t:ar)(ht:t.wf):Pure prog 120 [.agg (t.enc.map .d)] (oD (E6 t)):=by
 have hlen:t.az.length<=2000000000000:=by have:=ht;simp[ar.wf]at this;omega
 have uq:=ar.K6 ht;unfold E6;refine rn func120 ?_;simp[f120]
 try intro(_:Nat->Nat)
 refine av.bT [oD (bJ t.az.length 3 128),oD (sr t (bu t 0))] aT (by kernel_rfl) (by rfl) ?_;have h0:bu t 0=t.az[0]?.getD bg.zero:=rfl;have hz:(bu t 0).wf:=by
  rw[h0];cases h:t.az[0]? with
  | none=>simp[bg.wf,bg.zero,aS]
  | some x=>exact uq x (aoO h)
 simp[-cB,(bz _ _ _).ok,<-h0,(Mw t ht _ hz).ok];have hN:bJ t.az.length 3 128=true->3<=t.az.length/\t.az.length<=128:=by rw[zi];omega
 generalize bJ t.az.length 3 128=p1 at *;cases p1<;>simp[-cB,hN]
 obtain⟨hN1,YG⟩:=hN rfl;clear hN;have hR1:sr t (bu t 0)=true->(bu t 0).ae=0:=by
  intro h;simp[sr]at h;exact h.1.1.1.1.1.2
 generalize sr t (bu t 0)=p2 at *;cases p2<;>simp[-cB,show 0<t.az.length by omega,show 1<t.az.length by omega]
 have h1:bu t 1=t.az[1]?.getD bg.zero:=rfl;have gw:t.az[1]'(by omega)=bu t 1:=by rw[h1,akC (by omega)];simp
 rw[gw];generalize (bu t 1).Room=p3 at *;cases p3<;>simp[-cB]
 generalize hl:t.az.tail=l at *;have Li:l.length+1=t.az.length:=by rw[<-hl];simp;omega
 have hlg:∀(k:Nat) (h:k<l.length),t.az[k+1]'(by omega)=l[k]:=by intro k h;subst hl;simp
 refine av.fj [1,3] l (λpre=> [(3,iD ((pre.length:Int)+1))]) (λ_=> []) (λpre=>cC (xc t) pre=true) (by rfl) (by omega) (by simp[gZ]) ?_ ?_
 ·rintro pre x post bx hH aw bm a4;have bV:=eV bx hH;have dH:cC (xc t) (pre++ [x])=xc t x:=by simp[fX,hH]
  have J4:=hlg _ aw;rw[bm]at J4;have uw:x.wf:=uq x (by rw[<-J4];exact aoV _);have c1:(pre.length:Int)+1<t.az.length:=by omega
  have c2:pre.length+1<t.az.length:=by omega
  have tG:=AZ t.Flags;have aO:xc t x=(pP t x.la false&&pP t x.Text true&&bJ x.Flags 0 (kZ t.Flags-1)&&decide (x.aJ.length=t.aJ.length)&&cC gQ x.aJ&&rO x.Words 8&&rO x.uK 8 &&
   (decide (x.ae=0)||gW t x.ae)&&(!x.Room||decide (x.ae=0))&&(x.Room||decide (x.mh.length=0))&&MN t x.mh):=rfl
  clear uq bx hlg bm hN1 YG h0 h1 gw hz;have c0:0<=(pre.length:Int)+1:=by omega
  simp[-cB,c0,c1,c2,J4,bV]
  try intro(_:Nat->Nat)
  refine av.bT [oD (pP t x.la false),oD (pP t x.Text true),iD (kZ t.Flags),oD (bJ x.Flags 0 (kZ t.Flags-1)),oD (cC gQ x.aJ),oD (rO x.Words 8),oD (rO x.uK 8)] aT (by kernel_rfl) (by rfl) ?_;simp[-cB,(mF t ht _ _).ok,(Iu _).ok,(bz _ _ _).ok,(jg x.aJ (by have:=bg.ou uw;omega)).ok,(zQ x.Words (by have:=bg.GR uw;omega) (λy hy=>by have:=bg.GS uw y hy;omega) _).ok,(zQ x.uK (by have:=bg.adP uw;omega) (λy hy=>by have:=bg.adQ uw y hy;omega) _).ok];refine⟨λh h'=>⟨iW,h,h'⟩,?_⟩;refine ax (λh=>?_) (λh=>?_)
  ·simp[-cB];simp at h
   all_goals (first|assumption|omega|(rw[aS];omega)|(simp_all;done)|grind|skip)
  ·simp[-cB];simp at h
   repeat' (first
    | (with_reducible refine And.intro ?_ ?_)
    | ((first|(refine ax (λh=>?_) (λh=>?_)<;>(try simp at h))|refine pC (jP t ht _) ?_|refine au.bB rfl (Bn t ht x.mh (by have:=bg.EW uw;omega) (bg.JR uw)) rfl rfl (by simp) rfl ?_|refine lC (jP t ht _) ?_|refine au.Il rfl (Bn t ht x.mh (by have:=bg.EW uw;omega) (bg.JR uw)) rfl (by simp) rfl rfl (by simp) rfl ?_|refine pG (jP t ht _) ?_|refine au.eL rfl (λh=>Bn t ht x.mh (by have:=bg.EW uw;omega) (bg.JR uw)) rfl (by first|rfl|(simp;rfl)) (by simp) (by simp) rfl ?_)<;>(try simp[-cB, *]))
    | (with_reducible intro _))
   all_goals (first|assumption|omega|(rw[aS];omega)|(simp_all;done)|grind|skip)
 ·intro hH;have oh:G4 t:=by
   intro x hx;obtain⟨k,hk,rfl⟩:=aqe hx;cases k with
   | zero=>
     have:=hR1 rfl;rw[h0,akC hk]at this;simp only[apA]at this;rw[this];omega
   | succ k=>
     rw[hlg k (by omega)];have:=abm.1 hH l[k] (aoV _);simp[xc,gW,bJ]at this;omega
  clear uq h0 hz hR1 h1 gw hlg;have c9:¬((l.length:Int)+1<t.az.length):=by omega
  simp[-cB,c9,hH];refine av.fj [1,5] (List.range (t.az.length-1)) (λpre=> [(5,iD ((pre.length:Int)+1))]) (λ_=> []) (λpre=>cC (λ(i:Nat)=>Bp t ((i:Int)+1)) pre=true) (by rfl) (by simp;omega) (by simp[gZ]) ?_ ?_
  ·rintro pre x post bx mH aw bm a4;have bV:=eV bx mH;have hx:pre.length=x:=by simpa using bm
   have dH:cC (λ(i:Nat)=>Bp t ((i:Int)+1)) (pre++ [x])=Bp t ((x:Int)+1):=by simp[fX,mH]
   simp at aw;subst hx;have c1:(pre.length:Int)+1<t.az.length:=by omega
   have hE:=Vc t ht oh ((pre.length:Int)+1) (by omega);clear bx bm;simp[-cB,c1,bV]
   repeat' (first
    | (with_reducible refine And.intro ?_ ?_)
    | ((first|(refine ax (λh=>?_) (λh=>?_)<;>(try simp at h))|refine pC hE ?_|refine lC hE ?_|refine pG hE ?_)<;>(try simp[-cB, *]))
    | (with_reducible intro _))
   all_goals (first|assumption|omega|(rw[aS];omega)|(simp_all;done)|grind|skip)
  ·intro mH;have c1:¬(((t.az.length-1:Nat):Int)+1<t.az.length):=by omega
   simp[-cB,c1,mH]
   repeat' (first
    | (with_reducible refine And.intro ?_ ?_)
    | ((first|(refine ax (λh=>?_) (λh=>?_)<;>(try simp at h))|refine pC (Br t ht 1) ?_|refine lC (Br t ht 1) ?_|refine pG (Br t ht 1) ?_)<;>(try simp[-cB, *]))
    | (with_reducible intro _))
def yc(t:ar)(i:Nat):Bool:=bJ (t.Params[i]?.getD 0) 0 8&&bJ (t.aM[i]?.getD 0) (t.Params[i]?.getD 0) 24
def IA(t:ar):Bool:=
 decide (t.gy.length<=4096)&&pP t t.la false&&pP t t.By false&&bJ t.qQ 0 32767&&bJ t.Max 0 32767&&bJ t.Flags 4 16 &&
 (decide (t.aJ.length<=16)&&decide (t.aQ.length<=64)&&cC gQ t.aJ&&cC gQ t.aQ&&decide (t.Params.length=t.aM.length)&&decide (t.Params.length<=2048)) &&
 cC uN t.gy&&cC (yc t) (List.range t.Params.length)
set_option maxRecDepth 20000 in
theorem Bs(t:ar)(ht:t.wf):Pure prog 119 [.agg (t.enc.map .d)] (oD (IA t)):=by
 have iQ:=ar.Ot ht;have Cn:=ar.ou ht;have rh:=ar.ow ht;have YH:=ar.zf ht;have Cr:=ar.Yq ht;have IB:=ar.aa6 ht;unfold IA;refine rn func119 ?_;simp[-cB,f119]
 repeat' (first
  | (with_reducible refine And.intro ?_ ?_)
  | ((first|(refine ax (λh=>?_) (λh=>?_)<;>(try simp at h))|refine pC (mF t ht _ _) ?_|refine pC (bz _ _ _) ?_|refine au.bB rfl (jg t.aJ (by omega)) rfl rfl (by simp) rfl ?_|refine au.bB rfl (jg t.aQ (by omega)) rfl rfl (by simp) rfl ?_|refine lC (mF t ht _ _) ?_|refine lC (bz _ _ _) ?_|refine au.Il rfl (jg t.aJ (by omega)) rfl (by simp) rfl rfl (by simp) rfl ?_|refine au.Il rfl (jg t.aQ (by omega)) rfl (by simp) rfl rfl (by simp) rfl ?_|refine pG (mF t ht _ _) ?_|refine pG (bz _ _ _) ?_|refine au.eL rfl (λh=>jg t.aJ (by omega)) rfl (by first|rfl|(simp;rfl)) (by simp) (by simp) rfl ?_|refine au.eL rfl (λh=>jg t.aQ (by omega)) rfl (by first|rfl|(simp;rfl)) (by simp) (by simp) rfl ?_)<;>(try simp[-cB, *]))
  | (with_reducible intro _))
 all_goals (first|assumption|omega|(rw[aS];omega)|(simp_all;done)|grind|skip)
 have e1:t.gy.length<=4096:=by omega
 have e2:t.aJ.length<=16:=by omega
 have e3:t.aQ.length<=64:=by omega
 have e4:t.Params.length=t.aM.length:=by omega
 have e5:t.Params.length<=2048:=by omega
 refine av.fj [1,3] t.gy (λpre=> [(3,iD pre.length)]) (λ_=> []) (λpre=>cC uN pre=true) (by rfl) (by omega) (by simp[gZ]) ?_ ?_
 ·rintro pre x post bx hH aw bm a4;have bV:=eV bx hH;have dH:cC uN (pre++ [x])=uN x:=by simp[fX,hH]
  have hT:=OE x (by have:=IB x (by rw[bx];simp);omega);clear bx IB;simp[-cB,aw,bm,bV,a4]
  repeat' (first
   | (with_reducible refine And.intro ?_ ?_)
   | ((first|(refine ax (λh=>?_) (λh=>?_)<;>(try simp at h))|refine pC hT ?_|refine lC hT ?_|refine pG hT ?_)<;>(try simp[-cB, *]))
   | (with_reducible intro _))
  all_goals (first|assumption|omega|(rw[aS];omega)|(simp_all;done)|grind|skip)
 ·intro hH;simp[-cB,hH];refine av.fj [1,4] (List.range t.Params.length) (λpre=> [(4,iD pre.length)]) (λ_=> []) (λpre=>cC (yc t) pre=true) (by rfl) (by simp;omega) (by simp[gZ]) ?_ ?_
  ·rintro pre x post bx mH aw bm a4;have bV:=eV bx mH;have hx:pre.length=x:=by simpa using bm
   simp at aw;subst hx;have dH:cC (yc t) (pre++ [pre.length])=yc t pre.length:=by rw[fX,mH];simp
   have nP:pre.length<t.aM.length:=by omega
   have hpx:yc t pre.length=(bJ t.Params[pre.length] 0 8&&bJ t.aM[pre.length] t.Params[pre.length] 24):=by simp[yc,aw,nP]
   clear bx bm;simp[-cB,aw,nP,bV];refine av.bT [oD (bJ (t.Params[pre.length]?.getD 0) 0 8),oD (bJ (t.aM[pre.length]?.getD 0) (t.Params[pre.length]?.getD 0) 24)] aT (by kernel_rfl) (by rfl) ?_;simp[-cB,aw,nP,(bz _ _ _).ok];refine ax (λh=>?_) (λh=>?_)
   ·simp[-cB];simp at h
    all_goals (first|assumption|omega|(rw[aS];omega)|(simp_all;done)|grind|skip)
   ·simp[-cB];simp at h
    all_goals (first|assumption|omega|(rw[aS];omega)|(simp_all;done)|grind|skip)
  ·intro mH;simp[-cB,mH]
   all_goals (first|assumption|omega|(rw[aS];omega)|(simp_all;done)|grind|skip)
def IC(s:du):Bool:=bJ s.Kind 1 5&&!(decide (s.Kind=1)&&decide (s.Words.length=0))&&!(decide (s.Kind≠1)&&decide (0<s.Words.length))&&rO s.Words 4
def zp(s:du):Bool:=decide (s.Kind=2)||decide (s.Kind=3)
def Bt(l:List du):Bool:=
 cC IC l&&(bJ l.length 1 8&&(decide ((l[0]?.getD du.zero).Kind=1)||decide ((l[0]?.getD du.zero).Kind=5))&&decide ((l.countP zp:Int)<=2)&&decide ((l.countP (λs=>decide (s.Kind=4)):Int)<=1)&&decide ((l.countP (λs=>decide (s.Kind=5)):Int)<=1))
set_option maxRecDepth 20000 in
theorem Vd(l:List du)(hl:l.length<=1000000000000000)(hw:∀x∈l,x.wf):Pure prog 177 [.d (.sl (l.map du.enc))] (oD (Bt l)):=by
 unfold Bt;refine rn func177 ?_;simp[-cB,f177];refine av.fj [0,3,4,5,6] l (λpre=> [(3,iD (pre.countP zp)),(4,iD (pre.countP (λs=>decide (s.Kind=4)))),(5,iD (pre.countP (λs=>decide (s.Kind=5)))),(6,iD pre.length)]) (λ_=> []) (λpre=>cC IC pre=true) (by rfl) (by omega) (by simp[gZ]) ?_ ?_
 ·rintro pre x post bx hH aw bm a4;have bV:=eV bx hH;have dH:cC IC (pre++ [x])=IC x:=by simp[fX,hH]
  have uw:=hw x (by rw[bx];simp);have c1:=List.countP_le_length (p:=zp) (l:=pre);have c2:=List.countP_le_length (p:=λs:du=>decide (s.Kind=4)) (l:=pre);have c3:=List.countP_le_length (p:=λs:du=>decide (s.Kind=5)) (l:=pre);have CI:(pre++ [x]).countP zp=pre.countP zp+(if zp x then 1 else 0):=by rw[aqi];simp[aqv]
  have yW:(pre++ [x]).countP (λs:du=>decide (s.Kind=4))=pre.countP (λs:du=>decide (s.Kind=4))+(if x.Kind=4 then 1 else 0):=by rw[aqi];simp[aqv]
  have hn3:(pre++ [x]).countP (λs:du=>decide (s.Kind=5))=pre.countP (λs:du=>decide (s.Kind=5))+(if x.Kind=5 then 1 else 0):=by rw[aqi];simp[aqv]
  have hW:=zQ x.Words (by have:=du.GR uw;omega) (λy hy=>by have:=du.GS uw y hy;omega) 4;have R9:IC x=(bJ x.Kind 1 5&&!(decide (x.Kind=1)&&decide (x.Words.length=0))&&!(decide (x.Kind≠1)&&decide (0<x.Words.length))&&rO x.Words 4):=rfl;have sH:zp x=(decide (x.Kind=2)||decide (x.Kind=3)):=rfl;generalize km:pre.countP zp=k1 at *;generalize rC:pre.countP (λs:du=>decide (s.Kind=4))=k2 at *;generalize FL:pre.countP (λs:du=>decide (s.Kind=5))=k3 at *;clear bx hw km rC FL;simp[-cB,aw,bm,bV,a4]
  repeat' (first
   | (with_reducible refine And.intro ?_ ?_)
   | ((first|(refine ax (λh=>?_) (λh=>?_)<;>(try simp at h))|refine pC (bz _ _ _) ?_|refine pC hW ?_|refine lC (bz _ _ _) ?_|refine lC hW ?_|refine pG (bz _ _ _) ?_|refine pG hW ?_)<;>(try simp[-cB, *]))
   | (with_reducible intro _))
  all_goals (first|assumption|omega|(rw[aS];omega)|(simp_all;done)|grind|skip)
 ·intro hH;have hF:bJ l.length 1 8=true->0<l.length:=by rw[zi];omega
  simp[-cB,hH]
  repeat' (first
   | (with_reducible refine And.intro ?_ ?_)
   | ((first|(refine ax (λh=>?_) (λh=>?_)<;>(try simp at h))|refine pC (bz _ _ _) ?_|refine lC (bz _ _ _) ?_|refine pG (bz _ _ _) ?_)<;>(try simp[-cB, *]))
   | (with_reducible intro _))
  all_goals first|assumption|exact hF (by assumption)
def OT(a:lM):Bool:=bJ a.tD.length 1 8&&cC Bt a.tD
def ID(t:ar)(d:mB):Bool:=
 bJ d.Oq 0 (t.tE.length-1)&&bJ d.Phase 1 3&&(decide (d.qi= -1)||gW t d.qi)&&(decide (d.Second= -1)||gW t d.Second)&&ox t d.jf true&&ox t d.Body false
def DE(t:ar):Bool:=
 (decide (t.tE.length<=64)&&decide (t.nA.length<=512)&&decide (t.cY.length<=64)&&decide (t.eK.length<=16)) &&
 (cC OT t.tE&&(cC (ID t) t.nA&&(cC (λn=>bJ n 0 (t.Params.length-1)) t.cY&&cC (λn=>ox t n false) t.eK)))
set_option maxHeartbeats 1000000 in
set_option maxRecDepth 20000 in
theorem zT(t:ar)(ht:t.wf):Pure prog 121 [.agg (t.enc.map .d)] (oD (DE t)):=by
 have iQ:=ar.adY ht;have Cn:=ar.GV ht;have rh:=ar.GW ht;have YH:=ar.Bi ht;have Cr:=ar.zf ht;have IB:=ar.adZ ht;have YI:=ar.aa7 ht;unfold DE;refine rn func121 ?_;simp[-cB,f121]
 repeat' (first
  | (with_reducible refine And.intro ?_ ?_)
  | ((first|(refine ax (λh=>?_) (λh=>?_)<;>(try simp at h))|refine pC (mF t ht _ _) ?_|refine lC (mF t ht _ _) ?_|refine pG (mF t ht _ _) ?_)<;>(try simp[-cB, *]))
  | (with_reducible intro _))
 all_goals (first|assumption|omega|(rw[aS];omega)|(simp_all;done)|grind|skip)
 have e1:t.tE.length<=64:=by omega
 have e2:t.nA.length<=512:=by omega
 have e3:t.cY.length<=64:=by omega
 have e4:t.eK.length<=16:=by omega
 refine av.fj [1,3] t.tE (λpre=> [(3,iD pre.length)]) (λ_=> []) (λpre=>cC OT pre=true) (by rfl) (by omega) (by simp[gZ]) ?_ ?_
 ·rintro pre x post bx hH aw bm a4;have bV:=eV bx hH;have dH:cC OT (pre++ [x])=OT x:=by simp[fX,hH]
  have uw:=IB x (by rw[bx];simp);have hax:OT x=(bJ x.tD.length 1 8&&cC Bt x.tD):=rfl;clear bx IB YI;simp[-cB,aw,bm,bV,a4]
  repeat' (first
   | (with_reducible refine And.intro ?_ ?_)
   | ((first|(refine ax (λh=>?_) (λh=>?_)<;>(try simp at h))|refine pC (bz _ _ _) ?_|refine lC (bz _ _ _) ?_|refine pG (bz _ _ _) ?_)<;>(try simp[-cB, *]))
   | (with_reducible intro _))
  all_goals (first|assumption|omega|(rw[aS];omega)|(simp_all;done)|grind|skip)
  refine av.fj [1,3,4] x.tD (λpre=> [(4,iD pre.length)]) (λ_=> []) (λpre=>cC Bt pre=true) (by rfl) (by have:=lM.aa4 uw;omega) (by simp[gZ]) ?_ ?_
  ·rintro ajd y alY bx mH nP sq a5;have ES:=eV bx mH;have afD:cC Bt (ajd++ [y])=Bt y:=by simp[fX,mH]
   have OU:=lM.aa5 uw y (by rw[bx];simp);have hL:=Vd y (by omega) OU.2;clear bx;simp[-cB,aw,bm,nP,sq,ES,a4,a5]
   repeat' (first
    | (with_reducible refine And.intro ?_ ?_)
    | ((first|(refine ax (λh=>?_) (λh=>?_)<;>(try simp at h))|refine pC hL ?_|refine lC hL ?_|refine pG hL ?_)<;>(try simp[-cB, *]))
    | (with_reducible intro _))
   all_goals (first|assumption|omega|(rw[aS];omega)|(simp_all;done)|grind|skip)
  ·intro mH;simp[-cB,aw,bm,mH]
   repeat' (first
    | (with_reducible refine And.intro ?_ ?_)
    | ((first|(refine ax (λh=>?_) (λh=>?_)<;>(try simp at h))|refine pC (bz _ _ _) ?_|refine lC (bz _ _ _) ?_|refine pG (bz _ _ _) ?_)<;>(try simp[-cB, *]))
    | (with_reducible intro _))
   all_goals (first|assumption|omega|(rw[aS];omega)|(simp_all;done)|grind|skip)
 ·intro hH;simp[-cB,hH];refine av.fj [1,5] t.nA (λpre=> [(5,iD pre.length)]) (λ_=> []) (λpre=>cC (ID t) pre=true) (by rfl) (by omega) (by simp[gZ]) ?_ ?_
  ·rintro pre x post bx mH aw bm a4;have bV:=eV bx mH;have dH:cC (ID t) (pre++ [x])=ID t x:=by simp[fX,mH]
   have uw:=YI x (by rw[bx];simp);have hdx:ID t x=(bJ x.Oq 0 (t.tE.length-1)&&bJ x.Phase 1 3&&(decide (x.qi= -1)||gW t x.qi)&&(decide (x.Second= -1)||gW t x.Second)&&ox t x.jf true&&ox t x.Body false):=rfl;clear bx IB YI;simp[-cB,aw,bm,bV,a4]
   repeat' (first
    | (with_reducible refine And.intro ?_ ?_)
    | ((first|(refine ax (λh=>?_) (λh=>?_)<;>(try simp at h))|refine pC (bz _ _ _) ?_|refine pC (jP t ht _) ?_|refine pC (oS t ht _ _) ?_|refine lC (bz _ _ _) ?_|refine lC (jP t ht _) ?_|refine lC (oS t ht _ _) ?_|refine pG (bz _ _ _) ?_|refine pG (jP t ht _) ?_|refine pG (oS t ht _ _) ?_)<;>(try simp[-cB, *]))
    | (with_reducible intro _))
   all_goals (first|assumption|omega|(rw[aS];omega)|(simp_all;done)|grind|skip)
  ·intro mH;simp[-cB,mH];refine av.fj [1,7] t.cY (λpre=> [(7,iD pre.length)]) (λ_=> []) (λpre=>cC (λn=>bJ n 0 (t.Params.length-1)) pre=true) (by rfl) (by omega) (by simp[gZ]) ?_ ?_
   ·rintro pre x post bx hH3 aw bm a4;have bV:=eV bx hH3;have dH:cC (λn=>bJ n 0 (t.Params.length-1)) (pre++ [x])=bJ x 0 (t.Params.length-1):=by rw[fX,hH3];simp
    clear bx IB YI;simp[-cB,aw,bm,bV,a4];refine av.bT [oD (bJ x 0 (t.Params.length-1))] aT (by kernel_rfl) (by rfl) ?_;simp[-cB,aw,bm,(bz _ _ _).ok];refine⟨iW,?_⟩
    repeat' (first
     | (with_reducible refine And.intro ?_ ?_)
     | ((first|(refine ax (λh=>?_) (λh=>?_)<;>(try simp at h))|refine pC (bz _ _ _) ?_|refine lC (bz _ _ _) ?_|refine pG (bz _ _ _) ?_)<;>(try simp[-cB, *]))
     | (with_reducible intro _))
    all_goals (first|assumption|omega|(rw[aS];omega)|(simp_all;done)|grind|skip)
   ·intro hH3;simp[-cB,hH3];refine av.fj [1,8] t.eK (λpre=> [(8,iD pre.length)]) (λ_=> []) (λpre=>cC (λn=>ox t n false) pre=true) (by rfl) (by omega) (by simp[gZ]) ?_ ?_
    ·rintro pre x post bx hH4 aw bm a4;have bV:=eV bx hH4;have dH:cC (λn=>ox t n false) (pre++ [x])=ox t x false:=by rw[fX,hH4];simp
     clear bx IB YI;simp[-cB,aw,bm,bV,a4];refine av.bT [oD (ox t x false)] aT (by kernel_rfl) (by rfl) ?_;simp[-cB,aw,bm,(oS t ht _ _).ok]
     repeat' (first
      | (with_reducible refine And.intro ?_ ?_)
      | ((first|(refine ax (λh=>?_) (λh=>?_)<;>(try simp at h))|refine pC (bz _ _ _) ?_|refine lC (bz _ _ _) ?_|refine pG (bz _ _ _) ?_)<;>(try simp[-cB, *]))
      | (with_reducible intro _))
     all_goals (first|assumption|omega|(rw[aS];omega)|(simp_all;done)|grind|skip)
    ·intro hH4;simp[hH4,e1,e2,e3,e4]
def eJ(t:ar):Bool:=IA t&&E6 t&&DE t
theorem Ve(t:ar)(ht:t.wf):Pure prog 59 [.agg (t.enc.map .d)] (oD (eJ t)):=by
 unfold eJ;refine rn func59 ?_;simp[-cB,f59]
 repeat' (first
  | (with_reducible refine And.intro ?_ ?_)
  | ((first|(refine ax (λh=>?_) (λh=>?_)<;>(try simp at h))|refine pC (Bs t ht) ?_|refine pC (yb t ht) ?_|refine pC (zT t ht) ?_|refine lC (Bs t ht) ?_|refine lC (yb t ht) ?_|refine lC (zT t ht) ?_|refine pG (Bs t ht) ?_|refine pG (yb t ht) ?_|refine pG (zT t ht) ?_)<;>(try simp[-cB, *]))
  | (with_reducible intro _))
 all_goals (first|assumption|omega|(rw[aS];omega)|(simp_all;done)|grind|skip)
theorem Ln(l:List Int)(hl:l.length<=1000000000000000)(lo hi:Int):Pure prog 54 [.d (.sl (aC l)),iD lo,iD hi] (oD (cC (λx=>bJ x lo hi) l)):=by
 refine rn func54 ?_;simp[-cB,f54];refine av.fj [0,1,2,7] l (λpre=> [(7,iD pre.length)]) (λ_=> []) (λpre=>cC (λx=>bJ x lo hi) pre=true) (by rfl) (by omega) (by simp[gZ]) ?_ ?_
 ·rintro pre x post bx hH aw bm a4;have bV:=eV bx hH;have dH:=fX (λx=>bJ x lo hi) pre x;rw[hH]at dH;clear bx;simp[-cB,aw,bm];refine pC (bz _ _ _) ?_;simp[-cB];refine ax (λh=>?_) (λh=>?_)<;>simp at h<;>simp[-cB,h,aw,bm,bV,dH,a4]
 ·intro hH;simp[-cB,hH]
def sX(t:ar)(w:aj):Bool:=(List.range (t.az.length-1)).all (λk=>!((bu t (k+1)).Room&&decide (aH w.ae (k+1)≠0)))&&(bu t (dw w.tree 1)).Room
theorem J5(t:Tree)(x:Int)(h:0<t.bl.length):0<=dw t x/\dw t x<t.bl.length:=by
 unfold dw;cases hl:(ik t x).getLast? with
 | none=>simp[aqa,hl];omega
 | some y=>
   have:=mG (aqL hl);simp[aqa,hl];omega
theorem OV(t:ar)(ht:t.wf)(w:aj)(hw:w.wf)(hlen:w.ae.length=t.az.length)(iZ:0<t.az.length):Pure prog 58 [.agg (t.enc.map .d),.agg (w.enc.map .d)] (oD (sX t w)):=by
 have hl:=aj.fW hw;have vS:=(YE w hw 1).ok;have hb:=J5 w.tree 1 (by show 0<w.ae.length;omega);have e1:w.tree.bl=w.ae:=rfl;rw[e1]at hb;unfold sX;generalize oC:((List.range (t.az.length-1)).all (λk=>!((bu t (k+1)).Room&&decide (aH w.ae (k+1)≠0))))=res;refine rn func58 ?_;simp[-cB,f58];intro bs;refine av.cI [2,3,5] (t.az.length-1) (λi=> [(5,iD (i+1))]) (λ_=> []) (λi=>∀k<i,((bu t (k+1)).Room&&decide (aH w.ae (k+1)≠0))=false) (by rfl) (by simp) ?_;intro i hi hH;rcases aoR hi with aw|Xb
 ·have a4:aN .i64 ((i:Int)+1+1):=iW;have dj:(i:Int)+1<t.az.length:=by omega
  have nP:i+1<t.az.length:=by omega
  have Iw:=oA w.ae ((i:Int)+1) (by omega);have Ix:=oB w.ae ((i:Int)+1) (by omega) (by omega);have tg:=u9 (t:=t) (n:=(i:Int)+1) (by omega);have te:=tI (t:=t) (n:=(i:Int)+1) (by omega);have pQ:((i:Int)+1).toNat=i+1:=by omega
  simp only[pQ]at Iw Ix tg te;have Iy:((bu t ((i:Int)+1)).Room&&decide (aH w.ae ((i:Int)+1)≠0))=true->res=false:=λh=>by
   rw[<-oC,List.all_eq_false];exact⟨i,ap2.2 aw,by simp only[h];simp⟩
  have oO:((bu t ((i:Int)+1)).Room&&decide (aH w.ae ((i:Int)+1)≠0))=false->∀k<i+1,((bu t ((k:Int)+1)).Room&&decide (aH w.ae ((k:Int)+1)≠0))=false:=λh k hk=>by
   rcases apZ k i with h2|h2
   ·exact hH k h2
   ·rw[show k=i by omega];exact h
  generalize hTh:bu t ((i:Int)+1)=th at *;generalize aH w.ae ((i:Int)+1)=p at *;simp[-cB,dj,nP,Iw,Ix,tg,te];refine⟨by omega,λ_=>⟨by omega,by assumption⟩,?_⟩;have hc:(th.Room&&(p !=0))=(th.Room&&decide (p≠0)):=by rw[aqk];simp
  rw[hc];refine ax (λh=>?_) (λh=>?_)
  ·have:=Iy h;simp[this]
  ·have:=oO h;simp[-cB,a4];exact⟨by omega,by simpa using this⟩
 ·subst Xb;have hr:res=true:=by
   rw[<-oC,aoP];intro k hk;rw[hH k (ap2.1 hk)];rfl
  have CM:¬(((t.az.length-1:Nat):Int)+1<t.az.length):=by omega
  have tg:=u9 (t:=t) (n:=dw w.tree 1) (by omega);have te:=tI (t:=t) (n:=dw w.tree 1) (by omega);simp[-cB,CM,hr];refine av.bT [iD (dw w.tree 1)] aT (by kernel_rfl) (by rfl) ?_;simp[-cB,vS,tg,te];omega
def cK(t:ar)(w:aj):Bool:=
 decide (w.aQ.length=t.aQ.length)&&decide (w.ae.length=t.az.length)&&decide (w.Flags.length=t.az.length)&&decide (w.aJ.length=t.az.length *t.aJ.length)&&decide (w.bc.length=t.eK.length)&&pe w.tree &&
 (cC gQ w.aQ&&cC gQ w.aJ&&cC (λx=>bJ x 0 (kZ t.Flags-1)) w.Flags&&cC (λx=>bJ x 0 32767) w.bc&&gQ w.Score&&bJ w.jO 0 2147483647) &&
 (bJ w.iB 0 3&&bJ w.It 0 (t.az.length-1)&&bJ w.Go 0 12&&sX t w)
set_option maxRecDepth 20000 in
set_option maxHeartbeats 4000000 in
theorem Ru(t:ar)(ht:t.wf)(w:aj)(hw:w.wf)(fw:t.aJ.length<=16)(An:t.az.length<=128):Pure prog 25 [.agg (t.enc.map .d),.agg (w.enc.map .d)] (oD (cK t w)):=by
 have hl:=aj.fW hw;have l1:=aj.ow hw;have l5:=aj.Ov hw;have l6:=aj.ou hw;have l7:=aj.K8 hw;have hmul:aN .i64 ((t.az.length:Int) *t.aJ.length):=by
  have h1:t.az.length *t.aJ.length<=128 *16:=aq3 An fw;have h2:((t.az.length:Int) *t.aJ.length)=((t.az.length *t.aJ.length:Nat):Int):=by simp
  rw[h2,aS];omega
 have hN:=OL w hw;have hb:=AZ t.Flags;have c1:=(jg w.aQ (by omega)).ok;have c2:=(jg w.aJ (by omega)).ok;have c3:=(Iu t.Flags).ok;have c4:=(Ln w.Flags (by omega) 0 (kZ t.Flags-1)).ok;have c5:=(Ln w.bc (by omega) 0 32767).ok;have c6:=(ng w.Score).ok;have c7:=(bz w.jO 0 2147483647).ok;unfold cK;have c8:=bz w.iB 0 3;have c9:=bz w.It 0 (t.az.length-1);have c10:=bz w.Go 0 12;refine rn func25 ?_;simp[-cB,f25];intro bs;refine⟨λa1 a2 a3=>⟨hmul,⟨a1,a2⟩,a3⟩,?_⟩;refine pG hN ?_;simp[-cB];refine ax (λh=>?_) (λh=>?_)<;>simp at h
 ·simp[-cB];intro a1 a2 a3 a4 a5 a6;exfalso;rcases h with((((h|h)|h)|h)|h)|h
  ·omega
  ·omega
  ·omega
  ·rw[a4]at h;simp at h
  ·omega
  ·rw[a6]at h;cases h
 ·simp[-cB];have hm:=h.1.1.2;have hlen:w.ae.length=t.az.length:=by omega
  have hP:w.aJ.length=t.az.length *t.aJ.length:=by
   have:((t.az.length:Int) *t.aJ.length)=((t.az.length *t.aJ.length:Nat):Int):=by simp
   omega
  have iZ:0<t.az.length:=by
   have:=h.2;unfold pe at this;simp at this;have:=this.1.1.1.1.1.1;have e1:w.tree.bl=w.ae:=rfl;rw[e1]at this;have:=apB.2 this;omega
  have c11:=OV t ht w hw hlen iZ;have f1:w.aQ.length=t.aQ.length:=by omega
  have f3:w.Flags.length=t.az.length:=by omega
  have f5:w.bc.length=t.eK.length:=by omega
  have f6:=h.2;refine av.bT [oD (cC gQ w.aQ),oD (cC gQ w.aJ),iD (kZ t.Flags),oD (cC (λx=>bJ x 0 (kZ t.Flags-1)) w.Flags),oD (cC (λx=>bJ x 0 32767) w.bc),oD (gQ w.Score),oD (bJ w.jO 0 2147483647)] aT (by kernel_rfl) (by rfl) ?_;simp[-cB,c1,c2,c3,c4,c5,c6,c7];refine⟨λa b=>⟨iW,a,b⟩,?_⟩;refine ax (λh2=>?_) (λh2=>?_)<;>simp at h2
  ·simp[-cB];intro a1 a2 a3 a4 a5 a6 b1 b2 b3 b4 b5 b6;exfalso;simp[*]at h2
  ·obtain⟨⟨⟨⟨⟨b1,b2⟩,b3⟩,b4⟩,b5⟩,b6⟩:=h2;simp[-cB];refine pC c8 ?_;simp[-cB];refine⟨λa=>⟨iW,a⟩,?_⟩;refine pG c9 ?_;simp[-cB];refine pG c10 ?_;simp[-cB];refine pG c11 ?_;simp[hlen,hP,f1,f3,f5,f6,b1,b2,b3,b4,b5,b6]
section
variable {P : Program} {n : Nat} {s : St} {Q : AX -> St -> Prop}
def mK(w:World)(O:Nat->Prop)(m:Nat->Option Value):FrameMode->Option V->Prop
 | .returning,none=>True
 | .panicking chain,some x=>AP w O m chain x
 | _,_=>False
def Vf(w:World)(O:Nat->Prop)(m:Nat->Option Value)(u':FrameMode)(r:Option V):Ending->Prop
 | .returned _=>mK w O m (settle u') r
 | .panicked chain=>mK w O m (raised u' chain) r
 | .outgrown=>False
def Bu(fo:FO)(m:Nat->Option Value)(w:World)(R:Option V->aI->Prop)(e:Ending)(u':FrameMode)(w':World):Prop:=
 ∃m' r L',R r L'/\Vf w' (OO fo m') m' u' r e/\Inv fo m' L' w'/\Step w (own m) w' (own m')
def jF(P:Program)(f:FuncId)(args:List V)(L:aI)(px:Option V)(R:Option V->aI->Prop):Prop:=
 ∀(fo:FO) m w (xs:Array Value) u,Inv fo m L w->ir w (OO fo m) m xs args->mK w (OO fo m) m u px->CallsDIn Fence.wide 0 P f xs u w (Bu fo m w R)
def DQ(R:Option V->aI->Prop):AX->St->Prop
 | .normal,s=>R none s.L
 | .ret,s=>R none s.L
 | .ix y,s=>R (some y) s.L
 | _,_=>False
def RecM(u u':FrameMode)(px:Option V):Prop:=
 match px with
 | none=>u= .returning/\u'= .returning
 | some _=>∃v gM,u= .panicking ({v:=v,recovered:=false}::gM)/\u'= .panicking ({v:=v,recovered:=true}::gM)/\∀e∈gM,e.goexit=false
theorem IE{u u' px}(h:RecM u u' px):settle u'= .returning:=by
 cases px with
 | none=>obtain⟨_,rfl⟩:=h;rfl
 | some x=>
   obtain⟨v,gM,hu,rfl,ho⟩:=h;clear hu;unfold settle;have:gM.dropWhile (λe=>!e.goexit)=[]:=by
    induction gM with
    | nil=>rfl
    | cons e l ih=>
      simp_all
   grind
theorem Vg{u u' px}(h:RecM u u' px){w O m chain y}(hc:AP w O m chain y):mK w O m (raised u' chain) (some y):=by
 obtain⟨v,gM,rfl,hold,hv⟩:=hc;cases px with
 | none=>obtain⟨_,rfl⟩:=h;exact⟨v,gM,rfl,hold,hv⟩
 | some x=>
   obtain⟨v',afE,_,rfl,ho⟩:=h;refine⟨v,gM++{v:=v',recovered:=true}::afE,rfl,λe he=>?_,hv⟩;grind
def SQ(P:Program)(n:Nat)(c:Code)(s:St)(px:Option V)(R:Option V->aI->Prop):Prop:=
 ∀(fo:FO) m a w (w0:World) (m0:Nat->Option Value) (fn:Func) (c0:Frame) (cs:List Frame),fo.D=[]->fo.r=none->fo.nm=true->fn.results.toList=[]->G fo n m s a w->mK w (OO fo m) m c0.mode px->Step w0 (own m0) w (own m)->
  c.wpSIn Fence.wide 0 P (bodyPostS P fn c0 cs (Bu fo m0 w0 R)) a (c0::cs) w
def aje:Option V->Bool
 | none=>true
 | some x=>x.on []
def Vh:Option V->V
 | none=> .d (.v .nilIface)
 | some x=>x
def uQ:List Oper->St->Option St
 | [],s=>some s
 | o::l,s=>match o.op,o.dst,o.guard with
   | .move x,some d,none=>uQ l (s.put (some d) (s.ev x))
   | .assign x,some d,none=>uQ l (s.put (some d) (s.ev x))
   | _,_,_=>none
def J6(n:Nat)(l:List Oper):Bool:=l.all λo=>match o.dst with
 | some d=>decide (d<n)
 | none=>false
theorem SR{fo}{m}{ops}{K}{cs}{w}:∀l k s s' a,(∀j,l[j]?=ops[k+j]?)→uQ l s=some s'→J6 n l=true→G fo n m s a w→
  (∀a',G fo n m s' a' w->K .normal a' cs w)->wpOpsSIn Fence.wide 0 P ops K (List.range' k l.length) a cs w
 | [],k,s,s',a,_,hm,_,g,hK=>by
   simp only[uQ,anc]at hm;subst hm;exact hK a g
 | o::l,k,s,s',a,hl,hm,aO,g,hK=>by
   have h0:ops[k]?=some o:=by simpa using(hl 0).symm
   have hl':∀j,l[j]?=ops[k+1+j]?:=λj=>by
    have:=hl (j+1);grind
   simp only [J6,aq8,aoM]at aO;rw [aoU,List.range'_succ];simp only [wpOpsSIn,h0];refine⟨fun _ _=>trivial,?_⟩;have key:∀x d,o.dst=some d→o.guard=none→(execOp a.eval o).run P w= .ok (.value (a.eval x)) w→uQ l (s.put (some d) (s.ev x))=some s'→
     (if Region.wanted o (yielded ops a.tmps)=true then
      match(execOp a.eval o).run P w with
      | .ok .recover w'=>
        match recoverD cs with
        | some (v,jA)=>wpOpsSIn Fence.wide 0 P ops K (List.range' (k+1) l.length) (a.put o.dst v) jA w'
        | none=>wpOpsSIn Fence.wide 0 P ops K (List.range' (k+1) l.length) (a.put o.dst .nilIface) cs w'
      | .ok (.value v) w'=>wpOpsSIn Fence.wide 0 P ops K (List.range' (k+1) l.length) (a.put o.dst v) cs w'
      | .ok .skip w'=>wpOpsSIn Fence.wide 0 P ops K (List.range' (k+1) l.length) (a.put o.dst undef) cs w'
      | .halt (.panic v) w'=>K (.panic [{v,recovered:=false}]) a cs w'
      | _=>False
     else wpOpsSIn Fence.wide 0 P ops K (List.range' (k+1) l.length) (a.put o.dst undef) cs w):=by
    intro x d hd hg bw Xl;rw[if_pos (by simp[Region.wanted,hg]),bw];have gp:G fo n m (s.put (some d) (s.ev x)) (a.put o.dst (a.eval x)) w:=by
     rw[hd];exact g.put (dst:=some d) (λd' e=>by grind) (cm g x)
    exact SR l (k+1) _ s' _ hl' Xl aO.2 gp hK
   unfold uQ at hm;split at hm
   ·simp_all[execOp]
   ·simp_all[execOp]
   grind
theorem SQ.rest{y}{px}{R}{fo}{m}{a}{w w0}{m0}{fn}{c0}{cs}{u'}(hD:fo.D=[])(hr:fo.r=none)(As:fo.nm=true)(oC:fn.results.toList=[])
  (g:G fo n m s a w) (sn:RecM c0.mode u' px) (Lq:Step w0 (own m0) w (own m)) (Ir:gN y=false) (h:av P n y s (DQ R)):y.wpSIn Fence.wide 0 P (bodyPostS P fn c0 cs (Bu fo m0 w0 R)) a ({c0 with mode:=u'}::cs) w:=by
 refine wpSIn_of_wpIn rfl ?_;have h1:=h fo m a w (λe=>by grind) g;rw[hr]at h1;have OW:∀T,∀w1,(results fn T).run P w1= .ok (.tuple #[]) w1:=by
  simp_all[H6]
 refine Code.wpIn_mono ?_ h1;rintro e a1 w1 ⟨ms,m1,x1,s1,ri,hq,g1,iQ,st⟩;obtain rfl:=ri.1.2 As;rw[FO.AQ]at g1 iQ;have IF:a1.defers=[]:=by rw[g1.defers,hD]
 cases e with
 | normal=>
   cases x1<;>simp[bF]at iQ
   exact⟨IF,u',rfl,_,OW _ _,m1,none,s1.L,hq,by grind[Vf,IE,mK],g1.inv,Lq.trans st⟩
 | ret=>
   cases x1<;>simp[bF]at iQ
   exact⟨IF,u',rfl,_,OW _ _,m1,none,s1.L,hq,by grind[Vf,IE,mK],g1.inv,Lq.trans st⟩
 | panic ch=>
   cases x1<;>simp[bF]at iQ
   rename_i y';exact⟨IF,u',rfl,m1,some y',s1.L,hq,Vg sn iQ,g1.inv,Lq.trans st⟩
 | exit i=>cases x1<;>simp[bF]at iQ;exact hq.elim
 | goto i=>cases x1<;>simp[bF]at iQ;exact hq.elim
 | outgrown=>simp_all[bF]
theorem SQ.rec{id}{o}{l}{d}{y}{px}{R}{s'}(bw:∀ρ w,(execOp ρ o).run P w= .ok .recover w)(hd:o.dst=some d)(KT:d < n)(hg:o.guard=none)
  (hm:uQ l (s.put (some d) (Vh px))=some s') (aO:J6 n l=true) (Ir:gN y=false) (h:av P n y s' (DQ R)):SQ P n (.seq (.region id (o::l).toArray false) y) s px R:=by
 intro fo m a w w0 m0 fn c0 cs hD hr As oC g Cs Lq;refine wpSIn_seq (wpSIn_region ?_);have uB:∀j,l[j]?=(o::l).toArray[1+j]?:=λj=>by
  grind
 have afF:List.range (o::l).toArray.size=0::List.range' 1 l.length:=by
  simp[List.range_eq_range',List.range'_succ]
 rw [afF];simp only [wpOpsSIn,apK];refine⟨fun _ _=>trivial,?_⟩;rw [if_pos (by simp [Region.wanted,hg]),bw];simp only [hd];have fin:∀u' (v:Value),aB w (OO fo m) m v (Vh px)→RecM c0.mode u' px→
   wpOpsSIn Fence.wide 0 P (o::l).toArray (Exit.thenS (y.wpSIn Fence.wide 0 P (bodyPostS P fn c0 cs (Bu fo m0 w0 R))) (bodyPostS P fn c0 cs (Bu fo m0 w0 R))) (List.range' 1 l.length) (a.put (some d) v) ({c0 with mode:=u'}::cs) w:=by
  intro u' v hv sn;refine SR l 1 _ s' _ uB hm aO (g.put (λd' e=>by grind) hv) (λa' g'=>?_);exact SQ.rest hD hr As oC g' sn Lq Ir h
 cases px with
 | none=>
   have MO:c0.mode= .returning:=by
    grind[mK]
   have hn:recoverD (c0::cs)=none:=by grind[recoverD]
   rw[hn];have:=fin .returning .nilIface (.d _ _ (.v _ rfl)) ⟨MO,rfl⟩;rw[show({c0 with mode:= .returning}:Frame)=c0 by rw[<-MO]]at this;omega
 | some x=>
   unfold mK at Cs;split at Cs
   ·grind
   ·rename_i ch x' MO e;obtain rfl:=aoK e;obtain⟨v,gM,rfl,ho,hv⟩:=Cs;have hn:recoverD (c0::cs)=some (v,{c0 with mode:= .panicking ({v:=v,recovered:=true}::gM)}::cs):=by grind[recoverD]
    rw[hn];exact fin _ v hv ⟨v,gM,MO,rfl,ho⟩
   grind
theorem jF.run{f}{args}{L}{px}{R}{fn}{c}(hf:P.funcs[f]?=some fn)(hb:fn.body=some c)(hn:args.length≤fn.ntmps)(oC:fn.results.toList=[])
  (h:SQ P fn.ntmps c ⟨eH 0 args,L⟩ px R):jF P f args L px R:=by
 intro fo m w xs u hi hx hu;refine callsDIn_of_wpSIn hf hb trivial (λc0 cs ye=>?_);subst ye;have dZ:(xs++Array.replicate (fn.ntmps-xs.size) undef).size=fn.ntmps:=by
  have:=hx.1;grind
 let fo':FO:=⟨fo.f,[],none,true⟩
 have g:G fo' fn.ntmps m ⟨eH 0 args,L⟩ {tmps:=xs++Array.replicate (fn.ntmps-xs.size) undef,defers:=[]} w:=by
  refine⟨dZ,?_,⟨hi.nodup,hi.fI,hi.apart,hi.others,hi.ej,hi.holds,hi.ef⟩,rfl⟩;intro t y hy;obtain⟨h1,h2,h3⟩:=pW hy;simp at h2 h3;refine⟨by omega,?_⟩;have aw:t<xs.size:=by rw[hx.1];exact h3
  have:(xs++Array.replicate (fn.ntmps-xs.size) undef).getD t undef=xs[t]:=by
   simp[Array.getD,aw];omega
  rw[this];exact hx.2 t _ y (ao7 aw) h2
 have hE:Bu fo' m w R=Bu fo m w R:=by
  funext e u' w';refine propext ⟨?_,?_⟩
  ·rintro⟨m',r,L',h1,h2,h3,h4⟩;exact⟨m',r,L',h1,h2,⟨h3.nodup,h3.fI,h3.apart,h3.others,h3.ej,h3.holds,h3.ef⟩,h4⟩
  ·rintro⟨m',r,L',h1,h2,h3,h4⟩;exact⟨m',r,L',h1,h2,⟨h3.nodup,h3.fI,h3.apart,h3.others,h3.ej,h3.holds,h3.ef⟩,h4⟩
 rw[<-hE];exact h fo' m _ w w m fn c0 cs rfl rfl rfl oC g hu (Step.refl w _)
end
section
variable {P : Program} {n : Nat} {s : St} {Q : AX -> St -> Prop}
def Bv(f:FuncId)(hs:List (Nat×Nat)):Deferred:=⟨.fn (.func f) (hs.map λp=>Value.pointer (some ⟨p.2,0,none⟩)).toArray,#[]⟩
def DF(P:Program)(n:Nat)(c:Code)(s:St)(Q:AX->St->Prop)(QD:FuncId->List (Nat×Nat)->AX->St->Prop):Prop:=
 ∀(fo:FO) m a w,fo.r=none->fo.D=[]->fo.nm=true->G fo n m s a w->
  c.wpIn Fence.wide 0 P (λe a' w'=>fZ fo n m w Q e a' w'\/∃f hs,enters P f=true/\fZ ⟨fo.f,[Bv f hs],none,true⟩ n m w (QD f hs) e a' w') a w
variable {QD : FuncId -> List (Nat × Nat) -> AX -> St -> Prop}
theorem DF.Vi{x y}(Ir:gN x=false)(h:av P n x s (AX.then (λs'=>DF P n y s' Q QD) Q)):DF P n (.seq x y) s Q QD:=by
 intro fo m a w hr hD As g;refine wpIn_seq ?_;have h1:=h fo m a w (λe=>by grind) g;rw[hr]at h1;refine Code.wpIn_mono ?_ h1;rintro e a1 w1 ⟨ms,m1,x1,s1,ri,hq,g1,iQ,st⟩;obtain rfl:=ri.1.2 As;have gg:=g1;rw[FO.AQ]at gg;cases e with
 | normal=>
   cases x1<;>simp[bF]at iQ
   refine Code.wpIn_mono ?_ (hq fo m1 a1 w1 hr hD As gg);grind[fZ.step]
 | exit i=>cases x1<;>simp[bF]at iQ;exact .inl ⟨[],m1,_,s1,ri,hq,g1,iQ,st⟩
 | goto i=>cases x1<;>simp[bF]at iQ;exact .inl ⟨[],m1,_,s1,ri,hq,g1,iQ,st⟩
 | ret=>cases x1<;>simp[bF]at iQ;exact .inl ⟨[],m1,_,s1,ri,hq,g1,iQ,st⟩
 | panic ch=>cases x1<;>simp only[bF]at iQ;exact .inl ⟨[],m1,_,s1,ri,hq,g1,iQ,st⟩
 | outgrown=>simp_all[bF]
def OX(L:aI):List V->List (Nat×Nat)->Prop
 | [],[]=>True
 | x::xs,p::ps=>x= .bp p.1 0/\p∈dz L/\OX L xs ps
 | _,_=>False
theorem FZ{fo}{m}{L}{w}(hi:Inv fo m L w):∀xs ps vs,OX L xs ps→vs.length=xs.length→(∀(j:Nat) v x,vs[j]?=some v→xs[j]?=some x→aB w (OO fo m) m v x)→
  vs=ps.map λp=>Value.pointer (some ⟨p.2,0,none⟩)
 | [],[],vs,_,hl,_=>by grind
 | x::xs,p::ps,v::vs,⟨hx,hp,ht⟩,hl,hr=>by
   have h0:=hr 0 v x rfl rfl;subst hx;obtain⟨b,hb,rfl⟩:=xw h0;obtain⟨ty,cs,hm⟩:=nf hp;obtain⟨z,hz,bb,kq,cur,rfl,_⟩:=hi.holds _ _ hm;rw[hz]at hb;simp only[anc,Value.pointer.injEq,Addr.mk.injEq]at hb;obtain rfl:bb=p.2:=by omega
   obtain rfl:=hb.1;rw[ao9,<-FZ hi xs ps vs ht (by grind) (λj v x h1 h2=>hr (j+1) v x (by grind) (by grind))]
 | [],_::_,_,h,_,_=>h.elim
 | _::_,[],_,h,_,_=>h.elim
 | _::_,_::_,[],_,hl,_=>by grind
theorem DF.defer{id}{o1 o2}{t:Tmp}{f}{su}{hs}{y}{c}(h1:o1.op= .makeFunc (.func f) #[] su)(yY:o1.dst=some t)(FQ:t < n)(OY:o1.guard=none)
  (h2:o2.op= .defer c) (hc:c.callee= .value (.tmp t)) (hca:c.args= #[]) (nr:o2.dst=none) (nW:o2.guard=none) (lA:OX s.L (su.toList.map s.ev) hs) (he:enters P f=true) (Ir:gN y=false)
  (h:av P n y (s.put (some t) (.fu (.func f) [] (su.toList.map s.ev))) (QD f hs)):DF P n (.seq (.region id #[o1,o2] false) y) s Q QD:=by
 intro fo m a w hr hD As g;refine wpIn_seq (wpIn_region_list ?_);have alZ:(su.toList.map a.eval)=hs.map λp=>Value.pointer (some ⟨p.2,0,none⟩):=by
  refine FZ g.inv _ _ _ lA (by simp) (λj v x hv hx=>?_);simp only[aoN,aoJ]at hv hx;obtain⟨z,hz,rfl⟩:=hv;obtain⟨z',Ai,rfl⟩:=hx;rw[hz]at Ai;obtain rfl:=aoK Ai;exact cm g z
 have fD:aB w (OO fo m) m (.func (.func f) #[] (su.map a.eval)) (.fu (.func f) [] (su.toList.map s.ev)):=by
  refine .fu _ _ _ _ _ rfl (by simp) (by simp) (λj x y hx hy=>?_);have cG:(su.toList.map a.eval)[j]?=some x:=by
   grind
  simp only[aoN,aoJ]at cG hy;obtain⟨z,hz,rfl⟩:=cG;obtain⟨z',Ai,rfl⟩:=hy;rw[hz]at Ai;obtain rfl:=aoK Ai;exact cm g z
 have g1:=g.put (dst:=some t) (λd e=>by grind) fD;have ht:(a.put (some t) (.func (.func f) #[] (su.map a.eval))).eval (.tmp t)= .func (.func f) #[] (su.map a.eval):=by
  have:=g.size;simp_all[Act.eval,Act.put,Array.getD]
 have ahf:(execOp a.eval o1).run P w= .ok (.value (.func (.func f) #[] (su.map a.eval))) w:=by simp[execOp,h1,Instr.makeFunc]
 unfold wpListIn;rw[if_pos (by grind[Region.wanted])];refine⟨λ_ _=>trivial,?_⟩;show Oper.uponIn Fence.wide 0 P o1 a _ _ ((o1.semAt none a.eval).run P w);rw[Oper.semAt_none,ahf,Oper.uponIn_value,yY];unfold wpListIn;rw[if_pos (by grind[Region.wanted])];refine⟨λ_ _=>trivial,?_⟩;show Oper.uponIn Fence.wide 0 P o2 _ _ _ ((o2.semAt none _).run P w);have ahg:(execOp (a.put (some t) (.func (.func f) #[] (su.map a.eval))).eval o2).run P w= .ok (.defer (Bv f hs)) w:=by
  have:(su.map a.eval)=(hs.map λp=>Value.pointer (some ⟨p.2,0,none⟩)).toArray:=by
   grind
  simp_all[execOp,resolve,Deferred.ofValue,Sem.run_bind,Sem.run_pure,Result.andThen_ok,Bv]
 rw[Oper.semAt_none,ahg,Oper.uponIn_defer,nr];unfold wpListIn
 let fo':FO:=⟨fo.f,[Bv f hs],none,true⟩
 have g2:G fo' n m (s.put (some t) (.fu (.func f) [] (su.toList.map s.ev))) {a.put (some t) (.func (.func f) #[] (su.map a.eval))with defers:=Bv f hs::(a.put (some t) (.func (.func f) #[] (su.map a.eval))).defers} w:=by
  refine⟨g1.size,g1.fr,⟨g1.inv.nodup,g1.inv.fI,g1.inv.apart,g1.inv.others,g1.inv.ej,g1.inv.holds,g1.inv.ef⟩,?_⟩;have:=g1.defers;grind
 refine Code.wpIn_mono (F:=Fence.wide) ?_ (h fo' m _ w (λe=>by grind) g2);grind
end
section
variable {P : Program} {n : Nat} {s : St} {Q : AX -> St -> Prop}
def SS(s:St):List (Nat×V):=s.fr.filter λp=>V.on ((dz s.L).map (·.1)) p.2
def G5(P:Program)(rs:List ResultVar)(R:AE->aI->Prop)(s:St)(r:Option V)(L':aI):Prop:=
 dz L'=dz s.L/\match r with
  | none=>ff P rs R .ret ⟨SS s,L'⟩
  | some y=>R (.ix y) L'
def LvD(P:Program)(rs:List ResultVar)(R:AE->aI->Prop)(f:FuncId)(hs:List (Nat×Nat))(x:AX)(s:St):Prop:=
 match x with
 | .normal|.ret=>(∀p∈hs,p∈dz s.L)/\jF P f (hs.map λp=> .bp p.1 0) s.L none (G5 P rs R s)
 | .ix v=>(∀p∈hs,p∈dz s.L)/\jF P f (hs.map λp=> .bp p.1 0) s.L (some v) (G5 P rs R s)
 | _=>False
theorem zU{fo}{m m0}{a}{w w0}{fn}{R}{f}{hs}{px}{u}(hu:u≠ .run)(Fw:fo.nm=true)
  (hh:∀p∈hs,p∈dz s.L) (h:jF P f (hs.map λp=> .bp p.1 0) s.L px (G5 P fn.results.toList R s)) (he:enters P f=true) (g:G fo n m s a w) (hm:mK w (OO fo m) m u px) (Lq:Step w0 (own m0) w (own m)):
  LeavesIn Fence.wide 0 P fn a.tmps (mv fo m0 w0 R) [Bv f hs] u w:=by
 have ob:ir w (OO fo m) m (hs.map λp=>Value.pointer (some ⟨p.2,0,none⟩)).toArray (hs.map λp=> .bp p.1 0):=by
  refine⟨by simp,λj x y hx hy=>?_⟩;simp only[apK,aoN,aoJ]at hx hy;obtain⟨p,hp,rfl⟩:=hx;obtain⟨p',Al,rfl⟩:=hy;rw[hp]at Al;obtain rfl:=aoK Al;obtain⟨ty,cs,fp⟩:=nf (hh p (aoO hp));obtain⟨z,hz,bb,kq,cur,rfl,_⟩:=g.inv.holds _ _ fp;obtain rfl:bb=p.2:=by omega
  exact .bp _ _ _ hz
 refine leavesIn_cons hu (λh=>by grind[Fence.wide]) (f:=f) (args:=(hs.map λp=>Value.pointer (some ⟨p.2,0,none⟩)).toArray) (by simp_all[invoke,xR]) (λ_ _=>trivial) ?_;refine(h fo m w _ u g.inv ob hm).mono ?_;rintro e u' w' ⟨m',r,L',⟨od,hR⟩,zt,cn,st⟩;have ti:=Le g.inv cn od;have g':G fo n m' ⟨SS s,L'⟩ a w':=by
  refine⟨g.size,λt y hy=>?_,cn,g.defers⟩;obtain⟨h1,h2⟩:=apU.1 hy;obtain⟨q1,q2⟩:=g.fr t y h1;exact⟨q1,(q2.on ti h2).mono (Step.rq st) (Step.sub st) (λ_ _ e=>e)⟩
 have fin:∀OZ,mK w' (OO fo m') m' OZ r->LeavesIn Fence.wide 0 P fn a.tmps (mv fo m0 w0 R) [] OZ w':=by
  intro OZ Cs;unfold mK at Cs;split at Cs
  ·simp[ff]at hR;split at hR
   ·rename_i xs c hr;obtain⟨v,k1,k2⟩:=r7 g' hr hR.1;exact⟨v,k1,m',_,_,hR.2,k2,cn,Lq.trans st⟩
   grind
  ·exact⟨m',_,_,hR,Cs,cn,Lq.trans st⟩
  grind
 cases e with
 | returned v=>exact fin _ zt
 | panicked ch=>exact fin _ zt
 | outgrown=>exact zt.elim
theorem aE.YJ{f}{fn}{c}{args}{L}{R}(hf:P.funcs[f]?=some fn)(hb:fn.body=some c)(hn:args.length≤fn.ntmps)
  (h:DF P fn.ntmps c ⟨eH 0 args,L⟩ (ff P fn.results.toList R) (LvD P fn.results.toList R)):aE P f args L R:=by
 intro fo m w xs hi hx
 let fo':FO:=⟨fo.f,[],none,true⟩
 have DG:∀e w',mv fo' m w R e w'->mv fo m w R e w':=λ_ _ ⟨m',r,L',h1,h2,h3,h4⟩=>⟨m',r,L',h1,h2,⟨h3.nodup,h3.fI,h3.apart,h3.others,h3.ej,h3.holds,h3.ef⟩,h4⟩
 refine Calls.mono ?_ DG;refine callsIn_wide.1 (callsIn_of_wp_defers (n:=0) hf hb trivial ?_);have dZ:(xs++Array.replicate (fn.ntmps-xs.size) undef).size=fn.ntmps:=by
  have:=hx.1;grind
 have g:G fo' fn.ntmps m ⟨eH 0 args,L⟩ {tmps:=xs++Array.replicate (fn.ntmps-xs.size) undef,defers:=[]} w:=by
  refine⟨dZ,?_,⟨hi.nodup,hi.fI,hi.apart,hi.others,hi.ej,hi.holds,hi.ef⟩,rfl⟩;intro t y hy;obtain⟨h1,h2,h3⟩:=pW hy;simp only[Nat.sub_zero,apz]at h2 h3;refine⟨by omega,?_⟩;have aw:t<xs.size:=by rw[hx.1];exact h3
  have:(xs++Array.replicate (fn.ntmps-xs.size) undef).getD t undef=xs[t]:=by
   simp[Array.getD,aw];omega
  rw[this];exact hx.2 t _ y (ao7 aw) h2
 refine Code.wpIn_mono (F:=Fence.wide) ?_ (h fo' m _ w rfl rfl rfl g);rintro e a' w' (⟨ms,m',x,s',ri,hq,g',cG,st⟩|⟨f2,hs,FP,ms,m',x,s',ri,hq,g',cG,st⟩)
 ·obtain rfl:=ri.1.2 rfl;rw[FO.AQ]at g' cG;have xO:a'.defers=[]:=g'.defers;have NZ:ff P fn.results.toList R .ret s'->LeavesIn Fence.wide 0 P fn a'.tmps (mv fo' m w R) a'.defers .returning w':=by
   intro hq;rw[xO];simp only[ff]at hq;split at hq
   ·rename_i ys c' hr;obtain⟨v,k1,k2⟩:=r7 g' hr hq.1;exact⟨v,k1,m',_,_,hq.2,k2,g'.inv,st⟩
   grind
  cases e with
  | normal=>cases x<;>simp only[bF]at cG;exact NZ hq
  | ret=>cases x<;>simp only[bF]at cG;exact NZ hq
  | panic ch=>
    cases x<;>simp only[bF]at cG
    simp only[ff]at hq;show LeavesIn Fence.wide 0 P fn a'.tmps (mv fo' m w R) a'.defers (.panicking ch) w';rw[xO];exact⟨m',_,_,hq,cG,g'.inv,st⟩
  | exit i=>cases x<;>simp only[bF]at cG;simp_all
  | goto i=>cases x<;>simp only[bF]at cG;simp_all
  | outgrown=>simp_all[bF]
 ·obtain rfl:=ri.1.2 rfl;rw[FO.AQ]at g' cG;have xO:a'.defers=[Bv f2 hs]:=g'.defers;have g2:G fo' fn.ntmps m' s' {a' with defers:=[]} w':=⟨g'.size,g'.fr,⟨g'.inv.nodup,g'.inv.fI,g'.inv.apart,g'.inv.others,g'.inv.ej,g'.inv.holds,g'.inv.ef⟩,rfl⟩
  cases e with
  | normal=>
    cases x<;>simp only[bF]at cG
    show LeavesIn Fence.wide 0 P fn a'.tmps (mv fo' m w R) a'.defers .returning w';rw[xO];exact zU (a:={a' with defers:=[]}) (by simp) rfl hq.1 hq.2 FP g2 trivial st
  | ret=>
    cases x<;>simp only[bF]at cG
    show LeavesIn Fence.wide 0 P fn a'.tmps (mv fo' m w R) a'.defers .returning w';rw[xO];exact zU (a:={a' with defers:=[]}) (by simp) rfl hq.1 hq.2 FP g2 trivial st
  | panic ch=>
    cases x<;>simp only[bF]at cG
    show LeavesIn Fence.wide 0 P fn a'.tmps (mv fo' m w R) a'.defers (.panicking ch) w';rw[xO];exact zU (a:={a' with defers:=[]}) (by simp) rfl hq.1 hq.2 FP g2 cG st
  | exit i=>cases x<;>simp only[bF]at cG;exact hq.elim
  | goto i=>cases x<;>simp only[bF]at cG;exact hq.elim
  | outgrown=>simp_all[bF]
end
section
variable {P : Program} {n : Nat} {s : St} {Q : AX -> St -> Prop}
theorem jF.frame{f:FuncId}{args:List V}{L L1 L2:aI}{px:Option V}{R1:Option V→aI→Prop}(h:jF P f args L1 px R1)(hL:L.Perm (L1++L2))(ho:V.dE (keys L1) args=true)(hx:aje px=true)(ij:L1.all (fun p=>aV.on (keys L1) p.2)=true)
  (iS:∀p∈L2,aV.on (keys L2++(L1.filterMap λp=>match p.2 with|.box (_+1) _ _=>some p.1|_=>none)) p.2=true)
  (qP:∀r bq,R1 r bq->(∀k∈keys bq,k∉keys L2)/\∀k b ty cs,(k,aV.box (b+1) ty cs)∈L1->∃lY jA,(k,aV.box (b+1) lY jA)∈bq):
  jF P f args L px (λr L'=>∃bq,R1 r bq/\L'=bq++L2):=by
 intro fo m w xs u hi B8 hu;obtain⟨gV,m1,oQ,ot,qe,fin⟩:=Go.Ab.frame hi hL ij iS;have ajf:ir w (OO gV m1) m1 xs args:=⟨B8.1,λj v y hv hy=>((B8.2 j v y hv hy).on ot (fQ ho y (aoO hy))).mono (bK.refl w _) (λb _ hb=>(oQ b).1 hb) (λ_ _ e=>e)⟩
 have sO:mK w (OO gV m1) m1 u px:=by
  unfold mK at hu⊢;split at hu
  ·trivial
  ·obtain⟨v,gM,rfl,iC,hv⟩:=hu;exact⟨v,gM,rfl,iC,(hv.on (ks:=[]) (m':=m1) (by simp) hx).mono (bK.refl w _) (λb _ hb=>(oQ b).1 hb) (λ_ _ e=>e)⟩
  ·exact hu.elim
 refine(h gV m1 w xs u qe ajf sO).mono ?_;rintro e u' w' ⟨uv,r,bq,hR,zt,cn,fK⟩;obtain⟨Dd,GK⟩:=qP r bq hR;obtain⟨mm,hinv,qg,vP,zO,-⟩:=fin w' uv bq cn fK Dd GK;refine⟨mm,r,_,⟨bq,hR,rfl⟩,?_,hinv,qg⟩;have md:∀OZ:FrameMode,mK w' (OO gV uv) uv OZ r->mK w' (OO fo mm) mm OZ r:=by
  intro OZ Cs;unfold mK at Cs⊢;split at Cs
  ·trivial
  ·obtain⟨v,gM,rfl,iC,hv⟩:=Cs;exact⟨v,gM,rfl,iC,hv.mono (bK.refl w' _) (λb _ hb=>(zO b).1 hb) vP⟩
  ·exact Cs.elim
 cases e with
 | returned v=>exact md _ zt
 | panicked ch=>exact md _ zt
 | outgrown=>exact zt.elim
def EDQ(hs:List Nat)(R:Option V->aI->Prop)(x:AX)(s:St):Prop:=
 match x with
 | .normal|.ret=>(s.pick [] hs).on (keys (s.pick [] hs).L)=true/\R none (s.pick [] hs).L
 | .ix y=>(s.pick [] hs).on (keys (s.pick [] hs).L)=true/\y.on []=true/\R (some y) (s.pick [] hs).L
 | _=>False
theorem av.edq{c hs R}(hh:hs.Nodup)(h:av P n c s (EDQ hs R)):av P n c s (DQ R):=by
 intro fo m a w hr g;refine Code.wpIn_mono (λe a' w' hp=>?_) (h fo m a w hr g);obtain⟨ms,m',x,s',ri,hq,g',he,st⟩:=hp;cases x with
 | normal=>
   obtain⟨m2,g2,oP⟩:=Wk.pick [] hs rfl hh hq.1 (fo.mark ms) m' a' w' g';refine⟨ms,m2,.normal,_,ri,hq.2,g2,?_,st.trans oP⟩;grind[bF]
 | ret=>
   obtain⟨m2,g2,oP⟩:=Wk.pick [] hs rfl hh hq.1 (fo.mark ms) m' a' w' g';refine⟨ms,m2,.ret,_,ri,hq.2,g2,?_,st.trans oP⟩;grind[bF]
 | ix y=>
   obtain⟨m2,g2,oP⟩:=Wk.pick [] hs rfl hh hq.1 (fo.mark ms) m' a' w' g';refine⟨ms,m2,.ix y,_,ri,hq.2.2,g2,?_,st.trans oP⟩;cases e<;>simp[bF]at he⊢
   obtain⟨v,gM,rfl,iC,hv⟩:=he;exact⟨v,gM,rfl,iC,(hv.on (by simp) hq.2.1).mono (Step.rq oP) (Step.sub oP) (λ_ _ e=>e)⟩
 | exit i=>exact hq.elim
 | goto i=>exact hq.elim
attribute [simp] EDQ DQ
theorem av.ur{c}(h:cV P n c s (cp P n Q [])):av P n c s Q:=eg _ _ _ h
end
section
variable {P : Program} {n : Nat} {s : St} {Q : AX -> St -> Prop}
theorem av.ad5{g}{ps:Array Tmp}{assign body}{f}{ei}{xs}
  (J:Nat->aI->Prop) K (L0 Lc:aI) fr (hL0:s.L.Perm (L0++Lc)) (h5:5003∉keys Lc) (hLc:∀p∈Lc,aV.on (keys Lc) p.2=true) (YK:∀p∈L0,aV.on (keys L0) p.2=true) (abp:∀p∈fr,p∈s.fr)
  (hg:s.ev g= .fu (.func f) [] ei) (he:enters P f=true) (Vj:V.dE (keys Lc) ei=true) {KP} (my:U3 KP P f ei Lc xs)
  (Ir:gN assign=false/\gN body=false) (Is:∀(i:Nat) (x:List V),xs[i]?=some x->x.length=ps.size/\V.dE [] x=true) (SI:∀p∈ps.toList,p<n)
  (gv:(keys L0).Nodup) (iy:∀t y,(t,y)∈fr->V.on ((dz L0).map (·.1)) y=true)
  (hKJ:KP->∀L,¬J xs.length L) (hJ0:J 0 L0) (hJl:∀i L,J i L->dz L=dz L0)
  (round:∀(i:Nat) (x:List V) L,xs[i]?=some x->J i L->∃L' Hn,(Hn->J (i+1) L'/\dz L'=dz L0)/\cV P n assign ⟨wF (ps.toList.zip x) fr,L⟩ (AX.then (λs2=>cV P n body s2 (Ip (keys L0) L0 L' Hn fr K)) (λ_ _=>False)))
  (last:∀L,J xs.length L->Q .normal ⟨fr,L⟩) (hK:∀x L,K x ⟨fr,L⟩->Q x ⟨fr,L⟩):av P n (.rangeFunc g ps assign body) s Q:=by
 intro fo m a w hr gG;have nw:fo.r=none:=(hr rfl).1;have As:fo.nm=false:=(hr rfl).2;refine wpIn_rangeFunc (F:=wr fo.r) (n:=0) (P:=P) (λfn _=>?_)
 let r:=w.heap.size
 let wa:=OA w (.deferred (some []))
 let r0:Loop:={state:= .ready,pending:=none,fn,tmps:=a.tmps,params:=ps,assign,body,defers:=r}
 let l:=wa.heap.size
 let w1:=OA wa (.loop r0)
 have hl:l=w.heap.size+1:=Dx _ _;have Cq:w1.heap.size=w.heap.size+2:=by grind[Dx]
 have hi:=gG.inv;have hold:∀b,b<w.heap.size->w1.heap[b]?=w.heap[b]?:=λb hb=>by
  grind[SL,Dx]
 have hrl:w1.heap[r]?=some (.deferred (some [])):=by
  rw[SL (by omega)];exact Lg _ _
 have Li:w1.heap[l]?=some (.loop r0):=Lg _ _;have Cj:=cm gG g;rw[hg]at Cj;obtain⟨fa,ca,ev,s1,s2,g1,g2⟩:=Sw Cj;have O0:fa= #[]:=by grind
 subst O0;refine⟨l,[⟨.collected r,#[]⟩],w1,⟨.fn (.func f) ca,#[.func (.yield l) #[] #[]]⟩,w1,f,#[.func (.yield l) #[] #[]]++ca,w1,?_,?_,λ_ _=>trivial,?_,λh=>by grind[wr,Fence.wide],?_⟩
 ·show(Instr.enterLoop fn a.tmps ps assign body (wr fo.r).round).run P w=_;rw[show(wr fo.r).round=none from nw];rfl
 ·have hcv:∀v,a.eval (.const v)=v:=λ_=>rfl
  simp_all[resolve,rangeCall,Deferred.ofValue]
 ·simp_all[invoke,xR]
 have pA:∀x,x∈keys s.L↔x∈keys L0\/x∈keys Lc:=by
  grind[keys]
 have ajg:(keys L0).Nodup/\(keys Lc).Nodup/\∀x,x∈keys L0->x∉keys Lc:=by
  have hp:(keys s.L).Perm (keys L0++keys Lc):=by grind[keys]
  have:=hp.nodup_iff.1 hi.nodup;grind
 let ml:Nat->Option Value:=λh=>if h∈keys L0 then m h else none
 let mc:Nat->Option Value:=λh=>if h∈keys Lc then m h else none
 have IG:∀h x,ml h=some x->m h=some x/\h∈keys L0:=by
  grind
 have II:∀h x,mc h=some x->m h=some x/\h∈keys Lc:=by
  grind
 have abq:∀h x,h∈keys L0->m h=some x->ml h=some x:=λh x hh hx=>by grind
 have abr:∀h x,h∈keys Lc->m h=some x->mc h=some x:=λh x hh hx=>by grind
 have olm:∀b,own ml b->own m b:=λb ⟨h,x,hx,hb⟩=>⟨h,x,(IG h x hx).1,hb⟩
 have ocm:∀b,own mc b->own m b:=λb ⟨h,x,hx,hb⟩=>⟨h,x,(II h x hx).1,hb⟩
 have abt:∀b,own ml b->own mc b->False:=by
  rintro b ⟨h,x,hx,hb⟩ ⟨h',x',cG,dm⟩;have:=hi.apart h h' x x' b (IG h x hx).1 (II h' x' cG).1 hb dm;grind
 let gV:FO:=⟨λb=>fo.f b\/b=r,[],none,false⟩
 let foB:FO:=⟨λb=>(fo.f b\/b=r)\/own mc b,[],none,false⟩
 let fo2:FO:=⟨λb=>((fo.f b\/b=r)\/own mc b)\/b=l,[],none,false⟩
 have eZ:∀b,own m b->b<w.heap.size:=λb ⟨h,x,hx,hb⟩=>hi.lt hx hb
 have hO2:∀b,b<w.heap.size->OO fo2 ml b->OO fo m b:=by
  rintro b hb (h|(((h|h)|h)|h))
  ·exact .inl (olm b h)
  ·exact .inr h
  ·omega
  ·exact .inl (ocm b h)
  ·omega
 have km:bK w (OO fo m) w1:=⟨by omega,λb hb _=>hold b hb⟩
 have O1:Inv fo2 ml L0 w1:=by
  refine⟨ajg.1,λh x hx=>(IG h x hx).2,λh h' x x' b hx cG hb dm=>hi.apart h h' x x' b (IG h x hx).1 (IG h' x' cG).1 hb dm,?_,?_,?_,hi.ef.mono km hO2⟩
  ·rintro h x b hx hb (((h'|h')|h')|h')
   ·exact hi.others h x b (IG h x hx).1 hb h'
   ·have:=hi.lt (IG h x hx).1 hb;omega
   ·exact abt b ⟨h,x,hx,hb⟩ h'
   ·have:=hi.lt (IG h x hx).1 hb;omega
  ·rintro b (((h'|h')|h')|h')
   ·have:=hi.ej b h';omega
   ·omega
   ·grind
   ·omega
  ·intro h q hq;obtain⟨x,hx,hh⟩:=hi.holds h q (hL0.mem_iff.2 (apf _ hq));have hk:h∈keys L0:=aoQ.2 ⟨_,hq,rfl⟩;exact⟨x,abq h x hk hx,(hh.on abq (YK _ hq)).mono (λb hb=>hold b (hi.lt hx hb)) km hO2 (λ_ _ e=>e)⟩
 let B:=pc r0 l fr (λst pd L=>st= .done/\∃c x,pd=some c/\Dw pd x/\K x ⟨fr,L⟩)
 let A:Nat->Env:=λi=>pc r0 l fr (λst pd L=>(st= .ready/\pd=none/\dz L=dz L0)/\J i L)
 have Yb:∀h,h∈(dz L0).map (·.1)->h∈keys L0:=by
  intro h hh;obtain⟨p,hp,rfl⟩:=aoQ.1 hh;obtain⟨ty,cs,hm⟩:=nf (h:=p.1) (b:=p.2) hp;exact aoQ.2 ⟨_,hm,rfl⟩
 have ahh:∀t y,(t,y)∈fr->aB w1 (OO fo2 ml) ml (r0.tmps.getD t undef) y:=λt y hy=>(((gG.fr t y (abp _ hy)).2.on (λh x hh hx=>abq h x (Yb h hh) hx) (iy t y hy))).mono km hO2 (λ_ _ e=>e)
 have ajh:¬foB.f l:=by
  rintro((h|h)|h)
  ·have:=hi.ej _ h;omega
  ·omega
  grind
 have hbB:Inv foB (one (x6 l L0 ml)) [(5003,.env (A 0))] w1:=
  Io (fo:=foB) (fo':=fo2) (λb h=> .inl h) (.inr rfl) ajh O1 ⟨⟨rfl,rfl,rfl⟩,hJ0⟩ Li ahh
 let m1:Nat->Option Value:=λh=>if h=5003 then some (x6 l L0 ml)else mc h
 have lZ:∀h x,m1 h=some x->(h=5003/\x=x6 l L0 ml)\/(h≠5003/\mc h=some x):=by
  grind
 have Vk:∀h x,mc h=some x->m1 h=some x:=by
  grind
 have tG:=λb=>uM (l:=l) (L:=L0) (m:=ml) O1.fI b
 have afG:∀b,own m1 b↔(b=l\/own ml b)\/own mc b:=by
  intro b;constructor
  ·rintro⟨h,x,hx,hb⟩;rcases lZ h x hx with⟨rfl,rfl⟩|⟨_,hx⟩
   ·grind
   ·exact .inr ⟨h,x,hx,hb⟩
  ·rintro(h|⟨h,x,hx,hb⟩)
   ·exact⟨5003,_,by rfl,(tG b).2 h⟩
   ·exact⟨h,x,Vk h x hx,hb⟩
 have aji:∀b,OO gV m1 b↔OO foB (one (x6 l L0 ml)) b:=by
  grind[OO,JV]
 have Vl:∀b,b<w.heap.size->OO gV m1 b->OO fo m b:=by
  intro b hb ho;rcases ho with ho|ho
  ·rcases(afG b).1 ho with(rfl|h)|h
   ·omega
   ·exact .inl (olm b h)
   ·exact .inl (ocm b h)
  ·rcases ho with h|h
   ·exact .inr h
   ·omega
 have C2:Inv gV m1 ((5003,.env (A 0))::Lc) w1:=by
  refine⟨?_,?_,?_,?_,?_,?_,hi.ef.mono km Vl⟩
  ·grind[keys,List.nodup_cons]
  ·intro h x hx;rcases lZ h x hx with⟨rfl,_⟩|⟨_,hx⟩
   ·simp
   ·exact aoW _ (II h x hx).2
  ·intro h h' x x' b hx cG hb dm;rcases lZ h x hx with⟨rfl,rfl⟩|⟨_,hx⟩<;>rcases lZ h' x' cG with⟨rfl,rfl⟩|⟨_,cG⟩
   ·rfl
   ·rcases(tG b).1 hb with rfl|h1
    ·have:=hi.lt (II h' x' cG).1 dm;omega
    ·exact(abt b h1 ⟨h',x',cG,dm⟩).elim
   ·rcases(tG b).1 dm with rfl|h1
    ·have:=hi.lt (II h x hx).1 hb;omega
    ·exact(abt b h1 ⟨h,x,hx,hb⟩).elim
   ·exact hi.apart h h' x x' b (II h x hx).1 (II h' x' cG).1 hb dm
  ·intro h x b hx hb hf;rcases lZ h x hx with⟨rfl,rfl⟩|⟨_,hx⟩
   ·rcases(tG b).1 hb with rfl|⟨i,z,hz,hzb⟩
    ·grind
    ·rcases hf with h|h
     ·exact hi.others i z b (IG i z hz).1 hzb h
     grind
   ·rcases hf with h'|h'
    ·exact hi.others h x b (II h x hx).1 hb h'
    ·have:=hi.lt (II h x hx).1 hb;omega
  ·rintro b (h|h)
   ·have:=hi.ej b h;omega
   ·omega
  ·intro h q hq;rcases ao0.1 hq with e|hq
   ·simp only[aoI]at e;obtain⟨rfl,rfl⟩:=e;obtain⟨x,hx,hh⟩:=hbB.holds 5003 _ aoZ;have cG:x=x6 l L0 ml:=by grind[one]
    subst cG;exact⟨_,by rfl,hh.mono (λ_ _=>rfl) (bK.refl w1 _) (λb _ hb=>(aji b).1 hb) (λi z hz=>by
     by_cases e:i=5003
     ·grind
     ·simp only[one,if_neg e]at hz;cases hz)⟩
   ·obtain⟨x,hx,hh⟩:=hi.holds h q (hL0.mem_iff.2 (apn _ hq));have hk:h∈keys Lc:=aoQ.2 ⟨_,hq,rfl⟩;exact⟨x,Vk h x (abr h x hk hx),((hh.on abr (hLc _ hq)).mono (λb hb=>hold b (hi.lt hx hb)) km Vl Vk)⟩
 have pK:=my l A B (λi x hx=>?_) (λhk w O x hA=>by obtain⟨st,pd,L,m,⟨-,hJ⟩,-⟩:=hA;grind)
 ·have ob:ir w1 (OO gV m1) m1 (#[.func (.yield l) #[] #[]]++ca) (yv l::ei):=by
   have h1:ir w1 (OO gV m1) m1 #[.func (.yield l) #[] #[]] [yv l]:=by
    refine⟨rfl,λj x y hx hy=>?_⟩
    match j with
    | 0=>
      simp only[ape,anc]at hy;have cG:x= .func (.yield l) #[] #[]:=by grind
      subst hy;subst cG;exact .d _ _ (.v _ rfl)
    | j+1=>grind
   refine h1.append (ys':=ei) ⟨s2,λj x y hx hy=>?_⟩;exact((g2 j x y hx hy).on abr (fQ Vj y (aoO hy))).mono km Vl Vk
  have hc:=pK gV m1 w1 _ C2 ob;refine Gq (hc.mono ?_);rintro e w3 ⟨m',rr,L',⟨⟨y,rfl⟩,hL'⟩,zt,hi3,x8⟩;have ajj:¬own m1 r:=by
   grind
  have SD:w3.heap[r]?=some (.deferred (some [])):=by rw[x8.block r (by omega) ajj];omega
  have ahi:∀b,own m1 b->b=l\/own m b:=λb h=>by
   grind
  have fin:∀st pd L m2,st≠ .busy→w3.heap[l]?=some (.loop {r0 with state:=st,pending:=pd})→Inv ⟨fun b=>gV.f b∨b=l,[],none,false⟩ m2 L w3→(∀t y,(t,y)∈fr→aB w3 (OO ⟨fun b=>gV.f b∨b=l,[],none,false⟩ m2) m2 (r0.tmps.getD t undef) y)→(∀b,own m' b↔b=l∨own m2 b)→
    ∃w4,(Instr.endLoop l).run P w3= .ok pd w4/\G (fo.mark [r]) n m2 ⟨fr,L⟩ {a with defers:=[⟨.collected r,#[]⟩]++a.defers} w4/\Step w (own m) w4 (own m2)/\Marks fo.nm w w4 [r]:=by
   intro st pd L m2 bQ sn DH Oz YL;have hl3:l<w3.heap.size:=(aoY.1 sn).1;refine⟨nL w3 l (.loop {r0 with state:= .exhausted,pending:=pd}),?_,?_,?_,?_⟩
   ·simp[Instr.endLoop,Instr.getLoop,Sem.run_bind,xP sn (by simp),A7 sn (by simp),bQ]
   ·have g4:G (⟨λb=>gV.f b\/b=l,⟨.collected r,#[]⟩::fo.D,fo.r,fo.nm⟩:FO) n m2 ⟨fr,L⟩ {a with defers:=[⟨.collected r,#[]⟩]++a.defers} w3:=
     ⟨gG.size,λt y hy=>⟨(gG.fr t y (abp _ hy)).1,Oz t y hy⟩,⟨DH.nodup,DH.fI,DH.apart,DH.others,DH.ej,DH.holds,DH.ef⟩,by simp[gG.defers]⟩
    have g5:=g4.others (w':=nL w3 l (.loop {r0 with state:= .exhausted,pending:=pd})) (by simp[jr,aoT]) (λb _ hb=>qM (λe=>hb (.inr e)));have jT:∀b,(fo.mark [r]).f b->(λb=>gV.f b\/b=l) b:=by
     rintro b (h|h)
     ·grind
     grind
    refine⟨g5.size,λt y hy=>⟨(g5.fr t y hy).1,(g5.fr t y hy).2.mono (bK.refl _ _) (λb _ hb=>hb.imp id (jT b)) (λ_ _ e=>e)⟩,g5.inv.less jT,?_⟩;simp[FO.mark,gG.defers]
   ·refine⟨?_,?_,?_,?_,λb hb ho=>?_,λb hb ho=>?_⟩
    ·show w3.os=w.os;exact x8.os
    ·show w3.tape=w.tape;exact x8.tape
    ·show w3.output=w.output;exact x8.output
    ·grind[jr]
    ·rw[qM (by omega),x8.block b (by omega) (λh=>(ahi b h).elim (λh=>by omega) ho)];grind
    ·have h1:=x8.owned b (by omega) ((YL b).2 (.inr ho));grind
   ·refine⟨⟨by simp,by grind⟩,λb hb=>?_⟩;obtain rfl:b=r:=by grind
    exact⟨aoT _,by grind[qM]⟩
  cases e with
  | returned v=>
    rcases hL' with rfl|rfl
    ·obtain⟨st,pd,L,m2,⟨⟨rfl,rfl,od⟩,hJ⟩,sn,DH,Oz,YL,_⟩:=GZ hi3 [] none;obtain⟨w4,h1,h2,h3,h4⟩:=fin _ _ L m2 (by simp) sn DH Oz YL;exact⟨none,w4,h1,[r],m2,.normal,_,h4,last L hJ,h2,trivial,h3⟩
    ·obtain⟨st,pd,L,m2,⟨rfl,c,x,rfl,hj,hKx⟩,sn,DH,Oz,YL,_⟩:=GZ hi3 [] none;obtain⟨w4,h1,h2,h3,h4⟩:=fin _ _ L m2 (by simp) sn DH Oz YL;refine⟨some c,w4,h1,?_⟩;have hq:=hK x L hKx;show Code.wpIn (wr fo.r) 0 P c _ _ w4;cases c<;>cases x<;>simp only[Dw]at hj
     all_goals first
      | exact wpIn_ret (show fZ fo n m w Q .ret _ _ from⟨[r],m2,_,_,h4,hq,h2,trivial,h3⟩)
      | (subst hj;exact wpIn_exit (show fZ fo n m w Q (.exit _) _ _ from⟨[r],m2,_,_,h4,hq,h2,rfl,h3⟩))
      | (subst hj;exact wpIn_goto (show fZ fo n m w Q (.goto _) _ _ from⟨[r],m2,_,_,h4,hq,h2,rfl,h3⟩))
  | panicked ch=>grind[Ends]
  | outgrown=>grind[Ends]
 ·obtain⟨iQ,Cn⟩:=Is i x hx;refine Mv (r0:=r0) (l:=l) (fr:=fr) (L0:=L0) (K:=K) Ir gG.size iQ SI Cn (λt y hy=>⟨(gG.fr t y (abp _ hy)).1,iy t y hy⟩) (λst pd L h=>h.1) ?_ gv ?_
  ·rintro st pd L ⟨⟨rfl,rfl,od⟩,hj⟩;obtain⟨L',Hn,h1,h2⟩:=round i x L hx hj;exact⟨L',Hn,λh=>⟨⟨⟨rfl,rfl,(h1 h).2⟩,(h1 h).1⟩,(h1 h).2⟩,h2⟩
  ·intro pd x' L hj od hKx;cases pd with
   | none=>grind[Dw]
   | some c=>grind
theorem av.AA{α:Type}{g}{ps}{assign body}{f}{ei}{ks}(hs ts:List Nat) l e(R:List α→List (Nat×aV))(H:List α→Prop)
  {KP} (my:U3 KP P f ei (s.L.filter λp=>hs.contains p.1) (l.map e)) (hg:s.ev g= .fu (.func f) [] ei) (he:enters P f=true) (Vj:V.dE (keys (s.L.filter λp=>hs.contains p.1)) ei=true)
  (Ir:gN assign=false/\gN body=false) (Is:∀x∈l,(e x).length=ps.size/\V.dE [] (e x)=true) (SI:ps.toList.all (λp=>decide (p<n))=true) (ht:ts.all (λt=>decide (t<n))=true)
  (h0:(keys (s.L.filter λp=>!hs.contains p.1)).Nodup/\((s.L.filter λp=>!hs.contains p.1).all (λp=>aV.on (keys (s.L.filter λp=>!hs.contains p.1)) p.2)=true/\(s.L.filter λp=>hs.contains p.1).all (λp=>aV.on (keys (s.L.filter λp=>hs.contains p.1)) p.2)=true/\(keys (s.L.filter λp=>hs.contains p.1)).contains 5003=false)/\(ts.all λt=>V.on ((dz (s.L.filter λp=>!hs.contains p.1)).map (·.1)) (eX t s.fr))=true/\(s.L.filter λp=>!hs.contains p.1)=Im (s.L.filter λp=>!hs.contains p.1) (R [])/\H [])
  (od:∀pre,dz (Im (s.L.filter λp=>!hs.contains p.1) (R pre))=dz (s.L.filter λp=>!hs.contains p.1))
  (round:∀pre x post,l=pre++x::post->H pre->cV P n assign ⟨wF (ps.toList.zip (e x)) (ts.map λt=>(t,eX t s.fr)),Im (s.L.filter λp=>!hs.contains p.1) (R pre)⟩
   (cp P n (λ_ _=>False) [.inv (λs2=>cV P n body s2 (cp P n (Ip (keys (s.L.filter λp=>!hs.contains p.1)) (s.L.filter λp=>!hs.contains p.1) (Im (s.L.filter λp=>!hs.contains p.1) (R (pre++ [x]))) (H (pre++ [x])) (ts.map λt=>(t,eX t s.fr)) (cp P n Q ks)) []))]))
  (last:H l->cp P n Q ks .normal ⟨ts.map λt=>(t,eX t s.fr),Im (s.L.filter λp=>!hs.contains p.1) (R l)⟩) (hKH:KP->¬H l:=by exact λh=>h.elim):av P n (.rangeFunc g ps assign body) s (cp P n Q ks):=by
 obtain⟨h1,h2,h3,h4,h5⟩:=h0
 let s1:St:=⟨(ts.map λt=>(t,eX t s.fr))++s.fr,s.L⟩
 have hw:Wk n s s1:=by
  intro fo m a w gG;refine⟨m,⟨gG.size,λt x hx=>?_,gG.inv,gG.defers⟩,Step.refl w _⟩;rcases ao1.1 hx with hx|hx
  ·obtain⟨t',Sv,e⟩:=aoQ.1 hx;simp only[aoI]at e;obtain⟨rfl,rfl⟩:=e;rw[aoP]at ht;refine⟨by grind,?_⟩;exact qI gG t'
  ·exact gG.fr t x hx
 have ajk:∀t,eX t s1.fr=eX t s.fr:=by
  intro t;show eX t ((ts.map λt=>(t,eX t s.fr))++s.fr)=_;clear hw h2 h3 ht round last
  induction ts with
  | nil=>rfl
  | cons u ts ih=>
    simp_all
 have OY:s1.ev g= .fu (.func f) [] ei:=by
  simp_all
 refine av.weaken hw ?_;refine av.ad5 (J:=λi L=>L=Im (s.L.filter λp=>!hs.contains p.1) (R (l.take i))/\H (l.take i)) (K:=cp P n Q ks) (s.L.filter λp=>!hs.contains p.1) (s.L.filter λp=>hs.contains p.1) (ts.map λt=>(t,eX t s.fr)) ((apE (λp=>hs.contains p.1) s.L).symm.trans List.perm_append_comm) (by grind) (λp hp=>aoP.1 h2.2.1 p hp) (λp hp=>aoP.1 h2.1 p hp) (λp hp=>apf _ hp) OY he Vj my Ir ?_ ?_ h1 ?_ (λhk L h=>hKH hk (by grind)) ?_ ?_ ?_ ?_ ?_
 ·grind
 ·grind
 ·grind
 ·grind
 ·grind
 ·rintro i x L hx ⟨rfl,hH⟩;rw[aoN]at hx;obtain⟨z,hz,rfl⟩:=aoJ.1 hx;have aw:i<l.length:=(aoL.1 hz).1;have bx:l=l.take i++z::l.drop (i+1):=by
   grind[List.drop_eq_getElem_cons,List.getElem?_eq_getElem,Option.some.injEq,List.take_append_drop]
  have xL:l.take (i+1)=l.take i++ [z]:=by grind
  refine⟨Im (s.L.filter λp=>!hs.contains p.1) (R (l.take i++ [z])),H (l.take i++ [z]),λh=>⟨by grind,od _⟩,?_⟩;have hr:=round _ z _ bx hH;exact hr
 ·rintro L ⟨rfl,hH⟩;rw[ao8,apl]at *;exact last hH
 ·intro x L h;exact h
end
section
variable {P : Program} {n : Nat} {s : St} {Q : AX -> St -> Prop} {ops : Array Oper}
theorem au.acZ{o:Oper}{rest}{x y}{t e ty}{kc}{xs}(aD:o.op= .binOp .eql t x y ty)(ht:nC P t=some (e,kc))(hx:s.ev x= .d (.sl xs))(hy:s.ev y= .d (.v (.slice none 0 0)))(hg:o.guard=none)(hd:∀d,o.dst=some d→d < n)
  (k:∀b:Bool,(b=true->xs=[])->au P n ops rest (s.put o.dst (oD b)) Q):au P n ops (o::rest) s Q:=by
 intro fo m0 w0 m a w st g;have hu:P.underlying t=some (.slice e):=by
  grind[nC,Option.map_eq_some_iff,Prod.mk.injEq]
 have h1:=cm g x;rw[hx]at h1;obtain⟨ad,cap,hv,_,_,kk,b,off,f,ha,_⟩:=h1.kR.oJ;have h2:=cm g y;rw[hy]at h2;have KX:=h2.cy;unfold wpListIn;rw[if_pos (by simp[Region.wanted,hg])];have bw:(execOp a.eval o).run P w= .ok (.value (.bool ad.isNone)) w:=by
  simp_all[Lib.run_eql_slice_nil,execOp,eqGuard]
 refine wW bw (.inl rfl) ?_;refine k ad.isNone (λhb=>?_) fo m0 w0 m _ w st (g.put hd (.d _ _ (.v _ rfl)));grind
theorem afH ks(ty k:Nat) ys:aV.on ks (.row ty k (dd ys))=true:=by
 simp
theorem aE.abu{f}{args}{L}{ys}{ty}{k} h
  (hyp:aE P f args L (λr L'=>(r= .ret (.d (.v (.slice none 0 0)))/\L'=[]/\ys=[])\/(∃g,r= .ret (.rv g)/\L'=[(g,.row ty k (dd ys))]))):
  aE P f args L (λr L'=>r= .ret (.rv h)/\L'=[(h,.row ty k (dd ys))]):=by
 intro fo m w xs hi hx;refine(hyp fo m w xs hi hx).mono ?_;rintro e w' ⟨m',r,L',hR,he,cn,st⟩;rcases hR with⟨rfl,rfl,rfl⟩|⟨g,rfl,rfl⟩
 ·cases e with
  | returned v=>
    obtain rfl:=he.cy;have ajl:=cn.new (h:=h) (by simp) (x:= .slice none 0 0) (r:= .row ty k []) (aoT _) (λ_ _=>rfl) (by simp[dn,jJ]) (.inl ⟨rfl,rfl⟩);refine⟨_,_,_,⟨rfl,rfl⟩,.rv h _ (cr _ _) rfl,by simpa using ajl,⟨st.os,st.tape,st.output,st.size,st.block,λb hb ho=>st.owned b hb ?_⟩⟩;obtain⟨i,y,hy,x7⟩:=ho;by_cases kI:i=h
    ·subst kI;rw[cr]at hy;grind[dn,jJ]
    ·rw[eA _ kI]at hy;exact⟨i,y,hy,x7⟩
  | panicked c=>simp_all[Ends]
  | outgrown=>simp_all[Ends]
 ·cases e with
  | returned v=>
    have hv:m' g=some v/\v.oneCell'=true:=by
     cases he with
     | rv _ _ e e1=>grind
    let m2:Nat->Option Value:=λi=>if i=h then some v else none
    have s9:∀i x,m2 i=some x->i=h/\x=v:=by
     grind
    have eZ:∀b,own m2 b->own m' b:=by
     rintro b ⟨i,x,hx,hb⟩;obtain⟨rfl,rfl⟩:=s9 i x hx;exact⟨g,_,hv.1,hb⟩
    have hO:∀b,OO fo m2 b->OO fo m' b:=λb hb=>hb.imp (eZ b) id
    refine⟨m2,_,_,⟨rfl,rfl⟩,.rv h v (by grind) hv.2,⟨by simp,?_,?_,?_,cn.ej,?_,cn.ef.mono (bK.refl w' _) (λb _ hb=>hO b hb)⟩,⟨st.os,st.tape,st.output,st.size,st.block,λb hb ho=>st.owned b hb (eZ b ho)⟩⟩
    ·intro i x hx;obtain⟨rfl,_⟩:=s9 i x hx;simp
    ·grind
    ·intro i x b hx hb;obtain⟨rfl,rfl⟩:=s9 i x hx;exact cn.others g _ b hv.1 hb
    ·intro i q hq;simp only[aqh,aoI]at hq;obtain⟨rfl,rfl⟩:=hq;obtain⟨z,hz,hh⟩:=cn.holds g _ aoZ;rw[hv.1]at hz;obtain rfl:=aoK hz;exact⟨v,by grind,(hh.on (ks:=[]) (m':=m2) (by simp) (afH [] ty k ys)).mono (λ_ _=>rfl) (bK.refl w' _) (λb _ hb=>hO b hb) (λ_ _ e=>e)⟩
  | panicked c=>simp_all[Ends]
  | outgrown=>simp_all[Ends]
theorem aE.wk{f args L R R'}(h:aE P f args L R)(hw:∀r L',R r L'->∃x x2 L2,r= .ret x/\Wk 1 ⟨[(0,x)],L'⟩ ⟨[(0,x2)],L2⟩/\R' (.ret x2) L2):aE P f args L R':=by
 intro fo m w xs hi hx;refine(h fo m w xs hi hx).mono ?_;rintro e w' ⟨m',r,L',hR,he,cn,st⟩;obtain⟨x,x2,L2,rfl,hwk,hR'⟩:=hw r L' hR;cases e with
 | returned v=>
   simp[Ends]at he;have g:G fo 1 m' ⟨[(0,x)],L'⟩ {tmps:= #[v],defers:=fo.D} w':=by
    refine⟨rfl,λt y hy=>?_,cn,rfl⟩;simp_all
   obtain⟨m2,g2,oP⟩:=hwk fo m' _ w' g;exact⟨m2,_,L2,hR',(g2.fr 0 x2 aoZ).2,g2.inv,st.trans oP⟩
 | panicked c=>simp_all[Ends]
 | outgrown=>simp_all[Ends]
end
theorem ia(h:Nat)(l:List Int)(hl:l.length *8<=140737488355328):aE prog 34 [.d (.sl (aC l))] [] (λr L=>r= .ret (.rv h)/\L=[(h,.row 3 1 (dd (aC l)))]):=by
 refine aE.abu h ?_;refine aE.run func34 rfl (by simp[f34]) ?_;simp[f34];refine au.acZ rfl (by simp;exact⟨rfl,rfl⟩) rfl rfl rfl (by simp) ?_;intro b hb;refine au.nil ?_;cases b with
 | true=>
   have hl:l=[]:=by have:=hb rfl;simpa[aC]using this
   subst hl;simp[-cB,aC]
 | false=>
   simp[-cB];exact hl
theorem dL(w:aj)(x:Int):Pure prog 209 [.agg (w.enc.map .d),iD x] (oD (bY w.ae.length x)):=by
 refine rn func209 ?_;simp[-cB,f209];simp[bY]
def J7(w:aj)(x:Int):aI:=[(5201,.box 0 34 (w.enc.map .d)),(5202,.box 0 3 [iD x])]
theorem YM(w:aj)(x:Int):aE prog 243 [.agg (w.enc.map .d),iD x] [] (λr L=>r= .ret (.fu (.func 277) [] [.bp 5201 0,.bp 5202 0])/\L=J7 w x):=by
 refine aE.wk (R:=λr L=>r= .ret (.fu (.func 277) [] [.bp 2 0,.bp 3 0])/\∃b2 b3,L=[(3,.box b3 3 [iD x]),(2,.box b2 34 (w.enc.map .d))]) ?_ ?_
 ·refine aE.run func243 rfl (by simp[f243]) ?_;simp[f243]
 ·rintro r L ⟨rfl,b2,b3,rfl⟩;refine⟨_,_,_,rfl,((Wk.tt [2,3]).trans ((Wk.eS 2 5201 (by simp[keys])).trans ((Wk.eS 3 5202 (by simp[keys])).trans (Wk.pick [0] [5201,5202] (by simp) (by decide) ?_)))),?_⟩
  ·simp
  ·simp[J7,St.pick]
theorem SU(w:aj)(hw:w.wf)(x:Int):Iter prog 277 [.bp 5201 0,.bp 5202 0] (J7 w x) ((ik w.tree x).map λi=> [iD i]):=by
 intro l A B hy _;have hl:=aj.fW hw;have e1:w.tree.bl=w.ae:=rfl;unfold ik at hy⊢;rw[e1]at hy⊢;unfold J7;generalize ma:bH w.ae w.ae.length w.ae.length x=ch at *;refine aE.x5 [5003] (by simp) func277 rfl (by simp[f277]) ?_;simp[f277];refine av.cI [0,1,2,4] w.ae.length (λi=> [(4,iD ((w.ae.length:Int)-i))]) (λi=> [(5003,.env (A i)),(5202,.box 0 3 [iD (cF w.ae i x)])]) (λi=>∀j<i,bY w.ae.length (cF w.ae j x)=true) (by rfl) (by simp[cF]) ?_;intro i hi hH;have hs:=fA w.ae i x;have lV:=Bl w.ae i x;rcases aoR hi with aw|rfl
 ·have a4:aN .i64 ((w.ae.length:Int)-i-1):=iW;cases hT:bY w.ae.length (cF w.ae i x)with
  | false=>
    have bQ:=fk hH (.inl hT) hi;rw[ma]at bQ;simp[-cB];refine pC (dL w _) ?_;simp[-cB,hT];refine au.guarded (b:=false) (x:=oD false) rfl (by simp) (λh=>by cases h) ?_;refine bn _ _ [] (by rfl) ?_;simp[-cB,bQ,lV]
  | true=>
    have hg:=nh hT;have nW:=er hT;have hb:=aY.1 hT;have mH:∀j<i+1,bY w.ae.length (cF w.ae j x)=true:=λj hj=>by
     rcases apZ j i with h|h
     ·exact hH j h
     ·rw[show j=i by omega];exact hT
    have SP:ch[i]?=some (cF w.ae i x):=by
     have:=vE w.ae w.ae.length (i+1) (w.ae.length-(i+1)) x mH;rw[show i+1+(w.ae.length-(i+1))=w.ae.length by omega,ma]at this;rw[this,apq (by simp)];simp
    have YN:tF prog l [iD (cF w.ae i x)] [(5003,.env (A i))] (YR (A (i+1)) B):=hy i _ (by rw[aoN,SP];rfl);simp[-cB];refine pC (dL w _) ?_;simp[-cB,hT,aw];refine au.Yt ((λ_:true=true=>YN)) rfl (by simp) (by simp) (by simp[sV]) (by simp) (by simp) rfl (by simp[keys]) rfl (by simp) (by simp) ?_ ?_ ?_
    ·intro _ bL;simp[-cB,List.filter,hs,hg,nW,a4];exact⟨by omega,aw,by omega,mH⟩
    ·intro _ bL;simp[-cB,List.filter]
    ·intro hr;cases hr
 ·have bQ:=fk hH (.inr rfl) hi;rw[ma]at bQ;simp[-cB];refine pC (dL w _) ?_;simp[-cB];refine au.guarded (b:=false) (x:=oD false) rfl (by simp) (λh=>by cases h) ?_;refine bn _ _ [] (by rfl) ?_;simp[-cB,bQ,lV]
theorem IJ(w:aj)(hw:w.wf)(x:Int):Pure prog 198 [.agg (w.enc.map .d),iD x] (iD (dw w.tree x)):=by
 unfold dw;have my:=SU w hw x;have hu:=YM w x;unfold J7 at my hu;generalize ik w.tree x=us at *;refine rn func198 ?_;simp[-cB,f198];intro bs KU;refine eD [] hu ?_;simp[-cB];refine av.AA [5201,5202] [5] us (λi=> [iD i]) (λpre=> [(5,.box (KU 0+1) 3 [iD (pre.getLastD 0)])]) (λ_=>True) (by simpa[List.filter]using my) rfl (by simp) (by simp[List.filter]) (by simp[gN]) (by simp) (by rfl) (by rfl) (by simp[List.filter]) (by simp[List.filter]) ?_ ?_
 ·rintro pre y post bx -;simp[-cB,List.filter]
 ·intro _;simp[-cB,List.filter]
theorem YO(w:aj)(hw:w.wf)(x y:Int):Pure prog 283 [.agg (w.enc.map .d),iD x,iD y] (oD (decide (y∈ik w.tree x))):=by
 have my:=SU w hw x;have hu:=YM w x;unfold J7 at my hu;generalize ik w.tree x=us at *;refine rn func283 ?_;simp[-cB,f283];intro bs;refine eD [] hu ?_;simp[-cB];refine av.AA [5201,5202] [5,6] us (λi=> [iD i]) (λpre=> []) (λpre=>y∉pre) (by simpa[List.filter]using my) rfl (by simp) (by simp[List.filter]) (by simp[gN]) (by simp) (by rfl) (by rfl) (by simp[List.filter]) (by simp[List.filter]) ?_ ?_
 ·rintro pre z post bx hH;by_cases hz:z=y
  ·subst hz;simp[-cB,List.filter,bx]
  ·simp[-cB,List.filter,hz,hH];exact λh=>hz h.symm
 ·intro hH;simp[-cB,List.filter,hH]
section
variable {P : Program} {n : Nat} {s : St} {Q : AX -> St -> Prop} {L : aI}
theorem au.jh{ops}{o:Oper}{rest}{c}{f}{args}{L1 L2:aI}{R} fr(hg:o.guard=none)(hd:∀d,o.dst=some d→d < n)
  (aD:o.op= .call c) (hc:callee s.ev c=some (f,args)) (he:enters P f=true) (ho:V.dE (keys L1) args=true) (hL:s.L.Perm (L1++L2)) (ij:L1.all (λp=>aV.on (keys L1) p.2)=true)
  (iy:∀p∈fr,p∈s.fr/\V.on (keys L2++(L1.filterMap λp=>match p.2 with|.box (_+1) _ _=>some p.1|_=>none)) p.2=true)
  (iS:∀p∈L2,aV.on (keys L2++(L1.filterMap λp=>match p.2 with|.box (_+1) _ _=>some p.1|_=>none)) p.2=true)
  (h:aE P f args L1 R)
  (qP:∀r bq,R r bq->(∃x,r= .ret x)/\(∀k∈keys bq,k∉keys L2)/\∀k b ty cs,(k,aV.box (b+1) ty cs)∈L1->∃lY jA,(k,aV.box (b+1) lY jA)∈bq)
  (k:∀x bq,R (.ret x) bq->au P n ops rest (St.put ⟨fr,bq++L2⟩ o.dst x) Q):au P n ops (o::rest) s Q:=by
 intro fo m0 w0 m a w st g;unfold wpListIn;rw[if_pos (by simp[Region.wanted,hg])];refine zd aD hc he ho hL ij iS h qP g λx bq mm v w' hR we hinv qg gT cQ sS=>?_
 have g':G fo n mm ⟨fr,bq++L2⟩ a w':=⟨g.size,λt y hy=>by
  obtain⟨q0,q3⟩:=iy _ hy;obtain⟨q1,q2⟩:=g.fr t y q0;exact⟨q1,(q2.on gT q3).mono cQ sS (λ_ _ e=>e)⟩,hinv,g.defers⟩
 exact k x bq hR fo m0 w0 mm _ w' (st.trans qg) (g'.put hd we)
theorem au.afI{ops}{o:Oper}{rest}{c}{f}{args}{L1 bq}{x}(hs:List Nat)(aD:o.op= .call c)(h:aE P f args L1 (fun r L=>r= .ret x∧L=bq))(hc:callee s.ev c=some (f,args))(hg:o.guard=none)
  (hd:∀d,o.dst=some d->d<n) (hr:dG n rest=true) (he:enters P f=true) (hL:s.L.filter (λp=>hs.contains p.1)=L1)
  (ho:V.dE (keys L1) args=true/\L1.all (λp=>aV.on (keys L1) p.2)=true/\L1.all (λp=>match p.2 with|.box (_+1) _ _=>false|_=>true)=true)
  (iS:(s.L.filter λp=>!hs.contains p.1).all (λp=>aV.on (keys (s.L.filter λp=>!hs.contains p.1)) p.2)=true)
  (hk:(keys bq).all (λk=>!(keys (s.L.filter λp=>!hs.contains p.1)).contains k)=true)
  (k:∀bs,eR P ops rest (St.put ⟨s.fr.filter λp=>V.on (keys (s.L.filter λp=>!hs.contains p.1)) p.2,bq++s.L.filter λp=>!hs.contains p.1⟩ o.dst x) bs [] (KK P n ops Q)):au P n ops (o::rest) s Q:=by
 have hb:(L1.filterMap λp=>match p.2 with|.box (_+1) _ _=>some p.1|_=>none)=[]:=by
  grind[List.filterMap_eq_nil_iff,List.all_eq_true]
 refine au.jh (s.fr.filter λp=>V.on (keys (s.L.filter λp=>!hs.contains p.1)) p.2) hg hd aD hc he ho.1 (by subst hL;exact(apE _ s.L).symm) ho.2.1 ?_ ?_ h ?_ ?_
 ·grind
 ·grind
 ·grind
 ·rintro x' uH ⟨e,rfl⟩;obtain rfl:=AE.ret.inj e;exact bn rest _ [] hr k
end
def qn(w:aj)(x:Int):aI:=[(5201,.box 0 34 (w.enc.map .d)),(5202,.box 0 3 [iD x])]
theorem F0(w:aj)(x:Int):aE prog 245 [.agg (w.enc.map .d),iD x] [] (λr L=>r= .ret (.fu (.func 279) [] [.bp 5201 0,.bp 5202 0])/\L=qn w x):=by
 refine aE.wk (R:=λr L=>r= .ret (.fu (.func 279) [] [.bp 2 0,.bp 3 0])/\∃b2 b3,L=[(3,.box b3 3 [iD x]),(2,.box b2 34 (w.enc.map .d))]) ?_ ?_
 ·refine aE.run func245 rfl (by simp[f245]) ?_;simp[f245]
 ·rintro r L ⟨rfl,b2,b3,rfl⟩;refine⟨_,_,_,rfl,((Wk.tt [2,3]).trans ((Wk.eS 2 5201 (by simp[keys])).trans ((Wk.eS 3 5202 (by simp[keys])).trans (Wk.pick [0] [5201,5202] (by simp) (by decide) ?_)))),?_⟩
  ·simp
  ·simp[qn,St.pick]
theorem DI(w:aj)(hw:w.wf)(hC:w.Child.length=w.ae.length)(hN:w.Next.length=w.ae.length)(x:Int):Iter prog 279 [.bp 5201 0,.bp 5202 0] (qn w x) ((br w.tree x).map λi=> [iD i]):=by
 intro l A B hy _;have hl:=aj.fW hw;have e1:w.tree.bl=w.ae:=rfl;have e2:w.tree.gi=w.Child:=rfl;have e3:w.tree.gk=w.Next:=rfl;unfold br at hy⊢;rw[e1,e2,e3]at hy⊢;unfold qn;cases hx:bY w.ae.length x with
 | false=>
   simp only[hx]at hy⊢;refine aE.x5 [5003] (by simp) func279 rfl (by simp[f279]) ?_;simp[f279];refine pC (dL w _) ?_;simp[hx]
 | true=>
   simp only[hx,if_true]at hy⊢;generalize hc:aH w.Child x=c at *;generalize ma:bH w.Next w.ae.length w.ae.length c=ch at *;refine aE.x5 [5003] (by simp) func279 rfl (by simp[f279]) ?_;simp[f279];refine pC (dL w _) ?_;simp[-cB,hx];have Ss:=aY.1 hx;have hg0:w.Child[x.toNat]?.getD 0=c:=by rw[<-hc];exact er (by rw[hC];exact hx)
   refine⟨⟨by omega,by omega⟩,?_⟩;rw[hg0];refine av.cI [0,1,4,5] w.ae.length (λi=> [(4,iD ((w.ae.length:Int)-i)),(5,iD (cF w.Next i c))]) (λi=> [(5003,.env (A i))]) (λi=>∀j<i,bY w.ae.length (cF w.Next j c)=true) (by rfl) (by simp[cF]) ?_;intro i hi hH;have hs:=fA w.Next i c;have lV:=Bl w.Next i c;rcases aoR hi with aw|rfl
   ·have a4:aN .i64 ((w.ae.length:Int)-i-1):=iW;cases hT:bY w.ae.length (cF w.Next i c)with
    | false=>
      have bQ:=fk hH (.inl hT) hi;rw[ma]at bQ;simp[-cB];refine pC (dL w _) ?_;simp[-cB,hT];refine au.guarded (b:=false) (x:=oD false) rfl (by simp) (λh=>by cases h) ?_;refine bn _ _ [] (by rfl) ?_;simp[-cB,bQ,lV]
    | true=>
      have YP:bY w.Next.length (cF w.Next i c)=true:=by rw[hN];exact hT
      have hg:=nh YP;have nW:=er YP;have hb:=aY.1 hT;have mH:∀j<i+1,bY w.ae.length (cF w.Next j c)=true:=λj hj=>by
       rcases apZ j i with h|h
       ·exact hH j h
       ·rw[show j=i by omega];exact hT
      have SP:ch[i]?=some (cF w.Next i c):=by
       have:=vE w.Next w.ae.length (i+1) (w.ae.length-(i+1)) c mH;rw[show i+1+(w.ae.length-(i+1))=w.ae.length by omega,ma]at this;rw[this,apq (by simp)];simp
      have YN:tF prog l [iD (cF w.Next i c)] [(5003,.env (A i))] (YR (A (i+1)) B):=hy i _ (by rw[aoN,SP];rfl);simp[-cB];refine pC (dL w _) ?_;simp[-cB,hT,aw];refine au.Yt ((λ_:true=true=>YN)) rfl (by simp) (by simp) (by simp[sV]) (by simp) (by simp) rfl (by simp[keys]) rfl (by simp) (by simp) ?_ ?_ ?_
      ·intro _ bL;simp[-cB,List.filter,hs,hg,nW,a4];exact⟨by omega,aw,by omega,mH⟩
      ·intro _ bL;simp[-cB,List.filter]
      ·intro hr;cases hr
   ·have bQ:=fk hH (.inr rfl) hi;rw[ma]at bQ;simp[-cB];refine pC (dL w _) ?_;simp[-cB];refine au.guarded (b:=false) (x:=oD false) rfl (by simp) (λh=>by cases h) ?_;refine bn _ _ [] (by rfl) ?_;simp[-cB,bQ,lV]
theorem O2(f:FuncId)(he:enters prog f=true)(xs:List Int)(B9:xs.length *8≤140737488355328)(w:aj)(x:Int)(my:Iter prog f [.bp 5201 0,.bp 5202 0] (qn w x) (xs.map fun i=> [iD i])):
  aE prog 278 [.d (.v (.slice none 0 0)),.fu (.func f) [] [.bp 5201 0,.bp 5202 0]] (qn w x) (λr L=>r= .ret (.rv 40)/\L=[(40,.row 3 1 (dd (aC xs)))]):=by
 unfold qn at my⊢;refine aE.wk (R:=λr L=>r= .ret (.rv 40)/\∃b2,L=[(40,.row 3 1 (dd (aC xs))),(2,.box b2 23 [.rv 40])]) ?_ ?_
 ·refine aE.run func278 rfl (by simp[f278]) ?_;simp[f278];intro bs;refine av.weaken (Wk.rM (e:=3) (k:=1) 2 0 40 rfl rfl (by simp[keys])) ?_;simp[-cB];refine av.AA [5201,5202] [2] xs (λi=> [iD i]) (λpre=> [(40,.row 3 1 (dd (aC pre)))]) (λpre=>True) (by simpa[List.filter]using my) rfl he (by simp[List.filter]) (by simp[gN]) (by simp) (by rfl) (by rfl) (by simp[List.filter,aC]) (by simp[List.filter]) ?_ ?_
  ·rintro pre z post bx hH;have ajm:(pre.length+1) *8<=140737488355328:=by
    rw[bx]at B9;simp at B9;omega
   simp[-cB,List.filter,ajm,aC,dd]
  ·intro hH;simp[-cB,List.filter]
 ·rintro r L ⟨rfl,b2,rfl⟩;refine⟨_,_,_,rfl,((Wk.tt []).trans (Wk.pick [0] [40] (by simp) (by decide) ?_)),?_⟩
  ·simp[dd,aC]
  ·simp[St.pick]
theorem Vm(f:FuncId)(he:enters prog f=true)(xs:List Int)(B9:xs.length *8≤140737488355328)(w:aj)(x:Int)(my:Iter prog f [.bp 5201 0,.bp 5202 0] (qn w x) (xs.map fun i=> [iD i])):
  aE prog 244 [.fu (.func f) [] [.bp 5201 0,.bp 5202 0]] (qn w x) (λr L=>r= .ret (.rv 40)/\L=[(40,.row 3 1 (dd (aC xs)))]):=by
 have ha:=O2 f he xs B9 w x my;clear my;unfold qn at ha⊢;refine aE.run func244 rfl (by simp[f244]) ?_;simp[f244];refine au.afI [5201,5202] rfl (ha) (by simp) rfl (by simp) rfl (by kernel_rfl) (by first|rfl|simp) (by simp) (by simp) (by simp) ?_;simp[-cB]
theorem F1(w:aj)(hw:w.wf)(hC:w.Child.length=w.ae.length)(hN:w.Next.length=w.ae.length)(x:Int):Pure prog 200 [.agg (w.enc.map .d),iD x] (.d (.sl (aC (br w.tree x)))):=by
 have hl:=aj.fW hw;have hk:=F0 w x;have B9:(br w.tree x).length *8<=140737488355328:=by
  unfold br;have h1:(bH w.tree.gk w.tree.bl.length w.tree.bl.length (aH w.tree.gi x)).length<=w.ae.length:=wG _ _ _ _;split
  ·omega
  ·simp
 have hc:=Vm 279 (by kernel_rfl) _ B9 w x (DI w hw hC hN x);unfold qn at hk hc;generalize br w.tree x=ks at *;refine rn func200 ?_;simp[-cB,f200];intro bs;refine eD [] hk ?_;simp[-cB];refine au.afI [5201,5202] rfl (hc) (by simp) rfl (by simp) rfl (by kernel_rfl) (by first|rfl|simp) (by simp) (by simp) (by simp) ?_;simp[-cB]
def eE(w:aj):List V:=[.rv 70,.rv 71,.rv 72,.rv 73,.rv 74,.rv 75,.rv 76,.d (.v (.int .u64 w.cO)),iD w.Score,iD w.jO,iD w.iB,iD w.It,iD w.Go]
def gz(w:aj):aI:=[(76,.row 3 1 (dd (aC w.bc))),(75,.row 3 1 (dd (aC w.aJ))),(74,.row 3 1 (dd (aC w.Flags))),(73,.row 3 1 (dd (aC w.Next))),(72,.row 3 1 (dd (aC w.Child))),(71,.row 3 1 (dd (aC w.ae))),(70,.row 3 1 (dd (aC w.aQ)))]
def nB(w:aj)(b0 b1 i:Nat):St:=⟨[(12,.rv 12),(13,iD 7),(14,iD i),(1,.bp 1 0),(2,.bp 2 0)],
 (gz w).drop (7-i)++ [(12,.row 276 1 [[.bp 1 0],[.bp 1 1],[.bp 1 2],[.bp 1 3],[.bp 1 4],[.bp 1 5],[.bp 1 6]]),(2,.box b1 34 (List.replicate 7 (.d (.v (.slice none 0 0)))++ .d (.v (.int .u64 0))::List.replicate 5 (iD 0))),(1,.box b0 34 ((eE w).take i++(w.enc.map .d).drop i))]⟩
theorem abv(w:aj)(hw:w.wf):aE prog 305 [.agg (w.enc.map .d)] [] (λr L=>r= .ret (.agg (eE w))/\∃b0 b1,L=[(76,.row 3 1 (dd (aC w.bc))),(75,.row 3 1 (dd (aC w.aJ))),(74,.row 3 1 (dd (aC w.Flags))),(73,.row 3 1 (dd (aC w.Next))),(72,.row 3 1 (dd (aC w.Child))),(71,.row 3 1 (dd (aC w.ae))),(70,.row 3 1 (dd (aC w.aQ))),(12,.row 276 1 [[.bp 1 0],[.bp 1 1],[.bp 1 2],[.bp 1 3],[.bp 1 4],[.bp 1 5],[.bp 1 6]]),(2,.box b1 34 (eE w)),(1,.box b0 34 (eE w))]):=by
 have h0:=aj.ow hw;have h1:=aj.fW hw;have h2:=aj.Ou hw;have h3:=aj.SE hw;have h4:=aj.Ov hw;have h5:=aj.ou hw;have h6:=aj.K8 hw;refine aE.run func305 rfl (by simp[f305]) ?_;simp[f305];intro bs;refine av.ag3 7 (nB w (bs 0+1) (bs 1+1)) (λ_=>True) ⟨trivial,?_⟩ ?_
 ·exact Wk.pick [12,13,14,1,2] [12,2,1] rfl (by simp) rfl
 intro i hi _;rcases(by omega:i=0\/i=1\/i=2\/i=3\/i=4\/i=5\/i=6\/i=7)with rfl|rfl|rfl|rfl|rfl|rfl|rfl|rfl
 ·simp[-cB,cellAt,nB,gz,eE,aj.enc,List.replicate];refine au.eo [] rfl (ia 70 w.aQ (by omega)) (by simp) rfl (by simp) rfl (by kernel_rfl) (by simp) (by simp) (by simp) (by simp) (by simp) ?_;simp[-cB,nB,gz,eE,aj.enc,List.replicate];exact⟨iW,Wk.pick [12,13,14,1,2] [70,12,2,1] rfl (by simp) (by simp)⟩
 ·simp[-cB,cellAt,nB,gz,eE,aj.enc,List.replicate];refine au.eo [] rfl (ia 71 w.ae (by omega)) (by simp) rfl (by simp) rfl (by kernel_rfl) (by simp) (by simp) (by simp) (by simp) (by simp) ?_;simp[-cB,nB,gz,eE,aj.enc,List.replicate];exact⟨iW,Wk.pick [12,13,14,1,2] [71,70,12,2,1] rfl (by simp) (by simp)⟩
 ·simp[-cB,cellAt,nB,gz,eE,aj.enc,List.replicate];refine au.eo [] rfl (ia 72 w.Child (by omega)) (by simp) rfl (by simp) rfl (by kernel_rfl) (by simp) (by simp) (by simp) (by simp) (by simp) ?_;simp[-cB,nB,gz,eE,aj.enc,List.replicate];exact⟨iW,Wk.pick [12,13,14,1,2] [72,71,70,12,2,1] rfl (by simp) (by simp)⟩
 ·simp[-cB,cellAt,nB,gz,eE,aj.enc,List.replicate];refine au.eo [] rfl (ia 73 w.Next (by omega)) (by simp) rfl (by simp) rfl (by kernel_rfl) (by simp) (by simp) (by simp) (by simp) (by simp) ?_;simp[-cB,nB,gz,eE,aj.enc,List.replicate];exact⟨iW,Wk.pick [12,13,14,1,2] [73,72,71,70,12,2,1] rfl (by simp) (by simp)⟩
 ·simp[-cB,cellAt,nB,gz,eE,aj.enc,List.replicate];refine au.eo [] rfl (ia 74 w.Flags (by omega)) (by simp) rfl (by simp) rfl (by kernel_rfl) (by simp) (by simp) (by simp) (by simp) (by simp) ?_;simp[-cB,nB,gz,eE,aj.enc,List.replicate];exact⟨iW,Wk.pick [12,13,14,1,2] [74,73,72,71,70,12,2,1] rfl (by simp) (by simp)⟩
 ·simp[-cB,cellAt,nB,gz,eE,aj.enc,List.replicate];refine au.eo [] rfl (ia 75 w.aJ (by omega)) (by simp) rfl (by simp) rfl (by kernel_rfl) (by simp) (by simp) (by simp) (by simp) (by simp) ?_;simp[-cB,nB,gz,eE,aj.enc,List.replicate];exact⟨iW,Wk.pick [12,13,14,1,2] [75,74,73,72,71,70,12,2,1] rfl (by simp) (by simp)⟩
 ·simp[-cB,cellAt,nB,gz,eE,aj.enc,List.replicate];refine au.eo [] rfl (ia 76 w.bc (by omega)) (by simp) rfl (by simp) rfl (by kernel_rfl) (by simp) (by simp) (by simp) (by simp) (by simp) ?_;simp[-cB,nB,gz,eE,aj.enc,List.replicate];exact⟨iW,Wk.pick [12,13,14,1,2] [76,75,74,73,72,71,70,12,2,1] rfl (by simp) (by simp)⟩
 ·simp[-cB,nB,gz,eE,aj.enc,List.replicate]
theorem ad6(w:aj)(hw:w.wf):aE prog 305 [.agg (w.enc.map .d)] [] (λr L=>r= .ret (.agg (eE w))/\L=gz w):=by
 refine aE.wk (abv w hw) ?_;rintro r L ⟨rfl,b0,b1,rfl⟩;refine⟨_,_,_,rfl,Wk.pick [0] [76,75,74,73,72,71,70] (by simp) (by decide) ?_,?_⟩
 ·simp[eE,dd]
 ·simp[gz,eE,St.pick]
theorem lq{l:List Int}{x:Int}(hx:0<=x/\x<l.length)(v y:Int):aH (l.set x.toNat v) y=if y=x then v else aH l y:=by
 unfold aH;by_cases hy:y<0
 ·rw[if_pos hy,if_pos hy,if_neg (by omega)]
 ·rw[if_neg hy,if_neg hy,aq5];by_cases he:y=x
  ·subst he;rw[if_pos rfl,if_pos rfl,if_pos (by omega)];rfl
  ·rw[if_neg (by omega),if_neg he]
def sw(nx:List Int)(x:Int)(l:List Int):List Int:=l.foldl (λa c=>if aH nx c=x then a.set c.toNat (aH nx x)else a) nx
theorem DJ(nx:List Int)(x:Int)(l:List Int)(c:Int):sw nx x (l++ [c])=if aH nx c=x then(sw nx x l).set c.toNat (aH nx x)else sw nx x l:=by simp[sw]
theorem yf(nx:List Int)(x:Int)(l:List Int):(sw nx x l).length=nx.length:=by
 unfold sw
 suffices h:∀a:List Int,(l.foldl (λa c=>if aH nx c=x then a.set c.toNat (aH nx x)else a) a).length=a.length from h nx
 induction l with
 | nil=>intro a;rfl
 | cons c l ih=>intro a;rw[List.foldl_cons,ih];split<;>simp
theorem ad7(nx:List Int)(x:Int)(l:List Int)(hl:∀y∈l,0<=y/\y<nx.length)(y:Int):aH (sw nx x l) y=if y∈l/\aH nx y=x then aH nx x else aH nx y:=by
 suffices h:∀r:List Int,(∀y∈r,0<=y/\y<nx.length)->aH (sw nx x r.reverse) y=if y∈r/\aH nx y=x then aH nx x else aH nx y by
  have:=h l.reverse (by simpa using hl);simpa using this
 intro r
 induction r with
 | nil=>intro _;simp[sw]
 | cons c r ih=>
   intro hr;have SA:=ih (λy hy=>hr y (aoW _ hy));rw[aqF,DJ];by_cases hc:aH nx c=x
   ·rw[if_pos hc,lq (by rw[yf];exact hr c aoZ),SA];by_cases hy:y=c
    ·subst hy;simp[hc]
    ·simp[hy]
   ·rw[if_neg hc,SA];by_cases hy:y=c
    ·subst hy;simp[hc]
    ·simp[hy]
theorem Ch.next{nx:List Int}{n:Nat}{c:Int}{l:List Int}(h:Ch nx n c l):∀y∈l,aH nx y=0\/aH nx y∈l.tail:=by
 induction h with
 | nil=>simp
 | @cons c l h t ih=>
   intro y hy;rcases ao0.1 hy with rfl|hy
   ·generalize aH nx y=z at t;cases t with
    | nil=>left;rfl
    | cons h' t'=>right;simp
   ·rcases ih y hy with e|e
    ·exact .inl e
    ·exact .inr (List.mem_of_mem_tail e)
theorem Ch.cut{nx nx':List Int}{n:Nat}{c x:Int}{l:List Int}(h:Ch nx n c l)(hx:1<=x)(hk:∀y∈l,y≠x->aH nx' y=if aH nx y=x then aH nx x else aH nx y):Ch nx' n (if c=x then aH nx x else c) (l.erase x):=by
 induction h with
 | nil=>rw[if_neg (by omega)];exact .nil
 | @cons c l h t ih=>
   have gv:=(Ch.cons h t).nodup;have sH:=(Ch.cons h t).next
   by_cases hc:c=x
   ·subst hc;rw[if_pos rfl,List.erase_cons_head];refine t.rq λy hy=>?_
    have bR:y≠c:=λe=>by subst e;exact(apx.1 gv).1 hy
    rw[hk y (aoW _ hy) bR,if_neg];intro e;rcases sH y (aoW _ hy)with e2|e2
    ·omega
    ·rw[e]at e2;exact(apx.1 gv).1 e2
   ·rw[if_neg hc,List.erase_cons_tail (by simpa using hc)];refine .cons h ?_;rw[hk c aoZ hc];exact ih (λy hy=>hk y (aoW _ hy))
theorem Ch.stop{nx nx':List Int}{n:Nat}{c x:Int}{l:List Int}(h:Ch nx n c l)(hk:∀y,aH nx' y=if y=x then 0 else aH nx y):∃l',Ch nx' n c l':=by
 induction h with
 | nil=>exact⟨_,.nil⟩
 | @cons c l h t ih=>
   by_cases hc:c=x
   ·exact⟨[c],.cons h (by rw[hk,if_pos hc];exact .nil)⟩
   ·obtain⟨l',h'⟩:=ih;exact⟨c::l',.cons h (by rw[hk,if_neg hc];exact h')⟩
def kg(t:Tree)(x:Int):Tree where
 bl:=t.bl.set x.toNat 0
 gi:=if aH t.bl x≠0/\aH t.gi (aH t.bl x)=x then t.gi.set (aH t.bl x).toNat (aH t.gk x)else t.gi
 gk:=(if aH t.bl x=0\/aH t.gi (aH t.bl x)=x then t.gk else sw t.gk x (br t (aH t.bl x))).set x.toNat 0
theorem ec.leave{t:Tree}{n:Nat}{ls:Int->List Int}(h:ec t n ls){x:Int}(hx:1<=x/\x<n):ec (kg t x) n (λu=>if u=aH t.bl x then(ls u).erase x else ls u):=by
 have hP:∀y,aH (kg t x).bl y=if y=x then 0 else aH t.bl y:=λy=>lq (by rw[h.lp];omega) 0 y
 have wg:=h.up x hx.1 hx.2;have hC:∀u,1<=u->aH (kg t x).gi u=if u=aH t.bl x then(if aH t.gi u=x then aH t.gk x else aH t.gi u)else aH t.gi u:=by
  intro u hu;unfold kg
  try dsimp only
  by_cases hc:aH t.bl x≠0/\aH t.gi (aH t.bl x)=x
  ·rw[if_pos hc,lq (by rw[h.lc];rcases wg with h1|h1<;>omega)];by_cases he:u=aH t.bl x
   ·rw[if_pos he,if_pos he,if_pos (by rw[he];exact hc.2)]
   ·rw[if_neg he,if_neg he]
  ·rw[if_neg hc];by_cases he:u=aH t.bl x
   ·rw[if_pos he,if_neg];intro e;exact hc ⟨by omega,by rw[<-he];exact e⟩
   ·rw[if_neg he]
 have hN:∀y,aH (kg t x).gk y=if y=x then 0 else if y∈ls (aH t.bl x)/\aH t.bl x≠0/\aH t.gk y=x then aH t.gk x else aH t.gk y:=by
  intro y;unfold kg
  try dsimp only
  rw[lq (by split<;>simp only[yf,h.ln]<;>omega)];by_cases hy:y=x
  ·rw[if_pos hy,if_pos hy]
  ·rw[if_neg hy,if_neg hy];by_cases hc:aH t.bl x=0\/aH t.gi (aH t.bl x)=x
   ·rw[if_pos hc,if_neg];rintro⟨h1,h2,h3⟩;have hc:=hc.resolve_left h2;have hu:=(wg.resolve_left (λe=>h2 e.1)).1;have ma:=h.ch _ hu.1 hu.2;rw[hc]at ma;rcases ma.next y h1 with e|e
    ·omega
    ·rw[h3]at e;cases hl:ls (aH t.bl x)with
     | nil=>rw[hl]at h1;cases h1
     | cons a r=>
       rw[hl]at ma e;have gv:=ma.nodup;cases ma with
       | cons _ _=>exact(apx.1 gv).1 e
   ·rw[if_neg hc];have h0:aH t.bl x≠0:=λe=>hc (.inl e)
    have hu:=(wg.resolve_left (λe=>h0 e.1)).1;rw[h.kids hu,ad7 _ _ _ (λz hz=>by have:=(h.ch _ hu.1 hu.2).mem z hz;rw[h.ln];omega)];simp[h0]
 refine⟨h.pos,by simp[kg,h.lp],by unfold kg;dsimp only;split<;>simp[h.lc],by unfold kg;dsimp only;split<;>simp[h.ln,yf],?_,?_,?_,?_,?_,?_,?_⟩
 ·rw[hP,h.p0];split<;>rfl
 ·have hle:aH (kg t x).gi 0=aH t.gi 0:=by
   unfold kg;dsimp only;split
   ·rename_i hc;rw[lq (by rw[h.lc];rcases wg with h1|h1<;>omega),if_neg (by omega)]
   ·rfl
  rw[hle,h.c0]
 ·rw[hN,if_neg (by omega),if_neg,h.n0];rintro⟨h1,h2,h3⟩;rw[h.n0]at h3;omega
 ·intro u sO nG
  try dsimp only
  rw[hC u sO];have ma:=h.ch u sO nG;by_cases he:u=aH t.bl x
  ·rw[if_pos he,if_pos he];refine ma.cut hx.1 λy hy AB=>?_
   rw[hN,if_neg AB];rw[he]at hy;have h0:aH t.bl x≠0:=by omega
   simp[hy,h0]
  ·rw[if_neg he,if_neg he];refine ma.rq λy hy=>?_
   have SV:=h.par u sO nG y hy;have AB:y≠x:=λe=>he (by rw[<-e];exact SV.symm)
   rw[hN,if_neg AB,if_neg];rintro⟨h1,h2,-⟩;have hu:=(wg.resolve_left (λe=>h2 e.1)).1;exact he (by rw[<-SV];exact(h.par _ hu.1 hu.2 y h1))
 ·intro u sO nG y hy
  try dsimp only at hy
  rw[hP];by_cases he:u=aH t.bl x
  ·rw[if_pos he]at hy;have ma:=h.ch u sO nG;have:=(List.Nodup.mem_erase_iff ma.nodup).1 hy;rw[if_neg this.1];exact h.par u sO nG y this.2
  ·rw[if_neg he]at hy;have SV:=h.par u sO nG y hy;rw[if_neg (λe=>he (by rw[<-e];exact SV.symm))];exact SV
 ·intro y Lr yg
  try dsimp only
  by_cases AB:y=x
  ·left;rw[hP,hN,if_pos AB,if_pos AB];exact⟨rfl,rfl⟩
  ·rw[hP,if_neg AB];rcases h.up y Lr yg with⟨h1,h2⟩|⟨h1,h2⟩
   ·left;refine⟨h1,?_⟩;rw[hN,if_neg AB,if_neg,h2];rintro⟨-,-,h3⟩;rw[h2]at h3;omega
   ·right;refine⟨h1,?_⟩;split
    ·exact(List.mem_erase_of_ne AB).2 h2
    ·exact h2
 ·intro y Lr yg;obtain⟨l,hl⟩:=h.ends y Lr yg;exact hl.stop hP
def yh(t:Tree)(x to:Int):Tree where
 bl:=t.bl.set x.toNat to
 gi:=t.gi.set to.toNat x
 gk:=t.gk.set x.toNat (aH t.gi to)
theorem ec.put{t:Tree}{n:Nat}{ls:Int→List Int}(h:ec t n ls){x to:Int}(hx:1≤x∧x < n)(pQ:1≤to∧to < n)(h0:aH t.bl x=0){l:List Int}(hl:Ch t.bl n to l)(B9:x∉l):
  ec (yh t x to) n (λu=>if u=to then x::ls to else ls u):=by
 have hP:∀y,aH (yh t x to).bl y=if y=x then to else aH t.bl y:=λy=>lq (by rw[h.lp];omega) to y
 have hC:∀y,aH (yh t x to).gi y=if y=to then x else aH t.gi y:=λy=>lq (by rw[h.lc];omega) x y
 have hN:∀y,aH (yh t x to).gk y=if y=x then aH t.gi to else aH t.gk y:=λy=>lq (by rw[h.ln];omega) _ y
 have iT:∀u:Int,1<=u->u<n->x∉ls u:=λu h1 h2 hm=>by have:=h.par u h1 h2 x hm;omega
 have aw:=hl.rq (nx':=(yh t x to).bl) (λy hy=>by rw[hP,if_neg (λe=>B9 (by rw[<-e];exact hy))]);refine⟨h.pos,by simp[yh,h.lp],by simp[yh,h.lc],by simp[yh,h.ln],?_,?_,?_,?_,?_,?_,?_⟩
 ·rw[hP,if_neg (by omega),h.p0]
 ·rw[hC,if_neg (by omega),h.c0]
 ·rw[hN,if_neg (by omega),h.n0]
 ·intro u sO nG
  try dsimp only
  rw[hC];have hk:=(h.ch u sO nG).rq (nx':=(yh t x to).gk) (λy hy=>by rw[hN,if_neg (λe=>iT u sO nG (by rw[<-e];exact hy))]);by_cases he:u=to
  ·subst he;rw[if_pos rfl,if_pos rfl];refine .cons hx ?_;rw[hN,if_pos rfl];exact hk
  ·rw[if_neg he,if_neg he];exact hk
 ·intro u sO nG y hy
  try dsimp only at hy
  rw[hP];by_cases he:u=to
  ·subst he;rw[if_pos rfl]at hy;rcases ao0.1 hy with rfl|hy
   ·rw[if_pos rfl]
   ·rw[if_neg (λe=>iT u sO nG (by rw[<-e];exact hy))];exact h.par u sO nG y hy
  ·rw[if_neg he]at hy;rw[if_neg (λe=>iT u sO nG (by rw[<-e];exact hy))];exact h.par u sO nG y hy
 ·intro y Lr yg
  try dsimp only
  rw[hP,hN];by_cases AB:y=x
  ·subst AB;right;rw[if_pos rfl];exact⟨pQ,by rw[if_pos rfl];exact aoZ⟩
  ·rw[if_neg AB,if_neg AB];rcases h.up y Lr yg with h1|⟨h1,h2⟩
   ·exact .inl h1
   ·refine .inr ⟨h1,?_⟩;split
    ·rename_i e;rw[<-e];exact aoW _ h2
    ·exact h2
 ·intro y Lr yg;obtain⟨l2,lW⟩:=h.ends y Lr yg;clear Lr yg
  induction lW with
  | nil=>exact⟨_,.nil⟩
  | @cons c l3 hc _ ih=>
    by_cases O3:c=x
    ·exact⟨c::l,.cons hc (by rw[hP,if_pos O3];exact aw)⟩
    ·obtain⟨l4,h4⟩:=ih;exact⟨c::l4,.cons hc (by rw[hP,if_neg O3];exact h4)⟩
theorem ec.YQ{t:Tree}{n:Nat}{ls:Int->List Int}(h:ec t n ls){x:Int}(hx:1<=x/\x<n):Ch t.bl n x (ik t x):=by
 obtain⟨l,hl⟩:=h.ends x hx.1 hx.2;rw[ik,h.lp,hl.full];exact hl
theorem ec.move{t:Tree}{n:Nat}{ls:Int→List Int}(h:ec t n ls){x to:Int}(hx:1≤x∧x < n)(pQ:1≤to∧to < n)(iT:x∉ik t to):
  ec (yh (kg t x) x to) n (λu=>if u=to then x::(if to=aH t.bl x then(ls to).erase x else ls to)else if u=aH t.bl x then(ls u).erase x else ls u):=by
 have hP:∀y,aH (kg t x).bl y=if y=x then 0 else aH t.bl y:=λy=>lq (by rw[h.lp];omega) 0 y
 refine(h.leave hx).put hx pQ (by rw[hP,if_pos rfl]) ((h.YQ pQ).rq λy hy=>?_) iT;rw[hP,if_neg (λe=>iT (by rw[<-e];exact hy))]
def cx(w:aj)(x:Int):aj:=
 {w with
  ae:=w.ae.set x.toNat 0
  Child:=if aH w.ae x≠0/\aH w.Child (aH w.ae x)=x then w.Child.set (aH w.ae x).toNat (aH w.Next x)else w.Child
  Next:=(if aH w.ae x=0\/aH w.Child (aH w.ae x)=x then w.Next else sw w.Next x (br w.tree (aH w.ae x))).set x.toNat 0}
structure ad8(w:aj) (x:Int):Prop where
 wf:w.wf
 hC:w.Child.length=w.ae.length
 hN:w.Next.length=w.ae.length
 hx:bY w.ae.length x=true
 up:aH w.ae x=0\/bY w.ae.length (aH w.ae x)=true
theorem vc(w:aj)(x:Int):(cx w x).tree=kg w.tree x:=rfl
theorem abw(w:aj)(x:Int)(h:ad8 w x):aE prog 284 [.agg (w.enc.map .d),iD x] [] (λr L=>r= .ret (.agg (eE (cx w x)))/\∃b1 b2 b3 b4 SW Ih cs3 cs4,L=(5,.box b1 34 SW)::(gz (cx w x)++ [(4,.box b2 34 Ih),(3,.box b3 3 cs3),(2,.box b4 34 cs4)])):=by
 obtain⟨hw,hC,hN,hx,wg⟩:=h;have hg:=nh hx;have nW:=er hx;have hb:=aY.1 hx;have DG:=ad6 w hw;unfold gz at DG;refine aE.run func284 rfl (by simp[f284]) ?_;simp[f284];intro bs;refine eD [] DG ?_;simp[-cB,eE,hg,nW];intro KU;refine⟨⟨by omega,by omega⟩,by omega,?_⟩;cases h0:decide (aH w.ae x=0)with
 | true=>
   have AD:=of_decide_eq_true h0;simp[-cB,AD];refine av.aU [Q0,Q0,Q0,Q3,Q3,Q3,Q0,none,arb,none] [] aT (by kernel_rfl) ?_;simp[-cB,cx,gz,AD];omega
 | false=>
   have AD:=of_decide_eq_false h0;have hT:=wg.resolve_left AD;have YP:bY w.Child.length (aH w.ae x)=true:=by rw[hC];exact hT
   have F2:bY w.Next.length x=true:=by rw[hN];exact hx
   have hu:=aY.1 hT;have hcg:=nh YP;have ajn:=er YP;have hng:=nh F2;have O4:=er F2;simp[-cB,AD];refine av.bT [] aT (by kernel_rfl) (by rfl) ?_;simp[-cB,ajn];refine⟨⟨by omega,by omega⟩,by omega,?_⟩;cases h1:decide (aH w.Child (aH w.ae x)=x)with
   | true=>
     have gw:=of_decide_eq_true h1;simp[-cB];refine av.aU [Q0,Q0,Q0,Q0,Q0,Q0,Q0,Q0,Q0,none] [] aT (by kernel_rfl) ?_;simp[-cB,O4];refine⟨⟨by omega,by omega⟩,by omega,by omega,by omega,?_⟩;refine av.aU [Q0,Q0,Q0,Q3,Q3,Q3,Q0,none,arb,none] [] aT (by kernel_rfl) ?_;simp[-cB,cx,gz,AD,gw];omega
   | false=>
     have gw:=of_decide_eq_false h1;have hk:=F0 w (aH w.ae x);have my:=DI w hw hC hN (aH w.ae x);unfold qn at hk my;simp[-cB];refine eD [] hk ?_;simp[-cB];have fp:=λy=>nX (t:=w.tree) (x:=aH w.ae x) (y:=y)
     have hP:w.tree.bl=w.ae:=rfl;rw[hP]at fp;have hlc:=yf w.Next x;have hlv:cx w x={w with ae:=w.ae.set x.toNat 0,Next:=(sw w.Next x (br w.tree (aH w.ae x))).set x.toNat 0}:=by simp[cx,AD,gw]
     rw[hlv];generalize br w.tree (aH w.ae x)=ks at *;refine av.AA [5201,5202] [2,3,4,5] ks (λi=> [iD i]) (λpre=> [(73,.row 3 1 (dd (aC (sw w.Next x pre))))]) (λpre=>True) (by simpa[List.filter]using my) rfl (by kernel_rfl) (by simp[List.filter]) (by simp[gN]) (by simp) (by rfl) (by rfl) (by simp[List.filter,sw]) (by simp[List.filter]) ?_ ?_
     ·rintro pre z post bx -;have hz:=fp z (by rw[bx];simp);have hT4:bY w.Next.length z=true:=by rw[hN];exact aY.2 hz
      have hzg:=nh hT4;have ajo:=er hT4;have jY:=DJ w.Next x pre z;simp[-cB,List.filter];refine av.bT [] aT (by kernel_rfl) (by rfl) ?_;simp[-cB,ajo];refine⟨⟨by omega,by omega⟩,?_⟩;cases h2:decide (aH w.Next z=x)with
      | true=>
        have lE:=of_decide_eq_true h2;simp[-cB];refine av.aU [Q0,Q0,Q0,Q0,Q0,Q0,Q0,Q0,Q0,none] [] aT (by kernel_rfl) ?_;simp[-cB,O4,jY,lE,hlc];omega
      | false=>
        have lE:=of_decide_eq_false h2;simp[-cB,jY,lE]
     ·intro _;simp[-cB,List.filter];refine av.aU [Q0,Q0,Q0,Q3,Q3,Q3,Q0,none,arb,none] [] aT (by kernel_rfl) ?_;simp[-cB,gz,hlc];omega
end Go.Ab

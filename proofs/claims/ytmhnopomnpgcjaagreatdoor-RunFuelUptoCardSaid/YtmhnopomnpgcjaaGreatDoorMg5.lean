/-
  The texts Battr Battr2 Nest3 Bref20 Bmix Bval Bval2 Lex Lmach Lsim Lpeep Lpeep2 Lcode Lmc Lasm Gfew Gbound Gref Pd Pe Pf Pt Pu Dn Vpeep Vpeep2 Vpeep3, one behind the other.
-/
import Derived.Test.YtmhnopomnpgcjaaGreatDoorMg4
set_option linter.unusedSimpArgs false
set_option linter.unusedVariables false
namespace Go.Ab
open Go.Proofs Go.Proofs.Tryz
def dO(w:ai)(x f:Int):Int:=if cT w.ah.length x then if 0<=f/\f<=15 then 0 else 5 else 11
theorem O8(w:ai)(x f:Int):Pure prog 207 [.agg (w.enc.map .d),iD x,iD f] (iD (dO w x f)):=by
 unfold dO;cases hT:cT w.ah.length x with
 | false=>
   refine rn func207 ?_;simp[-cB,f207]
   try intro(_:Nat->Nat)
   repeat' (first
    | (with_reducible refine And.intro ?_ ?_)
    | ((first|(refine aA (λh=>?_) (λh=>?_)<;>(try simp at h))|refine pC (dG w _) ?_|refine lC (dG w _) ?_|refine pG (dG w _) ?_)<;>(try simp[-cB, *]))
    | (with_reducible intro _))
 | true=>
   refine rn func207 ?_;simp[-cB,f207]
   try intro(_:Nat->Nat)
   repeat' (first
    | (with_reducible refine And.intro ?_ ?_)
    | ((first|(refine aA (λh=>?_) (λh=>?_)<;>(try simp at h))|refine pC (dG w _) ?_|refine lC (dG w _) ?_|refine pG (dG w _) ?_)<;>(try simp[-cB, *]))
    | (with_reducible intro _))
   all_goals (try omega)
def nW(t:aq)(w:ai)(x p:Int):Int:=if cT w.ah.length x then if 0<=p/\p<t.aM.length then 0 else 5 else 11
theorem abB{n k:Nat}{x p:Int}(hn:n<=32768)(hk:k<=65536)(hx:1<=x/\x<n)(hp:0<=p/\p<k):aN .i64 (x *k)/\aN .i64 (x *k+p):=by
 have h1:0<=x *k:=Int.mul_nonneg (by omega) (by omega);have h2:x *k<=32768 *65536:=Int.mul_le_mul (by omega) (by omega) (by omega) (by omega);rw[aR,aR];omega
theorem O9(t:aq)(w:ai)(hn:w.ah.length<=32768)(hk:t.aM.length<=65536)(x p:Int):Pure prog 208 [.agg (t.enc.map .d),.agg (w.enc.map .d),iD x,iD p] (gW (if nW t w x p=0 then x *t.aM.length+p else 0,nW t w x p)):=by
 unfold nW gW;cases hT:cT w.ah.length x with
 | false=>
   refine rn func208 ?_;simp[-cB,f208]
   try intro(_:Nat->Nat)
   repeat' (first
    | (with_reducible refine And.intro ?_ ?_)
    | ((first|(refine aA (λh=>?_) (λh=>?_)<;>(try simp at h))|refine pC (dG w _) ?_|refine lC (dG w _) ?_|refine pG (dG w _) ?_)<;>(try simp[-cB, *]))
    | (with_reducible intro _))
 | true=>
   have hb:=bG.1 hT;by_cases hp:0<=p/\p<t.aM.length
   ·obtain⟨g1,g2⟩:=abB hn hk hb hp;have p1:¬p<0:=by omega
    have p2:¬(t.aM.length:Int)<=p:=by omega
    refine rn func208 ?_;simp[-cB,f208]
    try intro(_:Nat->Nat)
    repeat' (first
     | (with_reducible refine And.intro ?_ ?_)
     | ((first|(refine aA (λh=>?_) (λh=>?_)<;>(try simp at h))|refine pC (dG w _) ?_|refine lC (dG w _) ?_|refine pG (dG w _) ?_)<;>(try simp[-cB, *]))
     | (with_reducible intro _))
   ·refine rn func208 ?_;simp[-cB,f208]
    try intro(_:Nat->Nat)
    repeat' (first
     | (with_reducible refine And.intro ?_ ?_)
     | ((first|(refine aA (λh=>?_) (λh=>?_)<;>(try simp at h))|refine pC (dG w _) ?_|refine lC (dG w _) ?_|refine pG (dG w _) ?_)<;>(try simp[-cB, *]))
     | (with_reducible intro _))
    all_goals (try omega)
def BV(t:aq)(w:ai)(x p:Int):Int×Int:=(if nW t w x p=0 then w.aM[(x *t.aM.length+p).toNat]?.getD 0 else 0,nW t w x p)
theorem Pa{n k m:Nat}{x p:Int}(hm:n *k=m)(hx:1<=x/\x<n)(hp:0<=p/\p<k):0<=x *k+p/\(x *k+p).toNat<m:=by
 have h1:0<=x *k:=Int.mul_nonneg (by omega) (by omega);have h2:(x+1) *k<=n *k:=Int.mul_le_mul_of_nonneg_right (by omega) (by omega);rw[Int.add_mul,Int.one_mul]at h2;have h3:((n *k:Nat):Int)=(n:Int) *k:=by simp
 omega
theorem S6(t:aq)(w:ai)(hn:w.ah.length<=32768)(hk:t.aM.length<=65536)(hm:w.ah.length *t.aM.length=w.aM.length)(x p:Int):Pure prog 140 [.agg (t.enc.map .d),.agg (w.enc.map .d),iD x,iD p] (gW (BV t w x p)):=by
 have lP:=O9 t w hn hk x p;unfold gW at lP⊢;unfold BV;by_cases he:nW t w x p=0
 ·have hT:cT w.ah.length x=true/\0<=p/\p<t.aM.length:=by
   unfold nW at he;split at he
   ·split at he
    ·rename_i a b;exact⟨a,b⟩
    ·omega
   ·omega
  have hl:=Pa hm (bG.1 hT.1) hT.2;rw[he]at lP⊢;simp at lP;generalize x *t.aM.length+p=q at *;refine rn func140 ?_;simp[-cB,f140]
  try intro(_:Nat->Nat)
  repeat' (first
   | (with_reducible refine And.intro ?_ ?_)
   | ((first|(refine aA (λh=>?_) (λh=>?_)<;>(try simp at h))|refine pC lP ?_|refine lC lP ?_|refine pG lP ?_)<;>(try simp[-cB, *]))
   | (with_reducible intro _))
 ·simp[he]at lP;generalize nW t w x p=e at *;refine rn func140 ?_;simp[-cB,f140]
  try intro(_:Nat->Nat)
  repeat' (first
   | (with_reducible refine And.intro ?_ ?_)
   | ((first|(refine aA (λh=>?_) (λh=>?_)<;>(try simp at h))|refine pC lP ?_|refine lC lP ?_|refine pG lP ?_)<;>(try simp[-cB, *]))
   | (with_reducible intro _))
  all_goals (exact absurd (by assumption) he)
end Go.Ab
namespace Go.Ab
open Go.Proofs Go.Proofs.Tryz
def sI(t:aq)(w:ai)(x p n:Int):ai×Int:=if nW t w x p=0 then if ib n then({w with aM:=w.aM.set (x *t.aM.length+p).toNat n},0)else(w,1)else(w,nW t w x p)
def Hl(a b:Int):Int:=IntKind.wrap .u64 ((BitVec.ofInt IntKind.u64.bits a) ^^^ (BitVec.ofInt IntKind.u64.bits b)).toNat
def Ki(a:Int)(k:Nat):Int:=a.fdiv (2^(min k IntKind.u64.bits))
def abC(a:Int)(k:Nat):Int:=IntKind.wrap .u64 (a *2^(min k IntKind.u64.bits))
def Vg(s:Int):Int:=if s=0 then 1 else s
def BW(s:Int):Int:=
 let s0:=Vg s
 let s1:=Hl s0 (Ki s0 12)
 let s2:=Hl s1 (abC s1 25)
 Hl s2 (Ki s2 27)
def rJ(s:Int):Int:=IntKind.wrap .u32 (Ki (IntKind.wrap .u64 (BW s *2685821657736338717)) 32)
def sJ(s n:Int):Int×Int:=if n<1 then(0,s)else((rJ s) % n,BW s)
theorem aem(n:Int):0<=IntKind.wrap .u32 n/\IntKind.wrap .u32 n<4294967296:=by
 unfold IntKind.wrap;simp[IntKind.signed,IntKind.bits];omega
theorem Kj(n:Int):0<=IntKind.wrap .u64 n/\IntKind.wrap .u64 n<18446744073709551616:=by
 unfold IntKind.wrap;simp[IntKind.signed,IntKind.bits];omega
theorem wZ{n:Int}(h:0<=n/\n<18446744073709551616):IntKind.wrap .u64 n=n:=by
 unfold IntKind.wrap;simp[IntKind.signed,IntKind.bits];omega
theorem aen(s:Int):0<=rJ s/\rJ s<4294967296:=aem _
theorem Pb(s:Int):Pure prog 280 [.d (.v (.int .u64 s))] (.d (.v (.int .u64 (Vg s)))):=by
 unfold Vg;refine rn func280 ?_;simp[-cB,f280]
 repeat' (first
  | (with_reducible refine And.intro ?_ ?_)
  | ((first|(refine aA (λh=>?_) (λh=>?_)<;>(try simp at h))|refine pC Pure.none ?_|refine lC Pure.none ?_|refine pG Pure.none ?_)<;>(try simp[-cB, *]))
  | (with_reducible intro _))
theorem S7(h b:Nat)(x:Int)(k:Nat)(hk:(k:Int)<64):aE prog 281 [.d (.v (.int .u64 k)),.bp h 0] [(h,.box (b+1) 32 [.d (.v (.int .u64 x))])] (λr L'=>r= .ret (.bM [])/\L'=[(h,.box (b+1) 32 [.d (.v (.int .u64 (Hl x (Ki x k))))])]):=by
 refine aE.run func281 rfl (by simp[f281]) ?_;simp[f281];simp[Hl,Ki]
theorem ah5(h b:Nat)(x:Int)(k:Nat)(hk:(k:Int)<64):aE prog 282 [.d (.v (.int .u64 k)),.bp h 0] [(h,.box (b+1) 32 [.d (.v (.int .u64 x))])] (λr L'=>r= .ret (.bM [])/\L'=[(h,.box (b+1) 32 [.d (.v (.int .u64 (Hl x (abC x k))))])]):=by
 refine aE.run func282 rfl (by simp[f282]) ?_;simp[f282];simp[Hl,abC]
theorem Fm(s:Int):Pure prog 247 [.d (.v (.int .u64 s))] (.d (.v (.int .u64 (BW s)))):=by
 refine rn func247 ?_;simp[-cB,f247];intro bs
 repeat' (first
  | (with_reducible refine And.intro ?_ ?_)
  | ((first|(refine aA (λh=>?_) (λh=>?_)<;>(try simp at h))|refine pC (Pb _) ?_|refine lC (Pb _) ?_|refine pG (Pb _) ?_)<;>(try simp[-cB, *]))
  | (with_reducible intro _))
 refine ar.ej [1] rfl (S7 1 (bs 0) (Vg s) 12 (by decide)) (by simp) rfl (by simp) rfl (by kernel_rfl) (by first|rfl|simp) (by simp) (by simp) (by simp) (by simp) ?_;simp;refine ar.ej [1] rfl (ah5 1 (bs 0) _ 25 (by decide)) (by simp) rfl (by simp) rfl (by kernel_rfl) (by first|rfl|simp) (by simp) (by simp) (by simp) (by simp) ?_;simp;refine ar.ej [1] rfl (S7 1 (bs 0) _ 27 (by decide)) (by simp) rfl (by simp) rfl (by kernel_rfl) (by first|rfl|simp) (by simp) (by simp) (by simp) (by simp) ?_;simp[BW]
theorem abD(s:Int):Pure prog 246 [.d (.v (.int .u64 s))] (.d (.v (.int .u32 (rJ s)))):=by
 unfold rJ;refine rn func246 ?_;simp[-cB,f246]
 try intro(_:Nat->Nat)
 repeat' (first
  | (with_reducible refine And.intro ?_ ?_)
  | ((first|(refine aA (λh=>?_) (λh=>?_)<;>(try simp at h))|refine pC (Fm _) ?_|refine lC (Fm _) ?_|refine pG (Fm _) ?_)<;>(try simp[-cB, *,Ki]))
  | (with_reducible intro _))
theorem Hm(s n:Int)(hn:aN .i64 n):Pure prog 210 [.d (.v (.int .u64 s)),iD n] (.bM [iD (sJ s n).1,.d (.v (.int .u64 (sJ s n).2))]):=by
 have h1:=(abD s).ok;have h2:=(Fm s).ok;have hb:=aen s;have hw:IntKind.wrap .u64 (rJ s)=rJ s:=wZ (by omega);rw[aR]at hn;unfold sJ;refine rn func210 ?_;simp[-cB,f210]
 repeat' (first
  | (with_reducible refine And.intro ?_ ?_)
  | ((first|(refine aA (λh=>?_) (λh=>?_)<;>(try simp at h))|refine pC Pure.none ?_|refine lC Pure.none ?_|refine pG Pure.none ?_)<;>(try simp[-cB, *]))
  | (with_reducible intro _))
 ·have hm:(rJ s).tmod n=rJ s % n:=aqT hb.1;have hv:IntKind.wrap .u64 n=n:=wZ (by omega);have hx:0<=rJ s % n/\rJ s % n<n:=⟨Int.emod_nonneg _ (by omega),Int.emod_lt_of_pos _ (by omega)⟩
  have hy:IntKind.wrap .i64 (rJ s % n)=rJ s % n:=wrap64 iW;refine aw.cV [.d (.v (.int .u32 (rJ s))),.d (.v (.int .u64 (BW s)))] bc (by kernel_rfl) (by rfl) ?_;simp[-cB,h1,h2,hw,hm,hv,hy,show ¬n<1 by omega];omega
def gF(b:Bool):Int:=if b then 1 else 0
def dq(w:ai)(lx x:Int):Int×Int:=
 if lx=1\/lx=2\/lx=3 then
  if cT w.ah.length (ax x)then((if lx=1 then aL w.ah (ax x)else if lx=2 then aL w.Child (ax x)else aL w.Next (ax x)),0)else(0,11)
 else(0,16)
def xa(w:ai)(e:cH)(lx:Int):Int×Int:=
 if lx=1 then(gh w.tree 1,0)else if lx=2 then(1,0)else if lx=3 then(ax e.qt,0)else if lx=4 then(ax e.Second,0)else if lx=5 then(ax e.Number,0)else if lx=6 then(ax w.Score,0)else(0,16)
theorem jZ(b:Bool):Pure prog 160 [oD b] (iD (gF b)):=by
 unfold gF;cases b
 ·refine rn func160 ?_;simp[-cB,f160]
 ·refine rn func160 ?_;simp[-cB,f160]
theorem ti(n:Int):Pure prog 105 [iD n] (iD (gF (decide (ax n=0)))):=by
 refine rn func105 ?_;simp[-cB,f105]
 try intro(_:Nat->Nat)
 repeat' (first
  | (with_reducible refine And.intro ?_ ?_)
  | ((first|(refine aA (λh=>?_) (λh=>?_)<;>(try simp at h))|refine pC (bB _) ?_|refine pC (jZ _) ?_|refine lC (bB _) ?_|refine lC (jZ _) ?_|refine pG (bB _) ?_|refine pG (jZ _) ?_)<;>(try simp[-cB, *]))
  | (with_reducible intro _))
theorem ago(n:Int):Pure prog 137 [iD n] (iD (gF (decide (ax n=0)))):=by
 unfold gF;refine rn func137 ?_;simp[-cB,f137]
 try intro(_:Nat->Nat)
 repeat' (first
  | (with_reducible refine And.intro ?_ ?_)
  | ((first|(refine aA (λh=>?_) (λh=>?_)<;>(try simp at h))|refine pC (cu _) ?_|refine lC (cu _) ?_|refine pG (cu _) ?_)<;>(try simp[-cB, *]))
  | (with_reducible intro _))
theorem Kk(w:ai)(hC:w.Child.length=w.ah.length)(hN:w.Next.length=w.ah.length)(lx x:Int):Pure prog 141 [.agg (w.enc.map .d),iD lx,iD x] (gW (dq w lx x)):=by
 unfold dq gW;generalize hy:ax x=y;have hw:lx=1\/lx=2\/lx=3\/(¬lx=1/\¬lx=2/\¬lx=3):=by omega
 rcases hw with rfl|rfl|rfl|⟨a1,a2,a3⟩<;>cases hT:cT w.ah.length y
 all_goals
  try have g1:=jn hT
  try have g2:=jn (l:=w.Child) (by rw[hC];exact hT)
  try have g3:=jn (l:=w.Next) (by rw[hN];exact hT)
  try have hb:=bG.1 hT
  refine rn func141 ?_;simp[-cB,f141]
  try intro(_:Nat->Nat)
  repeat' (first
   | (with_reducible refine And.intro ?_ ?_)
   | ((first|(refine aA (λh=>?_) (λh=>?_)<;>(try simp at h))|refine pC (cu _) ?_|refine pC (dG w _) ?_|refine lC (cu _) ?_|refine lC (dG w _) ?_|refine pG (cu _) ?_|refine pG (dG w _) ?_)<;>(try simp[-cB, *]))
   | (with_reducible intro _))
  all_goals first|omega|contradiction|grind
theorem abE(t:Tree)(x:Int):0<=gh t x/\(gh t x=0\/gh t x<t.bz.length):=by
 unfold gh;cases h:(jV t x).getLast? with
 | none=>rw[arj,h];exact⟨aql _,.inl rfl⟩
 | some y=>
   rw[arj,h];have hm:=arP h;have:=mY hm;simp only[aqF];omega
theorem S8(w:ai)(hw:w.wf)(hn:w.ah.length<=32768)(e:cH)(lx:Int):Pure prog 134 [.agg (w.enc.map .d),.agg (e.enc.map .d),iD lx] (gW (xa w e lx)):=by
 unfold xa gW;refine rn func134 ?_;simp[-cB,f134]
 try intro(_:Nat->Nat)
 have hb:=abE w.tree 1;have e1:w.tree.bz=w.ah:=rfl;rw[e1]at hb;have w1:ax (gh w.tree 1)=gh w.tree 1:=yf (by omega);have w2:ax 1=1:=yf (by omega);clear hb
 repeat' (first
  | (with_reducible refine And.intro ?_ ?_)
  | ((first|(refine aA (λh=>?_) (λh=>?_)<;>(try simp at h))|refine pC (cu _) ?_|refine pC (IU w hw _) ?_|refine lC (cu _) ?_|refine lC (IU w hw _) ?_|refine pG (cu _) ?_|refine pG (IU w hw _) ?_)<;>(try simp[-cB, *]))
  | (with_reducible intro _))
def iK(w:ai)(op a b:Int):Int×Int:=
 if op=1 then(gF (decide (ax a≠0)||decide (ax b≠0)),0)
 else if op=2 then(gF (decide (ax a≠0)&&decide (ax b≠0)),0)
 else if op=3 then(gF (decide (ax a=ax b)),0)
 else if op=4 then(gF (decide (ax a≠ax b)),0)
 else if op=5 then(gF (decide (ax a<ax b)),0)
 else if op=6 then(gF (decide (ax a<=ax b)),0)
 else if op=7 then(gF (decide (ax b<ax a)),0)
 else if op=8 then(gF (decide (ax b<=ax a)),0)
 else if op=9 then(if cT w.ah.length (ax a)then(gF (decide (aL w.ah (ax a)=ax b)),0)else(0,11))
 else if op=10 then(D1 (ax a) (ax b),0)
 else if op=11 then(U2 (ax a) (ax b),0)
 else if op=12 then(mulM (ax a) (ax b),0)
 else if op=13 then J8 (ax a) (ax b)
 else if op=14 then J9 (ax a) (ax b)
 else(0,16)
theorem Yw(w:ai)(op a b:Int):Pure prog 103 [.agg (w.enc.map .d),iD op,iD a,iD b] (gW (iK w op a b)):=by
 have hd:=Ye (ax a) (ax b);have hm:=Yf (ax a) (ax b);unfold gW at hd hm⊢;by_cases h9:op=9
 ·subst h9;simp only[iK];generalize hx:ax a=x;generalize hy:ax b=y;cases hT:cT w.ah.length x with
  | false=>
    refine rn func103 ?_;simp[-cB,f103]
    try intro(_:Nat->Nat)
    repeat' (first
     | (with_reducible refine And.intro ?_ ?_)
     | ((first|(refine aA (λh=>?_) (λh=>?_)<;>(try simp at h))|refine pC (bB _) ?_|refine pC (lu w _) ?_|refine lC (bB _) ?_|refine lC (lu w _) ?_|refine pG (bB _) ?_|refine pG (lu w _) ?_)<;>(try simp[-cB, *]))
     | (with_reducible intro _))
  | true=>
    have hb:=bG.1 hT;have g1:=jn hT;refine rn func103 ?_;simp[-cB,f103]
    try intro(_:Nat->Nat)
    repeat' (first
     | (with_reducible refine And.intro ?_ ?_)
     | ((first|(refine aA (λh=>?_) (λh=>?_)<;>(try simp at h))|refine pC (bB _) ?_|refine pC (lu w _) ?_|refine pC (jZ _) ?_|refine lC (bB _) ?_|refine lC (lu w _) ?_|refine lC (jZ _) ?_|refine pG (bB _) ?_|refine pG (lu w _) ?_|refine pG (jZ _) ?_)<;>(try simp[-cB, *]))
     | (with_reducible intro _))
    all_goals (try omega)
 ·unfold iK;refine rn func103 ?_;simp[-cB,f103]
  try intro(_:Nat->Nat)
  repeat' (first
   | (with_reducible refine And.intro ?_ ?_)
   | ((first|(refine aA (λh=>?_) (λh=>?_)<;>(try simp at h))|refine pC (bB _) ?_|refine pC (lu w _) ?_|refine pC (jZ _) ?_|refine pC (D2 _ _) ?_|refine pC (D3 _ _) ?_|refine pC (D4 _ _) ?_|refine pC hd ?_|refine pC hm ?_|refine lC (bB _) ?_|refine lC (lu w _) ?_|refine lC (jZ _) ?_|refine lC (D2 _ _) ?_|refine lC (D3 _ _) ?_|refine lC (D4 _ _) ?_|refine lC hd ?_|refine lC hm ?_|refine pG (bB _) ?_|refine pG (lu w _) ?_|refine pG (jZ _) ?_|refine pG (D2 _ _) ?_|refine pG (D3 _ _) ?_|refine pG (D4 _ _) ?_|refine pG hd ?_|refine pG hm ?_)<;>(try simp[-cB, *]))
   | (with_reducible intro _))
  all_goals rfl
theorem aeo(s:Int){n:Int}(h:1<=n):0<=(sJ s n).1/\(sJ s n).1<n:=by
 unfold sJ;have h1:=Int.emod_nonneg (rJ s) (show n≠0 by omega);have h2:=Int.emod_lt_of_pos (rJ s) (show 0<n by omega);split
 ·omega
 ·exact⟨h1,h2⟩
theorem LK(w:ai)(n:Int):Pure prog 142 [.agg (w.enc.map .d),iD n] (if ax n<1 then .bM [iD 0,.agg (w.enc.map .d),iD 1]else .bM [iD ((sJ w.dN (ax n)).1+1),.agg (({w with dN:=(sJ w.dN (ax n)).2}:ai).enc.map .d),iD 0]):=by
 by_cases h:ax n<1
 ·rw[if_pos h];refine rn func142 ?_;simp[-cB,f142]
  try intro(_:Nat->Nat)
  repeat' (first
   | (with_reducible refine And.intro ?_ ?_)
   | ((first|(refine aA (λh=>?_) (λh=>?_)<;>(try simp at h))|refine pC (cu _) ?_|refine lC (cu _) ?_|refine pG (cu _) ?_)<;>(try simp[-cB, *]))
   | (with_reducible intro _))
  refine aw.bI [Q0,Q0,none,asi] [] bc (by kernel_rfl) ?_;simp[-cB]
 ·rw[if_neg h];unfold ai.enc;refine rn func142 ?_;simp[-cB,f142]
  try intro(_:Nat->Nat)
  repeat' (first
   | (with_reducible refine And.intro ?_ ?_)
   | ((first|(refine aA (λh=>?_) (λh=>?_)<;>(try simp at h))|refine pC (cu _) ?_|refine ar.bA rfl (Hm _ _ (by have:=cR n;rw[aR];omega)) rfl rfl (by simp) rfl ?_|refine lC (cu _) ?_|refine ar.Ix rfl (Hm _ _ (by have:=cR n;rw[aR];omega)) rfl (by simp) rfl rfl (by simp) rfl ?_|refine pG (cu _) ?_|refine ar.fE rfl (λh=>Hm _ _ (by have:=cR n;rw[aR];omega)) rfl (by first|rfl|(simp;rfl)) (by simp) (by simp) rfl ?_)<;>(try simp[-cB, *]))
   | (with_reducible intro _))
  have hmb:=aeo w.dN (n:=ax n) (by omega);have hwb:=cR n;have cO:aN .i64 ((sJ w.dN (ax n)).1+1):=iW;refine aw.bI [Q0,Q0,Q0,Q0,none,asi] [] bc (by kernel_rfl) ?_;simp[-cB,cO]
structure XC where
 B:br
 E:cH
 M:Int
structure XS where
 W:ai
 Out:ByteArray
 Wr:Bool
 Fuel:Int
 Dp:Int
 Ls:List Int
inductive OC where
 | bL (n:Int)
 | ret (n:Int)
 | bm (e:Int)
 | over
abbrev eJ{α:Type}(l:List α)(i:Int):Prop:=0<=i/\i<l.length
abbrev zw{α:Type}(l:List α):Prop:=l.length<=1000000
def aC(l:List Int)(i:Int):Int:=l[i.toNat]?.getD 0
def okW(c:XC)(w:ai):Bool:=bS c.B.Tables w&&decide (0<=w.dN/\w.dN<18446744073709551616)
def z8(n:Nat):ByteArray:=if n<10 then⟨#[UInt8.ofNat (48+n)]⟩else z8 (n / 10)++⟨#[UInt8.ofNat (48+n % 10)]⟩
def yq(n:Int):ByteArray:=if n<0 then⟨#[45]⟩++z8 n.natAbs else z8 n.natAbs
def tX(t:aq)(i:Int):ByteArray:=if i<0\/(t.gO.length:Int)<=i then⟨#[]⟩else t.gO[i.toNat]?.getD ⟨#[]⟩
def Vh:ByteArray:=⟨#[110,111,116,104,105,110,103]⟩
def ix(t:aq)(x:Int):ByteArray:=if x<1\/(t.aB.length:Int)<=x then Vh else tX t (bW t x).mg
def ff(w:ai)(x:Int)(f:Nat):Bool:=cT w.ah.length x&&decide (aC w.Flags x / (2^f:Nat) % 2=1)
def nX(w:ai)(x:Int):List Int:=(cz w.tree x).filter λy=>!ff w y 3&&decide (y≠1)
def Aa:List ByteArray->ByteArray
 | []=>Vh
 | [a]=>a
 | [a,b]=>a++⟨#[32,97,110,100,32]⟩++b
 | a::l=>a++⟨#[44,32]⟩++Aa l
def xb(t:aq)(w:ai)(x:Int):ByteArray:=Aa ((nX w x).map (ix t))
def AT(w:ai)(x:Int):Bool:=!ff w x 2||ff w x 1
def qC(w:ai):Nat->Int->List Int
 | 0,_=> []
 | d+1,x=>(cz w.tree x).flatMap λy=>if ff w y 3 then []else y::(if AT w y then qC w d y else [])
def eV(w:ai):Int:=gh w.tree 1
def Vi(w:ai):Bool:=ff w (eV w) 0||(qC w w.ah.length (eV w)).any λy=>ff w y 0
def BX(t:aq)(w:ai):ByteArray:=
 if Vi w then ix t (eV w)++⟨#[10]⟩++(if(bW t (eV w)).Text≠ -1 then tX t (bW t (eV w)).Text++⟨#[10]⟩else⟨#[]⟩)++(if nX w (eV w)≠ []then⟨#[89,111,117,32,115,101,101,32]⟩++xb t w (eV w)++⟨#[46,10]⟩else⟨#[]⟩)
 else⟨#[73,116,32,105,115,32,100,97,114,107,46,10]⟩
def abF(w:ai)(x f:Int):Int×Int:=(if dO w x f=0 then gF (ff w x f.toNat)else 0,dO w x f)
def ig(w:ai)(x f:Int)(on:Bool):ai×Int:=
 if dO w x f=0 then(if ff w x f.toNat=on then w else {w with Flags:=w.Flags.set x.toNat (if on then aC w.Flags x+(2^f.toNat:Nat)else aC w.Flags x-(2^f.toNat:Nat))},0)else(w,dO w x f)
def gQ(t:aq)(x:Int):Bool:=decide (1<=x)&&decide (x<t.aB.length)&&(bW t x).Room
def tY(t:aq)(p:ai×Int):ai×Int:=if p.2=0/\gQ t (gh p.1.tree 1)=false then(p.1,12)else p
def oN(t:aq)(w:ai)(x to:Int):ai×Int:=if gQ t x=true then(w,12)else tY t (pW w x to)
def kI(t:aq)(w:ai)(x:Int):ai×Int:=if gQ t x=true\/x=1 then(w,12)else tY t (kH w x)
def Ac(σ:XS)(s:ByteArray):Option (XS×OC):=if σ.Out.size+s.size<=140737488355328 then some ({σ with Out:=σ.Out++s,Wr:=true},.bL 0)else none
def tZ(c:XC)(σ:XS):Option (XS×OC):=if 0<=σ.Fuel/\σ.Fuel<=1099511627776 then if c.M<σ.Fuel+1 then some (σ,.bm 19)else some ({σ with Fuel:=σ.Fuel+1},.bL 0)else none
def iV{α:Type}(w:α)(p:Int×Int):α×OC:=if p.2=0 then(w,.bL p.1)else(w,.bm p.2)
def iy(w:ai)(p:ai×Int):ai×OC:=if p.2=0 then(p.1,.bL 0)else(w,.bm p.2)
def dZ(c:XC)(w:ai)(k n:Int)(a:List Int):Option (ai×OC):=
 if okW c w=false then none
 else if k=1 then some (w,.bL n)
 else if k=14 then(if eJ w.aW n then some (w,.bL (aC w.aW n))else none)
 else if k=12 then some (iV w (xa w c.E n))
 else if a.length=0 then none
 else if k=4 then some (w,.bL (uP (aC a 0)))
 else if k=5 then some (w,.bL (gF (decide (ax (aC a 0)=0))))
 else if k=16 then some (iV w (abF w (aC a 0) n))
 else if k=17 then some (iV w (BV c.B.Tables w (aC a 0) n))
 else if k=10 then some (iV w (dq w n (aC a 0)))
 else if k=11 then(if ax (aC a 0)<1 then some (w,.bm 1)else some ({w with dN:=(sJ w.dN (ax (aC a 0))).2},.bL ((sJ w.dN (ax (aC a 0))).1+1)))
 else if a.length=1 then none
 else if k=6 then some (iV w (iK w n (aC a 0) (aC a 1)))
 else none
def lZ(e:au):Int:=if e.Kind=6\/e.Kind=10\/e.Kind=12 then e.Op else e.aI
def Kl(c:XC)(σ:XS)(e:au)(a:List Int):Option (XS×OC):=
 if e.Kind=15 then(if eJ σ.Ls e.aI then some (σ,.bL (aC σ.Ls e.aI))else none)
 else(dZ c σ.W e.Kind (lZ e) a).map λp=>({σ with W:=p.1},p.2)
def dk(c:XC)(w:ai)(k num:Int)(a:List Int):Option (ai×OC):=
 if okW c w=false then none
 else if k=13 then some (w,.over)
 else if k=14 then some ({w with lq:=1},.over)
 else if k=15 then some ({w with lq:=2},.over)
 else if k=18 then(if eJ w.bO num then some ({w with bO:=w.bO.set num.toNat 0},.bL 0)else none)
 else if a.length=0 then none
 else if k=19 then some (w,.bL 0)
 else if k=5 then some (iy w (ig w (aC a 0) num true))
 else if k=6 then some (iy w (ig w (aC a 0) num false))
 else if k=8 then some (iy w (kI c.B.Tables w (aC a 0)))
 else if k=16 then some ({w with Score:=D1 w.Score (aC a 0)},.bL 0)
 else if k=17 then(if eJ w.bO num then some ({w with bO:=w.bO.set num.toNat (if aC a 0<1 then 1 else aC a 0)},.bL 0)else none)
 else if k=20 then(if aC a 0<1\/12<aC a 0 then some (w,.bm 5)else some ({w with Go:=aC a 0},.bL 0))
 else if k=23 then(if eJ w.aW num then some ({w with aW:=w.aW.set num.toNat (aC a 0)},.bL 0)else none)
 else if a.length=1 then none
 else if k=4 then some (iy w (sI c.B.Tables w (aC a 0) num (aC a 1)))
 else if k=7 then some (iy w (oN c.B.Tables w (aC a 0) (aC a 1)))
 else none
def Km(c:XC)(σ:XS)(k num:Int)(a:List Int):Option (XS×OC):=
 if k=21 then(if okW c σ.W=true then Ac σ (BX c.B.Tables σ.W)else none)
 else if k=22 then(if okW c σ.W=true/\0<a.length then Ac σ (xb c.B.Tables σ.W (aC a 0))else none)
 else(dk c σ.W k num a).map λp=>({σ with W:=p.1},p.2)
def nf(p:XS×OC):XS×OC:=match p.2 with
 | .bL n=>(p.1,.bL (ax n))
 | _=>p
mutual
def dP(c:XC):Nat->XS->au->Option (XS×OC)
 | 0,_,_=>none
 | g+1,σ,e=>
   if e.Kind=6/\(e.Op=1\/e.Op=2)then
    match e.av with
    | x::y::_=>match dP c g σ x with
      | some (aO,.bL l)=>if decide (l≠0)=decide (e.Op=1)then some (aO,.bL (gF (decide (l≠0))))else match dP c g aO y with
        | some (bV,.bL r)=>some (bV,.bL (gF (decide (r≠0))))
        | r=>r
      | r=>r
    | _=>none
   else if ¬zw e.av then none else match dL c g σ e.av with
    | some (aO,.inl a)=>if e.Kind=18 then(if eJ c.B.Tables.cS e.aI then(jo c g aO (aC c.B.Tables.cS e.aI) a).map nf else none)else(Kl c aO e a).map nf
    | some (aO,.inr o)=>some (aO,o)
    | none=>none
def dL(c:XC):Nat->XS->List au->Option (XS×(List Int ⊕ OC))
 | 0,_,_=>none
 | _+1,σ,[]=>some (σ,.inl [])
 | g+1,σ,e::l=>match dP c g σ e with
   | some (aO,.bL n)=>match dL c g aO l with
     | some (bV,.inl a)=>some (bV,.inl (n::a))
     | r=>r
   | some (aO,o)=>some (aO,.inr o)
   | none=>none
def jo(c:XC):Nat->XS->Int->List Int->Option (XS×OC)
 | 0,_,_,_=>none
 | g+1,σ,r,a=>
   if σ.Dp<0 then none else if 32<=σ.Dp then some (σ,.bm 17)else
   if eJ c.B.Tables.aJ r/\eJ c.B.aF r/\(a.length:Int)<=aC c.B.Tables.aJ r/\aC c.B.Tables.aJ r<=1000/\zw (c.B.aF[r.toNat]?.getD [])then
    match dV c g {σ with Dp:=σ.Dp+1,Ls:=a.map ax++List.replicate ((aC c.B.Tables.aJ r).toNat-a.length) 0} (c.B.aF[r.toNat]?.getD [])with
    | some (aO,o)=>some ({aO with Dp:=aO.Dp-1,Ls:=σ.Ls},match o with|.bL _=> .bL 0|.ret n=> .bL n|o=>o)
    | none=>none
   else none
def dV(c:XC):Nat->XS->List al->Option (XS×OC)
 | 0,_,_=>none
 | _+1,σ,[]=>some (σ,.bL 0)
 | g+1,σ,x::l=>match jH c g σ x with
   | some (aO,.bL _)=>dV c g aO l
   | r=>r
def jH(c:XC):Nat->XS->al->Option (XS×OC)
 | 0,_,_=>none
 | g+1,σ,x=>
   if x.Kind=10 then(if zw x.Body then gn c g σ x else none)else
   match tZ c σ with
   | some (σ,.bL _)=>if ¬zw x.av then none else if x.Kind=1 then jI c g σ x.av else match dL c g σ x.av with
     | some (aO,.inl a)=>ij c g aO x a
     | some (aO,.inr o)=>some (aO,o)
     | none=>none
   | r=>r
def jI(c:XC):Nat->XS->List au->Option (XS×OC)
 | 0,_,_=>none
 | _+1,σ,[]=>some (σ,.bL 0)
 | g+1,σ,e::l=>
   match kU c g σ e with
   | some (aO,.bL _)=>jI c g aO l
   | r=>r
def kU(c:XC):Nat->XS->au->Option (XS×OC)
 | 0,_,_=>none
 | g+1,σ,e=>
   if e.Kind=19 then Ac σ (tX c.B.Tables e.aI)
   else if e.Kind=13 then match e.av with
    | x::_=>match dP c g σ x with
      | some (aO,.bL n)=>Ac aO (ix c.B.Tables n)
      | r=>r
    | []=>none
   else match dP c g σ e with
   | some (aO,.bL n)=>Ac aO (yq n)
   | r=>r
def gn(c:XC):Nat->XS->al->Option (XS×OC)
 | 0,_,_=>none
 | g+1,σ,x=>
   match tZ c σ with
   | some (σ,.bL _)=>match x.av with
     | e::_=>match dP c g σ e with
       | some (aO,.bL n)=>if n=0 then some (aO,.bL 0)else match dV c g aO x.Body with
         | some (bV,.bL _)=>gn c g bV x
         | r=>r
       | r=>r
     | []=>none
   | r=>r
def fu(c:XC):Nat->XS->al->Option (XS×OC)
 | 0,_,_=>none
 | g+1,σ,x=>
   if eJ σ.Ls x.aI/\eJ σ.Ls (x.aI+1)/\x.aI<=1000000/\okW c σ.W=true then
    if aC σ.Ls x.aI=0 then some (σ,.bL 0)else
    match tZ c σ with
    | some (σ,.bL _)=>
      if(dq σ.W 3 (aC σ.Ls x.aI)).2≠0 then some (σ,.bm (dq σ.W 3 (aC σ.Ls x.aI)).2)else
      match dV c g {σ with Ls:=σ.Ls.set (x.aI+1).toNat (dq σ.W 3 (aC σ.Ls x.aI)).1} x.Body with
      | some (bV,.bL _)=>fu c g {bV with Ls:=bV.Ls.set x.aI.toNat (aC bV.Ls (x.aI+1))} x
      | r=>r
    | r=>r
   else none
def ij(c:XC):Nat->XS->al->List Int->Option (XS×OC)
 | 0,_,_,_=>none
 | g+1,σ,x,a=>
   if x.Kind=2\/x.Kind=3 then(if 0<a.length/\eJ σ.Ls x.aI then some ({σ with Ls:=σ.Ls.set x.aI.toNat (aC a 0)},.bL 0)else none)
   else if x.Kind=9 then(if 0<a.length/\zw x.Body/\zw x.bC then dV c g σ (if aC a 0≠0 then x.Body else x.bC)else none)
   else if x.Kind=11 then(if 0 < a.length∧okW c σ.W=true∧eJ σ.Ls x.aI∧zw x.Body then
     if(dq σ.W 2 (aC a 0)).2≠0 then some (σ,.bm (dq σ.W 2 (aC a 0)).2)else fu c g {σ with Ls:=σ.Ls.set x.aI.toNat (dq σ.W 2 (aC a 0)).1} x
    else none)
   else if x.Kind=12 then(if 0<a.length then some (σ,.ret (aC a 0))else none)
   else Km c σ x.Kind x.aI a
end
structure MS where
 W:ai
 Out:ByteArray
 Fuel:Int
inductive Oc where
 | ret (n:Int) (σ:MS)
 | bm (e:Int) (σ:MS)
 | over (σ:MS)
inductive Ev where
 | ok (S L:List Int) (σ:MS)
 | bm (e:Int)
 | over (σ:MS)
inductive Nx where
 | go (r:List ae) (S L:List Int) (σ:MS) (k:Nat)
 | stop (o:Oc)
 | call (f:Int) (a S:List Int)
 | stuck
def after:List ae->Int->Option (List ae)
 | [],_=>none
 | i::r,n=>if i.Op=38/\i.Arg=n then some r else after r n
structure eA where
 J:ae->List Int->List Int->MS->Option Ev
 fn:Int->Int
 pa:Int->Nat
 lo:Int->List Int->List Int
def Nx.to(S L:List Int)(σ:MS):Option (List ae)->Nx
 | some r=> .go r S L σ 1
 | none=> .stuck
def Nx.zero(r:List ae)(L:List Int)(σ:MS)(t:Option (List ae)):List Int->Nx
 | v::S=>if ax v=0 then Nx.to S L σ t else .go r S L σ 1
 | []=> .stuck
def Nx.back(σ:MS):List Int->Nx
 | v::_=> .stop (.ret v σ)
 | []=> .stuck
def Nx.ev(r:List ae)(σ:MS):Option Ev->Nx
 | some (.ok S' L' σ')=> .go r S' L' σ' 1
 | some (.bm e)=> .stop (.bm e σ)
 | some (.over σ')=> .stop (.over σ')
 | none=> .stuck
def nx(m:eA)(d:Nat)(l:List ae)(i:ae)(r:List ae)(S L:List Int)(σ:MS):Nx:=
 if i.Op=38 then .go r S L σ 0
 else if i.Op=24 then Nx.to S L σ (after l i.Arg)
 else if i.Op=25 then Nx.zero r L σ (after l i.Arg) S
 else if i.Op=27 then Nx.back σ S
 else if i.Op=26 then(if 32<=d then(if 0<=m.fn i.Arg then .stop (.bm 17 σ)else .stuck)else if m.pa (m.fn i.Arg)<=S.length then .call (m.fn i.Arg) (S.take (m.pa (m.fn i.Arg))).reverse (S.drop (m.pa (m.fn i.Arg)))else .stuck)
 else Nx.ev r σ (m.J i S L σ)
theorem BY{m:eA}{d:Nat}{l:List ae}{i:ae}{r:List ae}{S L:List Int}{σ:MS}(h:i.Op=38):nx m d l i r S L σ= .go r S L σ 0:=by simp[nx,h]
theorem uU{m:eA}{d:Nat}{l:List ae}{i:ae}{r:List ae}{S L:List Int}{σ:MS}(h:i.Op=24):nx m d l i r S L σ=Nx.to S L σ (after l i.Arg):=by simp[nx,h]
theorem rK{m:eA}{d:Nat}{l:List ae}{i:ae}{r:List ae}{S L:List Int}{σ:MS}(h:i.Op=25):nx m d l i r S L σ=Nx.zero r L σ (after l i.Arg) S:=by simp[nx,h]
theorem Ho{m:eA}{d:Nat}{l:List ae}{i:ae}{r:List ae}{S L:List Int}{σ:MS}(h:i.Op=27):nx m d l i r S L σ=Nx.back σ S:=by simp[nx,h]
theorem BZ{m:eA}{d:Nat}{l:List ae}{i:ae}{r:List ae}{S L:List Int}{σ:MS}(h:i.Op=26):nx m d l i r S L σ=(if 32<=d then(if 0<=m.fn i.Arg then .stop (.bm 17 σ)else .stuck)else if m.pa (m.fn i.Arg)<=S.length then .call (m.fn i.Arg) (S.take (m.pa (m.fn i.Arg))).reverse (S.drop (m.pa (m.fn i.Arg)))else .stuck):=by simp[nx,h]
def flat(op:Int):Prop:=op≠38/\op≠24/\op≠25/\op≠27/\op≠26
theorem zx{m:eA}{d:Nat}{l:List ae}{i:ae}{r:List ae}{S L:List Int}{σ:MS}(h:flat i.Op):nx m d l i r S L σ=Nx.ev r σ (m.J i S L σ):=by
 obtain⟨h1,h2,h3,h4,h5⟩:=h;simp[nx,h1,h2,h3,h4,h5]
def run(m:eA)(P:Int->List ae):Nat->Nat->List ae->List ae->List Int->List Int->MS->Option (Oc×Nat)
 | 0,_,_,_,_,_,_=>none
 | _+1,_,_,[],_,_,_=>none
 | g+1,d,l,i::r,S,L,σ=>match nx m d l i r S L σ with
   | .go r' S' L' σ' k=>(run m P g d l r' S' L' σ').map λx=>(x.1,x.2+k)
   | .stop o=>some (o,1)
   | .call f a S'=>match run m P g (d+1) (P f) (P f) [] (m.lo f a) σ with
     | some (.ret v σ',k)=>(run m P g d l r (ax v::S') L σ').map λx=>(x.1,x.2+k+1)
     | some (o,k)=>some (o,k+1)
     | none=>none
   | .stuck=>none
theorem B0{m:eA}{P:Int->List ae}:∀(g g' d:Nat) (l r:List ae) (S L:List Int) (σ:MS) (x:Oc×Nat),g<=g'->run m P g d l r S L σ=some x->run m P g' d l r S L σ=some x:=by
 intro g
 induction g with
 | zero=>intro g' d l r S L σ x _ h;simp[run]at h
 | succ g ih=>
   intro g' d l r S L σ x hg h;obtain⟨g',rfl⟩:∃k,g'=k+1:=⟨g'-1,by omega⟩
   have hg:g<=g':=by omega
   cases r with
   | nil=>simp[run]at h
   | cons i r=>
     rw[run]at h⊢;cases hn:nx m d l i r S L σ with
     | go r' S' L' σ' k=>
       simp only[hn,apN]at h⊢;obtain⟨y,h1,h2⟩:=h;exact⟨y,ih g' _ _ _ _ _ _ _ hg h1,h2⟩
     | stop o=>simp only[hn]at h⊢;exact h
     | stuck=>simp only[hn]at h;cases h
     | call f a S'=>
       simp only[hn]at h⊢;cases hc:run m P g (d+1) (P f) (P f) [] (m.lo f a) σ with
       | none=>rw[hc]at h;cases h
       | some y=>
         rw[ih g' _ _ _ _ _ _ _ hg hc];rw[hc]at h;obtain⟨o,k⟩:=y;cases o with
         | ret v σ'=>
           simp only[apN]at h⊢;obtain⟨z,h1,h2⟩:=h;exact⟨z,ih g' _ _ _ _ _ _ _ hg h1,h2⟩
         | bm e σ'=>exact h
         | over σ'=>exact h
def rZ(m:eA)(P P':Int->List ae)(l r l' r':List ae)(g:Nat):Prop:=
 ∀d S L σ o n,run m P g d l r S L σ=some (o,n)->∃g' n',n'<=n/\run m P' g' d l' r' S L σ=some (o,n')
theorem rZ.nil(m:eA)(P P':Int->List ae)(l r l' r':List ae):rZ m P P' l r l' r' 0:=by
 intro d S L σ o n h;simp[run]at h
theorem rZ.step{m:eA}{P P':Int→List ae}{l r l' r':List ae}{i:ae}{g:Nat}(hP:∀f,rZ m P P' (P f) (P f) (P' f) (P' f) g)(hr:rZ m P P' l r l' r' g)
  (hj:i.Op=24\/i.Op=25->∀r1,after l i.Arg=some r1->∃pX,after l' i.Arg=some pX/\rZ m P P' l r1 l' pX g):rZ m P P' l (i::r) l' (i::r') (g+1):=by
 intro d S L σ o n h;rw[run]at h;have go:∀{r1 pX S1 L1 aO k},nx m d l' i r' S L σ= .go pX S1 L1 aO k->rZ m P P' l r1 l' pX g->(run m P g d l r1 S1 L1 aO).map (λx=>(x.1,x.2+k))=some (o,n)->∃g' n',n'<=n/\run m P' g' d l' (i::r') S L σ=some (o,n'):=by
  intro r1 pX S1 L1 aO k hn hs hh;obtain⟨y,h1,h2⟩:=apN.1 hh;obtain⟨yo,yn⟩:=y;simp only[apM]at h2;obtain⟨rfl,rfl⟩:=h2;obtain⟨g',n',hle,tz⟩:=hs d S1 L1 aO _ yn h1;refine⟨g'+1,n'+k,by omega,?_⟩;rw[run,hn];simp only[tz,aqe]
 by_cases ed:i.Op=38
 ·rw[BY ed]at h;exact go (BY ed) hr h
 have tgt:i.Op=24\/i.Op=25->∀S1,(match Nx.to S1 L σ (after l i.Arg)with
  | .go r' S' L' σ' k=>(run m P g d l r' S' L' σ').map λx=>(x.1,x.2+k)
  | .stop o=>some (o,1)
  | .call f a S'=>match run m P g (d+1) (P f) (P f) [] (m.lo f a) σ with
    | some (.ret v σ',k)=>(run m P g d l r (ax v::S') L σ').map λx=>(x.1,x.2+k+1)
    | some (o,k)=>some (o,k+1)
    | none=>none
  | .stuck=>none)=some (o,n)->nx m d l' i r' S L σ=Nx.to S1 L σ (after l' i.Arg)->∃g' n',n'<=n/\run m P' g' d l' (i::r') S L σ=some (o,n'):=by
  intro hi S1 h1 h2;cases ha:after l i.Arg with
  | none=>rw[ha]at h1;cases h1
  | some r1=>
    rw[ha]at h1;obtain⟨pX,De,hs⟩:=hj hi r1 ha;rw[De]at h2;exact go h2 hs h1
 by_cases fe:i.Op=24
 ·rw[uU fe]at h;exact tgt (Or.inl fe) S h (uU fe)
 by_cases gL:i.Op=25
 ·rw[rK gL]at h;cases S with
  | nil=>cases h
  | cons v S=>
    rw[Nx.zero]at h;by_cases hv:ax v=0
    ·rw[if_pos hv]at h;exact tgt (Or.inr gL) S h (by rw[rK gL,Nx.zero,if_pos hv])
    ·rw[if_neg hv]at h;exact go (by rw[rK gL,Nx.zero,if_neg hv]) hr h
 by_cases rC:i.Op=27
 ·rw[Ho rC]at h;cases S with
  | nil=>cases h
  | cons v S=>exact⟨1,n,apU _,by rw[run,Ho rC];exact h⟩
 by_cases nP:i.Op=26
 ·rw[BZ nP]at h;by_cases hd:32<=d
  ·rw[if_pos hd]at h;by_cases hf:0<=m.fn i.Arg
   ·rw[if_pos hf]at h;exact⟨1,n,apU _,by rw[run,BZ nP,if_pos hd,if_pos hf];exact h⟩
   ·rw[if_neg hf]at h;cases h
  by_cases hp:m.pa (m.fn i.Arg)<=S.length
  ·rw[if_neg hd,if_pos hp]at h;simp only at h;cases hc:run m P g (d+1) (P (m.fn i.Arg)) (P (m.fn i.Arg)) [] (m.lo (m.fn i.Arg) (S.take (m.pa (m.fn i.Arg))).reverse) σ with
   | none=>rw[hc]at h;cases h
   | some y=>
     obtain⟨yo,yk⟩:=y;obtain⟨g1,n1,hle,h1⟩:=hP _ _ _ _ _ _ _ hc;rw[hc]at h;cases yo with
     | ret v σ'=>
       simp only at h;obtain⟨z,hz,h2⟩:=apN.1 h;obtain⟨zo,zn⟩:=z;simp only[apM]at h2;obtain⟨rfl,rfl⟩:=h2;obtain⟨g2,n2,aj4,h2⟩:=hr _ _ _ _ _ _ hz;refine⟨g1+g2+1,n2+n1+1,by omega,?_⟩;rw[run,BZ nP,if_neg hd,if_pos hp];simp only[B0 g1 (g1+g2) _ _ _ _ _ _ _ (by omega) h1,B0 g2 (g1+g2) _ _ _ _ _ _ _ (by omega) h2,aqe]
     | bm x σ'=>
       simp only[akC,apM]at h;obtain⟨rfl,rfl⟩:=h;exact⟨g1+1,n1+1,by omega,by rw[run,BZ nP,if_neg hd,if_pos hp];simp only[h1]⟩
     | over σ'=>
       simp only[akC,apM]at h;obtain⟨rfl,rfl⟩:=h;exact⟨g1+1,n1+1,by omega,by rw[run,BZ nP,if_neg hd,if_pos hp];simp only[h1]⟩
  ·rw[if_neg hd,if_neg hp]at h;cases h
 have hf:flat i.Op:=⟨ed,fe,gL,rC,nP⟩
 rw[zx hf]at h;cases hJ:m.J i S L σ with
 | none=>rw[hJ]at h;cases h
 | some ev=>
   rw[hJ]at h;cases ev with
   | ok S' L' σ'=>exact go (by rw[zx hf,hJ];rfl) hr h
   | bm x=>exact⟨1,n,apU _,by rw[run,zx hf,hJ];exact h⟩
   | over σ'=>exact⟨1,n,apU _,by rw[run,zx hf,hJ];exact h⟩
inductive RP(p dU new q:List ae):List ae->List ae->Prop where
 | Yx (p1 p2:List ae):p=p1++p2->RP p dU new q (p2++(dU++q)) (p2++(new++q))
 | Pc (q1 q2:List ae):q=q1++q2->RP p dU new q q2 q2
structure LL(m:eA) (P P':Int->List ae) (p dU new q:List ae) (g:Nat):Prop where
 same:∀l r,rZ m P P' l r l r g
 rel:∀r r',RP p dU new q r r'->rZ m P P' (p++(dU++q)) r (p++(new++q)) r' g
theorem LL.fn{m:eA}{P P':Int->List ae}{p dU new q:List ae}{g:Nat}(h:LL m P P' p dU new q g)(hP:∀f,P f=P' f\/P f=p++(dU++q)/\P' f=p++(new++q))(f:Int):rZ m P P' (P f) (P f) (P' f) (P' f) g:=by
 rcases hP f with h1|⟨h1,h2⟩
 ·rw[<-h1];exact h.same _ _
 ·rw[h1,h2];exact h.rel _ _ (.Yx [] p rfl)
theorem LL.run{m:eA}{P P':Int→List ae}{p dU new q:List ae}(hP:∀f,P f=P' f∨P f=p++(dU++q)∧P' f=p++(new++q))
  (ht:∀i∈p++q,i.Op=24\/i.Op=25->∀r1,after (p++(dU++q)) i.Arg=some r1->∃pX,after (p++(new++q)) i.Arg=some pX/\RP p dU new q r1 pX)
  (hh:∀g,(∀g1,g1<=g->LL m P P' p dU new q g1)->rZ m P P' (p++(dU++q)) (dU++q) (p++(new++q)) (new++q) (g+1)):∀g,LL m P P' p dU new q g:=by
 intro g
 induction g using Nat.strongRecOn with
 | _ g ih=>
   cases g with
   | zero=>exact⟨λ_ _=>rZ.nil _ _ _ _ _ _ _,λ_ _ _=>rZ.nil _ _ _ _ _ _ _⟩
   | succ g=>
     have hg:=ih g (by omega);have tail:∀i∈p++q,∀r r',RP p dU new q r r'->rZ m P P' (p++(dU++q)) (i::r) (p++(new++q)) (i::r') (g+1):=by
      intro i hi r r' h;refine rZ.step (hg.fn hP) (hg.rel _ _ h) ?_;intro hj r1 h1;obtain⟨pX,h2,h3⟩:=ht i hi hj r1 h1;exact⟨pX,h2,hg.rel _ _ h3⟩
     refine⟨?_,?_⟩
     ·intro l r;cases r with
      | nil=>intro d S L σ o n h;simp[Go.Ab.run]at h
      | cons i r=>exact rZ.step (hg.fn hP) (hg.same _ _) (λ_ r1 h=>⟨r1,h,hg.same _ _⟩)
     ·intro r r' h;cases h with
      | Yx p1 p2 hp=>
        cases p2 with
        | nil=>exact hh g (λg1 h1=>ih g1 (by omega))
        | cons i p2=>exact tail i (by rw[hp];simp) _ _ (.Yx (p1++ [i]) p2 (by simp[hp]))
      | Pc q1 hq=>
        cases r with
        | nil=>intro d S L σ o n h;simp[Go.Ab.run]at h
        | cons i q2=>
          rename_i hq;exact tail i (by rw[hq];simp) _ _ (.Pc (q1++ [i]) q2 (by simp[hq]))
def kJ(l:List ae):Prop:=∀i∈l,i.Op≠38
theorem xc{a b:List ae}{n:Int}(h:∀i∈a,¬(i.Op=38/\i.Arg=n)):after (a++b) n=after b n:=by
 induction a with
 | nil=>rfl
 | cons i a ih=>rw[apZ,after,if_neg (h i (by simp)),ih (λj hj=>h j (by simp[hj]))]
theorem Ea:∀(l r:List ae) (n:Int),after l n=some r->∃a i,l=a++i::r/\i.Op=38/\i.Arg=n
 | [],r,n,h=>by simp[after]at h
 | i::l,r,n,h=>by
   rw[after]at h;split at h
   ·rename_i hi;simp only[akC]at h;subst h;exact⟨[],i,rfl,hi.1,hi.2⟩
   ·obtain⟨a,j,h1,h2⟩:=Ea l r n h;exact⟨i::a,j,by rw[h1];rfl,h2⟩
theorem vJ{p dU new q:List ae}{n:Int}(ho:∀i∈dU,¬(i.Op=38/\i.Arg=n))(hn:∀i∈new,¬(i.Op=38/\i.Arg=n)):∀(p1 p2:List ae),p=p1++p2->∀r1,after (p2++(dU++q)) n=some r1->∃pX,after (p2++(new++q)) n=some pX/\RP p dU new q r1 pX:=by
 intro p1 p2
 induction p2 generalizing p1 with
 | nil=>
   intro hp r1 h;rw[ap4,xc ho]at h;rw[ap4,xc hn];obtain⟨a,i,h1,_⟩:=Ea _ _ _ h;exact⟨r1,h,.Pc (a++ [i]) r1 (by simp[h1])⟩
 | cons i p2 ih=>
   intro hp r1 h;rw[apZ,after]at h;rw[apZ,after];split at h
   ·rename_i hi;rw[if_pos hi];simp only[akC]at h;subst h;exact⟨_,rfl,.Yx (p1++ [i]) p2 (by simp[hp])⟩
   ·rename_i hi;rw[if_neg hi];exact ih (p1++ [i]) (by simp[hp]) r1 h
def cr(r:List ae)(k:Nat):Int:=(r[k]?.map ae.Op).getD 0
def bg(r:List ae)(k:Nat):Int:=(r[k]?.map ae.Arg).getD 0
def notM(n:Int):Int:=gF (decide (ax n=0))
def jJ(n:Int):List ae:=[⟨1,ax n⟩]
def nI(r:List ae):Option (Nat×List ae):=
 if cr r 0=1/\cr r 1=1/\cr r 2=8/\bg r 2≠9/\(iK ai.zero (bg r 2) (bg r 0) (bg r 1)).2=0 then some (3,jJ (iK ai.zero (bg r 2) (bg r 0) (bg r 1)).1)
 else if cr r 0≠1 then none
 else if cr r 1=9 then some (2,jJ (uP (bg r 0)))
 else if cr r 1=10 then some (2,jJ (notM (bg r 0)))
 else if cr r 1=11 then some (2,jJ (1-notM (bg r 0)))
 else none
def ma(r:List ae):Option (Nat×List ae):=
 if cr r 0=10/\cr r 1=10/\cr r 2=25 then some (2,[])
 else if cr r 0=1/\cr r 1=25 then(if ax (bg r 0)=0 then some (2,[⟨24,bg r 1⟩])else some (2,[]))
 else if cr r 0=1/\cr r 1=2 then some (2,[])
 else none
def bl(i:ae):Bool:=decide (i.Op=38)
def iz(o:Int):Prop:=o=24\/o=27\/o=28\/o=29\/o=30
instance (o:Int):Decidable (iz o):=by unfold iz;infer_instance
def ik(r:List ae):Nat:=(r.takeWhile λi=>!bl i).length
def kq(l:List ae)(n:Int):Bool:=l.any λi=>(decide (i.Op=24)||decide (i.Op=25))&&decide (i.Arg=n)
def rL(l r:List ae):Option (List ae):=
 match after l (bg r 0)with
 | none=>none
 | some a=>if cr (a.dropWhile bl) 0=24/\bg (a.dropWhile bl) 0≠bg r 0 then some [⟨cr r 0,bg (a.dropWhile bl) 0⟩]else none
def nY(l r:List ae):Option (Nat×Nat×List ae):=
 match nI r with
 | some (n,x)=>some (0,n,x)
 | none=>match ma r with
   | some (n,x)=>some (0,n,x)
   | none=>
     if iz (cr r 0)/\0<ik r.tail then some (1,ik r.tail,[])
     else if cr r 0=24\/cr r 0=25 then
      (if cr r 0=24/\(r.tail.takeWhile bl).any (λi=>decide (i.Arg=bg r 0))=true then some (0,1,[])
       else(rL l r).map λx=>(0,1,x))
     else if cr r 0=38/\kq l (bg r 0)=false then some (0,1,[])
     else none
def il(l:List ae)(k n:Nat)(x:List ae):List ae:=l.take k++(x++l.drop (k+n))
def iq(l:List ae)(k:Nat):Option (List ae):=(nY l (l.drop k)).map λy=>il l (k+y.1) y.2.1 y.2.2
def jq(l:List ae):Nat->Nat->Option (List ae)
 | 0,_=>none
 | n+1,k=>match iq l k with
   | some x=>some x
   | none=>jq l n (k+1)
def allM:Nat->List ae->List ae
 | 0,l=>l
 | n+1,l=>match jq l l.length 0 with
   | some x=>allM n x
   | none=>l
def dK(l:List ae):List ae:=allM (16 *l.length) l
structure eA.Std(m:eA):Prop where
 push:∀a S L σ,m.J ⟨1,a⟩ S L σ=some (.ok (ax a::S) L σ)
 pop:∀x v S L σ,m.J ⟨2,x⟩ (v::S) L σ=some (.ok S L σ)
 bin:∀o a b S L σ,o≠9->(iK ai.zero o a b).2=0->m.J ⟨8,o⟩ (ax b::ax a::S) L σ=some (.ok (ax (iK ai.zero o a b).1::S) L σ)
 neg:∀x a S L σ,m.J ⟨9,x⟩ (ax a::S) L σ=some (.ok (ax (uP a)::S) L σ)
 no:∀x v S L σ,m.J ⟨10,x⟩ (v::S) L σ=some (.ok (notM v::S) L σ)
 no0:∀x L σ,m.J ⟨10,x⟩ [] L σ=none
 test:∀x a S L σ,m.J ⟨11,x⟩ (ax a::S) L σ=some (.ok (gF (decide (ax a≠0))::S) L σ)
def bH(m:eA)(l l':List ae):Prop:=∀P P':Int->List ae,(∀f,P f=P' f\/P f=l/\P' f=l')->∀g,rZ m P P' l l l' l' g/\∀l r,rZ m P P' l r l r g
theorem bH.of{m}{p dU new q}(ht:∀i∈p++q,i.Op=24∨i.Op=25→∀r1,after (p++(dU++q)) i.Arg=some r1→∃pX,after (p++(new++q)) i.Arg=some pX∧RP p dU new q r1 pX)
  (hh:∀P P' g,(∀g1,g1<=g->LL m P P' p dU new q g1)->rZ m P P' (p++(dU++q)) (dU++q) (p++(new++q)) (new++q) (g+1)):bH m (p++(dU++q)) (p++(new++q)):=by
 intro P P' hP g;have h:=LL.run hP ht (hh P P') g;exact⟨h.rel _ _ (.Yx [] p rfl),h.same⟩
theorem bH.Yy{m}{p dU new q}(ho:kJ dU)(hn:kJ new)
  (hh:∀P P' g,(∀g1,g1<=g->LL m P P' p dU new q g1)->rZ m P P' (p++(dU++q)) (dU++q) (p++(new++q)) (new++q) (g+1)):bH m (p++(dU++q)) (p++(new++q)):=
 bH.of (λi _ _ r1 h=>vJ (λj hj h2=>ho j hj h2.1) (λj hj h2=>hn j hj h2.1) [] p rfl r1 h) hh
theorem kr{m}{P}{g d}{l r r'}{i}{S L S' L'}{σ σ'}{k}(h:nx m d l i r S L σ= .go r' S' L' σ' k):
  run m P (g+1) d l (i::r) S L σ=(run m P g d l r' S' L' σ').map λx=>(x.1,x.2+k):=by rw[run,h]
theorem Yz{m}{P}{g d}{l r}{i}{S L S' L'}{σ σ'}(hf:flat i.Op)(h:m.J i S L σ=some (.ok S' L' σ')):
  run m P (g+1) d l (i::r) S L σ=(run m P g d l r S' L' σ').map λx=>(x.1,x.2+1):=kr (by rw[zx hf,h];rfl)
theorem iO{x k}{o:Oc}{n:Nat}(h:(x.map λx=>(x.1,x.2+k))=some (o,n)):∃n',x=some (o,n')/\n=n'+k:=by
 obtain⟨⟨a,b⟩,h1,h2⟩:=apN.1 h;grind
theorem ua:flat 1:=by simp[flat]
theorem ah6:flat 2:=by simp[flat]
theorem adj:flat 8:=by simp[flat]
theorem adk:flat 9:=by simp[flat]
theorem Eb:flat 10:=by simp[flat]
theorem YA:flat 11:=by simp[flat]
theorem wrap_wrap a:ax (ax a)=ax a:=by simp[jm]
theorem abG a:ax (notM a)=notM a:=by grind[notM,gF,jm]
theorem bH.to{m}{p dU new q}(ho:kJ dU)(hn:kJ new)
  (hr:∀P g d S L σ o k,run m P g d (p++(dU++q)) (dU++q) S L σ=some (o,k)->∃g' k' n S',g'<g/\k'+n<=k/\run m P g' d (p++(dU++q)) q S' L σ=some (o,k')/\
   ∀P' l g2 k2,run m P' g2 d l q S' L σ=some (o,k2)->∃g3,run m P' g3 d l (new++q) S L σ=some (o,k2+n)):bH m (p++(dU++q)) (p++(new++q)):=by
 refine bH.Yy ho hn ?_;intro P P' g ih d S L σ o k h;obtain⟨g1,k1,n,S',hg,hk,h1,h2⟩:=hr _ _ _ _ _ _ _ _ h;obtain⟨g2,k2,hle,h3⟩:=(ih g1 (by omega)).rel _ _ (.Pc [] q rfl) _ _ _ _ _ _ h1;grind
theorem nZ{m P g d l r S L σ x}(h:run m P g d l r S L σ=some x):∃g',g=g'+1:=by
 cases g with
 | zero=>grind[run]
 | succ g=>simp
theorem jW{m}{P}{g d}{l r}{i}{S L S' L'}{σ σ'}{o}{k}(hf:flat i.Op)(hJ:m.J i S L σ=some (.ok S' L' σ'))(h:run m P g d l (i::r) S L σ=some (o,k)):
  ∃g' k',g=g'+1/\k=k'+1/\run m P g' d l r S' L' σ'=some (o,k'):=by
 obtain⟨g',rfl⟩:=nZ h;rw[Yz hf hJ]at h;obtain⟨k',h1,h2⟩:=iO h;grind
theorem Fo{m}(hm:m.Std){a q d S L σ o}:∀P' l g2 k2,run m P' g2 d l q (ax a::S) L σ=some (o,k2)->∃g3,run m P' g3 d l (jJ a++q) S L σ=some (o,k2+1):=by
 intro P' l g2 k2 h;refine⟨g2+1,?_⟩;show run m P' (g2+1) d l (⟨1,ax a⟩::q) S L σ=_;rw[Yz ua (by rw[hm.push,wrap_wrap]),h];rfl
theorem dh:kJ []:=by intro i hi;cases hi
theorem cA{i l}(h:i.Op≠38)(hl:kJ l):kJ (i::l):=by
 intro j hj;rcases ap8.1 hj with rfl|hj
 ·exact h
 ·exact hl j hj
theorem ub a:kJ (jJ a):=cA (by simp) dh
theorem bH.bin{m}(hm:m.Std){p q a b o}(h9:o≠9)(h0:(iK ai.zero o a b).2=0):bH m (p++([⟨1,a⟩,⟨1,b⟩,⟨8,o⟩]++q)) (p++(jJ (iK ai.zero o a b).1++q)):=by
 refine bH.to (cA (by simp) (cA (by simp) (cA (by simp) dh))) (ub _) ?_;intro P g d S L σ x k h;obtain⟨g1,k1,rfl,rfl,h_1⟩:=jW ua (hm.push _ _ _ _) h;obtain⟨g2,k2,rfl,rfl,h_2⟩:=jW ua (hm.push _ _ _ _) h_1;obtain⟨g3,k3,rfl,rfl,h_3⟩:=jW adj (hm.bin _ _ _ _ _ _ h9 h0) h_2;exact⟨g3,k3,1,_,by omega,by omega,h_3,Fo hm⟩
theorem bH.neg{m}(hm:m.Std){p q a x}:bH m (p++([⟨1,a⟩,⟨9,x⟩]++q)) (p++(jJ (uP a)++q)):=by
 refine bH.to (cA (by simp) (cA (by simp) dh)) (ub _) ?_;intro P g d S L σ y k h;obtain⟨g1,k1,rfl,rfl,h_1⟩:=jW ua (hm.push _ _ _ _) h;obtain⟨g2,k2,rfl,rfl,h_2⟩:=jW adk (hm.neg _ _ _ _ _) h_1;exact⟨g2,k2,1,_,by omega,by omega,h_2,Fo hm⟩
theorem bH.not{m}(hm:m.Std){p q a x}:bH m (p++([⟨1,a⟩,⟨10,x⟩]++q)) (p++(jJ (notM a)++q)):=by
 refine bH.to (cA (by simp) (cA (by simp) dh)) (ub _) ?_;intro P g d S L σ y k h;obtain⟨g1,k1,rfl,rfl,h_1⟩:=jW ua (hm.push _ _ _ _) h;obtain⟨g2,k2,rfl,rfl,h_2⟩:=jW Eb (hm.no _ _ _ _ _) h_1;refine⟨g2,k2,1,_,by omega,by omega,h_2,?_⟩;grind[notM,ax,abG,wrap_wrap,Fo]
theorem bH.test{m}(hm:m.Std){p q a x}:bH m (p++([⟨1,a⟩,⟨11,x⟩]++q)) (p++(jJ (1-notM a)++q)):=by
 refine bH.to (cA (by simp) (cA (by simp) dh)) (ub _) ?_;intro P g d S L σ y k h;obtain⟨g1,k1,rfl,rfl,h_1⟩:=jW ua (hm.push _ _ _ _) h;obtain⟨g2,k2,rfl,rfl,h_2⟩:=jW YA (hm.test _ _ _ _ _) h_1;refine⟨g2,k2,1,_,by omega,by omega,h_2,?_⟩;have e:gF (decide (ax a≠0))=ax (1-notM a):=by
  unfold notM gF;by_cases h_2:ax a=0
  ·simp_all[jm]
  simp_all[jm]
 grind[Fo]
theorem bH.pop{m}(hm:m.Std){p q a x}:bH m (p++([⟨1,a⟩,⟨2,x⟩]++q)) (p++([]++q)):=by
 refine bH.to (cA (by simp) (cA (by simp) dh)) dh ?_;intro P g d S L σ y k h;obtain⟨g1,k1,rfl,rfl,h_1⟩:=jW ua (hm.push _ _ _ _) h;obtain⟨g2,k2,rfl,rfl,h_2⟩:=jW ah6 (hm.pop _ _ _ _ _) h_1;exact⟨g2,k2,0,S,by omega,by omega,h_2,λP' l g2 k2 h_2=>⟨g2,h_2⟩⟩
theorem bH.aj5{m}(hm:m.Std){p q a x}(ha:ax a≠0):bH m (p++([⟨1,a⟩,⟨25,x⟩]++q)) (p++([]++q)):=by
 refine bH.to (cA (by simp) (cA (by simp) dh)) dh ?_;intro P g d S L σ y k h;obtain⟨g1,k1,rfl,rfl,h_1⟩:=jW ua (hm.push _ _ _ _) h;obtain⟨g2,rfl⟩:=nZ h_1;have h_2:run m P (g2+1) d (p++([⟨1,a⟩,⟨25,x⟩]++q)) (⟨25,x⟩::q) (ax a::S) L σ=_:=h_1;rw[kr (by rw[rK rfl,Nx.zero,wrap_wrap,if_neg ha])]at h_2;obtain⟨k2,h_3,rfl⟩:=iO h_2;exact⟨g2,k2,0,S,by omega,by omega,h_3,λP' l g2 k2 h=>⟨g2,h⟩⟩
theorem bH.jump{m}(hm:m.Std){p q a x}(ha:ax a=0):bH m (p++([⟨1,a⟩,⟨25,x⟩]++q)) (p++([⟨24,x⟩]++q)):=by
 have h1:kJ [(⟨1,a⟩:ae),⟨25,x⟩]:=cA (by simp) (cA (by simp) dh);have h2:kJ [(⟨24,x⟩:ae)]:=cA (by simp) dh;refine bH.Yy h1 h2 ?_;intro P P' g ih d S L σ o k h;obtain⟨g1,k1,hg,rfl,h_1⟩:=jW ua (hm.push _ _ _ _) h;obtain⟨g2,rfl⟩:=nZ h_1;have h_2:run m P (g2+1) d (p++([⟨1,a⟩,⟨25,x⟩]++q)) (⟨25,x⟩::q) (ax a::S) L σ=_:=h_1;have e:nx m d (p++([⟨1,a⟩,⟨25,x⟩]++q)) ⟨25,x⟩ q (ax a::S) L σ=Nx.to S L σ (after (p++([⟨1,a⟩,⟨25,x⟩]++q)) x):=by
  rw[rK rfl,Nx.zero,wrap_wrap,if_pos ha]
 cases dx:after (p++([⟨1,a⟩,⟨25,x⟩]++q)) x with
 | none=>rw[run,e,dx]at h_2;cases h_2
 | some r1=>
   rw[dx]at e;rw[kr e]at h_2;obtain⟨k2,h_3,rfl⟩:=iO h_2;obtain⟨pX,De,LM⟩:=vJ (λi hi hx=>h1 i hi hx.1) (λi hi hx=>h2 i hi hx.1) [] p rfl r1 dx;obtain⟨g3,k3,hle,h3⟩:=(ih g2 (by omega)).rel _ _ LM _ _ _ _ _ _ h_3;refine⟨g3+1,k3+1,by omega,?_⟩;show run m P' (g3+1) d (p++([⟨24,x⟩]++q)) (⟨24,x⟩::q) S L σ=_;rw[kr (by rw[uU rfl,De];rfl),h3];rfl
theorem bH.agp{m}(hm:m.Std){p q x y z}:bH m (p++([⟨10,x⟩,⟨10,y⟩]++(⟨25,z⟩::q))) (p++([]++(⟨25,z⟩::q))):=by
 refine bH.to (cA (by simp) (cA (by simp) dh)) dh ?_;intro P g d S L σ o k h;cases S with
 | nil=>
   obtain⟨g1,rfl⟩:=nZ h;rw[apZ,run,zx Eb,hm.no0]at h;cases h
 | cons v S=>
   obtain⟨g1,k1,rfl,rfl,h_1⟩:=jW Eb (hm.no _ _ _ _ _) h;obtain⟨g2,k2,rfl,rfl,h_2⟩:=jW Eb (hm.no _ _ _ _ _) h_1;have hz:(ax (notM (notM v))=0)=(ax v=0):=by
    unfold notM gF;by_cases hv:ax v=0
    ·simp_all[jm]
    simp_all[jm]
   have en:∀l r,nx m d l ⟨25,z⟩ r (notM (notM v)::S) L σ=nx m d l ⟨25,z⟩ r (v::S) L σ:=by
    intro l r;rw[rK rfl,rK rfl,Nx.zero,Nx.zero];simp[hz]
   refine⟨g2,k2,0,_,by omega,by omega,h_2,?_⟩;intro P' l g2 k2 h_2;refine⟨g2,?_⟩;obtain⟨g2,rfl⟩:=nZ h_2;simp_all[run]
theorem bH.dead{m}(hm:∀x S L σ S' L' σ',x=28\/x=29\/x=30->∀a,m.J ⟨x,a⟩ S L σ≠some (.ok S' L' σ')){p dead q i}(hi:iz i.Op)(hd:kJ dead):bH m (p++((i::dead)++q)) (p++([i]++q)):=by
 have agq:i.Op≠38:=by rcases hi with h|h|h|h|h<;>rw[h]<;>decide
 have h1:kJ (i::dead):=cA agq hd;have h2:kJ [i]:=cA agq dh;refine bH.Yy h1 h2 ?_;intro P P' g ih d S L σ o k h;have tgt:∀n r1,after (p++((i::dead)++q)) n=some r1->∃pX,after (p++([i]++q)) n=some pX/\RP p (i::dead) [i] q r1 pX:=λn r1 h=>vJ (λj hj hx=>h1 j hj hx.1) (λj hj hx=>h2 j hj hx.1) [] p rfl r1 h
 rw[apZ,run]at h;by_cases fe:i.Op=24
 ·rw[uU fe]at h;cases dx:after (p++((i::dead)++q)) i.Arg with
  | none=>rw[apZ]at dx;rw[dx]at h;cases h
  | some r1=>
    obtain⟨pX,De,LM⟩:=tgt _ _ dx;rw[apZ]at dx;rw[dx]at h;obtain⟨k2,h_3,rfl⟩:=iO h;obtain⟨g3,k3,hle,h3⟩:=(ih g (by omega)).rel _ _ LM _ _ _ _ _ _ h_3;refine⟨g3+1,k3+1,by omega,?_⟩;rw[apZ,ap4,kr (r':=pX) (S':=S) (L':=L) (σ':=σ) (k:=1) (by rw[uU fe];rw[apZ,ap4]at De;rw[De];rfl)];grind
 by_cases rC:i.Op=27
 ·rw[Ho rC]at h;cases S with
  | nil=>cases h
  | cons v S=>exact⟨1,k,apU _,by rw[apZ,run,Ho rC];exact h⟩
 have h3:i.Op=28\/i.Op=29\/i.Op=30:=by rcases hi with h|h|h|h|h<;>simp_all
 have hf:flat i.Op:=by grind[flat]
 rw[zx hf]at h;cases hJ:m.J i S L σ with
 | none=>rw[hJ]at h;cases h
 | some ev=>
   rw[hJ]at h;cases ev with
   | ok S' L' σ'=>simp_all
   | bm x=>exact⟨1,k,apU _,by rw[apZ,run,zx hf,hJ];exact h⟩
   | over σ'=>exact⟨1,k,apU _,by rw[apZ,run,zx hf,hJ];exact h⟩
def bN(l:List ae):List Int:=(l.filter bl).map ae.Arg
theorem oq a b:bN (a++b)=bN a++bN b:=by simp[bN]
theorem qD{l n}:n∈bN l↔∃i∈l,i.Op=38/\i.Arg=n:=by
 simp[bN,bl];grind
theorem Pg{m P l r d S L σ x}:∀a g,(∀i∈a,i.Op=38)->run m P g d l r S L σ=some x->run m P (g+a.length) d l (a++r) S L σ=some x
 | [],g,_,h=>h
 | i::a,g,ha,h=>by
   rw[apY,<-arK,apZ,kr (BY (ha i (by simp))),Pg a g (λj hj=>ha j (by simp[hj])) h];rfl
theorem Ec{m P l r d S L σ x}:∀a g,(∀i∈a,i.Op=38)->run m P g d l (a++r) S L σ=some x->∃g',g'<=g/\run m P g' d l r S L σ=some x
 | [],g,_,h=>⟨g,apU _,h⟩
 | i::a,g,ha,h=>by
   obtain⟨g1,rfl⟩:=nZ h;rw[apZ,kr (BY (ha i (by simp)))]at h;obtain⟨k,h1,h2⟩:=iO (by rw[h]);obtain⟨g',hg,h3⟩:=Ec a g1 (λj hj=>ha j (by grind)) (x:=x) (by rw[h1,aqS]at *;grind);grind
theorem bH.next{m p a b x}(ha:∀i∈a,i.Op=38)(hu:(bN (p++([⟨24,x⟩]++(a++⟨38,x⟩::b)))).Nodup):bH m (p++([⟨24,x⟩]++(a++⟨38,x⟩::b))) (p++([]++(a++⟨38,x⟩::b))):=by
 have h1:kJ [(⟨24,x⟩:ae)]:=cA (by simp) dh;refine bH.Yy h1 dh ?_;intro P P' g ih d S L σ o k h;have hx:∀i∈p++([⟨24,x⟩]++a),¬(i.Op=38/\i.Arg=x):=by
  intro i hi ed;have e:p++([⟨24,x⟩]++(a++⟨38,x⟩::b))=(p++([⟨24,x⟩]++a))++⟨38,x⟩::b:=by simp
  rw[e,oq,ary]at hu;exact hu.2.2 x (qD.2 ⟨i,hi,ed⟩) x (qD.2 ⟨⟨38,x⟩,by simp,rfl,rfl⟩) rfl
 have dx:after (p++([⟨24,x⟩]++(a++⟨38,x⟩::b))) x=some b:=by
  have e:p++([⟨24,x⟩]++(a++⟨38,x⟩::b))=(p++([⟨24,x⟩]++a))++⟨38,x⟩::b:=by simp
  rw[e,xc hx,after,if_pos ⟨rfl,rfl⟩]
 have h2:run m P (g+1) d (p++([⟨24,x⟩]++(a++⟨38,x⟩::b))) (⟨24,x⟩::(a++⟨38,x⟩::b)) S L σ=_:=h;rw[kr (r':=b) (S':=S) (L':=L) (σ':=σ) (k:=1) (by rw[uU rfl,dx];rfl)]at h2;obtain⟨k2,h3,rfl⟩:=iO h2;obtain⟨g3,k3,hle,h4⟩:=(ih g (by omega)).rel _ _ (.Pc (a++ [⟨38,x⟩]) b (by simp)) _ _ _ _ _ _ h3;have h5:=Pg (a++ [⟨38,x⟩]) g3 (by
  grind) h4
 grind
theorem bH.far{m p q a b op x y}(aP:op=24\/op=25)(ha:∀i∈a,i.Op=38)(dx:after (p++([⟨op,x⟩]++q)) x=some (a++⟨24,y⟩::b)):bH m (p++([⟨op,x⟩]++q)) (p++([⟨op,y⟩]++q)):=by
 have h1:kJ [(⟨op,x⟩:ae)]:=cA (by grind) dh;have h2:kJ [(⟨op,y⟩:ae)]:=cA (by grind) dh;refine bH.Yy h1 h2 ?_;intro P P' g ih d S L σ o k h;have h:run m P (g+1) d (p++([⟨op,x⟩]++q)) (⟨op,x⟩::q) S L σ=some (o,k):=h;have go:∀S1,nx m d (p++([⟨op,x⟩]++q)) ⟨op,x⟩ q S L σ=Nx.to S1 L σ (some (a++⟨24,y⟩::b))->(∀t,after (p++([⟨op,y⟩]++q)) y=some t->nx m d (p++([⟨op,y⟩]++q)) ⟨op,y⟩ q S L σ=Nx.to S1 L σ (some t))->∃g' n',n'<=k/\run m P' g' d (p++([⟨op,y⟩]++q)) ([⟨op,y⟩]++q) S L σ=some (o,n'):=by
  intro S1 e1 e2;rw[kr e1]at h;obtain⟨k2,h3,rfl⟩:=iO h;obtain⟨g4,hg4,h4⟩:=Ec a g ha h3;obtain⟨g5,rfl⟩:=nZ h4;cases hay:after (p++([⟨op,x⟩]++q)) y with
  | none=>rw[run,uU rfl,hay]at h4;cases h4
  | some r2=>
    rw[kr (r':=r2) (S':=S1) (L':=L) (σ':=σ) (k:=1) (by rw[uU rfl,hay];rfl)]at h4;obtain⟨k3,h5,rfl⟩:=iO h4;obtain⟨r2',De,LM⟩:=vJ (n:=y) (λi hi hx=>h1 i hi hx.1) (λi hi hx=>h2 i hi hx.1) [] p rfl r2 hay;obtain⟨g6,k6,hle,h6⟩:=(ih g5 (by omega)).rel _ _ LM _ _ _ _ _ _ h5;refine⟨g6+1,k6+1,by omega,?_⟩;show run m P' (g6+1) d (p++([⟨op,y⟩]++q)) (⟨op,y⟩::q) S L σ=_;rw[kr (e2 r2' De),h6];rfl
 rcases aP with rfl|rfl
 ·exact go S (by rw[uU rfl,dx]) (λt ht=>by rw[uU rfl];rw[ht])
 ·cases S with
  | nil=>rw[run,rK rfl]at h;cases h
  | cons v S=>
    by_cases hv:ax v=0
    ·exact go S (by rw[rK rfl,Nx.zero,if_pos hv,dx]) (λt ht=>by rw[rK rfl,Nx.zero,if_pos hv];rw[ht])
    ·rw[kr (r':=q) (S':=S) (L':=L) (σ':=σ) (k:=1) (by rw[rK rfl,Nx.zero,if_neg hv])]at h;obtain⟨k2,h3,rfl⟩:=iO h;obtain⟨g6,k6,hle,h6⟩:=(ih g (by omega)).rel _ _ (.Pc [] q rfl) _ _ _ _ _ _ h3;refine⟨g6+1,k6+1,by omega,?_⟩;show run m P' (g6+1) d (p++([⟨25,y⟩]++q)) (⟨25,y⟩::q) (v::S) L σ=_;rw[kr (r':=q) (S':=S) (L':=L) (σ':=σ) (k:=1) (by rw[rK rfl,Nx.zero,if_neg hv]),h6];rfl
theorem bH.ah7{m p q x}(ha:kq (p++([⟨38,x⟩]++q)) x=false):bH m (p++([⟨38,x⟩]++q)) (p++([]++q)):=by
 refine bH.of ?_ ?_
 ·intro i hi hj r1 h;refine vJ (λj hj h2=>?_) (λj hj=>by cases hj) [] p rfl r1 h;grind[List.mem_singleton,kq,List.any_eq_true]
 ·intro P P' g ih d S L σ o k h;obtain⟨k2,h3,rfl⟩:=iO h;obtain⟨g6,k6,hle,h6⟩:=(ih g (by omega)).rel _ _ (.Pc [] q rfl) _ _ _ _ _ _ h3;grind
structure eA.Ok(m:eA):Prop extends m.Std where
 stops:∀x S L σ S' L' σ',x=28\/x=29\/x=30->∀a,m.J ⟨x,a⟩ S L σ≠some (.ok S' L' σ')
theorem dy{r}(h:cr r 0≠0):∃i t,r=i::t:=by
 cases r with
 | nil=>exact(h rfl).elim
 | cons i t=>simp
theorem dt i t k:cr (i::t) (k+1)=cr t k:=by rfl
theorem sK i t:cr (i::t) 0=i.Op:=by rfl
theorem vK i t:bg (i::t) 0=i.Arg:=by rfl
def Vj(m:eA)(l r:List ae)(y:Nat×Nat×List ae):Prop:=∀p,l=p++r->(bN l).Nodup->bH m l (p++(r.take y.1++(y.2.2++r.drop (y.1+y.2.1))))
theorem YB{m}(hm:m.Ok){l r n x}(h:nI r=some (n,x)):Vj m l r (0,n,x):=by
 rintro p rfl _;unfold nI at h;split at h
 ·rename_i hc;obtain⟨h0,h1,h2,h9,hz⟩:=hc;obtain⟨⟨o1,a⟩,t,rfl⟩:=dy (r:=r) (by omega);rw[dt]at h1 h2;obtain⟨⟨o2,b⟩,t,rfl⟩:=dy (r:=t) (by omega);rw[dt]at h2;obtain⟨⟨o3,c⟩,t,rfl⟩:=dy (r:=t) (by omega);cases h;obtain rfl:o1=1:=h0;obtain rfl:o2=1:=h1;obtain rfl:o3=8:=h2;exact bH.bin hm.toStd h9 hz
 ·split at h
  ·cases h
  ·rename_i h0;simp only[ne_eq,aqX]at h0;obtain⟨⟨o1,a⟩,t,rfl⟩:=dy (r:=r) (by omega);obtain rfl:o1=1:=h0;simp only[dt,vK]at h;split at h
   ·rename_i h1;obtain⟨⟨o2,b⟩,t,rfl⟩:=dy (r:=t) (by omega);obtain rfl:o2=9:=h1;cases h;exact bH.neg hm.toStd
   ·split at h
    ·rename_i h1;obtain⟨⟨o2,b⟩,t,rfl⟩:=dy (r:=t) (by omega);obtain rfl:o2=10:=h1;cases h;exact bH.not hm.toStd
    ·split at h
     ·rename_i h1;obtain⟨⟨o2,b⟩,t,rfl⟩:=dy (r:=t) (by omega);obtain rfl:o2=11:=h1;cases h;exact bH.test hm.toStd
     grind
theorem Vk{m}(hm:m.Ok){l r n x}(h:ma r=some (n,x)):Vj m l r (0,n,x):=by
 rintro p rfl _;unfold ma at h;split at h
 ·rename_i hc;obtain⟨h0,h1,h2⟩:=hc;obtain⟨⟨o1,a⟩,t,rfl⟩:=dy (r:=r) (by omega);rw[dt]at h1 h2;obtain⟨⟨o2,b⟩,t,rfl⟩:=dy (r:=t) (by omega);rw[dt]at h2;obtain⟨⟨o3,c⟩,t,rfl⟩:=dy (r:=t) (by omega);cases h;obtain rfl:o1=10:=h0;obtain rfl:o2=10:=h1;obtain rfl:o3=25:=h2;exact bH.agp hm.toStd
 ·split at h
  ·rename_i hc;obtain⟨h0,h1⟩:=hc;obtain⟨⟨o1,a⟩,t,rfl⟩:=dy (r:=r) (by omega);rw[dt]at h1;obtain⟨⟨o2,b⟩,t,rfl⟩:=dy (r:=t) (by omega);obtain rfl:o1=1:=h0;obtain rfl:o2=25:=h1;split at h
   ·rename_i hz;cases h;exact bH.jump hm.toStd hz
   ·rename_i hz;cases h;exact bH.aj5 hm.toStd hz
  ·split at h
   ·rename_i hc;obtain⟨h0,h1⟩:=hc;obtain⟨⟨o1,a⟩,t,rfl⟩:=dy (r:=r) (by omega);rw[dt]at h1;obtain⟨⟨o2,b⟩,t,rfl⟩:=dy (r:=t) (by omega);obtain rfl:o1=1:=h0;obtain rfl:o2=2:=h1;cases h;exact bH.pop hm.toStd
   grind
theorem mJ{α:Type} f:∀(l:List α),∀x∈l.takeWhile f,f x=true
 | [],x,h=>by cases h
 | y::l,x,h=>by
   rw[aqw]at h;split at h
   ·rename_i hy;rcases ap8.1 h with rfl|h
    ·exact hy
    ·exact mJ f l x h
   grind
theorem qZ{α:Type} f(l:List α):l=l.takeWhile f++l.drop (l.takeWhile f).length:=by
 grind[List.takeWhile_append_dropWhile]
theorem QY{m}(hm:m.Ok){l r y}(h:nY l r=some y):Vj m l r y:=by
 unfold nY at h;split at h
 ·grind[Option.some.injEq,YB]
 ·split at h
  ·grind[Option.some.injEq,Vk]
  ·split at h
   ·rename_i hc;obtain⟨he,hd⟩:=hc;simp only[akC]at h;subst h;rintro p rfl _;obtain⟨i,t,rfl⟩:=dy (r:=r) (by grind[iz]);rw[sK]at he;have ht:=qZ (λi=>!bl i) t;have hn:kJ (t.takeWhile λi=>!bl i):=by
     intro j hj;grind[mJ,bl]
    have hb:=bH.dead (m:=m) hm.stops (p:=p) (q:=t.drop (t.takeWhile λi=>!bl i).length) he hn;grind[bl,ik,Nat.add_comm]
   ·split at h
    ·rename_i hj;obtain⟨⟨op,x⟩,q,rfl⟩:=dy (r:=r) (by omega);simp only[sK,vK,List.tail_cons]at hj h;split at h
     ·rename_i hc;obtain⟨fe,yr⟩:=hc;simp only[akC]at h;subst h;subst fe;rintro p rfl hu;obtain⟨j,SN,IW⟩:=art.1 yr;have aoM:j.Op=38:=by
       grind[mJ,bl]
      have hjx:j.Arg=x:=of_decide_eq_true IW;obtain⟨a,b,zy⟩:=arh SN;have hq:=qZ bl q;have zg:j=⟨38,x⟩:=by cases j;grind
      subst zg;have e:q=a++⟨38,x⟩::(b++q.drop (q.takeWhile bl).length):=by
       grind
      grind[mJ,bl,bH.next]
     ·obtain⟨z,hz,rfl⟩:=apN.1 h;rintro p rfl hu;unfold rL at hz;rw[vK]at hz;split at hz
      ·cases hz
      ·rename_i t dx;split at hz
       ·rename_i hc;obtain⟨xS,xP⟩:=hc;simp only[akC]at hz;subst hz;obtain⟨⟨o2,z⟩,b,hb⟩:=dy (r:=t.dropWhile bl) (by omega);rw[hb]at xS xP⊢;rw[sK]at xS;rw[vK]at xP⊢;obtain rfl:o2=24:=xS;rw[sK];have ht:=List.takeWhile_append_dropWhile (p:=bl) (l:=t);grind[bH.far,mJ,bl]
       grind
    ·split at h
     ·rename_i hc;obtain⟨ed,ha⟩:=hc;simp only[akC]at h;subst h;obtain⟨⟨op,x⟩,q,rfl⟩:=dy (r:=r) (by omega);rw[sK]at ed;rw[vK]at ha;obtain rfl:op=38:=ed;rintro p rfl hu;exact bH.ah7 ha
     grind
theorem Gd{l:List ae}(h:kJ l):bN l=[]:=by
 unfold bN;rw[List.map_eq_nil_iff,List.filter_eq_nil_iff];intro i hi;simpa[bl]using h i hi
theorem Vl{l r:List ae}{y:Nat×Nat×List ae}(h:nY l r=some y):kJ y.2.2:=by
 unfold nY at h;split at h
 ·rename_i n x hr;simp only[akC]at h;subst h;unfold nI at hr
  repeat' split at hr
  all_goals first
   | (simp only[akC,apM]at hr;obtain⟨_,rfl⟩:=hr;exact ub _)
   | cases hr
 ·split at h
  ·rename_i n x hr;simp only[akC]at h;subst h;unfold ma at hr
   repeat' split at hr
   all_goals first
    | (simp only[akC,apM]at hr;obtain⟨_,rfl⟩:=hr;exact dh)
    | (simp only[akC,apM]at hr;obtain⟨_,rfl⟩:=hr;exact cA (by show(24:Int)≠38;omega) dh)
    | cases hr
  ·split at h
   ·simp only[akC]at h;subst h;exact dh
   ·split at h
    ·rename_i hj;split at h
     ·simp only[akC]at h;subst h;exact dh
     ·obtain⟨z,hz,rfl⟩:=apN.1 h;unfold rL at hz;split at hz
      ·cases hz
      ·split at hz
       ·simp only[akC]at hz;subst hz;exact cA (by show cr r 0≠38;omega) dh
       ·cases hz
    ·split at h
     ·simp only[akC]at h;subst h;exact dh
     ·cases h
theorem abH{a b:List ae}(h:a.Sublist b):(bN a).Sublist (bN b):=(h.filter _).map _
theorem QZ{l:List ae}{k:Nat}{y:Nat×Nat×List ae}(h:nY l (l.drop k)=some y):(bN (l.take k++((l.drop k).take y.1++(y.2.2++(l.drop k).drop (y.1+y.2.1))))).Sublist (bN l):=by
 have h1:=Gd (Vl h);rw[oq,oq,oq,h1,ap4,<-oq,<-oq];refine abH ?_
 conv=>rhs;rw[<-aqh k l]
 refine List.Sublist.append_left ?_ _
 conv=>rhs;rw[<-aqh y.1 (l.drop k)]
 refine List.Sublist.append_left ?_ _;rw[<-aqW];exact List.drop_sublist _ _
theorem swap_eq(l:List ae)(k s n:Nat)(x:List ae):il l (k+s) n x=l.take k++((l.drop k).take s++(x++(l.drop k).drop (s+n))):=by
 unfold il;rw[List.take_add,ap0,aqW,arK]
def BB(m:eA)(P P':Int->List ae):Prop:=∀f d S L σ g o n,run m P g d (P f) (P f) S L σ=some (o,n)->∃g' n',n'<=n/\run m P' g' d (P' f) (P' f) S L σ=some (o,n')
theorem BB.refl(m:eA)(P:Int->List ae):BB m P P:=λ_ _ _ _ _ g _ n h=>⟨g,n,apU _,h⟩
theorem BB.trans{m:eA}{P Q R:Int->List ae}(h1:BB m P Q)(h2:BB m Q R):BB m P R:=by
 intro f d S L σ g o n h;obtain⟨g1,n1,hle,h⟩:=h1 _ _ _ _ _ _ _ _ h;obtain⟨g2,n2,aj4,h⟩:=h2 _ _ _ _ _ _ _ _ h;exact⟨g2,n2,by omega,h⟩
theorem bH.BB{m:eA}{l l':List ae}(h:bH m l l'){P P':Int->List ae}(hP:∀f,P f=P' f\/P f=l/\P' f=l'):BB m P P':=by
 intro f d S L σ g o n hr;obtain⟨h1,h2⟩:=h P P' hP g;rcases hP f with e|⟨e1,e2⟩
 ·rw[<-e];exact h2 _ _ _ _ _ _ _ _ hr
 ·rw[e1]at hr;rw[e2];exact h1 _ _ _ _ _ _ hr
def B6(P:Int->List ae)(j:Int)(l:List ae)(f:Int):List ae:=if f=j then l else P f
theorem bH.put{m:eA}{l l':List ae}(h:bH m l l')(P:Int->List ae)(j:Int):Go.Ab.BB m (B6 P j l) (B6 P j l'):=
 h.BB λf=>by
  unfold B6;split
  ·exact Or.inr ⟨rfl,rfl⟩
  ·exact Or.inl rfl
theorem Vm{m:eA}(hm:m.Ok){l l':List ae}{k:Nat}(hu:(bN l).Nodup)(h:iq l k=some l'):bH m l l'/\(bN l').Nodup:=by
 obtain⟨y,hy,rfl⟩:=apN.1 h;rw[swap_eq];exact⟨QY hm hy (l.take k) (aqh k l).symm hu,hu.sublist (QZ hy)⟩
theorem B7{l l':List ae}:∀(n k:Nat),jq l n k=some l'->∃j,k<=j/\j<k+n/\iq l j=some l'
 | 0,k,h=>by cases h
 | n+1,k,h=>by
   rw[jq]at h;split at h
   ·rename_i x hx;exact⟨k,apU _,by omega,by rw[hx];exact h⟩
   ·obtain⟨j,h1,h2,h3⟩:=B7 n (k+1) h;exact⟨j,by omega,by omega,h3⟩
theorem S9{m:eA}(hm:m.Ok)(P:Int->List ae)(j:Int):∀(n:Nat) (l:List ae),(bN l).Nodup->BB m (B6 P j l) (B6 P j (allM n l))/\(bN (allM n l)).Nodup
 | 0,l,hu=>⟨BB.refl _ _,hu⟩
 | n+1,l,hu=>by
   rw[allM];split
   ·rename_i x hx;obtain⟨k,_,_,hk⟩:=B7 _ _ hx;obtain⟨h1,h2⟩:=Vm hm hu hk;obtain⟨h3,h4⟩:=S9 hm P j n x h2;exact⟨(h1.put P j).trans h3,h4⟩
   ·exact⟨BB.refl _ _,hu⟩
theorem abI{m:eA}(hm:m.Ok)(P:Int->List ae)(hu:∀f,(bN (P f)).Nodup)(N:Nat)(hN:∀f,P f≠ []->0<=f/\f<N):BB m P (λf=>dK (P f)):=by
 have key:∀k:Nat,BB m P (λf=>if 0<=f/\f<k then dK (P f)else P f):=by
  intro k
  induction k with
  | zero=>
    have e:(λf:Int=>if 0<=f/\f<((0:Nat):Int)then dK (P f)else P f)=P:=by
     funext f;rw[if_neg (by omega)]
    rw[e];exact BB.refl _ _
  | succ k ih=>
    refine ih.trans ?_;have h:=(S9 hm (λf=>if 0<=f/\f<k then dK (P f)else P f) k (16 *(P k).length) (P k) (hu k)).1;have e1:B6 (λf:Int=>if 0<=f/\f<k then dK (P f)else P f) k (P k)=(λf:Int=>if 0<=f/\f<k then dK (P f)else P f):=by
     funext f;unfold B6;split
     ·rename_i hf;subst hf;rw[if_neg (by omega)]
     ·rfl
    have e2:B6 (λf:Int=>if 0<=f/\f<k then dK (P f)else P f) k (allM (16 *(P k).length) (P k))=(λf:Int=>if 0<=f/\f<((k+1:Nat):Int)then dK (P f)else P f):=by
     funext f;unfold B6;by_cases hf:f=k
     ·subst hf;rw[if_pos rfl,if_pos (by omega)];rfl
     ·rw[if_neg hf];show(if 0<=f/\f<(k:Int)then dK (P f)else P f)=_;by_cases h2:0<=f/\f<k
      ·rw[if_pos h2,if_pos (by omega)]
      ·rw[if_neg h2,if_neg (by omega)]
    rw[e1,e2]at h;exact h
 have h:=key N;have e:(λf:Int=>if 0<=f/\f<(N:Int)then dK (P f)else P f)=(λf=>dK (P f)):=by
  funext f;split
  ·rfl
  ·rename_i hf;by_cases h0:P f=[]
   ·rw[h0];rfl
   ·exact(hf (hN f h0)).elim
 rw[e]at h;exact h
def eK(n:Int):Nat:=if n=0 then 0 else if -128<=n/\n<=127 then 1 else 2
def pH(o:Int):Bool:=[1,3,4,5,6,7,8,12,13,14,15,16,19,21,24,25,26,32,33,38].contains o
def kv(n:Int):Nat->List Int
 | 0=> []
 | 1=> [n % 256]
 | _=> [n / 256 % 256,n % 256]
def fD(o n:Int)(k:Nat):List Int:=(4 *o+k)::kv n k
def uV(i:ae):Int:=if pH i.Op then ax i.Arg else 0
def mz(i:ae):List Int:=if i.Op<1\/38<=i.Op then []else fD i.Op (uV i) (eK (uV i))
def uW(b:List Int)(i:Int)(k:Int):Int:=
 if k=1 then(if aC b i>=128 then aC b i-256 else aC b i)else if k=2 then ax (256 *aC b i+aC b (i+1))else 0
def mA(b:List Int)(i:Int):ae×Int×Int:=
 if i<0\/(b.length:Int)<=i then(⟨0,0⟩,0,2)
 else if aC b i / 4<1\/38<=aC b i / 4\/aC b i % 4=3\/(0<aC b i % 4/\pH (aC b i / 4)=false)then(⟨0,0⟩,0,16)
 else if(b.length:Int)-i-1<aC b i % 4 then(⟨0,0⟩,0,2)
 else if aC b i % 4≠(eK (uW b (i+1) (aC b i % 4)):Int)/\aC b i / 4≠24/\aC b i / 4≠25 then(⟨0,0⟩,0,4)
 else(⟨aC b i / 4,uW b (i+1) (aC b i % 4)⟩,i+1+aC b i % 4,0)
theorem yu(n:Int)(k:Nat)(hk:k<=2):(kv n k).length=k:=by
 match k,hk with
 | 0,_=>rfl
 | 1,_=>rfl
 | 2,_=>rfl
theorem Hp(pre post:List Int)(k:Nat):aC (pre++post) ((pre.length:Int)+k)=aC post k:=by
 unfold aC;rw[show((pre.length:Int)+k).toNat=pre.length+k by omega,aqE (by omega)];simp
theorem qE(n:Int):eK n<=2:=by unfold eK;split;omega;split<;>omega
theorem Ta{o n:Int}{k:Nat}(pre post:List Int)(ho:1≤o∧o < 38)(hk:k≤2)(hh:0 < k→pH o=true)(hn: -32768≤n∧n≤32767)(hb:eK n≤k)(hj:o=24∨o=25∨eK n=k):
  mA (pre++(fD o n k++post)) (pre.length:Int)=((⟨o,n⟩:ae),(pre.length:Int)+1+k,(0:Int)):=by
 have h0:aC (pre++(fD o n k++post)) pre.length=4 *o+k:=by
  have:=Hp pre (fD o n k++post) 0;simp only[Int.natCast_zero,Int.add_zero]at this;rw[this];simp[aC,fD]
 have hd:(4 *o+(k:Int)) / 4=o:=by omega
 have hm:(4 *o+(k:Int)) % 4=k:=by omega
 have hl:(pre++(fD o n k++post)).length=pre.length+(1+k+post.length):=by
  simp only[apX,fD,apY,yu n k hk];omega
 have ha:uW (pre++(fD o n k++post)) (pre.length+1) k=n:=by
  have g1:aC (pre++(fD o n k++post)) ((pre.length:Int)+1)=aC (kv n k++post) 0:=by
   have:=Hp pre (fD o n k++post) 1;simp only[Int.natCast_one]at this;rw[this];simp[aC,fD]
  have g2:aC (pre++(fD o n k++post)) ((pre.length:Int)+1+1)=aC (kv n k++post) 1:=by
   have:=Hp pre (fD o n k++post) 2;rw[show((2:Nat):Int)=1+1 by rfl,<-Int.add_assoc]at this;rw[this];simp[aC,fD]
  unfold uW
  match k,hk with
  | 0,_=>
    rw[if_neg (by decide),if_neg (by decide)];unfold eK at hb;split at hb
    ·rename_i h;exact h.symm
    ·split at hb<;>omega
  | 1,_=>
    rw[if_pos (by decide),g1];have e:aC (kv n 1++post) 0=n % 256:=by simp[aC,kv]
    rw[e];have: -128<=n/\n<=127:=by
     unfold eK at hb;split at hb
     ·omega
     ·split at hb<;>omega
    split<;>omega
  | 2,_=>
    rw[if_neg (by decide),if_pos (by decide),g1,g2];have e1:aC (kv n 2++post) 0=n / 256 % 256:=by simp[aC,kv]
    have e2:aC (kv n 2++post) 1=n % 256:=by simp[aC,kv]
    rw[e1,e2,jm];omega
 unfold mA;rw[h0,hd,hm,ha,hl];rw[if_neg (by omega),if_neg (by rintro(h|h|h|⟨h,h2⟩)<;>first|omega|(rw[hh (by omega)]at h2;cases h2)),if_neg (by omega),if_neg ?_];rintro⟨h1,h2,h3⟩;rcases hj with h|h|h
 ·exact h2 h
 ·exact h3 h
 ·exact h1 (by rw[h])
def jmp(o:Int):Bool:=decide (o=24)||decide (o=25)
abbrev Zl:=List (ae×Nat)
def cL(p:ae×Nat):Nat:=if p.1.Op=38 then 0 else if jmp p.1.Op then 1+p.2 else(mz p.1).length
def aU(z:Zl):Nat:=(z.map cL).sum
def oC:Zl->Int->Option Nat
 | [],_=>none
 | p::z,n=>if p.1.Op=38/\p.1.Arg=n then some 0 else(oC z n).map (cL p+ ·)
def fY(w:Zl)(n:Int)(at_:Nat):Int:=((oC w n).getD 0:Nat)-(at_:Int)
def oO(w:Zl)(k:Nat)(p:ae×Nat):List Int:=if p.1.Op=38 then []else if jmp p.1.Op then fD p.1.Op (fY w p.1.Arg (k+cL p)) p.2 else mz p.1
def fv(w:Zl):Nat->Zl->List Int
 | _,[]=> []
 | k,p::z=>oO w k p++fv w (k+cL p) z
theorem YC(w:Zl)(k:Nat)(p:ae×Nat)(h:p.2<=2):(oO w k p).length=cL p:=by
 unfold oO cL;split
 ·rfl
 ·split
  ·simp only[fD,apY,yu _ _ h];omega
  ·rfl
theorem Ee(w:Zl):∀(k:Nat) (a b:Zl),fv w k (a++b)=fv w k a++fv w (k+aU a) b
 | k,[],b=>by simp[fv,aU]
 | k,p::a,b=>by
   rw[apZ,fv,fv,Ee w _ a b,ap0];simp only[aU,aqd,arT,arK]
theorem Dq(w:Zl):∀(k:Nat) (z:Zl),(∀p∈z,p.2<=2)->(fv w k z).length=aU z
 | k,[],_=>rfl
 | k,p::z,h=>by
   rw[fv,apX,YC w k p (h p (by simp)),Dq w _ z (λq hq=>h q (by simp[hq]))];simp[aU]
theorem xU(a b:Zl):aU (a++b)=aU a+aU b:=by simp[aU]
theorem Dm(p:ae×Nat)(b:Zl):aU (p::b)=cL p+aU b:=by simp[aU]
def ac7(w:Zl)(k:Nat)(p:ae×Nat):Prop:=
 p.2<=2/\(p.1.Op=38\/(1<=p.1.Op/\p.1.Op<38/\(if jmp p.1.Op then(oC w p.1.Arg).isSome/\ -32768<=fY w p.1.Arg (k+cL p)/\fY w p.1.Arg (k+cL p)<=32767/\eK (fY w p.1.Arg (k+cL p))<=p.2
  else -32768<=p.1.Arg/\p.1.Arg<=32767/\(pH p.1.Op=false->p.1.Arg=0))))
def Vn(z:Zl):Prop:=∀a p b,z=a++p::b->ac7 z (aU a) p
theorem Tb{n:Int}(h: -32768<=n/\n<=32767):ax n=n:=by rw[jm];omega
theorem YD{i:ae}(h: -32768<=i.Arg/\i.Arg<=32767)(h2:pH i.Op=false->i.Arg=0):uV i=i.Arg:=by
 unfold uV;split
 ·exact Tb h
 ·rename_i hh;exact(h2 (by simpa using hh)).symm
theorem XG{w a b:Zl}{p:ae×Nat}(hz:w=a++p::b)(hg:Vn w)(ed:p.1.Op≠38)(pre post:List Int):
  mA (pre++(fv w 0 w++post)) ((pre.length:Int)+aU a)=(⟨p.1.Op,if jmp p.1.Op then fY w p.1.Arg (aU a+cL p)else p.1.Arg⟩,(pre.length:Int)+aU a+cL p,0):=by
 have hp:=hg a p b hz;obtain⟨qi,Tc⟩:=hp;have Tc:=Tc.resolve_left ed;obtain⟨h1,h2,h3⟩:=Tc;have hle:∀q∈a,q.2<=2:=by
  intro q hq;obtain⟨a1,a2,ha⟩:=arh hq;exact(hg a1 q (a2++p::b) (by rw[hz,ha];simp)).1
 have hc:fv w 0 w=fv w 0 a++(oO w (aU a) p++fv w (aU a+cL p) b):=by
  conv=>lhs;arg 3;rw[hz]
  rw[Ee,fv,aqB]
 have hl:=Dq w 0 a hle;by_cases hj:jmp p.1.Op=true
 ·rw[if_pos hj]at h3;obtain⟨_,h4,h5,h6⟩:=h3;have LD:oO w (aU a) p=fD p.1.Op (fY w p.1.Arg (aU a+cL p)) p.2:=by
   unfold oO;rw[if_neg ed,if_pos hj]
  have hln:cL p=1+p.2:=by unfold cL;rw[if_neg ed,if_pos hj]
  have IW:p.1.Op=24\/p.1.Op=25:=by simpa[jmp]using hj
  have hd:=Ta (o:=p.1.Op) (n:=fY w p.1.Arg (aU a+cL p)) (k:=p.2) (pre++fv w 0 a) (fv w (aU a+cL p) b++post) ⟨h1,h2⟩ qi (λ_=>by rcases IW with h|h<;>rw[h]<;>rfl) ⟨h4,h5⟩ h6 (by rcases IW with h|h;exact Or.inl h;exact Or.inr (Or.inl h));rw[hc,LD];rw[apX,hl]at hd;simp only[ap0,ar0]at hd⊢;rw[hd,if_pos hj,hln];simp only[ar0,Int.natCast_one,apM,true_and,and_true];omega
 ·rw[if_neg hj]at h3;obtain⟨h4,h5,h6⟩:=h3;have Ge:=YD ⟨h4,h5⟩ h6;have LD:oO w (aU a) p=fD p.1.Op p.1.Arg (eK p.1.Arg):=by
   unfold oO;rw[if_neg ed,if_neg hj];unfold mz;rw[if_neg (by omega),Ge]
  have hln:cL p=1+eK p.1.Arg:=by
   unfold cL;rw[if_neg ed,if_neg hj];unfold mz;rw[if_neg (by omega),Ge];simp only[fD,apY,yu _ _ (qE _)];omega
  have hd:=Ta (o:=p.1.Op) (n:=p.1.Arg) (k:=eK p.1.Arg) (pre++fv w 0 a) (fv w (aU a+cL p) b++post) ⟨h1,h2⟩ (qE _) (λhk=>by
   cases hh:pH p.1.Op with
   | true=>rfl
   | false=>rw[h6 hh]at hk;simp[eK]at hk) ⟨h4,h5⟩ (apU _) (Or.inr (Or.inr rfl))
  rw[hc,LD];rw[apX,hl]at hd;simp only[ap0,ar0]at hd⊢;rw[hd,if_neg hj,hln];simp only[ar0,Int.natCast_one,apM,true_and,and_true];omega
theorem zS:∀(z:Zl) (n:Int) (r:List ae),after (z.map Prod.fst) n=some r->∃a b,z=a++b/\b.map Prod.fst=r/\oC z n=some (aU a)
 | [],n,r,h=>by cases h
 | p::z,n,r,h=>by
   rw[aqd,after]at h;rw[oC];split at h
   ·rename_i hp;simp only[akC]at h;refine⟨[p],z,rfl,h,?_⟩;rw[if_pos hp];simp[aU,cL,hp.1]
   ·rename_i hp;obtain⟨a,b,h1,h2,h3⟩:=zS z n r h;refine⟨p::a,b,by rw[h1];rfl,h2,?_⟩;rw[if_neg hp,h3,Dm];rfl
def dI(m:aj)(f:aG):List Int:=(m.Stack.drop f.cE.toNat).reverse
def iH(m:aj):MS:=⟨m.Told.World,m.Told.Out,m.Told.Fuel⟩
def zA(m:aj)(e:Int):aj:={m with Told:={m.Told with kC:=e},bX:=true}
def B8(m:aj)(F:List aG)(St:List Int)(σ:MS):aj:={m with Frames:=F,Stack:=St,Told:={m.Told with World:=σ.W,Out:=σ.Out,Fuel:=σ.Fuel}}
def wz(m:aj)(F:List aG)(f:aG)(k:Int):Option Ev->Option aj
 | some (.ok S L σ)=>some (B8 m (F++ [{f with At:=k,aJ:=L}]) (m.Stack.take f.cE.toNat++S.reverse) σ)
 | some (.bm e)=>some (zA m e)
 | some (.over σ)=>some {B8 m (F++ [{f with At:=k}]) m.Stack σ with Told:=⟨m.Told.kC,σ.W,σ.Out,m.Told.Value,true,σ.Fuel⟩,bX:=true}
 | none=>none
def Bm(m:aj)(F:List aG)(f:aG)(k n:Int):List Int->Option aj
 | v::S=>some {m with Frames:=F++ [{f with At:=if ax v=0 then k+n else k}],Stack:=m.Stack.take f.cE.toNat++S.reverse}
 | []=>none
def GS(m:aj)(F:List aG)(f:aG):List Int->Option aj
 | v::_=>some (if F=[]then {m with Frames:=[],Stack:=m.Stack.take f.cE.toNat,Told:={m.Told with Value:=v},bX:=true}else {m with Frames:=F,Stack:=m.Stack.take f.cE.toNat++ [ax v]})
 | []=>none
def y7(K:eA)(s:an)(m:aj)(F:List aG)(f:aG)(k r:Int):Option aj:=
 if K.pa r<=(dI m f).length/\eJ s.Entry r then some {m with Frames:=F++ [{f with At:=k}]++ [⟨r,aC s.Entry r,((m.Stack.length-K.pa r:Nat):Int),K.lo r ((dI m f).take (K.pa r)).reverse⟩],Stack:=m.Stack.take (m.Stack.length-K.pa r)}else none
def oE(K:eA)(s:an)(m:aj)(F:List aG)(f:aG)(x:ae×Int×Int):Option aj:=
 if x.2.2≠0 then none
 else if x.1.Op=24 then some {m with Frames:=F++ [{f with At:=x.2.1+x.1.Arg}]}
 else if x.1.Op=25 then Bm m F f x.2.1 x.1.Arg (dI m f)
 else if x.1.Op=27 then GS m F f (dI m f)
 else if x.1.Op=26 then(if 32<=m.Frames.length then(if 0<=K.fn x.1.Arg then some (zA m 17)else none)else y7 K s m F f x.2.1 (K.fn x.1.Arg))
 else wz m F f x.2.1 (K.J x.1 (dI m f) f.aJ (iH m))
def db(K:eA)(s:an)(m:aj):Option aj:=
 if m.bX then some m else match m.Frames.getLast? with
  | some f=>if 0<=f.cE/\f.cE<=m.Stack.length then oE K s m m.Frames.dropLast f (mA s.Code f.At)else none
  | none=>none
def iterM(K:eA)(s:an):Nat->aj->Option aj
 | 0,m=>some m
 | n+1,m=>(db K s m).bind (iterM K s n)
theorem tj(K:eA)(s:an):∀(a b:Nat) (m:aj),iterM K s (a+b) m=(iterM K s a m).bind (iterM K s b)
 | 0,b,m=>by simp[iterM]
 | a+1,b,m=>by
   rw[show a+1+b=(a+b)+1 by omega,iterM,iterM];cases db K s m with
   | none=>rfl
   | some x=>exact tj K s a b x
def gM(env:cH)(F:List aG)(f i:Int)(ST L S:List Int)(σ:MS):aj:=⟨F++ [⟨f,i,ST.length,L⟩],ST++S.reverse,env,⟨0,σ.W,σ.Out,0,false,σ.Fuel⟩,false⟩
def Ef(env:cH)(F:List aG)(ST:List Int)(m':aj):Oc->Prop
 | .ret v σ=>m'=if F=[]then⟨[],ST,env,⟨0,σ.W,σ.Out,v,false,σ.Fuel⟩,true⟩else⟨F,ST++ [ax v],env,⟨0,σ.W,σ.Out,0,false,σ.Fuel⟩,false⟩
 | .bm e σ=>m'.bX=true/\m'.Env=env/\∃W,m'.Told=⟨e,W,σ.Out,0,false,σ.Fuel⟩
 | .over σ=>m'.bX=true/\m'.Env=env/\m'.Told=⟨0,σ.W,σ.Out,0,true,σ.Fuel⟩
def NR(s:an)(f:Int)(z:Zl)(pre:List Int):Prop:=Vn z/\(∃post,s.Code=pre++(fv z 0 z++post))/\aC s.Entry f=pre.length
def Laid(s:an)(P:Int->List ae):Prop:=∀f,P f≠ []->eJ s.Entry f/\∃z pre,z.map Prod.fst=P f/\NR s f z pre
theorem step_mk{K:eA}{s:an}{env:cH}{F:List aG}{f i:Int}{ST L S:List Int}{σ:MS}:db K s (gM env F f i ST L S σ)=oE K s (gM env F f i ST L S σ) F ⟨f,i,ST.length,L⟩ (mA s.Code i):=by
 unfold db;rw[if_neg (by simp[gM])];have h1:(gM env F f i ST L S σ).Frames.getLast?=some ⟨f,i,ST.length,L⟩:=by simp[gM]
 have h2:(gM env F f i ST L S σ).Frames.dropLast=F:=by simp[gM]
 rw[h1,h2];show(if 0<=(ST.length:Int)/\(ST.length:Int)<=((ST++S.reverse).length:Nat)then _ else none)=_;rw[if_pos (by rw[apX];omega)]
theorem IX{env:cH}{F:List aG}{f i j:Int}{ST L L' S:List Int}{σ:MS}:dI (gM env F f i ST L S σ) ⟨f,j,ST.length,L'⟩=S:=by
 unfold dI gM;simp
theorem take_mk{env:cH}{F:List aG}{f i:Int}{ST L S:List Int}{σ:MS}:(gM env F f i ST L S σ).Stack.take ((ST.length:Nat):Int).toNat=ST:=by
 unfold gM;simp
theorem YE{K:eA}{s:an}{P:Int→List ae}(hl:Laid s P)(env:cH):∀(g d:Nat) (S L:List Int) (σ:MS) (o:Oc) (n:Nat) (f:Int) (z a b:Zl) (pre:List Int) (F:List aG) (ST:List Int),
  run K P g d (z.map Prod.fst) (b.map Prod.fst) S L σ=some (o,n)->NR s f z pre->z=a++b->d=F.length+1->
  ∃m',iterM K s n (gM env F f (pre.length+aU a) ST L S σ)=some m'/\Ef env F ST m' o:=by
 intro g
 induction g with
 | zero=>intro d S L σ o n f z a b pre F ST h;simp[run]at h
 | succ g ih=>
   intro d S L σ o n f z a b pre F ST h hz zy hd;cases b with
   | nil=>simp[run]at h
   | cons p b=>
     have lD:=hz.1;obtain⟨post,yY⟩:=hz.2.1;have Vo:z=(a++ [p])++b:=by rw[zy];simp
     rw[aqd]at h;by_cases ed:p.1.Op=38
     ·rw[kr (BY ed)]at h;obtain⟨k,h2,hk⟩:=iO h;have:=ih d S L σ o n f z (a++ [p]) b pre F ST (by rw[hk];exact h2) hz Vo hd;have e:aU (a++ [p])=aU a:=by rw[xU];simp[aU,cL,ed]
      rw[e]at this;exact this
     have xV:=XG zy lD ed pre post;rw[<-yY]at xV;have dx:(pre.length:Int)+aU a+cL p=pre.length+aU (a++ [p]):=by
      rw[xU];simp[aU];omega
     have Fp:db K s (gM env F f (pre.length+aU a) ST L S σ)=oE K s (gM env F f (pre.length+aU a) ST L S σ) F ⟨f,pre.length+aU a,ST.length,L⟩ (⟨p.1.Op,if jmp p.1.Op then fY z p.1.Arg (aU a+cL p)else p.1.Arg⟩,(pre.length:Int)+aU a+cL p,0):=by
      rw[step_mk,xV]
     have go:∀{b' a':Zl} {S' L':List Int} {σ':MS} {k:Nat},db K s (gM env F f (pre.length+aU a) ST L S σ)=some (gM env F f (pre.length+aU a') ST L' S' σ')→z=a'++b'→run K P g d (z.map Prod.fst) (b'.map Prod.fst) S' L' σ'=some (o,k)→n=k+1→
       ∃m',iterM K s n (gM env F f (pre.length+aU a) ST L S σ)=some m'/\Ef env F ST m' o:=by
      intro b' a' S' L' σ' k h1 h2 h3 h4;obtain⟨m',h5,h6⟩:=ih d S' L' σ' o k f z a' b' pre F ST h3 hz h2 hd;exact⟨m',by rw[h4,iterM,h1];exact h5,h6⟩
     have one:∀{m'},db K s (gM env F f (pre.length+aU a) ST L S σ)=some m'->Ef env F ST m' o->n=1->∃m',iterM K s n (gM env F f (pre.length+aU a) ST L S σ)=some m'/\Ef env F ST m' o:=by
      intro m' h1 h2 h3;exact⟨m',by rw[h3,iterM,h1];rfl,h2⟩
     have jump:jmp p.1.Op=true→∀S' r1 k,after (z.map Prod.fst) p.1.Arg=some r1→db K s (gM env F f (pre.length+aU a) ST L S σ)=some (gM env F f ((pre.length:Int)+aU a+cL p+fY z p.1.Arg (aU a+cL p)) ST L S' σ)→run K P g d (z.map Prod.fst) r1 S' L σ=some (o,k)→n=k+1→
       ∃m',iterM K s n (gM env F f (pre.length+aU a) ST L S σ)=some m'/\Ef env F ST m' o:=by
      intro hj S' r1 k h1 h2 h3 h4;obtain⟨a',b',e1,e2,e3⟩:=zS z p.1.Arg r1 h1;have e4:(pre.length:Int)+aU a+cL p+fY z p.1.Arg (aU a+cL p)=pre.length+aU a':=by
       unfold fY;rw[e3];simp only[aqF];omega
      rw[e4]at h2;exact go h2 e1 (by rw[e2];exact h3) h4
     by_cases fe:p.1.Op=24
     ·rw[run,uU fe]at h;cases ha:after (z.map Prod.fst) p.1.Arg with
      | none=>rw[ha]at h;cases h
      | some r1=>
        rw[ha]at h;obtain⟨k,h2,hk⟩:=iO h;have hj:jmp p.1.Op=true:=by simp[jmp,fe]
        refine jump hj S r1 k ha ?_ h2 hk;rw[Fp,oE,if_neg (by simp),if_pos fe,if_pos hj];rfl
     by_cases gL:p.1.Op=25
     ·have hj:jmp p.1.Op=true:=by simp[jmp,gL]
      rw[run,rK gL]at h;cases S with
      | nil=>cases h
      | cons v S=>
        have bx:db K s (gM env F f (pre.length+aU a) ST L (v::S) σ)=Bm (gM env F f (pre.length+aU a) ST L (v::S) σ) F ⟨f,pre.length+aU a,ST.length,L⟩ ((pre.length:Int)+aU a+cL p) (fY z p.1.Arg (aU a+cL p)) (v::S):=by
         rw[Fp,oE,if_neg (by simp),if_neg fe,if_pos gL,IX,if_pos hj]
        rw[Nx.zero]at h;rw[Bm,take_mk]at bx;by_cases hv:ax v=0
        ·rw[if_pos hv]at h;rw[if_pos hv]at bx;cases ha:after (z.map Prod.fst) p.1.Arg with
         | none=>rw[ha]at h;cases h
         | some r1=>
           rw[ha]at h;obtain⟨k,h2,hk⟩:=iO h;exact jump hj S r1 k ha bx h2 hk
        ·rw[if_neg hv]at h;rw[if_neg hv]at bx;obtain⟨k,h2,hk⟩:=iO h;rw[dx]at bx;exact go bx Vo h2 hk
     have hj:jmp p.1.Op=false:=by simp[jmp,fe,gL]
     simp only[hj,aqq,if_false]at Fp;by_cases rC:p.1.Op=27
     ·rw[run,Ho rC]at h;cases S with
      | nil=>cases h
      | cons v S=>
        simp only[Nx.back,akC,apM]at h;obtain⟨rfl,rfl⟩:=h;have bx:db K s (gM env F f (pre.length+aU a) ST L (v::S) σ)=GS (gM env F f (pre.length+aU a) ST L (v::S) σ) F ⟨f,pre.length+aU a,ST.length,L⟩ (v::S):=by
         rw[Fp,oE,if_neg (by simp),if_neg fe,if_neg gL,if_pos rC,IX]
        rw[GS,take_mk]at bx;refine one bx ?_ rfl;simp only[Ef];by_cases hF:F=[]
        ·simp[hF,gM]
        ·simp[hF,gM]
     by_cases nP:p.1.Op=26
     ·rw[run,BZ nP]at h;have mL:(gM env F f (pre.length+aU a) ST L S σ).Frames.length=d:=by simp[gM,hd]
      have bx:db K s (gM env F f (pre.length+aU a) ST L S σ)=(if 32<=d then(if 0<=K.fn p.1.Arg then some (zA (gM env F f (pre.length+aU a) ST L S σ) 17)else none)else y7 K s (gM env F f (pre.length+aU a) ST L S σ) F ⟨f,pre.length+aU a,ST.length,L⟩ ((pre.length:Int)+aU a+cL p) (K.fn p.1.Arg)):=by
       rw[Fp,oE,if_neg (by simp),if_neg fe,if_neg gL,if_neg rC,if_pos nP,mL]
      by_cases iE:32<=d
      ·rw[if_pos iE]at h bx;by_cases CL:0<=K.fn p.1.Arg
       ·rw[if_pos CL]at h bx;simp only[akC,apM]at h;obtain⟨rfl,rfl⟩:=h;exact one bx ⟨rfl,rfl,σ.W,rfl⟩ rfl
       ·rw[if_neg CL]at h;cases h
      ·rw[if_neg iE]at h bx;by_cases hp:K.pa (K.fn p.1.Arg)<=S.length
       ·rw[if_pos hp]at h;simp only at h;generalize hr:K.fn p.1.Arg=r at *;generalize hk:K.pa r=k at *;cases hc:run K P g (d+1) (P r) (P r) [] (K.lo r (S.take k).reverse) σ with
        | none=>rw[hc]at h;cases h
        | some y=>
          obtain⟨oc,kc⟩:=y;have bU:P r≠ []:=by
           intro e;obtain⟨g',Yk⟩:=nZ hc;rw[e,Yk,run]at hc;cases hc
          obtain⟨cO,zr,agr,hzr,XQ⟩:=hl r bU;have Kn:db K s (gM env F f (pre.length+aU a) ST L S σ)=some (gM env (F++ [⟨f,(pre.length:Int)+aU a+cL p,ST.length,L⟩]) r (aC s.Entry r) (ST++(S.drop k).reverse) (K.lo r (S.take k).reverse) [] σ):=by
           rw[bx,y7,IX,hk,if_pos ⟨hp,cO⟩];have e1:(gM env F f (pre.length+aU a) ST L S σ).Stack.length-k=(ST++(S.drop k).reverse).length:=by
            simp[gM];omega
           have e2:(gM env F f (pre.length+aU a) ST L S σ).Stack.take (ST++(S.drop k).reverse).length=ST++(S.drop k).reverse:=by
            have:S.reverse=(S.drop k).reverse++(S.take k).reverse:=by rw[<-arI,aqh]
            simp only[gM,this,<-ap0];rw[List.take_left]
           rw[e1,e2];simp[gM]
          have GF:=XQ.2.2;rw[<-hzr]at hc;obtain⟨m1,qm,x8⟩:=ih (d+1) [] (K.lo r (S.take k).reverse) σ oc kc r zr [] zr agr (F++ [⟨f,(pre.length:Int)+aU a+cL p,ST.length,L⟩]) (ST++(S.drop k).reverse) hc XQ rfl (by simp[hd]);rw[hzr]at hc;rw[hc]at h;rw[show(agr.length:Int)+aU []=aC s.Entry r by rw[GF];simp[aU]]at qm;cases oc with
          | ret v σ'=>
            simp only at h;obtain⟨⟨o2,k2⟩,uv,F0⟩:=apN.1 h;simp only[apM]at F0;obtain⟨rfl,rfl⟩:=F0;simp only[Ef]at x8;rw[if_neg (by simp)]at x8;have e3:m1=gM env F f (pre.length+aU (a++ [p])) ST L (ax v::S.drop k) σ':=by
             rw[x8,<-dx];simp[gM]
            obtain⟨m',h5,h6⟩:=ih d (ax v::S.drop k) L σ' o2 k2 f z (a++ [p]) b pre F ST uv hz Vo hd;refine⟨m',?_,h6⟩;rw[show k2+kc+1=(kc+k2)+1 by omega,iterM,Kn];show iterM K s (kc+k2) _=_;rw[tj,qm,e3];exact h5
          | bm e σ'=>
            simp only[akC,apM]at h;obtain⟨rfl,rfl⟩:=h;exact⟨m1,by rw[iterM,Kn];exact qm,x8⟩
          | over σ'=>
            simp only[akC,apM]at h;obtain⟨rfl,rfl⟩:=h;exact⟨m1,by rw[iterM,Kn];exact qm,x8⟩
       ·rw[if_neg hp]at h;cases h
     have hf:flat p.1.Op:=⟨ed,fe,gL,rC,nP⟩
     rw[run,zx hf]at h;have bx:db K s (gM env F f (pre.length+aU a) ST L S σ)=wz (gM env F f (pre.length+aU a) ST L S σ) F ⟨f,pre.length+aU a,ST.length,L⟩ ((pre.length:Int)+aU a+cL p) (K.J p.1 S L σ):=by
      rw[Fp,oE,if_neg (by simp),if_neg fe,if_neg gL,if_neg rC,if_neg nP,IX];rfl
     cases hJ:K.J p.1 S L σ with
     | none=>rw[hJ]at h;cases h
     | some ev=>
       rw[hJ]at h bx;cases ev with
       | ok S' L' σ'=>
         obtain⟨k,h2,hk⟩:=iO h;refine go (a':=a++ [p]) ?_ Vo h2 hk;rw[bx,wz,take_mk,<-dx];rfl
       | bm e=>
         simp only[Nx.ev,akC,apM]at h;obtain⟨rfl,rfl⟩:=h;exact one bx ⟨rfl,rfl,σ.W,rfl⟩ rfl
       | over σ'=>
         simp only[Nx.ev,akC,apM]at h;obtain⟨rfl,rfl⟩:=h;exact one bx ⟨rfl,rfl,rfl⟩ rfl
def kx(n:Int):Bool:=decide (-32768<=n)&&decide (n<=32767)
def uc(l a:List ae)(x:ae):Int:=
 if jmp x.Op=true/\(bN l).contains x.Arg=false then 11
 else if x.Op=38/\(bN a).contains x.Arg=true then 10
 else if x.Op=38\/jmp x.Op=true then 0
 else if x.Op<1\/38<x.Op\/(pH x.Op=false/\x.Arg≠0)\/kx x.Arg=false then 16
 else 0
def ud(l:List ae):List ae->List ae->Int
 | _,[]=>0
 | a,x::r=>if uc l a x=0 then ud l (a++ [x]) r else uc l a x
def Eg(l:List ae):Int:=ud l [] l
def oP(n:Int):Nat:=if kx n then eK n else 3
def ng(z:Zl)(i:Nat):Option Zl:=
 match z[i]? with
 | some p=>if jmp p.1.Op=true/\p.2<oP (fY z p.1.Arg (aU (z.take (i+1))))then some (z.set i (p.1,oP (fY z p.1.Arg (aU (z.take (i+1))))))else none
 | none=>none
def dM:Nat->Nat->Zl->Bool->Zl×Bool
 | 0,_,z,b=>(z,b)
 | n+1,i,z,b=>match ng z i with
   | some z'=>dM n (i+1) z' true
   | none=>dM n (i+1) z b
def yw:Nat->Zl->Option Zl
 | 0,_=>none
 | g+1,z=>if(dM z.length 0 z false).2=true then yw g (dM z.length 0 z false).1 else some (dM z.length 0 z false).1
def kV(l:List ae):Zl:=l.map λi=>(i,0)
def pI(l:List ae):List Int×Int:=
 if Eg l≠0 then([],Eg l)
 else match yw (3 *l.length+1) (kV l)with
  | some z=>if 65536<aU z then([],3)else if z.any (λp=>jmp p.1.Op&&decide (p.2=3))=true then([],3)else(fv z 0 z,0)
  | none=>([],3)
theorem YF{z z':Zl}{i:Nat}(h:ng z i=some z'):z'.map Prod.fst=z.map Prod.fst:=by
 unfold ng at h;split at h
 ·rename_i p hp;split at h
  ·simp only[akC]at h;subst h;rw[List.map_set];refine List.ext_getElem? λk=>?_
   rw[asb];split
   ·rename_i hk;subst hk;have hi:=(apQ.1 hp).1;simp only[aqg,hi,if_true,apS,hp,aqe]
   ·rfl
  ·cases h
 ·cases h
def Ad(p:ae×Nat):Prop:=p.2<=3/\(jmp p.1.Op=false->p.2<=2)
def Eh(z:Zl):Nat:=(z.map Prod.snd).sum
theorem abJ(n:Int):oP n<=3:=by unfold oP;split;have:=qE n;omega;omega
theorem Td:∀(l:List Nat) (i:Nat) (x:Nat) (h:i<l.length),(l.set i x).sum+l[i]=l.sum+x
 | y::l,0,x,_=>by simp;omega
 | y::l,i+1,x,h=>by
   have:=Td l i x (by simpa using h);simp only[List.set_cons_succ,arT,List.getElem_cons_succ];omega
theorem abK{z z':Zl}{i:Nat}(h:ng z i=some z')(h3:∀p∈z,Ad p):Eh z<Eh z'/\∀p∈z',Ad p:=by
 unfold ng at h;split at h
 ·rename_i p hp;obtain⟨hi,he⟩:=apQ.1 hp;split at h
  ·rename_i hc;simp only[akC]at h;subst h;refine⟨?_,?_⟩
   ·unfold Eh;rw[List.map_set];have:=Td (z.map Prod.snd) i (oP (fY z p.1.Arg (aU (z.take (i+1))))) (by simpa using hi);simp only[List.getElem_map,he]at this;have h7:=hc.2;simp only at this⊢;omega
   ·intro q hq;rcases ar1 hq with hq|hq
    ·exact h3 q hq
    ·rw[hq];exact⟨abJ _,λhh=>by rw[hc.1]at hh;cases hh⟩
  ·cases h
 ·cases h
theorem yx:∀(n i:Nat) (z:Zl) (b:Bool),(∀p∈z,Ad p)→(dM n i z b).1.map Prod.fst=z.map Prod.fst∧(∀p∈(dM n i z b).1,Ad p)∧Eh z≤Eh (dM n i z b).1∧
  ((dM n i z b).2=true->b=true\/Eh z<Eh (dM n i z b).1)/\((dM n i z b).2=false->b=false/\(dM n i z b).1=z/\∀j,i<=j->j<i+n->ng z j=none)
 | 0,i,z,b,h3=>by
   refine⟨rfl,h3,apU _,λh=>Or.inl h,λh=>⟨h,rfl,λj h1 h2=>by omega⟩⟩
 | n+1,i,z,b,h3=>by
   rw[dM];cases hg:ng z i with
   | none=>
     obtain⟨a1,a2,a3,a4,a5⟩:=yx n (i+1) z b h3;refine⟨a1,a2,a3,a4,λh=>?_⟩;obtain⟨b1,b2,b3⟩:=a5 h;refine⟨b1,b2,λj h1 h2=>?_⟩;by_cases e:j=i
     ·rw[e];exact hg
     ·exact b3 j (by omega) (by omega)
   | some z'=>
     obtain⟨s1,s2⟩:=abK hg h3;obtain⟨a1,a2,a3,a4,a5⟩:=yx n (i+1) z' true s2;refine⟨a1.trans (YF hg),a2,by simp only;omega,λ_=>Or.inr (by simp only;omega),λh=>?_⟩;have:=(a5 h).1;cases this
theorem YG:∀(z:Zl),(∀p∈z,Ad p)->Eh z<=3 *z.length
 | [],_=>by simp[Eh]
 | p::z,h=>by
   have h1:=YG z (λq hq=>h q (by simp[hq]));have h2:=(h p (by simp)).1;simp only[Eh,aqd,arT,apY]at h1⊢;omega
theorem zB:∀(g:Nat) (z:Zl),(∀p∈z,Ad p)->3 *z.length<g+Eh z->∃z',yw g z=some z'/\z'.map Prod.fst=z.map Prod.fst/\(∀p∈z',Ad p)/\∀j,ng z' j=none
 | 0,z,h3,hg=>by
   have:=YG z h3;omega
 | g+1,z,h3,hg=>by
   obtain⟨a1,a2,a3,a4,a5⟩:=yx z.length 0 z false h3;have hl:(dM z.length 0 z false).1.length=z.length:=by
    have:=congrArg List.length a1;simpa using this
   rw[yw];by_cases hb:(dM z.length 0 z false).2=true
   ·rw[if_pos hb];have h4:=(a4 hb).resolve_left (by simp);obtain⟨z',b1,b2,b3,b4⟩:=zB g (dM z.length 0 z false).1 a2 (by rw[hl];omega);exact⟨z',b1,b2.trans a1,b3,b4⟩
   ·rw[if_neg hb];obtain⟨_,b2,b3⟩:=a5 (by simpa using hb);refine⟨_,rfl,a1,a2,λj=>?_⟩;rw[b2];by_cases hj:j<z.length
    ·exact b3 j (by omega) (by omega)
    ·unfold ng;rw[aqL (by omega)]
theorem Ei{l:List ae}:∀(a r:List ae),ud l a r=0->∀b x c,r=b++x::c->uc l (a++b) x=0
 | a,[],_,b,x,c,h=>by simp at h
 | a,y::r,h,b,x,c,hr=>by
   rw[ud]at h;split at h
   ·rename_i hy;cases b with
    | nil=>
      simp only[ap4,List.cons.injEq]at hr;rw[<-hr.1,aqp];exact hy
    | cons z b=>
      simp only[apZ,List.cons.injEq]at hr;have:=Ei (a++ [y]) r h b x c hr.2;rw[ap0]at this;rw[hr.1]at this;exact this
   ·rename_i hy;exact(hy h).elim
theorem xe:∀(z:Zl) (n:Int),n∈bN (z.map Prod.fst)->(oC z n).isSome
 | [],n,h=>by simp[bN]at h
 | p::z,n,h=>by
   rw[oC];split
   ·rfl
   ·rename_i hp;rw[Option.isSome_map];refine xe z n ?_;rw[qD]at h⊢;obtain⟨i,h1,h2,h3⟩:=h;rcases ap8.1 h1 with rfl|h1
    ·exact(hp ⟨h2,h3⟩).elim
    ·exact⟨i,h1,h2,h3⟩
theorem abL{z a b:Zl}{p:ae×Nat}(h:z=a++p::b):z.take (a.length+1)=a++ [p]:=by
 rw[h,List.take_append,List.take_of_length_le (by omega),show a.length+1-a.length=1 by omega];rfl
theorem Ph{l:List ae}{c:List Int}(h:pI l=(c,0)):∃z:Zl,z.map Prod.fst=l/\Vn z/\c=fv z 0 z/\aU z<=65536:=by
 unfold pI at h;by_cases hw:Eg l=0
 ·rw[if_neg (by simpa using hw)]at h;obtain⟨z,hz,hf,h3,hg⟩:=zB (3 *l.length+1) (kV l) (by intro p hp;obtain⟨i,_,rfl⟩:=apV.1 hp;exact⟨by simp,λ_=>by simp⟩) (by simp[kV];omega);have mL:z.map Prod.fst=l:=by rw[hf];simp[kV,asc]
  rw[hz]at h;simp only at h;split at h
  ·simp at h
  ·rename_i hlen;split at h
   ·simp at h
   ·rename_i yr;simp only[apM,and_true]at h;refine⟨z,mL,?_,h.symm,by omega⟩;intro a p b zy;have LN:=Ei [] l hw (a.map Prod.fst) p.1 (b.map Prod.fst) (by rw[<-mL,zy];simp);rw[ap4]at LN;have Te:=hg a.length;have hap:z[a.length]?=some p:=by rw[zy];simp
    unfold ng at Te;rw[hap]at Te;simp only[abL zy,xU]at Te;have pU:aU [p]=cL p:=by simp[aU]
    rw[pU]at Te;unfold uc at LN;by_cases hj:jmp p.1.Op=true
    ·have ox:(bN l).contains p.1.Arg=true:=by
      cases hc:(bN l).contains p.1.Arg with
      | true=>rfl
      | false=>rw[if_pos ⟨hj,hc⟩]at LN;cases LN
     have aP:p.1.Op=24\/p.1.Op=25:=by simpa[jmp]using hj
     have qi:p.2<=2:=by
      have:=(h3 p (by rw[zy];simp)).1;by_cases e:p.2=3
      ·exact(yr (art.2 ⟨p,by rw[zy];simp,by simp[hj,e]⟩)).elim
      ·omega
     have Fq:oP (fY z p.1.Arg (aU a+cL p))<=p.2:=by
      by_cases hx:p.2<oP (fY z p.1.Arg (aU a+cL p))
      ·rw[if_pos ⟨hj,hx⟩]at Te;cases Te
      ·omega
     refine⟨qi,Or.inr ⟨by omega,by omega,?_⟩⟩;rw[if_pos hj];have nB:kx (fY z p.1.Arg (aU a+cL p))=true:=by
      cases hc:kx (fY z p.1.Arg (aU a+cL p))with
      | true=>rfl
      | false=>unfold oP at Fq;rw[hc]at Fq;simp at Fq;omega
     unfold oP at Fq;rw[nB]at Fq;simp only[kx,apP,decide_eq_true_eq]at nB;exact⟨xe z _ (by rw[mL];simpa using ox),nB.1,nB.2,Fq⟩
    ·rw[if_neg (λh=>hj h.1)]at LN;have uv:p.2<=2:=(h3 p (by rw[zy];simp)).2 (by simpa using hj);refine⟨uv,?_⟩;by_cases ed:p.1.Op=38
     ·exact Or.inl ed
     ·rw[if_neg (λh=>ed h.1),if_neg (by rintro(h|h);exact ed h;exact hj h)]at LN;refine Or.inr ?_;split at LN
      ·cases LN
      ·rename_i hn;refine⟨by omega,by omega,?_⟩;rw[if_neg hj];have nB:kx p.1.Arg=true:=by
        cases hc:kx p.1.Arg with
        | true=>rfl
        | false=>exact(hn (Or.inr (Or.inr (Or.inr hc)))).elim
       simp only[kx,apP,decide_eq_true_eq]at nB;refine⟨nB.1,nB.2,λhh=>?_⟩;by_cases e:p.1.Arg=0
       ·exact e
       ·exact(hn (Or.inr (Or.inr (Or.inl ⟨hh,e⟩)))).elim
 ·rw[if_pos hw]at h;simp only[apM]at h;exact(hw h.2).elim
@[simp] theorem au.Tf(a b c:Int)(d:ByteArray)(l:List au):(au.mk a b c d l).av=l:=rfl
@[simp] theorem au.Tg(a b c:Int)(d:ByteArray)(l:List au):(au.mk a b c d l).Kind=a:=rfl
@[simp] theorem au.amR(a b c:Int)(d:ByteArray)(l:List au):(au.mk a b c d l).Op=b:=rfl
@[simp] theorem au.ags(a b c:Int)(d:ByteArray)(l:List au):(au.mk a b c d l).aI=c:=rfl
@[simp] theorem au.aep(a b c:Int)(d:ByteArray)(l:List au):(au.mk a b c d l).Name=d:=rfl
theorem au.mO{e x:au}(h:x∈e.av):SizeOf.sizeOf x<SizeOf.sizeOf e:=by
 cases e with
 | mk a b c d l=>
   have:=aqv (show x∈l from h);simp only[au.mk.sizeOf_spec];omega
mutual
def aj6:au->Int->Int
 | .mk _ _ _ _ l,m=>adl l (m-1)
def adl:List au->Int->Int
 | [],m=>m
 | x::l,m=>if m<0 then m else adl l (aj6 x m)
end
mutual
def kK:au->Int->Int
 | .mk _ _ _ _ l,m=>(if 1<m then eb l (m-1) 0 else 0)+1
def eb:List au->Int->Int->Int
 | [],_,n=>n
 | x::l,m,n=>eb l m (if n<kK x m then kK x m else n)
end
theorem Hq(e:au)(m:Int):kK e m=(if 1<m then eb e.av (m-1) 0 else 0)+1:=by cases e;rw[kK];rfl
theorem Gf(l:List au)(x:au)(m n:Int):eb (l++ [x]) m n=if eb l m n<kK x m then kK x m else eb l m n:=by
 induction l generalizing n with
 | nil=>simp only[ap4,eb];rfl
 | cons y l ih=>simp only[apZ,eb];exact ih _
theorem Pj(e:au)(m:Int)(hm:1<=m):1<=kK e m/\kK e m<=m:=by
 obtain⟨n,hn⟩:∃n,SizeOf.sizeOf e<n:=⟨_,ap5 _⟩
 induction n generalizing e m with
 | zero=>omega
 | succ n ih=>
   rw[Hq];split
   ·have:∀(l:List au) (k:Int),(∀x∈l,x∈e.av)->0<=k->k<=m-1->0<=eb l (m-1) k/\eb l (m-1) k<=m-1:=by
     intro l
     induction l with
     | nil=>intro k _ h1 h2;rw[eb];omega
     | cons x l SG=>
       intro k hx h1 h2;rw[eb];have:=ih x (m-1) (by omega) (by have:=au.mO (hx x (by simp));omega);apply SG _ (λy hy=>hx y (by simp[hy]))
       ·split<;>omega
       ·split<;>omega
    have:=this e.av 0 (λ_ h=>h) (by omega) (by omega);omega
   ·omega
theorem LO(l:List au)(m k:Int)(hm:1<=m)(h1:0<=k)(h2:k<=m):0<=eb l m k/\eb l m k<=m:=by
 induction l generalizing k with
 | nil=>rw[eb];omega
 | cons x l ih=>
   rw[eb];have:=Pj x m hm;apply ih
   ·split<;>omega
   ·split<;>omega
theorem aeq(e:au)(he:e.wf)(m:Int)(hm:1<=m/\m<=1000000000000):Pure prog 229 [.agg (e.enc.map .d),iD m] (iD (kK e m)):=by
 obtain⟨n,hn⟩:∃n,SizeOf.sizeOf e<n:=⟨_,ap5 _⟩
 induction n generalizing e m with
 | zero=>omega
 | succ n ih=>
   have hw:=(au.qu e).1 he;have hlen:e.av.length<=2199023255488:=by omega
   have kh:∀(i:Nat) (h:i<e.av.length) m,1<=m/\m<=1000000000000->Pure prog 229 [.agg ((e.av[i]).enc.map .d),iD m] (iD (kK (e.av[i]) m)):=λi h m hm=>
    ih _ (hw.2.2.2.2.2 _ (ap1 h)) m hm (by have:=au.mO (ap1 h);omega)
   rw[Hq];refine rn func229 ?_;simp[f229];generalize e.av=l at *;intro bs;refine⟨λh1=>?_,λh1=>?_⟩
   ·refine aw.cX [1,5,12,13,14] l.length (λi=> [(5,iD (eb (l.take i) (m-1) 0)),(14,iD i)]) (λ_=> []) (λ_=>True) (by rfl) (by simp[eb]) ?_;intro i hi _;rcases apW hi with ay|rfl
    ·have bR:l[i]?=some l[i]:=anc ay;have AQ:List.take (i+1) l=List.take i l++ [l[i]]:=by rw[aqy,bR];rfl
     have hS:=kh i ay;generalize hE:l[i]=x at *;have a1:aN .i64 (m-1):=iW;have a2:aN .i64 ((i:Int)+1):=iW;have ee:=Gf (l.take i) x (m-1) 0;rw[<-AQ]at ee;generalize hM:eb (l.take i) (m-1) 0=k at *;simp[ay,bR,hE];intro cI;refine⟨a1,?_⟩;refine ar.bA rfl (hS (m-1) ⟨by omega,by omega⟩) (by simp) rfl (by simp) rfl ?_;simp[a2,ay];refine⟨λh=>?_,λh=>?_⟩
     ·rw[ee,if_pos h]
     ·rw[ee,if_neg (by omega)]
    ·have:=LO l (m-1) 0 (by omega) (by omega) (by omega);simp[h1];rw[aR];omega
   ·rw[if_neg (by omega)];exact⟨iW,rfl⟩
def ec(e:au)(n:Int)(op num named:Bool):Bool:=decide ((e.av.length:Int)=n)&&(op||decide (e.Op=0))&&(num||decide (e.aI=0))&&(named||e.Name.toList.isEmpty)
theorem aer(e:au)(n:Int)(op num named:Bool):Pure prog 232 [.agg (e.enc.map .d),iD n,oD op,oD num,oD named] (oD (ec e n op num named)):=by
 refine rn func232 ?_;simp[f232];refine⟨?_,?_,?_,rfl⟩<;>simp+contextual
def eE(n lo hi:Int):Bool:=decide (lo<=n)&&decide (n<=hi)
theorem qF(n lo hi:Int):Pure prog 231 [iD n,iD lo,iD hi] (oD (eE n lo hi)):=by
 refine rn func231 ?_;simp[f231];rfl
def isM(n:Int):Bool:=decide (-32768<=n)&&decide (n<=32767)
theorem agt(n:Int):Pure prog 56 [iD n] (oD (isM n)):=by
 refine rn func56 ?_;simp[f56];rfl
def kL(t:aq)(f:Int):Int:=if eE f 0 (t.cS.length-1)&&eE (t.cS[f.toNat]?.getD 0) 0 (t.Params.length-1)then t.Params[(t.cS[f.toNat]?.getD 0).toNat]?.getD 0 else -1
theorem YH(t:aq)(ht:t.wf)(f:Int):Pure prog 233 [.agg (t.enc.map .d),iD f] (iD (kL t f)):=by
 refine rn func233 ?_;simp[f233];intro bs;refine aw.cV [oD (eE f 0 (t.cS.length-1)),oD (eE (t.cS[f.toNat]?.getD 0) 0 (t.Params.length-1))] bc (by kernel_rfl) (by rfl) ?_;have hA:=λa b c L=>(qF a b c).ok L
 have pU:=aq.G8 ht;have nv:=aq.zl ht;have a1:aN .i64 ((t.cS.length:Int)-1):=iW;have a2:aN .i64 ((t.Params.length:Int)-1):=iW;have hk:eE f 0 (t.cS.length-1)=true->0<=f/\f.toNat<t.cS.length:=by simp[eE];omega
 have tF:eE (t.cS[f.toNat]?.getD 0) 0 (t.Params.length-1)=true->0<=t.cS[f.toNat]?.getD 0/\(t.cS[f.toNat]?.getD 0).toNat<t.Params.length:=by simp[eE];omega
 unfold kL;simp[hA,a1,a2];refine⟨λh=>⟨hk h,h⟩,λh h1 h2=>?_,λh1 h2=>?_⟩
 ·simp[h1,h2]at h
 ·refine aw.cV [] bc (by kernel_rfl) (by rfl) ?_;simp[h1,h2];exact⟨hk h1,tF h2⟩
def dH(t:aq)(e:au)(locals:Int)(said:Bool):Bool:=
 if e.Kind=1 then ec e 0 false true false&&isM e.aI
 else if e.Kind=14 then ec e 0 false true false&&eE e.aI 0 (t.aW.length-1)
 else if e.Kind=15 then ec e 0 false true false&&decide (0<=e.aI)&&decide (e.aI<locals)
 else if e.Kind=19 then said&&ec e 0 false true false&&eE e.aI 0 (t.gO.length-1)
 else if e.Kind=4\/e.Kind=5\/e.Kind=11 then ec e 1 false false false
 else if e.Kind=13 then said&&ec e 1 false false false
 else if e.Kind=6 then ec e 2 true false false&&eE e.Op 1 14
 else if e.Kind=16 then ec e 1 false true false&&decide (0<=e.aI)&&decide (e.aI<t.Flags)
 else if e.Kind=17 then ec e 1 false true false&&eE e.aI 0 (t.aM.length-1)
 else if e.Kind=18 then ec e e.av.length false true false&&decide (kL t e.aI=e.av.length)
 else if e.Kind=10 then ec e 1 true false false&&eE e.Op 1 3
 else if e.Kind=12 then ec e 0 true false false&&eE e.Op 1 6
 else false
mutual
def cw(t:aq)(locals:Int):au->Bool->Bool
 | .mk k o n s l,said=>dH t (.mk k o n s l) locals said&&pq t locals l
def pq(t:aq)(locals:Int):List au->Bool
 | []=>true
 | x::l=>cw t locals x false&&pq t locals l
end
theorem iP(t:aq)(locals:Int)(e:au)(said:Bool):cw t locals e said=(dH t e locals said&&pq t locals e.av):=by cases e;rw[cw];rfl
theorem jd(t:aq)(locals:Int)(l:List au):pq t locals l=l.all λx=>cw t locals x false:=by
 induction l with
 | nil=>rw[pq];rfl
 | cons x l ih=>rw[pq,ih];rfl
set_option maxRecDepth 20000 in
set_option maxHeartbeats 4000000 in
theorem zC(t:aq)(ht:t.wf)(locals:Int)(e:au)(he:e.wf)(said:Bool):Pure prog 182 [.agg (t.enc.map .d),.agg (e.enc.map .d),iD locals,oD said] (oD (cw t locals e said)):=by
 obtain⟨n,hn⟩:∃n,SizeOf.sizeOf e<n:=⟨_,ap5 _⟩
 induction n generalizing e said with
 | zero=>omega
 | succ n ih=>
   have hw:=(au.qu e).1 he;have hlen:e.av.length<=2199023255488:=by omega
   have kh:∀(i:Nat) (h:i<e.av.length) said,Pure prog 182 [.agg (t.enc.map .d),.agg ((e.av[i]).enc.map .d),iD locals,oD said] (oD (cw t locals (e.av[i]) said)):=λi h said=>
    ih _ (hw.2.2.2.2.2 _ (ap1 h)) said (by have:=au.mO (ap1 h);omega)
   rw[iP];have hA:=λa b c L=>(qF a b c).ok L
   have hI:=λa L=>(agt a).ok L
   have hB:=λn a b c L=>(aer e n a b c).ok L
   have hP:=λf L=>(YH t ht f).ok L
   have b1:=aq.oH ht;have b2:=aq.Oy ht;have b3:=aq.qq ht;have a1:aN .i64 ((t.aW.length:Int)-1):=iW;have a2:aN .i64 ((t.gO.length:Int)-1):=iW;have a3:aN .i64 ((t.aM.length:Int)-1):=iW;have sR:e.Kind=1\/e.Kind=14\/e.Kind=15\/e.Kind=19\/e.Kind=4\/e.Kind=5\/e.Kind=11\/e.Kind=13\/e.Kind=6\/e.Kind=16\/e.Kind=17\/e.Kind=18\/e.Kind=10\/e.Kind=12\/(e.Kind≠1/\e.Kind≠14/\e.Kind≠15/\e.Kind≠19/\e.Kind≠4/\e.Kind≠5/\e.Kind≠11/\e.Kind≠13/\e.Kind≠6/\e.Kind≠16/\e.Kind≠17/\e.Kind≠18/\e.Kind≠10/\e.Kind≠12):=by omega
   rcases sR with hk|hk|hk|hk|hk|hk|hk|hk|hk|hk|hk|hk|hk|hk|hk
   all_goals
    have hK:dH t e locals said=dH t e locals said:=rfl
    conv at hK=>rhs;unfold dH
    simp[hk]at hK;refine rn func182 ?_;simp[f182,hk];intro bs
   refine bf _ _ [oD (ec e 0 false true false),oD (isM e.aI)] (by rfl) ?_
   rotate_left
   refine bf _ _ [oD (ec e 0 false true false),oD (eE e.aI 0 (t.aW.length-1))] (by rfl) ?_
   rotate_left
   refine bf _ _ [oD (ec e 0 false true false)] (by rfl) ?_
   rotate_left
   refine bf _ _ [oD (ec e 0 false true false),oD (eE e.aI 0 (t.gO.length-1))] (by rfl) ?_
   rotate_left
   refine bf _ _ [oD (ec e 1 false false false)] (by rfl) ?_
   rotate_left
   refine bf _ _ [oD (ec e 1 false false false)] (by rfl) ?_
   rotate_left
   refine bf _ _ [oD (ec e 1 false false false)] (by rfl) ?_
   rotate_left
   refine bf _ _ [oD (ec e 1 false false false)] (by rfl) ?_
   rotate_left
   refine bf _ _ [oD (ec e 2 true false false),oD (eE e.Op 1 14)] (by rfl) ?_
   rotate_left
   refine bf _ _ [oD (ec e 1 false true false)] (by rfl) ?_
   rotate_left
   refine bf _ _ [oD (ec e 1 false true false),oD (eE e.aI 0 (t.aM.length-1))] (by rfl) ?_
   rotate_left
   refine aw.cV [oD (ec e e.av.length false true false),iD (kL t e.aI)] bc (by kernel_rfl) (by rfl) ?_
   rotate_left
   refine bf _ _ [oD (ec e 1 true false false),oD (eE e.Op 1 3)] (by rfl) ?_
   rotate_left
   refine bf _ _ [oD (ec e 0 true false false),oD (eE e.Op 1 6)] (by rfl) ?_
   rotate_left
   rotate_left
   all_goals
    try simp[hA,hB,hI,hP,a1,a2,a3]
    refine aw.cX [2,4,9,154,155,156] e.av.length (λi=> [(9,oD (dH t e locals said&&pq t locals (e.av.take i))),(156,iD i)]) (λ_=> []) (λ_=>True) (by rfl) (by simp[hK,pq]<;>rfl) ?_;clear hK hA hI hB hP a1 a2 a3 b1 b2 b3;generalize dH t e locals said=b;intro i hi _;rcases apW hi with ay|rfl
    ·have bR:e.av[i]?=some e.av[i]:=anc ay;have AQ:pq t locals (e.av.take (i+1))=(pq t locals (e.av.take i)&&cw t locals e.av[i] false):=by
      rw[aqy,bR,jd,jd,List.all_append];simp
     have hS:=λL=>(kh i ay false).ok L
     have a2:aN .i64 ((i:Int)+1):=iW;generalize hE:e.av[i]=x at *;simp[ay,bR,hE];intro cI;refine bf _ _ [oD (cw t locals x false)] (by rfl) ?_;simp[hS,a2,ay,hE,AQ,ar8]<;>(intro h1 h2;first|exact⟨h1,h2⟩|exact⟨⟨h1,h2⟩,hS _⟩)
    ·simp
theorem cM(a b:Int):Pure prog 193 [iD a,iD b] (.agg ((ae.mk a b).enc.map .d)):=by
 refine rn func193 ?_;simp[f193];rfl
theorem mb(b:Int):Pure prog 294 [iD b] (.agg ((ae.mk 38 b).enc.map .d)):=by
 refine rn func294 ?_;simp[f294];intro bs;refine ar.bA rfl (cM 38 b) (by simp) rfl (by simp) rfl ?_;simp
theorem xw(b:Int):Pure prog 295 [iD b] (.agg ((ae.mk 24 b).enc.map .d)):=by
 refine rn func295 ?_;simp[f295];intro bs;refine ar.bA rfl (cM 24 b) (by simp) rfl (by simp) rfl ?_;simp
theorem uX(b:Int):Pure prog 293 [iD b] (.agg ((ae.mk 25 b).enc.map .d)):=by
 refine rn func293 ?_;simp[f293];intro bs;refine ar.bA rfl (cM 25 b) (by simp) rfl (by simp) rfl ?_;simp
def cG(e:au):ae:=
 if e.Kind=1 then⟨1,e.aI⟩else if e.Kind=14 then⟨3,e.aI⟩else if e.Kind=15 then⟨5,e.aI⟩else if e.Kind=12 then⟨7,e.Op⟩
 else if e.Kind=4 then⟨9,0⟩else if e.Kind=5 then⟨10,0⟩else if e.Kind=11 then⟨20,0⟩else if e.Kind=6 then⟨8,e.Op⟩
 else if e.Kind=16 then⟨12,e.aI⟩else if e.Kind=17 then⟨13,e.aI⟩else if e.Kind=18 then⟨26,e.aI⟩else⟨19,e.Op⟩
set_option maxRecDepth 20000 in
set_option maxHeartbeats 4000000 in
theorem YI(e:au):Pure prog 307 [.agg (e.enc.map .d)] (.agg ((cG e).enc.map .d)):=by
 have hc:=λa b L=>(cM a b).ok L
 by_cases nu:e.Kind=1
 ·have hO:cG e=⟨1,(e.aI)⟩:=by simp[cG,nu]
  rw[hO];refine rn func307 ?_;simp[f307,nu];intro bs;refine ar.bA rfl (cM 1 (e.aI)) (by simp) rfl (by simp) rfl ?_;simp
 by_cases Vp:e.Kind=14
 ·have hO:cG e=⟨3,(e.aI)⟩:=by simp[cG,Vp]
  rw[hO];refine rn func307 ?_;simp[f307,Vp];intro bs;refine ar.bA rfl (cM 3 (e.aI)) (by simp) rfl (by simp) rfl ?_;simp
 by_cases Vq:e.Kind=15
 ·have hO:cG e=⟨5,(e.aI)⟩:=by simp[cG,Vq]
  rw[hO];refine rn func307 ?_;simp[f307,Vq];intro bs;refine ar.bA rfl (cM 5 (e.aI)) (by simp) rfl (by simp) rfl ?_;simp
 by_cases Hr:e.Kind=12
 ·have hO:cG e=⟨7,(e.Op)⟩:=by simp[cG,Hr]
  rw[hO];refine rn func307 ?_;simp[f307,Hr];intro bs;refine ar.bA rfl (cM 7 (e.Op)) (by simp) rfl (by simp) rfl ?_;simp
 by_cases YJ:e.Kind=4
 ·have hO:cG e=⟨9,(0)⟩:=by simp[cG,YJ]
  rw[hO];refine rn func307 ?_;simp[f307,YJ];intro bs;refine ar.bA rfl (cM 9 (0)) (by simp) rfl (by simp) rfl ?_;simp
 by_cases hk5:e.Kind=5
 ·have hO:cG e=⟨10,(0)⟩:=by simp[cG,hk5]
  rw[hO];refine rn func307 ?_;simp[f307,hk5];intro bs;refine ar.bA rfl (cM 10 (0)) (by simp) rfl (by simp) rfl ?_;simp
 by_cases Vr:e.Kind=11
 ·have hO:cG e=⟨20,(0)⟩:=by simp[cG,Vr]
  rw[hO];refine rn func307 ?_;simp[f307,Vr];intro bs;refine ar.bA rfl (cM 20 (0)) (by simp) rfl (by simp) rfl ?_;simp
 by_cases hk6:e.Kind=6
 ·have hO:cG e=⟨8,(e.Op)⟩:=by simp[cG,hk6]
  rw[hO];refine rn func307 ?_;simp[f307,hk6];intro bs;refine ar.bA rfl (cM 8 (e.Op)) (by simp) rfl (by simp) rfl ?_;simp
 by_cases Vs:e.Kind=16
 ·have hO:cG e=⟨12,(e.aI)⟩:=by simp[cG,Vs]
  rw[hO];refine rn func307 ?_;simp[f307,Vs];intro bs;refine ar.bA rfl (cM 12 (e.aI)) (by simp) rfl (by simp) rfl ?_;simp
 by_cases Vt:e.Kind=17
 ·have hO:cG e=⟨13,(e.aI)⟩:=by simp[cG,Vt]
  rw[hO];refine rn func307 ?_;simp[f307,Vt];intro bs;refine ar.bA rfl (cM 13 (e.aI)) (by simp) rfl (by simp) rfl ?_;simp
 by_cases Vu:e.Kind=18
 ·have hO:cG e=⟨26,(e.aI)⟩:=by simp[cG,Vu]
  rw[hO];refine rn func307 ?_;simp[f307,Vu];intro bs;refine ar.bA rfl (cM 26 (e.aI)) (by simp) rfl (by simp) rfl ?_;simp
 have hO:cG e=⟨19,e.Op⟩:=by simp[cG,nu,Vp,Vq,Hr,YJ,hk5,Vr,hk6,Vs,Vt,Vu]
 rw[hO];refine rn func307 ?_;simp[f307,nu,Vp,Vq,Hr,YJ,hk5,Vr,hk6,Vs,Vt,Vu];intro bs;refine ar.bA rfl (cM 19 e.Op) (by simp) rfl (by simp) rfl ?_;simp
theorem dz(a b:List ae)(ha:a.length<=1000000000000)(hb:b.length<=1000000000000):Pure prog 191 [.d (.sl (a.map ae.enc)),.d (.sl (b.map ae.enc))] (.d (.sl ((a++b).map ae.enc))):=by
 refine rn func191 ?_;simp[f191];omega
mutual
def ue:au->Nat
 | .mk _ _ _ _ l=>1+fw l
def fw:List au->Nat
 | []=>0
 | x::l=>ue x+fw l
end
theorem vL(e:au):ue e=1+fw e.av:=by cases e;rw[ue];rfl
theorem Hs(l r:List au):fw (l++r)=fw l+fw r:=by
 induction l with
 | nil=>simp[fw]
 | cons x l ih=>simp only[apZ,fw,ih];omega
mutual
def aT:au->Int->List ae×Int
 | .mk k o n s l,m=>
   if k=6/\(o=1\/o=2)then
    match l with
    | a::b::_=>((aT a (m+2)).1++ [⟨25,m⟩]++(if o=1 then [⟨1,1⟩,⟨24,m+1⟩,⟨38,m⟩]++(aT b (aT a (m+2)).2).1++ [⟨11,0⟩,⟨38,m+1⟩]
      else(aT b (aT a (m+2)).2).1++ [⟨11,0⟩,⟨24,m+1⟩,⟨38,m⟩,⟨1,0⟩,⟨38,m+1⟩]),(aT b (aT a (m+2)).2).2)
    | _=>([],m)
   else((aK l m).1++ [cG (.mk k o n s l)],(aK l m).2)
def aK:List au->Int->List ae×Int
 | [],m=>([],m)
 | x::l,m=>((aT x m).1++(aK l (aT x m).2).1,(aK l (aT x m).2).2)
end
def qe(e:au):Prop:=e.Kind=6/\(e.Op=1\/e.Op=2)
theorem oz(e:au)(m:Int)(h:¬qe e):aT e m=((aK e.av m).1++ [cG e],(aK e.av m).2):=by
 cases e with
 | mk k o n s l=>
   rw[aT.eq_def];have h':¬(k=6/\(o=1\/o=2)):=h;simp only;rw[if_neg h'];rfl
theorem uE(e a b:au)(r:List au)(m:Int)(hk:e.Kind=6)(ho:e.Op=1)(ha:e.av=a::b::r):aT e m=((aT a (m+2)).1++ [⟨25,m⟩]++([⟨1,1⟩,⟨24,m+1⟩,⟨38,m⟩]++(aT b (aT a (m+2)).2).1++ [⟨11,0⟩,⟨38,m+1⟩]),(aT b (aT a (m+2)).2).2):=by
 cases e with
 | mk k o n s l=>
   cases hk;cases ho;cases ha;rw[aT];simp
theorem sy(e a b:au)(r:List au)(m:Int)(hk:e.Kind=6)(ho:e.Op=2)(ha:e.av=a::b::r):aT e m=((aT a (m+2)).1++ [⟨25,m⟩]++((aT b (aT a (m+2)).2).1++ [⟨11,0⟩,⟨24,m+1⟩,⟨38,m⟩,⟨1,0⟩,⟨38,m+1⟩]),(aT b (aT a (m+2)).2).2):=by
 cases e with
 | mk k o n s l=>
   cases hk;cases ho;cases ha;rw[aT];simp
theorem Vv(l:List au)(x:au)(m:Int):aK (l++ [x]) m=((aK l m).1++(aT x (aK l m).2).1,(aT x (aK l m).2).2):=by
 induction l generalizing m with
 | nil=>simp[aK]
 | cons y l ih=>simp[aK,ih]
theorem yy(l:List au)(hl:∀x∈l,∀m,m<=(aT x m).2/\(aT x m).2<=m+2 *ue x/\(aT x m).1.length<=6 *ue x)(m:Int):m<=(aK l m).2/\(aK l m).2<=m+2 *fw l/\(aK l m).1.length<=6 *fw l:=by
 induction l generalizing m with
 | nil=>simp[aK,fw]
 | cons x l ih=>
   have h1:=hl x (by simp) m;have h2:=ih (λy hy=>hl y (by simp[hy])) (aT x m).2;rw[aK,fw,apX];omega
theorem iQ(e:au)(m:Int):m<=(aT e m).2/\(aT e m).2<=m+2 *ue e/\(aT e m).1.length<=6 *ue e:=by
 obtain⟨n,hn⟩:∃n,SizeOf.sizeOf e<n:=⟨_,ap5 _⟩
 induction n generalizing e m with
 | zero=>omega
 | succ n ih=>
   have hs:∀x∈e.av,∀m,m<=(aT x m).2/\(aT x m).2<=m+2 *ue x/\(aT x m).1.length<=6 *ue x:=λx hx m=>ih x m (by have:=au.mO hx;omega)
   by_cases hL:qe e
   ·obtain⟨hk,ho⟩:=hL;by_cases hA:∃a b r,e.av=a::b::r
    ·obtain⟨a,b,r,hA⟩:=hA;have h1:=hs a (by simp[hA]) (m+2);have h2:=hs b (by simp[hA]) (aT a (m+2)).2;rw[vL,hA];simp only[fw];rcases ho with ho|ho
     ·rw[uE e a b r m hk ho hA];simp only[apX,apY,aqj];omega
     ·rw[sy e a b r m hk ho hA];simp only[apX,apY,aqj];omega
    ·have:aT e m=([],m):=by
      cases e with
      | mk k o n s l=>
        cases l with
        | nil=>rw[aT.eq_def];simp[show k=6 from hk,show o=1\/o=2 from ho]
        | cons a l=>
          cases l with
          | nil=>rw[aT.eq_def];simp[show k=6 from hk,show o=1\/o=2 from ho]
          | cons b r=>exact absurd ⟨a,b,r,rfl⟩ hA
     rw[this];simp;omega
   ·rw[oz e m hL,vL];have:=yy e.av hs m;simp only[apX,apY,aqj];omega
section
variable {P : Program} {n : Nat} {Q : AX -> St -> Prop}
def aj7(P:Program)(ops:Array Oper)(o:Oper)(s:St)(K:V->Option Nat->aH->Prop)(KP:V->aH->Prop):Prop:=
 (∃x k L',(∀n,fK P n ops o s.fr s.L k x L')/\K x k L')\/(∃y L',(∀n,afE P n ops o s.fr s.L y L')/\KP y L')
def Vw(P:Program)(ops:Array Oper)(c:Nat)(ks:List (Option Nat))(Ls:List aH):List Le->Prop
 | []=>True
 | d::ds=>pD (min d.hi c-d.lo) (d.lo+1) (λp=>x9 P ops d.o ⟨dc ks p d.fr,Ls.getD p []⟩ d.x d.told)/\Vw P ops c ks Ls ds
def nt(P:Program)(ops:Array Oper)(c:Nat):List (Oper×Option (Nat×Nat))->kG->List (Option Nat)->List aH->List V->Prop
 | [],_,_,_,_=>True
 | (o,none)::rest,fr,ks,Ls,us=>nt P ops c rest (gZ fr o.dst (ks.length+1) .any) (ks++ [none]) (Ls++ [[]]) us
 | (o,some (lo,hi))::rest,fr,ks,Ls,us=>
   if c<lo then nt P ops c rest (gZ fr o.dst lo .any) ks Ls us
   else if rT o then
    match us with
    | []=>False
    | u::kZ=>match cv P ops ⟨dc ks lo fr,Ls.getD lo []⟩ o u with
      | some (x,cd)=>cd/\pD (min hi c-lo) (lo+1) (λp=>x9 P ops o ⟨dc ks p fr,Ls.getD p []⟩ x (some u))/\nt P ops c rest (gZ fr o.dst lo x) ks Ls kZ
      | none=>False
   else
    match qv P ops ⟨dc ks lo fr,Ls.getD lo []⟩ o with
    | some (x,cd)=>cd/\pD (min hi c-lo) (lo+1) (λp=>x9 P ops o ⟨dc ks p fr,Ls.getD p []⟩ x none)/\nt P ops c rest (gZ fr o.dst lo x) ks Ls us
    | none=>False
def vZ(P:Program)(ops:Array Oper)(ov:List Nat):List (Oper×Option (Nat×Nat))->kG->List (Option Nat)->List aH->List V->List Le->(kG->List (Option Nat)->List aH->Prop)->(V->aH->Prop)->Prop
 | [],fr,ks,Ls,_,ds,K,_=>BC P ops ks Ls ds/\K fr ks Ls
 | (o,none)::rest,fr,ks,Ls,us,ds,K,KP=>
   match(if ov.any (λt=>o.dst==some t)then none else lv P ops ⟨dc ks ks.length fr,Ls.getD ks.length []⟩ o)with
   | some (x,k,L',c)=>c/\vZ P ops ov rest (gZ fr o.dst (ks.length+1) x) (ks++ [k]) (Ls++ [L']) us ds K KP
   | none=>aj7 P ops o ⟨dc ks ks.length fr,Ls.getD ks.length []⟩
     (λx k L'=>vZ P ops ov rest (gZ fr o.dst (ks.length+1) x) (ks++ [k]) (Ls++ [L']) us ds K KP)
     (λy L'=>KP y L'/\Vw P ops ks.length ks Ls ds/\nt P ops ks.length rest (gZ fr o.dst (ks.length+1) .any) (ks++ [none]) (Ls++ [[]]) us)
 | (o,some (lo,hi))::rest,fr,ks,Ls,us,ds,K,KP=>
   if rT o then
    match us with
    | []=>False
    | u::kZ=>match cv P ops ⟨dc ks ks.length fr,Ls.getD ks.length []⟩ o u with
      | some (x,c)=>c∧pD (ks.length-lo) lo (fun p=>x9 P ops o ⟨dc ks p fr,Ls.getD p []⟩ x (some u))∧
        vZ P ops ov rest (gZ fr o.dst lo x) ks Ls kZ (if ks.length<hi then⟨o,fr,x,ks.length,hi,some u⟩::ds else ds) K KP
      | none=>False
   else
    match qv P ops ⟨dc ks ks.length fr,Ls.getD ks.length []⟩ o with
    | some (x,c)=>c∧pD (ks.length-lo) lo (fun p=>x9 P ops o ⟨dc ks p fr,Ls.getD p []⟩ x none)∧
      vZ P ops ov rest (gZ fr o.dst lo x) ks Ls us (if ks.length<hi then⟨o,fr,x,ks.length,hi,none⟩::ds else ds) K KP
    | none=>False
attribute [simp] vZ nt Vw
end
section
variable {P : Program} {n : Nat} {s : St} {Q : AX -> St -> Prop} {L : aH} {ops : Array Oper}
def M7(P:Program)(rs:List ResultVar)(R:AE->aH->Prop)(ts hs:List Nat)(x:AX)(s:St):Prop:=
 match x with
 | .normal|.ret=>(s.pick ts hs).on (keys (s.pick ts hs).L)=true/\fj P rs R .ret (s.pick ts hs)
 | .iC y=>((s.pick [] hs).on (keys (s.pick [] hs).L)=true/\y.on []=true)/\R (.iC y) (s.pick [] hs).L
 | _=>False
theorem aw.adm{c rs R} ts hs(ht:ts.all (λt=>decide (t<n))=true)(hh:hs.Nodup)(h:aw P n c s (M7 P rs R ts hs)):aw P n c s (fj P rs R):=by
 intro fo m a w hr g;refine Code.wpIn_mono (λe a1 w1 hp=>?_) (h fo m a w hr g);obtain⟨ms,m',x,s',qz,hq,g',he,st⟩:=hp;have key:∀y,(s'.pick ts hs).on (keys (s'.pick ts hs).L)=true/\fj P rs R .ret (s'.pick ts hs)->(∀m2,bF w1 (OO (fo.mark ms) m2) m2 e y)->fj P rs R .ret (s'.pick ts hs)=fj P rs R y (s'.pick ts hs)->fX fo n m w (fj P rs R) e a1 w1:=by
  intro y h1 h2 h3;obtain⟨m2,g2,oX⟩:=Wk.pick ts hs ht hh h1.1 (fo.mark ms) m' a1 w1 g';exact⟨ms,m2,y,s'.pick ts hs,qz,h3 ▸ h1.2,g2,h2 m2,st.trans oX⟩
 cases x with
 | normal=>
   refine key .normal hq (λm2=>?_) rfl;grind[bF]
 | ret=>
   refine key .ret hq (λm2=>?_) rfl;grind[bF]
 | iC y=>
   obtain⟨⟨h1,h2⟩,h3⟩:=hq;obtain⟨m2,g2,oX⟩:=Wk.pick [] hs rfl hh h1 (fo.mark ms) m' a1 w1 g';refine⟨ms,m2,.iC y,s'.pick [] hs,qz,h3,g2,?_,st.trans oX⟩;cases e<;>simp[bF]at he⊢
   obtain⟨v,gN,rfl,ir,hv⟩:=he;exact⟨v,gN,rfl,ir,(hv.on (by simp) h2).mono (Step.rH oX) (Step.sub oX) (λ_ _ e=>e)⟩
 | exit i=>exact hq.elim
 | goto i=>exact hq.elim
theorem aE.nt ts hs{f}{args}{R}{fn}{c}(hf:P.funcs[f]?=some fn)(hb:fn.body=some c)(hn:args.length≤fn.ntmps∧ts.all (fun t=>decide (t < fn.ntmps))=true∧hs.Nodup)
  (h:cP P fn.ntmps c ⟨eH 0 args,L⟩ (cm P fn.ntmps (M7 P fn.results.toList R ts hs) [])):aE P f args L R:=
 aE.xY hf hb hn.1 (aw.adm ts hs hn.2.1 hn.2.2 (eg _ _ _ h))
theorem rX(ts hs:List Nat){f:FuncId}{args:List V}{R:AE→aH→Prop}{fn:Func}{c:Code}(hf:P.funcs[f]?=some fn)(h:cP P fn.ntmps c ⟨eH 0 args,L⟩ (cm P fn.ntmps (M7 P fn.results.toList R ts hs) []))
  (hb:fn.body=some c:=by exact rfl) (hn:Nat.ble args.length fn.ntmps=true:=by exact rfl) (ht:ts.all (λt=>decide (t<fn.ntmps))=true:=by exact rfl) (hd:hs.Nodup:=by decide):aE P f args L R:=aE.nt ts hs hf hb ⟨Nat.le_of_ble_eq_true hn,ht,hd⟩ h
attribute [simp] M7
theorem ar.Th(kj:List (Nat×V)){o:Oper}{rest:List Oper}{c:Call}{f:FuncId}{args:List V}{L1 bh:aH}{y:V}(hs:List Nat)(aP:o.op= .call c)(h:aE P f args L1 (fun r L=>r= .iC y∧L=bh))(hc:callee s.ev c=some (f,args))(hg:o.guard=none)
  (hd:∀d,o.dst=some d->d<n) (he:enters P f=true) (hL:s.L.filter (λp=>hs.contains p.1)=L1)
  (ho:V.dA (keys L1) args=true/\L1.all (λp=>aV.on (keys L1) p.2)=true/\L1.all (λp=>!fp p.2||bh.any (λq=>q.1==p.1&&(fp q.2&&mV q.2==mV p.2)))=true)
  (ja:(s.L.filter λp=>!hs.contains p.1).all (λp=>aV.on (keys (s.L.filter λp=>!hs.contains p.1)++keys (L1.filter λp=>fp p.2)) p.2)=true)
  (hk:(keys bh).all (λk=>!(keys (s.L.filter λp=>!hs.contains p.1)).contains k)=true)
  (ia:∀p∈kj,p∈s.fr/\V.on (keys (s.L.filter λp=>!hs.contains p.1)++keys (L1.filter λp=>fp p.2)) p.2=true) (kp:Q (.iC y) ⟨kj,bh++s.L.filter λp=>!hs.contains p.1⟩):ar P n ops (o::rest) s Q:=by
 intro fo m0 w0 m a w st g;have gS:=SL L1;unfold wpListIn;rw[if_pos (by simp[Region.wanted,hg])];have zk:s.L.Perm (L1++s.L.filter λp=>!hs.contains p.1):=by subst hL;exact(aqD _ s.L).symm
 refine UW aP hc he ho.1 zk ho.2.1 (λp hp=>by have h1:=apR.1 ja p hp;rw[<-gS]at h1;exact h1) h ?_ g (λx uI mm v w' hR _ _ _ _ _ _=>by cases hR.1) (λx uI mm ch w' hR nT hinv qn abp cN s6=>?_)
 ·rintro r uI ⟨rfl,rfl⟩;refine⟨λk pL=>?_,λk b ty cs hm=>?_⟩
  ·have:=apR.1 hk k pL;simpa using this
  ·exact SM ho.2.2 hm
 ·obtain⟨e,rfl⟩:=hR;obtain rfl:=AE.iC.inj e;have g':G fo n mm ⟨kj,uI++s.L.filter λp=>!hs.contains p.1⟩ a w':=⟨g.size,λt y hy=>by
   obtain⟨h1,h2⟩:=ia _ hy;obtain⟨q1,q2⟩:=g.fr t y h1;refine⟨q1,(q2.on (λi z hi hz=>abp i z ?_ hz) h2).mono cN s6 (λ_ _ e=>e)⟩;have e:=gS;rw[<-e]at hi;exact hi,hinv,g.defers⟩
  exact .of mm (.iC x) _ kp g' nT (st.trans qn)
theorem ar.ld{o:Oper}{rest:List Oper}{c:Call}{f:FuncId}{args:List V}{L1 bh:aH}{y:V}(hs:List Nat)(aP:o.op= .call c)(h:aE P f args L1 (fun r L=>r= .iC y∧L=bh))(hc:callee s.ev c=some (f,args))(hg:o.guard=none)
  (hd:∀d,o.dst=some d->d<n) (he:enters P f=true) (hL:s.L.filter (λp=>hs.contains p.1)=L1)
  (ho:V.dA (keys L1) args=true/\L1.all (λp=>aV.on (keys L1) p.2)=true/\L1.all (λp=>!fp p.2||bh.any (λq=>q.1==p.1&&(fp q.2&&mV q.2==mV p.2)))=true)
  (ja:(s.L.filter λp=>!hs.contains p.1).all (λp=>aV.on (keys (s.L.filter λp=>!hs.contains p.1)++keys (L1.filter λp=>fp p.2)) p.2)=true)
  (hk:(keys bh).all (λk=>!(keys (s.L.filter λp=>!hs.contains p.1)).contains k)=true)
  (kp:Q (.iC y) ⟨[],bh++s.L.filter λp=>!hs.contains p.1⟩):ar P n ops (o::rest) s Q:=
 ar.Th [] hs aP h hc hg hd he hL ho ja hk (by simp) kp
theorem ar.Ti{o:Oper}{rest:List Oper}{c:Call}{f:FuncId}{args:List V}{L1 bh:aH}{y:V}(hs:List Nat)(aP:o.op= .call c)(h:aE P f args L1 (fun r L=>r= .iC y∧L=bh))(hc:callee s.ev c=some (f,args))(hg:o.guard=none)
  (hd:∀d,o.dst=some d->d<n) (he:enters P f=true) (hL:s.L.filter (λp=>hs.contains p.1)=L1)
  (ho:V.dA (keys L1) args=true/\L1.all (λp=>aV.on (keys L1) p.2)=true/\L1.all (λp=>!fp p.2||bh.any (λq=>q.1==p.1&&(fp q.2&&mV q.2==mV p.2)))=true)
  (ja:(s.L.filter λp=>!hs.contains p.1).all (λp=>aV.on (keys (s.L.filter λp=>!hs.contains p.1)++keys (L1.filter λp=>fp p.2)) p.2)=true)
  (hk:(keys bh).all (λk=>!(keys (s.L.filter λp=>!hs.contains p.1)).contains k)=true)
  (kp:Q (.iC y) ⟨s.fr.filter λp=>V.on (keys (s.L.filter λp=>!hs.contains p.1)++keys (L1.filter λp=>fp p.2)) p.2,bh++s.L.filter λp=>!hs.contains p.1⟩):ar P n ops (o::rest) s Q:=
 ar.Th _ hs aP h hc hg hd he hL ho ja hk (λ_ hp=>aq0.1 hp) kp
theorem aw.named{c}(h:∀Q',Q'=Q->aw P n c s Q'):aw P n c s Q:=h _ rfl
theorem Pk{id j}(h:Q (.exit j) s)(hn:j≠id):AX.inBlock id Q (.exit j) s:=by simp_all
theorem Pl{id}(h:Q .normal s):AX.inBlock id Q (.exit id) s:=by simp_all
theorem Ko{id}(h:Q .ret s):AX.inBlock id Q .ret s:=h
theorem aes{id}(h:Q .normal s):AX.inBlock id Q .normal s:=h
theorem Pm{f j}(h:Q (.exit j) s):AX.then f Q (.exit j) s:=h
theorem Fs{f}(h:f s):AX.then f Q .normal s:=h
theorem Kp{f}(h:Q .ret s):AX.then f Q .ret s:=h
end
section
variable {P : Program} {n : Nat} {Q : AX -> St -> Prop} {ops : Array Oper} {ov : List Nat}
def ah8(P:Program)(ops:Array Oper)(ov:List Nat)(l:List (Oper×Option (Nat×Nat)))(fr:kG)(ks:List (Option Nat))(Ls:List aH)(us:List V)(ds:List Le)(Q:AX->St->Prop):Prop:=
 vZ P ops ov l fr ks Ls us ds (λfr ks Ls=>∀bs,Q .normal (St.vC bs ⟨dc ks ks.length fr,Ls.getD ks.length []⟩)) (λy L'=>∀bs,Q (.iC y) (St.vC bs ⟨[],L'⟩))
def Vx(P:Program)(ops:Array Oper)(ov:List Nat):List (Oper×Option (Nat×Nat))->kG->List (Option Nat)->List aH->List V->List Le->(AX->St->Prop)->Prop
 | [],fr,ks,Ls,_,ds,Q=>BC P ops ks Ls ds/\∀bs,Q .normal (St.vC bs ⟨dc ks ks.length fr,Ls.getD ks.length []⟩)
 | (o,none)::rest,fr,ks,Ls,us,ds,Q=>
   match(if ov.any (λt=>o.dst==some t)then none else lv P ops ⟨dc ks ks.length fr,Ls.getD ks.length []⟩ o)with
   | some (x,k,L',c)=>c/\Vx P ops ov rest (gZ fr o.dst (ks.length+1) x) (ks++ [k]) (Ls++ [L']) us ds Q
   | none=>ah8 P ops ov ((o,none)::rest) fr ks Ls us ds Q
 | (o,some (lo,hi))::rest,fr,ks,Ls,us,ds,Q=>
   if rT o then
    match us with
    | []=>False
    | u::kZ=>match cv P ops ⟨dc ks ks.length fr,Ls.getD ks.length []⟩ o u with
      | some (x,c)=>c∧pD (ks.length-lo) lo (fun p=>x9 P ops o ⟨dc ks p fr,Ls.getD p []⟩ x (some u))∧
        Vx P ops ov rest (gZ fr o.dst lo x) ks Ls kZ (if ks.length<hi then⟨o,fr,x,ks.length,hi,some u⟩::ds else ds) Q
      | none=>False
   else
    match qv P ops ⟨dc ks ks.length fr,Ls.getD ks.length []⟩ o with
    | some (x,c)=>c∧pD (ks.length-lo) lo (fun p=>x9 P ops o ⟨dc ks p fr,Ls.getD p []⟩ x none)∧
      Vx P ops ov rest (gZ fr o.dst lo x) ks Ls us (if ks.length<hi then⟨o,fr,x,ks.length,hi,none⟩::ds else ds) Q
    | none=>False
theorem cC{L1 bh:aH}(h:L1.all (λp=>!fp p.2||bh.any (λq=>q.1==p.1&&(fp q.2&&mV q.2==mV p.2)))=true):∀k b ty cs,(k,aV.box (b+1) ty cs)∈L1->∃mw jL,(k,aV.box (b+1) mw jL)∈bh:=by
 intro k b ty cs hm;have:=apR.1 h _ hm;simp at this;grind[mV,Option.some.injEq]
attribute [simp] Vx
end
section
variable {P : Program} {n : Nat} {Q : AX -> St -> Prop}
def Po(ov:List Nat)(o:Oper):Bool:=rT o||ov.any (λt=>o.dst==some t)
def tv(P:Program)(ops:Array Oper)(s:St)(o:Oper)(u:V):Option (V×Prop):=if rT o then cv P ops s o u else some (u,rU P ops o s u)
theorem Pp{ops s o u x c}(h:tv P ops s o u=some (x,c))(hc:c):rU P ops o s x:=by
 unfold tv at h;split at h
 ·exact G3 h hc
 grind
def LP(P:Program)(ops:Array Oper)(o:Oper)(s:St)(x:V):Option V->Prop
 | some u=>match tv P ops s o u with
   | some (x',c)=>x'=x/\c
   | none=>False
 | none=>match qv P ops s o with
   | some (x',c)=>x'=x/\c
   | none=>False
theorem LQ{ops s o x t}(h:LP P ops o s x t):rU P ops o s x:=by
 cases t with
 | some u=>
   simp only[LP]at h;split at h
   ·rename_i x' c hc;obtain⟨rfl,h⟩:=h;exact Pp hc h
   grind
 | none=>
   simp only[LP]at h;split at h
   ·rename_i x' c hc;obtain⟨rfl,h⟩:=h;exact BA hc h
   grind
def B9(P:Program)(ops:Array Oper)(ks:List (Option Nat))(Ls:List aH):List Le->Prop
 | []=>True
 | d::ds=>pD (d.hi-d.lo) (d.lo+1) (λp=>LP P ops d.o ⟨dc ks p d.fr,Ls.getD p []⟩ d.x d.told)/\B9 P ops ks Ls ds
def aj8(P:Program)(ops:Array Oper)(o:Oper)(s:St)(K:V->Option Nat->aH->Prop):Prop:=∃x k L',(∀n,fK P n ops o s.fr s.L k x L')/\K x k L'
def runT(P:Program)(ops:Array Oper)(ov:List Nat):List (Oper×Option (Nat×Nat))->kG->List (Option Nat)->List aH->List V->List Le->(kG->List (Option Nat)->List aH->Prop)->Prop
 | [],fr,ks,Ls,_,ds,K=>B9 P ops ks Ls ds/\K fr ks Ls
 | (o,none)::rest,fr,ks,Ls,us,ds,K=>
   match lv P ops ⟨dc ks ks.length fr,Ls.getD ks.length []⟩ o with
   | some (x,k,L',c)=>c/\runT P ops ov rest (gZ fr o.dst (ks.length+1) x) (ks++ [k]) (Ls++ [L']) us ds K
   | none=>aj8 P ops o ⟨dc ks ks.length fr,Ls.getD ks.length []⟩ λx k L'=>runT P ops ov rest (gZ fr o.dst (ks.length+1) x) (ks++ [k]) (Ls++ [L']) us ds K
 | (o,some (lo,hi))::rest,fr,ks,Ls,us,ds,K=>
   if Po ov o then
    match us with
    | []=>False
    | u::kZ=>match tv P ops ⟨dc ks ks.length fr,Ls.getD ks.length []⟩ o u with
      | some (x,c)=>c∧pD (ks.length-lo) lo (fun p=>LP P ops o ⟨dc ks p fr,Ls.getD p []⟩ x (some u))∧
        runT P ops ov rest (gZ fr o.dst lo x) ks Ls kZ (if ks.length<hi then⟨o,fr,x,ks.length,hi,some u⟩::ds else ds) K
      | none=>False
   else
    match qv P ops ⟨dc ks ks.length fr,Ls.getD ks.length []⟩ o with
    | some (x,c)=>c∧pD (ks.length-lo) lo (fun p=>LP P ops o ⟨dc ks p fr,Ls.getD p []⟩ x none)∧
      runT P ops ov rest (gZ fr o.dst lo x) ks Ls us (if ks.length<hi then⟨o,fr,x,ks.length,hi,none⟩::ds else ds) K
    | none=>False
theorem Kq{ops}{ov}{K}:∀l fr ks Ls us ds,Ls.length=ks.length+1→runT P ops ov l fr ks Ls us ds K→
  ∃tr jO jP lX,pT l fr ks.length tr jO (ks++jP).length/\(∀(i:Nat) r z,tr[i]?=some r->l[i]?=some z->G1 P n ops (ks++jP) (λp=>(Ls++lX).getD p []) r z.1)/\
   B9 P ops (ks++jP) (Ls++lX) ds/\K jO (ks++jP) (Ls++lX)
 | [],fr,ks,Ls,us,ds,hl,h=>by
   refine⟨[],fr,[],[],?_,by simp,?_,?_⟩
   ·simp only[aqp];exact .nil fr ks.length
   ·simpa using h.1
   ·simpa using h.2
 | (o,none)::rest,fr,ks,Ls,us,ds,hl,h=>by
   have key:∀(x:V) (k:Option Nat) (L':aH),fK P n ops o (dc ks ks.length fr) (Ls.getD ks.length []) k x L'→runT P ops ov rest (gZ fr o.dst (ks.length+1) x) (ks++ [k]) (Ls++ [L']) us ds K→
     ∃tr jO jP lX,pT ((o,none)::rest) fr ks.length tr jO (ks++jP).length/\(∀(i:Nat) (r:Rec) (z:Oper×Option (Nat×Nat)),tr[i]?=some r->((o,none)::rest)[i]?=some z->G1 P n ops (ks++jP) (λp=>(Ls++lX).getD p []) r z.1)/\
      B9 P ops (ks++jP) (Ls++lX) ds/\K jO (ks++jP) (Ls++lX):=by
    intro x k L' Oq hr;obtain⟨tr,jO,jP,lX,h1,h2,h3,h4⟩:=Kq rest _ _ _ us ds (by grind) hr;rw[ap0]at h1 h3 h4;simp only[ap0,apX,apY,aqj]at h1 h2 h3 h4;refine⟨⟨fr,x,0,0,true,ks.length⟩::tr,jO,_,_,.lS (by grind),?_,h3,h4⟩;intro i r z hi hz;cases i with
    | zero=>
      simp only[aqk,akC]at hi hz;subst hi;subst hz;refine⟨λ_=>⟨by simp,?_⟩,(λh=>by cases h)⟩;simp only;rw[uJ (apU _),uK (by omega)];grind
    | succ i=>grind
   rw[runT]at h;split at h
   ·rename_i x k L' c bx;exact key x k L' (fK.of (n:=n) bx h.1) h.2
   ·obtain⟨x,k,L',Oq,hr⟩:=h;grind
 | (o,some (lo,hi))::rest,fr,ks,Ls,us,ds,hl,h=>by
   have key:∀(x:V) (t:Option V) (kZ:List V),rU P ops o ⟨dc ks ks.length fr,Ls.getD ks.length []⟩ x→pD (ks.length-lo) lo (fun p=>LP P ops o ⟨dc ks p fr,Ls.getD p []⟩ x t)→
     runT P ops ov rest (gZ fr o.dst lo x) ks Ls kZ (if ks.length<hi then⟨o,fr,x,ks.length,hi,t⟩::ds else ds) K->
     ∃tr jO jP lX,pT ((o,some (lo,hi))::rest) fr ks.length tr jO (ks++jP).length/\(∀(i:Nat) (r:Rec) (z:Oper×Option (Nat×Nat)),tr[i]?=some r->((o,some (lo,hi))::rest)[i]?=some z->G1 P n ops (ks++jP) (λp=>(Ls++lX).getD p []) r z.1)/\
      B9 P ops (ks++jP) (Ls++lX) ds/\K jO (ks++jP) (Ls++lX):=by
    intro x t kZ hc ha hr;obtain⟨tr,jO,jP,lX,h1,h2,h3,h4⟩:=Kq rest _ _ _ kZ _ hl hr;have Xw:B9 P ops (ks++jP) (Ls++lX) ds:=by
     split at h3
     ·exact h3.2
     omega
    refine⟨⟨fr,x,lo,hi,false,ks.length⟩::tr,jO,jP,lX,.quiet h1,?_,Xw,h4⟩;intro i r z ck hz;cases i with
    | zero=>
      simp only[aqk,akC]at ck hz;subst ck;subst hz;refine⟨(λh=>by cases h),λ_ p nz qi=>?_⟩;simp only at nz qi⊢;rcases Nat.lt_trichotomy p ks.length with ay|heq|hgt
      ·grind[uJ,uK,LQ,AJ]
      ·grind[uJ,uK]
      ·rw[if_pos (by omega)]at h3;exact LQ (AJ h3.1 p (by grind) (by grind))
    | succ i=>grind
   cases pR:Po ov o with
   | true=>
     cases us with
     | nil=>simp_all[runT,if_pos]
     | cons u kZ=>
       rw[runT,if_pos pR]at h;split at h
       ·rename_i x c hcv;exact key x (some u) kZ (Pp hcv h.1) h.2.1 h.2.2
       grind
   | false=>
     rw[runT.eq_def]at h;simp only[pR,aqq,if_false]at h;split at h
     ·rename_i x c hqv;exact key x none us (BA hqv h.1) h.2.1 h.2.2
     grind
theorem aw.abM{id}{l}{s} rg ov us(hm:P.follows .mixedOrders=true)(ok:Ld n l rg=true)
  (h:runT P l.toArray ov (l.zip rg) (s.fr.map λe=>(e.1,0,e.2)) [] [s.L] us [] (λfr ks Ls=>Q .normal ⟨dc ks ks.length fr,Ls.getD ks.length []⟩)):aw P n (.region id l.toArray true) s Q:=by
 intro fo m a w _ g;obtain⟨tr,jO,ks,Ls,h1,h2,-,h4⟩:=Kq (l.zip rg) _ [] [s.L] us [] rfl h;exact wpIn_region_any hm (Bz ok h1 h2 rfl h4 g _)
theorem aw.Sw{id}{l}{s} rg ov us(hm:P.follows .mixedOrders=true)(ok:Ld n l rg=true)
  (h:runT P l.toArray ov (l.zip rg) (s.fr.map λe=>(e.1,0,e.2)) [] [s.L] us [] (λfr ks Ls=>∀bs,Q .normal (St.vC bs ⟨dc ks ks.length fr,Ls.getD ks.length []⟩))):aw P n (.region id l.toArray true) s Q:=
 aw.opened (aw.abM rg ov us hm ok h)
attribute [simp] runT tv LP B9 Po
end
section
variable {P : Program} {n : Nat}
theorem Ej:∀(l:List Nat) x,x∈l->x<=l.foldr max 0
 | [],_,h=>by cases h
 | y::l,x,h=>by
   rcases ap8.1 h with rfl|h
   ·grind
   ·have:=Ej l x h;grind
theorem Ek{ops}{o}{s}{ys}{ty}{k}(hg:o.guard=none)
  (h:∀fo m (ρ:Operand->Value) w,Inv fo m s.L w->(∀z,z∈o.op.operands->az w (OO fo m) m (ρ z) (s.ev z))->
   ∃v w',(execOp ρ o).run P w= .ok (.value v) w'/\hZ w w'/\(eX w' (OO fo m) v (.sl ys)\/
    ((∀b,df v b->w.heap.size<=b)/\∀h,h∉keys s.L->(aV.row ty k (dd ys)).Holds w' (OO fo (eZ m h v)) (eZ m h v) v))):rU P ops o s (.d (.sl ys)):=by
 intro fo m a w hi hs next Q' kk
 rw[if_pos (by simp[Region.wanted,hg])];obtain⟨v,w',bq,gr,Se⟩:=h fo m a.eval w hi (λz hz=>vU hi.ef (λt ht=>hs t (kT (by grind))));refine xl bq (.inl rfl) (kk v w' ?_ (hi.grown gr.size gr.block) ⟨gr.os,gr.tape,gr.output,gr.size,λb hb _=>gr.block b hb,λb _ h=>h⟩);rcases Se with hd|⟨hb,hh⟩
 ·exact .d _ _ hd
 ·have hn:(keys s.L).foldr max 0+1∉keys s.L:=λhm=>by have:=Ej _ _ hm;omega
  have ck:=hi.new hn gr.size gr.block hb (hh _ hn);refine .d _ _ (Lh (ty:=ty) (k:=k) ck (by simp) (cn _ _) (λb ho=>?_) (λb hv ho=>?_))
  ·rcases ho with⟨i,x,hx,gS⟩|hf
   ·exact .inl ⟨i,x,ss hi hn v i x hx,gS⟩
   ·exact .inr hf
  ·have h1:=hb b hv;rcases ho with⟨i,x,hx,gS⟩|hf
   ·have:=hi.lt hx gS;omega
   ·have:=hi.ei b hf;omega
theorem Gg{ops:Array Oper}{dst:Option Tmp}{t t2:TypeId}{so xo:Operand}{ty:TypeId}{pos:String}{after:Array Edge}{k by_:Nat}{e:TypeId}{z:List Value}{s:St}{ys:List (List D)}
  (ht:kQ P t=some (e,k,by_,z)) (rO:se P t2=true) (hs:s.ev so= .kn (λv=>∃ao,v= .slice ao 0 0)) (hx:GJ s.L (s.ev xo)=some (dd ys)) (hk:0<k/\0<by_) (vt:∀y∈ys,y.length=k)
  (hb:ys.length *by_<=140737488355328):
  rU P ops ⟨dst,.call {callee:= .builtin .append,args:= #[so,xo],argTypes:= #[t,t2]},ty,pos,after,none⟩ s (.d (.sl ys)):=by
 refine Ek (ty:=e) (k:=k) rfl ?_;intro fo m ρ w hi hr;obtain⟨i,zv,hu,Tj,hz,lj,vq,og,wo,kP⟩:=oe ht;obtain⟨d2,nM,kB⟩:=Bj rO;have lQ:=hr so (by simp[Op.operands,Call.operands]);rw[hs]at lQ;obtain⟨ao,xR⟩:∃ao,ρ so= .slice ao 0 0:=XO lQ;have wq:=hr xo (by simp[Op.operands,Call.operands]);have agu:∀y∈dd ys,y.length=k:=by
  intro y hy;obtain⟨q,hq,rfl⟩:=apV.1 hy;rw[aqg];exact vt q hq
 obtain⟨news,src,FM⟩:=Bi (P:=P) hi wq hx hk.1 agu;have hlen:(dd ys).length=ys.length:=by simp[dd]
 have FK:(dd ys).length<=maxLen:=by rw[hlen];exact Da hk.2 hb
 have jG:∀{v':Value} {w':World},(Builtin.append_ #[t,t2] ty #[ρ so,ρ xo]).run P w= .ok v' w'→
   (execOp ρ ⟨dst,.call {callee:= .builtin .append,args:= #[so,xo],argTypes:= #[t,t2]},ty,pos,after,none⟩).run P w= .ok (.value v') w':=by
  intro v' w' hr;simp[execOp,resolve,invoke,builtin,hr]
 by_cases ry:dd ys=[]
 ·rw[ry]at src;have As:news=[]:=aqH (by simpa using src.len);subst As;have bq:(Builtin.append_ #[t,t2] ty #[ρ so,ρ xo]).run P w= .ok (.slice ao 0 0) w:=by
   obtain⟨q1,q2⟩:=src.run w rfl;simp only[aqj]at q1 q2;rw[xR];rcases kB with⟨e2,rfl⟩|rfl<;>cases ao<;>simp[Builtin.append_,run_underlying hu,run_underlying nM,sizeOf,typeInfo,Tj,lj,q1,q2,storeCells]
  have hy:ys=[]:=by simpa[dd]using ry
  subst hy;exact⟨_,w,jG bq,hZ.refl w,.inl (.sl ao 0 0 [] 0 0 0 (λ_ _=>undef) rfl (by omega) (by simp[maxLen]) (by omega) (by simp) (by omega) (by simp))⟩
 ·have iX:=aqz.2 ry;have bq:=su (P:=P) (ty:=ty) (ao:=ao) (sLen:=0) (sCap:=0) (olds:=[]) hu nM kB Tj lj hz src Src.empty (by omega) (by simp only[maxLen]at FK;omega) (by rw[vq];exact growslice_fits (by omega) (by rw[hlen];simpa using hb));have bR:=grownCap_ge w (0+(dd ys).length) 0 e;have vr:=grownCap_le_maxLen w (0+(dd ys).length) 0 e (by omega);have yV:∀b,df (.slice (some ⟨w.heap.size,0,none⟩) (0+(dd ys).length) (grownCap w (0+(dd ys).length) 0 e)) b->w.heap.size<=b:=by
   intro b hb;simp[df,jU]at hb;omega
  have rN:hZ w (w.drew.alloc (.cells (#[]++news.toArray++Builtin.zeroCells zv.cells (grownCap w (0+(dd ys).length) 0 e-(0+(dd ys).length))) e)):=by
   have:=hZ.alloc w.drew (.cells (#[]++news.toArray++Builtin.zeroCells zv.cells (grownCap w (0+(dd ys).length) 0 e-(0+(dd ys).length))) e);exact⟨this.os,this.tape,this.output,this.size,this.block⟩
  rw [←xR]at bq;refine⟨_,_,jG bq,rN,.inr ⟨yV,fun h hn=>?_⟩⟩;have:=zQ (w:=w) (O:=OO fo m) (m:=m) (e:=e) (k:=k) (zv:=zv) (z:=z) (olds:=[]) (news:=news) (xs:=[]) (ys:=dd ys) (cap:=grownCap w (0+(dd ys).length) 0 e) og wo kP hk.1 (by simp) src.len (by simp) src.one (by simp) agu
    (by simp) FM (by simpa using bR) vr (w0:=w) (fr:=w.drew.alloc (.cells (#[]++news.toArray++Builtin.zeroCells zv.cells (grownCap w (0+(dd ys).length) 0 e-(0+(dd ys).length))) e))
    (heap_alloc_new w.drew (.cells (#[]++news.toArray++Builtin.zeroCells zv.cells (grownCap w (0+(dd ys).length) 0 e-(0+(dd ys).length))) e))
    (O':=OO fo (eZ m h (.slice (some ⟨w.heap.size,0,none⟩) (0+(dd ys).length) (grownCap w (0+(dd ys).length) 0 e)))) (m':=eZ m h (.slice (some ⟨w.heap.size,0,none⟩) (0+(dd ys).length) (grownCap w (0+(dd ys).length) 0 e)))
    (λu c hu=>az.mono (w:=w) (O:=OO fo m) ⟨rN.size,λb hb _=>rN.block b hb⟩ (C5 hi yV) (ss hi hn _) hu)
  simpa using this
theorem Vy{ops}{dst}{t}{ty}{pos}{after}{k by_}{e}{z}{s}(ht:kQ P t=some (e,k,by_,z)):
  rU P ops ⟨dst,.buildSlice t 0 #[],ty,pos,after,none⟩ s (.kn (λv=>∃ao,v= .slice ao 0 0)):=by
 intro fo m a w hi hs next Q' kk
 obtain⟨i,zv,hu,Tj,hz,lj,vq,og,wo,kP⟩:=oe ht;have gr:=hZ.alloc w (.cells #[] e);have bq:(execOp a.eval ⟨dst,.buildSlice t 0 #[],ty,pos,after,none⟩).run P w= .ok (.value (.slice (some ⟨w.heap.size,0,none⟩) 0 0)) (w.alloc (.cells #[] e)):=by
  have ID:Instr.fill (λi=>some (i *k,k)) #[] []=some #[]:=rfl;simp[execOp,Instr.buildSlice,run_underlying hu,sizeOf,typeInfo,Tj,lj,newRow,ID,Array.range_zero']
 exact xl bq (.inl rfl) (kk _ _ (.kn _ _ ⟨_,rfl⟩) (hi.grown gr.size gr.block) ⟨gr.os,gr.tape,gr.output,gr.size,λb hb _=>gr.block b hb,λb _ h=>h⟩)
theorem Dx{ops}{dst}{t}{len}{ps}{ty}{pos}{after}{k by_}{e}{z}{r}{c}{s}{ys}
  (ht:kQ P t=some (e,k,by_,z)) (hk:0<k) (hlen:len *k<=2^24)
  (hf:tI (λi=>some (i *k,k)) (List.replicate len (z.map λx=>V.d (.v x))).flatten (ps.toList.map λp=>(p.1,s.ev p.2))=some (r,c)) (hc:c)
  (yU:r=(dd ys).flatten) (Ar:ys.length=len) (qd:∀x∈ys,x.length=k):rU P ops ⟨dst,.buildSlice t len ps,ty,pos,after,none⟩ s (.d (.sl ys)):=by
 refine Ek (ty:=e) (k:=k) rfl ?_;intro fo m ρ w hi hr;obtain⟨v,w',h1,h2,h3,-,h5⟩:=Aq (dst:=dst) (ty:=ty) (pos:=pos) (after:=after) (guard:=none) ht hk hlen hf hc yU (by simp_all) (by simp_all) hi hr;grind
theorem abN{ops}{dst}{t}{lo co}{ty}{pos}{after}{k by_}{e}{z}{kl kc}{l c}{s:St}
  (ht:kQ P t=some (e,k,by_,z)) (hl:s.ev lo= .d (.v (.int kl l))) (hc:s.ev co= .d (.v (.int kc c))) (hk:0<k)
  (h0:0<=l/\l<=c) (hb:c<=maxLen/\by_ *c.toNat<=140737488355328):
  rU P ops ⟨dst,.makeSlice t lo co,ty,pos,after,none⟩ s (.d (.sl (List.replicate l.toNat (z.map D.v)))):=by
 refine Ek (ty:=e) (k:=k) rfl ?_;intro fo m ρ w hi hr;obtain⟨i,zv,hu,Tj,hz,lj,vq,og,wo,kP⟩:=oe ht;have sU:=hr lo (by simp);have Xo:=hr co (by simp);rw[hl]at sU;rw[hc]at Xo;have vr:c.toNat<=maxLen:=by omega
 have de:(i.bytes:Int) *c<=281474976710656:=by
  grind
 have bq:=run_make (P:=P) w t e i zv hu Tj hz kl kc l c h0.1 h0.2 de (by simp_all[maxLen]);rw[lj]at bq;have hx:∀b,df (.slice (some ⟨w.heap.size,0,none⟩) l.toNat c.toNat) b->w.heap.size<=b:=by simp[df,jU]
 refine⟨_,_,?_,hZ.alloc w (.cells (madeCells zv.cells (c.toNat *k)) e),.inr ⟨hx,λh hn=>?_⟩⟩
 ·simp[execOp,sU.cq,Xo.cq,bq]
 ·have vB:dd (List.replicate l.toNat (z.map D.v))=List.replicate l.toNat (z.map λx=>V.d (.v x)):=by simp[dd]
  rw[vB];refine .inr ⟨w.heap.size,0,c.toNat,madeCells zv.cells (c.toNat *k),by simp,heap_alloc_new w _,by grind,vr,by simp[madeCells],?_,?_,?_⟩
  ·grind
  ·intro j u Ap;have hj:j<c.toNat *k:=by grind[Array.getElem?_eq_some_iff,madeCells]
   rw[oV wo hk hj]at Ap;grind
  ·intro p q x y u cy hy Ap;have hp:=(apQ.1 cy).1;simp at hp;have:=apT cy;rw[List.mem_replicate]at this;obtain⟨_,rfl⟩:=this;have hq:q<k:=by grind
   have hpc:(p+1) *k<=c.toNat *k:=aqb _ (by omega);rw[aqV,ark]at hpc;rw[aqB,oV wo hk (by omega),Nat.mul_comm p k,Nat.mul_add_mod,arF hq]at Ap;grind[uC]
end
def D.deep:Nat->D->D
 | 0,x=>x.nn
 | k+1,.sl ys=> .sl (ys.map (·.map (D.deep k)))
 | _+1,x=>x.nn
theorem eX.deep{w:World}{O:Nat->Prop}:∀(k:Nat) {x:Value} {y:D},eX w O x y->eX w O x (y.deep k)
 | 0,x,y,h=>h.nn
 | k+1,x,.v z,h=>by rw[D.deep];exact h.nn;simp
 | k+1,x,.uu t a cs,h=>by rw[D.deep];exact h.nn;simp
 | k+1,x,.sl ys,h=>by
   rw[D.deep];cases h with
   | sl a n cap xs k' b off f hn lN pA ha hk hc hr=>
     refine .sl a n cap _ k' b off f (by simpa using hn) lN pA ha ?_ hc ?_
     ·intro i x hx;rw[apS]at hx;obtain⟨z,hz,rfl⟩:=apN.1 hx;rw[aqg];exact hk i z hz
     ·intro i j x y hx hy;rw[apS]at hx;obtain⟨z,hz,rfl⟩:=apN.1 hx;rw[apS]at hy;obtain⟨u,hu,rfl⟩:=apN.1 hy;exact(hr i j z u hz hu).deep k
def V.Ca(k:Nat):V->V
 | .d y=> .d (y.deep k)
 | v=>v
def V.deep(k:Nat):V->V
 | .d y=> .d (y.deep k)
 | .agg cs=> .agg (cs.map (V.Ca k))
 | v=>v
theorem az.Ca{w:World}{O:Nat->Prop}{m:Nat->Option Value}(k:Nat){x:Value}{y:V}(h:az w O m x y):az w O m x (y.Ca k):=by
 unfold V.Ca;split
 ·exact .d _ _ (h.lg.deep k)
 ·exact h
theorem az.deep{w:World}{O:Nat->Prop}{m:Nat->Option Value}(k:Nat){x:Value}{y:V}(h:az w O m x y):az w O m x (y.deep k):=by
 unfold V.deep;split
 ·exact .d _ _ (h.lg.deep k)
 ·cases h with
  | agg vs cs hs h1 h=>
    refine .agg vs _ (by simpa using hs) h1 ?_;intro j x y hx hy;rw[apS]at hy;obtain⟨z,hz,rfl⟩:=apN.1 hy;exact(h j x z hx hz).Ca k
 ·exact h
theorem aE.deep(k:Nat){P:Program}{f:FuncId}{args mj:List V}{L:aH}{R:AE->aH->Prop}(h:aE P f mj L R)(ha:args.map (V.deep k)=mj):aE P f args L R:=by
 intro fo m w xs hi hx;refine h fo m w xs hi ⟨by rw[hx.1,<-ha,aqg],?_⟩;intro j x y h1 h2;rw[<-ha,apS]at h2;obtain⟨z,hz,rfl⟩:=apN.1 h2;exact(hx.2 j x z h1 hz).deep k
theorem Pure.deep(k:Nat){P:Program}{f:FuncId}{args mj:List V}{x:V}(h:Pure P f mj x)(ha:args.map (V.deep k)=mj)(ho:V.dA [] args=true):Pure P f args x:=
 ⟨h.en,ho,h.rn,h.calls.deep k ha⟩
def aV.deep(k:Nat):aV->aV
 | .box b t cs=> .box b t (cs.map (V.Ca k))
 | r=>r
def St.deep(k:Nat)(s:St):St:=⟨s.fr.map λp=>(p.1,p.2.deep k),s.L.map λp=>(p.1,p.2.deep k)⟩
theorem Wk.deep(k:Nat){n:Nat}{s s':St}(h:s.deep k=s'):Wk n s s':=by
 subst h;intro fo m a w g;have hi:=g.inv;have hk:keys (St.deep k s).L=keys s.L:=by simp[keys,St.deep,asc]
 refine⟨m,⟨g.size,?_,⟨by rw[hk];exact hi.nodup,λh x hx=>by rw[hk];exact hi.fI h x hx,hi.apart,hi.others,hi.ei,?_,hi.ef⟩,g.defers⟩,Step.refl w _⟩
 ·intro t x hx;obtain⟨p,hp,he⟩:=apV.1 hx;simp only[apM]at he;obtain⟨rfl,rfl⟩:=he;obtain⟨h1,h2⟩:=g.fr p.1 p.2 hp;exact⟨h1,h2.deep k⟩
 ·intro h r hr;obtain⟨p,hp,he⟩:=apV.1 hr;simp only[apM]at he;obtain⟨rfl,rfl⟩:=he;obtain⟨x,hx,hh⟩:=hi.holds p.1 p.2 hp;refine⟨x,hx,?_⟩;generalize p.2=q at hh;cases q with
  | row ty k xs=>exact hh
  | env A=>exact hh
  | mp es=>exact hh
  | box b ty cs=>
    obtain⟨bb,h0,cur,e,hb,hs,h1,h2⟩:=hh;refine⟨bb,h0,cur,e,hb,by simpa using hs,?_,?_⟩
    ·exact h1
    ·intro j v z hv hz;rw[apS]at hz;obtain⟨y,hy,rfl⟩:=apN.1 hz;exact(h2 j v y hv hy).Ca k
abbrev du(l:List ae):V:= .d (.sl (l.map ae.enc))
def Pq(l:List ae)(k:Int):Int:=if k<0\/(l.length:Int)<=k then 0 else(l[k.toNat]?.getD ae.zero).Op
theorem AU(l:List ae)(hl:l.length<=1000000000000)(k:Int):Pure prog 268 [du l,iD k] (iD (Pq l k)):=by
 unfold Pq;refine rn func268 ?_;simp[-cB,f268]
 repeat' (first
  | (with_reducible refine And.intro ?_ ?_)
  | (refine aA (λh=>?_) (λh=>?_)<;>(try simp at h)<;>(try simp[-cB, *]))
  | (with_reducible intro _))
 all_goals (try omega)
theorem qG(l:List ae)(hl:l.length<=1000000000000)(k n:Nat)(hk:k+n<=l.length)(x:List ae)(hx:x.length<=1000000000000):Pure prog 270 [du l,iD k,iD n,du x] (du (il l k n x)):=by
 unfold il;refine rn func270 ?_;simp[-cB,f270];have e:((k:Int)+n).toNat=k+n:=by omega
 rw[e,aR];refine⟨by omega,⟨λy hy=>?_,by omega⟩,by omega,by omega,by omega,⟨λy hy=>?_,by omega⟩,?_⟩
 ·obtain⟨z,_,rfl⟩:=apV.1 (aqQ hy);rfl
 ·obtain⟨z,_,rfl⟩:=apV.1 (aqQ (List.mem_of_mem_drop hy));rfl
 ·rw[List.take_of_length_le (by simp)]
theorem tn(n:Int):Pure prog 289 [iD n] (du (jJ n)):=by
 unfold jJ;refine rn func289 ?_;simp[-cB,f289]
 repeat' (first
  | (with_reducible refine And.intro ?_ ?_)
  | ((first|(refine aA (λh=>?_) (λh=>?_)<;>(try simp at h))|refine pC (bB _) ?_|refine lC (bB _) ?_|refine pG (bB _) ?_)<;>(try simp[-cB, *]))
  | (with_reducible intro _))
 rfl
theorem Kr(l:List ae)(k j:Nat):Pq l ((k:Int)+j)=cr (l.drop k) j:=by
 unfold Pq cr;rw[aqO];by_cases h:k+j<l.length
 ·rw[if_neg (by omega),show((k:Int)+j).toNat=k+j by omega,anc h];rfl
 ·rw[if_pos (by omega),aqL (by omega)];rfl
theorem Ft(l:List ae)(k:Nat):Pq l k=cr (l.drop k) 0:=by have:=Kr l k 0;simpa using this
theorem adn(l:List ae)(k:Nat):Pq l ((k:Int)+1)=cr (l.drop k) 1:=Kr l k 1
theorem ado(l:List ae)(k:Nat):Pq l ((k:Int)+2)=cr (l.drop k) 2:=Kr l k 2
theorem vM{l:List ae}{k j:Nat}(h:cr (l.drop k) j≠0):k+j<l.length:=by
 unfold cr at h;rw[aqO]at h;by_cases h2:k+j<l.length
 ·exact h2
 ·rw[aqL (by omega)]at h;exact(h rfl).elim
theorem jr(l:List ae)(k j:Nat):(l[k+j]?.getD ae.zero).Arg=bg (l.drop k) j:=by
 unfold bg;rw[aqO];cases l[k+j]?<;>rfl
def eF(l:List ae)(o:Option (List ae)):V:= .bM [du (o.getD l),oD o.isSome]
def vf(l:List ae)(k:Nat):Option (List ae):=(nI (l.drop k)).map λy=>il l k y.1 y.2
set_option maxHeartbeats 2000000 in
theorem MP(l:List ae)(hl:l.length<=100000000000)(k:Nat)(hk:k<=l.length):Pure prog 265 [du l,iD k] (eF l (vf l k)):=by
 have dx:=λn=>AU l (by omega) n
 have e0:=Ft l k;have e1:=adn l k;have e2:=ado l k;have a0:=jr l k 0;have a1:=jr l k 1;have a2:=jr l k 2;have l0:=vM (l:=l) (k:=k) (j:=0);have l1:=vM (l:=l) (k:=k) (j:=1);have l2:=vM (l:=l) (k:=k) (j:=2);have hb:=(Yw ai.zero (bg (l.drop k) 2) (bg (l.drop k) 0) (bg (l.drop k) 1)).deep 0 (args:=[.agg [.d (.v (.slice none 0 0)),.d (.v (.slice none 0 0)),.d (.v (.slice none 0 0)),.d (.v (.slice none 0 0)),.d (.v (.slice none 0 0)),.d (.v (.slice none 0 0)),.d (.v (.slice none 0 0)),.d (.v (.int .u64 0)),iD 0,iD 0,iD 0,iD 0,iD 0],iD (bg (l.drop k) 2),iD (bg (l.drop k) 0),iD (bg (l.drop k) 1)]) (by rfl) (by rfl);have b0:∀h:k<l.length,(l[k]'h).Arg=bg (l.drop k) 0:=λh=>by rw[<-jr l k 0];simp[h]
 have b1:∀h:k+1<l.length,(l[k+1]'h).Arg=bg (l.drop k) 1:=λh=>by rw[<-jr l k 1];simp[h]
 have b2:∀h:k+2<l.length,(l[k+2]'h).Arg=bg (l.drop k) 2:=λh=>by rw[<-jr l k 2];simp[h]
 obtain⟨R,hR⟩:∃R,eF l (vf l k)=R:=⟨_,rfl⟩
 have v8:V.on [] R=true:=by rw[<-hR];rfl
 rw[hR];obtain⟨p,hp⟩:∃p,iK ai.zero (bg (l.drop k) 2) (bg (l.drop k) 0) (bg (l.drop k) 1)=p:=⟨_,rfl⟩
 rw[hp]at hb;unfold gW at hb;simp only[aqS]at a0 l0;have c1:((k:Int)+1).toNat=k+1:=by omega
 have c2:((k:Int)+2).toNat=k+2:=by omega
 have i1:aN .i64 ((k:Int)+1):=iW;have i2:aN .i64 ((k:Int)+2):=iW;have Xe:∀x:List ae,x.length<=1000->k+3<=l.length->Pure prog 270 [du l,iD k,iD 3,du x] (du (il l k 3 x)):=λx hx h=>qG l (by omega) k 3 h x (by omega)
 have rM:∀x:List ae,x.length<=1000->k+2<=l.length->Pure prog 270 [du l,iD k,iD 2,du x] (du (il l k 2 x)):=λx hx h=>qG l (by omega) k 2 h x (by omega)
 refine Pure.run func265 rfl (by simp[f265,v8]) ?_;simp[-cB,f265,v8]
 repeat' (first
  | (with_reducible refine And.intro ?_ ?_)
  | ((first|(refine aA (λh=>?_) (λh=>?_)<;>(try simp at h))|refine pC (dx _) ?_|refine pC (tn _) ?_|refine pC (s9 _) ?_|refine pC (ti _) ?_|refine pC (rM _ ?_ ?_) ?_|refine lC (dx _) ?_|refine lC (tn _) ?_|refine lC (s9 _) ?_|refine lC (ti _) ?_|refine lC (rM _ ?_ ?_) ?_|refine pG (dx _) ?_|refine pG (tn _) ?_|refine pG (s9 _) ?_|refine pG (ti _) ?_|refine pGh (λh=>rM _ ?_ ?_) ?_)<;>(try simp[-cB, *]))
  | (with_reducible intro _))
 all_goals first
  | omega
  | (simp[jJ];done)
  | (rw[aR];unfold gF;split<;>omega)
  | (rw[<-hR];simp[eF,vf,nI,notM, *];done)
  | (rw[<-hR];simp_all[eF,vf,nI,notM];done)
  | (have hx:nI (l.drop k)=none:=by(unfold nI;grind)
     rw[<-hR];simp[eF,vf,hx];done)
  | skip
 refine aw.cV [.bM [iD p.1,iD p.2]] bc (by kernel_rfl) (by rfl) ?_;simp[-cB,hb.ok, *]
 repeat' (first
  | (with_reducible refine And.intro ?_ ?_)
  | ((first|(refine aA (λh=>?_) (λh=>?_)<;>(try simp at h))|refine pC (tn _) ?_|refine pC (Xe _ ?_ ?_) ?_|refine pC (dx _) ?_|refine pC (s9 _) ?_|refine pC (ti _) ?_|refine pC (rM _ ?_ ?_) ?_|refine lC (tn _) ?_|refine lC (Xe _ ?_ ?_) ?_|refine lC (dx _) ?_|refine lC (s9 _) ?_|refine lC (ti _) ?_|refine lC (rM _ ?_ ?_) ?_|refine pG (tn _) ?_|refine pGh (λh=>Xe _ ?_ ?_) ?_|refine pG (dx _) ?_|refine pG (s9 _) ?_|refine pG (ti _) ?_|refine pGh (λh=>rM _ ?_ ?_) ?_)<;>(try simp[-cB, *]))
  | (with_reducible intro _))
 all_goals first
  | omega
  | (simp[jJ];done)
  | (rw[aR];unfold gF;split<;>omega)
  | (rw[<-hR];simp[eF,vf,nI,notM, *];done)
  | (rw[<-hR];simp_all[eF,vf,nI,notM];done)
  | skip
theorem wc{α:Type}{p:α->Bool}:∀(r:List α) (i:Nat),(∀x∈r.take i,p x=true)->(∀x,r[i]?=some x->p x=false)->i<=r.length->(r.takeWhile p).length=i
 | [],i,_,_,h=>by simp at h;simp[h]
 | x::r,0,_,h,_=>by
   have:=h x rfl;rw[aqw,if_neg (by simp[this])];rfl
 | x::r,i+1,h1,h2,h3=>by
   rw[aqw,if_pos (h1 x (by simp))];simp only[apY];rw[wc r i (λy hy=>h1 y (by simp[hy])) (λy hy=>h2 y (by simpa using hy)) (by simpa using h3)]
def uf(l:List ae)(n:Int):Int:=match l.findIdx? (λi=>decide (i.Op=38)&&decide (i.Arg=n))with
 | some k=>k
 | none=> -1
theorem sk{α:Type}{l:List α}{i:Nat}{x y:α}(h:l[i]?=some x)(hy:y∈l.take (i+1)):y∈l.take i\/y=x:=by
 rw[aqy]at hy;rcases ap9.1 hy with h1|h1
 ·exact Or.inl h1
 ·rw[h]at h1;simp at h1;exact Or.inr h1
theorem IY(l:List ae)(hl:l.length<=100000000000)(n:Int):Pure prog 291 [du l,iD n] (iD (uf l n)):=by
 refine rn func291 ?_;simp[-cB,f291];refine aw.cX [0,1,5] l.length (λi=> [(5,iD i)]) (λ_=> []) (λi=>∀y∈l.take i,(decide (y.Op=38)&&decide (y.Arg=n))=false) (by rfl) (by simp) ?_;intro i hi hH;rcases apW hi with ay|heq
 ·have hx:l[i]?=some l[i]:=anc ay;have da:aN .i64 ((i:Int)+1):=iW;by_cases hp:(decide (l[i].Op=38)&&decide (l[i].Arg=n))=true
  ·have hv:uf l n=i:=by
    unfold uf;have:l.findIdx? (λi=>decide (i.Op=38)&&decide (i.Arg=n))=some i:=by
     rw[arE];refine⟨ay,hp,λj hj=>?_⟩;have Ie:j<l.length:=by omega
     have:=hH l[j] (arC.2 ⟨j,by omega,rfl⟩);simpa using this
    rw[this]
   rw[apP,decide_eq_true_eq,decide_eq_true_eq]at hp;simp[ay,hp.1,hp.2,hv]
  ·have hn:∀y∈l.take (i+1),(decide (y.Op=38)&&decide (y.Arg=n))=false:=by
    intro y hy;rcases sk hx hy with h|rfl
    ·exact hH y h
    ·simpa using hp
   simp[-cB,ay,da];refine aA (λh=>?_) (λh=>?_)
   ·exact(hp h).elim
   ·simp[-cB,da,ay];exact λy hy=>by simpa using hn y hy
 ·have hv:uf l n= -1:=by
   unfold uf;have:l.findIdx? (λi=>decide (i.Op=38)&&decide (i.Arg=n))=none:=by
    rw[List.findIdx?_eq_none_iff];intro y hy;exact hH y (by rw[heq,aqC];exact hy)
   rw[this]
  simp[heq,hv]
theorem vg(l:List ae)(hl:l.length<=100000000000)(k:Nat)(hk:k<=l.length):Pure prog 290 [du l,iD k] (iD ((k+((l.drop k).takeWhile bl).length:Nat):Int)):=by
 refine rn func290 ?_;simp[-cB,f290];refine aw.cX [0,1] (l.length-k) (λi=> [(1,iD ((k+i:Nat):Int))]) (λ_=> []) (λi=>∀y∈(l.drop k).take i,bl y=true) (by rfl) (by simp) ?_;intro i hi hH;have da:aN .i64 ((k:Int)+i+1):=iW;have ht:((k:Int)+i).toNat=k+i:=by omega
 by_cases ay:k+i<l.length
 ·have dw:(k:Int)+i<l.length:=by omega
  have hx:(l.drop k)[i]?=some l[k+i]:=by rw[aqO,anc ay]
  have lD:l[k+i]?.getD ae.zero=l[k+i]:=by rw[anc ay];rfl
  have h0:0<=(k:Int)+i:=by omega
  by_cases hp:l[k+i].Op=38
  ·have hn:∀y∈(l.drop k).take (i+1),bl y=true:=by
    intro y hy;rcases sk hx hy with h|rfl
    ·exact hH y h
    ·simp[bl,hp]
   simp[dw,ht,hp,da,h0,ay];exact⟨by omega,by omega,hn⟩
  ·have hv:((l.drop k).takeWhile bl).length=i:=wc _ i hH (λx cy=>by rw[hx]at cy;cases cy;simp[bl,hp]) (by simp;omega);simp[dw,ht,hp,h0,ay,hv]
 ·have dw:¬(k:Int)+i<l.length:=by omega
  have hv:((l.drop k).takeWhile bl).length=i:=wc _ i hH (λx cy=>by rw[aqO,aqL (by omega)]at cy;cases cy) (by simp;omega);simp[dw,hv]
theorem IZ(l:List ae)(hl:l.length<=100000000000)(n:Int):Pure prog 269 [du l,iD n] (oD (kq l n)):=by
 refine rn func269 ?_;simp[-cB,f269];refine aw.cX [0,1,5] l.length (λi=> [(5,iD i)]) (λ_=> []) (λi=>kq (l.take i) n=false) (by rfl) (by simp[kq]) ?_;intro i hi hH;rcases apW hi with ay|heq
 ·have hx:l[i]?=some l[i]:=anc ay;have da:aN .i64 ((i:Int)+1):=iW;by_cases hp:(l[i].Op=24\/l[i].Op=25)/\l[i].Arg=n
  ·have hv:kq l n=true:=by
    unfold kq;refine art.2 ⟨l[i],ap1 ay,?_⟩;simp[hp.1,hp.2]
   rcases hp.1 with h|h
   ·simp[ay,h,hp.2,hv]
   ·simp[ay,h,hp.2,hv]
  ·have hn:kq (l.take (i+1)) n=false:=by
    unfold kq at hH⊢;rw[aqy,hx,arn,hH];simp only[Option.toList,asf,List.any_nil,Bool.or_false,Bool.false_or,aq4,Bool.or_eq_false_iff,decide_eq_false_iff_not];by_cases h:l[i].Op=24\/l[i].Op=25
    ·exact Or.inr λh2=>hp ⟨h,h2⟩
    ·exact Or.inl (by omega)
   simp[-cB,ay,da];refine aA (λh=>?_) (λh=>?_)
   ·exact(hp (by simpa using h)).elim
   ·simp[-cB,da,ay];exact hn
 ·have hv:kq l n=false:=by rw[heq,aqC]at hH;exact hH
  simp[heq,hv]
def ug(l:List ae)(k:Nat):Option (List ae):=(ma (l.drop k)).map λy=>il l k y.1 y.2
set_option maxHeartbeats 2000000 in
theorem Vz(l:List ae)(hl:l.length<=100000000000)(k:Nat)(hk:k<=l.length):Pure prog 266 [du l,iD k] (eF l (ug l k)):=by
 have dx:=λn=>AU l (by omega) n
 have e0:=Ft l k;have e1:=adn l k;have e2:=ado l k;have l0:=vM (l:=l) (k:=k) (j:=0);have l1:=vM (l:=l) (k:=k) (j:=1);have l2:=vM (l:=l) (k:=k) (j:=2);have b0:∀h:k<l.length,(l[k]'h).Arg=bg (l.drop k) 0:=λh=>by have:=jr l k 0;rw[<-this];simp[h]
 have b1:∀h:k+1<l.length,(l[k+1]'h).Arg=bg (l.drop k) 1:=λh=>by rw[<-jr l k 1];simp[h]
 obtain⟨R,hR⟩:∃R,eF l (ug l k)=R:=⟨_,rfl⟩
 have v8:V.on [] R=true:=by rw[<-hR];rfl
 rw[hR];simp only[aqS]at l0;have c1:((k:Int)+1).toNat=k+1:=by omega
 have i1:aN .i64 ((k:Int)+1):=iW;have i2:aN .i64 ((k:Int)+2):=iW;have rM:∀x:List ae,x.length<=1000->k+2<=l.length->Pure prog 270 [du l,iD k,iD 2,du x] (du (il l k 2 x)):=λx hx h=>qG l (by omega) k 2 h x (by omega)
 have El:k+2<=l.length->Pure prog 270 [du l,iD k,iD 2,.d (.v (.slice none 0 0))] (du (il l k 2 [])):=λh=>(rM [] (by simp) h).deep 0 (by rfl) (by rfl)
 refine Pure.run func266 rfl (by simp[f266,v8]) ?_;simp[-cB,f266,v8]
 repeat' (first
  | (with_reducible refine And.intro ?_ ?_)
  | ((first|(refine aA (λh=>?_) (λh=>?_)<;>(try simp at h))|refine pC (dx _) ?_|refine pC (bB _) ?_|refine pC (El ?_) ?_|refine lC (dx _) ?_|refine lC (bB _) ?_|refine lC (El ?_) ?_|refine pG (dx _) ?_|refine pG (bB _) ?_|refine pGh (λh=>El ?_) ?_)<;>(try simp[-cB, *]))
  | (with_reducible intro _))
 all_goals first
  | omega
  | (rw[<-hR];simp[eF,ug,ma, *];done)
  | (rw[<-hR];simp_all[eF,ug,ma];done)
  | (have hx:ma (l.drop k)=none:=by(unfold ma;grind)
     rw[<-hR];simp[eF,ug,hx];done)
  | skip
 refine ar.weaken (Wk.freeze 54 (ys:=[(⟨24,bg (l.drop k) 1⟩:ae)].map ae.enc) rfl) ?_;have tF:k+2<=l.length:=by
  have:=l1 (by omega);omega
 simp[-cB];refine ar.bA rfl (rM [⟨24,bg (l.drop k) 1⟩] (by simp) tF) rfl rfl (by simp) rfl ?_;simp[-cB];rw[<-hR];simp[eF,ug,ma, *]
end Go.Ab

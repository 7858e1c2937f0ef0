/-
 HK texts amk aml ale amm alf aod aoe amn Lex amo aof amp alg amq Lmc aog aoh alh aoi Pd Pe Pf,one behind Cb other.
-/
import Derived.Test.YtmhnopomnpgcjaaGreatDoorMg4
set_option linter.unusedSimpArgs false
set_option linter.unusedVariables false
namespace Go.Ab
open Go.Proofs Go.Proofs.Tryz
structure vK(w:aj):Prop where
 wf:w.wf
 hC:w.Child.length=w.ah.length
 hN:w.Next.length=w.ah.length
 up:∀x,bU w.ah.length x=true->aH w.ah x=0\/bU w.ah.length (aH w.ah x)=true
theorem vK.Te{w:aj}(hw:w.wf){ls:Int->List Int}(h:ec w.tree w.ah.length ls):vK w:=⟨hw,h.lc,h.ln,λx hx=>by
 rcases h.up x (aY.1 hx).1 (aY.1 hx).2 with h1|h1
 ·exact .inl h1.1
 ·exact .inr (aY.2 h1.1)⟩
def vp(w:aj)(x to:Int):aj:=
 {cx w x with
  ah:=(cx w x).ah.set x.toNat to
  Next:=(cx w x).Next.set x.toNat (aH (cx w x).Child to)
  Child:=(cx w x).Child.set to.toNat x}
theorem IZ(w:aj)(x to:Int):(vp w x to).tree=yl (cx w x).tree x to:=rfl
theorem qw(w:aj)(x:Int):(cx w x).ah.length=w.ah.length:=by simp[cx]
theorem Hf(w:aj)(x:Int):(cx w x).Child.length=w.Child.length:=by unfold cx;dsimp only;split<;>simp
theorem Hg(w:aj)(x:Int):(cx w x).Next.length=w.Next.length:=by unfold cx;dsimp only;split<;>simp[yi]
theorem LF(w:aj)(h:vK w)(x:Int)(hx:bU w.ah.length x=true):aE prog 284 [.agg (w.enc.map .d),iD x] [] (λr L=>r= .ret (.agg (eE (cx w x)))/\L=gC (cx w x)):=by
 refine aE.wk (abG w x ⟨h.wf,h.hC,h.hN,hx,h.up x hx⟩) ?_;rintro r L ⟨rfl,b1,b2,b3,b4,Td,Iy,cs3,cs4,rfl⟩;refine⟨_,_,_,rfl,Wk.pick [0] [76,75,74,73,72,71,70] (by simp) (by decide) ?_,?_⟩
 ·simp[eE,gC,dd]
 ·simp[gC,eE,St.pick]
def fB(w:aj)(x:Int):aj×Int:=if bU w.ah.length x then(cx w x,0)else(w,11)
theorem DO(w:aj)(h:vK w)(x:Int):Pure prog 254 [.agg (w.enc.map .d),iD x] (.bA [.agg ((fB w x).1.enc.map .d),iD (fB w x).2]):=by
 unfold fB;cases hx:bU w.ah.length x with
 | false=>
   refine rn func254 ?_;simp[-cB,f254]
   try intro(_:Nat->Nat)
   refine pC (dM w _) ?_;simp[-cB,hx]
 | true=>
   have hl:=LF w h x hx;unfold gC at hl;refine rn func254 ?_;simp[-cB,f254]
   try intro(_:Nat->Nat)
   refine pC (dM w _) ?_;simp[-cB,hx];refine eD [] hl ?_;simp[-cB,eE];rfl
def kZ(w:aj)(x to:Int):aj×Int:=
 if bU w.ah.length x&&bU w.ah.length to then if x∈ik w.tree to then(w,18)else(vp w x to,0)else(w,11)
theorem Kl(w:aj)(h:vK w)(x to:Int):Pure prog 253 [.agg (w.enc.map .d),iD x,iD to] (.bA [.agg ((kZ w x to).1.enc.map .d),iD (kZ w x to).2]):=by
 have hC:=h.hC;have hN:=h.hN;unfold kZ;cases hx:bU w.ah.length x with
 | false=>
   refine rn func253 ?_;simp[-cB,f253]
   try intro(_:Nat->Nat)
   refine pC (dM w _) ?_;simp[-cB,hx];refine pG (dM w _) ?_;simp[-cB]
 | true=>
   cases pW:bU w.ah.length to with
   | false=>
     refine rn func253 ?_;simp[-cB,f253]
     try intro(_:Nat->Nat)
     refine pC (dM w _) ?_;simp[-cB,hx];refine pG (dM w _) ?_;simp[-cB,pW]
   | true=>
     refine rn func253 ?_;simp[-cB,f253]
     try intro(_:Nat->Nat)
     refine pC (dM w _) ?_;simp[-cB,hx];refine pG (dM w _) ?_;simp[-cB,pW];refine pC (YU w h.wf _ _) ?_;simp[-cB];by_cases hm:x∈ik w.tree to
     ·simp[-cB,hm]
     ·have hl:=LF w h x hx;unfold gC at hl;have hb:=aY.1 hx;have xQ:=aY.1 pW;have h1:=qw w x;have h2:=Hf w x;have h3:=Hg w x;have hT:bU (cx w x).Child.length to=true:=by rw[h2,hC];exact pW
      have nV:=eo hT;simp[-cB,hm];refine eD [] hl ?_;simp[-cB,eE];intro bs;refine av.aT [Q0,Q0,Q0,Q3,Q3,Q3,arH,arH,arH,Q0,Q0,Q0,Q0,Q0,Q0,arH,Q0,none,arF,none,arG,none] [] aS (by kernel_rfl) ?_;simp[-cB,nV,h1,h2,h3];exact⟨⟨by omega,by omega⟩,by omega,⟨by omega,by omega⟩,by omega,⟨by omega,by omega⟩,by omega,⟨by omega,by omega⟩,by omega,rfl⟩
end Go.Ab
namespace Go.Ab
open Go.Proofs Go.Proofs.Tryz
def cz(w:aj)(x f:Int):Int:=if bU w.ah.length x then if 0<=f/\f<=15 then 0 else 5 else 11
theorem Po(w:aj)(x f:Int):Pure prog 207 [.agg (w.enc.map .d),iD x,iD f] (iD (cz w x f)):=by
 unfold cz;cases hT:bU w.ah.length x with
 | false=>
   refine rn func207 ?_;simp[-cB,f207]
   try intro(_:Nat->Nat)
   repeat' (first
    | (with_reducible refine And.intro ?_ ?_)
    | ((first|(refine aw (λh=>?_) (λh=>?_)<;>(try simp at h))|refine pC (dM w _) ?_|refine lC (dM w _) ?_|refine pG (dM w _) ?_)<;>(try simp[-cB, *]))
    | (with_reducible intro _))
 | true=>
   refine rn func207 ?_;simp[-cB,f207]
   try intro(_:Nat->Nat)
   repeat' (first
    | (with_reducible refine And.intro ?_ ?_)
    | ((first|(refine aw (λh=>?_) (λh=>?_)<;>(try simp at h))|refine pC (dM w _) ?_|refine lC (dM w _) ?_|refine pG (dM w _) ?_)<;>(try simp[-cB, *]))
    | (with_reducible intro _))
   all_goals (try omega)
theorem BF(w:aj)(x f:Int):Pure prog 150 [.agg (w.enc.map .d),iD x,iD f] (iD (cz w x f)):=by
 unfold cz;cases hT:bU w.ah.length x with
 | false=>
   refine rn func150 ?_;simp[-cB,f150]
   try intro(_:Nat->Nat)
   repeat' (first
    | (with_reducible refine And.intro ?_ ?_)
    | ((first|(refine aw (λh=>?_) (λh=>?_)<;>(try simp at h))|refine pC (bE w _) ?_|refine lC (bE w _) ?_|refine pG (bE w _) ?_)<;>(try simp[-cB, *]))
    | (with_reducible intro _))
 | true=>
   refine rn func150 ?_;simp[-cB,f150]
   try intro(_:Nat->Nat)
   repeat' (first
    | (with_reducible refine And.intro ?_ ?_)
    | ((first|(refine aw (λh=>?_) (λh=>?_)<;>(try simp at h))|refine pC (bE w _) ?_|refine lC (bE w _) ?_|refine pG (bE w _) ?_)<;>(try simp[-cB, *]))
    | (with_reducible intro _))
   all_goals (try omega)
def gJ(t:aq)(w:aj)(x p:Int):Int:=if bU w.ah.length x then if 0<=p/\p<t.aJ.length then 0 else 5 else 11
theorem zZ(t:aq)(w:aj)(x p:Int):Pure prog 154 [.agg (t.enc.map .d),.agg (w.enc.map .d),iD x,iD p] (iD (gJ t w x p)):=by
 unfold gJ;cases hT:bU w.ah.length x with
 | false=>
   refine rn func154 ?_;simp[-cB,f154]
   try intro(_:Nat->Nat)
   repeat' (first
    | (with_reducible refine And.intro ?_ ?_)
    | ((first|(refine aw (λh=>?_) (λh=>?_)<;>(try simp at h))|refine pC (bE w _) ?_|refine lC (bE w _) ?_|refine pG (bE w _) ?_)<;>(try simp[-cB, *]))
    | (with_reducible intro _))
 | true=>
   refine rn func154 ?_;simp[-cB,f154]
   try intro(_:Nat->Nat)
   repeat' (first
    | (with_reducible refine And.intro ?_ ?_)
    | ((first|(refine aw (λh=>?_) (λh=>?_)<;>(try simp at h))|refine pC (bE w _) ?_|refine lC (bE w _) ?_|refine pG (bE w _) ?_)<;>(try simp[-cB, *]))
    | (with_reducible intro _))
   all_goals (try omega)
theorem Hi{n k:Nat}{x p:Int}(hn:n<=32768)(hk:k<=65536)(hx:1<=x/\x<n)(hp:0<=p/\p<k):aM .i64 (x *k)/\aM .i64 (x *k+p):=by
 have h1:0<=x *k:=Int.mul_nonneg (by omega) (by omega);have h2:x *k<=32768 *65536:=Int.mul_le_mul (by omega) (by omega) (by omega) (by omega);rw[aU,aU];omega
theorem Pp(t:aq)(w:aj)(hn:w.ah.length<=32768)(hk:t.aJ.length<=65536)(x p:Int):Pure prog 208 [.agg (t.enc.map .d),.agg (w.enc.map .d),iD x,iD p] (eI (if gJ t w x p=0 then x *t.aJ.length+p else 0,gJ t w x p)):=by
 unfold gJ eI;cases hT:bU w.ah.length x with
 | false=>
   refine rn func208 ?_;simp[-cB,f208]
   try intro(_:Nat->Nat)
   repeat' (first
    | (with_reducible refine And.intro ?_ ?_)
    | ((first|(refine aw (λh=>?_) (λh=>?_)<;>(try simp at h))|refine pC (dM w _) ?_|refine lC (dM w _) ?_|refine pG (dM w _) ?_)<;>(try simp[-cB, *]))
    | (with_reducible intro _))
 | true=>
   have hb:=aY.1 hT;by_cases hp:0<=p/\p<t.aJ.length
   ·obtain⟨g1,g2⟩:=Hi hn hk hb hp;have p1:¬p<0:=by omega
    have p2:¬(t.aJ.length:Int)<=p:=by omega
    refine rn func208 ?_;simp[-cB,f208]
    try intro(_:Nat->Nat)
    repeat' (first
     | (with_reducible refine And.intro ?_ ?_)
     | ((first|(refine aw (λh=>?_) (λh=>?_)<;>(try simp at h))|refine pC (dM w _) ?_|refine lC (dM w _) ?_|refine pG (dM w _) ?_)<;>(try simp[-cB, *]))
     | (with_reducible intro _))
   ·refine rn func208 ?_;simp[-cB,f208]
    try intro(_:Nat->Nat)
    repeat' (first
     | (with_reducible refine And.intro ?_ ?_)
     | ((first|(refine aw (λh=>?_) (λh=>?_)<;>(try simp at h))|refine pC (dM w _) ?_|refine lC (dM w _) ?_|refine pG (dM w _) ?_)<;>(try simp[-cB, *]))
     | (with_reducible intro _))
    all_goals (try omega)
def tI(t:aq)(w:aj)(x p:Int):Int×Int:=(if gJ t w x p=0 then w.aJ[(x *t.aJ.length+p).toNat]?.getD 0 else 0,gJ t w x p)
theorem BG{n k m:Nat}{x p:Int}(hm:n *k=m)(hx:1<=x/\x<n)(hp:0<=p/\p<k):0<=x *k+p/\(x *k+p).toNat<m:=by
 have h1:0<=x *k:=Int.mul_nonneg (by omega) (by omega);have h2:(x+1) *k<=n *k:=Int.mul_le_mul_of_nonneg_right (by omega) (by omega);rw[Int.add_mul,Int.one_mul]at h2;have h3:((n *k:Nat):Int)=(n:Int) *k:=by simp
 omega
theorem Tf(t:aq)(w:aj)(hn:w.ah.length<=32768)(hk:t.aJ.length<=65536)(hm:w.ah.length *t.aJ.length=w.aJ.length)(x p:Int):Pure prog 140 [.agg (t.enc.map .d),.agg (w.enc.map .d),iD x,iD p] (eI (tI t w x p)):=by
 have fJ:=Pp t w hn hk x p;unfold eI at fJ⊢;unfold tI;by_cases he:gJ t w x p=0
 ·have hT:bU w.ah.length x=true/\0<=p/\p<t.aJ.length:=by
   unfold gJ at he;split at he
   ·split at he
    ·rename_i a b;exact⟨a,b⟩
    ·omega
   ·omega
  have hl:=BG hm (aY.1 hT.1) hT.2;rw[he]at fJ⊢;simp at fJ;generalize x *t.aJ.length+p=q at *;refine rn func140 ?_;simp[-cB,f140]
  try intro(_:Nat->Nat)
  repeat' (first
   | (with_reducible refine And.intro ?_ ?_)
   | ((first|(refine aw (λh=>?_) (λh=>?_)<;>(try simp at h))|refine pC fJ ?_|refine lC fJ ?_|refine pG fJ ?_)<;>(try simp[-cB, *]))
   | (with_reducible intro _))
 ·simp[he]at fJ;generalize gJ t w x p=e at *;refine rn func140 ?_;simp[-cB,f140]
  try intro(_:Nat->Nat)
  repeat' (first
   | (with_reducible refine And.intro ?_ ?_)
   | ((first|(refine aw (λh=>?_) (λh=>?_)<;>(try simp at h))|refine pC fJ ?_|refine lC fJ ?_|refine pG fJ ?_)<;>(try simp[-cB, *]))
   | (with_reducible intro _))
  all_goals (exact absurd (by assumption) he)
theorem VA(t:aq)(w:aj)(hn:w.ah.length<=32768)(hk:t.aJ.length<=65536)(hm:w.ah.length *t.aJ.length=w.aJ.length)(x p:Int):Pure prog 108 [.agg (t.enc.map .d),.agg (w.enc.map .d),iD x,iD p] (eI (tI t w x p)):=by
 have fJ:=zZ t w x p;unfold eI tI;by_cases he:gJ t w x p=0
 ·have hT:bU w.ah.length x=true/\0<=p/\p<t.aJ.length:=by
   unfold gJ at he;split at he
   ·split at he
    ·rename_i a b;exact⟨a,b⟩
    ·omega
   ·omega
  have hl:=BG hm (aY.1 hT.1) hT.2;obtain⟨g1,g2⟩:=Hi hn hk (aY.1 hT.1) hT.2;rw[he]at fJ⊢;refine rn func108 ?_;simp[-cB,f108]
  try intro(_:Nat->Nat)
  repeat' (first
   | (with_reducible refine And.intro ?_ ?_)
   | ((first|(refine aw (λh=>?_) (λh=>?_)<;>(try simp at h))|refine pC fJ ?_|refine lC fJ ?_|refine pG fJ ?_)<;>(try simp[-cB, *]))
   | (with_reducible intro _))
 ·generalize gJ t w x p=e at *;refine rn func108 ?_;simp[-cB,f108]
  try intro(_:Nat->Nat)
  repeat' (first
   | (with_reducible refine And.intro ?_ ?_)
   | ((first|(refine aw (λh=>?_) (λh=>?_)<;>(try simp at h))|refine pC fJ ?_|refine lC fJ ?_|refine pG fJ ?_)<;>(try simp[-cB, *]))
   | (with_reducible intro _))
  all_goals (exact absurd (by assumption) he)
def mY(t:aq)(w:aj)(x p n:Int):aj×Int:=if gJ t w x p=0 then if gP n then({w with aJ:=w.aJ.set (x *t.aJ.length+p).toNat n},0)else(w,1)else(w,gJ t w x p)
theorem VB(t:aq)(w:aj)(x p n:Int)(he:gJ t w x p≠0):Pure prog 96 [.agg (t.enc.map .d),.agg (w.enc.map .d),iD x,iD p,iD n] (.bA [.agg (w.enc.map .d),iD (gJ t w x p)]):=by
 have fJ:=zZ t w x p;generalize gJ t w x p=e at *;refine rn func96 ?_;simp[-cB,f96]
 try intro(_:Nat->Nat)
 repeat' (first
  | (with_reducible refine And.intro ?_ ?_)
  | ((first|(refine aw (λh=>?_) (λh=>?_)<;>(try simp at h))|refine pC fJ ?_|refine lC fJ ?_|refine pG fJ ?_)<;>(try simp[-cB, *]))
  | (with_reducible intro _))
 all_goals (exact absurd (by assumption) he)
theorem YX(t:aq)(w:aj)(hw:w.wf)(hn:w.ah.length<=32768)(hk:t.aJ.length<=65536)(hm:w.ah.length *t.aJ.length=w.aJ.length)(x p n:Int):Pure prog 96 [.agg (t.enc.map .d),.agg (w.enc.map .d),iD x,iD p,iD n] (.bA [.agg ((mY t w x p n).1.enc.map .d),iD (mY t w x p n).2]):=by
 unfold mY;by_cases he:gJ t w x p=0
 ·have fJ:=zZ t w x p;have hwl:=aj.ou hw;have hT:bU w.ah.length x=true/\0<=p/\p<t.aJ.length:=by
   unfold gJ at he;split at he
   ·split at he
    ·rename_i a b;exact⟨a,b⟩
    ·omega
   ·omega
  have hl:=BG hm (aY.1 hT.1) hT.2;obtain⟨g1,g2⟩:=Hi hn hk (aY.1 hT.1) hT.2;rw[he]at fJ;simp only[he,if_true];cases hi:gP n with
  | false=>
    simp only[apH,if_false];refine rn func96 ?_;simp[-cB,f96]
    try intro(_:Nat->Nat)
    repeat' (first
     | (with_reducible refine And.intro ?_ ?_)
     | (refine aw (λh=>?_) (λh=>?_)<;>(try simp at h)<;>(try simp[-cB,h,hi]))
     | ((first|refine pC fJ ?_|refine pC (nh _) ?_|refine lC fJ ?_|refine lC (nh _) ?_|refine pG fJ ?_|refine pG (nh _) ?_)<;>(try simp[-cB,hi]))
     | (with_reducible intro _))
  | true=>
    simp only[if_true];have e1:(w.enc.map V.d)=[.d (.sl (aA w.aP)),.d (.sl (aA w.ah)),.d (.sl (aA w.Child)),.d (.sl (aA w.Next)),.d (.sl (aA w.Flags)),.d (.sl (aA w.aJ)),.d (.sl (aA w.bc)),.d (.v (.int .u64 w.cL)),iD w.Score,iD w.jx,iD w.ij,iD w.It,iD w.Go]:=rfl;rw[e1]at fJ⊢;refine rn func96 ?_;simp[-cB,f96]
    try intro(_:Nat->Nat)
    repeat' (first
     | (with_reducible refine And.intro ?_ ?_)
     | (refine aw (λh=>?_) (λh=>?_)<;>(try simp at h)<;>(try simp[-cB,h,hi]))
     | ((first|refine pC fJ ?_|refine pC (nh _) ?_|refine lC fJ ?_|refine lC (nh _) ?_|refine pG fJ ?_|refine pG (nh _) ?_)<;>(try simp[-cB,hi]))
     | (with_reducible intro _))
    all_goals (first|exact g1|exact g2|exact hl|exact hl.1|exact hl.2|omega|rfl|skip)
 ·rw[if_neg he];exact VB t w x p n he
theorem Ch.ajD{nx:List Int}{n:Nat}{c:Int}{l:List Int}(h:Ch nx n c l):∀(i:Nat) (hi:i<l.length),aH nx l[i]=l[i+1]?.getD 0:=by
 induction h with
 | nil=>intro i hi;simp at hi
 | @cons c l h t ih=>
   intro i hi;cases i with
   | zero=>
     simp only[List.getElem_cons_zero,apY];generalize aH nx c=z at t;cases t with
     | nil=>rfl
     | cons h' t'=>rfl
   | succ i=>
     simp only[List.getElem_cons_succ,apY];exact ih i (by simpa using hi)
theorem Ch.ajE{nx:List Int}{n:Nat}{c x:Int}{l:List Int}(h:Ch nx n c l)(hx:1<=x):∀i,i<=l.length->sM nx x (l.take i)=if 0<l.idxOf x/\l.idxOf x<=i/\l.idxOf x<l.length then nx.set (l[l.idxOf x-1]?.getD 0).toNat (aH nx x)else nx:=by
 intro i
 induction i with
 | zero=>intro _;rw[if_neg (by omega)];rfl
 | succ i ih=>
   intro hi;have hg:=h.ajD i (by omega);have gz:=h.nodup;rw[apI,akC (by omega),Option.toList_some,DN,ih (by omega),hg];by_cases hk:i+1=l.idxOf x/\l.idxOf x<l.length
   ·have hs:l[i+1]?.getD 0=x:=by
     rw[hk.1,akC hk.2,ap3,List.getElem_idxOf]
    rw[if_pos hs,if_neg (by omega),if_pos (by omega)];have:l[l.idxOf x-1]?.getD 0=l[i]:=by
     rw[<-hk.1,Nat.add_sub_cancel,akC (by omega)];rfl
    rw[this]
   ·have hs:l[i+1]?.getD 0≠x:=by
     intro e;by_cases hl:i+1<l.length
     ·rw[akC hl,ap3]at e;have:l.idxOf x=i+1:=by rw[<-e];exact arw gz _ hl
      omega
     ·rw[apT (by omega)]at e;simp at e;omega
    rw[if_neg hs];by_cases hc:0<l.idxOf x/\l.idxOf x<=i/\l.idxOf x<l.length
    ·rw[if_pos hc,if_pos (by omega)]
    ·rw[if_neg hc,if_neg (by omega)]
def qx(t:Tree)(x:Int)(ks:List Int)(i:Nat):List Int:=if ks.idxOf x=0/\0<i/\ks.idxOf x<ks.length then t.gn.set (aH t.bn x).toNat (aH t.gq x)else t.gn
def qy(t:Tree)(x:Int)(ks:List Int)(i:Nat):List Int:=if 0<ks.idxOf x/\ks.idxOf x<i/\ks.idxOf x<ks.length then t.gq.set (ks[ks.idxOf x-1]?.getD 0).toNat (aH t.gq x)else t.gq
theorem ec.afU{t:Tree}{n:Nat}{ls:Int→List Int}(h:ec t n ls){x:Int}(hx:1≤x∧x < n):
  qx t x (bw t (aH t.bn x)) (bw t (aH t.bn x)).length=(jZ t x).gn/\(qy t x (bw t (aH t.bn x)) (bw t (aH t.bn x)).length).set x.toNat 0=(jZ t x).gq:=by
 unfold jZ;dsimp only;rcases h.up x hx.1 hx.2 with⟨h1,h2⟩|⟨h1,h2⟩
 ·have hk:bw t (aH t.bn x)=[]:=by rw[bw,if_neg (by rw[h1];simp[bU])]
  rw[hk];simp[qx,qy,h1]
 ·rw[h.kids h1];have mh:=h.ch _ h1.1 h1.2;have h0:aH t.bn x≠0:=by omega
  have au:(ls (aH t.bn x)).idxOf x<(ls (aH t.bn x)).length:=List.idxOf_lt_length_of_mem h2;have hC:aH t.gn (aH t.bn x)=x↔(ls (aH t.bn x)).idxOf x=0:=by
   generalize ls (aH t.bn x)=l at *;generalize aH t.gn (aH t.bn x)=c at *;cases mh with
   | nil=>cases h2
   | cons a b=>
     rw[List.idxOf_cons];by_cases he:c=x<;>simp[he]
  have afV:=mh.ajE hx.1 _ (api _);rw[apM]at afV;rw[afV];unfold qx qy;by_cases hz:(ls (aH t.bn x)).idxOf x=0
  ·rw[if_pos ⟨hz,by omega,au⟩,if_pos ⟨h0,hC.2 hz⟩,if_neg (by omega),if_pos (.inr (hC.2 hz))];exact⟨rfl,rfl⟩
  ·rw[if_neg (λe=>hz e.1),if_neg (λe=>hz (hC.1 e.2)),if_pos ⟨by omega,au,au⟩,if_neg (λe=>hz (hC.1 (e.resolve_left h0))),if_pos ⟨by omega,by omega,au⟩];exact⟨rfl,rfl⟩
theorem ec.Pq{t:Tree}{n:Nat}{ls:Int->List Int}(h:ec t n ls)(x:Int):(bw t x).Nodup:=by
 by_cases hx:1<=x/\x<n
 ·rw[h.kids hx];exact(h.ch x hx.1 hx.2).nodup
 ·rw[bw,if_neg (by rw[aY,h.lp];exact hx)];simp
theorem RJ{t:Tree}{x:Int}{i:Nat}(h:i<(bw t x).length):1<=x/\x<t.bn.length:=by
 unfold bw at h;split at h
 ·rename_i e;exact aY.1 e
 ·simp at h
theorem abH(t:Tree)(x:Int)(ks:List Int)(i:Nat):(qy t x ks i).length=t.gq.length:=by unfold qy;split<;>simp
theorem abI(t:Tree)(x:Int)(ks:List Int)(i:Nat):(qx t x ks i).length=t.gn.length:=by unfold qx;split<;>simp
theorem ajF{t:Tree}{x:Int}{ks:List Int}(gz:ks.Nodup){i:Nat}(hi:i<ks.length)(h:ks[i]≠x):qx t x ks (i+1)=qx t x ks i/\qy t x ks (i+1)=qy t x ks i:=by
 have hk:ks.idxOf x<ks.length->ks.idxOf x≠i:=λh1 e=>h (by
  have:=List.getElem_idxOf h1;simp only[e]at this;exact this)
 unfold qx qy;refine⟨?_,?_⟩
 ·by_cases hc:ks.idxOf x=0/\0<i/\ks.idxOf x<ks.length
  ·rw[if_pos hc,if_pos ⟨hc.1,by omega,hc.2.2⟩]
  ·rw[if_neg hc,if_neg];rintro⟨h1,h2,h3⟩;exact hc ⟨h1,by have:=hk h3;omega,h3⟩
 ·by_cases hc:0<ks.idxOf x/\ks.idxOf x<i/\ks.idxOf x<ks.length
  ·rw[if_pos hc,if_pos ⟨hc.1,by omega,hc.2.2⟩]
  ·rw[if_neg hc,if_neg];rintro⟨h1,h2,h3⟩;exact hc ⟨h1,by have:=hk h3;omega,h3⟩
theorem ahv{t:Tree}{x:Int}{ks:List Int}(gz:ks.Nodup)(hi:0<ks.length)(h:ks[0]=x):qx t x ks 1=t.gn.set (aH t.bn x).toNat (aH t.gq x)/\qx t x ks 0=t.gn/\qy t x ks 0=t.gq/\qy t x ks 1=t.gq:=by
 have hk:ks.idxOf x=0:=by rw[<-h];exact arw gz _ hi
 simp[qx,qy,hk,hi]
theorem ahw{t:Tree}{x:Int}{ks:List Int}(gz:ks.Nodup){i:Nat}(hi:i+1<ks.length)(h:ks[i+1]=x):qx t x ks (i+1)=t.gn/\qx t x ks (i+1+1)=t.gn/\qy t x ks (i+1)=t.gq/\qy t x ks (i+1+1)=t.gq.set (ks[i]).toNat (aH t.gq x):=by
 have hk:ks.idxOf x=i+1:=by rw[<-h];exact arw gz _ hi
 have hg:ks[i]?.getD 0=ks[i]:=by rw[akC (by omega)];rfl
 simp[qx,qy,hk,hi];rw[hg]
def tY(w:aj):List V:=[.d (.sl (aA w.aP)),.rv 71,.rv 72,.rv 73,.d (.sl (aA w.Flags)),.d (.sl (aA w.aJ)),.d (.sl (aA w.bc)),.d (.v (.int .u64 w.cL)),iD w.Score,iD w.jx,iD w.ij,iD w.It,iD w.Go]
def wS(w:aj):aI:=[(71,.row 3 1 (dd (aA w.ah))),(72,.row 3 1 (dd (aA w.Child))),(73,.row 3 1 (dd (aA w.Next)))]
theorem YY(w:aj)(hw:w.wf):aE prog 158 [.agg (w.enc.map .d)] [] (λr L=>r= .ret (.agg (tY w))/\L=wS w):=by
 have h1:=aj.fX hw;have h2:=aj.OK hw;have h3:=aj.SU hw
 let cs:List V:=[.d (.sl (aA w.aP)),.rv 3,.rv 8,.rv 13,.d (.sl (aA w.Flags)),.d (.sl (aA w.aJ)),.d (.sl (aA w.bc)),.d (.v (.int .u64 w.cL)),iD w.Score,iD w.jx,iD w.ij,iD w.It,iD w.Go]
 refine aE.wk (R:=λr L=>r= .ret (.agg cs)/\∃b1 b2,L=[(13,.row 3 1 (dd (aA w.Next))),(8,.row 3 1 (dd (aA w.Child))),(3,.row 3 1 (dd (aA w.ah))),(2,.box b2 34 cs),(1,.box b1 34 cs)]) ?_ ?_
 ·unfold aj.enc;refine aE.run func158 rfl (by simp[f158]) ?_;simp[f158];refine⟨by omega,by omega,by omega,rfl⟩
 ·rintro r L ⟨rfl,b1,b2,rfl⟩;refine⟨_,_,_,rfl,((Wk.eB 13 73 (by simp[keys])).trans ((Wk.eB 8 72 (by simp[keys])).trans ((Wk.eB 3 71 (by simp[keys])).trans (Wk.pick [0] [71,72,73] (by simp) (by decide) ?_)))),?_⟩
  ·simp[cs,dd]
  ·simp[wS,tY,St.pick,cs]
theorem MK(w:aj)(hw:w.wf){x:Int}(hx:bU w.ah.length x=false):Pure prog 98 [.agg (w.enc.map .d),iD x] (.bA [.agg (w.enc.map .d),iD 11]):=by
 refine rn func98 ?_;simp[-cB,f98]
 try intro(_:Nat->Nat)
 refine pC (bE w _) ?_;simp[-cB,hx]
theorem ML(w:aj)(hw:w.wf){ls:Int->List Int}(hn:ec w.tree w.ah.length ls){x:Int}(hx:bU w.ah.length x=true):aE prog 98 [.agg (w.enc.map .d),iD x] [] (λr L=>r= .ret (.bA [.agg (tY (cx w x)),iD 0])/\∃b1 b2 Td Iy,L=wS (cx w x)++ [(4,.box b1 34 Td),(2,.box b2 34 Iy)]):=by
 have hC:w.Child.length=w.ah.length:=hn.lc;have hN:w.Next.length=w.ah.length:=hn.ln;have nV:=eo hx;have hb:=aY.1 hx;have DK:=YY w hw;unfold wS at DK;refine aE.run func98 rfl (by simp[f98]) ?_;simp[f98];intro bs;refine pC (bE w _) ?_;simp[-cB,hx,nV];refine⟨⟨by omega,by omega⟩,?_⟩;refine pC (oA w hw _) ?_;simp[-cB];refine eD [] DK ?_;simp[-cB,tY];have gz:=hn.Pq (aH w.ah x);have fm:=λy=>nW (t:=w.tree) (x:=aH w.ah x) (y:=y)
 have wq:=λi=>RJ (t:=w.tree) (x:=aH w.ah x) (i:=i)
 have hK:=hn.afU hb;have eP:w.tree.bn=w.ah:=rfl;have eC:w.tree.gn=w.Child:=rfl;have eN:w.tree.gq=w.Next:=rfl;have Gd:bU w.Next.length x=true:=by rw[hN];exact hx
 have Pm:=eo Gd;rw[eP]at fm wq hK;have hl:=aj.fX hw;have tW:(bw w.tree (aH w.ah x)).length<=w.ah.length:=by
  unfold bw;have h1:(bI w.tree.gq w.tree.bn.length w.tree.bn.length (aH w.tree.gn (aH w.ah x))).length<=w.ah.length:=wM _ _ _ _;split
  ·exact h1
  ·simp
 generalize bw w.tree (aH w.ah x)=ks at *;have CP:=λi=>abH w.tree x ks i
 have nF:=λi=>abI w.tree x ks i
 rw[eN,hN]at CP;rw[eC,hC]at nF;refine av.cJ [1,2,4,6,7,8] ks.length (λi=> [(8,iD i)]) (λi=> [(72,.row 3 1 (dd (aA (qx w.tree x ks i)))),(73,.row 3 1 (dd (aA (qy w.tree x ks i))))]) (λ_=>True) (by rfl) (by simp[qx,qy,aj.tree]) ?_;intro i hi _;rcases apg hi with au|rfl
 ·have bm:ks[i]?.getD 0=ks[i]:=by rw[akC au];rfl
  have hu:=wq i au;by_cases zt:ks[i]=x
  ·cases i with
   | zero=>
     obtain⟨k1,k2,k3,k4⟩:=ahv (t:=w.tree) gz au zt;rw[eC,eP,eN]at k1;rw[eC]at k2;rw[eN]at k3 k4;simp[-cB,au,bm,zt,k1,k2,k3,k4];refine av.aT [Q0,Q0,Q0,Q0,Q0,Q0,Q0,Q0,Q0,none] [] aS (by kernel_rfl) ?_;simp[-cB,Pm,k1,k4];exact⟨⟨by omega,by omega⟩,by omega,⟨by omega,by omega⟩,by omega,iW,au⟩
   | succ i=>
     obtain⟨k1,k2,k3,k4⟩:=ahw (t:=w.tree) gz au zt;rw[eN]at k4 k3;rw[eC]at k1 k2;have nN:(i:Int)+1<ks.length:=by omega
     have ajG:¬((i:Int)+1=0):=by omega
     have F1:((i:Int)+1).toNat=i+1:=by omega
     simp[-cB,au,nN,ajG,F1,bm,zt,k1,k2,k3,k4];have hgi:ks[i]?.getD 0=ks[i]:=by rw[akC (by omega)];rfl
     have hmi:=fm ks[i] (apk _);refine⟨by omega,?_⟩;have e1:(i:Int)+1-1=i:=by omega
     refine av.aT [Q0,Q0,Q0,Q0,Q0,Q0,Q0,Q0,Q0,Q0,Q0,Q0,Q0,none] [] aS (by kernel_rfl) ?_;simp[-cB,Pm,k2,k4,hgi,e1];exact⟨iW,by omega,⟨by omega,by omega⟩,by omega,⟨by omega,by omega⟩,by omega,iW,au⟩
  ·obtain⟨k1,k2⟩:=ajF (t:=w.tree) gz au zt;simp[-cB,au,bm,zt,k1,k2];rw[aU];omega
 ·simp[-cB];rw[CP];refine⟨⟨by omega,by omega⟩,by omega,⟨by omega,by omega⟩,by omega,?_⟩;have r1:qx w.tree x ks ks.length=(cx w x).Child:=hK.1;have r2:(qy w.tree x ks ks.length).set x.toNat 0=(cx w x).Next:=hK.2;rw[r1,r2];exact⟨⟨rfl,rfl,rfl,rfl,rfl,rfl,rfl,rfl,rfl,rfl⟩,_,_,_,_,rfl⟩
theorem Cx(w:aj)(hw:w.wf){ls:Int->List Int}(hn:ec w.tree w.ah.length ls){x:Int}(hx:bU w.ah.length x=true):aE prog 98 [.agg (w.enc.map .d),iD x] [] (λr L=>r= .ret (.bA [.agg (tY (cx w x)),iD 0])/\L=wS (cx w x)):=by
 refine aE.wk (ML w hw hn hx) ?_;rintro r L ⟨rfl,b1,b2,Td,Iy,rfl⟩;refine⟨_,_,_,rfl,Wk.pick [0] [71,72,73] (by simp) (by decide) ?_,?_⟩
 ·simp[tY,wS,dd]
 ·simp[wS,tY,St.pick]
theorem MM(w:aj)(hw:w.wf){ls:Int->List Int}(hn:ec w.tree w.ah.length ls){x:Int}(hx:bU w.ah.length x=true):Pure prog 98 [.agg (w.enc.map .d),iD x] (.bA [.agg ((cx w x).enc.map .d),iD 0]):=by
 refine⟨by kernel_rfl,by simp,by simp,(aE.data ((Cx w hw hn hx).mono ?_) (by simp)).mono λ_ _ h=>h.1⟩;rintro r L ⟨rfl,rfl⟩;refine⟨_,rfl,?_⟩;simp[tY,wS,aj.enc]
theorem Pr(w:aj)(hw:w.wf){ls:Int->List Int}(hn:ec w.tree w.ah.length ls)(x:Int):Pure prog 98 [.agg (w.enc.map .d),iD x] (.bA [.agg ((fB w x).1.enc.map .d),iD (fB w x).2]):=by
 unfold fB;cases hx:bU w.ah.length x with
 | false=>exact MK w hw hx
 | true=>exact MM w hw hn hx
theorem VC(w:aj)(hw:w.wf){ls:Int->List Int}(hn:ec w.tree w.ah.length ls)(x to:Int):Pure prog 97 [.agg (w.enc.map .d),iD x,iD to] (.bA [.agg ((kZ w x to).1.enc.map .d),iD (kZ w x to).2]):=by
 unfold kZ;cases hx:bU w.ah.length x with
 | false=>
   refine rn func97 ?_;simp[-cB,f97]
   try intro(_:Nat->Nat)
   refine pC (bE w _) ?_;simp[-cB,hx];refine pG (bE w _) ?_;simp[-cB]
 | true=>
   cases pW:bU w.ah.length to with
   | false=>
     refine rn func97 ?_;simp[-cB,f97]
     try intro(_:Nat->Nat)
     refine pC (bE w _) ?_;simp[-cB,hx];refine pG (bE w _) ?_;simp[-cB,pW]
   | true=>
     refine rn func97 ?_;simp[-cB,f97]
     try intro(_:Nat->Nat)
     refine pC (bE w _) ?_;simp[-cB,hx];refine pG (bE w _) ?_;simp[-cB,pW];refine pC (Kf w hw _ _) ?_;simp[-cB];by_cases hm:x∈ik w.tree to
     ·simp[-cB,hm]
     ·have hl:=Cx w hw hn hx;have h:vK w:=vK.Te hw hn;have hC:=h.hC;have hN:=h.hN;unfold wS at hl;have hb:=aY.1 hx;have xQ:=aY.1 pW;have h1:=qw w x;have h2:=Hf w x;have h3:=Hg w x;have hT:bU (cx w x).Child.length to=true:=by rw[h2,hC];exact pW
      have nV:=eo hT;simp[-cB,hm];refine eD [] hl ?_;simp[-cB,tY];refine⟨⟨by omega,by omega⟩,by omega,?_⟩;refine av.aT [Q0,Q0,Q0,Q0,Q0,Q0,Q0,Q0,Q0,none] [] aS (by kernel_rfl) ?_;simp[-cB,nV,h1,h2,h3];exact⟨⟨by omega,by omega⟩,by omega,⟨by omega,by omega⟩,by omega,⟨by omega,by omega⟩,by omega,rfl⟩
def DP(a b:Int):Int:=IntKind.wrap .u64 ((BitVec.ofInt IntKind.u64.bits a) ^^^ (BitVec.ofInt IntKind.u64.bits b)).toNat
def DR(a:Int)(k:Nat):Int:=a.fdiv (2^(min k IntKind.u64.bits))
def VD(a:Int)(k:Nat):Int:=IntKind.wrap .u64 (a *2^(min k IntKind.u64.bits))
def Ps(s:Int):Int:=if s=0 then 1 else s
def vq(s:Int):Int:=
 let s0:=Ps s
 let s1:=DP s0 (DR s0 12)
 let s2:=DP s1 (VD s1 25)
 DP s2 (DR s2 27)
def lP(s:Int):Int:=IntKind.wrap .u32 (DR (IntKind.wrap .u64 (vq s *2685821657736338717)) 32)
def kF(s n:Int):Int×Int:=if n<1 then(0,s)else((lP s) % n,vq s)
theorem aej(n:Int):0<=IntKind.wrap .u32 n/\IntKind.wrap .u32 n<4294967296:=by
 unfold IntKind.wrap;simp[IntKind.signed,IntKind.bits];omega
theorem Km(n:Int):0<=IntKind.wrap .u64 n/\IntKind.wrap .u64 n<18446744073709551616:=by
 unfold IntKind.wrap;simp[IntKind.signed,IntKind.bits];omega
theorem iu{n:Int}(h:0<=n/\n<18446744073709551616):IntKind.wrap .u64 n=n:=by
 unfold IntKind.wrap;simp[IntKind.signed,IntKind.bits];omega
theorem Tg(s:Int):0<=lP s/\lP s<4294967296:=aej _
theorem wT(s:Int):Pure prog 218 [.d (.v (.int .u64 s))] (.d (.v (.int .u64 (vq s)))):=by
 unfold vq Ps;refine rn func218 ?_;simp[-cB,f218]
 repeat' (first
  | (with_reducible refine And.intro ?_ ?_)
  | ((first|(refine aw (λh=>?_) (λh=>?_)<;>(try simp at h))|refine pC Pure.none ?_|refine lC Pure.none ?_|refine pG Pure.none ?_)<;>(try simp[-cB, *]))
  | (with_reducible intro _))
 all_goals simp[DP,DR,VD, *]
theorem RK(s:Int):Pure prog 217 [.d (.v (.int .u64 s))] (.d (.v (.int .u32 (lP s)))):=by
 unfold lP;refine rn func217 ?_;simp[-cB,f217]
 try intro(_:Nat->Nat)
 repeat' (first
  | (with_reducible refine And.intro ?_ ?_)
  | ((first|(refine aw (λh=>?_) (λh=>?_)<;>(try simp at h))|refine pC (wT _) ?_|refine lC (wT _) ?_|refine pG (wT _) ?_)<;>(try simp[-cB, *,DR]))
  | (with_reducible intro _))
theorem z6(s n:Int):Pure prog 165 [.d (.v (.int .u64 s)),iD n] (.bA [iD (kF s n).1,.d (.v (.int .u64 (kF s n).2))]):=by
 have h1:=(RK s).ok;have h2:=(wT s).ok;have hb:=Tg s;have hw:IntKind.wrap .i64 (lP s)=lP s:=wrap64 iW;unfold kF;refine rn func165 ?_;simp[-cB,f165]
 repeat' (first
  | (with_reducible refine And.intro ?_ ?_)
  | ((first|(refine aw (λh=>?_) (λh=>?_)<;>(try simp at h))|refine pC Pure.none ?_|refine lC Pure.none ?_|refine pG Pure.none ?_)<;>(try simp[-cB, *]))
  | (with_reducible intro _))
 ·have hm:(lP s).tmod n=lP s % n:=apz hb.1;refine av.bT [.d (.v (.int .u32 (lP s))),.d (.v (.int .u64 (vq s)))] aS (by kernel_rfl) (by rfl) ?_;simp[-cB,h1,h2,hw,hm,show ¬n<1 by omega];omega
theorem Pv(s:Int):Pure prog 280 [.d (.v (.int .u64 s))] (.d (.v (.int .u64 (Ps s)))):=by
 unfold Ps;refine rn func280 ?_;simp[-cB,f280]
 repeat' (first
  | (with_reducible refine And.intro ?_ ?_)
  | ((first|(refine aw (λh=>?_) (λh=>?_)<;>(try simp at h))|refine pC Pure.none ?_|refine lC Pure.none ?_|refine pG Pure.none ?_)<;>(try simp[-cB, *]))
  | (with_reducible intro _))
theorem Th(h b:Nat)(x:Int)(k:Nat)(hk:(k:Int)<64):aE prog 281 [.d (.v (.int .u64 k)),.bp h 0] [(h,.box (b+1) 32 [.d (.v (.int .u64 x))])] (λr L'=>r= .ret (.bA [])/\L'=[(h,.box (b+1) 32 [.d (.v (.int .u64 (DP x (DR x k))))])]):=by
 refine aE.run func281 rfl (by simp[f281]) ?_;simp[f281];simp[DP,DR]
theorem ahx(h b:Nat)(x:Int)(k:Nat)(hk:(k:Int)<64):aE prog 282 [.d (.v (.int .u64 k)),.bp h 0] [(h,.box (b+1) 32 [.d (.v (.int .u64 x))])] (λr L'=>r= .ret (.bA [])/\L'=[(h,.box (b+1) 32 [.d (.v (.int .u64 (DP x (VD x k))))])]):=by
 refine aE.run func282 rfl (by simp[f282]) ?_;simp[f282];simp[DP,VD]
theorem Ff(s:Int):Pure prog 247 [.d (.v (.int .u64 s))] (.d (.v (.int .u64 (vq s)))):=by
 refine rn func247 ?_;simp[-cB,f247];intro bs
 repeat' (first
  | (with_reducible refine And.intro ?_ ?_)
  | ((first|(refine aw (λh=>?_) (λh=>?_)<;>(try simp at h))|refine pC (Pv _) ?_|refine lC (Pv _) ?_|refine pG (Pv _) ?_)<;>(try simp[-cB, *]))
  | (with_reducible intro _))
 refine ay.u1 [1] rfl (Th 1 (bs 0) (Ps s) 12 (by decide)) (by simp) rfl (by simp) rfl (by kernel_rfl) (by first|rfl|simp) (by simp) (by simp) (by simp) (by simp) ?_;simp;refine ay.u1 [1] rfl (ahx 1 (bs 0) _ 25 (by decide)) (by simp) rfl (by simp) rfl (by kernel_rfl) (by first|rfl|simp) (by simp) (by simp) (by simp) (by simp) ?_;simp;refine ay.u1 [1] rfl (Th 1 (bs 0) _ 27 (by decide)) (by simp) rfl (by simp) rfl (by kernel_rfl) (by first|rfl|simp) (by simp) (by simp) (by simp) (by simp) ?_;simp[vq]
theorem abJ(s:Int):Pure prog 246 [.d (.v (.int .u64 s))] (.d (.v (.int .u32 (lP s)))):=by
 unfold lP;refine rn func246 ?_;simp[-cB,f246]
 try intro(_:Nat->Nat)
 repeat' (first
  | (with_reducible refine And.intro ?_ ?_)
  | ((first|(refine aw (λh=>?_) (λh=>?_)<;>(try simp at h))|refine pC (Ff _) ?_|refine lC (Ff _) ?_|refine pG (Ff _) ?_)<;>(try simp[-cB, *,DR]))
  | (with_reducible intro _))
theorem Hj(s n:Int)(hn:aM .i64 n):Pure prog 210 [.d (.v (.int .u64 s)),iD n] (.bA [iD (kF s n).1,.d (.v (.int .u64 (kF s n).2))]):=by
 have h1:=(abJ s).ok;have h2:=(Ff s).ok;have hb:=Tg s;have hw:IntKind.wrap .u64 (lP s)=lP s:=iu (by omega);rw[aU]at hn;unfold kF;refine rn func210 ?_;simp[-cB,f210]
 repeat' (first
  | (with_reducible refine And.intro ?_ ?_)
  | ((first|(refine aw (λh=>?_) (λh=>?_)<;>(try simp at h))|refine pC Pure.none ?_|refine lC Pure.none ?_|refine pG Pure.none ?_)<;>(try simp[-cB, *]))
  | (with_reducible intro _))
 ·have hm:(lP s).tmod n=lP s % n:=apz hb.1;have hv:IntKind.wrap .u64 n=n:=iu (by omega);have hx:0<=lP s % n/\lP s % n<n:=⟨Int.emod_nonneg _ (by omega),Int.emod_lt_of_pos _ (by omega)⟩
  have hy:IntKind.wrap .i64 (lP s % n)=lP s % n:=wrap64 iW;refine av.bT [.d (.v (.int .u32 (lP s))),.d (.v (.int .u64 (vq s)))] aS (by kernel_rfl) (by rfl) ?_;simp[-cB,h1,h2,hw,hm,hv,hy,show ¬n<1 by omega];omega
def ey(b:Bool):Int:=if b then 1 else 0
def dh(w:aj)(iQ x:Int):Int×Int:=
 if iQ=1\/iQ=2\/iQ=3 then
  if bU w.ah.length (ar x)then((if iQ=1 then aH w.ah (ar x)else if iQ=2 then aH w.Child (ar x)else aH w.Next (ar x)),0)else(0,11)
 else(0,16)
def og(w:aj)(e:dx)(iQ:Int):Int×Int:=
 if iQ=1 then(dj w.tree 1,0)else if iQ=2 then(1,0)else if iQ=3 then(ar e.qn,0)else if iQ=4 then(ar e.Second,0)else if iQ=5 then(ar e.Number,0)else if iQ=6 then(ar w.Score,0)else(0,16)
theorem jR(b:Bool):Pure prog 160 [oD b] (iD (ey b)):=by
 unfold ey;cases b
 ·refine rn func160 ?_;simp[-cB,f160]
 ·refine rn func160 ?_;simp[-cB,f160]
theorem qz(n:Int):Pure prog 105 [iD n] (iD (ey (decide (ar n=0)))):=by
 refine rn func105 ?_;simp[-cB,f105]
 try intro(_:Nat->Nat)
 repeat' (first
  | (with_reducible refine And.intro ?_ ?_)
  | ((first|(refine aw (λh=>?_) (λh=>?_)<;>(try simp at h))|refine pC (aQ _) ?_|refine pC (jR _) ?_|refine lC (aQ _) ?_|refine lC (jR _) ?_|refine pG (aQ _) ?_|refine pG (jR _) ?_)<;>(try simp[-cB, *]))
  | (with_reducible intro _))
theorem afW(n:Int):Pure prog 137 [iD n] (iD (ey (decide (ar n=0)))):=by
 unfold ey;refine rn func137 ?_;simp[-cB,f137]
 try intro(_:Nat->Nat)
 repeat' (first
  | (with_reducible refine And.intro ?_ ?_)
  | ((first|(refine aw (λh=>?_) (λh=>?_)<;>(try simp at h))|refine pC (cC _) ?_|refine lC (cC _) ?_|refine pG (cC _) ?_)<;>(try simp[-cB, *]))
  | (with_reducible intro _))
theorem VE(w:aj)(hC:w.Child.length=w.ah.length)(hN:w.Next.length=w.ah.length)(iQ x:Int):Pure prog 109 [.agg (w.enc.map .d),iD iQ,iD x] (eI (dh w iQ x)):=by
 unfold dh eI;generalize hy:ar x=y;cases hT:bU w.ah.length y
 all_goals
  try have g1:=eo hT
  try have g2:=eo (l:=w.Child) (by rw[hC];exact hT)
  try have g3:=eo (l:=w.Next) (by rw[hN];exact hT)
  try have hb:=aY.1 hT
  refine rn func109 ?_;simp[-cB,f109]
  try intro(_:Nat->Nat)
  repeat' (first
   | (with_reducible refine And.intro ?_ ?_)
   | ((first|(refine aw (λh=>?_) (λh=>?_)<;>(try simp at h))|refine pC (aQ _) ?_|refine pC (bE w _) ?_|refine lC (aQ _) ?_|refine lC (bE w _) ?_|refine pG (aQ _) ?_|refine pG (bE w _) ?_)<;>(try simp[-cB, *]))
   | (with_reducible intro _))
  all_goals first|omega|grind
theorem Kn(w:aj)(hC:w.Child.length=w.ah.length)(hN:w.Next.length=w.ah.length)(iQ x:Int):Pure prog 141 [.agg (w.enc.map .d),iD iQ,iD x] (eI (dh w iQ x)):=by
 unfold dh eI;generalize hy:ar x=y;have hw:iQ=1\/iQ=2\/iQ=3\/(¬iQ=1/\¬iQ=2/\¬iQ=3):=by omega
 rcases hw with rfl|rfl|rfl|⟨a1,a2,a3⟩<;>cases hT:bU w.ah.length y
 all_goals
  try have g1:=eo hT
  try have g2:=eo (l:=w.Child) (by rw[hC];exact hT)
  try have g3:=eo (l:=w.Next) (by rw[hN];exact hT)
  try have hb:=aY.1 hT
  refine rn func141 ?_;simp[-cB,f141]
  try intro(_:Nat->Nat)
  repeat' (first
   | (with_reducible refine And.intro ?_ ?_)
   | ((first|(refine aw (λh=>?_) (λh=>?_)<;>(try simp at h))|refine pC (cC _) ?_|refine pC (dM w _) ?_|refine lC (cC _) ?_|refine lC (dM w _) ?_|refine pG (cC _) ?_|refine pG (dM w _) ?_)<;>(try simp[-cB, *]))
   | (with_reducible intro _))
  all_goals first|omega|contradiction|grind
theorem abK(t:Tree)(x:Int):0<=dj t x/\(dj t x=0\/dj t x<t.bn.length):=by
 unfold dj;cases h:(ik t x).getLast? with
 | none=>rw[aqB,h];exact⟨ap4 _,.inl rfl⟩
 | some y=>
   rw[aqB,h];have hm:=arc h;have:=mJ hm;simp only[ap3];omega
theorem VF(w:aj)(hw:w.wf)(e:dx)(iQ:Int):Pure prog 102 [.agg (w.enc.map .d),.agg (e.enc.map .d),iD iQ] (eI (og w e iQ)):=by
 unfold og eI;refine rn func102 ?_;simp[-cB,f102]
 try intro(_:Nat->Nat)
 repeat' (first
  | (with_reducible refine And.intro ?_ ?_)
  | ((first|(refine aw (λh=>?_) (λh=>?_)<;>(try simp at h))|refine pC (aQ _) ?_|refine pC (sb w hw _) ?_|refine lC (aQ _) ?_|refine lC (sb w hw _) ?_|refine pG (aQ _) ?_|refine pG (sb w hw _) ?_)<;>(try simp[-cB, *]))
  | (with_reducible intro _))
theorem Ti(w:aj)(hw:w.wf)(hn:w.ah.length<=32768)(e:dx)(iQ:Int):Pure prog 134 [.agg (w.enc.map .d),.agg (e.enc.map .d),iD iQ] (eI (og w e iQ)):=by
 unfold og eI;refine rn func134 ?_;simp[-cB,f134]
 try intro(_:Nat->Nat)
 have hb:=abK w.tree 1;have e1:w.tree.bn=w.ah:=rfl;rw[e1]at hb;have w1:ar (dj w.tree 1)=dj w.tree 1:=yc (by omega);have w2:ar 1=1:=yc (by omega);clear hb
 repeat' (first
  | (with_reducible refine And.intro ?_ ?_)
  | ((first|(refine aw (λh=>?_) (λh=>?_)<;>(try simp at h))|refine pC (cC _) ?_|refine pC (IY w hw _) ?_|refine lC (cC _) ?_|refine lC (IY w hw _) ?_|refine pG (cC _) ?_|refine pG (IY w hw _) ?_)<;>(try simp[-cB, *]))
  | (with_reducible intro _))
def jd(w:aj)(op a b:Int):Int×Int:=
 if op=1 then(ey (decide (ar a≠0)||decide (ar b≠0)),0)
 else if op=2 then(ey (decide (ar a≠0)&&decide (ar b≠0)),0)
 else if op=3 then(ey (decide (ar a=ar b)),0)
 else if op=4 then(ey (decide (ar a≠ar b)),0)
 else if op=5 then(ey (decide (ar a<ar b)),0)
 else if op=6 then(ey (decide (ar a<=ar b)),0)
 else if op=7 then(ey (decide (ar b<ar a)),0)
 else if op=8 then(ey (decide (ar b<=ar a)),0)
 else if op=9 then(if bU w.ah.length (ar a)then(ey (decide (aH w.ah (ar a)=ar b)),0)else(0,11))
 else if op=10 then(zV (ar a) (ar b),0)
 else if op=11 then(Vm (ar a) (ar b),0)
 else if op=12 then(mulM (ar a) (ar b),0)
 else if op=13 then Ka (ar a) (ar b)
 else if op=14 then Kb (ar a) (ar b)
 else(0,16)
theorem LG(w:aj)(op a b:Int):Pure prog 103 [.agg (w.enc.map .d),iD op,iD a,iD b] (eI (jd w op a b)):=by
 have hd:=YD (ar a) (ar b);have hm:=YE (ar a) (ar b);unfold eI at hd hm⊢;by_cases h9:op=9
 ·subst h9;simp only[jd];generalize hx:ar a=x;generalize hy:ar b=y;cases hT:bU w.ah.length x with
  | false=>
    refine rn func103 ?_;simp[-cB,f103]
    try intro(_:Nat->Nat)
    repeat' (first
     | (with_reducible refine And.intro ?_ ?_)
     | ((first|(refine aw (λh=>?_) (λh=>?_)<;>(try simp at h))|refine pC (aQ _) ?_|refine pC (bE w _) ?_|refine lC (aQ _) ?_|refine lC (bE w _) ?_|refine pG (aQ _) ?_|refine pG (bE w _) ?_)<;>(try simp[-cB, *]))
     | (with_reducible intro _))
  | true=>
    have hb:=aY.1 hT;have g1:=eo hT;refine rn func103 ?_;simp[-cB,f103]
    try intro(_:Nat->Nat)
    repeat' (first
     | (with_reducible refine And.intro ?_ ?_)
     | ((first|(refine aw (λh=>?_) (λh=>?_)<;>(try simp at h))|refine pC (aQ _) ?_|refine pC (bE w _) ?_|refine pC (jR _) ?_|refine lC (aQ _) ?_|refine lC (bE w _) ?_|refine lC (jR _) ?_|refine pG (aQ _) ?_|refine pG (bE w _) ?_|refine pG (jR _) ?_)<;>(try simp[-cB, *]))
     | (with_reducible intro _))
    all_goals (try omega)
 ·unfold jd;refine rn func103 ?_;simp[-cB,f103]
  try intro(_:Nat->Nat)
  repeat' (first
   | (with_reducible refine And.intro ?_ ?_)
   | ((first|(refine aw (λh=>?_) (λh=>?_)<;>(try simp at h))|refine pC (aQ _) ?_|refine pC (bE w _) ?_|refine pC (jR _) ?_|refine pC (zp _ _) ?_|refine pC (DF _ _) ?_|refine pC (DG _ _) ?_|refine pC hd ?_|refine pC hm ?_|refine lC (aQ _) ?_|refine lC (bE w _) ?_|refine lC (jR _) ?_|refine lC (zp _ _) ?_|refine lC (DF _ _) ?_|refine lC (DG _ _) ?_|refine lC hd ?_|refine lC hm ?_|refine pG (aQ _) ?_|refine pG (bE w _) ?_|refine pG (jR _) ?_|refine pG (zp _ _) ?_|refine pG (DF _ _) ?_|refine pG (DG _ _) ?_|refine pG hd ?_|refine pG hm ?_)<;>(try simp[-cB, *]))
   | (with_reducible intro _))
  all_goals rfl
theorem Tj(s:Int){n:Int}(h:1<=n):0<=(kF s n).1/\(kF s n).1<n:=by
 unfold kF;have h1:=Int.emod_nonneg (lP s) (show n≠0 by omega);have h2:=Int.emod_lt_of_pos (lP s) (show 0<n by omega);split
 ·omega
 ·exact⟨h1,h2⟩
theorem DS(w:aj)(n:Int):Pure prog 110 [.agg (w.enc.map .d),iD n] (if ar n<1 then .bA [iD 0,.agg (w.enc.map .d),iD 1]else .bA [iD ((kF w.cL (ar n)).1+1),.agg (({w with cL:=(kF w.cL (ar n)).2}:aj).enc.map .d),iD 0]):=by
 by_cases h:ar n<1
 ·rw[if_pos h];refine rn func110 ?_;simp[-cB,f110]
  try intro(_:Nat->Nat)
  repeat' (first
   | (with_reducible refine And.intro ?_ ?_)
   | ((first|(refine aw (λh=>?_) (λh=>?_)<;>(try simp at h))|refine pC (aQ _) ?_|refine lC (aQ _) ?_|refine pG (aQ _) ?_)<;>(try simp[-cB, *]))
   | (with_reducible intro _))
  refine av.aT [Q0,Q0,none,arF] [] aS (by kernel_rfl) ?_;simp[-cB]
 ·rw[if_neg h];unfold aj.enc;refine rn func110 ?_;simp[-cB,f110]
  try intro(_:Nat->Nat)
  repeat' (first
   | (with_reducible refine And.intro ?_ ?_)
   | ((first|(refine aw (λh=>?_) (λh=>?_)<;>(try simp at h))|refine pC (aQ _) ?_|refine pC (z6 _ _) ?_|refine lC (aQ _) ?_|refine lC (z6 _ _) ?_|refine pG (aQ _) ?_|refine pG (z6 _ _) ?_)<;>(try simp[-cB, *]))
   | (with_reducible intro _))
  have hmb:=Tj w.cL (n:=ar n) (by omega);have hwb:=cS n;have cp:aM .i64 ((kF w.cL (ar n)).1+1):=iW;refine av.aT [Q0,Q0,Q0,Q0,none,arF] [] aS (by kernel_rfl) ?_;simp[-cB,cp]
theorem LH(w:aj)(n:Int):Pure prog 142 [.agg (w.enc.map .d),iD n] (if ar n<1 then .bA [iD 0,.agg (w.enc.map .d),iD 1]else .bA [iD ((kF w.cL (ar n)).1+1),.agg (({w with cL:=(kF w.cL (ar n)).2}:aj).enc.map .d),iD 0]):=by
 by_cases h:ar n<1
 ·rw[if_pos h];refine rn func142 ?_;simp[-cB,f142]
  try intro(_:Nat->Nat)
  repeat' (first
   | (with_reducible refine And.intro ?_ ?_)
   | ((first|(refine aw (λh=>?_) (λh=>?_)<;>(try simp at h))|refine pC (cC _) ?_|refine lC (cC _) ?_|refine pG (cC _) ?_)<;>(try simp[-cB, *]))
   | (with_reducible intro _))
  refine av.aT [Q0,Q0,none,arF] [] aS (by kernel_rfl) ?_;simp[-cB]
 ·rw[if_neg h];unfold aj.enc;refine rn func142 ?_;simp[-cB,f142]
  try intro(_:Nat->Nat)
  repeat' (first
   | (with_reducible refine And.intro ?_ ?_)
   | ((first|(refine aw (λh=>?_) (λh=>?_)<;>(try simp at h))|refine pC (cC _) ?_|refine ay.bC rfl (Hj _ _ (by have:=cS n;rw[aU];omega)) rfl rfl (by simp) rfl ?_|refine lC (cC _) ?_|refine ay.IB rfl (Hj _ _ (by have:=cS n;rw[aU];omega)) rfl (by simp) rfl rfl (by simp) rfl ?_|refine pG (cC _) ?_|refine ay.ss rfl (λh=>Hj _ _ (by have:=cS n;rw[aU];omega)) rfl (by first|rfl|(simp;rfl)) (by simp) (by simp) rfl ?_)<;>(try simp[-cB, *]))
   | (with_reducible intro _))
  have hmb:=Tj w.cL (n:=ar n) (by omega);have hwb:=cS n;have cp:aM .i64 ((kF w.cL (ar n)).1+1):=iW;refine av.aT [Q0,Q0,Q0,Q0,none,arF] [] aS (by kernel_rfl) ?_;simp[-cB,cp]
structure XC where
 B:cM
 E:dx
 M:Int
structure XS where
 W:aj
 Out:ByteArray
 Wr:Bool
 Fuel:Int
 Dp:Int
 Ls:List Int
inductive OC where
 | bO (n:Int)
 | ret (n:Int)
 | bH (e:Int)
 | over
abbrev fM{α:Type}(l:List α)(i:Int):Prop:=0<=i/\i<l.length
abbrev zy{α:Type}(l:List α):Prop:=l.length<=1000000
def aB(l:List Int)(i:Int):Int:=l[i.toNat]?.getD 0
def okW(c:XC)(w:aj):Bool:=cA c.B.Tables w&&decide (0<=w.cL/\w.cL<18446744073709551616)
def gE(n:Nat):ByteArray:=if n<10 then⟨#[UInt8.ofNat (48+n)]⟩else gE (n / 10)++⟨#[UInt8.ofNat (48+n % 10)]⟩
def uQ(n:Int):ByteArray:=if n<0 then⟨#[45]⟩++gE n.natAbs else gE n.natAbs
def oF(t:aq)(i:Int):ByteArray:=if i<0\/(t.fP.length:Int)<=i then⟨#[]⟩else t.fP[i.toNat]?.getD ⟨#[]⟩
def VG:ByteArray:=⟨#[110,111,116,104,105,110,103]⟩
def dB(t:aq)(x:Int):ByteArray:=if x<1\/(t.az.length:Int)<=x then VG else oF t (bx t x).kx
def cU(w:aj)(x:Int)(f:Nat):Bool:=bU w.ah.length x&&decide (aB w.Flags x / (2^f:Nat) % 2=1)
def iK(w:aj)(x:Int):List Int:=(bw w.tree x).filter λy=>!cU w y 3&&decide (y≠1)
def u6:List ByteArray->ByteArray
 | []=>VG
 | [a]=>a
 | [a,b]=>a++⟨#[32,97,110,100,32]⟩++b
 | a::l=>a++⟨#[44,32]⟩++u6 l
def sw(t:aq)(w:aj)(x:Int):ByteArray:=u6 ((iK w x).map (dB t))
def tZ(w:aj)(x:Int):Bool:=!cU w x 2||cU w x 1
def jG(w:aj):Nat->Int->List Int
 | 0,_=> []
 | d+1,x=>(bw w.tree x).flatMap λy=>if cU w y 3 then []else y::(if tZ w y then jG w d y else [])
def cN(w:aj):Int:=dj w.tree 1
def Hk(w:aj):Bool:=cU w (cN w) 0||(jG w w.ah.length (cN w)).any λy=>cU w y 0
def wU(t:aq)(w:aj):ByteArray:=
 if Hk w then dB t (cN w)++⟨#[10]⟩++(if(bx t (cN w)).Text≠ -1 then oF t (bx t (cN w)).Text++⟨#[10]⟩else⟨#[]⟩)++(if iK w (cN w)≠ []then⟨#[89,111,117,32,115,101,101,32]⟩++sw t w (cN w)++⟨#[46,10]⟩else⟨#[]⟩)
 else⟨#[73,116,32,105,115,32,100,97,114,107,46,10]⟩
def UC(w:aj)(x f:Int):Int×Int:=(if cz w x f=0 then ey (cU w x f.toNat)else 0,cz w x f)
def eb(w:aj)(x f:Int)(on:Bool):aj×Int:=
 if cz w x f=0 then(if cU w x f.toNat=on then w else {w with Flags:=w.Flags.set x.toNat (if on then aB w.Flags x+(2^f.toNat:Nat)else aB w.Flags x-(2^f.toNat:Nat))},0)else(w,cz w x f)
def da(t:aq)(x:Int):Bool:=decide (1<=x)&&decide (x<t.az.length)&&(bx t x).Room
def pQ(t:aq)(p:aj×Int):aj×Int:=if p.2=0/\da t (dj p.1.tree 1)=false then(p.1,12)else p
def kY(t:aq)(w:aj)(x to:Int):aj×Int:=if da t x=true then(w,12)else pQ t (kZ w x to)
def iH(t:aq)(w:aj)(x:Int):aj×Int:=if da t x=true\/x=1 then(w,12)else pQ t (fB w x)
def z7(σ:XS)(s:ByteArray):Option (XS×OC):=if σ.Out.size+s.size<=140737488355328 then some ({σ with Out:=σ.Out++s,Wr:=true},.bO 0)else none
def ua(c:XC)(σ:XS):Option (XS×OC):=if 0<=σ.Fuel/\σ.Fuel<=1099511627776 then if c.M<σ.Fuel+1 then some (σ,.bH 19)else some ({σ with Fuel:=σ.Fuel+1},.bO 0)else none
def jv{α:Type}(w:α)(p:Int×Int):α×OC:=if p.2=0 then(w,.bO p.1)else(w,.bH p.2)
def jc(w:aj)(p:aj×Int):aj×OC:=if p.2=0 then(p.1,.bO 0)else(w,.bH p.2)
def di(c:XC)(w:aj)(k n:Int)(a:List Int):Option (aj×OC):=
 if okW c w=false then none
 else if k=1 then some (w,.bO n)
 else if k=14 then(if fM w.aP n then some (w,.bO (aB w.aP n))else none)
 else if k=12 then some (jv w (og w c.E n))
 else if a.length=0 then none
 else if k=4 then some (w,.bO (rL (aB a 0)))
 else if k=5 then some (w,.bO (ey (decide (ar (aB a 0)=0))))
 else if k=16 then some (jv w (UC w (aB a 0) n))
 else if k=17 then some (jv w (tI c.B.Tables w (aB a 0) n))
 else if k=10 then some (jv w (dh w n (aB a 0)))
 else if k=11 then(if ar (aB a 0)<1 then some (w,.bH 1)else some ({w with cL:=(kF w.cL (ar (aB a 0))).2},.bO ((kF w.cL (ar (aB a 0))).1+1)))
 else if a.length=1 then none
 else if k=6 then some (jv w (jd w n (aB a 0) (aB a 1)))
 else none
def lQ(e:ax):Int:=if e.Kind=6\/e.Kind=10\/e.Kind=12 then e.Op else e.aK
def Ko(c:XC)(σ:XS)(e:ax)(a:List Int):Option (XS×OC):=
 if e.Kind=15 then(if fM σ.Ls e.aK then some (σ,.bO (aB σ.Ls e.aK))else none)
 else(di c σ.W e.Kind (lQ e) a).map λp=>({σ with W:=p.1},p.2)
def cG(c:XC)(w:aj)(k num:Int)(a:List Int):Option (aj×OC):=
 if okW c w=false then none
 else if k=13 then some (w,.over)
 else if k=14 then some ({w with ij:=1},.over)
 else if k=15 then some ({w with ij:=2},.over)
 else if k=18 then(if fM w.bc num then some ({w with bc:=w.bc.set num.toNat 0},.bO 0)else none)
 else if a.length=0 then none
 else if k=19 then some (w,.bO 0)
 else if k=5 then some (jc w (eb w (aB a 0) num true))
 else if k=6 then some (jc w (eb w (aB a 0) num false))
 else if k=8 then some (jc w (iH c.B.Tables w (aB a 0)))
 else if k=16 then some ({w with Score:=zV w.Score (aB a 0)},.bO 0)
 else if k=17 then(if fM w.bc num then some ({w with bc:=w.bc.set num.toNat (if aB a 0<1 then 1 else aB a 0)},.bO 0)else none)
 else if k=20 then(if aB a 0<1\/12<aB a 0 then some (w,.bH 5)else some ({w with Go:=aB a 0},.bO 0))
 else if k=23 then(if fM w.aP num then some ({w with aP:=w.aP.set num.toNat (aB a 0)},.bO 0)else none)
 else if a.length=1 then none
 else if k=4 then some (jc w (mY c.B.Tables w (aB a 0) num (aB a 1)))
 else if k=7 then some (jc w (kY c.B.Tables w (aB a 0) (aB a 1)))
 else none
def Kp(c:XC)(σ:XS)(k num:Int)(a:List Int):Option (XS×OC):=
 if k=21 then(if okW c σ.W=true then z7 σ (wU c.B.Tables σ.W)else none)
 else if k=22 then(if okW c σ.W=true/\0<a.length then z7 σ (sw c.B.Tables σ.W (aB a 0))else none)
 else(cG c σ.W k num a).map λp=>({σ with W:=p.1},p.2)
def mN(p:XS×OC):XS×OC:=match p.2 with
 | .bO n=>(p.1,.bO (ar n))
 | _=>p
mutual
def dR(c:XC):Nat->XS->ax->Option (XS×OC)
 | 0,_,_=>none
 | g+1,σ,e=>
   if e.Kind=6/\(e.Op=1\/e.Op=2)then
    match e.aF with
    | x::y::_=>match dR c g σ x with
      | some (aR,.bO l)=>if decide (l≠0)=decide (e.Op=1)then some (aR,.bO (ey (decide (l≠0))))else match dR c g aR y with
        | some (cj,.bO r)=>some (cj,.bO (ey (decide (r≠0))))
        | r=>r
      | r=>r
    | _=>none
   else if ¬zy e.aF then none else match dO c g σ e.aF with
    | some (aR,.inl a)=>if e.Kind=18 then(if fM c.B.Tables.cV e.aK then(jh c g aR (aB c.B.Tables.cV e.aK) a).map mN else none)else(Ko c aR e a).map mN
    | some (aR,.inr o)=>some (aR,o)
    | none=>none
def dO(c:XC):Nat->XS->List ax->Option (XS×(List Int ⊕ OC))
 | 0,_,_=>none
 | _+1,σ,[]=>some (σ,.inl [])
 | g+1,σ,e::l=>match dR c g σ e with
   | some (aR,.bO n)=>match dO c g aR l with
     | some (cj,.inl a)=>some (cj,.inl (n::a))
     | r=>r
   | some (aR,o)=>some (aR,.inr o)
   | none=>none
def jh(c:XC):Nat->XS->Int->List Int->Option (XS×OC)
 | 0,_,_,_=>none
 | g+1,σ,r,a=>
   if σ.Dp<0 then none else if 32<=σ.Dp then some (σ,.bH 17)else
   if fM c.B.Tables.aL r/\fM c.B.aO r/\(a.length:Int)<=aB c.B.Tables.aL r/\aB c.B.Tables.aL r<=1000/\zy (c.B.aO[r.toNat]?.getD [])then
    match dY c g {σ with Dp:=σ.Dp+1,Ls:=a.map ar++List.replicate ((aB c.B.Tables.aL r).toNat-a.length) 0} (c.B.aO[r.toNat]?.getD [])with
    | some (aR,o)=>some ({aR with Dp:=aR.Dp-1,Ls:=σ.Ls},match o with|.bO _=> .bO 0|.ret n=> .bO n|o=>o)
    | none=>none
   else none
def dY(c:XC):Nat->XS->List an->Option (XS×OC)
 | 0,_,_=>none
 | _+1,σ,[]=>some (σ,.bO 0)
 | g+1,σ,x::l=>match jy c g σ x with
   | some (aR,.bO _)=>dY c g aR l
   | r=>r
def jy(c:XC):Nat->XS->an->Option (XS×OC)
 | 0,_,_=>none
 | g+1,σ,x=>
   if x.Kind=10 then(if zy x.Body then gu c g σ x else none)else
   match ua c σ with
   | some (σ,.bO _)=>if ¬zy x.aF then none else if x.Kind=1 then jz c g σ x.aF else match dO c g σ x.aF with
     | some (aR,.inl a)=>ib c g aR x a
     | some (aR,.inr o)=>some (aR,o)
     | none=>none
   | r=>r
def jz(c:XC):Nat->XS->List ax->Option (XS×OC)
 | 0,_,_=>none
 | _+1,σ,[]=>some (σ,.bO 0)
 | g+1,σ,e::l=>
   match kG c g σ e with
   | some (aR,.bO _)=>jz c g aR l
   | r=>r
def kG(c:XC):Nat->XS->ax->Option (XS×OC)
 | 0,_,_=>none
 | g+1,σ,e=>
   if e.Kind=19 then z7 σ (oF c.B.Tables e.aK)
   else if e.Kind=13 then match e.aF with
    | x::_=>match dR c g σ x with
      | some (aR,.bO n)=>z7 aR (dB c.B.Tables n)
      | r=>r
    | []=>none
   else match dR c g σ e with
   | some (aR,.bO n)=>z7 aR (uQ n)
   | r=>r
def gu(c:XC):Nat->XS->an->Option (XS×OC)
 | 0,_,_=>none
 | g+1,σ,x=>
   match ua c σ with
   | some (σ,.bO _)=>match x.aF with
     | e::_=>match dR c g σ e with
       | some (aR,.bO n)=>if n=0 then some (aR,.bO 0)else match dY c g aR x.Body with
         | some (cj,.bO _)=>gu c g cj x
         | r=>r
       | r=>r
     | []=>none
   | r=>r
def fj(c:XC):Nat->XS->an->Option (XS×OC)
 | 0,_,_=>none
 | g+1,σ,x=>
   if fM σ.Ls x.aK/\fM σ.Ls (x.aK+1)/\x.aK<=1000000/\okW c σ.W=true then
    if aB σ.Ls x.aK=0 then some (σ,.bO 0)else
    match ua c σ with
    | some (σ,.bO _)=>
      if(dh σ.W 3 (aB σ.Ls x.aK)).2≠0 then some (σ,.bH (dh σ.W 3 (aB σ.Ls x.aK)).2)else
      match dY c g {σ with Ls:=σ.Ls.set (x.aK+1).toNat (dh σ.W 3 (aB σ.Ls x.aK)).1} x.Body with
      | some (cj,.bO _)=>fj c g {cj with Ls:=cj.Ls.set x.aK.toNat (aB cj.Ls (x.aK+1))} x
      | r=>r
    | r=>r
   else none
def ib(c:XC):Nat->XS->an->List Int->Option (XS×OC)
 | 0,_,_,_=>none
 | g+1,σ,x,a=>
   if x.Kind=2\/x.Kind=3 then(if 0<a.length/\fM σ.Ls x.aK then some ({σ with Ls:=σ.Ls.set x.aK.toNat (aB a 0)},.bO 0)else none)
   else if x.Kind=9 then(if 0<a.length/\zy x.Body/\zy x.bW then dY c g σ (if aB a 0≠0 then x.Body else x.bW)else none)
   else if x.Kind=11 then(if 0 < a.length∧okW c σ.W=true∧fM σ.Ls x.aK∧zy x.Body then
     if(dh σ.W 2 (aB a 0)).2≠0 then some (σ,.bH (dh σ.W 2 (aB a 0)).2)else fj c g {σ with Ls:=σ.Ls.set x.aK.toNat (dh σ.W 2 (aB a 0)).1} x
    else none)
   else if x.Kind=12 then(if 0<a.length then some (σ,.ret (aB a 0))else none)
   else Kp c σ x.Kind x.aK a
end
structure MS where
 W:aj
 Out:ByteArray
 Fuel:Int
inductive Oc where
 | ret (n:Int) (σ:MS)
 | bH (e:Int) (σ:MS)
 | over (σ:MS)
inductive Ev where
 | ok (S L:List Int) (σ:MS)
 | bH (e:Int)
 | over (σ:MS)
inductive Nx where
 | go (r:List ai) (S L:List Int) (σ:MS) (k:Nat)
 | stop (o:Oc)
 | call (f:Int) (a S:List Int)
 | stuck
def after:List ai->Int->Option (List ai)
 | [],_=>none
 | i::r,n=>if i.Op=38/\i.Arg=n then some r else after r n
structure eX where
 J:ai->List Int->List Int->MS->Option Ev
 fn:Int->Int
 pa:Int->Nat
 lo:Int->List Int->List Int
def Nx.to(S L:List Int)(σ:MS):Option (List ai)->Nx
 | some r=> .go r S L σ 1
 | none=> .stuck
def Nx.zero(r:List ai)(L:List Int)(σ:MS)(t:Option (List ai)):List Int->Nx
 | v::S=>if ar v=0 then Nx.to S L σ t else .go r S L σ 1
 | []=> .stuck
def Nx.back(σ:MS):List Int->Nx
 | v::_=> .stop (.ret v σ)
 | []=> .stuck
def Nx.ev(r:List ai)(σ:MS):Option Ev->Nx
 | some (.ok S' L' σ')=> .go r S' L' σ' 1
 | some (.bH e)=> .stop (.bH e σ)
 | some (.over σ')=> .stop (.over σ')
 | none=> .stuck
def nx(m:eX)(d:Nat)(l:List ai)(i:ai)(r:List ai)(S L:List Int)(σ:MS):Nx:=
 if i.Op=38 then .go r S L σ 0
 else if i.Op=24 then Nx.to S L σ (after l i.Arg)
 else if i.Op=25 then Nx.zero r L σ (after l i.Arg) S
 else if i.Op=27 then Nx.back σ S
 else if i.Op=26 then(if 32<=d then(if 0<=m.fn i.Arg then .stop (.bH 17 σ)else .stuck)else if m.pa (m.fn i.Arg)<=S.length then .call (m.fn i.Arg) (S.take (m.pa (m.fn i.Arg))).reverse (S.drop (m.pa (m.fn i.Arg)))else .stuck)
 else Nx.ev r σ (m.J i S L σ)
theorem DT{m:eX}{d:Nat}{l:List ai}{i:ai}{r:List ai}{S L:List Int}{σ:MS}(h:i.Op=38):nx m d l i r S L σ= .go r S L σ 0:=by simp[nx,h]
theorem vZ{m:eX}{d:Nat}{l:List ai}{i:ai}{r:List ai}{S L:List Int}{σ:MS}(h:i.Op=24):nx m d l i r S L σ=Nx.to S L σ (after l i.Arg):=by simp[nx,h]
theorem sN{m:eX}{d:Nat}{l:List ai}{i:ai}{r:List ai}{S L:List Int}{σ:MS}(h:i.Op=25):nx m d l i r S L σ=Nx.zero r L σ (after l i.Arg) S:=by simp[nx,h]
theorem Kq{m:eX}{d:Nat}{l:List ai}{i:ai}{r:List ai}{S L:List Int}{σ:MS}(h:i.Op=27):nx m d l i r S L σ=Nx.back σ S:=by simp[nx,h]
theorem DU{m:eX}{d:Nat}{l:List ai}{i:ai}{r:List ai}{S L:List Int}{σ:MS}(h:i.Op=26):nx m d l i r S L σ=(if 32<=d then(if 0<=m.fn i.Arg then .stop (.bH 17 σ)else .stuck)else if m.pa (m.fn i.Arg)<=S.length then .call (m.fn i.Arg) (S.take (m.pa (m.fn i.Arg))).reverse (S.drop (m.pa (m.fn i.Arg)))else .stuck):=by simp[nx,h]
def flat(op:Int):Prop:=op≠38/\op≠24/\op≠25/\op≠27/\op≠26
theorem AL{m:eX}{d:Nat}{l:List ai}{i:ai}{r:List ai}{S L:List Int}{σ:MS}(h:flat i.Op):nx m d l i r S L σ=Nx.ev r σ (m.J i S L σ):=by
 obtain⟨h1,h2,h3,h4,h5⟩:=h;simp[nx,h1,h2,h3,h4,h5]
def run(m:eX)(P:Int->List ai):Nat->Nat->List ai->List ai->List Int->List Int->MS->Option (Oc×Nat)
 | 0,_,_,_,_,_,_=>none
 | _+1,_,_,[],_,_,_=>none
 | g+1,d,l,i::r,S,L,σ=>match nx m d l i r S L σ with
   | .go r' S' L' σ' k=>(run m P g d l r' S' L' σ').map λx=>(x.1,x.2+k)
   | .stop o=>some (o,1)
   | .call f a S'=>match run m P g (d+1) (P f) (P f) [] (m.lo f a) σ with
     | some (.ret v σ',k)=>(run m P g d l r (ar v::S') L σ').map λx=>(x.1,x.2+k+1)
     | some (o,k)=>some (o,k+1)
     | none=>none
   | .stuck=>none
theorem BH{m:eX}{P:Int->List ai}:∀(g g' d:Nat) (l r:List ai) (S L:List Int) (σ:MS) (x:Oc×Nat),g<=g'->run m P g d l r S L σ=some x->run m P g' d l r S L σ=some x:=by
 intro g
 induction g with
 | zero=>intro g' d l r S L σ x _ h;simp[run]at h
 | succ g ih=>
   intro g' d l r S L σ x hg h;obtain⟨g',rfl⟩:∃k,g'=k+1:=⟨g'-1,by omega⟩
   have hg:g<=g':=by omega
   cases r with
   | nil=>simp[run]at h
   | cons i r=>
     rw[run]at h⊢;cases hn:nx m d l i r S L σ with
     | go r' S' L' σ' k=>
       simp only[hn,ao8]at h⊢;obtain⟨y,h1,h2⟩:=h;exact⟨y,ih g' _ _ _ _ _ _ _ hg h1,h2⟩
     | stop o=>simp only[hn]at h⊢;exact h
     | stuck=>simp only[hn]at h;cases h
     | call f a S'=>
       simp only[hn]at h⊢;cases hc:run m P g (d+1) (P f) (P f) [] (m.lo f a) σ with
       | none=>rw[hc]at h;cases h
       | some y=>
         rw[ih g' _ _ _ _ _ _ _ hg hc];rw[hc]at h;obtain⟨o,k⟩:=y;cases o with
         | ret v σ'=>
           simp only[ao8]at h⊢;obtain⟨z,h1,h2⟩:=h;exact⟨z,ih g' _ _ _ _ _ _ _ hg h1,h2⟩
         | bH e σ'=>exact h
         | over σ'=>exact h
def sd(m:eX)(P P':Int->List ai)(l r l' r':List ai)(g:Nat):Prop:=
 ∀d S L σ o n,run m P g d l r S L σ=some (o,n)->∃g' n',n'<=n/\run m P' g' d l' r' S L σ=some (o,n')
theorem sd.nil(m:eX)(P P':Int->List ai)(l r l' r':List ai):sd m P P' l r l' r' 0:=by
 intro d S L σ o n h;simp[run]at h
theorem sd.step{m:eX}{P P':Int→List ai}{l r l' r':List ai}{i:ai}{g:Nat}(hP:∀f,sd m P P' (P f) (P f) (P' f) (P' f) g)(hr:sd m P P' l r l' r' g)
  (hj:i.Op=24\/i.Op=25->∀r1,after l i.Arg=some r1->∃pX,after l' i.Arg=some pX/\sd m P P' l r1 l' pX g):sd m P P' l (i::r) l' (i::r') (g+1):=by
 intro d S L σ o n h;rw[run]at h;have go:∀{r1 pX S1 L1 aR k},nx m d l' i r' S L σ= .go pX S1 L1 aR k->sd m P P' l r1 l' pX g->(run m P g d l r1 S1 L1 aR).map (λx=>(x.1,x.2+k))=some (o,n)->∃g' n',n'<=n/\run m P' g' d l' (i::r') S L σ=some (o,n'):=by
  intro r1 pX S1 L1 aR k hn hs hh;obtain⟨y,h1,h2⟩:=ao8.1 hh;obtain⟨yo,yn⟩:=y;simp only[ao7]at h2;obtain⟨rfl,rfl⟩:=h2;obtain⟨g',n',hle,tB⟩:=hs d S1 L1 aR _ yn h1;refine⟨g'+1,n'+k,by omega,?_⟩;rw[run,hn];simp only[tB,apB]
 by_cases kN:i.Op=38
 ·rw[DT kN]at h;exact go (DT kN) hr h
 have tgt:i.Op=24\/i.Op=25->∀S1,(match Nx.to S1 L σ (after l i.Arg)with
  | .go r' S' L' σ' k=>(run m P g d l r' S' L' σ').map λx=>(x.1,x.2+k)
  | .stop o=>some (o,1)
  | .call f a S'=>match run m P g (d+1) (P f) (P f) [] (m.lo f a) σ with
    | some (.ret v σ',k)=>(run m P g d l r (ar v::S') L σ').map λx=>(x.1,x.2+k+1)
    | some (o,k)=>some (o,k+1)
    | none=>none
  | .stuck=>none)=some (o,n)->nx m d l' i r' S L σ=Nx.to S1 L σ (after l' i.Arg)->∃g' n',n'<=n/\run m P' g' d l' (i::r') S L σ=some (o,n'):=by
  intro hi S1 h1 h2;cases ha:after l i.Arg with
  | none=>rw[ha]at h1;cases h1
  | some r1=>
    rw[ha]at h1;obtain⟨pX,CS,hs⟩:=hj hi r1 ha;rw[CS]at h2;exact go h2 hs h1
 by_cases jo:i.Op=24
 ·rw[vZ jo]at h;exact tgt (Or.inl jo) S h (vZ jo)
 by_cases nw:i.Op=25
 ·rw[sN nw]at h;cases S with
  | nil=>cases h
  | cons v S=>
    rw[Nx.zero]at h;by_cases hv:ar v=0
    ·rw[if_pos hv]at h;exact tgt (Or.inr nw) S h (by rw[sN nw,Nx.zero,if_pos hv])
    ·rw[if_neg hv]at h;exact go (by rw[sN nw,Nx.zero,if_neg hv]) hr h
 by_cases rV:i.Op=27
 ·rw[Kq rV]at h;cases S with
  | nil=>cases h
  | cons v S=>exact⟨1,n,api _,by rw[run,Kq rV];exact h⟩
 by_cases pP:i.Op=26
 ·rw[DU pP]at h;by_cases hd:32<=d
  ·rw[if_pos hd]at h;by_cases hf:0<=m.fn i.Arg
   ·rw[if_pos hf]at h;exact⟨1,n,api _,by rw[run,DU pP,if_pos hd,if_pos hf];exact h⟩
   ·rw[if_neg hf]at h;cases h
  by_cases hp:m.pa (m.fn i.Arg)<=S.length
  ·rw[if_neg hd,if_pos hp]at h;simp only at h;cases hc:run m P g (d+1) (P (m.fn i.Arg)) (P (m.fn i.Arg)) [] (m.lo (m.fn i.Arg) (S.take (m.pa (m.fn i.Arg))).reverse) σ with
   | none=>rw[hc]at h;cases h
   | some y=>
     obtain⟨yo,yk⟩:=y;obtain⟨g1,n1,hle,h1⟩:=hP _ _ _ _ _ _ _ hc;rw[hc]at h;cases yo with
     | ret v σ'=>
       simp only at h;obtain⟨z,hz,h2⟩:=ao8.1 h;obtain⟨zo,zn⟩:=z;simp only[ao7]at h2;obtain⟨rfl,rfl⟩:=h2;obtain⟨g2,n2,ajH,h2⟩:=hr _ _ _ _ _ _ hz;refine⟨g1+g2+1,n2+n1+1,by omega,?_⟩;rw[run,DU pP,if_neg hd,if_pos hp];simp only[BH g1 (g1+g2) _ _ _ _ _ _ _ (by omega) h1,BH g2 (g1+g2) _ _ _ _ _ _ _ (by omega) h2,apB]
     | bH x σ'=>
       simp only[anc,ao7]at h;obtain⟨rfl,rfl⟩:=h;exact⟨g1+1,n1+1,by omega,by rw[run,DU pP,if_neg hd,if_pos hp];simp only[h1]⟩
     | over σ'=>
       simp only[anc,ao7]at h;obtain⟨rfl,rfl⟩:=h;exact⟨g1+1,n1+1,by omega,by rw[run,DU pP,if_neg hd,if_pos hp];simp only[h1]⟩
  ·rw[if_neg hd,if_neg hp]at h;cases h
 have hf:flat i.Op:=⟨kN,jo,nw,rV,pP⟩
 rw[AL hf]at h;cases hJ:m.J i S L σ with
 | none=>rw[hJ]at h;cases h
 | some ev=>
   rw[hJ]at h;cases ev with
   | ok S' L' σ'=>exact go (by rw[AL hf,hJ];rfl) hr h
   | bH x=>exact⟨1,n,api _,by rw[run,AL hf,hJ];exact h⟩
   | over σ'=>exact⟨1,n,api _,by rw[run,AL hf,hJ];exact h⟩
inductive RP(p dX new q:List ai):List ai->List ai->Prop where
 | YZ (p1 p2:List ai):p=p1++p2->RP p dX new q (p2++(dX++q)) (p2++(new++q))
 | Pw (q1 q2:List ai):q=q1++q2->RP p dX new q q2 q2
structure LI(m:eX) (P P':Int->List ai) (p dX new q:List ai) (g:Nat):Prop where
 same:∀l r,sd m P P' l r l r g
 rel:∀r r',RP p dX new q r r'->sd m P P' (p++(dX++q)) r (p++(new++q)) r' g
theorem LI.fn{m:eX}{P P':Int->List ai}{p dX new q:List ai}{g:Nat}(h:LI m P P' p dX new q g)(hP:∀f,P f=P' f\/P f=p++(dX++q)/\P' f=p++(new++q))(f:Int):sd m P P' (P f) (P f) (P' f) (P' f) g:=by
 rcases hP f with h1|⟨h1,h2⟩
 ·rw[<-h1];exact h.same _ _
 ·rw[h1,h2];exact h.rel _ _ (.YZ [] p rfl)
theorem LI.run{m:eX}{P P':Int→List ai}{p dX new q:List ai}(hP:∀f,P f=P' f∨P f=p++(dX++q)∧P' f=p++(new++q))
  (ht:∀i∈p++q,i.Op=24\/i.Op=25->∀r1,after (p++(dX++q)) i.Arg=some r1->∃pX,after (p++(new++q)) i.Arg=some pX/\RP p dX new q r1 pX)
  (hh:∀g,(∀g1,g1<=g->LI m P P' p dX new q g1)->sd m P P' (p++(dX++q)) (dX++q) (p++(new++q)) (new++q) (g+1)):∀g,LI m P P' p dX new q g:=by
 intro g
 induction g using Nat.strongRecOn with
 | _ g ih=>
   cases g with
   | zero=>exact⟨λ_ _=>sd.nil _ _ _ _ _ _ _,λ_ _ _=>sd.nil _ _ _ _ _ _ _⟩
   | succ g=>
     have hg:=ih g (by omega);have tail:∀i∈p++q,∀r r',RP p dX new q r r'->sd m P P' (p++(dX++q)) (i::r) (p++(new++q)) (i::r') (g+1):=by
      intro i hi r r' h;refine sd.step (hg.fn hP) (hg.rel _ _ h) ?_;intro hj r1 h1;obtain⟨pX,h2,h3⟩:=ht i hi hj r1 h1;exact⟨pX,h2,hg.rel _ _ h3⟩
     refine⟨?_,?_⟩
     ·intro l r;cases r with
      | nil=>intro d S L σ o n h;simp[Go.Ab.run]at h
      | cons i r=>exact sd.step (hg.fn hP) (hg.same _ _) (λ_ r1 h=>⟨r1,h,hg.same _ _⟩)
     ·intro r r' h;cases h with
      | YZ p1 p2 hp=>
        cases p2 with
        | nil=>exact hh g (λg1 h1=>ih g1 (by omega))
        | cons i p2=>exact tail i (by rw[hp];simp) _ _ (.YZ (p1++ [i]) p2 (by simp[hp]))
      | Pw q1 hq=>
        cases r with
        | nil=>intro d S L σ o n h;simp[Go.Ab.run]at h
        | cons i q2=>
          rename_i hq;exact tail i (by rw[hq];simp) _ _ (.Pw (q1++ [i]) q2 (by simp[hq]))
def ky(l:List ai):Prop:=∀i∈l,i.Op≠38
theorem wV{a b:List ai}{n:Int}(h:∀i∈a,¬(i.Op=38/\i.Arg=n)):after (a++b) n=after b n:=by
 induction a with
 | nil=>rfl
 | cons i a ih=>rw[apm,after,if_neg (h i (by simp)),ih (λj hj=>h j (by simp[hj]))]
theorem DV:∀(l r:List ai) (n:Int),after l n=some r->∃a i,l=a++i::r/\i.Op=38/\i.Arg=n
 | [],r,n,h=>by simp[after]at h
 | i::l,r,n,h=>by
   rw[after]at h;split at h
   ·rename_i hi;simp only[anc]at h;subst h;exact⟨[],i,rfl,hi.1,hi.2⟩
   ·obtain⟨a,j,h1,h2⟩:=DV l r n h;exact⟨i::a,j,by rw[h1];rfl,h2⟩
theorem vL{p dX new q:List ai}{n:Int}(ho:∀i∈dX,¬(i.Op=38/\i.Arg=n))(hn:∀i∈new,¬(i.Op=38/\i.Arg=n)):∀(p1 p2:List ai),p=p1++p2->∀r1,after (p2++(dX++q)) n=some r1->∃pX,after (p2++(new++q)) n=some pX/\RP p dX new q r1 pX:=by
 intro p1 p2
 induction p2 generalizing p1 with
 | nil=>
   intro hp r1 h;rw[apK,wV ho]at h;rw[apK,wV hn];obtain⟨a,i,h1,_⟩:=DV _ _ _ h;exact⟨r1,h,.Pw (a++ [i]) r1 (by simp[h1])⟩
 | cons i p2 ih=>
   intro hp r1 h;rw[apm,after]at h;rw[apm,after];split at h
   ·rename_i hi;rw[if_pos hi];simp only[anc]at h;subst h;exact⟨_,rfl,.YZ (p1++ [i]) p2 (by simp[hp])⟩
   ·rename_i hi;rw[if_neg hi];exact ih (p1++ [i]) (by simp[hp]) r1 h
def gh(r:List ai)(k:Nat):Int:=(r[k]?.map ai.Op).getD 0
def bZ(r:List ai)(k:Nat):Int:=(r[k]?.map ai.Arg).getD 0
def notM(n:Int):Int:=ey (decide (ar n=0))
def lV(n:Int):List ai:=[⟨1,ar n⟩]
def oG(r:List ai):Option (Nat×List ai):=
 if gh r 0=1/\gh r 1=1/\gh r 2=8/\bZ r 2≠9/\(jd aj.zero (bZ r 2) (bZ r 0) (bZ r 1)).2=0 then some (3,lV (jd aj.zero (bZ r 2) (bZ r 0) (bZ r 1)).1)
 else if gh r 0≠1 then none
 else if gh r 1=9 then some (2,lV (rL (bZ r 0)))
 else if gh r 1=10 then some (2,lV (notM (bZ r 0)))
 else if gh r 1=11 then some (2,lV (1-notM (bZ r 0)))
 else none
def mO(r:List ai):Option (Nat×List ai):=
 if gh r 0=10/\gh r 1=10/\gh r 2=25 then some (2,[])
 else if gh r 0=1/\gh r 1=25 then(if ar (bZ r 0)=0 then some (2,[⟨24,bZ r 1⟩])else some (2,[]))
 else if gh r 0=1/\gh r 1=2 then some (2,[])
 else none
def cR(i:ai):Bool:=decide (i.Op=38)
def kP(o:Int):Prop:=o=24\/o=27\/o=28\/o=29\/o=30
instance (o:Int):Decidable (kP o):=by unfold kP;infer_instance
def oH(r:List ai):Nat:=(r.takeWhile λi=>!cR i).length
def mP(l:List ai)(n:Int):Bool:=l.any λi=>(decide (i.Op=24)||decide (i.Op=25))&&decide (i.Arg=n)
def v7(l r:List ai):Option (List ai):=
 match after l (bZ r 0)with
 | none=>none
 | some a=>if gh (a.dropWhile cR) 0=24/\bZ (a.dropWhile cR) 0≠bZ r 0 then some [⟨gh r 0,bZ (a.dropWhile cR) 0⟩]else none
def q8(l r:List ai):Option (Nat×Nat×List ai):=
 match oG r with
 | some (n,x)=>some (0,n,x)
 | none=>match mO r with
   | some (n,x)=>some (0,n,x)
   | none=>
     if kP (gh r 0)/\0<oH r.tail then some (1,oH r.tail,[])
     else if gh r 0=24\/gh r 0=25 then
      (if gh r 0=24/\(r.tail.takeWhile cR).any (λi=>decide (i.Arg=bZ r 0))=true then some (0,1,[])
       else(v7 l r).map λx=>(0,1,x))
     else if gh r 0=38/\mP l (bZ r 0)=false then some (0,1,[])
     else none
def iO(l:List ai)(k n:Nat)(x:List ai):List ai:=l.take k++(x++l.drop (k+n))
def mw(l:List ai)(k:Nat):Option (List ai):=(q8 l (l.drop k)).map λy=>iO l (k+y.1) y.2.1 y.2.2
def mQ(l:List ai):Nat->Nat->Option (List ai)
 | 0,_=>none
 | n+1,k=>match mw l k with
   | some x=>some x
   | none=>mQ l n (k+1)
def allM:Nat->List ai->List ai
 | 0,l=>l
 | n+1,l=>match mQ l l.length 0 with
   | some x=>allM n x
   | none=>l
def gv(l:List ai):List ai:=allM (16 *l.length) l
structure eX.Std(m:eX):Prop where
 push:∀a S L σ,m.J ⟨1,a⟩ S L σ=some (.ok (ar a::S) L σ)
 pop:∀x v S L σ,m.J ⟨2,x⟩ (v::S) L σ=some (.ok S L σ)
 bin:∀o a b S L σ,o≠9->(jd aj.zero o a b).2=0->m.J ⟨8,o⟩ (ar b::ar a::S) L σ=some (.ok (ar (jd aj.zero o a b).1::S) L σ)
 neg:∀x a S L σ,m.J ⟨9,x⟩ (ar a::S) L σ=some (.ok (ar (rL a)::S) L σ)
 no:∀x v S L σ,m.J ⟨10,x⟩ (v::S) L σ=some (.ok (notM v::S) L σ)
 no0:∀x L σ,m.J ⟨10,x⟩ [] L σ=none
 test:∀x a S L σ,m.J ⟨11,x⟩ (ar a::S) L σ=some (.ok (ey (decide (ar a≠0))::S) L σ)
def bJ(m:eX)(l l':List ai):Prop:=∀P P':Int->List ai,(∀f,P f=P' f\/P f=l/\P' f=l')->∀g,sd m P P' l l l' l' g/\∀l r,sd m P P' l r l r g
theorem bJ.of{m}{p dX new q}(ht:∀i∈p++q,i.Op=24∨i.Op=25→∀r1,after (p++(dX++q)) i.Arg=some r1→∃pX,after (p++(new++q)) i.Arg=some pX∧RP p dX new q r1 pX)
  (hh:∀P P' g,(∀g1,g1<=g->LI m P P' p dX new q g1)->sd m P P' (p++(dX++q)) (dX++q) (p++(new++q)) (new++q) (g+1)):bJ m (p++(dX++q)) (p++(new++q)):=by
 intro P P' hP g;have h:=LI.run hP ht (hh P P') g;exact⟨h.rel _ _ (.YZ [] p rfl),h.same⟩
theorem bJ.Y0{m}{p dX new q}(ho:ky dX)(hn:ky new)
  (hh:∀P P' g,(∀g1,g1<=g->LI m P P' p dX new q g1)->sd m P P' (p++(dX++q)) (dX++q) (p++(new++q)) (new++q) (g+1)):bJ m (p++(dX++q)) (p++(new++q)):=
 bJ.of (λi _ _ r1 h=>vL (λj hj h2=>ho j hj h2.1) (λj hj h2=>hn j hj h2.1) [] p rfl r1 h) hh
theorem ke{m}{P}{g d}{l r r'}{i}{S L S' L'}{σ σ'}{k}(h:nx m d l i r S L σ= .go r' S' L' σ' k):
  run m P (g+1) d l (i::r) S L σ=(run m P g d l r' S' L' σ').map λx=>(x.1,x.2+k):=by rw[run,h]
theorem Y1{m}{P}{g d}{l r}{i}{S L S' L'}{σ σ'}(hf:flat i.Op)(h:m.J i S L σ=some (.ok S' L' σ')):
  run m P (g+1) d l (i::r) S L σ=(run m P g d l r S' L' σ').map λx=>(x.1,x.2+1):=ke (by rw[AL hf,h];rfl)
theorem iL{x k}{o:Oc}{n:Nat}(h:(x.map λx=>(x.1,x.2+k))=some (o,n)):∃n',x=some (o,n')/\n=n'+k:=by
 obtain⟨⟨a,b⟩,h1,h2⟩:=ao8.1 h;grind
theorem ub:flat 1:=by simp[flat]
theorem ahy:flat 2:=by simp[flat]
theorem ade:flat 8:=by simp[flat]
theorem adf:flat 9:=by simp[flat]
theorem DW:flat 10:=by simp[flat]
theorem Y2:flat 11:=by simp[flat]
theorem wrap_wrap a:ar (ar a)=ar a:=by simp[iA]
theorem abL a:ar (notM a)=notM a:=by grind[notM,ey,iA]
theorem bJ.to{m}{p dX new q}(ho:ky dX)(hn:ky new)
  (hr:∀P g d S L σ o k,run m P g d (p++(dX++q)) (dX++q) S L σ=some (o,k)->∃g' k' n S',g'<g/\k'+n<=k/\run m P g' d (p++(dX++q)) q S' L σ=some (o,k')/\
   ∀P' l g2 k2,run m P' g2 d l q S' L σ=some (o,k2)->∃g3,run m P' g3 d l (new++q) S L σ=some (o,k2+n)):bJ m (p++(dX++q)) (p++(new++q)):=by
 refine bJ.Y0 ho hn ?_;intro P P' g ih d S L σ o k h;obtain⟨g1,k1,n,S',hg,hk,h1,h2⟩:=hr _ _ _ _ _ _ _ _ h;obtain⟨g2,k2,hle,h3⟩:=(ih g1 (by omega)).rel _ _ (.Pw [] q rfl) _ _ _ _ _ _ h1;grind
theorem nO{m P g d l r S L σ x}(h:run m P g d l r S L σ=some x):∃g',g=g'+1:=by
 cases g with
 | zero=>grind[run]
 | succ g=>simp
theorem jN{m}{P}{g d}{l r}{i}{S L S' L'}{σ σ'}{o}{k}(hf:flat i.Op)(hJ:m.J i S L σ=some (.ok S' L' σ'))(h:run m P g d l (i::r) S L σ=some (o,k)):
  ∃g' k',g=g'+1/\k=k'+1/\run m P g' d l r S' L' σ'=some (o,k'):=by
 obtain⟨g',rfl⟩:=nO h;rw[Y1 hf hJ]at h;obtain⟨k',h1,h2⟩:=iL h;grind
theorem Fg{m}(hm:m.Std){a q d S L σ o}:∀P' l g2 k2,run m P' g2 d l q (ar a::S) L σ=some (o,k2)->∃g3,run m P' g3 d l (lV a++q) S L σ=some (o,k2+1):=by
 intro P' l g2 k2 h;refine⟨g2+1,?_⟩;show run m P' (g2+1) d l (⟨1,ar a⟩::q) S L σ=_;rw[Y1 ub (by rw[hm.push,wrap_wrap]),h];rfl
theorem dr:ky []:=by intro i hi;cases hi
theorem cF{i l}(h:i.Op≠38)(hl:ky l):ky (i::l):=by
 intro j hj;rcases apq.1 hj with rfl|hj
 ·exact h
 ·exact hl j hj
theorem uc a:ky (lV a):=cF (by simp) dr
theorem bJ.bin{m}(hm:m.Std){p q a b o}(h9:o≠9)(h0:(jd aj.zero o a b).2=0):bJ m (p++([⟨1,a⟩,⟨1,b⟩,⟨8,o⟩]++q)) (p++(lV (jd aj.zero o a b).1++q)):=by
 refine bJ.to (cF (by simp) (cF (by simp) (cF (by simp) dr))) (uc _) ?_;intro P g d S L σ x k h;obtain⟨g1,k1,rfl,rfl,h_1⟩:=jN ub (hm.push _ _ _ _) h;obtain⟨g2,k2,rfl,rfl,h_2⟩:=jN ub (hm.push _ _ _ _) h_1;obtain⟨g3,k3,rfl,rfl,h_3⟩:=jN ade (hm.bin _ _ _ _ _ _ h9 h0) h_2;exact⟨g3,k3,1,_,by omega,by omega,h_3,Fg hm⟩
theorem bJ.neg{m}(hm:m.Std){p q a x}:bJ m (p++([⟨1,a⟩,⟨9,x⟩]++q)) (p++(lV (rL a)++q)):=by
 refine bJ.to (cF (by simp) (cF (by simp) dr)) (uc _) ?_;intro P g d S L σ y k h;obtain⟨g1,k1,rfl,rfl,h_1⟩:=jN ub (hm.push _ _ _ _) h;obtain⟨g2,k2,rfl,rfl,h_2⟩:=jN adf (hm.neg _ _ _ _ _) h_1;exact⟨g2,k2,1,_,by omega,by omega,h_2,Fg hm⟩
theorem bJ.not{m}(hm:m.Std){p q a x}:bJ m (p++([⟨1,a⟩,⟨10,x⟩]++q)) (p++(lV (notM a)++q)):=by
 refine bJ.to (cF (by simp) (cF (by simp) dr)) (uc _) ?_;intro P g d S L σ y k h;obtain⟨g1,k1,rfl,rfl,h_1⟩:=jN ub (hm.push _ _ _ _) h;obtain⟨g2,k2,rfl,rfl,h_2⟩:=jN DW (hm.no _ _ _ _ _) h_1;refine⟨g2,k2,1,_,by omega,by omega,h_2,?_⟩;grind[notM,ar,abL,wrap_wrap,Fg]
theorem bJ.test{m}(hm:m.Std){p q a x}:bJ m (p++([⟨1,a⟩,⟨11,x⟩]++q)) (p++(lV (1-notM a)++q)):=by
 refine bJ.to (cF (by simp) (cF (by simp) dr)) (uc _) ?_;intro P g d S L σ y k h;obtain⟨g1,k1,rfl,rfl,h_1⟩:=jN ub (hm.push _ _ _ _) h;obtain⟨g2,k2,rfl,rfl,h_2⟩:=jN Y2 (hm.test _ _ _ _ _) h_1;refine⟨g2,k2,1,_,by omega,by omega,h_2,?_⟩;have e:ey (decide (ar a≠0))=ar (1-notM a):=by
  unfold notM ey;by_cases h_2:ar a=0
  ·simp_all[iA]
  simp_all[iA]
 grind[Fg]
theorem bJ.pop{m}(hm:m.Std){p q a x}:bJ m (p++([⟨1,a⟩,⟨2,x⟩]++q)) (p++([]++q)):=by
 refine bJ.to (cF (by simp) (cF (by simp) dr)) dr ?_;intro P g d S L σ y k h;obtain⟨g1,k1,rfl,rfl,h_1⟩:=jN ub (hm.push _ _ _ _) h;obtain⟨g2,k2,rfl,rfl,h_2⟩:=jN ahy (hm.pop _ _ _ _ _) h_1;exact⟨g2,k2,0,S,by omega,by omega,h_2,λP' l g2 k2 h_2=>⟨g2,h_2⟩⟩
theorem bJ.ajI{m}(hm:m.Std){p q a x}(ha:ar a≠0):bJ m (p++([⟨1,a⟩,⟨25,x⟩]++q)) (p++([]++q)):=by
 refine bJ.to (cF (by simp) (cF (by simp) dr)) dr ?_;intro P g d S L σ y k h;obtain⟨g1,k1,rfl,rfl,h_1⟩:=jN ub (hm.push _ _ _ _) h;obtain⟨g2,rfl⟩:=nO h_1;have h_2:run m P (g2+1) d (p++([⟨1,a⟩,⟨25,x⟩]++q)) (⟨25,x⟩::q) (ar a::S) L σ=_:=h_1;rw[ke (by rw[sN rfl,Nx.zero,wrap_wrap,if_neg ha])]at h_2;obtain⟨k2,h_3,rfl⟩:=iL h_2;exact⟨g2,k2,0,S,by omega,by omega,h_3,λP' l g2 k2 h=>⟨g2,h⟩⟩
theorem bJ.jump{m}(hm:m.Std){p q a x}(ha:ar a=0):bJ m (p++([⟨1,a⟩,⟨25,x⟩]++q)) (p++([⟨24,x⟩]++q)):=by
 have h1:ky [(⟨1,a⟩:ai),⟨25,x⟩]:=cF (by simp) (cF (by simp) dr);have h2:ky [(⟨24,x⟩:ai)]:=cF (by simp) dr;refine bJ.Y0 h1 h2 ?_;intro P P' g ih d S L σ o k h;obtain⟨g1,k1,hg,rfl,h_1⟩:=jN ub (hm.push _ _ _ _) h;obtain⟨g2,rfl⟩:=nO h_1;have h_2:run m P (g2+1) d (p++([⟨1,a⟩,⟨25,x⟩]++q)) (⟨25,x⟩::q) (ar a::S) L σ=_:=h_1;have e:nx m d (p++([⟨1,a⟩,⟨25,x⟩]++q)) ⟨25,x⟩ q (ar a::S) L σ=Nx.to S L σ (after (p++([⟨1,a⟩,⟨25,x⟩]++q)) x):=by
  rw[sN rfl,Nx.zero,wrap_wrap,if_pos ha]
 cases dS:after (p++([⟨1,a⟩,⟨25,x⟩]++q)) x with
 | none=>rw[run,e,dS]at h_2;cases h_2
 | some r1=>
   rw[dS]at e;rw[ke e]at h_2;obtain⟨k2,h_3,rfl⟩:=iL h_2;obtain⟨pX,CS,H6⟩:=vL (λi hi hx=>h1 i hi hx.1) (λi hi hx=>h2 i hi hx.1) [] p rfl r1 dS;obtain⟨g3,k3,hle,h3⟩:=(ih g2 (by omega)).rel _ _ H6 _ _ _ _ _ _ h_3;refine⟨g3+1,k3+1,by omega,?_⟩;show run m P' (g3+1) d (p++([⟨24,x⟩]++q)) (⟨24,x⟩::q) S L σ=_;rw[ke (by rw[vZ rfl,CS];rfl),h3];rfl
theorem bJ.afX{m}(hm:m.Std){p q x y z}:bJ m (p++([⟨10,x⟩,⟨10,y⟩]++(⟨25,z⟩::q))) (p++([]++(⟨25,z⟩::q))):=by
 refine bJ.to (cF (by simp) (cF (by simp) dr)) dr ?_;intro P g d S L σ o k h;cases S with
 | nil=>
   obtain⟨g1,rfl⟩:=nO h;rw[apm,run,AL DW,hm.no0]at h;cases h
 | cons v S=>
   obtain⟨g1,k1,rfl,rfl,h_1⟩:=jN DW (hm.no _ _ _ _ _) h;obtain⟨g2,k2,rfl,rfl,h_2⟩:=jN DW (hm.no _ _ _ _ _) h_1;have hz:(ar (notM (notM v))=0)=(ar v=0):=by
    unfold notM ey;by_cases hv:ar v=0
    ·simp_all[iA]
    simp_all[iA]
   have en:∀l r,nx m d l ⟨25,z⟩ r (notM (notM v)::S) L σ=nx m d l ⟨25,z⟩ r (v::S) L σ:=by
    intro l r;rw[sN rfl,sN rfl,Nx.zero,Nx.zero];simp[hz]
   refine⟨g2,k2,0,_,by omega,by omega,h_2,?_⟩;intro P' l g2 k2 h_2;refine⟨g2,?_⟩;obtain⟨g2,rfl⟩:=nO h_2;simp_all[run]
theorem bJ.dead{m}(hm:∀x S L σ S' L' σ',x=28\/x=29\/x=30->∀a,m.J ⟨x,a⟩ S L σ≠some (.ok S' L' σ')){p dead q i}(hi:kP i.Op)(hd:ky dead):bJ m (p++((i::dead)++q)) (p++([i]++q)):=by
 have afY:i.Op≠38:=by rcases hi with h|h|h|h|h<;>rw[h]<;>decide
 have h1:ky (i::dead):=cF afY hd;have h2:ky [i]:=cF afY dr;refine bJ.Y0 h1 h2 ?_;intro P P' g ih d S L σ o k h;have tgt:∀n r1,after (p++((i::dead)++q)) n=some r1->∃pX,after (p++([i]++q)) n=some pX/\RP p (i::dead) [i] q r1 pX:=λn r1 h=>vL (λj hj hx=>h1 j hj hx.1) (λj hj hx=>h2 j hj hx.1) [] p rfl r1 h
 rw[apm,run]at h;by_cases jo:i.Op=24
 ·rw[vZ jo]at h;cases dS:after (p++((i::dead)++q)) i.Arg with
  | none=>rw[apm]at dS;rw[dS]at h;cases h
  | some r1=>
    obtain⟨pX,CS,H6⟩:=tgt _ _ dS;rw[apm]at dS;rw[dS]at h;obtain⟨k2,h_3,rfl⟩:=iL h;obtain⟨g3,k3,hle,h3⟩:=(ih g (by omega)).rel _ _ H6 _ _ _ _ _ _ h_3;refine⟨g3+1,k3+1,by omega,?_⟩;rw[apm,apK,ke (r':=pX) (S':=S) (L':=L) (σ':=σ) (k:=1) (by rw[vZ jo];rw[apm,apK]at CS;rw[CS];rfl)];grind
 by_cases rV:i.Op=27
 ·rw[Kq rV]at h;cases S with
  | nil=>cases h
  | cons v S=>exact⟨1,k,api _,by rw[apm,run,Kq rV];exact h⟩
 have h3:i.Op=28\/i.Op=29\/i.Op=30:=by rcases hi with h|h|h|h|h<;>simp_all
 have hf:flat i.Op:=by grind[flat]
 rw[AL hf]at h;cases hJ:m.J i S L σ with
 | none=>rw[hJ]at h;cases h
 | some ev=>
   rw[hJ]at h;cases ev with
   | ok S' L' σ'=>simp_all
   | bH x=>exact⟨1,k,api _,by rw[apm,run,AL hf,hJ];exact h⟩
   | over σ'=>exact⟨1,k,api _,by rw[apm,run,AL hf,hJ];exact h⟩
def bQ(l:List ai):List Int:=(l.filter cR).map ai.Arg
theorem nY a b:bQ (a++b)=bQ a++bQ b:=by simp[bQ]
theorem qA{l n}:n∈bQ l↔∃i∈l,i.Op=38/\i.Arg=n:=by
 simp[bQ,cR];grind
theorem Px{m P l r d S L σ x}:∀a g,(∀i∈a,i.Op=38)->run m P g d l r S L σ=some x->run m P (g+a.length) d l (a++r) S L σ=some x
 | [],g,_,h=>h
 | i::a,g,ha,h=>by
   rw[apj,<-aqZ,apm,ke (DT (ha i (by simp))),Px a g (λj hj=>ha j (by simp[hj])) h];rfl
theorem DX{m P l r d S L σ x}:∀a g,(∀i∈a,i.Op=38)->run m P g d l (a++r) S L σ=some x->∃g',g'<=g/\run m P g' d l r S L σ=some x
 | [],g,_,h=>⟨g,api _,h⟩
 | i::a,g,ha,h=>by
   obtain⟨g1,rfl⟩:=nO h;rw[apm,ke (DT (ha i (by simp)))]at h;obtain⟨k,h1,h2⟩:=iL (by rw[h]);obtain⟨g',hg,h3⟩:=DX a g1 (λj hj=>ha j (by grind)) (x:=x) (by rw[h1,aqi]at *;grind);grind
theorem bJ.next{m p a b x}(ha:∀i∈a,i.Op=38)(hu:(bQ (p++([⟨24,x⟩]++(a++⟨38,x⟩::b)))).Nodup):bJ m (p++([⟨24,x⟩]++(a++⟨38,x⟩::b))) (p++([]++(a++⟨38,x⟩::b))):=by
 have h1:ky [(⟨24,x⟩:ai)]:=cF (by simp) dr;refine bJ.Y0 h1 dr ?_;intro P P' g ih d S L σ o k h;have hx:∀i∈p++([⟨24,x⟩]++a),¬(i.Op=38/\i.Arg=x):=by
  intro i hi kN;have e:p++([⟨24,x⟩]++(a++⟨38,x⟩::b))=(p++([⟨24,x⟩]++a))++⟨38,x⟩::b:=by simp
  rw[e,nY,aqE]at hu;exact hu.2.2 x (qA.2 ⟨i,hi,kN⟩) x (qA.2 ⟨⟨38,x⟩,by simp,rfl,rfl⟩) rfl
 have dS:after (p++([⟨24,x⟩]++(a++⟨38,x⟩::b))) x=some b:=by
  have e:p++([⟨24,x⟩]++(a++⟨38,x⟩::b))=(p++([⟨24,x⟩]++a))++⟨38,x⟩::b:=by simp
  rw[e,wV hx,after,if_pos ⟨rfl,rfl⟩]
 have h2:run m P (g+1) d (p++([⟨24,x⟩]++(a++⟨38,x⟩::b))) (⟨24,x⟩::(a++⟨38,x⟩::b)) S L σ=_:=h;rw[ke (r':=b) (S':=S) (L':=L) (σ':=σ) (k:=1) (by rw[vZ rfl,dS];rfl)]at h2;obtain⟨k2,h3,rfl⟩:=iL h2;obtain⟨g3,k3,hle,h4⟩:=(ih g (by omega)).rel _ _ (.Pw (a++ [⟨38,x⟩]) b (by simp)) _ _ _ _ _ _ h3;have h5:=Px (a++ [⟨38,x⟩]) g3 (by
  grind) h4
 grind
theorem bJ.far{m p q a b op x y}(aD:op=24\/op=25)(ha:∀i∈a,i.Op=38)(dS:after (p++([⟨op,x⟩]++q)) x=some (a++⟨24,y⟩::b)):bJ m (p++([⟨op,x⟩]++q)) (p++([⟨op,y⟩]++q)):=by
 have h1:ky [(⟨op,x⟩:ai)]:=cF (by grind) dr;have h2:ky [(⟨op,y⟩:ai)]:=cF (by grind) dr;refine bJ.Y0 h1 h2 ?_;intro P P' g ih d S L σ o k h;have h:run m P (g+1) d (p++([⟨op,x⟩]++q)) (⟨op,x⟩::q) S L σ=some (o,k):=h;have go:∀S1,nx m d (p++([⟨op,x⟩]++q)) ⟨op,x⟩ q S L σ=Nx.to S1 L σ (some (a++⟨24,y⟩::b))->(∀t,after (p++([⟨op,y⟩]++q)) y=some t->nx m d (p++([⟨op,y⟩]++q)) ⟨op,y⟩ q S L σ=Nx.to S1 L σ (some t))->∃g' n',n'<=k/\run m P' g' d (p++([⟨op,y⟩]++q)) ([⟨op,y⟩]++q) S L σ=some (o,n'):=by
  intro S1 e1 e2;rw[ke e1]at h;obtain⟨k2,h3,rfl⟩:=iL h;obtain⟨g4,hg4,h4⟩:=DX a g ha h3;obtain⟨g5,rfl⟩:=nO h4;cases hay:after (p++([⟨op,x⟩]++q)) y with
  | none=>rw[run,vZ rfl,hay]at h4;cases h4
  | some r2=>
    rw[ke (r':=r2) (S':=S1) (L':=L) (σ':=σ) (k:=1) (by rw[vZ rfl,hay];rfl)]at h4;obtain⟨k3,h5,rfl⟩:=iL h4;obtain⟨r2',CS,H6⟩:=vL (n:=y) (λi hi hx=>h1 i hi hx.1) (λi hi hx=>h2 i hi hx.1) [] p rfl r2 hay;obtain⟨g6,k6,hle,h6⟩:=(ih g5 (by omega)).rel _ _ H6 _ _ _ _ _ _ h5;refine⟨g6+1,k6+1,by omega,?_⟩;show run m P' (g6+1) d (p++([⟨op,y⟩]++q)) (⟨op,y⟩::q) S L σ=_;rw[ke (e2 r2' CS),h6];rfl
 rcases aD with rfl|rfl
 ·exact go S (by rw[vZ rfl,dS]) (λt ht=>by rw[vZ rfl];rw[ht])
 ·cases S with
  | nil=>rw[run,sN rfl]at h;cases h
  | cons v S=>
    by_cases hv:ar v=0
    ·exact go S (by rw[sN rfl,Nx.zero,if_pos hv,dS]) (λt ht=>by rw[sN rfl,Nx.zero,if_pos hv];rw[ht])
    ·rw[ke (r':=q) (S':=S) (L':=L) (σ':=σ) (k:=1) (by rw[sN rfl,Nx.zero,if_neg hv])]at h;obtain⟨k2,h3,rfl⟩:=iL h;obtain⟨g6,k6,hle,h6⟩:=(ih g (by omega)).rel _ _ (.Pw [] q rfl) _ _ _ _ _ _ h3;refine⟨g6+1,k6+1,by omega,?_⟩;show run m P' (g6+1) d (p++([⟨25,y⟩]++q)) (⟨25,y⟩::q) (v::S) L σ=_;rw[ke (r':=q) (S':=S) (L':=L) (σ':=σ) (k:=1) (by rw[sN rfl,Nx.zero,if_neg hv]),h6];rfl
theorem bJ.ahz{m p q x}(ha:mP (p++([⟨38,x⟩]++q)) x=false):bJ m (p++([⟨38,x⟩]++q)) (p++([]++q)):=by
 refine bJ.of ?_ ?_
 ·intro i hi hj r1 h;refine vL (λj hj h2=>?_) (λj hj=>by cases hj) [] p rfl r1 h;grind[List.mem_singleton,mP,List.any_eq_true]
 ·intro P P' g ih d S L σ o k h;obtain⟨k2,h3,rfl⟩:=iL h;obtain⟨g6,k6,hle,h6⟩:=(ih g (by omega)).rel _ _ (.Pw [] q rfl) _ _ _ _ _ _ h3;grind
structure eX.Ok(m:eX):Prop extends m.Std where
 stops:∀x S L σ S' L' σ',x=28\/x=29\/x=30->∀a,m.J ⟨x,a⟩ S L σ≠some (.ok S' L' σ')
theorem ic{r}(h:gh r 0≠0):∃i t,r=i::t:=by
 cases r with
 | nil=>exact(h rfl).elim
 | cons i t=>simp
theorem sO i t k:gh (i::t) (k+1)=gh t k:=by rfl
theorem ym i t:gh (i::t) 0=i.Op:=by rfl
theorem vM i t:bZ (i::t) 0=i.Arg:=by rfl
def VH(m:eX)(l r:List ai)(y:Nat×Nat×List ai):Prop:=∀p,l=p++r->(bQ l).Nodup->bJ m l (p++(r.take y.1++(y.2.2++r.drop (y.1+y.2.1))))
theorem Y3{m}(hm:m.Ok){l r n x}(h:oG r=some (n,x)):VH m l r (0,n,x):=by
 rintro p rfl _;unfold oG at h;split at h
 ·rename_i hc;obtain⟨h0,h1,h2,h9,hz⟩:=hc;obtain⟨⟨o1,a⟩,t,rfl⟩:=ic (r:=r) (by omega);rw[sO]at h1 h2;obtain⟨⟨o2,b⟩,t,rfl⟩:=ic (r:=t) (by omega);rw[sO]at h2;obtain⟨⟨o3,c⟩,t,rfl⟩:=ic (r:=t) (by omega);cases h;obtain rfl:o1=1:=h0;obtain rfl:o2=1:=h1;obtain rfl:o3=8:=h2;exact bJ.bin hm.toStd h9 hz
 ·split at h
  ·cases h
  ·rename_i h0;simp only[ne_eq,aql]at h0;obtain⟨⟨o1,a⟩,t,rfl⟩:=ic (r:=r) (by omega);obtain rfl:o1=1:=h0;simp only[sO,vM]at h;split at h
   ·rename_i h1;obtain⟨⟨o2,b⟩,t,rfl⟩:=ic (r:=t) (by omega);obtain rfl:o2=9:=h1;cases h;exact bJ.neg hm.toStd
   ·split at h
    ·rename_i h1;obtain⟨⟨o2,b⟩,t,rfl⟩:=ic (r:=t) (by omega);obtain rfl:o2=10:=h1;cases h;exact bJ.not hm.toStd
    ·split at h
     ·rename_i h1;obtain⟨⟨o2,b⟩,t,rfl⟩:=ic (r:=t) (by omega);obtain rfl:o2=11:=h1;cases h;exact bJ.test hm.toStd
     grind
theorem VI{m}(hm:m.Ok){l r n x}(h:mO r=some (n,x)):VH m l r (0,n,x):=by
 rintro p rfl _;unfold mO at h;split at h
 ·rename_i hc;obtain⟨h0,h1,h2⟩:=hc;obtain⟨⟨o1,a⟩,t,rfl⟩:=ic (r:=r) (by omega);rw[sO]at h1 h2;obtain⟨⟨o2,b⟩,t,rfl⟩:=ic (r:=t) (by omega);rw[sO]at h2;obtain⟨⟨o3,c⟩,t,rfl⟩:=ic (r:=t) (by omega);cases h;obtain rfl:o1=10:=h0;obtain rfl:o2=10:=h1;obtain rfl:o3=25:=h2;exact bJ.afX hm.toStd
 ·split at h
  ·rename_i hc;obtain⟨h0,h1⟩:=hc;obtain⟨⟨o1,a⟩,t,rfl⟩:=ic (r:=r) (by omega);rw[sO]at h1;obtain⟨⟨o2,b⟩,t,rfl⟩:=ic (r:=t) (by omega);obtain rfl:o1=1:=h0;obtain rfl:o2=25:=h1;split at h
   ·rename_i hz;cases h;exact bJ.jump hm.toStd hz
   ·rename_i hz;cases h;exact bJ.ajI hm.toStd hz
  ·split at h
   ·rename_i hc;obtain⟨h0,h1⟩:=hc;obtain⟨⟨o1,a⟩,t,rfl⟩:=ic (r:=r) (by omega);rw[sO]at h1;obtain⟨⟨o2,b⟩,t,rfl⟩:=ic (r:=t) (by omega);obtain rfl:o1=1:=h0;obtain rfl:o2=2:=h1;cases h;exact bJ.pop hm.toStd
   grind
theorem mx{α:Type} f:∀(l:List α),∀x∈l.takeWhile f,f x=true
 | [],x,h=>by cases h
 | y::l,x,h=>by
   rw[arj]at h;split at h
   ·rename_i hy;rcases apq.1 h with rfl|h
    ·exact hy
    ·exact mx f l x h
   grind
theorem re{α:Type} f(l:List α):l=l.takeWhile f++l.drop (l.takeWhile f).length:=by
 grind[List.takeWhile_append_dropWhile]
theorem RL{m}(hm:m.Ok){l r y}(h:q8 l r=some y):VH m l r y:=by
 unfold q8 at h;split at h
 ·grind[Option.some.injEq,Y3]
 ·split at h
  ·grind[Option.some.injEq,VI]
  ·split at h
   ·rename_i hc;obtain⟨he,hd⟩:=hc;simp only[anc]at h;subst h;rintro p rfl _;obtain⟨i,t,rfl⟩:=ic (r:=r) (by grind[kP]);rw[ym]at he;have ht:=re (λi=>!cR i) t;have hn:ky (t.takeWhile λi=>!cR i):=by
     intro j hj;grind[mx,cR]
    have hb:=bJ.dead (m:=m) hm.stops (p:=p) (q:=t.drop (t.takeWhile λi=>!cR i).length) he hn;grind[cR,oH,Nat.add_comm]
   ·split at h
    ·rename_i hj;obtain⟨⟨op,x⟩,q,rfl⟩:=ic (r:=r) (by omega);simp only[ym,vM,List.tail_cons]at hj h;split at h
     ·rename_i hc;obtain⟨jo,yq⟩:=hc;simp only[anc]at h;subst h;subst jo;rintro p rfl hu;obtain⟨j,SX,I0⟩:=aqI.1 yq;have aoj:j.Op=38:=by
       grind[mx,cR]
      have hjx:j.Arg=x:=of_decide_eq_true I0;obtain⟨a,b,zA⟩:=aq2 SX;have hq:=re cR q;have ze:j=⟨38,x⟩:=by cases j;grind
      subst ze;have e:q=a++⟨38,x⟩::(b++q.drop (q.takeWhile cR).length):=by
       grind
      grind[mx,cR,bJ.next]
     ·obtain⟨z,hz,rfl⟩:=ao8.1 h;rintro p rfl hu;unfold v7 at hz;rw[vM]at hz;split at hz
      ·cases hz
      ·rename_i t dS;split at hz
       ·rename_i hc;obtain⟨pL,pK⟩:=hc;simp only[anc]at hz;subst hz;obtain⟨⟨o2,z⟩,b,hb⟩:=ic (r:=t.dropWhile cR) (by omega);rw[hb]at pL pK⊢;rw[ym]at pL;rw[vM]at pK⊢;obtain rfl:o2=24:=pL;rw[ym];have ht:=List.takeWhile_append_dropWhile (p:=cR) (l:=t);grind[bJ.far,mx,cR]
       grind
    ·split at h
     ·rename_i hc;obtain⟨kN,ha⟩:=hc;simp only[anc]at h;subst h;obtain⟨⟨op,x⟩,q,rfl⟩:=ic (r:=r) (by omega);rw[ym]at kN;rw[vM]at ha;obtain rfl:op=38:=kN;rintro p rfl hu;exact bJ.ahz ha
     grind
theorem Ge{l:List ai}(h:ky l):bQ l=[]:=by
 unfold bQ;rw[List.map_eq_nil_iff,List.filter_eq_nil_iff];intro i hi;simpa[cR]using h i hi
theorem VJ{l r:List ai}{y:Nat×Nat×List ai}(h:q8 l r=some y):ky y.2.2:=by
 unfold q8 at h;split at h
 ·rename_i n x hr;simp only[anc]at h;subst h;unfold oG at hr
  repeat' split at hr
  all_goals first
   | (simp only[anc,ao7]at hr;obtain⟨_,rfl⟩:=hr;exact uc _)
   | cases hr
 ·split at h
  ·rename_i n x hr;simp only[anc]at h;subst h;unfold mO at hr
   repeat' split at hr
   all_goals first
    | (simp only[anc,ao7]at hr;obtain⟨_,rfl⟩:=hr;exact dr)
    | (simp only[anc,ao7]at hr;obtain⟨_,rfl⟩:=hr;exact cF (by show(24:Int)≠38;omega) dr)
    | cases hr
  ·split at h
   ·simp only[anc]at h;subst h;exact dr
   ·split at h
    ·rename_i hj;split at h
     ·simp only[anc]at h;subst h;exact dr
     ·obtain⟨z,hz,rfl⟩:=ao8.1 h;unfold v7 at hz;split at hz
      ·cases hz
      ·split at hz
       ·simp only[anc]at hz;subst hz;exact cF (by show gh r 0≠38;omega) dr
       ·cases hz
    ·split at h
     ·simp only[anc]at h;subst h;exact dr
     ·cases h
theorem abM{a b:List ai}(h:a.Sublist b):(bQ a).Sublist (bQ b):=(h.filter _).map _
theorem RM{l:List ai}{k:Nat}{y:Nat×Nat×List ai}(h:q8 l (l.drop k)=some y):(bQ (l.take k++((l.drop k).take y.1++(y.2.2++(l.drop k).drop (y.1+y.2.1))))).Sublist (bQ l):=by
 have h1:=Ge (VJ h);rw[nY,nY,nY,h1,apK,<-nY,<-nY];refine abM ?_
 conv=>rhs;rw[<-apv k l]
 refine List.Sublist.append_left ?_ _
 conv=>rhs;rw[<-apv y.1 (l.drop k)]
 refine List.Sublist.append_left ?_ _;rw[<-aqz];exact List.drop_sublist _ _
theorem swap_eq(l:List ai)(k s n:Nat)(x:List ai):iO l (k+s) n x=l.take k++((l.drop k).take s++(x++(l.drop k).drop (s+n))):=by
 unfold iO;rw[List.take_add,apA,aqz,aqZ]
def BB(m:eX)(P P':Int->List ai):Prop:=∀f d S L σ g o n,run m P g d (P f) (P f) S L σ=some (o,n)->∃g' n',n'<=n/\run m P' g' d (P' f) (P' f) S L σ=some (o,n')
theorem BB.refl(m:eX)(P:Int->List ai):BB m P P:=λ_ _ _ _ _ g _ n h=>⟨g,n,api _,h⟩
theorem BB.trans{m:eX}{P Q R:Int->List ai}(h1:BB m P Q)(h2:BB m Q R):BB m P R:=by
 intro f d S L σ g o n h;obtain⟨g1,n1,hle,h⟩:=h1 _ _ _ _ _ _ _ _ h;obtain⟨g2,n2,ajH,h⟩:=h2 _ _ _ _ _ _ _ _ h;exact⟨g2,n2,by omega,h⟩
theorem bJ.BB{m:eX}{l l':List ai}(h:bJ m l l'){P P':Int->List ai}(hP:∀f,P f=P' f\/P f=l/\P' f=l'):BB m P P':=by
 intro f d S L σ g o n hr;obtain⟨h1,h2⟩:=h P P' hP g;rcases hP f with e|⟨e1,e2⟩
 ·rw[<-e];exact h2 _ _ _ _ _ _ _ _ hr
 ·rw[e1]at hr;rw[e2];exact h1 _ _ _ _ _ _ hr
def BI(P:Int->List ai)(j:Int)(l:List ai)(f:Int):List ai:=if f=j then l else P f
theorem bJ.put{m:eX}{l l':List ai}(h:bJ m l l')(P:Int->List ai)(j:Int):Go.Ab.BB m (BI P j l) (BI P j l'):=
 h.BB λf=>by
  unfold BI;split
  ·exact Or.inr ⟨rfl,rfl⟩
  ·exact Or.inl rfl
theorem VK{m:eX}(hm:m.Ok){l l':List ai}{k:Nat}(hu:(bQ l).Nodup)(h:mw l k=some l'):bJ m l l'/\(bQ l').Nodup:=by
 obtain⟨y,hy,rfl⟩:=ao8.1 h;rw[swap_eq];exact⟨RL hm hy (l.take k) (apv k l).symm hu,hu.sublist (RM hy)⟩
theorem BJ{l l':List ai}:∀(n k:Nat),mQ l n k=some l'->∃j,k<=j/\j<k+n/\mw l j=some l'
 | 0,k,h=>by cases h
 | n+1,k,h=>by
   rw[mQ]at h;split at h
   ·rename_i x hx;exact⟨k,api _,by omega,by rw[hx];exact h⟩
   ·obtain⟨j,h1,h2,h3⟩:=BJ n (k+1) h;exact⟨j,by omega,by omega,h3⟩
theorem Tk{m:eX}(hm:m.Ok)(P:Int->List ai)(j:Int):∀(n:Nat) (l:List ai),(bQ l).Nodup->BB m (BI P j l) (BI P j (allM n l))/\(bQ (allM n l)).Nodup
 | 0,l,hu=>⟨BB.refl _ _,hu⟩
 | n+1,l,hu=>by
   rw[allM];split
   ·rename_i x hx;obtain⟨k,_,_,hk⟩:=BJ _ _ hx;obtain⟨h1,h2⟩:=VK hm hu hk;obtain⟨h3,h4⟩:=Tk hm P j n x h2;exact⟨(h1.put P j).trans h3,h4⟩
   ·exact⟨BB.refl _ _,hu⟩
theorem abN{m:eX}(hm:m.Ok)(P:Int->List ai)(hu:∀f,(bQ (P f)).Nodup)(N:Nat)(hN:∀f,P f≠ []->0<=f/\f<N):BB m P (λf=>gv (P f)):=by
 have key:∀k:Nat,BB m P (λf=>if 0<=f/\f<k then gv (P f)else P f):=by
  intro k
  induction k with
  | zero=>
    have e:(λf:Int=>if 0<=f/\f<((0:Nat):Int)then gv (P f)else P f)=P:=by
     funext f;rw[if_neg (by omega)]
    rw[e];exact BB.refl _ _
  | succ k ih=>
    refine ih.trans ?_;have h:=(Tk hm (λf=>if 0<=f/\f<k then gv (P f)else P f) k (16 *(P k).length) (P k) (hu k)).1;have e1:BI (λf:Int=>if 0<=f/\f<k then gv (P f)else P f) k (P k)=(λf:Int=>if 0<=f/\f<k then gv (P f)else P f):=by
     funext f;unfold BI;split
     ·rename_i hf;subst hf;rw[if_neg (by omega)]
     ·rfl
    have e2:BI (λf:Int=>if 0<=f/\f<k then gv (P f)else P f) k (allM (16 *(P k).length) (P k))=(λf:Int=>if 0<=f/\f<((k+1:Nat):Int)then gv (P f)else P f):=by
     funext f;unfold BI;by_cases hf:f=k
     ·subst hf;rw[if_pos rfl,if_pos (by omega)];rfl
     ·rw[if_neg hf];show(if 0<=f/\f<(k:Int)then gv (P f)else P f)=_;by_cases h2:0<=f/\f<k
      ·rw[if_pos h2,if_pos (by omega)]
      ·rw[if_neg h2,if_neg (by omega)]
    rw[e1,e2]at h;exact h
 have h:=key N;have e:(λf:Int=>if 0<=f/\f<(N:Int)then gv (P f)else P f)=(λf=>gv (P f)):=by
  funext f;split
  ·rfl
  ·rename_i hf;by_cases h0:P f=[]
   ·rw[h0];rfl
   ·exact(hf (hN f h0)).elim
 rw[e]at h;exact h
def dC(n:Int):Nat:=if n=0 then 0 else if -128<=n/\n<=127 then 1 else 2
def nj(o:Int):Bool:=[1,3,4,5,6,7,8,12,13,14,15,16,19,21,24,25,26,32,33,38].contains o
def kg(n:Int):Nat->List Int
 | 0=> []
 | 1=> [n % 256]
 | _=> [n / 256 % 256,n % 256]
def fO(o n:Int)(k:Nat):List Int:=(4 *o+k)::kg n k
def u7(i:ai):Int:=if nj i.Op then ar i.Arg else 0
def nk(i:ai):List Int:=if i.Op<1\/38<=i.Op then []else fO i.Op (u7 i) (dC (u7 i))
def nP(b:List Int)(i:Int)(k:Int):Int:=
 if k=1 then(if aB b i>=128 then aB b i-256 else aB b i)else if k=2 then ar (256 *aB b i+aB b (i+1))else 0
def jL(b:List Int)(i:Int):ai×Int×Int:=
 if i<0\/(b.length:Int)<=i then(⟨0,0⟩,0,2)
 else if aB b i / 4<1\/38<=aB b i / 4\/aB b i % 4=3\/(0<aB b i % 4/\nj (aB b i / 4)=false)then(⟨0,0⟩,0,16)
 else if(b.length:Int)-i-1<aB b i % 4 then(⟨0,0⟩,0,2)
 else if aB b i % 4≠(dC (nP b (i+1) (aB b i % 4)):Int)/\aB b i / 4≠24/\aB b i / 4≠25 then(⟨0,0⟩,0,4)
 else(⟨aB b i / 4,nP b (i+1) (aB b i % 4)⟩,i+1+aB b i % 4,0)
theorem yr(n:Int)(k:Nat)(hk:k<=2):(kg n k).length=k:=by
 match k,hk with
 | 0,_=>rfl
 | 1,_=>rfl
 | 2,_=>rfl
theorem Hl(pre post:List Int)(k:Nat):aB (pre++post) ((pre.length:Int)+k)=aB post k:=by
 unfold aB;rw[show((pre.length:Int)+k).toNat=pre.length+k by omega,ap6 (by omega)];simp
theorem qB(n:Int):dC n<=2:=by unfold dC;split;omega;split<;>omega
theorem Tl{o n:Int}{k:Nat}(pre post:List Int)(ho:1≤o∧o < 38)(hk:k≤2)(hh:0 < k→nj o=true)(hn: -32768≤n∧n≤32767)(hb:dC n≤k)(hj:o=24∨o=25∨dC n=k):
  jL (pre++(fO o n k++post)) (pre.length:Int)=((⟨o,n⟩:ai),(pre.length:Int)+1+k,(0:Int)):=by
 have h0:aB (pre++(fO o n k++post)) pre.length=4 *o+k:=by
  have:=Hl pre (fO o n k++post) 0;simp only[Int.natCast_zero,Int.add_zero]at this;rw[this];simp[aB,fO]
 have hd:(4 *o+(k:Int)) / 4=o:=by omega
 have hm:(4 *o+(k:Int)) % 4=k:=by omega
 have hl:(pre++(fO o n k++post)).length=pre.length+(1+k+post.length):=by
  simp only[aph,fO,apj,yr n k hk];omega
 have ha:nP (pre++(fO o n k++post)) (pre.length+1) k=n:=by
  have g1:aB (pre++(fO o n k++post)) ((pre.length:Int)+1)=aB (kg n k++post) 0:=by
   have:=Hl pre (fO o n k++post) 1;simp only[Int.natCast_one]at this;rw[this];simp[aB,fO]
  have g2:aB (pre++(fO o n k++post)) ((pre.length:Int)+1+1)=aB (kg n k++post) 1:=by
   have:=Hl pre (fO o n k++post) 2;rw[show((2:Nat):Int)=1+1 by rfl,<-Int.add_assoc]at this;rw[this];simp[aB,fO]
  unfold nP
  match k,hk with
  | 0,_=>
    rw[if_neg (by decide),if_neg (by decide)];unfold dC at hb;split at hb
    ·rename_i h;exact h.symm
    ·split at hb<;>omega
  | 1,_=>
    rw[if_pos (by decide),g1];have e:aB (kg n 1++post) 0=n % 256:=by simp[aB,kg]
    rw[e];have: -128<=n/\n<=127:=by
     unfold dC at hb;split at hb
     ·omega
     ·split at hb<;>omega
    split<;>omega
  | 2,_=>
    rw[if_neg (by decide),if_pos (by decide),g1,g2];have e1:aB (kg n 2++post) 0=n / 256 % 256:=by simp[aB,kg]
    have e2:aB (kg n 2++post) 1=n % 256:=by simp[aB,kg]
    rw[e1,e2,iA];omega
 unfold jL;rw[h0,hd,hm,ha,hl];rw[if_neg (by omega),if_neg (by rintro(h|h|h|⟨h,h2⟩)<;>first|omega|(rw[hh (by omega)]at h2;cases h2)),if_neg (by omega),if_neg ?_];rintro⟨h1,h2,h3⟩;rcases hj with h|h|h
 ·exact h2 h
 ·exact h3 h
 ·exact h1 (by rw[h])
def jmp(o:Int):Bool:=decide (o=24)||decide (o=25)
abbrev Zl:=List (ai×Nat)
def dZ(p:ai×Nat):Nat:=if p.1.Op=38 then 0 else if jmp p.1.Op then 1+p.2 else(nk p.1).length
def aW(z:Zl):Nat:=(z.map dZ).sum
def ud:Zl->Int->Option Nat
 | [],_=>none
 | p::z,n=>if p.1.Op=38/\p.1.Arg=n then some 0 else(ud z n).map (dZ p+ ·)
def il(w:Zl)(n:Int)(at_:Nat):Int:=((ud w n).getD 0:Nat)-(at_:Int)
def oI(w:Zl)(k:Nat)(p:ai×Nat):List Int:=if p.1.Op=38 then []else if jmp p.1.Op then fO p.1.Op (il w p.1.Arg (k+dZ p)) p.2 else nk p.1
def fk(w:Zl):Nat->Zl->List Int
 | _,[]=> []
 | k,p::z=>oI w k p++fk w (k+dZ p) z
theorem Y4(w:Zl)(k:Nat)(p:ai×Nat)(h:p.2<=2):(oI w k p).length=dZ p:=by
 unfold oI dZ;split
 ·rfl
 ·split
  ·simp only[fO,apj,yr _ _ h];omega
  ·rfl
theorem DY(w:Zl):∀(k:Nat) (a b:Zl),fk w k (a++b)=fk w k a++fk w (k+aW a) b
 | k,[],b=>by simp[fk,aW]
 | k,p::a,b=>by
   rw[apm,fk,fk,DY w _ a b,apA];simp only[aW,apF,arh,aqZ]
theorem LJ(w:Zl):∀(k:Nat) (z:Zl),(∀p∈z,p.2<=2)->(fk w k z).length=aW z
 | k,[],_=>rfl
 | k,p::z,h=>by
   rw[fk,aph,Y4 w k p (h p (by simp)),LJ w _ z (λq hq=>h q (by simp[hq]))];simp[aW]
theorem Hm(a b:Zl):aW (a++b)=aW a+aW b:=by simp[aW]
theorem Y5(p:ai×Nat)(b:Zl):aW (p::b)=dZ p+aW b:=by simp[aW]
def ahA(w:Zl)(k:Nat)(p:ai×Nat):Prop:=
 p.2<=2/\(p.1.Op=38\/(1<=p.1.Op/\p.1.Op<38/\(if jmp p.1.Op then(ud w p.1.Arg).isSome/\ -32768<=il w p.1.Arg (k+dZ p)/\il w p.1.Arg (k+dZ p)<=32767/\dC (il w p.1.Arg (k+dZ p))<=p.2
  else -32768<=p.1.Arg/\p.1.Arg<=32767/\(nj p.1.Op=false->p.1.Arg=0))))
def VL(z:Zl):Prop:=∀a p b,z=a++p::b->ahA z (aW a) p
theorem Tm{n:Int}(h: -32768<=n/\n<=32767):ar n=n:=by rw[iA];omega
theorem Y6{i:ai}(h: -32768<=i.Arg/\i.Arg<=32767)(h2:nj i.Op=false->i.Arg=0):u7 i=i.Arg:=by
 unfold u7;split
 ·exact Tm h
 ·rename_i hh;exact(h2 (by simpa using hh)).symm
theorem afZ{w a b:Zl}{p:ai×Nat}(hz:w=a++p::b)(hg:VL w)(kN:p.1.Op≠38)(pre post:List Int):
  jL (pre++(fk w 0 w++post)) ((pre.length:Int)+aW a)=(⟨p.1.Op,if jmp p.1.Op then il w p.1.Arg (aW a+dZ p)else p.1.Arg⟩,(pre.length:Int)+aW a+dZ p,0):=by
 have hp:=hg a p b hz;obtain⟨uD,Tn⟩:=hp;have Tn:=Tn.resolve_left kN;obtain⟨h1,h2,h3⟩:=Tn;have hle:∀q∈a,q.2<=2:=by
  intro q hq;obtain⟨a1,a2,ha⟩:=aq2 hq;exact(hg a1 q (a2++p::b) (by rw[hz,ha];simp)).1
 have hc:fk w 0 w=fk w 0 a++(oI w (aW a) p++fk w (aW a+dZ p) b):=by
  conv=>lhs;arg 3;rw[hz]
  rw[DY,fk,ap2]
 have hl:=LJ w 0 a hle;by_cases hj:jmp p.1.Op=true
 ·rw[if_pos hj]at h3;obtain⟨_,h4,h5,h6⟩:=h3;have DK:oI w (aW a) p=fO p.1.Op (il w p.1.Arg (aW a+dZ p)) p.2:=by
   unfold oI;rw[if_neg kN,if_pos hj]
  have FQ:dZ p=1+p.2:=by unfold dZ;rw[if_neg kN,if_pos hj]
  have I0:p.1.Op=24\/p.1.Op=25:=by simpa[jmp]using hj
  have hd:=Tl (o:=p.1.Op) (n:=il w p.1.Arg (aW a+dZ p)) (k:=p.2) (pre++fk w 0 a) (fk w (aW a+dZ p) b++post) ⟨h1,h2⟩ uD (λ_=>by rcases I0 with h|h<;>rw[h]<;>rfl) ⟨h4,h5⟩ h6 (by rcases I0 with h|h;exact Or.inl h;exact Or.inr (Or.inl h));rw[hc,DK];rw[aph,hl]at hd;simp only[apA,arq]at hd⊢;rw[hd,if_pos hj,FQ];simp only[arq,Int.natCast_one,ao7,true_and,and_true];omega
 ·rw[if_neg hj]at h3;obtain⟨h4,h5,h6⟩:=h3;have Gf:=Y6 ⟨h4,h5⟩ h6;have DK:oI w (aW a) p=fO p.1.Op p.1.Arg (dC p.1.Arg):=by
   unfold oI;rw[if_neg kN,if_neg hj];unfold nk;rw[if_neg (by omega),Gf]
  have FQ:dZ p=1+dC p.1.Arg:=by
   unfold dZ;rw[if_neg kN,if_neg hj];unfold nk;rw[if_neg (by omega),Gf];simp only[fO,apj,yr _ _ (qB _)];omega
  have hd:=Tl (o:=p.1.Op) (n:=p.1.Arg) (k:=dC p.1.Arg) (pre++fk w 0 a) (fk w (aW a+dZ p) b++post) ⟨h1,h2⟩ (qB _) (λhk=>by
   cases hh:nj p.1.Op with
   | true=>rfl
   | false=>rw[h6 hh]at hk;simp[dC]at hk) ⟨h4,h5⟩ (api _) (Or.inr (Or.inr rfl))
  rw[hc,DK];rw[aph,hl]at hd;simp only[apA,arq]at hd⊢;rw[hd,if_neg hj,FQ];simp only[arq,Int.natCast_one,ao7,true_and,and_true];omega
theorem Gg:∀(z:Zl) (n:Int) (r:List ai),after (z.map Prod.fst) n=some r->∃a b,z=a++b/\b.map Prod.fst=r/\ud z n=some (aW a)
 | [],n,r,h=>by cases h
 | p::z,n,r,h=>by
   rw[apF,after]at h;rw[ud];split at h
   ·rename_i hp;simp only[anc]at h;refine⟨[p],z,rfl,h,?_⟩;rw[if_pos hp];simp[aW,dZ,hp.1]
   ·rename_i hp;obtain⟨a,b,h1,h2,h3⟩:=Gg z n r h;refine⟨p::a,b,by rw[h1];rfl,h2,?_⟩;rw[if_neg hp,h3,Y5];rfl
def dQ(m:ae)(f:aG):List Int:=(m.Stack.drop f.bP.toNat).reverse
def eL(m:ae):MS:=⟨m.Told.World,m.Told.Out,m.Told.Fuel⟩
def eO(m:ae)(e:Int):ae:={m with Told:={m.Told with s9:=e},de:=true}
def ve(m:ae)(F:List aG)(St:List Int)(σ:MS):ae:={m with Frames:=F,Stack:=St,Told:={m.Told with World:=σ.W,Out:=σ.Out,Fuel:=σ.Fuel}}
def nT(m:ae)(F:List aG)(f:aG)(k:Int):Option Ev->Option ae
 | some (.ok S L σ)=>some (ve m (F++ [{f with At:=k,aL:=L}]) (m.Stack.take f.bP.toNat++S.reverse) σ)
 | some (.bH e)=>some (eO m e)
 | some (.over σ)=>some {ve m (F++ [{f with At:=k}]) m.Stack σ with Told:=⟨m.Told.s9,σ.W,σ.Out,m.Told.Value,true,σ.Fuel⟩,de:=true}
 | none=>none
def EP(m:ae)(F:List aG)(f:aG)(k n:Int):List Int->Option ae
 | v::S=>some {m with Frames:=F++ [{f with At:=if ar v=0 then k+n else k}],Stack:=m.Stack.take f.bP.toNat++S.reverse}
 | []=>none
def JQ(m:ae)(F:List aG)(f:aG):List Int->Option ae
 | v::_=>some (if F=[]then {m with Frames:=[],Stack:=m.Stack.take f.bP.toNat,Told:={m.Told with Value:=v},de:=true}else {m with Frames:=F,Stack:=m.Stack.take f.bP.toNat++ [ar v]})
 | []=>none
def EO(K:eX)(s:al)(m:ae)(F:List aG)(f:aG)(k r:Int):Option ae:=
 if K.pa r<=(dQ m f).length/\fM s.Entry r then some {m with Frames:=F++ [{f with At:=k}]++ [⟨r,aB s.Entry r,((m.Stack.length-K.pa r:Nat):Int),K.lo r ((dQ m f).take (K.pa r)).reverse⟩],Stack:=m.Stack.take (m.Stack.length-K.pa r)}else none
def sq(K:eX)(s:al)(m:ae)(F:List aG)(f:aG)(x:ai×Int×Int):Option ae:=
 if x.2.2≠0 then none
 else if x.1.Op=24 then some {m with Frames:=F++ [{f with At:=x.2.1+x.1.Arg}]}
 else if x.1.Op=25 then EP m F f x.2.1 x.1.Arg (dQ m f)
 else if x.1.Op=27 then JQ m F f (dQ m f)
 else if x.1.Op=26 then(if 32<=m.Frames.length then(if 0<=K.fn x.1.Arg then some (eO m 17)else none)else EO K s m F f x.2.1 (K.fn x.1.Arg))
 else nT m F f x.2.1 (K.J x.1 (dQ m f) f.aL (eL m))
def gN(K:eX)(s:al)(m:ae):Option ae:=
 if m.de then some m else match m.Frames.getLast? with
  | some f=>if 0<=f.bP/\f.bP<=m.Stack.length then sq K s m m.Frames.dropLast f (jL s.Code f.At)else none
  | none=>none
def iterM(K:eX)(s:al):Nat->ae->Option ae
 | 0,m=>some m
 | n+1,m=>(gN K s m).bind (iterM K s n)
theorem s8(K:eX)(s:al):∀(a b:Nat) (m:ae),iterM K s (a+b) m=(iterM K s a m).bind (iterM K s b)
 | 0,b,m=>by simp[iterM]
 | a+1,b,m=>by
   rw[show a+1+b=(a+b)+1 by omega,iterM,iterM];cases gN K s m with
   | none=>rfl
   | some x=>exact s8 K s a b x
def gL(env:dx)(F:List aG)(f i:Int)(ST L S:List Int)(σ:MS):ae:=⟨F++ [⟨f,i,ST.length,L⟩],ST++S.reverse,env,⟨0,σ.W,σ.Out,0,false,σ.Fuel⟩,false⟩
def DZ(env:dx)(F:List aG)(ST:List Int)(m':ae):Oc->Prop
 | .ret v σ=>m'=if F=[]then⟨[],ST,env,⟨0,σ.W,σ.Out,v,false,σ.Fuel⟩,true⟩else⟨F,ST++ [ar v],env,⟨0,σ.W,σ.Out,0,false,σ.Fuel⟩,false⟩
 | .bH e σ=>m'.de=true/\m'.Env=env/\∃W,m'.Told=⟨e,W,σ.Out,0,false,σ.Fuel⟩
 | .over σ=>m'.de=true/\m'.Env=env/\m'.Told=⟨0,σ.W,σ.Out,0,true,σ.Fuel⟩
def Y7(s:al)(f:Int)(z:Zl)(pre:List Int):Prop:=VL z/\(∃post,s.Code=pre++(fk z 0 z++post))/\aB s.Entry f=pre.length
def Laid(s:al)(P:Int->List ai):Prop:=∀f,P f≠ []->fM s.Entry f/\∃z pre,z.map Prod.fst=P f/\Y7 s f z pre
theorem step_mk{K:eX}{s:al}{env:dx}{F:List aG}{f i:Int}{ST L S:List Int}{σ:MS}:gN K s (gL env F f i ST L S σ)=sq K s (gL env F f i ST L S σ) F ⟨f,i,ST.length,L⟩ (jL s.Code i):=by
 unfold gN;rw[if_neg (by simp[gL])];have h1:(gL env F f i ST L S σ).Frames.getLast?=some ⟨f,i,ST.length,L⟩:=by simp[gL]
 have h2:(gL env F f i ST L S σ).Frames.dropLast=F:=by simp[gL]
 rw[h1,h2];show(if 0<=(ST.length:Int)/\(ST.length:Int)<=((ST++S.reverse).length:Nat)then _ else none)=_;rw[if_pos (by rw[aph];omega)]
theorem I1{env:dx}{F:List aG}{f i j:Int}{ST L L' S:List Int}{σ:MS}:dQ (gL env F f i ST L S σ) ⟨f,j,ST.length,L'⟩=S:=by
 unfold dQ gL;simp
theorem take_mk{env:dx}{F:List aG}{f i:Int}{ST L S:List Int}{σ:MS}:(gL env F f i ST L S σ).Stack.take ((ST.length:Nat):Int).toNat=ST:=by
 unfold gL;simp
theorem Y8{K:eX}{s:al}{P:Int→List ai}(hl:Laid s P)(env:dx):∀(g d:Nat) (S L:List Int) (σ:MS) (o:Oc) (n:Nat) (f:Int) (z a b:Zl) (pre:List Int) (F:List aG) (ST:List Int),
  run K P g d (z.map Prod.fst) (b.map Prod.fst) S L σ=some (o,n)->Y7 s f z pre->z=a++b->d=F.length+1->
  ∃m',iterM K s n (gL env F f (pre.length+aW a) ST L S σ)=some m'/\DZ env F ST m' o:=by
 intro g
 induction g with
 | zero=>intro d S L σ o n f z a b pre F ST h;simp[run]at h
 | succ g ih=>
   intro d S L σ o n f z a b pre F ST h hz zA hd;cases b with
   | nil=>simp[run]at h
   | cons p b=>
     have jC:=hz.1;obtain⟨post,Fa⟩:=hz.2.1;have VM:z=(a++ [p])++b:=by rw[zA];simp
     rw[apF]at h;by_cases kN:p.1.Op=38
     ·rw[ke (DT kN)]at h;obtain⟨k,h2,hk⟩:=iL h;have:=ih d S L σ o n f z (a++ [p]) b pre F ST (by rw[hk];exact h2) hz VM hd;have e:aW (a++ [p])=aW a:=by rw[Hm];simp[aW,dZ,kN]
      rw[e]at this;exact this
     have pD:=afZ zA jC kN pre post;rw[<-Fa]at pD;have dS:(pre.length:Int)+aW a+dZ p=pre.length+aW (a++ [p]):=by
      rw[Hm];simp[aW];omega
     have Fh:gN K s (gL env F f (pre.length+aW a) ST L S σ)=sq K s (gL env F f (pre.length+aW a) ST L S σ) F ⟨f,pre.length+aW a,ST.length,L⟩ (⟨p.1.Op,if jmp p.1.Op then il z p.1.Arg (aW a+dZ p)else p.1.Arg⟩,(pre.length:Int)+aW a+dZ p,0):=by
      rw[step_mk,pD]
     have go:∀{b' a':Zl} {S' L':List Int} {σ':MS} {k:Nat},gN K s (gL env F f (pre.length+aW a) ST L S σ)=some (gL env F f (pre.length+aW a') ST L' S' σ')→z=a'++b'→run K P g d (z.map Prod.fst) (b'.map Prod.fst) S' L' σ'=some (o,k)→n=k+1→
       ∃m',iterM K s n (gL env F f (pre.length+aW a) ST L S σ)=some m'/\DZ env F ST m' o:=by
      intro b' a' S' L' σ' k h1 h2 h3 h4;obtain⟨m',h5,h6⟩:=ih d S' L' σ' o k f z a' b' pre F ST h3 hz h2 hd;exact⟨m',by rw[h4,iterM,h1];exact h5,h6⟩
     have one:∀{m'},gN K s (gL env F f (pre.length+aW a) ST L S σ)=some m'->DZ env F ST m' o->n=1->∃m',iterM K s n (gL env F f (pre.length+aW a) ST L S σ)=some m'/\DZ env F ST m' o:=by
      intro m' h1 h2 h3;exact⟨m',by rw[h3,iterM,h1];rfl,h2⟩
     have jump:jmp p.1.Op=true→∀S' r1 k,after (z.map Prod.fst) p.1.Arg=some r1→gN K s (gL env F f (pre.length+aW a) ST L S σ)=some (gL env F f ((pre.length:Int)+aW a+dZ p+il z p.1.Arg (aW a+dZ p)) ST L S' σ)→run K P g d (z.map Prod.fst) r1 S' L σ=some (o,k)→n=k+1→
       ∃m',iterM K s n (gL env F f (pre.length+aW a) ST L S σ)=some m'/\DZ env F ST m' o:=by
      intro hj S' r1 k h1 h2 h3 h4;obtain⟨a',b',e1,e2,e3⟩:=Gg z p.1.Arg r1 h1;have e4:(pre.length:Int)+aW a+dZ p+il z p.1.Arg (aW a+dZ p)=pre.length+aW a':=by
       unfold il;rw[e3];simp only[ap3];omega
      rw[e4]at h2;exact go h2 e1 (by rw[e2];exact h3) h4
     by_cases jo:p.1.Op=24
     ·rw[run,vZ jo]at h;cases ha:after (z.map Prod.fst) p.1.Arg with
      | none=>rw[ha]at h;cases h
      | some r1=>
        rw[ha]at h;obtain⟨k,h2,hk⟩:=iL h;have hj:jmp p.1.Op=true:=by simp[jmp,jo]
        refine jump hj S r1 k ha ?_ h2 hk;rw[Fh,sq,if_neg (by simp),if_pos jo,if_pos hj];rfl
     by_cases nw:p.1.Op=25
     ·have hj:jmp p.1.Op=true:=by simp[jmp,nw]
      rw[run,sN nw]at h;cases S with
      | nil=>cases h
      | cons v S=>
        have bV:gN K s (gL env F f (pre.length+aW a) ST L (v::S) σ)=EP (gL env F f (pre.length+aW a) ST L (v::S) σ) F ⟨f,pre.length+aW a,ST.length,L⟩ ((pre.length:Int)+aW a+dZ p) (il z p.1.Arg (aW a+dZ p)) (v::S):=by
         rw[Fh,sq,if_neg (by simp),if_neg jo,if_pos nw,I1,if_pos hj]
        rw[Nx.zero]at h;rw[EP,take_mk]at bV;by_cases hv:ar v=0
        ·rw[if_pos hv]at h;rw[if_pos hv]at bV;cases ha:after (z.map Prod.fst) p.1.Arg with
         | none=>rw[ha]at h;cases h
         | some r1=>
           rw[ha]at h;obtain⟨k,h2,hk⟩:=iL h;exact jump hj S r1 k ha bV h2 hk
        ·rw[if_neg hv]at h;rw[if_neg hv]at bV;obtain⟨k,h2,hk⟩:=iL h;rw[dS]at bV;exact go bV VM h2 hk
     have hj:jmp p.1.Op=false:=by simp[jmp,jo,nw]
     simp only[hj,apH,if_false]at Fh;by_cases rV:p.1.Op=27
     ·rw[run,Kq rV]at h;cases S with
      | nil=>cases h
      | cons v S=>
        simp only[Nx.back,anc,ao7]at h;obtain⟨rfl,rfl⟩:=h;have bV:gN K s (gL env F f (pre.length+aW a) ST L (v::S) σ)=JQ (gL env F f (pre.length+aW a) ST L (v::S) σ) F ⟨f,pre.length+aW a,ST.length,L⟩ (v::S):=by
         rw[Fh,sq,if_neg (by simp),if_neg jo,if_neg nw,if_pos rV,I1]
        rw[JQ,take_mk]at bV;refine one bV ?_ rfl;simp only[DZ];by_cases hF:F=[]
        ·simp[hF,gL]
        ·simp[hF,gL]
     by_cases pP:p.1.Op=26
     ·rw[run,DU pP]at h;have lY:(gL env F f (pre.length+aW a) ST L S σ).Frames.length=d:=by simp[gL,hd]
      have bV:gN K s (gL env F f (pre.length+aW a) ST L S σ)=(if 32<=d then(if 0<=K.fn p.1.Arg then some (eO (gL env F f (pre.length+aW a) ST L S σ) 17)else none)else EO K s (gL env F f (pre.length+aW a) ST L S σ) F ⟨f,pre.length+aW a,ST.length,L⟩ ((pre.length:Int)+aW a+dZ p) (K.fn p.1.Arg)):=by
       rw[Fh,sq,if_neg (by simp),if_neg jo,if_neg nw,if_neg rV,if_pos pP,lY]
      by_cases fL:32<=d
      ·rw[if_pos fL]at h bV;by_cases yX:0<=K.fn p.1.Arg
       ·rw[if_pos yX]at h bV;simp only[anc,ao7]at h;obtain⟨rfl,rfl⟩:=h;exact one bV ⟨rfl,rfl,σ.W,rfl⟩ rfl
       ·rw[if_neg yX]at h;cases h
      ·rw[if_neg fL]at h bV;by_cases hp:K.pa (K.fn p.1.Arg)<=S.length
       ·rw[if_pos hp]at h;simp only at h;generalize hr:K.fn p.1.Arg=r at *;generalize hk:K.pa r=k at *;cases hc:run K P g (d+1) (P r) (P r) [] (K.lo r (S.take k).reverse) σ with
        | none=>rw[hc]at h;cases h
        | some y=>
          obtain⟨oc,kc⟩:=y;have bR:P r≠ []:=by
           intro e;obtain⟨g',YJ⟩:=nO hc;rw[e,YJ,run]at hc;cases hc
          obtain⟨cp,zr,af0,hzr,Yh⟩:=hl r bR;have Kr:gN K s (gL env F f (pre.length+aW a) ST L S σ)=some (gL env (F++ [⟨f,(pre.length:Int)+aW a+dZ p,ST.length,L⟩]) r (aB s.Entry r) (ST++(S.drop k).reverse) (K.lo r (S.take k).reverse) [] σ):=by
           rw[bV,EO,I1,hk,if_pos ⟨hp,cp⟩];have e1:(gL env F f (pre.length+aW a) ST L S σ).Stack.length-k=(ST++(S.drop k).reverse).length:=by
            simp[gL];omega
           have e2:(gL env F f (pre.length+aW a) ST L S σ).Stack.take (ST++(S.drop k).reverse).length=ST++(S.drop k).reverse:=by
            have:S.reverse=(S.drop k).reverse++(S.take k).reverse:=by rw[<-List.reverse_append,apv]
            simp only[gL,this,<-apA];rw[List.take_left]
           rw[e1,e2];simp[gL]
          have GD:=Yh.2.2;rw[<-hzr]at hc;obtain⟨m1,qj,x6⟩:=ih (d+1) [] (K.lo r (S.take k).reverse) σ oc kc r zr [] zr af0 (F++ [⟨f,(pre.length:Int)+aW a+dZ p,ST.length,L⟩]) (ST++(S.drop k).reverse) hc Yh rfl (by simp[hd]);rw[hzr]at hc;rw[hc]at h;rw[show(af0.length:Int)+aW []=aB s.Entry r by rw[GD];simp[aW]]at qj;cases oc with
          | ret v σ'=>
            simp only at h;obtain⟨⟨o2,k2⟩,sX,F0⟩:=ao8.1 h;simp only[ao7]at F0;obtain⟨rfl,rfl⟩:=F0;simp only[DZ]at x6;rw[if_neg (by simp)]at x6;have e3:m1=gL env F f (pre.length+aW (a++ [p])) ST L (ar v::S.drop k) σ':=by
             rw[x6,<-dS];simp[gL]
            obtain⟨m',h5,h6⟩:=ih d (ar v::S.drop k) L σ' o2 k2 f z (a++ [p]) b pre F ST sX hz VM hd;refine⟨m',?_,h6⟩;rw[show k2+kc+1=(kc+k2)+1 by omega,iterM,Kr];show iterM K s (kc+k2) _=_;rw[s8,qj,e3];exact h5
          | bH e σ'=>
            simp only[anc,ao7]at h;obtain⟨rfl,rfl⟩:=h;exact⟨m1,by rw[iterM,Kr];exact qj,x6⟩
          | over σ'=>
            simp only[anc,ao7]at h;obtain⟨rfl,rfl⟩:=h;exact⟨m1,by rw[iterM,Kr];exact qj,x6⟩
       ·rw[if_neg hp]at h;cases h
     have hf:flat p.1.Op:=⟨kN,jo,nw,rV,pP⟩
     rw[run,AL hf]at h;have bV:gN K s (gL env F f (pre.length+aW a) ST L S σ)=nT (gL env F f (pre.length+aW a) ST L S σ) F ⟨f,pre.length+aW a,ST.length,L⟩ ((pre.length:Int)+aW a+dZ p) (K.J p.1 S L σ):=by
      rw[Fh,sq,if_neg (by simp),if_neg jo,if_neg nw,if_neg rV,if_neg pP,I1];rfl
     cases hJ:K.J p.1 S L σ with
     | none=>rw[hJ]at h;cases h
     | some ev=>
       rw[hJ]at h bV;cases ev with
       | ok S' L' σ'=>
         obtain⟨k,h2,hk⟩:=iL h;refine go (a':=a++ [p]) ?_ VM h2 hk;rw[bV,nT,take_mk,<-dS];rfl
       | bH e=>
         simp only[Nx.ev,anc,ao7]at h;obtain⟨rfl,rfl⟩:=h;exact one bV ⟨rfl,rfl,σ.W,rfl⟩ rfl
       | over σ'=>
         simp only[Nx.ev,anc,ao7]at h;obtain⟨rfl,rfl⟩:=h;exact one bV ⟨rfl,rfl,rfl⟩ rfl
def kh(n:Int):Bool:=decide (-32768<=n)&&decide (n<=32767)
def ue(l a:List ai)(x:ai):Int:=
 if jmp x.Op=true/\(bQ l).contains x.Arg=false then 11
 else if x.Op=38/\(bQ a).contains x.Arg=true then 10
 else if x.Op=38\/jmp x.Op=true then 0
 else if x.Op<1\/38<x.Op\/(nj x.Op=false/\x.Arg≠0)\/kh x.Arg=false then 16
 else 0
def uf(l:List ai):List ai->List ai->Int
 | _,[]=>0
 | a,x::r=>if ue l a x=0 then uf l (a++ [x]) r else ue l a x
def D0(l:List ai):Int:=uf l [] l
def oJ(n:Int):Nat:=if kh n then dC n else 3
def mR(z:Zl)(i:Nat):Option Zl:=
 match z[i]? with
 | some p=>if jmp p.1.Op=true/\p.2<oJ (il z p.1.Arg (aW (z.take (i+1))))then some (z.set i (p.1,oJ (il z p.1.Arg (aW (z.take (i+1))))))else none
 | none=>none
def dP:Nat->Nat->Zl->Bool->Zl×Bool
 | 0,_,z,b=>(z,b)
 | n+1,i,z,b=>match mR z i with
   | some z'=>dP n (i+1) z' true
   | none=>dP n (i+1) z b
def yu:Nat->Zl->Option Zl
 | 0,_=>none
 | g+1,z=>if(dP z.length 0 z false).2=true then yu g (dP z.length 0 z false).1 else some (dP z.length 0 z false).1
def kH(l:List ai):Zl:=l.map λi=>(i,0)
def pH(l:List ai):List Int×Int:=
 if D0 l≠0 then([],D0 l)
 else match yu (3 *l.length+1) (kH l)with
  | some z=>if 65536<aW z then([],3)else if z.any (λp=>jmp p.1.Op&&decide (p.2=3))=true then([],3)else(fk z 0 z,0)
  | none=>([],3)
theorem Y9{z z':Zl}{i:Nat}(h:mR z i=some z'):z'.map Prod.fst=z.map Prod.fst:=by
 unfold mR at h;split at h
 ·rename_i p hp;split at h
  ·simp only[anc]at h;subst h;rw[List.map_set];refine List.ext_getElem? λk=>?_
   rw[arA];split
   ·rename_i hk;subst hk;have hi:=(apa.1 hp).1;simp only[apx,hi,if_true,apc,hp,apB]
   ·rfl
  ·cases h
 ·cases h
def z8(p:ai×Nat):Prop:=p.2<=3/\(jmp p.1.Op=false->p.2<=2)
def D1(z:Zl):Nat:=(z.map Prod.snd).sum
theorem abO(n:Int):oJ n<=3:=by unfold oJ;split;have:=qB n;omega;omega
theorem Tp:∀(l:List Nat) (i:Nat) (x:Nat) (h:i<l.length),(l.set i x).sum+l[i]=l.sum+x
 | y::l,0,x,_=>by simp;omega
 | y::l,i+1,x,h=>by
   have:=Tp l i x (by simpa using h);simp only[List.set_cons_succ,arh,List.getElem_cons_succ];omega
theorem abP{z z':Zl}{i:Nat}(h:mR z i=some z')(h3:∀p∈z,z8 p):D1 z<D1 z'/\∀p∈z',z8 p:=by
 unfold mR at h;split at h
 ·rename_i p hp;obtain⟨hi,he⟩:=apa.1 hp;split at h
  ·rename_i hc;simp only[anc]at h;subst h;refine⟨?_,?_⟩
   ·unfold D1;rw[List.map_set];have:=Tp (z.map Prod.snd) i (oJ (il z p.1.Arg (aW (z.take (i+1))))) (by simpa using hi);simp only[List.getElem_map,he]at this;have h7:=hc.2;simp only at this⊢;omega
   ·intro q hq;rcases ars hq with hq|hq
    ·exact h3 q hq
    ·rw[hq];exact⟨abO _,λhh=>by rw[hc.1]at hh;cases hh⟩
  ·cases h
 ·cases h
theorem yw:∀(n i:Nat) (z:Zl) (b:Bool),(∀p∈z,z8 p)→(dP n i z b).1.map Prod.fst=z.map Prod.fst∧(∀p∈(dP n i z b).1,z8 p)∧D1 z≤D1 (dP n i z b).1∧
  ((dP n i z b).2=true->b=true\/D1 z<D1 (dP n i z b).1)/\((dP n i z b).2=false->b=false/\(dP n i z b).1=z/\∀j,i<=j->j<i+n->mR z j=none)
 | 0,i,z,b,h3=>by
   refine⟨rfl,h3,api _,λh=>Or.inl h,λh=>⟨h,rfl,λj h1 h2=>by omega⟩⟩
 | n+1,i,z,b,h3=>by
   rw[dP];cases hg:mR z i with
   | none=>
     obtain⟨a1,a2,a3,a4,a5⟩:=yw n (i+1) z b h3;refine⟨a1,a2,a3,a4,λh=>?_⟩;obtain⟨b1,b2,b3⟩:=a5 h;refine⟨b1,b2,λj h1 h2=>?_⟩;by_cases e:j=i
     ·rw[e];exact hg
     ·exact b3 j (by omega) (by omega)
   | some z'=>
     obtain⟨s1,s2⟩:=abP hg h3;obtain⟨a1,a2,a3,a4,a5⟩:=yw n (i+1) z' true s2;refine⟨a1.trans (Y9 hg),a2,by simp only;omega,λ_=>Or.inr (by simp only;omega),λh=>?_⟩;have:=(a5 h).1;cases this
theorem Za:∀(z:Zl),(∀p∈z,z8 p)->D1 z<=3 *z.length
 | [],_=>by simp[D1]
 | p::z,h=>by
   have h1:=Za z (λq hq=>h q (by simp[hq]));have h2:=(h p (by simp)).1;simp only[D1,apF,arh,apj]at h1⊢;omega
theorem zB:∀(g:Nat) (z:Zl),(∀p∈z,z8 p)->3 *z.length<g+D1 z->∃z',yu g z=some z'/\z'.map Prod.fst=z.map Prod.fst/\(∀p∈z',z8 p)/\∀j,mR z' j=none
 | 0,z,h3,hg=>by
   have:=Za z h3;omega
 | g+1,z,h3,hg=>by
   obtain⟨a1,a2,a3,a4,a5⟩:=yw z.length 0 z false h3;have hl:(dP z.length 0 z false).1.length=z.length:=by
    have:=congrArg List.length a1;simpa using this
   rw[yu];by_cases hb:(dP z.length 0 z false).2=true
   ·rw[if_pos hb];have h4:=(a4 hb).resolve_left (by simp);obtain⟨z',b1,b2,b3,b4⟩:=zB g (dP z.length 0 z false).1 a2 (by rw[hl];omega);exact⟨z',b1,b2.trans a1,b3,b4⟩
   ·rw[if_neg hb];obtain⟨_,b2,b3⟩:=a5 (by simpa using hb);refine⟨_,rfl,a1,a2,λj=>?_⟩;rw[b2];by_cases hj:j<z.length
    ·exact b3 j (by omega) (by omega)
    ·unfold mR;rw[apT (by omega)]
theorem D2{l:List ai}:∀(a r:List ai),uf l a r=0->∀b x c,r=b++x::c->ue l (a++b) x=0
 | a,[],_,b,x,c,h=>by simp at h
 | a,y::r,h,b,x,c,hr=>by
   rw[uf]at h;split at h
   ·rename_i hy;cases b with
    | nil=>
      simp only[apK,List.cons.injEq]at hr;rw[<-hr.1,apL];exact hy
    | cons z b=>
      simp only[apm,List.cons.injEq]at hr;have:=D2 (a++ [y]) r h b x c hr.2;rw[apA]at this;rw[hr.1]at this;exact this
   ·rename_i hy;exact(hy h).elim
theorem wW:∀(z:Zl) (n:Int),n∈bQ (z.map Prod.fst)->(ud z n).isSome
 | [],n,h=>by simp[bQ]at h
 | p::z,n,h=>by
   rw[ud];split
   ·rfl
   ·rename_i hp;rw[Option.isSome_map];refine wW z n ?_;rw[qA]at h⊢;obtain⟨i,h1,h2,h3⟩:=h;rcases apq.1 h1 with rfl|h1
    ·exact(hp ⟨h2,h3⟩).elim
    ·exact⟨i,h1,h2,h3⟩
theorem abQ{z a b:Zl}{p:ai×Nat}(h:z=a++p::b):z.take (a.length+1)=a++ [p]:=by
 rw[h,List.take_append,List.take_of_length_le (by omega),show a.length+1-a.length=1 by omega];rfl
theorem Py{l:List ai}{c:List Int}(h:pH l=(c,0)):∃z:Zl,z.map Prod.fst=l/\VL z/\c=fk z 0 z/\aW z<=65536:=by
 unfold pH at h;by_cases hw:D0 l=0
 ·rw[if_neg (by simpa using hw)]at h;obtain⟨z,hz,hf,h3,hg⟩:=zB (3 *l.length+1) (kH l) (by intro p hp;obtain⟨i,_,rfl⟩:=apf.1 hp;exact⟨by simp,λ_=>by simp⟩) (by simp[kH];omega);have lY:z.map Prod.fst=l:=by rw[hf];simp[kH,aq7]
  rw[hz]at h;simp only at h;split at h
  ·simp at h
  ·rename_i hlen;split at h
   ·simp at h
   ·rename_i yq;simp only[ao7,and_true]at h;refine⟨z,lY,?_,h.symm,by omega⟩;intro a p b zA;have LK:=D2 [] l hw (a.map Prod.fst) p.1 (b.map Prod.fst) (by rw[<-lY,zA];simp);rw[apK]at LK;have Tq:=hg a.length;have hap:z[a.length]?=some p:=by rw[zA];simp
    unfold mR at Tq;rw[hap]at Tq;simp only[abQ zA,Hm]at Tq;have rC:aW [p]=dZ p:=by simp[aW]
    rw[rC]at Tq;unfold ue at LK;by_cases hj:jmp p.1.Op=true
    ·have ob:(bQ l).contains p.1.Arg=true:=by
      cases hc:(bQ l).contains p.1.Arg with
      | true=>rfl
      | false=>rw[if_pos ⟨hj,hc⟩]at LK;cases LK
     have aD:p.1.Op=24\/p.1.Op=25:=by simpa[jmp]using hj
     have uD:p.2<=2:=by
      have:=(h3 p (by rw[zA];simp)).1;by_cases e:p.2=3
      ·exact(yq (aqI.2 ⟨p,by rw[zA];simp,by simp[hj,e]⟩)).elim
      ·omega
     have Fi:oJ (il z p.1.Arg (aW a+dZ p))<=p.2:=by
      by_cases hx:p.2<oJ (il z p.1.Arg (aW a+dZ p))
      ·rw[if_pos ⟨hj,hx⟩]at Tq;cases Tq
      ·omega
     refine⟨uD,Or.inr ⟨by omega,by omega,?_⟩⟩;rw[if_pos hj];have lj:kh (il z p.1.Arg (aW a+dZ p))=true:=by
      cases hc:kh (il z p.1.Arg (aW a+dZ p))with
      | true=>rfl
      | false=>unfold oJ at Fi;rw[hc]at Fi;simp at Fi;omega
     unfold oJ at Fi;rw[lj]at Fi;simp only[kh,apb,decide_eq_true_eq]at lj;exact⟨wW z _ (by rw[lY];simpa using ob),lj.1,lj.2,Fi⟩
    ·rw[if_neg (λh=>hj h.1)]at LK;have sX:p.2<=2:=(h3 p (by rw[zA];simp)).2 (by simpa using hj);refine⟨sX,?_⟩;by_cases kN:p.1.Op=38
     ·exact Or.inl kN
     ·rw[if_neg (λh=>kN h.1),if_neg (by rintro(h|h);exact kN h;exact hj h)]at LK;refine Or.inr ?_;split at LK
      ·cases LK
      ·rename_i hn;refine⟨by omega,by omega,?_⟩;rw[if_neg hj];have lj:kh p.1.Arg=true:=by
        cases hc:kh p.1.Arg with
        | true=>rfl
        | false=>exact(hn (Or.inr (Or.inr (Or.inr hc)))).elim
       simp only[kh,apb,decide_eq_true_eq]at lj;refine⟨lj.1,lj.2,λhh=>?_⟩;by_cases e:p.1.Arg=0
       ·exact e
       ·exact(hn (Or.inr (Or.inr (Or.inl ⟨hh,e⟩)))).elim
 ·rw[if_pos hw]at h;simp only[ao7]at h;exact(hw h.2).elim
@[simp] theorem ax.Tr(a b c:Int)(d:ByteArray)(l:List ax):(ax.mk a b c d l).aF=l:=rfl
@[simp] theorem ax.Ts(a b c:Int)(d:ByteArray)(l:List ax):(ax.mk a b c d l).Kind=a:=rfl
@[simp] theorem ax.amr(a b c:Int)(d:ByteArray)(l:List ax):(ax.mk a b c d l).Op=b:=rfl
@[simp] theorem ax.af1(a b c:Int)(d:ByteArray)(l:List ax):(ax.mk a b c d l).aK=c:=rfl
@[simp] theorem ax.aek(a b c:Int)(d:ByteArray)(l:List ax):(ax.mk a b c d l).Name=d:=rfl
theorem ax.qC{e x:ax}(h:x∈e.aF):SizeOf.sizeOf x<SizeOf.sizeOf e:=by
 cases e with
 | mk a b c d l=>
   have:=apP (show x∈l from h);simp only[ax.mk.sizeOf_spec];omega
mutual
def ajJ:ax->Int->Int
 | .mk _ _ _ _ l,m=>adg l (m-1)
def adg:List ax->Int->Int
 | [],m=>m
 | x::l,m=>if m<0 then m else adg l (ajJ x m)
end
mutual
def ug:ax->Int->Int
 | .mk _ _ _ _ l,m=>(if 1<m then fA l (m-1) 0 else 0)+1
def fA:List ax->Int->Int->Int
 | [],_,n=>n
 | x::l,m,n=>fA l m (if n<ug x m then ug x m else n)
end
theorem Pz(e:ax)(m:Int):ug e m=(if 1<m then fA e.aF (m-1) 0 else 0)+1:=by cases e;rw[ug];rfl
theorem Gh(l:List ax)(x:ax)(m n:Int):fA (l++ [x]) m n=if fA l m n<ug x m then ug x m else fA l m n:=by
 induction l generalizing n with
 | nil=>simp only[apK,fA];rfl
 | cons y l ih=>simp only[apm,fA];exact ih _
theorem abR(e:ax)(m:Int)(hm:1<=m):1<=ug e m/\ug e m<=m:=by
 obtain⟨n,hn⟩:∃n,SizeOf.sizeOf e<n:=⟨_,aps _⟩
 induction n generalizing e m with
 | zero=>omega
 | succ n ih=>
   rw[Pz];split
   ·have:∀(l:List ax) (k:Int),(∀x∈l,x∈e.aF)->0<=k->k<=m-1->0<=fA l (m-1) k/\fA l (m-1) k<=m-1:=by
     intro l
     induction l with
     | nil=>intro k _ h1 h2;rw[fA];omega
     | cons x l SP=>
       intro k hx h1 h2;rw[fA];have:=ih x (m-1) (by omega) (by have:=ax.qC (hx x (by simp));omega);apply SP _ (λy hy=>hx y (by simp[hy]))
       ·split<;>omega
       ·split<;>omega
    have:=this e.aF 0 (λ_ h=>h) (by omega) (by omega);omega
   ·omega
theorem LL(l:List ax)(m k:Int)(hm:1<=m)(h1:0<=k)(h2:k<=m):0<=fA l m k/\fA l m k<=m:=by
 induction l generalizing k with
 | nil=>rw[fA];omega
 | cons x l ih=>
   rw[fA];have:=abR x m hm;apply ih
   ·split<;>omega
   ·split<;>omega
theorem ael(e:ax)(he:e.wf)(m:Int)(hm:1<=m/\m<=1000000000000):Pure prog 229 [.agg (e.enc.map .d),iD m] (iD (ug e m)):=by
 obtain⟨n,hn⟩:∃n,SizeOf.sizeOf e<n:=⟨_,aps _⟩
 induction n generalizing e m with
 | zero=>omega
 | succ n ih=>
   have hw:=(ax.qo e).1 he;have hlen:e.aF.length<=2199023255488:=by omega
   have jU:∀(i:Nat) (h:i<e.aF.length) m,1<=m/\m<=1000000000000->Pure prog 229 [.agg ((e.aF[i]).enc.map .d),iD m] (iD (ug (e.aF[i]) m)):=λi h m hm=>
    ih _ (hw.2.2.2.2.2 _ (apk h)) m hm (by have:=ax.qC (apk h);omega)
   rw[Pz];refine rn func229 ?_;simp[f229];generalize e.aF=l at *;intro bs;refine⟨λh1=>?_,λh1=>?_⟩
   ·refine av.cJ [1,5,12,13,14] l.length (λi=> [(5,iD (fA (l.take i) (m-1) 0)),(14,iD i)]) (λ_=> []) (λ_=>True) (by rfl) (by simp[fA]) ?_;intro i hi _;rcases apg hi with au|rfl
    ·have bm:l[i]?=some l[i]:=akC au;have xO:List.take (i+1) l=List.take i l++ [l[i]]:=by rw[apI,bm];rfl
     have hS:=jU i au;generalize hE:l[i]=x at *;have a1:aM .i64 (m-1):=iW;have a2:aM .i64 ((i:Int)+1):=iW;have dH:=Gh (l.take i) x (m-1) 0;rw[<-xO]at dH;generalize hM:fA (l.take i) (m-1) 0=k at *;simp[au,bm,hE];intro bL;refine⟨a1,?_⟩;refine ay.bC rfl (hS (m-1) ⟨by omega,by omega⟩) (by simp) rfl (by simp) rfl ?_;simp[a2,au];refine⟨λh=>?_,λh=>?_⟩
     ·rw[dH,if_pos h]
     ·rw[dH,if_neg (by omega)]
    ·have:=LL l (m-1) 0 (by omega) (by omega) (by omega);simp[h1];rw[aU];omega
   ·rw[if_neg (by omega)];exact⟨iW,rfl⟩
def fG(e:ax)(n:Int)(op num named:Bool):Bool:=decide ((e.aF.length:Int)=n)&&(op||decide (e.Op=0))&&(num||decide (e.aK=0))&&(named||e.Name.toList.isEmpty)
theorem aem(e:ax)(n:Int)(op num named:Bool):Pure prog 232 [.agg (e.enc.map .d),iD n,oD op,oD num,oD named] (oD (fG e n op num named)):=by
 refine rn func232 ?_;simp[f232];refine⟨?_,?_,?_,rfl⟩<;>simp+contextual
def eF(n lo hi:Int):Bool:=decide (lo<=n)&&decide (n<=hi)
theorem qD(n lo hi:Int):Pure prog 231 [iD n,iD lo,iD hi] (oD (eF n lo hi)):=by
 refine rn func231 ?_;simp[f231];rfl
def isM(n:Int):Bool:=decide (-32768<=n)&&decide (n<=32767)
theorem af2(n:Int):Pure prog 56 [iD n] (oD (isM n)):=by
 refine rn func56 ?_;simp[f56];rfl
def my(t:aq)(f:Int):Int:=if eF f 0 (t.cV.length-1)&&eF (t.cV[f.toNat]?.getD 0) 0 (t.Params.length-1)then t.Params[(t.cV[f.toNat]?.getD 0).toNat]?.getD 0 else -1
theorem Zb(t:aq)(ht:t.wf)(f:Int):Pure prog 233 [.agg (t.enc.map .d),iD f] (iD (my t f)):=by
 refine rn func233 ?_;simp[f233];intro bs;refine av.bT [oD (eF f 0 (t.cV.length-1)),oD (eF (t.cV[f.toNat]?.getD 0) 0 (t.Params.length-1))] aS (by kernel_rfl) (by rfl) ?_;have hA:=λa b c L=>(qD a b c).ok L
 have rC:=aq.G5 ht;have lZ:=aq.zk ht;have a1:aM .i64 ((t.cV.length:Int)-1):=iW;have a2:aM .i64 ((t.Params.length:Int)-1):=iW;have hk:eF f 0 (t.cV.length-1)=true->0<=f/\f.toNat<t.cV.length:=by simp[eF];omega
 have rP:eF (t.cV[f.toNat]?.getD 0) 0 (t.Params.length-1)=true->0<=t.cV[f.toNat]?.getD 0/\(t.cV[f.toNat]?.getD 0).toNat<t.Params.length:=by simp[eF];omega
 unfold my;simp[hA,a1,a2];refine⟨λh=>⟨hk h,h⟩,λh h1 h2=>?_,λh1 h2=>?_⟩
 ·simp[h1,h2]at h
 ·refine av.bT [] aS (by kernel_rfl) (by rfl) ?_;simp[h1,h2];exact⟨hk h1,rP h2⟩
def im(t:aq)(e:ax)(locals:Int)(said:Bool):Bool:=
 if e.Kind=1 then fG e 0 false true false&&isM e.aK
 else if e.Kind=14 then fG e 0 false true false&&eF e.aK 0 (t.aP.length-1)
 else if e.Kind=15 then fG e 0 false true false&&decide (0<=e.aK)&&decide (e.aK<locals)
 else if e.Kind=19 then said&&fG e 0 false true false&&eF e.aK 0 (t.fP.length-1)
 else if e.Kind=4\/e.Kind=5\/e.Kind=11 then fG e 1 false false false
 else if e.Kind=13 then said&&fG e 1 false false false
 else if e.Kind=6 then fG e 2 true false false&&eF e.Op 1 14
 else if e.Kind=16 then fG e 1 false true false&&decide (0<=e.aK)&&decide (e.aK<t.Flags)
 else if e.Kind=17 then fG e 1 false true false&&eF e.aK 0 (t.aJ.length-1)
 else if e.Kind=18 then fG e e.aF.length false true false&&decide (my t e.aK=e.aF.length)
 else if e.Kind=10 then fG e 1 true false false&&eF e.Op 1 3
 else if e.Kind=12 then fG e 0 true false false&&eF e.Op 1 6
 else false
mutual
def cT(t:aq)(locals:Int):ax->Bool->Bool
 | .mk k o n s l,said=>im t (.mk k o n s l) locals said&&pq t locals l
def pq(t:aq)(locals:Int):List ax->Bool
 | []=>true
 | x::l=>cT t locals x false&&pq t locals l
end
theorem mT(t:aq)(locals:Int)(e:ax)(said:Bool):cT t locals e said=(im t e locals said&&pq t locals e.aF):=by cases e;rw[cT];rfl
theorem pv(t:aq)(locals:Int)(l:List ax):pq t locals l=l.all λx=>cT t locals x false:=by
 induction l with
 | nil=>rw[pq];rfl
 | cons x l ih=>rw[pq,ih];rfl
set_option maxRecDepth 20000 in
set_option maxHeartbeats 4000000 in
theorem zC(t:aq)(ht:t.wf)(locals:Int)(e:ax)(he:e.wf)(said:Bool):Pure prog 182 [.agg (t.enc.map .d),.agg (e.enc.map .d),iD locals,oD said] (oD (cT t locals e said)):=by
 obtain⟨n,hn⟩:∃n,SizeOf.sizeOf e<n:=⟨_,aps _⟩
 induction n generalizing e said with
 | zero=>omega
 | succ n ih=>
   have hw:=(ax.qo e).1 he;have hlen:e.aF.length<=2199023255488:=by omega
   have jU:∀(i:Nat) (h:i<e.aF.length) said,Pure prog 182 [.agg (t.enc.map .d),.agg ((e.aF[i]).enc.map .d),iD locals,oD said] (oD (cT t locals (e.aF[i]) said)):=λi h said=>
    ih _ (hw.2.2.2.2.2 _ (apk h)) said (by have:=ax.qC (apk h);omega)
   rw[mT];have hA:=λa b c L=>(qD a b c).ok L
   have hI:=λa L=>(af2 a).ok L
   have hB:=λn a b c L=>(aem e n a b c).ok L
   have hP:=λf L=>(Zb t ht f).ok L
   have b1:=aq.ow ht;have b2:=aq.OJ ht;have b3:=aq.ou ht;have a1:aM .i64 ((t.aP.length:Int)-1):=iW;have a2:aM .i64 ((t.fP.length:Int)-1):=iW;have a3:aM .i64 ((t.aJ.length:Int)-1):=iW;have sV:e.Kind=1\/e.Kind=14\/e.Kind=15\/e.Kind=19\/e.Kind=4\/e.Kind=5\/e.Kind=11\/e.Kind=13\/e.Kind=6\/e.Kind=16\/e.Kind=17\/e.Kind=18\/e.Kind=10\/e.Kind=12\/(e.Kind≠1/\e.Kind≠14/\e.Kind≠15/\e.Kind≠19/\e.Kind≠4/\e.Kind≠5/\e.Kind≠11/\e.Kind≠13/\e.Kind≠6/\e.Kind≠16/\e.Kind≠17/\e.Kind≠18/\e.Kind≠10/\e.Kind≠12):=by omega
   rcases sV with hk|hk|hk|hk|hk|hk|hk|hk|hk|hk|hk|hk|hk|hk|hk
   all_goals
    have hK:im t e locals said=im t e locals said:=rfl
    conv at hK=>rhs;unfold im
    simp[hk]at hK;refine rn func182 ?_;simp[f182,hk];intro bs
   refine bq _ _ [oD (fG e 0 false true false),oD (isM e.aK)] (by rfl) ?_
   rotate_left
   refine bq _ _ [oD (fG e 0 false true false),oD (eF e.aK 0 (t.aP.length-1))] (by rfl) ?_
   rotate_left
   refine bq _ _ [oD (fG e 0 false true false)] (by rfl) ?_
   rotate_left
   refine bq _ _ [oD (fG e 0 false true false),oD (eF e.aK 0 (t.fP.length-1))] (by rfl) ?_
   rotate_left
   refine bq _ _ [oD (fG e 1 false false false)] (by rfl) ?_
   rotate_left
   refine bq _ _ [oD (fG e 1 false false false)] (by rfl) ?_
   rotate_left
   refine bq _ _ [oD (fG e 1 false false false)] (by rfl) ?_
   rotate_left
   refine bq _ _ [oD (fG e 1 false false false)] (by rfl) ?_
   rotate_left
   refine bq _ _ [oD (fG e 2 true false false),oD (eF e.Op 1 14)] (by rfl) ?_
   rotate_left
   refine bq _ _ [oD (fG e 1 false true false)] (by rfl) ?_
   rotate_left
   refine bq _ _ [oD (fG e 1 false true false),oD (eF e.aK 0 (t.aJ.length-1))] (by rfl) ?_
   rotate_left
   refine av.bT [oD (fG e e.aF.length false true false),iD (my t e.aK)] aS (by kernel_rfl) (by rfl) ?_
   rotate_left
   refine bq _ _ [oD (fG e 1 true false false),oD (eF e.Op 1 3)] (by rfl) ?_
   rotate_left
   refine bq _ _ [oD (fG e 0 true false false),oD (eF e.Op 1 6)] (by rfl) ?_
   rotate_left
   rotate_left
   all_goals
    try simp[hA,hB,hI,hP,a1,a2,a3]
    refine av.cJ [2,4,9,154,155,156] e.aF.length (λi=> [(9,oD (im t e locals said&&pq t locals (e.aF.take i))),(156,iD i)]) (λ_=> []) (λ_=>True) (by rfl) (by simp[hK,pq]<;>rfl) ?_;clear hK hA hI hB hP a1 a2 a3 b1 b2 b3;generalize im t e locals said=b;intro i hi _;rcases apg hi with au|rfl
    ·have bm:e.aF[i]?=some e.aF[i]:=akC au;have xO:pq t locals (e.aF.take (i+1))=(pq t locals (e.aF.take i)&&cT t locals e.aF[i] false):=by
      rw[apI,bm,pv,pv,arp];simp
     have hS:=λL=>(jU i au false).ok L
     have a2:aM .i64 ((i:Int)+1):=iW;generalize hE:e.aF[i]=x at *;simp[au,bm,hE];intro bL;refine bq _ _ [oD (cT t locals x false)] (by rfl) ?_;simp[hS,a2,au,hE,xO,ary]<;>(intro h1 h2;first|exact⟨h1,h2⟩|exact⟨⟨h1,h2⟩,hS _⟩)
    ·simp
theorem cP(a b:Int):Pure prog 193 [iD a,iD b] (.agg ((ai.mk a b).enc.map .d)):=by
 refine rn func193 ?_;simp[f193];rfl
theorem lR(b:Int):Pure prog 294 [iD b] (.agg ((ai.mk 38 b).enc.map .d)):=by
 refine rn func294 ?_;simp[f294];intro bs;refine ay.bC rfl (cP 38 b) (by simp) rfl (by simp) rfl ?_;simp
theorem xl(b:Int):Pure prog 295 [iD b] (.agg ((ai.mk 24 b).enc.map .d)):=by
 refine rn func295 ?_;simp[f295];intro bs;refine ay.bC rfl (cP 24 b) (by simp) rfl (by simp) rfl ?_;simp
theorem u9(b:Int):Pure prog 293 [iD b] (.agg ((ai.mk 25 b).enc.map .d)):=by
 refine rn func293 ?_;simp[f293];intro bs;refine ay.bC rfl (cP 25 b) (by simp) rfl (by simp) rfl ?_;simp
def dD(e:ax):ai:=
 if e.Kind=1 then⟨1,e.aK⟩else if e.Kind=14 then⟨3,e.aK⟩else if e.Kind=15 then⟨5,e.aK⟩else if e.Kind=12 then⟨7,e.Op⟩
 else if e.Kind=4 then⟨9,0⟩else if e.Kind=5 then⟨10,0⟩else if e.Kind=11 then⟨20,0⟩else if e.Kind=6 then⟨8,e.Op⟩
 else if e.Kind=16 then⟨12,e.aK⟩else if e.Kind=17 then⟨13,e.aK⟩else if e.Kind=18 then⟨26,e.aK⟩else⟨19,e.Op⟩
set_option maxRecDepth 20000 in
set_option maxHeartbeats 4000000 in
theorem Zc(e:ax):Pure prog 307 [.agg (e.enc.map .d)] (.agg ((dD e).enc.map .d)):=by
 have hc:=λa b L=>(cP a b).ok L
 by_cases kj:e.Kind=1
 ·have hO:dD e=⟨1,(e.aK)⟩:=by simp[dD,kj]
  rw[hO];refine rn func307 ?_;simp[f307,kj];intro bs;refine ay.bC rfl (cP 1 (e.aK)) (by simp) rfl (by simp) rfl ?_;simp
 by_cases VN:e.Kind=14
 ·have hO:dD e=⟨3,(e.aK)⟩:=by simp[dD,VN]
  rw[hO];refine rn func307 ?_;simp[f307,VN];intro bs;refine ay.bC rfl (cP 3 (e.aK)) (by simp) rfl (by simp) rfl ?_;simp
 by_cases VO:e.Kind=15
 ·have hO:dD e=⟨5,(e.aK)⟩:=by simp[dD,VO]
  rw[hO];refine rn func307 ?_;simp[f307,VO];intro bs;refine ay.bC rfl (cP 5 (e.aK)) (by simp) rfl (by simp) rfl ?_;simp
 by_cases Ho:e.Kind=12
 ·have hO:dD e=⟨7,(e.Op)⟩:=by simp[dD,Ho]
  rw[hO];refine rn func307 ?_;simp[f307,Ho];intro bs;refine ay.bC rfl (cP 7 (e.Op)) (by simp) rfl (by simp) rfl ?_;simp
 by_cases PA:e.Kind=4
 ·have hO:dD e=⟨9,(0)⟩:=by simp[dD,PA]
  rw[hO];refine rn func307 ?_;simp[f307,PA];intro bs;refine ay.bC rfl (cP 9 (0)) (by simp) rfl (by simp) rfl ?_;simp
 by_cases hk5:e.Kind=5
 ·have hO:dD e=⟨10,(0)⟩:=by simp[dD,hk5]
  rw[hO];refine rn func307 ?_;simp[f307,hk5];intro bs;refine ay.bC rfl (cP 10 (0)) (by simp) rfl (by simp) rfl ?_;simp
 by_cases VP:e.Kind=11
 ·have hO:dD e=⟨20,(0)⟩:=by simp[dD,VP]
  rw[hO];refine rn func307 ?_;simp[f307,VP];intro bs;refine ay.bC rfl (cP 20 (0)) (by simp) rfl (by simp) rfl ?_;simp
 by_cases hk6:e.Kind=6
 ·have hO:dD e=⟨8,(e.Op)⟩:=by simp[dD,hk6]
  rw[hO];refine rn func307 ?_;simp[f307,hk6];intro bs;refine ay.bC rfl (cP 8 (e.Op)) (by simp) rfl (by simp) rfl ?_;simp
 by_cases VQ:e.Kind=16
 ·have hO:dD e=⟨12,(e.aK)⟩:=by simp[dD,VQ]
  rw[hO];refine rn func307 ?_;simp[f307,VQ];intro bs;refine ay.bC rfl (cP 12 (e.aK)) (by simp) rfl (by simp) rfl ?_;simp
 by_cases VR:e.Kind=17
 ·have hO:dD e=⟨13,(e.aK)⟩:=by simp[dD,VR]
  rw[hO];refine rn func307 ?_;simp[f307,VR];intro bs;refine ay.bC rfl (cP 13 (e.aK)) (by simp) rfl (by simp) rfl ?_;simp
 by_cases VS:e.Kind=18
 ·have hO:dD e=⟨26,(e.aK)⟩:=by simp[dD,VS]
  rw[hO];refine rn func307 ?_;simp[f307,VS];intro bs;refine ay.bC rfl (cP 26 (e.aK)) (by simp) rfl (by simp) rfl ?_;simp
 have hO:dD e=⟨19,e.Op⟩:=by simp[dD,kj,VN,VO,Ho,PA,hk5,VP,hk6,VQ,VR,VS]
 rw[hO];refine rn func307 ?_;simp[f307,kj,VN,VO,Ho,PA,hk5,VP,hk6,VQ,VR,VS];intro bs;refine ay.bC rfl (cP 19 e.Op) (by simp) rfl (by simp) rfl ?_;simp
theorem dE(a b:List ai)(ha:a.length<=1000000000000)(hb:b.length<=1000000000000):Pure prog 191 [.d (.sl (a.map ai.enc)),.d (.sl (b.map ai.enc))] (.d (.sl ((a++b).map ai.enc))):=by
 refine rn func191 ?_;simp[f191];omega
mutual
def uh:ax->Nat
 | .mk _ _ _ _ l=>1+fp l
def fp:List ax->Nat
 | []=>0
 | x::l=>uh x+fp l
end
theorem vN(e:ax):uh e=1+fp e.aF:=by cases e;rw[uh];rfl
theorem Hp(l r:List ax):fp (l++r)=fp l+fp r:=by
 induction l with
 | nil=>simp[fp]
 | cons x l ih=>simp only[apm,fp,ih];omega
mutual
def aX:ax->Int->List ai×Int
 | .mk k o n s l,m=>
   if k=6/\(o=1\/o=2)then
    match l with
    | a::b::_=>((aX a (m+2)).1++ [⟨25,m⟩]++(if o=1 then [⟨1,1⟩,⟨24,m+1⟩,⟨38,m⟩]++(aX b (aX a (m+2)).2).1++ [⟨11,0⟩,⟨38,m+1⟩]
      else(aX b (aX a (m+2)).2).1++ [⟨11,0⟩,⟨24,m+1⟩,⟨38,m⟩,⟨1,0⟩,⟨38,m+1⟩]),(aX b (aX a (m+2)).2).2)
    | _=>([],m)
   else((aZ l m).1++ [dD (.mk k o n s l)],(aZ l m).2)
def aZ:List ax->Int->List ai×Int
 | [],m=>([],m)
 | x::l,m=>((aX x m).1++(aZ l (aX x m).2).1,(aZ l (aX x m).2).2)
end
def yx(e:ax):Prop:=e.Kind=6/\(e.Op=1\/e.Op=2)
theorem ui(e:ax)(m:Int)(h:¬yx e):aX e m=((aZ e.aF m).1++ [dD e],(aZ e.aF m).2):=by
 cases e with
 | mk k o n s l=>
   rw[aX.eq_def];have h':¬(k=6/\(o=1\/o=2)):=h;simp only;rw[if_neg h'];rfl
theorem Fj(e a b:ax)(r:List ax)(m:Int)(hk:e.Kind=6)(ho:e.Op=1)(ha:e.aF=a::b::r):aX e m=((aX a (m+2)).1++ [⟨25,m⟩]++([⟨1,1⟩,⟨24,m+1⟩,⟨38,m⟩]++(aX b (aX a (m+2)).2).1++ [⟨11,0⟩,⟨38,m+1⟩]),(aX b (aX a (m+2)).2).2):=by
 cases e with
 | mk k o n s l=>
   cases hk;cases ho;cases ha;rw[aX];simp
theorem BK(e a b:ax)(r:List ax)(m:Int)(hk:e.Kind=6)(ho:e.Op=2)(ha:e.aF=a::b::r):aX e m=((aX a (m+2)).1++ [⟨25,m⟩]++((aX b (aX a (m+2)).2).1++ [⟨11,0⟩,⟨24,m+1⟩,⟨38,m⟩,⟨1,0⟩,⟨38,m+1⟩]),(aX b (aX a (m+2)).2).2):=by
 cases e with
 | mk k o n s l=>
   cases hk;cases ho;cases ha;rw[aX];simp
theorem VT(l:List ax)(x:ax)(m:Int):aZ (l++ [x]) m=((aZ l m).1++(aX x (aZ l m).2).1,(aX x (aZ l m).2).2):=by
 induction l generalizing m with
 | nil=>simp[aZ]
 | cons y l ih=>simp[aZ,ih]
theorem yy(l:List ax)(hl:∀x∈l,∀m,m<=(aX x m).2/\(aX x m).2<=m+2 *uh x/\(aX x m).1.length<=6 *uh x)(m:Int):m<=(aZ l m).2/\(aZ l m).2<=m+2 *fp l/\(aZ l m).1.length<=6 *fp l:=by
 induction l generalizing m with
 | nil=>simp[aZ,fp]
 | cons x l ih=>
   have h1:=hl x (by simp) m;have h2:=ih (λy hy=>hl y (by simp[hy])) (aX x m).2;rw[aZ,fp,aph];omega
theorem lx(e:ax)(m:Int):m<=(aX e m).2/\(aX e m).2<=m+2 *uh e/\(aX e m).1.length<=6 *uh e:=by
 obtain⟨n,hn⟩:∃n,SizeOf.sizeOf e<n:=⟨_,aps _⟩
 induction n generalizing e m with
 | zero=>omega
 | succ n ih=>
   have hs:∀x∈e.aF,∀m,m<=(aX x m).2/\(aX x m).2<=m+2 *uh x/\(aX x m).1.length<=6 *uh x:=λx hx m=>ih x m (by have:=ax.qC hx;omega)
   by_cases hL:yx e
   ·obtain⟨hk,ho⟩:=hL;by_cases hA:∃a b r,e.aF=a::b::r
    ·obtain⟨a,b,r,hA⟩:=hA;have h1:=hs a (by simp[hA]) (m+2);have h2:=hs b (by simp[hA]) (aX a (m+2)).2;rw[vN,hA];simp only[fp];rcases ho with ho|ho
     ·rw[Fj e a b r m hk ho hA];simp only[aph,apj,apC];omega
     ·rw[BK e a b r m hk ho hA];simp only[aph,apj,apC];omega
    ·have:aX e m=([],m):=by
      cases e with
      | mk k o n s l=>
        cases l with
        | nil=>rw[aX.eq_def];simp[show k=6 from hk,show o=1\/o=2 from ho]
        | cons a l=>
          cases l with
          | nil=>rw[aX.eq_def];simp[show k=6 from hk,show o=1\/o=2 from ho]
          | cons b r=>exact absurd ⟨a,b,r,rfl⟩ hA
     rw[this];simp;omega
   ·rw[ui e m hL,vN];have:=yy e.aF hs m;simp only[aph,apj,apC];omega
section
variable {P : Program} {n : Nat} {Q : AX -> St -> Prop}
def ajK(P:Program)(ops:Array Oper)(o:Oper)(s:St)(K:V->Option Nat->aI->Prop)(KP:V->aI->Prop):Prop:=
 (∃x k L',(∀n,fN P n ops o s.fr s.L k x L')/\K x k L')\/(∃y L',(∀n,afe P n ops o s.fr s.L y L')/\KP y L')
def VU(P:Program)(ops:Array Oper)(c:Nat)(ks:List (Option Nat))(Ls:List aI):List Lg->Prop
 | []=>True
 | d::ds=>pF (min d.hi c-d.lo) (d.lo+1) (λp=>x7 P ops d.o ⟨dm ks p d.fr,Ls.getD p []⟩ d.x d.told)/\VU P ops c ks Ls ds
def D3(P:Program)(ops:Array Oper)(c:Nat):List (Oper×Option (Nat×Nat))->kv->List (Option Nat)->List aI->List V->Prop
 | [],_,_,_,_=>True
 | (o,none)::rest,fr,ks,Ls,us=>D3 P ops c rest (gX fr o.dst (ks.length+1) .any) (ks++ [none]) (Ls++ [[]]) us
 | (o,some (lo,hi))::rest,fr,ks,Ls,us=>
   if c<lo then D3 P ops c rest (gX fr o.dst lo .any) ks Ls us
   else if rZ o then
    match us with
    | []=>False
    | u::kM=>match cv P ops ⟨dm ks lo fr,Ls.getD lo []⟩ o u with
      | some (x,cd)=>cd/\pF (min hi c-lo) (lo+1) (λp=>x7 P ops o ⟨dm ks p fr,Ls.getD p []⟩ x (some u))/\D3 P ops c rest (gX fr o.dst lo x) ks Ls kM
      | none=>False
   else
    match qv P ops ⟨dm ks lo fr,Ls.getD lo []⟩ o with
    | some (x,cd)=>cd/\pF (min hi c-lo) (lo+1) (λp=>x7 P ops o ⟨dm ks p fr,Ls.getD p []⟩ x none)/\D3 P ops c rest (gX fr o.dst lo x) ks Ls us
    | none=>False
def vT(P:Program)(ops:Array Oper)(ov:List Nat):List (Oper×Option (Nat×Nat))->kv->List (Option Nat)->List aI->List V->List Lg->(kv->List (Option Nat)->List aI->Prop)->(V->aI->Prop)->Prop
 | [],fr,ks,Ls,_,ds,K,_=>Bo P ops ks Ls ds/\K fr ks Ls
 | (o,none)::rest,fr,ks,Ls,us,ds,K,KP=>
   match(if ov.any (λt=>o.dst==some t)then none else lv P ops ⟨dm ks ks.length fr,Ls.getD ks.length []⟩ o)with
   | some (x,k,L',c)=>c/\vT P ops ov rest (gX fr o.dst (ks.length+1) x) (ks++ [k]) (Ls++ [L']) us ds K KP
   | none=>ajK P ops o ⟨dm ks ks.length fr,Ls.getD ks.length []⟩
     (λx k L'=>vT P ops ov rest (gX fr o.dst (ks.length+1) x) (ks++ [k]) (Ls++ [L']) us ds K KP)
     (λy L'=>KP y L'/\VU P ops ks.length ks Ls ds/\D3 P ops ks.length rest (gX fr o.dst (ks.length+1) .any) (ks++ [none]) (Ls++ [[]]) us)
 | (o,some (lo,hi))::rest,fr,ks,Ls,us,ds,K,KP=>
   if rZ o then
    match us with
    | []=>False
    | u::kM=>match cv P ops ⟨dm ks ks.length fr,Ls.getD ks.length []⟩ o u with
      | some (x,c)=>c∧pF (ks.length-lo) lo (fun p=>x7 P ops o ⟨dm ks p fr,Ls.getD p []⟩ x (some u))∧
        vT P ops ov rest (gX fr o.dst lo x) ks Ls kM (if ks.length<hi then⟨o,fr,x,ks.length,hi,some u⟩::ds else ds) K KP
      | none=>False
   else
    match qv P ops ⟨dm ks ks.length fr,Ls.getD ks.length []⟩ o with
    | some (x,c)=>c∧pF (ks.length-lo) lo (fun p=>x7 P ops o ⟨dm ks p fr,Ls.getD p []⟩ x none)∧
      vT P ops ov rest (gX fr o.dst lo x) ks Ls us (if ks.length<hi then⟨o,fr,x,ks.length,hi,none⟩::ds else ds) K KP
    | none=>False
attribute [simp] vT D3 VU
end
section
variable {P : Program} {n : Nat} {s : St} {Q : AX -> St -> Prop} {L : aI} {ops : Array Oper}
def M4(P:Program)(rs:List ResultVar)(R:AE->aI->Prop)(ts hs:List Nat)(x:AX)(s:St):Prop:=
 match x with
 | .normal|.ret=>(s.pick ts hs).on (keys (s.pick ts hs).L)=true/\fb P rs R .ret (s.pick ts hs)
 | .ix y=>((s.pick [] hs).on (keys (s.pick [] hs).L)=true/\y.on []=true)/\R (.ix y) (s.pick [] hs).L
 | _=>False
theorem av.adh{c rs R} ts hs(ht:ts.all (λt=>decide (t<n))=true)(hh:hs.Nodup)(h:av P n c s (M4 P rs R ts hs)):av P n c s (fb P rs R):=by
 intro fo m a w hr g;refine Code.wpIn_mono (λe a1 w1 hp=>?_) (h fo m a w hr g);obtain⟨ms,m',x,s',rH,hq,g',he,st⟩:=hp;have key:∀y,(s'.pick ts hs).on (keys (s'.pick ts hs).L)=true/\fb P rs R .ret (s'.pick ts hs)->(∀m2,bG w1 (OO (fo.mark ms) m2) m2 e y)->fb P rs R .ret (s'.pick ts hs)=fb P rs R y (s'.pick ts hs)->gi fo n m w (fb P rs R) e a1 w1:=by
  intro y h1 h2 h3;obtain⟨m2,g2,oS⟩:=Wk.pick ts hs ht hh h1.1 (fo.mark ms) m' a1 w1 g';exact⟨ms,m2,y,s'.pick ts hs,rH,h3 ▸ h1.2,g2,h2 m2,st.trans oS⟩
 cases x with
 | normal=>
   refine key .normal hq (λm2=>?_) rfl;grind[bG]
 | ret=>
   refine key .ret hq (λm2=>?_) rfl;grind[bG]
 | ix y=>
   obtain⟨⟨h1,h2⟩,h3⟩:=hq;obtain⟨m2,g2,oS⟩:=Wk.pick [] hs rfl hh h1 (fo.mark ms) m' a1 w1 g';refine⟨ms,m2,.ix y,s'.pick [] hs,rH,h3,g2,?_,st.trans oS⟩;cases e<;>simp[bG]at he⊢
   obtain⟨v,gM,rfl,iC,hv⟩:=he;exact⟨v,gM,rfl,iC,(hv.on (by simp) h2).mono (Step.rJ oS) (Step.sub oS) (λ_ _ e=>e)⟩
 | exit i=>exact hq.elim
 | goto i=>exact hq.elim
theorem aE.D3 ts hs{f}{args}{R}{fn}{c}(hf:P.funcs[f]?=some fn)(hb:fn.body=some c)(hn:args.length≤fn.ntmps∧ts.all (fun t=>decide (t < fn.ntmps))=true∧hs.Nodup)
  (h:cW P fn.ntmps c ⟨eH 0 args,L⟩ (cn P fn.ntmps (M4 P fn.results.toList R ts hs) [])):aE P f args L R:=
 aE.xW hf hb hn.1 (av.adh ts hs hn.2.1 hn.2.2 (ef _ _ _ h))
theorem rX(ts hs:List Nat){f:FuncId}{args:List V}{R:AE→aI→Prop}{fn:Func}{c:Code}(hf:P.funcs[f]?=some fn)(h:cW P fn.ntmps c ⟨eH 0 args,L⟩ (cn P fn.ntmps (M4 P fn.results.toList R ts hs) []))
  (hb:fn.body=some c:=by exact rfl) (hn:Nat.ble args.length fn.ntmps=true:=by exact rfl) (ht:ts.all (λt=>decide (t<fn.ntmps))=true:=by exact rfl) (hd:hs.Nodup:=by decide):aE P f args L R:=aE.D3 ts hs hf hb ⟨Nat.le_of_ble_eq_true hn,ht,hd⟩ h
attribute [simp] M4
theorem ay.Tt(jW:List (Nat×V)){o:Oper}{rest:List Oper}{c:Call}{f:FuncId}{args:List V}{L1 br:aI}{y:V}(hs:List Nat)(aD:o.op= .call c)(h:aE P f args L1 (fun r L=>r= .ix y∧L=br))(hc:callee s.ev c=some (f,args))(hg:o.guard=none)
  (hd:∀d,o.dst=some d->d<n) (he:enters P f=true) (hL:s.L.filter (λp=>hs.contains p.1)=L1)
  (ho:V.dK (keys L1) args=true/\L1.all (λp=>aV.on (keys L1) p.2)=true/\L1.all (λp=>!ff p.2||br.any (λq=>q.1==p.1&&(ff q.2&&mH q.2==mH p.2)))=true)
  (iT:(s.L.filter λp=>!hs.contains p.1).all (λp=>aV.on (keys (s.L.filter λp=>!hs.contains p.1)++keys (L1.filter λp=>ff p.2)) p.2)=true)
  (hk:(keys br).all (λk=>!(keys (s.L.filter λp=>!hs.contains p.1)).contains k)=true)
  (hZ:∀p∈jW,p∈s.fr/\V.on (keys (s.L.filter λp=>!hs.contains p.1)++keys (L1.filter λp=>ff p.2)) p.2=true) (kp:Q (.ix y) ⟨jW,br++s.L.filter λp=>!hs.contains p.1⟩):ay P n ops (o::rest) s Q:=by
 intro fo m0 w0 m a w st g;have gS:=SV L1;unfold wpListIn;rw[if_pos (by simp[Region.wanted,hg])];have zh:s.L.Perm (L1++s.L.filter λp=>!hs.contains p.1):=by subst hL;exact(ap5 _ s.L).symm
 refine Vf aD hc he ho.1 zh ho.2.1 (λp hp=>by have h1:=apd.1 iT p hp;rw[<-gS]at h1;exact h1) h ?_ g (λx uW mm v w' hR _ _ _ _ _ _=>by cases hR.1) (λx uW mm ch w' hR mh hinv qk abx cQ tj=>?_)
 ·rintro r uW ⟨rfl,rfl⟩;refine⟨λk rA=>?_,λk b ty cs hm=>?_⟩
  ·have:=apd.1 hk k rA;simpa using this
  ·exact SW ho.2.2 hm
 ·obtain⟨e,rfl⟩:=hR;obtain rfl:=AE.ix.inj e;have g':G fo n mm ⟨jW,uW++s.L.filter λp=>!hs.contains p.1⟩ a w':=⟨g.size,λt y hy=>by
   obtain⟨h1,h2⟩:=hZ _ hy;obtain⟨q1,q2⟩:=g.fr t y h1;refine⟨q1,(q2.on (λi z hi hz=>abx i z ?_ hz) h2).mono cQ tj (λ_ _ e=>e)⟩;have e:=gS;rw[<-e]at hi;exact hi,hinv,g.defers⟩
  exact .of mm (.ix x) _ kp g' mh (st.trans qk)
theorem ay.kQ{o:Oper}{rest:List Oper}{c:Call}{f:FuncId}{args:List V}{L1 br:aI}{y:V}(hs:List Nat)(aD:o.op= .call c)(h:aE P f args L1 (fun r L=>r= .ix y∧L=br))(hc:callee s.ev c=some (f,args))(hg:o.guard=none)
  (hd:∀d,o.dst=some d->d<n) (he:enters P f=true) (hL:s.L.filter (λp=>hs.contains p.1)=L1)
  (ho:V.dK (keys L1) args=true/\L1.all (λp=>aV.on (keys L1) p.2)=true/\L1.all (λp=>!ff p.2||br.any (λq=>q.1==p.1&&(ff q.2&&mH q.2==mH p.2)))=true)
  (iT:(s.L.filter λp=>!hs.contains p.1).all (λp=>aV.on (keys (s.L.filter λp=>!hs.contains p.1)++keys (L1.filter λp=>ff p.2)) p.2)=true)
  (hk:(keys br).all (λk=>!(keys (s.L.filter λp=>!hs.contains p.1)).contains k)=true)
  (kp:Q (.ix y) ⟨[],br++s.L.filter λp=>!hs.contains p.1⟩):ay P n ops (o::rest) s Q:=
 ay.Tt [] hs aD h hc hg hd he hL ho iT hk (by simp) kp
theorem ay.Tu{o:Oper}{rest:List Oper}{c:Call}{f:FuncId}{args:List V}{L1 br:aI}{y:V}(hs:List Nat)(aD:o.op= .call c)(h:aE P f args L1 (fun r L=>r= .ix y∧L=br))(hc:callee s.ev c=some (f,args))(hg:o.guard=none)
  (hd:∀d,o.dst=some d->d<n) (he:enters P f=true) (hL:s.L.filter (λp=>hs.contains p.1)=L1)
  (ho:V.dK (keys L1) args=true/\L1.all (λp=>aV.on (keys L1) p.2)=true/\L1.all (λp=>!ff p.2||br.any (λq=>q.1==p.1&&(ff q.2&&mH q.2==mH p.2)))=true)
  (iT:(s.L.filter λp=>!hs.contains p.1).all (λp=>aV.on (keys (s.L.filter λp=>!hs.contains p.1)++keys (L1.filter λp=>ff p.2)) p.2)=true)
  (hk:(keys br).all (λk=>!(keys (s.L.filter λp=>!hs.contains p.1)).contains k)=true)
  (kp:Q (.ix y) ⟨s.fr.filter λp=>V.on (keys (s.L.filter λp=>!hs.contains p.1)++keys (L1.filter λp=>ff p.2)) p.2,br++s.L.filter λp=>!hs.contains p.1⟩):ay P n ops (o::rest) s Q:=
 ay.Tt _ hs aD h hc hg hd he hL ho iT hk (λ_ hp=>aqm.1 hp) kp
theorem av.named{c}(h:∀Q',Q'=Q->av P n c s Q'):av P n c s Q:=h _ rfl
theorem PB{id j}(h:Q (.exit j) s)(hn:j≠id):AX.inBlock id Q (.exit j) s:=by simp_all
theorem PC{id}(h:Q .normal s):AX.inBlock id Q (.exit id) s:=by simp_all
theorem Ks{id}(h:Q .ret s):AX.inBlock id Q .ret s:=h
theorem aen{id}(h:Q .normal s):AX.inBlock id Q .normal s:=h
theorem PD{f j}(h:Q (.exit j) s):AX.then f Q (.exit j) s:=h
theorem Fk{f}(h:f s):AX.then f Q .normal s:=h
theorem Kt{f}(h:Q .ret s):AX.then f Q .ret s:=h
end
section
variable {P : Program} {n : Nat} {Q : AX -> St -> Prop} {ops : Array Oper} {ov : List Nat}
def ahB(P:Program)(ops:Array Oper)(ov:List Nat)(l:List (Oper×Option (Nat×Nat)))(fr:kv)(ks:List (Option Nat))(Ls:List aI)(us:List V)(ds:List Lg)(Q:AX->St->Prop):Prop:=
 vT P ops ov l fr ks Ls us ds (λfr ks Ls=>∀bs,Q .normal (St.zi bs ⟨dm ks ks.length fr,Ls.getD ks.length []⟩)) (λy L'=>∀bs,Q (.ix y) (St.zi bs ⟨[],L'⟩))
def VV(P:Program)(ops:Array Oper)(ov:List Nat):List (Oper×Option (Nat×Nat))->kv->List (Option Nat)->List aI->List V->List Lg->(AX->St->Prop)->Prop
 | [],fr,ks,Ls,_,ds,Q=>Bo P ops ks Ls ds/\∀bs,Q .normal (St.zi bs ⟨dm ks ks.length fr,Ls.getD ks.length []⟩)
 | (o,none)::rest,fr,ks,Ls,us,ds,Q=>
   match(if ov.any (λt=>o.dst==some t)then none else lv P ops ⟨dm ks ks.length fr,Ls.getD ks.length []⟩ o)with
   | some (x,k,L',c)=>c/\VV P ops ov rest (gX fr o.dst (ks.length+1) x) (ks++ [k]) (Ls++ [L']) us ds Q
   | none=>ahB P ops ov ((o,none)::rest) fr ks Ls us ds Q
 | (o,some (lo,hi))::rest,fr,ks,Ls,us,ds,Q=>
   if rZ o then
    match us with
    | []=>False
    | u::kM=>match cv P ops ⟨dm ks ks.length fr,Ls.getD ks.length []⟩ o u with
      | some (x,c)=>c∧pF (ks.length-lo) lo (fun p=>x7 P ops o ⟨dm ks p fr,Ls.getD p []⟩ x (some u))∧
        VV P ops ov rest (gX fr o.dst lo x) ks Ls kM (if ks.length<hi then⟨o,fr,x,ks.length,hi,some u⟩::ds else ds) Q
      | none=>False
   else
    match qv P ops ⟨dm ks ks.length fr,Ls.getD ks.length []⟩ o with
    | some (x,c)=>c∧pF (ks.length-lo) lo (fun p=>x7 P ops o ⟨dm ks p fr,Ls.getD p []⟩ x none)∧
      VV P ops ov rest (gX fr o.dst lo x) ks Ls us (if ks.length<hi then⟨o,fr,x,ks.length,hi,none⟩::ds else ds) Q
    | none=>False
theorem cE{L1 br:aI}(h:L1.all (λp=>!ff p.2||br.any (λq=>q.1==p.1&&(ff q.2&&mH q.2==mH p.2)))=true):∀k b ty cs,(k,aV.box (b+1) ty cs)∈L1->∃mf jB,(k,aV.box (b+1) mf jB)∈br:=by
 intro k b ty cs hm;have:=apd.1 h _ hm;simp at this;grind[mH,Option.some.injEq]
attribute [simp] VV
end
end Go.Ab

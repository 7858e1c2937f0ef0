/-
  The texts Bmove Battr Battr2 Nest3 Bref20 Bmix Bval Bval2 Lex Lmach Lsim Lpeep Lpeep2 Lcode Lmc Lasm Gfew Gbound Gref Pd Pe Pf, one behind the other.
-/
import Derived.Test.YtmhnopomnpgcjaaGreatDoorMh4
set_option linter.unusedSimpArgs false
set_option linter.unusedVariables false
namespace Go.Ab
open Go.Proofs Go.Proofs.Tryz
structure vF(w:aj):Prop where
 wf:w.wf
 hC:w.Child.length=w.ae.length
 hN:w.Next.length=w.ae.length
 up:∀x,bY w.ae.length x=true->aH w.ae x=0\/bY w.ae.length (aH w.ae x)=true
theorem vF.SX{w:aj}(hw:w.wf){ls:Int->List Int}(h:ec w.tree w.ae.length ls):vF w:=⟨hw,h.lc,h.ln,λx hx=>by
 rcases h.up x (aY.1 hx).1 (aY.1 hx).2 with h1|h1
 ·exact .inl h1.1
 ·exact .inr (aY.2 h1.1)⟩
def uX(w:aj)(x to:Int):aj:=
 {cx w x with
  ae:=(cx w x).ae.set x.toNat to
  Next:=(cx w x).Next.set x.toNat (aH (cx w x).Child to)
  Child:=(cx w x).Child.set to.toNat x}
theorem IK(w:aj)(x to:Int):(uX w x to).tree=yh (cx w x).tree x to:=rfl
theorem p8(w:aj)(x:Int):(cx w x).ae.length=w.ae.length:=by simp[cx]
theorem GC(w:aj)(x:Int):(cx w x).Child.length=w.Child.length:=by unfold cx;dsimp only;split<;>simp
theorem GD(w:aj)(x:Int):(cx w x).Next.length=w.Next.length:=by unfold cx;dsimp only;split<;>simp[yf]
theorem Lt(w:aj)(h:vF w)(x:Int)(hx:bY w.ae.length x=true):aE prog 284 [.agg (w.enc.map .d),iD x] [] (λr L=>r= .ret (.agg (eE (cx w x)))/\L=gz (cx w x)):=by
 refine aE.wk (abw w x ⟨h.wf,h.hC,h.hN,hx,h.up x hx⟩) ?_;rintro r L ⟨rfl,b1,b2,b3,b4,SW,Ih,cs3,cs4,rfl⟩;refine⟨_,_,_,rfl,Wk.pick [0] [76,75,74,73,72,71,70] (by simp) (by decide) ?_,?_⟩
 ·simp[eE,gz,dd]
 ·simp[gz,eE,St.pick]
def fC(w:aj)(x:Int):aj×Int:=if bY w.ae.length x then(cx w x,0)else(w,11)
theorem DK(w:aj)(h:vF w)(x:Int):Pure prog 254 [.agg (w.enc.map .d),iD x] (.bA [.agg ((fC w x).1.enc.map .d),iD (fC w x).2]):=by
 unfold fC;cases hx:bY w.ae.length x with
 | false=>
   refine rn func254 ?_;simp[-cB,f254]
   try intro(_:Nat->Nat)
   refine pC (dL w _) ?_;simp[-cB,hx]
 | true=>
   have hl:=Lt w h x hx;unfold gz at hl;refine rn func254 ?_;simp[-cB,f254]
   try intro(_:Nat->Nat)
   refine pC (dL w _) ?_;simp[-cB,hx];refine eD [] hl ?_;simp[-cB,eE];rfl
def kX(w:aj)(x to:Int):aj×Int:=
 if bY w.ae.length x&&bY w.ae.length to then if x∈ik w.tree to then(w,18)else(uX w x to,0)else(w,11)
theorem J8(w:aj)(h:vF w)(x to:Int):Pure prog 253 [.agg (w.enc.map .d),iD x,iD to] (.bA [.agg ((kX w x to).1.enc.map .d),iD (kX w x to).2]):=by
 have hC:=h.hC;have hN:=h.hN;unfold kX;cases hx:bY w.ae.length x with
 | false=>
   refine rn func253 ?_;simp[-cB,f253]
   try intro(_:Nat->Nat)
   refine pC (dL w _) ?_;simp[-cB,hx];refine pG (dL w _) ?_;simp[-cB]
 | true=>
   cases pQ:bY w.ae.length to with
   | false=>
     refine rn func253 ?_;simp[-cB,f253]
     try intro(_:Nat->Nat)
     refine pC (dL w _) ?_;simp[-cB,hx];refine pG (dL w _) ?_;simp[-cB,pQ]
   | true=>
     refine rn func253 ?_;simp[-cB,f253]
     try intro(_:Nat->Nat)
     refine pC (dL w _) ?_;simp[-cB,hx];refine pG (dL w _) ?_;simp[-cB,pQ];refine pC (YO w h.wf _ _) ?_;simp[-cB];by_cases hm:x∈ik w.tree to
     ·simp[-cB,hm]
     ·have hl:=Lt w h x hx;unfold gz at hl;have hb:=aY.1 hx;have vy:=aY.1 pQ;have h1:=p8 w x;have h2:=GC w x;have h3:=GD w x;have hT:bY (cx w x).Child.length to=true:=by rw[h2,hC];exact pQ
      have nW:=er hT;simp[-cB,hm];refine eD [] hl ?_;simp[-cB,eE];intro bs;refine av.aU [Q0,Q0,Q0,Q3,Q3,Q3,arc,arc,arc,Q0,Q0,Q0,Q0,Q0,Q0,arc,Q0,none,arb,none,ard,none] [] aT (by kernel_rfl) ?_;simp[-cB,nW,h1,h2,h3];exact⟨⟨by omega,by omega⟩,by omega,⟨by omega,by omega⟩,by omega,⟨by omega,by omega⟩,by omega,⟨by omega,by omega⟩,by omega,rfl⟩
end Go.Ab
namespace Go.Ab
open Go.Proofs Go.Proofs.Tryz
def cz(w:aj)(x f:Int):Int:=if bY w.ae.length x then if 0<=f/\f<=15 then 0 else 5 else 11
theorem O5(w:aj)(x f:Int):Pure prog 207 [.agg (w.enc.map .d),iD x,iD f] (iD (cz w x f)):=by
 unfold cz;cases hT:bY w.ae.length x with
 | false=>
   refine rn func207 ?_;simp[-cB,f207]
   try intro(_:Nat->Nat)
   repeat' (first
    | (with_reducible refine And.intro ?_ ?_)
    | ((first|(refine ax (λh=>?_) (λh=>?_)<;>(try simp at h))|refine pC (dL w _) ?_|refine lC (dL w _) ?_|refine pG (dL w _) ?_)<;>(try simp[-cB, *]))
    | (with_reducible intro _))
 | true=>
   refine rn func207 ?_;simp[-cB,f207]
   try intro(_:Nat->Nat)
   repeat' (first
    | (with_reducible refine And.intro ?_ ?_)
    | ((first|(refine ax (λh=>?_) (λh=>?_)<;>(try simp at h))|refine pC (dL w _) ?_|refine lC (dL w _) ?_|refine pG (dL w _) ?_)<;>(try simp[-cB, *]))
    | (with_reducible intro _))
   all_goals (try omega)
theorem Bw(w:aj)(x f:Int):Pure prog 150 [.agg (w.enc.map .d),iD x,iD f] (iD (cz w x f)):=by
 unfold cz;cases hT:bY w.ae.length x with
 | false=>
   refine rn func150 ?_;simp[-cB,f150]
   try intro(_:Nat->Nat)
   repeat' (first
    | (with_reducible refine And.intro ?_ ?_)
    | ((first|(refine ax (λh=>?_) (λh=>?_)<;>(try simp at h))|refine pC (bC w _) ?_|refine lC (bC w _) ?_|refine pG (bC w _) ?_)<;>(try simp[-cB, *]))
    | (with_reducible intro _))
 | true=>
   refine rn func150 ?_;simp[-cB,f150]
   try intro(_:Nat->Nat)
   repeat' (first
    | (with_reducible refine And.intro ?_ ?_)
    | ((first|(refine ax (λh=>?_) (λh=>?_)<;>(try simp at h))|refine pC (bC w _) ?_|refine lC (bC w _) ?_|refine pG (bC w _) ?_)<;>(try simp[-cB, *]))
    | (with_reducible intro _))
   all_goals (try omega)
def gI(t:ar)(w:aj)(x p:Int):Int:=if bY w.ae.length x then if 0<=p/\p<t.aJ.length then 0 else 5 else 11
theorem zV(t:ar)(w:aj)(x p:Int):Pure prog 154 [.agg (t.enc.map .d),.agg (w.enc.map .d),iD x,iD p] (iD (gI t w x p)):=by
 unfold gI;cases hT:bY w.ae.length x with
 | false=>
   refine rn func154 ?_;simp[-cB,f154]
   try intro(_:Nat->Nat)
   repeat' (first
    | (with_reducible refine And.intro ?_ ?_)
    | ((first|(refine ax (λh=>?_) (λh=>?_)<;>(try simp at h))|refine pC (bC w _) ?_|refine lC (bC w _) ?_|refine pG (bC w _) ?_)<;>(try simp[-cB, *]))
    | (with_reducible intro _))
 | true=>
   refine rn func154 ?_;simp[-cB,f154]
   try intro(_:Nat->Nat)
   repeat' (first
    | (with_reducible refine And.intro ?_ ?_)
    | ((first|(refine ax (λh=>?_) (λh=>?_)<;>(try simp at h))|refine pC (bC w _) ?_|refine lC (bC w _) ?_|refine pG (bC w _) ?_)<;>(try simp[-cB, *]))
    | (with_reducible intro _))
   all_goals (try omega)
theorem G6{n k:Nat}{x p:Int}(hn:n<=32768)(hk:k<=65536)(hx:1<=x/\x<n)(hp:0<=p/\p<k):aN .i64 (x *k)/\aN .i64 (x *k+p):=by
 have h1:0<=x *k:=Int.mul_nonneg (by omega) (by omega);have h2:x *k<=32768 *65536:=Int.mul_le_mul (by omega) (by omega) (by omega) (by omega);rw[aS,aS];omega
theorem O6(t:ar)(w:aj)(hn:w.ae.length<=32768)(hk:t.aJ.length<=65536)(x p:Int):Pure prog 208 [.agg (t.enc.map .d),.agg (w.enc.map .d),iD x,iD p] (eM (if gI t w x p=0 then x *t.aJ.length+p else 0,gI t w x p)):=by
 unfold gI eM;cases hT:bY w.ae.length x with
 | false=>
   refine rn func208 ?_;simp[-cB,f208]
   try intro(_:Nat->Nat)
   repeat' (first
    | (with_reducible refine And.intro ?_ ?_)
    | ((first|(refine ax (λh=>?_) (λh=>?_)<;>(try simp at h))|refine pC (dL w _) ?_|refine lC (dL w _) ?_|refine pG (dL w _) ?_)<;>(try simp[-cB, *]))
    | (with_reducible intro _))
 | true=>
   have hb:=aY.1 hT;by_cases hp:0<=p/\p<t.aJ.length
   ·obtain⟨g1,g2⟩:=G6 hn hk hb hp;have p1:¬p<0:=by omega
    have p2:¬(t.aJ.length:Int)<=p:=by omega
    refine rn func208 ?_;simp[-cB,f208]
    try intro(_:Nat->Nat)
    repeat' (first
     | (with_reducible refine And.intro ?_ ?_)
     | ((first|(refine ax (λh=>?_) (λh=>?_)<;>(try simp at h))|refine pC (dL w _) ?_|refine lC (dL w _) ?_|refine pG (dL w _) ?_)<;>(try simp[-cB, *]))
     | (with_reducible intro _))
   ·refine rn func208 ?_;simp[-cB,f208]
    try intro(_:Nat->Nat)
    repeat' (first
     | (with_reducible refine And.intro ?_ ?_)
     | ((first|(refine ax (λh=>?_) (λh=>?_)<;>(try simp at h))|refine pC (dL w _) ?_|refine lC (dL w _) ?_|refine pG (dL w _) ?_)<;>(try simp[-cB, *]))
     | (with_reducible intro _))
    all_goals (try omega)
def tl(t:ar)(w:aj)(x p:Int):Int×Int:=(if gI t w x p=0 then w.aJ[(x *t.aJ.length+p).toNat]?.getD 0 else 0,gI t w x p)
theorem Bx{n k m:Nat}{x p:Int}(hm:n *k=m)(hx:1<=x/\x<n)(hp:0<=p/\p<k):0<=x *k+p/\(x *k+p).toNat<m:=by
 have h1:0<=x *k:=Int.mul_nonneg (by omega) (by omega);have h2:(x+1) *k<=n *k:=Int.mul_le_mul_of_nonneg_right (by omega) (by omega);rw[Int.add_mul,Int.one_mul]at h2;have h3:((n *k:Nat):Int)=(n:Int) *k:=by simp
 omega
theorem SY(t:ar)(w:aj)(hn:w.ae.length<=32768)(hk:t.aJ.length<=65536)(hm:w.ae.length *t.aJ.length=w.aJ.length)(x p:Int):Pure prog 140 [.agg (t.enc.map .d),.agg (w.enc.map .d),iD x,iD p] (eM (tl t w x p)):=by
 have fJ:=O6 t w hn hk x p;unfold eM at fJ⊢;unfold tl;by_cases he:gI t w x p=0
 ·have hT:bY w.ae.length x=true/\0<=p/\p<t.aJ.length:=by
   unfold gI at he;split at he
   ·split at he
    ·rename_i a b;exact⟨a,b⟩
    ·omega
   ·omega
  have hl:=Bx hm (aY.1 hT.1) hT.2;rw[he]at fJ⊢;simp at fJ;generalize x *t.aJ.length+p=q at *;refine rn func140 ?_;simp[-cB,f140]
  try intro(_:Nat->Nat)
  repeat' (first
   | (with_reducible refine And.intro ?_ ?_)
   | ((first|(refine ax (λh=>?_) (λh=>?_)<;>(try simp at h))|refine pC fJ ?_|refine lC fJ ?_|refine pG fJ ?_)<;>(try simp[-cB, *]))
   | (with_reducible intro _))
 ·simp[he]at fJ;generalize gI t w x p=e at *;refine rn func140 ?_;simp[-cB,f140]
  try intro(_:Nat->Nat)
  repeat' (first
   | (with_reducible refine And.intro ?_ ?_)
   | ((first|(refine ax (λh=>?_) (λh=>?_)<;>(try simp at h))|refine pC fJ ?_|refine lC fJ ?_|refine pG fJ ?_)<;>(try simp[-cB, *]))
   | (with_reducible intro _))
  all_goals (exact absurd (by assumption) he)
theorem Vn(t:ar)(w:aj)(hn:w.ae.length<=32768)(hk:t.aJ.length<=65536)(hm:w.ae.length *t.aJ.length=w.aJ.length)(x p:Int):Pure prog 108 [.agg (t.enc.map .d),.agg (w.enc.map .d),iD x,iD p] (eM (tl t w x p)):=by
 have fJ:=zV t w x p;unfold eM tl;by_cases he:gI t w x p=0
 ·have hT:bY w.ae.length x=true/\0<=p/\p<t.aJ.length:=by
   unfold gI at he;split at he
   ·split at he
    ·rename_i a b;exact⟨a,b⟩
    ·omega
   ·omega
  have hl:=Bx hm (aY.1 hT.1) hT.2;obtain⟨g1,g2⟩:=G6 hn hk (aY.1 hT.1) hT.2;rw[he]at fJ⊢;refine rn func108 ?_;simp[-cB,f108]
  try intro(_:Nat->Nat)
  repeat' (first
   | (with_reducible refine And.intro ?_ ?_)
   | ((first|(refine ax (λh=>?_) (λh=>?_)<;>(try simp at h))|refine pC fJ ?_|refine lC fJ ?_|refine pG fJ ?_)<;>(try simp[-cB, *]))
   | (with_reducible intro _))
 ·generalize gI t w x p=e at *;refine rn func108 ?_;simp[-cB,f108]
  try intro(_:Nat->Nat)
  repeat' (first
   | (with_reducible refine And.intro ?_ ?_)
   | ((first|(refine ax (λh=>?_) (λh=>?_)<;>(try simp at h))|refine pC fJ ?_|refine lC fJ ?_|refine pG fJ ?_)<;>(try simp[-cB, *]))
   | (with_reducible intro _))
  all_goals (exact absurd (by assumption) he)
def mW(t:ar)(w:aj)(x p n:Int):aj×Int:=if gI t w x p=0 then if gQ n then({w with aJ:=w.aJ.set (x *t.aJ.length+p).toNat n},0)else(w,1)else(w,gI t w x p)
theorem Vo(t:ar)(w:aj)(x p n:Int)(he:gI t w x p≠0):Pure prog 96 [.agg (t.enc.map .d),.agg (w.enc.map .d),iD x,iD p,iD n] (.bA [.agg (w.enc.map .d),iD (gI t w x p)]):=by
 have fJ:=zV t w x p;generalize gI t w x p=e at *;refine rn func96 ?_;simp[-cB,f96]
 try intro(_:Nat->Nat)
 repeat' (first
  | (with_reducible refine And.intro ?_ ?_)
  | ((first|(refine ax (λh=>?_) (λh=>?_)<;>(try simp at h))|refine pC fJ ?_|refine lC fJ ?_|refine pG fJ ?_)<;>(try simp[-cB, *]))
  | (with_reducible intro _))
 all_goals (exact absurd (by assumption) he)
theorem YS(t:ar)(w:aj)(hw:w.wf)(hn:w.ae.length<=32768)(hk:t.aJ.length<=65536)(hm:w.ae.length *t.aJ.length=w.aJ.length)(x p n:Int):Pure prog 96 [.agg (t.enc.map .d),.agg (w.enc.map .d),iD x,iD p,iD n] (.bA [.agg ((mW t w x p n).1.enc.map .d),iD (mW t w x p n).2]):=by
 unfold mW;by_cases he:gI t w x p=0
 ·have fJ:=zV t w x p;have hwl:=aj.ou hw;have hT:bY w.ae.length x=true/\0<=p/\p<t.aJ.length:=by
   unfold gI at he;split at he
   ·split at he
    ·rename_i a b;exact⟨a,b⟩
    ·omega
   ·omega
  have hl:=Bx hm (aY.1 hT.1) hT.2;obtain⟨g1,g2⟩:=G6 hn hk (aY.1 hT.1) hT.2;rw[he]at fJ;simp only[he,if_true];cases hi:gQ n with
  | false=>
    simp only[aph,if_false];refine rn func96 ?_;simp[-cB,f96]
    try intro(_:Nat->Nat)
    repeat' (first
     | (with_reducible refine And.intro ?_ ?_)
     | (refine ax (λh=>?_) (λh=>?_)<;>(try simp at h)<;>(try simp[-cB,h,hi]))
     | ((first|refine pC fJ ?_|refine pC (ng _) ?_|refine lC fJ ?_|refine lC (ng _) ?_|refine pG fJ ?_|refine pG (ng _) ?_)<;>(try simp[-cB,hi]))
     | (with_reducible intro _))
  | true=>
    simp only[if_true];have e1:(w.enc.map V.d)=[.d (.sl (aC w.aQ)),.d (.sl (aC w.ae)),.d (.sl (aC w.Child)),.d (.sl (aC w.Next)),.d (.sl (aC w.Flags)),.d (.sl (aC w.aJ)),.d (.sl (aC w.bc)),.d (.v (.int .u64 w.cO)),iD w.Score,iD w.jO,iD w.iB,iD w.It,iD w.Go]:=rfl;rw[e1]at fJ⊢;refine rn func96 ?_;simp[-cB,f96]
    try intro(_:Nat->Nat)
    repeat' (first
     | (with_reducible refine And.intro ?_ ?_)
     | (refine ax (λh=>?_) (λh=>?_)<;>(try simp at h)<;>(try simp[-cB,h,hi]))
     | ((first|refine pC fJ ?_|refine pC (ng _) ?_|refine lC fJ ?_|refine lC (ng _) ?_|refine pG fJ ?_|refine pG (ng _) ?_)<;>(try simp[-cB,hi]))
     | (with_reducible intro _))
    all_goals (first|exact g1|exact g2|exact hl|exact hl.1|exact hl.2|omega|rfl|skip)
 ·rw[if_neg he];exact Vo t w x p n he
theorem Ch.ajp{nx:List Int}{n:Nat}{c:Int}{l:List Int}(h:Ch nx n c l):∀(i:Nat) (hi:i<l.length),aH nx l[i]=l[i+1]?.getD 0:=by
 induction h with
 | nil=>intro i hi;simp at hi
 | @cons c l h t ih=>
   intro i hi;cases i with
   | zero=>
     simp only[List.getElem_cons_zero,apv];generalize aH nx c=z at t;cases t with
     | nil=>rfl
     | cons h' t'=>rfl
   | succ i=>
     simp only[List.getElem_cons_succ,apv];exact ih i (by simpa using hi)
theorem Ch.ajq{nx:List Int}{n:Nat}{c x:Int}{l:List Int}(h:Ch nx n c l)(hx:1<=x):∀i,i<=l.length->sw nx x (l.take i)=if 0<l.idxOf x/\l.idxOf x<=i/\l.idxOf x<l.length then nx.set (l[l.idxOf x-1]?.getD 0).toNat (aH nx x)else nx:=by
 intro i
 induction i with
 | zero=>intro _;rw[if_neg (by omega)];rfl
 | succ i ih=>
   intro hi;have hg:=h.ajp i (by omega);have gv:=h.nodup;rw[api,akC (by omega),Option.toList_some,DJ,ih (by omega),hg];by_cases hk:i+1=l.idxOf x/\l.idxOf x<l.length
   ·have hs:l[i+1]?.getD 0=x:=by
     rw[hk.1,akC hk.2,apA,List.getElem_idxOf]
    rw[if_pos hs,if_neg (by omega),if_pos (by omega)];have:l[l.idxOf x-1]?.getD 0=l[i]:=by
     rw[<-hk.1,Nat.add_sub_cancel,akC (by omega)];rfl
    rw[this]
   ·have hs:l[i+1]?.getD 0≠x:=by
     intro e;by_cases hl:i+1<l.length
     ·rw[akC hl,apA]at e;have:l.idxOf x=i+1:=by rw[<-e];exact aq0 gv _ hl
      omega
     ·rw[apC (by omega)]at e;simp at e;omega
    rw[if_neg hs];by_cases hc:0<l.idxOf x/\l.idxOf x<=i/\l.idxOf x<l.length
    ·rw[if_pos hc,if_pos (by omega)]
    ·rw[if_neg hc,if_neg (by omega)]
def qo(t:Tree)(x:Int)(ks:List Int)(i:Nat):List Int:=if ks.idxOf x=0/\0<i/\ks.idxOf x<ks.length then t.gi.set (aH t.bl x).toNat (aH t.gk x)else t.gi
def qp(t:Tree)(x:Int)(ks:List Int)(i:Nat):List Int:=if 0<ks.idxOf x/\ks.idxOf x<i/\ks.idxOf x<ks.length then t.gk.set (ks[ks.idxOf x-1]?.getD 0).toNat (aH t.gk x)else t.gk
theorem ec.afJ{t:Tree}{n:Nat}{ls:Int→List Int}(h:ec t n ls){x:Int}(hx:1≤x∧x < n):
  qo t x (br t (aH t.bl x)) (br t (aH t.bl x)).length=(kg t x).gi/\(qp t x (br t (aH t.bl x)) (br t (aH t.bl x)).length).set x.toNat 0=(kg t x).gk:=by
 unfold kg;dsimp only;rcases h.up x hx.1 hx.2 with⟨h1,h2⟩|⟨h1,h2⟩
 ·have hk:br t (aH t.bl x)=[]:=by rw[br,if_neg (by rw[h1];simp[bY])]
  rw[hk];simp[qo,qp,h1]
 ·rw[h.kids h1];have ma:=h.ch _ h1.1 h1.2;have h0:aH t.bl x≠0:=by omega
  have aw:(ls (aH t.bl x)).idxOf x<(ls (aH t.bl x)).length:=List.idxOf_lt_length_of_mem h2;have hC:aH t.gi (aH t.bl x)=x↔(ls (aH t.bl x)).idxOf x=0:=by
   generalize ls (aH t.bl x)=l at *;generalize aH t.gi (aH t.bl x)=c at *;cases ma with
   | nil=>cases h2
   | cons a b=>
     rw[List.idxOf_cons];by_cases he:c=x<;>simp[he]
  have afK:=ma.ajq hx.1 _ (aoT _);rw[apl]at afK;rw[afK];unfold qo qp;by_cases hz:(ls (aH t.bl x)).idxOf x=0
  ·rw[if_pos ⟨hz,by omega,aw⟩,if_pos ⟨h0,hC.2 hz⟩,if_neg (by omega),if_pos (.inr (hC.2 hz))];exact⟨rfl,rfl⟩
  ·rw[if_neg (λe=>hz e.1),if_neg (λe=>hz (hC.1 e.2)),if_pos ⟨by omega,aw,aw⟩,if_neg (λe=>hz (hC.1 (e.resolve_left h0))),if_pos ⟨by omega,by omega,aw⟩];exact⟨rfl,rfl⟩
theorem ec.O7{t:Tree}{n:Nat}{ls:Int->List Int}(h:ec t n ls)(x:Int):(br t x).Nodup:=by
 by_cases hx:1<=x/\x<n
 ·rw[h.kids hx];exact(h.ch x hx.1 hx.2).nodup
 ·rw[br,if_neg (by rw[aY,h.lp];exact hx)];simp
theorem Rv{t:Tree}{x:Int}{i:Nat}(h:i<(br t x).length):1<=x/\x<t.bl.length:=by
 unfold br at h;split at h
 ·rename_i e;exact aY.1 e
 ·simp at h
theorem abx(t:Tree)(x:Int)(ks:List Int)(i:Nat):(qp t x ks i).length=t.gk.length:=by unfold qp;split<;>simp
theorem aby(t:Tree)(x:Int)(ks:List Int)(i:Nat):(qo t x ks i).length=t.gi.length:=by unfold qo;split<;>simp
theorem ajr{t:Tree}{x:Int}{ks:List Int}(gv:ks.Nodup){i:Nat}(hi:i<ks.length)(h:ks[i]≠x):qo t x ks (i+1)=qo t x ks i/\qp t x ks (i+1)=qp t x ks i:=by
 have hk:ks.idxOf x<ks.length->ks.idxOf x≠i:=λh1 e=>h (by
  have:=List.getElem_idxOf h1;simp only[e]at this;exact this)
 unfold qo qp;refine⟨?_,?_⟩
 ·by_cases hc:ks.idxOf x=0/\0<i/\ks.idxOf x<ks.length
  ·rw[if_pos hc,if_pos ⟨hc.1,by omega,hc.2.2⟩]
  ·rw[if_neg hc,if_neg];rintro⟨h1,h2,h3⟩;exact hc ⟨h1,by have:=hk h3;omega,h3⟩
 ·by_cases hc:0<ks.idxOf x/\ks.idxOf x<i/\ks.idxOf x<ks.length
  ·rw[if_pos hc,if_pos ⟨hc.1,by omega,hc.2.2⟩]
  ·rw[if_neg hc,if_neg];rintro⟨h1,h2,h3⟩;exact hc ⟨h1,by have:=hk h3;omega,h3⟩
theorem ahj{t:Tree}{x:Int}{ks:List Int}(gv:ks.Nodup)(hi:0<ks.length)(h:ks[0]=x):qo t x ks 1=t.gi.set (aH t.bl x).toNat (aH t.gk x)/\qo t x ks 0=t.gi/\qp t x ks 0=t.gk/\qp t x ks 1=t.gk:=by
 have hk:ks.idxOf x=0:=by rw[<-h];exact aq0 gv _ hi
 simp[qo,qp,hk,hi]
theorem ahk{t:Tree}{x:Int}{ks:List Int}(gv:ks.Nodup){i:Nat}(hi:i+1<ks.length)(h:ks[i+1]=x):qo t x ks (i+1)=t.gi/\qo t x ks (i+1+1)=t.gi/\qp t x ks (i+1)=t.gk/\qp t x ks (i+1+1)=t.gk.set (ks[i]).toNat (aH t.gk x):=by
 have hk:ks.idxOf x=i+1:=by rw[<-h];exact aq0 gv _ hi
 have hg:ks[i]?.getD 0=ks[i]:=by rw[akC (by omega)];rfl
 simp[qo,qp,hk,hi];rw[hg]
def tJ(w:aj):List V:=[.d (.sl (aC w.aQ)),.rv 71,.rv 72,.rv 73,.d (.sl (aC w.Flags)),.d (.sl (aC w.aJ)),.d (.sl (aC w.bc)),.d (.v (.int .u64 w.cO)),iD w.Score,iD w.jO,iD w.iB,iD w.It,iD w.Go]
def wJ(w:aj):aI:=[(71,.row 3 1 (dd (aC w.ae))),(72,.row 3 1 (dd (aC w.Child))),(73,.row 3 1 (dd (aC w.Next)))]
theorem YT(w:aj)(hw:w.wf):aE prog 158 [.agg (w.enc.map .d)] [] (λr L=>r= .ret (.agg (tJ w))/\L=wJ w):=by
 have h1:=aj.fW hw;have h2:=aj.Ou hw;have h3:=aj.SE hw
 let cs:List V:=[.d (.sl (aC w.aQ)),.rv 3,.rv 8,.rv 13,.d (.sl (aC w.Flags)),.d (.sl (aC w.aJ)),.d (.sl (aC w.bc)),.d (.v (.int .u64 w.cO)),iD w.Score,iD w.jO,iD w.iB,iD w.It,iD w.Go]
 refine aE.wk (R:=λr L=>r= .ret (.agg cs)/\∃b1 b2,L=[(13,.row 3 1 (dd (aC w.Next))),(8,.row 3 1 (dd (aC w.Child))),(3,.row 3 1 (dd (aC w.ae))),(2,.box b2 34 cs),(1,.box b1 34 cs)]) ?_ ?_
 ·unfold aj.enc;refine aE.run func158 rfl (by simp[f158]) ?_;simp[f158];refine⟨by omega,by omega,by omega,rfl⟩
 ·rintro r L ⟨rfl,b1,b2,rfl⟩;refine⟨_,_,_,rfl,((Wk.eS 13 73 (by simp[keys])).trans ((Wk.eS 8 72 (by simp[keys])).trans ((Wk.eS 3 71 (by simp[keys])).trans (Wk.pick [0] [71,72,73] (by simp) (by decide) ?_)))),?_⟩
  ·simp[cs,dd]
  ·simp[wJ,tJ,St.pick,cs]
theorem Mx(w:aj)(hw:w.wf){x:Int}(hx:bY w.ae.length x=false):Pure prog 98 [.agg (w.enc.map .d),iD x] (.bA [.agg (w.enc.map .d),iD 11]):=by
 refine rn func98 ?_;simp[-cB,f98]
 try intro(_:Nat->Nat)
 refine pC (bC w _) ?_;simp[-cB,hx]
theorem My(w:aj)(hw:w.wf){ls:Int->List Int}(hn:ec w.tree w.ae.length ls){x:Int}(hx:bY w.ae.length x=true):aE prog 98 [.agg (w.enc.map .d),iD x] [] (λr L=>r= .ret (.bA [.agg (tJ (cx w x)),iD 0])/\∃b1 b2 SW Ih,L=wJ (cx w x)++ [(4,.box b1 34 SW),(2,.box b2 34 Ih)]):=by
 have hC:w.Child.length=w.ae.length:=hn.lc;have hN:w.Next.length=w.ae.length:=hn.ln;have nW:=er hx;have hb:=aY.1 hx;have DG:=YT w hw;unfold wJ at DG;refine aE.run func98 rfl (by simp[f98]) ?_;simp[f98];intro bs;refine pC (bC w _) ?_;simp[-cB,hx,nW];refine⟨⟨by omega,by omega⟩,?_⟩;refine pC (oz w hw _) ?_;simp[-cB];refine eD [] DG ?_;simp[-cB,tJ];have gv:=hn.O7 (aH w.ae x);have fp:=λy=>nX (t:=w.tree) (x:=aH w.ae x) (y:=y)
 have wg:=λi=>Rv (t:=w.tree) (x:=aH w.ae x) (i:=i)
 have hK:=hn.afJ hb;have eP:w.tree.bl=w.ae:=rfl;have eC:w.tree.gi=w.Child:=rfl;have eN:w.tree.gk=w.Next:=rfl;have F2:bY w.Next.length x=true:=by rw[hN];exact hx
 have O4:=er F2;rw[eP]at fp wg hK;have hl:=aj.fW hw;have tH:(br w.tree (aH w.ae x)).length<=w.ae.length:=by
  unfold br;have h1:(bH w.tree.gk w.tree.bl.length w.tree.bl.length (aH w.tree.gi (aH w.ae x))).length<=w.ae.length:=wG _ _ _ _;split
  ·exact h1
  ·simp
 generalize br w.tree (aH w.ae x)=ks at *;have CM:=λi=>abx w.tree x ks i
 have nF:=λi=>aby w.tree x ks i
 rw[eN,hN]at CM;rw[eC,hC]at nF;refine av.cI [1,2,4,6,7,8] ks.length (λi=> [(8,iD i)]) (λi=> [(72,.row 3 1 (dd (aC (qo w.tree x ks i)))),(73,.row 3 1 (dd (aC (qp w.tree x ks i))))]) (λ_=>True) (by rfl) (by simp[qo,qp,aj.tree]) ?_;intro i hi _;rcases aoR hi with aw|rfl
 ·have bm:ks[i]?.getD 0=ks[i]:=by rw[akC aw];rfl
  have hu:=wg i aw;by_cases zl:ks[i]=x
  ·cases i with
   | zero=>
     obtain⟨k1,k2,k3,k4⟩:=ahj (t:=w.tree) gv aw zl;rw[eC,eP,eN]at k1;rw[eC]at k2;rw[eN]at k3 k4;simp[-cB,aw,bm,zl,k1,k2,k3,k4];refine av.aU [Q0,Q0,Q0,Q0,Q0,Q0,Q0,Q0,Q0,none] [] aT (by kernel_rfl) ?_;simp[-cB,O4,k1,k4];exact⟨⟨by omega,by omega⟩,by omega,⟨by omega,by omega⟩,by omega,iW,aw⟩
   | succ i=>
     obtain⟨k1,k2,k3,k4⟩:=ahk (t:=w.tree) gv aw zl;rw[eN]at k4 k3;rw[eC]at k1 k2;have nP:(i:Int)+1<ks.length:=by omega
     have ajs:¬((i:Int)+1=0):=by omega
     have FQ:((i:Int)+1).toNat=i+1:=by omega
     simp[-cB,aw,nP,ajs,FQ,bm,zl,k1,k2,k3,k4];have hgi:ks[i]?.getD 0=ks[i]:=by rw[akC (by omega)];rfl
     have hmi:=fp ks[i] (aoV _);refine⟨by omega,?_⟩;have e1:(i:Int)+1-1=i:=by omega
     refine av.aU [Q0,Q0,Q0,Q0,Q0,Q0,Q0,Q0,Q0,Q0,Q0,Q0,Q0,none] [] aT (by kernel_rfl) ?_;simp[-cB,O4,k2,k4,hgi,e1];exact⟨iW,by omega,⟨by omega,by omega⟩,by omega,⟨by omega,by omega⟩,by omega,iW,aw⟩
  ·obtain⟨k1,k2⟩:=ajr (t:=w.tree) gv aw zl;simp[-cB,aw,bm,zl,k1,k2];rw[aS];omega
 ·simp[-cB];rw[CM];refine⟨⟨by omega,by omega⟩,by omega,⟨by omega,by omega⟩,by omega,?_⟩;have r1:qo w.tree x ks ks.length=(cx w x).Child:=hK.1;have r2:(qp w.tree x ks ks.length).set x.toNat 0=(cx w x).Next:=hK.2;rw[r1,r2];exact⟨⟨rfl,rfl,rfl,rfl,rfl,rfl,rfl,rfl,rfl,rfl⟩,_,_,_,_,rfl⟩
theorem Ct(w:aj)(hw:w.wf){ls:Int->List Int}(hn:ec w.tree w.ae.length ls){x:Int}(hx:bY w.ae.length x=true):aE prog 98 [.agg (w.enc.map .d),iD x] [] (λr L=>r= .ret (.bA [.agg (tJ (cx w x)),iD 0])/\L=wJ (cx w x)):=by
 refine aE.wk (My w hw hn hx) ?_;rintro r L ⟨rfl,b1,b2,SW,Ih,rfl⟩;refine⟨_,_,_,rfl,Wk.pick [0] [71,72,73] (by simp) (by decide) ?_,?_⟩
 ·simp[tJ,wJ,dd]
 ·simp[wJ,tJ,St.pick]
theorem Mz(w:aj)(hw:w.wf){ls:Int->List Int}(hn:ec w.tree w.ae.length ls){x:Int}(hx:bY w.ae.length x=true):Pure prog 98 [.agg (w.enc.map .d),iD x] (.bA [.agg ((cx w x).enc.map .d),iD 0]):=by
 refine⟨by kernel_rfl,by simp,by simp,(aE.data ((Ct w hw hn hx).mono ?_) (by simp)).mono λ_ _ h=>h.1⟩;rintro r L ⟨rfl,rfl⟩;refine⟨_,rfl,?_⟩;simp[tJ,wJ,aj.enc]
theorem O8(w:aj)(hw:w.wf){ls:Int->List Int}(hn:ec w.tree w.ae.length ls)(x:Int):Pure prog 98 [.agg (w.enc.map .d),iD x] (.bA [.agg ((fC w x).1.enc.map .d),iD (fC w x).2]):=by
 unfold fC;cases hx:bY w.ae.length x with
 | false=>exact Mx w hw hx
 | true=>exact Mz w hw hn hx
theorem Vp(w:aj)(hw:w.wf){ls:Int->List Int}(hn:ec w.tree w.ae.length ls)(x to:Int):Pure prog 97 [.agg (w.enc.map .d),iD x,iD to] (.bA [.agg ((kX w x to).1.enc.map .d),iD (kX w x to).2]):=by
 unfold kX;cases hx:bY w.ae.length x with
 | false=>
   refine rn func97 ?_;simp[-cB,f97]
   try intro(_:Nat->Nat)
   refine pC (bC w _) ?_;simp[-cB,hx];refine pG (bC w _) ?_;simp[-cB]
 | true=>
   cases pQ:bY w.ae.length to with
   | false=>
     refine rn func97 ?_;simp[-cB,f97]
     try intro(_:Nat->Nat)
     refine pC (bC w _) ?_;simp[-cB,hx];refine pG (bC w _) ?_;simp[-cB,pQ]
   | true=>
     refine rn func97 ?_;simp[-cB,f97]
     try intro(_:Nat->Nat)
     refine pC (bC w _) ?_;simp[-cB,hx];refine pG (bC w _) ?_;simp[-cB,pQ];refine pC (J1 w hw _ _) ?_;simp[-cB];by_cases hm:x∈ik w.tree to
     ·simp[-cB,hm]
     ·have hl:=Ct w hw hn hx;have h:vF w:=vF.SX hw hn;have hC:=h.hC;have hN:=h.hN;unfold wJ at hl;have hb:=aY.1 hx;have vy:=aY.1 pQ;have h1:=p8 w x;have h2:=GC w x;have h3:=GD w x;have hT:bY (cx w x).Child.length to=true:=by rw[h2,hC];exact pQ
      have nW:=er hT;simp[-cB,hm];refine eD [] hl ?_;simp[-cB,tJ];refine⟨⟨by omega,by omega⟩,by omega,?_⟩;refine av.aU [Q0,Q0,Q0,Q0,Q0,Q0,Q0,Q0,Q0,none] [] aT (by kernel_rfl) ?_;simp[-cB,nW,h1,h2,h3];exact⟨⟨by omega,by omega⟩,by omega,⟨by omega,by omega⟩,by omega,⟨by omega,by omega⟩,by omega,rfl⟩
def DL(a b:Int):Int:=IntKind.wrap .u64 ((BitVec.ofInt IntKind.u64.bits a) ^^^ (BitVec.ofInt IntKind.u64.bits b)).toNat
def DM(a:Int)(k:Nat):Int:=a.fdiv (2^(min k IntKind.u64.bits))
def Vq(a:Int)(k:Nat):Int:=IntKind.wrap .u64 (a *2^(min k IntKind.u64.bits))
def O9(s:Int):Int:=if s=0 then 1 else s
def vd(s:Int):Int:=
 let s0:=O9 s
 let s1:=DL s0 (DM s0 12)
 let s2:=DL s1 (Vq s1 25)
 DL s2 (DM s2 27)
def lN(s:Int):Int:=IntKind.wrap .u32 (DM (IntKind.wrap .u64 (vd s *2685821657736338717)) 32)
def kE(s n:Int):Int×Int:=if n<1 then(0,s)else((lN s) % n,vd s)
theorem ad9(n:Int):0<=IntKind.wrap .u32 n/\IntKind.wrap .u32 n<4294967296:=by
 unfold IntKind.wrap;simp[IntKind.signed,IntKind.bits];omega
theorem J9(n:Int):0<=IntKind.wrap .u64 n/\IntKind.wrap .u64 n<18446744073709551616:=by
 unfold IntKind.wrap;simp[IntKind.signed,IntKind.bits];omega
theorem iu{n:Int}(h:0<=n/\n<18446744073709551616):IntKind.wrap .u64 n=n:=by
 unfold IntKind.wrap;simp[IntKind.signed,IntKind.bits];omega
theorem SZ(s:Int):0<=lN s/\lN s<4294967296:=ad9 _
theorem wK(s:Int):Pure prog 218 [.d (.v (.int .u64 s))] (.d (.v (.int .u64 (vd s)))):=by
 unfold vd O9;refine rn func218 ?_;simp[-cB,f218]
 repeat' (first
  | (with_reducible refine And.intro ?_ ?_)
  | ((first|(refine ax (λh=>?_) (λh=>?_)<;>(try simp at h))|refine pC Pure.none ?_|refine lC Pure.none ?_|refine pG Pure.none ?_)<;>(try simp[-cB, *]))
  | (with_reducible intro _))
 all_goals simp[DL,DM,Vq, *]
theorem Rw(s:Int):Pure prog 217 [.d (.v (.int .u64 s))] (.d (.v (.int .u32 (lN s)))):=by
 unfold lN;refine rn func217 ?_;simp[-cB,f217]
 try intro(_:Nat->Nat)
 repeat' (first
  | (with_reducible refine And.intro ?_ ?_)
  | ((first|(refine ax (λh=>?_) (λh=>?_)<;>(try simp at h))|refine pC (wK _) ?_|refine lC (wK _) ?_|refine pG (wK _) ?_)<;>(try simp[-cB, *,DM]))
  | (with_reducible intro _))
theorem zW(s n:Int):Pure prog 165 [.d (.v (.int .u64 s)),iD n] (.bA [iD (kE s n).1,.d (.v (.int .u64 (kE s n).2))]):=by
 have h1:=(Rw s).ok;have h2:=(wK s).ok;have hb:=SZ s;have hw:IntKind.wrap .i64 (lN s)=lN s:=wrap64 iW;unfold kE;refine rn func165 ?_;simp[-cB,f165]
 repeat' (first
  | (with_reducible refine And.intro ?_ ?_)
  | ((first|(refine ax (λh=>?_) (λh=>?_)<;>(try simp at h))|refine pC Pure.none ?_|refine lC Pure.none ?_|refine pG Pure.none ?_)<;>(try simp[-cB, *]))
  | (with_reducible intro _))
 ·have hm:(lN s).tmod n=lN s % n:=apa hb.1;refine av.bT [.d (.v (.int .u32 (lN s))),.d (.v (.int .u64 (vd s)))] aT (by kernel_rfl) (by rfl) ?_;simp[-cB,h1,h2,hw,hm,show ¬n<1 by omega];omega
theorem Pa(s:Int):Pure prog 280 [.d (.v (.int .u64 s))] (.d (.v (.int .u64 (O9 s)))):=by
 unfold O9;refine rn func280 ?_;simp[-cB,f280]
 repeat' (first
  | (with_reducible refine And.intro ?_ ?_)
  | ((first|(refine ax (λh=>?_) (λh=>?_)<;>(try simp at h))|refine pC Pure.none ?_|refine lC Pure.none ?_|refine pG Pure.none ?_)<;>(try simp[-cB, *]))
  | (with_reducible intro _))
theorem S3(h b:Nat)(x:Int)(k:Nat)(hk:(k:Int)<64):aE prog 281 [.d (.v (.int .u64 k)),.bp h 0] [(h,.box (b+1) 32 [.d (.v (.int .u64 x))])] (λr L'=>r= .ret (.bA [])/\L'=[(h,.box (b+1) 32 [.d (.v (.int .u64 (DL x (DM x k))))])]):=by
 refine aE.run func281 rfl (by simp[f281]) ?_;simp[f281];simp[DL,DM]
theorem ahl(h b:Nat)(x:Int)(k:Nat)(hk:(k:Int)<64):aE prog 282 [.d (.v (.int .u64 k)),.bp h 0] [(h,.box (b+1) 32 [.d (.v (.int .u64 x))])] (λr L'=>r= .ret (.bA [])/\L'=[(h,.box (b+1) 32 [.d (.v (.int .u64 (DL x (Vq x k))))])]):=by
 refine aE.run func282 rfl (by simp[f282]) ?_;simp[f282];simp[DL,Vq]
theorem E7(s:Int):Pure prog 247 [.d (.v (.int .u64 s))] (.d (.v (.int .u64 (vd s)))):=by
 refine rn func247 ?_;simp[-cB,f247];intro bs
 repeat' (first
  | (with_reducible refine And.intro ?_ ?_)
  | ((first|(refine ax (λh=>?_) (λh=>?_)<;>(try simp at h))|refine pC (Pa _) ?_|refine lC (Pa _) ?_|refine pG (Pa _) ?_)<;>(try simp[-cB, *]))
  | (with_reducible intro _))
 refine au.eo [1] rfl (S3 1 (bs 0) (O9 s) 12 (by decide)) (by simp) rfl (by simp) rfl (by kernel_rfl) (by first|rfl|simp) (by simp) (by simp) (by simp) (by simp) ?_;simp;refine au.eo [1] rfl (ahl 1 (bs 0) _ 25 (by decide)) (by simp) rfl (by simp) rfl (by kernel_rfl) (by first|rfl|simp) (by simp) (by simp) (by simp) (by simp) ?_;simp;refine au.eo [1] rfl (S3 1 (bs 0) _ 27 (by decide)) (by simp) rfl (by simp) rfl (by kernel_rfl) (by first|rfl|simp) (by simp) (by simp) (by simp) (by simp) ?_;simp[vd]
theorem abz(s:Int):Pure prog 246 [.d (.v (.int .u64 s))] (.d (.v (.int .u32 (lN s)))):=by
 unfold lN;refine rn func246 ?_;simp[-cB,f246]
 try intro(_:Nat->Nat)
 repeat' (first
  | (with_reducible refine And.intro ?_ ?_)
  | ((first|(refine ax (λh=>?_) (λh=>?_)<;>(try simp at h))|refine pC (E7 _) ?_|refine lC (E7 _) ?_|refine pG (E7 _) ?_)<;>(try simp[-cB, *,DM]))
  | (with_reducible intro _))
theorem G7(s n:Int)(hn:aN .i64 n):Pure prog 210 [.d (.v (.int .u64 s)),iD n] (.bA [iD (kE s n).1,.d (.v (.int .u64 (kE s n).2))]):=by
 have h1:=(abz s).ok;have h2:=(E7 s).ok;have hb:=SZ s;have hw:IntKind.wrap .u64 (lN s)=lN s:=iu (by omega);rw[aS]at hn;unfold kE;refine rn func210 ?_;simp[-cB,f210]
 repeat' (first
  | (with_reducible refine And.intro ?_ ?_)
  | ((first|(refine ax (λh=>?_) (λh=>?_)<;>(try simp at h))|refine pC Pure.none ?_|refine lC Pure.none ?_|refine pG Pure.none ?_)<;>(try simp[-cB, *]))
  | (with_reducible intro _))
 ·have hm:(lN s).tmod n=lN s % n:=apa hb.1;have hv:IntKind.wrap .u64 n=n:=iu (by omega);have hx:0<=lN s % n/\lN s % n<n:=⟨Int.emod_nonneg _ (by omega),Int.emod_lt_of_pos _ (by omega)⟩
  have hy:IntKind.wrap .i64 (lN s % n)=lN s % n:=wrap64 iW;refine av.bT [.d (.v (.int .u32 (lN s))),.d (.v (.int .u64 (vd s)))] aT (by kernel_rfl) (by rfl) ?_;simp[-cB,h1,h2,hw,hm,hv,hy,show ¬n<1 by omega];omega
def ez(b:Bool):Int:=if b then 1 else 0
def df(w:aj)(iP x:Int):Int×Int:=
 if iP=1\/iP=2\/iP=3 then
  if bY w.ae.length (aq x)then((if iP=1 then aH w.ae (aq x)else if iP=2 then aH w.Child (aq x)else aH w.Next (aq x)),0)else(0,11)
 else(0,16)
def oq(w:aj)(e:dy)(iP:Int):Int×Int:=
 if iP=1 then(dw w.tree 1,0)else if iP=2 then(1,0)else if iP=3 then(aq e.qi,0)else if iP=4 then(aq e.Second,0)else if iP=5 then(aq e.Number,0)else if iP=6 then(aq w.Score,0)else(0,16)
theorem jQ(b:Bool):Pure prog 160 [oD b] (iD (ez b)):=by
 unfold ez;cases b
 ·refine rn func160 ?_;simp[-cB,f160]
 ·refine rn func160 ?_;simp[-cB,f160]
theorem qq(n:Int):Pure prog 105 [iD n] (iD (ez (decide (aq n=0)))):=by
 refine rn func105 ?_;simp[-cB,f105]
 try intro(_:Nat->Nat)
 repeat' (first
  | (with_reducible refine And.intro ?_ ?_)
  | ((first|(refine ax (λh=>?_) (λh=>?_)<;>(try simp at h))|refine pC (aP _) ?_|refine pC (jQ _) ?_|refine lC (aP _) ?_|refine lC (jQ _) ?_|refine pG (aP _) ?_|refine pG (jQ _) ?_)<;>(try simp[-cB, *]))
  | (with_reducible intro _))
theorem afL(n:Int):Pure prog 137 [iD n] (iD (ez (decide (aq n=0)))):=by
 unfold ez;refine rn func137 ?_;simp[-cB,f137]
 try intro(_:Nat->Nat)
 repeat' (first
  | (with_reducible refine And.intro ?_ ?_)
  | ((first|(refine ax (λh=>?_) (λh=>?_)<;>(try simp at h))|refine pC (cA _) ?_|refine lC (cA _) ?_|refine pG (cA _) ?_)<;>(try simp[-cB, *]))
  | (with_reducible intro _))
theorem Vr(w:aj)(hC:w.Child.length=w.ae.length)(hN:w.Next.length=w.ae.length)(iP x:Int):Pure prog 109 [.agg (w.enc.map .d),iD iP,iD x] (eM (df w iP x)):=by
 unfold df eM;generalize hy:aq x=y;cases hT:bY w.ae.length y
 all_goals
  try have g1:=er hT
  try have g2:=er (l:=w.Child) (by rw[hC];exact hT)
  try have g3:=er (l:=w.Next) (by rw[hN];exact hT)
  try have hb:=aY.1 hT
  refine rn func109 ?_;simp[-cB,f109]
  try intro(_:Nat->Nat)
  repeat' (first
   | (with_reducible refine And.intro ?_ ?_)
   | ((first|(refine ax (λh=>?_) (λh=>?_)<;>(try simp at h))|refine pC (aP _) ?_|refine pC (bC w _) ?_|refine lC (aP _) ?_|refine lC (bC w _) ?_|refine pG (aP _) ?_|refine pG (bC w _) ?_)<;>(try simp[-cB, *]))
   | (with_reducible intro _))
  all_goals first|omega|grind
theorem Ka(w:aj)(hC:w.Child.length=w.ae.length)(hN:w.Next.length=w.ae.length)(iP x:Int):Pure prog 141 [.agg (w.enc.map .d),iD iP,iD x] (eM (df w iP x)):=by
 unfold df eM;generalize hy:aq x=y;have hw:iP=1\/iP=2\/iP=3\/(¬iP=1/\¬iP=2/\¬iP=3):=by omega
 rcases hw with rfl|rfl|rfl|⟨a1,a2,a3⟩<;>cases hT:bY w.ae.length y
 all_goals
  try have g1:=er hT
  try have g2:=er (l:=w.Child) (by rw[hC];exact hT)
  try have g3:=er (l:=w.Next) (by rw[hN];exact hT)
  try have hb:=aY.1 hT
  refine rn func141 ?_;simp[-cB,f141]
  try intro(_:Nat->Nat)
  repeat' (first
   | (with_reducible refine And.intro ?_ ?_)
   | ((first|(refine ax (λh=>?_) (λh=>?_)<;>(try simp at h))|refine pC (cA _) ?_|refine pC (dL w _) ?_|refine lC (cA _) ?_|refine lC (dL w _) ?_|refine pG (cA _) ?_|refine pG (dL w _) ?_)<;>(try simp[-cB, *]))
   | (with_reducible intro _))
  all_goals first|omega|contradiction|grind
theorem abA(t:Tree)(x:Int):0<=dw t x/\(dw t x=0\/dw t x<t.bl.length):=by
 unfold dw;cases h:(ik t x).getLast? with
 | none=>rw[aqa,h];exact⟨apD _,.inl rfl⟩
 | some y=>
   rw[aqa,h];have hm:=aqL h;have:=mG hm;simp only[apA];omega
theorem Vs(w:aj)(hw:w.wf)(e:dy)(iP:Int):Pure prog 102 [.agg (w.enc.map .d),.agg (e.enc.map .d),iD iP] (eM (oq w e iP)):=by
 unfold oq eM;refine rn func102 ?_;simp[-cB,f102]
 try intro(_:Nat->Nat)
 repeat' (first
  | (with_reducible refine And.intro ?_ ?_)
  | ((first|(refine ax (λh=>?_) (λh=>?_)<;>(try simp at h))|refine pC (aP _) ?_|refine pC (rP w hw _) ?_|refine lC (aP _) ?_|refine lC (rP w hw _) ?_|refine pG (aP _) ?_|refine pG (rP w hw _) ?_)<;>(try simp[-cB, *]))
  | (with_reducible intro _))
theorem S4(w:aj)(hw:w.wf)(hn:w.ae.length<=32768)(e:dy)(iP:Int):Pure prog 134 [.agg (w.enc.map .d),.agg (e.enc.map .d),iD iP] (eM (oq w e iP)):=by
 unfold oq eM;refine rn func134 ?_;simp[-cB,f134]
 try intro(_:Nat->Nat)
 have hb:=abA w.tree 1;have e1:w.tree.bl=w.ae:=rfl;rw[e1]at hb;have w1:aq (dw w.tree 1)=dw w.tree 1:=x9 (by omega);have w2:aq 1=1:=x9 (by omega);clear hb
 repeat' (first
  | (with_reducible refine And.intro ?_ ?_)
  | ((first|(refine ax (λh=>?_) (λh=>?_)<;>(try simp at h))|refine pC (cA _) ?_|refine pC (IJ w hw _) ?_|refine lC (cA _) ?_|refine lC (IJ w hw _) ?_|refine pG (cA _) ?_|refine pG (IJ w hw _) ?_)<;>(try simp[-cB, *]))
  | (with_reducible intro _))
def jd(w:aj)(op a b:Int):Int×Int:=
 if op=1 then(ez (decide (aq a≠0)||decide (aq b≠0)),0)
 else if op=2 then(ez (decide (aq a≠0)&&decide (aq b≠0)),0)
 else if op=3 then(ez (decide (aq a=aq b)),0)
 else if op=4 then(ez (decide (aq a≠aq b)),0)
 else if op=5 then(ez (decide (aq a<aq b)),0)
 else if op=6 then(ez (decide (aq a<=aq b)),0)
 else if op=7 then(ez (decide (aq b<aq a)),0)
 else if op=8 then(ez (decide (aq b<=aq a)),0)
 else if op=9 then(if bY w.ae.length (aq a)then(ez (decide (aH w.ae (aq a)=aq b)),0)else(0,11))
 else if op=10 then(zR (aq a) (aq b),0)
 else if op=11 then(U9 (aq a) (aq b),0)
 else if op=12 then(mulM (aq a) (aq b),0)
 else if op=13 then JW (aq a) (aq b)
 else if op=14 then JX (aq a) (aq b)
 else(0,16)
theorem Lu(w:aj)(op a b:Int):Pure prog 103 [.agg (w.enc.map .d),iD op,iD a,iD b] (eM (jd w op a b)):=by
 have hd:=Yx (aq a) (aq b);have hm:=Yy (aq a) (aq b);unfold eM at hd hm⊢;by_cases h9:op=9
 ·subst h9;simp only[jd];generalize hx:aq a=x;generalize hy:aq b=y;cases hT:bY w.ae.length x with
  | false=>
    refine rn func103 ?_;simp[-cB,f103]
    try intro(_:Nat->Nat)
    repeat' (first
     | (with_reducible refine And.intro ?_ ?_)
     | ((first|(refine ax (λh=>?_) (λh=>?_)<;>(try simp at h))|refine pC (aP _) ?_|refine pC (bC w _) ?_|refine lC (aP _) ?_|refine lC (bC w _) ?_|refine pG (aP _) ?_|refine pG (bC w _) ?_)<;>(try simp[-cB, *]))
     | (with_reducible intro _))
  | true=>
    have hb:=aY.1 hT;have g1:=er hT;refine rn func103 ?_;simp[-cB,f103]
    try intro(_:Nat->Nat)
    repeat' (first
     | (with_reducible refine And.intro ?_ ?_)
     | ((first|(refine ax (λh=>?_) (λh=>?_)<;>(try simp at h))|refine pC (aP _) ?_|refine pC (bC w _) ?_|refine pC (jQ _) ?_|refine lC (aP _) ?_|refine lC (bC w _) ?_|refine lC (jQ _) ?_|refine pG (aP _) ?_|refine pG (bC w _) ?_|refine pG (jQ _) ?_)<;>(try simp[-cB, *]))
     | (with_reducible intro _))
    all_goals (try omega)
 ·unfold jd;refine rn func103 ?_;simp[-cB,f103]
  try intro(_:Nat->Nat)
  repeat' (first
   | (with_reducible refine And.intro ?_ ?_)
   | ((first|(refine ax (λh=>?_) (λh=>?_)<;>(try simp at h))|refine pC (aP _) ?_|refine pC (bC w _) ?_|refine pC (jQ _) ?_|refine pC (zk _ _) ?_|refine pC (DB _ _) ?_|refine pC (DC _ _) ?_|refine pC hd ?_|refine pC hm ?_|refine lC (aP _) ?_|refine lC (bC w _) ?_|refine lC (jQ _) ?_|refine lC (zk _ _) ?_|refine lC (DB _ _) ?_|refine lC (DC _ _) ?_|refine lC hd ?_|refine lC hm ?_|refine pG (aP _) ?_|refine pG (bC w _) ?_|refine pG (jQ _) ?_|refine pG (zk _ _) ?_|refine pG (DB _ _) ?_|refine pG (DC _ _) ?_|refine pG hd ?_|refine pG hm ?_)<;>(try simp[-cB, *]))
   | (with_reducible intro _))
  all_goals rfl
theorem S5(s:Int){n:Int}(h:1<=n):0<=(kE s n).1/\(kE s n).1<n:=by
 unfold kE;have h1:=Int.emod_nonneg (lN s) (show n≠0 by omega);have h2:=Int.emod_lt_of_pos (lN s) (show 0<n by omega);split
 ·omega
 ·exact⟨h1,h2⟩
theorem DN(w:aj)(n:Int):Pure prog 110 [.agg (w.enc.map .d),iD n] (if aq n<1 then .bA [iD 0,.agg (w.enc.map .d),iD 1]else .bA [iD ((kE w.cO (aq n)).1+1),.agg (({w with cO:=(kE w.cO (aq n)).2}:aj).enc.map .d),iD 0]):=by
 by_cases h:aq n<1
 ·rw[if_pos h];refine rn func110 ?_;simp[-cB,f110]
  try intro(_:Nat->Nat)
  repeat' (first
   | (with_reducible refine And.intro ?_ ?_)
   | ((first|(refine ax (λh=>?_) (λh=>?_)<;>(try simp at h))|refine pC (aP _) ?_|refine lC (aP _) ?_|refine pG (aP _) ?_)<;>(try simp[-cB, *]))
   | (with_reducible intro _))
  refine av.aU [Q0,Q0,none,arb] [] aT (by kernel_rfl) ?_;simp[-cB]
 ·rw[if_neg h];unfold aj.enc;refine rn func110 ?_;simp[-cB,f110]
  try intro(_:Nat->Nat)
  repeat' (first
   | (with_reducible refine And.intro ?_ ?_)
   | ((first|(refine ax (λh=>?_) (λh=>?_)<;>(try simp at h))|refine pC (aP _) ?_|refine pC (zW _ _) ?_|refine lC (aP _) ?_|refine lC (zW _ _) ?_|refine pG (aP _) ?_|refine pG (zW _ _) ?_)<;>(try simp[-cB, *]))
   | (with_reducible intro _))
  have hmb:=S5 w.cO (n:=aq n) (by omega);have hwb:=cS n;have cq:aN .i64 ((kE w.cO (aq n)).1+1):=iW;refine av.aU [Q0,Q0,Q0,Q0,none,arb] [] aT (by kernel_rfl) ?_;simp[-cB,cq]
theorem Lv(w:aj)(n:Int):Pure prog 142 [.agg (w.enc.map .d),iD n] (if aq n<1 then .bA [iD 0,.agg (w.enc.map .d),iD 1]else .bA [iD ((kE w.cO (aq n)).1+1),.agg (({w with cO:=(kE w.cO (aq n)).2}:aj).enc.map .d),iD 0]):=by
 by_cases h:aq n<1
 ·rw[if_pos h];refine rn func142 ?_;simp[-cB,f142]
  try intro(_:Nat->Nat)
  repeat' (first
   | (with_reducible refine And.intro ?_ ?_)
   | ((first|(refine ax (λh=>?_) (λh=>?_)<;>(try simp at h))|refine pC (cA _) ?_|refine lC (cA _) ?_|refine pG (cA _) ?_)<;>(try simp[-cB, *]))
   | (with_reducible intro _))
  refine av.aU [Q0,Q0,none,arb] [] aT (by kernel_rfl) ?_;simp[-cB]
 ·rw[if_neg h];unfold aj.enc;refine rn func142 ?_;simp[-cB,f142]
  try intro(_:Nat->Nat)
  repeat' (first
   | (with_reducible refine And.intro ?_ ?_)
   | ((first|(refine ax (λh=>?_) (λh=>?_)<;>(try simp at h))|refine pC (cA _) ?_|refine au.bB rfl (G7 _ _ (by have:=cS n;rw[aS];omega)) rfl rfl (by simp) rfl ?_|refine lC (cA _) ?_|refine au.Il rfl (G7 _ _ (by have:=cS n;rw[aS];omega)) rfl (by simp) rfl rfl (by simp) rfl ?_|refine pG (cA _) ?_|refine au.eL rfl (λh=>G7 _ _ (by have:=cS n;rw[aS];omega)) rfl (by first|rfl|(simp;rfl)) (by simp) (by simp) rfl ?_)<;>(try simp[-cB, *]))
   | (with_reducible intro _))
  have hmb:=S5 w.cO (n:=aq n) (by omega);have hwb:=cS n;have cq:aN .i64 ((kE w.cO (aq n)).1+1):=iW;refine av.aU [Q0,Q0,Q0,Q0,none,arb] [] aT (by kernel_rfl) ?_;simp[-cB,cq]
structure XC where
 B:bW
 E:dy
 M:Int
structure XS where
 W:aj
 Out:ByteArray
 Wr:Bool
 Fuel:Int
 Dp:Int
 Ls:List Int
inductive OC where
 | bN (n:Int)
 | ret (n:Int)
 | bG (e:Int)
 | over
abbrev fL{α:Type}(l:List α)(i:Int):Prop:=0<=i/\i<l.length
abbrev zu{α:Type}(l:List α):Prop:=l.length<=1000000
def aA(l:List Int)(i:Int):Int:=l[i.toNat]?.getD 0
def okW(c:XC)(w:aj):Bool:=cK c.B.Tables w&&decide (0<=w.cO/\w.cO<18446744073709551616)
def gC(n:Nat):ByteArray:=if n<10 then⟨#[UInt8.ofNat (48+n)]⟩else gC (n / 10)++⟨#[UInt8.ofNat (48+n % 10)]⟩
def uD(n:Int):ByteArray:=if n<0 then⟨#[45]⟩++gC n.natAbs else gC n.natAbs
def oE(t:ar)(i:Int):ByteArray:=if i<0\/(t.gy.length:Int)<=i then⟨#[]⟩else t.gy[i.toNat]?.getD ⟨#[]⟩
def Vt:ByteArray:=⟨#[110,111,116,104,105,110,103]⟩
def dB(t:ar)(x:Int):ByteArray:=if x<1\/(t.az.length:Int)<=x then Vt else oE t (bu t x).la
def cU(w:aj)(x:Int)(f:Nat):Bool:=bY w.ae.length x&&decide (aA w.Flags x / (2^f:Nat) % 2=1)
def iI(w:aj)(x:Int):List Int:=(br w.tree x).filter λy=>!cU w y 3&&decide (y≠1)
def uR:List ByteArray->ByteArray
 | []=>Vt
 | [a]=>a
 | [a,b]=>a++⟨#[32,97,110,100,32]⟩++b
 | a::l=>a++⟨#[44,32]⟩++uR l
def r9(t:ar)(w:aj)(x:Int):ByteArray:=uR ((iI w x).map (dB t))
def tK(w:aj)(x:Int):Bool:=!cU w x 2||cU w x 1
def jG(w:aj):Nat->Int->List Int
 | 0,_=> []
 | d+1,x=>(br w.tree x).flatMap λy=>if cU w y 3 then []else y::(if tK w y then jG w d y else [])
def cL(w:aj):Int:=dw w.tree 1
def G8(w:aj):Bool:=cU w (cL w) 0||(jG w w.ae.length (cL w)).any λy=>cU w y 0
def wL(t:ar)(w:aj):ByteArray:=
 if G8 w then dB t (cL w)++⟨#[10]⟩++(if(bu t (cL w)).Text≠ -1 then oE t (bu t (cL w)).Text++⟨#[10]⟩else⟨#[]⟩)++(if iI w (cL w)≠ []then⟨#[89,111,117,32,115,101,101,32]⟩++r9 t w (cL w)++⟨#[46,10]⟩else⟨#[]⟩)
 else⟨#[73,116,32,105,115,32,100,97,114,107,46,10]⟩
def Ul(w:aj)(x f:Int):Int×Int:=(if cz w x f=0 then ez (cU w x f.toNat)else 0,cz w x f)
def eb(w:aj)(x f:Int)(on:Bool):aj×Int:=
 if cz w x f=0 then(if cU w x f.toNat=on then w else {w with Flags:=w.Flags.set x.toNat (if on then aA w.Flags x+(2^f.toNat:Nat)else aA w.Flags x-(2^f.toNat:Nat))},0)else(w,cz w x f)
def da(t:ar)(x:Int):Bool:=decide (1<=x)&&decide (x<t.az.length)&&(bu t x).Room
def pE(t:ar)(p:aj×Int):aj×Int:=if p.2=0/\da t (dw p.1.tree 1)=false then(p.1,12)else p
def kW(t:ar)(w:aj)(x to:Int):aj×Int:=if da t x=true then(w,12)else pE t (kX w x to)
def iG(t:ar)(w:aj)(x:Int):aj×Int:=if da t x=true\/x=1 then(w,12)else pE t (fC w x)
def zX(σ:XS)(s:ByteArray):Option (XS×OC):=if σ.Out.size+s.size<=140737488355328 then some ({σ with Out:=σ.Out++s,Wr:=true},.bN 0)else none
def tL(c:XC)(σ:XS):Option (XS×OC):=if 0<=σ.Fuel/\σ.Fuel<=1099511627776 then if c.M<σ.Fuel+1 then some (σ,.bG 19)else some ({σ with Fuel:=σ.Fuel+1},.bN 0)else none
def jw{α:Type}(w:α)(p:Int×Int):α×OC:=if p.2=0 then(w,.bN p.1)else(w,.bG p.2)
def ja(w:aj)(p:aj×Int):aj×OC:=if p.2=0 then(p.1,.bN 0)else(w,.bG p.2)
def dh(c:XC)(w:aj)(k n:Int)(a:List Int):Option (aj×OC):=
 if okW c w=false then none
 else if k=1 then some (w,.bN n)
 else if k=14 then(if fL w.aQ n then some (w,.bN (aA w.aQ n))else none)
 else if k=12 then some (jw w (oq w c.E n))
 else if a.length=0 then none
 else if k=4 then some (w,.bN (ry (aA a 0)))
 else if k=5 then some (w,.bN (ez (decide (aq (aA a 0)=0))))
 else if k=16 then some (jw w (Ul w (aA a 0) n))
 else if k=17 then some (jw w (tl c.B.Tables w (aA a 0) n))
 else if k=10 then some (jw w (df w n (aA a 0)))
 else if k=11 then(if aq (aA a 0)<1 then some (w,.bG 1)else some ({w with cO:=(kE w.cO (aq (aA a 0))).2},.bN ((kE w.cO (aq (aA a 0))).1+1)))
 else if a.length=1 then none
 else if k=6 then some (jw w (jd w n (aA a 0) (aA a 1)))
 else none
def lO(e:ay):Int:=if e.Kind=6\/e.Kind=10\/e.Kind=12 then e.Op else e.aL
def Kb(c:XC)(σ:XS)(e:ay)(a:List Int):Option (XS×OC):=
 if e.Kind=15 then(if fL σ.Ls e.aL then some (σ,.bN (aA σ.Ls e.aL))else none)
 else(dh c σ.W e.Kind (lO e) a).map λp=>({σ with W:=p.1},p.2)
def cE(c:XC)(w:aj)(k num:Int)(a:List Int):Option (aj×OC):=
 if okW c w=false then none
 else if k=13 then some (w,.over)
 else if k=14 then some ({w with iB:=1},.over)
 else if k=15 then some ({w with iB:=2},.over)
 else if k=18 then(if fL w.bc num then some ({w with bc:=w.bc.set num.toNat 0},.bN 0)else none)
 else if a.length=0 then none
 else if k=19 then some (w,.bN 0)
 else if k=5 then some (ja w (eb w (aA a 0) num true))
 else if k=6 then some (ja w (eb w (aA a 0) num false))
 else if k=8 then some (ja w (iG c.B.Tables w (aA a 0)))
 else if k=16 then some ({w with Score:=zR w.Score (aA a 0)},.bN 0)
 else if k=17 then(if fL w.bc num then some ({w with bc:=w.bc.set num.toNat (if aA a 0<1 then 1 else aA a 0)},.bN 0)else none)
 else if k=20 then(if aA a 0<1\/12<aA a 0 then some (w,.bG 5)else some ({w with Go:=aA a 0},.bN 0))
 else if k=23 then(if fL w.aQ num then some ({w with aQ:=w.aQ.set num.toNat (aA a 0)},.bN 0)else none)
 else if a.length=1 then none
 else if k=4 then some (ja w (mW c.B.Tables w (aA a 0) num (aA a 1)))
 else if k=7 then some (ja w (kW c.B.Tables w (aA a 0) (aA a 1)))
 else none
def Kc(c:XC)(σ:XS)(k num:Int)(a:List Int):Option (XS×OC):=
 if k=21 then(if okW c σ.W=true then zX σ (wL c.B.Tables σ.W)else none)
 else if k=22 then(if okW c σ.W=true/\0<a.length then zX σ (r9 c.B.Tables σ.W (aA a 0))else none)
 else(cE c σ.W k num a).map λp=>({σ with W:=p.1},p.2)
def mL(p:XS×OC):XS×OC:=match p.2 with
 | .bN n=>(p.1,.bN (aq n))
 | _=>p
mutual
def dR(c:XC):Nat->XS->ay->Option (XS×OC)
 | 0,_,_=>none
 | g+1,σ,e=>
   if e.Kind=6/\(e.Op=1\/e.Op=2)then
    match e.aF with
    | x::y::_=>match dR c g σ x with
      | some (aR,.bN l)=>if decide (l≠0)=decide (e.Op=1)then some (aR,.bN (ez (decide (l≠0))))else match dR c g aR y with
        | some (ck,.bN r)=>some (ck,.bN (ez (decide (r≠0))))
        | r=>r
      | r=>r
    | _=>none
   else if ¬zu e.aF then none else match dO c g σ e.aF with
    | some (aR,.inl a)=>if e.Kind=18 then(if fL c.B.Tables.cY e.aL then(jh c g aR (aA c.B.Tables.cY e.aL) a).map mL else none)else(Kb c aR e a).map mL
    | some (aR,.inr o)=>some (aR,o)
    | none=>none
def dO(c:XC):Nat->XS->List ay->Option (XS×(List Int ⊕ OC))
 | 0,_,_=>none
 | _+1,σ,[]=>some (σ,.inl [])
 | g+1,σ,e::l=>match dR c g σ e with
   | some (aR,.bN n)=>match dO c g aR l with
     | some (ck,.inl a)=>some (ck,.inl (n::a))
     | r=>r
   | some (aR,o)=>some (aR,.inr o)
   | none=>none
def jh(c:XC):Nat->XS->Int->List Int->Option (XS×OC)
 | 0,_,_,_=>none
 | g+1,σ,r,a=>
   if σ.Dp<0 then none else if 32<=σ.Dp then some (σ,.bG 17)else
   if fL c.B.Tables.aM r/\fL c.B.aK r/\(a.length:Int)<=aA c.B.Tables.aM r/\aA c.B.Tables.aM r<=1000/\zu (c.B.aK[r.toNat]?.getD [])then
    match dX c g {σ with Dp:=σ.Dp+1,Ls:=a.map aq++List.replicate ((aA c.B.Tables.aM r).toNat-a.length) 0} (c.B.aK[r.toNat]?.getD [])with
    | some (aR,o)=>some ({aR with Dp:=aR.Dp-1,Ls:=σ.Ls},match o with|.bN _=> .bN 0|.ret n=> .bN n|o=>o)
    | none=>none
   else none
def dX(c:XC):Nat->XS->List an->Option (XS×OC)
 | 0,_,_=>none
 | _+1,σ,[]=>some (σ,.bN 0)
 | g+1,σ,x::l=>match jx c g σ x with
   | some (aR,.bN _)=>dX c g aR l
   | r=>r
def jx(c:XC):Nat->XS->an->Option (XS×OC)
 | 0,_,_=>none
 | g+1,σ,x=>
   if x.Kind=10 then(if zu x.Body then gm c g σ x else none)else
   match tL c σ with
   | some (σ,.bN _)=>if ¬zu x.aF then none else if x.Kind=1 then jy c g σ x.aF else match dO c g σ x.aF with
     | some (aR,.inl a)=>ib c g aR x a
     | some (aR,.inr o)=>some (aR,o)
     | none=>none
   | r=>r
def jy(c:XC):Nat->XS->List ay->Option (XS×OC)
 | 0,_,_=>none
 | _+1,σ,[]=>some (σ,.bN 0)
 | g+1,σ,e::l=>
   match kF c g σ e with
   | some (aR,.bN _)=>jy c g aR l
   | r=>r
def kF(c:XC):Nat->XS->ay->Option (XS×OC)
 | 0,_,_=>none
 | g+1,σ,e=>
   if e.Kind=19 then zX σ (oE c.B.Tables e.aL)
   else if e.Kind=13 then match e.aF with
    | x::_=>match dR c g σ x with
      | some (aR,.bN n)=>zX aR (dB c.B.Tables n)
      | r=>r
    | []=>none
   else match dR c g σ e with
   | some (aR,.bN n)=>zX aR (uD n)
   | r=>r
def gm(c:XC):Nat->XS->an->Option (XS×OC)
 | 0,_,_=>none
 | g+1,σ,x=>
   match tL c σ with
   | some (σ,.bN _)=>match x.aF with
     | e::_=>match dR c g σ e with
       | some (aR,.bN n)=>if n=0 then some (aR,.bN 0)else match dX c g aR x.Body with
         | some (ck,.bN _)=>gm c g ck x
         | r=>r
       | r=>r
     | []=>none
   | r=>r
def fm(c:XC):Nat->XS->an->Option (XS×OC)
 | 0,_,_=>none
 | g+1,σ,x=>
   if fL σ.Ls x.aL/\fL σ.Ls (x.aL+1)/\x.aL<=1000000/\okW c σ.W=true then
    if aA σ.Ls x.aL=0 then some (σ,.bN 0)else
    match tL c σ with
    | some (σ,.bN _)=>
      if(df σ.W 3 (aA σ.Ls x.aL)).2≠0 then some (σ,.bG (df σ.W 3 (aA σ.Ls x.aL)).2)else
      match dX c g {σ with Ls:=σ.Ls.set (x.aL+1).toNat (df σ.W 3 (aA σ.Ls x.aL)).1} x.Body with
      | some (ck,.bN _)=>fm c g {ck with Ls:=ck.Ls.set x.aL.toNat (aA ck.Ls (x.aL+1))} x
      | r=>r
    | r=>r
   else none
def ib(c:XC):Nat->XS->an->List Int->Option (XS×OC)
 | 0,_,_,_=>none
 | g+1,σ,x,a=>
   if x.Kind=2\/x.Kind=3 then(if 0<a.length/\fL σ.Ls x.aL then some ({σ with Ls:=σ.Ls.set x.aL.toNat (aA a 0)},.bN 0)else none)
   else if x.Kind=9 then(if 0<a.length/\zu x.Body/\zu x.bX then dX c g σ (if aA a 0≠0 then x.Body else x.bX)else none)
   else if x.Kind=11 then(if 0 < a.length∧okW c σ.W=true∧fL σ.Ls x.aL∧zu x.Body then
     if(df σ.W 2 (aA a 0)).2≠0 then some (σ,.bG (df σ.W 2 (aA a 0)).2)else fm c g {σ with Ls:=σ.Ls.set x.aL.toNat (df σ.W 2 (aA a 0)).1} x
    else none)
   else if x.Kind=12 then(if 0<a.length then some (σ,.ret (aA a 0))else none)
   else Kc c σ x.Kind x.aL a
end
structure MS where
 W:aj
 Out:ByteArray
 Fuel:Int
inductive Oc where
 | ret (n:Int) (σ:MS)
 | bG (e:Int) (σ:MS)
 | over (σ:MS)
inductive Ev where
 | ok (S L:List Int) (σ:MS)
 | bG (e:Int)
 | over (σ:MS)
inductive Nx where
 | go (r:List ai) (S L:List Int) (σ:MS) (k:Nat)
 | stop (o:Oc)
 | call (f:Int) (a S:List Int)
 | stuck
def after:List ai->Int->Option (List ai)
 | [],_=>none
 | i::r,n=>if i.Op=38/\i.Arg=n then some r else after r n
structure fE where
 J:ai->List Int->List Int->MS->Option Ev
 fn:Int->Int
 pa:Int->Nat
 lo:Int->List Int->List Int
def Nx.to(S L:List Int)(σ:MS):Option (List ai)->Nx
 | some r=> .go r S L σ 1
 | none=> .stuck
def Nx.zero(r:List ai)(L:List Int)(σ:MS)(t:Option (List ai)):List Int->Nx
 | v::S=>if aq v=0 then Nx.to S L σ t else .go r S L σ 1
 | []=> .stuck
def Nx.back(σ:MS):List Int->Nx
 | v::_=> .stop (.ret v σ)
 | []=> .stuck
def Nx.ev(r:List ai)(σ:MS):Option Ev->Nx
 | some (.ok S' L' σ')=> .go r S' L' σ' 1
 | some (.bG e)=> .stop (.bG e σ)
 | some (.over σ')=> .stop (.over σ')
 | none=> .stuck
def nx(m:fE)(d:Nat)(l:List ai)(i:ai)(r:List ai)(S L:List Int)(σ:MS):Nx:=
 if i.Op=38 then .go r S L σ 0
 else if i.Op=24 then Nx.to S L σ (after l i.Arg)
 else if i.Op=25 then Nx.zero r L σ (after l i.Arg) S
 else if i.Op=27 then Nx.back σ S
 else if i.Op=26 then(if 32<=d then(if 0<=m.fn i.Arg then .stop (.bG 17 σ)else .stuck)else if m.pa (m.fn i.Arg)<=S.length then .call (m.fn i.Arg) (S.take (m.pa (m.fn i.Arg))).reverse (S.drop (m.pa (m.fn i.Arg)))else .stuck)
 else Nx.ev r σ (m.J i S L σ)
theorem DO{m:fE}{d:Nat}{l:List ai}{i:ai}{r:List ai}{S L:List Int}{σ:MS}(h:i.Op=38):nx m d l i r S L σ= .go r S L σ 0:=by simp[nx,h]
theorem vT{m:fE}{d:Nat}{l:List ai}{i:ai}{r:List ai}{S L:List Int}{σ:MS}(h:i.Op=24):nx m d l i r S L σ=Nx.to S L σ (after l i.Arg):=by simp[nx,h]
theorem sy{m:fE}{d:Nat}{l:List ai}{i:ai}{r:List ai}{S L:List Int}{σ:MS}(h:i.Op=25):nx m d l i r S L σ=Nx.zero r L σ (after l i.Arg) S:=by simp[nx,h]
theorem Kd{m:fE}{d:Nat}{l:List ai}{i:ai}{r:List ai}{S L:List Int}{σ:MS}(h:i.Op=27):nx m d l i r S L σ=Nx.back σ S:=by simp[nx,h]
theorem DP{m:fE}{d:Nat}{l:List ai}{i:ai}{r:List ai}{S L:List Int}{σ:MS}(h:i.Op=26):nx m d l i r S L σ=(if 32<=d then(if 0<=m.fn i.Arg then .stop (.bG 17 σ)else .stuck)else if m.pa (m.fn i.Arg)<=S.length then .call (m.fn i.Arg) (S.take (m.pa (m.fn i.Arg))).reverse (S.drop (m.pa (m.fn i.Arg)))else .stuck):=by simp[nx,h]
def flat(op:Int):Prop:=op≠38/\op≠24/\op≠25/\op≠27/\op≠26
theorem AF{m:fE}{d:Nat}{l:List ai}{i:ai}{r:List ai}{S L:List Int}{σ:MS}(h:flat i.Op):nx m d l i r S L σ=Nx.ev r σ (m.J i S L σ):=by
 obtain⟨h1,h2,h3,h4,h5⟩:=h;simp[nx,h1,h2,h3,h4,h5]
def run(m:fE)(P:Int->List ai):Nat->Nat->List ai->List ai->List Int->List Int->MS->Option (Oc×Nat)
 | 0,_,_,_,_,_,_=>none
 | _+1,_,_,[],_,_,_=>none
 | g+1,d,l,i::r,S,L,σ=>match nx m d l i r S L σ with
   | .go r' S' L' σ' k=>(run m P g d l r' S' L' σ').map λx=>(x.1,x.2+k)
   | .stop o=>some (o,1)
   | .call f a S'=>match run m P g (d+1) (P f) (P f) [] (m.lo f a) σ with
     | some (.ret v σ',k)=>(run m P g d l r (aq v::S') L σ').map λx=>(x.1,x.2+k+1)
     | some (o,k)=>some (o,k+1)
     | none=>none
   | .stuck=>none
theorem Bz{m:fE}{P:Int->List ai}:∀(g g' d:Nat) (l r:List ai) (S L:List Int) (σ:MS) (x:Oc×Nat),g<=g'->run m P g d l r S L σ=some x->run m P g' d l r S L σ=some x:=by
 intro g
 induction g with
 | zero=>intro g' d l r S L σ x _ h;simp[run]at h
 | succ g ih=>
   intro g' d l r S L σ x hg h;obtain⟨g',rfl⟩:∃k,g'=k+1:=⟨g'-1,by omega⟩
   have hg:g<=g':=by omega
   cases r with
   | nil=>simp[run]at h
   | cons i r=>
     rw[run]at h⊢;cases hn:nx m d l i r S L σ with
     | go r' S' L' σ' k=>
       simp only[hn,aoJ]at h⊢;obtain⟨y,h1,h2⟩:=h;exact⟨y,ih g' _ _ _ _ _ _ _ hg h1,h2⟩
     | stop o=>simp only[hn]at h⊢;exact h
     | stuck=>simp only[hn]at h;cases h
     | call f a S'=>
       simp only[hn]at h⊢;cases hc:run m P g (d+1) (P f) (P f) [] (m.lo f a) σ with
       | none=>rw[hc]at h;cases h
       | some y=>
         rw[ih g' _ _ _ _ _ _ _ hg hc];rw[hc]at h;obtain⟨o,k⟩:=y;cases o with
         | ret v σ'=>
           simp only[aoJ]at h⊢;obtain⟨z,h1,h2⟩:=h;exact⟨z,ih g' _ _ _ _ _ _ _ hg h1,h2⟩
         | bG e σ'=>exact h
         | over σ'=>exact h
def rQ(m:fE)(P P':Int->List ai)(l r l' r':List ai)(g:Nat):Prop:=
 ∀d S L σ o n,run m P g d l r S L σ=some (o,n)->∃g' n',n'<=n/\run m P' g' d l' r' S L σ=some (o,n')
theorem rQ.nil(m:fE)(P P':Int->List ai)(l r l' r':List ai):rQ m P P' l r l' r' 0:=by
 intro d S L σ o n h;simp[run]at h
theorem rQ.step{m:fE}{P P':Int→List ai}{l r l' r':List ai}{i:ai}{g:Nat}(hP:∀f,rQ m P P' (P f) (P f) (P' f) (P' f) g)(hr:rQ m P P' l r l' r' g)
  (hj:i.Op=24\/i.Op=25->∀r1,after l i.Arg=some r1->∃pR,after l' i.Arg=some pR/\rQ m P P' l r1 l' pR g):rQ m P P' l (i::r) l' (i::r') (g+1):=by
 intro d S L σ o n h;rw[run]at h;have go:∀{r1 pR S1 L1 aR k},nx m d l' i r' S L σ= .go pR S1 L1 aR k->rQ m P P' l r1 l' pR g->(run m P g d l r1 S1 L1 aR).map (λx=>(x.1,x.2+k))=some (o,n)->∃g' n',n'<=n/\run m P' g' d l' (i::r') S L σ=some (o,n'):=by
  intro r1 pR S1 L1 aR k hn hs hh;obtain⟨y,h1,h2⟩:=aoJ.1 hh;obtain⟨yo,yn⟩:=y;simp only[aoI]at h2;obtain⟨rfl,rfl⟩:=h2;obtain⟨g',n',hle,s8⟩:=hs d S1 L1 aR _ yn h1;refine⟨g'+1,n'+k,by omega,?_⟩;rw[run,hn];simp only[s8,apc]
 by_cases kL:i.Op=38
 ·rw[DO kL]at h;exact go (DO kL) hr h
 have tgt:i.Op=24\/i.Op=25->∀S1,(match Nx.to S1 L σ (after l i.Arg)with
  | .go r' S' L' σ' k=>(run m P g d l r' S' L' σ').map λx=>(x.1,x.2+k)
  | .stop o=>some (o,1)
  | .call f a S'=>match run m P g (d+1) (P f) (P f) [] (m.lo f a) σ with
    | some (.ret v σ',k)=>(run m P g d l r (aq v::S') L σ').map λx=>(x.1,x.2+k+1)
    | some (o,k)=>some (o,k+1)
    | none=>none
  | .stuck=>none)=some (o,n)->nx m d l' i r' S L σ=Nx.to S1 L σ (after l' i.Arg)->∃g' n',n'<=n/\run m P' g' d l' (i::r') S L σ=some (o,n'):=by
  intro hi S1 h1 h2;cases ha:after l i.Arg with
  | none=>rw[ha]at h1;cases h1
  | some r1=>
    rw[ha]at h1;obtain⟨pR,CP,hs⟩:=hj hi r1 ha;rw[CP]at h2;exact go h2 hs h1
 by_cases jo:i.Op=24
 ·rw[vT jo]at h;exact tgt (Or.inl jo) S h (vT jo)
 by_cases nv:i.Op=25
 ·rw[sy nv]at h;cases S with
  | nil=>cases h
  | cons v S=>
    rw[Nx.zero]at h;by_cases hv:aq v=0
    ·rw[if_pos hv]at h;exact tgt (Or.inr nv) S h (by rw[sy nv,Nx.zero,if_pos hv])
    ·rw[if_neg hv]at h;exact go (by rw[sy nv,Nx.zero,if_neg hv]) hr h
 by_cases rI:i.Op=27
 ·rw[Kd rI]at h;cases S with
  | nil=>cases h
  | cons v S=>exact⟨1,n,aoT _,by rw[run,Kd rI];exact h⟩
 by_cases pH:i.Op=26
 ·rw[DP pH]at h;by_cases hd:32<=d
  ·rw[if_pos hd]at h;by_cases hf:0<=m.fn i.Arg
   ·rw[if_pos hf]at h;exact⟨1,n,aoT _,by rw[run,DP pH,if_pos hd,if_pos hf];exact h⟩
   ·rw[if_neg hf]at h;cases h
  by_cases hp:m.pa (m.fn i.Arg)<=S.length
  ·rw[if_neg hd,if_pos hp]at h;simp only at h;cases hc:run m P g (d+1) (P (m.fn i.Arg)) (P (m.fn i.Arg)) [] (m.lo (m.fn i.Arg) (S.take (m.pa (m.fn i.Arg))).reverse) σ with
   | none=>rw[hc]at h;cases h
   | some y=>
     obtain⟨yo,yk⟩:=y;obtain⟨g1,n1,hle,h1⟩:=hP _ _ _ _ _ _ _ hc;rw[hc]at h;cases yo with
     | ret v σ'=>
       simp only at h;obtain⟨z,hz,h2⟩:=aoJ.1 h;obtain⟨zo,zn⟩:=z;simp only[aoI]at h2;obtain⟨rfl,rfl⟩:=h2;obtain⟨g2,n2,ajt,h2⟩:=hr _ _ _ _ _ _ hz;refine⟨g1+g2+1,n2+n1+1,by omega,?_⟩;rw[run,DP pH,if_neg hd,if_pos hp];simp only[Bz g1 (g1+g2) _ _ _ _ _ _ _ (by omega) h1,Bz g2 (g1+g2) _ _ _ _ _ _ _ (by omega) h2,apc]
     | bG x σ'=>
       simp only[anc,aoI]at h;obtain⟨rfl,rfl⟩:=h;exact⟨g1+1,n1+1,by omega,by rw[run,DP pH,if_neg hd,if_pos hp];simp only[h1]⟩
     | over σ'=>
       simp only[anc,aoI]at h;obtain⟨rfl,rfl⟩:=h;exact⟨g1+1,n1+1,by omega,by rw[run,DP pH,if_neg hd,if_pos hp];simp only[h1]⟩
  ·rw[if_neg hd,if_neg hp]at h;cases h
 have hf:flat i.Op:=⟨kL,jo,nv,rI,pH⟩
 rw[AF hf]at h;cases hJ:m.J i S L σ with
 | none=>rw[hJ]at h;cases h
 | some ev=>
   rw[hJ]at h;cases ev with
   | ok S' L' σ'=>exact go (by rw[AF hf,hJ];rfl) hr h
   | bG x=>exact⟨1,n,aoT _,by rw[run,AF hf,hJ];exact h⟩
   | over σ'=>exact⟨1,n,aoT _,by rw[run,AF hf,hJ];exact h⟩
inductive RP(p dW new q:List ai):List ai->List ai->Prop where
 | YU (p1 p2:List ai):p=p1++p2->RP p dW new q (p2++(dW++q)) (p2++(new++q))
 | Pb (q1 q2:List ai):q=q1++q2->RP p dW new q q2 q2
structure Lw(m:fE) (P P':Int->List ai) (p dW new q:List ai) (g:Nat):Prop where
 same:∀l r,rQ m P P' l r l r g
 rel:∀r r',RP p dW new q r r'->rQ m P P' (p++(dW++q)) r (p++(new++q)) r' g
theorem Lw.fn{m:fE}{P P':Int->List ai}{p dW new q:List ai}{g:Nat}(h:Lw m P P' p dW new q g)(hP:∀f,P f=P' f\/P f=p++(dW++q)/\P' f=p++(new++q))(f:Int):rQ m P P' (P f) (P f) (P' f) (P' f) g:=by
 rcases hP f with h1|⟨h1,h2⟩
 ·rw[<-h1];exact h.same _ _
 ·rw[h1,h2];exact h.rel _ _ (.YU [] p rfl)
theorem Lw.run{m:fE}{P P':Int→List ai}{p dW new q:List ai}(hP:∀f,P f=P' f∨P f=p++(dW++q)∧P' f=p++(new++q))
  (ht:∀i∈p++q,i.Op=24\/i.Op=25->∀r1,after (p++(dW++q)) i.Arg=some r1->∃pR,after (p++(new++q)) i.Arg=some pR/\RP p dW new q r1 pR)
  (hh:∀g,(∀g1,g1<=g->Lw m P P' p dW new q g1)->rQ m P P' (p++(dW++q)) (dW++q) (p++(new++q)) (new++q) (g+1)):∀g,Lw m P P' p dW new q g:=by
 intro g
 induction g using Nat.strongRecOn with
 | _ g ih=>
   cases g with
   | zero=>exact⟨λ_ _=>rQ.nil _ _ _ _ _ _ _,λ_ _ _=>rQ.nil _ _ _ _ _ _ _⟩
   | succ g=>
     have hg:=ih g (by omega);have tail:∀i∈p++q,∀r r',RP p dW new q r r'->rQ m P P' (p++(dW++q)) (i::r) (p++(new++q)) (i::r') (g+1):=by
      intro i hi r r' h;refine rQ.step (hg.fn hP) (hg.rel _ _ h) ?_;intro hj r1 h1;obtain⟨pR,h2,h3⟩:=ht i hi hj r1 h1;exact⟨pR,h2,hg.rel _ _ h3⟩
     refine⟨?_,?_⟩
     ·intro l r;cases r with
      | nil=>intro d S L σ o n h;simp[Go.Ab.run]at h
      | cons i r=>exact rQ.step (hg.fn hP) (hg.same _ _) (λ_ r1 h=>⟨r1,h,hg.same _ _⟩)
     ·intro r r' h;cases h with
      | YU p1 p2 hp=>
        cases p2 with
        | nil=>exact hh g (λg1 h1=>ih g1 (by omega))
        | cons i p2=>exact tail i (by rw[hp];simp) _ _ (.YU (p1++ [i]) p2 (by simp[hp]))
      | Pb q1 hq=>
        cases r with
        | nil=>intro d S L σ o n h;simp[Go.Ab.run]at h
        | cons i q2=>
          rename_i hq;exact tail i (by rw[hq];simp) _ _ (.Pb (q1++ [i]) q2 (by simp[hq]))
def kz(l:List ai):Prop:=∀i∈l,i.Op≠38
theorem wM{a b:List ai}{n:Int}(h:∀i∈a,¬(i.Op=38/\i.Arg=n)):after (a++b) n=after b n:=by
 induction a with
 | nil=>rfl
 | cons i a ih=>rw[aoX,after,if_neg (h i (by simp)),ih (λj hj=>h j (by simp[hj]))]
theorem DR:∀(l r:List ai) (n:Int),after l n=some r->∃a i,l=a++i::r/\i.Op=38/\i.Arg=n
 | [],r,n,h=>by simp[after]at h
 | i::l,r,n,h=>by
   rw[after]at h;split at h
   ·rename_i hi;simp only[anc]at h;subst h;exact⟨[],i,rfl,hi.1,hi.2⟩
   ·obtain⟨a,j,h1,h2⟩:=DR l r n h;exact⟨i::a,j,by rw[h1];rfl,h2⟩
theorem vG{p dW new q:List ai}{n:Int}(ho:∀i∈dW,¬(i.Op=38/\i.Arg=n))(hn:∀i∈new,¬(i.Op=38/\i.Arg=n)):∀(p1 p2:List ai),p=p1++p2->∀r1,after (p2++(dW++q)) n=some r1->∃pR,after (p2++(new++q)) n=some pR/\RP p dW new q r1 pR:=by
 intro p1 p2
 induction p2 generalizing p1 with
 | nil=>
   intro hp r1 h;rw[apj,wM ho]at h;rw[apj,wM hn];obtain⟨a,i,h1,_⟩:=DR _ _ _ h;exact⟨r1,h,.Pb (a++ [i]) r1 (by simp[h1])⟩
 | cons i p2 ih=>
   intro hp r1 h;rw[aoX,after]at h;rw[aoX,after];split at h
   ·rename_i hi;rw[if_pos hi];simp only[anc]at h;subst h;exact⟨_,rfl,.YU (p1++ [i]) p2 (by simp[hp])⟩
   ·rename_i hi;rw[if_neg hi];exact ih (p1++ [i]) (by simp[hp]) r1 h
def fY(r:List ai)(k:Nat):Int:=(r[k]?.map ai.Op).getD 0
def cg(r:List ai)(k:Nat):Int:=(r[k]?.map ai.Arg).getD 0
def notM(n:Int):Int:=ez (decide (aq n=0))
def lS(n:Int):List ai:=[⟨1,aq n⟩]
def oF(r:List ai):Option (Nat×List ai):=
 if fY r 0=1/\fY r 1=1/\fY r 2=8/\cg r 2≠9/\(jd aj.zero (cg r 2) (cg r 0) (cg r 1)).2=0 then some (3,lS (jd aj.zero (cg r 2) (cg r 0) (cg r 1)).1)
 else if fY r 0≠1 then none
 else if fY r 1=9 then some (2,lS (ry (cg r 0)))
 else if fY r 1=10 then some (2,lS (notM (cg r 0)))
 else if fY r 1=11 then some (2,lS (1-notM (cg r 0)))
 else none
def mM(r:List ai):Option (Nat×List ai):=
 if fY r 0=10/\fY r 1=10/\fY r 2=25 then some (2,[])
 else if fY r 0=1/\fY r 1=25 then(if aq (cg r 0)=0 then some (2,[⟨24,cg r 1⟩])else some (2,[]))
 else if fY r 0=1/\fY r 1=2 then some (2,[])
 else none
def cR(i:ai):Bool:=decide (i.Op=38)
def kM(o:Int):Prop:=o=24\/o=27\/o=28\/o=29\/o=30
instance (o:Int):Decidable (kM o):=by unfold kM;infer_instance
def oG(r:List ai):Nat:=(r.takeWhile λi=>!cR i).length
def mN(l:List ai)(n:Int):Bool:=l.any λi=>(decide (i.Op=24)||decide (i.Op=25))&&decide (i.Arg=n)
def vU(l r:List ai):Option (List ai):=
 match after l (cg r 0)with
 | none=>none
 | some a=>if fY (a.dropWhile cR) 0=24/\cg (a.dropWhile cR) 0≠cg r 0 then some [⟨fY r 0,cg (a.dropWhile cR) 0⟩]else none
def qS(l r:List ai):Option (Nat×Nat×List ai):=
 match oF r with
 | some (n,x)=>some (0,n,x)
 | none=>match mM r with
   | some (n,x)=>some (0,n,x)
   | none=>
     if kM (fY r 0)/\0<oG r.tail then some (1,oG r.tail,[])
     else if fY r 0=24\/fY r 0=25 then
      (if fY r 0=24/\(r.tail.takeWhile cR).any (λi=>decide (i.Arg=cg r 0))=true then some (0,1,[])
       else(vU l r).map λx=>(0,1,x))
     else if fY r 0=38/\mN l (cg r 0)=false then some (0,1,[])
     else none
def iN(l:List ai)(k n:Nat)(x:List ai):List ai:=l.take k++(x++l.drop (k+n))
def mq(l:List ai)(k:Nat):Option (List ai):=(qS l (l.drop k)).map λy=>iN l (k+y.1) y.2.1 y.2.2
def mO(l:List ai):Nat->Nat->Option (List ai)
 | 0,_=>none
 | n+1,k=>match mq l k with
   | some x=>some x
   | none=>mO l n (k+1)
def allM:Nat->List ai->List ai
 | 0,l=>l
 | n+1,l=>match mO l l.length 0 with
   | some x=>allM n x
   | none=>l
def gn(l:List ai):List ai:=allM (16 *l.length) l
structure fE.Std(m:fE):Prop where
 push:∀a S L σ,m.J ⟨1,a⟩ S L σ=some (.ok (aq a::S) L σ)
 pop:∀x v S L σ,m.J ⟨2,x⟩ (v::S) L σ=some (.ok S L σ)
 bin:∀o a b S L σ,o≠9->(jd aj.zero o a b).2=0->m.J ⟨8,o⟩ (aq b::aq a::S) L σ=some (.ok (aq (jd aj.zero o a b).1::S) L σ)
 neg:∀x a S L σ,m.J ⟨9,x⟩ (aq a::S) L σ=some (.ok (aq (ry a)::S) L σ)
 no:∀x v S L σ,m.J ⟨10,x⟩ (v::S) L σ=some (.ok (notM v::S) L σ)
 no0:∀x L σ,m.J ⟨10,x⟩ [] L σ=none
 test:∀x a S L σ,m.J ⟨11,x⟩ (aq a::S) L σ=some (.ok (ez (decide (aq a≠0))::S) L σ)
def bI(m:fE)(l l':List ai):Prop:=∀P P':Int->List ai,(∀f,P f=P' f\/P f=l/\P' f=l')->∀g,rQ m P P' l l l' l' g/\∀l r,rQ m P P' l r l r g
theorem bI.of{m}{p dW new q}(ht:∀i∈p++q,i.Op=24∨i.Op=25→∀r1,after (p++(dW++q)) i.Arg=some r1→∃pR,after (p++(new++q)) i.Arg=some pR∧RP p dW new q r1 pR)
  (hh:∀P P' g,(∀g1,g1<=g->Lw m P P' p dW new q g1)->rQ m P P' (p++(dW++q)) (dW++q) (p++(new++q)) (new++q) (g+1)):bI m (p++(dW++q)) (p++(new++q)):=by
 intro P P' hP g;have h:=Lw.run hP ht (hh P P') g;exact⟨h.rel _ _ (.YU [] p rfl),h.same⟩
theorem bI.YV{m}{p dW new q}(ho:kz dW)(hn:kz new)
  (hh:∀P P' g,(∀g1,g1<=g->Lw m P P' p dW new q g1)->rQ m P P' (p++(dW++q)) (dW++q) (p++(new++q)) (new++q) (g+1)):bI m (p++(dW++q)) (p++(new++q)):=
 bI.of (λi _ _ r1 h=>vG (λj hj h2=>ho j hj h2.1) (λj hj h2=>hn j hj h2.1) [] p rfl r1 h) hh
theorem kh{m}{P}{g d}{l r r'}{i}{S L S' L'}{σ σ'}{k}(h:nx m d l i r S L σ= .go r' S' L' σ' k):
  run m P (g+1) d l (i::r) S L σ=(run m P g d l r' S' L' σ').map λx=>(x.1,x.2+k):=by rw[run,h]
theorem YW{m}{P}{g d}{l r}{i}{S L S' L'}{σ σ'}(hf:flat i.Op)(h:m.J i S L σ=some (.ok S' L' σ')):
  run m P (g+1) d l (i::r) S L σ=(run m P g d l r S' L' σ').map λx=>(x.1,x.2+1):=kh (by rw[AF hf,h];rfl)
theorem iJ{x k}{o:Oc}{n:Nat}(h:(x.map λx=>(x.1,x.2+k))=some (o,n)):∃n',x=some (o,n')/\n=n'+k:=by
 obtain⟨⟨a,b⟩,h1,h2⟩:=aoJ.1 h;grind
theorem tM:flat 1:=by simp[flat]
theorem ahm:flat 2:=by simp[flat]
theorem ac0:flat 8:=by simp[flat]
theorem ac1:flat 9:=by simp[flat]
theorem DS:flat 10:=by simp[flat]
theorem YX:flat 11:=by simp[flat]
theorem wrap_wrap a:aq (aq a)=aq a:=by simp[iA]
theorem abB a:aq (notM a)=notM a:=by grind[notM,ez,iA]
theorem bI.to{m}{p dW new q}(ho:kz dW)(hn:kz new)
  (hr:∀P g d S L σ o k,run m P g d (p++(dW++q)) (dW++q) S L σ=some (o,k)->∃g' k' n S',g'<g/\k'+n<=k/\run m P g' d (p++(dW++q)) q S' L σ=some (o,k')/\
   ∀P' l g2 k2,run m P' g2 d l q S' L σ=some (o,k2)->∃g3,run m P' g3 d l (new++q) S L σ=some (o,k2+n)):bI m (p++(dW++q)) (p++(new++q)):=by
 refine bI.YV ho hn ?_;intro P P' g ih d S L σ o k h;obtain⟨g1,k1,n,S',hg,hk,h1,h2⟩:=hr _ _ _ _ _ _ _ _ h;obtain⟨g2,k2,hle,h3⟩:=(ih g1 (by omega)).rel _ _ (.Pb [] q rfl) _ _ _ _ _ _ h1;grind
theorem nQ{m P g d l r S L σ x}(h:run m P g d l r S L σ=some x):∃g',g=g'+1:=by
 cases g with
 | zero=>grind[run]
 | succ g=>simp
theorem jL{m}{P}{g d}{l r}{i}{S L S' L'}{σ σ'}{o}{k}(hf:flat i.Op)(hJ:m.J i S L σ=some (.ok S' L' σ'))(h:run m P g d l (i::r) S L σ=some (o,k)):
  ∃g' k',g=g'+1/\k=k'+1/\run m P g' d l r S' L' σ'=some (o,k'):=by
 obtain⟨g',rfl⟩:=nQ h;rw[YW hf hJ]at h;obtain⟨k',h1,h2⟩:=iJ h;grind
theorem E8{m}(hm:m.Std){a q d S L σ o}:∀P' l g2 k2,run m P' g2 d l q (aq a::S) L σ=some (o,k2)->∃g3,run m P' g3 d l (lS a++q) S L σ=some (o,k2+1):=by
 intro P' l g2 k2 h;refine⟨g2+1,?_⟩;show run m P' (g2+1) d l (⟨1,aq a⟩::q) S L σ=_;rw[YW tM (by rw[hm.push,wrap_wrap]),h];rfl
theorem dq:kz []:=by intro i hi;cases hi
theorem cD{i l}(h:i.Op≠38)(hl:kz l):kz (i::l):=by
 intro j hj;rcases ao0.1 hj with rfl|hj
 ·exact h
 ·exact hl j hj
theorem tN a:kz (lS a):=cD (by simp) dq
theorem bI.bin{m}(hm:m.Std){p q a b o}(h9:o≠9)(h0:(jd aj.zero o a b).2=0):bI m (p++([⟨1,a⟩,⟨1,b⟩,⟨8,o⟩]++q)) (p++(lS (jd aj.zero o a b).1++q)):=by
 refine bI.to (cD (by simp) (cD (by simp) (cD (by simp) dq))) (tN _) ?_;intro P g d S L σ x k h;obtain⟨g1,k1,rfl,rfl,h_1⟩:=jL tM (hm.push _ _ _ _) h;obtain⟨g2,k2,rfl,rfl,h_2⟩:=jL tM (hm.push _ _ _ _) h_1;obtain⟨g3,k3,rfl,rfl,h_3⟩:=jL ac0 (hm.bin _ _ _ _ _ _ h9 h0) h_2;exact⟨g3,k3,1,_,by omega,by omega,h_3,E8 hm⟩
theorem bI.neg{m}(hm:m.Std){p q a x}:bI m (p++([⟨1,a⟩,⟨9,x⟩]++q)) (p++(lS (ry a)++q)):=by
 refine bI.to (cD (by simp) (cD (by simp) dq)) (tN _) ?_;intro P g d S L σ y k h;obtain⟨g1,k1,rfl,rfl,h_1⟩:=jL tM (hm.push _ _ _ _) h;obtain⟨g2,k2,rfl,rfl,h_2⟩:=jL ac1 (hm.neg _ _ _ _ _) h_1;exact⟨g2,k2,1,_,by omega,by omega,h_2,E8 hm⟩
theorem bI.not{m}(hm:m.Std){p q a x}:bI m (p++([⟨1,a⟩,⟨10,x⟩]++q)) (p++(lS (notM a)++q)):=by
 refine bI.to (cD (by simp) (cD (by simp) dq)) (tN _) ?_;intro P g d S L σ y k h;obtain⟨g1,k1,rfl,rfl,h_1⟩:=jL tM (hm.push _ _ _ _) h;obtain⟨g2,k2,rfl,rfl,h_2⟩:=jL DS (hm.no _ _ _ _ _) h_1;refine⟨g2,k2,1,_,by omega,by omega,h_2,?_⟩;grind[notM,aq,abB,wrap_wrap,E8]
theorem bI.test{m}(hm:m.Std){p q a x}:bI m (p++([⟨1,a⟩,⟨11,x⟩]++q)) (p++(lS (1-notM a)++q)):=by
 refine bI.to (cD (by simp) (cD (by simp) dq)) (tN _) ?_;intro P g d S L σ y k h;obtain⟨g1,k1,rfl,rfl,h_1⟩:=jL tM (hm.push _ _ _ _) h;obtain⟨g2,k2,rfl,rfl,h_2⟩:=jL YX (hm.test _ _ _ _ _) h_1;refine⟨g2,k2,1,_,by omega,by omega,h_2,?_⟩;have e:ez (decide (aq a≠0))=aq (1-notM a):=by
  unfold notM ez;by_cases h_2:aq a=0
  ·simp_all[iA]
  simp_all[iA]
 grind[E8]
theorem bI.pop{m}(hm:m.Std){p q a x}:bI m (p++([⟨1,a⟩,⟨2,x⟩]++q)) (p++([]++q)):=by
 refine bI.to (cD (by simp) (cD (by simp) dq)) dq ?_;intro P g d S L σ y k h;obtain⟨g1,k1,rfl,rfl,h_1⟩:=jL tM (hm.push _ _ _ _) h;obtain⟨g2,k2,rfl,rfl,h_2⟩:=jL ahm (hm.pop _ _ _ _ _) h_1;exact⟨g2,k2,0,S,by omega,by omega,h_2,λP' l g2 k2 h_2=>⟨g2,h_2⟩⟩
theorem bI.aju{m}(hm:m.Std){p q a x}(ha:aq a≠0):bI m (p++([⟨1,a⟩,⟨25,x⟩]++q)) (p++([]++q)):=by
 refine bI.to (cD (by simp) (cD (by simp) dq)) dq ?_;intro P g d S L σ y k h;obtain⟨g1,k1,rfl,rfl,h_1⟩:=jL tM (hm.push _ _ _ _) h;obtain⟨g2,rfl⟩:=nQ h_1;have h_2:run m P (g2+1) d (p++([⟨1,a⟩,⟨25,x⟩]++q)) (⟨25,x⟩::q) (aq a::S) L σ=_:=h_1;rw[kh (by rw[sy rfl,Nx.zero,wrap_wrap,if_neg ha])]at h_2;obtain⟨k2,h_3,rfl⟩:=iJ h_2;exact⟨g2,k2,0,S,by omega,by omega,h_3,λP' l g2 k2 h=>⟨g2,h⟩⟩
theorem bI.jump{m}(hm:m.Std){p q a x}(ha:aq a=0):bI m (p++([⟨1,a⟩,⟨25,x⟩]++q)) (p++([⟨24,x⟩]++q)):=by
 have h1:kz [(⟨1,a⟩:ai),⟨25,x⟩]:=cD (by simp) (cD (by simp) dq);have h2:kz [(⟨24,x⟩:ai)]:=cD (by simp) dq;refine bI.YV h1 h2 ?_;intro P P' g ih d S L σ o k h;obtain⟨g1,k1,hg,rfl,h_1⟩:=jL tM (hm.push _ _ _ _) h;obtain⟨g2,rfl⟩:=nQ h_1;have h_2:run m P (g2+1) d (p++([⟨1,a⟩,⟨25,x⟩]++q)) (⟨25,x⟩::q) (aq a::S) L σ=_:=h_1;have e:nx m d (p++([⟨1,a⟩,⟨25,x⟩]++q)) ⟨25,x⟩ q (aq a::S) L σ=Nx.to S L σ (after (p++([⟨1,a⟩,⟨25,x⟩]++q)) x):=by
  rw[sy rfl,Nx.zero,wrap_wrap,if_pos ha]
 cases dS:after (p++([⟨1,a⟩,⟨25,x⟩]++q)) x with
 | none=>rw[run,e,dS]at h_2;cases h_2
 | some r1=>
   rw[dS]at e;rw[kh e]at h_2;obtain⟨k2,h_3,rfl⟩:=iJ h_2;obtain⟨pR,CP,HY⟩:=vG (λi hi hx=>h1 i hi hx.1) (λi hi hx=>h2 i hi hx.1) [] p rfl r1 dS;obtain⟨g3,k3,hle,h3⟩:=(ih g2 (by omega)).rel _ _ HY _ _ _ _ _ _ h_3;refine⟨g3+1,k3+1,by omega,?_⟩;show run m P' (g3+1) d (p++([⟨24,x⟩]++q)) (⟨24,x⟩::q) S L σ=_;rw[kh (by rw[vT rfl,CP];rfl),h3];rfl
theorem bI.afM{m}(hm:m.Std){p q x y z}:bI m (p++([⟨10,x⟩,⟨10,y⟩]++(⟨25,z⟩::q))) (p++([]++(⟨25,z⟩::q))):=by
 refine bI.to (cD (by simp) (cD (by simp) dq)) dq ?_;intro P g d S L σ o k h;cases S with
 | nil=>
   obtain⟨g1,rfl⟩:=nQ h;rw[aoX,run,AF DS,hm.no0]at h;cases h
 | cons v S=>
   obtain⟨g1,k1,rfl,rfl,h_1⟩:=jL DS (hm.no _ _ _ _ _) h;obtain⟨g2,k2,rfl,rfl,h_2⟩:=jL DS (hm.no _ _ _ _ _) h_1;have hz:(aq (notM (notM v))=0)=(aq v=0):=by
    unfold notM ez;by_cases hv:aq v=0
    ·simp_all[iA]
    simp_all[iA]
   have en:∀l r,nx m d l ⟨25,z⟩ r (notM (notM v)::S) L σ=nx m d l ⟨25,z⟩ r (v::S) L σ:=by
    intro l r;rw[sy rfl,sy rfl,Nx.zero,Nx.zero];simp[hz]
   refine⟨g2,k2,0,_,by omega,by omega,h_2,?_⟩;intro P' l g2 k2 h_2;refine⟨g2,?_⟩;obtain⟨g2,rfl⟩:=nQ h_2;simp_all[run]
theorem bI.dead{m}(hm:∀x S L σ S' L' σ',x=28\/x=29\/x=30->∀a,m.J ⟨x,a⟩ S L σ≠some (.ok S' L' σ')){p dead q i}(hi:kM i.Op)(hd:kz dead):bI m (p++((i::dead)++q)) (p++([i]++q)):=by
 have afN:i.Op≠38:=by rcases hi with h|h|h|h|h<;>rw[h]<;>decide
 have h1:kz (i::dead):=cD afN hd;have h2:kz [i]:=cD afN dq;refine bI.YV h1 h2 ?_;intro P P' g ih d S L σ o k h;have tgt:∀n r1,after (p++((i::dead)++q)) n=some r1->∃pR,after (p++([i]++q)) n=some pR/\RP p (i::dead) [i] q r1 pR:=λn r1 h=>vG (λj hj hx=>h1 j hj hx.1) (λj hj hx=>h2 j hj hx.1) [] p rfl r1 h
 rw[aoX,run]at h;by_cases jo:i.Op=24
 ·rw[vT jo]at h;cases dS:after (p++((i::dead)++q)) i.Arg with
  | none=>rw[aoX]at dS;rw[dS]at h;cases h
  | some r1=>
    obtain⟨pR,CP,HY⟩:=tgt _ _ dS;rw[aoX]at dS;rw[dS]at h;obtain⟨k2,h_3,rfl⟩:=iJ h;obtain⟨g3,k3,hle,h3⟩:=(ih g (by omega)).rel _ _ HY _ _ _ _ _ _ h_3;refine⟨g3+1,k3+1,by omega,?_⟩;rw[aoX,apj,kh (r':=pR) (S':=S) (L':=L) (σ':=σ) (k:=1) (by rw[vT jo];rw[aoX,apj]at CP;rw[CP];rfl)];grind
 by_cases rI:i.Op=27
 ·rw[Kd rI]at h;cases S with
  | nil=>cases h
  | cons v S=>exact⟨1,k,aoT _,by rw[aoX,run,Kd rI];exact h⟩
 have h3:i.Op=28\/i.Op=29\/i.Op=30:=by rcases hi with h|h|h|h|h<;>simp_all
 have hf:flat i.Op:=by grind[flat]
 rw[AF hf]at h;cases hJ:m.J i S L σ with
 | none=>rw[hJ]at h;cases h
 | some ev=>
   rw[hJ]at h;cases ev with
   | ok S' L' σ'=>simp_all
   | bG x=>exact⟨1,k,aoT _,by rw[aoX,run,AF hf,hJ];exact h⟩
   | over σ'=>exact⟨1,k,aoT _,by rw[aoX,run,AF hf,hJ];exact h⟩
def bP(l:List ai):List Int:=(l.filter cR).map ai.Arg
theorem nZ a b:bP (a++b)=bP a++bP b:=by simp[bP]
theorem qt{l n}:n∈bP l↔∃i∈l,i.Op=38/\i.Arg=n:=by
 simp[bP,cR];grind
theorem Pc{m P l r d S L σ x}:∀a g,(∀i∈a,i.Op=38)->run m P g d l r S L σ=some x->run m P (g+a.length) d l (a++r) S L σ=some x
 | [],g,_,h=>h
 | i::a,g,ha,h=>by
   rw[aoU,<-aqz,aoX,kh (DO (ha i (by simp))),Pc a g (λj hj=>ha j (by simp[hj])) h];rfl
theorem DT{m P l r d S L σ x}:∀a g,(∀i∈a,i.Op=38)->run m P g d l (a++r) S L σ=some x->∃g',g'<=g/\run m P g' d l r S L σ=some x
 | [],g,_,h=>⟨g,aoT _,h⟩
 | i::a,g,ha,h=>by
   obtain⟨g1,rfl⟩:=nQ h;rw[aoX,kh (DO (ha i (by simp)))]at h;obtain⟨k,h1,h2⟩:=iJ (by rw[h]);obtain⟨g',hg,h3⟩:=DT a g1 (λj hj=>ha j (by grind)) (x:=x) (by rw[h1,apQ]at *;grind);grind
theorem bI.next{m p a b x}(ha:∀i∈a,i.Op=38)(hu:(bP (p++([⟨24,x⟩]++(a++⟨38,x⟩::b)))).Nodup):bI m (p++([⟨24,x⟩]++(a++⟨38,x⟩::b))) (p++([]++(a++⟨38,x⟩::b))):=by
 have h1:kz [(⟨24,x⟩:ai)]:=cD (by simp) dq;refine bI.YV h1 dq ?_;intro P P' g ih d S L σ o k h;have hx:∀i∈p++([⟨24,x⟩]++a),¬(i.Op=38/\i.Arg=x):=by
  intro i hi kL;have e:p++([⟨24,x⟩]++(a++⟨38,x⟩::b))=(p++([⟨24,x⟩]++a))++⟨38,x⟩::b:=by simp
  rw[e,nZ,aqd]at hu;exact hu.2.2 x (qt.2 ⟨i,hi,kL⟩) x (qt.2 ⟨⟨38,x⟩,by simp,rfl,rfl⟩) rfl
 have dS:after (p++([⟨24,x⟩]++(a++⟨38,x⟩::b))) x=some b:=by
  have e:p++([⟨24,x⟩]++(a++⟨38,x⟩::b))=(p++([⟨24,x⟩]++a))++⟨38,x⟩::b:=by simp
  rw[e,wM hx,after,if_pos ⟨rfl,rfl⟩]
 have h2:run m P (g+1) d (p++([⟨24,x⟩]++(a++⟨38,x⟩::b))) (⟨24,x⟩::(a++⟨38,x⟩::b)) S L σ=_:=h;rw[kh (r':=b) (S':=S) (L':=L) (σ':=σ) (k:=1) (by rw[vT rfl,dS];rfl)]at h2;obtain⟨k2,h3,rfl⟩:=iJ h2;obtain⟨g3,k3,hle,h4⟩:=(ih g (by omega)).rel _ _ (.Pb (a++ [⟨38,x⟩]) b (by simp)) _ _ _ _ _ _ h3;have h5:=Pc (a++ [⟨38,x⟩]) g3 (by
  grind) h4
 grind
theorem bI.far{m p q a b op x y}(aD:op=24\/op=25)(ha:∀i∈a,i.Op=38)(dS:after (p++([⟨op,x⟩]++q)) x=some (a++⟨24,y⟩::b)):bI m (p++([⟨op,x⟩]++q)) (p++([⟨op,y⟩]++q)):=by
 have h1:kz [(⟨op,x⟩:ai)]:=cD (by grind) dq;have h2:kz [(⟨op,y⟩:ai)]:=cD (by grind) dq;refine bI.YV h1 h2 ?_;intro P P' g ih d S L σ o k h;have h:run m P (g+1) d (p++([⟨op,x⟩]++q)) (⟨op,x⟩::q) S L σ=some (o,k):=h;have go:∀S1,nx m d (p++([⟨op,x⟩]++q)) ⟨op,x⟩ q S L σ=Nx.to S1 L σ (some (a++⟨24,y⟩::b))->(∀t,after (p++([⟨op,y⟩]++q)) y=some t->nx m d (p++([⟨op,y⟩]++q)) ⟨op,y⟩ q S L σ=Nx.to S1 L σ (some t))->∃g' n',n'<=k/\run m P' g' d (p++([⟨op,y⟩]++q)) ([⟨op,y⟩]++q) S L σ=some (o,n'):=by
  intro S1 e1 e2;rw[kh e1]at h;obtain⟨k2,h3,rfl⟩:=iJ h;obtain⟨g4,hg4,h4⟩:=DT a g ha h3;obtain⟨g5,rfl⟩:=nQ h4;cases hay:after (p++([⟨op,x⟩]++q)) y with
  | none=>rw[run,vT rfl,hay]at h4;cases h4
  | some r2=>
    rw[kh (r':=r2) (S':=S1) (L':=L) (σ':=σ) (k:=1) (by rw[vT rfl,hay];rfl)]at h4;obtain⟨k3,h5,rfl⟩:=iJ h4;obtain⟨r2',CP,HY⟩:=vG (n:=y) (λi hi hx=>h1 i hi hx.1) (λi hi hx=>h2 i hi hx.1) [] p rfl r2 hay;obtain⟨g6,k6,hle,h6⟩:=(ih g5 (by omega)).rel _ _ HY _ _ _ _ _ _ h5;refine⟨g6+1,k6+1,by omega,?_⟩;show run m P' (g6+1) d (p++([⟨op,y⟩]++q)) (⟨op,y⟩::q) S L σ=_;rw[kh (e2 r2' CP),h6];rfl
 rcases aD with rfl|rfl
 ·exact go S (by rw[vT rfl,dS]) (λt ht=>by rw[vT rfl];rw[ht])
 ·cases S with
  | nil=>rw[run,sy rfl]at h;cases h
  | cons v S=>
    by_cases hv:aq v=0
    ·exact go S (by rw[sy rfl,Nx.zero,if_pos hv,dS]) (λt ht=>by rw[sy rfl,Nx.zero,if_pos hv];rw[ht])
    ·rw[kh (r':=q) (S':=S) (L':=L) (σ':=σ) (k:=1) (by rw[sy rfl,Nx.zero,if_neg hv])]at h;obtain⟨k2,h3,rfl⟩:=iJ h;obtain⟨g6,k6,hle,h6⟩:=(ih g (by omega)).rel _ _ (.Pb [] q rfl) _ _ _ _ _ _ h3;refine⟨g6+1,k6+1,by omega,?_⟩;show run m P' (g6+1) d (p++([⟨25,y⟩]++q)) (⟨25,y⟩::q) (v::S) L σ=_;rw[kh (r':=q) (S':=S) (L':=L) (σ':=σ) (k:=1) (by rw[sy rfl,Nx.zero,if_neg hv]),h6];rfl
theorem bI.ahn{m p q x}(ha:mN (p++([⟨38,x⟩]++q)) x=false):bI m (p++([⟨38,x⟩]++q)) (p++([]++q)):=by
 refine bI.of ?_ ?_
 ·intro i hi hj r1 h;refine vG (λj hj h2=>?_) (λj hj=>by cases hj) [] p rfl r1 h;grind[List.mem_singleton,mN,List.any_eq_true]
 ·intro P P' g ih d S L σ o k h;obtain⟨k2,h3,rfl⟩:=iJ h;obtain⟨g6,k6,hle,h6⟩:=(ih g (by omega)).rel _ _ (.Pb [] q rfl) _ _ _ _ _ _ h3;grind
structure fE.Ok(m:fE):Prop extends m.Std where
 stops:∀x S L σ S' L' σ',x=28\/x=29\/x=30->∀a,m.J ⟨x,a⟩ S L σ≠some (.ok S' L' σ')
theorem ic{r}(h:fY r 0≠0):∃i t,r=i::t:=by
 cases r with
 | nil=>exact(h rfl).elim
 | cons i t=>simp
theorem sz i t k:fY (i::t) (k+1)=fY t k:=by rfl
theorem yi i t:fY (i::t) 0=i.Op:=by rfl
theorem vH i t:cg (i::t) 0=i.Arg:=by rfl
def Vu(m:fE)(l r:List ai)(y:Nat×Nat×List ai):Prop:=∀p,l=p++r->(bP l).Nodup->bI m l (p++(r.take y.1++(y.2.2++r.drop (y.1+y.2.1))))
theorem YY{m}(hm:m.Ok){l r n x}(h:oF r=some (n,x)):Vu m l r (0,n,x):=by
 rintro p rfl _;unfold oF at h;split at h
 ·rename_i hc;obtain⟨h0,h1,h2,h9,hz⟩:=hc;obtain⟨⟨o1,a⟩,t,rfl⟩:=ic (r:=r) (by omega);rw[sz]at h1 h2;obtain⟨⟨o2,b⟩,t,rfl⟩:=ic (r:=t) (by omega);rw[sz]at h2;obtain⟨⟨o3,c⟩,t,rfl⟩:=ic (r:=t) (by omega);cases h;obtain rfl:o1=1:=h0;obtain rfl:o2=1:=h1;obtain rfl:o3=8:=h2;exact bI.bin hm.toStd h9 hz
 ·split at h
  ·cases h
  ·rename_i h0;simp only[ne_eq,apT]at h0;obtain⟨⟨o1,a⟩,t,rfl⟩:=ic (r:=r) (by omega);obtain rfl:o1=1:=h0;simp only[sz,vH]at h;split at h
   ·rename_i h1;obtain⟨⟨o2,b⟩,t,rfl⟩:=ic (r:=t) (by omega);obtain rfl:o2=9:=h1;cases h;exact bI.neg hm.toStd
   ·split at h
    ·rename_i h1;obtain⟨⟨o2,b⟩,t,rfl⟩:=ic (r:=t) (by omega);obtain rfl:o2=10:=h1;cases h;exact bI.not hm.toStd
    ·split at h
     ·rename_i h1;obtain⟨⟨o2,b⟩,t,rfl⟩:=ic (r:=t) (by omega);obtain rfl:o2=11:=h1;cases h;exact bI.test hm.toStd
     grind
theorem Vv{m}(hm:m.Ok){l r n x}(h:mM r=some (n,x)):Vu m l r (0,n,x):=by
 rintro p rfl _;unfold mM at h;split at h
 ·rename_i hc;obtain⟨h0,h1,h2⟩:=hc;obtain⟨⟨o1,a⟩,t,rfl⟩:=ic (r:=r) (by omega);rw[sz]at h1 h2;obtain⟨⟨o2,b⟩,t,rfl⟩:=ic (r:=t) (by omega);rw[sz]at h2;obtain⟨⟨o3,c⟩,t,rfl⟩:=ic (r:=t) (by omega);cases h;obtain rfl:o1=10:=h0;obtain rfl:o2=10:=h1;obtain rfl:o3=25:=h2;exact bI.afM hm.toStd
 ·split at h
  ·rename_i hc;obtain⟨h0,h1⟩:=hc;obtain⟨⟨o1,a⟩,t,rfl⟩:=ic (r:=r) (by omega);rw[sz]at h1;obtain⟨⟨o2,b⟩,t,rfl⟩:=ic (r:=t) (by omega);obtain rfl:o1=1:=h0;obtain rfl:o2=25:=h1;split at h
   ·rename_i hz;cases h;exact bI.jump hm.toStd hz
   ·rename_i hz;cases h;exact bI.aju hm.toStd hz
  ·split at h
   ·rename_i hc;obtain⟨h0,h1⟩:=hc;obtain⟨⟨o1,a⟩,t,rfl⟩:=ic (r:=r) (by omega);rw[sz]at h1;obtain⟨⟨o2,b⟩,t,rfl⟩:=ic (r:=t) (by omega);obtain rfl:o1=1:=h0;obtain rfl:o2=2:=h1;cases h;exact bI.pop hm.toStd
   grind
theorem mr{α:Type} f:∀(l:List α),∀x∈l.takeWhile f,f x=true
 | [],x,h=>by cases h
 | y::l,x,h=>by
   rw[aqQ]at h;split at h
   ·rename_i hy;rcases ao0.1 h with rfl|h
    ·exact hy
    ·exact mr f l x h
   grind
theorem qT{α:Type} f(l:List α):l=l.takeWhile f++l.drop (l.takeWhile f).length:=by
 grind[List.takeWhile_append_dropWhile]
theorem Rx{m}(hm:m.Ok){l r y}(h:qS l r=some y):Vu m l r y:=by
 unfold qS at h;split at h
 ·grind[Option.some.injEq,YY]
 ·split at h
  ·grind[Option.some.injEq,Vv]
  ·split at h
   ·rename_i hc;obtain⟨he,hd⟩:=hc;simp only[anc]at h;subst h;rintro p rfl _;obtain⟨i,t,rfl⟩:=ic (r:=r) (by grind[kM]);rw[yi]at he;have ht:=qT (λi=>!cR i) t;have hn:kz (t.takeWhile λi=>!cR i):=by
     intro j hj;grind[mr,cR]
    have hb:=bI.dead (m:=m) hm.stops (p:=p) (q:=t.drop (t.takeWhile λi=>!cR i).length) he hn;grind[cR,oG,Nat.add_comm]
   ·split at h
    ·rename_i hj;obtain⟨⟨op,x⟩,q,rfl⟩:=ic (r:=r) (by omega);simp only[yi,vH,List.tail_cons]at hj h;split at h
     ·rename_i hc;obtain⟨jo,yj⟩:=hc;simp only[anc]at h;subst h;subst jo;rintro p rfl hu;obtain⟨j,SH,IL⟩:=aqg.1 yj;have anV:j.Op=38:=by
       grind[mr,cR]
      have hjx:j.Arg=x:=of_decide_eq_true IL;obtain⟨a,b,zw⟩:=aqB SH;have hq:=qT cR q;have y9:j=⟨38,x⟩:=by cases j;grind
      subst y9;have e:q=a++⟨38,x⟩::(b++q.drop (q.takeWhile cR).length):=by
       grind
      grind[mr,cR,bI.next]
     ·obtain⟨z,hz,rfl⟩:=aoJ.1 h;rintro p rfl hu;unfold vU at hz;rw[vH]at hz;split at hz
      ·cases hz
      ·rename_i t dS;split at hz
       ·rename_i hc;obtain⟨pD,pB⟩:=hc;simp only[anc]at hz;subst hz;obtain⟨⟨o2,z⟩,b,hb⟩:=ic (r:=t.dropWhile cR) (by omega);rw[hb]at pD pB⊢;rw[yi]at pD;rw[vH]at pB⊢;obtain rfl:o2=24:=pD;rw[yi];have ht:=List.takeWhile_append_dropWhile (p:=cR) (l:=t);grind[bI.far,mr,cR]
       grind
    ·split at h
     ·rename_i hc;obtain⟨kL,ha⟩:=hc;simp only[anc]at h;subst h;obtain⟨⟨op,x⟩,q,rfl⟩:=ic (r:=r) (by omega);rw[yi]at kL;rw[vH]at ha;obtain rfl:op=38:=kL;rintro p rfl hu;exact bI.ahn ha
     grind
theorem F3{l:List ai}(h:kz l):bP l=[]:=by
 unfold bP;rw[List.map_eq_nil_iff,List.filter_eq_nil_iff];intro i hi;simpa[cR]using h i hi
theorem Vw{l r:List ai}{y:Nat×Nat×List ai}(h:qS l r=some y):kz y.2.2:=by
 unfold qS at h;split at h
 ·rename_i n x hr;simp only[anc]at h;subst h;unfold oF at hr
  repeat' split at hr
  all_goals first
   | (simp only[anc,aoI]at hr;obtain⟨_,rfl⟩:=hr;exact tN _)
   | cases hr
 ·split at h
  ·rename_i n x hr;simp only[anc]at h;subst h;unfold mM at hr
   repeat' split at hr
   all_goals first
    | (simp only[anc,aoI]at hr;obtain⟨_,rfl⟩:=hr;exact dq)
    | (simp only[anc,aoI]at hr;obtain⟨_,rfl⟩:=hr;exact cD (by show(24:Int)≠38;omega) dq)
    | cases hr
  ·split at h
   ·simp only[anc]at h;subst h;exact dq
   ·split at h
    ·rename_i hj;split at h
     ·simp only[anc]at h;subst h;exact dq
     ·obtain⟨z,hz,rfl⟩:=aoJ.1 h;unfold vU at hz;split at hz
      ·cases hz
      ·split at hz
       ·simp only[anc]at hz;subst hz;exact cD (by show fY r 0≠38;omega) dq
       ·cases hz
    ·split at h
     ·simp only[anc]at h;subst h;exact dq
     ·cases h
theorem abC{a b:List ai}(h:a.Sublist b):(bP a).Sublist (bP b):=(h.filter _).map _
theorem Rz{l:List ai}{k:Nat}{y:Nat×Nat×List ai}(h:qS l (l.drop k)=some y):(bP (l.take k++((l.drop k).take y.1++(y.2.2++(l.drop k).drop (y.1+y.2.1))))).Sublist (bP l):=by
 have h1:=F3 (Vw h);rw[nZ,nZ,nZ,h1,apj,<-nZ,<-nZ];refine abC ?_
 conv=>rhs;rw[<-ao5 k l]
 refine List.Sublist.append_left ?_ _
 conv=>rhs;rw[<-ao5 y.1 (l.drop k)]
 refine List.Sublist.append_left ?_ _;rw[<-ap8];exact List.drop_sublist _ _
theorem swap_eq(l:List ai)(k s n:Nat)(x:List ai):iN l (k+s) n x=l.take k++((l.drop k).take s++(x++(l.drop k).drop (s+n))):=by
 unfold iN;rw[List.take_add,apb,ap8,aqz]
def BB(m:fE)(P P':Int->List ai):Prop:=∀f d S L σ g o n,run m P g d (P f) (P f) S L σ=some (o,n)->∃g' n',n'<=n/\run m P' g' d (P' f) (P' f) S L σ=some (o,n')
theorem BB.refl(m:fE)(P:Int->List ai):BB m P P:=λ_ _ _ _ _ g _ n h=>⟨g,n,aoT _,h⟩
theorem BB.trans{m:fE}{P Q R:Int->List ai}(h1:BB m P Q)(h2:BB m Q R):BB m P R:=by
 intro f d S L σ g o n h;obtain⟨g1,n1,hle,h⟩:=h1 _ _ _ _ _ _ _ _ h;obtain⟨g2,n2,ajt,h⟩:=h2 _ _ _ _ _ _ _ _ h;exact⟨g2,n2,by omega,h⟩
theorem bI.BB{m:fE}{l l':List ai}(h:bI m l l'){P P':Int->List ai}(hP:∀f,P f=P' f\/P f=l/\P' f=l'):BB m P P':=by
 intro f d S L σ g o n hr;obtain⟨h1,h2⟩:=h P P' hP g;rcases hP f with e|⟨e1,e2⟩
 ·rw[<-e];exact h2 _ _ _ _ _ _ _ _ hr
 ·rw[e1]at hr;rw[e2];exact h1 _ _ _ _ _ _ hr
def BA(P:Int->List ai)(j:Int)(l:List ai)(f:Int):List ai:=if f=j then l else P f
theorem bI.put{m:fE}{l l':List ai}(h:bI m l l')(P:Int->List ai)(j:Int):Go.Ab.BB m (BA P j l) (BA P j l'):=
 h.BB λf=>by
  unfold BA;split
  ·exact Or.inr ⟨rfl,rfl⟩
  ·exact Or.inl rfl
theorem Vx{m:fE}(hm:m.Ok){l l':List ai}{k:Nat}(hu:(bP l).Nodup)(h:mq l k=some l'):bI m l l'/\(bP l').Nodup:=by
 obtain⟨y,hy,rfl⟩:=aoJ.1 h;rw[swap_eq];exact⟨Rx hm hy (l.take k) (ao5 k l).symm hu,hu.sublist (Rz hy)⟩
theorem BC{l l':List ai}:∀(n k:Nat),mO l n k=some l'->∃j,k<=j/\j<k+n/\mq l j=some l'
 | 0,k,h=>by cases h
 | n+1,k,h=>by
   rw[mO]at h;split at h
   ·rename_i x hx;exact⟨k,aoT _,by omega,by rw[hx];exact h⟩
   ·obtain⟨j,h1,h2,h3⟩:=BC n (k+1) h;exact⟨j,by omega,by omega,h3⟩
theorem S6{m:fE}(hm:m.Ok)(P:Int->List ai)(j:Int):∀(n:Nat) (l:List ai),(bP l).Nodup->BB m (BA P j l) (BA P j (allM n l))/\(bP (allM n l)).Nodup
 | 0,l,hu=>⟨BB.refl _ _,hu⟩
 | n+1,l,hu=>by
   rw[allM];split
   ·rename_i x hx;obtain⟨k,_,_,hk⟩:=BC _ _ hx;obtain⟨h1,h2⟩:=Vx hm hu hk;obtain⟨h3,h4⟩:=S6 hm P j n x h2;exact⟨(h1.put P j).trans h3,h4⟩
   ·exact⟨BB.refl _ _,hu⟩
theorem abD{m:fE}(hm:m.Ok)(P:Int->List ai)(hu:∀f,(bP (P f)).Nodup)(N:Nat)(hN:∀f,P f≠ []->0<=f/\f<N):BB m P (λf=>gn (P f)):=by
 have key:∀k:Nat,BB m P (λf=>if 0<=f/\f<k then gn (P f)else P f):=by
  intro k
  induction k with
  | zero=>
    have e:(λf:Int=>if 0<=f/\f<((0:Nat):Int)then gn (P f)else P f)=P:=by
     funext f;rw[if_neg (by omega)]
    rw[e];exact BB.refl _ _
  | succ k ih=>
    refine ih.trans ?_;have h:=(S6 hm (λf=>if 0<=f/\f<k then gn (P f)else P f) k (16 *(P k).length) (P k) (hu k)).1;have e1:BA (λf:Int=>if 0<=f/\f<k then gn (P f)else P f) k (P k)=(λf:Int=>if 0<=f/\f<k then gn (P f)else P f):=by
     funext f;unfold BA;split
     ·rename_i hf;subst hf;rw[if_neg (by omega)]
     ·rfl
    have e2:BA (λf:Int=>if 0<=f/\f<k then gn (P f)else P f) k (allM (16 *(P k).length) (P k))=(λf:Int=>if 0<=f/\f<((k+1:Nat):Int)then gn (P f)else P f):=by
     funext f;unfold BA;by_cases hf:f=k
     ·subst hf;rw[if_pos rfl,if_pos (by omega)];rfl
     ·rw[if_neg hf];show(if 0<=f/\f<(k:Int)then gn (P f)else P f)=_;by_cases h2:0<=f/\f<k
      ·rw[if_pos h2,if_pos (by omega)]
      ·rw[if_neg h2,if_neg (by omega)]
    rw[e1,e2]at h;exact h
 have h:=key N;have e:(λf:Int=>if 0<=f/\f<(N:Int)then gn (P f)else P f)=(λf=>gn (P f)):=by
  funext f;split
  ·rfl
  ·rename_i hf;by_cases h0:P f=[]
   ·rw[h0];rfl
   ·exact(hf (hN f h0)).elim
 rw[e]at h;exact h
def dC(n:Int):Nat:=if n=0 then 0 else if -128<=n/\n<=127 then 1 else 2
def ni(o:Int):Bool:=[1,3,4,5,6,7,8,12,13,14,15,16,19,21,24,25,26,32,33,38].contains o
def jU(n:Int):Nat->List Int
 | 0=> []
 | 1=> [n % 256]
 | _=> [n / 256 % 256,n % 256]
def fN(o n:Int)(k:Nat):List Int:=(4 *o+k)::jU n k
def uS(i:ai):Int:=if ni i.Op then aq i.Arg else 0
def mY(i:ai):List Int:=if i.Op<1\/38<=i.Op then []else fN i.Op (uS i) (dC (uS i))
def nI(b:List Int)(i:Int)(k:Int):Int:=
 if k=1 then(if aA b i>=128 then aA b i-256 else aA b i)else if k=2 then aq (256 *aA b i+aA b (i+1))else 0
def og(b:List Int)(i:Int):ai×Int×Int:=
 if i<0\/(b.length:Int)<=i then(⟨0,0⟩,0,2)
 else if aA b i / 4<1\/38<=aA b i / 4\/aA b i % 4=3\/(0<aA b i % 4/\ni (aA b i / 4)=false)then(⟨0,0⟩,0,16)
 else if(b.length:Int)-i-1<aA b i % 4 then(⟨0,0⟩,0,2)
 else if aA b i % 4≠(dC (nI b (i+1) (aA b i % 4)):Int)/\aA b i / 4≠24/\aA b i / 4≠25 then(⟨0,0⟩,0,4)
 else(⟨aA b i / 4,nI b (i+1) (aA b i % 4)⟩,i+1+aA b i % 4,0)
theorem yl(n:Int)(k:Nat)(hk:k<=2):(jU n k).length=k:=by
 match k,hk with
 | 0,_=>rfl
 | 1,_=>rfl
 | 2,_=>rfl
theorem G9(pre post:List Int)(k:Nat):aA (pre++post) ((pre.length:Int)+k)=aA post k:=by
 unfold aA;rw[show((pre.length:Int)+k).toNat=pre.length+k by omega,apF (by omega)];simp
theorem qc(n:Int):dC n<=2:=by unfold dC;split;omega;split<;>omega
theorem S7{o n:Int}{k:Nat}(pre post:List Int)(ho:1≤o∧o < 38)(hk:k≤2)(hh:0 < k→ni o=true)(hn: -32768≤n∧n≤32767)(hb:dC n≤k)(hj:o=24∨o=25∨dC n=k):
  og (pre++(fN o n k++post)) (pre.length:Int)=((⟨o,n⟩:ai),(pre.length:Int)+1+k,(0:Int)):=by
 have h0:aA (pre++(fN o n k++post)) pre.length=4 *o+k:=by
  have:=G9 pre (fN o n k++post) 0;simp only[Int.natCast_zero,Int.add_zero]at this;rw[this];simp[aA,fN]
 have hd:(4 *o+(k:Int)) / 4=o:=by omega
 have hm:(4 *o+(k:Int)) % 4=k:=by omega
 have hl:(pre++(fN o n k++post)).length=pre.length+(1+k+post.length):=by
  simp only[aoS,fN,aoU,yl n k hk];omega
 have ha:nI (pre++(fN o n k++post)) (pre.length+1) k=n:=by
  have g1:aA (pre++(fN o n k++post)) ((pre.length:Int)+1)=aA (jU n k++post) 0:=by
   have:=G9 pre (fN o n k++post) 1;simp only[Int.natCast_one]at this;rw[this];simp[aA,fN]
  have g2:aA (pre++(fN o n k++post)) ((pre.length:Int)+1+1)=aA (jU n k++post) 1:=by
   have:=G9 pre (fN o n k++post) 2;rw[show((2:Nat):Int)=1+1 by rfl,<-Int.add_assoc]at this;rw[this];simp[aA,fN]
  unfold nI
  match k,hk with
  | 0,_=>
    rw[if_neg (by decide),if_neg (by decide)];unfold dC at hb;split at hb
    ·rename_i h;exact h.symm
    ·split at hb<;>omega
  | 1,_=>
    rw[if_pos (by decide),g1];have e:aA (jU n 1++post) 0=n % 256:=by simp[aA,jU]
    rw[e];have: -128<=n/\n<=127:=by
     unfold dC at hb;split at hb
     ·omega
     ·split at hb<;>omega
    split<;>omega
  | 2,_=>
    rw[if_neg (by decide),if_pos (by decide),g1,g2];have e1:aA (jU n 2++post) 0=n / 256 % 256:=by simp[aA,jU]
    have e2:aA (jU n 2++post) 1=n % 256:=by simp[aA,jU]
    rw[e1,e2,iA];omega
 unfold og;rw[h0,hd,hm,ha,hl];rw[if_neg (by omega),if_neg (by rintro(h|h|h|⟨h,h2⟩)<;>first|omega|(rw[hh (by omega)]at h2;cases h2)),if_neg (by omega),if_neg ?_];rintro⟨h1,h2,h3⟩;rcases hj with h|h|h
 ·exact h2 h
 ·exact h3 h
 ·exact h1 (by rw[h])
def jmp(o:Int):Bool:=decide (o=24)||decide (o=25)
abbrev Zl:=List (ai×Nat)
def dY(p:ai×Nat):Nat:=if p.1.Op=38 then 0 else if jmp p.1.Op then 1+p.2 else(mY p.1).length
def aW(z:Zl):Nat:=(z.map dY).sum
def tO:Zl->Int->Option Nat
 | [],_=>none
 | p::z,n=>if p.1.Op=38/\p.1.Arg=n then some 0 else(tO z n).map (dY p+ ·)
def il(w:Zl)(n:Int)(at_:Nat):Int:=((tO w n).getD 0:Nat)-(at_:Int)
def om(w:Zl)(k:Nat)(p:ai×Nat):List Int:=if p.1.Op=38 then []else if jmp p.1.Op then fN p.1.Op (il w p.1.Arg (k+dY p)) p.2 else mY p.1
def fe(w:Zl):Nat->Zl->List Int
 | _,[]=> []
 | k,p::z=>om w k p++fe w (k+dY p) z
theorem YZ(w:Zl)(k:Nat)(p:ai×Nat)(h:p.2<=2):(om w k p).length=dY p:=by
 unfold om dY;split
 ·rfl
 ·split
  ·simp only[fN,aoU,yl _ _ h];omega
  ·rfl
theorem DU(w:Zl):∀(k:Nat) (a b:Zl),fe w k (a++b)=fe w k a++fe w (k+aW a) b
 | k,[],b=>by simp[fe,aW]
 | k,p::a,b=>by
   rw[aoX,fe,fe,DU w _ a b,apb];simp only[aW,ao9,aqO,aqz]
theorem Lx(w:Zl):∀(k:Nat) (z:Zl),(∀p∈z,p.2<=2)->(fe w k z).length=aW z
 | k,[],_=>rfl
 | k,p::z,h=>by
   rw[fe,aoS,YZ w k p (h p (by simp)),Lx w _ z (λq hq=>h q (by simp[hq]))];simp[aW]
theorem Ha(a b:Zl):aW (a++b)=aW a+aW b:=by simp[aW]
theorem Y0(p:ai×Nat)(b:Zl):aW (p::b)=dY p+aW b:=by simp[aW]
def aho(w:Zl)(k:Nat)(p:ai×Nat):Prop:=
 p.2<=2/\(p.1.Op=38\/(1<=p.1.Op/\p.1.Op<38/\(if jmp p.1.Op then(tO w p.1.Arg).isSome/\ -32768<=il w p.1.Arg (k+dY p)/\il w p.1.Arg (k+dY p)<=32767/\dC (il w p.1.Arg (k+dY p))<=p.2
  else -32768<=p.1.Arg/\p.1.Arg<=32767/\(ni p.1.Op=false->p.1.Arg=0))))
def Vy(z:Zl):Prop:=∀a p b,z=a++p::b->aho z (aW a) p
theorem S8{n:Int}(h: -32768<=n/\n<=32767):aq n=n:=by rw[iA];omega
theorem Y1{i:ai}(h: -32768<=i.Arg/\i.Arg<=32767)(h2:ni i.Op=false->i.Arg=0):uS i=i.Arg:=by
 unfold uS;split
 ·exact S8 h
 ·rename_i hh;exact(h2 (by simpa using hh)).symm
theorem afO{w a b:Zl}{p:ai×Nat}(hz:w=a++p::b)(hg:Vy w)(kL:p.1.Op≠38)(pre post:List Int):
  og (pre++(fe w 0 w++post)) ((pre.length:Int)+aW a)=(⟨p.1.Op,if jmp p.1.Op then il w p.1.Arg (aW a+dY p)else p.1.Arg⟩,(pre.length:Int)+aW a+dY p,0):=by
 have hp:=hg a p b hz;obtain⟨uk,S9⟩:=hp;have S9:=S9.resolve_left kL;obtain⟨h1,h2,h3⟩:=S9;have hle:∀q∈a,q.2<=2:=by
  intro q hq;obtain⟨a1,a2,ha⟩:=aqB hq;exact(hg a1 q (a2++p::b) (by rw[hz,ha];simp)).1
 have hc:fe w 0 w=fe w 0 a++(om w (aW a) p++fe w (aW a+dY p) b):=by
  conv=>lhs;arg 3;rw[hz]
  rw[DU,fe,apz]
 have hl:=Lx w 0 a hle;by_cases hj:jmp p.1.Op=true
 ·rw[if_pos hj]at h3;obtain⟨_,h4,h5,h6⟩:=h3;have DG:om w (aW a) p=fN p.1.Op (il w p.1.Arg (aW a+dY p)) p.2:=by
   unfold om;rw[if_neg kL,if_pos hj]
  have FI:dY p=1+p.2:=by unfold dY;rw[if_neg kL,if_pos hj]
  have IL:p.1.Op=24\/p.1.Op=25:=by simpa[jmp]using hj
  have hd:=S7 (o:=p.1.Op) (n:=il w p.1.Arg (aW a+dY p)) (k:=p.2) (pre++fe w 0 a) (fe w (aW a+dY p) b++post) ⟨h1,h2⟩ uk (λ_=>by rcases IL with h|h<;>rw[h]<;>rfl) ⟨h4,h5⟩ h6 (by rcases IL with h|h;exact Or.inl h;exact Or.inr (Or.inl h));rw[hc,DG];rw[aoS,hl]at hd;simp only[apb,aqT]at hd⊢;rw[hd,if_pos hj,FI];simp only[aqT,Int.natCast_one,aoI,true_and,and_true];omega
 ·rw[if_neg hj]at h3;obtain⟨h4,h5,h6⟩:=h3;have F4:=Y1 ⟨h4,h5⟩ h6;have DG:om w (aW a) p=fN p.1.Op p.1.Arg (dC p.1.Arg):=by
   unfold om;rw[if_neg kL,if_neg hj];unfold mY;rw[if_neg (by omega),F4]
  have FI:dY p=1+dC p.1.Arg:=by
   unfold dY;rw[if_neg kL,if_neg hj];unfold mY;rw[if_neg (by omega),F4];simp only[fN,aoU,yl _ _ (qc _)];omega
  have hd:=S7 (o:=p.1.Op) (n:=p.1.Arg) (k:=dC p.1.Arg) (pre++fe w 0 a) (fe w (aW a+dY p) b++post) ⟨h1,h2⟩ (qc _) (λhk=>by
   cases hh:ni p.1.Op with
   | true=>rfl
   | false=>rw[h6 hh]at hk;simp[dC]at hk) ⟨h4,h5⟩ (aoT _) (Or.inr (Or.inr rfl))
  rw[hc,DG];rw[aoS,hl]at hd;simp only[apb,aqT]at hd⊢;rw[hd,if_neg hj,FI];simp only[aqT,Int.natCast_one,aoI,true_and,and_true];omega
theorem F5:∀(z:Zl) (n:Int) (r:List ai),after (z.map Prod.fst) n=some r->∃a b,z=a++b/\b.map Prod.fst=r/\tO z n=some (aW a)
 | [],n,r,h=>by cases h
 | p::z,n,r,h=>by
   rw[ao9,after]at h;rw[tO];split at h
   ·rename_i hp;simp only[anc]at h;refine⟨[p],z,rfl,h,?_⟩;rw[if_pos hp];simp[aW,dY,hp.1]
   ·rename_i hp;obtain⟨a,b,h1,h2,h3⟩:=F5 z n r h;refine⟨p::a,b,by rw[h1];rfl,h2,?_⟩;rw[if_neg hp,h3,Y0];rfl
def dQ(m:ah)(f:aG):List Int:=(m.Stack.drop f.bO.toNat).reverse
def eQ(m:ah):MS:=⟨m.Told.World,m.Told.Out,m.Told.Fuel⟩
def eT(m:ah)(e:Int):ah:={m with Told:={m.Told with Ik:=e},gB:=true}
def uY(m:ah)(F:List aG)(St:List Int)(σ:MS):ah:={m with Frames:=F,Stack:=St,Told:={m.Told with World:=σ.W,Out:=σ.Out,Fuel:=σ.Fuel}}
def nU(m:ah)(F:List aG)(f:aG)(k:Int):Option Ev->Option ah
 | some (.ok S L σ)=>some (uY m (F++ [{f with At:=k,aM:=L}]) (m.Stack.take f.bO.toNat++S.reverse) σ)
 | some (.bG e)=>some (eT m e)
 | some (.over σ)=>some {uY m (F++ [{f with At:=k}]) m.Stack σ with Told:=⟨m.Told.Ik,σ.W,σ.Out,m.Told.Value,true,σ.Fuel⟩,gB:=true}
 | none=>none
def EJ(m:ah)(F:List aG)(f:aG)(k n:Int):List Int->Option ah
 | v::S=>some {m with Frames:=F++ [{f with At:=if aq v=0 then k+n else k}],Stack:=m.Stack.take f.bO.toNat++S.reverse}
 | []=>none
def JD(m:ah)(F:List aG)(f:aG):List Int->Option ah
 | v::_=>some (if F=[]then {m with Frames:=[],Stack:=m.Stack.take f.bO.toNat,Told:={m.Told with Value:=v},gB:=true}else {m with Frames:=F,Stack:=m.Stack.take f.bO.toNat++ [aq v]})
 | []=>none
def EK(K:fE)(s:al)(m:ah)(F:List aG)(f:aG)(k r:Int):Option ah:=
 if K.pa r<=(dQ m f).length/\fL s.Entry r then some {m with Frames:=F++ [{f with At:=k}]++ [⟨r,aA s.Entry r,((m.Stack.length-K.pa r:Nat):Int),K.lo r ((dQ m f).take (K.pa r)).reverse⟩],Stack:=m.Stack.take (m.Stack.length-K.pa r)}else none
def tj(K:fE)(s:al)(m:ah)(F:List aG)(f:aG)(x:ai×Int×Int):Option ah:=
 if x.2.2≠0 then none
 else if x.1.Op=24 then some {m with Frames:=F++ [{f with At:=x.2.1+x.1.Arg}]}
 else if x.1.Op=25 then EJ m F f x.2.1 x.1.Arg (dQ m f)
 else if x.1.Op=27 then JD m F f (dQ m f)
 else if x.1.Op=26 then(if 32<=m.Frames.length then(if 0<=K.fn x.1.Arg then some (eT m 17)else none)else EK K s m F f x.2.1 (K.fn x.1.Arg))
 else nU m F f x.2.1 (K.J x.1 (dQ m f) f.aM (eQ m))
def iM(K:fE)(s:al)(m:ah):Option ah:=
 if m.gB then some m else match m.Frames.getLast? with
  | some f=>if 0<=f.bO/\f.bO<=m.Stack.length then tj K s m m.Frames.dropLast f (og s.Code f.At)else none
  | none=>none
def iterM(K:fE)(s:al):Nat->ah->Option ah
 | 0,m=>some m
 | n+1,m=>(iM K s m).bind (iterM K s n)
theorem vw(K:fE)(s:al):∀(a b:Nat) (m:ah),iterM K s (a+b) m=(iterM K s a m).bind (iterM K s b)
 | 0,b,m=>by simp[iterM]
 | a+1,b,m=>by
   rw[show a+1+b=(a+b)+1 by omega,iterM,iterM];cases iM K s m with
   | none=>rfl
   | some x=>exact vw K s a b x
def gL(env:dy)(F:List aG)(f i:Int)(ST L S:List Int)(σ:MS):ah:=⟨F++ [⟨f,i,ST.length,L⟩],ST++S.reverse,env,⟨0,σ.W,σ.Out,0,false,σ.Fuel⟩,false⟩
def DV(env:dy)(F:List aG)(ST:List Int)(m':ah):Oc->Prop
 | .ret v σ=>m'=if F=[]then⟨[],ST,env,⟨0,σ.W,σ.Out,v,false,σ.Fuel⟩,true⟩else⟨F,ST++ [aq v],env,⟨0,σ.W,σ.Out,0,false,σ.Fuel⟩,false⟩
 | .bG e σ=>m'.gB=true/\m'.Env=env/\∃W,m'.Told=⟨e,W,σ.Out,0,false,σ.Fuel⟩
 | .over σ=>m'.gB=true/\m'.Env=env/\m'.Told=⟨0,σ.W,σ.Out,0,true,σ.Fuel⟩
def Y2(s:al)(f:Int)(z:Zl)(pre:List Int):Prop:=Vy z/\(∃post,s.Code=pre++(fe z 0 z++post))/\aA s.Entry f=pre.length
def Laid(s:al)(P:Int->List ai):Prop:=∀f,P f≠ []->fL s.Entry f/\∃z pre,z.map Prod.fst=P f/\Y2 s f z pre
theorem step_mk{K:fE}{s:al}{env:dy}{F:List aG}{f i:Int}{ST L S:List Int}{σ:MS}:iM K s (gL env F f i ST L S σ)=tj K s (gL env F f i ST L S σ) F ⟨f,i,ST.length,L⟩ (og s.Code i):=by
 unfold iM;rw[if_neg (by simp[gL])];have h1:(gL env F f i ST L S σ).Frames.getLast?=some ⟨f,i,ST.length,L⟩:=by simp[gL]
 have h2:(gL env F f i ST L S σ).Frames.dropLast=F:=by simp[gL]
 rw[h1,h2];show(if 0<=(ST.length:Int)/\(ST.length:Int)<=((ST++S.reverse).length:Nat)then _ else none)=_;rw[if_pos (by rw[aoS];omega)]
theorem IM{env:dy}{F:List aG}{f i j:Int}{ST L L' S:List Int}{σ:MS}:dQ (gL env F f i ST L S σ) ⟨f,j,ST.length,L'⟩=S:=by
 unfold dQ gL;simp
theorem take_mk{env:dy}{F:List aG}{f i:Int}{ST L S:List Int}{σ:MS}:(gL env F f i ST L S σ).Stack.take ((ST.length:Nat):Int).toNat=ST:=by
 unfold gL;simp
theorem Y3{K:fE}{s:al}{P:Int→List ai}(hl:Laid s P)(env:dy):∀(g d:Nat) (S L:List Int) (σ:MS) (o:Oc) (n:Nat) (f:Int) (z a b:Zl) (pre:List Int) (F:List aG) (ST:List Int),
  run K P g d (z.map Prod.fst) (b.map Prod.fst) S L σ=some (o,n)->Y2 s f z pre->z=a++b->d=F.length+1->
  ∃m',iterM K s n (gL env F f (pre.length+aW a) ST L S σ)=some m'/\DV env F ST m' o:=by
 intro g
 induction g with
 | zero=>intro d S L σ o n f z a b pre F ST h;simp[run]at h
 | succ g ih=>
   intro d S L σ o n f z a b pre F ST h hz zw hd;cases b with
   | nil=>simp[run]at h
   | cons p b=>
     have jB:=hz.1;obtain⟨post,E3⟩:=hz.2.1;have Vz:z=(a++ [p])++b:=by rw[zw];simp
     rw[ao9]at h;by_cases kL:p.1.Op=38
     ·rw[kh (DO kL)]at h;obtain⟨k,h2,hk⟩:=iJ h;have:=ih d S L σ o n f z (a++ [p]) b pre F ST (by rw[hk];exact h2) hz Vz hd;have e:aW (a++ [p])=aW a:=by rw[Ha];simp[aW,dY,kL]
      rw[e]at this;exact this
     have pw:=afO zw jB kL pre post;rw[<-E3]at pw;have dS:(pre.length:Int)+aW a+dY p=pre.length+aW (a++ [p]):=by
      rw[Ha];simp[aW];omega
     have E9:iM K s (gL env F f (pre.length+aW a) ST L S σ)=tj K s (gL env F f (pre.length+aW a) ST L S σ) F ⟨f,pre.length+aW a,ST.length,L⟩ (⟨p.1.Op,if jmp p.1.Op then il z p.1.Arg (aW a+dY p)else p.1.Arg⟩,(pre.length:Int)+aW a+dY p,0):=by
      rw[step_mk,pw]
     have go:∀{b' a':Zl} {S' L':List Int} {σ':MS} {k:Nat},iM K s (gL env F f (pre.length+aW a) ST L S σ)=some (gL env F f (pre.length+aW a') ST L' S' σ')→z=a'++b'→run K P g d (z.map Prod.fst) (b'.map Prod.fst) S' L' σ'=some (o,k)→n=k+1→
       ∃m',iterM K s n (gL env F f (pre.length+aW a) ST L S σ)=some m'/\DV env F ST m' o:=by
      intro b' a' S' L' σ' k h1 h2 h3 h4;obtain⟨m',h5,h6⟩:=ih d S' L' σ' o k f z a' b' pre F ST h3 hz h2 hd;exact⟨m',by rw[h4,iterM,h1];exact h5,h6⟩
     have one:∀{m'},iM K s (gL env F f (pre.length+aW a) ST L S σ)=some m'->DV env F ST m' o->n=1->∃m',iterM K s n (gL env F f (pre.length+aW a) ST L S σ)=some m'/\DV env F ST m' o:=by
      intro m' h1 h2 h3;exact⟨m',by rw[h3,iterM,h1];rfl,h2⟩
     have jump:jmp p.1.Op=true→∀S' r1 k,after (z.map Prod.fst) p.1.Arg=some r1→iM K s (gL env F f (pre.length+aW a) ST L S σ)=some (gL env F f ((pre.length:Int)+aW a+dY p+il z p.1.Arg (aW a+dY p)) ST L S' σ)→run K P g d (z.map Prod.fst) r1 S' L σ=some (o,k)→n=k+1→
       ∃m',iterM K s n (gL env F f (pre.length+aW a) ST L S σ)=some m'/\DV env F ST m' o:=by
      intro hj S' r1 k h1 h2 h3 h4;obtain⟨a',b',e1,e2,e3⟩:=F5 z p.1.Arg r1 h1;have e4:(pre.length:Int)+aW a+dY p+il z p.1.Arg (aW a+dY p)=pre.length+aW a':=by
       unfold il;rw[e3];simp only[apA];omega
      rw[e4]at h2;exact go h2 e1 (by rw[e2];exact h3) h4
     by_cases jo:p.1.Op=24
     ·rw[run,vT jo]at h;cases ha:after (z.map Prod.fst) p.1.Arg with
      | none=>rw[ha]at h;cases h
      | some r1=>
        rw[ha]at h;obtain⟨k,h2,hk⟩:=iJ h;have hj:jmp p.1.Op=true:=by simp[jmp,jo]
        refine jump hj S r1 k ha ?_ h2 hk;rw[E9,tj,if_neg (by simp),if_pos jo,if_pos hj];rfl
     by_cases nv:p.1.Op=25
     ·have hj:jmp p.1.Op=true:=by simp[jmp,nv]
      rw[run,sy nv]at h;cases S with
      | nil=>cases h
      | cons v S=>
        have bQ:iM K s (gL env F f (pre.length+aW a) ST L (v::S) σ)=EJ (gL env F f (pre.length+aW a) ST L (v::S) σ) F ⟨f,pre.length+aW a,ST.length,L⟩ ((pre.length:Int)+aW a+dY p) (il z p.1.Arg (aW a+dY p)) (v::S):=by
         rw[E9,tj,if_neg (by simp),if_neg jo,if_pos nv,IM,if_pos hj]
        rw[Nx.zero]at h;rw[EJ,take_mk]at bQ;by_cases hv:aq v=0
        ·rw[if_pos hv]at h;rw[if_pos hv]at bQ;cases ha:after (z.map Prod.fst) p.1.Arg with
         | none=>rw[ha]at h;cases h
         | some r1=>
           rw[ha]at h;obtain⟨k,h2,hk⟩:=iJ h;exact jump hj S r1 k ha bQ h2 hk
        ·rw[if_neg hv]at h;rw[if_neg hv]at bQ;obtain⟨k,h2,hk⟩:=iJ h;rw[dS]at bQ;exact go bQ Vz h2 hk
     have hj:jmp p.1.Op=false:=by simp[jmp,jo,nv]
     simp only[hj,aph,if_false]at E9;by_cases rI:p.1.Op=27
     ·rw[run,Kd rI]at h;cases S with
      | nil=>cases h
      | cons v S=>
        simp only[Nx.back,anc,aoI]at h;obtain⟨rfl,rfl⟩:=h;have bQ:iM K s (gL env F f (pre.length+aW a) ST L (v::S) σ)=JD (gL env F f (pre.length+aW a) ST L (v::S) σ) F ⟨f,pre.length+aW a,ST.length,L⟩ (v::S):=by
         rw[E9,tj,if_neg (by simp),if_neg jo,if_neg nv,if_pos rI,IM]
        rw[JD,take_mk]at bQ;refine one bQ ?_ rfl;simp only[DV];by_cases hF:F=[]
        ·simp[hF,gL]
        ·simp[hF,gL]
     by_cases pH:p.1.Op=26
     ·rw[run,DP pH]at h;have lV:(gL env F f (pre.length+aW a) ST L S σ).Frames.length=d:=by simp[gL,hd]
      have bQ:iM K s (gL env F f (pre.length+aW a) ST L S σ)=(if 32<=d then(if 0<=K.fn p.1.Arg then some (eT (gL env F f (pre.length+aW a) ST L S σ) 17)else none)else EK K s (gL env F f (pre.length+aW a) ST L S σ) F ⟨f,pre.length+aW a,ST.length,L⟩ ((pre.length:Int)+aW a+dY p) (K.fn p.1.Arg)):=by
       rw[E9,tj,if_neg (by simp),if_neg jo,if_neg nv,if_neg rI,if_pos pH,lV]
      by_cases fM:32<=d
      ·rw[if_pos fM]at h bQ;by_cases yT:0<=K.fn p.1.Arg
       ·rw[if_pos yT]at h bQ;simp only[anc,aoI]at h;obtain⟨rfl,rfl⟩:=h;exact one bQ ⟨rfl,rfl,σ.W,rfl⟩ rfl
       ·rw[if_neg yT]at h;cases h
      ·rw[if_neg fM]at h bQ;by_cases hp:K.pa (K.fn p.1.Arg)<=S.length
       ·rw[if_pos hp]at h;simp only at h;generalize hr:K.fn p.1.Arg=r at *;generalize hk:K.pa r=k at *;cases hc:run K P g (d+1) (P r) (P r) [] (K.lo r (S.take k).reverse) σ with
        | none=>rw[hc]at h;cases h
        | some y=>
          obtain⟨oc,kc⟩:=y;have bR:P r≠ []:=by
           intro e;obtain⟨g',YD⟩:=nQ hc;rw[e,YD,run]at hc;cases hc
          obtain⟨cq,zr,afP,hzr,Yc⟩:=hl r bR;have Ke:iM K s (gL env F f (pre.length+aW a) ST L S σ)=some (gL env (F++ [⟨f,(pre.length:Int)+aW a+dY p,ST.length,L⟩]) r (aA s.Entry r) (ST++(S.drop k).reverse) (K.lo r (S.take k).reverse) [] σ):=by
           rw[bQ,EK,IM,hk,if_pos ⟨hp,cq⟩];have e1:(gL env F f (pre.length+aW a) ST L S σ).Stack.length-k=(ST++(S.drop k).reverse).length:=by
            simp[gL];omega
           have e2:(gL env F f (pre.length+aW a) ST L S σ).Stack.take (ST++(S.drop k).reverse).length=ST++(S.drop k).reverse:=by
            have:S.reverse=(S.drop k).reverse++(S.take k).reverse:=by rw[<-List.reverse_append,ao5]
            simp only[gL,this,<-apb];rw[List.take_left]
           rw[e1,e2];simp[gL]
          have Gt:=Yc.2.2;rw[<-hzr]at hc;obtain⟨m1,qe,xY⟩:=ih (d+1) [] (K.lo r (S.take k).reverse) σ oc kc r zr [] zr afP (F++ [⟨f,(pre.length:Int)+aW a+dY p,ST.length,L⟩]) (ST++(S.drop k).reverse) hc Yc rfl (by simp[hd]);rw[hzr]at hc;rw[hc]at h;rw[show(afP.length:Int)+aW []=aA s.Entry r by rw[Gt];simp[aW]]at qe;cases oc with
          | ret v σ'=>
            simp only at h;obtain⟨⟨o2,k2⟩,sI,FP⟩:=aoJ.1 h;simp only[aoI]at FP;obtain⟨rfl,rfl⟩:=FP;simp only[DV]at xY;rw[if_neg (by simp)]at xY;have e3:m1=gL env F f (pre.length+aW (a++ [p])) ST L (aq v::S.drop k) σ':=by
             rw[xY,<-dS];simp[gL]
            obtain⟨m',h5,h6⟩:=ih d (aq v::S.drop k) L σ' o2 k2 f z (a++ [p]) b pre F ST sI hz Vz hd;refine⟨m',?_,h6⟩;rw[show k2+kc+1=(kc+k2)+1 by omega,iterM,Ke];show iterM K s (kc+k2) _=_;rw[vw,qe,e3];exact h5
          | bG e σ'=>
            simp only[anc,aoI]at h;obtain⟨rfl,rfl⟩:=h;exact⟨m1,by rw[iterM,Ke];exact qe,xY⟩
          | over σ'=>
            simp only[anc,aoI]at h;obtain⟨rfl,rfl⟩:=h;exact⟨m1,by rw[iterM,Ke];exact qe,xY⟩
       ·rw[if_neg hp]at h;cases h
     have hf:flat p.1.Op:=⟨kL,jo,nv,rI,pH⟩
     rw[run,AF hf]at h;have bQ:iM K s (gL env F f (pre.length+aW a) ST L S σ)=nU (gL env F f (pre.length+aW a) ST L S σ) F ⟨f,pre.length+aW a,ST.length,L⟩ ((pre.length:Int)+aW a+dY p) (K.J p.1 S L σ):=by
      rw[E9,tj,if_neg (by simp),if_neg jo,if_neg nv,if_neg rI,if_neg pH,IM];rfl
     cases hJ:K.J p.1 S L σ with
     | none=>rw[hJ]at h;cases h
     | some ev=>
       rw[hJ]at h bQ;cases ev with
       | ok S' L' σ'=>
         obtain⟨k,h2,hk⟩:=iJ h;refine go (a':=a++ [p]) ?_ Vz h2 hk;rw[bQ,nU,take_mk,<-dS];rfl
       | bG e=>
         simp only[Nx.ev,anc,aoI]at h;obtain⟨rfl,rfl⟩:=h;exact one bQ ⟨rfl,rfl,σ.W,rfl⟩ rfl
       | over σ'=>
         simp only[Nx.ev,anc,aoI]at h;obtain⟨rfl,rfl⟩:=h;exact one bQ ⟨rfl,rfl,rfl⟩ rfl
def ki(n:Int):Bool:=decide (-32768<=n)&&decide (n<=32767)
def tP(l a:List ai)(x:ai):Int:=
 if jmp x.Op=true/\(bP l).contains x.Arg=false then 11
 else if x.Op=38/\(bP a).contains x.Arg=true then 10
 else if x.Op=38\/jmp x.Op=true then 0
 else if x.Op<1\/38<x.Op\/(ni x.Op=false/\x.Arg≠0)\/ki x.Arg=false then 16
 else 0
def tQ(l:List ai):List ai->List ai->Int
 | _,[]=>0
 | a,x::r=>if tP l a x=0 then tQ l (a++ [x]) r else tP l a x
def DW(l:List ai):Int:=tQ l [] l
def oH(n:Int):Nat:=if ki n then dC n else 3
def mP(z:Zl)(i:Nat):Option Zl:=
 match z[i]? with
 | some p=>if jmp p.1.Op=true/\p.2<oH (il z p.1.Arg (aW (z.take (i+1))))then some (z.set i (p.1,oH (il z p.1.Arg (aW (z.take (i+1))))))else none
 | none=>none
def dP:Nat->Nat->Zl->Bool->Zl×Bool
 | 0,_,z,b=>(z,b)
 | n+1,i,z,b=>match mP z i with
   | some z'=>dP n (i+1) z' true
   | none=>dP n (i+1) z b
def ym:Nat->Zl->Option Zl
 | 0,_=>none
 | g+1,z=>if(dP z.length 0 z false).2=true then ym g (dP z.length 0 z false).1 else some (dP z.length 0 z false).1
def kG(l:List ai):Zl:=l.map λi=>(i,0)
def pv(l:List ai):List Int×Int:=
 if DW l≠0 then([],DW l)
 else match ym (3 *l.length+1) (kG l)with
  | some z=>if 65536<aW z then([],3)else if z.any (λp=>jmp p.1.Op&&decide (p.2=3))=true then([],3)else(fe z 0 z,0)
  | none=>([],3)
theorem Y4{z z':Zl}{i:Nat}(h:mP z i=some z'):z'.map Prod.fst=z.map Prod.fst:=by
 unfold mP at h;split at h
 ·rename_i p hp;split at h
  ·simp only[anc]at h;subst h;rw[List.map_set];refine List.ext_getElem? λk=>?_
   rw[aq5];split
   ·rename_i hk;subst hk;have hi:=(aoL.1 hp).1;simp only[ao8,hi,if_true,aoN,hp,apc]
   ·rfl
  ·cases h
 ·cases h
def zY(p:ai×Nat):Prop:=p.2<=3/\(jmp p.1.Op=false->p.2<=2)
def DX(z:Zl):Nat:=(z.map Prod.snd).sum
theorem abE(n:Int):oH n<=3:=by unfold oH;split;have:=qc n;omega;omega
theorem Ta:∀(l:List Nat) (i:Nat) (x:Nat) (h:i<l.length),(l.set i x).sum+l[i]=l.sum+x
 | y::l,0,x,_=>by simp;omega
 | y::l,i+1,x,h=>by
   have:=Ta l i x (by simpa using h);simp only[List.set_cons_succ,aqO,List.getElem_cons_succ];omega
theorem abF{z z':Zl}{i:Nat}(h:mP z i=some z')(h3:∀p∈z,zY p):DX z<DX z'/\∀p∈z',zY p:=by
 unfold mP at h;split at h
 ·rename_i p hp;obtain⟨hi,he⟩:=aoL.1 hp;split at h
  ·rename_i hc;simp only[anc]at h;subst h;refine⟨?_,?_⟩
   ·unfold DX;rw[List.map_set];have:=Ta (z.map Prod.snd) i (oH (il z p.1.Arg (aW (z.take (i+1))))) (by simpa using hi);simp only[List.getElem_map,he]at this;have h7:=hc.2;simp only at this⊢;omega
   ·intro q hq;rcases aqU hq with hq|hq
    ·exact h3 q hq
    ·rw[hq];exact⟨abE _,λhh=>by rw[hc.1]at hh;cases hh⟩
  ·cases h
 ·cases h
theorem yq:∀(n i:Nat) (z:Zl) (b:Bool),(∀p∈z,zY p)→(dP n i z b).1.map Prod.fst=z.map Prod.fst∧(∀p∈(dP n i z b).1,zY p)∧DX z≤DX (dP n i z b).1∧
  ((dP n i z b).2=true->b=true\/DX z<DX (dP n i z b).1)/\((dP n i z b).2=false->b=false/\(dP n i z b).1=z/\∀j,i<=j->j<i+n->mP z j=none)
 | 0,i,z,b,h3=>by
   refine⟨rfl,h3,aoT _,λh=>Or.inl h,λh=>⟨h,rfl,λj h1 h2=>by omega⟩⟩
 | n+1,i,z,b,h3=>by
   rw[dP];cases hg:mP z i with
   | none=>
     obtain⟨a1,a2,a3,a4,a5⟩:=yq n (i+1) z b h3;refine⟨a1,a2,a3,a4,λh=>?_⟩;obtain⟨b1,b2,b3⟩:=a5 h;refine⟨b1,b2,λj h1 h2=>?_⟩;by_cases e:j=i
     ·rw[e];exact hg
     ·exact b3 j (by omega) (by omega)
   | some z'=>
     obtain⟨s1,s2⟩:=abF hg h3;obtain⟨a1,a2,a3,a4,a5⟩:=yq n (i+1) z' true s2;refine⟨a1.trans (Y4 hg),a2,by simp only;omega,λ_=>Or.inr (by simp only;omega),λh=>?_⟩;have:=(a5 h).1;cases this
theorem Y5:∀(z:Zl),(∀p∈z,zY p)->DX z<=3 *z.length
 | [],_=>by simp[DX]
 | p::z,h=>by
   have h1:=Y5 z (λq hq=>h q (by simp[hq]));have h2:=(h p (by simp)).1;simp only[DX,ao9,aqO,aoU]at h1⊢;omega
theorem zx:∀(g:Nat) (z:Zl),(∀p∈z,zY p)->3 *z.length<g+DX z->∃z',ym g z=some z'/\z'.map Prod.fst=z.map Prod.fst/\(∀p∈z',zY p)/\∀j,mP z' j=none
 | 0,z,h3,hg=>by
   have:=Y5 z h3;omega
 | g+1,z,h3,hg=>by
   obtain⟨a1,a2,a3,a4,a5⟩:=yq z.length 0 z false h3;have hl:(dP z.length 0 z false).1.length=z.length:=by
    have:=congrArg List.length a1;simpa using this
   rw[ym];by_cases hb:(dP z.length 0 z false).2=true
   ·rw[if_pos hb];have h4:=(a4 hb).resolve_left (by simp);obtain⟨z',b1,b2,b3,b4⟩:=zx g (dP z.length 0 z false).1 a2 (by rw[hl];omega);exact⟨z',b1,b2.trans a1,b3,b4⟩
   ·rw[if_neg hb];obtain⟨_,b2,b3⟩:=a5 (by simpa using hb);refine⟨_,rfl,a1,a2,λj=>?_⟩;rw[b2];by_cases hj:j<z.length
    ·exact b3 j (by omega) (by omega)
    ·unfold mP;rw[apC (by omega)]
theorem DY{l:List ai}:∀(a r:List ai),tQ l a r=0->∀b x c,r=b++x::c->tP l (a++b) x=0
 | a,[],_,b,x,c,h=>by simp at h
 | a,y::r,h,b,x,c,hr=>by
   rw[tQ]at h;split at h
   ·rename_i hy;cases b with
    | nil=>
      simp only[apj,List.cons.injEq]at hr;rw[<-hr.1,apk];exact hy
    | cons z b=>
      simp only[aoX,List.cons.injEq]at hr;have:=DY (a++ [y]) r h b x c hr.2;rw[apb]at this;rw[hr.1]at this;exact this
   ·rename_i hy;exact(hy h).elim
theorem wN:∀(z:Zl) (n:Int),n∈bP (z.map Prod.fst)->(tO z n).isSome
 | [],n,h=>by simp[bP]at h
 | p::z,n,h=>by
   rw[tO];split
   ·rfl
   ·rename_i hp;rw[Option.isSome_map];refine wN z n ?_;rw[qt]at h⊢;obtain⟨i,h1,h2,h3⟩:=h;rcases ao0.1 h1 with rfl|h1
    ·exact(hp ⟨h2,h3⟩).elim
    ·exact⟨i,h1,h2,h3⟩
theorem abG{z a b:Zl}{p:ai×Nat}(h:z=a++p::b):z.take (a.length+1)=a++ [p]:=by
 rw[h,List.take_append,List.take_of_length_le (by omega),show a.length+1-a.length=1 by omega];rfl
theorem ND{l:List ai}{c:List Int}(h:pv l=(c,0)):∃z:Zl,z.map Prod.fst=l/\Vy z/\c=fe z 0 z/\aW z<=65536:=by
 unfold pv at h;by_cases hw:DW l=0
 ·rw[if_neg (by simpa using hw)]at h;obtain⟨z,hz,hf,h3,hg⟩:=zx (3 *l.length+1) (kG l) (by intro p hp;obtain⟨i,_,rfl⟩:=aoQ.1 hp;exact⟨by simp,λ_=>by simp⟩) (by simp[kG];omega);have lV:z.map Prod.fst=l:=by rw[hf];simp[kG,aq7]
  rw[hz]at h;simp only at h;split at h
  ·simp at h
  ·rename_i hlen;split at h
   ·simp at h
   ·rename_i yj;simp only[aoI,and_true]at h;refine⟨z,lV,?_,h.symm,by omega⟩;intro a p b zw;have Ly:=DY [] l hw (a.map Prod.fst) p.1 (b.map Prod.fst) (by rw[<-lV,zw];simp);rw[apj]at Ly;have Tb:=hg a.length;have hap:z[a.length]?=some p:=by rw[zw];simp
    unfold mP at Tb;rw[hap]at Tb;simp only[abG zw,Ha]at Tb;have sW:aW [p]=dY p:=by simp[aW]
    rw[sW]at Tb;unfold tP at Ly;by_cases hj:jmp p.1.Op=true
    ·have od:(bP l).contains p.1.Arg=true:=by
      cases hc:(bP l).contains p.1.Arg with
      | true=>rfl
      | false=>rw[if_pos ⟨hj,hc⟩]at Ly;cases Ly
     have aD:p.1.Op=24\/p.1.Op=25:=by simpa[jmp]using hj
     have uk:p.2<=2:=by
      have:=(h3 p (by rw[zw];simp)).1;by_cases e:p.2=3
      ·exact(yj (aqg.2 ⟨p,by rw[zw];simp,by simp[hj,e]⟩)).elim
      ·omega
     have Fa:oH (il z p.1.Arg (aW a+dY p))<=p.2:=by
      by_cases hx:p.2<oH (il z p.1.Arg (aW a+dY p))
      ·rw[if_pos ⟨hj,hx⟩]at Tb;cases Tb
      ·omega
     refine⟨uk,Or.inr ⟨by omega,by omega,?_⟩⟩;rw[if_pos hj];have lg:ki (il z p.1.Arg (aW a+dY p))=true:=by
      cases hc:ki (il z p.1.Arg (aW a+dY p))with
      | true=>rfl
      | false=>unfold oH at Fa;rw[hc]at Fa;simp at Fa;omega
     unfold oH at Fa;rw[lg]at Fa;simp only[ki,aoM,decide_eq_true_eq]at lg;exact⟨wN z _ (by rw[lV];simpa using od),lg.1,lg.2,Fa⟩
    ·rw[if_neg (λh=>hj h.1)]at Ly;have sI:p.2<=2:=(h3 p (by rw[zw];simp)).2 (by simpa using hj);refine⟨sI,?_⟩;by_cases kL:p.1.Op=38
     ·exact Or.inl kL
     ·rw[if_neg (λh=>kL h.1),if_neg (by rintro(h|h);exact kL h;exact hj h)]at Ly;refine Or.inr ?_;split at Ly
      ·cases Ly
      ·rename_i hn;refine⟨by omega,by omega,?_⟩;rw[if_neg hj];have lg:ki p.1.Arg=true:=by
        cases hc:ki p.1.Arg with
        | true=>rfl
        | false=>exact(hn (Or.inr (Or.inr (Or.inr hc)))).elim
       simp only[ki,aoM,decide_eq_true_eq]at lg;refine⟨lg.1,lg.2,λhh=>?_⟩;by_cases e:p.1.Arg=0
       ·exact e
       ·exact(hn (Or.inr (Or.inr (Or.inl ⟨hh,e⟩)))).elim
 ·rw[if_pos hw]at h;simp only[aoI]at h;exact(hw h.2).elim
@[simp] theorem ay.Tc(a b c:Int)(d:ByteArray)(l:List ay):(ay.mk a b c d l).aF=l:=rfl
@[simp] theorem ay.Td(a b c:Int)(d:ByteArray)(l:List ay):(ay.mk a b c d l).Kind=a:=rfl
@[simp] theorem ay.al7(a b c:Int)(d:ByteArray)(l:List ay):(ay.mk a b c d l).Op=b:=rfl
@[simp] theorem ay.afQ(a b c:Int)(d:ByteArray)(l:List ay):(ay.mk a b c d l).aL=c:=rfl
@[simp] theorem ay.aea(a b c:Int)(d:ByteArray)(l:List ay):(ay.mk a b c d l).Name=d:=rfl
theorem ay.qu{e x:ay}(h:x∈e.aF):SizeOf.sizeOf x<SizeOf.sizeOf e:=by
 cases e with
 | mk a b c d l=>
   have:=apo (show x∈l from h);simp only[ay.mk.sizeOf_spec];omega
mutual
def ajv:ay->Int->Int
 | .mk _ _ _ _ l,m=>ac2 l (m-1)
def ac2:List ay->Int->Int
 | [],m=>m
 | x::l,m=>if m<0 then m else ac2 l (ajv x m)
end
mutual
def tT:ay->Int->Int
 | .mk _ _ _ _ l,m=>(if 1<m then fB l (m-1) 0 else 0)+1
def fB:List ay->Int->Int->Int
 | [],_,n=>n
 | x::l,m,n=>fB l m (if n<tT x m then tT x m else n)
end
theorem Pg(e:ay)(m:Int):tT e m=(if 1<m then fB e.aF (m-1) 0 else 0)+1:=by cases e;rw[tT];rfl
theorem F6(l:List ay)(x:ay)(m n:Int):fB (l++ [x]) m n=if fB l m n<tT x m then tT x m else fB l m n:=by
 induction l generalizing n with
 | nil=>simp only[apj,fB];rfl
 | cons y l ih=>simp only[aoX,fB];exact ih _
theorem abH(e:ay)(m:Int)(hm:1<=m):1<=tT e m/\tT e m<=m:=by
 obtain⟨n,hn⟩:∃n,SizeOf.sizeOf e<n:=⟨_,ao2 _⟩
 induction n generalizing e m with
 | zero=>omega
 | succ n ih=>
   rw[Pg];split
   ·have:∀(l:List ay) (k:Int),(∀x∈l,x∈e.aF)->0<=k->k<=m-1->0<=fB l (m-1) k/\fB l (m-1) k<=m-1:=by
     intro l
     induction l with
     | nil=>intro k _ h1 h2;rw[fB];omega
     | cons x l SA=>
       intro k hx h1 h2;rw[fB];have:=ih x (m-1) (by omega) (by have:=ay.qu (hx x (by simp));omega);apply SA _ (λy hy=>hx y (by simp[hy]))
       ·split<;>omega
       ·split<;>omega
    have:=this e.aF 0 (λ_ h=>h) (by omega) (by omega);omega
   ·omega
theorem Lz(l:List ay)(m k:Int)(hm:1<=m)(h1:0<=k)(h2:k<=m):0<=fB l m k/\fB l m k<=m:=by
 induction l generalizing k with
 | nil=>rw[fB];omega
 | cons x l ih=>
   rw[fB];have:=abH x m hm;apply ih
   ·split<;>omega
   ·split<;>omega
theorem aeb(e:ay)(he:e.wf)(m:Int)(hm:1<=m/\m<=1000000000000):Pure prog 229 [.agg (e.enc.map .d),iD m] (iD (tT e m)):=by
 obtain⟨n,hn⟩:∃n,SizeOf.sizeOf e<n:=⟨_,ao2 _⟩
 induction n generalizing e m with
 | zero=>omega
 | succ n ih=>
   have hw:=(ay.qj e).1 he;have hlen:e.aF.length<=2199023255488:=by omega
   have jT:∀(i:Nat) (h:i<e.aF.length) m,1<=m/\m<=1000000000000->Pure prog 229 [.agg ((e.aF[i]).enc.map .d),iD m] (iD (tT (e.aF[i]) m)):=λi h m hm=>
    ih _ (hw.2.2.2.2.2 _ (aoV h)) m hm (by have:=ay.qu (aoV h);omega)
   rw[Pg];refine rn func229 ?_;simp[f229];generalize e.aF=l at *;intro bs;refine⟨λh1=>?_,λh1=>?_⟩
   ·refine av.cI [1,5,12,13,14] l.length (λi=> [(5,iD (fB (l.take i) (m-1) 0)),(14,iD i)]) (λ_=> []) (λ_=>True) (by rfl) (by simp[fB]) ?_;intro i hi _;rcases aoR hi with aw|rfl
    ·have bm:l[i]?=some l[i]:=akC aw;have xL:List.take (i+1) l=List.take i l++ [l[i]]:=by rw[api,bm];rfl
     have hS:=jT i aw;generalize hE:l[i]=x at *;have a1:aN .i64 (m-1):=iW;have a2:aN .i64 ((i:Int)+1):=iW;have dH:=F6 (l.take i) x (m-1) 0;rw[<-xL]at dH;generalize hM:fB (l.take i) (m-1) 0=k at *;simp[aw,bm,hE];intro bL;refine⟨a1,?_⟩;refine au.bB rfl (hS (m-1) ⟨by omega,by omega⟩) (by simp) rfl (by simp) rfl ?_;simp[a2,aw];refine⟨λh=>?_,λh=>?_⟩
     ·rw[dH,if_pos h]
     ·rw[dH,if_neg (by omega)]
    ·have:=Lz l (m-1) 0 (by omega) (by omega) (by omega);simp[h1];rw[aS];omega
   ·rw[if_neg (by omega)];exact⟨iW,rfl⟩
def fF(e:ay)(n:Int)(op num named:Bool):Bool:=decide ((e.aF.length:Int)=n)&&(op||decide (e.Op=0))&&(num||decide (e.aL=0))&&(named||e.Name.toList.isEmpty)
theorem aec(e:ay)(n:Int)(op num named:Bool):Pure prog 232 [.agg (e.enc.map .d),iD n,oD op,oD num,oD named] (oD (fF e n op num named)):=by
 refine rn func232 ?_;simp[f232];refine⟨?_,?_,?_,rfl⟩<;>simp+contextual
def eF(n lo hi:Int):Bool:=decide (lo<=n)&&decide (n<=hi)
theorem qw(n lo hi:Int):Pure prog 231 [iD n,iD lo,iD hi] (oD (eF n lo hi)):=by
 refine rn func231 ?_;simp[f231];rfl
def isM(n:Int):Bool:=decide (-32768<=n)&&decide (n<=32767)
theorem afR(n:Int):Pure prog 56 [iD n] (oD (isM n)):=by
 refine rn func56 ?_;simp[f56];rfl
def mu(t:ar)(f:Int):Int:=if eF f 0 (t.cY.length-1)&&eF (t.cY[f.toNat]?.getD 0) 0 (t.Params.length-1)then t.Params[(t.cY[f.toNat]?.getD 0).toNat]?.getD 0 else -1
theorem Y6(t:ar)(ht:t.wf)(f:Int):Pure prog 233 [.agg (t.enc.map .d),iD f] (iD (mu t f)):=by
 refine rn func233 ?_;simp[f233];intro bs;refine av.bT [oD (eF f 0 (t.cY.length-1)),oD (eF (t.cY[f.toNat]?.getD 0) 0 (t.Params.length-1))] aT (by kernel_rfl) (by rfl) ?_;have hA:=λa b c L=>(qw a b c).ok L
 have sW:=ar.GW ht;have lW:=ar.zf ht;have a1:aN .i64 ((t.cY.length:Int)-1):=iW;have a2:aN .i64 ((t.Params.length:Int)-1):=iW;have hk:eF f 0 (t.cY.length-1)=true->0<=f/\f.toNat<t.cY.length:=by simp[eF];omega
 have rC:eF (t.cY[f.toNat]?.getD 0) 0 (t.Params.length-1)=true->0<=t.cY[f.toNat]?.getD 0/\(t.cY[f.toNat]?.getD 0).toNat<t.Params.length:=by simp[eF];omega
 unfold mu;simp[hA,a1,a2];refine⟨λh=>⟨hk h,h⟩,λh h1 h2=>?_,λh1 h2=>?_⟩
 ·simp[h1,h2]at h
 ·refine av.bT [] aT (by kernel_rfl) (by rfl) ?_;simp[h1,h2];exact⟨hk h1,rC h2⟩
def im(t:ar)(e:ay)(locals:Int)(said:Bool):Bool:=
 if e.Kind=1 then fF e 0 false true false&&isM e.aL
 else if e.Kind=14 then fF e 0 false true false&&eF e.aL 0 (t.aQ.length-1)
 else if e.Kind=15 then fF e 0 false true false&&decide (0<=e.aL)&&decide (e.aL<locals)
 else if e.Kind=19 then said&&fF e 0 false true false&&eF e.aL 0 (t.gy.length-1)
 else if e.Kind=4\/e.Kind=5\/e.Kind=11 then fF e 1 false false false
 else if e.Kind=13 then said&&fF e 1 false false false
 else if e.Kind=6 then fF e 2 true false false&&eF e.Op 1 14
 else if e.Kind=16 then fF e 1 false true false&&decide (0<=e.aL)&&decide (e.aL<t.Flags)
 else if e.Kind=17 then fF e 1 false true false&&eF e.aL 0 (t.aJ.length-1)
 else if e.Kind=18 then fF e e.aF.length false true false&&decide (mu t e.aL=e.aF.length)
 else if e.Kind=10 then fF e 1 true false false&&eF e.Op 1 3
 else if e.Kind=12 then fF e 0 true false false&&eF e.Op 1 6
 else false
mutual
def cT(t:ar)(locals:Int):ay->Bool->Bool
 | .mk k o n s l,said=>im t (.mk k o n s l) locals said&&pg t locals l
def pg(t:ar)(locals:Int):List ay->Bool
 | []=>true
 | x::l=>cT t locals x false&&pg t locals l
end
theorem mQ(t:ar)(locals:Int)(e:ay)(said:Bool):cT t locals e said=(im t e locals said&&pg t locals e.aF):=by cases e;rw[cT];rfl
theorem ph(t:ar)(locals:Int)(l:List ay):pg t locals l=l.all λx=>cT t locals x false:=by
 induction l with
 | nil=>rw[pg];rfl
 | cons x l ih=>rw[pg,ih];rfl
set_option maxRecDepth 20000 in
set_option maxHeartbeats 4000000 in
theorem zy(t:ar)(ht:t.wf)(locals:Int)(e:ay)(he:e.wf)(said:Bool):Pure prog 182 [.agg (t.enc.map .d),.agg (e.enc.map .d),iD locals,oD said] (oD (cT t locals e said)):=by
 obtain⟨n,hn⟩:∃n,SizeOf.sizeOf e<n:=⟨_,ao2 _⟩
 induction n generalizing e said with
 | zero=>omega
 | succ n ih=>
   have hw:=(ay.qj e).1 he;have hlen:e.aF.length<=2199023255488:=by omega
   have jT:∀(i:Nat) (h:i<e.aF.length) said,Pure prog 182 [.agg (t.enc.map .d),.agg ((e.aF[i]).enc.map .d),iD locals,oD said] (oD (cT t locals (e.aF[i]) said)):=λi h said=>
    ih _ (hw.2.2.2.2.2 _ (aoV h)) said (by have:=ay.qu (aoV h);omega)
   rw[mQ];have hA:=λa b c L=>(qw a b c).ok L
   have hI:=λa L=>(afR a).ok L
   have hB:=λn a b c L=>(aec e n a b c).ok L
   have hP:=λf L=>(Y6 t ht f).ok L
   have b1:=ar.ow ht;have b2:=ar.Ot ht;have b3:=ar.ou ht;have a1:aN .i64 ((t.aQ.length:Int)-1):=iW;have a2:aN .i64 ((t.gy.length:Int)-1):=iW;have a3:aN .i64 ((t.aJ.length:Int)-1):=iW;have sG:e.Kind=1\/e.Kind=14\/e.Kind=15\/e.Kind=19\/e.Kind=4\/e.Kind=5\/e.Kind=11\/e.Kind=13\/e.Kind=6\/e.Kind=16\/e.Kind=17\/e.Kind=18\/e.Kind=10\/e.Kind=12\/(e.Kind≠1/\e.Kind≠14/\e.Kind≠15/\e.Kind≠19/\e.Kind≠4/\e.Kind≠5/\e.Kind≠11/\e.Kind≠13/\e.Kind≠6/\e.Kind≠16/\e.Kind≠17/\e.Kind≠18/\e.Kind≠10/\e.Kind≠12):=by omega
   rcases sG with hk|hk|hk|hk|hk|hk|hk|hk|hk|hk|hk|hk|hk|hk|hk
   all_goals
    have hK:im t e locals said=im t e locals said:=rfl
    conv at hK=>rhs;unfold im
    simp[hk]at hK;refine rn func182 ?_;simp[f182,hk];intro bs
   refine bn _ _ [oD (fF e 0 false true false),oD (isM e.aL)] (by rfl) ?_
   rotate_left
   refine bn _ _ [oD (fF e 0 false true false),oD (eF e.aL 0 (t.aQ.length-1))] (by rfl) ?_
   rotate_left
   refine bn _ _ [oD (fF e 0 false true false)] (by rfl) ?_
   rotate_left
   refine bn _ _ [oD (fF e 0 false true false),oD (eF e.aL 0 (t.gy.length-1))] (by rfl) ?_
   rotate_left
   refine bn _ _ [oD (fF e 1 false false false)] (by rfl) ?_
   rotate_left
   refine bn _ _ [oD (fF e 1 false false false)] (by rfl) ?_
   rotate_left
   refine bn _ _ [oD (fF e 1 false false false)] (by rfl) ?_
   rotate_left
   refine bn _ _ [oD (fF e 1 false false false)] (by rfl) ?_
   rotate_left
   refine bn _ _ [oD (fF e 2 true false false),oD (eF e.Op 1 14)] (by rfl) ?_
   rotate_left
   refine bn _ _ [oD (fF e 1 false true false)] (by rfl) ?_
   rotate_left
   refine bn _ _ [oD (fF e 1 false true false),oD (eF e.aL 0 (t.aJ.length-1))] (by rfl) ?_
   rotate_left
   refine av.bT [oD (fF e e.aF.length false true false),iD (mu t e.aL)] aT (by kernel_rfl) (by rfl) ?_
   rotate_left
   refine bn _ _ [oD (fF e 1 true false false),oD (eF e.Op 1 3)] (by rfl) ?_
   rotate_left
   refine bn _ _ [oD (fF e 0 true false false),oD (eF e.Op 1 6)] (by rfl) ?_
   rotate_left
   rotate_left
   all_goals
    try simp[hA,hB,hI,hP,a1,a2,a3]
    refine av.cI [2,4,9,154,155,156] e.aF.length (λi=> [(9,oD (im t e locals said&&pg t locals (e.aF.take i))),(156,iD i)]) (λ_=> []) (λ_=>True) (by rfl) (by simp[hK,pg]<;>rfl) ?_;clear hK hA hI hB hP a1 a2 a3 b1 b2 b3;generalize im t e locals said=b;intro i hi _;rcases aoR hi with aw|rfl
    ·have bm:e.aF[i]?=some e.aF[i]:=akC aw;have xL:pg t locals (e.aF.take (i+1))=(pg t locals (e.aF.take i)&&cT t locals e.aF[i] false):=by
      rw[api,bm,ph,ph,List.all_append];simp
     have hS:=λL=>(jT i aw false).ok L
     have a2:aN .i64 ((i:Int)+1):=iW;generalize hE:e.aF[i]=x at *;simp[aw,bm,hE];intro bL;refine bn _ _ [oD (cT t locals x false)] (by rfl) ?_;simp[hS,a2,aw,hE,xL,aq2]<;>(intro h1 h2;first|exact⟨h1,h2⟩|exact⟨⟨h1,h2⟩,hS _⟩)
    ·simp
theorem cP(a b:Int):Pure prog 193 [iD a,iD b] (.agg ((ai.mk a b).enc.map .d)):=by
 refine rn func193 ?_;simp[f193];rfl
theorem lP(b:Int):Pure prog 294 [iD b] (.agg ((ai.mk 38 b).enc.map .d)):=by
 refine rn func294 ?_;simp[f294];intro bs;refine au.bB rfl (cP 38 b) (by simp) rfl (by simp) rfl ?_;simp
theorem xe(b:Int):Pure prog 295 [iD b] (.agg ((ai.mk 24 b).enc.map .d)):=by
 refine rn func295 ?_;simp[f295];intro bs;refine au.bB rfl (cP 24 b) (by simp) rfl (by simp) rfl ?_;simp
theorem uT(b:Int):Pure prog 293 [iD b] (.agg ((ai.mk 25 b).enc.map .d)):=by
 refine rn func293 ?_;simp[f293];intro bs;refine au.bB rfl (cP 25 b) (by simp) rfl (by simp) rfl ?_;simp
def dD(e:ay):ai:=
 if e.Kind=1 then⟨1,e.aL⟩else if e.Kind=14 then⟨3,e.aL⟩else if e.Kind=15 then⟨5,e.aL⟩else if e.Kind=12 then⟨7,e.Op⟩
 else if e.Kind=4 then⟨9,0⟩else if e.Kind=5 then⟨10,0⟩else if e.Kind=11 then⟨20,0⟩else if e.Kind=6 then⟨8,e.Op⟩
 else if e.Kind=16 then⟨12,e.aL⟩else if e.Kind=17 then⟨13,e.aL⟩else if e.Kind=18 then⟨26,e.aL⟩else⟨19,e.Op⟩
set_option maxRecDepth 20000 in
set_option maxHeartbeats 4000000 in
theorem Y7(e:ay):Pure prog 307 [.agg (e.enc.map .d)] (.agg ((dD e).enc.map .d)):=by
 have hc:=λa b L=>(cP a b).ok L
 by_cases km:e.Kind=1
 ·have hO:dD e=⟨1,(e.aL)⟩:=by simp[dD,km]
  rw[hO];refine rn func307 ?_;simp[f307,km];intro bs;refine au.bB rfl (cP 1 (e.aL)) (by simp) rfl (by simp) rfl ?_;simp
 by_cases VA:e.Kind=14
 ·have hO:dD e=⟨3,(e.aL)⟩:=by simp[dD,VA]
  rw[hO];refine rn func307 ?_;simp[f307,VA];intro bs;refine au.bB rfl (cP 3 (e.aL)) (by simp) rfl (by simp) rfl ?_;simp
 by_cases VB:e.Kind=15
 ·have hO:dD e=⟨5,(e.aL)⟩:=by simp[dD,VB]
  rw[hO];refine rn func307 ?_;simp[f307,VB];intro bs;refine au.bB rfl (cP 5 (e.aL)) (by simp) rfl (by simp) rfl ?_;simp
 by_cases Hb:e.Kind=12
 ·have hO:dD e=⟨7,(e.Op)⟩:=by simp[dD,Hb]
  rw[hO];refine rn func307 ?_;simp[f307,Hb];intro bs;refine au.bB rfl (cP 7 (e.Op)) (by simp) rfl (by simp) rfl ?_;simp
 by_cases Ph:e.Kind=4
 ·have hO:dD e=⟨9,(0)⟩:=by simp[dD,Ph]
  rw[hO];refine rn func307 ?_;simp[f307,Ph];intro bs;refine au.bB rfl (cP 9 (0)) (by simp) rfl (by simp) rfl ?_;simp
 by_cases hk5:e.Kind=5
 ·have hO:dD e=⟨10,(0)⟩:=by simp[dD,hk5]
  rw[hO];refine rn func307 ?_;simp[f307,hk5];intro bs;refine au.bB rfl (cP 10 (0)) (by simp) rfl (by simp) rfl ?_;simp
 by_cases VC:e.Kind=11
 ·have hO:dD e=⟨20,(0)⟩:=by simp[dD,VC]
  rw[hO];refine rn func307 ?_;simp[f307,VC];intro bs;refine au.bB rfl (cP 20 (0)) (by simp) rfl (by simp) rfl ?_;simp
 by_cases hk6:e.Kind=6
 ·have hO:dD e=⟨8,(e.Op)⟩:=by simp[dD,hk6]
  rw[hO];refine rn func307 ?_;simp[f307,hk6];intro bs;refine au.bB rfl (cP 8 (e.Op)) (by simp) rfl (by simp) rfl ?_;simp
 by_cases VD:e.Kind=16
 ·have hO:dD e=⟨12,(e.aL)⟩:=by simp[dD,VD]
  rw[hO];refine rn func307 ?_;simp[f307,VD];intro bs;refine au.bB rfl (cP 12 (e.aL)) (by simp) rfl (by simp) rfl ?_;simp
 by_cases VE:e.Kind=17
 ·have hO:dD e=⟨13,(e.aL)⟩:=by simp[dD,VE]
  rw[hO];refine rn func307 ?_;simp[f307,VE];intro bs;refine au.bB rfl (cP 13 (e.aL)) (by simp) rfl (by simp) rfl ?_;simp
 by_cases VF:e.Kind=18
 ·have hO:dD e=⟨26,(e.aL)⟩:=by simp[dD,VF]
  rw[hO];refine rn func307 ?_;simp[f307,VF];intro bs;refine au.bB rfl (cP 26 (e.aL)) (by simp) rfl (by simp) rfl ?_;simp
 have hO:dD e=⟨19,e.Op⟩:=by simp[dD,km,VA,VB,Hb,Ph,hk5,VC,hk6,VD,VE,VF]
 rw[hO];refine rn func307 ?_;simp[f307,km,VA,VB,Hb,Ph,hk5,VC,hk6,VD,VE,VF];intro bs;refine au.bB rfl (cP 19 e.Op) (by simp) rfl (by simp) rfl ?_;simp
theorem dF(a b:List ai)(ha:a.length<=1000000000000)(hb:b.length<=1000000000000):Pure prog 191 [.d (.sl (a.map ai.enc)),.d (.sl (b.map ai.enc))] (.d (.sl ((a++b).map ai.enc))):=by
 refine rn func191 ?_;simp[f191];omega
mutual
def tU:ay->Nat
 | .mk _ _ _ _ l=>1+fq l
def fq:List ay->Nat
 | []=>0
 | x::l=>tU x+fq l
end
theorem vI(e:ay):tU e=1+fq e.aF:=by cases e;rw[tU];rfl
theorem Hc(l r:List ay):fq (l++r)=fq l+fq r:=by
 induction l with
 | nil=>simp[fq]
 | cons x l ih=>simp only[aoX,fq,ih];omega
mutual
def aX:ay->Int->List ai×Int
 | .mk k o n s l,m=>
   if k=6/\(o=1\/o=2)then
    match l with
    | a::b::_=>((aX a (m+2)).1++ [⟨25,m⟩]++(if o=1 then [⟨1,1⟩,⟨24,m+1⟩,⟨38,m⟩]++(aX b (aX a (m+2)).2).1++ [⟨11,0⟩,⟨38,m+1⟩]
      else(aX b (aX a (m+2)).2).1++ [⟨11,0⟩,⟨24,m+1⟩,⟨38,m⟩,⟨1,0⟩,⟨38,m+1⟩]),(aX b (aX a (m+2)).2).2)
    | _=>([],m)
   else((aZ l m).1++ [dD (.mk k o n s l)],(aZ l m).2)
def aZ:List ay->Int->List ai×Int
 | [],m=>([],m)
 | x::l,m=>((aX x m).1++(aZ l (aX x m).2).1,(aZ l (aX x m).2).2)
end
def yr(e:ay):Prop:=e.Kind=6/\(e.Op=1\/e.Op=2)
theorem tV(e:ay)(m:Int)(h:¬yr e):aX e m=((aZ e.aF m).1++ [dD e],(aZ e.aF m).2):=by
 cases e with
 | mk k o n s l=>
   rw[aX.eq_def];have h':¬(k=6/\(o=1\/o=2)):=h;simp only;rw[if_neg h'];rfl
theorem Fb(e a b:ay)(r:List ay)(m:Int)(hk:e.Kind=6)(ho:e.Op=1)(ha:e.aF=a::b::r):aX e m=((aX a (m+2)).1++ [⟨25,m⟩]++([⟨1,1⟩,⟨24,m+1⟩,⟨38,m⟩]++(aX b (aX a (m+2)).2).1++ [⟨11,0⟩,⟨38,m+1⟩]),(aX b (aX a (m+2)).2).2):=by
 cases e with
 | mk k o n s l=>
   cases hk;cases ho;cases ha;rw[aX];simp
theorem BD(e a b:ay)(r:List ay)(m:Int)(hk:e.Kind=6)(ho:e.Op=2)(ha:e.aF=a::b::r):aX e m=((aX a (m+2)).1++ [⟨25,m⟩]++((aX b (aX a (m+2)).2).1++ [⟨11,0⟩,⟨24,m+1⟩,⟨38,m⟩,⟨1,0⟩,⟨38,m+1⟩]),(aX b (aX a (m+2)).2).2):=by
 cases e with
 | mk k o n s l=>
   cases hk;cases ho;cases ha;rw[aX];simp
theorem VG(l:List ay)(x:ay)(m:Int):aZ (l++ [x]) m=((aZ l m).1++(aX x (aZ l m).2).1,(aX x (aZ l m).2).2):=by
 induction l generalizing m with
 | nil=>simp[aZ]
 | cons y l ih=>simp[aZ,ih]
theorem yu(l:List ay)(hl:∀x∈l,∀m,m<=(aX x m).2/\(aX x m).2<=m+2 *tU x/\(aX x m).1.length<=6 *tU x)(m:Int):m<=(aZ l m).2/\(aZ l m).2<=m+2 *fq l/\(aZ l m).1.length<=6 *fq l:=by
 induction l generalizing m with
 | nil=>simp[aZ,fq]
 | cons x l ih=>
   have h1:=hl x (by simp) m;have h2:=ih (λy hy=>hl y (by simp[hy])) (aX x m).2;rw[aZ,fq,aoS];omega
theorem lr(e:ay)(m:Int):m<=(aX e m).2/\(aX e m).2<=m+2 *tU e/\(aX e m).1.length<=6 *tU e:=by
 obtain⟨n,hn⟩:∃n,SizeOf.sizeOf e<n:=⟨_,ao2 _⟩
 induction n generalizing e m with
 | zero=>omega
 | succ n ih=>
   have hs:∀x∈e.aF,∀m,m<=(aX x m).2/\(aX x m).2<=m+2 *tU x/\(aX x m).1.length<=6 *tU x:=λx hx m=>ih x m (by have:=ay.qu hx;omega)
   by_cases hL:yr e
   ·obtain⟨hk,ho⟩:=hL;by_cases hA:∃a b r,e.aF=a::b::r
    ·obtain⟨a,b,r,hA⟩:=hA;have h1:=hs a (by simp[hA]) (m+2);have h2:=hs b (by simp[hA]) (aX a (m+2)).2;rw[vI,hA];simp only[fq];rcases ho with ho|ho
     ·rw[Fb e a b r m hk ho hA];simp only[aoS,aoU,apd];omega
     ·rw[BD e a b r m hk ho hA];simp only[aoS,aoU,apd];omega
    ·have:aX e m=([],m):=by
      cases e with
      | mk k o n s l=>
        cases l with
        | nil=>rw[aX.eq_def];simp[show k=6 from hk,show o=1\/o=2 from ho]
        | cons a l=>
          cases l with
          | nil=>rw[aX.eq_def];simp[show k=6 from hk,show o=1\/o=2 from ho]
          | cons b r=>exact absurd ⟨a,b,r,rfl⟩ hA
     rw[this];simp;omega
   ·rw[tV e m hL,vI];have:=yu e.aF hs m;simp only[aoS,aoU,apd];omega
section
variable {P : Program} {n : Nat} {Q : AX -> St -> Prop}
def ajw(P:Program)(ops:Array Oper)(o:Oper)(s:St)(K:V->Option Nat->aI->Prop)(KP:V->aI->Prop):Prop:=
 (∃x k L',(∀n,fU P n ops o s.fr s.L k x L')/\K x k L')\/(∃y L',(∀n,ae2 P n ops o s.fr s.L y L')/\KP y L')
def VH(P:Program)(ops:Array Oper)(c:Nat)(ks:List (Option Nat))(Ls:List aI):List K1->Prop
 | []=>True
 | d::ds=>py (min d.hi c-d.lo) (d.lo+1) (λp=>xZ P ops d.o ⟨dk ks p d.fr,Ls.getD p []⟩ d.x d.told)/\VH P ops c ks Ls ds
def nj(P:Program)(ops:Array Oper)(c:Nat):List (Oper×Option (Nat×Nat))->ky->List (Option Nat)->List aI->List V->Prop
 | [],_,_,_,_=>True
 | (o,none)::rest,fr,ks,Ls,us=>nj P ops c rest (gX fr o.dst (ks.length+1) .any) (ks++ [none]) (Ls++ [[]]) us
 | (o,some (lo,hi))::rest,fr,ks,Ls,us=>
   if c<lo then nj P ops c rest (gX fr o.dst lo .any) ks Ls us
   else if rK o then
    match us with
    | []=>False
    | u::kK=>match cv P ops ⟨dk ks lo fr,Ls.getD lo []⟩ o u with
      | some (x,cd)=>cd/\py (min hi c-lo) (lo+1) (λp=>xZ P ops o ⟨dk ks p fr,Ls.getD p []⟩ x (some u))/\nj P ops c rest (gX fr o.dst lo x) ks Ls kK
      | none=>False
   else
    match qv P ops ⟨dk ks lo fr,Ls.getD lo []⟩ o with
    | some (x,cd)=>cd/\py (min hi c-lo) (lo+1) (λp=>xZ P ops o ⟨dk ks p fr,Ls.getD p []⟩ x none)/\nj P ops c rest (gX fr o.dst lo x) ks Ls us
    | none=>False
def x5(P:Program)(ops:Array Oper)(ov:List Nat):List (Oper×Option (Nat×Nat))->ky->List (Option Nat)->List aI->List V->List K1->(ky->List (Option Nat)->List aI->Prop)->(V->aI->Prop)->Prop
 | [],fr,ks,Ls,_,ds,K,_=>Bg P ops ks Ls ds/\K fr ks Ls
 | (o,none)::rest,fr,ks,Ls,us,ds,K,KP=>
   match(if ov.any (λt=>o.dst==some t)then none else lv P ops ⟨dk ks ks.length fr,Ls.getD ks.length []⟩ o)with
   | some (x,k,L',c)=>c/\x5 P ops ov rest (gX fr o.dst (ks.length+1) x) (ks++ [k]) (Ls++ [L']) us ds K KP
   | none=>ajw P ops o ⟨dk ks ks.length fr,Ls.getD ks.length []⟩
     (λx k L'=>x5 P ops ov rest (gX fr o.dst (ks.length+1) x) (ks++ [k]) (Ls++ [L']) us ds K KP)
     (λy L'=>KP y L'/\VH P ops ks.length ks Ls ds/\nj P ops ks.length rest (gX fr o.dst (ks.length+1) .any) (ks++ [none]) (Ls++ [[]]) us)
 | (o,some (lo,hi))::rest,fr,ks,Ls,us,ds,K,KP=>
   if rK o then
    match us with
    | []=>False
    | u::kK=>match cv P ops ⟨dk ks ks.length fr,Ls.getD ks.length []⟩ o u with
      | some (x,c)=>c∧py (ks.length-lo) lo (fun p=>xZ P ops o ⟨dk ks p fr,Ls.getD p []⟩ x (some u))∧
        x5 P ops ov rest (gX fr o.dst lo x) ks Ls kK (if ks.length<hi then⟨o,fr,x,ks.length,hi,some u⟩::ds else ds) K KP
      | none=>False
   else
    match qv P ops ⟨dk ks ks.length fr,Ls.getD ks.length []⟩ o with
    | some (x,c)=>c∧py (ks.length-lo) lo (fun p=>xZ P ops o ⟨dk ks p fr,Ls.getD p []⟩ x none)∧
      x5 P ops ov rest (gX fr o.dst lo x) ks Ls us (if ks.length<hi then⟨o,fr,x,ks.length,hi,none⟩::ds else ds) K KP
    | none=>False
attribute [simp] x5 nj VH
end
section
variable {P : Program} {n : Nat} {s : St} {Q : AX -> St -> Prop} {L : aI} {ops : Array Oper}
def MP(P:Program)(rs:List ResultVar)(R:AE->aI->Prop)(ts hs:List Nat)(x:AX)(s:St):Prop:=
 match x with
 | .normal|.ret=>(s.pick ts hs).on (keys (s.pick ts hs).L)=true/\ff P rs R .ret (s.pick ts hs)
 | .ix y=>((s.pick [] hs).on (keys (s.pick [] hs).L)=true/\y.on []=true)/\R (.ix y) (s.pick [] hs).L
 | _=>False
theorem av.ac3{c rs R} ts hs(ht:ts.all (λt=>decide (t<n))=true)(hh:hs.Nodup)(h:av P n c s (MP P rs R ts hs)):av P n c s (ff P rs R):=by
 intro fo m a w hr g;refine Code.wpIn_mono (λe a1 w1 hp=>?_) (h fo m a w hr g);obtain⟨ms,m',x,s',ri,hq,g',he,st⟩:=hp;have key:∀y,(s'.pick ts hs).on (keys (s'.pick ts hs).L)=true/\ff P rs R .ret (s'.pick ts hs)->(∀m2,bF w1 (OO (fo.mark ms) m2) m2 e y)->ff P rs R .ret (s'.pick ts hs)=ff P rs R y (s'.pick ts hs)->fZ fo n m w (ff P rs R) e a1 w1:=by
  intro y h1 h2 h3;obtain⟨m2,g2,oP⟩:=Wk.pick ts hs ht hh h1.1 (fo.mark ms) m' a1 w1 g';exact⟨ms,m2,y,s'.pick ts hs,ri,h3 ▸ h1.2,g2,h2 m2,st.trans oP⟩
 cases x with
 | normal=>
   refine key .normal hq (λm2=>?_) rfl;grind[bF]
 | ret=>
   refine key .ret hq (λm2=>?_) rfl;grind[bF]
 | ix y=>
   obtain⟨⟨h1,h2⟩,h3⟩:=hq;obtain⟨m2,g2,oP⟩:=Wk.pick [] hs rfl hh h1 (fo.mark ms) m' a1 w1 g';refine⟨ms,m2,.ix y,s'.pick [] hs,ri,h3,g2,?_,st.trans oP⟩;cases e<;>simp[bF]at he⊢
   obtain⟨v,gM,rfl,iC,hv⟩:=he;exact⟨v,gM,rfl,iC,(hv.on (by simp) h2).mono (Step.rq oP) (Step.sub oP) (λ_ _ e=>e)⟩
 | exit i=>exact hq.elim
 | goto i=>exact hq.elim
theorem aE.nj ts hs{f}{args}{R}{fn}{c}(hf:P.funcs[f]?=some fn)(hb:fn.body=some c)(hn:args.length≤fn.ntmps∧ts.all (fun t=>decide (t < fn.ntmps))=true∧hs.Nodup)
  (h:cV P fn.ntmps c ⟨eH 0 args,L⟩ (cp P fn.ntmps (MP P fn.results.toList R ts hs) [])):aE P f args L R:=
 aE.xQ hf hb hn.1 (av.ac3 ts hs hn.2.1 hn.2.2 (eg _ _ _ h))
theorem rX(ts hs:List Nat){f:FuncId}{args:List V}{R:AE→aI→Prop}{fn:Func}{c:Code}(hf:P.funcs[f]?=some fn)(h:cV P fn.ntmps c ⟨eH 0 args,L⟩ (cp P fn.ntmps (MP P fn.results.toList R ts hs) []))
  (hb:fn.body=some c:=by exact rfl) (hn:Nat.ble args.length fn.ntmps=true:=by exact rfl) (ht:ts.all (λt=>decide (t<fn.ntmps))=true:=by exact rfl) (hd:hs.Nodup:=by decide):aE P f args L R:=aE.nj ts hs hf hb ⟨Nat.le_of_ble_eq_true hn,ht,hd⟩ h
attribute [simp] MP
theorem au.Te(jZ:List (Nat×V)){o:Oper}{rest:List Oper}{c:Call}{f:FuncId}{args:List V}{L1 bq:aI}{y:V}(hs:List Nat)(aD:o.op= .call c)(h:aE P f args L1 (fun r L=>r= .ix y∧L=bq))(hc:callee s.ev c=some (f,args))(hg:o.guard=none)
  (hd:∀d,o.dst=some d->d<n) (he:enters P f=true) (hL:s.L.filter (λp=>hs.contains p.1)=L1)
  (ho:V.dE (keys L1) args=true/\L1.all (λp=>aV.on (keys L1) p.2)=true/\L1.all (λp=>!fh p.2||bq.any (λq=>q.1==p.1&&(fh q.2&&mD q.2==mD p.2)))=true)
  (iS:(s.L.filter λp=>!hs.contains p.1).all (λp=>aV.on (keys (s.L.filter λp=>!hs.contains p.1)++keys (L1.filter λp=>fh p.2)) p.2)=true)
  (hk:(keys bq).all (λk=>!(keys (s.L.filter λp=>!hs.contains p.1)).contains k)=true)
  (iy:∀p∈jZ,p∈s.fr/\V.on (keys (s.L.filter λp=>!hs.contains p.1)++keys (L1.filter λp=>fh p.2)) p.2=true) (kp:Q (.ix y) ⟨jZ,bq++s.L.filter λp=>!hs.contains p.1⟩):au P n ops (o::rest) s Q:=by
 intro fo m0 w0 m a w st g;have gT:=SF L1;unfold wpListIn;rw[if_pos (by simp[Region.wanted,hg])];have ze:s.L.Perm (L1++s.L.filter λp=>!hs.contains p.1):=by subst hL;exact(apE _ s.L).symm
 refine U2 aD hc he ho.1 ze ho.2.1 (λp hp=>by have h1:=aoP.1 iS p hp;rw[<-gT]at h1;exact h1) h ?_ g (λx uH mm v w' hR _ _ _ _ _ _=>by cases hR.1) (λx uH mm ch w' hR ma hinv qg abl cQ sS=>?_)
 ·rintro r uH ⟨rfl,rfl⟩;refine⟨λk re=>?_,λk b ty cs hm=>?_⟩
  ·have:=aoP.1 hk k re;simpa using this
  ·exact SG ho.2.2 hm
 ·obtain⟨e,rfl⟩:=hR;obtain rfl:=AE.ix.inj e;have g':G fo n mm ⟨jZ,uH++s.L.filter λp=>!hs.contains p.1⟩ a w':=⟨g.size,λt y hy=>by
   obtain⟨h1,h2⟩:=iy _ hy;obtain⟨q1,q2⟩:=g.fr t y h1;refine⟨q1,(q2.on (λi z hi hz=>abl i z ?_ hz) h2).mono cQ sS (λ_ _ e=>e)⟩;have e:=gT;rw[<-e]at hi;exact hi,hinv,g.defers⟩
  exact .of mm (.ix x) _ kp g' ma (st.trans qg)
theorem au.kN{o:Oper}{rest:List Oper}{c:Call}{f:FuncId}{args:List V}{L1 bq:aI}{y:V}(hs:List Nat)(aD:o.op= .call c)(h:aE P f args L1 (fun r L=>r= .ix y∧L=bq))(hc:callee s.ev c=some (f,args))(hg:o.guard=none)
  (hd:∀d,o.dst=some d->d<n) (he:enters P f=true) (hL:s.L.filter (λp=>hs.contains p.1)=L1)
  (ho:V.dE (keys L1) args=true/\L1.all (λp=>aV.on (keys L1) p.2)=true/\L1.all (λp=>!fh p.2||bq.any (λq=>q.1==p.1&&(fh q.2&&mD q.2==mD p.2)))=true)
  (iS:(s.L.filter λp=>!hs.contains p.1).all (λp=>aV.on (keys (s.L.filter λp=>!hs.contains p.1)++keys (L1.filter λp=>fh p.2)) p.2)=true)
  (hk:(keys bq).all (λk=>!(keys (s.L.filter λp=>!hs.contains p.1)).contains k)=true)
  (kp:Q (.ix y) ⟨[],bq++s.L.filter λp=>!hs.contains p.1⟩):au P n ops (o::rest) s Q:=
 au.Te [] hs aD h hc hg hd he hL ho iS hk (by simp) kp
theorem au.Tf{o:Oper}{rest:List Oper}{c:Call}{f:FuncId}{args:List V}{L1 bq:aI}{y:V}(hs:List Nat)(aD:o.op= .call c)(h:aE P f args L1 (fun r L=>r= .ix y∧L=bq))(hc:callee s.ev c=some (f,args))(hg:o.guard=none)
  (hd:∀d,o.dst=some d->d<n) (he:enters P f=true) (hL:s.L.filter (λp=>hs.contains p.1)=L1)
  (ho:V.dE (keys L1) args=true/\L1.all (λp=>aV.on (keys L1) p.2)=true/\L1.all (λp=>!fh p.2||bq.any (λq=>q.1==p.1&&(fh q.2&&mD q.2==mD p.2)))=true)
  (iS:(s.L.filter λp=>!hs.contains p.1).all (λp=>aV.on (keys (s.L.filter λp=>!hs.contains p.1)++keys (L1.filter λp=>fh p.2)) p.2)=true)
  (hk:(keys bq).all (λk=>!(keys (s.L.filter λp=>!hs.contains p.1)).contains k)=true)
  (kp:Q (.ix y) ⟨s.fr.filter λp=>V.on (keys (s.L.filter λp=>!hs.contains p.1)++keys (L1.filter λp=>fh p.2)) p.2,bq++s.L.filter λp=>!hs.contains p.1⟩):au P n ops (o::rest) s Q:=
 au.Te _ hs aD h hc hg hd he hL ho iS hk (λ_ hp=>apU.1 hp) kp
theorem av.named{c}(h:∀Q',Q'=Q->av P n c s Q'):av P n c s Q:=h _ rfl
theorem Pj{id j}(h:Q (.exit j) s)(hn:j≠id):AX.inBlock id Q (.exit j) s:=by simp_all
theorem Pk{id}(h:Q .normal s):AX.inBlock id Q (.exit id) s:=by simp_all
theorem Kf{id}(h:Q .ret s):AX.inBlock id Q .ret s:=h
theorem aed{id}(h:Q .normal s):AX.inBlock id Q .normal s:=h
theorem Pl{f j}(h:Q (.exit j) s):AX.then f Q (.exit j) s:=h
theorem Fc{f}(h:f s):AX.then f Q .normal s:=h
theorem Kg{f}(h:Q .ret s):AX.then f Q .ret s:=h
end
section
variable {P : Program} {n : Nat} {Q : AX -> St -> Prop} {ops : Array Oper} {ov : List Nat}
def ahp(P:Program)(ops:Array Oper)(ov:List Nat)(l:List (Oper×Option (Nat×Nat)))(fr:ky)(ks:List (Option Nat))(Ls:List aI)(us:List V)(ds:List K1)(Q:AX->St->Prop):Prop:=
 x5 P ops ov l fr ks Ls us ds (λfr ks Ls=>∀bs,Q .normal (St.vB bs ⟨dk ks ks.length fr,Ls.getD ks.length []⟩)) (λy L'=>∀bs,Q (.ix y) (St.vB bs ⟨[],L'⟩))
def VI(P:Program)(ops:Array Oper)(ov:List Nat):List (Oper×Option (Nat×Nat))->ky->List (Option Nat)->List aI->List V->List K1->(AX->St->Prop)->Prop
 | [],fr,ks,Ls,_,ds,Q=>Bg P ops ks Ls ds/\∀bs,Q .normal (St.vB bs ⟨dk ks ks.length fr,Ls.getD ks.length []⟩)
 | (o,none)::rest,fr,ks,Ls,us,ds,Q=>
   match(if ov.any (λt=>o.dst==some t)then none else lv P ops ⟨dk ks ks.length fr,Ls.getD ks.length []⟩ o)with
   | some (x,k,L',c)=>c/\VI P ops ov rest (gX fr o.dst (ks.length+1) x) (ks++ [k]) (Ls++ [L']) us ds Q
   | none=>ahp P ops ov ((o,none)::rest) fr ks Ls us ds Q
 | (o,some (lo,hi))::rest,fr,ks,Ls,us,ds,Q=>
   if rK o then
    match us with
    | []=>False
    | u::kK=>match cv P ops ⟨dk ks ks.length fr,Ls.getD ks.length []⟩ o u with
      | some (x,c)=>c∧py (ks.length-lo) lo (fun p=>xZ P ops o ⟨dk ks p fr,Ls.getD p []⟩ x (some u))∧
        VI P ops ov rest (gX fr o.dst lo x) ks Ls kK (if ks.length<hi then⟨o,fr,x,ks.length,hi,some u⟩::ds else ds) Q
      | none=>False
   else
    match qv P ops ⟨dk ks ks.length fr,Ls.getD ks.length []⟩ o with
    | some (x,c)=>c∧py (ks.length-lo) lo (fun p=>xZ P ops o ⟨dk ks p fr,Ls.getD p []⟩ x none)∧
      VI P ops ov rest (gX fr o.dst lo x) ks Ls us (if ks.length<hi then⟨o,fr,x,ks.length,hi,none⟩::ds else ds) Q
    | none=>False
theorem cM{L1 bq:aI}(h:L1.all (λp=>!fh p.2||bq.any (λq=>q.1==p.1&&(fh q.2&&mD q.2==mD p.2)))=true):∀k b ty cs,(k,aV.box (b+1) ty cs)∈L1->∃lY jA,(k,aV.box (b+1) lY jA)∈bq:=by
 intro k b ty cs hm;have:=aoP.1 h _ hm;simp at this;grind[mD,Option.some.injEq]
attribute [simp] VI
end
end Go.Ab

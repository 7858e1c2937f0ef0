/-
 HK texts amG amH amI Bok aou alq alr als aov amJ amK alu amL alv Rc Hd Vwk Vdo aow aox amM Vrk Zt aoy aoz amN amO aoA aoB alw Vch alx,one behind Cb other.
-/
import Derived.Test.YtmhnopomnpgcjaaGreatDoorMg6
import Derived.Deep.DeepHandedRow
import Derived.FnData
import Derived.LaidMore
set_option linter.unusedSimpArgs false
set_option linter.unusedVariables false
namespace Go.Ab
open Go.Proofs Go.Proofs.Tryz
mutual
def zI(k:Int):an->Bool
 | .mk a _ _ _ b c=>decide (a=k)||lW k b||lW k c
def lW(k:Int):List an->Bool
 | []=>false
 | s::l=>zI k s||lW k l
end
theorem ab0(k:Int)(s:an):zI k s=(decide (s.Kind=k)||lW k s.Body||lW k s.bW):=by cases s;rw[zI];rfl
theorem LS(k:Int)(l:List an):lW k l=l.any (zI k):=by
 induction l with
 | nil=>rw[lW];rfl
 | cons s l ih=>rw[lW,ih];rfl
theorem Jd(k:Int):∀(n:Nat) (l:List an),SizeOf.sizeOf l<n->(∀s∈l,s.wf)->l.length *104<=140737488351232->Pure prog 61 [.d (.sl (l.map an.enc)),iD k] (oD (lW k l)):=by
 intro n
 induction n with
 | zero=>intro l hn;omega
 | succ n ih=>
   intro l hn hl hlen;have jU:∀s∈l,Pure prog 61 [.d (.sl (s.Body.map an.enc)),iD k] (oD (lW k s.Body))/\Pure prog 61 [.d (.sl (s.bW.map an.enc)),iD k] (oD (lW k s.bW)):=by
    intro s hs;have h1:=apP hs;have hw:=hl s hs;have h2:=an.rf s;have h3:=an.rh s;exact⟨ih s.Body (by omega) (an.E7 hw) (an.E6 hw),ih s.bW (by omega) (an.E9 hw) (an.E8 hw)⟩
   refine rn func61 ?_;simp[-cB,f61];refine av.fh [0,1,5] l (λpre=> [(5,iD pre.length)]) (λ_=> []) (λpre=>pre.any (zI k)=false) (by rfl) (by omega) (by simp) ?_ ?_
   ·rintro pre s post bu sK au bm a4;have hS:=jU s (by rw[bu];simp);have pI:zI k s=true->lW k l=true:=λh=>by rw[LS,bu];simp[h]
    have iU:zI k s=false->(pre++ [s]).any (zI k)=false:=λh=>by rw[aqv,sK];simp[h]
    rw[ab0]at pI iU;have KA:=bu.symm;clear ih jU hlen hn bu;have Gk:∀{f:FuncId} {args:List V} {x:V},False->Pure prog f args x:=λh=>h.elim
    simp[-cB,au,bm]
    repeat' (first
     | (with_reducible refine And.intro ?_ ?_)
     | ((first|(refine aw (λh=>?_) (λh=>?_)<;>(try simp at h))|refine pC hS.1 ?_|refine pC hS.2 ?_|refine lC hS.1 ?_|refine lC hS.2 ?_|refine pG hS.1 ?_|refine pG hS.2 ?_)<;>(try simp[-cB, *,au,bm]))
     | (with_reducible intro _))
    rename_i y hy;have h2:=iU (by simp[h]);rw[aqt]at h2;simpa using h2 y (by simpa using hy)
   ·intro bS;rw[LS,bS];simp
def yE(t:aq)(i:Int):Bool:=t.mG.any λd=>decide (d.Body=i)
def ly(t:aq)(i:Int):Bool:=(t.cV.any λf=>decide (f=i))||(t.mG.any λd=>decide (d.jf=i))||t.az.any λx=>x.mr.any λw=>decide (w.jf=i)
theorem ab1(t:aq)(ht:t.wf)(i:Int):Pure prog 63 [.agg (t.enc.map .d),iD i] (oD (yE t i)):=by
 have hlen:=aq.G4 ht;refine rn func63 ?_;simp[-cB,f63];intro bs;refine av.fh [1,2,5] t.mG (λpre=> [(5,iD pre.length)]) (λ_=> []) (λpre=>(pre.any λd=>decide (d.Body=i))=false) (by rfl) (by omega) (by simp) ?_ ?_
 ·rintro pre s post bu sK au bm a4;have pI:s.Body=i->yE t i=true:=λh=>by unfold yE;rw[bu];simp[h]
  have iU:¬s.Body=i->((pre++ [s]).any λd=>decide (d.Body=i))=false:=λh=>by rw[aqv,sK];simp[h]
  clear bu;by_cases h:s.Body=i
  ·simp[au,bm,h,pI h]
  ·simp[au,bm,h];refine⟨a4,λy hy=>?_⟩;have h2:=iU h;rw[aqt]at h2;simpa using h2 y (by simpa using hy)
 ·intro bS;simp[yE,bS]
theorem ZE(t:aq)(ht:t.wf)(i:Int):Pure prog 62 [.agg (t.enc.map .d),iD i] (oD (ly t i)):=by
 have hlen:=aq.G4 ht;have amP:=aq.G5 ht;have amQ:=aq.Dz ht;have ZF:=aq.Ll ht;refine rn func62 ?_;simp[-cB,f62];intro bs;refine av.fh [1,2,5] t.cV (λpre=> [(5,iD pre.length)]) (λ_=> []) (λpre=>(pre.any λd=>decide (d=i))=false) (by rfl) (by omega) (by simp) ?_ ?_
 ·rintro pre s post bu sK au bm a4;have pI:s=i->ly t i=true:=λh=>by unfold ly;rw[bu];simp[h]
  have iU:¬s=i->((pre++ [s]).any λd=>decide (d=i))=false:=λh=>by rw[aqv,sK];simp[h]
  clear bu;by_cases h:s=i
  ·simp[au,bm,h,pI h]
  ·simp[au,bm,h];refine⟨a4,λy hy=>?_⟩;have h2:=iU h;rw[aqt]at h2;simpa using h2 y (by simpa using hy)
 ·intro ahF;simp;refine av.fh [1,2,6] t.mG (λpre=> [(6,iD pre.length)]) (λ_=> []) (λpre=>(pre.any λd=>decide (d.jf=i))=false) (by rfl) (by omega) (by simp) ?_ ?_
  ·rintro pre s post bu sK au bm a4;have pI:s.jf=i->ly t i=true:=λh=>by unfold ly;rw[bu];simp[h]
   have iU:¬s.jf=i->((pre++ [s]).any λd=>decide (d.jf=i))=false:=λh=>by rw[aqv,sK];simp[h]
   clear bu;by_cases h:s.jf=i
   ·simp[au,bm,h,pI h]
   ·simp[au,bm,h];refine⟨a4,λy hy=>?_⟩;have h2:=iU h;rw[aqt]at h2;simpa using h2 y (by simpa using hy)
  ·intro ahG;simp;refine av.fh [1,2,7] t.az (λpre=> [(7,iD pre.length)]) (λ_=> []) (λpre=>(pre.any λx=>x.mr.any λw=>decide (w.jf=i))=false) (by rfl) (by omega) (by simp) ?_ ?_
   ·rintro pre s post bu sK au bm a4;have hwl:=bg.E4 (ZF s (by rw[bu];simp));have pI:(s.mr.any λw=>decide (w.jf=i))=true->ly t i=true:=λh=>by unfold ly;rw[bu];simp only[aqv,List.any_cons,h];simp
    have iU:(s.mr.any λw=>decide (w.jf=i))=false->((pre++ [s]).any λx=>x.mr.any λw=>decide (w.jf=i))=false:=λh=>by rw[aqv,sK];simp only[List.any_cons,h,List.any_nil];rfl
    clear bu;simp[au,bm];refine av.fh [1,2,7,8,9] s.mr (λpre=> [(9,iD pre.length)]) (λ_=> []) (λpre=>(pre.any λw=>decide (w.jf=i))=false) (by rfl) (by omega) (by simp) ?_ ?_
    ·rintro Wb u adl KA ahH dF Kh a4';have ahI:u.jf=i->ly t i=true:=λh=>pI (by rw[KA];simp[h])
     have ajQ:¬u.jf=i->((Wb++ [u]).any λd=>decide (d.jf=i))=false:=λh=>by rw[aqv,ahH];simp[h]
     clear KA pI iU;by_cases h:u.jf=i
     ·simp[dF,Kh,h,ahI h]
     ·simp[dF,Kh,h];refine⟨a4',λy hy=>?_⟩;have h2:=ajQ h;rw[aqt]at h2;simpa using h2 y (by simpa using hy)
    ·intro bS;have h3:=iU bS;simp[a4];intro y hy;rw[aqt]at h3;have:=h3 y (by simpa using hy);simpa using this
   ·intro ahJ;have:ly t i=false:=by unfold ly;rw[ahF,ahG,ahJ];rfl
    simp[this]
end Go.Ab
namespace Go.Ab
set_option maxHeartbeats 4000000
set_option maxRecDepth 40000
open Go.Proofs Go.Proofs.Tryz
def yF(C:List ai)(k:Int):Nat:=C.countP λi=>decide (i.Op=38)&&decide (i.Arg=k)
def wv(C:List ai)(k:Int):Nat:=C.countP λi=>(decide (i.Op=24)||decide (i.Op=25))&&decide (i.Arg=k)
def Cy(C:List ai):Nat:=C.countP λi=>decide (i.Op=38)
def tkC(C:List ai):Nat:=C.countP λi=>decide (i.Op=37)
theorem xm(a b:List ai)(k:Int):yF (a++b) k=yF a k+yF b k:=aqK
theorem xn(a b:List ai)(k:Int):wv (a++b) k=wv a k+wv b k:=aqK
theorem xq(a b:List ai):Cy (a++b)=Cy a+Cy b:=aqK
theorem sP(i:ai)(l:List ai)(k:Int):yF (i::l) k=yF l k+if i.Op=38/\i.Arg=k then 1 else 0:=by simp[yF,aqW]
theorem sQ(i:ai)(l:List ai)(k:Int):wv (i::l) k=wv l k+if(i.Op=24\/i.Op=25)/\i.Arg=k then 1 else 0:=by simp[wv,aqW]
theorem sR(i:ai)(l:List ai):Cy (i::l)=Cy l+if i.Op=38 then 1 else 0:=by simp[Cy,aqW]
@[simp] theorem TE(k:Int):yF [] k=0:=rfl
@[simp] theorem TF(k:Int):wv [] k=0:=rfl
@[simp] theorem akv:Cy []=0:=rfl
@[simp] theorem akw:tkC []=0:=rfl
structure oX(C:List ai) (a b:Int):Prop where
 le:a<=b
 st:∀k,(a<=k/\k<b->yF C k=1)/\(¬(a<=k/\k<b)->yF C k=0)
 ak:∀k,(a<=k/\k<b->0<wv C k)/\(¬(a<=k/\k<b)->wv C k=0)
 nl:(Cy C:Int)=b-a
theorem oX.nil(a:Int):oX [] a a:=⟨by omega,λk=>by simp<;>omega,λk=>by simp<;>omega,by simp⟩
theorem oX.app{C D:List ai}{a b c:Int}(h:oX C a b)(h':oX D b c):oX (C++D) a c:=by
 have l1:=h.le;have l2:=h'.le;refine⟨by omega,λk=>?_,λk=>?_,?_⟩
 ·have:=h.st k;have:=h'.st k;rw[xm];omega
 ·have:=h.ak k;have:=h'.ak k;rw[xn];omega
 ·have:=h.nl;have:=h'.nl;rw[xq];omega
def nQ(i:ai):Prop:=i.Op≠24/\i.Op≠25/\i.Op≠38
theorem aeA{l:List ai}(h:∀i∈l,nQ i):(∀k,yF l k=0)/\(∀k,wv l k=0)/\Cy l=0:=by
 induction l with
 | nil=>simp
 | cons i l ih=>
   obtain⟨h1,h2,h3⟩:=ih (λx hx=>h x (by simp[hx]));obtain⟨a,b,c⟩:=h i (by simp);exact⟨λk=>by rw[sP,h1];simp[c],λk=>by rw[sQ,h2];simp[a,b],by rw[sR,h3];simp[c]⟩
theorem oX.nQ{l:List ai}(h:∀i∈l,nQ i)(a:Int):oX l a a:=by
 obtain⟨h1,h2,h3⟩:=aeA h;exact⟨by omega,λk=>by rw[h1];omega,λk=>by rw[h2];omega,by rw[h3];omega⟩
theorem af6{α:Type}{p:α->Prop}{c:Prop}[Decidable c]{a b:α}(h1:c->p a)(h2:¬c->p b):p (if c then a else b):=by
 split
 ·exact h1 ‹_›
 ·exact h2 ‹_›
theorem ZG(e:ax):nQ (dD e)/\(dD e).Op≠37:=by
 unfold dD Go.Ab.nQ
 repeat' split
 all_goals simp
theorem Wh(k num:Int):nQ (gQ k num)/\(gQ k num).Op≠37:=by
 have key:∀p:ai->Prop,(∀i∈ [ai.mk 6 num,⟨4,num⟩,⟨14,num⟩,⟨15,num⟩,⟨16,num⟩,⟨32,num⟩,⟨33,num⟩,⟨17,0⟩,⟨18,0⟩,⟨27,0⟩,⟨28,0⟩,⟨29,0⟩,⟨30,0⟩,⟨31,0⟩,⟨34,0⟩,⟨35,0⟩,⟨36,0⟩,⟨2,0⟩],p i)->p (gQ k num):=by
  intro p h;unfold gQ;simp only[apq,List.not_mem_nil,or_false,forall_eq_or_imp,forall_eq]at h;obtain⟨a1,a2,a3,a4,a5,a6,a7,a8,a9,a10,a11,a12,a13,a14,a15,a16,a17,a18⟩:=h
  iterate 17 (refine af6 (λ_=>?_) (λ_=>?_);assumption)
  assumption
 refine key (λi=>nQ i/\i.Op≠37) ?_;simp[Go.Ab.nQ]
theorem oX.two{A B C D E:List ai}{n m k:Int}(hA:oX A (n+2) m)(hB:oX B m k)
  (h1:∀j,yF C j+yF D j+yF E j=(if n=j then 1 else 0)+(if n+1=j then 1 else 0))
  (h2:∀j,(j=n\/j=n+1->0<wv C j+wv D j+wv E j)/\(¬(j=n\/j=n+1)->wv C j+wv D j+wv E j=0))
  (h3:Cy C+Cy D+Cy E=2):oX (C++A++D++B++E) n k:=by
 have l1:=hA.le;have l2:=hB.le;refine⟨by omega,λj=>?_,λj=>?_,?_⟩
 ·have:=hA.st j;have:=hB.st j;have:=h1 j;simp only[xm];split at this<;>split at this<;>omega
 ·have:=hA.ak j;have:=hB.ak j;have:=h2 j;simp only[xn];omega
 ·have:=hA.nl;have:=hB.nl;simp only[xq];omega
theorem LU(l:List ax)(hl:∀x∈l,∀m,oX (aX x m).1 m (aX x m).2)(m:Int):oX (aZ l m).1 m (aZ l m).2:=by
 induction l generalizing m with
 | nil=>rw[aZ];exact .nil m
 | cons x l ih=>
   rw[aZ];exact(hl x (by simp) m).app (ih (λy hy=>hl y (by simp[hy])) _)
theorem PZ(e:ax)(m:Int):oX (aX e m).1 m (aX e m).2:=by
 obtain⟨n,hn⟩:∃n,SizeOf.sizeOf e<n:=⟨_,aps _⟩
 induction n generalizing e m with
 | zero=>omega
 | succ n ih=>
   have hs:∀x∈e.aF,∀m,oX (aX x m).1 m (aX x m).2:=λx hx m=>ih x m (by have:=ax.qC hx;omega)
   by_cases hL:yx e
   ·obtain⟨hk,ho⟩:=hL;by_cases hA:∃a b r,e.aF=a::b::r
    ·obtain⟨a,b,r,hA⟩:=hA;have h1:=hs a (by simp[hA]) (m+2);have h2:=hs b (by simp[hA]) (aX a (m+2)).2;rcases ho with ho|ho
     ·rw[Fj e a b r m hk ho hA];have:=oX.two (C:=[]) (D:=[⟨25,m⟩]++ [⟨1,1⟩,⟨24,m+1⟩,⟨38,m⟩]) (E:=[⟨11,0⟩,⟨38,m+1⟩]) h1 h2
       (λj=>by simp only[sP,TE,apm,apK];simp<;>omega) (λj=>by simp only[sQ,TF,apm,apK];simp;by_cases e1:m=j<;>by_cases e2:m+1=j<;>simp[e1,e2]<;>omega) (by simp[sR])
      simpa[apA]using this
     ·rw[BK e a b r m hk ho hA];have:=oX.two (C:=[]) (D:=[⟨25,m⟩]) (E:=[⟨11,0⟩,⟨24,m+1⟩,⟨38,m⟩,⟨1,0⟩,⟨38,m+1⟩]) h1 h2
       (λj=>by simp only[sP,TE,apm,apK];simp<;>omega) (λj=>by simp only[sQ,TF,apm,apK];simp;by_cases e1:m=j<;>by_cases e2:m+1=j<;>simp[e1,e2]<;>omega) (by simp[sR])
      simpa[apA]using this
    ·have:aX e m=([],m):=by
      cases e with
      | mk k o n s l=>
        cases l with
        | nil=>rw[aX.eq_def];simp[show k=6 from hk,show o=1\/o=2 from ho]
        | cons a l=>
          cases l with
          | nil=>rw[aX.eq_def];simp[show k=6 from hk,show o=1\/o=2 from ho]
          | cons b r=>exact absurd ⟨a,b,r,rfl⟩ hA
     rw[this];exact .nil m
   ·rw[ui e m hL];exact(LU e.aF hs m).app (.nQ (λi hi=>by rw[aqJ.1 hi];exact(ZG e).1) _)
theorem ri(l:List ax)(m:Int):oX (aZ l m).1 m (aZ l m).2:=LU l (λx _ m=>PZ x m) m
theorem ab2(x:ax)(m:Int):oX (hU x m).1 m (hU x m).2:=by
 unfold hU;split
 ·exact .nQ (by simp[nQ]) _
 ·split
  ·exact(ri x.aF m).app (.nQ (by simp[nQ]) _)
  ·exact(PZ x m).app (.nQ (by simp[nQ]) _)
theorem Wi(l:List ax)(m:Int):oX (df l m).1 m (df l m).2:=by
 induction l generalizing m with
 | nil=>rw[df];exact .nil m
 | cons x l ih=>
   rw[df];exact(ab2 x m).app (ih _)
theorem ab3:∀(N:Nat) (l:List an),SizeOf.sizeOf l<N->∀m:Int,oX (bl l m).1 m (bl l m).2:=by
 intro N
 induction N with
 | zero=>intro l h;omega
 | succ N ih=>
   intro l h m;cases l with
   | nil=>rw[bl];exact .nil m
   | cons s l=>
     have hl:SizeOf.sizeOf l<N:=by simp only[apU]at h;omega
     have hs:SizeOf.sizeOf s<N:=by simp only[apU]at h;omega
     have hb:=an.rf s;have he:=an.rh s;rw[bl];refine oX.app ?_ (ih l hl _);by_cases k9:s.Kind=9
     ·by_cases ru:s.bW=[]
      ·rw[BU s m k9 ru];have a1:=ri s.aF (m+1);have a2:=ih s.Body (by omega) (aZ s.aF (m+1)).2;have l1:=a1.le;have l2:=a2.le;refine⟨by omega,λj=>?_,λj=>?_,?_⟩
       ·have:=a1.st j;have:=a2.st j;simp[xm,sP,tick];split<;>omega
       ·have:=a1.ak j;have:=a2.ak j;simp[xn,sQ,tick];split<;>omega
       ·have:=a1.nl;have:=a2.nl;simp[xq,sR,tick];omega
      ·rw[BV s m k9 ru];have a1:=ri s.aF (m+2);have a2:=ih s.Body (by omega) (aZ s.aF (m+2)).2;have a3:=ih s.bW (by omega) (bl s.Body (aZ s.aF (m+2)).2).2;have l1:=a1.le;have l2:=a2.le;have l3:=a3.le;refine⟨by omega,λj=>?_,λj=>?_,?_⟩
       ·have:=a1.st j;have:=a2.st j;have:=a3.st j;simp[xm,sP,tick];split<;>split<;>omega
       ·have:=a1.ak j;have:=a2.ak j;have:=a3.ak j;simp[xn,sQ,tick];split<;>split<;>omega
       ·have:=a1.nl;have:=a2.nl;have:=a3.nl;simp[xq,sR,tick];omega
     by_cases s7:s.Kind=10
     ·rw[wX s m s7];have a1:=ri s.aF (m+2);have a2:=ih s.Body (by omega) (aZ s.aF (m+2)).2;have l1:=a1.le;have l2:=a2.le;refine⟨by omega,λj=>?_,λj=>?_,?_⟩
      ·have:=a1.st j;have:=a2.st j;simp[xm,sP,tick];split<;>split<;>omega
      ·have:=a1.ak j;have:=a2.ak j;simp[xn,sQ,tick];split<;>split<;>omega
      ·have:=a1.nl;have:=a2.nl;simp[xq,sR,tick];omega
     by_cases ur:s.Kind=11
     ·rw[zH s m ur];have a1:=ri s.aF (m+2);have a2:=ih s.Body (by omega) (aZ s.aF (m+2)).2;have l1:=a1.le;have l2:=a2.le;refine⟨by omega,λj=>?_,λj=>?_,?_⟩
      ·have:=a1.st j;have:=a2.st j;simp[xm,sP,tick];split<;>split<;>omega
      ·have:=a1.ak j;have:=a2.ak j;simp[xn,sQ,tick];split<;>split<;>omega
      ·have:=a1.nl;have:=a2.nl;simp[xq,sR,tick];omega
     by_cases k1:s.Kind=1
     ·rw[yC s m k1];exact(oX.nQ (by simp[nQ,tick]) m).app (Wi s.aF m)
     ·rw[wY s m k9 s7 ur k1];exact((oX.nQ (by simp[nQ,tick]) m).app (ri s.aF m)).app (.nQ (λi hi=>by rw[aqJ.1 hi];exact(Wh _ _).1) _)
mutual
def ahK:an->Nat
 | .mk _ _ _ _ b c=>1+P0 b+P0 c
def P0:List an->Nat
 | []=>0
 | s::l=>ahK s+P0 l
end
mutual
def ahL:an->Nat
 | .mk k _ _ _ b c=>(if k=11 then 1 else 0)+(P1 b+P1 c)
def P1:List an->Nat
 | []=>0
 | s::l=>ahL s+P1 l
end
set_option maxHeartbeats 200000
set_option maxRecDepth 512
theorem Je{nx:List Int}{n:Nat}:∀{k j:Nat} {c x:Int},k<=j->x∈bI nx n k c->x∈bI nx n j c
 | 0,j,c,x,_,h=>by simp[bI]at h
 | k+1,j,c,x,hj,h=>by
   obtain⟨j,rfl⟩:∃i,j=i+1:=⟨j-1,by omega⟩
   rw[bI]at h⊢;split at h
   ·rename_i hc;rw[if_pos hc];rcases apq.1 h with rfl|h
    ·exact apo
    ·exact apl _ (Je (by omega) h)
   ·cases h
theorem Gn{nx:List Int}{n:Nat}:∀{k:Nat} {c:Int},(bI nx n k c).length<k->bU n (match(bI nx n k c).getLast? with|some y=>aH nx y|none=>c)=false
 | 0,c,h=>by simp at h
 | k+1,c,h=>by
   rw[bI]at h⊢;by_cases hc:bU n c=true
   ·rw[if_pos hc]at h⊢;have h1:=Gn (nx:=nx) (n:=n) (k:=k) (c:=aH nx c) (by simpa using h);rw[arv];cases hl:(bI nx n k (aH nx c)).getLast? with
    | none=>simpa[hl]using h1
    | some y=>simpa[hl]using h1
   ·rw[if_neg hc];simpa using hc
theorem Ej{nx:List Int}{n:Nat}(ha:∀y,bU n y=true->y∉bI nx n n (aH nx y)):∀{k:Nat} {c:Int},k<=n->(bI nx n k c).Nodup
 | 0,c,_=>by simp[bI]
 | k+1,c,hk=>by
   rw[bI];split
   ·rename_i hc;exact ap0.2 ⟨λhm=>ha c hc (Je (by omega) hm),Ej ha (by omega)⟩
   ·simp
theorem Wj{nx:List Int}{n:Nat}(h0:aH nx 0=0)(hu:∀y,bU n y=true->aH nx y=0\/bU n (aH nx y)=true)(ha:∀y,bU n y=true->y∉bI nx n n (aH nx y)){x:Int}(hx:bU n x=true):Ch nx n x (bI nx n n x):=by
 have gz:(bI nx n n x).Nodup:=Ej ha (api _);refine OX h0 (.inr ⟨gz,api _⟩) ?_;have hb:=aY.1 hx;have hlen:(bI nx n n x).length<n:=by
  rcases ye gz (λx hx=>mJ hx)with h|h
  ·exact h
  ·rw[h];simp;omega
 have hl:=Gn hlen;cases hg:(bI nx n n x).getLast? with
 | none=>
   rw[hg]at hl;simp only at hl;rw[hx]at hl;cases hl
 | some y=>
   rw[hg]at hl;simp only at hl⊢;rcases hu y (aY.2 (mJ (arc hg)))with h|h
   ·exact h
   ·rw[hl]at h;cases h
theorem ec.Wl{t:Tree}(h:po t=true):ec t t.bn.length (bw t):=by
 unfold po at h;simp only[apb,decide_eq_true_eq,apd,apS]at h;obtain⟨⟨⟨⟨⟨⟨h1,h2⟩,h3⟩,h4⟩,h5⟩,h6⟩,h7⟩:=h;have node:∀x:Int,1<=x->x<t.bn.length->su t x=true:=by
  intro x a b;have:=h7 (x.toNat-1) (by omega)
  rwa[show(((x.toNat-1:Nat):Int)+1)=x by omega]at this
 have parts:∀x:Int,1<=x->x<t.bn.length->(aH t.bn x=0\/bU t.bn.length (aH t.bn x)=true)/\(aH t.bn x=0->aH t.gq x=0)/\xh t x=true/\(aH t.bn x≠0->x∈bw t (aH t.bn x))/\(bU t.bn.length (aH t.bn x)=true->x∉ik t (aH t.bn x)):=by
  intro x a b;have:=node x a b;unfold su at this;simp only[apb,aqQ,aqA,decide_eq_false_iff_not,Bool.not_eq_false',aql]at this;obtain⟨⟨⟨⟨n1,n2⟩,n3⟩,n4⟩,n5⟩:=this;refine⟨n1,λe=>?_,n3,λe=>?_,λe=>?_⟩
  ·rcases n2 with n2|n2
   ·exact(n2 e).elim
   ·exact n2
  ·rcases n4 with n4|n4
   ·exact(e n4).elim
   ·exact List.count_pos_iff.1 (by omega)
  ·rcases n5 with n5|n5
   ·rw[e]at n5;cases n5
   ·exact n5
 have up:∀y,bU t.bn.length y=true->aH t.bn y=0\/bU t.bn.length (aH t.bn y)=true:=λy hy=>(parts y (aY.1 hy).1 (aY.1 hy).2).1
 have listed:∀x:Int,1<=x->x<t.bn.length->(∀y∈bw t x,aH t.bn y=x/\(bw t x).count y=1)/\(match(bw t x).getLast? with|some y=>aH t.gq y|none=>aH t.gn x)=0:=by
  intro x a b;have:=(parts x a b).2.2.1;rw[Bt,apb,apd,decide_eq_true_eq]at this;refine⟨λy hy=>?_,this.2⟩;have h:=this.1 y hy;unfold jm at h;simpa using h
 refine⟨by omega,rfl,h2,h3,h4,h5,h6,λx a b=>?_,λx a b y hy=>((listed x a b).1 y hy).1,λx a b=>?_,λx a b=>?_⟩
 ·have hk:bw t x=bI t.gq t.bn.length t.bn.length (aH t.gn x):=by rw[bw,if_pos (aY.2 ⟨a,b⟩)]
  have hl:=listed x a b;rw[hk]at hl⊢;refine OX h6 (.inr ⟨?_,api _⟩) hl.2;rw[ard];intro y;by_cases hy:y∈bI t.gq t.bn.length t.bn.length (aH t.gn x)
  ·rw[(hl.1 y hy).2];exact api _
  ·rw[List.count_eq_zero.2 hy];omega
 ·obtain⟨p1,p2,p3,p4,p5⟩:=parts x a b;rcases p1 with e|e
  ·exact .inl ⟨e,p2 e⟩
  ·exact .inr ⟨aY.1 e,p4 (by have:=aY.1 e;omega)⟩
 ·refine⟨_,Wj h4 up (λy hy=>?_) (aY.2 ⟨a,b⟩)⟩;obtain⟨p1,p2,p3,p4,p5⟩:=parts y (aY.1 hy).1 (aY.1 hy).2;rcases p1 with e|e
  ·rw[e];have:¬y∈bI t.bn t.bn.length t.bn.length 0:=by
    intro hm;cases hn:t.bn.length with
    | zero=>rw[hn]at hm;simp[bI]at hm
    | succ k=>rw[hn,bI]at hm;simp[bU]at hm
   exact this
  ·exact p5 e
theorem Ch.head{nx:List Int}{n:Nat}{c:Int}{l:List Int}(h:Ch nx n c l):c=0\/(1<=c/\c<n):=by
 cases h with
 | nil=>exact .inl rfl
 | cons h t=>exact .inr h
theorem Ch.Wm{nx:List Int}{n:Nat}{c:Int}{l:List Int}(h:Ch nx n c l):∀y∈l,aH nx y=0\/(1<=aH nx y/\aH nx y<n):=by
 induction h with
 | nil=>simp
 | @cons c l h t ih=>
   intro y hy;rcases apq.1 hy with rfl|hy
   ·exact t.head
   ·exact ih y hy
theorem xr{l:List Int}{y:Int}(h:y∈l):∃i:Int,0<=i/\i<l.length/\aH l i=y:=by
 obtain⟨k,hk,rfl⟩:=aqF h;refine⟨k,by omega,by omega,?_⟩;rw[aH,if_neg (by omega)];simp[akC hk]
structure iG(t:aq) (w:aj):Prop where
 wf:w.wf
 nest:ec w.tree w.ah.length (bw w.tree)
 hC:w.Child.length=w.ah.length
 hN:w.Next.length=w.ah.length
 hT:w.ah.length=t.az.length
 hF:w.Flags.length=t.az.length
 hP:w.aJ.length=t.az.length *t.aJ.length
 hG:w.aP.length=t.aP.length
 hD:w.bc.length=t.eA.length
 hn:3<=t.az.length/\t.az.length<=128
 hp:t.aJ.length<=16
 g16:∀x∈w.aP,-32768<=x/\x<=32767
 p16:∀x∈w.aJ,-32768<=x/\x<=32767
 fl:∀x∈w.Flags,0<=x/\x<=kX t.Flags-1
 tm:∀x∈w.bc,0<=x/\x<=32767
 sc: -32768<=w.Score/\w.Score<=32767
 tu:0<=w.jx/\w.jx<=2147483647
 ov:0<=w.ij/\w.ij<=3
 it:0<=w.It/\w.It<t.az.length
 go:0<=w.Go/\w.Go<=12
 pl:tq t w=true
theorem iG.P2{t:aq}{w:aj}(h:iG t w):vK w:=vK.Te h.wf h.nest
theorem lh{t:aq}(hf:fD t=true):(3<=t.az.length/\t.az.length<=128)/\t.aJ.length<=16/\t.aP.length<=64/\t.eA.length<=16/\t.fP.length<=4096/\t.Params.length=t.aL.length/\t.Params.length<=2048/\t.cV.length<=64/\(4<=t.Flags/\t.Flags<=16):=by
 unfold fD IP Fe DI at hf;simp only[apb,decide_eq_true_eq,bB]at hf;omega
theorem iG.of{t:aq}{w:aj}(hf:fD t=true)(h:cA t w=true)(hs:0<=w.cL/\w.cL<18446744073709551616):iG t w:=by
 obtain⟨d1,d2,d3,d4,d5,d6,d7,d8,d9⟩:=lh hf;unfold cA at h;simp only[apb,decide_eq_true_eq,bB,cD,apd,gP]at h;obtain⟨⟨⟨⟨⟨⟨⟨h1,h2⟩,h3⟩,h4⟩,h5⟩,h6⟩,⟨⟨⟨⟨⟨h7,h8⟩,h9⟩,eu⟩,jP⟩,oO⟩⟩,⟨⟨⟨gK,Ci⟩,oP⟩,lj⟩⟩:=h;have hn:=ec.Wl h6;have e1:w.tree.bn=w.ah:=rfl;have e2:w.tree.gn=w.Child:=rfl;have e3:w.tree.gq=w.Next:=rfl;rw[e1]at hn;have lc:w.Child.length=w.ah.length:=hn.lc;have ln:w.Next.length=w.ah.length:=hn.ln;have uu:=A8 t.Flags;have small:∀y:Int,y=0\/(1<=y/\y<w.ah.length)->aM .i64 y:=by intro y hy;rw[aU];omega
 have oe:∀x:Int,0<=x->x<w.ah.length->aH w.ah x=0\/(1<=aH w.ah x/\aH w.ah x<w.ah.length):=by
  intro x a b;by_cases h0:x=0
  ·subst h0;exact .inl hn.p0
  ·rcases hn.up x (by omega) b with h|h
   ·exact .inl h.1
   ·exact .inr h.1
 have ab4:∀x:Int,0<=x->x<w.ah.length->aH w.Child x=0\/(1<=aH w.Child x/\aH w.Child x<w.ah.length):=by
  intro x a b;by_cases h0:x=0
  ·subst h0;exact .inl hn.c0
  ·exact(hn.ch x (by omega) b).head
 have ab5:∀x:Int,0<=x->x<w.ah.length->aH w.Next x=0\/(1<=aH w.Next x/\aH w.Next x<w.ah.length):=by
  intro x a b;by_cases h0:x=0
  ·subst h0;exact .inl hn.n0
  ·rcases hn.up x (by omega) b with h|h
   ·exact .inl h.2
   ·exact(hn.ch _ h.1.1 h.1.2).Wm x h.2
 have i16:∀y:Int,(-32768<=y/\y<=32767)->aM .i64 y:=by intro y hy;rw[aU];omega
 have amR:t.az.length *t.aJ.length<=128 *16:=Nat.mul_le_mul d1.2 d2;refine⟨?_,hn,lc,ln,h2,h3,h4,h1,h5,d1,d2,h7,h8,h9,eu,jP,oO,gK,?_,oP,lj⟩
 ·unfold aj.wf;refine⟨by omega,λy hy=>i16 y (h7 y hy),by omega,λy hy=>?_,by omega,λy hy=>?_,by omega,λy hy=>?_,by omega,λy hy=>?_,by omega,λy hy=>i16 y (h8 y hy),by omega,λy hy=>?_,?_,i16 _ jP,?_,?_,?_,?_⟩
  ·obtain⟨i,a,b,rfl⟩:=xr hy;exact small _ (oe i a b)
  ·obtain⟨i,a,b,rfl⟩:=xr hy;exact small _ (ab4 i a (by omega))
  ·obtain⟨i,a,b,rfl⟩:=xr hy;exact small _ (ab5 i a (by omega))
  ·have:=h9 y hy;rw[aU];omega
  ·have:=eu y hy;rw[aU];omega
  ·simp only[aM];exact⟨hs.1,by have:=hs.2;show w.cL<=18446744073709551615;omega⟩
  ·rw[aU];omega
  ·rw[aU];omega
  ·rw[aU];omega
  ·rw[aU];omega
 ·omega
def FM(S L:List Int)(σ:MS)(p:Int×Int):Ev:=if p.2=0 then .ok (ar p.1::S) L σ else .bH p.2
def iS(v:Bool)(S L:List Int)(σ:MS):Option (aj×OC)->Option Ev
 | some (w,.bO n)=>some (.ok (if v then ar n::S else S) L {σ with W:=w})
 | some (_,.bH e)=>some (.bH e)
 | some (w,.over)=>some (.over {σ with W:=w})
 | _=>none
def yU(S L:List Int)(σ:MS)(s:ByteArray):Option Ev:=if σ.Out.size+s.size<=140737488355328 then some (.ok S L {σ with Out:=σ.Out++s})else none
def dk(op:Int):Int:=if op=3 then 14 else if op=7 then 12 else if op=12 then 16 else if op=13 then 17 else if op=19 then 10 else if op=20 then 11 else 0
def dw(op:Int):Int:=
 if op=4 then 23 else if op=14 then 4 else if op=15 then 5 else if op=16 then 6 else if op=17 then 7 else if op=18 then 8 else if op=28 then 13 else if op=29 then 14 else if op=30 then 15
 else if op=31 then 16 else if op=32 then 17 else if op=33 then 18 else if op=34 then 20 else 0
def dI(op:Int):Nat:=if op=3\/op=7\/op=28\/op=29\/op=30\/op=33 then 0 else if op=14\/op=17 then 2 else 1
def instJ(c:XC)(i:ai)(S L:List Int)(σ:MS):Option Ev:=
 if i.Op=1 then some (.ok (ar i.Arg::S) L σ)
 else if i.Op=37 then(if 0<=σ.Fuel/\σ.Fuel<=1099511627776 then if c.M<σ.Fuel+1 then some (.bH 19)else some (.ok S L {σ with Fuel:=σ.Fuel+1})else none)
 else if i.Op=5 then(if fM L i.Arg then some (.ok (ar (aB L i.Arg)::S) L σ)else none)
 else if i.Op=21 then yU S L σ (oF c.B.Tables i.Arg)
 else if i.Op=35 then(if okW c σ.W=true then yU S L σ (wU c.B.Tables σ.W)else none)
 else if dI i.Op=0 then(if dk i.Op≠0 then iS true S L σ (di c σ.W (dk i.Op) i.Arg [])else if dw i.Op≠0 then iS false S L σ (cG c σ.W (dw i.Op) i.Arg [])else none)
 else match S with
  | []=>none
  | v::S=>
    if i.Op=2 then some (.ok S L σ)
    else if i.Op=6 then(if fM L i.Arg then some (.ok S (L.set i.Arg.toNat v) σ)else none)
    else if i.Op=9 then some (.ok (ar (rL v)::S) L σ)
    else if i.Op=10 then some (.ok (notM v::S) L σ)
    else if i.Op=11 then some (.ok (ey (decide (v≠0))::S) L σ)
    else if i.Op=22 then yU S L σ (uQ v)
    else if i.Op=23 then yU S L σ (dB c.B.Tables v)
    else if i.Op=36 then(if okW c σ.W=true then yU S L σ (sw c.B.Tables σ.W v)else none)
    else if i.Op=8 then(match S with
     | []=>none
     | u::S=>if i.Arg=9/\okW c σ.W=false then none else some (FM S L σ (jd σ.W i.Arg u v)))
    else if dI i.Op=2 then(match S with
     | []=>none
     | u::S=>if dw i.Op≠0 then iS false S L σ (cG c σ.W (dw i.Op) i.Arg [u,v])else none)
    else if dk i.Op≠0 then iS true S L σ (di c σ.W (dk i.Op) i.Arg [v])
    else if dw i.Op≠0 then iS false S L σ (cG c σ.W (dw i.Op) i.Arg [v])
    else none
def bN(c:XC):eX where
 J:=instJ c
 fn a:=if fM c.B.Tables.cV a then aB c.B.Tables.cV a else -1
 pa r:=(aB c.B.Tables.Params r).toNat
 lo r a:=a.map ar++List.replicate ((aB c.B.Tables.aL r).toNat-a.length) 0
def cK(b:cM)(r:Int):List ai:=if fM b.aO r then(bl (b.aO[r.toNat]?.getD []) 0).1++ [⟨1,0⟩,⟨27,0⟩]else []
def bX(σ:XS):MS:=⟨σ.W,σ.Out,σ.Fuel⟩
theorem ZH(w:aj)(o a b:Int)(h:o≠9):jd w o (ar a) (ar b)=jd aj.zero o a b:=by
 unfold jd Ka Kb zV Vm mulM;simp only[wrap_wrap,if_neg h]
theorem ZI(c:XC):(bN c).Ok where
 push a S L σ:=by simp[bN,instJ]
 pop x v S L σ:=by simp[bN,instJ,dI]
 bin o a b S L σ h9 h0:=by simp[bN,instJ,dI,h9,ZH,FM,h0]
 neg x a S L σ:=by simp[bN,instJ,dI,rL,wrap_wrap]
 no x v S L σ:=by simp[bN,instJ,dI]
 no0 x L σ:=by simp[bN,instJ,dI]
 test x a S L σ:=by simp[bN,instJ,dI]
 stops x S L σ S' L' σ' hx a:=by
  rcases hx with rfl|rfl|rfl<;>simp[bN,instJ,dI,dk,dw,cG]<;>cases okW c σ.W<;>simp[iS]
def cI(c:XC)(d:Nat)(l r:List ai)(S L:List Int)(σ:MS)(r':List ai)(S' L':List Int)(σ':MS):Prop:=
 ∀g o k,run (bN c) (cK c.B) g d l r' S' L' σ'=some (o,k)->∃g' k',run (bN c) (cK c.B) g' d l r S L σ=some (o,k')
def dJ(c:XC)(d:Nat)(l r:List ai)(S L:List Int)(σ:MS)(o:Oc):Prop:=∃g k,run (bN c) (cK c.B) g d l r S L σ=some (o,k)
theorem cI.refl(c:XC)(d:Nat)(l r:List ai)(S L:List Int)(σ:MS):cI c d l r S L σ r S L σ:=λg _ k h=>⟨g,k,h⟩
theorem cI.trans{c:XC}{d:Nat}{l r r1 r2:List ai}{S L S1 L1 S2 L2:List Int}{σ aR cj:MS}(h1:cI c d l r S L σ r1 S1 L1 aR)(h2:cI c d l r1 S1 L1 aR r2 S2 L2 cj):cI c d l r S L σ r2 S2 L2 cj:=by
 intro g o k h;obtain⟨g1,k1,h⟩:=h2 g o k h;exact h1 g1 o k1 h
theorem cI.stop{c:XC}{d:Nat}{l r r1:List ai}{S L S1 L1:List Int}{σ aR:MS}{o:Oc}(h1:cI c d l r S L σ r1 S1 L1 aR)(h2:dJ c d l r1 S1 L1 aR o):dJ c d l r S L σ o:=by
 obtain⟨g,k,h⟩:=h2;obtain⟨g1,k1,h⟩:=h1 g o k h;exact⟨g1,k1,h⟩
theorem cI.nx{c:XC}{d:Nat}{l r r1:List ai}{i:ai}{S L S1 L1:List Int}{σ aR:MS}{n:Nat}(h:nx (bN c) d l i r S L σ= .go r1 S1 L1 aR n):cI c d l (i::r) S L σ r1 S1 L1 aR:=by
 intro g o k hr;exact⟨g+1,k+n,by rw[ke h,hr];rfl⟩
theorem cI.flat{c:XC}{d:Nat}{l r:List ai}{i:ai}{S L S1 L1:List Int}{σ aR:MS}(hf:flat i.Op)(h:instJ c i S L σ=some (.ok S1 L1 aR)):cI c d l (i::r) S L σ r S1 L1 aR:=
 .nx (n:=1) (by rw[AL hf];show Nx.ev r σ (instJ c i S L σ)=_;rw[h];rfl)
theorem cI.label{c:XC}{d:Nat}{l r:List ai}{n:Int}{S L:List Int}{σ:MS}:cI c d l (⟨38,n⟩::r) S L σ r S L σ:= .nx (DT rfl)
theorem cI.rk{c:XC}{d:Nat}{l r r1:List ai}{n:Int}{S L S1 L1:List Int}{σ aR:MS}(h:cI c d l (⟨38,n⟩::r) S L σ r1 S1 L1 aR):cI c d l r S L σ r1 S1 L1 aR:=by
 intro g o k hr;obtain⟨g1,k1,h1⟩:=h g o k hr;obtain⟨g2,rfl⟩:=nO h1;rw[ke (DT rfl)]at h1;obtain⟨k2,h2,_⟩:=iL h1;exact⟨g2,k2,h2⟩
theorem dJ.rk{c:XC}{d:Nat}{l r:List ai}{n:Int}{S L:List Int}{σ:MS}{o:Oc}(h:dJ c d l (⟨38,n⟩::r) S L σ o):dJ c d l r S L σ o:=by
 obtain⟨g1,k1,h1⟩:=h;obtain⟨g2,rfl⟩:=nO h1;rw[ke (DT rfl)]at h1;obtain⟨k2,h2,_⟩:=iL h1;exact⟨g2,k2,h2⟩
theorem Jf{a b:List ai}{n:Int}(hu:(bQ (a++⟨38,n⟩::b)).Nodup):after (a++⟨38,n⟩::b) n=some b:=by
 rw[wV,after,if_pos ⟨rfl,rfl⟩];intro i hi kN;rw[nY,aqE]at hu;exact hu.2.2 n (qA.2 ⟨i,hi,kN⟩) n (qA.2 ⟨⟨38,n⟩,by simp,rfl,rfl⟩) rfl
theorem cI.jump{c:XC}{d:Nat}{l a b r:List ai}{n:Int}{S L:List Int}{σ:MS}(hl:l=a++⟨38,n⟩::b)(hu:(bQ l).Nodup):cI c d l (⟨24,n⟩::r) S L σ b S L σ:=
 .nx (n:=1) (by subst hl;rw[vZ rfl,Jf hu];rfl)
theorem cI.Fp{c:XC}{d:Nat}{l a b r:List ai}{n v:Int}{S L:List Int}{σ:MS}(hl:l=a++⟨38,n⟩::b)(hu:(bQ l).Nodup)(hv:ar v=0):cI c d l (⟨25,n⟩::r) (v::S) L σ b S L σ:=
 .nx (n:=1) (by subst hl;rw[sN rfl,Nx.zero,if_pos hv,Jf hu];rfl)
theorem cI.Fq{c:XC}{d:Nat}{l r:List ai}{n v:Int}{S L:List Int}{σ:MS}(hv:ar v≠0):cI c d l (⟨25,n⟩::r) (v::S) L σ r S L σ:=
 .nx (n:=1) (by rw[sN rfl,Nx.zero,if_neg hv])
theorem dJ.bH{c:XC}{d:Nat}{l r:List ai}{i:ai}{S L:List Int}{σ:MS}{e:Int}(hf:Go.Ab.flat i.Op)(h:instJ c i S L σ=some (.bH e)):dJ c d l (i::r) S L σ (.bH e σ):=
 ⟨1,1,by rw[run,AL hf,show(bN c).J i S L σ=instJ c i S L σ from rfl,h];rfl⟩
theorem dJ.over{c:XC}{d:Nat}{l r:List ai}{i:ai}{S L:List Int}{σ aR:MS}(hf:Go.Ab.flat i.Op)(h:instJ c i S L σ=some (.over aR)):dJ c d l (i::r) S L σ (.over aR):=
 ⟨1,1,by rw[run,AL hf,show(bN c).J i S L σ=instJ c i S L σ from rfl,h];rfl⟩
theorem dJ.ret{c:XC}{d:Nat}{l r:List ai}{v x:Int}{S L:List Int}{σ:MS}:dJ c d l (⟨27,x⟩::r) (v::S) L σ (.ret v σ):=
 ⟨1,1,by rw[run,Kq rfl];rfl⟩
def ld(b:cM)(i:Int):List Int×Int:=if i<0\/(b.aO.length:Int)<=i then([],11)else pH (gv (cK b i))
theorem ZJ(b:cM)(hb:b.wf)(hR:∀l∈b.aO,mU l/\iJ l<=30000000)(i:Int):Pure prog 64 [.agg (b.enc.map .d),iD i] (.bA [PK (ld b i).1,iD (ld b i).2]):=by
 have hlen:=cM.F5 hb;by_cases hi:i<0\/(b.aO.length:Int)<=i
 ·have hc:ld b i=([],11):=by unfold ld;rw[if_pos hi]
  rw[hc];refine rn func64 ?_;simp[-cB,f64];intro bs
  repeat' (first
   | (with_reducible refine And.intro ?_ ?_)
   | (refine aw (λh=>?_) (λh=>?_)<;>(try simp at h)<;>(try simp[-cB, *]))
   | (with_reducible intro _))
  ·rfl
  ·omega
 ·have hc:ld b i=pH (gv (cK b i)):=by unfold ld;rw[if_neg hi]
  rw[hc];have kr:i.toNat<b.aO.length:=by omega
  obtain⟨h1,h2⟩:=hR b.aO[i.toNat] (apk kr);have Pl:cK b i=(bl b.aO[i.toNat] 0).1++ [⟨1,0⟩,⟨27,0⟩]:=by
   unfold cK;rw[if_pos (by unfold fM;omega),akC kr];rfl
  have bd:=nq b.aO[i.toNat] 0;have hl:(cK b i).length<=1000000000:=by rw[Pl];simp;omega
  have hg:=Hw b.aO[i.toNat] h1 h2;rw[<-Pl]at hg;have ha:=abV (cK b i) (by omega);have hp:(gv (cK b i)).length<=(cK b i).length:=BP _ _;have hs:=MO (gv (cK b i)) (by omega);refine rn func64 ?_;simp[-cB,f64];intro bs;have qj:¬i<0:=by omega
  have Pj:¬(b.aO.length:Int)<=i:=by omega
  simp[-cB,qj,Pj,akC kr];refine⟨by omega,?_⟩;refine pC hg ?_;simp;refine pC ha ?_;simp;refine pC hs ?_;simp
def wZ(b:cM)(i:Nat):Bool:=
 (decide (jS (b.aO[i]?.getD []) 65<=32)&&iq b.Tables (b.Tables.aL[i]?.getD 0) (b.aO[i]?.getD []))&&(!lW 12 (b.aO[i]?.getD [])||ly b.Tables i)&&(!lW 13 (b.aO[i]?.getD [])||yE b.Tables i)
def fE(b:cM):Bool:=fD b.Tables&&decide (b.aO.length=b.Tables.Params.length)&&(List.range b.aO.length).all (wZ b)
theorem P3(b:cM)(hb:b.wf):Pure prog 26 [.agg (b.enc.map .d)] (oD (fE b)):=by
 have ht:=cM.C5 hb;have hlen:=cM.F5 hb;have ahM:=aq.zk ht;have dc:=Vr b.Tables ht;obtain⟨R,hR⟩:∃R,fE b=R:=⟨_,rfl⟩
 have kT:=hR;unfold fE at kT;rw[hR];cases hf:fD b.Tables with
 | false=>
   rw[hf]at kT dc;simp at kT;refine rn func26 ?_;simp[-cB,f26];intro bs
   repeat' (first
    | (with_reducible refine And.intro ?_ ?_)
    | ((first|(refine aw (λh=>?_) (λh=>?_)<;>(try simp at h))|refine pC dc ?_|refine lC dc ?_|refine pG dc ?_)<;>(try simp[-cB, *,kT]))
    | (with_reducible intro _))
 | true=>
   have hd:=(lh hf).2.2.2.2.2.1;rw[hf]at kT dc;by_cases hL:b.aO.length=b.Tables.Params.length
   ·rw[show decide (b.aO.length=b.Tables.Params.length)=true by simpa using hL]at kT;simp only[ap1]at kT;refine rn func26 ?_;simp[-cB,f26];intro bs
    repeat' (first
     | (with_reducible refine And.intro ?_ ?_)
     | ((first|(refine aw (λh=>?_) (λh=>?_)<;>(try simp at h))|refine pC dc ?_|refine lC dc ?_|refine pG dc ?_)<;>(try simp[-cB, *,hL,ahM]))
     | (with_reducible intro _))
    refine av.cJ [1,3,4] b.aO.length (λi=> [(4,iD i)]) (λ_=> []) (λi=>∀j,j<i->wZ b j=true) (by rfl) (by simp) ?_;intro i hi hH;rcases apg hi with au|heq
    ·have dF:(i:Int)<b.aO.length:=by omega
     have bY:aM .i64 ((i:Int)+1):=iW;have hiL:i<b.Tables.aL.length:=by omega
     obtain⟨l,hl⟩:∃l,b.aO[i]=l:=⟨_,rfl⟩
     obtain⟨n,hn⟩:∃n,b.Tables.aL[i]=n:=⟨_,rfl⟩
     obtain⟨w1,w2⟩:=cM.RF hb l (hl ▸ apk au);have FF:=aq.Lm ht n (hn ▸ apk hiL);have iE:=PW b.Tables ht n FF l w2 w1;have Ho:=Jd 12 _ l (aps _) w2 w1;have af7:=Jd 13 _ l (aps _) w2 w1;have hca:=ZE b.Tables ht i;have hru:=ab1 b.Tables ht i;have hg:wZ b i=((decide (jS l 65<=32)&&iq b.Tables n l)&&(!lW 12 l||ly b.Tables i)&&(!lW 13 l||yE b.Tables i)):=by
      unfold wZ;rw[akC au,hl,akC hiL,hn];rfl
     generalize (decide (jS l 65<=32)&&iq b.Tables n l)=B1 at *;generalize lW 12 l=B2 at *;generalize ly b.Tables i=B3 at *;generalize lW 13 l=B4 at *;generalize yE b.Tables i=B5 at *;have iU:wZ b i=false->R=false:=λh=>by
      rw[<-kT,List.all_eq_false];exact⟨i,by simpa using au,by simp[h]⟩
     have pI:wZ b i=true->∀j,j<i+1->wZ b j=true:=λh j hj=>by
      rcases apg (Nat.le_of_lt_succ hj)with h1|rfl
      ·exact hH j h1
      ·exact h
     rw[hg]at iU pI;clear hg hH kT hR hL;simp[-cB,au,dF,hl];refine av.bT [oD B1,oD B2,oD B3,oD B4,oD B5] aS (by kernel_rfl) (by rfl) ?_;simp[iE.ok,Ho.ok,hca.ok,af7.ok,hru.ok,hiL,hn];clear iE Ho hca af7 hru dc;cases B1<;>cases B2<;>cases B3<;>cases B4<;>cases B5<;>simp at iU pI⊢<;>first|exact iU|exact⟨bY,au,pI⟩
    ·simp[heq];rw[<-kT,apd];intro j hj;exact hH j (by rw[heq];simpa using hj)
   ·rw[show decide (b.aO.length=b.Tables.Params.length)=false by simpa using hL]at kT;simp at kT;have iT:((b.aO.length:Int) !=(b.Tables.Params.length:Int))=true:=by simp;omega
    refine rn func26 ?_;simp[-cB,f26];intro bs
    repeat' (first
     | (with_reducible refine And.intro ?_ ?_)
     | ((first|(refine aw (λh=>?_) (λh=>?_)<;>(try simp at h))|refine pC dc ?_|refine lC dc ?_|refine pG dc ?_)<;>(try simp[-cB, *,hL,kT,iT]))
     | (with_reducible intro _))
    exact absurd (by omega) hL
def stM(b:cM):Nat->List Int×List Int
 | 0=>([],[])
 | i+1=>((stM b i).1++ [((stM b i).2.length:Int)],(stM b i).2++(ld b i).1)
def qH(b:cM):Nat->Nat->Int
 | 0,_=>0
 | n+1,i=>if(ld b i).2=0 then qH b n (i+1)else(ld b i).2
def fu(b:cM):al×Int:=
 if fE b=false then(al.zero,18)
 else if qH b b.aO.length 0≠0 then(al.zero,qH b b.aO.length 0)
 else if 65536<(stM b b.aO.length).2.length then(al.zero,3)
 else(⟨b.Tables,(stM b b.aO.length).1,(stM b b.aO.length).2⟩,0)
theorem KC(ks:List Nat):∀(a b:List V),V.dK ks (a++b)=(V.dK ks a&&V.dK ks b)
 | [],b=>by simp[V.dK]
 | x::a,b=>by simp[V.dK,KC ks a b,ary]
theorem aeB(l:List ai):(pH l).1.length<=3 *l.length:=by
 obtain⟨z,hz,hf,_⟩:=zB (3 *l.length+1) (kH l) (Ky l) (by simp[kH];omega);rw[BQ]at hf;have nS:z.length=l.length:=by simpa using congrArg List.length hf
 have:=Ht z 0 z;unfold pH;split
 ·simp
 ·rw[hz];simp only;split
  ·simp
  ·split
   ·simp
   ·simp only;omega
theorem P4(b:cM)(hR:∀l∈b.aO,mU l/\iJ l<=30000000)(i:Int):(ld b i).1.length<=2000000000:=by
 unfold ld;split
 ·simp
 ·rename_i hi;have kr:i.toNat<b.aO.length:=by omega
  obtain⟨_,h2⟩:=hR b.aO[i.toNat] (apk kr);have h1:=aeB (gv (cK b i));have hp:(gv (cK b i)).length<=(cK b i).length:=BP _ _;have bd:=nq b.aO[i.toNat] 0;have Pl:cK b i=(bl b.aO[i.toNat] 0).1++ [⟨1,0⟩,⟨27,0⟩]:=by
   unfold cK;rw[if_pos (by unfold fM;omega),akC kr];rfl
  have hl:(cK b i).length<=500000000:=by rw[Pl];simp;omega
  omega
theorem ZK(b:cM)(hR:∀l∈b.aO,mU l/\iJ l<=30000000):∀i:Nat,(stM b i).1.length=i/\(stM b i).2.length<=2000000000 *i
 | 0=>⟨rfl,api _⟩
 | i+1=>by
   obtain⟨h1,h2⟩:=ZK b hR i;have h3:=P4 b hR i;rw[stM];constructor
   ·simp[h1]
   ·simp only[aph];omega
theorem Ic(b:cM)(hb:b.wf)(hR:fE b=true->∀l∈b.aO,mU l/\iJ l<=30000000):Pure prog 27 [.agg (b.enc.map .d)] (.bA [.agg ((fu b).1.enc.map .d),iD (fu b).2]):=by
 have uG:=P3 b hb;obtain⟨S,hS⟩:∃S,fu b=S:=⟨_,rfl⟩
 have yG:=hS;unfold fu at yG;rw[hS];cases hr:fE b with
 | false=>
   rw[hr]at uG yG;simp at yG;refine rn func27 ?_;simp[-cB,f27];intro bs;refine pC uG ?_;simp;rw[<-yG];exact⟨rfl,rfl⟩
 | true=>
   replace hR:=hR hr
   have hn:b.aO.length<=2048:=by
    unfold fE at hr;simp only[apb,decide_eq_true_eq]at hr;have:=(lh hr.1.1).2.2.2.2.2.2.1;omega
   rw[hr]at uG yG;simp only[Bool.true_eq_false,if_false]at yG;have hfE:qH b (b.aO.length-0) 0=qH b b.aO.length 0:=rfl;obtain⟨E,hE⟩:∃E,qH b b.aO.length 0=E:=⟨_,rfl⟩
   rw[hE]at yG hfE;refine rn func27 ?_;simp[-cB,f27];intro bs;refine pC uG ?_;simp;intro bL;refine av.weaken (Wk.qh 4 15 5301 (e:=3) (k:=1) rfl rfl (by simp[keys])) ?_;refine av.weaken (Wk.qh 4 16 5302 (e:=5) (k:=1) rfl rfl (by simp[keys,aI.jA])) ?_;simp only[aI.jA,apF,List.map_nil,reduceIte,Nat.reduceEqDiff];refine av.cJ [1,2,4,5] b.aO.length (λi=> [(5,iD i)]) (λi=> [(5301,.row 3 1 (dd (aA (stM b i).1))),(5302,.row 5 1 (dd (gk (stM b i).2)))]) (λi=>qH b (b.aO.length-i) i=E) (by rfl) (by simp[stM,gk,hE,KC]) ?_;intro i hi hH;obtain⟨l1,l2⟩:=ZK b hR i;rcases apg hi with au|heq
   ·have hco:=ZJ b hb hR i;have bY:aM .i64 ((i:Int)+1):=iW;have nF:=P4 b hR i;have bV:stM b (i+1)=((stM b i).1++ [((stM b i).2.length:Int)],(stM b i).2++(ld b i).1):=rfl;obtain⟨c,hc⟩:∃c,ld b i=c:=⟨_,rfl⟩
    rw[hc]at hco nF bV;rw[show b.aO.length-i=(b.aO.length-(i+1))+1 by omega,qH,hc]at hH;simp[-cB,au];refine pC hco ?_;by_cases he:c.2=0
    ·rw[if_pos he]at hH;have k1:V.dU 5301 (List.map V.d b.Tables.enc++ [V.rv 5301,V.rv 5302])=List.map V.d b.Tables.enc++ [V.any,V.rv 5302]:=rfl;have k2:V.dU 5302 (List.map V.d b.Tables.enc++ [V.rv 5301,V.rv 5302])=List.map V.d b.Tables.enc++ [V.rv 5301,V.any]:=rfl;have k3:(List.map V.d b.Tables.enc++ [V.any,V.rv 5302]).take 15=List.map V.d b.Tables.enc:=rfl;have k4:(List.map V.d b.Tables.enc++ [V.any,V.rv 5302]).drop 16=[V.rv 5302]:=rfl;have k5:(List.map V.d b.Tables.enc++ [V.rv 5301,V.any]).take 16=List.map V.d b.Tables.enc++ [V.rv 5301]:=rfl;have k6:(List.map V.d b.Tables.enc++ [V.rv 5301,V.any]).drop 17=[]:=rfl;simp[au,he,bY,bV,hH,l1,k1,k2,k3,k4,k5,k6];exact⟨by omega,⟨BT _,by omega⟩,by simp[KC]⟩
    ·rw[if_neg he]at hH;rw[<-hH,if_pos he]at yG;simp[au,he];rw[<-yG];exact⟨rfl,rfl⟩
   ·have hE0:E=0:=by rw[heq,Nat.sub_self,qH]at hH;exact hH.symm
    rw[if_neg (by rw[hE0];simp)]at yG;obtain⟨st,Wn⟩:∃st,stM b b.aO.length=st:=⟨_,rfl⟩
    rw[Wn]at yG;rw[heq,Wn]at l1 l2;have af8:(65536:Int)<(st.2.length:Int)↔65536<st.2.length:=by omega
    by_cases hL:65536<st.2.length
    ·rw[if_pos hL]at yG;simp[heq,Wn,hL,af8];rw[<-yG];exact⟨rfl,rfl⟩
    ·rw[if_neg hL]at yG;simp[heq,Wn,hL,af8];rw[<-yG];refine⟨?_,rfl⟩;simp[aq.enc,al.enc];rfl
def sA(a:List Int)(n:Nat):List Int:=(List.range n).map λi=>if i<a.length then ar (a[i]?.getD 0)else 0
theorem Wo(a:List Int)(n:Nat):sA a (n+1)=sA a n++ [if n<a.length then ar (a[n]?.getD 0)else 0]:=by
 unfold sA;rw[aqu,aqd];rfl
theorem ZL(a:List Int)(n:Nat):(sA a n).length=n:=by simp[sA]
theorem Jg(s:al)(r:Nat)(e:Int)(n:Nat)(he:s.Entry[r]?=some e)(hn:s.Tables.aL[r]?=some (n:Int))(Cm:n≤1000000)(a:List Int)(base:Int):
  Pure prog 31 [.agg (s.enc.map .d),iD r,.d (.sl (aA a)),iD base] (.agg ((aG.mk r e base (sA a n)).enc.map .d)):=by
 obtain⟨nD,x6⟩:=apa.1 he;obtain⟨qp,Am⟩:=apa.1 hn;refine rn func31 ?_;simp[-cB,f31];intro bs;simp[x6,nD];intro bL;refine av.weaken (Wk.qh 9 3 5301 (e:=3) (k:=1) rfl rfl (by simp[keys])) ?_;simp only[aI.jA,apF,List.map_nil,reduceIte,Nat.reduceEqDiff];refine av.cJ [1,2,4,8,9,10] n (λi=> [(10,iD i)]) (λi=> [(5301,.row 3 1 (dd (aA (sA a i))))]) (λ_=>True) (by rfl) (by simp[sA]) ?_;intro i hi _;have mj:=Wo a i;have Lx:=ZL a i;rcases apg hi with au|heq
 ·have bY:aM .i64 ((i:Int)+1):=iW;have dF:(i:Int)<n:=by omega
  by_cases hA:i<a.length
  ·have Ek:(i:Int)<a.length:=by omega
   rw[if_pos hA,akC hA,ap3]at mj;have hw:=aQ a[i];simp[-cB,au,dF,Am,qp,hA,Ek];refine pC hw ?_;simp[au,bY,mj,Lx];omega
  ·have Ek:¬(i:Int)<a.length:=by omega
   rw[if_neg hA]at mj;simp[au,dF,Am,qp,hA,Ek,bY,mj,Lx];omega
 ·simp[heq,Am,qp];rfl
def qg(s:al)(w:aj)(r:Int)(a:List Int)(env:dx):ae:=
 if r<0\/(s.Tables.Params.length:Int)<=r then⟨[],[],env,⟨11,w,⟨#[]⟩,0,false,0⟩,true⟩
 else if(a.length:Int)≠aB s.Tables.Params r then⟨[],[],env,⟨7,w,⟨#[]⟩,0,false,0⟩,true⟩
 else⟨[⟨r,aB s.Entry r,0,sA a (aB s.Tables.aL r).toNat⟩],[],env,⟨0,w,⟨#[]⟩,0,false,0⟩,false⟩
theorem UM(s:al)(w:aj)(r:Int)(a:List Int)(env:dx)(h1:s.Entry.length=s.Tables.Params.length)(h2:s.Tables.aL.length=s.Tables.Params.length)(h3:∀n∈s.Tables.aL,0≤n∧n≤1000000):
  Pure prog 12 [.agg (s.enc.map .d),.agg (w.enc.map .d),iD r,.d (.sl (aA a)),.agg (env.enc.map .d)] (.agg ((qg s w r a env).enc.map .d)):=by
 obtain⟨R,hR⟩:∃R,qg s w r a env=R:=⟨_,rfl⟩
 have kT:=hR;unfold qg at kT;rw[hR];by_cases hr:r<0\/(s.Tables.Params.length:Int)<=r
 ·rw[if_pos hr]at kT;subst kT;have uG:(decide (r<0)||decide ((s.Tables.Params.length:Int)<=r))=true:=by simpa using hr
  refine Pure.run func12 rfl (by simp[f12,dx.enc,aj.enc]) ?_;simp[-cB,f12,dx.enc,aj.enc];intro bs bL;simp[uG,dx.enc,aj.enc];rfl
 ·rw[if_neg hr]at kT;have nD:¬r<0:=by omega
  have qp:¬(s.Tables.Params.length:Int)<=r:=by omega
  have kr:r.toNat<s.Tables.Params.length:=by omega
  have SD:(r.toNat:Int)=r:=by omega
  have hP:aB s.Tables.Params r=s.Tables.Params[r.toNat]:=by unfold aB;rw[akC kr];rfl
  have hEn:aB s.Entry r=s.Entry[r.toNat]'(by omega):=by unfold aB;rw[akC (by omega)];rfl
  have YQ:aB s.Tables.aL r=s.Tables.aL[r.toNat]'(by omega):=by unfold aB;rw[akC (by omega)];rfl
  obtain⟨b1,b2⟩:=h3 (s.Tables.aL[r.toNat]'(by omega)) (apk _);have hZ:=Jg s r.toNat (s.Entry[r.toNat]'(by omega)) (s.Tables.aL[r.toNat]'(by omega)).toNat (akC _) (by rw[akC (by omega)];congr 1;omega) (by omega) a 0;rw[SD]at hZ;by_cases hA:(a.length:Int)=aB s.Tables.Params r
  ·rw[if_neg (by simpa using hA)]at kT;rw[hEn,YQ]at kT;rw[hP]at hA;subst kT;refine Pure.run func12 rfl (by simp[f12,dx.enc,aj.enc,nD,qp]) ?_;simp[-cB,f12,dx.enc,aj.enc,nD,qp];intro bs bL;simp[nD,qp,kr,hA,akC kr];refine⟨by omega,?_⟩;refine pC hZ ?_;simp[aG.enc];rfl
  ·rw[if_pos hA]at kT;rw[hP]at hA;subst kT;refine Pure.run func12 rfl (by simp[f12,dx.enc,aj.enc,nD,qp]) ?_;simp[-cB,f12,dx.enc,aj.enc,nD,qp];intro bs bL;simp[nD,qp,kr,hA,akC kr];exact⟨by omega,rfl⟩
theorem UN(s:al)(w:aj)(r:Int)(a:List Int)(env:dx)(h1:s.Entry.length=s.Tables.Params.length)(h2:s.Tables.aL.length=s.Tables.Params.length)(h3:∀n∈s.Tables.aL,0≤n∧n≤1000000)
  (ajR:∀(r:Nat) (e:Int) (n:Nat),s.Entry[r]?=some e->s.Tables.aL[r]?=some (n:Int)->n<=1000000->(a.length:Int)=aB s.Tables.Params r->Pure prog 30 [.agg (s.enc.map .d),iD r,.d (.sl (aA a)),iD 0] (.agg ((aG.mk r e 0 (sA a n)).enc.map .d))):
  Pure prog 11 [.agg (s.enc.map .d),.agg (w.enc.map .d),iD r,.d (.sl (aA a)),.agg (env.enc.map .d)] (.agg ((qg s w r a env).enc.map .d)):=by
 obtain⟨R,hR⟩:∃R,qg s w r a env=R:=⟨_,rfl⟩
 have kT:=hR;unfold qg at kT;rw[hR];by_cases hr:r<0\/(s.Tables.Params.length:Int)<=r
 ·rw[if_pos hr]at kT;subst kT;have uG:(decide (r<0)||decide ((s.Tables.Params.length:Int)<=r))=true:=by simpa using hr
  refine Pure.run func11 rfl (by simp[f11,dx.enc,aj.enc]) ?_;simp[-cB,f11,dx.enc,aj.enc];intro bs bL;simp[uG,dx.enc,aj.enc];rfl
 ·rw[if_neg hr]at kT;have nD:¬r<0:=by omega
  have qp:¬(s.Tables.Params.length:Int)<=r:=by omega
  have kr:r.toNat<s.Tables.Params.length:=by omega
  have SD:(r.toNat:Int)=r:=by omega
  have hP:aB s.Tables.Params r=s.Tables.Params[r.toNat]:=by unfold aB;rw[akC kr];rfl
  have hEn:aB s.Entry r=s.Entry[r.toNat]'(by omega):=by unfold aB;rw[akC (by omega)];rfl
  have YQ:aB s.Tables.aL r=s.Tables.aL[r.toNat]'(by omega):=by unfold aB;rw[akC (by omega)];rfl
  obtain⟨b1,b2⟩:=h3 (s.Tables.aL[r.toNat]'(by omega)) (apk _);by_cases hA:(a.length:Int)=aB s.Tables.Params r
  ·have hZ:=ajR r.toNat (s.Entry[r.toNat]'(by omega)) (s.Tables.aL[r.toNat]'(by omega)).toNat (akC _) (by rw[akC (by omega)];congr 1;omega) (by omega) (by rw[SD];exact hA)
   rw[SD]at hZ;rw[if_neg (by simpa using hA)]at kT;rw[hEn,YQ]at kT;rw[hP]at hA;subst kT;refine Pure.run func11 rfl (by simp[f11,dx.enc,aj.enc,nD,qp]) ?_;simp[-cB,f11,dx.enc,aj.enc,nD,qp];intro bs bL;simp[nD,qp,kr,hA,akC kr];refine⟨by omega,?_⟩;refine pC hZ ?_;simp[aG.enc];rfl
  ·rw[if_pos hA]at kT;rw[hP]at hA;subst kT;refine Pure.run func11 rfl (by simp[f11,dx.enc,aj.enc,nD,qp]) ?_;simp[-cB,f11,dx.enc,aj.enc,nD,qp];intro bs bL;simp[nD,qp,kr,hA,akC kr];exact⟨by omega,rfl⟩
def oY(e:Int):V:= .d (.uB 77 true [.v (.int .i64 e)])
def AS(m:ae)(e:Int):ae:={m with de:=true,Told:={m.Told with s9:=e}}
theorem P5(m out:ae)(b4 b6:Nat)(px:Option Int):jF prog 32 [.bp 4 0,.bp 6 0] [(4,.box (b4+1) 50 (m.enc.map .d)),(6,.box (b6+1) 50 (out.enc.map .d))] (px.map oY)
  (λr L'=>r=none/\L'=[(4,.box (b4+1) 50 (m.enc.map .d)),(6,.box (b6+1) 50 ((match px with|none=>out|some e=>AS m e).enc.map .d))]):=by
 refine jF.run func32 rfl (by simp[f32]) (by simp[f32]) ?_;simp only[f32];refine S8.rec (d:=5) ?_ rfl (by decide) rfl (l:=[]) rfl rfl (by rfl) ?_
 ·intro ρ w;simp[execOp,resolve,invoke];rfl
 refine av.edq (hs:=[4,6]) (by decide) (av.vF ?_);cases px with
 | none=>
   simp[-cB,Vu]
 | some e=>
   simp[-cB,Vu,oY];intro bs;refine av.aT [Q3,Q3,Q0,none,arF,arF,none] [] aS (by kernel_rfl) ?_;simp[AS,ae.enc,lS.enc]
section
variable {P : Program} {n : Nat} {Q : AX -> St -> Prop}
def BW(P:Program)(n:Nat)(c:Code)(s s':St)(e0:Exit):Prop:=∀fo m a w,G fo n m s a w->c.wpIn (wr fo.r) 0 P (λe a' w'=>e=e0/\G fo n m s' a' w'/\Step w (own m) w' (own m)) a w
theorem BW.seq{x y s s1 s2 e}(h1:BW P n x s s1 .normal)(h2:BW P n y s1 s2 e):BW P n (.seq x y) s s2 e:=λfo m a w g=>by
 refine wpIn_seq (Code.wpIn_mono (λe1 a1 w1 hp=>?_) (h1 fo m a w g));obtain⟨rfl,g1,st⟩:=hp;exact Code.wpIn_mono (λe2 a2 w2 ⟨h,g2,oS⟩=>⟨h,g2,st.trans oS⟩) (h2 fo m a1 w1 g1)
theorem BW.ret{s}:BW P n .ret s s .ret:=λfo m a w g=>wpIn_ret ⟨rfl,g,Step.refl w _⟩
theorem ab6 o(h:o.after= #[]):mu [o].toArray 1 (Array.replicate 1 false) [0]:=by
 refine .inr ⟨0,[],rfl,?_,rfl⟩;rw[mem_ready];exact⟨rfl,o,rfl,λe he=>by rw[h]at he;simp at he⟩
def se(P:Program)(f:FuncId)(args:List V)(L:aI)(x:V):Prop:=
 ∀fo m w (xs:Array Value),Inv fo m L w->ir w (OO fo m) m xs args->Calls P f xs w (λe w'=>∃v,e= .returned v/\aC w' (OO fo m) m v x/\Inv fo m L w'/\Step w (own m) w' (own m))
theorem se.of{f}{fn}{c}{args}{L}{s'}{ys}{c'}(hf:P.funcs[f]?=some fn)(hb:fn.body=some c)(hn:args.length≤fn.ntmps)
  (h:BW P fn.ntmps c ⟨eH 0 args,L⟩ s' .ret) (hL:s'.L=L) (hr:vk P s' fn.results.toList=some (ys,c')) (hc:c'):se P f args L (Be ys):=by
 intro fo m w xs hi hx;have key:∀fo,fo.D=[]->fo.r=none->fo.nm=false->Inv fo m L w->ir w (OO fo m) m xs args->Calls P f xs w (λe w'=>∃v,e= .returned v/\aC w' (OO fo m) m v (Be ys)/\Inv fo m L w'/\Step w (own m) w' (own m)):=by
  intro fo hD tO AB hi hx;refine callsIn_wide.1 (callsIn_of_wp_marks (n:=0) hf hb trivial ?_);have dW:(xs++Array.replicate (fn.ntmps-xs.size) undef).size=fn.ntmps:=by
   have:=hx.1;grind
  have g:G fo fn.ntmps m ⟨eH 0 args,L⟩ {tmps:=xs++Array.replicate (fn.ntmps-xs.size) undef,defers:=[]} w:=by
   refine⟨dW,?_,hi,hD.symm⟩;intro t y hy;obtain⟨h1,h2,h3⟩:=p7 hy;simp[ap2]at h2 h3;refine⟨by omega,?_⟩;have au:t<xs.size:=by rw[hx.1];exact h3
   have:(xs++Array.replicate (fn.ntmps-xs.size) undef).getD t undef=xs[t]:=by
    simp[Array.getD,au];omega
   rw[this];exact hx.2 t _ y (apy au) h2
  have h0:=h fo m _ w g;rw[tO]at h0;refine Code.wpIn_mono ?_ h0;rintro e a' w' ⟨rfl,g',st⟩;show LeavesInM Fence.wide 0 P fn a'.tmps _ a'.defers .returning w';rw[g'.defers,hD];refine tN (by simp) [] w' List.nodup_nil (by simp) (λw2 h1 h2 h3 h4 h5=>?_);have oS:Step w (own m) w2 (own m):=⟨h1.trans st.os,h2.trans st.tape,h3.trans st.output,apR st.size h4,λb hb ho=>(h5 b (by simp)).trans (st.block b hb ho),st.owned⟩
  have g2:=g'.others h4 (λb _ _=>h5 b (by simp));obtain⟨v,k1,k2⟩:=sr g2 hr hc;exact⟨v,k1,v,rfl,k2,by rw[<-hL];exact g2.inv,oS⟩
 exact(key ⟨fo.f,[],none,false⟩ rfl rfl rfl ⟨hi.nodup,hi.fI,hi.apart,hi.others,hi.ei,hi.holds,hi.ee⟩ hx).mono λ_ _ ⟨v,h1,h2,h3,h4⟩=>⟨v,h1,h2,⟨h3.nodup,h3.fI,h3.apart,h3.others,h3.ei,h3.holds,h3.ee⟩,h4⟩
def RW(P:Program)(n:Nat)(c:Code)(s:St)(e0:Exit)(K:St->Prop):Prop:=∃s',BW P n c s s' e0/\K s'
theorem RW.seq{x y s e K}(h:RW P n x s .normal (λs1=>RW P n y s1 e K)):RW P n (.seq x y) s e K:=by
 obtain⟨s1,h1,s2,h2,hK⟩:=h;exact⟨s2,h1.seq h2,hK⟩
theorem RW.ret{s K}(h:K s):RW P n .ret s .ret K:=⟨s,BW.ret,h⟩
theorem RW.draw{id l s K} us(hm:P.follows .mixedOrders=true)(cp:indep l=true)(hd:dG n l=true)(h:uT P l.toArray l s us K):RW P n (.region id l.toArray true) s .normal K:=by
 obtain⟨tr,s2,ht,hK⟩:=qW l s us h;refine⟨s2,?_,hK⟩;intro fo m a w g;refine wpIn_region_any hm ?_;exact wK ht cp hd (λa1 w1 g1 st=>⟨rfl,g1,st⟩) (λp hp=>(g.fr p.1 p.2 hp).1) l.toArray.size (Array.replicate l.toArray.size false) (List.range l.length) a {w with drawn:=w.drawn+1}
  (by simp) (λi hi _=>by grind) (zf g _)
theorem RW.one{id o s K} us(ha:o.after= #[])(cp:indep [o]=true)(hd:dG n [o]=true)(h:uT P [o].toArray [o] s us K):RW P n (.region id [o].toArray false) s .normal K:=by
 obtain⟨tr,s2,ht,hK⟩:=qW [o] s us h;refine⟨s2,?_,hK⟩;intro fo m a w g;refine wpIn_region ?_;have hk:=zf (l:=[o]) (tr:=tr) g w.drawn;have:=wK ht cp hd (R:=λe a' w'=>e= .normal/\G fo n m s2 a' w'/\Step w (own m) w' (own m)) (λa1 w1 g1 st=>⟨rfl,g1,st⟩) (λp hp=>(g.fr p.1 p.2 hp).1) 1 (Array.replicate 1 false) [0] a w
  (by simp) (λi hi _=>by grind) hk
 grind[mu.run,ab6]
def TG(P:Program)(rs:List ResultVar)(L:aI)(x:V)(s:St):Prop:=s.L=L/\match vk P s rs with
 | some (ys,c)=>c/\Be ys=x
 | none=>False
theorem se.run{f}{fn}{c}{args}{L}{x}(hf:P.funcs[f]?=some fn)(hb:fn.body=some c)(hn:args.length≤fn.ntmps)
  (h:RW P fn.ntmps c ⟨eH 0 args,L⟩ .ret (TG P fn.results.toList L x)):se P f args L x:=by
 obtain⟨s',h1,hL,h2⟩:=h;grind[se.of]
theorem qi.read{o}{c}{du}{f}{args}{x}{L}(L1 L2:aI)(aD:o.op= .call c)(hc:callee du c=some (f,args))(he:enters P f=true)(hL:L.Perm (L1++L2))
  (ho:V.dK (keys L1) args=true) (ig:L1.all (λp=>aV.on (keys L1) p.2)=true) (h:se P f args L1 x):qi P o du L x:=by
 classical
 intro fo m ρ w hi hr;obtain⟨xs,h1,h2⟩:=o9 (P:=P) aD hc he hr;refine .inr ⟨f,xs,h1,?_⟩;have pJ:∀x,x∈keys L↔x∈keys L1\/x∈keys L2:=by
  grind[keys]
 have gz:(keys L1).Nodup/\(keys L2).Nodup/\∀x,x∈keys L1->x∉keys L2:=by
  have hp:(keys L).Perm (keys L1++keys L2):=by grind[keys]
  have:=hp.nodup_iff.1 hi.nodup;grind
 rw[apd]at ig
 let m1:Nat->Option Value:=λh=>if h∈keys L1 then m h else none
 have mg:∀h x,m1 h=some x->m h=some x/\h∈keys L1:=by
  grind
 have ot:∀h x,h∈keys L1->m h=some x->m1 h=some x:=λh x hh hx=>by grind
 let gT:FO:=λb=>fo b\/∃h x,h∈keys L2/\m h=some x/\dq x b
 have oT:∀b,OO gT m1 b↔OO fo m b:=by
  intro b;constructor
  ·rintro(⟨h,x,hx,hb⟩|h|⟨h,x,hh,hx,hb⟩)
   ·exact .inl ⟨h,x,(mg h x hx).1,hb⟩
   ·exact .inr h
   ·exact .inl ⟨h,x,hx,hb⟩
  ·rintro(⟨h,x,hx,hb⟩|h)
   ·rcases(pJ h).1 (hi.fI h x hx)with hh|hh
    ·exact .inl ⟨h,x,ot h x hh hx,hb⟩
    ·exact .inr (.inr ⟨h,x,hh,hx,hb⟩)
   ·exact .inr (.inl h)
 have qj:Inv gT m1 L1 w:=by
  refine⟨gz.1,λh x hx=>(mg h x hx).2,?_,?_,?_,?_,hi.ee.mono (bK.refl w _) (λb _ hb=>(oT b).1 hb)⟩
  ·intro h h' x x' b hx cH hb dn;exact hi.apart h h' x x' b (mg h x hx).1 (mg h' x' cH).1 hb dn
  ·rintro h x b hx hb (hf|⟨h',x',hh',cH,dn⟩)
   ·exact hi.others h x b (mg h x hx).1 hb hf
   ·have:=hi.apart h h' x x' b (mg h x hx).1 cH hb dn;grind
  ·rintro b (hf|⟨h',x',hh',cH,dn⟩)
   ·exact hi.ei b hf
   ·exact hi.lt cH dn
  ·intro h r hr;obtain⟨x,hx,hh⟩:=hi.holds h r (hL.mem_iff.2 (apD _ hr));have hk:h∈keys L1:=apf.2 ⟨_,hr,rfl⟩;exact⟨x,ot h x hk hx,(hh.on ot (ig _ hr)).mono (λ_ _=>rfl) (bK.refl w _) (λb _ hb=>(oT b).1 hb) (λ_ _ e=>e)⟩
 have fC:ir w (OO gT m1) m1 xs args:=by
  refine⟨h2.1,λj v y hv hy=>?_⟩;exact((h2.2 j v y hv hy).on ot (fS ho y (ape hy))).mono (bK.refl w _) (λb _ hb=>(oT b).1 hb) (λ_ _ e=>e)
 have eW:∀b,own m1 b->own m b:=by
  rintro b ⟨h,x,hx,hb⟩;exact⟨h,x,(mg h x hx).1,hb⟩
 refine(h gT m1 w xs qj fC).mono ?_;rintro e w' ⟨v,rfl,hv,cm,fK⟩;have cQ:bK w (OO fo m) w':=⟨fK.size,λb hb iU=>fK.block b hb (λh=>iU (.inl (eW b h)))⟩
 refine⟨v,rfl,hv.mono (bK.refl w' _) (λb _ hb=>(oT b).2 hb) (λh x hx=>(mg h x hx).1),⟨hi.nodup,hi.fI,hi.apart,hi.others,λb hb=>apt (hi.ei b hb) fK.size,?_,hi.ee.mono cQ (λ_ _ h=>h)⟩,
  ⟨fK.os,fK.tape,fK.output,fK.size,λb hb CL=>fK.block b hb (λh=>CL (eW b h)),λb _ hb=>hb⟩⟩
 intro h r hr;rcases apr.1 (hL.mem_iff.1 hr)with tB|tB
 ·obtain⟨z,hz,Dq⟩:=cm.holds h r tB;exact⟨z,(mg h z hz).1,Dq.mono (λ_ _=>rfl) (bK.refl w' _) (λb _ hb=>(oT b).2 hb) (λh x hx=>(mg h x hx).1)⟩
 ·obtain⟨z,hz,Dq⟩:=hi.holds h r hr;have hk:h∈keys L2:=apf.2 ⟨_,tB,rfl⟩;refine⟨z,hz,Dq.mono (λb hb=>fK.block b (hi.lt hz hb) (λCL=>?_)) cQ (λ_ _ h=>h) (λ_ _ e=>e)⟩;obtain⟨h',y',nr,dn⟩:=CL;have:=hi.apart h h' z y' b hz (mg h' y' nr).1 hb dn;grind
theorem kL.read(hs:List Nat){f args x}{L L1:aI}(h:se P f args L1 x)(hL:L.filter (λp=>hs.contains p.1)=L1)(he:enters P f=true)(ho:V.dK (keys L1) args=true)(ig:L1.all (λp=>aV.on (keys L1) p.2)=true):kL P f args L x:=
 λ_ _ _ aD hc=>qi.read L1 (L.filter λp=>!hs.contains p.1) aD hc he (by subst hL;exact(ap5 _ L).symm) ho ig h
theorem ay.Wp{ops}{o:Oper}{rest}{c}{s:St}{f}{args}{x}{L1}(hs:List Nat)(aD:o.op= .call c)(h:se P f args L1 x)(hc:callee s.ev c=some (f,args))(hg:o.guard=none)
  (hd:∀d,o.dst=some d->d<n) (hr:dG n rest=true) (he:enters P f=true) (hL:s.L.filter (λp=>hs.contains p.1)=L1) (ho:V.dK (keys L1) args=true) (ig:L1.all (λp=>aV.on (keys L1) p.2)=true)
  (k:∀bs,eM P ops rest (s.put o.dst x) bs [] (KK P n ops Q)):ay P n ops (o::rest) s Q:=
 ay.Io hg hd (qi.read L1 (s.L.filter λp=>!hs.contains p.1) aD hc he (by subst hL;exact(ap5 _ s.L).symm) ho ig h) (bq rest _ [] hr k)
end
def V.cg(hx:List (Nat×Value)):V->V
 | .rv g=>match hx.lookup g with
   | some x=> .kn (λv=>v=x)
   | none=> .rv g
 | y=>y
def aV.cg(hx:List (Nat×Value)):aV->aV
 | .box b ty cs=> .box b ty (cs.map (V.cg hx))
 | r=>r
def db(hx:List (Nat×Value))(L:aI):aI:=L.map λp=>(p.1,p.2.cg hx)
theorem vP hx L:keys (db hx L)=keys L:=by simp[db]
theorem Gp{hx:List (Nat×Value)}{g x}(h:hx.lookup g=some x):(g,x)∈hx:=KN h
theorem aC.cg{w O m hx}(hm:∀p∈hx,m p.1=some p.2){v c}(h:aC w O m v c):aC w O m v (V.cg hx c):=by
 cases c with
 | rv g=>
   simp[V.cg];split
   ·rename_i x cH;cases h with
    | rv _ _ e e1=>
      have:=hm _ (Gp cH);rw[e]at this;exact .kn _ _ (ao9 this)
   omega
 | _=>exact h
theorem aC.El{w O m hx}(hm:∀p∈hx,m p.1=some p.2){v c}(h1:v.oneCell'=true)(h:aC w O m v (V.cg hx c)):aC w O m v c:=by
 cases c with
 | rv g=>
   simp[V.cg]at h;split at h
   ·rename_i x cH;cases h with
    | kn _ _ e=>exact .rv g v (by rw[e];exact hm _ (Gp cH)) h1
   omega
 | _=>exact h
theorem aV.Holds.cg{w O m hx}(hm:∀p∈hx,m p.1=some p.2){x}{r:aV}(h:r.Holds w O m x):(r.cg hx).Holds w O m x:=by
 cases r with
 | box b ty cs=>
   obtain⟨bb,h1,cur,h2,h3,h4,h5,h6⟩:=h;refine⟨bb,h1,cur,h2,h3,by grind,h5,λj v c hv hc=>?_⟩;rw[apc]at hc;obtain⟨c0,yh,rfl⟩:=ao8.1 hc;exact(h6 j v c0 hv yh).cg hm
 | row ty k xs=>exact h
 | env A=>exact h
 | mp es=>exact h
theorem aV.Holds.El{w O m hx}(hm:∀p∈hx,m p.1=some p.2){x}{r:aV}(h:(r.cg hx).Holds w O m x):r.Holds w O m x:=by
 cases r with
 | box b ty cs=>
   obtain⟨bb,h1,cur,h2,h3,h4,h5,h6⟩:=h;refine⟨bb,h1,cur,h2,h3,by simpa using h4,h5,λj v c hv hc=>?_⟩;exact(h6 j v (V.cg hx c) hv (by rw[apc,hc];rfl)).El hm (h5 j v hv)
 | row ty k xs=>exact h
 | env A=>exact h
 | mp es=>exact h
theorem Inv.cg{fo m w hx}(hm:∀p∈hx,m p.1=some p.2){L1 L2}(h:Inv fo m (L1++L2) w):Inv fo m (db hx L1++L2) w:=by
 have hk:keys (db hx L1++L2)=keys (L1++L2):=by
  grind[vP,keys]
 refine⟨by rw[hk];exact h.nodup,λi x hi=>by rw[hk];exact h.fI i x hi,h.apart,h.others,h.ei,λi r hr=>?_,h.ee⟩;rcases apr.1 hr with hr|hr
 ·obtain⟨p,hp,he⟩:=apf.1 hr;cases he;obtain⟨x,iR,hh⟩:=h.holds p.1 p.2 (apD _ hp);exact⟨x,iR,hh.cg hm⟩
 ·exact h.holds i r (apO _ hr)
theorem Inv.El{fo m w hx}(hm:∀p∈hx,m p.1=some p.2){L1 L2}(h:Inv fo m (db hx L1++L2) w):Inv fo m (L1++L2) w:=by
 have hk:keys (db hx L1++L2)=keys (L1++L2):=by
  grind[vP,keys]
 refine⟨by rw[<-hk];exact h.nodup,λi x hi=>by rw[<-hk];exact h.fI i x hi,h.apart,h.others,h.ei,λi r hr=>?_,h.ee⟩;rcases apr.1 hr with hr|hr
 ·obtain⟨x,iR,hh⟩:=h.holds i (r.cg hx) (apD _ (apf.2 ⟨(i,r),hr,rfl⟩));exact⟨x,iR,hh.El hm⟩
 ·exact h.holds i r (apO _ hr)
section
variable {P : Program} {n : Nat} {Q : AX -> St -> Prop}
def xu(L:aI):List Nat:=L.filterMap λp=>match p.2 with|.box (_+1) _ _=>some p.1|_=>none
theorem Jh hx L:xu (db hx L)=xu L:=by
 unfold xu
 induction L with
 | nil=>rfl
 | cons p L ih=>
   obtain⟨k,r⟩:=p;have e:db hx ((k,r)::L)=(k,r.cg hx)::db hx L:=rfl;rw[e];cases r with
   | box b ty cs=>grind[aV.cg]
   | _=>simp[aV.cg,ih]
theorem fN.jk{ops}{o}{s:St}{c}{f}{args}{L1 br}{x} r(hs hid:List Nat)(aD:o.op= .call c)(h:∀hx:List (Nat×Value),hx.map Prod.fst=hid→aE P f args (db hx L1) (fun r L=>r= .ret x∧L=db hx br))
  (hc:callee s.ev c=some (f,args)) (hg:o.guard=none)
  (he:enters P f=true) (hL:s.L.filter (λp=>hs.contains p.1)=L1) (hh:hid.all (λk=>(keys (s.L.filter λp=>!hs.contains p.1)).contains k)=true)
  (ho:V.dK (keys L1) args=true/\(∀hx:List (Nat×Value),hx.map Prod.fst=hid->(db hx L1).all (λp=>aV.on (keys L1) p.2)=true)/\L1.all (λp=>(match p.2 with|.box (_+1) _ _=>true|_=>p.1==r))=true)
  (hb:∀k b ty cs,(k,aV.box (b+1) ty cs)∈L1->∃mf jB,(k,aV.box (b+1) mf jB)∈br)
  (iT:(s.L.filter λp=>!hs.contains p.1).all (λp=>aV.on (keys (s.L.filter λp=>!hs.contains p.1)++(L1.filterMap λp=>match p.2 with|.box (_+1) _ _=>some p.1|_=>none)) p.2)=true)
  (hk:∀k∈keys br,k∉keys (s.L.filter λp=>!hs.contains p.1)):
  fN P n ops o s.fr s.L (some r) x (br++s.L.filter λp=>!hs.contains p.1):=by
 classical
 intro gB M0 fo m a w g;have kK:∀z,z∈o.op.operands->St.ev ⟨gB,s.L⟩ z=s.ev z:=by
  intro z hz;cases z with
  | tmp t=>simp_all[kE]
  | const v=>rfl
  | global g=>rfl
  | func f=>rfl
 have zh:s.L.Perm (L1++s.L.filter λp=>!hs.contains p.1):=by grind[List.filter_append_perm]
 generalize aoC:(s.L.filter λp=>!hs.contains p.1)=L2 at *;rw[apd]at hh;have cp:∀k∈hid,k∈keys L2:=λk hk=>by grind
 have hex:∀k∈hid,∃x,m k=some x:=by
  intro k hk;obtain⟨⟨k',res⟩,hp,rfl⟩:=apf.1 (cp k hk);obtain⟨x,hx,_⟩:=g.inv.holds k' res (zh.mem_iff.2 (apO _ hp));grind
 let hx:List (Nat×Value):=hid.map λk=>(k,(m k).getD undef)
 have hxf:hx.map Prod.fst=hid:=by simp[hx,aq7]
 have hm:∀p∈hx,m p.1=some p.2:=by
  intro p hp;obtain⟨k,hk,rfl⟩:=apf.1 hp;obtain⟨x,hx⟩:=hex k hk;grind
 have qc:callee (St.ev ⟨gB,db hx L1++L2⟩) c=some (f,args):=by
  rw[<-hc];have Cn:∀z,z∈o.op.operands->St.ev ⟨gB,db hx L1++L2⟩ z=s.ev z:=λz hz=>by simp_all
  unfold callee;cases qc:c.callee with
  | value fo=>
    simp only;rw[Cn fo (by simp_all)];have:c.args.toList.map (St.ev ⟨gB,db hx L1++L2⟩)=c.args.toList.map s.ev:=by
     simp_all
    grind
  | _=>rfl
 refine .inl ⟨by simp[Region.wanted,hg],λnext Q' kk=>?_⟩;have g2:G fo n m ⟨gB,db hx L1++L2⟩ a w:=⟨g.size,g.fr,(g.inv.perm zh).cg hm,g.defers⟩
 refine zg (s:=⟨gB,db hx L1++L2⟩) (L1:=db hx L1) (L2:=L2) aD qc he (by grind[vP]) (List.Perm.refl _) (by grind[vP]) (λp hp=>by show aV.on (keys L2++xu (db hx L1)) p.2=true;rw[Jh];exact apd.1 iT p hp) (h hx hxf) ?_ g2 λx' uW mm v w' hR wm hinv qk gS cQ tj=>?_
 ·rintro r' uW ⟨rfl,rfl⟩;refine⟨⟨_,rfl⟩,λk rA=>hk k (by grind[vP]),λk b ty cs mE=>?_⟩;obtain⟨⟨k0,r0⟩,hp,ru⟩:=apf.1 mE;simp only[ao7]at ru;obtain⟨rfl,x6⟩:=ru;cases r0 with
  | box b0 ty0 cs0=>
    simp only[aV.cg,aV.box.injEq]at x6;obtain⟨rfl,rfl,rfl⟩:=x6;obtain⟨mf,jB,fm⟩:=hb k0 b ty0 cs0 hp;exact⟨mf,jB.map (V.cg hx),apf.2 ⟨_,fm,rfl⟩⟩
  | row _ _ _=>grind[aV.cg]
  | env _=>grind[aV.cg]
  | mp _=>grind[aV.cg]
 ·obtain⟨e,rfl⟩:=hR;obtain rfl:=AE.ret.inj e;have gS:∀h y,h∈keys L2++xu L1->m h=some y->mm h=some y:=λh y hh=>gS h y (by show h∈keys L2++xu (db hx L1);grind[Jh])
  have Yi:∀p∈hx,mm p.1=some p.2:=λp hp=>by
   grind
  refine kk v w' mm wm ⟨g.size,λt y hy=>?_,hinv.El Yi,g.defers⟩ qk;unfold mF at hy;obtain⟨p,hp,pR⟩:=apf.1 hy;simp only[ao7]at pR;obtain⟨rfl,rfl⟩:=pR;obtain⟨q1,q2⟩:=g.fr p.1 p.2 hp;refine⟨q1,(aC.kill (m':=mm) (h:=r) (λi y bR hi=>gS i y ?_ hi) q2).mono cQ tj (λ_ _ e=>e)⟩;have Dr:i∈keys s.L:=g.inv.fI i y hi;obtain⟨⟨i',res⟩,fm,rfl⟩:=apf.1 Dr;rcases apr.1 (zh.mem_iff.1 fm)with hm|hm
  ·refine apO _ (aqq.2 ⟨_,hm,?_⟩);have:=apd.1 ho.2.2 _ hm;cases res with
   | row _ _ _=>grind
   | env _=>grind
   | mp _=>grind
   | box b _ _=>
     cases b with
     | zero=>grind
     | succ b=>rfl
  ·exact apD _ (apf.2 ⟨_,hm,rfl⟩)
end
section
variable {P : Program} {n : Nat} {Q : AX -> St -> Prop}
theorem Gq{pre}{last}{ls}(hs:ls.size=pre.length){i}(hi:i < pre.length)(he:∀(j:Nat) (o:Oper),pre[j]?=some o→∀e∈o.after,Region.binds .any e=true→e.on < pre.length):
  i∈Region.ready .any (pre++ [last]).toArray (ls.push false)↔i∈Region.ready .any pre.toArray ls:=by
 rw[mem_ready,mem_ready];have h1:(pre++ [last]).toArray[i]?=pre.toArray[i]?:=by grind
 have h2:∀k b,k<pre.length->(ls.push false).getD k b=ls.getD k b:=by
  intro k b hk;simp[hs,hk,arx,show k<pre.length+1 by omega]
 rw[h1,h2 i true hi];refine and_congr_right λ_=>?_
 constructor
 ·rintro⟨o,ho,hk⟩;refine⟨o,ho,λe Ji hb=>?_⟩;rw[<-h2 e.on false (he i o (by grind) e Ji hb)];grind
 ·rintro⟨o,ho,hk⟩;refine⟨o,ho,λe Ji hb=>?_⟩;rw[h2 e.on false (he i o (by grind) e Ji hb)];grind
theorem Wq{F}{o:Oper}{a w K K' R R'}(hR:∀e a w,e≠ .normal->R e a w->R' e a w)(h:∀a w,K a w->K' a w)(hh:o.wpIn F n P a w K R):o.wpIn F n P a w K' R':=by
 have jn:LetsOut R->LetsOut R':=λ⟨a,w,h⟩=>⟨a,w,hR _ _ _ (by simp) h⟩
 refine⟨hh.1,?_⟩;have hh:=hh.2;generalize (o.semAt F.round a.eval).run P w=r at *;cases r with
 | ok x w'=>
   cases x<;>simp[Oper.uponIn]at hh⊢<;>
    first
     | exact h _ _ hh
     | exact⟨hh.1,CallsIn.mono hh.2 (λe Ah he=>by grind)⟩
     | exact⟨hh.1,RowsIn.mono hh.2 (λ_ _ he=>h _ _ he)⟩
     | grind[RoundIn.mono]
 | halt x w'=>cases x<;>simp[Oper.uponIn]at hh⊢<;>first|exact hh|grind
theorem ab7{F}{R Q'}{pre}{last}(cp:indep pre=true)
  (nv:∀e∈last.after,Region.binds .any e=true->e.on<pre.length)
  (UX:∀(ls:Array Bool),(∀(j:Nat) (o:Oper),pre[j]?=some o->ls.getD j false=true->∀e∈o.after,Region.binds .any e=true->ls.getD e.on false=true)->(∀e∈last.after,Region.binds .any e=true->ls.getD e.on false=true)->∀j,j<pre.length->ls.getD j false=true)
  (hg:∀o∈pre,∀g,o.guard=some g->g.1<pre.length)
  (hR:∀e a w,e≠ .normal->R e a w->Q' e a w)
  (hk:∀a w,R .normal a w->if Region.wanted last (yielded (pre++ [last]).toArray a.tmps)then last.wpIn F 0 P a w (Q' .normal) Q' else(∀f,last.about P w a.eval=some f->F.fn f)/\Q' .normal (a.put last.dst undef) w):
  ∀fuel ls a w,ls.size=pre.length->(∀j o,pre[j]?=some o->ls.getD j false=true->∀e∈o.after,Region.binds .any e=true->ls.getD e.on false=true)->
   wpAnyIn F 0 P .any pre.toArray R fuel ls a w->wpAnyIn F 0 P .any (pre++ [last]).toArray Q' (fuel+1) (ls.push false) a w:=by
 have he:∀(j:Nat) (o:Oper),pre[j]?=some o->∀e∈o.after,Region.binds .any e=true->e.on<pre.length:=by
  grind[nd,List.getElem?_eq_some_iff]
 have ZM:(pre++ [last]).toArray[pre.length]?=some last:=by simp
 have fin:∀(fuel:Nat) (ls:Array Bool) (a:Act) (w:World),ls.size=pre.length->(∀j,j<pre.length->ls.getD j false=true)->R .normal a w->wpAnyIn F 0 P .any (pre++ [last]).toArray Q' (fuel+1) (ls.push false) a w:=by
  intro fuel ls a w hs bS hr;have ahN:∀k,k<pre.length->(ls.push false).getD k false=true:=by
   intro k rA;have:=bS k rA;simpa[Array.getD,hs,rA,arx,show k<pre.length+1 by omega]using this
  refine⟨λh0=>?_,λi hi=>?_⟩
  ·exfalso;have:pre.length∈Region.ready .any (pre++ [last]).toArray (ls.push false):=by
    rw[mem_ready];simp_all[Array.getD,arx]
   grind
  ·obtain⟨h1,o,h2,h3⟩:=mem_ready.1 hi;have kr:i<pre.length+1:=by grind
   have hik:i=pre.length:=by
    grind
   subst hik;have aly:∀k,k∈Region.ready .any (pre++ [last]).toArray ((ls.push false).setIfInBounds pre.length true)->False:=by
    intro k rA;obtain⟨g1,o',g2,_⟩:=mem_ready.1 rA;have tW:k<pre.length+1:=by grind
    have:((ls.push false).setIfInBounds pre.length true).getD k true=true:=by
     by_cases TH:pre.length=k
     ·simp[*]
     ·have au:k<pre.length:=by omega
      simp only[aqe,aqj TH];have h9:=ahN k au;rw[qX (c:=true) (by grind)]at h9;grind[Array.getD_eq_getD_getElem?]
    grind
   have xK:Region.ready .any (pre++ [last]).toArray ((ls.push false).setIfInBounds pre.length true)=[]:=by
    rw[aqn];omega
   have amS:∀a w,Q' .normal a w->wpAnyIn F 0 P .any (pre++ [last]).toArray Q' fuel ((ls.push false).setIfInBounds pre.length true) a w:=λa w hq=>wpAnyIn_done xK hq fuel
   unfold wpOpIn;rw[ZM];simp only;have:=hk a w hr;split
   ·rename_i hw;rw[if_pos hw]at this;grind[Oper.wpIn_mono]
   grind
 have P6:∀(ls:Array Bool),ls.size=pre.length->Region.ready .any pre.toArray ls=[]->∀i,i<pre.length->ls.getD i false=true:=by
  intro ls dW hr i
  induction i using Nat.strongRecOn with
  | _ i ih=>
    intro hi;cases hb:ls.getD i false with
    | true=>rfl
    | false=>
      exfalso;have fm:i∈Region.ready .any pre.toArray ls:=by
       refine mem_ready.2 ⟨by grind,pre[i],by simp,λe Ji iE=>?_⟩;have:=(nd cp (akC hi)).2.1 e Ji iE;grind
      grind
 intro fuel
 induction fuel with
 | zero=>
   intro ls a w hs nF h;exact fin 0 ls a w hs (P6 ls hs h.1) h.2
 | succ fuel ih=>
   intro ls a w hs nF h;by_cases tO:Region.ready .any pre.toArray ls=[]
   ·exact fin (fuel+1) ls a w hs (P6 ls hs tO) (h.1 tO)
   refine⟨λh0=>?_,λi hi=>?_⟩
   ·exfalso;obtain⟨k,rA⟩:=List.exists_mem_of_ne_nil _ tO;have tW:k<pre.length:=by
     grind[mem_ready,Array.getElem?_eq_some_iff]
    have:=(Gq (last:=last) hs tW he).2 rA;grind
   ·obtain⟨h1,o,h2,h3⟩:=mem_ready.1 hi;have kr:i<pre.length+1:=by grind
    have jT:∀k,k<pre.length->∀b,(ls.push false).getD k b=ls.getD k b:=by
     intro k rA b;simp[Array.getD,hs,rA,arx,show k<pre.length+1 by omega]
    rcases apJ i pre.length with au|bm
    ·have Sp:=(Gq (last:=last) hs au he).1 hi;have hw:=h.2 i Sp;have ho:pre.toArray[i]?=some pre[i]:=by simp
     have DH:(pre++ [last]).toArray[i]?=some pre[i]:=by
      grind
     have nf:(ls.push false).setIfInBounds i true=(ls.setIfInBounds i true).push false:=by
      grind
     have V5:∀a w,wpAnyIn F 0 P .any pre.toArray R fuel (ls.setIfInBounds i true) a w->wpAnyIn F 0 P .any (pre++ [last]).toArray Q' (fuel+1) ((ls.push false).setIfInBounds i true) a w:=by
      intro a w hh;rw[nf];refine ih (ls.setIfInBounds i true) a w (by grind) (λj oj fe hb e Ji iE=>?_) hh;have hsj:∀k,(ls.setIfInBounds i true).getD k false=true↔(k=i\/ls.getD k false=true):=by
       intro k;by_cases zt:k=i
       ·simp[*]
       ·have:¬i=k:=λe=>zt e.symm
        simp[*]
      rw[hsj];rcases(hsj j).1 hb with rfl|dn
      ·right;have hoi:oj=pre[j]:=by grind
       subst hoi;obtain⟨_,o',iC,bS⟩:=mem_ready.1 Sp;grind
      grind
     unfold wpOpIn at hw⊢;rw[ho]at hw;rw[DH];simp only at hw⊢;have hy:Region.wanted pre[i] (yielded (pre++ [last]).toArray a.tmps)=Region.wanted pre[i] (yielded pre.toArray a.tmps):=by
      grind[Region.wanted,guard,List.getElem_mem,yielded,List.getElem?_append_left]
     rw[hy];split
     ·rename_i hc;rw[if_pos hc]at hw;grind[Wq]
     grind
    ·have hik:i=pre.length:=by omega
     subst hik;exfalso;rw[ZM]at h2;obtain rfl:=ao9 h2;have bS:=UX ls nF (λe Ji hb=>by rw[<-jT e.on (nv e Ji hb) false];grind);obtain⟨k,rA⟩:=List.exists_mem_of_ne_nil _ tO;obtain⟨g1,o',g2,_⟩:=mem_ready.1 rA;grind
def P7(pre:List Oper)(last:Oper)(tn:List Nat):Bool:=(List.range pre.length).all λj=>tn.contains j
theorem av.Ws{id}{pre}{last}{s} us(hm:P.follows .mixedOrders=true)(hd:dG n pre=true)
  (aN:(indep pre&&indep (pre++ [last])&&EY (pre++ [last]) (tT (pre++ [last]) [])&&P7 pre last ((tT (pre++ [last]) []).getD pre.length [])&&pre.all (λo=>match o.guard with|some g=>decide (g.1<pre.length)|none=>true))=true)
  (h:uT P pre.toArray pre s us (λs'=>ay P n (pre++ [last]).toArray [last] s' Q)):av P n (.region id (pre++ [last]).toArray true) s Q:=by
 simp only[apb,apd]at aN;obtain⟨⟨⟨⟨cp,k1⟩,k2⟩,k3⟩,k4⟩:=aN;unfold P7 at k3;simp only[apd,apS,ara,decide_eq_true_eq]at k3;have wN:(pre++ [last])[pre.length]?=some last:=by simp
 have nv:=(nd k1 wN).2.1;intro fo m a w _ g;obtain⟨tr,s2,ht,hK⟩:=qW pre s us h;refine wpIn_region_any hm ?_;have h1:=wK (P:=P) (n:=n) ht cp hd (fo:=fo) (m:=m) (m0:=m) (w0:=w) (R:=λe a' w'=>e= .normal/\G fo n m s2 a' w'/\Step w (own m) w' (own m)) (λa1 w1 g1 st=>⟨rfl,g1,st⟩) (λp hp=>(g.fr p.1 p.2 hp).1) pre.length (Array.replicate pre.length false) (List.range pre.length) a {w with drawn:=w.drawn+1}
  (by simp) (λi hi _=>by grind) (by simpa using zf (l:=pre) (tr:=tr) g (w.drawn+1))
 have Dv:∀j,(Array.replicate pre.length false).getD j false=false:=by simp[Array.getD]
 have h2:=ab7 (P:=P) (last:=last) (Q':=gi fo n m w Q) cp nv (λls nF hl j hj=>?_) (λo ho g hg=>?_) (λe a1 w1 bR hR=>absurd hR.1 bR) (λa1 w1 hR=>?_) pre.length (Array.replicate pre.length false) a {w with drawn:=w.drawn+1} (by simp) (λj o _ hb=>by grind) h1
 ·grind
 ·refine Bk k1 k2 (listed:=ls) (λj o ho hb e Ji iE=>?_) pre.length last wN hl j (k3 j hj);grind
 ·grind
 ·obtain⟨_,g1,st⟩:=hR;have h3:=hK fo m w m a1 w1 st g1;simp_all[wpListIn]
theorem av.Fs{id}{l}{s} k us(hm:P.follows .mixedOrders=true)(hl:(l.take k++ [vI l k])=l)
  (aN:(dG n (l.take k)&&(indep (l.take k)&&indep (l.take k++ [vI l k])&&EY (l.take k++ [vI l k]) (tT (l.take k++ [vI l k]) [])&&P7 (l.take k) (vI l k) ((tT (l.take k++ [vI l k]) []).getD (l.take k).length [])&&(l.take k).all (λo=>match o.guard with|some g=>decide (g.1<(l.take k).length)|none=>true)))=true)
  (h:uT P (l.take k).toArray (l.take k) s us (λs'=>ay P n l.toArray [vI l k] s' Q)):av P n (.region id l.toArray true) s Q:=by
 simp only[apb]at aN;have:=av.Ws (id:=id) (last:=vI l k) us hm aN.1 (by grind) (by rw[hl];exact h);rw[hl]at this;exact this
attribute [simp] uT
end
def bf(c0 c1:V)(s:al)(F:Int)(m:ae):List V:=c0::c1::(m.Env.enc.map V.d++(m.Told.enc.map V.d++(oD m.de::(s.enc.map V.d++ [iD F]))))
abbrev TI(s:al)(F:Int)(m:ae):List V:=bf (.rv 5005) (.rv 5004) s F m
@[simp] theorem akx(c0 c1:V)(s:al)(F:Int)(m:ae):(bf c0 c1 s F m).length=42:=rfl
@[simp] theorem amT(c0 c1:V)(s:al)(F:Int)(m:ae):(bf c0 c1 s F m)[0]?=some c0:=rfl
@[simp] theorem alz(c0 c1:V)(s:al)(F:Int)(m:ae)(h:0<(bf c0 c1 s F m).length):(bf c0 c1 s F m)[0]=c0:=rfl
@[simp] theorem amU(c0 c1:V)(s:al)(F:Int)(m:ae):(bf c0 c1 s F m)[1]?=some c1:=rfl
@[simp] theorem alA(c0 c1:V)(s:al)(F:Int)(m:ae)(h:1<(bf c0 c1 s F m).length):(bf c0 c1 s F m)[1]=c1:=rfl
@[simp] theorem amV(c0 c1:V)(s:al)(F:Int)(m:ae):(bf c0 c1 s F m)[2]?=some (iD m.Env.qn):=rfl
@[simp] theorem alB(c0 c1:V)(s:al)(F:Int)(m:ae)(h:2<(bf c0 c1 s F m).length):(bf c0 c1 s F m)[2]=iD m.Env.qn:=rfl
@[simp] theorem amW(c0 c1:V)(s:al)(F:Int)(m:ae):(bf c0 c1 s F m)[3]?=some (iD m.Env.Second):=rfl
@[simp] theorem alC(c0 c1:V)(s:al)(F:Int)(m:ae)(h:3<(bf c0 c1 s F m).length):(bf c0 c1 s F m)[3]=iD m.Env.Second:=rfl
@[simp] theorem amX(c0 c1:V)(s:al)(F:Int)(m:ae):(bf c0 c1 s F m)[4]?=some (iD m.Env.Number):=rfl
@[simp] theorem alD(c0 c1:V)(s:al)(F:Int)(m:ae)(h:4<(bf c0 c1 s F m).length):(bf c0 c1 s F m)[4]=iD m.Env.Number:=rfl
@[simp] theorem amY(c0 c1:V)(s:al)(F:Int)(m:ae):(bf c0 c1 s F m)[5]?=some (iD m.Told.s9):=rfl
@[simp] theorem alE(c0 c1:V)(s:al)(F:Int)(m:ae)(h:5<(bf c0 c1 s F m).length):(bf c0 c1 s F m)[5]=iD m.Told.s9:=rfl
@[simp] theorem amZ(c0 c1:V)(s:al)(F:Int)(m:ae):(bf c0 c1 s F m)[6]?=some (.d (.sl (aA m.Told.World.aP))):=rfl
@[simp] theorem alF(c0 c1:V)(s:al)(F:Int)(m:ae)(h:6<(bf c0 c1 s F m).length):(bf c0 c1 s F m)[6]= .d (.sl (aA m.Told.World.aP)):=rfl
@[simp] theorem am0(c0 c1:V)(s:al)(F:Int)(m:ae):(bf c0 c1 s F m)[7]?=some (.d (.sl (aA m.Told.World.ah))):=rfl
@[simp] theorem alG(c0 c1:V)(s:al)(F:Int)(m:ae)(h:7<(bf c0 c1 s F m).length):(bf c0 c1 s F m)[7]= .d (.sl (aA m.Told.World.ah)):=rfl
@[simp] theorem am1(c0 c1:V)(s:al)(F:Int)(m:ae):(bf c0 c1 s F m)[8]?=some (.d (.sl (aA m.Told.World.Child))):=rfl
@[simp] theorem alH(c0 c1:V)(s:al)(F:Int)(m:ae)(h:8<(bf c0 c1 s F m).length):(bf c0 c1 s F m)[8]= .d (.sl (aA m.Told.World.Child)):=rfl
@[simp] theorem am2(c0 c1:V)(s:al)(F:Int)(m:ae):(bf c0 c1 s F m)[9]?=some (.d (.sl (aA m.Told.World.Next))):=rfl
@[simp] theorem alI(c0 c1:V)(s:al)(F:Int)(m:ae)(h:9<(bf c0 c1 s F m).length):(bf c0 c1 s F m)[9]= .d (.sl (aA m.Told.World.Next)):=rfl
@[simp] theorem alJ(c0 c1:V)(s:al)(F:Int)(m:ae):(bf c0 c1 s F m)[10]?=some (.d (.sl (aA m.Told.World.Flags))):=rfl
@[simp] theorem aky(c0 c1:V)(s:al)(F:Int)(m:ae)(h:10<(bf c0 c1 s F m).length):(bf c0 c1 s F m)[10]= .d (.sl (aA m.Told.World.Flags)):=rfl
@[simp] theorem alK(c0 c1:V)(s:al)(F:Int)(m:ae):(bf c0 c1 s F m)[11]?=some (.d (.sl (aA m.Told.World.aJ))):=rfl
@[simp] theorem akz(c0 c1:V)(s:al)(F:Int)(m:ae)(h:11<(bf c0 c1 s F m).length):(bf c0 c1 s F m)[11]= .d (.sl (aA m.Told.World.aJ)):=rfl
@[simp] theorem alL(c0 c1:V)(s:al)(F:Int)(m:ae):(bf c0 c1 s F m)[12]?=some (.d (.sl (aA m.Told.World.bc))):=rfl
@[simp] theorem akA(c0 c1:V)(s:al)(F:Int)(m:ae)(h:12<(bf c0 c1 s F m).length):(bf c0 c1 s F m)[12]= .d (.sl (aA m.Told.World.bc)):=rfl
@[simp] theorem alM(c0 c1:V)(s:al)(F:Int)(m:ae):(bf c0 c1 s F m)[13]?=some (.d (.v (.int .u64 m.Told.World.cL))):=rfl
@[simp] theorem akB(c0 c1:V)(s:al)(F:Int)(m:ae)(h:13<(bf c0 c1 s F m).length):(bf c0 c1 s F m)[13]= .d (.v (.int .u64 m.Told.World.cL)):=rfl
@[simp] theorem alN(c0 c1:V)(s:al)(F:Int)(m:ae):(bf c0 c1 s F m)[14]?=some (iD m.Told.World.Score):=rfl
@[simp] theorem akD(c0 c1:V)(s:al)(F:Int)(m:ae)(h:14<(bf c0 c1 s F m).length):(bf c0 c1 s F m)[14]=iD m.Told.World.Score:=rfl
@[simp] theorem alO(c0 c1:V)(s:al)(F:Int)(m:ae):(bf c0 c1 s F m)[15]?=some (iD m.Told.World.jx):=rfl
@[simp] theorem akE(c0 c1:V)(s:al)(F:Int)(m:ae)(h:15<(bf c0 c1 s F m).length):(bf c0 c1 s F m)[15]=iD m.Told.World.jx:=rfl
@[simp] theorem alP(c0 c1:V)(s:al)(F:Int)(m:ae):(bf c0 c1 s F m)[16]?=some (iD m.Told.World.ij):=rfl
@[simp] theorem akF(c0 c1:V)(s:al)(F:Int)(m:ae)(h:16<(bf c0 c1 s F m).length):(bf c0 c1 s F m)[16]=iD m.Told.World.ij:=rfl
@[simp] theorem alQ(c0 c1:V)(s:al)(F:Int)(m:ae):(bf c0 c1 s F m)[17]?=some (iD m.Told.World.It):=rfl
@[simp] theorem akG(c0 c1:V)(s:al)(F:Int)(m:ae)(h:17<(bf c0 c1 s F m).length):(bf c0 c1 s F m)[17]=iD m.Told.World.It:=rfl
@[simp] theorem alR(c0 c1:V)(s:al)(F:Int)(m:ae):(bf c0 c1 s F m)[18]?=some (iD m.Told.World.Go):=rfl
@[simp] theorem akH(c0 c1:V)(s:al)(F:Int)(m:ae)(h:18<(bf c0 c1 s F m).length):(bf c0 c1 s F m)[18]=iD m.Told.World.Go:=rfl
@[simp] theorem alS(c0 c1:V)(s:al)(F:Int)(m:ae):(bf c0 c1 s F m)[19]?=some (.d (.v (.string m.Told.Out))):=rfl
@[simp] theorem akI(c0 c1:V)(s:al)(F:Int)(m:ae)(h:19<(bf c0 c1 s F m).length):(bf c0 c1 s F m)[19]= .d (.v (.string m.Told.Out)):=rfl
@[simp] theorem alT(c0 c1:V)(s:al)(F:Int)(m:ae):(bf c0 c1 s F m)[20]?=some (iD m.Told.Value):=rfl
@[simp] theorem akJ(c0 c1:V)(s:al)(F:Int)(m:ae)(h:20<(bf c0 c1 s F m).length):(bf c0 c1 s F m)[20]=iD m.Told.Value:=rfl
@[simp] theorem alU(c0 c1:V)(s:al)(F:Int)(m:ae):(bf c0 c1 s F m)[21]?=some (oD m.Told.jM):=rfl
@[simp] theorem akK(c0 c1:V)(s:al)(F:Int)(m:ae)(h:21<(bf c0 c1 s F m).length):(bf c0 c1 s F m)[21]=oD m.Told.jM:=rfl
@[simp] theorem alV(c0 c1:V)(s:al)(F:Int)(m:ae):(bf c0 c1 s F m)[22]?=some (iD m.Told.Fuel):=rfl
@[simp] theorem akL(c0 c1:V)(s:al)(F:Int)(m:ae)(h:22<(bf c0 c1 s F m).length):(bf c0 c1 s F m)[22]=iD m.Told.Fuel:=rfl
@[simp] theorem alW(c0 c1:V)(s:al)(F:Int)(m:ae):(bf c0 c1 s F m)[23]?=some (oD m.de):=rfl
@[simp] theorem akM(c0 c1:V)(s:al)(F:Int)(m:ae)(h:23<(bf c0 c1 s F m).length):(bf c0 c1 s F m)[23]=oD m.de:=rfl
@[simp] theorem alX(c0 c1:V)(s:al)(F:Int)(m:ae):(bf c0 c1 s F m)[32]?=some (.d (.sl (s.Tables.az.map bg.enc))):=rfl
@[simp] theorem akN(c0 c1:V)(s:al)(F:Int)(m:ae)(h:32<(bf c0 c1 s F m).length):(bf c0 c1 s F m)[32]= .d (.sl (s.Tables.az.map bg.enc)):=rfl
@[simp] theorem alY(c0 c1:V)(s:al)(F:Int)(m:ae):(bf c0 c1 s F m)[35]?=some (.d (.sl (aA s.Tables.cV))):=rfl
@[simp] theorem akO(c0 c1:V)(s:al)(F:Int)(m:ae)(h:35<(bf c0 c1 s F m).length):(bf c0 c1 s F m)[35]= .d (.sl (aA s.Tables.cV)):=rfl
@[simp] theorem alZ(c0 c1:V)(s:al)(F:Int)(m:ae):(bf c0 c1 s F m)[37]?=some (.d (.sl (aA s.Tables.Params))):=rfl
@[simp] theorem akP(c0 c1:V)(s:al)(F:Int)(m:ae)(h:37<(bf c0 c1 s F m).length):(bf c0 c1 s F m)[37]= .d (.sl (aA s.Tables.Params)):=rfl
@[simp] theorem al0(c0 c1:V)(s:al)(F:Int)(m:ae):(bf c0 c1 s F m)[38]?=some (.d (.sl (aA s.Tables.aL))):=rfl
@[simp] theorem akQ(c0 c1:V)(s:al)(F:Int)(m:ae)(h:38<(bf c0 c1 s F m).length):(bf c0 c1 s F m)[38]= .d (.sl (aA s.Tables.aL)):=rfl
@[simp] theorem al1(c0 c1:V)(s:al)(F:Int)(m:ae):(bf c0 c1 s F m)[41]?=some (iD F):=rfl
@[simp] theorem akR(c0 c1:V)(s:al)(F:Int)(m:ae)(h:41<(bf c0 c1 s F m).length):(bf c0 c1 s F m)[41]=iD F:=rfl
@[simp] theorem aie(c0 c1:V)(s:al)(F:Int)(m:ae)(n:Int):List.take 14 (bf c0 c1 s F m)++V.d (.v (.int .i64 n))::List.drop 15 (bf c0 c1 s F m)=bf c0 c1 s F {m with Told:={m.Told with World:={m.Told.World with Score:=n}}}:=rfl
@[simp] theorem aif(c0 c1:V)(s:al)(F:Int)(m:ae)(n:Int):(bf c0 c1 s F m).set 14 (iD n)=bf c0 c1 s F {m with Told:={m.Told with World:={m.Told.World with Score:=n}}}:=rfl
@[simp] theorem aih(c0 c1:V)(s:al)(F:Int)(m:ae)(n:Int):List.take 16 (bf c0 c1 s F m)++V.d (.v (.int .i64 n))::List.drop 17 (bf c0 c1 s F m)=bf c0 c1 s F {m with Told:={m.Told with World:={m.Told.World with ij:=n}}}:=rfl
@[simp] theorem aii(c0 c1:V)(s:al)(F:Int)(m:ae)(n:Int):(bf c0 c1 s F m).set 16 (iD n)=bf c0 c1 s F {m with Told:={m.Told with World:={m.Told.World with ij:=n}}}:=rfl
@[simp] theorem aij(c0 c1:V)(s:al)(F:Int)(m:ae)(n:Int):List.take 18 (bf c0 c1 s F m)++V.d (.v (.int .i64 n))::List.drop 19 (bf c0 c1 s F m)=bf c0 c1 s F {m with Told:={m.Told with World:={m.Told.World with Go:=n}}}:=rfl
@[simp] theorem aik(c0 c1:V)(s:al)(F:Int)(m:ae)(n:Int):(bf c0 c1 s F m).set 18 (iD n)=bf c0 c1 s F {m with Told:={m.Told with World:={m.Told.World with Go:=n}}}:=rfl
@[simp] theorem ail(c0 c1:V)(s:al)(F:Int)(m:ae)(n:ByteArray):List.take 19 (bf c0 c1 s F m)++V.d (.v (.string n))::List.drop 20 (bf c0 c1 s F m)=bf c0 c1 s F {m with Told:={m.Told with Out:=n}}:=rfl
@[simp] theorem aim(c0 c1:V)(s:al)(F:Int)(m:ae)(n:ByteArray):(bf c0 c1 s F m).set 19 (.d (.v (.string n)))=bf c0 c1 s F {m with Told:={m.Told with Out:=n}}:=rfl
@[simp] theorem ain(c0 c1:V)(s:al)(F:Int)(m:ae)(n:Int):List.take 20 (bf c0 c1 s F m)++V.d (.v (.int .i64 n))::List.drop 21 (bf c0 c1 s F m)=bf c0 c1 s F {m with Told:={m.Told with Value:=n}}:=rfl
@[simp] theorem aio(c0 c1:V)(s:al)(F:Int)(m:ae)(n:Int):(bf c0 c1 s F m).set 20 (iD n)=bf c0 c1 s F {m with Told:={m.Told with Value:=n}}:=rfl
@[simp] theorem aip(c0 c1:V)(s:al)(F:Int)(m:ae)(n:Bool):List.take 21 (bf c0 c1 s F m)++V.d (.v (.bool n))::List.drop 22 (bf c0 c1 s F m)=bf c0 c1 s F {m with Told:={m.Told with jM:=n}}:=rfl
@[simp] theorem aiq(c0 c1:V)(s:al)(F:Int)(m:ae)(n:Bool):(bf c0 c1 s F m).set 21 (oD n)=bf c0 c1 s F {m with Told:={m.Told with jM:=n}}:=rfl
@[simp] theorem air(c0 c1:V)(s:al)(F:Int)(m:ae)(n:Int):List.take 22 (bf c0 c1 s F m)++V.d (.v (.int .i64 n))::List.drop 23 (bf c0 c1 s F m)=bf c0 c1 s F {m with Told:={m.Told with Fuel:=n}}:=rfl
@[simp] theorem ais(c0 c1:V)(s:al)(F:Int)(m:ae)(n:Int):(bf c0 c1 s F m).set 22 (iD n)=bf c0 c1 s F {m with Told:={m.Told with Fuel:=n}}:=rfl
@[simp] theorem ait(c0 c1:V)(s:al)(F:Int)(m:ae)(n:Bool):List.take 23 (bf c0 c1 s F m)++V.d (.v (.bool n))::List.drop 24 (bf c0 c1 s F m)=bf c0 c1 s F {m with de:=n}:=rfl
@[simp] theorem aiu(c0 c1:V)(s:al)(F:Int)(m:ae)(n:Bool):(bf c0 c1 s F m).set 23 (oD n)=bf c0 c1 s F {m with de:=n}:=rfl
@[simp] theorem am3(c0 c1:V)(s:al)(F:Int)(m:ae):List.take 15 (List.drop 24 (bf c0 c1 s F m))=s.Tables.enc.map .d:=rfl
@[simp] theorem am4(c0 c1:V)(s:al)(F:Int)(m:ae):List.take 17 (List.drop 24 (bf c0 c1 s F m))=s.enc.map .d:=rfl
@[simp] theorem am5(c0 c1:V)(s:al)(F:Int)(m:ae):List.take 13 (List.drop 6 (bf c0 c1 s F m))=m.Told.World.enc.map .d:=rfl
@[simp] theorem am6(c0 c1:V)(s:al)(F:Int)(m:ae):List.take 3 (List.drop 2 (bf c0 c1 s F m))=m.Env.enc.map .d:=rfl
@[simp] theorem ajS(c0 c1:V)(s:al)(F:Int)(m:ae)(w:aj):List.take 6 (bf c0 c1 s F m)++(w.enc.map V.d++List.drop 19 (bf c0 c1 s F m))=bf c0 c1 s F {m with Told:={m.Told with World:=w}}:=rfl
@[simp] theorem ajT(x c0 c1:V)(s:al)(F:Int)(m:ae):x::List.drop 1 (bf c0 c1 s F m)=bf x c1 s F m:=rfl
@[simp] theorem aiv(x c0 c1:V)(s:al)(F:Int)(m:ae):x::(bf c0 c1 s F m).tail=bf x c1 s F m:=rfl
@[simp] theorem ajU(x c0 c1:V)(s:al)(F:Int)(m:ae):List.take 1 (bf c0 c1 s F m)++x::List.drop 2 (bf c0 c1 s F m)=bf c0 x s F m:=rfl
theorem Hx(ks:List Nat):∀(a b:List V),V.dK ks (a++b)=(V.dK ks a&&V.dK ks b)
 | [],b=>by simp[V.dK]
 | x::a,b=>by simp[V.dK,Hx ks a b,ary]
theorem ZN(h g:Nat)(a b:List V):V.qq h g (a++b)=V.qq h g a++V.qq h g b:=by simp[qZ]
theorem Em(h:Nat)(y:V)(a b:List V):V.mq h y (a++b)=V.mq h y a++V.mq h y b:=by simp[pe]
@[simp] theorem al2(ks:List Nat)(c0 c1:V)(s:al)(F:Int)(m:ae):V.dK ks (bf c0 c1 s F m)=(c0.on ks&&c1.on ks):=by
 simp[bf,Hx,V.dK,V.on]
@[simp] theorem ajV(h:Nat)(c0 c1:V)(s:al)(F:Int)(m:ae):V.dU h (bf c0 c1 s F m)=bf (c0.kill h) (c1.kill h) s F m:=by
 rw[iz];simp only[bf,apF,aqd,<-iz,JK];simp[V.dU,V.kill]
@[simp] theorem akS(h:Nat)(y c0 c1:V)(s:al)(F:Int)(m:ae):V.mq h y (bf c0 c1 s F m)=bf (V.fg h y c0) (V.fg h y c1) s F m:=by
 unfold bf;simp[V.mq,V.fg,Em,vH]
@[simp] theorem akT(h g:Nat)(c0 c1:V)(s:al)(F:Int)(m:ae):V.qq h g (bf c0 c1 s F m)=bf (c0.eB h g) (c1.eB h g) s F m:=by
 unfold bf;simp[V.qq,V.eB,ZN,OM]
theorem aeC(hx:List (Nat×Value))(l:List D):(l.map V.d).map (V.cg hx)=l.map V.d:=by
 rw[aqx];exact List.map_congr_left λ_ _=>rfl
@[simp] theorem ajW(hx:List (Nat×Value))(c0 c1:V)(s:al)(F:Int)(m:ae):(bf c0 c1 s F m).map (V.cg hx)=bf (c0.cg hx) (c1.cg hx) s F m:=by
 unfold bf;simp only[apF,aqd,aeC,List.map_nil];rfl
def bF(wb:Nat)(s:al)(F:Int)(m:ae):aI:=[(5003,.box (wb+1) 80 (TI s F m)),(5004,.row 3 1 (dd (aA m.Stack))),(5005,.row 74 4 (dd (m.Frames.map aG.enc)))]
theorem lA(wb:Nat)(s:al)(F:Int)(m:ae)(n:Int)(hl:m.Stack.length<=1000000):aE prog 128 [.bp 5003 0,iD n] (bF wb s F m) (λr L=>r= .ret (.bA [])/\L=bF wb s F {m with Stack:=m.Stack++ [ar n]}):=by
 have hw:=(cC n).ok;unfold bF;refine rX [] [5003,5004,5005] func128 ?_;simp[-cB,f128];refine av.aT [arH,Q3,Q3,Q3,Q3,Q3,Q0,Q0,none,none,arG,arG,arG,none] [iD (ar n)] aS (by kernel_rfl) ?_;simp[-cB,hw];exact⟨by omega,rfl⟩
theorem eZ(wb:Nat)(s:al)(F:Int)(m:ae)(S:List Int)(v:Int)(h:m.Stack=S++ [v])(hl:S.length<=1000000):aE prog 73 [.bp 5003 0] (bF wb s F m) (λr L=>r= .ret (iD v)/\L=bF wb s F {m with Stack:=S}):=by
 unfold bF;refine rX [2] [5003,5004,5005] func73 ?_;simp[-cB,f73];simp[h];refine av.bT [] aS (by kernel_rfl) (by rfl) ?_;simp[-cB,h];refine⟨iW,?_⟩;refine av.aT [Q3,Q0,Q0,Q0,Q0,Q0,Q0,Q0,Q0,Q0,Q0,Q0,Q0,none,arF,arF,arF,none] [] aS (by kernel_rfl) ?_;simp[-cB];exact⟨iW,by omega,rfl⟩
theorem xv(wb:Nat)(s:al)(F:Int)(m:ae)(Fr:List aG)(f:aG)(h:m.Frames=Fr++ [f])(hl:Fr.length<=1000000):se prog 36 [.bp 5003 0] (bF wb s F m) (.ep 5005 4 Fr.length 0):=by
 unfold bF;refine se.run func36 rfl (by simp[f36]) ?_;simp only[f36];refine RW.seq (RW.one [] rfl (by kernel_rfl) (by rfl) ?_);simp[uT];refine RW.seq (RW.draw [] aS (by kernel_rfl) (by rfl) ?_);simp[uT];have hlen:m.Frames.length=Fr.length+1:=by rw[h];simp
 refine⟨iW,⟨by omega,by omega⟩,RW.ret ?_⟩;simp[TG,vk,Be,hlen]
theorem P8(wb:Nat)(s:al)(F:Int)(m:ae)(x:ByteArray)(h:m.Told.Out.size+x.size<=140737488355328):aE prog 77 [.bp 5003 0,.d (.v (.string x))] (bF wb s F m) (λr L=>r= .ret (.bA [])/\L=bF wb s F {m with Told:={m.Told with Out:=m.Told.Out++x}}):=by
 unfold bF;refine rX [] [5003,5004,5005] func77 ?_;simp[-cB,f77];omega
theorem aeD(wb:Nat)(s:al)(F:Int)(m:ae)(k:Int):aE prog 76 [.bp 5003 0,iD k] (bF wb s F m) (λr L=>r= .ret (.bA [])/\L=bF wb s F {m with Told:={m.Told with World:=(if k=29 then {m.Told.World with ij:=1}else if k=30 then {m.Told.World with ij:=2}else m.Told.World),jM:=true},de:=true}):=by
 unfold bF;by_cases h1:k=29
 ·refine rX [] [5003,5004,5005] func76 ?_;simp[-cB,f76];simp[h1]
 ·by_cases h2:k=30
  ·refine rX [] [5003,5004,5005] func76 ?_;simp[-cB,f76];simp[h2]
  ·refine rX [] [5003,5004,5005] func76 ?_;simp[-cB,f76];simp[h1,h2]
theorem Ft{l Fr:List aG}{f:aG}(h:l=Fr++ [f])(x:List V):(dd (List.map aG.enc l)).set Fr.length x=dd (List.map aG.enc Fr)++ [x]:=by
 subst h;simp[dd,List.set_append]
theorem ZO(ks:List Nat)(l:List (List D)):∀x∈dd l,V.dK ks x=true:=by
 intro x hx;obtain⟨y,_,rfl⟩:=apf.1 hx;exact EV ks y
theorem af9(a b:List (List D)):dd (a++b)=dd a++dd b:=by simp[dd]
theorem tz{l Fr:List aG}{f:aG}(h:l=Fr++ [f]):l[Fr.length]?=some f:=by subst h;simp
abbrev kC(wb:Nat)(s:al)(F:Int)(m:ae)(i:ai)(m':ae):Prop:=aE prog 38 [.bp 5003 0,.agg (i.enc.map .d)] (bF wb s F m) (λr L=>r= .ret (.bA [])/\L=bF wb s F m')
theorem XA(wb:Nat)(s:al)(F:Int)(m:ae)(Fr:List aG)(f:aG)(i:ai)(aD:i.Op=24)(h:m.Frames=Fr++ [f])(hl:Fr.length≤1000000)(hA:aM .i64 (f.At+i.Arg)):
  kC wb s F m i {m with Frames:=Fr++ [{f with At:=f.At+i.Arg}]}:=by
 have ht:=xv wb s F m Fr f h hl;have hg:=tz h;have hlen:Fr.length<m.Frames.length:=by rw[h];simp
 unfold kC bF at *;refine rX [] [5003,5004,5005] func38 ?_;simp[-cB,f38];intro bs;simp[aD];refine av.aT [Q0,Q0,Q0,Q0,Q0,Q0,Q0,Q0,Q0,Q0,none] [.ep 5005 4 Fr.length 0] aS (by kernel_rfl) ?_;simp[-cB];refine⟨kL.read [5003,5004,5005] ht (by simp) (by kernel_rfl) (by simp) (by simp),?_⟩;have bm:m.Frames[Fr.length]'hlen=f:=by rw[akC hlen]at hg;exact ao9 hg
 simp[hlen,bm,hA,Ft h,aG.enc];exact⟨λx hx=>hx.elim (ZO _ _ x) (λe=>by rw[e];rfl),rfl,by simp[dd]⟩
theorem iR{hx:List (Nat×Value)}{h:Nat}(e:hx.map Prod.fst=[h]):∃x,hx=[(h,x)]:=by
 match hx,e with
 | [(k,x)],e=>simp at e;subst e;exact⟨x,rfl⟩
theorem Cr{hx:List (Nat×Value)}{h g:Nat}(e:hx.map Prod.fst=[h,g]):∃x y,hx=[(h,x),(g,y)]:=by
 match hx,e with
 | [(k,x),(j,y)],e=>simp at e;obtain⟨rfl,rfl⟩:=e;exact⟨x,y,rfl⟩
def pZ(wb:Nat)(s:al)(F:Int)(m:ae):aI:=[(5003,.box (wb+1) 80 (TI s F m)),(5004,.row 3 1 (dd (aA m.Stack)))]
theorem fT(wb:Nat)(s:al)(F:Int)(m:ae)(S:List Int)(v:Int)(h:m.Stack=S++ [v])(hl:S.length<=1000000):∀hx:List (Nat×Value),hx.map Prod.fst=[5005]->aE prog 73 [.bp 5003 0] (db hx (pZ wb s F m)) (λr L=>r= .ret (iD v)/\L=db hx (pZ wb s F {m with Stack:=S})):=by
 intro hx e;obtain⟨x,rfl⟩:=iR e;unfold pZ;simp[db,aV.cg,V.cg];refine rX [2] [5003,5004] func73 ?_;simp[-cB,f73];simp[h];refine av.bT [] aS (by kernel_rfl) (by rfl) ?_;simp[-cB,h];refine⟨iW,?_⟩;refine av.aT [Q3,Q0,Q0,Q0,Q0,Q0,Q0,Q0,Q0,Q0,Q0,Q0,Q0,none,arF,arF,arF,none] [] aS (by kernel_rfl) ?_;simp[-cB];exact⟨iW,by omega,rfl⟩
def ZP(wb:Nat)(s:al)(F:Int)(m:ae):aI:=[(5003,.box (wb+1) 80 (TI s F m))]
theorem TJ(wb:Nat)(s:al)(F:Int)(m:ae)(x:ByteArray)(h:m.Told.Out.size+x.size<=140737488355328):∀hx:List (Nat×Value),hx.map Prod.fst=[5004,5005]->aE prog 77 [.bp 5003 0,.d (.v (.string x))] (db hx (ZP wb s F m)) (λr L=>r= .ret (.bA [])/\L=db hx (ZP wb s F {m with Told:={m.Told with Out:=m.Told.Out++x}})):=by
 intro hx e;obtain⟨y,z,rfl⟩:=Cr e;unfold ZP;simp[db,aV.cg,V.cg];refine rX [] [5003] func77 ?_;simp[-cB,f77];omega
theorem XB(wb:Nat)(s:al)(F:Int)(m:ae)(Fr:List aG)(f:aG)(i:ai)(S:List Int)(v:Int)(aD:i.Op=25)(h:m.Frames=Fr++ [f])(hl:Fr.length≤1000000)(hS:m.Stack=S++ [v])(pM:S.length≤1000000)(hA:aM .i64 (f.At+i.Arg)):
  kC wb s F m i {m with Stack:=S,Frames:=Fr++ [{f with At:=if v=0 then f.At+i.Arg else f.At}]}:=by
 have hp:=eZ wb s F m S v hS pM;have ht:=xv wb s F {m with Stack:=S} Fr f h hl;have hg:=tz h;have hlen:Fr.length<m.Frames.length:=by rw[h];simp
 have bm:m.Frames[Fr.length]'hlen=f:=by rw[akC hlen]at hg;exact ao9 hg
 unfold kC bF at *;by_cases hv:v=0
 ·refine rX [] [5003,5004,5005] func38 ?_;simp[-cB,f38];intro bs;simp[aD];refine eD [5003,5004,5005] hp ?_;simp[hv];refine av.aT [Q0,Q0,Q0,Q0,Q0,Q0,Q0,Q0,Q0,Q0,none] [.ep 5005 4 Fr.length 0] aS (by kernel_rfl) ?_;simp[-cB];refine⟨kL.read [5003,5004,5005] ht (by simp) (by kernel_rfl) (by simp) (by simp),?_⟩;simp[hlen,bm,hA,Ft h,aG.enc];exact⟨λx hx=>hx.elim (ZO _ _ x) (λe=>by rw[e];rfl),rfl,by simp[dd]⟩
 ·have hm:m.Frames=Fr++ [⟨f.qU,f.At,f.bP,f.aL⟩]:=h;refine rX [] [5003,5004,5005] func38 ?_;simp[-cB,f38];intro bs;simp[aD];refine eD [5003,5004,5005] hp ?_;simp[hv];rw[hm];exact⟨rfl,by simp⟩
def ZQ(wb:Nat)(s:al)(F:Int)(m:ae):aI:=[(5003,.box (wb+1) 80 (bf (.rv 5005) (.d (.sl (aA m.Stack))) s F m)),(5005,.row 74 4 (dd (m.Frames.map aG.enc)))]
set_option maxRecDepth 20000 in
set_option maxHeartbeats 2000000 in
theorem ab8(wb:Nat)(s:al)(F:Int)(m:ae)(r:Nat)(e:Int)(N:Nat)(S a:List Int)(he:s.Entry[r]?=some e)(hn:s.Tables.aL[r]?=some (N:Int))(hN:N≤1000)(hp:s.Tables.Params[r]?=some (a.length:Int))(ha:a.length≤N)(hS:m.Stack=S++a)(pM:S.length≤1000000)(fL:m.Frames.length < 32):
  aE prog 74 [.bp 5003 0,iD r] (bF wb s F m) (λx L=>x= .ret (.bA [])/\L=ZQ wb s F {m with Stack:=S,Frames:=m.Frames++ [⟨r,e,S.length,a.map ar++List.replicate (N-a.length) 0⟩]}):=by
 have hf:=H9 s r e N he hn (by omega) a ha (S.length:Int);obtain⟨nu,uD⟩:=apa.1 hp;unfold bF ZQ;refine aE.xW func74 rfl (by simp[f74]) (av.adh [] [5003,5005] (by simp) (by decide) ?_);simp only[f74];refine av.weaken (Wk.freeze 5004 (ty:=3) (k:=1) (ys:=aA m.Stack) (by rfl)) ?_;refine av.vF ?_;have P9:¬(32<=(m.Frames.length:Int)):=by omega
 simp[-cB,V.fg,hS];simp[P9];refine av.bT [] aS (by kernel_rfl) (by rfl) ?_;have aa3:¬((S.length:Int)<0):=by omega
 simp[-cB,nu,uD];refine⟨iW,?_⟩;simp[aa3];refine av.aT [arH,Q3,Q3,Q3,Q3,Q3,Q0,Q0,Q0,Q0,Q0,Q0,Q0,Q0,Q0,Q0,Q0,Q0,Q0,Q0,none,none,arG,arG,arG,none] [.agg ((aG.mk r e S.length (a.map ar++List.replicate (N-a.length) 0)).enc.map .d)] aS (by kernel_rfl) ?_;simp[-cB];have hda:List.drop S.length (List.take (S.length+a.length) (S++a))=a:=by
  rw[<-aph,apM,List.drop_left]
 rw[hda];exact⟨hf.ok _,by omega,rfl⟩
set_option maxRecDepth 20000 in
set_option maxHeartbeats 2000000 in
theorem ab9(wb:Nat)(s:al)(F:Int)(m:ae)(Fr:List aG)(f:aG)(v:Int)(h:m.Frames=Fr++ [f])(hl:Fr.length≤1000000)(hB:0≤f.bP∧f.bP≤m.Stack.length)(pM:m.Stack.length≤1000000):
  aE prog 75 [.bp 5003 0,iD v] (bF wb s F m) (λx L=>x= .ret (.bA [])/\L=bF wb s F (if Fr=[]then {m with Stack:=m.Stack.take f.bP.toNat,Frames:=[],de:=true,Told:={m.Told with Value:=v}}else {m with Stack:=m.Stack.take f.bP.toNat++ [ar v],Frames:=Fr})):=by
 have ht:=xv wb s F m Fr f h hl;have hlen:m.Frames.length=Fr.length+1:=by rw[h];simp
 have au:Fr.length<m.Frames.length:=by omega
 have hg:=tz h;have bm:m.Frames[Fr.length]'au=f:=by rw[akC au]at hg;exact ao9 hg
 unfold bF at *;refine rX [] [5003,5004,5005] func75 ?_;simp[-cB,f75];refine ay.Wp [5003,5004,5005] rfl ht (by simp) rfl (by simp) rfl (by kernel_rfl) (by simp) (by simp) (by simp) ?_;simp[-cB,au,bm];refine av.aT [Q3,Q0,Q0,Q0,Q0,Q0,Q0,Q0,Q0,Q0,Q0,Q0,Q0,none,arF,arF,arF,none] [] aS (by kernel_rfl) ?_;simp[-cB,hlen];refine⟨iW,by omega,?_⟩;refine av.aT [Q3,Q0,Q0,Q0,Q0,Q0,Q0,Q0,Q0,Q0,Q0,Q0,Q0,Q0,none,arF,arF,arF,none] [] aS (by kernel_rfl) ?_;have aga:(if(m.Stack.length:Int)<f.bP then(m.Stack.length:Int)else f.bP)=f.bP:=if_neg (by omega);have SG:min Fr.length m.Frames.length=Fr.length:=aq1 (by omega);have bR:m.Frames≠ []:=by rw[h];simp
 have xO:List.take Fr.length (m.Frames.map aG.enc)=Fr.map aG.enc:=by rw[h];simp
 by_cases qe:Fr=[]
 ·simp[-cB,aga,SG,bR,xO,qe];exact⟨hB,rfl⟩
 ·have hp:=lA wb s F {m with Stack:=m.Stack.take f.bP.toNat,Frames:=Fr} v (by simp;omega);unfold bF at hp;simp[-cB,aga,SG,bR,xO,qe];refine⟨hB,?_⟩;refine ay.weaken (Wk.pick [62,63] [5003,5004,5005] (by rfl) (by decide) (by simp)) ?_;simp[-cB];refine eD [5003,5004,5005] hp ?_;simp
abbrev M8(wb:Nat)(s:al)(F:Int)(m:ae)(i:ai)(m':ae):Prop:=aE prog 38 [.bp 5003 0,.agg (i.enc.map .d)] (bF wb s F m) (λr L=>r= .ret (.bA [])/\L=ZQ wb s F m')
abbrev NN(wb:Nat)(s:al)(F:Int)(m:ae)(i:ai)(e:Int):Prop:=∃m',aE prog 38 [.bp 5003 0,.agg (i.enc.map .d)] (bF wb s F m) (λr L=>r= .ix (oY e)/\L=bF wb s F m')
theorem XE(wb:Nat)(s:al)(F:Int)(m:ae)(i:ai)(r:Nat)(e:Int)(N:Nat)(S a:List Int)(aD:i.Op=26)(hA:0≤i.Arg)(hf:s.Tables.cV[i.Arg.toNat]?=some (r:Int))(he:s.Entry[r]?=some e)(hn:s.Tables.aL[r]?=some (N:Int))(hN:N≤1000)(hp:s.Tables.Params[r]?=some (a.length:Int))(ha:a.length≤N)(hS:m.Stack=S++a)(pM:S.length≤1000000)(fL:m.Frames.length < 32):
  M8 wb s F m i {m with Stack:=S,Frames:=m.Frames++ [⟨r,e,S.length,a.map ar++List.replicate (N-a.length) 0⟩]}:=by
 have hc:=ab8 wb s F m r e N S a he hn hN hp ha hS pM fL;obtain⟨hf1,hf2⟩:=apa.1 hf;unfold M8 bF ZQ at *;refine rX [] [5003,5005] func38 ?_;simp[-cB,f38];intro bs;simp[aD];refine av.Fs 11 [] aS (by rfl) (by kernel_rfl) ?_;simp[-cB,hf1,hf2,vI];refine⟨hA,?_⟩;refine eD [5003,5004,5005] hc ?_;simp
theorem Rq(wb:Nat)(s:al)(F:Int)(m:ae)(i:ai)(Fr:List aG)(f:aG)(S:List Int)(v:Int)(aD:i.Op=27)(h:m.Frames=Fr++ [f])(hl:Fr.length≤1000000)(hS:m.Stack=S++ [v])(hB:0≤f.bP∧f.bP≤S.length)(pM:S.length≤1000000):
  kC wb s F m i (if Fr=[]then {m with Stack:=S.take f.bP.toNat,Frames:=[],de:=true,Told:={m.Told with Value:=v}}else {m with Stack:=S.take f.bP.toNat++ [ar v],Frames:=Fr}):=by
 have hp:=eZ wb s F m S v hS pM;have hb:=ab9 wb s F {m with Stack:=S} Fr f v h hl hB pM;unfold kC bF at *;refine rX [] [5003,5004,5005] func38 ?_;simp[-cB,f38];intro bs;simp[aD];refine eD [5003,5004,5005] hp ?_;simp;refine eD [5003,5004,5005] hb ?_;simp
theorem Xv(wb:Nat)(s:al)(F:Int)(m:ae)(i:ai)(aD:i.Op=28∨i.Op=29∨i.Op=30):
  kC wb s F m i {m with Told:={m.Told with World:=(if i.Op=29 then {m.Told.World with ij:=1}else if i.Op=30 then {m.Told.World with ij:=2}else m.Told.World),jM:=true},de:=true}:=by
 have hs:=aeD wb s F m i.Op;unfold kC bF at *;rcases aD with h|h|h
 ·rw[h]at hs⊢;refine rX [] [5003,5004,5005] func38 ?_;simp[-cB,f38];intro bs;simp[h];refine eD [5003,5004,5005] hs ?_;simp
 ·rw[h]at hs⊢;refine rX [] [5003,5004,5005] func38 ?_;simp[-cB,f38];intro bs;simp[h];refine eD [5003,5004,5005] hs ?_;simp
 ·rw[h]at hs⊢;refine rX [] [5003,5004,5005] func38 ?_;simp[-cB,f38];intro bs;simp[h];refine eD [5003,5004,5005] hs ?_;simp
theorem Xs(wb:Nat)(s:al)(F:Int)(m:ae)(i:ai)(aD:i.Op=37)(hF:0≤m.Told.Fuel∧m.Told.Fuel≤1099511627776)(hc:¬F < m.Told.Fuel+1):
  kC wb s F m i {m with Told:={m.Told with Fuel:=m.Told.Fuel+1}}:=by
 have bY:aM .i64 (m.Told.Fuel+1):=iW;have pK:¬(if F<0 then 0 else F)<=m.Told.Fuel:=by split<;>omega
 unfold kC bF at *;refine rX [] [5003,5004,5005] func38 ?_;simp[-cB,f38];intro bs;simp[aD];refine av.bT [] aS (by kernel_rfl) (by rfl) ?_;simp[bY];exact λh=>absurd h pK
theorem Xr(wb:Nat)(s:al)(F:Int)(m:ae)(i:ai)(aD:i.Op=37)(hF:0≤m.Told.Fuel∧m.Told.Fuel≤1099511627776)(hc:F < m.Told.Fuel+1):
  NN wb s F m i 19:=by
 refine⟨m,?_⟩;unfold bF at *;refine rX [] [5003,5004,5005] func38 ?_;simp[-cB,f38];intro bs;simp[aD];refine av.bT [] aS (by kernel_rfl) (by rfl) ?_;have pK:(if F<0 then 0 else F)<=m.Told.Fuel:=by split<;>omega
 simp[pK];refine ay.panic rfl rfl rfl ?_;simp[oY]
theorem ZR(h:Nat)(l:List aG)(hl:l.length *48<=140737488355328):aE prog 33 [.d (.sl (l.map aG.enc))] [] (λr L=>r= .ret (.rv h)/\L=[(h,.row 74 4 (dd (l.map aG.enc)))]):=by
 refine aE.abE h ?_;refine aE.run func33 rfl (by simp[f33]) ?_;simp[f33];refine ay.adb rfl (by simp;exact⟨rfl,rfl⟩) rfl rfl rfl (by simp) ?_;intro b hb;refine ay.nil ?_;cases b with
 | true=>
   have hl:l=[]:=by have:=hb rfl;simpa using this
   subst hl;simp[-cB]
 | false=>
   simp[-cB];omega
theorem aaK(s:al)(m:ae)(F:Int)(hd:m.de=true):Pure prog 13 [.agg (s.enc.map .d),.agg (m.enc.map .d),iD F] (.agg (m.enc.map .d)):=by
 refine⟨by kernel_rfl,by simp,by simp,?_⟩;refine aE.YP func13 rfl (by simp[f13]) ?_;simp only[f13];refine DJ.Vv rfl ?_;refine av.vF ?_;simp[-cB];intro bs;refine DJ.Vv rfl ?_;refine av.vF ?_;simp[-cB,hd]
theorem jF.M9{P:Program}{f:FuncId}{args:List V}{L:aI}{px:Option V}{R R':Option V->aI->Prop}(h:jF P f args L px R)(hr:∀r L,R r L->R' r L):jF P f args L px R':=
 λfo m w xs u hi hx hu=>(h fo m w xs u hi hx hu).mono λ_ _ _ ⟨m',r,L',h1,h2⟩=>⟨m',r,L',hr _ _ h1,h2⟩
theorem jF.ahO{P:Program}{f:FuncId}{args:List V}{L:aI}{px:Option V}{R R':Option V->aI->Prop}(h:jF P f args L px R)(hr:∀r L,R r L->∃L2,L.Perm L2/\R' r L2):jF P f args L px R':=
 λfo m w xs u hi hx hu=>(h fo m w xs u hi hx hu).mono λ_ _ _ ⟨m',r,L',h1,h2,h3,h4⟩=>by
  obtain⟨L2,hp,hR⟩:=hr _ _ h1;exact⟨m',r,L2,hR,h2,h3.perm hp,h4⟩
theorem adn{α:Type}(A:List α)(x y z:α):(A++ [x,y,z]).Perm ([y,x]++(A++ [z])):=by
 have h1:(A++ [x,y,z]).Perm (([x,y]++A)++ [z]):=by
  have:A++ [x,y,z]=(A++ [x,y])++ [z]:=by simp
  rw[this];exact(List.perm_append_comm).append_right [z]
 have h2:(([x,y]++A)++ [z]).Perm (([y,x]++A)++ [z]):=((List.Perm.swap y x []).append_right A).append_right [z];have h3:=h1.trans h2;simpa using h3
theorem zJ(m out:ae)(b4 b6 b3:Nat)(px:Option Int)(A:aI)(c3:List V)(h4:(A++ [(3,aV.box (b3+1) 41 c3)]).all (fun p=>aV.on (keys A++ [3,4,6]) p.2)=true)(h5:(∀x,¬(4,x)∈A)∧∀x,¬(6,x)∈A):jF prog 32 [.bp 4 0,.bp 6 0] (A++ [(6,.box (b6+1) 50 (out.enc.map .d)),(4,.box (b4+1) 50 (m.enc.map .d)),(3,.box (b3+1) 41 c3)]) (px.map oY)
  (λr L'=>r=none/\L'=A++ [(6,.box (b6+1) 50 ((match px with|none=>out|some e=>AS m e).enc.map .d)),(4,.box (b4+1) 50 (m.enc.map .d)),(3,.box (b3+1) 41 c3)]):=by
 refine(jF.frame (P5 m out b4 b6 px) (L2:=A++ [(3,.box (b3+1) 41 c3)]) ?_ ?_ (by cases px<;>rfl) ?_ ?_ ?_).ahO ?_
 ·exact adn _ _ _ _
 ·simp[keys]
 ·simp
 ·have h4':(∀(a:Nat) (b:aV),(a,b)∈A->aV.on (keys A++ [3,4,6]) b=true)/\V.dK (keys A++ [3,4,6]) c3=true:=by
   simpa using h4
  rintro⟨a,b⟩ hm;have hk:keys (A++ [(3,aV.box (b3+1) 41 c3)])++ [4,6]=keys A++ [3,4,6]:=by simp[keys]
  rcases apr.1 hm with hm|hm
  ·have:=h4'.1 a b hm;simpa[keys]using this
  ·simp at hm;obtain⟨rfl,rfl⟩:=hm;simpa[keys]using h4'.2
 ·rintro r br ⟨rfl,rfl⟩;exact⟨by simpa[keys]using h5,cE (by simp)⟩
 ·rintro r br ⟨uW,⟨rfl,rfl⟩,rfl⟩;exact⟨_,(adn _ _ _ _).symm,rfl,rfl⟩
theorem dt:aE prog 37 [iD 0] [] (λr L=>r= .ret (.bA [])/\L=[]):=by
 refine aE.run func37 rfl (by simp[f37]) ?_;simp[-cB,f37]
theorem iM(e:Int)(he:e≠0):aE prog 37 [iD e] [] (λr L=>r= .ix (oY e)/\L=[]):=by
 refine aE.run func37 rfl (by simp[f37]) ?_;simp[-cB,f37];refine aw (λh=>?_) (λh=>?_)<;>simp at h
 ·simp[-cB,h];refine ay.panic rfl rfl rfl ?_;simp[oY]
 ·exact absurd h he
theorem ado(s:al)(F:Int)(m:ae):List.take 24 (bf (.d (.sl (m.Frames.map aG.enc))) (.d (.sl (aA m.Stack))) s F m)=m.enc.map V.d:=rfl
def s6(s:al)(m:ae)(F:Int)(Fr:List aG)(f:aG)(i:ai)(k e:Int)(m':ae):Prop:=
 (e≠0/\m'=AS m e)\/(e=0/\∀wb,kC wb s F {m with Frames:=Fr++ [{f with At:=k}]} i m')\/(e=0/\∀wb,M8 wb s F {m with Frames:=Fr++ [{f with At:=k}]} i m')\/(e=0/\∃x,∀wb,NN wb s F {m with Frames:=Fr++ [{f with At:=k}]} i x/\m'=AS m x)
set_option maxHeartbeats 4000000 in
theorem aaL(s:al)(m m':ae)(F:Int)(Fr:List aG)(f:aG)(i:ai)(k e:Int)(hd:m.de=false)(h:m.Frames=Fr++ [f])(hl:m.Frames.length≤1000000)(hS:m.Stack.length≤1000000)
  (pD:Pure prog 35 [.d (.sl (s.Code.map λy=> [.v (.int .u8 y)])),iD f.At] (.bA [.agg (i.enc.map .d),iD k,iD e])) (ho:s6 s m F Fr f i k e m'):Pure prog 13 [.agg (s.enc.map .d),.agg (m.enc.map .d),iD F] (.agg (m'.enc.map .d)):=by
 refine⟨by kernel_rfl,by simp,by simp,?_⟩;have hcF:=ZR 5005 m.Frames (by omega);have hcS:=ia 5004 m.Stack (by omega);refine aE.YP func13 rfl (by simp[f13]) ?_;simp only[f13];refine DJ.Vv rfl ?_;refine av.vF ?_;simp[-cB];intro bs;refine DJ.Vv rfl ?_;refine av.vF ?_;simp[-cB];simp[hd];refine DJ.defer (hs:=[(4,bs 1),(6,bs 2)]) rfl rfl (by decide) rfl rfl rfl rfl rfl rfl ⟨rfl,by simp[dz],rfl,by simp[dz],trivial⟩ (by kernel_rfl) rfl ?_;refine av.gW ?_;simp[-cB];intro bL;refine av.weaken (s':=⟨[(3,.bp 3 0),(4,.bp 4 0),(6,.bp 6 0),(7,.bp 19 0)],[(19,.box (bL 0+1) 80 (bf (.d (.sl (m.Frames.map aG.enc))) (.d (.sl (aA m.Stack))) s F m)),(6,.box (bs 2+1) 50 (ae.zero.enc.map .d)),(4,.box (bs 1+1) 50 (m.enc.map .d)),(3,.box (bs 0+1) 41 (s.enc.map .d))]⟩) ((Wk.pick [3,4,6,7] [19,6,4,3] (by rfl) (by decide) (by rfl)).trans (Wk.deep 0 (by rfl))) ?_;refine av.gW ?_;refine av.eY aS (fF.m0 [arH,some (0,3),Q0,Q0,none,Q3,Q3,none,arG,arG,arG,none,some (3,3),some (3,3),some (3,3),none] [] (by kernel_rfl) ?_);simp[-cB];refine gx.intro (λ_=>fN.call (s:=⟨_,_⟩) 5005 [] rfl hcF (by simp) rfl (by kernel_rfl) (by first|rfl|simp) (by simp) (cE (by simp)) (by simp) (by simp)) ?_;simp[-cB];refine gx.intro (λ_=>fN.call (s:=⟨_,_⟩) 5004 [] rfl hcS (by simp) rfl (by kernel_rfl) (by first|rfl|simp) (by simp) (cE (by simp)) (by simp) (by simp)) ?_;simp[-cB];refine av.weaken (Wk.eB 19 5003 (by simp[keys])) ?_;refine av.weaken (Wk.pick [3,4,6,7] [5003,5004,5005,6,4,3] (by rfl) (by decide) (by simp)) ?_;simp[-cB];refine av.gW ?_;have ht:=xv (bL 0) s F m Fr f h (by rw[h]at hl;simp at hl;omega);unfold bF at ht;have bm:m.Frames[Fr.length]?=some f:=tz h;refine av.ES [Q3,Q3,Q3,Q3,Q3,Q3,Q3,Q3,Q3,Q3,arH,arH,none,none,arG,arG] [.ep 5005 4 Fr.length 0,.bA [.agg (i.enc.map .d),iD k,iD e]] aS (by kernel_rfl) ?_;have lI:Fr.length<m.Frames.length:=by rw[h];simp
 have sI:m.Frames[Fr.length]'lI=f:=by rw[akC lI]at bm;exact ao9 bm
 simp[-cB,sI,lI];refine⟨kL.read [5003,5004,5005] ht (by simp) (by kernel_rfl) (by simp) (by simp),pD.ok _,⟨pD.ok _,kL.read [5003,5004,5005] ht (by simp) (by kernel_rfl) (by simp) (by simp)⟩,?_⟩;intro lJ;rcases ho with⟨he,rfl⟩|ho
 ·refine av.gW ?_;simp[-cB];refine ay.Tu [] rfl (iM e he) (by simp) rfl (by simp) (by kernel_rfl) (by first|rfl|simp) (by simp) (by simp) (by simp) ?_;simp;refine⟨by simp[dz],(zJ m ae.zero (bs 1) (bs 2) (bs 0) (some e) [_,_,_,_] _ (by simp) (by simp)).M9 ?_⟩;rintro r L' ⟨rfl,rfl⟩;simp[He,dz,Ta,fb,ap8,V.on]
 have he:e=0:=by rcases ho with ho|ho|ho<;>exact ho.1
 subst he;refine av.gW ?_;simp[-cB];refine eD [] dt ?_;simp[-cB];refine av.gW ?_;simp[-cB];refine ay.Wp [5003,5004,5005] rfl ht (by simp) rfl (by simp) rfl (by kernel_rfl) (by simp) (by simp) (by simp) ?_;simp[-cB,sI,lI];have e5:(dd (List.map aG.enc m.Frames)).set Fr.length (List.take 1 (List.map V.d f.enc)++V.d (D.v (Value.int IntKind.i64 k))::List.drop 2 (List.map V.d f.enc))=dd (List.map aG.enc (Fr++ [{f with At:=k}])):=by
  rw[Ft h,aqd,af9];rfl
 rw[e5];refine av.weaken (Wk.pick [3,4,6,7,8] [8,5003,5004,5005,6,4,3] (by rfl) (by decide) (by simp)) ?_;simp[-cB];refine av.gW ?_;rcases ho with⟨_,hC⟩|⟨_,hC⟩|⟨_,x,hC⟩
 ·have hC:=hC (bL 0);unfold kC bF at hC;simp[-cB];rw[show bf (V.rv 5005) (V.rv 5004) s F m=TI s F {m with Frames:=Fr++ [{f with At:=k}]}from rfl];refine eD [5003,5004,5005] hC ?_;simp[-cB];refine av.weaken (Wk.freeze 5004 (ty:=3) (k:=1) (ys:=aA m'.Stack) (by rfl)) ?_;simp[-cB,V.fg];refine av.weaken (Wk.freeze 5005 (ty:=74) (k:=4) (ys:=m'.Frames.map aG.enc) (by rfl)) ?_;refine av.vF ?_;simp[-cB,V.fg,ado];refine⟨by simp[dz],(zJ m m' (bs 1) (bs 2) (bs 0) none [_,_] _ (by simp) (by simp)).M9 ?_⟩;rintro r L' ⟨rfl,rfl⟩;simp[He,dz,Ta,fb,ap8,V.on]
 ·have hC:=hC (bL 0);unfold M8 ZQ bF at hC;simp[-cB];rw[show bf (V.rv 5005) (V.rv 5004) s F m=TI s F {m with Frames:=Fr++ [{f with At:=k}]}from rfl];refine eD [5003,5004,5005] hC ?_;simp[-cB];refine av.weaken (Wk.freeze 5005 (ty:=74) (k:=4) (ys:=m'.Frames.map aG.enc) (by rfl)) ?_;refine av.vF ?_;simp[-cB,V.fg,ado];refine⟨by simp[dz],(zJ m m' (bs 1) (bs 2) (bs 0) none [_,_] _ (by simp) (by simp)).M9 ?_⟩;rintro r L' ⟨rfl,rfl⟩;simp[He,dz,Ta,fb,ap8,V.on]
 ·obtain⟨⟨m2,hC⟩,he⟩:=hC (bL 0);rw[he];unfold bF at hC;simp[-cB];rw[show bf (V.rv 5005) (V.rv 5004) s F m=TI s F {m with Frames:=Fr++ [{f with At:=k}]}from rfl];refine ay.Tu [5003,5004,5005] rfl (hC) (by simp) rfl (by simp) (by kernel_rfl) (by first|rfl|simp) (by simp) (by simp) (by simp) ?_;simp;refine⟨by simp[dz],(zJ m ae.zero (bs 1) (bs 2) (bs 0) (some x) [_,_,_,_] _ (by simp) (by simp)).M9 ?_⟩;rintro r L' ⟨rfl,rfl⟩;simp[He,dz,Ta,fb,ap8,V.on]
set_option maxHeartbeats 4000000
set_option maxRecDepth 20000
abbrev ja(wb:Nat)(s:al)(F:Int)(m:ae)(i:ai)(m':ae):Prop:=aE prog 83 [.bp 5003 0,.agg (i.enc.map .d)] (bF wb s F m) (λr L=>r= .ret (.bA [])/\L=bF wb s F m')
theorem Us(wb:Nat)(s:al)(F:Int)(m:ae)(i:ai)(aD:i.Op=1)(hl:m.Stack.length<=1000000):ja wb s F m i {m with Stack:=m.Stack++ [ar i.Arg]}:=by
 have hp:=lA wb s F m i.Arg hl;unfold ja bF at *;refine rX [] [5003,5004,5005] func83 ?_;simp[-cB,f83];intro bs bL;simp[-cB,aD];refine eD [] dt ?_;simp[-cB];refine eD [5003,5004,5005] hp ?_;simp
@[simp] theorem aiw(ks:List Nat)(e:Int):V.on ks (oY e)=true:=rfl
abbrev A7(wb:Nat)(s:al)(F:Int)(m:ae)(i:ai)(e:Int):Prop:=∃m',aE prog 83 [.bp 5003 0,.agg (i.enc.map .d)] (bF wb s F m) (λr L=>r= .ix (oY e)/\L=bF wb s F m')
def eK(o:Int):Prop:=o≠24/\o≠25/\o≠26/\o≠27/\o≠28/\o≠29/\o≠30/\o≠37/\o≠21/\o≠22/\o≠23/\o≠35/\o≠36
theorem adD(wb:Nat)(s:al)(F:Int)(m m':ae)(i:ai)(aD:eK i.Op)(h:ja wb s F m i m'):kC wb s F m i m':=by
 obtain⟨h1,h2,h3,h4,h5,h6,h7,h8,h9,eu,jP,oO,gK⟩:=aD;unfold ja bF at h;unfold kC bF;refine rX [] [5003,5004,5005] func38 ?_;simp[-cB,f38];intro bs;simp[-cB,h1,h2,h3,h4,h5,h6,h7,h8,h9,eu,jP,oO,gK];refine eD [5003,5004,5005] h ?_;simp
theorem adE(wb:Nat)(s:al)(F:Int)(m:ae)(i:ai)(e:Int)(aD:eK i.Op)(h:A7 wb s F m i e):NN wb s F m i e:=by
 obtain⟨h1,h2,h3,h4,h5,h6,h7,h8,h9,eu,jP,oO,gK⟩:=aD;obtain⟨m',h⟩:=h;refine⟨m',?_⟩;unfold bF at h⊢;refine rX [] [5003,5004,5005] func38 ?_;simp[-cB,f38];intro bs;simp[-cB,h1,h2,h3,h4,h5,h6,h7,h8,h9,eu,jP,oO,gK];refine ay.kQ [5003,5004,5005] rfl (h) (by simp) rfl (by simp) (by kernel_rfl) (by first|rfl|simp) (by simp) (by simp) (by simp) ?_;simp
set_option maxHeartbeats 200000
set_option maxRecDepth 512
open Go.ChangeShapes Go.WideShapes Go.ChangeAt Go.RowKit
section
variable {P : Program} {w : World} {base : Nat} {spare : Nat -> Bool} {held : Bool}
theorem Cz{k:IntKind}{t e n fuel:Nat}{H:Type}{enc:TypeId×Value→H}{cs:List Value}{xs:List Int}{ps:List MemPlace}(ht:P.underlying t=some (.array n e))(he:P.underlying e=some (.int k))(ce:P.cellsOf e=1)
  (h:DataW.trod enc P w base spare held fuel t cs=some (.agg (xs.map λx=> .lit (.int k x)),ps)):∀(i:Nat) (x:Int),xs[i]?=some x->cs[i]?=some (.int k x):=by
 obtain⟨ys,m,rfl,hx,hl,hn,sZ⟩:=DataW.trod_array ht h;intro i x hi;simp only[ao7,DataW.agg.injEq]at hx;have hlen:ys.length=xs.length:=by
  have:=congrArg List.length hx.1;simpa using this.symm
 have cp:i<n:=by
  have:=(apa.1 hi).1;omega
 have h0:=sZ i cp;have hyi:ys[i]?=some ys[i]:=akC (by omega);rw[hyi]at h0;obtain⟨r,e1,e2,_⟩:=DataW.trod_int he h0;have h3:=congrArg (λl=>l[i]?) hx.1;simp only[apc,hi,hyi,apB,anc]at h3;rw[e2]at h3;simp only[DataW.lit.injEq,Lit.int.injEq,true_and]at h3;subst h3;rw[ce]at e1;have h4:((cs.drop (i *1)).take 1)[0]?=some (.int k x):=by rw[e1];rfl
 rw[art,if_pos (by omega),aqf]at h4;simpa using h4
theorem R0{k:IntKind}{t e n fuel:Nat}{H:Type}{enc:TypeId×Value→H}{cs:List Value}{xs:List Int}{ps:List MemPlace}(ht:P.underlying t=some (.array n e))(he:P.underlying e=some (.int k))(ce:P.cellsOf e=1)(ct:P.cellsOf t=xs.length)
  (h:DataW.trod enc P w base spare held fuel t cs=some (.agg (xs.map λx=> .lit (.int k x)),ps)):cs=xs.map (Value.int k):=by
 have h1:=Cz ht he ce h;obtain⟨-,-,-,-,hl,-⟩:=DataW.trod_array ht h;rw[ct]at hl;refine List.ext_getElem? λi=>?_
 rw[apc];rcases apJ i xs.length with hi|hi
 ·rw[akC hi,h1 i _ (akC hi)];rfl
 ·rw[apT hi,apT (by omega)];rfl
theorem Qa{nm:String}{g:Nat}{cs:Array Value}(hg:P.globalNamed nm=some g)(h:w.var? P nm=some cs):∃e z,w.heap[g]?=some (.cells cs e z):=by
 simp only[World.var?,hg,aqy]at h;split at h<;>simp_all
end
theorem aeE(b:Nat):¬OO (⟨λ_=>False,[],none,false⟩:FO) fR b:=by rintro(h|h);exact gI b h;exact h
theorem aeF{w:World}{g i:Nat}{v:Value}(h:w.cell? ⟨g,i,none⟩=some v):g<w.heap.size:=by
 rcases apJ g w.heap.size with h1|h1
 ·exact h1
 ·simp[World.cell?,Array.getElem?_eq_none h1]at h
theorem aca{H:Type}{enc:TypeId×Value→H}{C:Checked}{os:Os}{f:FuncId}{fn:Func}{s:OpenSpec}{F:Stop.Interp}{a:Assume}{conds:List PathCond}{fresh handsOn:Bool}{laid:List (String×DataW Unit)}(tb:TypeId)
  (hgl:∀W:World,laidMetH C.prog laid W->vd W (OO (⟨λ_=>False,[],none,false⟩:FO) fR))
  (own:ownKnob C.prog.godebug=none) (started:os.Started) (agb:C.prog.inits.idxOf? f=none) (TL:C.prog.funcs[f]?=some fn)
  (witness:∃(w:World) (tape:Tape) (i:Input),w.os=os/\(w.forCall tape i).Shaped C.prog/\i.vars=[]/\Input.okWide C.prog (w.forCall tape i) .any w.heap.size f i/\
   s.preRow enc C.prog fn conds false laid (w.forCall tape i).memory i.args/\a.holds C.prog (lone (Frame.enter C.prog f i.args .normal) [] (w.forCall tape i)))
  (ahP:U7 C.prog=true) (Na:laidOutB C.prog=true)
  (II:fn.params.toList.all (λt=>C.prog.readableRec t&&decide (t<C.prog.types.size))=true)
  (oE:fn.resultTypes= #[tb]) (ZS:C.prog.underlying tb=some .bool) (hv:s.vars=[]) (Gr:s.bare.vars=[]) (hva:(s.at F).vars=[])
  (hs:∀ds:List (DataW H),ds.length=fn.params.size->(s.at F).fn H ds={results:=[.lit (.bool true)],args:=ds})
  (walk:∀ew:List (List D),ew.length=fn.params.size->(∀(i:Nat) t ys,fn.params[i]?=some t->ew[i]?=some ys->cY C.prog t ys)->
   (∀N,(∀ds:List (DataW H),(∀k,s.cond=some k->k H ds=true)->lr ds<=N)->mZ ew<=N)->
   aE C.prog f ((fn.params.toList.zip ew).map λp=>J3 C.prog p.1 p.2) [] (λr _=>r= .ret (oD true))):
  ReturnsInHanded a C os f .any (s.preRow enc C.prog fn conds false laid) ((s.at F).post enc C.prog fn false fresh handsOn false):=by
 refine returnsInHanded_of_row own started agb TL witness ?_;intro W base args ds gs before JP hW _ sV ZF FC _ _;have hW':=hW;obtain⟨p,q,hA,hV,rfl,hfz,gz⟩:=hW;rw[hv]at hV;obtain⟨rfl,rfl⟩:=trodVars_none hV;simp only[apL]at ZF hW' sV⊢;rw[show s.bare.plain.varTypes C.prog=[] by simp[ChangeSpec.plain,DataSpec.varTypes,Gr],apL]at ZF;have agc:∀t∈fn.params.toList,C.prog.readableRec t=true/\t<C.prog.types.size:=λt h=>by
  have:=apd.1 II t h;simpa using this
 obtain⟨ew,y1,y2,y3,y4,y6,y5⟩:=OG (base:=base) ahP fn.params.toList args.toList ds p (λt h=>(agc t h).2) hA (λn hn=>by simpa using apd.1 ZF n hn) (λj t v h1 h2=>JP j t v (by simpa using h1) (by simpa using h2));have hc:=walk ew (by simpa using y1) (λi t ys h1 h2=>y2 i t ys (by simpa using h1) h2) (λN hN=>apR y6 (hN _ sV));refine(hc (⟨λ_=>False,[],none,false⟩:FO) fR W args ⟨by simp[keys],by simp[fR],by simp[fR],by simp[fR],by simp,by simp,hgl W FC⟩ ⟨by simp at y1 y3;simp[y1,y3],λj x y hx hy=>y5 j x y (by simpa using hx) hy⟩).mono λe W' ⟨m',r,L',hr,he,hi,bV⟩=>?_
 subst hr;cases e with
 | returned v=>
   simp only[Ends]at he;have hb:=he.p6;subst hb;have bel:Below W.heap.size W W':=⟨bV.os,bV.tape,bV.output,bV.size,λk hk=>bV.block k hk (gI k)⟩
   have au:∀x∈p,x.block<W.heap.size:=λx hx=>hW'.lt x (by simpa using hx)
   refine⟨_,rfl,ds,[],p++ [],[],p,[],by rw[hva];rw[hv]at hW';simpa using hW',?_,?_,by simp[hva,DataW.TrodVars,apL,hs ds (by simpa using y4)],bel.frame _,λh=>by cases h⟩
   ·rw[apL,hs ds (by simpa using y4),oE];exact trodAll_mk1 (shut_bool ZS _)
   ·rw[apL,hs ds (by simpa using y4)];exact AG Na bel _ _ _ _ agc hA au
 | panicked c=>simp only[Ends]at he
 | _=>simp only[Ends]at he
theorem Qb{H:Type}{enc:TypeId×Value→H}{C:Checked}{os:Os}{f:FuncId}{fn:Func}{s:OpenSpec}{k:(H:Type)→List (DataW H)→Bool}(hk:s.cond=some k){conds:List PathCond}{apart:Bool}{laid:List (String×DataW Unit)}(modest:Bool)(w0:World)(args:Array Value)(fuel:Nat)(Xd:w0.os=os)
  (y7:(w0.forCall (λ_ _=>0) ⟨#[],args,[]⟩).Shaped C.prog)
  (aN:Input.okWideB C.prog (w0.forCall (λ_ _=>0) ⟨#[],args,[]⟩) f ⟨#[],args,[]⟩=true)
  {x:List (DataW H)×List (DataW H)×List MemPlace} (hx:DataW.whole enc C.prog (w0.forCall (λ_ _=>0) ⟨#[],args,[]⟩).memory fn.params.toList s.vars apart args.toList fuel=some x)
  (agd:conds.all (PathCond.test C.prog ⟨fn.params.toList,x.1,s.bare.plain.varTypes C.prog,x.2.1⟩)=true) (sV:k H (x.1++x.2.1)=true)
  (dW:s.bare.sizedB enc C.prog fn apart (w0.forCall (λ_ _=>0) ⟨#[],args,[]⟩).memory args fuel=true)
  (hl:laidMetH C.prog laid (w0.forCall (λ_ _=>0) ⟨#[],args,[]⟩).memory):
  ∃(w:World) (tape:Tape) (i:Input),w.os=os/\(w.forCall tape i).Shaped C.prog/\i.vars=[]/\Input.okWide C.prog (w.forCall tape i) .any w.heap.size f i/\
   s.preRow enc C.prog fn conds apart laid (w.forCall tape i).memory i.args/\({modest:=modest}:Assume).holds C.prog (lone (Frame.enter C.prog f i.args .normal) [] (w.forCall tape i)):=
 ⟨w0,λ_ _=>0,⟨#[],args,[]⟩,Xd,y7,(Input.okWide_of_okWideB (base:=0) aN).1,(Input.okWide_of_okWideB aN).2,
  ⟨⟨(OpenSpec.pre_some hk conds apart _ _).2 ⟨x.1,x.2.1,x.2.2,DataW.Whole_of_whole hx,agd,sV⟩,hl⟩,sizedMet_of_sizedB dW⟩,by
  simp only[Assume.holds];exact⟨by simp,by simp,λ_=>Modest.zero,by simp,by simp⟩⟩
set_option maxHeartbeats 4000000
set_option maxRecDepth 20000
theorem BX(b:Bool):Pure prog 138 [oD b] (iD (ey b)):=by
 cases b
 ·refine rn func138 ?_;simp[-cB,f138];rfl
 ·refine rn func138 ?_;simp[-cB,f138];rfl
theorem Uz(wb:Nat)(s:al)(F:Int)(m:ae)(i:ai)(S:List Int)(v:Int)(aD:i.Op=9)(hS:m.Stack=S++ [v])(hl:S.length<=1000000):ja wb s F m i {m with Stack:=S++ [ar (rL v)]}:=by
 have hp:=eZ wb s F m S v hS hl;have hq:=lA wb s F {m with Stack:=S} (rL v) hl;have hn:=afG v;unfold ja bF at *;refine rX [] [5003,5004,5005] func83 ?_;simp[-cB,f83];intro bs bL;simp[-cB,aD];refine eD [5003,5004,5005] hp ?_;simp[-cB];refine pC hn ?_;simp[-cB];refine eD [] dt ?_;simp[-cB];refine eD [5003,5004,5005] hq ?_;simp
theorem QQ(wb:Nat)(s:al)(F:Int)(m:ae)(i:ai)(S:List Int)(v:Int)(aD:i.Op=10)(hS:m.Stack=S++ [v])(hl:S.length<=1000000):ja wb s F m i {m with Stack:=S++ [ar (ey (decide (ar v=0)))]}:=by
 have hp:=eZ wb s F m S v hS hl;have hq:=lA wb s F {m with Stack:=S} (ey (decide (ar v=0))) hl;have hn:=afW v;unfold ja bF at *;refine rX [] [5003,5004,5005] func83 ?_;simp[-cB,f83];intro bs bL;simp[-cB,aD];refine eD [5003,5004,5005] hp ?_;simp[-cB];refine pC hn ?_;simp[-cB];refine eD [] dt ?_;simp[-cB];refine eD [5003,5004,5005] hq ?_;simp
theorem QR(wb:Nat)(s:al)(F:Int)(m:ae)(i:ai)(S:List Int)(v:Int)(aD:i.Op=11)(hS:m.Stack=S++ [v])(hl:S.length<=1000000):ja wb s F m i {m with Stack:=S++ [ar (ey (decide (v≠0)))]}:=by
 have hp:=eZ wb s F m S v hS hl;have hq:=lA wb s F {m with Stack:=S} (ey (decide (v≠0))) hl;have hn:=BX (!decide (v=0));have e:decide (v≠0)=!decide (v=0):=by simp
 rw[e]at hq⊢;unfold ja bF at *;refine rX [] [5003,5004,5005] func83 ?_;simp[-cB,f83];intro bs bL;simp[-cB,aD];refine eD [5003,5004,5005] hp ?_;generalize ey (!decide (v=0))=T at *;simp[-cB];refine pC hn ?_;simp[-cB];refine eD [] dt ?_;simp[-cB];refine eD [5003,5004,5005] hq ?_;simp
theorem Uu(wb:Nat)(s:al)(F:Int)(m:ae)(i:ai)(v:Int)(aD:i.Op=3)(hA:0<=i.Arg)(hg:m.Told.World.aP[i.Arg.toNat]?=some v)(hl:m.Stack.length<=1000000):ja wb s F m i {m with Stack:=m.Stack++ [ar v]}:=by
 have hq:=lA wb s F m v hl;obtain⟨g1,g2⟩:=apa.1 hg;unfold ja bF at *;refine rX [] [5003,5004,5005] func83 ?_;simp[-cB,f83];intro bs bL;simp[-cB,aD,hA,g1,g2];refine eD [] dt ?_;simp[-cB];refine eD [5003,5004,5005] hq ?_;simp
theorem Ut(wb:Nat)(s:al)(F:Int)(m:ae)(i:ai)(Fr:List aG)(f:aG)(v:Int)(aD:i.Op=5)(hA:0<=i.Arg)(h:m.Frames=Fr++ [f])(CZ:Fr.length<=1000000)(hg:f.aL[i.Arg.toNat]?=some v)(hl:m.Stack.length<=1000000):ja wb s F m i {m with Stack:=m.Stack++ [ar v]}:=by
 have hq:=lA wb s F m v hl;have ht:=xv wb s F m Fr f h CZ;obtain⟨g1,g2⟩:=apa.1 hg;have lI:Fr.length<m.Frames.length:=by rw[h];simp
 have bm:m.Frames[Fr.length]?=some f:=tz h;have sI:m.Frames[Fr.length]'lI=f:=by rw[akC lI]at bm;exact ao9 bm
 unfold ja bF at *;refine rX [] [5003,5004,5005] func83 ?_;simp[-cB,f83];intro bs bL;simp[-cB,aD];refine av.bT [.ep 5005 4 Fr.length 0] aS (by kernel_rfl) (by rfl) ?_;simp[-cB,sI,lI];refine⟨kL.read [5003,5004,5005] ht (by simp) (by kernel_rfl) (by simp) (by simp),?_⟩;simp[-cB,hA,g1,g2];refine eD [] dt ?_;simp[-cB];refine ay.weaken (Wk.pick [144,145] [5003,5004,5005] (by rfl) (by decide) (by simp)) ?_;simp[-cB];refine eD [5003,5004,5005] hq ?_;simp
theorem Uv(wb:Nat)(s:al)(F:Int)(m:ae)(i:ai)(v:Int)(aD:i.Op=7)(hv:og m.Told.World m.Env i.Arg=(v,0))(hl:m.Stack.length<=1000000)(hw:m.Told.World.wf)(hn:m.Told.World.ah.length<=32768):ja wb s F m i {m with Stack:=m.Stack++ [ar v]}:=by
 have hq:=lA wb s F m v hl;have hs:=Ti m.Told.World hw hn m.Env i.Arg;rw[hv]at hs;unfold ja bF at *;refine rX [] [5003,5004,5005] func83 ?_;simp[-cB,f83];intro bs bL;simp[-cB,aD];refine av.bT [eI (v,0)] aS (by kernel_rfl) (by rfl) ?_;simp[-cB,hs.ok,eI];refine⟨hs.ok _,?_⟩;refine eD [] dt ?_;simp[-cB];refine eD [5003,5004,5005] hq ?_;simp
theorem QY(wb:Nat)(s:al)(F:Int)(m:ae)(i:ai)(S:List Int)(x v:Int)(aD:i.Op=13)(hS:m.Stack=S++ [x])(hl:S.length<=1000000)(hv:tI s.Tables m.Told.World x i.Arg=(v,0))(hn:m.Told.World.ah.length<=32768)(hk:s.Tables.aJ.length<=65536)(hm:m.Told.World.ah.length *s.Tables.aJ.length=m.Told.World.aJ.length):ja wb s F m i {m with Stack:=S++ [ar v]}:=by
 have hp:=fT wb s F m S x hS hl;have hq:=lA wb s F {m with Stack:=S} v hl;have fv:=Tf s.Tables m.Told.World hn hk hm x i.Arg;rw[hv]at fv;unfold ja bF at *;unfold pZ at hp;refine rX [] [5003,5004,5005] func83 ?_;simp[-cB,f83];intro bs bL;simp[-cB,aD];refine av.eY aS (fF.m0 [Q3,Q3,Q3,Q3,Q3,Q3,Q0,none,Q3,Q3,arF,arF,arF,arF,arF,arF] [eI (v,0)] (by kernel_rfl) ?_);simp[-cB];refine gx.intro (λ_=>fN.jk (s:=⟨_,_⟩) 5004 [5003,5004] [5005] rfl (hp) rfl rfl (by kernel_rfl) (by first|rfl|simp) (by simp) (by simp[db,aV.cg,V.cg]) (cE (by simp)) (by simp) (by simp)) ?_;simp[-cB,eI];refine⟨fv.ok _,?_⟩;refine eD [] dt ?_;simp[-cB];refine eD [5003,5004,5005] hq ?_;simp
theorem QZ(wb:Nat)(s:al)(F:Int)(m:ae)(i:ai)(S:List Int)(x v e:Int)(he:e≠0)(aD:i.Op=13)(hS:m.Stack=S++ [x])(hl:S.length<=1000000)(hv:tI s.Tables m.Told.World x i.Arg=(v,e))(hn:m.Told.World.ah.length<=32768)(hk:s.Tables.aJ.length<=65536)(hm:m.Told.World.ah.length *s.Tables.aJ.length=m.Told.World.aJ.length):A7 wb s F m i e:=by
 refine⟨{m with Stack:=S},?_⟩;have hp:=fT wb s F m S x hS hl;have fv:=Tf s.Tables m.Told.World hn hk hm x i.Arg;rw[hv]at fv;have hc:=iM e he;unfold bF at *;unfold pZ at hp;refine rX [] [5003,5004,5005] func83 ?_;simp[-cB,f83];intro bs bL;simp[-cB,aD];refine av.eY aS (fF.m0 [Q3,Q3,Q3,Q3,Q3,Q3,Q0,none,Q3,Q3,arF,arF,arF,arF,arF,arF] [eI (v,e)] (by kernel_rfl) ?_);simp[-cB];refine gx.intro (λ_=>fN.jk (s:=⟨_,_⟩) 5004 [5003,5004] [5005] rfl (hp) rfl rfl (by kernel_rfl) (by first|rfl|simp) (by simp) (by simp[db,aV.cg,V.cg]) (cE (by simp)) (by simp) (by simp)) ?_;simp[-cB,eI];refine⟨fv.ok _,?_⟩;refine ay.kQ [] rfl (hc) (by simp) rfl (by simp) (by kernel_rfl) (by first|rfl|simp) (by simp) (by simp) (by simp) ?_;simp
set_option maxHeartbeats 200000
set_option maxRecDepth 512
def cZ(w:aj):Prop:=w.Flags.length=w.ah.length/\∀v∈w.Flags,0<=v/\v<=65535
theorem qI{w:aj}{x f:Int}(h:cz w x f=0):bU w.ah.length x=true/\0<=f/\f<=15:=by
 unfold cz at h;split at h
 ·split at h
  ·rename_i a b;exact⟨a,b⟩
  ·omega
 ·omega
theorem TM{v f:Int}(hv:0<=v/\v<=65535)(hf:0<=f/\f<=15):IntKind.wrap .i64 (((v.fdiv (2^min (IntKind.wrap .u64 f).toNat IntKind.i64.bits) % 2^IntKind.i64.bits).toNat &&& 1 % 2^IntKind.i64.bits:Nat):Int)=v / (2^f.toNat:Nat) % 2:=by
 have bY:IntKind.i64.bits=64:=rfl;rw[iu (by omega),bY,aq1 (by omega),ari _ (by exact_mod_cast aqr _)];have e:((2:Int)^f.toNat)=((2^f.toNat:Nat):Int):=by simp
 rw[e];obtain⟨n,rfl⟩:∃n:Nat,v=n:=⟨v.toNat,by omega⟩
 have hq:n / 2^f.toNat<=n:=Nat.div_le_self _ _;have e2:((n:Int) / ((2^f.toNat:Nat):Int))=((n / 2^f.toNat:Nat):Int):=by simp
 rw[e2];generalize n / 2^f.toNat=q at *;have e3:(((q:Nat):Int) % 2^64).toNat=q:=by omega
 rw[e3,show(1 % 2^64:Nat)=1 by decide,Nat.and_one_is_mod,wrap64 iW];omega
theorem LV{l:List Int}{x:Int}(h:0<=x/\x<l.length):aB l x∈l:=by
 unfold aB;rw[akC (by omega)];exact apk _
theorem Hy(w:aj)(hF:cZ w)(x f:Int):Pure prog 139 [.agg (w.enc.map .d),iD x,iD f] (.bA [oD (decide (cz w x f=0)&&cU w x f.toNat),iD (cz w x f)]):=by
 have ha:=Po w x f;by_cases h0:cz w x f=0
 ·have hx:=qI h0;have hb:=aY.1 hx.1;have hl:=hF.1;have au:x.toNat<w.Flags.length:=by omega
  have hg:w.Flags[x.toNat]?.getD 0=aB w.Flags x:=rfl;have hm:=hF.2 (aB w.Flags x) (by unfold aB;rw[akC au];exact apk _);have uu:=TM hm hx.2;have hh:cU w x f.toNat=decide (aB w.Flags x / (2^f.toNat:Nat) % 2=1):=by unfold cU;rw[hx.1,ap1]
  rw[hh];refine rn func139 ?_;simp[-cB,f139];intro bs;refine pC ha ?_;simp[-cB,h0,hg,uu];exact⟨⟨by omega,au⟩,(Km _).1⟩
 ·have bR:(cz w x f !=0)=true:=by simpa using h0
  refine rn func139 ?_;simp[-cB,f139];intro bs;refine pC ha ?_;simp[h0]
theorem TN(b:Bool):Pure prog 201 [oD b] (.bA [iD (ey b),iD 0]):=by
 unfold ey;cases b
 ·refine rn func201 ?_;simp[-cB,f201]
 ·refine rn func201 ?_;simp[-cB,f201]
set_option maxHeartbeats 4000000 in
set_option maxRecDepth 6000 in
theorem aeG(w:aj)(op a b:Int)(ho:op=1\/op=2\/op=3\/op=4\/op=5\/op=6\/op=7\/op=8\/op=10\/op=11\/op=12\/op=13\/op=14):Pure prog 135 [.agg (w.enc.map .d),iD op,iD a,iD b] (eI (jd w op a b)):=by
 have hd:=afH (ar a) (ar b);have hm:=afI (ar a) (ar b);unfold eI at hd hm⊢;rcases ho with rfl|rfl|rfl|rfl|rfl|rfl|rfl|rfl|rfl|rfl|rfl|rfl|rfl
 all_goals
  refine Pure.JS func135 rfl (by simp[f135]) ?_;refine av.named (λQ0 I5=>?_);simp only[f135];refine av.gW ?_;simp[-cB];intro bs;refine av.gW ?_;simp[-cB];refine pC (cC _) ?_;simp[-cB];refine pC (cC _) ?_;simp[-cB];refine av.gW ?_;simp[-cB];refine av.seq ?_;refine av.gW ?_;simp[-cB];refine av.block ?_
  iterate 14 (refine av.seq (av.block ?_))
  refine av.named (λQ1 ZT=>?_);refine av.vF ?_;simp[-cB];rw[ZT]
  repeat (first|refine PB ?_ (by decide)|refine PD ?_)
  refine PC (Fk ?_)
  try (refine av.named (λQ3 hQ3=>?_);refine av.vF ?_;simp[-cB];rw[hQ3];refine aen (Fk ?_))
  refine av.named (λQ2 TO=>?_);refine av.vF ?_;simp[-cB]
  first
   | refine pC (TN _) ?_
   | refine pC (YC _ _) ?_
   | refine pC (afE _ _) ?_
   | refine pC (afF _ _) ?_
   | refine pC hd ?_
   | refine pC hm ?_
  simp[-cB];rw[TO]
  repeat (first|refine Ks ?_|refine Kt ?_)
  rw[I5];simp[jd]
  all_goals rfl
set_option maxRecDepth 6000 in
theorem acb(w:aj)(hC:w.Child.length=w.ah.length)(hN:w.Next.length=w.ah.length)(a b:Int):Pure prog 135 [.agg (w.enc.map .d),iD 9,iD a,iD b] (eI (jd w 9 a b)):=by
 have hT:=Kn w hC hN 1 (ar a);have hB:jd w 9 a b=if(dh w 1 (ar a)).2=0 then(ey (decide ((dh w 1 (ar a)).1=ar b)),0)else(0,(dh w 1 (ar a)).2):=by
  simp only[jd,dh,RH];cases bU w.ah.length (ar a)<;>simp
 rw[hB];unfold eI at hT⊢;generalize dh w 1 (ar a)=p at *;refine Pure.JS func135 rfl (by simp[f135]) ?_;refine av.named (λQ0 I5=>?_);simp only[f135];refine av.gW ?_;simp[-cB];intro bs;refine av.gW ?_;simp[-cB];refine pC (cC _) ?_;simp[-cB];refine pC (cC _) ?_;simp[-cB];refine av.gW ?_;simp[-cB];refine av.seq ?_;refine av.gW ?_;simp[-cB];refine av.block ?_
 iterate 14 (refine av.seq (av.block ?_))
 refine av.named (λQ1 ZT=>?_);refine av.vF ?_;simp[-cB];rw[ZT]
 repeat (first|refine PB ?_ (by decide)|refine PD ?_)
 refine PC (Fk ?_);refine av.named (λQ2 TO=>?_);refine av.vF ?_;simp[-cB];by_cases he:p.2=0
 ·rw[he]at hT;refine pC hT ?_;simp[-cB];refine pC (TN _) ?_;simp[-cB];rw[TO]
  repeat (first|refine Ks ?_|refine Kt ?_)
  rw[I5];simp[he]
 ·refine pC hT ?_;simp[-cB,he];rw[TO]
  repeat (first|refine Ks ?_|refine Kt ?_)
  rw[I5];simp[he]
set_option maxRecDepth 6000 in
theorem acd(w:aj)(op a b:Int)(ho:op<1\/14<op):Pure prog 135 [.agg (w.enc.map .d),iD op,iD a,iD b] (eI (jd w op a b)):=by
 have n1:op≠1:=by omega
 have n2:op≠2:=by omega
 have n3:op≠3:=by omega
 have n4:op≠4:=by omega
 have n5:op≠5:=by omega
 have n6:op≠6:=by omega
 have n7:op≠7:=by omega
 have n8:op≠8:=by omega
 have n9:op≠9:=by omega
 have n10:op≠10:=by omega
 have n11:op≠11:=by omega
 have n12:op≠12:=by omega
 have n13:op≠13:=by omega
 have n14:op≠14:=by omega
 have hB:jd w op a b=(0,16):=by simp[jd,n1,n2,n3,n4,n5,n6,n7,n8,n9,n10,n11,n12,n13,n14]
 rw[hB];unfold eI;refine Pure.JS func135 rfl (by simp[f135]) ?_;refine av.named (λQ0 I5=>?_);simp only[f135];refine av.gW ?_;simp[-cB];intro bs;refine av.gW ?_;simp[-cB];refine pC (cC _) ?_;simp[-cB];refine pC (cC _) ?_;simp[-cB];refine av.gW ?_;simp[-cB];refine av.seq ?_;refine av.gW ?_;simp[-cB];refine av.block ?_
 iterate 14 (refine av.seq (av.block ?_))
 refine av.named (λQ1 ZT=>?_);refine av.vF ?_;simp[-cB,n1,n2,n3,n4,n5,n6,n7,n8,n9,n10,n11,n12,n13,n14];rw[ZT]
 repeat (first|refine PB ?_ (by decide)|refine PD ?_)
 refine PC (Fk ?_);refine av.named (λQ2 TO=>?_);refine av.vF ?_;simp[-cB];rw[TO];rw[I5];simp
theorem ZU(w:aj)(op:Int)(h9:op=9->w.Child.length=w.ah.length/\w.Next.length=w.ah.length)(a b:Int):Pure prog 135 [.agg (w.enc.map .d),iD op,iD a,iD b] (eI (jd w op a b)):=by
 have:(op<1\/14<op)\/op=9\/op=1\/op=2\/op=3\/op=4\/op=5\/op=6\/op=7\/op=8\/op=10\/op=11\/op=12\/op=13\/op=14:=by omega
 rcases this with h|rfl|h
 ·exact acd w op a b h
 ·exact acb w (h9 rfl).1 (h9 rfl).2 a b
 ·exact aeG w op a b h
set_option maxHeartbeats 4000000
set_option maxRecDepth 20000
theorem Q4(wb:Nat)(s:al)(F:Int)(m:ae)(i:ai)(S:List Int)(x:Int)(v:Int)(aD:i.Op=19)(hS:m.Stack=S++ [x])(hl:S.length<=100000)(hC:m.Told.World.Child.length=m.Told.World.ah.length)(hN:m.Told.World.Next.length=m.Told.World.ah.length)(hv:dh m.Told.World i.Arg x=(v,0)):ja wb s F m i {m with Stack:=S++ [ar (v)]}:=by
 have hp:=fT wb s F m S x hS (by omega);have hq:=lA wb s F {m with Stack:=S} (v) (by simp;omega);have fv:=Kn m.Told.World hC hN i.Arg x;rw[hv]at fv;unfold ja bF at *;unfold pZ at hp;refine rX [] [5003,5004,5005] func83 ?_;simp[-cB,f83];intro bs bL;simp[-cB,aD];refine av.eY aS (fF.m0 [Q3,Q3,Q3,Q0,none,arF,arF,arF,arF,arF,arF] [eI (v,0)] (by kernel_rfl) ?_);simp[-cB];refine gx.intro (λ_=>fN.jk (s:=⟨_,_⟩) 5004 [5003,5004] [5005] rfl (hp) rfl rfl (by kernel_rfl) (by first|rfl|simp) (by simp) (by simp[db,aV.cg,V.cg]) (cE (by simp)) (by simp) (by simp)) ?_;simp[-cB,eI];refine⟨fv.ok _,?_⟩;refine eD [] dt ?_;simp[-cB];refine eD [5003,5004,5005] hq ?_;simp
theorem Q5(wb:Nat)(s:al)(F:Int)(m:ae)(i:ai)(S:List Int)(x:Int)(v:Int)(e:Int)(he:e≠0)(aD:i.Op=19)(hS:m.Stack=S++ [x])(hl:S.length<=100000)(hC:m.Told.World.Child.length=m.Told.World.ah.length)(hN:m.Told.World.Next.length=m.Told.World.ah.length)(hv:dh m.Told.World i.Arg x=(v,e)):A7 wb s F m i e:=by
 refine⟨{m with Stack:=S},?_⟩;have hp:=fT wb s F m S x hS (by omega);have fv:=Kn m.Told.World hC hN i.Arg x;rw[hv]at fv;have hc:=iM e he;unfold bF at *;unfold pZ at hp;refine rX [] [5003,5004,5005] func83 ?_;simp[-cB,f83];intro bs bL;simp[-cB,aD];refine av.eY aS (fF.m0 [Q3,Q3,Q3,Q0,none,arF,arF,arF,arF,arF,arF] [eI (v,e)] (by kernel_rfl) ?_);simp[-cB];refine gx.intro (λ_=>fN.jk (s:=⟨_,_⟩) 5004 [5003,5004] [5005] rfl (hp) rfl rfl (by kernel_rfl) (by first|rfl|simp) (by simp) (by simp[db,aV.cg,V.cg]) (cE (by simp)) (by simp) (by simp)) ?_;simp[-cB,eI];refine⟨fv.ok _,?_⟩;refine ay.kQ [] rfl (hc) (by simp) rfl (by simp) (by kernel_rfl) (by first|rfl|simp) (by simp) (by simp) (by simp) ?_;simp
theorem QW(wb:Nat)(s:al)(F:Int)(m:ae)(i:ai)(S:List Int)(x:Int)(v:Bool)(aD:i.Op=12)(hS:m.Stack=S++ [x])(hl:S.length<=100000)(CZ:cZ m.Told.World)(hv:(decide (cz m.Told.World x i.Arg=0)&&cU m.Told.World x i.Arg.toNat,cz m.Told.World x i.Arg)=(v,0)):ja wb s F m i {m with Stack:=S++ [ar (ey v)]}:=by
 have hp:=fT wb s F m S x hS (by omega);have hq:=lA wb s F {m with Stack:=S} (ey v) (by simp;omega);have fv:=Hy m.Told.World CZ x i.Arg;have Gr:=congrArg Prod.fst hv;have LW:=congrArg Prod.snd hv;simp only at Gr LW;rw[Gr,LW]at fv;have yH:=BX v;unfold ja bF at *;unfold pZ at hp;refine rX [] [5003,5004,5005] func83 ?_;simp[-cB,f83];intro bs bL;simp[-cB,aD];refine av.eY aS (fF.m0 [Q3,Q0,none,Q3,Q3,arF,arF,arF,arF,arF,arF] [.bA [oD v,iD 0]] (by kernel_rfl) ?_);simp[-cB];refine gx.intro (λ_=>fN.jk (s:=⟨_,_⟩) 5004 [5003,5004] [5005] rfl (hp) rfl rfl (by kernel_rfl) (by first|rfl|simp) (by simp) (by simp[db,aV.cg,V.cg]) (cE (by simp)) (by simp) (by simp)) ?_;simp[-cB,eI];refine⟨fv.ok _,?_⟩;refine pC yH ?_;simp[-cB];refine eD [] dt ?_;simp[-cB];refine eD [5003,5004,5005] hq ?_;simp
theorem QX(wb:Nat)(s:al)(F:Int)(m:ae)(i:ai)(S:List Int)(x:Int)(v:Bool)(e:Int)(he:e≠0)(aD:i.Op=12)(hS:m.Stack=S++ [x])(hl:S.length<=100000)(CZ:cZ m.Told.World)(hv:(decide (cz m.Told.World x i.Arg=0)&&cU m.Told.World x i.Arg.toNat,cz m.Told.World x i.Arg)=(v,e)):A7 wb s F m i e:=by
 refine⟨{m with Stack:=S},?_⟩;have hp:=fT wb s F m S x hS (by omega);have fv:=Hy m.Told.World CZ x i.Arg;have Gr:=congrArg Prod.fst hv;have LW:=congrArg Prod.snd hv;simp only at Gr LW;rw[Gr,LW]at fv;have yH:=BX v;have hc:=iM e he;unfold bF at *;unfold pZ at hp;refine rX [] [5003,5004,5005] func83 ?_;simp[-cB,f83];intro bs bL;simp[-cB,aD];refine av.eY aS (fF.m0 [Q3,Q0,none,Q3,Q3,arF,arF,arF,arF,arF,arF] [.bA [oD v,iD e]] (by kernel_rfl) ?_);simp[-cB];refine gx.intro (λ_=>fN.jk (s:=⟨_,_⟩) 5004 [5003,5004] [5005] rfl (hp) rfl rfl (by kernel_rfl) (by first|rfl|simp) (by simp) (by simp[db,aV.cg,V.cg]) (cE (by simp)) (by simp) (by simp)) ?_;simp[-cB,eI];refine⟨fv.ok _,?_⟩;refine pC yH ?_;simp[-cB];refine ay.kQ [] rfl (hc) (by simp) rfl (by simp) (by kernel_rfl) (by first|rfl|simp) (by simp) (by simp) (by simp) ?_;simp
theorem UA(wb:Nat)(s:al)(F:Int)(m:ae)(i:ai)(S:List Int)(x y:Int)(v:Int)(aD:i.Op=8)(hS:m.Stack=S++ [y,x])(hl:S.length<=100000)(h9:i.Arg=9->m.Told.World.Child.length=m.Told.World.ah.length/\m.Told.World.Next.length=m.Told.World.ah.length)(hv:jd m.Told.World i.Arg y x=(v,0)):ja wb s F m i {m with Stack:=S++ [ar (v)]}:=by
 have mB:=eZ wb s F m (S++ [y]) x (by rw[hS];simp) (by simp;omega);have hp:=fT wb s F {m with Stack:=S++ [y]} S y rfl (by omega);have hq:=lA wb s F {m with Stack:=S} (v) (by simp;omega);have fv:=ZU m.Told.World i.Arg h9 y x;rw[hv]at fv;unfold ja bF at *;unfold pZ at hp;refine rX [] [5003,5004,5005] func83 ?_;simp[-cB,f83];intro bs bL;simp[-cB,aD];refine eD [5003,5004,5005] mB ?_;simp[-cB];refine av.eY aS (fF.m0 [Q3,Q3,Q3,Q0,none,Q3,arF,arF,arF,arF,arF,arF] [eI (v,0)] (by kernel_rfl) ?_);simp[-cB];refine gx.intro (λ_=>fN.jk (s:=⟨_,_⟩) 5004 [5003,5004] [5005] rfl (hp) rfl rfl (by kernel_rfl) (by first|rfl|simp) (by simp) (by simp[db,aV.cg,V.cg]) (cE (by simp)) (by simp) (by simp)) ?_;simp[-cB,eI];refine⟨fv.ok _,?_⟩;refine eD [] dt ?_;simp[-cB];refine eD [5003,5004,5005] hq ?_;simp
theorem UB(wb:Nat)(s:al)(F:Int)(m:ae)(i:ai)(S:List Int)(x y:Int)(v:Int)(e:Int)(he:e≠0)(aD:i.Op=8)(hS:m.Stack=S++ [y,x])(hl:S.length<=100000)(h9:i.Arg=9->m.Told.World.Child.length=m.Told.World.ah.length/\m.Told.World.Next.length=m.Told.World.ah.length)(hv:jd m.Told.World i.Arg y x=(v,e)):A7 wb s F m i e:=by
 refine⟨{m with Stack:=S},?_⟩;have mB:=eZ wb s F m (S++ [y]) x (by rw[hS];simp) (by simp;omega);have hp:=fT wb s F {m with Stack:=S++ [y]} S y rfl (by omega);have fv:=ZU m.Told.World i.Arg h9 y x;rw[hv]at fv;have hc:=iM e he;unfold bF at *;unfold pZ at hp;refine rX [] [5003,5004,5005] func83 ?_;simp[-cB,f83];intro bs bL;simp[-cB,aD];refine eD [5003,5004,5005] mB ?_;simp[-cB];refine av.eY aS (fF.m0 [Q3,Q3,Q3,Q0,none,Q3,arF,arF,arF,arF,arF,arF] [eI (v,e)] (by kernel_rfl) ?_);simp[-cB];refine gx.intro (λ_=>fN.jk (s:=⟨_,_⟩) 5004 [5003,5004] [5005] rfl (hp) rfl rfl (by kernel_rfl) (by first|rfl|simp) (by simp) (by simp[db,aV.cg,V.cg]) (cE (by simp)) (by simp) (by simp)) ?_;simp[-cB,eI];refine⟨fv.ok _,?_⟩;refine ay.kQ [] rfl (hc) (by simp) rfl (by simp) (by kernel_rfl) (by first|rfl|simp) (by simp) (by simp) (by simp) ?_;simp
set_option maxHeartbeats 200000
set_option maxRecDepth 512
theorem LX(n f:Nat):n=2^f *(n / 2^f)+n % 2^f/\n % 2^f<2^f:=⟨(Nat.div_add_mod n (2^f)).symm,Nat.mod_lt _ (Nat.pow_pos (by decide))⟩
theorem TP(p k:Nat):(2 *p).testBit k=(decide (0<k)&&p.testBit (k-1)):=by
 cases k with
 | zero=>simp
 | succ k=>rw[Nat.testBit_succ];simp
theorem ZV(p k:Nat):(2 *p+1).testBit k=(decide (k=0)||p.testBit (k-1)):=by
 cases k with
 | zero=>simp
 | succ k=>rw[Nat.testBit_succ];simp;congr 1;omega
theorem aeH{n f:Nat}(h:n / 2^f % 2=0):n ||| 2^f=n+2^f:=by
 obtain⟨h1,h2⟩:=LX n f;obtain⟨p,hp⟩:∃p,n / 2^f=2 *p:=⟨n / 2^f / 2,by revert h;generalize n / 2^f=q;omega⟩
 rw[hp]at h1;generalize n % 2^f=r at *;have e:n+2^f=2^f *(2 *p+1)+r:=by rw[h1,Nat.mul_add,Nat.mul_one];omega
 rw[e,h1];refine arf λj=>?_
 rw[Nat.testBit_or,aqw _ h2,aqw _ h2,Nat.testBit_two_pow];by_cases hj:j<f
 ·simp[hj];omega
 ·simp only[hj,if_false,TP,ZV];by_cases En:f=j
  ·subst En;simp
  ·have:0<j-f:=by omega
   have h3:¬(j-f=0):=by omega
   simp[En,this,h3]
theorem aeI{n f:Nat}(h:n / 2^f % 2=1):n ||| 2^f=n:=by
 refine arf λj=>?_
 rw[Nat.testBit_or,Nat.testBit_two_pow];by_cases En:f=j
 ·subst En;rw[Nat.testBit_eq_decide_div_mod_eq,h];simp
 ·simp[En]
theorem TQ(f j:Nat):(2^64-1-2^f).testBit j=(decide (j<64)&&!decide (f=j))\/64<=f:=by
 by_cases hf:f<64
 ·left;have:2^f<2^64:=Nat.pow_lt_pow_right (by decide) hf;rw[show 2^64-1-2^f=2^64-(2^f+1) by omega,Nat.testBit_two_pow_sub_succ this,Nat.testBit_two_pow]
 ·right;omega
theorem aeJ{n f:Nat}(hn:n<2^64)(hf:f<64)(h:n / 2^f % 2=1):n &&& (2^64-1-2^f)=n-2^f:=by
 obtain⟨h1,h2⟩:=LX n f;obtain⟨p,hp⟩:∃p,n / 2^f=2 *p+1:=⟨n / 2^f / 2,by revert h;generalize n / 2^f=q;omega⟩
 rw[hp]at h1;generalize hr:n % 2^f=r at *;have e:n-2^f=2^f *(2 *p)+r:=by rw[h1,Nat.mul_add,Nat.mul_one];omega
 rw[e];refine arf λj=>?_
 rw[Nat.testBit_and,(TQ f j).resolve_right (by omega),aqw _ h2];by_cases Wt:j<64
 ·have e2:n.testBit j=(2^f *(2 *p+1)+r).testBit j:=by rw[<-h1]
  rw[e2,aqw _ h2];by_cases hj:j<f
  ·simp[hj,Wt];omega
  ·simp only[hj,if_false,TP,ZV];by_cases En:f=j
   ·subst En;simp
   ·have:0<j-f:=by omega
    have h3:¬(j-f=0):=by omega
    simp[En,this,h3,Wt]
 ·have e3:n.testBit j=false:=Nat.testBit_lt_two_pow (apt hn (ap7 (by decide) (by omega)));have e4:(2^f *(2 *p)+r).testBit j=false:=Nat.testBit_lt_two_pow (apt (by omega:2^f *(2 *p)+r<2^64) (ap7 (by decide) (by omega)));rw[aqw _ h2]at e4;rw[e3,e4];rfl
theorem aeK{n f:Nat}(hn:n<2^64)(hf:f<64)(h:n / 2^f % 2=0):n &&& (2^64-1-2^f)=n:=by
 refine arf λj=>?_
 rw[Nat.testBit_and,(TQ f j).resolve_right (by omega)];by_cases Wt:j<64
 ·by_cases En:f=j
  ·subst En;rw[Nat.testBit_eq_decide_div_mod_eq,h];simp
  ·simp[En,Wt]
 ·have e3:n.testBit j=false:=Nat.testBit_lt_two_pow (apt hn (ap7 (by decide) (by omega)));rw[e3];rfl
def TR(a b:Int):Int:=IntKind.wrap .i64 (((a % 2^IntKind.i64.bits).toNat ||| (b % 2^IntKind.i64.bits).toNat:Nat):Int)
def xw(a b:Int):Int:=IntKind.wrap .i64 (((a % 2^IntKind.i64.bits).toNat &&& (2^IntKind.i64.bits-1-(b % 2^IntKind.i64.bits).toNat):Nat):Int)
theorem TS{v:Int}{n f:Nat}(hv:v=n):v / (2^f:Nat) % 2=((n / 2^f % 2:Nat):Int):=by subst hv;simp
theorem Wu{f:Nat}(hf:f<=15):2^f<=32768:=ap7 (n:=2) (by decide) hf
theorem aeL{v:Int}{f:Nat}(hv:0<=v/\v<=65535)(hf:f<=15):TR v (2^f:Nat)=if v / (2^f:Nat) % 2=1 then v else v+(2^f:Nat):=by
 obtain⟨n,rfl⟩:∃n:Nat,v=n:=⟨v.toNat,by omega⟩
 have hp:=Wu hf;have hb:IntKind.i64.bits=64:=rfl;rw[TS rfl];unfold TR;rw[hb];have e1:((n:Int) % 2^64).toNat=n:=by omega
 have e2:(((2^f:Nat):Int) % 2^64).toNat=2^f:=by
  generalize 2^f=P at *;omega
 rw[e1,e2];rcases Nat.mod_two_eq_zero_or_one (n / 2^f)with h|h
 ·rw[aeH h,h,if_neg (by decide),wrap64 ?_]
  ·simp
  ·rw[aU];generalize 2^f=P at *;omega
 ·rw[aeI h,h,if_pos (by decide),wrap64 iW]
theorem R3{v:Int}{f:Nat}(hv:0<=v/\v<=65535)(hf:f<=15):xw v (2^f:Nat)=if v / (2^f:Nat) % 2=1 then v-(2^f:Nat)else v:=by
 obtain⟨n,rfl⟩:∃n:Nat,v=n:=⟨v.toNat,by omega⟩
 have hp:=Wu hf;have hb:IntKind.i64.bits=64:=rfl;rw[TS rfl];unfold xw;rw[hb];have e1:((n:Int) % 2^64).toNat=n:=by omega
 have e2:(((2^f:Nat):Int) % 2^64).toNat=2^f:=by
  generalize 2^f=P at *;omega
 rw[e1,e2];have hn:n<2^64:=by omega
 rcases Nat.mod_two_eq_zero_or_one (n / 2^f)with h|h
 ·rw[aeK hn (by omega) h,h,if_neg (by decide),wrap64 iW]
 ·have hle:2^f<=n:=by
   have hm:=Nat.div_mul_le_self n (2^f);have hq:1<=n / 2^f:=by revert h;generalize n / 2^f=q;omega
   have h3:=apu (2^f) hq;rw[aqC]at h3;exact apR h3 hm
  rw[aeJ hn (by omega) h,h,if_pos (by decide)];generalize 2^f=P at *;rw[wrap64 iW];omega
theorem aeM(a b:Int):Pure prog 250 [iD a,iD b] (iD (TR a b)):=by
 refine rn func250 ?_;simp[-cB,f250];rfl
theorem ZW(a b:Int):Pure prog 251 [iD a,iD b] (iD (xw a b)):=by
 refine rn func251 ?_;simp[-cB,f251];rfl
theorem Jj(w:aj)(hF:cZ w)(hlen:w.Flags.length≤100000)(x f:Int)(G:FuncId)(tf:Int→Int→Int)(hg:∀a b,Pure prog G [iD a,iD b] (iD (tf a b))):
  Pure prog 249 [.agg (w.enc.map .d),iD x,iD f,.eS (.func G) [] []]
   (.bA [.agg ((if cz w x f=0 then {w with Flags:=w.Flags.set x.toNat (tf (aB w.Flags x) (2^f.toNat:Nat))}else w).enc.map .d),iD (cz w x f)]):=by
 have ha:=Po w x f;by_cases h0:cz w x f=0
 ·have hx:=qI h0;have hb:=aY.1 hx.1;have hl:=hF.1;have au:x.toNat<w.Flags.length:=by omega
  have hgt:w.Flags[x.toNat]?.getD 0=aB w.Flags x:=rfl;rw[if_pos h0,h0];rw[h0]at ha;have hc:=ia 4050 w.Flags (by omega);have ajX:IntKind.i64.wrap (2^min (IntKind.u64.wrap f).toNat IntKind.i64.bits)=((2^f.toNat:Nat):Int):=by
   have hp:=Wu (f:=f.toNat) (by omega);rw[iu (by omega),show IntKind.i64.bits=64 from rfl,aq1 (by omega)];have e:((2:Int)^f.toNat)=((2^f.toNat:Nat):Int):=by simp
   rw[e];generalize 2^f.toNat=P at *;exact wrap64 iW
  refine rn func249 ?_;simp[-cB,f249];intro bs;refine pC ha ?_;simp[-cB];refine eD [] hc ?_;simp[-cB,aj.enc];generalize hP:((2^f.toNat:Nat):Int)=P at *;refine av.aT [Q0,Q0,Q0,Q0,Q0,Q0,Q0,Q0,Q0,Q0,Q0,Q0,Q0,Q0,none] [iD (tf (aB w.Flags x) P)] aS (by kernel_rfl) ?_;simp[-cB,ajX,hgt,(hg _ _).ok];exact⟨⟨by omega,au⟩,au,(Km _).1,by omega,au,by rw[<-hP];simp⟩
 ·rw[if_neg h0];refine rn func249 ?_;simp[-cB,f249];intro bs;refine pC ha ?_;simp[h0]
theorem Qc{l:List Int}{x:Int}(hx:0<=x/\x.toNat<l.length):l.set x.toNat (aB l x)=l:=by
 unfold aB;rw[akC hx.2];exact List.set_getElem_self hx.2
theorem Qd(w:aj)(hF:cZ w)(hlen:w.Flags.length<=100000)(x f:Int):Pure prog 212 [.agg (w.enc.map .d),iD x,iD f] (.bA [.agg ((eb w x f true).1.enc.map .d),iD (eb w x f true).2]):=by
 have h:=Jj w hF hlen x f 250 TR aeM;have e:(eb w x f true).1=(if cz w x f=0 then {w with Flags:=w.Flags.set x.toNat (TR (aB w.Flags x) (2^f.toNat:Nat))}else w)/\(eb w x f true).2=cz w x f:=by
  unfold eb;split
  ·rename_i h0;have hx:=qI h0;have hb:=aY.1 hx.1;have hl:=hF.1;have hm:=hF.2 _ (LV (l:=w.Flags) (x:=x) (by omega));refine⟨?_,h0.symm⟩;simp only;rw[aeL hm (by omega)];unfold cU;rw[hx.1,ap1];split
   ·rename_i hh;have hh:aB w.Flags x / (2^f.toNat:Nat) % 2=1:=by simpa using hh
    rw[if_pos hh,Qc (by omega)]
   ·rename_i hh;have hh:¬aB w.Flags x / (2^f.toNat:Nat) % 2=1:=by simpa using hh
    rw[if_neg hh];simp
  ·exact⟨rfl,rfl⟩
 rw[e.1,e.2];clear e;revert h;generalize (if cz w x f=0 then {w with Flags:=w.Flags.set x.toNat (TR (aB w.Flags x) (2^f.toNat:Nat))}else w)=R;intro h;refine Pure.run func212 rfl (by simp[f212,aj.enc]) ?_;simp[-cB,f212,aj.enc];intro bs;refine pC h ?_;simp[-cB];rfl
theorem Jk(w:aj)(hF:cZ w)(hlen:w.Flags.length<=100000)(x f:Int):Pure prog 213 [.agg (w.enc.map .d),iD x,iD f] (.bA [.agg ((eb w x f false).1.enc.map .d),iD (eb w x f false).2]):=by
 have h:=Jj w hF hlen x f 251 xw ZW;have e:(eb w x f false).1=(if cz w x f=0 then {w with Flags:=w.Flags.set x.toNat (xw (aB w.Flags x) (2^f.toNat:Nat))}else w)/\(eb w x f false).2=cz w x f:=by
  unfold eb;split
  ·rename_i h0;have hx:=qI h0;have hb:=aY.1 hx.1;have hl:=hF.1;have hm:=hF.2 _ (LV (l:=w.Flags) (x:=x) (by omega));refine⟨?_,h0.symm⟩;simp only;rw[R3 hm (by omega)];unfold cU;rw[hx.1,ap1];split
   ·rename_i hh;have hh:¬aB w.Flags x / (2^f.toNat:Nat) % 2=1:=by simpa using hh
    rw[if_neg hh,Qc (by omega)]
   ·rename_i hh;have hh:aB w.Flags x / (2^f.toNat:Nat) % 2=1:=by simpa using hh
    rw[if_pos hh];simp
  ·exact⟨rfl,rfl⟩
 rw[e.1,e.2];clear e;revert h;generalize (if cz w x f=0 then {w with Flags:=w.Flags.set x.toNat (xw (aB w.Flags x) (2^f.toNat:Nat))}else w)=R;intro h;refine Pure.run func213 rfl (by simp[f213,aj.enc]) ?_;simp[-cB,f213,aj.enc];intro bs;refine pC h ?_;simp[-cB];rfl
set_option maxHeartbeats 4000000
set_option maxRecDepth 20000
abbrev jK(wb:Nat)(s:al)(F:Int)(m:ae)(i:ai)(m':ae):Prop:=aE prog 143 [.bp 5003 0,.agg (i.enc.map .d)] (bF wb s F m) (λr L=>r= .ret (.bA [])/\L=bF wb s F m')
abbrev CW(wb:Nat)(s:al)(F:Int)(m:ae)(i:ai)(e:Int):Prop:=∃m',aE prog 143 [.bp 5003 0,.agg (i.enc.map .d)] (bF wb s F m) (λr L=>r= .ix (oY e)/\L=bF wb s F m')
@[simp] theorem akU(w:aj)(n:Int):List.take 12 (w.enc.map V.d)++ [V.d (.v (.int .i64 n))]=({w with Go:=n}:aj).enc.map V.d:=rfl
@[simp] theorem al3(w:aj)(n:Int):List.take 8 (w.enc.map V.d)++V.d (.v (.int .i64 n))::List.drop 9 (w.enc.map V.d)=({w with Score:=n}:aj).enc.map V.d:=rfl
@[simp] theorem ajY(w:aj):List.take 13 (w.enc.map V.d)=w.enc.map V.d:=rfl
theorem Ux(wb:Nat)(s:al)(F:Int)(m:ae)(i:ai)(S:List Int)(x:Int)(aD:i.Op=2)(hS:m.Stack=S++ [x])(hl:S.length<=100000):jK wb s F m i {m with Stack:=S}:=by
 have hp:=eZ wb s F m S x hS (by omega);unfold jK bF at *;refine rX [] [5003,5004,5005] func143 ?_;simp[-cB,f143];intro bs bL;simp[-cB,aD];refine eD [5003,5004,5005] hp ?_;simp[-cB];refine eD [] dt ?_;simp[-cB]
theorem Ro(wb:Nat)(s:al)(F:Int)(m:ae)(i:ai)(S:List Int)(x:Int)(aD:i.Op=34)(hS:m.Stack=S++ [x])(hl:S.length<=100000)(hx:1<=x/\x<=12):jK wb s F m i {m with Stack:=S,Told:={m.Told with World:={m.Told.World with Go:=x}}}:=by
 have hp:=eZ wb s F m S x hS (by omega);have h1:¬x<1:=by omega
 have h2:¬12<x:=by omega
 unfold jK bF at *;refine rX [] [5003,5004,5005] func143 ?_;simp[-cB,f143];intro bs bL;simp[-cB,aD];refine eD [5003,5004,5005] hp ?_;simp[-cB,h1,h2];refine eD [] dt ?_;simp[-cB]
theorem Rn(wb:Nat)(s:al)(F:Int)(m:ae)(i:ai)(S:List Int)(x:Int)(aD:i.Op=34)(hS:m.Stack=S++ [x])(hl:S.length<=100000)(hx:¬(1<=x/\x<=12)):CW wb s F m i 5:=by
 refine⟨{m with Stack:=S},?_⟩;have hp:=eZ wb s F m S x hS (by omega);have hc:=iM 5 (by decide);unfold bF at *;by_cases h1:x<1
 ·refine rX [] [5003,5004,5005] func143 ?_;simp[-cB,f143];intro bs bL;simp[-cB,aD];refine eD [5003,5004,5005] hp ?_;simp[-cB,h1];refine ay.kQ [] rfl (hc) (by simp) rfl (by simp) (by kernel_rfl) (by first|rfl|simp) (by simp) (by simp) (by simp) ?_;simp
 ·have h2:12<x:=by omega
  refine rX [] [5003,5004,5005] func143 ?_;simp[-cB,f143];intro bs bL;simp[-cB,aD];refine eD [5003,5004,5005] hp ?_;simp[-cB,h1,h2];refine ay.kQ [] rfl (hc) (by simp) rfl (by simp) (by kernel_rfl) (by first|rfl|simp) (by simp) (by simp) (by simp) ?_;simp
theorem Q8(wb:Nat)(s:al)(F:Int)(m:ae)(i:ai)(S:List Int)(x:Int)(w':aj)(aD:i.Op=15)(hS:m.Stack=S++ [x])(hl:S.length<=100000)(hF:cZ m.Told.World)(hlen:m.Told.World.Flags.length<=100000)(hv:eb m.Told.World x i.Arg true=(w',0)):jK wb s F m i {m with Stack:=S,Told:={m.Told with World:=w'}}:=by
 have hp:=fT wb s F m S x hS (by omega);have fv:=Qd m.Told.World hF hlen x i.Arg;rw[hv]at fv;unfold jK bF at *;unfold pZ at hp;refine rX [] [5003,5004,5005] func143 ?_;simp[-cB,f143];intro bs bL;simp[-cB,aD];refine av.eY aS (fF.m0 [Q3,Q0,none,Q3,Q3,arF,arF,arF,arI,none,arG] [.bA [.agg (w'.enc.map .d),iD 0]] (by kernel_rfl) ?_);simp[-cB];refine gx.intro (λ_=>fN.jk (s:=⟨_,_⟩) 5004 [5003,5004] [5005] rfl (hp) rfl rfl (by kernel_rfl) (by first|rfl|simp) (by simp) (by simp[db,aV.cg,V.cg]) (cE (by simp)) (by simp) (by simp)) ?_;simp[-cB];refine⟨fv.ok _,?_⟩;refine eD [] dt ?_;simp[-cB]
theorem Q9(wb:Nat)(s:al)(F:Int)(m:ae)(i:ai)(S:List Int)(x:Int)(w':aj)(e:Int)(he:e≠0)(aD:i.Op=15)(hS:m.Stack=S++ [x])(hl:S.length<=100000)(hF:cZ m.Told.World)(hlen:m.Told.World.Flags.length<=100000)(hv:eb m.Told.World x i.Arg true=(w',e)):CW wb s F m i e:=by
 refine⟨{m with Stack:=S},?_⟩;have hc:=iM e he;have hp:=fT wb s F m S x hS (by omega);have fv:=Qd m.Told.World hF hlen x i.Arg;rw[hv]at fv;unfold bF at *;unfold pZ at hp;refine rX [] [5003,5004,5005] func143 ?_;simp[-cB,f143];intro bs bL;simp[-cB,aD];refine av.eY aS (fF.m0 [Q3,Q0,none,Q3,Q3,arF,arF,arF,arI,none,arG] [.bA [.agg (w'.enc.map .d),iD e]] (by kernel_rfl) ?_);simp[-cB];refine gx.intro (λ_=>fN.jk (s:=⟨_,_⟩) 5004 [5003,5004] [5005] rfl (hp) rfl rfl (by kernel_rfl) (by first|rfl|simp) (by simp) (by simp[db,aV.cg,V.cg]) (cE (by simp)) (by simp) (by simp)) ?_;simp[-cB];refine⟨fv.ok _,?_⟩;refine ay.kQ [] rfl (hc) (by simp) rfl (by simp) (by kernel_rfl) (by first|rfl|simp) (by simp) (by simp) (by simp) ?_;simp
theorem Ra(wb:Nat)(s:al)(F:Int)(m:ae)(i:ai)(S:List Int)(x:Int)(w':aj)(aD:i.Op=16)(hS:m.Stack=S++ [x])(hl:S.length<=100000)(hF:cZ m.Told.World)(hlen:m.Told.World.Flags.length<=100000)(hv:eb m.Told.World x i.Arg false=(w',0)):jK wb s F m i {m with Stack:=S,Told:={m.Told with World:=w'}}:=by
 have hp:=fT wb s F m S x hS (by omega);have fv:=Jk m.Told.World hF hlen x i.Arg;rw[hv]at fv;unfold jK bF at *;unfold pZ at hp;refine rX [] [5003,5004,5005] func143 ?_;simp[-cB,f143];intro bs bL;simp[-cB,aD];refine av.eY aS (fF.m0 [Q3,Q0,none,Q3,Q3,arF,arF,arF,arI,none,arG] [.bA [.agg (w'.enc.map .d),iD 0]] (by kernel_rfl) ?_);simp[-cB];refine gx.intro (λ_=>fN.jk (s:=⟨_,_⟩) 5004 [5003,5004] [5005] rfl (hp) rfl rfl (by kernel_rfl) (by first|rfl|simp) (by simp) (by simp[db,aV.cg,V.cg]) (cE (by simp)) (by simp) (by simp)) ?_;simp[-cB];refine⟨fv.ok _,?_⟩;refine eD [] dt ?_;simp[-cB]
theorem Rb(wb:Nat)(s:al)(F:Int)(m:ae)(i:ai)(S:List Int)(x:Int)(w':aj)(e:Int)(he:e≠0)(aD:i.Op=16)(hS:m.Stack=S++ [x])(hl:S.length<=100000)(hF:cZ m.Told.World)(hlen:m.Told.World.Flags.length<=100000)(hv:eb m.Told.World x i.Arg false=(w',e)):CW wb s F m i e:=by
 refine⟨{m with Stack:=S},?_⟩;have hc:=iM e he;have hp:=fT wb s F m S x hS (by omega);have fv:=Jk m.Told.World hF hlen x i.Arg;rw[hv]at fv;unfold bF at *;unfold pZ at hp;refine rX [] [5003,5004,5005] func143 ?_;simp[-cB,f143];intro bs bL;simp[-cB,aD];refine av.eY aS (fF.m0 [Q3,Q0,none,Q3,Q3,arF,arF,arF,arI,none,arG] [.bA [.agg (w'.enc.map .d),iD e]] (by kernel_rfl) ?_);simp[-cB];refine gx.intro (λ_=>fN.jk (s:=⟨_,_⟩) 5004 [5003,5004] [5005] rfl (hp) rfl rfl (by kernel_rfl) (by first|rfl|simp) (by simp) (by simp[db,aV.cg,V.cg]) (cE (by simp)) (by simp) (by simp)) ?_;simp[-cB];refine⟨fv.ok _,?_⟩;refine ay.kQ [] rfl (hc) (by simp) rfl (by simp) (by kernel_rfl) (by first|rfl|simp) (by simp) (by simp) (by simp) ?_;simp
theorem Rk(wb:Nat)(s:al)(F:Int)(m:ae)(i:ai)(S:List Int)(x:Int)(aD:i.Op=31)(hS:m.Stack=S++ [x])(hl:S.length<=100000):jK wb s F m i {m with Stack:=S,Told:={m.Told with World:={m.Told.World with Score:=zV m.Told.World.Score x}}}:=by
 have hp:=fT wb s F m S x hS (by omega);have fv:=YC m.Told.World.Score x;unfold jK bF at *;unfold pZ at hp;refine rX [] [5003,5004,5005] func143 ?_;simp[-cB,f143];intro bs bL;simp[-cB,aD];refine av.eY aS (fF.m0 [Q3,Q3,Q0,none,arF,arF,none] [iD (zV m.Told.World.Score x)] (by kernel_rfl) ?_);simp[-cB];refine gx.intro (λ_=>fN.jk (s:=⟨_,_⟩) 5004 [5003,5004] [5005] rfl (hp) rfl rfl (by kernel_rfl) (by first|rfl|simp) (by simp) (by simp[db,aV.cg,V.cg]) (cE (by simp)) (by simp) (by simp)) ?_;simp[-cB];refine⟨fv.ok _,?_⟩;refine eD [] dt ?_;simp[-cB]
theorem Q7(wb:Nat)(s:al)(F:Int)(m:ae)(i:ai)(S:List Int)(x:Int)(aD:i.Op=20)(hS:m.Stack=S++ [x])(hl:S.length<=100000)(hx:¬ar x<1):ja wb s F m i {m with Stack:=S++ [ar ((kF m.Told.World.cL (ar x)).1+1)],Told:={m.Told with World:={m.Told.World with cL:=(kF m.Told.World.cL (ar x)).2}}}:=by
 have hp:=fT wb s F m S x hS (by omega);have fv:=LH m.Told.World x;rw[if_neg hx]at fv;generalize kF m.Told.World.cL (ar x)=R at *;obtain⟨v,q⟩:=R;have hq:=lA wb s F {m with Stack:=S,Told:={m.Told with World:={m.Told.World with cL:=q}}} (v+1) (by simp;omega);unfold ja bF at *;unfold pZ at hp;refine rX [] [5003,5004,5005] func83 ?_;simp[-cB,f83];intro bs bL;simp[-cB,aD];refine av.eY aS (fF.m0 [Q3,Q3,Q0,none,arF,arF,arF,arF,arI,arF,arF,arF,arF,arF,none,arG] [.bA [iD (v+1),.agg (({m.Told.World with cL:=q}:aj).enc.map .d),iD 0]] (by kernel_rfl) ?_);simp[-cB];refine gx.intro (λ_=>fN.jk (s:=⟨_,_⟩) 5004 [5003,5004] [5005] rfl (hp) rfl rfl (by kernel_rfl) (by first|rfl|simp) (by simp) (by simp[db,aV.cg,V.cg]) (cE (by simp)) (by simp) (by simp)) ?_;simp[-cB];refine⟨fv.ok _,?_⟩;refine eD [] dt ?_;simp[-cB];refine eD [5003,5004,5005] hq ?_;simp
theorem Q6(wb:Nat)(s:al)(F:Int)(m:ae)(i:ai)(S:List Int)(x:Int)(aD:i.Op=20)(hS:m.Stack=S++ [x])(hl:S.length<=100000)(hx:ar x<1):A7 wb s F m i 1:=by
 refine⟨{m with Stack:=S},?_⟩;have hc:=iM 1 (by decide);have hp:=fT wb s F m S x hS (by omega);have fv:=LH m.Told.World x;rw[if_pos hx]at fv;unfold bF at *;unfold pZ at hp;refine rX [] [5003,5004,5005] func83 ?_;simp[-cB,f83];intro bs bL;simp[-cB,aD];refine av.eY aS (fF.m0 [Q3,Q3,Q0,none,arF,arF,arF,arF,arI,arF,arF,arF,arF,arF,none,arG] [.bA [iD 0,.agg (m.Told.World.enc.map .d),iD 1]] (by kernel_rfl) ?_);simp[-cB];refine gx.intro (λ_=>fN.jk (s:=⟨_,_⟩) 5004 [5003,5004] [5005] rfl (hp) rfl rfl (by kernel_rfl) (by first|rfl|simp) (by simp) (by simp[db,aV.cg,V.cg]) (cE (by simp)) (by simp) (by simp)) ?_;simp[-cB];refine⟨fv.ok _,?_⟩;refine ay.kQ [] rfl (hc) (by simp) rfl (by simp) (by kernel_rfl) (by first|rfl|simp) (by simp) (by simp) (by simp) ?_;simp
theorem Qe(t:aq)(w:aj)(hn:w.ah.length<=32768)(hk:t.aJ.length<=65536)(hm:w.ah.length *t.aJ.length=w.aJ.length)(uJ:w.aJ.length<=100000000)(x p n:Int):Pure prog 211 [.agg (t.enc.map .d),.agg (w.enc.map .d),iD x,iD p,iD n] (.bA [.agg ((mY t w x p n).1.enc.map .d),iD (mY t w x p n).2]):=by
 have fJ:=Pp t w hn hk x p;have hi:=ahp n;have hc:=ia 4050 w.aJ (by omega);unfold eI at fJ;unfold mY;by_cases he:gJ t w x p=0
 ·have hT:bU w.ah.length x=true/\0<=p/\p<t.aJ.length:=by
   unfold gJ at he;split at he
   ·split at he
    ·rename_i a b;exact⟨a,b⟩
    ·omega
   ·omega
  have hl:=BG hm (aY.1 hT.1) hT.2;rw[he]at fJ⊢;simp at fJ;generalize x *t.aJ.length+p=q at *;cases lj:gP n with
  | false=>
    rw[lj]at hi;simp only[if_true];refine rn func211 ?_;simp[-cB,f211];intro bs;refine pC fJ ?_;simp[-cB];refine pC hi ?_;simp[-cB]
  | true=>
    rw[lj]at hi;simp only[if_true];unfold aj.enc;refine rn func211 ?_;simp[-cB,f211];intro bs;refine pC fJ ?_;simp[-cB];refine pC hi ?_;simp[-cB];refine eD [] hc ?_;simp[-cB,hl.1,hl.2]
 ·simp[he]at fJ;rw[if_neg he];generalize gJ t w x p=e at *;have kK:(e !=0)=true:=by simpa using he
  refine rn func211 ?_;simp[-cB,f211];intro bs;refine pC fJ ?_;simp[-cB,kK]
end Go.Ab

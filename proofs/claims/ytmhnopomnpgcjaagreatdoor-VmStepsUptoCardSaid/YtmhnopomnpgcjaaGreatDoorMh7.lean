/-
  The texts Vbook Gtick Nest4 Bok Lgen Vbook2 Vbook3 Vbook4 Vbeg Vbeg2 Vsame Vsame2 Xmust Vdefer Rc Hd Vwk Vdo Vdo2 Vdo3 Vstep Vrk Zt Vrk2 Vrk3 Bflag Bval3 Vrk4 Lbit Bflag2 Vch, one behind the other.
-/
import Derived.Test.YtmhnopomnpgcjaaGreatDoorMh6
import Derived.Deep.DeepHandedRow
import Derived.FnData
import Derived.LaidMore
set_option linter.unusedSimpArgs false
set_option linter.unusedVariables false
namespace Go.Ab
open Go.Proofs Go.Proofs.Tryz
mutual
def zF(k:Int):an->Bool
 | .mk a _ _ _ b c=>decide (a=k)||lT k b||lT k c
def lT(k:Int):List an->Bool
 | []=>false
 | s::l=>zF k s||lT k l
end
theorem abQ(k:Int)(s:an):zF k s=(decide (s.Kind=k)||lT k s.Body||lT k s.bX):=by cases s;rw[zF];rfl
theorem LI(k:Int)(l:List an):lT k l=l.any (zF k):=by
 induction l with
 | nil=>rw[lT];rfl
 | cons s l ih=>rw[lT,ih];rfl
theorem I0(k:Int):∀(n:Nat) (l:List an),SizeOf.sizeOf l<n->(∀s∈l,s.wf)->l.length *104<=140737488351232->Pure prog 61 [.d (.sl (l.map an.enc)),iD k] (oD (lT k l)):=by
 intro n
 induction n with
 | zero=>intro l hn;omega
 | succ n ih=>
   intro l hn hl hlen;have jT:∀s∈l,Pure prog 61 [.d (.sl (s.Body.map an.enc)),iD k] (oD (lT k s.Body))/\Pure prog 61 [.d (.sl (s.bX.map an.enc)),iD k] (oD (lT k s.bX)):=by
    intro s hs;have h1:=apo hs;have hw:=hl s hs;have h2:=an.qU s;have h3:=an.qV s;exact⟨ih s.Body (by omega) (an.EZ hw) (an.EY hw),ih s.bX (by omega) (an.E1 hw) (an.E0 hw)⟩
   refine rn func61 ?_;simp[-cB,f61];refine av.fj [0,1,5] l (λpre=> [(5,iD pre.length)]) (λ_=> []) (λpre=>pre.any (zF k)=false) (by rfl) (by omega) (by simp) ?_ ?_
   ·rintro pre s post bx ss aw bm a4;have hS:=jT s (by rw[bx];simp);have pz:zF k s=true->lT k l=true:=λh=>by rw[LI,bx];simp[h]
    have iT:zF k s=false->(pre++ [s]).any (zF k)=false:=λh=>by rw[ap4,ss];simp[h]
    rw[abQ]at pz iT;have Kn:=bx.symm;clear ih jT hlen hn bx;have F9:∀{f:FuncId} {args:List V} {x:V},False->Pure prog f args x:=λh=>h.elim
    simp[-cB,aw,bm]
    repeat' (first
     | (with_reducible refine And.intro ?_ ?_)
     | ((first|(refine ax (λh=>?_) (λh=>?_)<;>(try simp at h))|refine pC hS.1 ?_|refine pC hS.2 ?_|refine lC hS.1 ?_|refine lC hS.2 ?_|refine pG hS.1 ?_|refine pG hS.2 ?_)<;>(try simp[-cB, *,aw,bm]))
     | (with_reducible intro _))
    rename_i y hy;have h2:=iT (by simp[h]);rw[ap3]at h2;simpa using h2 y (by simpa using hy)
   ·intro bV;rw[LI,bV];simp
def yB(t:ar)(i:Int):Bool:=t.nA.any λd=>decide (d.Body=i)
def lu(t:ar)(i:Int):Bool:=(t.cY.any λf=>decide (f=i))||(t.nA.any λd=>decide (d.jf=i))||t.az.any λx=>x.mh.any λw=>decide (w.jf=i)
theorem abR(t:ar)(ht:t.wf)(i:Int):Pure prog 63 [.agg (t.enc.map .d),iD i] (oD (yB t i)):=by
 have hlen:=ar.GV ht;refine rn func63 ?_;simp[-cB,f63];intro bs;refine av.fj [1,2,5] t.nA (λpre=> [(5,iD pre.length)]) (λ_=> []) (λpre=>(pre.any λd=>decide (d.Body=i))=false) (by rfl) (by omega) (by simp) ?_ ?_
 ·rintro pre s post bx ss aw bm a4;have pz:s.Body=i->yB t i=true:=λh=>by unfold yB;rw[bx];simp[h]
  have iT:¬s.Body=i->((pre++ [s]).any λd=>decide (d.Body=i))=false:=λh=>by rw[ap4,ss];simp[h]
  clear bx;by_cases h:s.Body=i
  ·simp[aw,bm,h,pz h]
  ·simp[aw,bm,h];refine⟨a4,λy hy=>?_⟩;have h2:=iT h;rw[ap3]at h2;simpa using h2 y (by simpa using hy)
 ·intro bV;simp[yB,bV]
theorem Zz(t:ar)(ht:t.wf)(i:Int):Pure prog 62 [.agg (t.enc.map .d),iD i] (oD (lu t i)):=by
 have hlen:=ar.GV ht;have amv:=ar.GW ht;have amw:=ar.Du ht;have ZA:=ar.K6 ht;refine rn func62 ?_;simp[-cB,f62];intro bs;refine av.fj [1,2,5] t.cY (λpre=> [(5,iD pre.length)]) (λ_=> []) (λpre=>(pre.any λd=>decide (d=i))=false) (by rfl) (by omega) (by simp) ?_ ?_
 ·rintro pre s post bx ss aw bm a4;have pz:s=i->lu t i=true:=λh=>by unfold lu;rw[bx];simp[h]
  have iT:¬s=i->((pre++ [s]).any λd=>decide (d=i))=false:=λh=>by rw[ap4,ss];simp[h]
  clear bx;by_cases h:s=i
  ·simp[aw,bm,h,pz h]
  ·simp[aw,bm,h];refine⟨a4,λy hy=>?_⟩;have h2:=iT h;rw[ap3]at h2;simpa using h2 y (by simpa using hy)
 ·intro aht;simp;refine av.fj [1,2,6] t.nA (λpre=> [(6,iD pre.length)]) (λ_=> []) (λpre=>(pre.any λd=>decide (d.jf=i))=false) (by rfl) (by omega) (by simp) ?_ ?_
  ·rintro pre s post bx ss aw bm a4;have pz:s.jf=i->lu t i=true:=λh=>by unfold lu;rw[bx];simp[h]
   have iT:¬s.jf=i->((pre++ [s]).any λd=>decide (d.jf=i))=false:=λh=>by rw[ap4,ss];simp[h]
   clear bx;by_cases h:s.jf=i
   ·simp[aw,bm,h,pz h]
   ·simp[aw,bm,h];refine⟨a4,λy hy=>?_⟩;have h2:=iT h;rw[ap3]at h2;simpa using h2 y (by simpa using hy)
  ·intro ahu;simp;refine av.fj [1,2,7] t.az (λpre=> [(7,iD pre.length)]) (λ_=> []) (λpre=>(pre.any λx=>x.mh.any λw=>decide (w.jf=i))=false) (by rfl) (by omega) (by simp) ?_ ?_
   ·rintro pre s post bx ss aw bm a4;have hwl:=bg.EW (ZA s (by rw[bx];simp));have pz:(s.mh.any λw=>decide (w.jf=i))=true->lu t i=true:=λh=>by unfold lu;rw[bx];simp only[ap4,List.any_cons,h];simp
    have iT:(s.mh.any λw=>decide (w.jf=i))=false->((pre++ [s]).any λx=>x.mh.any λw=>decide (w.jf=i))=false:=λh=>by rw[ap4,ss];simp only[List.any_cons,h,List.any_nil];rfl
    clear bx;simp[aw,bm];refine av.fj [1,2,7,8,9] s.mh (λpre=> [(9,iD pre.length)]) (λ_=> []) (λpre=>(pre.any λw=>decide (w.jf=i))=false) (by rfl) (by omega) (by simp) ?_ ?_
    ·rintro VX u ac7 Kn ahv dj J4 a4';have ahw:u.jf=i->lu t i=true:=λh=>pz (by rw[Kn];simp[h])
     have ajC:¬u.jf=i->((VX++ [u]).any λd=>decide (d.jf=i))=false:=λh=>by rw[ap4,ahv];simp[h]
     clear Kn pz iT;by_cases h:u.jf=i
     ·simp[dj,J4,h,ahw h]
     ·simp[dj,J4,h];refine⟨a4',λy hy=>?_⟩;have h2:=ajC h;rw[ap3]at h2;simpa using h2 y (by simpa using hy)
    ·intro bV;have h3:=iT bV;simp[a4];intro y hy;rw[ap3]at h3;have:=h3 y (by simpa using hy);simpa using this
   ·intro ahx;have:lu t i=false:=by unfold lu;rw[aht,ahu,ahx];rfl
    simp[this]
end Go.Ab
namespace Go.Ab
set_option maxHeartbeats 4000000
set_option maxRecDepth 40000
open Go.Proofs Go.Proofs.Tryz
def yC(C:List ai)(k:Int):Nat:=C.countP λi=>decide (i.Op=38)&&decide (i.Arg=k)
def wi(C:List ai)(k:Int):Nat:=C.countP λi=>(decide (i.Op=24)||decide (i.Op=25))&&decide (i.Arg=k)
def Cu(C:List ai):Nat:=C.countP λi=>decide (i.Op=38)
def tkC(C:List ai):Nat:=C.countP λi=>decide (i.Op=37)
theorem xf(a b:List ai)(k:Int):yC (a++b) k=yC a k+yC b k:=aqi
theorem xg(a b:List ai)(k:Int):wi (a++b) k=wi a k+wi b k:=aqi
theorem xh(a b:List ai):Cu (a++b)=Cu a+Cu b:=aqi
theorem sA(i:ai)(l:List ai)(k:Int):yC (i::l) k=yC l k+if i.Op=38/\i.Arg=k then 1 else 0:=by simp[yC,aqv]
theorem sB(i:ai)(l:List ai)(k:Int):wi (i::l) k=wi l k+if(i.Op=24\/i.Op=25)/\i.Arg=k then 1 else 0:=by simp[wi,aqv]
theorem sC(i:ai)(l:List ai):Cu (i::l)=Cu l+if i.Op=38 then 1 else 0:=by simp[Cu,aqv]
@[simp] theorem Tq(k:Int):yC [] k=0:=rfl
@[simp] theorem Tr(k:Int):wi [] k=0:=rfl
@[simp] theorem akf:Cu []=0:=rfl
@[simp] theorem akg:tkC []=0:=rfl
structure oU(C:List ai) (a b:Int):Prop where
 le:a<=b
 st:∀k,(a<=k/\k<b->yC C k=1)/\(¬(a<=k/\k<b)->yC C k=0)
 ak:∀k,(a<=k/\k<b->0<wi C k)/\(¬(a<=k/\k<b)->wi C k=0)
 nl:(Cu C:Int)=b-a
theorem oU.nil(a:Int):oU [] a a:=⟨by omega,λk=>by simp<;>omega,λk=>by simp<;>omega,by simp⟩
theorem oU.app{C D:List ai}{a b c:Int}(h:oU C a b)(h':oU D b c):oU (C++D) a c:=by
 have l1:=h.le;have l2:=h'.le;refine⟨by omega,λk=>?_,λk=>?_,?_⟩
 ·have:=h.st k;have:=h'.st k;rw[xf];omega
 ·have:=h.ak k;have:=h'.ak k;rw[xg];omega
 ·have:=h.nl;have:=h'.nl;rw[xh];omega
def nR(i:ai):Prop:=i.Op≠24/\i.Op≠25/\i.Op≠38
theorem aer{l:List ai}(h:∀i∈l,nR i):(∀k,yC l k=0)/\(∀k,wi l k=0)/\Cu l=0:=by
 induction l with
 | nil=>simp
 | cons i l ih=>
   obtain⟨h1,h2,h3⟩:=ih (λx hx=>h x (by simp[hx]));obtain⟨a,b,c⟩:=h i (by simp);exact⟨λk=>by rw[sA,h1];simp[c],λk=>by rw[sB,h2];simp[a,b],by rw[sC,h3];simp[c]⟩
theorem oU.nR{l:List ai}(h:∀i∈l,nR i)(a:Int):oU l a a:=by
 obtain⟨h1,h2,h3⟩:=aer h;exact⟨by omega,λk=>by rw[h1];omega,λk=>by rw[h2];omega,by rw[h3];omega⟩
theorem afV{α:Type}{p:α->Prop}{c:Prop}[Decidable c]{a b:α}(h1:c->p a)(h2:¬c->p b):p (if c then a else b):=by
 split
 ·exact h1 ‹_›
 ·exact h2 ‹_›
theorem ZB(e:ay):nR (dD e)/\(dD e).Op≠37:=by
 unfold dD Go.Ab.nR
 repeat' split
 all_goals simp
theorem V4(k num:Int):nR (gR k num)/\(gR k num).Op≠37:=by
 have key:∀p:ai->Prop,(∀i∈ [ai.mk 6 num,⟨4,num⟩,⟨14,num⟩,⟨15,num⟩,⟨16,num⟩,⟨32,num⟩,⟨33,num⟩,⟨17,0⟩,⟨18,0⟩,⟨27,0⟩,⟨28,0⟩,⟨29,0⟩,⟨30,0⟩,⟨31,0⟩,⟨34,0⟩,⟨35,0⟩,⟨36,0⟩,⟨2,0⟩],p i)->p (gR k num):=by
  intro p h;unfold gR;simp only[ao0,List.not_mem_nil,or_false,forall_eq_or_imp,forall_eq]at h;obtain⟨a1,a2,a3,a4,a5,a6,a7,a8,a9,a10,a11,a12,a13,a14,a15,a16,a17,a18⟩:=h
  iterate 17 (refine afV (λ_=>?_) (λ_=>?_);assumption)
  assumption
 refine key (λi=>nR i/\i.Op≠37) ?_;simp[Go.Ab.nR]
theorem oU.two{A B C D E:List ai}{n m k:Int}(hA:oU A (n+2) m)(hB:oU B m k)
  (h1:∀j,yC C j+yC D j+yC E j=(if n=j then 1 else 0)+(if n+1=j then 1 else 0))
  (h2:∀j,(j=n\/j=n+1->0<wi C j+wi D j+wi E j)/\(¬(j=n\/j=n+1)->wi C j+wi D j+wi E j=0))
  (h3:Cu C+Cu D+Cu E=2):oU (C++A++D++B++E) n k:=by
 have l1:=hA.le;have l2:=hB.le;refine⟨by omega,λj=>?_,λj=>?_,?_⟩
 ·have:=hA.st j;have:=hB.st j;have:=h1 j;simp only[xf];split at this<;>split at this<;>omega
 ·have:=hA.ak j;have:=hB.ak j;have:=h2 j;simp only[xg];omega
 ·have:=hA.nl;have:=hB.nl;simp only[xh];omega
theorem LJ(l:List ay)(hl:∀x∈l,∀m,oU (aX x m).1 m (aX x m).2)(m:Int):oU (aZ l m).1 m (aZ l m).2:=by
 induction l generalizing m with
 | nil=>rw[aZ];exact .nil m
 | cons x l ih=>
   rw[aZ];exact(hl x (by simp) m).app (ih (λy hy=>hl y (by simp[hy])) _)
theorem PJ(e:ay)(m:Int):oU (aX e m).1 m (aX e m).2:=by
 obtain⟨n,hn⟩:∃n,SizeOf.sizeOf e<n:=⟨_,ao2 _⟩
 induction n generalizing e m with
 | zero=>omega
 | succ n ih=>
   have hs:∀x∈e.aF,∀m,oU (aX x m).1 m (aX x m).2:=λx hx m=>ih x m (by have:=ay.qu hx;omega)
   by_cases hL:yr e
   ·obtain⟨hk,ho⟩:=hL;by_cases hA:∃a b r,e.aF=a::b::r
    ·obtain⟨a,b,r,hA⟩:=hA;have h1:=hs a (by simp[hA]) (m+2);have h2:=hs b (by simp[hA]) (aX a (m+2)).2;rcases ho with ho|ho
     ·rw[Fb e a b r m hk ho hA];have:=oU.two (C:=[]) (D:=[⟨25,m⟩]++ [⟨1,1⟩,⟨24,m+1⟩,⟨38,m⟩]) (E:=[⟨11,0⟩,⟨38,m+1⟩]) h1 h2
       (λj=>by simp only[sA,Tq,aoX,apj];simp<;>omega) (λj=>by simp only[sB,Tr,aoX,apj];simp;by_cases e1:m=j<;>by_cases e2:m+1=j<;>simp[e1,e2]<;>omega) (by simp[sC])
      simpa[apb]using this
     ·rw[BD e a b r m hk ho hA];have:=oU.two (C:=[]) (D:=[⟨25,m⟩]) (E:=[⟨11,0⟩,⟨24,m+1⟩,⟨38,m⟩,⟨1,0⟩,⟨38,m+1⟩]) h1 h2
       (λj=>by simp only[sA,Tq,aoX,apj];simp<;>omega) (λj=>by simp only[sB,Tr,aoX,apj];simp;by_cases e1:m=j<;>by_cases e2:m+1=j<;>simp[e1,e2]<;>omega) (by simp[sC])
      simpa[apb]using this
    ·have:aX e m=([],m):=by
      cases e with
      | mk k o n s l=>
        cases l with
        | nil=>rw[aX.eq_def];simp[show k=6 from hk,show o=1\/o=2 from ho]
        | cons a l=>
          cases l with
          | nil=>rw[aX.eq_def];simp[show k=6 from hk,show o=1\/o=2 from ho]
          | cons b r=>exact absurd ⟨a,b,r,rfl⟩ hA
     rw[this];exact .nil m
   ·rw[tV e m hL];exact(LJ e.aF hs m).app (.nR (λi hi=>by rw[aqh.1 hi];exact(ZB e).1) _)
theorem qW(l:List ay)(m:Int):oU (aZ l m).1 m (aZ l m).2:=LJ l (λx _ m=>PJ x m) m
theorem abS(x:ay)(m:Int):oU (hU x m).1 m (hU x m).2:=by
 unfold hU;split
 ·exact .nR (by simp[nR]) _
 ·split
  ·exact(qW x.aF m).app (.nR (by simp[nR]) _)
  ·exact(PJ x m).app (.nR (by simp[nR]) _)
theorem V5(l:List ay)(m:Int):oU (de l m).1 m (de l m).2:=by
 induction l generalizing m with
 | nil=>rw[de];exact .nil m
 | cons x l ih=>
   rw[de];exact(abS x m).app (ih _)
theorem abT:∀(N:Nat) (l:List an),SizeOf.sizeOf l<N->∀m:Int,oU (bh l m).1 m (bh l m).2:=by
 intro N
 induction N with
 | zero=>intro l h;omega
 | succ N ih=>
   intro l h m;cases l with
   | nil=>rw[bh];exact .nil m
   | cons s l=>
     have hl:SizeOf.sizeOf l<N:=by simp only[aps]at h;omega
     have hs:SizeOf.sizeOf s<N:=by simp only[aps]at h;omega
     have hb:=an.qU s;have he:=an.qV s;rw[bh];refine oU.app ?_ (ih l hl _);by_cases k9:s.Kind=9
     ·by_cases vp:s.bX=[]
      ·rw[BN s m k9 vp];have a1:=qW s.aF (m+1);have a2:=ih s.Body (by omega) (aZ s.aF (m+1)).2;have l1:=a1.le;have l2:=a2.le;refine⟨by omega,λj=>?_,λj=>?_,?_⟩
       ·have:=a1.st j;have:=a2.st j;simp[xf,sA,tick];split<;>omega
       ·have:=a1.ak j;have:=a2.ak j;simp[xg,sB,tick];split<;>omega
       ·have:=a1.nl;have:=a2.nl;simp[xh,sC,tick];omega
      ·rw[BO s m k9 vp];have a1:=qW s.aF (m+2);have a2:=ih s.Body (by omega) (aZ s.aF (m+2)).2;have a3:=ih s.bX (by omega) (bh s.Body (aZ s.aF (m+2)).2).2;have l1:=a1.le;have l2:=a2.le;have l3:=a3.le;refine⟨by omega,λj=>?_,λj=>?_,?_⟩
       ·have:=a1.st j;have:=a2.st j;have:=a3.st j;simp[xf,sA,tick];split<;>split<;>omega
       ·have:=a1.ak j;have:=a2.ak j;have:=a3.ak j;simp[xg,sB,tick];split<;>split<;>omega
       ·have:=a1.nl;have:=a2.nl;have:=a3.nl;simp[xh,sC,tick];omega
     by_cases rH:s.Kind=10
     ·rw[wP s m rH];have a1:=qW s.aF (m+2);have a2:=ih s.Body (by omega) (aZ s.aF (m+2)).2;have l1:=a1.le;have l2:=a2.le;refine⟨by omega,λj=>?_,λj=>?_,?_⟩
      ·have:=a1.st j;have:=a2.st j;simp[xf,sA,tick];split<;>split<;>omega
      ·have:=a1.ak j;have:=a2.ak j;simp[xg,sB,tick];split<;>split<;>omega
      ·have:=a1.nl;have:=a2.nl;simp[xh,sC,tick];omega
     by_cases ub:s.Kind=11
     ·rw[zE s m ub];have a1:=qW s.aF (m+2);have a2:=ih s.Body (by omega) (aZ s.aF (m+2)).2;have l1:=a1.le;have l2:=a2.le;refine⟨by omega,λj=>?_,λj=>?_,?_⟩
      ·have:=a1.st j;have:=a2.st j;simp[xf,sA,tick];split<;>split<;>omega
      ·have:=a1.ak j;have:=a2.ak j;simp[xg,sB,tick];split<;>split<;>omega
      ·have:=a1.nl;have:=a2.nl;simp[xh,sC,tick];omega
     by_cases k1:s.Kind=1
     ·rw[yz s m k1];exact(oU.nR (by simp[nR,tick]) m).app (V5 s.aF m)
     ·rw[wS s m k9 rH ub k1];exact((oU.nR (by simp[nR,tick]) m).app (qW s.aF m)).app (.nR (λi hi=>by rw[aqh.1 hi];exact(V4 _ _).1) _)
mutual
def ahy:an->Nat
 | .mk _ _ _ _ b c=>1+PK b+PK c
def PK:List an->Nat
 | []=>0
 | s::l=>ahy s+PK l
end
mutual
def ahz:an->Nat
 | .mk k _ _ _ b c=>(if k=11 then 1 else 0)+(PL b+PL c)
def PL:List an->Nat
 | []=>0
 | s::l=>ahz s+PL l
end
set_option maxHeartbeats 200000
set_option maxRecDepth 512
theorem I1{nx:List Int}{n:Nat}:∀{k j:Nat} {c x:Int},k<=j->x∈bH nx n k c->x∈bH nx n j c
 | 0,j,c,x,_,h=>by simp[bH]at h
 | k+1,j,c,x,hj,h=>by
   obtain⟨j,rfl⟩:∃i,j=i+1:=⟨j-1,by omega⟩
   rw[bH]at h⊢;split at h
   ·rename_i hc;rw[if_pos hc];rcases ao0.1 h with rfl|h
    ·exact aoZ
    ·exact aoW _ (I1 (by omega) h)
   ·cases h
theorem Gd{nx:List Int}{n:Nat}:∀{k:Nat} {c:Int},(bH nx n k c).length<k->bY n (match(bH nx n k c).getLast? with|some y=>aH nx y|none=>c)=false
 | 0,c,h=>by simp at h
 | k+1,c,h=>by
   rw[bH]at h⊢;by_cases hc:bY n c=true
   ·rw[if_pos hc]at h⊢;have h1:=Gd (nx:=nx) (n:=n) (k:=k) (c:=aH nx c) (by simpa using h);rw[aqZ];cases hl:(bH nx n k (aH nx c)).getLast? with
    | none=>simpa[hl]using h1
    | some y=>simpa[hl]using h1
   ·rw[if_neg hc];simpa using hc
theorem Ec{nx:List Int}{n:Nat}(ha:∀y,bY n y=true->y∉bH nx n n (aH nx y)):∀{k:Nat} {c:Int},k<=n->(bH nx n k c).Nodup
 | 0,c,_=>by simp[bH]
 | k+1,c,hk=>by
   rw[bH];split
   ·rename_i hc;exact apx.2 ⟨λhm=>ha c hc (I1 (by omega) hm),Ec ha (by omega)⟩
   ·simp
theorem V6{nx:List Int}{n:Nat}(h0:aH nx 0=0)(hu:∀y,bY n y=true->aH nx y=0\/bY n (aH nx y)=true)(ha:∀y,bY n y=true->y∉bH nx n n (aH nx y)){x:Int}(hx:bY n x=true):Ch nx n x (bH nx n n x):=by
 have gv:(bH nx n n x).Nodup:=Ec ha (aoT _);refine OI h0 (.inr ⟨gv,aoT _⟩) ?_;have hb:=aY.1 hx;have hlen:(bH nx n n x).length<n:=by
  rcases ya gv (λx hx=>mG hx)with h|h
  ·exact h
  ·rw[h];simp;omega
 have hl:=Gd hlen;cases hg:(bH nx n n x).getLast? with
 | none=>
   rw[hg]at hl;simp only at hl;rw[hx]at hl;cases hl
 | some y=>
   rw[hg]at hl;simp only at hl⊢;rcases hu y (aY.2 (mG (aqL hg)))with h|h
   ·exact h
   ·rw[hl]at h;cases h
theorem ec.V7{t:Tree}(h:pe t=true):ec t t.bl.length (br t):=by
 unfold pe at h;simp only[aoM,decide_eq_true_eq,aoP,ap2]at h;obtain⟨⟨⟨⟨⟨⟨h1,h2⟩,h3⟩,h4⟩,h5⟩,h6⟩,h7⟩:=h;have node:∀x:Int,1<=x->x<t.bl.length->r8 t x=true:=by
  intro x a b;have:=h7 (x.toNat-1) (by omega)
  rwa[show(((x.toNat-1:Nat):Int)+1)=x by omega]at this
 have parts:∀x:Int,1<=x->x<t.bl.length->(aH t.bl x=0\/bY t.bl.length (aH t.bl x)=true)/\(aH t.bl x=0->aH t.gk x=0)/\xb t x=true/\(aH t.bl x≠0->x∈br t (aH t.bl x))/\(bY t.bl.length (aH t.bl x)=true->x∉ik t (aH t.bl x)):=by
  intro x a b;have:=node x a b;unfold r8 at this;simp only[aoM,aqG,ap9,decide_eq_false_iff_not,Bool.not_eq_false',apT]at this;obtain⟨⟨⟨⟨n1,n2⟩,n3⟩,n4⟩,n5⟩:=this;refine⟨n1,λe=>?_,n3,λe=>?_,λe=>?_⟩
  ·rcases n2 with n2|n2
   ·exact(n2 e).elim
   ·exact n2
  ·rcases n4 with n4|n4
   ·exact(e n4).elim
   ·exact List.count_pos_iff.1 (by omega)
  ·rcases n5 with n5|n5
   ·rw[e]at n5;cases n5
   ·exact n5
 have up:∀y,bY t.bl.length y=true->aH t.bl y=0\/bY t.bl.length (aH t.bl y)=true:=λy hy=>(parts y (aY.1 hy).1 (aY.1 hy).2).1
 have listed:∀x:Int,1<=x->x<t.bl.length->(∀y∈br t x,aH t.bl y=x/\(br t x).count y=1)/\(match(br t x).getLast? with|some y=>aH t.gk y|none=>aH t.gi x)=0:=by
  intro x a b;have:=(parts x a b).2.2.1;rw[Bm,aoM,aoP,decide_eq_true_eq]at this;refine⟨λy hy=>?_,this.2⟩;have h:=this.1 y hy;unfold jm at h;simpa using h
 refine⟨by omega,rfl,h2,h3,h4,h5,h6,λx a b=>?_,λx a b y hy=>((listed x a b).1 y hy).1,λx a b=>?_,λx a b=>?_⟩
 ·have hk:br t x=bH t.gk t.bl.length t.bl.length (aH t.gi x):=by rw[br,if_pos (aY.2 ⟨a,b⟩)]
  have hl:=listed x a b;rw[hk]at hl⊢;refine OI h6 (.inr ⟨?_,aoT _⟩) hl.2;rw[aqM];intro y;by_cases hy:y∈bH t.gk t.bl.length t.bl.length (aH t.gi x)
  ·rw[(hl.1 y hy).2];exact aoT _
  ·rw[List.count_eq_zero.2 hy];omega
 ·obtain⟨p1,p2,p3,p4,p5⟩:=parts x a b;rcases p1 with e|e
  ·exact .inl ⟨e,p2 e⟩
  ·exact .inr ⟨aY.1 e,p4 (by have:=aY.1 e;omega)⟩
 ·refine⟨_,V6 h4 up (λy hy=>?_) (aY.2 ⟨a,b⟩)⟩;obtain⟨p1,p2,p3,p4,p5⟩:=parts y (aY.1 hy).1 (aY.1 hy).2;rcases p1 with e|e
  ·rw[e];have:¬y∈bH t.bl t.bl.length t.bl.length 0:=by
    intro hm;cases hn:t.bl.length with
    | zero=>rw[hn]at hm;simp[bH]at hm
    | succ k=>rw[hn,bH]at hm;simp[bY]at hm
   exact this
  ·exact p5 e
theorem Ch.head{nx:List Int}{n:Nat}{c:Int}{l:List Int}(h:Ch nx n c l):c=0\/(1<=c/\c<n):=by
 cases h with
 | nil=>exact .inl rfl
 | cons h t=>exact .inr h
theorem Ch.V8{nx:List Int}{n:Nat}{c:Int}{l:List Int}(h:Ch nx n c l):∀y∈l,aH nx y=0\/(1<=aH nx y/\aH nx y<n):=by
 induction h with
 | nil=>simp
 | @cons c l h t ih=>
   intro y hy;rcases ao0.1 hy with rfl|hy
   ·exact t.head
   ·exact ih y hy
theorem xk{l:List Int}{y:Int}(h:y∈l):∃i:Int,0<=i/\i<l.length/\aH l i=y:=by
 obtain⟨k,hk,rfl⟩:=aqe h;refine⟨k,by omega,by omega,?_⟩;rw[aH,if_neg (by omega)];simp[akC hk]
structure ig(t:ar) (w:aj):Prop where
 wf:w.wf
 nest:ec w.tree w.ae.length (br w.tree)
 hC:w.Child.length=w.ae.length
 hN:w.Next.length=w.ae.length
 hT:w.ae.length=t.az.length
 hF:w.Flags.length=t.az.length
 hP:w.aJ.length=t.az.length *t.aJ.length
 hG:w.aQ.length=t.aQ.length
 hD:w.bc.length=t.eK.length
 hn:3<=t.az.length/\t.az.length<=128
 hp:t.aJ.length<=16
 g16:∀x∈w.aQ,-32768<=x/\x<=32767
 p16:∀x∈w.aJ,-32768<=x/\x<=32767
 fl:∀x∈w.Flags,0<=x/\x<=kZ t.Flags-1
 tm:∀x∈w.bc,0<=x/\x<=32767
 sc: -32768<=w.Score/\w.Score<=32767
 tu:0<=w.jO/\w.jO<=2147483647
 ov:0<=w.iB/\w.iB<=3
 it:0<=w.It/\w.It<t.az.length
 go:0<=w.Go/\w.Go<=12
 pl:sX t w=true
theorem ig.PM{t:ar}{w:aj}(h:ig t w):vF w:=vF.SX h.wf h.nest
theorem jW{t:ar}(hf:eJ t=true):(3<=t.az.length/\t.az.length<=128)/\t.aJ.length<=16/\t.aQ.length<=64/\t.eK.length<=16/\t.gy.length<=4096/\t.Params.length=t.aM.length/\t.Params.length<=2048/\t.cY.length<=64/\(4<=t.Flags/\t.Flags<=16):=by
 unfold eJ IA E6 DE at hf;simp only[aoM,decide_eq_true_eq,bJ]at hf;omega
theorem ig.of{t:ar}{w:aj}(hf:eJ t=true)(h:cK t w=true)(hs:0<=w.cO/\w.cO<18446744073709551616):ig t w:=by
 obtain⟨d1,d2,d3,d4,d5,d6,d7,d8,d9⟩:=jW hf;unfold cK at h;simp only[aoM,decide_eq_true_eq,bJ,cC,aoP,gQ]at h;obtain⟨⟨⟨⟨⟨⟨⟨h1,h2⟩,h3⟩,h4⟩,h5⟩,h6⟩,⟨⟨⟨⟨⟨h7,h8⟩,h9⟩,ew⟩,jN⟩,oM⟩⟩,⟨⟨⟨gK,Ce⟩,oN⟩,lg⟩⟩:=h;have hn:=ec.V7 h6;have e1:w.tree.bl=w.ae:=rfl;have e2:w.tree.gi=w.Child:=rfl;have e3:w.tree.gk=w.Next:=rfl;rw[e1]at hn;have lc:w.Child.length=w.ae.length:=hn.lc;have ln:w.Next.length=w.ae.length:=hn.ln;have uc:=AZ t.Flags;have small:∀y:Int,y=0\/(1<=y/\y<w.ae.length)->aN .i64 y:=by intro y hy;rw[aS];omega
 have oh:∀x:Int,0<=x->x<w.ae.length->aH w.ae x=0\/(1<=aH w.ae x/\aH w.ae x<w.ae.length):=by
  intro x a b;by_cases h0:x=0
  ·subst h0;exact .inl hn.p0
  ·rcases hn.up x (by omega) b with h|h
   ·exact .inl h.1
   ·exact .inr h.1
 have abU:∀x:Int,0<=x->x<w.ae.length->aH w.Child x=0\/(1<=aH w.Child x/\aH w.Child x<w.ae.length):=by
  intro x a b;by_cases h0:x=0
  ·subst h0;exact .inl hn.c0
  ·exact(hn.ch x (by omega) b).head
 have abV:∀x:Int,0<=x->x<w.ae.length->aH w.Next x=0\/(1<=aH w.Next x/\aH w.Next x<w.ae.length):=by
  intro x a b;by_cases h0:x=0
  ·subst h0;exact .inl hn.n0
  ·rcases hn.up x (by omega) b with h|h
   ·exact .inl h.2
   ·exact(hn.ch _ h.1.1 h.1.2).V8 x h.2
 have i16:∀y:Int,(-32768<=y/\y<=32767)->aN .i64 y:=by intro y hy;rw[aS];omega
 have amx:t.az.length *t.aJ.length<=128 *16:=aq3 d1.2 d2;refine⟨?_,hn,lc,ln,h2,h3,h4,h1,h5,d1,d2,h7,h8,h9,ew,jN,oM,gK,?_,oN,lg⟩
 ·unfold aj.wf;refine⟨by omega,λy hy=>i16 y (h7 y hy),by omega,λy hy=>?_,by omega,λy hy=>?_,by omega,λy hy=>?_,by omega,λy hy=>?_,by omega,λy hy=>i16 y (h8 y hy),by omega,λy hy=>?_,?_,i16 _ jN,?_,?_,?_,?_⟩
  ·obtain⟨i,a,b,rfl⟩:=xk hy;exact small _ (oh i a b)
  ·obtain⟨i,a,b,rfl⟩:=xk hy;exact small _ (abU i a (by omega))
  ·obtain⟨i,a,b,rfl⟩:=xk hy;exact small _ (abV i a (by omega))
  ·have:=h9 y hy;rw[aS];omega
  ·have:=ew y hy;rw[aS];omega
  ·simp only[aN];exact⟨hs.1,by have:=hs.2;show w.cO<=18446744073709551615;omega⟩
  ·rw[aS];omega
  ·rw[aS];omega
  ·rw[aS];omega
  ·rw[aS];omega
 ·omega
def FC(S L:List Int)(σ:MS)(p:Int×Int):Ev:=if p.2=0 then .ok (aq p.1::S) L σ else .bG p.2
def iR(v:Bool)(S L:List Int)(σ:MS):Option (aj×OC)->Option Ev
 | some (w,.bN n)=>some (.ok (if v then aq n::S else S) L {σ with W:=w})
 | some (_,.bG e)=>some (.bG e)
 | some (w,.over)=>some (.over {σ with W:=w})
 | _=>none
def yP(S L:List Int)(σ:MS)(s:ByteArray):Option Ev:=if σ.Out.size+s.size<=140737488355328 then some (.ok S L {σ with Out:=σ.Out++s})else none
def di(op:Int):Int:=if op=3 then 14 else if op=7 then 12 else if op=12 then 16 else if op=13 then 17 else if op=19 then 10 else if op=20 then 11 else 0
def dv(op:Int):Int:=
 if op=4 then 23 else if op=14 then 4 else if op=15 then 5 else if op=16 then 6 else if op=17 then 7 else if op=18 then 8 else if op=28 then 13 else if op=29 then 14 else if op=30 then 15
 else if op=31 then 16 else if op=32 then 17 else if op=33 then 18 else if op=34 then 20 else 0
def dI(op:Int):Nat:=if op=3\/op=7\/op=28\/op=29\/op=30\/op=33 then 0 else if op=14\/op=17 then 2 else 1
def instJ(c:XC)(i:ai)(S L:List Int)(σ:MS):Option Ev:=
 if i.Op=1 then some (.ok (aq i.Arg::S) L σ)
 else if i.Op=37 then(if 0<=σ.Fuel/\σ.Fuel<=1099511627776 then if c.M<σ.Fuel+1 then some (.bG 19)else some (.ok S L {σ with Fuel:=σ.Fuel+1})else none)
 else if i.Op=5 then(if fL L i.Arg then some (.ok (aq (aA L i.Arg)::S) L σ)else none)
 else if i.Op=21 then yP S L σ (oE c.B.Tables i.Arg)
 else if i.Op=35 then(if okW c σ.W=true then yP S L σ (wL c.B.Tables σ.W)else none)
 else if dI i.Op=0 then(if di i.Op≠0 then iR true S L σ (dh c σ.W (di i.Op) i.Arg [])else if dv i.Op≠0 then iR false S L σ (cE c σ.W (dv i.Op) i.Arg [])else none)
 else match S with
  | []=>none
  | v::S=>
    if i.Op=2 then some (.ok S L σ)
    else if i.Op=6 then(if fL L i.Arg then some (.ok S (L.set i.Arg.toNat v) σ)else none)
    else if i.Op=9 then some (.ok (aq (ry v)::S) L σ)
    else if i.Op=10 then some (.ok (notM v::S) L σ)
    else if i.Op=11 then some (.ok (ez (decide (v≠0))::S) L σ)
    else if i.Op=22 then yP S L σ (uD v)
    else if i.Op=23 then yP S L σ (dB c.B.Tables v)
    else if i.Op=36 then(if okW c σ.W=true then yP S L σ (r9 c.B.Tables σ.W v)else none)
    else if i.Op=8 then(match S with
     | []=>none
     | u::S=>if i.Arg=9/\okW c σ.W=false then none else some (FC S L σ (jd σ.W i.Arg u v)))
    else if dI i.Op=2 then(match S with
     | []=>none
     | u::S=>if dv i.Op≠0 then iR false S L σ (cE c σ.W (dv i.Op) i.Arg [u,v])else none)
    else if di i.Op≠0 then iR true S L σ (dh c σ.W (di i.Op) i.Arg [v])
    else if dv i.Op≠0 then iR false S L σ (cE c σ.W (dv i.Op) i.Arg [v])
    else none
def bS(c:XC):fE where
 J:=instJ c
 fn a:=if fL c.B.Tables.cY a then aA c.B.Tables.cY a else -1
 pa r:=(aA c.B.Tables.Params r).toNat
 lo r a:=a.map aq++List.replicate ((aA c.B.Tables.aM r).toNat-a.length) 0
def cJ(b:bW)(r:Int):List ai:=if fL b.aK r then(bh (b.aK[r.toNat]?.getD []) 0).1++ [⟨1,0⟩,⟨27,0⟩]else []
def bZ(σ:XS):MS:=⟨σ.W,σ.Out,σ.Fuel⟩
theorem ZC(w:aj)(o a b:Int)(h:o≠9):jd w o (aq a) (aq b)=jd aj.zero o a b:=by
 unfold jd JW JX zR U9 mulM;simp only[wrap_wrap,if_neg h]
theorem ZD(c:XC):(bS c).Ok where
 push a S L σ:=by simp[bS,instJ]
 pop x v S L σ:=by simp[bS,instJ,dI]
 bin o a b S L σ h9 h0:=by simp[bS,instJ,dI,h9,ZC,FC,h0]
 neg x a S L σ:=by simp[bS,instJ,dI,ry,wrap_wrap]
 no x v S L σ:=by simp[bS,instJ,dI]
 no0 x L σ:=by simp[bS,instJ,dI]
 test x a S L σ:=by simp[bS,instJ,dI]
 stops x S L σ S' L' σ' hx a:=by
  rcases hx with rfl|rfl|rfl<;>simp[bS,instJ,dI,di,dv,cE]<;>cases okW c σ.W<;>simp[iR]
def cH(c:XC)(d:Nat)(l r:List ai)(S L:List Int)(σ:MS)(r':List ai)(S' L':List Int)(σ':MS):Prop:=
 ∀g o k,run (bS c) (cJ c.B) g d l r' S' L' σ'=some (o,k)->∃g' k',run (bS c) (cJ c.B) g' d l r S L σ=some (o,k')
def dJ(c:XC)(d:Nat)(l r:List ai)(S L:List Int)(σ:MS)(o:Oc):Prop:=∃g k,run (bS c) (cJ c.B) g d l r S L σ=some (o,k)
theorem cH.refl(c:XC)(d:Nat)(l r:List ai)(S L:List Int)(σ:MS):cH c d l r S L σ r S L σ:=λg _ k h=>⟨g,k,h⟩
theorem cH.trans{c:XC}{d:Nat}{l r r1 r2:List ai}{S L S1 L1 S2 L2:List Int}{σ aR ck:MS}(h1:cH c d l r S L σ r1 S1 L1 aR)(h2:cH c d l r1 S1 L1 aR r2 S2 L2 ck):cH c d l r S L σ r2 S2 L2 ck:=by
 intro g o k h;obtain⟨g1,k1,h⟩:=h2 g o k h;exact h1 g1 o k1 h
theorem cH.stop{c:XC}{d:Nat}{l r r1:List ai}{S L S1 L1:List Int}{σ aR:MS}{o:Oc}(h1:cH c d l r S L σ r1 S1 L1 aR)(h2:dJ c d l r1 S1 L1 aR o):dJ c d l r S L σ o:=by
 obtain⟨g,k,h⟩:=h2;obtain⟨g1,k1,h⟩:=h1 g o k h;exact⟨g1,k1,h⟩
theorem cH.nx{c:XC}{d:Nat}{l r r1:List ai}{i:ai}{S L S1 L1:List Int}{σ aR:MS}{n:Nat}(h:nx (bS c) d l i r S L σ= .go r1 S1 L1 aR n):cH c d l (i::r) S L σ r1 S1 L1 aR:=by
 intro g o k hr;exact⟨g+1,k+n,by rw[kh h,hr];rfl⟩
theorem cH.flat{c:XC}{d:Nat}{l r:List ai}{i:ai}{S L S1 L1:List Int}{σ aR:MS}(hf:flat i.Op)(h:instJ c i S L σ=some (.ok S1 L1 aR)):cH c d l (i::r) S L σ r S1 L1 aR:=
 .nx (n:=1) (by rw[AF hf];show Nx.ev r σ (instJ c i S L σ)=_;rw[h];rfl)
theorem cH.label{c:XC}{d:Nat}{l r:List ai}{n:Int}{S L:List Int}{σ:MS}:cH c d l (⟨38,n⟩::r) S L σ r S L σ:= .nx (DO rfl)
theorem cH.qX{c:XC}{d:Nat}{l r r1:List ai}{n:Int}{S L S1 L1:List Int}{σ aR:MS}(h:cH c d l (⟨38,n⟩::r) S L σ r1 S1 L1 aR):cH c d l r S L σ r1 S1 L1 aR:=by
 intro g o k hr;obtain⟨g1,k1,h1⟩:=h g o k hr;obtain⟨g2,rfl⟩:=nQ h1;rw[kh (DO rfl)]at h1;obtain⟨k2,h2,_⟩:=iJ h1;exact⟨g2,k2,h2⟩
theorem dJ.qX{c:XC}{d:Nat}{l r:List ai}{n:Int}{S L:List Int}{σ:MS}{o:Oc}(h:dJ c d l (⟨38,n⟩::r) S L σ o):dJ c d l r S L σ o:=by
 obtain⟨g1,k1,h1⟩:=h;obtain⟨g2,rfl⟩:=nQ h1;rw[kh (DO rfl)]at h1;obtain⟨k2,h2,_⟩:=iJ h1;exact⟨g2,k2,h2⟩
theorem I2{a b:List ai}{n:Int}(hu:(bP (a++⟨38,n⟩::b)).Nodup):after (a++⟨38,n⟩::b) n=some b:=by
 rw[wM,after,if_pos ⟨rfl,rfl⟩];intro i hi kL;rw[nZ,aqd]at hu;exact hu.2.2 n (qt.2 ⟨i,hi,kL⟩) n (qt.2 ⟨⟨38,n⟩,by simp,rfl,rfl⟩) rfl
theorem cH.jump{c:XC}{d:Nat}{l a b r:List ai}{n:Int}{S L:List Int}{σ:MS}(hl:l=a++⟨38,n⟩::b)(hu:(bP l).Nodup):cH c d l (⟨24,n⟩::r) S L σ b S L σ:=
 .nx (n:=1) (by subst hl;rw[vT rfl,I2 hu];rfl)
theorem cH.Fh{c:XC}{d:Nat}{l a b r:List ai}{n v:Int}{S L:List Int}{σ:MS}(hl:l=a++⟨38,n⟩::b)(hu:(bP l).Nodup)(hv:aq v=0):cH c d l (⟨25,n⟩::r) (v::S) L σ b S L σ:=
 .nx (n:=1) (by subst hl;rw[sy rfl,Nx.zero,if_pos hv,I2 hu];rfl)
theorem cH.Fi{c:XC}{d:Nat}{l r:List ai}{n v:Int}{S L:List Int}{σ:MS}(hv:aq v≠0):cH c d l (⟨25,n⟩::r) (v::S) L σ r S L σ:=
 .nx (n:=1) (by rw[sy rfl,Nx.zero,if_neg hv])
theorem dJ.bG{c:XC}{d:Nat}{l r:List ai}{i:ai}{S L:List Int}{σ:MS}{e:Int}(hf:Go.Ab.flat i.Op)(h:instJ c i S L σ=some (.bG e)):dJ c d l (i::r) S L σ (.bG e σ):=
 ⟨1,1,by rw[run,AF hf,show(bS c).J i S L σ=instJ c i S L σ from rfl,h];rfl⟩
theorem dJ.over{c:XC}{d:Nat}{l r:List ai}{i:ai}{S L:List Int}{σ aR:MS}(hf:Go.Ab.flat i.Op)(h:instJ c i S L σ=some (.over aR)):dJ c d l (i::r) S L σ (.over aR):=
 ⟨1,1,by rw[run,AF hf,show(bS c).J i S L σ=instJ c i S L σ from rfl,h];rfl⟩
theorem dJ.ret{c:XC}{d:Nat}{l r:List ai}{v x:Int}{S L:List Int}{σ:MS}:dJ c d l (⟨27,x⟩::r) (v::S) L σ (.ret v σ):=
 ⟨1,1,by rw[run,Kd rfl];rfl⟩
def kY(b:bW)(i:Int):List Int×Int:=if i<0\/(b.aK.length:Int)<=i then([],11)else pv (gn (cJ b i))
theorem ZE(b:bW)(hb:b.wf)(hR:∀l∈b.aK,lQ l/\hZ l<=30000000)(i:Int):Pure prog 64 [.agg (b.enc.map .d),iD i] (.bA [Pv (kY b i).1,iD (kY b i).2]):=by
 have hlen:=bW.FV hb;by_cases hi:i<0\/(b.aK.length:Int)<=i
 ·have hc:kY b i=([],11):=by unfold kY;rw[if_pos hi]
  rw[hc];refine rn func64 ?_;simp[-cB,f64];intro bs
  repeat' (first
   | (with_reducible refine And.intro ?_ ?_)
   | (refine ax (λh=>?_) (λh=>?_)<;>(try simp at h)<;>(try simp[-cB, *]))
   | (with_reducible intro _))
  ·rfl
  ·omega
 ·have hc:kY b i=pv (gn (cJ b i)):=by unfold kY;rw[if_neg hi]
  rw[hc];have kx:i.toNat<b.aK.length:=by omega
  obtain⟨h1,h2⟩:=hR b.aK[i.toNat] (aoV kx);have O3:cJ b i=(bh b.aK[i.toNat] 0).1++ [⟨1,0⟩,⟨27,0⟩]:=by
   unfold cJ;rw[if_pos (by unfold fL;omega),akC kx];rfl
  have bd:=np b.aK[i.toNat] 0;have hl:(cJ b i).length<=1000000000:=by rw[O3];simp;omega
  have hg:=Hl b.aK[i.toNat] h1 h2;rw[<-O3]at hg;have ha:=abL (cJ b i) (by omega);have hp:(gn (cJ b i)).length<=(cJ b i).length:=BI _ _;have hs:=MB (gn (cJ b i)) (by omega);refine rn func64 ?_;simp[-cB,f64];intro bs;have qe:¬i<0:=by omega
  have O1:¬(b.aK.length:Int)<=i:=by omega
  simp[-cB,qe,O1,akC kx];refine⟨by omega,?_⟩;refine pC hg ?_;simp;refine pC ha ?_;simp;refine pC hs ?_;simp
def wT(b:bW)(i:Nat):Bool:=
 (decide (jR (b.aK[i]?.getD []) 65<=32)&&iq b.Tables (b.Tables.aM[i]?.getD 0) (b.aK[i]?.getD []))&&(!lT 12 (b.aK[i]?.getD [])||lu b.Tables i)&&(!lT 13 (b.aK[i]?.getD [])||yB b.Tables i)
def eB(b:bW):Bool:=eJ b.Tables&&decide (b.aK.length=b.Tables.Params.length)&&(List.range b.aK.length).all (wT b)
theorem Ee(b:bW)(hb:b.wf):Pure prog 26 [.agg (b.enc.map .d)] (oD (eB b)):=by
 have ht:=bW.Dv hb;have hlen:=bW.FV hb;have ahA:=ar.zf ht;have dc:=Ve b.Tables ht;obtain⟨R,hR⟩:∃R,eB b=R:=⟨_,rfl⟩
 have kQ:=hR;unfold eB at kQ;rw[hR];cases hf:eJ b.Tables with
 | false=>
   rw[hf]at kQ dc;simp at kQ;refine rn func26 ?_;simp[-cB,f26];intro bs
   repeat' (first
    | (with_reducible refine And.intro ?_ ?_)
    | ((first|(refine ax (λh=>?_) (λh=>?_)<;>(try simp at h))|refine pC dc ?_|refine lC dc ?_|refine pG dc ?_)<;>(try simp[-cB, *,kQ]))
    | (with_reducible intro _))
 | true=>
   have hd:=(jW hf).2.2.2.2.2.1;rw[hf]at kQ dc;by_cases hL:b.aK.length=b.Tables.Params.length
   ·rw[show decide (b.aK.length=b.Tables.Params.length)=true by simpa using hL]at kQ;simp only[apy]at kQ;refine rn func26 ?_;simp[-cB,f26];intro bs
    repeat' (first
     | (with_reducible refine And.intro ?_ ?_)
     | ((first|(refine ax (λh=>?_) (λh=>?_)<;>(try simp at h))|refine pC dc ?_|refine lC dc ?_|refine pG dc ?_)<;>(try simp[-cB, *,hL,ahA]))
     | (with_reducible intro _))
    refine av.cI [1,3,4] b.aK.length (λi=> [(4,iD i)]) (λ_=> []) (λi=>∀j,j<i->wT b j=true) (by rfl) (by simp) ?_;intro i hi hH;rcases aoR hi with aw|heq
    ·have dj:(i:Int)<b.aK.length:=by omega
     have bU:aN .i64 ((i:Int)+1):=iW;have hiL:i<b.Tables.aM.length:=by omega
     obtain⟨l,hl⟩:∃l,b.aK[i]=l:=⟨_,rfl⟩
     obtain⟨n,hn⟩:∃n,b.Tables.aM[i]=n:=⟨_,rfl⟩
     obtain⟨w1,w2⟩:=bW.Rq hb l (hl ▸ aoV aw);have Fw:=ar.K7 ht n (hn ▸ aoV hiL);have iE:=PG b.Tables ht n Fw l w2 w1;have Hb:=I0 12 _ l (ao2 _) w2 w1;have afW:=I0 13 _ l (ao2 _) w2 w1;have hca:=Zz b.Tables ht i;have hru:=abR b.Tables ht i;have hg:wT b i=((decide (jR l 65<=32)&&iq b.Tables n l)&&(!lT 12 l||lu b.Tables i)&&(!lT 13 l||yB b.Tables i)):=by
      unfold wT;rw[akC aw,hl,akC hiL,hn];rfl
     generalize (decide (jR l 65<=32)&&iq b.Tables n l)=B1 at *;generalize lT 12 l=B2 at *;generalize lu b.Tables i=B3 at *;generalize lT 13 l=B4 at *;generalize yB b.Tables i=B5 at *;have iT:wT b i=false->R=false:=λh=>by
      rw[<-kQ,List.all_eq_false];exact⟨i,by simpa using aw,by simp[h]⟩
     have pz:wT b i=true->∀j,j<i+1->wT b j=true:=λh j hj=>by
      rcases aoR (Nat.le_of_lt_succ hj)with h1|rfl
      ·exact hH j h1
      ·exact h
     rw[hg]at iT pz;clear hg hH kQ hR hL;simp[-cB,aw,dj,hl];refine av.bT [oD B1,oD B2,oD B3,oD B4,oD B5] aT (by kernel_rfl) (by rfl) ?_;simp[iE.ok,Hb.ok,hca.ok,afW.ok,hru.ok,hiL,hn];clear iE Hb hca afW hru dc;cases B1<;>cases B2<;>cases B3<;>cases B4<;>cases B5<;>simp at iT pz⊢<;>first|exact iT|exact⟨bU,aw,pz⟩
    ·simp[heq];rw[<-kQ,aoP];intro j hj;exact hH j (by rw[heq];simpa using hj)
   ·rw[show decide (b.aK.length=b.Tables.Params.length)=false by simpa using hL]at kQ;simp at kQ;have iS:((b.aK.length:Int) !=(b.Tables.Params.length:Int))=true:=by simp;omega
    refine rn func26 ?_;simp[-cB,f26];intro bs
    repeat' (first
     | (with_reducible refine And.intro ?_ ?_)
     | ((first|(refine ax (λh=>?_) (λh=>?_)<;>(try simp at h))|refine pC dc ?_|refine lC dc ?_|refine pG dc ?_)<;>(try simp[-cB, *,hL,kQ,iS]))
     | (with_reducible intro _))
    exact absurd (by omega) hL
def stM(b:bW):Nat->List Int×List Int
 | 0=>([],[])
 | i+1=>((stM b i).1++ [((stM b i).2.length:Int)],(stM b i).2++(kY b i).1)
def qA(b:bW):Nat->Nat->Int
 | 0,_=>0
 | n+1,i=>if(kY b i).2=0 then qA b n (i+1)else(kY b i).2
def gA(b:bW):al×Int:=
 if eB b=false then(al.zero,18)
 else if qA b b.aK.length 0≠0 then(al.zero,qA b b.aK.length 0)
 else if 65536<(stM b b.aK.length).2.length then(al.zero,3)
 else(⟨b.Tables,(stM b b.aK.length).1,(stM b b.aK.length).2⟩,0)
theorem Kp(ks:List Nat):∀(a b:List V),V.dE ks (a++b)=(V.dE ks a&&V.dE ks b)
 | [],b=>by simp[V.dE]
 | x::a,b=>by simp[V.dE,Kp ks a b,aq2]
theorem aes(l:List ai):(pv l).1.length<=3 *l.length:=by
 obtain⟨z,hz,hf,_⟩:=zx (3 *l.length+1) (kG l) (Kl l) (by simp[kG];omega);rw[BJ]at hf;have nT:z.length=l.length:=by simpa using congrArg List.length hf
 have:=Hi z 0 z;unfold pv;split
 ·simp
 ·rw[hz];simp only;split
  ·simp
  ·split
   ·simp
   ·simp only;omega
theorem PN(b:bW)(hR:∀l∈b.aK,lQ l/\hZ l<=30000000)(i:Int):(kY b i).1.length<=2000000000:=by
 unfold kY;split
 ·simp
 ·rename_i hi;have kx:i.toNat<b.aK.length:=by omega
  obtain⟨_,h2⟩:=hR b.aK[i.toNat] (aoV kx);have h1:=aes (gn (cJ b i));have hp:(gn (cJ b i)).length<=(cJ b i).length:=BI _ _;have bd:=np b.aK[i.toNat] 0;have O3:cJ b i=(bh b.aK[i.toNat] 0).1++ [⟨1,0⟩,⟨27,0⟩]:=by
   unfold cJ;rw[if_pos (by unfold fL;omega),akC kx];rfl
  have hl:(cJ b i).length<=500000000:=by rw[O3];simp;omega
  omega
theorem ZF(b:bW)(hR:∀l∈b.aK,lQ l/\hZ l<=30000000):∀i:Nat,(stM b i).1.length=i/\(stM b i).2.length<=2000000000 *i
 | 0=>⟨rfl,aoT _⟩
 | i+1=>by
   obtain⟨h1,h2⟩:=ZF b hR i;have h3:=PN b hR i;rw[stM];constructor
   ·simp[h1]
   ·simp only[aoS];omega
theorem I3(b:bW)(hb:b.wf)(hR:eB b=true->∀l∈b.aK,lQ l/\hZ l<=30000000):Pure prog 27 [.agg (b.enc.map .d)] (.bA [.agg ((gA b).1.enc.map .d),iD (gA b).2]):=by
 have yV:=Ee b hb;obtain⟨S,hS⟩:∃S,gA b=S:=⟨_,rfl⟩
 have yD:=hS;unfold gA at yD;rw[hS];cases hr:eB b with
 | false=>
   rw[hr]at yV yD;simp at yD;refine rn func27 ?_;simp[-cB,f27];intro bs;refine pC yV ?_;simp;rw[<-yD];exact⟨rfl,rfl⟩
 | true=>
   replace hR:=hR hr
   have hn:b.aK.length<=2048:=by
    unfold eB at hr;simp only[aoM,decide_eq_true_eq]at hr;have:=(jW hr.1.1).2.2.2.2.2.2.1;omega
   rw[hr]at yV yD;simp only[Bool.true_eq_false,if_false]at yD;have hfE:qA b (b.aK.length-0) 0=qA b b.aK.length 0:=rfl;obtain⟨E,hE⟩:∃E,qA b b.aK.length 0=E:=⟨_,rfl⟩
   rw[hE]at yD hfE;refine rn func27 ?_;simp[-cB,f27];intro bs;refine pC yV ?_;simp;intro bL;refine av.weaken (Wk.rM 4 15 5301 (e:=3) (k:=1) rfl rfl (by simp[keys])) ?_;refine av.weaken (Wk.rM 4 16 5302 (e:=5) (k:=1) rfl rfl (by simp[keys,aI.jz])) ?_;simp only[aI.jz,ao9,aqX,reduceIte,Nat.reduceEqDiff];refine av.cI [1,2,4,5] b.aK.length (λi=> [(5,iD i)]) (λi=> [(5301,.row 3 1 (dd (aC (stM b i).1))),(5302,.row 5 1 (dd (gJ (stM b i).2)))]) (λi=>qA b (b.aK.length-i) i=E) (by rfl) (by simp[stM,gJ,hE,Kp]) ?_;intro i hi hH;obtain⟨l1,l2⟩:=ZF b hR i;rcases aoR hi with aw|heq
   ·have hco:=ZE b hb hR i;have bU:aN .i64 ((i:Int)+1):=iW;have nF:=PN b hR i;have bQ:stM b (i+1)=((stM b i).1++ [((stM b i).2.length:Int)],(stM b i).2++(kY b i).1):=rfl;obtain⟨c,hc⟩:∃c,kY b i=c:=⟨_,rfl⟩
    rw[hc]at hco nF bQ;rw[show b.aK.length-i=(b.aK.length-(i+1))+1 by omega,qA,hc]at hH;simp[-cB,aw];refine pC hco ?_;by_cases he:c.2=0
    ·rw[if_pos he]at hH;have k1:V.dU 5301 (List.map V.d b.Tables.enc++ [V.rv 5301,V.rv 5302])=List.map V.d b.Tables.enc++ [V.any,V.rv 5302]:=rfl;have k2:V.dU 5302 (List.map V.d b.Tables.enc++ [V.rv 5301,V.rv 5302])=List.map V.d b.Tables.enc++ [V.rv 5301,V.any]:=rfl;have k3:(List.map V.d b.Tables.enc++ [V.any,V.rv 5302]).take 15=List.map V.d b.Tables.enc:=rfl;have k4:(List.map V.d b.Tables.enc++ [V.any,V.rv 5302]).drop 16=[V.rv 5302]:=rfl;have k5:(List.map V.d b.Tables.enc++ [V.rv 5301,V.any]).take 16=List.map V.d b.Tables.enc++ [V.rv 5301]:=rfl;have k6:(List.map V.d b.Tables.enc++ [V.rv 5301,V.any]).drop 17=[]:=rfl;simp[aw,he,bU,bQ,hH,l1,k1,k2,k3,k4,k5,k6];exact⟨by omega,⟨BM _,by omega⟩,by simp[Kp]⟩
    ·rw[if_neg he]at hH;rw[<-hH,if_pos he]at yD;simp[aw,he];rw[<-yD];exact⟨rfl,rfl⟩
   ·have hE0:E=0:=by rw[heq,Nat.sub_self,qA]at hH;exact hH.symm
    rw[if_neg (by rw[hE0];simp)]at yD;obtain⟨st,V9⟩:∃st,stM b b.aK.length=st:=⟨_,rfl⟩
    rw[V9]at yD;rw[heq,V9]at l1 l2;have afX:(65536:Int)<(st.2.length:Int)↔65536<st.2.length:=by omega
    by_cases hL:65536<st.2.length
    ·rw[if_pos hL]at yD;simp[heq,V9,hL,afX];rw[<-yD];exact⟨rfl,rfl⟩
    ·rw[if_neg hL]at yD;simp[heq,V9,hL,afX];rw[<-yD];refine⟨?_,rfl⟩;simp[ar.enc,al.enc];rfl
def sd(a:List Int)(n:Nat):List Int:=(List.range n).map λi=>if i<a.length then aq (a[i]?.getD 0)else 0
theorem Wa(a:List Int)(n:Nat):sd a (n+1)=sd a n++ [if n<a.length then aq (a[n]?.getD 0)else 0]:=by
 unfold sd;rw[aql,apL];rfl
theorem ZG(a:List Int)(n:Nat):(sd a n).length=n:=by simp[sd]
theorem I4(s:al)(r:Nat)(e:Int)(n:Nat)(he:s.Entry[r]?=some e)(hn:s.Tables.aM[r]?=some (n:Int))(yW:n≤1000000)(a:List Int)(base:Int):
  Pure prog 31 [.agg (s.enc.map .d),iD r,.d (.sl (aC a)),iD base] (.agg ((aG.mk r e base (sd a n)).enc.map .d)):=by
 obtain⟨nD,xY⟩:=aoL.1 he;obtain⟨qk,CI⟩:=aoL.1 hn;refine rn func31 ?_;simp[-cB,f31];intro bs;simp[xY,nD];intro bL;refine av.weaken (Wk.rM 9 3 5301 (e:=3) (k:=1) rfl rfl (by simp[keys])) ?_;simp only[aI.jz,ao9,aqX,reduceIte,Nat.reduceEqDiff];refine av.cI [1,2,4,8,9,10] n (λi=> [(10,iD i)]) (λi=> [(5301,.row 3 1 (dd (aC (sd a i))))]) (λ_=>True) (by rfl) (by simp[sd]) ?_;intro i hi _;have mb:=Wa a i;have Li:=ZG a i;rcases aoR hi with aw|heq
 ·have bU:aN .i64 ((i:Int)+1):=iW;have dj:(i:Int)<n:=by omega
  by_cases hA:i<a.length
  ·have Ef:(i:Int)<a.length:=by omega
   rw[if_pos hA,akC hA,apA]at mb;have hw:=aP a[i];simp[-cB,aw,dj,CI,qk,hA,Ef];refine pC hw ?_;simp[aw,bU,mb,Li];omega
  ·have Ef:¬(i:Int)<a.length:=by omega
   rw[if_neg hA]at mb;simp[aw,dj,CI,qk,hA,Ef,bU,mb,Li];omega
 ·simp[heq,CI,qk];rfl
def tq(s:al)(w:aj)(r:Int)(a:List Int)(env:dy):ah:=
 if r<0\/(s.Tables.Params.length:Int)<=r then⟨[],[],env,⟨11,w,⟨#[]⟩,0,false,0⟩,true⟩
 else if(a.length:Int)≠aA s.Tables.Params r then⟨[],[],env,⟨7,w,⟨#[]⟩,0,false,0⟩,true⟩
 else⟨[⟨r,aA s.Entry r,0,sd a (aA s.Tables.aM r).toNat⟩],[],env,⟨0,w,⟨#[]⟩,0,false,0⟩,false⟩
theorem Uy(s:al)(w:aj)(r:Int)(a:List Int)(env:dy)(h1:s.Entry.length=s.Tables.Params.length)(h2:s.Tables.aM.length=s.Tables.Params.length)(h3:∀n∈s.Tables.aM,0≤n∧n≤1000000):
  Pure prog 12 [.agg (s.enc.map .d),.agg (w.enc.map .d),iD r,.d (.sl (aC a)),.agg (env.enc.map .d)] (.agg ((tq s w r a env).enc.map .d)):=by
 obtain⟨R,hR⟩:∃R,tq s w r a env=R:=⟨_,rfl⟩
 have kQ:=hR;unfold tq at kQ;rw[hR];by_cases hr:r<0\/(s.Tables.Params.length:Int)<=r
 ·rw[if_pos hr]at kQ;subst kQ;have yV:(decide (r<0)||decide ((s.Tables.Params.length:Int)<=r))=true:=by simpa using hr
  refine Pure.run func12 rfl (by simp[f12,dy.enc,aj.enc]) ?_;simp[-cB,f12,dy.enc,aj.enc];intro bs bL;simp[yV,dy.enc,aj.enc];rfl
 ·rw[if_neg hr]at kQ;have nD:¬r<0:=by omega
  have qk:¬(s.Tables.Params.length:Int)<=r:=by omega
  have kx:r.toNat<s.Tables.Params.length:=by omega
  have hrn:(r.toNat:Int)=r:=by omega
  have hP:aA s.Tables.Params r=s.Tables.Params[r.toNat]:=by unfold aA;rw[akC kx];rfl
  have hEn:aA s.Entry r=s.Entry[r.toNat]'(by omega):=by unfold aA;rw[akC (by omega)];rfl
  have YK:aA s.Tables.aM r=s.Tables.aM[r.toNat]'(by omega):=by unfold aA;rw[akC (by omega)];rfl
  obtain⟨b1,b2⟩:=h3 (s.Tables.aM[r.toNat]'(by omega)) (aoV _);have iy:=I4 s r.toNat (s.Entry[r.toNat]'(by omega)) (s.Tables.aM[r.toNat]'(by omega)).toNat (akC _) (by rw[akC (by omega)];congr 1;omega) (by omega) a 0;rw[hrn]at iy;by_cases hA:(a.length:Int)=aA s.Tables.Params r
  ·rw[if_neg (by simpa using hA)]at kQ;rw[hEn,YK]at kQ;rw[hP]at hA;subst kQ;refine Pure.run func12 rfl (by simp[f12,dy.enc,aj.enc,nD,qk]) ?_;simp[-cB,f12,dy.enc,aj.enc,nD,qk];intro bs bL;simp[nD,qk,kx,hA,akC kx];refine⟨by omega,?_⟩;refine pC iy ?_;simp[aG.enc];rfl
  ·rw[if_pos hA]at kQ;rw[hP]at hA;subst kQ;refine Pure.run func12 rfl (by simp[f12,dy.enc,aj.enc,nD,qk]) ?_;simp[-cB,f12,dy.enc,aj.enc,nD,qk];intro bs bL;simp[nD,qk,kx,hA,akC kx];exact⟨by omega,rfl⟩
theorem A4(s:al)(w:aj)(r:Int)(a:List Int)(env:dy)(h1:s.Entry.length=s.Tables.Params.length)(h2:s.Tables.aM.length=s.Tables.Params.length)(h3:∀n∈s.Tables.aM,0≤n∧n≤1000000)
  (ajD:∀(r:Nat) (e:Int) (n:Nat),s.Entry[r]?=some e->s.Tables.aM[r]?=some (n:Int)->n<=1000000->(a.length:Int)=aA s.Tables.Params r->Pure prog 30 [.agg (s.enc.map .d),iD r,.d (.sl (aC a)),iD 0] (.agg ((aG.mk r e 0 (sd a n)).enc.map .d))):
  Pure prog 11 [.agg (s.enc.map .d),.agg (w.enc.map .d),iD r,.d (.sl (aC a)),.agg (env.enc.map .d)] (.agg ((tq s w r a env).enc.map .d)):=by
 obtain⟨R,hR⟩:∃R,tq s w r a env=R:=⟨_,rfl⟩
 have kQ:=hR;unfold tq at kQ;rw[hR];by_cases hr:r<0\/(s.Tables.Params.length:Int)<=r
 ·rw[if_pos hr]at kQ;subst kQ;have yV:(decide (r<0)||decide ((s.Tables.Params.length:Int)<=r))=true:=by simpa using hr
  refine Pure.run func11 rfl (by simp[f11,dy.enc,aj.enc]) ?_;simp[-cB,f11,dy.enc,aj.enc];intro bs bL;simp[yV,dy.enc,aj.enc];rfl
 ·rw[if_neg hr]at kQ;have nD:¬r<0:=by omega
  have qk:¬(s.Tables.Params.length:Int)<=r:=by omega
  have kx:r.toNat<s.Tables.Params.length:=by omega
  have hrn:(r.toNat:Int)=r:=by omega
  have hP:aA s.Tables.Params r=s.Tables.Params[r.toNat]:=by unfold aA;rw[akC kx];rfl
  have hEn:aA s.Entry r=s.Entry[r.toNat]'(by omega):=by unfold aA;rw[akC (by omega)];rfl
  have YK:aA s.Tables.aM r=s.Tables.aM[r.toNat]'(by omega):=by unfold aA;rw[akC (by omega)];rfl
  obtain⟨b1,b2⟩:=h3 (s.Tables.aM[r.toNat]'(by omega)) (aoV _);by_cases hA:(a.length:Int)=aA s.Tables.Params r
  ·have iy:=ajD r.toNat (s.Entry[r.toNat]'(by omega)) (s.Tables.aM[r.toNat]'(by omega)).toNat (akC _) (by rw[akC (by omega)];congr 1;omega) (by omega) (by rw[hrn];exact hA)
   rw[hrn]at iy;rw[if_neg (by simpa using hA)]at kQ;rw[hEn,YK]at kQ;rw[hP]at hA;subst kQ;refine Pure.run func11 rfl (by simp[f11,dy.enc,aj.enc,nD,qk]) ?_;simp[-cB,f11,dy.enc,aj.enc,nD,qk];intro bs bL;simp[nD,qk,kx,hA,akC kx];refine⟨by omega,?_⟩;refine pC iy ?_;simp[aG.enc];rfl
  ·rw[if_pos hA]at kQ;rw[hP]at hA;subst kQ;refine Pure.run func11 rfl (by simp[f11,dy.enc,aj.enc,nD,qk]) ?_;simp[-cB,f11,dy.enc,aj.enc,nD,qk];intro bs bL;simp[nD,qk,kx,hA,akC kx];exact⟨by omega,rfl⟩
theorem mR(a:List Int)(ha:a.length<=1000000000000):Pure prog 47 [.d (.sl (aC a)),.d (.sl (aC a))] (oD true):=by
 refine rn func47 ?_;simp[-cB,f47];refine av.cI [0,1,5] a.length (λi=> [(5,iD i)]) (λ_=> []) (λ_=>True) (by rfl) (by simp) ?_;intro i hi _;rcases aoR hi with aw|heq
 ·have bU:aN .i64 ((i:Int)+1):=iW;have dj:(i:Int)<a.length:=by omega
  simp[-cB,aw,dj];refine av.bT [] aT (by kernel_rfl) (by rfl) ?_;simp[aw,dj,bU]
 ·simp[heq]
def vv(w:aj):Prop:=w.aQ.length<=1000000000000/\w.ae.length<=1000000000000/\w.Child.length<=1000000000000/\w.Next.length<=1000000000000/\w.Flags.length<=1000000000000/\w.aJ.length<=1000000000000/\w.bc.length<=1000000000000
set_option maxHeartbeats 16000000 in
set_option maxRecDepth 60000 in
theorem ZH(t:u4)(h:vv t.World):Pure prog 17 [.agg (t.enc.map .d),.agg (t.enc.map .d)] (oD true):=by
 obtain⟨h1,h2,h3,h4,h5,h6,h7⟩:=h;have e1:=mR _ h1;have e2:=mR _ h2;have e3:=mR _ h3;have e4:=mR _ h4;have e5:=mR _ h5;have e6:=mR _ h6;have e7:=mR _ h7;refine Pure.GI func17 rfl (by simp[f17]) ?_;simp only[f17];refine av.gE ?_;simp[-cB,u4.enc,aj.enc];intro bs;obtain⟨W,hW⟩:∃W:List V,W=(t.World.enc.map .d):=⟨_,rfl⟩
 have rm:=hW;simp only[aj.enc,ao9,aqX]at rm;refine av.merge ⟨[(2,.bp 2 0),(3,.bp 3 0),(4,oD false),(5,.bp 5 0),(6,.bp 6 0)],[(5,.box 0 34 W),(6,.box 0 34 W),
  (3,.box (bs 1+1) 48 (t.enc.map .d)),(2,.box (bs 0+1) 48 (t.enc.map .d))]⟩ ?_ ?_
 ·rw[rm];refine av.ee aT (dM.Uw 4 5 (by decide) (dM.m0 [arc,arc,arf,arf,none,none,none,none] [] (by kernel_rfl) ?_) (dM.perm [0,1,2,3,5,4,6,7] [0,1,2,3,5,4,6,7] (by kernel_rfl) (by kernel_rfl) (dM.m0 [arc,arc,arf,arf,none,none,none,none] [] (by kernel_rfl) ?_)))
  all_goals
   simp[-cB];intro KU;refine(Wk.tt [5,6]).trans (Wk.pick [2,3,4,5,6] [5,6,3,2] (by rfl) (by decide) (by simp[St.pick,St.tt,St.on,V.on,V.dE,aV.tt]))
 ·intro bL;rw[rm];refine av.ur ?_;simp[-cB,u4.enc,aj.enc];refine pG e1 ?_;simp[-cB];refine pG e2 ?_;simp[-cB];refine pG e3 ?_;simp[-cB];refine pG e4 ?_;simp[-cB];refine pG e5 ?_;simp[-cB];refine pG e6 ?_;simp[-cB];refine pG e7 ?_;simp[-cB]
def X4(m:ah):Prop:=m.Stack.length<=1000000000000/\m.Frames.length<=1000000000000/\(∀f∈m.Frames,f.aM.length<=1000000000000)/\vv m.Told.World
set_option maxHeartbeats 16000000 in
set_option maxRecDepth 60000 in
theorem UB(m:ah)(h:X4 m):Pure prog 15 [.agg (m.enc.map .d),.agg (m.enc.map .d)] (oD true):=by
 obtain⟨h1,h2,h3,h4⟩:=h;have e1:=mR _ h1;have e2:=ZH _ h4;have hen:∀f:aG,f.enc=[.v (.int .i64 f.kv),.v (.int .i64 f.At),.v (.int .i64 f.bO),.sl (aC f.aM)]:=λf=>rfl
 refine rn func15 ?_;simp[-cB,f15];intro bs;refine pG e1 ?_;simp[-cB];refine pG e2 ?_;simp;clear e1 e2 h1 h4;refine av.cI [2,3,5] m.Frames.length (λi=> [(5,iD i)]) (λ_=> []) (λ_=>True) (by rfl) (by simp) ?_;intro i hi _;rcases aoR hi with aw|heq
 ·have bU:aN .i64 ((i:Int)+1):=iW;have dj:(i:Int)<m.Frames.length:=by omega
  have e3:=mR _ (h3 _ (aoV aw));simp[-cB,aw,dj];refine av.ee aT (dM.Uw 10 11 (by decide) (dM.m0 [arc,arc,arc,arc,arc,arf,arf,arf,arf,arf,none,none,none,none] [] (by kernel_rfl) ?_) (dM.perm [0,1,2,3,4,5,6,7,8,9,11,10,12,13] [0,1,2,3,4,5,6,7,8,9,11,10,12,13] (by kernel_rfl) (by kernel_rfl) (dM.m0 [arc,arc,arc,arc,arc,arf,arf,arf,arf,arf,none,none,none,none] [] (by kernel_rfl) ?_)))
  all_goals
   simp[-cB,aw,hen];intro KU;refine pG e3 ?_;simp[bU,aw]
 ·simp[heq]
def oV(e:Int):V:= .d (.uj 77 true [.v (.int .i64 e)])
def s4(m:ah)(e:Int):ah:={m with gB:=true,Told:={m.Told with Ik:=e}}
theorem PO(m out:ah)(b4 b6:Nat)(px:Option Int):jF prog 32 [.bp 4 0,.bp 6 0] [(4,.box (b4+1) 50 (m.enc.map .d)),(6,.box (b6+1) 50 (out.enc.map .d))] (px.map oV)
  (λr L'=>r=none/\L'=[(4,.box (b4+1) 50 (m.enc.map .d)),(6,.box (b6+1) 50 ((match px with|none=>out|some e=>s4 m e).enc.map .d))]):=by
 refine jF.run func32 rfl (by simp[f32]) (by simp[f32]) ?_;simp only[f32];refine SQ.rec (d:=5) ?_ rfl (by decide) rfl (l:=[]) rfl rfl (by rfl) ?_
 ·intro ρ w;simp[execOp,resolve,invoke];rfl
 refine av.edq (hs:=[4,6]) (by decide) (av.ur ?_);cases px with
 | none=>
   simp[-cB,Vh]
 | some e=>
   simp[-cB,Vh,oV];intro bs;refine av.aU [Q3,Q3,Q0,none,arb,arb,none] [] aT (by kernel_rfl) ?_;simp[s4,ah.enc,u4.enc]
section
variable {P : Program} {n : Nat} {Q : AX -> St -> Prop}
def BP(P:Program)(n:Nat)(c:Code)(s s':St)(e0:Exit):Prop:=∀fo m a w,G fo n m s a w->c.wpIn (wr fo.r) 0 P (λe a' w'=>e=e0/\G fo n m s' a' w'/\Step w (own m) w' (own m)) a w
theorem BP.seq{x y s s1 s2 e}(h1:BP P n x s s1 .normal)(h2:BP P n y s1 s2 e):BP P n (.seq x y) s s2 e:=λfo m a w g=>by
 refine wpIn_seq (Code.wpIn_mono (λe1 a1 w1 hp=>?_) (h1 fo m a w g));obtain⟨rfl,g1,st⟩:=hp;exact Code.wpIn_mono (λe2 a2 w2 ⟨h,g2,oP⟩=>⟨h,g2,st.trans oP⟩) (h2 fo m a1 w1 g1)
theorem BP.ret{s}:BP P n .ret s s .ret:=λfo m a w g=>wpIn_ret ⟨rfl,g,Step.refl w _⟩
theorem abW o(h:o.after= #[]):mj [o].toArray 1 (Array.replicate 1 false) [0]:=by
 refine .inr ⟨0,[],rfl,?_,rfl⟩;rw[mem_ready];exact⟨rfl,o,rfl,λe he=>by rw[h]at he;simp at he⟩
def rT(P:Program)(f:FuncId)(args:List V)(L:aI)(x:V):Prop:=
 ∀fo m w (xs:Array Value),Inv fo m L w->ir w (OO fo m) m xs args->Calls P f xs w (λe w'=>∃v,e= .returned v/\aB w' (OO fo m) m v x/\Inv fo m L w'/\Step w (own m) w' (own m))
theorem rT.of{f}{fn}{c}{args}{L}{s'}{ys}{c'}(hf:P.funcs[f]?=some fn)(hb:fn.body=some c)(hn:args.length≤fn.ntmps)
  (h:BP P fn.ntmps c ⟨eH 0 args,L⟩ s' .ret) (hL:s'.L=L) (hr:u3 P s' fn.results.toList=some (ys,c')) (hc:c'):rT P f args L (A6 ys):=by
 intro fo m w xs hi hx;have key:∀fo,fo.D=[]->fo.r=none->fo.nm=false->Inv fo m L w->ir w (OO fo m) m xs args->Calls P f xs w (λe w'=>∃v,e= .returned v/\aB w' (OO fo m) m v (A6 ys)/\Inv fo m L w'/\Step w (own m) w' (own m)):=by
  intro fo hD tz As hi hx;refine callsIn_wide.1 (callsIn_of_wp_marks (n:=0) hf hb trivial ?_);have dZ:(xs++Array.replicate (fn.ntmps-xs.size) undef).size=fn.ntmps:=by
   have:=hx.1;grind
  have g:G fo fn.ntmps m ⟨eH 0 args,L⟩ {tmps:=xs++Array.replicate (fn.ntmps-xs.size) undef,defers:=[]} w:=by
   refine⟨dZ,?_,hi,hD.symm⟩;intro t y hy;obtain⟨h1,h2,h3⟩:=pW hy;simp[apz]at h2 h3;refine⟨by omega,?_⟩;have aw:t<xs.size:=by rw[hx.1];exact h3
   have:(xs++Array.replicate (fn.ntmps-xs.size) undef).getD t undef=xs[t]:=by
    simp[Array.getD,aw];omega
   rw[this];exact hx.2 t _ y (ao7 aw) h2
  have h0:=h fo m _ w g;rw[tz]at h0;refine Code.wpIn_mono ?_ h0;rintro e a' w' ⟨rfl,g',st⟩;show LeavesInM Fence.wide 0 P fn a'.tmps _ a'.defers .returning w';rw[g'.defers,hD];refine tw (by simp) [] w' List.nodup_nil (by simp) (λw2 h1 h2 h3 h4 h5=>?_);have oP:Step w (own m) w2 (own m):=⟨h1.trans st.os,h2.trans st.tape,h3.trans st.output,apr st.size h4,λb hb ho=>(h5 b (by simp)).trans (st.block b hb ho),st.owned⟩
  have g2:=g'.others h4 (λb _ _=>h5 b (by simp));obtain⟨v,k1,k2⟩:=r7 g2 hr hc;exact⟨v,k1,v,rfl,k2,by rw[<-hL];exact g2.inv,oP⟩
 exact(key ⟨fo.f,[],none,false⟩ rfl rfl rfl ⟨hi.nodup,hi.fI,hi.apart,hi.others,hi.ej,hi.holds,hi.ef⟩ hx).mono λ_ _ ⟨v,h1,h2,h3,h4⟩=>⟨v,h1,h2,⟨h3.nodup,h3.fI,h3.apart,h3.others,h3.ej,h3.holds,h3.ef⟩,h4⟩
def RW(P:Program)(n:Nat)(c:Code)(s:St)(e0:Exit)(K:St->Prop):Prop:=∃s',BP P n c s s' e0/\K s'
theorem RW.seq{x y s e K}(h:RW P n x s .normal (λs1=>RW P n y s1 e K)):RW P n (.seq x y) s e K:=by
 obtain⟨s1,h1,s2,h2,hK⟩:=h;exact⟨s2,h1.seq h2,hK⟩
theorem RW.ret{s K}(h:K s):RW P n .ret s .ret K:=⟨s,BP.ret,h⟩
theorem RW.draw{id l s K} us(hm:P.follows .mixedOrders=true)(cq:indep l=true)(hd:dG n l=true)(h:uE P l.toArray l s us K):RW P n (.region id l.toArray true) s .normal K:=by
 obtain⟨tr,s2,ht,hK⟩:=qN l s us h;refine⟨s2,?_,hK⟩;intro fo m a w g;refine wpIn_region_any hm ?_;exact wE ht cq hd (λa1 w1 g1 st=>⟨rfl,g1,st⟩) (λp hp=>(g.fr p.1 p.2 hp).1) l.toArray.size (Array.replicate l.toArray.size false) (List.range l.length) a {w with drawn:=w.drawn+1}
  (by simp) (λi hi _=>by grind) (zc g _)
theorem RW.one{id o s K} us(ha:o.after= #[])(cq:indep [o]=true)(hd:dG n [o]=true)(h:uE P [o].toArray [o] s us K):RW P n (.region id [o].toArray false) s .normal K:=by
 obtain⟨tr,s2,ht,hK⟩:=qN [o] s us h;refine⟨s2,?_,hK⟩;intro fo m a w g;refine wpIn_region ?_;have hk:=zc (l:=[o]) (tr:=tr) g w.drawn;have:=wE ht cq hd (R:=λe a' w'=>e= .normal/\G fo n m s2 a' w'/\Step w (own m) w' (own m)) (λa1 w1 g1 st=>⟨rfl,g1,st⟩) (λp hp=>(g.fr p.1 p.2 hp).1) 1 (Array.replicate 1 false) [0] a w
  (by simp) (λi hi _=>by grind) hk
 grind[mj.run,abW]
def Ts(P:Program)(rs:List ResultVar)(L:aI)(x:V)(s:St):Prop:=s.L=L/\match u3 P s rs with
 | some (ys,c)=>c/\A6 ys=x
 | none=>False
theorem rT.run{f}{fn}{c}{args}{L}{x}(hf:P.funcs[f]?=some fn)(hb:fn.body=some c)(hn:args.length≤fn.ntmps)
  (h:RW P fn.ntmps c ⟨eH 0 args,L⟩ .ret (Ts P fn.results.toList L x)):rT P f args L x:=by
 obtain⟨s',h1,hL,h2⟩:=h;grind[rT.of]
theorem qd.read{o}{c}{dt}{f}{args}{x}{L}(L1 L2:aI)(aD:o.op= .call c)(hc:callee dt c=some (f,args))(he:enters P f=true)(hL:L.Perm (L1++L2))
  (ho:V.dE (keys L1) args=true) (ij:L1.all (λp=>aV.on (keys L1) p.2)=true) (h:rT P f args L1 x):qd P o dt L x:=by
 classical
 intro fo m ρ w hi hr;obtain⟨xs,h1,h2⟩:=oY (P:=P) aD hc he hr;refine .inr ⟨f,xs,h1,?_⟩;have pA:∀x,x∈keys L↔x∈keys L1\/x∈keys L2:=by
  grind[keys]
 have gv:(keys L1).Nodup/\(keys L2).Nodup/\∀x,x∈keys L1->x∉keys L2:=by
  have hp:(keys L).Perm (keys L1++keys L2):=by grind[keys]
  have:=hp.nodup_iff.1 hi.nodup;grind
 rw[aoP]at ij
 let m1:Nat->Option Value:=λh=>if h∈keys L1 then m h else none
 have lZ:∀h x,m1 h=some x->m h=some x/\h∈keys L1:=by
  grind
 have ot:∀h x,h∈keys L1->m h=some x->m1 h=some x:=λh x hh hx=>by grind
 let gV:FO:=λb=>fo b\/∃h x,h∈keys L2/\m h=some x/\dn x b
 have oQ:∀b,OO gV m1 b↔OO fo m b:=by
  intro b;constructor
  ·rintro(⟨h,x,hx,hb⟩|h|⟨h,x,hh,hx,hb⟩)
   ·exact .inl ⟨h,x,(lZ h x hx).1,hb⟩
   ·exact .inr h
   ·exact .inl ⟨h,x,hx,hb⟩
  ·rintro(⟨h,x,hx,hb⟩|h)
   ·rcases(pA h).1 (hi.fI h x hx)with hh|hh
    ·exact .inl ⟨h,x,ot h x hh hx,hb⟩
    ·exact .inr (.inr ⟨h,x,hh,hx,hb⟩)
   ·exact .inr (.inl h)
 have qe:Inv gV m1 L1 w:=by
  refine⟨gv.1,λh x hx=>(lZ h x hx).2,?_,?_,?_,?_,hi.ef.mono (bK.refl w _) (λb _ hb=>(oQ b).1 hb)⟩
  ·intro h h' x x' b hx cG hb dm;exact hi.apart h h' x x' b (lZ h x hx).1 (lZ h' x' cG).1 hb dm
  ·rintro h x b hx hb (hf|⟨h',x',hh',cG,dm⟩)
   ·exact hi.others h x b (lZ h x hx).1 hb hf
   ·have:=hi.apart h h' x x' b (lZ h x hx).1 cG hb dm;grind
  ·rintro b (hf|⟨h',x',hh',cG,dm⟩)
   ·exact hi.ej b hf
   ·exact hi.lt cG dm
  ·intro h r hr;obtain⟨x,hx,hh⟩:=hi.holds h r (hL.mem_iff.2 (apf _ hr));have hk:h∈keys L1:=aoQ.2 ⟨_,hr,rfl⟩;exact⟨x,ot h x hk hx,(hh.on ot (ij _ hr)).mono (λ_ _=>rfl) (bK.refl w _) (λb _ hb=>(oQ b).1 hb) (λ_ _ e=>e)⟩
 have fD:ir w (OO gV m1) m1 xs args:=by
  refine⟨h2.1,λj v y hv hy=>?_⟩;exact((h2.2 j v y hv hy).on ot (fQ ho y (aoO hy))).mono (bK.refl w _) (λb _ hb=>(oQ b).1 hb) (λ_ _ e=>e)
 have eZ:∀b,own m1 b->own m b:=by
  rintro b ⟨h,x,hx,hb⟩;exact⟨h,x,(lZ h x hx).1,hb⟩
 refine(h gV m1 w xs qe fD).mono ?_;rintro e w' ⟨v,rfl,hv,cn,fK⟩;have cQ:bK w (OO fo m) w':=⟨fK.size,λb hb iT=>fK.block b hb (λh=>iT (.inl (eZ b h)))⟩
 refine⟨v,rfl,hv.mono (bK.refl w' _) (λb _ hb=>(oQ b).2 hb) (λh x hx=>(lZ h x hx).1),⟨hi.nodup,hi.fI,hi.apart,hi.others,λb hb=>ao3 (hi.ej b hb) fK.size,?_,hi.ef.mono cQ (λ_ _ h=>h)⟩,
  ⟨fK.os,fK.tape,fK.output,fK.size,λb hb CH=>fK.block b hb (λh=>CH (eZ b h)),λb _ hb=>hb⟩⟩
 intro h r hr;rcases ao1.1 (hL.mem_iff.1 hr)with s8|s8
 ·obtain⟨z,hz,De⟩:=cn.holds h r s8;exact⟨z,(lZ h z hz).1,De.mono (λ_ _=>rfl) (bK.refl w' _) (λb _ hb=>(oQ b).2 hb) (λh x hx=>(lZ h x hx).1)⟩
 ·obtain⟨z,hz,De⟩:=hi.holds h r hr;have hk:h∈keys L2:=aoQ.2 ⟨_,s8,rfl⟩;refine⟨z,hz,De.mono (λb hb=>fK.block b (hi.lt hz hb) (λCH=>?_)) cQ (λ_ _ h=>h) (λ_ _ e=>e)⟩;obtain⟨h',y',nq,dm⟩:=CH;have:=hi.apart h h' z y' b hz (lZ h' y' nq).1 hb dm;grind
theorem kJ.read(hs:List Nat){f args x}{L L1:aI}(h:rT P f args L1 x)(hL:L.filter (λp=>hs.contains p.1)=L1)(he:enters P f=true)(ho:V.dE (keys L1) args=true)(ij:L1.all (λp=>aV.on (keys L1) p.2)=true):kJ P f args L x:=
 λ_ _ _ aD hc=>qd.read L1 (L.filter λp=>!hs.contains p.1) aD hc he (by subst hL;exact(apE _ L).symm) ho ij h
theorem au.Wb{ops}{o:Oper}{rest}{c}{s:St}{f}{args}{x}{L1}(hs:List Nat)(aD:o.op= .call c)(h:rT P f args L1 x)(hc:callee s.ev c=some (f,args))(hg:o.guard=none)
  (hd:∀d,o.dst=some d->d<n) (hr:dG n rest=true) (he:enters P f=true) (hL:s.L.filter (λp=>hs.contains p.1)=L1) (ho:V.dE (keys L1) args=true) (ij:L1.all (λp=>aV.on (keys L1) p.2)=true)
  (k:∀bs,eR P ops rest (s.put o.dst x) bs [] (KK P n ops Q)):au P n ops (o::rest) s Q:=
 au.H7 hg hd (qd.read L1 (s.L.filter λp=>!hs.contains p.1) aD hc he (by subst hL;exact(apE _ s.L).symm) ho ij h) (bn rest _ [] hr k)
end
def V.cj(hx:List (Nat×Value)):V->V
 | .rv g=>match hx.lookup g with
   | some x=> .kn (λv=>v=x)
   | none=> .rv g
 | y=>y
def aV.cj(hx:List (Nat×Value)):aV->aV
 | .box b ty cs=> .box b ty (cs.map (V.cj hx))
 | r=>r
def db(hx:List (Nat×Value))(L:aI):aI:=L.map λp=>(p.1,p.2.cj hx)
theorem vK hx L:keys (db hx L)=keys L:=by simp[db]
theorem Ge{hx:List (Nat×Value)}{g x}(h:hx.lookup g=some x):(g,x)∈hx:=Ky h
theorem aB.cj{w O m hx}(hm:∀p∈hx,m p.1=some p.2){v c}(h:aB w O m v c):aB w O m v (V.cj hx c):=by
 cases c with
 | rv g=>
   simp[V.cj];split
   ·rename_i x cG;cases h with
    | rv _ _ e e1=>
      have:=hm _ (Ge cG);rw[e]at this;exact .kn _ _ (aoK this)
   omega
 | _=>exact h
theorem aB.Eg{w O m hx}(hm:∀p∈hx,m p.1=some p.2){v c}(h1:v.oneCell'=true)(h:aB w O m v (V.cj hx c)):aB w O m v c:=by
 cases c with
 | rv g=>
   simp[V.cj]at h;split at h
   ·rename_i x cG;cases h with
    | kn _ _ e=>exact .rv g v (by rw[e];exact hm _ (Ge cG)) h1
   omega
 | _=>exact h
theorem aV.Holds.cj{w O m hx}(hm:∀p∈hx,m p.1=some p.2){x}{r:aV}(h:r.Holds w O m x):(r.cj hx).Holds w O m x:=by
 cases r with
 | box b ty cs=>
   obtain⟨bb,h1,cur,h2,h3,h4,h5,h6⟩:=h;refine⟨bb,h1,cur,h2,h3,by grind,h5,λj v c hv hc=>?_⟩;rw[aoN]at hc;obtain⟨c0,ye,rfl⟩:=aoJ.1 hc;exact(h6 j v c0 hv ye).cj hm
 | row ty k xs=>exact h
 | env A=>exact h
 | mp es=>exact h
theorem aV.Holds.Eg{w O m hx}(hm:∀p∈hx,m p.1=some p.2){x}{r:aV}(h:(r.cj hx).Holds w O m x):r.Holds w O m x:=by
 cases r with
 | box b ty cs=>
   obtain⟨bb,h1,cur,h2,h3,h4,h5,h6⟩:=h;refine⟨bb,h1,cur,h2,h3,by simpa using h4,h5,λj v c hv hc=>?_⟩;exact(h6 j v (V.cj hx c) hv (by rw[aoN,hc];rfl)).Eg hm (h5 j v hv)
 | row ty k xs=>exact h
 | env A=>exact h
 | mp es=>exact h
theorem Inv.cj{fo m w hx}(hm:∀p∈hx,m p.1=some p.2){L1 L2}(h:Inv fo m (L1++L2) w):Inv fo m (db hx L1++L2) w:=by
 have hk:keys (db hx L1++L2)=keys (L1++L2):=by
  grind[vK,keys]
 refine⟨by rw[hk];exact h.nodup,λi x hi=>by rw[hk];exact h.fI i x hi,h.apart,h.others,h.ej,λi r hr=>?_,h.ef⟩;rcases ao1.1 hr with hr|hr
 ·obtain⟨p,hp,he⟩:=aoQ.1 hr;cases he;obtain⟨x,iQ,hh⟩:=h.holds p.1 p.2 (apf _ hp);exact⟨x,iQ,hh.cj hm⟩
 ·exact h.holds i r (apn _ hr)
theorem Inv.Eg{fo m w hx}(hm:∀p∈hx,m p.1=some p.2){L1 L2}(h:Inv fo m (db hx L1++L2) w):Inv fo m (L1++L2) w:=by
 have hk:keys (db hx L1++L2)=keys (L1++L2):=by
  grind[vK,keys]
 refine⟨by rw[<-hk];exact h.nodup,λi x hi=>by rw[<-hk];exact h.fI i x hi,h.apart,h.others,h.ej,λi r hr=>?_,h.ef⟩;rcases ao1.1 hr with hr|hr
 ·obtain⟨x,iQ,hh⟩:=h.holds i (r.cj hx) (apf _ (aoQ.2 ⟨(i,r),hr,rfl⟩));exact⟨x,iQ,hh.Eg hm⟩
 ·exact h.holds i r (apn _ hr)
section
variable {P : Program} {n : Nat} {Q : AX -> St -> Prop}
def xl(L:aI):List Nat:=L.filterMap λp=>match p.2 with|.box (_+1) _ _=>some p.1|_=>none
theorem I5 hx L:xl (db hx L)=xl L:=by
 unfold xl
 induction L with
 | nil=>rfl
 | cons p L ih=>
   obtain⟨k,r⟩:=p;have e:db hx ((k,r)::L)=(k,r.cj hx)::db hx L:=rfl;rw[e];cases r with
   | box b ty cs=>grind[aV.cj]
   | _=>simp[aV.cj,ih]
theorem fU.jk{ops}{o}{s:St}{c}{f}{args}{L1 bq}{x} r(hs hid:List Nat)(aD:o.op= .call c)(h:∀hx:List (Nat×Value),hx.map Prod.fst=hid→aE P f args (db hx L1) (fun r L=>r= .ret x∧L=db hx bq))
  (hc:callee s.ev c=some (f,args)) (hg:o.guard=none)
  (he:enters P f=true) (hL:s.L.filter (λp=>hs.contains p.1)=L1) (hh:hid.all (λk=>(keys (s.L.filter λp=>!hs.contains p.1)).contains k)=true)
  (ho:V.dE (keys L1) args=true/\(∀hx:List (Nat×Value),hx.map Prod.fst=hid->(db hx L1).all (λp=>aV.on (keys L1) p.2)=true)/\L1.all (λp=>(match p.2 with|.box (_+1) _ _=>true|_=>p.1==r))=true)
  (hb:∀k b ty cs,(k,aV.box (b+1) ty cs)∈L1->∃lY jA,(k,aV.box (b+1) lY jA)∈bq)
  (iS:(s.L.filter λp=>!hs.contains p.1).all (λp=>aV.on (keys (s.L.filter λp=>!hs.contains p.1)++(L1.filterMap λp=>match p.2 with|.box (_+1) _ _=>some p.1|_=>none)) p.2)=true)
  (hk:∀k∈keys bq,k∉keys (s.L.filter λp=>!hs.contains p.1)):
  fU P n ops o s.fr s.L (some r) x (bq++s.L.filter λp=>!hs.contains p.1):=by
 classical
 intro gx MM fo m a w g;have lG:∀z,z∈o.op.operands->St.ev ⟨gx,s.L⟩ z=s.ev z:=by
  intro z hz;cases z with
  | tmp t=>simp_all[kD]
  | const v=>rfl
  | global g=>rfl
  | func f=>rfl
 have ze:s.L.Perm (L1++s.L.filter λp=>!hs.contains p.1):=by grind[List.filter_append_perm]
 generalize aoe:(s.L.filter λp=>!hs.contains p.1)=L2 at *;rw[aoP]at hh;have cq:∀k∈hid,k∈keys L2:=λk hk=>by grind
 have hex:∀k∈hid,∃x,m k=some x:=by
  intro k hk;obtain⟨⟨k',res⟩,hp,rfl⟩:=aoQ.1 (cq k hk);obtain⟨x,hx,_⟩:=g.inv.holds k' res (ze.mem_iff.2 (apn _ hp));grind
 let hx:List (Nat×Value):=hid.map λk=>(k,(m k).getD undef)
 have hxf:hx.map Prod.fst=hid:=by simp[hx,aq7]
 have hm:∀p∈hx,m p.1=some p.2:=by
  intro p hp;obtain⟨k,hk,rfl⟩:=aoQ.1 hp;obtain⟨x,hx⟩:=hex k hk;grind
 have p6:callee (St.ev ⟨gx,db hx L1++L2⟩) c=some (f,args):=by
  rw[<-hc];have Cj:∀z,z∈o.op.operands->St.ev ⟨gx,db hx L1++L2⟩ z=s.ev z:=λz hz=>by simp_all
  unfold callee;cases p6:c.callee with
  | value fo=>
    simp only;rw[Cj fo (by simp_all)];have:c.args.toList.map (St.ev ⟨gx,db hx L1++L2⟩)=c.args.toList.map s.ev:=by
     simp_all
    grind
  | _=>rfl
 refine .inl ⟨by simp[Region.wanted,hg],λnext Q' kk=>?_⟩;have g2:G fo n m ⟨gx,db hx L1++L2⟩ a w:=⟨g.size,g.fr,(g.inv.perm ze).cj hm,g.defers⟩
 refine zd (s:=⟨gx,db hx L1++L2⟩) (L1:=db hx L1) (L2:=L2) aD p6 he (by grind[vK]) (List.Perm.refl _) (by grind[vK]) (λp hp=>by show aV.on (keys L2++xl (db hx L1)) p.2=true;rw[I5];exact aoP.1 iS p hp) (h hx hxf) ?_ g2 λx' uH mm v w' hR we hinv qg gT cQ sS=>?_
 ·rintro r' uH ⟨rfl,rfl⟩;refine⟨⟨_,rfl⟩,λk re=>hk k (by grind[vK]),λk b ty cs nJ=>?_⟩;obtain⟨⟨k0,r0⟩,hp,vp⟩:=aoQ.1 nJ;simp only[aoI]at vp;obtain⟨rfl,xY⟩:=vp;cases r0 with
  | box b0 ty0 cs0=>
    simp only[aV.cj,aV.box.injEq]at xY;obtain⟨rfl,rfl,rfl⟩:=xY;obtain⟨lY,jA,fp⟩:=hb k0 b ty0 cs0 hp;exact⟨lY,jA.map (V.cj hx),aoQ.2 ⟨_,fp,rfl⟩⟩
  | row _ _ _=>grind[aV.cj]
  | env _=>grind[aV.cj]
  | mp _=>grind[aV.cj]
 ·obtain⟨e,rfl⟩:=hR;obtain rfl:=AE.ret.inj e;have gT:∀h y,h∈keys L2++xl L1->m h=some y->mm h=some y:=λh y hh=>gT h y (by show h∈keys L2++xl (db hx L1);grind[I5])
  have Yd:∀p∈hx,mm p.1=some p.2:=λp hp=>by
   grind
  refine kk v w' mm we ⟨g.size,λt y hy=>?_,hinv.Eg Yd,g.defers⟩ qg;unfold mA at hy;obtain⟨p,hp,pJ⟩:=aoQ.1 hy;simp only[aoI]at pJ;obtain⟨rfl,rfl⟩:=pJ;obtain⟨q1,q2⟩:=g.fr p.1 p.2 hp;refine⟨q1,(aB.kill (m':=mm) (h:=r) (λi y bR hi=>gT i y ?_ hi) q2).mono cQ sS (λ_ _ e=>e)⟩;have Dj:i∈keys s.L:=g.inv.fI i y hi;obtain⟨⟨i',res⟩,fp,rfl⟩:=aoQ.1 Dj;rcases ao1.1 (ze.mem_iff.1 fp)with hm|hm
  ·refine apn _ (apY.2 ⟨_,hm,?_⟩);have:=aoP.1 ho.2.2 _ hm;cases res with
   | row _ _ _=>grind
   | env _=>grind
   | mp _=>grind
   | box b _ _=>
     cases b with
     | zero=>grind
     | succ b=>rfl
  ·exact apf _ (aoQ.2 ⟨_,hm,rfl⟩)
end
section
variable {P : Program} {n : Nat} {Q : AX -> St -> Prop}
theorem Gf{pre}{last}{ls}(hs:ls.size=pre.length){i}(hi:i < pre.length)(he:∀(j:Nat) (o:Oper),pre[j]?=some o→∀e∈o.after,Region.binds .any e=true→e.on < pre.length):
  i∈Region.ready .any (pre++ [last]).toArray (ls.push false)↔i∈Region.ready .any pre.toArray ls:=by
 rw[mem_ready,mem_ready];have h1:(pre++ [last]).toArray[i]?=pre.toArray[i]?:=by grind
 have h2:∀k b,k<pre.length->(ls.push false).getD k b=ls.getD k b:=by
  intro k b hk;simp[hs,hk,aq1,show k<pre.length+1 by omega]
 rw[h1,h2 i true hi];refine and_congr_right λ_=>?_
 constructor
 ·rintro⟨o,ho,hk⟩;refine⟨o,ho,λe I6 hb=>?_⟩;rw[<-h2 e.on false (he i o (by grind) e I6 hb)];grind
 ·rintro⟨o,ho,hk⟩;refine⟨o,ho,λe I6 hb=>?_⟩;rw[h2 e.on false (he i o (by grind) e I6 hb)];grind
theorem Wc{F}{o:Oper}{a w K K' R R'}(hR:∀e a w,e≠ .normal->R e a w->R' e a w)(h:∀a w,K a w->K' a w)(hh:o.wpIn F n P a w K R):o.wpIn F n P a w K' R':=by
 have jn:LetsOut R->LetsOut R':=λ⟨a,w,h⟩=>⟨a,w,hR _ _ _ (by simp) h⟩
 refine⟨hh.1,?_⟩;have hh:=hh.2;generalize (o.semAt F.round a.eval).run P w=r at *;cases r with
 | ok x w'=>
   cases x<;>simp[Oper.uponIn]at hh⊢<;>
    first
     | exact h _ _ hh
     | exact⟨hh.1,CallsIn.mono hh.2 (λe Ad he=>by grind)⟩
     | exact⟨hh.1,RowsIn.mono hh.2 (λ_ _ he=>h _ _ he)⟩
     | grind[RoundIn.mono]
 | halt x w'=>cases x<;>simp[Oper.uponIn]at hh⊢<;>first|exact hh|grind
theorem abX{F}{R Q'}{pre}{last}(cq:indep pre=true)
  (nu:∀e∈last.after,Region.binds .any e=true->e.on<pre.length)
  (UJ:∀(ls:Array Bool),(∀(j:Nat) (o:Oper),pre[j]?=some o->ls.getD j false=true->∀e∈o.after,Region.binds .any e=true->ls.getD e.on false=true)->(∀e∈last.after,Region.binds .any e=true->ls.getD e.on false=true)->∀j,j<pre.length->ls.getD j false=true)
  (hg:∀o∈pre,∀g,o.guard=some g->g.1<pre.length)
  (hR:∀e a w,e≠ .normal->R e a w->Q' e a w)
  (hk:∀a w,R .normal a w->if Region.wanted last (yielded (pre++ [last]).toArray a.tmps)then last.wpIn F 0 P a w (Q' .normal) Q' else(∀f,last.about P w a.eval=some f->F.fn f)/\Q' .normal (a.put last.dst undef) w):
  ∀fuel ls a w,ls.size=pre.length->(∀j o,pre[j]?=some o->ls.getD j false=true->∀e∈o.after,Region.binds .any e=true->ls.getD e.on false=true)->
   wpAnyIn F 0 P .any pre.toArray R fuel ls a w->wpAnyIn F 0 P .any (pre++ [last]).toArray Q' (fuel+1) (ls.push false) a w:=by
 have he:∀(j:Nat) (o:Oper),pre[j]?=some o->∀e∈o.after,Region.binds .any e=true->e.on<pre.length:=by
  grind[nc,List.getElem?_eq_some_iff]
 have ZI:(pre++ [last]).toArray[pre.length]?=some last:=by simp
 have fin:∀(fuel:Nat) (ls:Array Bool) (a:Act) (w:World),ls.size=pre.length->(∀j,j<pre.length->ls.getD j false=true)->R .normal a w->wpAnyIn F 0 P .any (pre++ [last]).toArray Q' (fuel+1) (ls.push false) a w:=by
  intro fuel ls a w hs bV hr;have ahB:∀k,k<pre.length->(ls.push false).getD k false=true:=by
   intro k re;have:=bV k re;simpa[Array.getD,hs,re,aq1,show k<pre.length+1 by omega]using this
  refine⟨λh0=>?_,λi hi=>?_⟩
  ·exfalso;have:pre.length∈Region.ready .any (pre++ [last]).toArray (ls.push false):=by
    rw[mem_ready];simp_all[Array.getD,aq1]
   grind
  ·obtain⟨h1,o,h2,h3⟩:=mem_ready.1 hi;have kx:i<pre.length+1:=by grind
   have hik:i=pre.length:=by
    grind
   subst hik;have ale:∀k,k∈Region.ready .any (pre++ [last]).toArray ((ls.push false).setIfInBounds pre.length true)->False:=by
    intro k re;obtain⟨g1,o',g2,_⟩:=mem_ready.1 re;have tH:k<pre.length+1:=by grind
    have:((ls.push false).setIfInBounds pre.length true).getD k true=true:=by
     by_cases Tt:pre.length=k
     ·simp[*]
     ·have aw:k<pre.length:=by omega
      simp only[apM,apR Tt];have h9:=ahB k aw;rw[qO (c:=true) (by grind)]at h9;grind[Array.getD_eq_getD_getElem?]
    grind
   have xC:Region.ready .any (pre++ [last]).toArray ((ls.push false).setIfInBounds pre.length true)=[]:=by
    rw[apV];omega
   have amy:∀a w,Q' .normal a w->wpAnyIn F 0 P .any (pre++ [last]).toArray Q' fuel ((ls.push false).setIfInBounds pre.length true) a w:=λa w hq=>wpAnyIn_done xC hq fuel
   unfold wpOpIn;rw[ZI];simp only;have:=hk a w hr;split
   ·rename_i hw;rw[if_pos hw]at this;grind[Oper.wpIn_mono]
   grind
 have PQ:∀(ls:Array Bool),ls.size=pre.length->Region.ready .any pre.toArray ls=[]->∀i,i<pre.length->ls.getD i false=true:=by
  intro ls dZ hr i
  induction i using Nat.strongRecOn with
  | _ i ih=>
    intro hi;cases hb:ls.getD i false with
    | true=>rfl
    | false=>
      exfalso;have fp:i∈Region.ready .any pre.toArray ls:=by
       refine mem_ready.2 ⟨by grind,pre[i],by simp,λe I6 iE=>?_⟩;have:=(nc cq (akC hi)).2.1 e I6 iE;grind
      grind
 intro fuel
 induction fuel with
 | zero=>
   intro ls a w hs nF h;exact fin 0 ls a w hs (PQ ls hs h.1) h.2
 | succ fuel ih=>
   intro ls a w hs nF h;by_cases tz:Region.ready .any pre.toArray ls=[]
   ·exact fin (fuel+1) ls a w hs (PQ ls hs tz) (h.1 tz)
   refine⟨λh0=>?_,λi hi=>?_⟩
   ·exfalso;obtain⟨k,re⟩:=List.exists_mem_of_ne_nil _ tz;have tH:k<pre.length:=by
     grind[mem_ready,Array.getElem?_eq_some_iff]
    have:=(Gf (last:=last) hs tH he).2 re;grind
   ·obtain⟨h1,o,h2,h3⟩:=mem_ready.1 hi;have kx:i<pre.length+1:=by grind
    have jS:∀k,k<pre.length->∀b,(ls.push false).getD k b=ls.getD k b:=by
     intro k re b;simp[Array.getD,hs,re,aq1,show k<pre.length+1 by omega]
    rcases apZ i pre.length with aw|bm
    ·have R7:=(Gf (last:=last) hs aw he).1 hi;have hw:=h.2 i R7;have ho:pre.toArray[i]?=some pre[i]:=by simp
     have DD:(pre++ [last]).toArray[i]?=some pre[i]:=by
      grind
     have nd:(ls.push false).setIfInBounds i true=(ls.setIfInBounds i true).push false:=by
      grind
     have VR:∀a w,wpAnyIn F 0 P .any pre.toArray R fuel (ls.setIfInBounds i true) a w->wpAnyIn F 0 P .any (pre++ [last]).toArray Q' (fuel+1) ((ls.push false).setIfInBounds i true) a w:=by
      intro a w hh;rw[nd];refine ih (ls.setIfInBounds i true) a w (by grind) (λj oj fg hb e I6 iE=>?_) hh;have hsj:∀k,(ls.setIfInBounds i true).getD k false=true↔(k=i\/ls.getD k false=true):=by
       intro k;by_cases zl:k=i
       ·simp[*]
       ·have:¬i=k:=λe=>zl e.symm
        simp[*]
      rw[hsj];rcases(hsj j).1 hb with rfl|dm
      ·right;have hoi:oj=pre[j]:=by grind
       subst hoi;obtain⟨_,o',iC,bV⟩:=mem_ready.1 R7;grind
      grind
     unfold wpOpIn at hw⊢;rw[ho]at hw;rw[DD];simp only at hw⊢;have hy:Region.wanted pre[i] (yielded (pre++ [last]).toArray a.tmps)=Region.wanted pre[i] (yielded pre.toArray a.tmps):=by
      grind[Region.wanted,guard,List.getElem_mem,yielded,List.getElem?_append_left]
     rw[hy];split
     ·rename_i hc;rw[if_pos hc]at hw;grind[Wc]
     grind
    ·have hik:i=pre.length:=by omega
     subst hik;exfalso;rw[ZI]at h2;obtain rfl:=aoK h2;have bV:=UJ ls nF (λe I6 hb=>by rw[<-jS e.on (nu e I6 hb) false];grind);obtain⟨k,re⟩:=List.exists_mem_of_ne_nil _ tz;obtain⟨g1,o',g2,_⟩:=mem_ready.1 re;grind
def PR(pre:List Oper)(last:Oper)(sT:List Nat):Bool:=(List.range pre.length).all λj=>sT.contains j
theorem av.Wd{id}{pre}{last}{s} us(hm:P.follows .mixedOrders=true)(hd:dG n pre=true)
  (aO:(indep pre&&indep (pre++ [last])&&ER (pre++ [last]) (tC (pre++ [last]) [])&&PR pre last ((tC (pre++ [last]) []).getD pre.length [])&&pre.all (λo=>match o.guard with|some g=>decide (g.1<pre.length)|none=>true))=true)
  (h:uE P pre.toArray pre s us (λs'=>au P n (pre++ [last]).toArray [last] s' Q)):av P n (.region id (pre++ [last]).toArray true) s Q:=by
 simp only[aoM,aoP]at aO;obtain⟨⟨⟨⟨cq,k1⟩,k2⟩,k3⟩,k4⟩:=aO;unfold PR at k3;simp only[aoP,ap2,aqJ,decide_eq_true_eq]at k3;have wH:(pre++ [last])[pre.length]?=some last:=by simp
 have nu:=(nc k1 wH).2.1;intro fo m a w _ g;obtain⟨tr,s2,ht,hK⟩:=qN pre s us h;refine wpIn_region_any hm ?_;have h1:=wE (P:=P) (n:=n) ht cq hd (fo:=fo) (m:=m) (m0:=m) (w0:=w) (R:=λe a' w'=>e= .normal/\G fo n m s2 a' w'/\Step w (own m) w' (own m)) (λa1 w1 g1 st=>⟨rfl,g1,st⟩) (λp hp=>(g.fr p.1 p.2 hp).1) pre.length (Array.replicate pre.length false) (List.range pre.length) a {w with drawn:=w.drawn+1}
  (by simp) (λi hi _=>by grind) (by simpa using zc (l:=pre) (tr:=tr) g (w.drawn+1))
 have Dq:∀j,(Array.replicate pre.length false).getD j false=false:=by simp[Array.getD]
 have h2:=abX (P:=P) (last:=last) (Q':=fZ fo n m w Q) cq nu (λls nF hl j hj=>?_) (λo ho g hg=>?_) (λe a1 w1 bR hR=>absurd hR.1 bR) (λa1 w1 hR=>?_) pre.length (Array.replicate pre.length false) a {w with drawn:=w.drawn+1} (by simp) (λj o _ hb=>by grind) h1
 ·grind
 ·refine Bc k1 k2 (listed:=ls) (λj o ho hb e I6 iE=>?_) pre.length last wH hl j (k3 j hj);grind
 ·grind
 ·obtain⟨_,g1,st⟩:=hR;have h3:=hK fo m w m a1 w1 st g1;simp_all[wpListIn]
theorem av.Fj{id}{l}{s} k us(hm:P.follows .mixedOrders=true)(hl:(l.take k++ [vD l k])=l)
  (aO:(dG n (l.take k)&&(indep (l.take k)&&indep (l.take k++ [vD l k])&&ER (l.take k++ [vD l k]) (tC (l.take k++ [vD l k]) [])&&PR (l.take k) (vD l k) ((tC (l.take k++ [vD l k]) []).getD (l.take k).length [])&&(l.take k).all (λo=>match o.guard with|some g=>decide (g.1<(l.take k).length)|none=>true)))=true)
  (h:uE P (l.take k).toArray (l.take k) s us (λs'=>au P n l.toArray [vD l k] s' Q)):av P n (.region id l.toArray true) s Q:=by
 simp only[aoM]at aO;have:=av.Wd (id:=id) (last:=vD l k) us hm aO.1 (by grind) (by rw[hl];exact h);rw[hl]at this;exact this
attribute [simp] uE
end
def bf(c0 c1:V)(s:al)(F:Int)(m:ah):List V:=c0::c1::(m.Env.enc.map V.d++(m.Told.enc.map V.d++(oD m.gB::(s.enc.map V.d++ [iD F]))))
abbrev Tu(s:al)(F:Int)(m:ah):List V:=bf (.rv 5005) (.rv 5004) s F m
@[simp] theorem akh(c0 c1:V)(s:al)(F:Int)(m:ah):(bf c0 c1 s F m).length=42:=rfl
@[simp] theorem amz(c0 c1:V)(s:al)(F:Int)(m:ah):(bf c0 c1 s F m)[0]?=some c0:=rfl
@[simp] theorem alf(c0 c1:V)(s:al)(F:Int)(m:ah)(h:0<(bf c0 c1 s F m).length):(bf c0 c1 s F m)[0]=c0:=rfl
@[simp] theorem amA(c0 c1:V)(s:al)(F:Int)(m:ah):(bf c0 c1 s F m)[1]?=some c1:=rfl
@[simp] theorem alg(c0 c1:V)(s:al)(F:Int)(m:ah)(h:1<(bf c0 c1 s F m).length):(bf c0 c1 s F m)[1]=c1:=rfl
@[simp] theorem amB(c0 c1:V)(s:al)(F:Int)(m:ah):(bf c0 c1 s F m)[2]?=some (iD m.Env.qi):=rfl
@[simp] theorem alh(c0 c1:V)(s:al)(F:Int)(m:ah)(h:2<(bf c0 c1 s F m).length):(bf c0 c1 s F m)[2]=iD m.Env.qi:=rfl
@[simp] theorem amC(c0 c1:V)(s:al)(F:Int)(m:ah):(bf c0 c1 s F m)[3]?=some (iD m.Env.Second):=rfl
@[simp] theorem ali(c0 c1:V)(s:al)(F:Int)(m:ah)(h:3<(bf c0 c1 s F m).length):(bf c0 c1 s F m)[3]=iD m.Env.Second:=rfl
@[simp] theorem amD(c0 c1:V)(s:al)(F:Int)(m:ah):(bf c0 c1 s F m)[4]?=some (iD m.Env.Number):=rfl
@[simp] theorem alj(c0 c1:V)(s:al)(F:Int)(m:ah)(h:4<(bf c0 c1 s F m).length):(bf c0 c1 s F m)[4]=iD m.Env.Number:=rfl
@[simp] theorem amE(c0 c1:V)(s:al)(F:Int)(m:ah):(bf c0 c1 s F m)[5]?=some (iD m.Told.Ik):=rfl
@[simp] theorem alk(c0 c1:V)(s:al)(F:Int)(m:ah)(h:5<(bf c0 c1 s F m).length):(bf c0 c1 s F m)[5]=iD m.Told.Ik:=rfl
@[simp] theorem amF(c0 c1:V)(s:al)(F:Int)(m:ah):(bf c0 c1 s F m)[6]?=some (.d (.sl (aC m.Told.World.aQ))):=rfl
@[simp] theorem alm(c0 c1:V)(s:al)(F:Int)(m:ah)(h:6<(bf c0 c1 s F m).length):(bf c0 c1 s F m)[6]= .d (.sl (aC m.Told.World.aQ)):=rfl
@[simp] theorem amG(c0 c1:V)(s:al)(F:Int)(m:ah):(bf c0 c1 s F m)[7]?=some (.d (.sl (aC m.Told.World.ae))):=rfl
@[simp] theorem aln(c0 c1:V)(s:al)(F:Int)(m:ah)(h:7<(bf c0 c1 s F m).length):(bf c0 c1 s F m)[7]= .d (.sl (aC m.Told.World.ae)):=rfl
@[simp] theorem amH(c0 c1:V)(s:al)(F:Int)(m:ah):(bf c0 c1 s F m)[8]?=some (.d (.sl (aC m.Told.World.Child))):=rfl
@[simp] theorem alo(c0 c1:V)(s:al)(F:Int)(m:ah)(h:8<(bf c0 c1 s F m).length):(bf c0 c1 s F m)[8]= .d (.sl (aC m.Told.World.Child)):=rfl
@[simp] theorem amI(c0 c1:V)(s:al)(F:Int)(m:ah):(bf c0 c1 s F m)[9]?=some (.d (.sl (aC m.Told.World.Next))):=rfl
@[simp] theorem alp(c0 c1:V)(s:al)(F:Int)(m:ah)(h:9<(bf c0 c1 s F m).length):(bf c0 c1 s F m)[9]= .d (.sl (aC m.Told.World.Next)):=rfl
@[simp] theorem alq(c0 c1:V)(s:al)(F:Int)(m:ah):(bf c0 c1 s F m)[10]?=some (.d (.sl (aC m.Told.World.Flags))):=rfl
@[simp] theorem aki(c0 c1:V)(s:al)(F:Int)(m:ah)(h:10<(bf c0 c1 s F m).length):(bf c0 c1 s F m)[10]= .d (.sl (aC m.Told.World.Flags)):=rfl
@[simp] theorem alr(c0 c1:V)(s:al)(F:Int)(m:ah):(bf c0 c1 s F m)[11]?=some (.d (.sl (aC m.Told.World.aJ))):=rfl
@[simp] theorem akj(c0 c1:V)(s:al)(F:Int)(m:ah)(h:11<(bf c0 c1 s F m).length):(bf c0 c1 s F m)[11]= .d (.sl (aC m.Told.World.aJ)):=rfl
@[simp] theorem als(c0 c1:V)(s:al)(F:Int)(m:ah):(bf c0 c1 s F m)[12]?=some (.d (.sl (aC m.Told.World.bc))):=rfl
@[simp] theorem akk(c0 c1:V)(s:al)(F:Int)(m:ah)(h:12<(bf c0 c1 s F m).length):(bf c0 c1 s F m)[12]= .d (.sl (aC m.Told.World.bc)):=rfl
@[simp] theorem alu(c0 c1:V)(s:al)(F:Int)(m:ah):(bf c0 c1 s F m)[13]?=some (.d (.v (.int .u64 m.Told.World.cO))):=rfl
@[simp] theorem akl(c0 c1:V)(s:al)(F:Int)(m:ah)(h:13<(bf c0 c1 s F m).length):(bf c0 c1 s F m)[13]= .d (.v (.int .u64 m.Told.World.cO)):=rfl
@[simp] theorem alv(c0 c1:V)(s:al)(F:Int)(m:ah):(bf c0 c1 s F m)[14]?=some (iD m.Told.World.Score):=rfl
@[simp] theorem akm(c0 c1:V)(s:al)(F:Int)(m:ah)(h:14<(bf c0 c1 s F m).length):(bf c0 c1 s F m)[14]=iD m.Told.World.Score:=rfl
@[simp] theorem alw(c0 c1:V)(s:al)(F:Int)(m:ah):(bf c0 c1 s F m)[15]?=some (iD m.Told.World.jO):=rfl
@[simp] theorem akn(c0 c1:V)(s:al)(F:Int)(m:ah)(h:15<(bf c0 c1 s F m).length):(bf c0 c1 s F m)[15]=iD m.Told.World.jO:=rfl
@[simp] theorem alx(c0 c1:V)(s:al)(F:Int)(m:ah):(bf c0 c1 s F m)[16]?=some (iD m.Told.World.iB):=rfl
@[simp] theorem ako(c0 c1:V)(s:al)(F:Int)(m:ah)(h:16<(bf c0 c1 s F m).length):(bf c0 c1 s F m)[16]=iD m.Told.World.iB:=rfl
@[simp] theorem aly(c0 c1:V)(s:al)(F:Int)(m:ah):(bf c0 c1 s F m)[17]?=some (iD m.Told.World.It):=rfl
@[simp] theorem akp(c0 c1:V)(s:al)(F:Int)(m:ah)(h:17<(bf c0 c1 s F m).length):(bf c0 c1 s F m)[17]=iD m.Told.World.It:=rfl
@[simp] theorem alz(c0 c1:V)(s:al)(F:Int)(m:ah):(bf c0 c1 s F m)[18]?=some (iD m.Told.World.Go):=rfl
@[simp] theorem akq(c0 c1:V)(s:al)(F:Int)(m:ah)(h:18<(bf c0 c1 s F m).length):(bf c0 c1 s F m)[18]=iD m.Told.World.Go:=rfl
@[simp] theorem alA(c0 c1:V)(s:al)(F:Int)(m:ah):(bf c0 c1 s F m)[19]?=some (.d (.v (.string m.Told.Out))):=rfl
@[simp] theorem akr(c0 c1:V)(s:al)(F:Int)(m:ah)(h:19<(bf c0 c1 s F m).length):(bf c0 c1 s F m)[19]= .d (.v (.string m.Told.Out)):=rfl
@[simp] theorem alB(c0 c1:V)(s:al)(F:Int)(m:ah):(bf c0 c1 s F m)[20]?=some (iD m.Told.Value):=rfl
@[simp] theorem aks(c0 c1:V)(s:al)(F:Int)(m:ah)(h:20<(bf c0 c1 s F m).length):(bf c0 c1 s F m)[20]=iD m.Told.Value:=rfl
@[simp] theorem alC(c0 c1:V)(s:al)(F:Int)(m:ah):(bf c0 c1 s F m)[21]?=some (oD m.Told.pb):=rfl
@[simp] theorem akt(c0 c1:V)(s:al)(F:Int)(m:ah)(h:21<(bf c0 c1 s F m).length):(bf c0 c1 s F m)[21]=oD m.Told.pb:=rfl
@[simp] theorem alD(c0 c1:V)(s:al)(F:Int)(m:ah):(bf c0 c1 s F m)[22]?=some (iD m.Told.Fuel):=rfl
@[simp] theorem aku(c0 c1:V)(s:al)(F:Int)(m:ah)(h:22<(bf c0 c1 s F m).length):(bf c0 c1 s F m)[22]=iD m.Told.Fuel:=rfl
@[simp] theorem alE(c0 c1:V)(s:al)(F:Int)(m:ah):(bf c0 c1 s F m)[23]?=some (oD m.gB):=rfl
@[simp] theorem akv(c0 c1:V)(s:al)(F:Int)(m:ah)(h:23<(bf c0 c1 s F m).length):(bf c0 c1 s F m)[23]=oD m.gB:=rfl
@[simp] theorem alF(c0 c1:V)(s:al)(F:Int)(m:ah):(bf c0 c1 s F m)[32]?=some (.d (.sl (s.Tables.az.map bg.enc))):=rfl
@[simp] theorem akw(c0 c1:V)(s:al)(F:Int)(m:ah)(h:32<(bf c0 c1 s F m).length):(bf c0 c1 s F m)[32]= .d (.sl (s.Tables.az.map bg.enc)):=rfl
@[simp] theorem alG(c0 c1:V)(s:al)(F:Int)(m:ah):(bf c0 c1 s F m)[35]?=some (.d (.sl (aC s.Tables.cY))):=rfl
@[simp] theorem akx(c0 c1:V)(s:al)(F:Int)(m:ah)(h:35<(bf c0 c1 s F m).length):(bf c0 c1 s F m)[35]= .d (.sl (aC s.Tables.cY)):=rfl
@[simp] theorem alH(c0 c1:V)(s:al)(F:Int)(m:ah):(bf c0 c1 s F m)[37]?=some (.d (.sl (aC s.Tables.Params))):=rfl
@[simp] theorem aky(c0 c1:V)(s:al)(F:Int)(m:ah)(h:37<(bf c0 c1 s F m).length):(bf c0 c1 s F m)[37]= .d (.sl (aC s.Tables.Params)):=rfl
@[simp] theorem alI(c0 c1:V)(s:al)(F:Int)(m:ah):(bf c0 c1 s F m)[38]?=some (.d (.sl (aC s.Tables.aM))):=rfl
@[simp] theorem akz(c0 c1:V)(s:al)(F:Int)(m:ah)(h:38<(bf c0 c1 s F m).length):(bf c0 c1 s F m)[38]= .d (.sl (aC s.Tables.aM)):=rfl
@[simp] theorem alJ(c0 c1:V)(s:al)(F:Int)(m:ah):(bf c0 c1 s F m)[41]?=some (iD F):=rfl
@[simp] theorem akA(c0 c1:V)(s:al)(F:Int)(m:ah)(h:41<(bf c0 c1 s F m).length):(bf c0 c1 s F m)[41]=iD F:=rfl
@[simp] theorem ah2(c0 c1:V)(s:al)(F:Int)(m:ah)(n:Int):List.take 14 (bf c0 c1 s F m)++V.d (.v (.int .i64 n))::List.drop 15 (bf c0 c1 s F m)=bf c0 c1 s F {m with Told:={m.Told with World:={m.Told.World with Score:=n}}}:=rfl
@[simp] theorem ah3(c0 c1:V)(s:al)(F:Int)(m:ah)(n:Int):(bf c0 c1 s F m).set 14 (iD n)=bf c0 c1 s F {m with Told:={m.Told with World:={m.Told.World with Score:=n}}}:=rfl
@[simp] theorem ah4(c0 c1:V)(s:al)(F:Int)(m:ah)(n:Int):List.take 16 (bf c0 c1 s F m)++V.d (.v (.int .i64 n))::List.drop 17 (bf c0 c1 s F m)=bf c0 c1 s F {m with Told:={m.Told with World:={m.Told.World with iB:=n}}}:=rfl
@[simp] theorem ah5(c0 c1:V)(s:al)(F:Int)(m:ah)(n:Int):(bf c0 c1 s F m).set 16 (iD n)=bf c0 c1 s F {m with Told:={m.Told with World:={m.Told.World with iB:=n}}}:=rfl
@[simp] theorem ah6(c0 c1:V)(s:al)(F:Int)(m:ah)(n:Int):List.take 18 (bf c0 c1 s F m)++V.d (.v (.int .i64 n))::List.drop 19 (bf c0 c1 s F m)=bf c0 c1 s F {m with Told:={m.Told with World:={m.Told.World with Go:=n}}}:=rfl
@[simp] theorem ah7(c0 c1:V)(s:al)(F:Int)(m:ah)(n:Int):(bf c0 c1 s F m).set 18 (iD n)=bf c0 c1 s F {m with Told:={m.Told with World:={m.Told.World with Go:=n}}}:=rfl
@[simp] theorem ah8(c0 c1:V)(s:al)(F:Int)(m:ah)(n:ByteArray):List.take 19 (bf c0 c1 s F m)++V.d (.v (.string n))::List.drop 20 (bf c0 c1 s F m)=bf c0 c1 s F {m with Told:={m.Told with Out:=n}}:=rfl
@[simp] theorem ah9(c0 c1:V)(s:al)(F:Int)(m:ah)(n:ByteArray):(bf c0 c1 s F m).set 19 (.d (.v (.string n)))=bf c0 c1 s F {m with Told:={m.Told with Out:=n}}:=rfl
@[simp] theorem aia(c0 c1:V)(s:al)(F:Int)(m:ah)(n:Int):List.take 20 (bf c0 c1 s F m)++V.d (.v (.int .i64 n))::List.drop 21 (bf c0 c1 s F m)=bf c0 c1 s F {m with Told:={m.Told with Value:=n}}:=rfl
@[simp] theorem aib(c0 c1:V)(s:al)(F:Int)(m:ah)(n:Int):(bf c0 c1 s F m).set 20 (iD n)=bf c0 c1 s F {m with Told:={m.Told with Value:=n}}:=rfl
@[simp] theorem aic(c0 c1:V)(s:al)(F:Int)(m:ah)(n:Bool):List.take 21 (bf c0 c1 s F m)++V.d (.v (.bool n))::List.drop 22 (bf c0 c1 s F m)=bf c0 c1 s F {m with Told:={m.Told with pb:=n}}:=rfl
@[simp] theorem aid(c0 c1:V)(s:al)(F:Int)(m:ah)(n:Bool):(bf c0 c1 s F m).set 21 (oD n)=bf c0 c1 s F {m with Told:={m.Told with pb:=n}}:=rfl
@[simp] theorem aie(c0 c1:V)(s:al)(F:Int)(m:ah)(n:Int):List.take 22 (bf c0 c1 s F m)++V.d (.v (.int .i64 n))::List.drop 23 (bf c0 c1 s F m)=bf c0 c1 s F {m with Told:={m.Told with Fuel:=n}}:=rfl
@[simp] theorem aif(c0 c1:V)(s:al)(F:Int)(m:ah)(n:Int):(bf c0 c1 s F m).set 22 (iD n)=bf c0 c1 s F {m with Told:={m.Told with Fuel:=n}}:=rfl
@[simp] theorem aih(c0 c1:V)(s:al)(F:Int)(m:ah)(n:Bool):List.take 23 (bf c0 c1 s F m)++V.d (.v (.bool n))::List.drop 24 (bf c0 c1 s F m)=bf c0 c1 s F {m with gB:=n}:=rfl
@[simp] theorem aii(c0 c1:V)(s:al)(F:Int)(m:ah)(n:Bool):(bf c0 c1 s F m).set 23 (oD n)=bf c0 c1 s F {m with gB:=n}:=rfl
@[simp] theorem amJ(c0 c1:V)(s:al)(F:Int)(m:ah):List.take 15 (List.drop 24 (bf c0 c1 s F m))=s.Tables.enc.map .d:=rfl
@[simp] theorem amK(c0 c1:V)(s:al)(F:Int)(m:ah):List.take 17 (List.drop 24 (bf c0 c1 s F m))=s.enc.map .d:=rfl
@[simp] theorem amL(c0 c1:V)(s:al)(F:Int)(m:ah):List.take 13 (List.drop 6 (bf c0 c1 s F m))=m.Told.World.enc.map .d:=rfl
@[simp] theorem amM(c0 c1:V)(s:al)(F:Int)(m:ah):List.take 3 (List.drop 2 (bf c0 c1 s F m))=m.Env.enc.map .d:=rfl
@[simp] theorem ajE(c0 c1:V)(s:al)(F:Int)(m:ah)(w:aj):List.take 6 (bf c0 c1 s F m)++(w.enc.map V.d++List.drop 19 (bf c0 c1 s F m))=bf c0 c1 s F {m with Told:={m.Told with World:=w}}:=rfl
@[simp] theorem ajF(x c0 c1:V)(s:al)(F:Int)(m:ah):x::List.drop 1 (bf c0 c1 s F m)=bf x c1 s F m:=rfl
@[simp] theorem aij(x c0 c1:V)(s:al)(F:Int)(m:ah):x::(bf c0 c1 s F m).tail=bf x c1 s F m:=rfl
@[simp] theorem ajG(x c0 c1:V)(s:al)(F:Int)(m:ah):List.take 1 (bf c0 c1 s F m)++x::List.drop 2 (bf c0 c1 s F m)=bf c0 x s F m:=rfl
theorem Hm(ks:List Nat):∀(a b:List V),V.dE ks (a++b)=(V.dE ks a&&V.dE ks b)
 | [],b=>by simp[V.dE]
 | x::a,b=>by simp[V.dE,Hm ks a b,aq2]
theorem ZJ(h g:Nat)(a b:List V):V.ql h g (a++b)=V.ql h g a++V.ql h g b:=by simp[qR]
theorem Eh(h:Nat)(y:V)(a b:List V):V.mg h y (a++b)=V.mg h y a++V.mg h y b:=by simp[o9]
@[simp] theorem alK(ks:List Nat)(c0 c1:V)(s:al)(F:Int)(m:ah):V.dE ks (bf c0 c1 s F m)=(c0.on ks&&c1.on ks):=by
 simp[bf,Hm,V.dE,V.on]
@[simp] theorem ajH(h:Nat)(c0 c1:V)(s:al)(F:Int)(m:ah):V.dU h (bf c0 c1 s F m)=bf (c0.kill h) (c1.kill h) s F m:=by
 rw[iz];simp only[bf,ao9,apL,<-iz,Ju];simp[V.dU,V.kill]
@[simp] theorem akB(h:Nat)(y c0 c1:V)(s:al)(F:Int)(m:ah):V.mg h y (bf c0 c1 s F m)=bf (V.fi h y c0) (V.fi h y c1) s F m:=by
 unfold bf;simp[V.mg,V.fi,Eh,vC]
@[simp] theorem akD(h g:Nat)(c0 c1:V)(s:al)(F:Int)(m:ah):V.ql h g (bf c0 c1 s F m)=bf (c0.eS h g) (c1.eS h g) s F m:=by
 unfold bf;simp[V.ql,V.eS,ZJ,Ow]
theorem aet(hx:List (Nat×Value))(l:List D):(l.map V.d).map (V.cj hx)=l.map V.d:=by
 rw[ap6];exact List.map_congr_left λ_ _=>rfl
@[simp] theorem ajI(hx:List (Nat×Value))(c0 c1:V)(s:al)(F:Int)(m:ah):(bf c0 c1 s F m).map (V.cj hx)=bf (c0.cj hx) (c1.cj hx) s F m:=by
 unfold bf;simp only[ao9,apL,aet,aqX];rfl
def bE(wb:Nat)(s:al)(F:Int)(m:ah):aI:=[(5003,.box (wb+1) 80 (Tu s F m)),(5004,.row 3 1 (dd (aC m.Stack))),(5005,.row 74 4 (dd (m.Frames.map aG.enc)))]
theorem lx(wb:Nat)(s:al)(F:Int)(m:ah)(n:Int)(hl:m.Stack.length<=1000000):aE prog 128 [.bp 5003 0,iD n] (bE wb s F m) (λr L=>r= .ret (.bA [])/\L=bE wb s F {m with Stack:=m.Stack++ [aq n]}):=by
 have hw:=(cA n).ok;unfold bE;refine rX [] [5003,5004,5005] func128 ?_;simp[-cB,f128];refine av.aU [arc,Q3,Q3,Q3,Q3,Q3,Q0,Q0,none,none,ard,ard,ard,none] [iD (aq n)] aT (by kernel_rfl) ?_;simp[-cB,hw];exact⟨by omega,rfl⟩
theorem fb(wb:Nat)(s:al)(F:Int)(m:ah)(S:List Int)(v:Int)(h:m.Stack=S++ [v])(hl:S.length<=1000000):aE prog 73 [.bp 5003 0] (bE wb s F m) (λr L=>r= .ret (iD v)/\L=bE wb s F {m with Stack:=S}):=by
 unfold bE;refine rX [2] [5003,5004,5005] func73 ?_;simp[-cB,f73];simp[h];refine av.bT [] aT (by kernel_rfl) (by rfl) ?_;simp[-cB,h];refine⟨iW,?_⟩;refine av.aU [Q3,Q0,Q0,Q0,Q0,Q0,Q0,Q0,Q0,Q0,Q0,Q0,Q0,none,arb,arb,arb,none] [] aT (by kernel_rfl) ?_;simp[-cB];exact⟨iW,by omega,rfl⟩
theorem xm(wb:Nat)(s:al)(F:Int)(m:ah)(Fr:List aG)(f:aG)(h:m.Frames=Fr++ [f])(hl:Fr.length<=1000000):rT prog 36 [.bp 5003 0] (bE wb s F m) (.ep 5005 4 Fr.length 0):=by
 unfold bE;refine rT.run func36 rfl (by simp[f36]) ?_;simp only[f36];refine RW.seq (RW.one [] rfl (by kernel_rfl) (by rfl) ?_);simp[uE];refine RW.seq (RW.draw [] aT (by kernel_rfl) (by rfl) ?_);simp[uE];have hlen:m.Frames.length=Fr.length+1:=by rw[h];simp
 refine⟨iW,⟨by omega,by omega⟩,RW.ret ?_⟩;simp[Ts,u3,A6,hlen]
theorem PS(wb:Nat)(s:al)(F:Int)(m:ah)(x:ByteArray)(h:m.Told.Out.size+x.size<=140737488355328):aE prog 77 [.bp 5003 0,.d (.v (.string x))] (bE wb s F m) (λr L=>r= .ret (.bA [])/\L=bE wb s F {m with Told:={m.Told with Out:=m.Told.Out++x}}):=by
 unfold bE;refine rX [] [5003,5004,5005] func77 ?_;simp[-cB,f77];omega
theorem aeu(wb:Nat)(s:al)(F:Int)(m:ah)(k:Int):aE prog 76 [.bp 5003 0,iD k] (bE wb s F m) (λr L=>r= .ret (.bA [])/\L=bE wb s F {m with Told:={m.Told with World:=(if k=29 then {m.Told.World with iB:=1}else if k=30 then {m.Told.World with iB:=2}else m.Told.World),pb:=true},gB:=true}):=by
 unfold bE;by_cases h1:k=29
 ·refine rX [] [5003,5004,5005] func76 ?_;simp[-cB,f76];simp[h1]
 ·by_cases h2:k=30
  ·refine rX [] [5003,5004,5005] func76 ?_;simp[-cB,f76];simp[h2]
  ·refine rX [] [5003,5004,5005] func76 ?_;simp[-cB,f76];simp[h1,h2]
theorem Fk{l Fr:List aG}{f:aG}(h:l=Fr++ [f])(x:List V):(dd (List.map aG.enc l)).set Fr.length x=dd (List.map aG.enc Fr)++ [x]:=by
 subst h;simp[dd,List.set_append]
theorem ZK(ks:List Nat)(l:List (List D)):∀x∈dd l,V.dE ks x=true:=by
 intro x hx;obtain⟨y,_,rfl⟩:=aoQ.1 hx;exact EN ks y
theorem afY(a b:List (List D)):dd (a++b)=dd a++dd b:=by simp[dd]
theorem s6{l Fr:List aG}{f:aG}(h:l=Fr++ [f]):l[Fr.length]?=some f:=by subst h;simp
abbrev jV(wb:Nat)(s:al)(F:Int)(m:ah)(i:ai)(m':ah):Prop:=aE prog 38 [.bp 5003 0,.agg (i.enc.map .d)] (bE wb s F m) (λr L=>r= .ret (.bA [])/\L=bE wb s F m')
theorem XD(wb:Nat)(s:al)(F:Int)(m:ah)(Fr:List aG)(f:aG)(i:ai)(aD:i.Op=24)(h:m.Frames=Fr++ [f])(hl:Fr.length≤1000000)(hA:aN .i64 (f.At+i.Arg)):
  jV wb s F m i {m with Frames:=Fr++ [{f with At:=f.At+i.Arg}]}:=by
 have ht:=xm wb s F m Fr f h hl;have hg:=s6 h;have hlen:Fr.length<m.Frames.length:=by rw[h];simp
 unfold jV bE at *;refine rX [] [5003,5004,5005] func38 ?_;simp[-cB,f38];intro bs;simp[aD];refine av.aU [Q0,Q0,Q0,Q0,Q0,Q0,Q0,Q0,Q0,Q0,none] [.ep 5005 4 Fr.length 0] aT (by kernel_rfl) ?_;simp[-cB];refine⟨kJ.read [5003,5004,5005] ht (by simp) (by kernel_rfl) (by simp) (by simp),?_⟩;have bm:m.Frames[Fr.length]'hlen=f:=by rw[akC hlen]at hg;exact aoK hg
 simp[hlen,bm,hA,Fk h,aG.enc];exact⟨λx hx=>hx.elim (ZK _ _ x) (λe=>by rw[e];rfl),rfl,by simp[dd]⟩
theorem iQ{hx:List (Nat×Value)}{h:Nat}(e:hx.map Prod.fst=[h]):∃x,hx=[(h,x)]:=by
 match hx,e with
 | [(k,x)],e=>simp at e;subst e;exact⟨x,rfl⟩
theorem Cn{hx:List (Nat×Value)}{h g:Nat}(e:hx.map Prod.fst=[h,g]):∃x y,hx=[(h,x),(g,y)]:=by
 match hx,e with
 | [(k,x),(j,y)],e=>simp at e;obtain⟨rfl,rfl⟩:=e;exact⟨x,y,rfl⟩
def pU(wb:Nat)(s:al)(F:Int)(m:ah):aI:=[(5003,.box (wb+1) 80 (Tu s F m)),(5004,.row 3 1 (dd (aC m.Stack)))]
theorem fR(wb:Nat)(s:al)(F:Int)(m:ah)(S:List Int)(v:Int)(h:m.Stack=S++ [v])(hl:S.length<=1000000):∀hx:List (Nat×Value),hx.map Prod.fst=[5005]->aE prog 73 [.bp 5003 0] (db hx (pU wb s F m)) (λr L=>r= .ret (iD v)/\L=db hx (pU wb s F {m with Stack:=S})):=by
 intro hx e;obtain⟨x,rfl⟩:=iQ e;unfold pU;simp[db,aV.cj,V.cj];refine rX [2] [5003,5004] func73 ?_;simp[-cB,f73];simp[h];refine av.bT [] aT (by kernel_rfl) (by rfl) ?_;simp[-cB,h];refine⟨iW,?_⟩;refine av.aU [Q3,Q0,Q0,Q0,Q0,Q0,Q0,Q0,Q0,Q0,Q0,Q0,Q0,none,arb,arb,arb,none] [] aT (by kernel_rfl) ?_;simp[-cB];exact⟨iW,by omega,rfl⟩
def ZL(wb:Nat)(s:al)(F:Int)(m:ah):aI:=[(5003,.box (wb+1) 80 (Tu s F m))]
theorem Tv(wb:Nat)(s:al)(F:Int)(m:ah)(x:ByteArray)(h:m.Told.Out.size+x.size<=140737488355328):∀hx:List (Nat×Value),hx.map Prod.fst=[5004,5005]->aE prog 77 [.bp 5003 0,.d (.v (.string x))] (db hx (ZL wb s F m)) (λr L=>r= .ret (.bA [])/\L=db hx (ZL wb s F {m with Told:={m.Told with Out:=m.Told.Out++x}})):=by
 intro hx e;obtain⟨y,z,rfl⟩:=Cn e;unfold ZL;simp[db,aV.cj,V.cj];refine rX [] [5003] func77 ?_;simp[-cB,f77];omega
theorem XE(wb:Nat)(s:al)(F:Int)(m:ah)(Fr:List aG)(f:aG)(i:ai)(S:List Int)(v:Int)(aD:i.Op=25)(h:m.Frames=Fr++ [f])(hl:Fr.length≤1000000)(hS:m.Stack=S++ [v])(pF:S.length≤1000000)(hA:aN .i64 (f.At+i.Arg)):
  jV wb s F m i {m with Stack:=S,Frames:=Fr++ [{f with At:=if v=0 then f.At+i.Arg else f.At}]}:=by
 have hp:=fb wb s F m S v hS pF;have ht:=xm wb s F {m with Stack:=S} Fr f h hl;have hg:=s6 h;have hlen:Fr.length<m.Frames.length:=by rw[h];simp
 have bm:m.Frames[Fr.length]'hlen=f:=by rw[akC hlen]at hg;exact aoK hg
 unfold jV bE at *;by_cases hv:v=0
 ·refine rX [] [5003,5004,5005] func38 ?_;simp[-cB,f38];intro bs;simp[aD];refine eD [5003,5004,5005] hp ?_;simp[hv];refine av.aU [Q0,Q0,Q0,Q0,Q0,Q0,Q0,Q0,Q0,Q0,none] [.ep 5005 4 Fr.length 0] aT (by kernel_rfl) ?_;simp[-cB];refine⟨kJ.read [5003,5004,5005] ht (by simp) (by kernel_rfl) (by simp) (by simp),?_⟩;simp[hlen,bm,hA,Fk h,aG.enc];exact⟨λx hx=>hx.elim (ZK _ _ x) (λe=>by rw[e];rfl),rfl,by simp[dd]⟩
 ·have hm:m.Frames=Fr++ [⟨f.kv,f.At,f.bO,f.aM⟩]:=h;refine rX [] [5003,5004,5005] func38 ?_;simp[-cB,f38];intro bs;simp[aD];refine eD [5003,5004,5005] hp ?_;simp[hv];rw[hm];exact⟨rfl,by simp⟩
def ZM(wb:Nat)(s:al)(F:Int)(m:ah):aI:=[(5003,.box (wb+1) 80 (bf (.rv 5005) (.d (.sl (aC m.Stack))) s F m)),(5005,.row 74 4 (dd (m.Frames.map aG.enc)))]
set_option maxRecDepth 20000 in
set_option maxHeartbeats 2000000 in
theorem abY(wb:Nat)(s:al)(F:Int)(m:ah)(r:Nat)(e:Int)(N:Nat)(S a:List Int)(he:s.Entry[r]?=some e)(hn:s.Tables.aM[r]?=some (N:Int))(hN:N≤1000)(hp:s.Tables.Params[r]?=some (a.length:Int))(ha:a.length≤N)(hS:m.Stack=S++a)(pF:S.length≤1000000)(fM:m.Frames.length < 32):
  aE prog 74 [.bp 5003 0,iD r] (bE wb s F m) (λx L=>x= .ret (.bA [])/\L=ZM wb s F {m with Stack:=S,Frames:=m.Frames++ [⟨r,e,S.length,a.map aq++List.replicate (N-a.length) 0⟩]}):=by
 have hf:=wB s r e N he hn (by omega) a ha (S.length:Int);obtain⟨ns,uk⟩:=aoL.1 hp;unfold bE ZM;refine aE.xQ func74 rfl (by simp[f74]) (av.ac3 [] [5003,5005] (by simp) (by decide) ?_);simp only[f74];refine av.weaken (Wk.freeze 5004 (ty:=3) (k:=1) (ys:=aC m.Stack) (by rfl)) ?_;refine av.ur ?_;have PT:¬(32<=(m.Frames.length:Int)):=by omega
 simp[-cB,V.fi,hS];simp[PT];refine av.bT [] aT (by kernel_rfl) (by rfl) ?_;have aaS:¬((S.length:Int)<0):=by omega
 simp[-cB,ns,uk];refine⟨iW,?_⟩;simp[aaS];refine av.aU [arc,Q3,Q3,Q3,Q3,Q3,Q0,Q0,Q0,Q0,Q0,Q0,Q0,Q0,Q0,Q0,Q0,Q0,Q0,Q0,none,none,ard,ard,ard,none] [.agg ((aG.mk r e S.length (a.map aq++List.replicate (N-a.length) 0)).enc.map .d)] aT (by kernel_rfl) ?_;simp[-cB];have hda:List.drop S.length (List.take (S.length+a.length) (S++a))=a:=by
  rw[<-aoS,apl,List.drop_left]
 rw[hda];exact⟨hf.ok _,by omega,rfl⟩
set_option maxRecDepth 20000 in
set_option maxHeartbeats 2000000 in
theorem abZ(wb:Nat)(s:al)(F:Int)(m:ah)(Fr:List aG)(f:aG)(v:Int)(h:m.Frames=Fr++ [f])(hl:Fr.length≤1000000)(hB:0≤f.bO∧f.bO≤m.Stack.length)(pF:m.Stack.length≤1000000):
  aE prog 75 [.bp 5003 0,iD v] (bE wb s F m) (λx L=>x= .ret (.bA [])/\L=bE wb s F (if Fr=[]then {m with Stack:=m.Stack.take f.bO.toNat,Frames:=[],gB:=true,Told:={m.Told with Value:=v}}else {m with Stack:=m.Stack.take f.bO.toNat++ [aq v],Frames:=Fr})):=by
 have ht:=xm wb s F m Fr f h hl;have hlen:m.Frames.length=Fr.length+1:=by rw[h];simp
 have aw:Fr.length<m.Frames.length:=by omega
 have hg:=s6 h;have bm:m.Frames[Fr.length]'aw=f:=by rw[akC aw]at hg;exact aoK hg
 unfold bE at *;refine rX [] [5003,5004,5005] func75 ?_;simp[-cB,f75];refine au.Wb [5003,5004,5005] rfl ht (by simp) rfl (by simp) rfl (by kernel_rfl) (by simp) (by simp) (by simp) ?_;simp[-cB,aw,bm];refine av.aU [Q3,Q0,Q0,Q0,Q0,Q0,Q0,Q0,Q0,Q0,Q0,Q0,Q0,none,arb,arb,arb,none] [] aT (by kernel_rfl) ?_;simp[-cB,hlen];refine⟨iW,by omega,?_⟩;refine av.aU [Q3,Q0,Q0,Q0,Q0,Q0,Q0,Q0,Q0,Q0,Q0,Q0,Q0,Q0,none,arb,arb,arb,none] [] aT (by kernel_rfl) ?_;have afZ:(if(m.Stack.length:Int)<f.bO then(m.Stack.length:Int)else f.bO)=f.bO:=if_neg (by omega);have hmn:min Fr.length m.Frames.length=Fr.length:=aqV (by omega);have bR:m.Frames≠ []:=by rw[h];simp
 have xL:List.take Fr.length (m.Frames.map aG.enc)=Fr.map aG.enc:=by rw[h];simp
 by_cases p9:Fr=[]
 ·simp[-cB,afZ,hmn,bR,xL,p9];exact⟨hB,rfl⟩
 ·have hp:=lx wb s F {m with Stack:=m.Stack.take f.bO.toNat,Frames:=Fr} v (by simp;omega);unfold bE at hp;simp[-cB,afZ,hmn,bR,xL,p9];refine⟨hB,?_⟩;refine au.weaken (Wk.pick [62,63] [5003,5004,5005] (by rfl) (by decide) (by simp)) ?_;simp[-cB];refine eD [5003,5004,5005] hp ?_;simp
abbrev MU(wb:Nat)(s:al)(F:Int)(m:ah)(i:ai)(m':ah):Prop:=aE prog 38 [.bp 5003 0,.agg (i.enc.map .d)] (bE wb s F m) (λr L=>r= .ret (.bA [])/\L=ZM wb s F m')
abbrev NG(wb:Nat)(s:al)(F:Int)(m:ah)(i:ai)(e:Int):Prop:=∃m',aE prog 38 [.bp 5003 0,.agg (i.enc.map .d)] (bE wb s F m) (λr L=>r= .ix (oV e)/\L=bE wb s F m')
theorem XG(wb:Nat)(s:al)(F:Int)(m:ah)(i:ai)(r:Nat)(e:Int)(N:Nat)(S a:List Int)(aD:i.Op=26)(hA:0≤i.Arg)(hf:s.Tables.cY[i.Arg.toNat]?=some (r:Int))(he:s.Entry[r]?=some e)(hn:s.Tables.aM[r]?=some (N:Int))(hN:N≤1000)(hp:s.Tables.Params[r]?=some (a.length:Int))(ha:a.length≤N)(hS:m.Stack=S++a)(pF:S.length≤1000000)(fM:m.Frames.length < 32):
  MU wb s F m i {m with Stack:=S,Frames:=m.Frames++ [⟨r,e,S.length,a.map aq++List.replicate (N-a.length) 0⟩]}:=by
 have hc:=abY wb s F m r e N S a he hn hN hp ha hS pF fM;obtain⟨hf1,hf2⟩:=aoL.1 hf;unfold MU bE ZM at *;refine rX [] [5003,5005] func38 ?_;simp[-cB,f38];intro bs;simp[aD];refine av.Fj 11 [] aT (by rfl) (by kernel_rfl) ?_;simp[-cB,hf1,hf2,vD];refine⟨hA,?_⟩;refine eD [5003,5004,5005] hc ?_;simp
theorem FG(wb:Nat)(s:al)(F:Int)(m:ah)(i:ai)(Fr:List aG)(f:aG)(S:List Int)(v:Int)(aD:i.Op=27)(h:m.Frames=Fr++ [f])(hl:Fr.length≤1000000)(hS:m.Stack=S++ [v])(hB:0≤f.bO∧f.bO≤S.length)(pF:S.length≤1000000):
  jV wb s F m i (if Fr=[]then {m with Stack:=S.take f.bO.toNat,Frames:=[],gB:=true,Told:={m.Told with Value:=v}}else {m with Stack:=S.take f.bO.toNat++ [aq v],Frames:=Fr}):=by
 have hp:=fb wb s F m S v hS pF;have hb:=abZ wb s F {m with Stack:=S} Fr f v h hl hB pF;unfold jV bE at *;refine rX [] [5003,5004,5005] func38 ?_;simp[-cB,f38];intro bs;simp[aD];refine eD [5003,5004,5005] hp ?_;simp;refine eD [5003,5004,5005] hb ?_;simp
theorem Xy(wb:Nat)(s:al)(F:Int)(m:ah)(i:ai)(aD:i.Op=28∨i.Op=29∨i.Op=30):
  jV wb s F m i {m with Told:={m.Told with World:=(if i.Op=29 then {m.Told.World with iB:=1}else if i.Op=30 then {m.Told.World with iB:=2}else m.Told.World),pb:=true},gB:=true}:=by
 have hs:=aeu wb s F m i.Op;unfold jV bE at *;rcases aD with h|h|h
 ·rw[h]at hs⊢;refine rX [] [5003,5004,5005] func38 ?_;simp[-cB,f38];intro bs;simp[h];refine eD [5003,5004,5005] hs ?_;simp
 ·rw[h]at hs⊢;refine rX [] [5003,5004,5005] func38 ?_;simp[-cB,f38];intro bs;simp[h];refine eD [5003,5004,5005] hs ?_;simp
 ·rw[h]at hs⊢;refine rX [] [5003,5004,5005] func38 ?_;simp[-cB,f38];intro bs;simp[h];refine eD [5003,5004,5005] hs ?_;simp
theorem KM(wb:Nat)(s:al)(F:Int)(m:ah)(i:ai)(aD:i.Op=37)(hF:0≤m.Told.Fuel∧m.Told.Fuel≤1099511627776)(hc:¬F < m.Told.Fuel+1):
  jV wb s F m i {m with Told:={m.Told with Fuel:=m.Told.Fuel+1}}:=by
 have bU:aN .i64 (m.Told.Fuel+1):=iW;have pB:¬(if F<0 then 0 else F)<=m.Told.Fuel:=by split<;>omega
 unfold jV bE at *;refine rX [] [5003,5004,5005] func38 ?_;simp[-cB,f38];intro bs;simp[aD];refine av.bT [] aT (by kernel_rfl) (by rfl) ?_;simp[bU];exact λh=>absurd h pB
theorem KL(wb:Nat)(s:al)(F:Int)(m:ah)(i:ai)(aD:i.Op=37)(hF:0≤m.Told.Fuel∧m.Told.Fuel≤1099511627776)(hc:F < m.Told.Fuel+1):
  NG wb s F m i 19:=by
 refine⟨m,?_⟩;unfold bE at *;refine rX [] [5003,5004,5005] func38 ?_;simp[-cB,f38];intro bs;simp[aD];refine av.bT [] aT (by kernel_rfl) (by rfl) ?_;have pB:(if F<0 then 0 else F)<=m.Told.Fuel:=by split<;>omega
 simp[pB];refine au.panic rfl rfl rfl ?_;simp[oV]
theorem ZN(h:Nat)(l:List aG)(hl:l.length *48<=140737488355328):aE prog 33 [.d (.sl (l.map aG.enc))] [] (λr L=>r= .ret (.rv h)/\L=[(h,.row 74 4 (dd (l.map aG.enc)))]):=by
 refine aE.abu h ?_;refine aE.run func33 rfl (by simp[f33]) ?_;simp[f33];refine au.acZ rfl (by simp;exact⟨rfl,rfl⟩) rfl rfl rfl (by simp) ?_;intro b hb;refine au.nil ?_;cases b with
 | true=>
   have hl:l=[]:=by have:=hb rfl;simpa using this
   subst hl;simp[-cB]
 | false=>
   simp[-cB];omega
theorem GF(s:al)(m:ah)(F:Int)(hd:m.gB=true):Pure prog 13 [.agg (s.enc.map .d),.agg (m.enc.map .d),iD F] (.agg (m.enc.map .d)):=by
 refine⟨by kernel_rfl,by simp,by simp,?_⟩;refine aE.YJ func13 rfl (by simp[f13]) ?_;simp only[f13];refine DF.Vi rfl ?_;refine av.ur ?_;simp[-cB];intro bs;refine DF.Vi rfl ?_;refine av.ur ?_;simp[-cB,hd]
theorem jF.MV{P:Program}{f:FuncId}{args:List V}{L:aI}{px:Option V}{R R':Option V->aI->Prop}(h:jF P f args L px R)(hr:∀r L,R r L->R' r L):jF P f args L px R':=
 λfo m w xs u hi hx hu=>(h fo m w xs u hi hx hu).mono λ_ _ _ ⟨m',r,L',h1,h2⟩=>⟨m',r,L',hr _ _ h1,h2⟩
theorem jF.ahC{P:Program}{f:FuncId}{args:List V}{L:aI}{px:Option V}{R R':Option V->aI->Prop}(h:jF P f args L px R)(hr:∀r L,R r L->∃L2,L.Perm L2/\R' r L2):jF P f args L px R':=
 λfo m w xs u hi hx hu=>(h fo m w xs u hi hx hu).mono λ_ _ _ ⟨m',r,L',h1,h2,h3,h4⟩=>by
  obtain⟨L2,hp,hR⟩:=hr _ _ h1;exact⟨m',r,L2,hR,h2,h3.perm hp,h4⟩
theorem ac9{α:Type}(A:List α)(x y z:α):(A++ [x,y,z]).Perm ([y,x]++(A++ [z])):=by
 have h1:(A++ [x,y,z]).Perm (([x,y]++A)++ [z]):=by
  have:A++ [x,y,z]=(A++ [x,y])++ [z]:=by simp
  rw[this];exact(List.perm_append_comm).append_right [z]
 have h2:(([x,y]++A)++ [z]).Perm (([y,x]++A)++ [z]):=((List.Perm.swap y x []).append_right A).append_right [z];have h3:=h1.trans h2;simpa using h3
theorem zG(m out:ah)(b4 b6 b3:Nat)(px:Option Int)(A:aI)(c3:List V)(h4:(A++ [(3,aV.box (b3+1) 41 c3)]).all (fun p=>aV.on (keys A++ [3,4,6]) p.2)=true)(h5:(∀x,¬(4,x)∈A)∧∀x,¬(6,x)∈A):jF prog 32 [.bp 4 0,.bp 6 0] (A++ [(6,.box (b6+1) 50 (out.enc.map .d)),(4,.box (b4+1) 50 (m.enc.map .d)),(3,.box (b3+1) 41 c3)]) (px.map oV)
  (λr L'=>r=none/\L'=A++ [(6,.box (b6+1) 50 ((match px with|none=>out|some e=>s4 m e).enc.map .d)),(4,.box (b4+1) 50 (m.enc.map .d)),(3,.box (b3+1) 41 c3)]):=by
 refine(jF.frame (PO m out b4 b6 px) (L2:=A++ [(3,.box (b3+1) 41 c3)]) ?_ ?_ (by cases px<;>rfl) ?_ ?_ ?_).ahC ?_
 ·exact ac9 _ _ _ _
 ·simp[keys]
 ·simp
 ·have h4':(∀(a:Nat) (b:aV),(a,b)∈A->aV.on (keys A++ [3,4,6]) b=true)/\V.dE (keys A++ [3,4,6]) c3=true:=by
   simpa using h4
  rintro⟨a,b⟩ hm;have hk:keys (A++ [(3,aV.box (b3+1) 41 c3)])++ [4,6]=keys A++ [3,4,6]:=by simp[keys]
  rcases ao1.1 hm with hm|hm
  ·have:=h4'.1 a b hm;simpa[keys]using this
  ·simp at hm;obtain⟨rfl,rfl⟩:=hm;simpa[keys]using h4'.2
 ·rintro r bq ⟨rfl,rfl⟩;exact⟨by simpa[keys]using h5,cM (by simp)⟩
 ·rintro r bq ⟨uH,⟨rfl,rfl⟩,rfl⟩;exact⟨_,(ac9 _ _ _ _).symm,rfl,rfl⟩
theorem dr:aE prog 37 [iD 0] [] (λr L=>r= .ret (.bA [])/\L=[]):=by
 refine aE.run func37 rfl (by simp[f37]) ?_;simp[-cB,f37]
theorem iK(e:Int)(he:e≠0):aE prog 37 [iD e] [] (λr L=>r= .ix (oV e)/\L=[]):=by
 refine aE.run func37 rfl (by simp[f37]) ?_;simp[-cB,f37];refine ax (λh=>?_) (λh=>?_)<;>simp at h
 ·simp[-cB,h];refine au.panic rfl rfl rfl ?_;simp[oV]
 ·exact absurd h he
theorem ada(s:al)(F:Int)(m:ah):List.take 24 (bf (.d (.sl (m.Frames.map aG.enc))) (.d (.sl (aC m.Stack))) s F m)=m.enc.map V.d:=rfl
def sN(s:al)(m:ah)(F:Int)(Fr:List aG)(f:aG)(i:ai)(k e:Int)(m':ah):Prop:=
 (e≠0/\m'=s4 m e)\/(e=0/\∀wb,jV wb s F {m with Frames:=Fr++ [{f with At:=k}]} i m')\/(e=0/\∀wb,MU wb s F {m with Frames:=Fr++ [{f with At:=k}]} i m')\/(e=0/\∃x,∀wb,NG wb s F {m with Frames:=Fr++ [{f with At:=k}]} i x/\m'=s4 m x)
set_option maxHeartbeats 4000000 in
theorem xK(s:al)(m m':ah)(F:Int)(Fr:List aG)(f:aG)(i:ai)(k e:Int)(hd:m.gB=false)(h:m.Frames=Fr++ [f])(hl:m.Frames.length≤1000000)(hS:m.Stack.length≤1000000)
  (pw:Pure prog 35 [.d (.sl (s.Code.map λy=> [.v (.int .u8 y)])),iD f.At] (.bA [.agg (i.enc.map .d),iD k,iD e])) (ho:sN s m F Fr f i k e m'):Pure prog 13 [.agg (s.enc.map .d),.agg (m.enc.map .d),iD F] (.agg (m'.enc.map .d)):=by
 refine⟨by kernel_rfl,by simp,by simp,?_⟩;have hcF:=ZN 5005 m.Frames (by omega);have hcS:=ia 5004 m.Stack (by omega);refine aE.YJ func13 rfl (by simp[f13]) ?_;simp only[f13];refine DF.Vi rfl ?_;refine av.ur ?_;simp[-cB];intro bs;refine DF.Vi rfl ?_;refine av.ur ?_;simp[-cB];simp[hd];refine DF.defer (hs:=[(4,bs 1),(6,bs 2)]) rfl rfl (by decide) rfl rfl rfl rfl rfl rfl ⟨rfl,by simp[dz],rfl,by simp[dz],trivial⟩ (by kernel_rfl) rfl ?_;refine av.gE ?_;simp[-cB];intro bL;refine av.weaken (s':=⟨[(3,.bp 3 0),(4,.bp 4 0),(6,.bp 6 0),(7,.bp 19 0)],[(19,.box (bL 0+1) 80 (bf (.d (.sl (m.Frames.map aG.enc))) (.d (.sl (aC m.Stack))) s F m)),(6,.box (bs 2+1) 50 (ah.zero.enc.map .d)),(4,.box (bs 1+1) 50 (m.enc.map .d)),(3,.box (bs 0+1) 41 (s.enc.map .d))]⟩) ((Wk.pick [3,4,6,7] [19,6,4,3] (by rfl) (by decide) (by rfl)).trans (Wk.deep 0 (by rfl))) ?_;refine av.gE ?_;refine av.ee aT (dM.m0 [arc,arf,Q0,Q0,none,Q3,Q3,none,ard,ard,ard,none,some (3,3),some (3,3),some (3,3),none] [] (by kernel_rfl) ?_);simp[-cB];refine gP.intro (λ_=>fU.call (s:=⟨_,_⟩) 5005 [] rfl hcF (by simp) rfl (by kernel_rfl) (by first|rfl|simp) (by simp) (cM (by simp)) (by simp) (by simp)) ?_;simp[-cB];refine gP.intro (λ_=>fU.call (s:=⟨_,_⟩) 5004 [] rfl hcS (by simp) rfl (by kernel_rfl) (by first|rfl|simp) (by simp) (cM (by simp)) (by simp) (by simp)) ?_;simp[-cB];refine av.weaken (Wk.eS 19 5003 (by simp[keys])) ?_;refine av.weaken (Wk.pick [3,4,6,7] [5003,5004,5005,6,4,3] (by rfl) (by decide) (by simp)) ?_;simp[-cB];refine av.gE ?_;have ht:=xm (bL 0) s F m Fr f h (by rw[h]at hl;simp at hl;omega);unfold bE at ht;have bm:m.Frames[Fr.length]?=some f:=s6 h;refine av.JM [Q3,Q3,Q3,Q3,Q3,Q3,Q3,Q3,Q3,Q3,arc,arc,none,none,ard,ard] [.ep 5005 4 Fr.length 0,.bA [.agg (i.enc.map .d),iD k,iD e]] aT (by kernel_rfl) ?_;have lH:Fr.length<m.Frames.length:=by rw[h];simp
 have sq:m.Frames[Fr.length]'lH=f:=by rw[akC lH]at bm;exact aoK bm
 simp[-cB,sq,lH];refine⟨kJ.read [5003,5004,5005] ht (by simp) (by kernel_rfl) (by simp) (by simp),pw.ok _,⟨pw.ok _,kJ.read [5003,5004,5005] ht (by simp) (by kernel_rfl) (by simp) (by simp)⟩,?_⟩;intro jX;rcases ho with⟨he,rfl⟩|ho
 ·refine av.gE ?_;simp[-cB];refine au.Tf [] rfl (iK e he) (by simp) rfl (by simp) (by kernel_rfl) (by first|rfl|simp) (by simp) (by simp) (by simp) ?_;simp;refine⟨by simp[dz],(zG m ah.zero (bs 1) (bs 2) (bs 0) (some e) [_,_,_,_] _ (by simp) (by simp)).MV ?_⟩;rintro r L' ⟨rfl,rfl⟩;simp[G5,dz,SS,ff,apH,V.on]
 have he:e=0:=by rcases ho with ho|ho|ho<;>exact ho.1
 subst he;refine av.gE ?_;simp[-cB];refine eD [] dr ?_;simp[-cB];refine av.gE ?_;simp[-cB];refine au.Wb [5003,5004,5005] rfl ht (by simp) rfl (by simp) rfl (by kernel_rfl) (by simp) (by simp) (by simp) ?_;simp[-cB,sq,lH];have e5:(dd (List.map aG.enc m.Frames)).set Fr.length (List.take 1 (List.map V.d f.enc)++V.d (D.v (Value.int IntKind.i64 k))::List.drop 2 (List.map V.d f.enc))=dd (List.map aG.enc (Fr++ [{f with At:=k}])):=by
  rw[Fk h,apL,afY];rfl
 rw[e5];refine av.weaken (Wk.pick [3,4,6,7,8] [8,5003,5004,5005,6,4,3] (by rfl) (by decide) (by simp)) ?_;simp[-cB];refine av.gE ?_;rcases ho with⟨_,hC⟩|⟨_,hC⟩|⟨_,x,hC⟩
 ·have hC:=hC (bL 0);unfold jV bE at hC;simp[-cB];rw[show bf (V.rv 5005) (V.rv 5004) s F m=Tu s F {m with Frames:=Fr++ [{f with At:=k}]}from rfl];refine eD [5003,5004,5005] hC ?_;simp[-cB];refine av.weaken (Wk.freeze 5004 (ty:=3) (k:=1) (ys:=aC m'.Stack) (by rfl)) ?_;simp[-cB,V.fi];refine av.weaken (Wk.freeze 5005 (ty:=74) (k:=4) (ys:=m'.Frames.map aG.enc) (by rfl)) ?_;refine av.ur ?_;simp[-cB,V.fi,ada];refine⟨by simp[dz],(zG m m' (bs 1) (bs 2) (bs 0) none [_,_] _ (by simp) (by simp)).MV ?_⟩;rintro r L' ⟨rfl,rfl⟩;simp[G5,dz,SS,ff,apH,V.on]
 ·have hC:=hC (bL 0);unfold MU ZM bE at hC;simp[-cB];rw[show bf (V.rv 5005) (V.rv 5004) s F m=Tu s F {m with Frames:=Fr++ [{f with At:=k}]}from rfl];refine eD [5003,5004,5005] hC ?_;simp[-cB];refine av.weaken (Wk.freeze 5005 (ty:=74) (k:=4) (ys:=m'.Frames.map aG.enc) (by rfl)) ?_;refine av.ur ?_;simp[-cB,V.fi,ada];refine⟨by simp[dz],(zG m m' (bs 1) (bs 2) (bs 0) none [_,_] _ (by simp) (by simp)).MV ?_⟩;rintro r L' ⟨rfl,rfl⟩;simp[G5,dz,SS,ff,apH,V.on]
 ·obtain⟨⟨m2,hC⟩,he⟩:=hC (bL 0);rw[he];unfold bE at hC;simp[-cB];rw[show bf (V.rv 5005) (V.rv 5004) s F m=Tu s F {m with Frames:=Fr++ [{f with At:=k}]}from rfl];refine au.Tf [5003,5004,5005] rfl (hC) (by simp) rfl (by simp) (by kernel_rfl) (by first|rfl|simp) (by simp) (by simp) (by simp) ?_;simp;refine⟨by simp[dz],(zG m ah.zero (bs 1) (bs 2) (bs 0) (some x) [_,_,_,_] _ (by simp) (by simp)).MV ?_⟩;rintro r L' ⟨rfl,rfl⟩;simp[G5,dz,SS,ff,apH,V.on]
set_option maxHeartbeats 4000000
set_option maxRecDepth 20000
abbrev jb(wb:Nat)(s:al)(F:Int)(m:ah)(i:ai)(m':ah):Prop:=aE prog 83 [.bp 5003 0,.agg (i.enc.map .d)] (bE wb s F m) (λr L=>r= .ret (.bA [])/\L=bE wb s F m')
theorem HT(wb:Nat)(s:al)(F:Int)(m:ah)(i:ai)(aD:i.Op=1)(hl:m.Stack.length<=1000000):jb wb s F m i {m with Stack:=m.Stack++ [aq i.Arg]}:=by
 have hp:=lx wb s F m i.Arg hl;unfold jb bE at *;refine rX [] [5003,5004,5005] func83 ?_;simp[-cB,f83];intro bs bL;simp[-cB,aD];refine eD [] dr ?_;simp[-cB];refine eD [5003,5004,5005] hp ?_;simp
@[simp] theorem aik(ks:List Nat)(e:Int):V.on ks (oV e)=true:=rfl
abbrev AY(wb:Nat)(s:al)(F:Int)(m:ah)(i:ai)(e:Int):Prop:=∃m',aE prog 83 [.bp 5003 0,.agg (i.enc.map .d)] (bE wb s F m) (λr L=>r= .ix (oV e)/\L=bE wb s F m')
def eI(o:Int):Prop:=o≠24/\o≠25/\o≠26/\o≠27/\o≠28/\o≠29/\o≠30/\o≠37/\o≠21/\o≠22/\o≠23/\o≠35/\o≠36
theorem Sl(wb:Nat)(s:al)(F:Int)(m m':ah)(i:ai)(aD:eI i.Op)(h:jb wb s F m i m'):jV wb s F m i m':=by
 obtain⟨h1,h2,h3,h4,h5,h6,h7,h8,h9,ew,jN,oM,gK⟩:=aD;unfold jb bE at h;unfold jV bE;refine rX [] [5003,5004,5005] func38 ?_;simp[-cB,f38];intro bs;simp[-cB,h1,h2,h3,h4,h5,h6,h7,h8,h9,ew,jN,oM,gK];refine eD [5003,5004,5005] h ?_;simp
theorem adv(wb:Nat)(s:al)(F:Int)(m:ah)(i:ai)(e:Int)(aD:eI i.Op)(h:AY wb s F m i e):NG wb s F m i e:=by
 obtain⟨h1,h2,h3,h4,h5,h6,h7,h8,h9,ew,jN,oM,gK⟩:=aD;obtain⟨m',h⟩:=h;refine⟨m',?_⟩;unfold bE at h⊢;refine rX [] [5003,5004,5005] func38 ?_;simp[-cB,f38];intro bs;simp[-cB,h1,h2,h3,h4,h5,h6,h7,h8,h9,ew,jN,oM,gK];refine au.kN [5003,5004,5005] rfl (h) (by simp) rfl (by simp) (by kernel_rfl) (by first|rfl|simp) (by simp) (by simp) (by simp) ?_;simp
theorem ZO(wb:Nat)(s:al)(F:Int)(m:ah)(i:ai)(aD:i.Op=1)(hl:m.Stack.length<=1000000):jV wb s F m i {m with Stack:=m.Stack++ [aq i.Arg]}:=
 Sl wb s F m _ i (by simp[eI,aD]) (HT wb s F m i aD hl)
set_option maxHeartbeats 200000
set_option maxRecDepth 512
open Go.ChangeShapes Go.WideShapes Go.ChangeAt Go.RowKit
section
variable {P : Program} {w : World} {base : Nat} {spare : Nat -> Bool} {held : Bool}
theorem Cv{k:IntKind}{t e n fuel:Nat}{H:Type}{enc:TypeId×Value→H}{cs:List Value}{xs:List Int}{ps:List MemPlace}(ht:P.underlying t=some (.array n e))(he:P.underlying e=some (.int k))(ce:P.cellsOf e=1)
  (h:DataW.trod enc P w base spare held fuel t cs=some (.agg (xs.map λx=> .lit (.int k x)),ps)):∀(i:Nat) (x:Int),xs[i]?=some x->cs[i]?=some (.int k x):=by
 obtain⟨ys,m,rfl,hx,hl,hn,sL⟩:=DataW.trod_array ht h;intro i x hi;simp only[aoI,DataW.agg.injEq]at hx;have hlen:ys.length=xs.length:=by
  have:=congrArg List.length hx.1;simpa using this.symm
 have cq:i<n:=by
  have:=(aoL.1 hi).1;omega
 have h0:=sL i cq;have hyi:ys[i]?=some ys[i]:=akC (by omega);rw[hyi]at h0;obtain⟨r,e1,e2,_⟩:=DataW.trod_int he h0;have h3:=congrArg (λl=>l[i]?) hx.1;simp only[aoN,hi,hyi,apc,anc]at h3;rw[e2]at h3;simp only[DataW.lit.injEq,Lit.int.injEq,true_and]at h3;subst h3;rw[ce]at e1;have h4:((cs.drop (i *1)).take 1)[0]?=some (.int k x):=by rw[e1];rfl
 rw[aqW,if_pos (by omega),apN]at h4;simpa using h4
theorem RK{k:IntKind}{t e n fuel:Nat}{H:Type}{enc:TypeId×Value→H}{cs:List Value}{xs:List Int}{ps:List MemPlace}(ht:P.underlying t=some (.array n e))(he:P.underlying e=some (.int k))(ce:P.cellsOf e=1)(ct:P.cellsOf t=xs.length)
  (h:DataW.trod enc P w base spare held fuel t cs=some (.agg (xs.map λx=> .lit (.int k x)),ps)):cs=xs.map (Value.int k):=by
 have h1:=Cv ht he ce h;obtain⟨-,-,-,-,hl,-⟩:=DataW.trod_array ht h;rw[ct]at hl;refine List.ext_getElem? λi=>?_
 rw[aoN];rcases apZ i xs.length with hi|hi
 ·rw[akC hi,h1 i _ (akC hi)];rfl
 ·rw[apC hi,apC (by omega)];rfl
theorem PU{nm:String}{g:Nat}{cs:Array Value}(hg:P.globalNamed nm=some g)(h:w.var? P nm=some cs):∃e z,w.heap[g]?=some (.cells cs e z):=by
 simp only[World.var?,hg,ap7]at h;split at h<;>simp_all
end
theorem aev(b:Nat):¬OO (⟨λ_=>False,[],none,false⟩:FO) fP b:=by rintro(h|h);exact gH b h;exact h
theorem aew{w:World}{g i:Nat}{v:Value}(h:w.cell? ⟨g,i,none⟩=some v):g<w.heap.size:=by
 rcases apZ g w.heap.size with h1|h1
 ·exact h1
 ·simp[World.cell?,Array.getElem?_eq_none h1]at h
theorem ab0{H:Type}{enc:TypeId×Value→H}{C:Checked}{os:Os}{f:FuncId}{fn:Func}{s:OpenSpec}{F:Stop.Interp}{a:Assume}{conds:List PathCond}{fresh handsOn:Bool}{laid:List (String×DataW Unit)}(tb:TypeId)
  (hgl:∀W:World,laidMetH C.prog laid W->uV W (OO (⟨λ_=>False,[],none,false⟩:FO) fP))
  (own:ownKnob C.prog.godebug=none) (started:os.Started) (af0:C.prog.inits.idxOf? f=none) (Tw:C.prog.funcs[f]?=some fn)
  (witness:∃(w:World) (tape:Tape) (i:Input),w.os=os/\(w.forCall tape i).Shaped C.prog/\i.vars=[]/\Input.okWide C.prog (w.forCall tape i) .any w.heap.size f i/\
   s.preRow enc C.prog fn conds false laid (w.forCall tape i).memory i.args/\a.holds C.prog (lone (Frame.enter C.prog f i.args .normal) [] (w.forCall tape i)))
  (ahD:UT C.prog=true) (MW:laidOutB C.prog=true)
  (Is:fn.params.toList.all (λt=>C.prog.readableRec t&&decide (t<C.prog.types.size))=true)
  (oC:fn.resultTypes= #[tb]) (ZP:C.prog.underlying tb=some .bool) (hv:s.vars=[]) (Gg:s.bare.vars=[]) (hva:(s.at F).vars=[])
  (hs:∀ds:List (DataW H),ds.length=fn.params.size->(s.at F).fn H ds={results:=[.lit (.bool true)],args:=ds})
  (walk:∀ey:List (List D),ey.length=fn.params.size->(∀(i:Nat) t ys,fn.params[i]?=some t->ey[i]?=some ys->cX C.prog t ys)->
   (∀N,(∀ds:List (DataW H),(∀k,s.cond=some k->k H ds=true)->ll ds<=N)->mf ey<=N)->
   aE C.prog f ((fn.params.toList.zip ey).map λp=>JP C.prog p.1 p.2) [] (λr _=>r= .ret (oD true))):
  ReturnsInHanded a C os f .any (s.preRow enc C.prog fn conds false laid) ((s.at F).post enc C.prog fn false fresh handsOn false):=by
 refine returnsInHanded_of_row own started af0 Tw witness ?_;intro W base args ds gs before JC hW _ sG ZA HJ _ _;have hW':=hW;obtain⟨p,q,hA,hV,rfl,hfz,gv⟩:=hW;rw[hv]at hV;obtain⟨rfl,rfl⟩:=trodVars_none hV;simp only[apk]at ZA hW' sG⊢;rw[show s.bare.plain.varTypes C.prog=[] by simp[ChangeSpec.plain,DataSpec.varTypes,Gg],apk]at ZA;have af1:∀t∈fn.params.toList,C.prog.readableRec t=true/\t<C.prog.types.size:=λt h=>by
  have:=aoP.1 Is t h;simpa using this
 obtain⟨ey,y1,y2,y3,y4,y6,y5⟩:=On (base:=base) ahD fn.params.toList args.toList ds p (λt h=>(af1 t h).2) hA (λn hn=>by simpa using aoP.1 ZA n hn) (λj t v h1 h2=>JC j t v (by simpa using h1) (by simpa using h2));have hc:=walk ey (by simpa using y1) (λi t ys h1 h2=>y2 i t ys (by simpa using h1) h2) (λN hN=>apr y6 (hN _ sG));refine(hc (⟨λ_=>False,[],none,false⟩:FO) fP W args ⟨by simp[keys],by simp[fP],by simp[fP],by simp[fP],by simp,by simp,hgl W HJ⟩ ⟨by simp at y1 y3;simp[y1,y3],λj x y hx hy=>y5 j x y (by simpa using hx) hy⟩).mono λe W' ⟨m',r,L',hr,he,hi,bQ⟩=>?_
 subst hr;cases e with
 | returned v=>
   simp only[Ends]at he;have hb:=he.pV;subst hb;have bel:Below W.heap.size W W':=⟨bQ.os,bQ.tape,bQ.output,bQ.size,λk hk=>bQ.block k hk (gH k)⟩
   have aw:∀x∈p,x.block<W.heap.size:=λx hx=>hW'.lt x (by simpa using hx)
   refine⟨_,rfl,ds,[],p++ [],[],p,[],by rw[hva];rw[hv]at hW';simpa using hW',?_,?_,by simp[hva,DataW.TrodVars,apk,hs ds (by simpa using y4)],bel.frame _,λh=>by cases h⟩
   ·rw[apk,hs ds (by simpa using y4),oC];exact trodAll_mk1 (shut_bool ZP _)
   ·rw[apk,hs ds (by simpa using y4)];exact Aw MW bel _ _ _ _ af1 hA aw
 | panicked c=>simp only[Ends]at he
 | _=>simp only[Ends]at he
theorem PV{H:Type}{enc:TypeId×Value→H}{C:Checked}{os:Os}{f:FuncId}{fn:Func}{s:OpenSpec}{k:(H:Type)→List (DataW H)→Bool}(hk:s.cond=some k){conds:List PathCond}{apart:Bool}{laid:List (String×DataW Unit)}(modest:Bool)(w0:World)(args:Array Value)(fuel:Nat)(W9:w0.os=os)
  (yX:(w0.forCall (λ_ _=>0) ⟨#[],args,[]⟩).Shaped C.prog)
  (aO:Input.okWideB C.prog (w0.forCall (λ_ _=>0) ⟨#[],args,[]⟩) f ⟨#[],args,[]⟩=true)
  {x:List (DataW H)×List (DataW H)×List MemPlace} (hx:DataW.whole enc C.prog (w0.forCall (λ_ _=>0) ⟨#[],args,[]⟩).memory fn.params.toList s.vars apart args.toList fuel=some x)
  (af2:conds.all (PathCond.test C.prog ⟨fn.params.toList,x.1,s.bare.plain.varTypes C.prog,x.2.1⟩)=true) (sG:k H (x.1++x.2.1)=true)
  (dZ:s.bare.sizedB enc C.prog fn apart (w0.forCall (λ_ _=>0) ⟨#[],args,[]⟩).memory args fuel=true)
  (hl:laidMetH C.prog laid (w0.forCall (λ_ _=>0) ⟨#[],args,[]⟩).memory):
  ∃(w:World) (tape:Tape) (i:Input),w.os=os/\(w.forCall tape i).Shaped C.prog/\i.vars=[]/\Input.okWide C.prog (w.forCall tape i) .any w.heap.size f i/\
   s.preRow enc C.prog fn conds apart laid (w.forCall tape i).memory i.args/\({modest:=modest}:Assume).holds C.prog (lone (Frame.enter C.prog f i.args .normal) [] (w.forCall tape i)):=
 ⟨w0,λ_ _=>0,⟨#[],args,[]⟩,W9,yX,(Input.okWide_of_okWideB (base:=0) aO).1,(Input.okWide_of_okWideB aO).2,
  ⟨⟨(OpenSpec.pre_some hk conds apart _ _).2 ⟨x.1,x.2.1,x.2.2,DataW.Whole_of_whole hx,af2,sG⟩,hl⟩,sizedMet_of_sizedB dZ⟩,by
  simp only[Assume.holds];exact⟨by simp,by simp,λ_=>Modest.zero,by simp,by simp⟩⟩
set_option maxHeartbeats 4000000
set_option maxRecDepth 20000
theorem BQ(b:Bool):Pure prog 138 [oD b] (iD (ez b)):=by
 cases b
 ·refine rn func138 ?_;simp[-cB,f138];rfl
 ·refine rn func138 ?_;simp[-cB,f138];rfl
theorem Ui(wb:Nat)(s:al)(F:Int)(m:ah)(i:ai)(S:List Int)(v:Int)(aD:i.Op=9)(hS:m.Stack=S++ [v])(hl:S.length<=1000000):jb wb s F m i {m with Stack:=S++ [aq (ry v)]}:=by
 have hp:=fb wb s F m S v hS hl;have hq:=lx wb s F {m with Stack:=S} (ry v) hl;have hn:=afv v;unfold jb bE at *;refine rX [] [5003,5004,5005] func83 ?_;simp[-cB,f83];intro bs bL;simp[-cB,aD];refine eD [5003,5004,5005] hp ?_;simp[-cB];refine pC hn ?_;simp[-cB];refine eD [] dr ?_;simp[-cB];refine eD [5003,5004,5005] hq ?_;simp
theorem QG(wb:Nat)(s:al)(F:Int)(m:ah)(i:ai)(S:List Int)(v:Int)(aD:i.Op=10)(hS:m.Stack=S++ [v])(hl:S.length<=1000000):jb wb s F m i {m with Stack:=S++ [aq (ez (decide (aq v=0)))]}:=by
 have hp:=fb wb s F m S v hS hl;have hq:=lx wb s F {m with Stack:=S} (ez (decide (aq v=0))) hl;have hn:=afL v;unfold jb bE at *;refine rX [] [5003,5004,5005] func83 ?_;simp[-cB,f83];intro bs bL;simp[-cB,aD];refine eD [5003,5004,5005] hp ?_;simp[-cB];refine pC hn ?_;simp[-cB];refine eD [] dr ?_;simp[-cB];refine eD [5003,5004,5005] hq ?_;simp
theorem QH(wb:Nat)(s:al)(F:Int)(m:ah)(i:ai)(S:List Int)(v:Int)(aD:i.Op=11)(hS:m.Stack=S++ [v])(hl:S.length<=1000000):jb wb s F m i {m with Stack:=S++ [aq (ez (decide (v≠0)))]}:=by
 have hp:=fb wb s F m S v hS hl;have hq:=lx wb s F {m with Stack:=S} (ez (decide (v≠0))) hl;have hn:=BQ (!decide (v=0));have e:decide (v≠0)=!decide (v=0):=by simp
 rw[e]at hq⊢;unfold jb bE at *;refine rX [] [5003,5004,5005] func83 ?_;simp[-cB,f83];intro bs bL;simp[-cB,aD];refine eD [5003,5004,5005] hp ?_;generalize ez (!decide (v=0))=T at *;simp[-cB];refine pC hn ?_;simp[-cB];refine eD [] dr ?_;simp[-cB];refine eD [5003,5004,5005] hq ?_;simp
theorem Uc(wb:Nat)(s:al)(F:Int)(m:ah)(i:ai)(v:Int)(aD:i.Op=3)(hA:0<=i.Arg)(hg:m.Told.World.aQ[i.Arg.toNat]?=some v)(hl:m.Stack.length<=1000000):jb wb s F m i {m with Stack:=m.Stack++ [aq v]}:=by
 have hq:=lx wb s F m v hl;obtain⟨g1,g2⟩:=aoL.1 hg;unfold jb bE at *;refine rX [] [5003,5004,5005] func83 ?_;simp[-cB,f83];intro bs bL;simp[-cB,aD,hA,g1,g2];refine eD [] dr ?_;simp[-cB];refine eD [5003,5004,5005] hq ?_;simp
theorem Ub(wb:Nat)(s:al)(F:Int)(m:ah)(i:ai)(Fr:List aG)(f:aG)(v:Int)(aD:i.Op=5)(hA:0<=i.Arg)(h:m.Frames=Fr++ [f])(CW:Fr.length<=1000000)(hg:f.aM[i.Arg.toNat]?=some v)(hl:m.Stack.length<=1000000):jb wb s F m i {m with Stack:=m.Stack++ [aq v]}:=by
 have hq:=lx wb s F m v hl;have ht:=xm wb s F m Fr f h CW;obtain⟨g1,g2⟩:=aoL.1 hg;have lH:Fr.length<m.Frames.length:=by rw[h];simp
 have bm:m.Frames[Fr.length]?=some f:=s6 h;have sq:m.Frames[Fr.length]'lH=f:=by rw[akC lH]at bm;exact aoK bm
 unfold jb bE at *;refine rX [] [5003,5004,5005] func83 ?_;simp[-cB,f83];intro bs bL;simp[-cB,aD];refine av.bT [.ep 5005 4 Fr.length 0] aT (by kernel_rfl) (by rfl) ?_;simp[-cB,sq,lH];refine⟨kJ.read [5003,5004,5005] ht (by simp) (by kernel_rfl) (by simp) (by simp),?_⟩;simp[-cB,hA,g1,g2];refine eD [] dr ?_;simp[-cB];refine au.weaken (Wk.pick [144,145] [5003,5004,5005] (by rfl) (by decide) (by simp)) ?_;simp[-cB];refine eD [5003,5004,5005] hq ?_;simp
theorem Ud(wb:Nat)(s:al)(F:Int)(m:ah)(i:ai)(v:Int)(aD:i.Op=7)(hv:oq m.Told.World m.Env i.Arg=(v,0))(hl:m.Stack.length<=1000000)(hw:m.Told.World.wf)(hn:m.Told.World.ae.length<=32768):jb wb s F m i {m with Stack:=m.Stack++ [aq v]}:=by
 have hq:=lx wb s F m v hl;have hs:=S4 m.Told.World hw hn m.Env i.Arg;rw[hv]at hs;unfold jb bE at *;refine rX [] [5003,5004,5005] func83 ?_;simp[-cB,f83];intro bs bL;simp[-cB,aD];refine av.bT [eM (v,0)] aT (by kernel_rfl) (by rfl) ?_;simp[-cB,hs.ok,eM];refine⟨hs.ok _,?_⟩;refine eD [] dr ?_;simp[-cB];refine eD [5003,5004,5005] hq ?_;simp
theorem QO(wb:Nat)(s:al)(F:Int)(m:ah)(i:ai)(S:List Int)(x v:Int)(aD:i.Op=13)(hS:m.Stack=S++ [x])(hl:S.length<=1000000)(hv:tl s.Tables m.Told.World x i.Arg=(v,0))(hn:m.Told.World.ae.length<=32768)(hk:s.Tables.aJ.length<=65536)(hm:m.Told.World.ae.length *s.Tables.aJ.length=m.Told.World.aJ.length):jb wb s F m i {m with Stack:=S++ [aq v]}:=by
 have hp:=fR wb s F m S x hS hl;have hq:=lx wb s F {m with Stack:=S} v hl;have fw:=SY s.Tables m.Told.World hn hk hm x i.Arg;rw[hv]at fw;unfold jb bE at *;unfold pU at hp;refine rX [] [5003,5004,5005] func83 ?_;simp[-cB,f83];intro bs bL;simp[-cB,aD];refine av.ee aT (dM.m0 [Q3,Q3,Q3,Q3,Q3,Q3,Q0,none,Q3,Q3,arb,arb,arb,arb,arb,arb] [eM (v,0)] (by kernel_rfl) ?_);simp[-cB];refine gP.intro (λ_=>fU.jk (s:=⟨_,_⟩) 5004 [5003,5004] [5005] rfl (hp) rfl rfl (by kernel_rfl) (by first|rfl|simp) (by simp) (by simp[db,aV.cj,V.cj]) (cM (by simp)) (by simp) (by simp)) ?_;simp[-cB,eM];refine⟨fw.ok _,?_⟩;refine eD [] dr ?_;simp[-cB];refine eD [5003,5004,5005] hq ?_;simp
theorem QP(wb:Nat)(s:al)(F:Int)(m:ah)(i:ai)(S:List Int)(x v e:Int)(he:e≠0)(aD:i.Op=13)(hS:m.Stack=S++ [x])(hl:S.length<=1000000)(hv:tl s.Tables m.Told.World x i.Arg=(v,e))(hn:m.Told.World.ae.length<=32768)(hk:s.Tables.aJ.length<=65536)(hm:m.Told.World.ae.length *s.Tables.aJ.length=m.Told.World.aJ.length):AY wb s F m i e:=by
 refine⟨{m with Stack:=S},?_⟩;have hp:=fR wb s F m S x hS hl;have fw:=SY s.Tables m.Told.World hn hk hm x i.Arg;rw[hv]at fw;have hc:=iK e he;unfold bE at *;unfold pU at hp;refine rX [] [5003,5004,5005] func83 ?_;simp[-cB,f83];intro bs bL;simp[-cB,aD];refine av.ee aT (dM.m0 [Q3,Q3,Q3,Q3,Q3,Q3,Q0,none,Q3,Q3,arb,arb,arb,arb,arb,arb] [eM (v,e)] (by kernel_rfl) ?_);simp[-cB];refine gP.intro (λ_=>fU.jk (s:=⟨_,_⟩) 5004 [5003,5004] [5005] rfl (hp) rfl rfl (by kernel_rfl) (by first|rfl|simp) (by simp) (by simp[db,aV.cj,V.cj]) (cM (by simp)) (by simp) (by simp)) ?_;simp[-cB,eM];refine⟨fw.ok _,?_⟩;refine au.kN [] rfl (hc) (by simp) rfl (by simp) (by kernel_rfl) (by first|rfl|simp) (by simp) (by simp) (by simp) ?_;simp
set_option maxHeartbeats 200000
set_option maxRecDepth 512
def cZ(w:aj):Prop:=w.Flags.length=w.ae.length/\∀v∈w.Flags,0<=v/\v<=65535
theorem qB{w:aj}{x f:Int}(h:cz w x f=0):bY w.ae.length x=true/\0<=f/\f<=15:=by
 unfold cz at h;split at h
 ·split at h
  ·rename_i a b;exact⟨a,b⟩
  ·omega
 ·omega
theorem Tx{v f:Int}(hv:0<=v/\v<=65535)(hf:0<=f/\f<=15):IntKind.wrap .i64 (((v.fdiv (2^min (IntKind.wrap .u64 f).toNat IntKind.i64.bits) % 2^IntKind.i64.bits).toNat &&& 1 % 2^IntKind.i64.bits:Nat):Int)=v / (2^f.toNat:Nat) % 2:=by
 have bU:IntKind.i64.bits=64:=rfl;rw[iu (by omega),bU,aqV (by omega),aqP _ (by exact_mod_cast ap0 _)];have e:((2:Int)^f.toNat)=((2^f.toNat:Nat):Int):=by simp
 rw[e];obtain⟨n,rfl⟩:∃n:Nat,v=n:=⟨v.toNat,by omega⟩
 have hq:n / 2^f.toNat<=n:=Nat.div_le_self _ _;have e2:((n:Int) / ((2^f.toNat:Nat):Int))=((n / 2^f.toNat:Nat):Int):=by simp
 rw[e2];generalize n / 2^f.toNat=q at *;have e3:(((q:Nat):Int) % 2^64).toNat=q:=by omega
 rw[e3,show(1 % 2^64:Nat)=1 by decide,Nat.and_one_is_mod,wrap64 iW];omega
theorem LK{l:List Int}{x:Int}(h:0<=x/\x<l.length):aA l x∈l:=by
 unfold aA;rw[akC (by omega)];exact aoV _
theorem Ho(w:aj)(hF:cZ w)(x f:Int):Pure prog 139 [.agg (w.enc.map .d),iD x,iD f] (.bA [oD (decide (cz w x f=0)&&cU w x f.toNat),iD (cz w x f)]):=by
 have ha:=O5 w x f;by_cases h0:cz w x f=0
 ·have hx:=qB h0;have hb:=aY.1 hx.1;have hl:=hF.1;have aw:x.toNat<w.Flags.length:=by omega
  have hg:w.Flags[x.toNat]?.getD 0=aA w.Flags x:=rfl;have hm:=hF.2 (aA w.Flags x) (by unfold aA;rw[akC aw];exact aoV _);have uc:=Tx hm hx.2;have hh:cU w x f.toNat=decide (aA w.Flags x / (2^f.toNat:Nat) % 2=1):=by unfold cU;rw[hx.1,apy]
  rw[hh];refine rn func139 ?_;simp[-cB,f139];intro bs;refine pC ha ?_;simp[-cB,h0,hg,uc];exact⟨⟨by omega,aw⟩,(J9 _).1⟩
 ·have bR:(cz w x f !=0)=true:=by simpa using h0
  refine rn func139 ?_;simp[-cB,f139];intro bs;refine pC ha ?_;simp[h0]
theorem Ty(b:Bool):Pure prog 201 [oD b] (.bA [iD (ez b),iD 0]):=by
 unfold ez;cases b
 ·refine rn func201 ?_;simp[-cB,f201]
 ·refine rn func201 ?_;simp[-cB,f201]
set_option maxHeartbeats 4000000 in
set_option maxRecDepth 6000 in
theorem aex(w:aj)(op a b:Int)(ho:op=1\/op=2\/op=3\/op=4\/op=5\/op=6\/op=7\/op=8\/op=10\/op=11\/op=12\/op=13\/op=14):Pure prog 135 [.agg (w.enc.map .d),iD op,iD a,iD b] (eM (jd w op a b)):=by
 have hd:=afw (aq a) (aq b);have hm:=afx (aq a) (aq b);unfold eM at hd hm⊢;rcases ho with rfl|rfl|rfl|rfl|rfl|rfl|rfl|rfl|rfl|rfl|rfl|rfl|rfl
 all_goals
  refine Pure.GI func135 rfl (by simp[f135]) ?_;refine av.named (λQ0 IS=>?_);simp only[f135];refine av.gE ?_;simp[-cB];intro bs;refine av.gE ?_;simp[-cB];refine pC (cA _) ?_;simp[-cB];refine pC (cA _) ?_;simp[-cB];refine av.gE ?_;simp[-cB];refine av.seq ?_;refine av.gE ?_;simp[-cB];refine av.block ?_
  iterate 14 (refine av.seq (av.block ?_))
  refine av.named (λQ1 ZQ=>?_);refine av.ur ?_;simp[-cB];rw[ZQ]
  repeat (first|refine Pj ?_ (by decide)|refine Pl ?_)
  refine Pk (Fc ?_)
  try (refine av.named (λQ3 hQ3=>?_);refine av.ur ?_;simp[-cB];rw[hQ3];refine aed (Fc ?_))
  refine av.named (λQ2 Tz=>?_);refine av.ur ?_;simp[-cB]
  first
   | refine pC (Ty _) ?_
   | refine pC (Yw _ _) ?_
   | refine pC (aft _ _) ?_
   | refine pC (afu _ _) ?_
   | refine pC hd ?_
   | refine pC hm ?_
  simp[-cB];rw[Tz]
  repeat (first|refine Kf ?_|refine Kg ?_)
  rw[IS];simp[jd]
  all_goals rfl
set_option maxRecDepth 6000 in
theorem ab1(w:aj)(hC:w.Child.length=w.ae.length)(hN:w.Next.length=w.ae.length)(a b:Int):Pure prog 135 [.agg (w.enc.map .d),iD 9,iD a,iD b] (eM (jd w 9 a b)):=by
 have hT:=Ka w hC hN 1 (aq a);have hB:jd w 9 a b=if(df w 1 (aq a)).2=0 then(ez (decide ((df w 1 (aq a)).1=aq b)),0)else(0,(df w 1 (aq a)).2):=by
  simp only[jd,df,Rs];cases bY w.ae.length (aq a)<;>simp
 rw[hB];unfold eM at hT⊢;generalize df w 1 (aq a)=p at *;refine Pure.GI func135 rfl (by simp[f135]) ?_;refine av.named (λQ0 IS=>?_);simp only[f135];refine av.gE ?_;simp[-cB];intro bs;refine av.gE ?_;simp[-cB];refine pC (cA _) ?_;simp[-cB];refine pC (cA _) ?_;simp[-cB];refine av.gE ?_;simp[-cB];refine av.seq ?_;refine av.gE ?_;simp[-cB];refine av.block ?_
 iterate 14 (refine av.seq (av.block ?_))
 refine av.named (λQ1 ZQ=>?_);refine av.ur ?_;simp[-cB];rw[ZQ]
 repeat (first|refine Pj ?_ (by decide)|refine Pl ?_)
 refine Pk (Fc ?_);refine av.named (λQ2 Tz=>?_);refine av.ur ?_;simp[-cB];by_cases he:p.2=0
 ·rw[he]at hT;refine pC hT ?_;simp[-cB];refine pC (Ty _) ?_;simp[-cB];rw[Tz]
  repeat (first|refine Kf ?_|refine Kg ?_)
  rw[IS];simp[he]
 ·refine pC hT ?_;simp[-cB,he];rw[Tz]
  repeat (first|refine Kf ?_|refine Kg ?_)
  rw[IS];simp[he]
set_option maxRecDepth 6000 in
theorem ab2(w:aj)(op a b:Int)(ho:op<1\/14<op):Pure prog 135 [.agg (w.enc.map .d),iD op,iD a,iD b] (eM (jd w op a b)):=by
 have n1:op≠1:=by omega
 have n2:op≠2:=by omega
 have n3:op≠3:=by omega
 have n4:op≠4:=by omega
 have n5:op≠5:=by omega
 have n6:op≠6:=by omega
 have n7:op≠7:=by omega
 have n8:op≠8:=by omega
 have n9:op≠9:=by omega
 have n10:op≠10:=by omega
 have n11:op≠11:=by omega
 have n12:op≠12:=by omega
 have n13:op≠13:=by omega
 have n14:op≠14:=by omega
 have hB:jd w op a b=(0,16):=by simp[jd,n1,n2,n3,n4,n5,n6,n7,n8,n9,n10,n11,n12,n13,n14]
 rw[hB];unfold eM;refine Pure.GI func135 rfl (by simp[f135]) ?_;refine av.named (λQ0 IS=>?_);simp only[f135];refine av.gE ?_;simp[-cB];intro bs;refine av.gE ?_;simp[-cB];refine pC (cA _) ?_;simp[-cB];refine pC (cA _) ?_;simp[-cB];refine av.gE ?_;simp[-cB];refine av.seq ?_;refine av.gE ?_;simp[-cB];refine av.block ?_
 iterate 14 (refine av.seq (av.block ?_))
 refine av.named (λQ1 ZQ=>?_);refine av.ur ?_;simp[-cB,n1,n2,n3,n4,n5,n6,n7,n8,n9,n10,n11,n12,n13,n14];rw[ZQ]
 repeat (first|refine Pj ?_ (by decide)|refine Pl ?_)
 refine Pk (Fc ?_);refine av.named (λQ2 Tz=>?_);refine av.ur ?_;simp[-cB];rw[Tz];rw[IS];simp
theorem ZR(w:aj)(op:Int)(h9:op=9->w.Child.length=w.ae.length/\w.Next.length=w.ae.length)(a b:Int):Pure prog 135 [.agg (w.enc.map .d),iD op,iD a,iD b] (eM (jd w op a b)):=by
 have:(op<1\/14<op)\/op=9\/op=1\/op=2\/op=3\/op=4\/op=5\/op=6\/op=7\/op=8\/op=10\/op=11\/op=12\/op=13\/op=14:=by omega
 rcases this with h|rfl|h
 ·exact ab2 w op a b h
 ·exact ab1 w (h9 rfl).1 (h9 rfl).2 a b
 ·exact aex w op a b h
set_option maxHeartbeats 4000000
set_option maxRecDepth 20000
theorem QQ(wb:Nat)(s:al)(F:Int)(m:ah)(i:ai)(S:List Int)(x:Int)(v:Int)(aD:i.Op=19)(hS:m.Stack=S++ [x])(hl:S.length<=100000)(hC:m.Told.World.Child.length=m.Told.World.ae.length)(hN:m.Told.World.Next.length=m.Told.World.ae.length)(hv:df m.Told.World i.Arg x=(v,0)):jb wb s F m i {m with Stack:=S++ [aq (v)]}:=by
 have hp:=fR wb s F m S x hS (by omega);have hq:=lx wb s F {m with Stack:=S} (v) (by simp;omega);have fw:=Ka m.Told.World hC hN i.Arg x;rw[hv]at fw;unfold jb bE at *;unfold pU at hp;refine rX [] [5003,5004,5005] func83 ?_;simp[-cB,f83];intro bs bL;simp[-cB,aD];refine av.ee aT (dM.m0 [Q3,Q3,Q3,Q0,none,arb,arb,arb,arb,arb,arb] [eM (v,0)] (by kernel_rfl) ?_);simp[-cB];refine gP.intro (λ_=>fU.jk (s:=⟨_,_⟩) 5004 [5003,5004] [5005] rfl (hp) rfl rfl (by kernel_rfl) (by first|rfl|simp) (by simp) (by simp[db,aV.cj,V.cj]) (cM (by simp)) (by simp) (by simp)) ?_;simp[-cB,eM];refine⟨fw.ok _,?_⟩;refine eD [] dr ?_;simp[-cB];refine eD [5003,5004,5005] hq ?_;simp
theorem QR(wb:Nat)(s:al)(F:Int)(m:ah)(i:ai)(S:List Int)(x:Int)(v:Int)(e:Int)(he:e≠0)(aD:i.Op=19)(hS:m.Stack=S++ [x])(hl:S.length<=100000)(hC:m.Told.World.Child.length=m.Told.World.ae.length)(hN:m.Told.World.Next.length=m.Told.World.ae.length)(hv:df m.Told.World i.Arg x=(v,e)):AY wb s F m i e:=by
 refine⟨{m with Stack:=S},?_⟩;have hp:=fR wb s F m S x hS (by omega);have fw:=Ka m.Told.World hC hN i.Arg x;rw[hv]at fw;have hc:=iK e he;unfold bE at *;unfold pU at hp;refine rX [] [5003,5004,5005] func83 ?_;simp[-cB,f83];intro bs bL;simp[-cB,aD];refine av.ee aT (dM.m0 [Q3,Q3,Q3,Q0,none,arb,arb,arb,arb,arb,arb] [eM (v,e)] (by kernel_rfl) ?_);simp[-cB];refine gP.intro (λ_=>fU.jk (s:=⟨_,_⟩) 5004 [5003,5004] [5005] rfl (hp) rfl rfl (by kernel_rfl) (by first|rfl|simp) (by simp) (by simp[db,aV.cj,V.cj]) (cM (by simp)) (by simp) (by simp)) ?_;simp[-cB,eM];refine⟨fw.ok _,?_⟩;refine au.kN [] rfl (hc) (by simp) rfl (by simp) (by kernel_rfl) (by first|rfl|simp) (by simp) (by simp) (by simp) ?_;simp
theorem QM(wb:Nat)(s:al)(F:Int)(m:ah)(i:ai)(S:List Int)(x:Int)(v:Bool)(aD:i.Op=12)(hS:m.Stack=S++ [x])(hl:S.length<=100000)(CW:cZ m.Told.World)(hv:(decide (cz m.Told.World x i.Arg=0)&&cU m.Told.World x i.Arg.toNat,cz m.Told.World x i.Arg)=(v,0)):jb wb s F m i {m with Stack:=S++ [aq (ez v)]}:=by
 have hp:=fR wb s F m S x hS (by omega);have hq:=lx wb s F {m with Stack:=S} (ez v) (by simp;omega);have fw:=Ho m.Told.World CW x i.Arg;have Gg:=congrArg Prod.fst hv;have LL:=congrArg Prod.snd hv;simp only at Gg LL;rw[Gg,LL]at fw;have yE:=BQ v;unfold jb bE at *;unfold pU at hp;refine rX [] [5003,5004,5005] func83 ?_;simp[-cB,f83];intro bs bL;simp[-cB,aD];refine av.ee aT (dM.m0 [Q3,Q0,none,Q3,Q3,arb,arb,arb,arb,arb,arb] [.bA [oD v,iD 0]] (by kernel_rfl) ?_);simp[-cB];refine gP.intro (λ_=>fU.jk (s:=⟨_,_⟩) 5004 [5003,5004] [5005] rfl (hp) rfl rfl (by kernel_rfl) (by first|rfl|simp) (by simp) (by simp[db,aV.cj,V.cj]) (cM (by simp)) (by simp) (by simp)) ?_;simp[-cB,eM];refine⟨fw.ok _,?_⟩;refine pC yE ?_;simp[-cB];refine eD [] dr ?_;simp[-cB];refine eD [5003,5004,5005] hq ?_;simp
theorem QN(wb:Nat)(s:al)(F:Int)(m:ah)(i:ai)(S:List Int)(x:Int)(v:Bool)(e:Int)(he:e≠0)(aD:i.Op=12)(hS:m.Stack=S++ [x])(hl:S.length<=100000)(CW:cZ m.Told.World)(hv:(decide (cz m.Told.World x i.Arg=0)&&cU m.Told.World x i.Arg.toNat,cz m.Told.World x i.Arg)=(v,e)):AY wb s F m i e:=by
 refine⟨{m with Stack:=S},?_⟩;have hp:=fR wb s F m S x hS (by omega);have fw:=Ho m.Told.World CW x i.Arg;have Gg:=congrArg Prod.fst hv;have LL:=congrArg Prod.snd hv;simp only at Gg LL;rw[Gg,LL]at fw;have yE:=BQ v;have hc:=iK e he;unfold bE at *;unfold pU at hp;refine rX [] [5003,5004,5005] func83 ?_;simp[-cB,f83];intro bs bL;simp[-cB,aD];refine av.ee aT (dM.m0 [Q3,Q0,none,Q3,Q3,arb,arb,arb,arb,arb,arb] [.bA [oD v,iD e]] (by kernel_rfl) ?_);simp[-cB];refine gP.intro (λ_=>fU.jk (s:=⟨_,_⟩) 5004 [5003,5004] [5005] rfl (hp) rfl rfl (by kernel_rfl) (by first|rfl|simp) (by simp) (by simp[db,aV.cj,V.cj]) (cM (by simp)) (by simp) (by simp)) ?_;simp[-cB,eM];refine⟨fw.ok _,?_⟩;refine pC yE ?_;simp[-cB];refine au.kN [] rfl (hc) (by simp) rfl (by simp) (by kernel_rfl) (by first|rfl|simp) (by simp) (by simp) (by simp) ?_;simp
theorem Uj(wb:Nat)(s:al)(F:Int)(m:ah)(i:ai)(S:List Int)(x y:Int)(v:Int)(aD:i.Op=8)(hS:m.Stack=S++ [y,x])(hl:S.length<=100000)(h9:i.Arg=9->m.Told.World.Child.length=m.Told.World.ae.length/\m.Told.World.Next.length=m.Told.World.ae.length)(hv:jd m.Told.World i.Arg y x=(v,0)):jb wb s F m i {m with Stack:=S++ [aq (v)]}:=by
 have mx:=fb wb s F m (S++ [y]) x (by rw[hS];simp) (by simp;omega);have hp:=fR wb s F {m with Stack:=S++ [y]} S y rfl (by omega);have hq:=lx wb s F {m with Stack:=S} (v) (by simp;omega);have fw:=ZR m.Told.World i.Arg h9 y x;rw[hv]at fw;unfold jb bE at *;unfold pU at hp;refine rX [] [5003,5004,5005] func83 ?_;simp[-cB,f83];intro bs bL;simp[-cB,aD];refine eD [5003,5004,5005] mx ?_;simp[-cB];refine av.ee aT (dM.m0 [Q3,Q3,Q3,Q0,none,Q3,arb,arb,arb,arb,arb,arb] [eM (v,0)] (by kernel_rfl) ?_);simp[-cB];refine gP.intro (λ_=>fU.jk (s:=⟨_,_⟩) 5004 [5003,5004] [5005] rfl (hp) rfl rfl (by kernel_rfl) (by first|rfl|simp) (by simp) (by simp[db,aV.cj,V.cj]) (cM (by simp)) (by simp) (by simp)) ?_;simp[-cB,eM];refine⟨fw.ok _,?_⟩;refine eD [] dr ?_;simp[-cB];refine eD [5003,5004,5005] hq ?_;simp
theorem Uk(wb:Nat)(s:al)(F:Int)(m:ah)(i:ai)(S:List Int)(x y:Int)(v:Int)(e:Int)(he:e≠0)(aD:i.Op=8)(hS:m.Stack=S++ [y,x])(hl:S.length<=100000)(h9:i.Arg=9->m.Told.World.Child.length=m.Told.World.ae.length/\m.Told.World.Next.length=m.Told.World.ae.length)(hv:jd m.Told.World i.Arg y x=(v,e)):AY wb s F m i e:=by
 refine⟨{m with Stack:=S},?_⟩;have mx:=fb wb s F m (S++ [y]) x (by rw[hS];simp) (by simp;omega);have hp:=fR wb s F {m with Stack:=S++ [y]} S y rfl (by omega);have fw:=ZR m.Told.World i.Arg h9 y x;rw[hv]at fw;have hc:=iK e he;unfold bE at *;unfold pU at hp;refine rX [] [5003,5004,5005] func83 ?_;simp[-cB,f83];intro bs bL;simp[-cB,aD];refine eD [5003,5004,5005] mx ?_;simp[-cB];refine av.ee aT (dM.m0 [Q3,Q3,Q3,Q0,none,Q3,arb,arb,arb,arb,arb,arb] [eM (v,e)] (by kernel_rfl) ?_);simp[-cB];refine gP.intro (λ_=>fU.jk (s:=⟨_,_⟩) 5004 [5003,5004] [5005] rfl (hp) rfl rfl (by kernel_rfl) (by first|rfl|simp) (by simp) (by simp[db,aV.cj,V.cj]) (cM (by simp)) (by simp) (by simp)) ?_;simp[-cB,eM];refine⟨fw.ok _,?_⟩;refine au.kN [] rfl (hc) (by simp) rfl (by simp) (by kernel_rfl) (by first|rfl|simp) (by simp) (by simp) (by simp) ?_;simp
set_option maxHeartbeats 200000
set_option maxRecDepth 512
theorem LM(n f:Nat):n=2^f *(n / 2^f)+n % 2^f/\n % 2^f<2^f:=⟨(Nat.div_add_mod n (2^f)).symm,Nat.mod_lt _ (Nat.pow_pos (by decide))⟩
theorem TA(p k:Nat):(2 *p).testBit k=(decide (0<k)&&p.testBit (k-1)):=by
 cases k with
 | zero=>simp
 | succ k=>rw[Nat.testBit_succ];simp
theorem ZS(p k:Nat):(2 *p+1).testBit k=(decide (k=0)||p.testBit (k-1)):=by
 cases k with
 | zero=>simp
 | succ k=>rw[Nat.testBit_succ];simp;congr 1;omega
theorem aey{n f:Nat}(h:n / 2^f % 2=0):n ||| 2^f=n+2^f:=by
 obtain⟨h1,h2⟩:=LM n f;obtain⟨p,hp⟩:∃p,n / 2^f=2 *p:=⟨n / 2^f / 2,by revert h;generalize n / 2^f=q;omega⟩
 rw[hp]at h1;generalize n % 2^f=r at *;have e:n+2^f=2^f *(2 *p+1)+r:=by rw[h1,Nat.mul_add,Nat.mul_one];omega
 rw[e,h1];refine aqN λj=>?_
 rw[Nat.testBit_or,ap5 _ h2,ap5 _ h2,Nat.testBit_two_pow];by_cases hj:j<f
 ·simp[hj];omega
 ·simp only[hj,if_false,TA,ZS];by_cases Ei:f=j
  ·subst Ei;simp
  ·have:0<j-f:=by omega
   have h3:¬(j-f=0):=by omega
   simp[Ei,this,h3]
theorem aez{n f:Nat}(h:n / 2^f % 2=1):n ||| 2^f=n:=by
 refine aqN λj=>?_
 rw[Nat.testBit_or,Nat.testBit_two_pow];by_cases Ei:f=j
 ·subst Ei;rw[Nat.testBit_eq_decide_div_mod_eq,h];simp
 ·simp[Ei]
theorem TB(f j:Nat):(2^64-1-2^f).testBit j=(decide (j<64)&&!decide (f=j))\/64<=f:=by
 by_cases hf:f<64
 ·left;have:2^f<2^64:=Nat.pow_lt_pow_right (by decide) hf;rw[show 2^64-1-2^f=2^64-(2^f+1) by omega,Nat.testBit_two_pow_sub_succ this,Nat.testBit_two_pow]
 ·right;omega
theorem aeA{n f:Nat}(hn:n<2^64)(hf:f<64)(h:n / 2^f % 2=1):n &&& (2^64-1-2^f)=n-2^f:=by
 obtain⟨h1,h2⟩:=LM n f;obtain⟨p,hp⟩:∃p,n / 2^f=2 *p+1:=⟨n / 2^f / 2,by revert h;generalize n / 2^f=q;omega⟩
 rw[hp]at h1;generalize hr:n % 2^f=r at *;have e:n-2^f=2^f *(2 *p)+r:=by rw[h1,Nat.mul_add,Nat.mul_one];omega
 rw[e];refine aqN λj=>?_
 rw[Nat.testBit_and,(TB f j).resolve_right (by omega),ap5 _ h2];by_cases We:j<64
 ·have e2:n.testBit j=(2^f *(2 *p+1)+r).testBit j:=by rw[<-h1]
  rw[e2,ap5 _ h2];by_cases hj:j<f
  ·simp[hj,We];omega
  ·simp only[hj,if_false,TA,ZS];by_cases Ei:f=j
   ·subst Ei;simp
   ·have:0<j-f:=by omega
    have h3:¬(j-f=0):=by omega
    simp[Ei,this,h3,We]
 ·have e3:n.testBit j=false:=Nat.testBit_lt_two_pow (ao3 hn (apG (by decide) (by omega)));have e4:(2^f *(2 *p)+r).testBit j=false:=Nat.testBit_lt_two_pow (ao3 (by omega:2^f *(2 *p)+r<2^64) (apG (by decide) (by omega)));rw[ap5 _ h2]at e4;rw[e3,e4];rfl
theorem aeB{n f:Nat}(hn:n<2^64)(hf:f<64)(h:n / 2^f % 2=0):n &&& (2^64-1-2^f)=n:=by
 refine aqN λj=>?_
 rw[Nat.testBit_and,(TB f j).resolve_right (by omega)];by_cases We:j<64
 ·by_cases Ei:f=j
  ·subst Ei;rw[Nat.testBit_eq_decide_div_mod_eq,h];simp
  ·simp[Ei,We]
 ·have e3:n.testBit j=false:=Nat.testBit_lt_two_pow (ao3 hn (apG (by decide) (by omega)));rw[e3];rfl
def TC(a b:Int):Int:=IntKind.wrap .i64 (((a % 2^IntKind.i64.bits).toNat ||| (b % 2^IntKind.i64.bits).toNat:Nat):Int)
def xn(a b:Int):Int:=IntKind.wrap .i64 (((a % 2^IntKind.i64.bits).toNat &&& (2^IntKind.i64.bits-1-(b % 2^IntKind.i64.bits).toNat):Nat):Int)
theorem TD{v:Int}{n f:Nat}(hv:v=n):v / (2^f:Nat) % 2=((n / 2^f % 2:Nat):Int):=by subst hv;simp
theorem Wf{f:Nat}(hf:f<=15):2^f<=32768:=apG (n:=2) (by decide) hf
theorem aeC{v:Int}{f:Nat}(hv:0<=v/\v<=65535)(hf:f<=15):TC v (2^f:Nat)=if v / (2^f:Nat) % 2=1 then v else v+(2^f:Nat):=by
 obtain⟨n,rfl⟩:∃n:Nat,v=n:=⟨v.toNat,by omega⟩
 have hp:=Wf hf;have hb:IntKind.i64.bits=64:=rfl;rw[TD rfl];unfold TC;rw[hb];have e1:((n:Int) % 2^64).toNat=n:=by omega
 have e2:(((2^f:Nat):Int) % 2^64).toNat=2^f:=by
  generalize 2^f=P at *;omega
 rw[e1,e2];rcases Nat.mod_two_eq_zero_or_one (n / 2^f)with h|h
 ·rw[aey h,h,if_neg (by decide),wrap64 ?_]
  ·simp
  ·rw[aS];generalize 2^f=P at *;omega
 ·rw[aez h,h,if_pos (by decide),wrap64 iW]
theorem RL{v:Int}{f:Nat}(hv:0<=v/\v<=65535)(hf:f<=15):xn v (2^f:Nat)=if v / (2^f:Nat) % 2=1 then v-(2^f:Nat)else v:=by
 obtain⟨n,rfl⟩:∃n:Nat,v=n:=⟨v.toNat,by omega⟩
 have hp:=Wf hf;have hb:IntKind.i64.bits=64:=rfl;rw[TD rfl];unfold xn;rw[hb];have e1:((n:Int) % 2^64).toNat=n:=by omega
 have e2:(((2^f:Nat):Int) % 2^64).toNat=2^f:=by
  generalize 2^f=P at *;omega
 rw[e1,e2];have hn:n<2^64:=by omega
 rcases Nat.mod_two_eq_zero_or_one (n / 2^f)with h|h
 ·rw[aeB hn (by omega) h,h,if_neg (by decide),wrap64 iW]
 ·have hle:2^f<=n:=by
   have hm:=Nat.div_mul_le_self n (2^f);have hq:1<=n / 2^f:=by revert h;generalize n / 2^f=q;omega
   have h3:=ao4 (2^f) hq;rw[aqb]at h3;exact apr h3 hm
  rw[aeA hn (by omega) h,h,if_pos (by decide)];generalize 2^f=P at *;rw[wrap64 iW];omega
theorem aeD(a b:Int):Pure prog 250 [iD a,iD b] (iD (TC a b)):=by
 refine rn func250 ?_;simp[-cB,f250];rfl
theorem ZT(a b:Int):Pure prog 251 [iD a,iD b] (iD (xn a b)):=by
 refine rn func251 ?_;simp[-cB,f251];rfl
theorem I7(w:aj)(hF:cZ w)(hlen:w.Flags.length≤100000)(x f:Int)(G:FuncId)(tf:Int→Int→Int)(hg:∀a b,Pure prog G [iD a,iD b] (iD (tf a b))):
  Pure prog 249 [.agg (w.enc.map .d),iD x,iD f,.fu (.func G) [] []]
   (.bA [.agg ((if cz w x f=0 then {w with Flags:=w.Flags.set x.toNat (tf (aA w.Flags x) (2^f.toNat:Nat))}else w).enc.map .d),iD (cz w x f)]):=by
 have ha:=O5 w x f;by_cases h0:cz w x f=0
 ·have hx:=qB h0;have hb:=aY.1 hx.1;have hl:=hF.1;have aw:x.toNat<w.Flags.length:=by omega
  have hgt:w.Flags[x.toNat]?.getD 0=aA w.Flags x:=rfl;rw[if_pos h0,h0];rw[h0]at ha;have hc:=ia 4050 w.Flags (by omega);have ajJ:IntKind.i64.wrap (2^min (IntKind.u64.wrap f).toNat IntKind.i64.bits)=((2^f.toNat:Nat):Int):=by
   have hp:=Wf (f:=f.toNat) (by omega);rw[iu (by omega),show IntKind.i64.bits=64 from rfl,aqV (by omega)];have e:((2:Int)^f.toNat)=((2^f.toNat:Nat):Int):=by simp
   rw[e];generalize 2^f.toNat=P at *;exact wrap64 iW
  refine rn func249 ?_;simp[-cB,f249];intro bs;refine pC ha ?_;simp[-cB];refine eD [] hc ?_;simp[-cB,aj.enc];generalize hP:((2^f.toNat:Nat):Int)=P at *;refine av.aU [Q0,Q0,Q0,Q0,Q0,Q0,Q0,Q0,Q0,Q0,Q0,Q0,Q0,Q0,none] [iD (tf (aA w.Flags x) P)] aT (by kernel_rfl) ?_;simp[-cB,ajJ,hgt,(hg _ _).ok];exact⟨⟨by omega,aw⟩,aw,(J9 _).1,by omega,aw,by rw[<-hP];simp⟩
 ·rw[if_neg h0];refine rn func249 ?_;simp[-cB,f249];intro bs;refine pC ha ?_;simp[h0]
theorem PW{l:List Int}{x:Int}(hx:0<=x/\x.toNat<l.length):l.set x.toNat (aA l x)=l:=by
 unfold aA;rw[akC hx.2];exact List.set_getElem_self hx.2
theorem PX(w:aj)(hF:cZ w)(hlen:w.Flags.length<=100000)(x f:Int):Pure prog 212 [.agg (w.enc.map .d),iD x,iD f] (.bA [.agg ((eb w x f true).1.enc.map .d),iD (eb w x f true).2]):=by
 have h:=I7 w hF hlen x f 250 TC aeD;have e:(eb w x f true).1=(if cz w x f=0 then {w with Flags:=w.Flags.set x.toNat (TC (aA w.Flags x) (2^f.toNat:Nat))}else w)/\(eb w x f true).2=cz w x f:=by
  unfold eb;split
  ·rename_i h0;have hx:=qB h0;have hb:=aY.1 hx.1;have hl:=hF.1;have hm:=hF.2 _ (LK (l:=w.Flags) (x:=x) (by omega));refine⟨?_,h0.symm⟩;simp only;rw[aeC hm (by omega)];unfold cU;rw[hx.1,apy];split
   ·rename_i hh;have hh:aA w.Flags x / (2^f.toNat:Nat) % 2=1:=by simpa using hh
    rw[if_pos hh,PW (by omega)]
   ·rename_i hh;have hh:¬aA w.Flags x / (2^f.toNat:Nat) % 2=1:=by simpa using hh
    rw[if_neg hh];simp
  ·exact⟨rfl,rfl⟩
 rw[e.1,e.2];clear e;revert h;generalize (if cz w x f=0 then {w with Flags:=w.Flags.set x.toNat (TC (aA w.Flags x) (2^f.toNat:Nat))}else w)=R;intro h;refine Pure.run func212 rfl (by simp[f212,aj.enc]) ?_;simp[-cB,f212,aj.enc];intro bs;refine pC h ?_;simp[-cB];rfl
theorem I8(w:aj)(hF:cZ w)(hlen:w.Flags.length<=100000)(x f:Int):Pure prog 213 [.agg (w.enc.map .d),iD x,iD f] (.bA [.agg ((eb w x f false).1.enc.map .d),iD (eb w x f false).2]):=by
 have h:=I7 w hF hlen x f 251 xn ZT;have e:(eb w x f false).1=(if cz w x f=0 then {w with Flags:=w.Flags.set x.toNat (xn (aA w.Flags x) (2^f.toNat:Nat))}else w)/\(eb w x f false).2=cz w x f:=by
  unfold eb;split
  ·rename_i h0;have hx:=qB h0;have hb:=aY.1 hx.1;have hl:=hF.1;have hm:=hF.2 _ (LK (l:=w.Flags) (x:=x) (by omega));refine⟨?_,h0.symm⟩;simp only;rw[RL hm (by omega)];unfold cU;rw[hx.1,apy];split
   ·rename_i hh;have hh:¬aA w.Flags x / (2^f.toNat:Nat) % 2=1:=by simpa using hh
    rw[if_neg hh,PW (by omega)]
   ·rename_i hh;have hh:aA w.Flags x / (2^f.toNat:Nat) % 2=1:=by simpa using hh
    rw[if_pos hh];simp
  ·exact⟨rfl,rfl⟩
 rw[e.1,e.2];clear e;revert h;generalize (if cz w x f=0 then {w with Flags:=w.Flags.set x.toNat (xn (aA w.Flags x) (2^f.toNat:Nat))}else w)=R;intro h;refine Pure.run func213 rfl (by simp[f213,aj.enc]) ?_;simp[-cB,f213,aj.enc];intro bs;refine pC h ?_;simp[-cB];rfl
set_option maxHeartbeats 4000000
set_option maxRecDepth 20000
abbrev jK(wb:Nat)(s:al)(F:Int)(m:ah)(i:ai)(m':ah):Prop:=aE prog 143 [.bp 5003 0,.agg (i.enc.map .d)] (bE wb s F m) (λr L=>r= .ret (.bA [])/\L=bE wb s F m')
abbrev CT(wb:Nat)(s:al)(F:Int)(m:ah)(i:ai)(e:Int):Prop:=∃m',aE prog 143 [.bp 5003 0,.agg (i.enc.map .d)] (bE wb s F m) (λr L=>r= .ix (oV e)/\L=bE wb s F m')
@[simp] theorem akE(w:aj)(n:Int):List.take 12 (w.enc.map V.d)++ [V.d (.v (.int .i64 n))]=({w with Go:=n}:aj).enc.map V.d:=rfl
@[simp] theorem alL(w:aj)(n:Int):List.take 8 (w.enc.map V.d)++V.d (.v (.int .i64 n))::List.drop 9 (w.enc.map V.d)=({w with Score:=n}:aj).enc.map V.d:=rfl
@[simp] theorem ajK(w:aj):List.take 13 (w.enc.map V.d)=w.enc.map V.d:=rfl
theorem Uf(wb:Nat)(s:al)(F:Int)(m:ah)(i:ai)(S:List Int)(x:Int)(aD:i.Op=2)(hS:m.Stack=S++ [x])(hl:S.length<=100000):jK wb s F m i {m with Stack:=S}:=by
 have hp:=fb wb s F m S x hS (by omega);unfold jK bE at *;refine rX [] [5003,5004,5005] func143 ?_;simp[-cB,f143];intro bs bL;simp[-cB,aD];refine eD [5003,5004,5005] hp ?_;simp[-cB];refine eD [] dr ?_;simp[-cB]
theorem Q7(wb:Nat)(s:al)(F:Int)(m:ah)(i:ai)(S:List Int)(x:Int)(aD:i.Op=34)(hS:m.Stack=S++ [x])(hl:S.length<=100000)(hx:1<=x/\x<=12):jK wb s F m i {m with Stack:=S,Told:={m.Told with World:={m.Told.World with Go:=x}}}:=by
 have hp:=fb wb s F m S x hS (by omega);have h1:¬x<1:=by omega
 have h2:¬12<x:=by omega
 unfold jK bE at *;refine rX [] [5003,5004,5005] func143 ?_;simp[-cB,f143];intro bs bL;simp[-cB,aD];refine eD [5003,5004,5005] hp ?_;simp[-cB,h1,h2];refine eD [] dr ?_;simp[-cB]
theorem Q6(wb:Nat)(s:al)(F:Int)(m:ah)(i:ai)(S:List Int)(x:Int)(aD:i.Op=34)(hS:m.Stack=S++ [x])(hl:S.length<=100000)(hx:¬(1<=x/\x<=12)):CT wb s F m i 5:=by
 refine⟨{m with Stack:=S},?_⟩;have hp:=fb wb s F m S x hS (by omega);have hc:=iK 5 (by decide);unfold bE at *;by_cases h1:x<1
 ·refine rX [] [5003,5004,5005] func143 ?_;simp[-cB,f143];intro bs bL;simp[-cB,aD];refine eD [5003,5004,5005] hp ?_;simp[-cB,h1];refine au.kN [] rfl (hc) (by simp) rfl (by simp) (by kernel_rfl) (by first|rfl|simp) (by simp) (by simp) (by simp) ?_;simp
 ·have h2:12<x:=by omega
  refine rX [] [5003,5004,5005] func143 ?_;simp[-cB,f143];intro bs bL;simp[-cB,aD];refine eD [5003,5004,5005] hp ?_;simp[-cB,h1,h2];refine au.kN [] rfl (hc) (by simp) rfl (by simp) (by kernel_rfl) (by first|rfl|simp) (by simp) (by simp) (by simp) ?_;simp
theorem QU(wb:Nat)(s:al)(F:Int)(m:ah)(i:ai)(S:List Int)(x:Int)(w':aj)(aD:i.Op=15)(hS:m.Stack=S++ [x])(hl:S.length<=100000)(hF:cZ m.Told.World)(hlen:m.Told.World.Flags.length<=100000)(hv:eb m.Told.World x i.Arg true=(w',0)):jK wb s F m i {m with Stack:=S,Told:={m.Told with World:=w'}}:=by
 have hp:=fR wb s F m S x hS (by omega);have fw:=PX m.Told.World hF hlen x i.Arg;rw[hv]at fw;unfold jK bE at *;unfold pU at hp;refine rX [] [5003,5004,5005] func143 ?_;simp[-cB,f143];intro bs bL;simp[-cB,aD];refine av.ee aT (dM.m0 [Q3,Q0,none,Q3,Q3,arb,arb,arb,arh,none,ard] [.bA [.agg (w'.enc.map .d),iD 0]] (by kernel_rfl) ?_);simp[-cB];refine gP.intro (λ_=>fU.jk (s:=⟨_,_⟩) 5004 [5003,5004] [5005] rfl (hp) rfl rfl (by kernel_rfl) (by first|rfl|simp) (by simp) (by simp[db,aV.cj,V.cj]) (cM (by simp)) (by simp) (by simp)) ?_;simp[-cB];refine⟨fw.ok _,?_⟩;refine eD [] dr ?_;simp[-cB]
theorem QV(wb:Nat)(s:al)(F:Int)(m:ah)(i:ai)(S:List Int)(x:Int)(w':aj)(e:Int)(he:e≠0)(aD:i.Op=15)(hS:m.Stack=S++ [x])(hl:S.length<=100000)(hF:cZ m.Told.World)(hlen:m.Told.World.Flags.length<=100000)(hv:eb m.Told.World x i.Arg true=(w',e)):CT wb s F m i e:=by
 refine⟨{m with Stack:=S},?_⟩;have hc:=iK e he;have hp:=fR wb s F m S x hS (by omega);have fw:=PX m.Told.World hF hlen x i.Arg;rw[hv]at fw;unfold bE at *;unfold pU at hp;refine rX [] [5003,5004,5005] func143 ?_;simp[-cB,f143];intro bs bL;simp[-cB,aD];refine av.ee aT (dM.m0 [Q3,Q0,none,Q3,Q3,arb,arb,arb,arh,none,ard] [.bA [.agg (w'.enc.map .d),iD e]] (by kernel_rfl) ?_);simp[-cB];refine gP.intro (λ_=>fU.jk (s:=⟨_,_⟩) 5004 [5003,5004] [5005] rfl (hp) rfl rfl (by kernel_rfl) (by first|rfl|simp) (by simp) (by simp[db,aV.cj,V.cj]) (cM (by simp)) (by simp) (by simp)) ?_;simp[-cB];refine⟨fw.ok _,?_⟩;refine au.kN [] rfl (hc) (by simp) rfl (by simp) (by kernel_rfl) (by first|rfl|simp) (by simp) (by simp) (by simp) ?_;simp
theorem QW(wb:Nat)(s:al)(F:Int)(m:ah)(i:ai)(S:List Int)(x:Int)(w':aj)(aD:i.Op=16)(hS:m.Stack=S++ [x])(hl:S.length<=100000)(hF:cZ m.Told.World)(hlen:m.Told.World.Flags.length<=100000)(hv:eb m.Told.World x i.Arg false=(w',0)):jK wb s F m i {m with Stack:=S,Told:={m.Told with World:=w'}}:=by
 have hp:=fR wb s F m S x hS (by omega);have fw:=I8 m.Told.World hF hlen x i.Arg;rw[hv]at fw;unfold jK bE at *;unfold pU at hp;refine rX [] [5003,5004,5005] func143 ?_;simp[-cB,f143];intro bs bL;simp[-cB,aD];refine av.ee aT (dM.m0 [Q3,Q0,none,Q3,Q3,arb,arb,arb,arh,none,ard] [.bA [.agg (w'.enc.map .d),iD 0]] (by kernel_rfl) ?_);simp[-cB];refine gP.intro (λ_=>fU.jk (s:=⟨_,_⟩) 5004 [5003,5004] [5005] rfl (hp) rfl rfl (by kernel_rfl) (by first|rfl|simp) (by simp) (by simp[db,aV.cj,V.cj]) (cM (by simp)) (by simp) (by simp)) ?_;simp[-cB];refine⟨fw.ok _,?_⟩;refine eD [] dr ?_;simp[-cB]
theorem QX(wb:Nat)(s:al)(F:Int)(m:ah)(i:ai)(S:List Int)(x:Int)(w':aj)(e:Int)(he:e≠0)(aD:i.Op=16)(hS:m.Stack=S++ [x])(hl:S.length<=100000)(hF:cZ m.Told.World)(hlen:m.Told.World.Flags.length<=100000)(hv:eb m.Told.World x i.Arg false=(w',e)):CT wb s F m i e:=by
 refine⟨{m with Stack:=S},?_⟩;have hc:=iK e he;have hp:=fR wb s F m S x hS (by omega);have fw:=I8 m.Told.World hF hlen x i.Arg;rw[hv]at fw;unfold bE at *;unfold pU at hp;refine rX [] [5003,5004,5005] func143 ?_;simp[-cB,f143];intro bs bL;simp[-cB,aD];refine av.ee aT (dM.m0 [Q3,Q0,none,Q3,Q3,arb,arb,arb,arh,none,ard] [.bA [.agg (w'.enc.map .d),iD e]] (by kernel_rfl) ?_);simp[-cB];refine gP.intro (λ_=>fU.jk (s:=⟨_,_⟩) 5004 [5003,5004] [5005] rfl (hp) rfl rfl (by kernel_rfl) (by first|rfl|simp) (by simp) (by simp[db,aV.cj,V.cj]) (cM (by simp)) (by simp) (by simp)) ?_;simp[-cB];refine⟨fw.ok _,?_⟩;refine au.kN [] rfl (hc) (by simp) rfl (by simp) (by kernel_rfl) (by first|rfl|simp) (by simp) (by simp) (by simp) ?_;simp
theorem Q4(wb:Nat)(s:al)(F:Int)(m:ah)(i:ai)(S:List Int)(x:Int)(aD:i.Op=31)(hS:m.Stack=S++ [x])(hl:S.length<=100000):jK wb s F m i {m with Stack:=S,Told:={m.Told with World:={m.Told.World with Score:=zR m.Told.World.Score x}}}:=by
 have hp:=fR wb s F m S x hS (by omega);have fw:=Yw m.Told.World.Score x;unfold jK bE at *;unfold pU at hp;refine rX [] [5003,5004,5005] func143 ?_;simp[-cB,f143];intro bs bL;simp[-cB,aD];refine av.ee aT (dM.m0 [Q3,Q3,Q0,none,arb,arb,none] [iD (zR m.Told.World.Score x)] (by kernel_rfl) ?_);simp[-cB];refine gP.intro (λ_=>fU.jk (s:=⟨_,_⟩) 5004 [5003,5004] [5005] rfl (hp) rfl rfl (by kernel_rfl) (by first|rfl|simp) (by simp) (by simp[db,aV.cj,V.cj]) (cM (by simp)) (by simp) (by simp)) ?_;simp[-cB];refine⟨fw.ok _,?_⟩;refine eD [] dr ?_;simp[-cB]
theorem QT(wb:Nat)(s:al)(F:Int)(m:ah)(i:ai)(S:List Int)(x:Int)(aD:i.Op=20)(hS:m.Stack=S++ [x])(hl:S.length<=100000)(hx:¬aq x<1):jb wb s F m i {m with Stack:=S++ [aq ((kE m.Told.World.cO (aq x)).1+1)],Told:={m.Told with World:={m.Told.World with cO:=(kE m.Told.World.cO (aq x)).2}}}:=by
 have hp:=fR wb s F m S x hS (by omega);have fw:=Lv m.Told.World x;rw[if_neg hx]at fw;generalize kE m.Told.World.cO (aq x)=R at *;obtain⟨v,q⟩:=R;have hq:=lx wb s F {m with Stack:=S,Told:={m.Told with World:={m.Told.World with cO:=q}}} (v+1) (by simp;omega);unfold jb bE at *;unfold pU at hp;refine rX [] [5003,5004,5005] func83 ?_;simp[-cB,f83];intro bs bL;simp[-cB,aD];refine av.ee aT (dM.m0 [Q3,Q3,Q0,none,arb,arb,arb,arb,arh,arb,arb,arb,arb,arb,none,ard] [.bA [iD (v+1),.agg (({m.Told.World with cO:=q}:aj).enc.map .d),iD 0]] (by kernel_rfl) ?_);simp[-cB];refine gP.intro (λ_=>fU.jk (s:=⟨_,_⟩) 5004 [5003,5004] [5005] rfl (hp) rfl rfl (by kernel_rfl) (by first|rfl|simp) (by simp) (by simp[db,aV.cj,V.cj]) (cM (by simp)) (by simp) (by simp)) ?_;simp[-cB];refine⟨fw.ok _,?_⟩;refine eD [] dr ?_;simp[-cB];refine eD [5003,5004,5005] hq ?_;simp
theorem QS(wb:Nat)(s:al)(F:Int)(m:ah)(i:ai)(S:List Int)(x:Int)(aD:i.Op=20)(hS:m.Stack=S++ [x])(hl:S.length<=100000)(hx:aq x<1):AY wb s F m i 1:=by
 refine⟨{m with Stack:=S},?_⟩;have hc:=iK 1 (by decide);have hp:=fR wb s F m S x hS (by omega);have fw:=Lv m.Told.World x;rw[if_pos hx]at fw;unfold bE at *;unfold pU at hp;refine rX [] [5003,5004,5005] func83 ?_;simp[-cB,f83];intro bs bL;simp[-cB,aD];refine av.ee aT (dM.m0 [Q3,Q3,Q0,none,arb,arb,arb,arb,arh,arb,arb,arb,arb,arb,none,ard] [.bA [iD 0,.agg (m.Told.World.enc.map .d),iD 1]] (by kernel_rfl) ?_);simp[-cB];refine gP.intro (λ_=>fU.jk (s:=⟨_,_⟩) 5004 [5003,5004] [5005] rfl (hp) rfl rfl (by kernel_rfl) (by first|rfl|simp) (by simp) (by simp[db,aV.cj,V.cj]) (cM (by simp)) (by simp) (by simp)) ?_;simp[-cB];refine⟨fw.ok _,?_⟩;refine au.kN [] rfl (hc) (by simp) rfl (by simp) (by kernel_rfl) (by first|rfl|simp) (by simp) (by simp) (by simp) ?_;simp
end Go.Ab

/-
  The texts Lco2 Lty13 Lfuel Rend Rsame Rfuel Rawk Rlaw2, one behind the other.
-/
import Derived.Test.YtmhnopomnpgcjaaGreatDoorMg9
set_option linter.unusedSimpArgs false
set_option linter.unusedVariables false
namespace Go.Ab
def bkJ(a:List ae)(i:ae)(b:List ae):Prop:=
 (∃b1 b2,b=b1++⟨38,i.Arg⟩::b2)\/(∃a1 a2,a=a1++⟨38,i.Arg⟩::tick::a2)\/(i.Op=24/\∃a1 x e a2 b',a=a1++⟨38,i.Arg⟩::⟨5,x⟩::⟨25,e⟩::tick::a2/\b=⟨38,e⟩::b')
def GP:List ae->List ae->List ae->Prop
 | _,[],_=>True
 | p,i::r,q=>((i.Op=24\/i.Op=25)->bkJ p i (r++q))/\GP (p++ [i]) r q
theorem iG:∀(a:List ae) {p b q:List ae},GP p a (b++q)->GP (p++a) b q->GP p (a++b) q
 | [],p,b,q,_,h=>by simpa using h
 | i::a,p,b,q,h1,h2=>by
   refine⟨λhi=>by show bkJ p i ((a++b)++q);rw[ap0];exact h1.1 hi,iG a h1.2 ?_⟩;rw[ap0];exact h2
def pM(c:List ae):Prop:=∀p q,GP p c q
theorem pM.nil:pM []:=λ_ _=>trivial
theorem pM.app{a b:List ae}(ha:pM a)(hb:pM b):pM (a++b):=λp q=>iG a (ha p _) (hb _ q)
theorem pM.cons{i:ae}{r:List ae}(h:i.Op≠24/\i.Op≠25)(hr:pM r):pM (i::r):=λp q=>⟨λe=>(by omega),hr _ q⟩
theorem pM.one{i:ae}(h:i.Op≠24/\i.Op≠25):pM [i]:= .cons h .nil
theorem Xz{p:Prop}[Decidable p]{a b:ae}(ha:a.Op≠24/\a.Op≠25)(hb:b.Op≠24/\b.Op≠25):(if p then a else b).Op≠24/\(if p then a else b).Op≠25:=by
 split
 ·exact ha
 ·exact hb
theorem afr(e:au):(cG e).Op≠24/\(cG e).Op≠25:=by
 unfold cG
 repeat' refine Xz ?_ ?_
 all_goals exact⟨by simp,by simp⟩
theorem adL(k n:Int):(eS k n).Op≠24/\(eS k n).Op≠25:=by
 unfold eS
 repeat' refine Xz ?_ ?_
 all_goals exact⟨by simp,by simp⟩
theorem GQ:∀(l:List au),(∀e∈l,∀n,pM (aT e n).1)->∀n,pM (aK l n).1
 | [],_,n=>by rw[aK];exact .nil
 | x::l,h,n=>by rw[aK];exact(h x (by simp) n).app (GQ l (λe he=>h e (by simp[he])) _)
theorem Sl(e:au)(n:Int):pM (aT e n).1:=by
 obtain⟨N,hN⟩:∃N,SizeOf.sizeOf e<N:=⟨_,ap5 _⟩
 induction N generalizing e n with
 | zero=>omega
 | succ N ih=>
   have hs:∀x∈e.av,∀m,pM (aT x m).1:=λx hx m=>ih x m (by have:=au.mO hx;omega)
   by_cases hL:qe e
   ·obtain⟨hk,ho⟩:=hL;by_cases hA:∃a b r,e.av=a::b::r
    ·obtain⟨a,b,r,hA⟩:=hA;have ha:=hs a (by rw[hA];simp) (n+2);have hb:=hs b (by rw[hA];simp) (aT a (n+2)).2;rcases ho with ho|ho
     ·rw[uE e a b r n hk ho hA];simp only[ap0,apZ,ap4];generalize (aT a (n+2)).1=A at *;generalize (aT b (aT a (n+2)).2).1=B at *;intro p q;refine iG A (ha p _) ⟨λ_=> .inl ⟨[⟨1,1⟩,⟨24,n+1⟩],_,rfl⟩,λe=>by simp at e,λ_=> .inl ⟨⟨38,n⟩::(B++ [⟨11,0⟩]),q,by simp⟩,λe=>by simp at e,?_⟩;exact iG B (hb _ _) ⟨λe=>by simp at e,λe=>by simp at e,trivial⟩
     ·rw[sy e a b r n hk ho hA];simp only[ap0,apZ,ap4];generalize (aT a (n+2)).1=A at *;generalize (aT b (aT a (n+2)).2).1=B at *;intro p q;refine iG A (ha p _) ⟨λ_=> .inl ⟨B++ [⟨11,0⟩,⟨24,n+1⟩],⟨1,0⟩::⟨38,n+1⟩::q,by simp⟩,?_⟩;exact iG B (hb _ _) ⟨λe=>by simp at e,λ_=> .inl ⟨[⟨38,n⟩,⟨1,0⟩],q,rfl⟩,λe=>by simp at e,λe=>by simp at e,λe=>by simp at e,trivial⟩
    ·have e0:(aT e n).1=[]:=by
      cases e with
      | mk k o nn s l=>
        have pL:k=6:=hk;have ir:o=1\/o=2:=ho;rw[aT.eq_def];simp only;rw[if_pos ⟨pL,ir⟩]
        match l,hA with
        | [],_=>rfl
        | [_],_=>rfl
        | a::b::r,hA=>exact(hA ⟨a,b,r,rfl⟩).elim
     rw[e0];exact .nil
   ·rw[oz e n hL];exact(GQ e.av hs n).app (.one (afr e))
theorem KZ(l:List au)(n:Int):pM (aK l n).1:=GQ l (λe _ n=>Sl e n) n
theorem adM(x:au)(n:Int):pM (eM x n).1:=by
 unfold eM;split
 ·exact .one ⟨by simp,by simp⟩
 ·split
  ·exact(KZ _ _).app (.one ⟨by simp,by simp⟩)
  ·exact(Sl _ _).app (.one ⟨by simp,by simp⟩)
theorem K0:∀(l:List au) (n:Int),pM (cF l n).1
 | [],n=>by rw[cF];exact .nil
 | x::l,n=>by rw[cF];exact(adM x n).app (K0 l _)
theorem Sm:pM [tick]:= .one ⟨by decide,by decide⟩
theorem adN:∀(N:Nat) (l:List al),SizeOf.sizeOf l<N->∀n,pM (aQ l n).1:=by
 intro N
 induction N with
 | zero=>intro l h;omega
 | succ N ih=>
   intro l hl n;cases l with
   | nil=>rw[aQ];exact .nil
   | cons s l=>
     rw[aQ];simp only[aqt]at hl;refine pM.app ?_ (ih l (by omega) _);have hb:∀m,pM (aQ s.Body m).1:=λm=>ih s.Body (by cases s;simp only[al.mk.sizeOf_spec,al.Sn]at hl⊢;omega) m
     have hc:∀m,pM (aQ s.bC m).1:=λm=>ih s.bC (by cases s;simp only[al.mk.sizeOf_spec,al.So]at hl⊢;omega) m
     have ha:∀m,pM (aK s.av m).1:=λm=>KZ _ m
     by_cases h9:s.Kind=9
     ·by_cases he:s.bC=[]
      ·rw[sz s n h9 he];have h1:=ha (n+1);have h2:=hb (aK s.av (n+1)).2;generalize (aK s.av (n+1)).1=A at *;generalize (aQ s.Body (aK s.av (n+1)).2).1=B at *;simp only[ap0,apZ,ap4];intro p q;refine⟨λe=>by simp[tick]at e,iG A (h1 _ _) ⟨λ_=> .inl ⟨B,q,by simp⟩,iG B (h2 _ _) ⟨λe=>by simp at e,trivial⟩⟩⟩
      ·rw[sA s n h9 he];have h1:=ha (n+2);have h2:=hb (aK s.av (n+2)).2;have h3:=hc (aQ s.Body (aK s.av (n+2)).2).2;generalize (aK s.av (n+2)).1=A at *;generalize (aQ s.bC (aQ s.Body (aK s.av (n+2)).2).2).1=C at *;generalize (aQ s.Body (aK s.av (n+2)).2).1=B at *;simp only[ap0,apZ,ap4];intro p q;refine⟨λe=>by simp[tick]at e,iG A (h1 _ _) ⟨λ_=> .inl ⟨B++ [⟨24,n+1⟩],C++⟨38,n+1⟩::q,by simp⟩,iG B (h2 _ _) ⟨λ_=> .inl ⟨⟨38,n⟩::C,q,by simp⟩,λe=>by simp at e,iG C (h3 _ _) ⟨λe=>by simp at e,trivial⟩⟩⟩⟩
     by_cases dX:s.Kind=10
     ·rw[oA s n dX];have h1:=ha (n+2);have h2:=hb (aK s.av (n+2)).2;generalize (aK s.av (n+2)).1=A at *;generalize (aQ s.Body (aK s.av (n+2)).2).1=B at *;simp only[ap0,apZ,ap4];intro p q;refine⟨λe=>by simp at e,λe=>by simp[tick]at e,iG A (h1 _ _) ⟨λ_=> .inl ⟨B++ [⟨24,n⟩],q,by simp⟩,iG B (h2 _ _) ⟨λ_=> .inr (.inl ⟨p,A++⟨25,n+1⟩::B,by simp⟩),λe=>by simp at e,trivial⟩⟩⟩
     by_cases fT:s.Kind=11
     ·rw[qg s n fT];have h1:=ha (n+2);have h2:=hb (aK s.av (n+2)).2;generalize (aK s.av (n+2)).1=A at *;generalize (aQ s.Body (aK s.av (n+2)).2).1=B at *;simp only[ap0,apZ,ap4];intro p q;refine⟨λe=>by simp[tick]at e,iG A (h1 _ _) ⟨λe=>by simp at e,λe=>by simp at e,λe=>by simp at e,λe=>by simp at e,λ_=> .inl ⟨tick::⟨5,s.aI⟩::⟨19,3⟩::⟨6,s.aI+1⟩::(B++ [⟨5,s.aI+1⟩,⟨6,s.aI⟩,⟨24,n⟩]),q,by simp⟩,λe=>by simp[tick]at e,λe=>by simp at e,λe=>by simp at e,λe=>by simp at e,iG B (h2 _ _) ⟨λe=>by simp at e,λe=>by simp at e,λ_=> .inr (.inr ⟨rfl,p++tick::(A++ [⟨19,2⟩,⟨6,s.aI⟩]),s.aI,n+1,⟨5,s.aI⟩::⟨19,3⟩::⟨6,s.aI+1⟩::(B++ [⟨5,s.aI+1⟩,⟨6,s.aI⟩]),q,by simp,rfl⟩),λe=>by simp at e,trivial⟩⟩⟩
     by_cases h1:s.Kind=1
     ·rw[qh s n h1];exact Sm.app (K0 _ _)
     ·rw[oB s n h9 dX fT h1];exact(Sm.app (ha _)).app (.one (adL _ _))
theorem aaH(b:br)(f:Int):GP [] (bT b f) []:=by
 unfold bT;split
 ·exact((adN _ _ (ap5 _) 0).app (.cons ⟨by simp,by simp⟩ (.one ⟨by simp,by simp⟩))) [] []
 ·trivial
def sW:List ae->Nat
 | []=>1
 | i::r=>(if i.Op=38 then 0 else 4)+sW r
theorem Sp:∀(a:List ae) {r:List ae},sW r<=sW (a++r)
 | [],_=>apU _
 | i::a,r=>by have:=Sp a (r:=r);rw[apZ,sW];omega
theorem E1:∀r:List ae,1<=sW r
 | []=>apU _
 | i::r=>by have:=E1 r;rw[sW];omega
def FT(l:List ae)(n:Int):Nat:=((after l n).map sW).getD 1
def yX(l:List ae)(n:Int):Nat:=match after l n with
 | none=>1
 | some r=>if cr r 0=37 then 1 else if cr r 0=5/\cr r 1=25/\cr r 2=37 then min (sW r) (2+max 1 (FT l (bg r 1)))else sW r
theorem XA(l:List ae)(n:Int):yX l n<=FT l n:=by
 unfold yX FT;cases after l n with
 | none=>exact apU _
 | some r=>
   have:=E1 r;show(if _ then _ else _)<=sW r;split
   ·exact this
   ·split
    ·exact Nat.min_le_left _ _
    ·exact apU _
theorem Sq{l:List ae}(hu:(bN l).Nodup):∀(r a:List ae),l=a++r->GP a r []->cp (yX l) r<=sW r/\mP (yX l) r
 | [],a,_,_=>⟨apU _,trivial⟩
 | i::r,a,hl,hb=>by
   obtain⟨CY,FH⟩:=Sq hu r (a++ [i]) (by rw[hl];simp) hb.2;have hp:=E1 r;have xN:∀{a1 b1:List ae} {n:Int},l=a1++⟨38,n⟩::b1->after l n=some b1:=λ{a1 b1 n} e=>by rw[e]at hu⊢;exact Bl hu
   have afs:(i.Op=24\/i.Op=25)->yX l i.Arg<=sW r\/i.Op=24/\yX l i.Arg<=2+sW r:=λhi=>by
    have hj:=hb.1 hi;rw[aqp]at hj;rcases hj with⟨b1,b2,h⟩|⟨a1,a2,h⟩|⟨fe,a1,x,e,a2,b',h,h'⟩
    ·left;have e1:=xN (a1:=a++i::b1) (b1:=b2) (n:=i.Arg) (by rw[hl,h];simp);have e2:=XA l i.Arg;have e3:FT l i.Arg=sW b2:=by unfold FT;rw[e1];rfl
     have e4:=Sp (b1++ [⟨38,i.Arg⟩]) (r:=b2);rw[h,show b1++⟨38,i.Arg⟩::b2=(b1++ [⟨38,i.Arg⟩])++b2 by simp];omega
    ·left;have e1:=xN (a1:=a1) (b1:=tick::(a2++i::r)) (n:=i.Arg) (by rw[hl,h];simp);have e2:yX l i.Arg=1:=by unfold yX;rw[e1];rfl
     omega
    ·right;refine⟨fe,?_⟩;have e1:=xN (a1:=a1) (b1:=⟨5,x⟩::⟨25,e⟩::tick::(a2++i::r)) (n:=i.Arg) (by rw[hl,h];simp);have e2:=xN (a1:=a++ [i]) (b1:=b') (n:=e) (by rw[hl,h'];simp);have e3:yX l i.Arg<=2+max 1 (FT l e):=by
      unfold yX;rw[e1];show(if(5:Int)=37 then _ else if(5:Int)=5/\(25:Int)=25/\(37:Int)=37 then min _ (2+max 1 (FT l e))else _)<=_;rw[if_neg (by decide),if_pos (by decide)];exact Nat.min_le_right _ _
     have e4:FT l e=sW b':=by unfold FT;rw[e2];rfl
     have e5:=E1 b';have e6:sW r=sW b':=by rw[h',sW];simp
     omega
   have hc:cp (yX l) (i::r)<=sW (i::r):=by
    rw[cp,sW];by_cases ed:i.Op=38
    ·rw[if_pos ed];omega
    rw[if_neg ed,if_neg ed];by_cases rA:i.Op=37
    ·rw[if_pos rA];omega
    rw[if_neg rA];by_cases fe:i.Op=24
    ·rw[if_pos fe];have:=afs (.inl fe);omega
    rw[if_neg fe];by_cases hE:dE i.Op
    ·rw[if_pos hE];omega
    rw[if_neg hE];by_cases gL:i.Op=25
    ·rw[if_pos gL];have:=afs (.inr gL);omega
    rw[if_neg gL];omega
   refine⟨hc,λed=>?_,FH⟩;have e1:=xN (a1:=a) (b1:=r) (n:=i.Arg) (by rw[hl,<-ed]);unfold yX;rw[e1];show _<=if _ then _ else _
   split
   ·rename_i rA;obtain⟨⟨o,x⟩,t,rfl⟩:=dy (r:=r) (by omega);have ho:o=37:=rA;rw[cp];simp[ho]
   ·split
    ·rename_i hh;obtain⟨q1,q2,q3⟩:=hh;refine Nat.le_min.2 ⟨CY,?_⟩;obtain⟨⟨o,x⟩,t,rfl⟩:=dy (r:=r) (by omega);have ho:o=5:=q1;rw[dt]at q2 q3;obtain⟨⟨o2,e⟩,t,rfl⟩:=dy (r:=t) (by omega);have Ax:o2=25:=q2;rw[dt]at q3;obtain⟨⟨o3,y⟩,t,rfl⟩:=dy (r:=t) (by omega);have ho3:o3=37:=q3;subst ho Ax ho3;have:=XA l e;show cp (yX l) _<=2+max 1 (FT l e);rw[cp,cp,cp];simp[dE];omega
    ·exact CY
theorem XB{κ:Int->Nat}{s:al}{n:Int}{r:List ae}:cp κ ((cU s n).1++r)=1:=by
 have ht:∀{r:List ae},cp κ (tick::r)=1:=by intro r;rw[cp];simp[tick]
 have h:∃t,(cU s n).1=tick::t\/(cU s n).1=⟨38,n⟩::tick::t:=by
  by_cases h9:s.Kind=9
  ·by_cases he:s.bC=[]
   ·rw[sz s n h9 he];exact⟨_,.inl rfl⟩
   ·rw[sA s n h9 he];exact⟨_,.inl rfl⟩
  by_cases dX:s.Kind=10
  ·rw[oA s n dX];exact⟨_,.inr rfl⟩
  by_cases fT:s.Kind=11
  ·rw[qg s n fT];exact⟨_,.inl rfl⟩
  by_cases h1:s.Kind=1
  ·rw[qh s n h1];exact⟨_,.inl rfl⟩
  ·rw[oB s n h9 dX fT h1];exact⟨_,.inl rfl⟩
 obtain⟨t,e|e⟩:=h
 ·rw[e,apZ];exact ht
 ·rw[e,apZ,apZ,cp];simp[ht]
theorem Ut(b:br)(f:Int):∃κ,mP κ (dK (bT b f))/\(cp κ (dK (bT b f))<=1\/dK (bT b f)=[⟨1,0⟩,⟨27,0⟩]):=by
 have hk:=(Sq (zR b f) (bT b f) [] rfl (aaH b f)).2;refine⟨_,(JN hk).1,?_⟩;generalize yX (bT b f)=κ at hk;unfold bT at hk⊢;split at hk
 ·rename_i hf;rw[if_pos hf];cases hB:b.aF[f.toNat]?.getD []with
  | nil=>right;rw[aQ];rfl
  | cons s l=>
    left;rw[hB]at hk;have:=(JN hk).2;refine aqo this ?_;rw[aQ,ap0,XB];exact apU _
 ·rename_i hf;rw[if_neg hf];left;exact(JN hk).2
end Go.Ab
namespace Go.Ab
def CG(i:ae):Nat:=if i.Op=26 then 4 else 1
def rR(κ:Int->Nat)(k:Nat):List ae->Nat
 | []=>0
 | i::r=>(if i.Op≠38/\2<=cp κ (i::r)/\cp κ (i::r)<=k then CG i else 0)+rR κ k r
theorem NQ{κ:Int->Nat}{k k':Nat}(h:k'<=k):∀l:List ae,rR κ k' l<=rR κ k l
 | []=>apU _
 | i::r=>by
   have:=NQ (κ:=κ) h r;rw[rR,rR];split
   ·rw[if_pos ⟨by omega,by omega,by omega⟩];omega
   ·omega
theorem XD{κ:Int->Nat}{k':Nat}{i:ae}{r:List ae}(ed:i.Op≠38)(h2:2<=cp κ (i::r))(hk:k'<cp κ (i::r)):∀a:List ae,rR κ k' (a++i::r)+CG i<=rR κ (cp κ (i::r)) (a++i::r)
 | []=>by
   have:=NQ (κ:=κ) (Nat.le_of_lt hk) r;rw[ap4,rR,rR,if_neg (by omega),if_pos ⟨ed,h2,apU _⟩];omega
 | j::a=>by
   have:=XD ed h2 hk a;rw[apZ,rR,rR];split
   ·rw[if_pos ⟨by omega,by omega,by omega⟩];omega
   ·omega
theorem Sr{κ:Int->Nat}{k:Nat}(h:k<=1):∀l:List ae,rR κ k l=0
 | []=>rfl
 | i::r=>by rw[rR,if_neg (by omega),Sr h r]
theorem XE{w:Zl}{k:Nat}{p:ae×Nat}(h:ac7 w k p)(hp:p.1.Op≠38):1<=cL p:=by
 obtain⟨h1,h2,-⟩:=h.2.resolve_left hp;unfold cL;rw[if_neg hp];split
 ·omega
 ·unfold mz;rw[if_neg (by omega)];simp[fD]
theorem XF{κ:Int->Nat}{k:Nat}:∀z:Zl,(∀p∈z,p.1.Op≠38->1<=cL p)->rR κ k (z.map Prod.fst)<=4 *aU z
 | [],_=>apU _
 | p::z,h=>by
   have:=XF (κ:=κ) (k:=k) z (λq hq=>h q (by simp[hq]));rw[aqd,rR,Dm];split
   ·rename_i hc;have:=h p (by simp) hc.1;have:CG p.1<=4:=by unfold CG;split<;>omega
    omega
   ·omega
theorem K1:∀(z:Zl) (n:Int),(oC z n).isSome->∃r,after (z.map Prod.fst) n=some r
 | [],n,h=>by simp[oC]at h
 | p::z,n,h=>by
   rw[aqd,after];rw[oC]at h;split at h
   ·rename_i hp;rw[if_pos hp];exact⟨_,rfl⟩
   ·rename_i hp;rw[if_neg hp];refine K1 z n ?_;cases hl:oC z n with
    | none=>rw[hl]at h;cases h
    | some x=>rfl
theorem K2:∀(a:Zl),(∀i∈a.map Prod.fst,i.Op=38)->aU a=0
 | [],_=>rfl
 | p::a,h=>by
   have ed:p.1.Op=38:=h p.1 (by simp);rw[Dm,K2 a (λi hi=>h i (by simp at hi⊢;exact .inr hi))];simp[cL,ed]
structure xT(c:XC) (s:an) (f:aG) (z a b:Zl) (pre:List Int):Prop where
 hz:z.map Prod.fst=dK (bT c.B f.dF)
 laid:NR s f.dF z pre
 split:z=a++b
 at':f.At=pre.length+aU a
theorem xT.dj{c:XC}{s:an}{f:aG}{z a b1 b:Zl}{pre:List Int}(h:xT c s f z a (b1++b) pre)(hl:∀i∈b1.map Prod.fst,i.Op=38):xT c s f z (a++b1) b pre:=
 ⟨h.hz,h.laid,by rw[h.split];simp,by rw[h.at',xU,K2 b1 hl];rfl⟩
theorem xT.dec{c:XC}{s:an}{f:aG}{z a b:Zl}{p:ae×Nat}{pre:List Int}(h:xT c s f z a (p::b) pre)(hp:p.1.Op≠38):mA s.Code f.At=(⟨p.1.Op,if jmp p.1.Op then fY z p.1.Arg (aU a+cL p)else p.1.Arg⟩,(pre.length:Int)+aU a+cL p,0):=by
 obtain⟨post,yY⟩:=h.laid.2.1;have xV:=XG h.split h.laid.1 hp pre post;rw[<-yY]at xV;rw[h.at'];exact xV
theorem xT.next{c:XC}{s:an}{f:aG}{z a b:Zl}{p:ae×Nat}{pre:List Int}(h:xT c s f z a (p::b) pre)(L:List Int):xT c s {f with At:=(pre.length:Int)+aU a+cL p,aJ:=L} z (a++ [p]) b pre:=
 ⟨h.hz,h.laid,by rw[h.split];simp,by rw[xU];simp[aU];omega⟩
theorem xT.jump{c:XC}{s:an}{f:aG}{z a b:Zl}{p:ae×Nat}{pre:List Int}(h:xT c s f z a (p::b) pre)(hp:p.1.Op≠38)(hj:jmp p.1.Op=true)(L:List Int):
  ∃a' b',after (z.map Prod.fst) p.1.Arg=some (b'.map Prod.fst)/\xT c s {f with At:=(pre.length:Int)+aU a+cL p+fY z p.1.Arg (aU a+cL p),aJ:=L} z a' b' pre:=by
 have hg:=(h.laid.1 a p b h.split).2.resolve_left hp;have hs:=hg.2.2;rw[if_pos hj]at hs;obtain⟨r,hr⟩:=K1 z _ hs.1;obtain⟨a',b',e1,e2,e3⟩:=zS z _ r hr;refine⟨a',b',by rw[e2];exact hr,h.hz,h.laid,e1,?_⟩;show(pre.length:Int)+aU a+cL p+fY z p.1.Arg (aU a+cL p)=_;unfold fY;rw[e3];simp only[aqF];omega
theorem xT.rk{c:XC}{s:an}{f:aG}{z a b:Zl}{pre:List Int}(h:xT c s f z a b pre)(κ:Int->Nat)(k:Nat):rR κ k (z.map Prod.fst)<=4 *s.Code.length:=by
 obtain⟨hg,⟨post,hc⟩,-⟩:=h.laid;have h1:=XF (κ:=κ) (k:=k) z (λp hp qi=>by
  obtain⟨a1,a2,e⟩:=arh hp;exact XE (hg a1 p a2 e) qi)
 have h2:=Dq z 0 z (λp hp=>by
  obtain⟨a1,a2,e⟩:=arh hp;exact(hg a1 p a2 e).1)
 rw[hc];simp only[apX];omega
def Dr(c:XC)(s:an)(f:aG)(h φ:Nat):Prop:=∃(z a b:Zl) (pre:List Int) (Γ κ:Int->Nat),xT c s f z a b pre/\(ez 290 (oh c) Γ (z.map Prod.fst) (some 0)/\mP κ (z.map Prod.fst))/\ez 290 (oh c) Γ (b.map Prod.fst) (some h)/\1+rR κ (cp κ (b.map Prod.fst)) (z.map Prod.fst)<=φ
def yZ(c:XC)(s:an):List aG->Nat->Nat->Prop
 | [],n,_=>n<=1
 | f::F,n,Φ=>∃B h φ rB:Nat,f.cE=B/\B<=n/\n<=B+h/\h<=290/\φ+rB<=Φ/\Dr c s f h φ/\yZ c s F (B+1) rB
theorem yZ.len{c:XC}{s:an}:∀{F:List aG} {n Φ:Nat},yZ c s F n Φ->n<=290 *F.length+1
 | [],n,_,h=>h
 | f::F,n,_,h=>by
   obtain⟨B,h',_,_,-,-,h1,h2,-,-,h3⟩:=h;have:=h3.len;rw[apY];omega
theorem Dr.split{c:XC}{s:an}{f:aG}{h φ:Nat}(hf:Dr c s f h φ):∃(z a b:Zl) (p:ae×Nat) (pre:List Int) (Γ κ:Int->Nat),xT c s f z a (p::b) pre/\p.1.Op≠38/\(ez 290 (oh c) Γ (z.map Prod.fst) (some 0)/\mP κ (z.map Prod.fst))/\Ss 290 (oh c) Γ p.1 (some h)/\ez 290 (oh c) Γ (b.map Prod.fst) (fL (oh c) Γ p.1 (some h))/\1+rR κ (cp κ (p.1::b.map Prod.fst)) (z.map Prod.fst)<=φ:=by
 obtain⟨z,a,b,pre,Γ,κ,h1,h2,h3,h4⟩:=hf;obtain⟨a1,i,t,e1,e2,e3,e4⟩:=Su h3;obtain⟨b1,b2,rfl,e5,e6⟩:=List.map_eq_append_iff.1 e1;obtain⟨p,b3,rfl,e7,e8⟩:=List.map_eq_cons_iff.1 e6;subst e5 e7 e8;refine⟨z,a++b1,b3,p,pre,Γ,κ,h1.dj e2,e3,h2,e4.1,e4.2,?_⟩;have skip:∀(l:List ae) {r:List ae},(∀i∈l,i.Op=38)->cp κ (l++r)=cp κ r:=by
  intro l
  induction l with
  | nil=>intro r _;rfl
  | cons i l ih=>intro r hl;rw[apZ,cp,if_pos (hl i (by simp)),ih (λj hj=>hl j (by simp[hj]))]
 rw[e1,skip _ e2]at h4;exact h4
structure H2(c:XC) (s:an):Prop where
 laid:Laid s (λf=>dK (bT c.B f))
 ty:∀f,eJ c.B.aF f->∃Γ,ez 290 (oh c) Γ (dK (bT c.B f)) (some 0)
 hE:s.Entry.length=c.B.aF.length
theorem H2.enter{c:XC}{s:an}(hs:H2 c s){r:Int}(hr:eJ s.Entry r)(B:Int)(L:List Int):Dr c s ⟨r,aC s.Entry r,B,L⟩ 0 2:=by
 have cO:eJ c.B.aF r:=⟨hr.1,by rw[<-hs.hE];exact hr.2⟩
 obtain⟨Γ,kY⟩:=hs.ty r cO;obtain⟨κ,hκ,hc⟩:=Ut c.B r;have bU:dK (bT c.B r)≠ []:=by intro e;rw[e]at kY;cases kY
 obtain⟨-,z,pre,hz,wP⟩:=hs.laid r bU;simp only at hz;rw[<-hz]at kY hκ hc;refine⟨z,[],z,pre,Γ,κ,⟨hz,wP,rfl,by show aC s.Entry r=_;rw[wP.2.2];simp[aU]⟩,⟨kY,hκ⟩,kY,?_⟩;rcases hc with hc|hc
 ·rw[Sr hc];omega
 ·rw[hc];simp[rR,cp,dE,CG]
theorem adO{c:XC}{s:an}{m m':aj}{Φ:Nat}(hs:H2 c s)(hd:m.bX=false)(hj:yZ c s m.Frames.reverse m.Stack.length Φ)(h:db (aX c) s m=some m'):m'.Stack.length<=m.Stack.length/\m'.bX=true\/∃rB,yZ c s m'.Frames.reverse m'.Stack.length rB/\(rB+1<=Φ\/m'.Told.Fuel=m.Told.Fuel+1/\rB<=Φ+4 *s.Code.length):=by
 unfold db at h;rw[if_neg (by rw[hd];simp)]at h;split at h
 ·rename_i f hf;split at h
  ·rename_i hB;have uw:m.Frames=m.Frames.dropLast++ [f]:=by
    have bU:m.Frames≠ []:=by intro e;rw[e]at hf;cases hf
    have:=arM bU;rw[aro bU,akC]at hf;rw[hf]at this;exact this.symm
   generalize m.Frames.dropLast=Fr at *;rw[uw]at hj;simp only[arI,arL,List.reverse_nil,ap4,List.singleton_append]at hj;obtain⟨B,ht,φ,K3,Ay,pP,hb3,hb4,hb5,ia,aft⟩:=hj;obtain⟨z,a,b,p,pre,Γ,κ,dx,hp,Az,aS,H3,hφ⟩:=ia.split;rw[dx.dec hp]at h;have hBn:f.cE.toNat=B:=by omega
   have hTl:(dI m f).length+B=m.Stack.length:=by unfold dI;simp;omega
   have hTk:(m.Stack.take f.cE.toNat).length=B:=by simp;omega
   have aaI:=aS.2 ht rfl;have hz:z.map Prod.fst=a.map Prod.fst++p.1::b.map Prod.fst:=by rw[dx.split];simp
   have down:∀{k:Nat},k<cp κ (p.1::b.map Prod.fst)->1<=k->1+rR κ k (z.map Prod.fst)+CG p.1<=φ:=λ{k} hk h1=>by
    have:=XD (κ:=κ) (k':=k) (i:=p.1) (r:=b.map Prod.fst) hp (by omega) hk (a.map Prod.fst);rw[<-hz]at this;omega
   have nxt:∀(L:List Int) (h':Nat),fL (oh c) Γ p.1 (some ht)=some h'->Dr c s {f with At:=(pre.length:Int)+aU a+cL p,aJ:=L} h' (1+rR κ (cp κ (b.map Prod.fst)) (z.map Prod.fst))/\h'<=290:=λL h' e=>by
    rw[e]at H3;exact⟨⟨z,a++ [p],b,pre,Γ,κ,dx.next L,Az,H3,apU _⟩,aaI.2.2 h' e⟩
   have aaJ:∀(L:List Int) (h':Nat),fL (oh c) Γ p.1 (some ht)=some h'->cp κ (b.map Prod.fst)<cp κ (p.1::b.map Prod.fst)->∃nO,nO+CG p.1<=φ/\Dr c s {f with At:=(pre.length:Int)+aU a+cL p,aJ:=L} h' nO/\h'<=290:=λL h' e hc=>⟨_,down hc (JO _),nxt L h' e⟩
   have afu:jmp p.1.Op=true->κ p.1.Arg<cp κ (p.1::b.map Prod.fst)->∀L:List Int,∃nO,nO+CG p.1<=φ/\Dr c s {f with At:=(pre.length:Int)+aU a+cL p+fY z p.1.Arg (aU a+cL p),aJ:=L} (Γ p.1.Arg) nO/\Γ p.1.Arg<=290:=λhj hc L=>by
    obtain⟨a',b',e1,e2⟩:=dx.jump hp hj L;obtain⟨k1,k2⟩:=GR Az.1 e1;obtain⟨-,k3⟩:=Ds Az.2 e1;exact⟨_,down (Nat.lt_of_le_of_lt k3 hc) (JO _),⟨z,a',b',pre,Γ,κ,e2,Az,k1,apU _⟩,k2⟩
   have w1:p.1.Op≠26->CG p.1=1:=λe=>by unfold CG;rw[if_neg e]
   have c25:p.1.Op=25->cp κ (p.1::b.map Prod.fst)=1+max (κ p.1.Arg) (cp κ (b.map Prod.fst)):=λe=>by
    rw[cp,if_neg hp,if_neg (by omega),if_neg (by omega),if_neg (by unfold dE;omega),if_pos e]
   have top:∀(f':aG) (h' nO n':Nat),f'.cE=f.cE->Dr c s f' h' nO/\h'<=290->B<=n'->n'<=B+h'->yZ c s (Fr++ [f']).reverse n' (nO+K3):=λf' h' nO n' e1 e2 e3 e4=>by
    simp only[arI,arL,List.reverse_nil,ap4,List.singleton_append];exact⟨B,h',nO,K3,by rw[e1];exact Ay,e3,e4,e2.2,apU _,e2.1,aft⟩
   unfold oE at h;simp only at h;rw[if_neg (by simp)]at h;by_cases fe:p.1.Op=24
   ·rw[if_pos fe]at h;have ny:jmp p.1.Op=true:=by simp[jmp,fe]
    rw[if_pos ny]at h;rw[<-apO h];have e:=aaI.1 (.inr fe);obtain⟨nO,j1,j2⟩:=afu ny (by rw[cp,if_neg hp,if_neg (by omega),if_pos fe];omega) f.aJ;rw[w1 (by omega)]at j1;exact .inr ⟨_,top {f with At:=_} (Γ p.1.Arg) nO _ rfl j2 pP (by rw[<-e];exact hb3),.inl (by omega)⟩
   rw[if_neg fe]at h;by_cases gL:p.1.Op=25
   ·have ny:jmp p.1.Op=true:=by simp[jmp,gL]
    rw[if_pos gL,if_pos ny]at h;unfold Bm at h;split at h
    ·rename_i v S hv;rw[hv]at hTl;have e:=aaI.2.1 gL;have hl:(m.Stack.take f.cE.toNat++S.reverse).length=B+S.length:=by rw[apX,hTk,aqY]
     rw[apY]at hTl;rw[<-apO h];right;have hc:=c25 gL;have fin:∀{a:Int} {nO:Nat},nO+1<=φ->yZ c s (Fr++ [{f with At:=a}]).reverse (B+S.length) (nO+K3)->∃rB,yZ c s (Fr++ [{f with At:=a}]).reverse (m.Stack.take f.cE.toNat++S.reverse).length rB/\(rB+1<=Φ\/m.Told.Fuel=m.Told.Fuel+1/\rB<=Φ+4 *s.Code.length):=λ{a nO} q1 q2=>⟨nO+K3,by rw[hl];exact q2,.inl (by omega)⟩
     by_cases AA:ax v=0
     ·rw[if_pos AA];obtain⟨nO,j1,j2⟩:=afu ny (by omega) f.aJ;rw[w1 (by omega)]at j1;exact fin j1 (top {f with At:=_} (Γ p.1.Arg) nO _ rfl j2 (by omega) (by omega))
     ·rw[if_neg AA];have eo:fL (oh c) Γ p.1 (some ht)=some (ht-1):=by
       unfold fL;rw[if_neg hp,if_neg (by unfold dE;omega)];simp[gL]
      obtain⟨nO,j1,j2⟩:=aaJ f.aJ _ eo (by omega);rw[w1 (by omega)]at j1;exact fin j1 (top {f with At:=_} (ht-1) nO _ rfl j2 (by omega) (by omega))
    ·cases h
   rw[if_neg gL]at h;have ny:jmp p.1.Op=false:=by simp[jmp,fe,gL]
   rw[ny]at h;simp only[aqq,if_false]at h;by_cases rC:p.1.Op=27
   ·rw[if_pos rC]at h;unfold GS at h;split at h
    ·rename_i v S hv;rw[<-apO h];split
     ·left;exact⟨by show(m.Stack.take f.cE.toNat).length<=_;omega,rfl⟩
     ·right
      have h1:1≤φ:=by omega
      refine⟨K3,?_,.inl (by omega)⟩
      show yZ c s Fr.reverse (m.Stack.take f.cE.toNat++ [ax v]).length K3;rw[apX,hTk];exact aft
    ·cases h
   rw[if_neg rC]at h;by_cases nP:p.1.Op=26
   ·rw[if_pos nP]at h;split at h
    ·split at h
     ·rw[<-apO h];exact .inl ⟨apU _,rfl⟩
     ·cases h
    ·unfold y7 at h;split at h
     ·rename_i qi;have eo:fL (oh c) Γ p.1 (some ht)=some (ht+1-oh c p.1.Arg):=by
       unfold fL;rw[if_neg hp,if_neg (by unfold dE;omega)];simp[nP]
      have hpf:oh c p.1.Arg=(aX c).pa ((aX c).fn p.1.Arg):=rfl;rw[<-apO h];right;generalize (aX c).fn p.1.Arg=r at *;generalize (aX c).pa r=k at *;have hk:=qi.1;obtain⟨nO,j1,j2⟩:=aaJ f.aJ _ eo (by rw[Dt hp (by omega) (by unfold dE;omega) (by omega)];omega);have w4:CG p.1=4:=by unfold CG;rw[if_pos nP]
      refine⟨2+(nO+K3),?_,.inl (by omega)⟩;show yZ c s (Fr++ [{f with At:=(pre.length:Int)+aU a+cL p}]++ [(⟨r,aC s.Entry r,((m.Stack.length-k:Nat):Int),(aX c).lo r ((dI m f).take k).reverse⟩:aG)]).reverse (m.Stack.take (m.Stack.length-k)).length _;rw[arI,aqs,arX (Nat.sub_le _ _)];show yZ c s (_::(Fr++ [{f with At:=(pre.length:Int)+aU a+cL p}]).reverse) _ _;exact⟨m.Stack.length-k,0,2,nO+K3,rfl,apU _,by omega,by omega,apU _,hs.enter qi.2 _ _,top {f with At:=_} (ht+1-oh c p.1.Arg) nO _ rfl j2 (by omega) (by omega)⟩
     ·cases h
   rw[if_neg nP]at h;cases hJ:(aX c).J p.1 (dI m f) f.aJ (iH m)with
   | none=>rw[show({Op:=p.1.Op,Arg:=p.1.Arg}:ae)=p.1 from rfl,hJ]at h;cases h
   | some ev=>
     rw[show({Op:=p.1.Op,Arg:=p.1.Arg}:ae)=p.1 from rfl,hJ]at h;cases ev with
     | bm e=>rw[<-apO h];exact .inl ⟨apU _,rfl⟩
     | over σ'=>rw[<-apO h];exact .inl ⟨apU _,rfl⟩
     | ok S' L' σ'=>
       obtain⟨he,k,nu,tF⟩:=instJ_ht hJ;have eo:fL (oh c) Γ p.1 (some ht)=some (ht+fh p.1.Op-mB p.1.Op):=by
        rw[adP hp he gL nP];rfl
       have hl:(m.Stack.take f.cE.toNat++S'.reverse).length=B+S'.length:=by rw[apX,hTk,aqY]
       rw[<-apO h];right;have fin:∀{rB:Nat},(rB+1<=Φ\/σ'.Fuel=m.Told.Fuel+1/\rB<=Φ+4 *s.Code.length)->yZ c s (Fr++ [{f with At:=(pre.length:Int)+aU a+cL p,aJ:=L'}]).reverse (B+S'.length) rB->∃rB,yZ c s (Fr++ [{f with At:=(pre.length:Int)+aU a+cL p,aJ:=L'}]).reverse (m.Stack.take f.cE.toNat++S'.reverse).length rB/\(rB+1<=Φ\/σ'.Fuel=m.Told.Fuel+1/\rB<=Φ+4 *s.Code.length):=λ{rB} q1 q2=>⟨rB,by rw[hl];exact q2,q1⟩
       by_cases rA:p.1.Op=37
       ·have hr:=dx.rk κ (cp κ (b.map Prod.fst));have hf:σ'.Fuel=m.Told.Fuel+1:=by
         have NS:instJ c p.1 (dI m f) f.aJ (iH m)=some (.ok S' L' σ'):=hJ;unfold instJ at NS;rw[if_neg (by omega),if_pos rA]at NS;split at NS
         ·split at NS
          ·cases NS
          ·cases NS;rfl
         ·cases NS
        exact fin (.inr ⟨hf,by omega⟩) (top {f with At:=_,aJ:=L'} _ _ _ rfl (nxt L' _ eo) (by omega) (by omega))
       ·obtain⟨nO,j1,j2⟩:=aaJ L' _ eo (by rw[Dt hp rA he gL];omega);rw[w1 nP]at j1;exact fin (.inl (by omega)) (top {f with At:=_,aJ:=L'} _ nO _ rfl j2 (by omega) (by omega))
  ·cases h
 ·cases h
def HtM(c:XC)(s:an)(k:Nat)(m:aj):Prop:=m.Stack.length<=9281/\(m.bX=false->∃Φ,yZ c s m.Frames.reverse m.Stack.length Φ/\(Φ:Int)+k<=2+(4 *s.Code.length+1:Int) *m.Told.Fuel)
theorem aaK{c:XC}{s:an}{m m':aj}{k:Nat}(hs:H2 c s)(iE:m'.Frames.length<=32)(hj:HtM c s k m)(h:db (aX c) s m=some m'):HtM c s (k+1) m':=by
 cases hd:m.bX with
 | true=>
   rw[db,if_pos hd]at h;rw[<-apO h];exact⟨hj.1,λh3=>by rw[hd]at h3;cases h3⟩
 | false=>
   obtain⟨Φ,hΦ,hb⟩:=hj.2 hd;rcases adO hs hd hΦ h with⟨h1,h2⟩|⟨rB,h1,h2⟩
   ·exact⟨aqo h1 hj.1,λh3=>by rw[h2]at h3;cases h3⟩
   ·refine⟨?_,λ_=>⟨rB,h1,?_⟩⟩
    ·have:=h1.len;rw[aqY]at this;omega
    ·have hk:=(y8 h).1;have hm:=Int.mul_le_mul_of_nonneg_left hk (show(0:Int)<=4 *s.Code.length+1 by omega);rcases h2 with h2|⟨h2,h3⟩
     ·omega
     ·rw[h2]at hm⊢;rw[Int.mul_add]at hm⊢;omega
theorem instJ_M{b:br}{E:cH}{M M':Int}{i:ae}(h:i.Op≠37)(S L:List Int)(σ:MS):instJ ⟨b,E,M⟩ i S L σ=instJ ⟨b,E,M'⟩ i S L σ:=by
 unfold instJ;rw[if_neg h,if_neg h];rfl
theorem afv{b:br}{E:cH}{M M':Int}{s:an}{m m':aj}(hM:M<=M')(h:db (aX ⟨b,E,M⟩) s m=some m'):db (aX ⟨b,E,M'⟩) s m=some m'\/m'.bX=true/\m'.Told.kC=19:=by
 unfold db at h⊢;split at h
 ·rename_i hd;rw[if_pos hd];exact .inl h
 rename_i hd;rw[if_neg hd];split at h
 ·rename_i f hf;split at h
  ·rename_i hB;rw[if_pos hB];generalize mA s.Code f.At=x at h⊢;obtain⟨i,k,e⟩:=x;by_cases rA:i.Op=37
   ·unfold oE at h⊢;simp only at h⊢;split at h
    ·cases h
    ·rename_i he;have kD:¬e≠0:=he;rw[if_neg kD];have n24:¬i.Op=24:=by omega
     have n25:¬i.Op=25:=by omega
     have n27:¬i.Op=27:=by omega
     have n26:¬i.Op=26:=by omega
     simp only[if_neg n24,if_neg n25,if_neg n27,if_neg n26]at h⊢;have e1:∀c:XC,(aX c).J i (dI m f) f.aJ (iH m)=if 0<=m.Told.Fuel/\m.Told.Fuel<=1099511627776 then if c.M<m.Told.Fuel+1 then some (.bm 19)else some (.ok (dI m f) f.aJ {iH m with Fuel:=m.Told.Fuel+1})else none:=λc=>by
      show instJ c i _ _ _=_;unfold instJ;rw[if_neg (by omega),if_pos rA];rfl
     rw[e1]at h⊢;split at h
     ·rename_i hr;rw[if_pos hr];split at h
      ·rw[<-apO h];exact .inr ⟨rfl,rfl⟩
      ·rename_i hn;have rP:¬M<m.Told.Fuel+1:=hn;rw[if_neg (show ¬M'<m.Told.Fuel+1 by omega)];exact .inl h
     ·cases h
   ·left;rw[<-h];unfold oE;simp only;have e1:(aX ⟨b,E,M'⟩).J i (dI m f) f.aJ (iH m)=(aX ⟨b,E,M⟩).J i (dI m f) f.aJ (iH m):=instJ_M rA _ _ _;rw[e1];rfl
  ·cases h
 ·cases h
theorem ahz{b:br}{E:cH}{M M':Int}{s:an}{A B:Nat->aj}(hM:M<=M')(h0:A 0=B 0)(hA:∀i,db (aX ⟨b,E,M⟩) s (A i)=some (A (i+1)))(hB:∀i,db (aX ⟨b,E,M'⟩) s (B i)=some (B (i+1))){N:Nat}(hE:(A N).Told.kC≠19):∀i,i<=N->B i=A i:=by
 have stay:∀k i,(A i).bX=true->A (i+k)=A i:=by
  intro k i hd
  induction k with
  | zero=>rfl
  | succ k ih=>
    have:=hA (i+k);rw[ih,db,if_pos hd]at this;exact(apO this).symm
 intro i
 induction i with
 | zero=>intro _;exact h0.symm
 | succ i ih=>
   intro hi;have e:=ih (by omega);rcases afv hM (hA i)with h|⟨h1,h2⟩
   ·have:=hB i;rw[e,h]at this;exact(apO this).symm
   ·have:=stay (N-(i+1)) (i+1) h1;rw[show i+1+(N-(i+1))=N by omega]at this;rw[this]at hE;exact absurd h2 hE
set_option maxHeartbeats 4000000
set_option maxRecDepth 20000
open Go.Proofs Go.Proofs.Tryz
theorem GU{K:eA}{s:an}{Ms:Nat->aj}(h:∀i,db K s (Ms i)=some (Ms (i+1))){i:Nat}(hd:(Ms i).bX=true):∀k,Ms (i+k)=Ms i
 | 0=>rfl
 | k+1=>by
   have:=h (i+k);rw[GU h hd k,db,if_pos hd]at this;exact(apO this).symm
theorem H4{K:eA}{s:an}{Ms:Nat->aj}(h:∀i,db K s (Ms i)=some (Ms (i+1))):∀n,(Ms n).bX=true->∃N,N<=n/\(∀i,i<N->(Ms i).bX=false)/\(Ms N).bX=true
 | 0,hd=>⟨0,apU _,λi hi=>by omega,hd⟩
 | n+1,hd=>by
   cases hn:(Ms n).bX with
   | true=>
     obtain⟨N,h1,h2⟩:=H4 h n hn;exact⟨N,by omega,h2⟩
   | false=>
     refine⟨n+1,apU _,λi hi=>?_,hd⟩;cases FU:(Ms i).bX with
     | false=>rfl
     | true=>
       have:=GU h FU (n-i);rw[show i+(n-i)=n by omega]at this;rw[this,FU]at hn;cases hn
theorem aaL{b:br}{s:an}(h:cZ b=(s,0))(env:cH)(M:Int):H2 ⟨b,env,M⟩ s:=by
 obtain⟨qj,hT,hE,hC,wP⟩:=qR h;have hB:=vu qj;refine⟨wP,λf hf=>Uu (c:=⟨b,env,M⟩) hB f hf ?_,hE⟩;unfold dS at qj;simp only[apP,decide_eq_true_eq,apR]at qj;have hf':0<=f/\f<(b.aF.length:Int):=hf;have:=qj.2 f.toNat (by simp;omega)
 unfold u2 at this;simp only[apP,decide_eq_true_eq]at this;exact this.1.1.1
theorem runs{b:br}{s:an}{w:ai}(hw:w.wf)(hs:cZ b=(s,0))(mr:bS b.Tables w=true)(r:Int)(a:List Int)(env:cH)(M:Int)(hM:M≤10000):
  ∃(Ms:Nat->aj) (N:Nat),Ms 0=kR s w r a env/\(∀i,Jv ⟨b,env,M⟩ w 10000 (Ms i)/\db (aX ⟨b,env,M⟩) s (Ms i)=some (Ms (i+1)))/\(∀i,i<N->(Ms i).bX=false)/\(Ms N).bX=true/\
   (N:Int)<=3+(4 *s.Code.length+1:Int) *max M 0/\(Ms N).Told.Fuel<=max M 0/\((Ms N).Told.kC=0->okW ⟨b,env,M⟩ (Ms N).Told.World=true):=by
 obtain⟨Ms,h0,jg,n,hn,aS⟩:=y9 hs mr (H5 hw) r a env M (by omega);have Az:=aaL hs env M;have bx:∀i,db (aX ⟨b,env,M⟩) s (Ms i)=some (Ms (i+1)):=λi=>(jg i).2
 have XH:∀i,HtM ⟨b,env,M⟩ s i (Ms i)/\(Ms i).Told.Fuel<=max M 0:=by
  intro i
  induction i with
  | zero=>
    rw[h0];unfold kR;split
    ·exact⟨⟨by simp,λh=>by simp at h⟩,by show(0:Int)<=_;omega⟩
    ·split
     ·exact⟨⟨by simp,λh=>by simp at h⟩,by show(0:Int)<=_;omega⟩
     ·rename_i hr _;obtain⟨-,hT,hE,-,-⟩:=qR hs;have hB:=vu (qR hs).1;have cO:eJ s.Entry r:=⟨by omega,by have:=hB.len;rw[hE];rw[hT]at hr;omega⟩
      refine⟨⟨by simp,λ_=>⟨2,⟨0,0,2,0,rfl,apU _,apU _,by omega,apU _,Az.enter cO _ _,by show 0+1<=1;omega⟩,?_⟩⟩,by show(0:Int)<=_;omega⟩;show((2:Nat):Int)+((0:Nat):Int)<=2+_ *0;rw[Int.mul_zero];omega
  | succ i ih=>exact⟨aaK Az (jg (i+1)).1.iE ih.1 (bx i),(y8 (bx i)).2.2 ih.2⟩
 obtain⟨N,hNn,NT,K4⟩:=H4 bx n hn;have hNe:Ms n=Ms N:=by
  have:=GU bx K4 (n-N)
  rwa[show N+(n-N)=n by omega]at this
 rw[hNe]at aS;refine⟨Ms,N,h0,λi=>⟨?_,bx i⟩,NT,K4,?_,(XH N).2,aS⟩
 ·obtain⟨j1,j2,j3,j4,j5,j6,j7⟩:=(jg i).1;exact⟨j1,j2,by have:=(XH i).1.1;omega,j4,j5,⟨j6.1,by have:=(XH i).2;omega⟩,j7⟩
 ·have hK:(0:Int)<=4 *s.Code.length+1:=by omega
  have hP:=Int.mul_nonneg hK (show(0:Int)<=max M 0 by omega);cases N with
  | zero=>omega
  | succ N=>
    obtain⟨Φ,-,h2⟩:=(XH N).1.2 (NT N (ap5 _));have:=Int.mul_le_mul_of_nonneg_left (XH N).2 hK;omega
theorem Du(a b:jh):Pure prog 23 [.agg (a.enc.map .d),.agg (b.enc.map .d)] (oD (decide (a.kC=b.kC)&&decide (a.Out.toList=b.Out.toList)&&decide (a.Value=b.Value)&&decide (a.lI=b.lI)&&decide (a.Fuel=b.Fuel))):=by
 refine rn func23 ?_;simp[-cB,f23]
theorem aaM(x:fi):List.take 15 (x.enc.map V.d)=x.B.Tables.enc.map V.d:=rfl
def lT(x:fi):an×Bool:=if 300<x.Fuel\/20<x.av.length then(an.zero,false)else((cZ x.B).1,(cZ x.B).2==0&&bS x.B.Tables x.W)
theorem K5(x:fi)(hx:x.wf)(hz:∀l∈x.B.aF,gB l<=30000000):Pure prog 18 [.agg (x.enc.map .d)] (.bM [.agg ((lT x).1.enc.map .d),oD (lT x).2]):=by
 have hb:=fi.afw hx;have hw:=fi.aaN hx;have hS:=wQ x.B hb (λh=>Dv hb h hz);by_cases h1:300<x.Fuel
 ·have e:lT x=(an.zero,false):=by unfold lT;rw[if_pos (.inl h1)]
  rw[e];refine rn func18 ?_;simp[-cB,f18];intro bs;simp[-cB,h1];rfl
 by_cases h2:20<x.av.length
 ·have e:lT x=(an.zero,false):=by unfold lT;rw[if_pos (.inr h2)]
  rw[e];have H6:(20:Int)<x.av.length:=by omega
  refine rn func18 ?_;simp[-cB,f18];intro bs;simp[-cB,h1,H6];rfl
 have e:lT x=((cZ x.B).1,(cZ x.B).2==0&&bS x.B.Tables x.W):=by unfold lT;rw[if_neg (by omega)]
 have H6:¬(20:Int)<x.av.length:=by omega
 have hR:(cZ x.B).2=0->Pure prog 25 [.agg (x.B.Tables.enc.map .d),.agg (x.W.enc.map .d)] (oD (bS x.B.Tables x.W)):=by
  intro h0;obtain⟨qj,-⟩:=H7 (b:=x.B) (s:=(cZ x.B).1) (Prod.ext rfl h0);unfold dS at qj;simp only[apP]at qj;have hf:=qj.1.1;exact zT x.B.Tables (br.vv hb) x.W hw (gC hf).2.1 (gC hf).1.2
 rw[e];generalize cZ x.B=S at *;obtain⟨S,e0⟩:=S;simp only at hR hS⊢;generalize bS x.B.Tables x.W=rb at *;refine rn func18 ?_;simp[-cB,f18];intro bs;simp[-cB,h1,H6];refine pC hS ?_;simp[-cB];intro cI;by_cases h0:e0=0
 ·have hR':=λL=>(hR h0).ok L
  subst h0;refine aw.bI [Q0,Q0,Q0,Q0,Q0,Q0,Q0,Q0,Q0,Q0,Q3,none,asi] [oD rb] bc (by kernel_rfl) ?_;simp[-cB,hR',aaM]
 ·have AB:(e0==0)=false:=by simpa using h0
  refine aw.bI [Q0,Q0,Q0,Q0,Q0,Q0,Q0,Q0,Q0,Q0,Q3,none,asi] [oD rb] bc (by kernel_rfl) ?_;simp[-cB,AB];exact λh=>(h0 h).elim
theorem JP(n:Int):Pure prog 50 [iD n] (.agg ((au.mk 1 0 n ⟨#[]⟩ []).enc.map .d)):=by
 refine Pure.Dw func50 rfl (by simp[f50]) ?_;simp only[f50];refine aw.fZ ?_;simp[-cB];intro bs;refine aw.fZ ?_;simp[-cB];refine aw.weaken (Wk.pick [2] [2] (by rfl) (by decide) (by rfl)) ?_;refine aw.weaken (s':=⟨[(2,.bp 2 0)],[(2,.box (bs 0+1) 107 ((au.mk 1 0 n ⟨#[]⟩ []).enc.map .d))]⟩) (Wk.deep 2 (by rfl)) ?_;refine aw.tJ ?_;simp[-cB]
set_option maxHeartbeats 8000000
set_option maxRecDepth 40000
theorem NU(x:fi)(more:Int)(s:an)(T:jh)(bx:Pure prog 18 [.agg (x.enc.map .d)] (.bM [.agg (s.enc.map .d),oD true]))(h0:¬x.Fuel < 0)(da:aN .i64 (x.Fuel+more))(hm:IntKind.i64.wrap more=more)
  (ra:Pure prog 24 [.agg (s.enc.map .d),.agg (x.W.enc.map .d),iD x.dF,.d (.sl (aD x.av)),.agg (x.Env.enc.map .d),iD x.Fuel] (.agg (T.enc.map .d))) (hf:T.Fuel<=x.Fuel)
  (hr:T.kC=0->Pure prog 25 [.agg (x.B.Tables.enc.map .d),.agg (T.World.enc.map .d)] (oD true))
  (rb:T.kC≠19->Pure prog 24 [.agg (s.enc.map .d),.agg (x.W.enc.map .d),iD x.dF,.d (.sl (aD x.av)),.agg (x.Env.enc.map .d),iD (x.Fuel+more)] (.agg (T.enc.map .d)))
  (tK:Pure prog 19 [] (oD true)):Pure prog 8 [.agg (x.enc.map .d),.d (.v (.int .u8 more))] (oD true):=by
 have vw:=Du T T;simp only[decide_true,Bool.and_self]at vw;refine rn func8 ?_;simp[-cB,Tryz.f8];intro bs;refine pC bx ?_;simp[-cB,h0];intro cI;refine pC ra ?_;simp[-cB];intro H8;by_cases mQ:T.kC=19
 ·simp[-cB,mQ,hf];refine ar.fE rfl (λh=>tK) rfl (by first|rfl|(simp;done)|(simp;rfl)) (by simp) (by simp) rfl ?_;simp[-cB]
 ·have rb':=rb mQ;simp[-cB,mQ];refine ar.fE rfl (λh=>hr (of_decide_eq_true h)) rfl (by first|rfl|(simp;done)|(simp;rfl)) (by simp) (by simp) rfl ?_;simp[-cB,da,hm];refine pC rb' ?_;simp[-cB];intro bs4;refine pC vw ?_;simp[-cB,hf];refine ar.fE rfl (λh=>tK) rfl (by first|rfl|(simp;done)|(simp;rfl)) (by simp) (by simp) rfl ?_;simp[-cB]
theorem ML(x:fi)(s:an)(Ms:Nat→aj)(N:Nat)(bx:Pure prog 18 [.agg (x.enc.map .d)] (.bM [.agg (s.enc.map .d),oD true]))
  (hb:Pure prog 11 [.agg (s.enc.map .d),.agg (x.W.enc.map .d),iD x.dF,.d (.sl (aD x.av)),.agg (x.Env.enc.map .d)] (.agg ((Ms 0).enc.map .d)))
  (hp:∀i,i<N->Pure prog 13 [.agg (s.enc.map .d),.agg ((Ms i).enc.map .d),iD x.Fuel] (.agg ((Ms (i+1)).enc.map .d)))
  (hd:∀i,i<N->(Ms i).bX=false) (hN:(Ms N).bX=true) (hF:x.Fuel<=300) (hC:s.Code.length<=65536) (hNb:(N:Int)<=(max x.Fuel 0+2) *(4 *s.Code.length+64))
  (ra:Pure prog 24 [.agg (s.enc.map .d),.agg (x.W.enc.map .d),iD x.dF,.d (.sl (aD x.av)),.agg (x.Env.enc.map .d),iD x.Fuel] (.agg ((gm x.W (Ms N).Told).enc.map .d)))
  (tK:Pure prog 19 [] (oD true)):Pure prog 7 [.agg (x.enc.map .d)] (oD true):=by
 have vw:=Du (gm x.W (Ms N).Told) (gm x.W (Ms N).Told);simp only[decide_true,Bool.and_self]at vw;have hmx:(if x.Fuel<0 then 0 else x.Fuel)=max x.Fuel 0:=by rw[Int.max_def];split<;>split<;>omega
 have i1:aN .i64 (max x.Fuel 0+2):=by rw[aR];omega
 have i2:aN .i64 (4 *(s.Code.length:Int)):=by rw[aR];omega
 have i3:aN .i64 (4 *(s.Code.length:Int)+64):=by rw[aR];omega
 have hub:(max x.Fuel 0+2) *(4 *(s.Code.length:Int)+64)<=302 *262208:=Int.mul_le_mul (by omega) (by omega) (by omega) (by omega);have i4:aN .i64 ((max x.Fuel 0+2) *(4 *(s.Code.length:Int)+64)):=by rw[aR];omega
 generalize As:(max x.Fuel 0+2) *(4 *(s.Code.length:Int)+64)=n0 at *;refine rn func7 ?_;simp[-cB,Tryz.f7];intro bs;refine pC bx ?_;simp[-cB];intro cI;refine pC hb ?_;simp[-cB,hmx,i1,i2,i3,i4,As];intro H8;refine aw.cX [1,3,5,6] N (λi=> [(6,iD (n0-i))]) (λi=> [(5,.box (H8 0+1) 50 ((Ms i).enc.map .d))]) (λ_=>True) (by rfl) (by simp) ?_;intro i hi _;rcases apW hi with ay|rfl
 ·have iX:(i:Int)<n0:=by omega
  have da:aN .i64 (n0-((i:Int)+1)):=by rw[aR];omega
  have tA:n0-(i:Int)-1=n0-((i:Int)+1):=by omega
  have j1:=hp i ay;have hdi:=hd i ay;simp[-cB,iX,hdi];refine pC j1 ?_;simp[-cB,da,ay,tA]
 ·have hex:(decide ((i:Int)<n0)&&!(Ms i).bX)=false:=by rw[hN];simp
  simp[-cB,hex];intro bs4;by_cases he:(Ms i).Told.kC=0
  ·have hT:gm x.W (Ms i).Told=(Ms i).Told:=by unfold gm;rw[if_neg (by simp[he])]
   rw[hT]at vw ra;simp[-cB,he,hN];refine aw.cV [.agg ((Ms i).Told.enc.map .d),oD true,oD true] bc (by kernel_rfl) (by rfl) ?_;simp[-cB,hN];exact⟨ra.ok _,vw.ok _,tK.ok _⟩
  ·have kD:((Ms i).Told.kC !=0)=true:=by simpa using he
   have hT:gm x.W (Ms i).Told=⟨(Ms i).Told.kC,x.W,(Ms i).Told.Out,0,false,(Ms i).Told.Fuel⟩:=by unfold gm;rw[if_pos he]
   rw[hT]at vw ra;simp[-cB,he,kD,hN];refine aw.cV [.agg ((jh.mk (Ms i).Told.kC x.W (Ms i).Told.Out 0 false (Ms i).Told.Fuel).enc.map .d),oD true,oD true] bc (by kernel_rfl) (by rfl) ?_;simp[-cB,hN];exact⟨ra.ok _,vw.ok _,tK.ok _⟩
def H9:aq:={tL with gO:=[⟨#[]⟩]}
def FV(n:Int):au:= .mk 1 0 n ⟨#[]⟩ []
def saE:au:= .mk 6 10 0 ⟨#[]⟩ [FV 1,FV 2]
def Sv:al:= .mk 1 0 ⟨#[]⟩ [saE] [] []
def FW:br:=⟨H9,[[Sv,Bn]]⟩
def Ia:an:=(cZ FW).1
theorem NV:cZ FW=(Ia,0):=Prod.ext rfl (by kernel_rfl)
theorem XI:H9.wf:=by
 unfold H9 tL aq.wf;simp[aq.zero,aZ.wf,aZ.zero,aR];decide
theorem afx:Sv.wf:=by
 unfold Sv saE FV al.wf;simp[au.wf,au.wu,al.wu,aR];decide
theorem XJ:FW.wf:=by
 unfold FW br.wf;refine⟨XI,by decide,?_⟩;intro l hl;simp at hl;subst hl;refine⟨by decide,?_⟩;intro y hy;simp at hy;rcases hy with rfl|rfl
 ·exact afx
 ·exact GV
theorem aaO:Pure prog 27 [.agg (FW.enc.map .d)] (.bM [.agg (Ia.enc.map .d),iD 0]):=by
 have h:=wQ FW XJ (λh=>Dv XJ h (by intro l hl;simp[FW]at hl;subst hl;decide+kernel));rw[NV]at h;exact h
def tM:ai:=⟨[],[0,2,0],[0,0,1],[0,0,0],[0,0,0],[],[],1,0,0,0,0,0⟩
theorem afy:NW H9=tM:=by kernel_rfl
theorem afz:Pure prog 29 [.agg (H9.enc.map .d)] (.agg (tM.enc.map .d)):=afy ▸ K6 H9 XI (by decide) (by decide)
theorem NX:bS FW.Tables tM=true:=by kernel_rfl
theorem XK:tM.wf:=by
 unfold tM ai.wf;simp[aR];unfold aN;decide
def saI(F:Int)(i:Nat):Option aj:=iterM (aX ⟨FW,pB,max F 0⟩) Ia i (kR Ia tM 0 [] pB)
def saC(F:Int)(N:Nat)(K:aj→Bool):Bool:=((List.range N).all fun i=>match saI F i with
  | some m=>!m.bX
  | none=>false)&&match saI F N with
  | some m=>m.bX&&K m
  | none=>false
theorem XL{F:Int}{N:Nat}{K:aj->Bool}(h:saC F N K=true)(hF:F<=1000000)(hN:N<=10000):∃m:aj,K m=true/\Pure prog 24 [.agg (Ia.enc.map .d),.agg (tM.enc.map .d),iD 0,.d (.sl (aD [])),.agg (pB.enc.map .d),iD F] (.agg ((gm tM m.Told).enc.map .d)):=by
 unfold saC at h;simp only[apP,apR,aqK]at h;obtain⟨h1,h2⟩:=h;split at h2
 ·rename_i m hm;simp only[apP]at h2;refine⟨m,h2.2,aaP XK NV NX 0 [] pB F hF N hN (λi hi=>?_) m hm h2.1⟩;have:=h1 i hi;split at this
  ·rename_i m' mu;exact⟨m',mu,by simpa using this⟩
  ·cases this
 ·cases h2
theorem sa9:saC 9 6 (λm=>decide (m.Told.kC=0)&&decide (m.Told.Out.toList=[51])&&decide (m.Told.Value=5)&&!m.Told.lI&&decide (m.Told.Fuel=2))=true:=by kernel_rfl
theorem sa1:saC 1 4 (λm=>decide (m.Told.kC=19))=true:=by kernel_rfl
theorem sa2:((List.range 2).all fun i=>match iterM (aX ⟨FW,pB,4096⟩) Ia i (kR Ia tM 0 [] pB)with
  | some m=>!m.bX
  | none=>false)=true:=by kernel_rfl
theorem aaQ:∃l:List ae,l.length=2/\Pure prog 20 [.agg (Ia.enc.map .d),.agg (tM.enc.map .d),iD 0,.d (.sl (aD [])),.agg (pB.enc.map .d),iD 2] (.d (.sl (l.map ae.enc))):=by
 obtain⟨Ms,N,h1,h2,h3,h4⟩:=adQ XK NV NX 0 [] pB;refine⟨_,?_,h4 2⟩;rw[GW];have h5:∀i,i<2->(Ms i).bX=false:=by
  intro i hi;have:=apR.1 sa2 i (aqK.2 hi);rw[h1 i]at this;simpa using this
 have:2<=N:=by
  rcases h3 with h|h
  ·refine aqr λhn=>?_
   rw[h5 N (by omega)]at h;cases h
  ·omega
 unfold NY Bo;omega
theorem JQ{f:FuncId}{s:an}{w:ai}{r F:Int}{env:cH}{x:V}(h:Pure prog f [.agg (s.enc.map .d),.agg (w.enc.map .d),iD r,.d (.sl (aD [])),.agg (env.enc.map .d),iD F] x):
  Pure prog f [.agg (s.enc.map .d),.agg (w.enc.map .d),iD r,.d (.v (.slice none 0 0)),.agg (env.enc.map .d),iD F] x:=Pure.deep 0 h (by rfl) (by simp)
def GX(x:al):List D:=[.v (.int .i64 x.Kind),.v (.int .i64 x.aI),.v (.string x.Name),.sl (x.av.map au.enc),.v (.slice none 0 0),.v (.slice none 0 0)]
theorem Ib:Pure prog 19 [] (oD true):=by
 obtain⟨m9,k9,r9⟩:=XL sa9 (by omega) (by omega);obtain⟨m1,k1,r1⟩:=XL sa1 (by omega) (by omega);obtain⟨tl,kl,rl⟩:=aaQ;refine Pure.Dw func19 rfl (by simp[f19]) ?_;simp only[f19];refine aw.fZ ?_;simp[-cB];refine aw.fZ ?_;simp[-cB];intro bs;refine aw.weaken (Wk.pick [0,1] [13,12,11,10,6,1] (by rfl) (by decide) (by rfl)) ?_;refine aw.weaken (Wk.freeze 6 (ys:=[[.v (.string ⟨#[]⟩)]]) rfl) ?_;refine aw.weaken (Wk.freeze 10 (ys:=[AD 0 false,AD 2 false,AD 0 true]) rfl) ?_;refine aw.weaken (Wk.freeze 11 (ys:=[[.v (.int .i64 0)]]) rfl) ?_;refine aw.weaken (Wk.freeze 12 (ys:=[[.v (.int .i64 0)]]) rfl) ?_;refine aw.weaken (Wk.freeze 13 (ys:=[[.v (.int .i64 0)]]) rfl) ?_;refine aw.weaken (s':=⟨[(0,oD false),(1,.bp 1 0)],[(1,.box (bs 5+1) 28 (H9.enc.map .d))]⟩) (Wk.deep 6 (by rfl)) ?_;refine aw.fZ ?_;simp[-cB];have rP:=λL=>(JP 1).ok L
 have rS:=λL=>(JP 2).ok L
 have hn5:=λL=>(JP 5).ok L
 refine aw.Sw [Q3,Q3,Q3,Q3,Q3,Q3,Q3,Q3,Q3,Q3,Q3,Q3,Q3,Q3,Q3,Q3,asj,none,none,asl] [19,21,24,26,27] [.agg ((FV 1).enc.map .d),.agg ((FV 2).enc.map .d),.d (.sl [(FV 1).enc,(FV 2).enc]),.d (.sl [saE.enc]),.agg ((FV 5).enc.map .d),.d (.sl [(FV 5).enc]),.d (.sl [GX Sv,GX Bn]),.d (.sl [[.sl [GX Sv,GX Bn]]]),.bM [.agg (Ia.enc.map .d),iD 0]] bc (by kernel_rfl) ?_;simp[-cB];have bx:=λL=>(Pure.deep 7 (args:=[.agg (H9.enc.map .d++ .d (.sl [[.sl [GX Sv,GX Bn]]])::List.drop 16 (H9.enc.map .d++ [.d (.v (.slice none 0 0))]))]) aaO (by rfl) (by rfl)).ok L
 repeat' (first|exact bx _|exact rP _|exact rS _|exact hn5 _|exact Dx aaR (by decide) (by decide) rfl (by simp) (by rfl) rfl (by simp[FV,au.wR])|exact Dx aaS (by decide) (by decide) rfl (by simp) (by rfl) rfl (by simp[GX])|exact Dx adR (by decide) (by decide) rfl (by simp) (by rfl) rfl (by simp)|with_reducible refine And.intro ?_ ?_)
 intro cI;refine aw.weaken (Wk.pick [0,1,2,3] [1,2] (by rfl) (by decide) (by rfl)) ?_;have e0:([iD 0,iD 0,iD 0]:List V)=pB.enc.map .d:=rfl;have q9:=JQ r9;have q1:=JQ r1;have ql:=JQ rl;have hT9:(gm tM m9.Told).kC=0/\(gm tM m9.Told).Out.toList=[51]/\(gm tM m9.Told).Value=5/\(gm tM m9.Told).lI=false/\(gm tM m9.Told).Fuel=2:=by
  simp only[apP,decide_eq_true_eq,arA]at k9;obtain⟨⟨⟨⟨a1,a2⟩,a3⟩,a4⟩,a5⟩:=k9;unfold gm;rw[if_neg (by rw[a1];simp)];exact⟨a1,a2,a3,a4,a5⟩
 have hT1:(gm tM m1.Told).kC=19:=by
  have:m1.Told.kC=19:=by simpa using k1
  unfold gm;rw[this];rfl
 generalize gm tM m9.Told=T9 at *;generalize gm tM m1.Told=T1 at *;obtain⟨t1,t2,t3,t4,t5⟩:=hT9;have vw:=Du T9 ⟨0,tM,⟨#[51]⟩,5,false,2⟩;rw[t1,t2,t3,t4,t5]at vw;refine aw.tJ ?_;simp[-cB];refine pC afz ?_;simp[-cB];intro H8;refine pC q9 ?_;simp[-cB];intro bs4;refine pC vw ?_;simp[-cB];refine pG q1 ?_;simp[-cB,hT1];refine pG ql ?_;simp[-cB,kl]
theorem Dy{x:fi}(aS:(lT x).2=true):(x.Fuel<=300/\x.av.length<=20)/\∃s,(lT x).1=s/\cZ x.B=(s,0)/\bS x.B.Tables x.W=true:=by
 unfold lT at aS⊢;split at aS
 ·cases aS
 ·rename_i h;rw[if_neg h];simp only[apP,beq_iff_eq]at aS;exact⟨by omega,_,rfl,Prod.ext rfl aS.1,aS.2⟩
theorem JR{x:fi}{s:an}(hw:x.W.wf)(hs:cZ x.B=(s,0))(mr:bS x.B.Tables x.W=true)(F:Int)(hF:F≤1000)(Ms:Nat→aj)(N:Nat)(h0:Ms 0=kR s x.W x.dF x.av x.Env)
  (jg:∀i,Jv ⟨x.B,x.Env,max F 0⟩ x.W 10000 (Ms i)/\db (aX ⟨x.B,x.Env,max F 0⟩) s (Ms i)=some (Ms (i+1))) (hd:∀i,i<N->(Ms i).bX=false) (hN:(Ms N).bX=true):
  Pure prog 24 [.agg (s.enc.map .d),.agg (x.W.enc.map .d),iD x.dF,.d (.sl (aD x.av)),.agg (x.Env.enc.map .d),iD F] (.agg ((gm x.W (Ms N).Told).enc.map .d)):=by
 have hb:=((sX hw hs mr).2.2 x.dF x.av x.Env).1;rw[<-h0]at hb;exact Sx s x.W x.dF x.av x.Env F Ms N hb (λi hi=>vy (Dz x.Env (max F 0) hs) (jg i).1 (by omega) Iff.rfl (jg i).2) hd hN
theorem Uv(x:fi)(more:Int)(hm:aN .u8 more)(hx:x.wf)(hz:∀l∈x.B.aF,gB l<=30000000)(tK:Pure prog 19 [] (oD true)):Pure prog 8 [.agg (x.enc.map .d),.d (.v (.int .u8 more))] (oD true):=by
 have bx:=K5 x hx hz;have hw:=fi.aaN hx;have mu:0<=more/\more<=255:=⟨hm.1,hm.2⟩
 cases aS:(lT x).2 with
 | false=>
   rw[aS]at bx;generalize (lT x).1=s at *;refine rn func8 ?_;simp[-cB,Tryz.f8];intro bs;refine pC bx ?_;simp[-cB];intro cI;refine pC tK ?_;simp[-cB]
 | true=>
   obtain⟨⟨hF,-⟩,s,e1,hs,mr⟩:=Dy aS;rw[aS,e1]at bx;by_cases h0:x.Fuel<0
   ·refine rn func8 ?_;simp[-cB,Tryz.f8];intro bs;refine pC bx ?_;simp[-cB,h0];intro cI;refine pC tK ?_;simp[-cB]
   obtain⟨A,N,a0,hA,XM,XN,-,hAf,hAo⟩:=runs hw hs mr x.dF x.av x.Env (max x.Fuel 0) (by omega);have ra:=JR hw hs mr x.Fuel (by omega) A N a0 hA XM XN;obtain⟨f1,-⟩:=sX hw hs mr;have hTe:(gm x.W (A N).Told).kC=(A N).Told.kC/\(gm x.W (A N).Told).Fuel=(A N).Told.Fuel:=by unfold gm;split<;>exact⟨rfl,rfl⟩
   refine NU x more s (gm x.W (A N).Told) bx h0 (by rw[aR];omega) (nk (by rw[aR];omega)) ra (by rw[hTe.2];omega) (λhe=>?_) (λmQ=>?_) tK
   ·rw[hTe.1]at he;have hT:gm x.W (A N).Told=(A N).Told:=by unfold gm;rw[if_neg (by simp[he])]
    have hq:=kE.1 (hAo he);have wv:=jM.of f1 hq.1 hq.2;have:=zT x.B.Tables (br.vv (fi.afw hx)) (A N).Told.World wv.wf (gC f1).2.1 (gC f1).1.2;have hqr:bS x.B.Tables (A N).Told.World=true:=hq.1;rw[hqr]at this;rw[hT];exact this
   ·rw[hTe.1]at mQ;obtain⟨B,N2,b0,hB,-⟩:=runs hw hs mr x.dF x.av x.Env (max (x.Fuel+more) 0) (by omega);have hAB:=ahz (b:=x.B) (E:=x.Env) (M:=max x.Fuel 0) (M':=max (x.Fuel+more) 0) (s:=s) (A:=A) (B:=B) (by omega) (a0.trans b0.symm) (λi=>(hA i).2) (λi=>(hB i).2) mQ;have rb:=JR hw hs mr (x.Fuel+more) (by omega) B N b0 hB (λi hi=>by rw[hAB i (by omega)];exact XM i hi) (by rw[hAB N (apU _)];exact XN);rw[hAB N (apU _)]at rb;exact rb
theorem QQ(x:fi)(hx:x.wf)(hz:∀l∈x.B.aF,gB l<=30000000)(tK:Pure prog 19 [] (oD true)):Pure prog 7 [.agg (x.enc.map .d)] (oD true):=by
 have bx:=K5 x hx hz;have hw:=fi.aaN hx;cases aS:(lT x).2 with
 | false=>
   rw[aS]at bx;generalize (lT x).1=s at *;refine rn func7 ?_;simp[-cB,Tryz.f7];intro bs;refine pC bx ?_;simp[-cB];intro cI;refine pC tK ?_;simp[-cB]
 | true=>
   obtain⟨⟨hF,-⟩,s,e1,hs,mr⟩:=Dy aS;rw[aS,e1]at bx;obtain⟨A,N,a0,hA,XM,XN,hNb,-,-⟩:=runs hw hs mr x.dF x.av x.Env (max x.Fuel 0) (by omega);have ra:=JR hw hs mr x.Fuel (by omega) A N a0 hA XM XN;have hb:=((sX hw hs mr).2.2 x.dF x.av x.Env).1;rw[<-a0]at hb;have lQ:=Dz x.Env (max x.Fuel 0) hs;have hm0:max (max x.Fuel 0) 0=max x.Fuel 0:=by omega
   refine ML x s A N bx hb (λi hi=>vy lQ (hA i).1 (by omega) (by have:=(hA i).1.hF;show x.Fuel<_↔max x.Fuel 0<_;omega) (hA i).2) XM XN hF lQ.hC ?_ ra tK;rw[hm0]at hNb;have hX:0<=max x.Fuel 0:=by omega
   have hL:(0:Int)<=s.Code.length:=by omega
   generalize max x.Fuel 0=X at *;generalize (s.Code.length:Int)=L at *;have h1:(4 *L+1) *X=4 *(L *X)+X:=by grind
   have h2:(X+2) *(4 *L+64)=4 *(L *X)+64 *X+8 *L+128:=by grind
   omega
theorem Uw(x:fi)(hx:x.wf)(more:Int)(hm:aN .u8 more)(hB:lk [x.enc,[D.v (.int .u8 more)]]<=1048576):Pure prog 8 [.agg (x.enc.map .d),.d (.v (.int .u8 more))] (oD true):=Uv x more hm hx (zU (by simp[fi.enc]) hB) Ib
theorem QR(x:fi)(hx:x.wf)(hB:lk [x.enc]<=1048576):Pure prog 7 [.agg (x.enc.map .d)] (oD true):=QQ x hx (zU (by simp[fi.enc]) hB) Ib
end Go.Ab

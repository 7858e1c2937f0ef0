/-
  The texts Vbook3 Vbook4 Vbeg Vbeg2 Vsame Vsame2 Xmust Vdefer Rc Hd Vwk Vdo Vdo2 Vdo3 Vstep Vrk Zt Vrk2 Vrk3 Bflag Bval3 Vrk4 Lbit Bflag2 Vch Battr3 Vch2 Vch3 Vch4 Vch5 Vsay Vsay2 Vdo4 Vroom Ug Lok, one behind the other.
-/
import Derived.Test.YtmhnopomnpgcjaaGreatDoorMg6
import Derived.Deep.DeepHandedRow
import Derived.FnData
import Derived.LaidMore
set_option linter.unusedSimpArgs false
set_option linter.unusedVariables false
namespace Go.Ab
open Go.Proofs Go.Proofs.Tryz
def u2(b:br)(i:Nat):Bool:=
 (decide (im (b.aF[i]?.getD []) 65<=32)&&gH b.Tables (b.Tables.aJ[i]?.getD 0) (b.aF[i]?.getD []))&&(!mn 12 (b.aF[i]?.getD [])||lJ b.Tables i)&&(!mn 13 (b.aF[i]?.getD [])||yD b.Tables i)
def dS(b:br):Bool:=fF b.Tables&&decide (b.aF.length=b.Tables.Params.length)&&(List.range b.aF.length).all (u2 b)
theorem EA(b:br)(hb:b.wf):Pure prog 26 [.agg (b.enc.map .d)] (oD (dS b)):=by
 have ht:=br.vv hb;have hlen:=br.F5 hb;have aik:=aq.zl ht;have ey:=U7 b.Tables ht;obtain⟨R,hR⟩:∃R,dS b=R:=⟨_,rfl⟩
 have lf:=hR;unfold dS at lf;rw[hR];cases hf:fF b.Tables with
 | false=>
   rw[hf]at lf ey;simp at lf;refine rn func26 ?_;simp[-cB,f26];intro bs
   repeat' (first
    | (with_reducible refine And.intro ?_ ?_)
    | ((first|(refine aA (λh=>?_) (λh=>?_)<;>(try simp at h))|refine pC ey ?_|refine lC ey ?_|refine pG ey ?_)<;>(try simp[-cB, *,lf]))
    | (with_reducible intro _))
 | true=>
   have hd:=(gC hf).2.2.2.2.2.1;rw[hf]at lf ey;by_cases hL:b.aF.length=b.Tables.Params.length
   ·rw[show decide (b.aF.length=b.Tables.Params.length)=true by simpa using hL]at lf;simp only[ard]at lf;refine rn func26 ?_;simp[-cB,f26];intro bs
    repeat' (first
     | (with_reducible refine And.intro ?_ ?_)
     | ((first|(refine aA (λh=>?_) (λh=>?_)<;>(try simp at h))|refine pC ey ?_|refine lC ey ?_|refine pG ey ?_)<;>(try simp[-cB, *,hL,aik]))
     | (with_reducible intro _))
    refine aw.cX [1,3,4] b.aF.length (λi=> [(4,iD i)]) (λ_=> []) (λi=>∀j,j<i->u2 b j=true) (by rfl) (by simp) ?_;intro i hi hH;rcases apW hi with ay|heq
    ·have dw:(i:Int)<b.aF.length:=by omega
     have da:aN .i64 ((i:Int)+1):=iW;have hiL:i<b.Tables.aJ.length:=by omega
     obtain⟨l,hl⟩:∃l,b.aF[i]=l:=⟨_,rfl⟩
     obtain⟨n,hn⟩:∃n,b.Tables.aJ[i]=n:=⟨_,rfl⟩
     obtain⟨w1,w2⟩:=br.QU hb l (hl ▸ ap1 ay);have FM:=aq.Ll ht n (hn ▸ ap1 hiL);have iY:=PI b.Tables ht n FM l w2 w1;have Hr:=I8 12 _ l (ap5 _) w2 w1;have agy:=I8 13 _ l (ap5 _) w2 w1;have hca:=Za b.Tables ht i;have hru:=abV b.Tables ht i;have hg:u2 b i=((decide (im l 65<=32)&&gH b.Tables n l)&&(!mn 12 l||lJ b.Tables i)&&(!mn 13 l||yD b.Tables i)):=by
      unfold u2;rw[anc ay,hl,anc hiL,hn];rfl
     generalize (decide (im l 65<=32)&&gH b.Tables n l)=B1 at *;generalize mn 12 l=B2 at *;generalize lJ b.Tables i=B3 at *;generalize mn 13 l=B4 at *;generalize yD b.Tables i=B5 at *;have jN:u2 b i=false->R=false:=λh=>by
      rw[<-lf,List.all_eq_false];exact⟨i,by simpa using ay,by simp[h]⟩
     have pJ:u2 b i=true->∀j,j<i+1->u2 b j=true:=λh j hj=>by
      rcases apW (Nat.le_of_lt_succ hj)with h1|rfl
      ·exact hH j h1
      ·exact h
     rw[hg]at jN pJ;clear hg hH lf hR hL;simp[-cB,ay,dw,hl];refine aw.cV [oD B1,oD B2,oD B3,oD B4,oD B5] bc (by kernel_rfl) (by rfl) ?_;simp[iY.ok,Hr.ok,hca.ok,agy.ok,hru.ok,hiL,hn];clear iY Hr hca agy hru ey;cases B1<;>cases B2<;>cases B3<;>cases B4<;>cases B5<;>simp at jN pJ⊢<;>first|exact jN|exact⟨da,ay,pJ⟩
    ·simp[heq];rw[<-lf,apR];intro j hj;exact hH j (by rw[heq];simpa using hj)
   ·rw[show decide (b.aF.length=b.Tables.Params.length)=false by simpa using hL]at lf;simp at lf;have ja:((b.aF.length:Int) !=(b.Tables.Params.length:Int))=true:=by simp;omega
    refine rn func26 ?_;simp[-cB,f26];intro bs
    repeat' (first
     | (with_reducible refine And.intro ?_ ?_)
     | ((first|(refine aA (λh=>?_) (λh=>?_)<;>(try simp at h))|refine pC ey ?_|refine lC ey ?_|refine pG ey ?_)<;>(try simp[-cB, *,hL,lf,ja]))
     | (with_reducible intro _))
    exact absurd (by omega) hL
end Go.Ab
namespace Go.Ab
open Go.Proofs Go.Proofs.Tryz
def stM(b:br):Nat->List Int×List Int
 | 0=>([],[])
 | i+1=>((stM b i).1++ [((stM b i).2.length:Int)],(stM b i).2++(ly b i).1)
def qI(b:br):Nat->Nat->Int
 | 0,_=>0
 | n+1,i=>if(ly b i).2=0 then qI b n (i+1)else(ly b i).2
def cZ(b:br):an×Int:=
 if dS b=false then(an.zero,18)
 else if qI b b.aF.length 0≠0 then(an.zero,qI b b.aF.length 0)
 else if 65536<(stM b b.aF.length).2.length then(an.zero,3)
 else(⟨b.Tables,(stM b b.aF.length).1,(stM b b.aF.length).2⟩,0)
theorem KA(ks:List Nat):∀(a b:List V),V.dA ks (a++b)=(V.dA ks a&&V.dA ks b)
 | [],b=>by simp[V.dA]
 | x::a,b=>by simp[V.dA,KA ks a b,ar8]
theorem aeE(l:List ae):(pI l).1.length<=3 *l.length:=by
 obtain⟨z,hz,hf,_⟩:=zB (3 *l.length+1) (kV l) (Ku l) (by simp[kV];omega);rw[Ce]at hf;have og:z.length=l.length:=by simpa using congrArg List.length hf
 have:=Hv z 0 z;unfold pI;split
 ·simp
 ·rw[hz];simp only;split
  ·simp
  ·split
   ·simp
   ·simp only;omega
theorem PQ(b:br)(hR:∀l∈b.aF,me l/\gB l<=30000000)(i:Int):(ly b i).1.length<=2000000000:=by
 unfold ly;split
 ·simp
 ·rename_i hi;have kF:i.toNat<b.aF.length:=by omega
  obtain⟨_,h2⟩:=hR b.aF[i.toNat] (ap1 kF);have h1:=aeE (dK (bT b i));have hp:(dK (bT b i)).length<=(bT b i).length:=Cd _ _;have bd:=gJ b.aF[i.toNat] 0;have O5:bT b i=(aQ b.aF[i.toNat] 0).1++ [⟨1,0⟩,⟨27,0⟩]:=by
   unfold bT;rw[if_pos (by unfold eJ;omega),anc kF];rfl
  have hl:(bT b i).length<=500000000:=by rw[O5];simp;omega
  omega
theorem Zg(b:br)(hR:∀l∈b.aF,me l/\gB l<=30000000):∀i:Nat,(stM b i).1.length=i/\(stM b i).2.length<=2000000000 *i
 | 0=>⟨rfl,apU _⟩
 | i+1=>by
   obtain⟨h1,h2⟩:=Zg b hR i;have h3:=PQ b hR i;rw[stM];constructor
   ·simp[h1]
   ·simp only[apX];omega
theorem wQ(b:br)(hb:b.wf)(hR:dS b=true->∀l∈b.aF,me l/\gB l<=30000000):Pure prog 27 [.agg (b.enc.map .d)] (.bM [.agg ((cZ b).1.enc.map .d),iD (cZ b).2]):=by
 have qj:=EA b hb;obtain⟨S,hS⟩:∃S,cZ b=S:=⟨_,rfl⟩
 have yF:=hS;unfold cZ at yF;rw[hS];cases hr:dS b with
 | false=>
   rw[hr]at qj yF;simp at yF;refine rn func27 ?_;simp[-cB,f27];intro bs;refine pC qj ?_;simp;rw[<-yF];exact⟨rfl,rfl⟩
 | true=>
   replace hR:=hR hr
   have hn:b.aF.length<=2048:=by
    unfold dS at hr;simp only[apP,decide_eq_true_eq]at hr;have:=(gC hr.1.1).2.2.2.2.2.2.1;omega
   rw[hr]at qj yF;simp only[Bool.true_eq_false,if_false]at yF;have hfE:qI b (b.aF.length-0) 0=qI b b.aF.length 0:=rfl;obtain⟨E,hE⟩:∃E,qI b b.aF.length 0=E:=⟨_,rfl⟩
   rw[hE]at yF hfE;refine rn func27 ?_;simp[-cB,f27];intro bs;refine pC qj ?_;simp;intro cI;refine aw.weaken (Wk.qx 4 15 5301 (e:=3) (k:=1) rfl rfl (by simp[keys])) ?_;refine aw.weaken (Wk.qx 4 16 5302 (e:=5) (k:=1) rfl rfl (by simp[keys,aH.jK])) ?_;simp only[aH.jK,aqd,ar3,reduceIte,Nat.reduceEqDiff];refine aw.cX [1,2,4,5] b.aF.length (λi=> [(5,iD i)]) (λi=> [(5301,.row 3 1 (dd (aD (stM b i).1))),(5302,.row 5 1 (dd (iL (stM b i).2)))]) (λi=>qI b (b.aF.length-i) i=E) (by rfl) (by simp[stM,iL,hE,KA]) ?_;intro i hi hH;obtain⟨l1,l2⟩:=Zg b hR i;rcases apW hi with ay|heq
   ·have hco:=Zf b hb hR i;have da:aN .i64 ((i:Int)+1):=iW;have oU:=PQ b hR i;have bx:stM b (i+1)=((stM b i).1++ [((stM b i).2.length:Int)],(stM b i).2++(ly b i).1):=rfl;obtain⟨c,hc⟩:∃c,ly b i=c:=⟨_,rfl⟩
    rw[hc]at hco oU bx;rw[show b.aF.length-i=(b.aF.length-(i+1))+1 by omega,qI,hc]at hH;simp[-cB,ay];refine pC hco ?_;by_cases he:c.2=0
    ·rw[if_pos he]at hH;have k1:V.dR 5301 (List.map V.d b.Tables.enc++ [V.rv 5301,V.rv 5302])=List.map V.d b.Tables.enc++ [V.any,V.rv 5302]:=rfl;have k2:V.dR 5302 (List.map V.d b.Tables.enc++ [V.rv 5301,V.rv 5302])=List.map V.d b.Tables.enc++ [V.rv 5301,V.any]:=rfl;have k3:(List.map V.d b.Tables.enc++ [V.any,V.rv 5302]).take 15=List.map V.d b.Tables.enc:=rfl;have k4:(List.map V.d b.Tables.enc++ [V.any,V.rv 5302]).drop 16=[V.rv 5302]:=rfl;have k5:(List.map V.d b.Tables.enc++ [V.rv 5301,V.any]).take 16=List.map V.d b.Tables.enc++ [V.rv 5301]:=rfl;have k6:(List.map V.d b.Tables.enc++ [V.rv 5301,V.any]).drop 17=[]:=rfl;simp[ay,he,da,bx,hH,l1,k1,k2,k3,k4,k5,k6];exact⟨by omega,⟨Ci _,by omega⟩,by simp[KA]⟩
    ·rw[if_neg he]at hH;rw[<-hH,if_pos he]at yF;simp[ay,he];rw[<-yF];exact⟨rfl,rfl⟩
   ·have hE0:E=0:=by rw[heq,Nat.sub_self,qI]at hH;exact hH.symm
    rw[if_neg (by rw[hE0];simp)]at yF;obtain⟨st,VY⟩:∃st,stM b b.aF.length=st:=⟨_,rfl⟩
    rw[VY]at yF;rw[heq,VY]at l1 l2;have agz:(65536:Int)<(st.2.length:Int)↔65536<st.2.length:=by omega
    by_cases hL:65536<st.2.length
    ·rw[if_pos hL]at yF;simp[heq,VY,hL,agz];rw[<-yF];exact⟨rfl,rfl⟩
    ·rw[if_neg hL]at yF;simp[heq,VY,hL,agz];rw[<-yF];refine⟨?_,rfl⟩;simp[aq.enc,an.enc];rfl
def uk(a:List Int)(n:Nat):List Int:=(List.range n).map λi=>if i<a.length then ax (a[i]?.getD 0)else 0
theorem VZ(a:List Int)(n:Nat):uk a (n+1)=uk a n++ [if n<a.length then ax (a[n]?.getD 0)else 0]:=by
 unfold uk;rw[ara,aqM];rfl
theorem Zh(a:List Int)(n:Nat):(uk a n).length=n:=by simp[uk]
theorem V0(s:an)(r:Nat)(e:Int)(n:Nat)(he:s.Entry[r]?=some e)(hn:s.Tables.aJ[r]?=some (n:Int))(rS:n≤1000000)(a:List Int)(base:Int):
  Pure prog 31 [.agg (s.enc.map .d),iD r,.d (.sl (aD a)),iD base] (.agg ((aG.mk r e base (uk a n)).enc.map .d)):=by
 obtain⟨nK,x8⟩:=apQ.1 he;obtain⟨qw,rP⟩:=apQ.1 hn;refine rn func31 ?_;simp[-cB,f31];intro bs;simp[x8,nK];intro cI;refine aw.weaken (Wk.qx 9 3 5301 (e:=3) (k:=1) rfl rfl (by simp[keys])) ?_;simp only[aH.jK,aqd,ar3,reduceIte,Nat.reduceEqDiff];refine aw.cX [1,2,4,8,9,10] n (λi=> [(10,iD i)]) (λi=> [(5301,.row 3 1 (dd (aD (uk a i))))]) (λ_=>True) (by rfl) (by simp[uk]) ?_;intro i hi _;have rE:=VZ a i;have Lx:=Zh a i;rcases apW hi with ay|heq
 ·have da:aN .i64 ((i:Int)+1):=iW;have dw:(i:Int)<n:=by omega
  by_cases hA:i<a.length
  ·have hA':(i:Int)<a.length:=by omega
   rw[if_pos hA,anc hA,aqF]at rE;have hw:=bB a[i];simp[-cB,ay,dw,rP,qw,hA,hA'];refine pC hw ?_;simp[ay,da,rE,Lx];omega
  ·have hA':¬(i:Int)<a.length:=by omega
   rw[if_neg hA]at rE;simp[ay,dw,rP,qw,hA,hA',da,rE,Lx];omega
 ·simp[heq,rP,qw];rfl
def kR(s:an)(w:ai)(r:Int)(a:List Int)(env:cH):aj:=
 if r<0\/(s.Tables.Params.length:Int)<=r then⟨[],[],env,⟨11,w,⟨#[]⟩,0,false,0⟩,true⟩
 else if(a.length:Int)≠aC s.Tables.Params r then⟨[],[],env,⟨7,w,⟨#[]⟩,0,false,0⟩,true⟩
 else⟨[⟨r,aC s.Entry r,0,uk a (aC s.Tables.aJ r).toNat⟩],[],env,⟨0,w,⟨#[]⟩,0,false,0⟩,false⟩
theorem V1(s:an)(w:ai)(r:Int)(a:List Int)(env:cH)(h1:s.Entry.length=s.Tables.Params.length)(h2:s.Tables.aJ.length=s.Tables.Params.length)(h3:∀n∈s.Tables.aJ,0≤n∧n≤1000000):
  Pure prog 12 [.agg (s.enc.map .d),.agg (w.enc.map .d),iD r,.d (.sl (aD a)),.agg (env.enc.map .d)] (.agg ((kR s w r a env).enc.map .d)):=by
 obtain⟨R,hR⟩:∃R,kR s w r a env=R:=⟨_,rfl⟩
 have lf:=hR;unfold kR at lf;rw[hR];by_cases hr:r<0\/(s.Tables.Params.length:Int)<=r
 ·rw[if_pos hr]at lf;subst lf;have qj:(decide (r<0)||decide ((s.Tables.Params.length:Int)<=r))=true:=by simpa using hr
  refine Pure.run func12 rfl (by simp[f12,cH.enc,ai.enc]) ?_;simp[-cB,f12,cH.enc,ai.enc];intro bs cI;simp[qj,cH.enc,ai.enc];rfl
 ·rw[if_neg hr]at lf;have nK:¬r<0:=by omega
  have qw:¬(s.Tables.Params.length:Int)<=r:=by omega
  have kF:r.toNat<s.Tables.Params.length:=by omega
  have Tu:(r.toNat:Int)=r:=by omega
  have hP:aC s.Tables.Params r=s.Tables.Params[r.toNat]:=by unfold aC;rw[anc kF];rfl
  have hEn:aC s.Entry r=s.Entry[r.toNat]'(by omega):=by unfold aC;rw[anc (by omega)];rfl
  have Yp:aC s.Tables.aJ r=s.Tables.aJ[r.toNat]'(by omega):=by unfold aC;rw[anc (by omega)];rfl
  obtain⟨b1,b2⟩:=h3 (s.Tables.aJ[r.toNat]'(by omega)) (ap1 _);have ia:=V0 s r.toNat (s.Entry[r.toNat]'(by omega)) (s.Tables.aJ[r.toNat]'(by omega)).toNat (anc _) (by rw[anc (by omega)];congr 1;omega) (by omega) a 0;rw[Tu]at ia;by_cases hA:(a.length:Int)=aC s.Tables.Params r
  ·rw[if_neg (by simpa using hA)]at lf;rw[hEn,Yp]at lf;rw[hP]at hA;subst lf;refine Pure.run func12 rfl (by simp[f12,cH.enc,ai.enc,nK,qw]) ?_;simp[-cB,f12,cH.enc,ai.enc,nK,qw];intro bs cI;simp[nK,qw,kF,hA,anc kF];refine⟨by omega,?_⟩;refine pC ia ?_;simp[aG.enc];rfl
  ·rw[if_pos hA]at lf;rw[hP]at hA;subst lf;refine Pure.run func12 rfl (by simp[f12,cH.enc,ai.enc,nK,qw]) ?_;simp[-cB,f12,cH.enc,ai.enc,nK,qw];intro bs cI;simp[nK,qw,kF,hA,anc kF];exact⟨by omega,rfl⟩
theorem Ck(s:an)(w:ai)(r:Int)(a:List Int)(env:cH)(h1:s.Entry.length=s.Tables.Params.length)(h2:s.Tables.aJ.length=s.Tables.Params.length)(h3:∀n∈s.Tables.aJ,0≤n∧n≤1000000)
  (ake:∀(r:Nat) (e:Int) (n:Nat),s.Entry[r]?=some e->s.Tables.aJ[r]?=some (n:Int)->n<=1000000->(a.length:Int)=aC s.Tables.Params r->Pure prog 30 [.agg (s.enc.map .d),iD r,.d (.sl (aD a)),iD 0] (.agg ((aG.mk r e 0 (uk a n)).enc.map .d))):
  Pure prog 11 [.agg (s.enc.map .d),.agg (w.enc.map .d),iD r,.d (.sl (aD a)),.agg (env.enc.map .d)] (.agg ((kR s w r a env).enc.map .d)):=by
 obtain⟨R,hR⟩:∃R,kR s w r a env=R:=⟨_,rfl⟩
 have lf:=hR;unfold kR at lf;rw[hR];by_cases hr:r<0\/(s.Tables.Params.length:Int)<=r
 ·rw[if_pos hr]at lf;subst lf;have qj:(decide (r<0)||decide ((s.Tables.Params.length:Int)<=r))=true:=by simpa using hr
  refine Pure.run func11 rfl (by simp[f11,cH.enc,ai.enc]) ?_;simp[-cB,f11,cH.enc,ai.enc];intro bs cI;simp[qj,cH.enc,ai.enc];rfl
 ·rw[if_neg hr]at lf;have nK:¬r<0:=by omega
  have qw:¬(s.Tables.Params.length:Int)<=r:=by omega
  have kF:r.toNat<s.Tables.Params.length:=by omega
  have Tu:(r.toNat:Int)=r:=by omega
  have hP:aC s.Tables.Params r=s.Tables.Params[r.toNat]:=by unfold aC;rw[anc kF];rfl
  have hEn:aC s.Entry r=s.Entry[r.toNat]'(by omega):=by unfold aC;rw[anc (by omega)];rfl
  have Yp:aC s.Tables.aJ r=s.Tables.aJ[r.toNat]'(by omega):=by unfold aC;rw[anc (by omega)];rfl
  obtain⟨b1,b2⟩:=h3 (s.Tables.aJ[r.toNat]'(by omega)) (ap1 _);by_cases hA:(a.length:Int)=aC s.Tables.Params r
  ·have ia:=ake r.toNat (s.Entry[r.toNat]'(by omega)) (s.Tables.aJ[r.toNat]'(by omega)).toNat (anc _) (by rw[anc (by omega)];congr 1;omega) (by omega) (by rw[Tu];exact hA)
   rw[Tu]at ia;rw[if_neg (by simpa using hA)]at lf;rw[hEn,Yp]at lf;rw[hP]at hA;subst lf;refine Pure.run func11 rfl (by simp[f11,cH.enc,ai.enc,nK,qw]) ?_;simp[-cB,f11,cH.enc,ai.enc,nK,qw];intro bs cI;simp[nK,qw,kF,hA,anc kF];refine⟨by omega,?_⟩;refine pC ia ?_;simp[aG.enc];rfl
  ·rw[if_pos hA]at lf;rw[hP]at hA;subst lf;refine Pure.run func11 rfl (by simp[f11,cH.enc,ai.enc,nK,qw]) ?_;simp[-cB,f11,cH.enc,ai.enc,nK,qw];intro bs cI;simp[nK,qw,kF,hA,anc kF];exact⟨by omega,rfl⟩
theorem nh(a:List Int)(ha:a.length<=1000000000000):Pure prog 47 [.d (.sl (aD a)),.d (.sl (aD a))] (oD true):=by
 refine rn func47 ?_;simp[-cB,f47];refine aw.cX [0,1,5] a.length (λi=> [(5,iD i)]) (λ_=> []) (λ_=>True) (by rfl) (by simp) ?_;intro i hi _;rcases apW hi with ay|heq
 ·have da:aN .i64 ((i:Int)+1):=iW;have dw:(i:Int)<a.length:=by omega
  simp[-cB,ay,dw];refine aw.cV [] bc (by kernel_rfl) (by rfl) ?_;simp[ay,dw,da]
 ·simp[heq]
def vP(w:ai):Prop:=w.aW.length<=1000000000000/\w.ah.length<=1000000000000/\w.Child.length<=1000000000000/\w.Next.length<=1000000000000/\w.Flags.length<=1000000000000/\w.aM.length<=1000000000000/\w.bO.length<=1000000000000
set_option maxHeartbeats 16000000 in
set_option maxRecDepth 60000 in
theorem Zi(t:jh)(h:vP t.World):Pure prog 17 [.agg (t.enc.map .d),.agg (t.enc.map .d)] (oD true):=by
 obtain⟨h1,h2,h3,h4,h5,h6,h7⟩:=h;have e1:=nh _ h1;have e2:=nh _ h2;have e3:=nh _ h3;have e4:=nh _ h4;have e5:=nh _ h5;have e6:=nh _ h6;have e7:=nh _ h7;refine Pure.Dw func17 rfl (by simp[f17]) ?_;simp only[f17];refine aw.fZ ?_;simp[-cB,jh.enc,ai.enc];intro bs;obtain⟨W,hW⟩:∃W:List V,W=(t.World.enc.map .d):=⟨_,rfl⟩
 have rG:=hW;simp only[ai.enc,aqd,ar3]at rG;refine aw.merge ⟨[(2,.bp 2 0),(3,.bp 3 0),(4,oD false),(5,.bp 5 0),(6,.bp 6 0)],[(5,.box 0 34 W),(6,.box 0 34 W),
  (3,.box (bs 1+1) 48 (t.enc.map .d)),(2,.box (bs 0+1) 48 (t.enc.map .d))]⟩ ?_ ?_
 ·rw[rG];refine aw.ew bc (dY.abt 4 5 (by decide) (dY.m0 [asj,asj,asm,asm,none,none,none,none] [] (by kernel_rfl) ?_) (dY.perm [0,1,2,3,5,4,6,7] [0,1,2,3,5,4,6,7] (by kernel_rfl) (by kernel_rfl) (dY.m0 [asj,asj,asm,asm,none,none,none,none] [] (by kernel_rfl) ?_)))
  all_goals
   simp[-cB];intro Lw;refine(Wk.vE [5,6]).trans (Wk.pick [2,3,4,5,6] [5,6,3,2] (by rfl) (by decide) (by simp[St.pick,St.vE,St.on,V.on,V.dA,aV.vE]))
 ·intro cI;rw[rG];refine aw.tJ ?_;simp[-cB,jh.enc,ai.enc];refine pG e1 ?_;simp[-cB];refine pG e2 ?_;simp[-cB];refine pG e3 ?_;simp[-cB];refine pG e4 ?_;simp[-cB];refine pG e5 ?_;simp[-cB];refine pG e6 ?_;simp[-cB];refine pG e7 ?_;simp[-cB]
def Zj(m:aj):Prop:=m.Stack.length<=1000000000000/\m.Frames.length<=1000000000000/\(∀f∈m.Frames,f.aJ.length<=1000000000000)/\vP m.Told.World
set_option maxHeartbeats 16000000 in
set_option maxRecDepth 60000 in
theorem V2(m:aj)(h:Zj m):Pure prog 15 [.agg (m.enc.map .d),.agg (m.enc.map .d)] (oD true):=by
 obtain⟨h1,h2,h3,h4⟩:=h;have e1:=nh _ h1;have e2:=Zi _ h4;have hen:∀f:aG,f.enc=[.v (.int .i64 f.dF),.v (.int .i64 f.At),.v (.int .i64 f.cE),.sl (aD f.aJ)]:=λf=>rfl
 refine rn func15 ?_;simp[-cB,f15];intro bs;refine pG e1 ?_;simp[-cB];refine pG e2 ?_;simp;clear e1 e2 h1 h4;refine aw.cX [2,3,5] m.Frames.length (λi=> [(5,iD i)]) (λ_=> []) (λ_=>True) (by rfl) (by simp) ?_;intro i hi _;rcases apW hi with ay|heq
 ·have da:aN .i64 ((i:Int)+1):=iW;have dw:(i:Int)<m.Frames.length:=by omega
  have e3:=nh _ (h3 _ (ap1 ay));simp[-cB,ay,dw];refine aw.ew bc (dY.abt 10 11 (by decide) (dY.m0 [asj,asj,asj,asj,asj,asm,asm,asm,asm,asm,none,none,none,none] [] (by kernel_rfl) ?_) (dY.perm [0,1,2,3,4,5,6,7,8,9,11,10,12,13] [0,1,2,3,4,5,6,7,8,9,11,10,12,13] (by kernel_rfl) (by kernel_rfl) (dY.m0 [asj,asj,asj,asj,asj,asm,asm,asm,asm,asm,none,none,none,none] [] (by kernel_rfl) ?_)))
  all_goals
   simp[-cB,ay,hen];intro Lw;refine pG e3 ?_;simp[da,ay]
 ·simp[heq]
def pc(e:Int):V:= .d (.uu 77 true [.v (.int .i64 e)])
def tp(m:aj)(e:Int):aj:={m with bX:=true,Told:={m.Told with kC:=e}}
theorem PR(m out:aj)(b4 b6:Nat)(px:Option Int):jR prog 32 [.bp 4 0,.bp 6 0] [(4,.box (b4+1) 50 (m.enc.map .d)),(6,.box (b6+1) 50 (out.enc.map .d))] (px.map pc)
  (λr L'=>r=none/\L'=[(4,.box (b4+1) 50 (m.enc.map .d)),(6,.box (b6+1) 50 ((match px with|none=>out|some e=>tp m e).enc.map .d))]):=by
 refine jR.run func32 rfl (by simp[f32]) (by simp[f32]) ?_;simp only[f32];refine SY.rec (d:=5) ?_ rfl (by decide) rfl (l:=[]) rfl rfl (by rfl) ?_
 ·intro ρ w;simp[execOp,resolve,invoke];rfl
 refine aw.edq (hs:=[4,6]) (by decide) (aw.tJ ?_);cases px with
 | none=>
   simp[-cB,Va]
 | some e=>
   simp[-cB,Va,pc];intro bs;refine aw.bI [Q3,Q3,Q0,none,asi,asi,none] [] bc (by kernel_rfl) ?_;simp[tp,aj.enc,jh.enc]
section
variable {P : Program} {n : Nat} {Q : AX -> St -> Prop}
def Cl(P:Program)(n:Nat)(c:Code)(s s':St)(e0:Exit):Prop:=∀fo m a w,G fo n m s a w->c.wpIn (wr fo.r) 0 P (λe a' w'=>e=e0/\G fo n m s' a' w'/\Step w (own m) w' (own m)) a w
theorem Cl.seq{x y s s1 s2 e}(h1:Cl P n x s s1 .normal)(h2:Cl P n y s1 s2 e):Cl P n (.seq x y) s s2 e:=λfo m a w g=>by
 refine wpIn_seq (Code.wpIn_mono (λe1 a1 w1 hp=>?_) (h1 fo m a w g));obtain⟨rfl,g1,st⟩:=hp;exact Code.wpIn_mono (λe2 a2 w2 ⟨h,g2,oX⟩=>⟨h,g2,st.trans oX⟩) (h2 fo m a1 w1 g1)
theorem Cl.ret{s}:Cl P n .ret s s .ret:=λfo m a w g=>wpIn_ret ⟨rfl,g,Step.refl w _⟩
theorem ab0 o(h:o.after= #[]):mF [o].toArray 1 (Array.replicate 1 false) [0]:=by
 refine .inr ⟨0,[],rfl,?_,rfl⟩;rw[mem_ready];exact⟨rfl,o,rfl,λe he=>by rw[h]at he;simp at he⟩
def r7(P:Program)(f:FuncId)(args:List V)(L:aH)(x:V):Prop:=
 ∀fo m w (xs:Array Value),Inv fo m L w->iA w (OO fo m) m xs args->Calls P f xs w (λe w'=>∃v,e= .returned v/\az w' (OO fo m) m v x/\Inv fo m L w'/\Step w (own m) w' (own m))
theorem r7.of{f}{fn}{c}{args}{L}{s'}{ys}{c'}(hf:P.funcs[f]?=some fn)(hb:fn.body=some c)(hn:args.length≤fn.ntmps)
  (h:Cl P fn.ntmps c ⟨eH 0 args,L⟩ s' .ret) (hL:s'.L=L) (hr:u5 P s' fn.results.toList=some (ys,c')) (hc:c'):r7 P f args L (Bq ys):=by
 intro fo m w xs hi hx;have key:∀fo,fo.D=[]->fo.r=none->fo.nm=false->Inv fo m L w->iA w (OO fo m) m xs args->Calls P f xs w (λe w'=>∃v,e= .returned v/\az w' (OO fo m) m v (Bq ys)/\Inv fo m L w'/\Step w (own m) w' (own m)):=by
  intro fo hD vA zb hi hx;refine callsIn_wide.1 (callsIn_of_wp_marks (n:=0) hf hb trivial ?_);have dW:(xs++Array.replicate (fn.ntmps-xs.size) undef).size=fn.ntmps:=by
   have:=hx.1;grind
  have g:G fo fn.ntmps m ⟨eH 0 args,L⟩ {tmps:=xs++Array.replicate (fn.ntmps-xs.size) undef,defers:=[]} w:=by
   refine⟨dW,?_,hi,hD.symm⟩;intro t y hy;obtain⟨h1,h2,h3⟩:=p7 hy;simp[aqB]at h2 h3;refine⟨by omega,?_⟩;have ay:t<xs.size:=by rw[hx.1];exact h3
   have:(xs++Array.replicate (fn.ntmps-xs.size) undef).getD t undef=xs[t]:=by
    simp[Array.getD,ay];omega
   rw[this];exact hx.2 t _ y (aqf ay) h2
  have h0:=h fo m _ w g;rw[vA]at h0;refine Code.wpIn_mono ?_ h0;rintro e a' w' ⟨rfl,g',st⟩;show LeavesInM Fence.wide 0 P fn a'.tmps _ a'.defers .returning w';rw[g'.defers,hD];refine tN (by simp) [] w' List.nodup_nil (by simp) (λw2 h1 h2 h3 h4 h5=>?_);have oX:Step w (own m) w2 (own m):=⟨h1.trans st.os,h2.trans st.tape,h3.trans st.output,aqo st.size h4,λb hb ho=>(h5 b (by simp)).trans (st.block b hb ho),st.owned⟩
  have g2:=g'.others h4 (λb _ _=>h5 b (by simp));obtain⟨v,k1,k2⟩:=sg g2 hr hc;exact⟨v,k1,v,rfl,k2,by rw[<-hL];exact g2.inv,oX⟩
 exact(key ⟨fo.f,[],none,false⟩ rfl rfl rfl ⟨hi.nodup,hi.fI,hi.apart,hi.others,hi.ei,hi.holds,hi.ef⟩ hx).mono λ_ _ ⟨v,h1,h2,h3,h4⟩=>⟨v,h1,h2,⟨h3.nodup,h3.fI,h3.apart,h3.others,h3.ei,h3.holds,h3.ef⟩,h4⟩
def RW(P:Program)(n:Nat)(c:Code)(s:St)(e0:Exit)(K:St->Prop):Prop:=∃s',Cl P n c s s' e0/\K s'
theorem RW.seq{x y s e K}(h:RW P n x s .normal (λs1=>RW P n y s1 e K)):RW P n (.seq x y) s e K:=by
 obtain⟨s1,h1,s2,h2,hK⟩:=h;exact⟨s2,h1.seq h2,hK⟩
theorem RW.ret{s K}(h:K s):RW P n .ret s .ret K:=⟨s,Cl.ret,h⟩
theorem RW.draw{id l s K} us(hm:P.follows .mixedOrders=true)(cO:indep l=true)(hd:dB n l=true)(h:uF P l.toArray l s us K):RW P n (.region id l.toArray true) s .normal K:=by
 obtain⟨tr,s2,ht,hK⟩:=qT l s us h;refine⟨s2,?_,hK⟩;intro fo m a w g;refine wpIn_region_any hm ?_;exact wU ht cO hd (λa1 w1 g1 st=>⟨rfl,g1,st⟩) (λp hp=>(g.fr p.1 p.2 hp).1) l.toArray.size (Array.replicate l.toArray.size false) (List.range l.length) a {w with drawn:=w.drawn+1}
  (by simp) (λi hi _=>by grind) (zh g _)
theorem RW.one{id o s K} us(ha:o.after= #[])(cO:indep [o]=true)(hd:dB n [o]=true)(h:uF P [o].toArray [o] s us K):RW P n (.region id [o].toArray false) s .normal K:=by
 obtain⟨tr,s2,ht,hK⟩:=qT [o] s us h;refine⟨s2,?_,hK⟩;intro fo m a w g;refine wpIn_region ?_;have hk:=zh (l:=[o]) (tr:=tr) g w.drawn;have:=wU ht cO hd (R:=λe a' w'=>e= .normal/\G fo n m s2 a' w'/\Step w (own m) w' (own m)) (λa1 w1 g1 st=>⟨rfl,g1,st⟩) (λp hp=>(g.fr p.1 p.2 hp).1) 1 (Array.replicate 1 false) [0] a w
  (by simp) (λi hi _=>by grind) hk
 grind[mF.run,ab0]
def Tv(P:Program)(rs:List ResultVar)(L:aH)(x:V)(s:St):Prop:=s.L=L/\match u5 P s rs with
 | some (ys,c)=>c/\Bq ys=x
 | none=>False
theorem r7.run{f}{fn}{c}{args}{L}{x}(hf:P.funcs[f]?=some fn)(hb:fn.body=some c)(hn:args.length≤fn.ntmps)
  (h:RW P fn.ntmps c ⟨eH 0 args,L⟩ .ret (Tv P fn.results.toList L x)):r7 P f args L x:=by
 obtain⟨s',h1,hL,h2⟩:=h;grind[r7.of]
theorem qk.read{o}{c}{dm}{f}{args}{x}{L}(L1 L2:aH)(aP:o.op= .call c)(hc:callee dm c=some (f,args))(he:enters P f=true)(hL:L.Perm (L1++L2))
  (ho:V.dA (keys L1) args=true) (iu:L1.all (λp=>aV.on (keys L1) p.2)=true) (h:r7 P f args L1 x):qk P o dm L x:=by
 classical
 intro fo m ρ w hi hr;obtain⟨xs,h1,h2⟩:=pe (P:=P) aP hc he hr;refine .inr ⟨f,xs,h1,?_⟩;have pK:∀x,x∈keys L↔x∈keys L1\/x∈keys L2:=by
  grind[keys]
 have kg:(keys L1).Nodup/\(keys L2).Nodup/\∀x,x∈keys L1->x∉keys L2:=by
  have hp:(keys L).Perm (keys L1++keys L2):=by grind[keys]
  have:=hp.nodup_iff.1 hi.nodup;grind
 rw[apR]at iu
 let m1:Nat->Option Value:=λh=>if h∈keys L1 then m h else none
 have mx:∀h x,m1 h=some x->m h=some x/\h∈keys L1:=by
  grind
 have oG:∀h x,h∈keys L1->m h=some x->m1 h=some x:=λh x hh hx=>by grind
 let gT:FO:=λb=>fo b\/∃h x,h∈keys L2/\m h=some x/\df x b
 have oY:∀b,OO gT m1 b↔OO fo m b:=by
  intro b;constructor
  ·rintro(⟨h,x,hx,hb⟩|h|⟨h,x,hh,hx,hb⟩)
   ·exact .inl ⟨h,x,(mx h x hx).1,hb⟩
   ·exact .inr h
   ·exact .inl ⟨h,x,hx,hb⟩
  ·rintro(⟨h,x,hx,hb⟩|h)
   ·rcases(pK h).1 (hi.fI h x hx)with hh|hh
    ·exact .inl ⟨h,x,oG h x hh hx,hb⟩
    ·exact .inr (.inr ⟨h,x,hh,hx,hb⟩)
   ·exact .inr (.inl h)
 have qm:Inv gT m1 L1 w:=by
  refine⟨kg.1,λh x hx=>(mx h x hx).2,?_,?_,?_,?_,hi.ef.mono (bK.refl w _) (λb _ hb=>(oY b).1 hb)⟩
  ·intro h h' x x' b hx cy hb de;exact hi.apart h h' x x' b (mx h x hx).1 (mx h' x' cy).1 hb de
  ·rintro h x b hx hb (hf|⟨h',x',hh',cy,de⟩)
   ·exact hi.others h x b (mx h x hx).1 hb hf
   ·have:=hi.apart h h' x x' b (mx h x hx).1 cy hb de;grind
  ·rintro b (hf|⟨h',x',hh',cy,de⟩)
   ·exact hi.ei b hf
   ·exact hi.lt cy de
  ·intro h r hr;obtain⟨x,hx,hh⟩:=hi.holds h r (hL.mem_iff.2 (aqm _ hr));have hk:h∈keys L1:=apV.2 ⟨_,hr,rfl⟩;exact⟨x,oG h x hk hx,(hh.on oG (iu _ hr)).mono (λ_ _=>rfl) (bK.refl w _) (λb _ hb=>(oY b).1 hb) (λ_ _ e=>e)⟩
 have fC:iA w (OO gT m1) m1 xs args:=by
  refine⟨h2.1,λj v y hv hy=>?_⟩;exact((h2.2 j v y hv hy).on oG (fP ho y (apT hy))).mono (bK.refl w _) (λb _ hb=>(oY b).1 hb) (λ_ _ e=>e)
 have fb:∀b,own m1 b->own m b:=by
  rintro b ⟨h,x,hx,hb⟩;exact⟨h,x,(mx h x hx).1,hb⟩
 refine(h gT m1 w xs qm fC).mono ?_;rintro e w' ⟨v,rfl,hv,ck,fJ⟩;have cN:bK w (OO fo m) w':=⟨fJ.size,λb hb jN=>fJ.block b hb (λh=>jN (.inl (fb b h)))⟩
 refine⟨v,rfl,hv.mono (bK.refl w' _) (λb _ hb=>(oY b).2 hb) (λh x hx=>(mx h x hx).1),⟨hi.nodup,hi.fI,hi.apart,hi.others,λb hb=>aqa (hi.ei b hb) fJ.size,?_,hi.ef.mono cN (λ_ _ h=>h)⟩,
  ⟨fJ.os,fJ.tape,fJ.output,fJ.size,λb hb C9=>fJ.block b hb (λh=>C9 (fb b h)),λb _ hb=>hb⟩⟩
 intro h r hr;rcases ap9.1 (hL.mem_iff.1 hr)with tz|tz
 ·obtain⟨z,hz,DL⟩:=ck.holds h r tz;exact⟨z,(mx h z hz).1,DL.mono (λ_ _=>rfl) (bK.refl w' _) (λb _ hb=>(oY b).2 hb) (λh x hx=>(mx h x hx).1)⟩
 ·obtain⟨z,hz,DL⟩:=hi.holds h r hr;have hk:h∈keys L2:=apV.2 ⟨_,tz,rfl⟩;refine⟨z,hz,DL.mono (λb hb=>fJ.block b (hi.lt hz hb) (λC9=>?_)) cN (λ_ _ h=>h) (λ_ _ e=>e)⟩;obtain⟨h',y',nw,de⟩:=C9;have:=hi.apart h h' z y' b hz (mx h' y' nw).1 hb de;grind
theorem lU.read(hs:List Nat){f args x}{L L1:aH}(h:r7 P f args L1 x)(hL:L.filter (λp=>hs.contains p.1)=L1)(he:enters P f=true)(ho:V.dA (keys L1) args=true)(iu:L1.all (λp=>aV.on (keys L1) p.2)=true):lU P f args L x:=
 λ_ _ _ aP hc=>qk.read L1 (L.filter λp=>!hs.contains p.1) aP hc he (by subst hL;exact(aqD _ L).symm) ho iu h
theorem ar.V3{ops}{o:Oper}{rest}{c}{s:St}{f}{args}{x}{L1}(hs:List Nat)(aP:o.op= .call c)(h:r7 P f args L1 x)(hc:callee s.ev c=some (f,args))(hg:o.guard=none)
  (hd:∀d,o.dst=some d->d<n) (hr:dB n rest=true) (he:enters P f=true) (hL:s.L.filter (λp=>hs.contains p.1)=L1) (ho:V.dA (keys L1) args=true) (iu:L1.all (λp=>aV.on (keys L1) p.2)=true)
  (k:∀bs,eN P ops rest (s.put o.dst x) bs [] (KK P n ops Q)):ar P n ops (o::rest) s Q:=
 ar.Ij hg hd (qk.read L1 (s.L.filter λp=>!hs.contains p.1) aP hc he (by subst hL;exact(aqD _ s.L).symm) ho iu h) (bf rest _ [] hr k)
end
def V.cg(hx:List (Nat×Value)):V->V
 | .rv g=>match hx.lookup g with
   | some x=> .kn (λv=>v=x)
   | none=> .rv g
 | y=>y
def aV.cg(hx:List (Nat×Value)):aV->aV
 | .box b ty cs=> .box b ty (cs.map (V.cg hx))
 | r=>r
def cY(hx:List (Nat×Value))(L:aH):aH:=L.map λp=>(p.1,p.2.cg hx)
theorem vQ hx L:keys (cY hx L)=keys L:=by simp[cY]
theorem Gn{hx:List (Nat×Value)}{g x}(h:hx.lookup g=some x):(g,x)∈hx:=KR h
theorem az.cg{w O m hx}(hm:∀p∈hx,m p.1=some p.2){v c}(h:az w O m v c):az w O m v (V.cg hx c):=by
 cases c with
 | rv g=>
   simp[V.cg];split
   ·rename_i x cy;cases h with
    | rv _ _ e e1=>
      have:=hm _ (Gn cy);rw[e]at this;exact .kn _ _ (apO this)
   omega
 | _=>exact h
theorem az.EB{w O m hx}(hm:∀p∈hx,m p.1=some p.2){v c}(h1:v.oneCell'=true)(h:az w O m v (V.cg hx c)):az w O m v c:=by
 cases c with
 | rv g=>
   simp[V.cg]at h;split at h
   ·rename_i x cy;cases h with
    | kn _ _ e=>exact .rv g v (by rw[e];exact hm _ (Gn cy)) h1
   omega
 | _=>exact h
theorem aV.Holds.cg{w O m hx}(hm:∀p∈hx,m p.1=some p.2){x}{r:aV}(h:r.Holds w O m x):(r.cg hx).Holds w O m x:=by
 cases r with
 | box b ty cs=>
   obtain⟨bb,h1,cur,h2,h3,h4,h5,h6⟩:=h;refine⟨bb,h1,cur,h2,h3,by grind,h5,λj v c hv hc=>?_⟩;rw[apS]at hc;obtain⟨c0,yi,rfl⟩:=apN.1 hc;exact(h6 j v c0 hv yi).cg hm
 | row ty k xs=>exact h
 | env A=>exact h
 | mp es=>exact h
theorem aV.Holds.EB{w O m hx}(hm:∀p∈hx,m p.1=some p.2){x}{r:aV}(h:(r.cg hx).Holds w O m x):r.Holds w O m x:=by
 cases r with
 | box b ty cs=>
   obtain⟨bb,h1,cur,h2,h3,h4,h5,h6⟩:=h;refine⟨bb,h1,cur,h2,h3,by simpa using h4,h5,λj v c hv hc=>?_⟩;exact(h6 j v (V.cg hx c) hv (by rw[apS,hc];rfl)).EB hm (h5 j v hv)
 | row ty k xs=>exact h
 | env A=>exact h
 | mp es=>exact h
theorem Inv.cg{fo m w hx}(hm:∀p∈hx,m p.1=some p.2){L1 L2}(h:Inv fo m (L1++L2) w):Inv fo m (cY hx L1++L2) w:=by
 have hk:keys (cY hx L1++L2)=keys (L1++L2):=by
  grind[vQ,keys]
 refine⟨by rw[hk];exact h.nodup,λi x hi=>by rw[hk];exact h.fI i x hi,h.apart,h.others,h.ei,λi r hr=>?_,h.ef⟩;rcases ap9.1 hr with hr|hr
 ·obtain⟨p,hp,he⟩:=apV.1 hr;cases he;obtain⟨x,iZ,hh⟩:=h.holds p.1 p.2 (aqm _ hp);exact⟨x,iZ,hh.cg hm⟩
 ·exact h.holds i r (aqu _ hr)
theorem Inv.EB{fo m w hx}(hm:∀p∈hx,m p.1=some p.2){L1 L2}(h:Inv fo m (cY hx L1++L2) w):Inv fo m (L1++L2) w:=by
 have hk:keys (cY hx L1++L2)=keys (L1++L2):=by
  grind[vQ,keys]
 refine⟨by rw[<-hk];exact h.nodup,λi x hi=>by rw[<-hk];exact h.fI i x hi,h.apart,h.others,h.ei,λi r hr=>?_,h.ef⟩;rcases ap9.1 hr with hr|hr
 ·obtain⟨x,iZ,hh⟩:=h.holds i (r.cg hx) (aqm _ (apV.2 ⟨(i,r),hr,rfl⟩));exact⟨x,iZ,hh.EB hm⟩
 ·exact h.holds i r (aqu _ hr)
section
variable {P : Program} {n : Nat} {Q : AX -> St -> Prop}
def xB(L:aH):List Nat:=L.filterMap λp=>match p.2 with|.box (_+1) _ _=>some p.1|_=>none
theorem Ja hx L:xB (cY hx L)=xB L:=by
 unfold xB
 induction L with
 | nil=>rfl
 | cons p L ih=>
   obtain⟨k,r⟩:=p;have e:cY hx ((k,r)::L)=(k,r.cg hx)::cY hx L:=rfl;rw[e];cases r with
   | box b ty cs=>grind[aV.cg]
   | _=>simp[aV.cg,ih]
theorem fK.ju{ops}{o}{s:St}{c}{f}{args}{L1 bh}{x} r(hs hid:List Nat)(aP:o.op= .call c)(h:∀hx:List (Nat×Value),hx.map Prod.fst=hid→aE P f args (cY hx L1) (fun r L=>r= .ret x∧L=cY hx bh))
  (hc:callee s.ev c=some (f,args)) (hg:o.guard=none)
  (he:enters P f=true) (hL:s.L.filter (λp=>hs.contains p.1)=L1) (hh:hid.all (λk=>(keys (s.L.filter λp=>!hs.contains p.1)).contains k)=true)
  (ho:V.dA (keys L1) args=true/\(∀hx:List (Nat×Value),hx.map Prod.fst=hid->(cY hx L1).all (λp=>aV.on (keys L1) p.2)=true)/\L1.all (λp=>(match p.2 with|.box (_+1) _ _=>true|_=>p.1==r))=true)
  (hb:∀k b ty cs,(k,aV.box (b+1) ty cs)∈L1->∃mw jL,(k,aV.box (b+1) mw jL)∈bh)
  (ja:(s.L.filter λp=>!hs.contains p.1).all (λp=>aV.on (keys (s.L.filter λp=>!hs.contains p.1)++(L1.filterMap λp=>match p.2 with|.box (_+1) _ _=>some p.1|_=>none)) p.2)=true)
  (hk:∀k∈keys bh,k∉keys (s.L.filter λp=>!hs.contains p.1)):
  fK P n ops o s.fr s.L (some r) x (bh++s.L.filter λp=>!hs.contains p.1):=by
 classical
 intro gx M3 fo m a w g;have kD:∀z,z∈o.op.operands->St.ev ⟨gx,s.L⟩ z=s.ev z:=by
  intro z hz;cases z with
  | tmp t=>simp_all[kT]
  | const v=>rfl
  | global g=>rfl
  | func f=>rfl
 have zk:s.L.Perm (L1++s.L.filter λp=>!hs.contains p.1):=by grind[List.filter_append_perm]
 generalize apb:(s.L.filter λp=>!hs.contains p.1)=L2 at *;rw[apR]at hh;have cO:∀k∈hid,k∈keys L2:=λk hk=>by grind
 have hex:∀k∈hid,∃x,m k=some x:=by
  intro k hk;obtain⟨⟨k',res⟩,hp,rfl⟩:=apV.1 (cO k hk);obtain⟨x,hx,_⟩:=g.inv.holds k' res (zk.mem_iff.2 (aqu _ hp));grind
 let hx:List (Nat×Value):=hid.map λk=>(k,(m k).getD undef)
 have hxf:hx.map Prod.fst=hid:=by simp[hx,asc]
 have hm:∀p∈hx,m p.1=some p.2:=by
  intro p hp;obtain⟨k,hk,rfl⟩:=apV.1 hp;obtain⟨x,hx⟩:=hex k hk;grind
 have qc:callee (St.ev ⟨gx,cY hx L1++L2⟩) c=some (f,args):=by
  rw[<-hc];have CH:∀z,z∈o.op.operands->St.ev ⟨gx,cY hx L1++L2⟩ z=s.ev z:=λz hz=>by simp_all
  unfold callee;cases qc:c.callee with
  | value fo=>
    simp only;rw[CH fo (by simp_all)];have:c.args.toList.map (St.ev ⟨gx,cY hx L1++L2⟩)=c.args.toList.map s.ev:=by
     simp_all
    grind
  | _=>rfl
 refine .inl ⟨by simp[Region.wanted,hg],λnext Q' kk=>?_⟩;have g2:G fo n m ⟨gx,cY hx L1++L2⟩ a w:=⟨g.size,g.fr,(g.inv.perm zk).cg hm,g.defers⟩
 refine zi (s:=⟨gx,cY hx L1++L2⟩) (L1:=cY hx L1) (L2:=L2) aP qc he (by grind[vQ]) (List.Perm.refl _) (by grind[vQ]) (λp hp=>by show aV.on (keys L2++xB (cY hx L1)) p.2=true;rw[Ja];exact apR.1 ja p hp) (h hx hxf) ?_ g2 λx' uI mm v w' hR wq hinv qn gS cN s6=>?_
 ·rintro r' uI ⟨rfl,rfl⟩;refine⟨⟨_,rfl⟩,λk pL=>hk k (by grind[vQ]),λk b ty cs mu=>?_⟩;obtain⟨⟨k0,r0⟩,hp,vp⟩:=apV.1 mu;simp only[apM]at vp;obtain⟨rfl,x8⟩:=vp;cases r0 with
  | box b0 ty0 cs0=>
    simp only[aV.cg,aV.box.injEq]at x8;obtain⟨rfl,rfl,rfl⟩:=x8;obtain⟨mw,jL,gA⟩:=hb k0 b ty0 cs0 hp;exact⟨mw,jL.map (V.cg hx),apV.2 ⟨_,gA,rfl⟩⟩
  | row _ _ _=>grind[aV.cg]
  | env _=>grind[aV.cg]
  | mp _=>grind[aV.cg]
 ·obtain⟨e,rfl⟩:=hR;obtain rfl:=AE.ret.inj e;have gS:∀h y,h∈keys L2++xB L1->m h=some y->mm h=some y:=λh y hh=>gS h y (by show h∈keys L2++xB (cY hx L1);grind[Ja])
  have XR:∀p∈hx,mm p.1=some p.2:=λp hp=>by
   grind
  refine kk v w' mm wq ⟨g.size,λt y hy=>?_,hinv.EB XR,g.defers⟩ qn;unfold mR at hy;obtain⟨p,hp,pQ⟩:=apV.1 hy;simp only[apM]at pQ;obtain⟨rfl,rfl⟩:=pQ;obtain⟨q1,q2⟩:=g.fr p.1 p.2 hp;refine⟨q1,(az.kill (m':=mm) (h:=r) (λi y bU hi=>gS i y ?_ hi) q2).mono cN s6 (λ_ _ e=>e)⟩;have DM:i∈keys s.L:=g.inv.fI i y hi;obtain⟨⟨i',res⟩,gA,rfl⟩:=apV.1 DM;rcases ap9.1 (zk.mem_iff.1 gA)with hm|hm
  ·refine aqu _ (aq6.2 ⟨_,hm,?_⟩);have:=apR.1 ho.2.2 _ hm;cases res with
   | row _ _ _=>grind
   | env _=>grind
   | mp _=>grind
   | box b _ _=>
     cases b with
     | zero=>grind
     | succ b=>rfl
  ·exact aqm _ (apV.2 ⟨_,hm,rfl⟩)
end
section
variable {P : Program} {n : Nat} {Q : AX -> St -> Prop}
theorem Gp{pre}{last}{ls}(hs:ls.size=pre.length){i}(hi:i < pre.length)(he:∀(j:Nat) (o:Oper),pre[j]?=some o→∀e∈o.after,Region.binds .any e=true→e.on < pre.length):
  i∈Region.ready .any (pre++ [last]).toArray (ls.push false)↔i∈Region.ready .any pre.toArray ls:=by
 rw[mem_ready,mem_ready];have h1:(pre++ [last]).toArray[i]?=pre.toArray[i]?:=by grind
 have h2:∀k b,k<pre.length->(ls.push false).getD k b=ls.getD k b:=by
  intro k b hk;simp[hs,hk,ar7,show k<pre.length+1 by omega]
 rw[h1,h2 i true hi];refine and_congr_right λ_=>?_
 constructor
 ·rintro⟨o,ho,hk⟩;refine⟨o,ho,λe Jb hb=>?_⟩;rw[<-h2 e.on false (he i o (by grind) e Jb hb)];grind
 ·rintro⟨o,ho,hk⟩;refine⟨o,ho,λe Jb hb=>?_⟩;rw[h2 e.on false (he i o (by grind) e Jb hb)];grind
theorem V4{F}{o:Oper}{a w K K' R R'}(hR:∀e a w,e≠ .normal->R e a w->R' e a w)(h:∀a w,K a w->K' a w)(hh:o.wpIn F n P a w K R):o.wpIn F n P a w K' R':=by
 have jz:LetsOut R->LetsOut R':=λ⟨a,w,h⟩=>⟨a,w,hR _ _ _ (by simp) h⟩
 refine⟨hh.1,?_⟩;have hh:=hh.2;generalize (o.semAt F.round a.eval).run P w=r at *;cases r with
 | ok x w'=>
   cases x<;>simp[Oper.uponIn]at hh⊢<;>
    first
     | exact h _ _ hh
     | exact⟨hh.1,CallsIn.mono hh.2 (λe An he=>by grind)⟩
     | exact⟨hh.1,RowsIn.mono hh.2 (λ_ _ he=>h _ _ he)⟩
     | grind[RoundIn.mono]
 | halt x w'=>cases x<;>simp[Oper.uponIn]at hh⊢<;>first|exact hh|grind
theorem ab1{F}{R Q'}{pre}{last}(cO:indep pre=true)
  (nD:∀e∈last.after,Region.binds .any e=true->e.on<pre.length)
  (UD:∀(ls:Array Bool),(∀(j:Nat) (o:Oper),pre[j]?=some o->ls.getD j false=true->∀e∈o.after,Region.binds .any e=true->ls.getD e.on false=true)->(∀e∈last.after,Region.binds .any e=true->ls.getD e.on false=true)->∀j,j<pre.length->ls.getD j false=true)
  (hg:∀o∈pre,∀g,o.guard=some g->g.1<pre.length)
  (hR:∀e a w,e≠ .normal->R e a w->Q' e a w)
  (hk:∀a w,R .normal a w->if Region.wanted last (yielded (pre++ [last]).toArray a.tmps)then last.wpIn F 0 P a w (Q' .normal) Q' else(∀f,last.about P w a.eval=some f->F.fn f)/\Q' .normal (a.put last.dst undef) w):
  ∀fuel ls a w,ls.size=pre.length->(∀j o,pre[j]?=some o->ls.getD j false=true->∀e∈o.after,Region.binds .any e=true->ls.getD e.on false=true)->
   wpAnyIn F 0 P .any pre.toArray R fuel ls a w->wpAnyIn F 0 P .any (pre++ [last]).toArray Q' (fuel+1) (ls.push false) a w:=by
 have he:∀(j:Nat) (o:Oper),pre[j]?=some o->∀e∈o.after,Region.binds .any e=true->e.on<pre.length:=by
  grind[nq,List.getElem?_eq_some_iff]
 have Zk:(pre++ [last]).toArray[pre.length]?=some last:=by simp
 have fin:∀(fuel:Nat) (ls:Array Bool) (a:Act) (w:World),ls.size=pre.length->(∀j,j<pre.length->ls.getD j false=true)->R .normal a w->wpAnyIn F 0 P .any (pre++ [last]).toArray Q' (fuel+1) (ls.push false) a w:=by
  intro fuel ls a w hs bQ hr;have ail:∀k,k<pre.length->(ls.push false).getD k false=true:=by
   intro k pL;have:=bQ k pL;simpa[Array.getD,hs,pL,ar7,show k<pre.length+1 by omega]using this
  refine⟨λh0=>?_,λi hi=>?_⟩
  ·exfalso;have:pre.length∈Region.ready .any (pre++ [last]).toArray (ls.push false):=by
    rw[mem_ready];simp_all[Array.getD,ar7]
   grind
  ·obtain⟨h1,o,h2,h3⟩:=mem_ready.1 hi;have kF:i<pre.length+1:=by grind
   have hik:i=pre.length:=by
    grind
   subst hik;have alN:∀k,k∈Region.ready .any (pre++ [last]).toArray ((ls.push false).setIfInBounds pre.length true)->False:=by
    intro k pL;obtain⟨g1,o',g2,_⟩:=mem_ready.1 pL;have vG:k<pre.length+1:=by grind
    have:((ls.push false).setIfInBounds pre.length true).getD k true=true:=by
     by_cases hkp:pre.length=k
     ·simp[*]
     ·have ay:k<pre.length:=by omega
      simp only[aqN,aqU hkp];have h9:=ail k ay;rw[qU (c:=true) (by grind)]at h9;grind[Array.getD_eq_getD_getElem?]
    grind
   have xR:Region.ready .any (pre++ [last]).toArray ((ls.push false).setIfInBounds pre.length true)=[]:=by
    rw[aq1];omega
   have anl:∀a w,Q' .normal a w->wpAnyIn F 0 P .any (pre++ [last]).toArray Q' fuel ((ls.push false).setIfInBounds pre.length true) a w:=λa w hq=>wpAnyIn_done xR hq fuel
   unfold wpOpIn;rw[Zk];simp only;have:=hk a w hr;split
   ·rename_i hw;rw[if_pos hw]at this;grind[Oper.wpIn_mono]
   grind
 have PS:∀(ls:Array Bool),ls.size=pre.length->Region.ready .any pre.toArray ls=[]->∀i,i<pre.length->ls.getD i false=true:=by
  intro ls dW hr i
  induction i using Nat.strongRecOn with
  | _ i ih=>
    intro hi;cases hb:ls.getD i false with
    | true=>rfl
    | false=>
      exfalso;have gA:i∈Region.ready .any pre.toArray ls:=by
       refine mem_ready.2 ⟨by grind,pre[i],by simp,λe Jb iY=>?_⟩;have:=(nq cO (anc hi)).2.1 e Jb iY;grind
      grind
 intro fuel
 induction fuel with
 | zero=>
   intro ls a w hs oU h;exact fin 0 ls a w hs (PS ls hs h.1) h.2
 | succ fuel ih=>
   intro ls a w hs oU h;by_cases vA:Region.ready .any pre.toArray ls=[]
   ·exact fin (fuel+1) ls a w hs (PS ls hs vA) (h.1 vA)
   refine⟨λh0=>?_,λi hi=>?_⟩
   ·exfalso;obtain⟨k,pL⟩:=List.exists_mem_of_ne_nil _ vA;have vG:k<pre.length:=by
     grind[mem_ready,Array.getElem?_eq_some_iff]
    have:=(Gp (last:=last) hs vG he).2 pL;grind
   ·obtain⟨h1,o,h2,h3⟩:=mem_ready.1 hi;have kF:i<pre.length+1:=by grind
    have ke:∀k,k<pre.length->∀b,(ls.push false).getD k b=ls.getD k b:=by
     intro k pL b;simp[Array.getD,hs,pL,ar7,show k<pre.length+1 by omega]
    rcases aq7 i pre.length with ay|bR
    ·have Sd:=(Gp (last:=last) hs ay he).1 hi;have hw:=h.2 i Sd;have ho:pre.toArray[i]?=some pre[i]:=by simp
     have Ax:(pre++ [last]).toArray[i]?=some pre[i]:=by
      grind
     have nr:(ls.push false).setIfInBounds i true=(ls.setIfInBounds i true).push false:=by
      grind
     have VH:∀a w,wpAnyIn F 0 P .any pre.toArray R fuel (ls.setIfInBounds i true) a w->wpAnyIn F 0 P .any (pre++ [last]).toArray Q' (fuel+1) ((ls.push false).setIfInBounds i true) a w:=by
      intro a w hh;rw[nr];refine ih (ls.setIfInBounds i true) a w (by grind) (λj oj fm hb e Jb iY=>?_) hh;have hsj:∀k,(ls.setIfInBounds i true).getD k false=true↔(k=i\/ls.getD k false=true):=by
       intro k;by_cases OL:k=i
       ·simp[*]
       ·have:¬i=k:=λe=>OL e.symm
        simp[*]
      rw[hsj];rcases(hsj j).1 hb with rfl|de
      ·right;have hoi:oj=pre[j]:=by grind
       subst hoi;obtain⟨_,o',ir,bQ⟩:=mem_ready.1 Sd;grind
      grind
     unfold wpOpIn at hw⊢;rw[ho]at hw;rw[Ax];simp only at hw⊢;have hy:Region.wanted pre[i] (yielded (pre++ [last]).toArray a.tmps)=Region.wanted pre[i] (yielded pre.toArray a.tmps):=by
      grind[Region.wanted,guard,List.getElem_mem,yielded,List.getElem?_append_left]
     rw[hy];split
     ·rename_i hc;rw[if_pos hc]at hw;grind[V4]
     grind
    ·have hik:i=pre.length:=by omega
     subst hik;exfalso;rw[Zk]at h2;obtain rfl:=apO h2;have bQ:=UD ls oU (λe Jb hb=>by rw[<-ke e.on (nD e Jb hb) false];grind);obtain⟨k,pL⟩:=List.exists_mem_of_ne_nil _ vA;obtain⟨g1,o',g2,_⟩:=mem_ready.1 pL;grind
def PT(pre:List Oper)(last:Oper)(s7:List Nat):Bool:=(List.range pre.length).all λj=>s7.contains j
theorem aw.V5{id}{pre}{last}{s} us(hm:P.follows .mixedOrders=true)(hd:dB n pre=true)
  (aS:(indep pre&&indep (pre++ [last])&&E7 (pre++ [last]) (tQ (pre++ [last]) [])&&PT pre last ((tQ (pre++ [last]) []).getD pre.length [])&&pre.all (λo=>match o.guard with|some g=>decide (g.1<pre.length)|none=>true))=true)
  (h:uF P pre.toArray pre s us (λs'=>ar P n (pre++ [last]).toArray [last] s' Q)):aw P n (.region id (pre++ [last]).toArray true) s Q:=by
 simp only[apP,apR]at aS;obtain⟨⟨⟨⟨cO,k1⟩,k2⟩,k3⟩,k4⟩:=aS;unfold PT at k3;simp only[apR,aqK,arO,decide_eq_true_eq]at k3;have wX:(pre++ [last])[pre.length]?=some last:=by simp
 have nD:=(nq k1 wX).2.1;intro fo m a w _ g;obtain⟨tr,s2,ht,hK⟩:=qT pre s us h;refine wpIn_region_any hm ?_;have h1:=wU (P:=P) (n:=n) ht cO hd (fo:=fo) (m:=m) (m0:=m) (w0:=w) (R:=λe a' w'=>e= .normal/\G fo n m s2 a' w'/\Step w (own m) w' (own m)) (λa1 w1 g1 st=>⟨rfl,g1,st⟩) (λp hp=>(g.fr p.1 p.2 hp).1) pre.length (Array.replicate pre.length false) (List.range pre.length) a {w with drawn:=w.drawn+1}
  (by simp) (λi hi _=>by grind) (by simpa using zh (l:=pre) (tr:=tr) g (w.drawn+1))
 have DS:∀j,(Array.replicate pre.length false).getD j false=false:=by simp[Array.getD]
 have h2:=ab1 (P:=P) (last:=last) (Q':=fX fo n m w Q) cO nD (λls oU hl j hj=>?_) (λo ho g hg=>?_) (λe a1 w1 bU hR=>absurd hR.1 bU) (λa1 w1 hR=>?_) pre.length (Array.replicate pre.length false) a {w with drawn:=w.drawn+1} (by simp) (λj o _ hb=>by grind) h1
 ·grind
 ·refine Bw k1 k2 (listed:=ls) (λj o ho hb e Jb iY=>?_) pre.length last wX hl j (k3 j hj);grind
 ·grind
 ·obtain⟨_,g1,st⟩:=hR;have h3:=hK fo m w m a1 w1 st g1;simp_all[wpListIn]
theorem aw.Fy{id}{l}{s} k us(hm:P.follows .mixedOrders=true)(hl:(l.take k++ [vF l k])=l)
  (aS:(dB n (l.take k)&&(indep (l.take k)&&indep (l.take k++ [vF l k])&&E7 (l.take k++ [vF l k]) (tQ (l.take k++ [vF l k]) [])&&PT (l.take k) (vF l k) ((tQ (l.take k++ [vF l k]) []).getD (l.take k).length [])&&(l.take k).all (λo=>match o.guard with|some g=>decide (g.1<(l.take k).length)|none=>true)))=true)
  (h:uF P (l.take k).toArray (l.take k) s us (λs'=>ar P n l.toArray [vF l k] s' Q)):aw P n (.region id l.toArray true) s Q:=by
 simp only[apP]at aS;have:=aw.V5 (id:=id) (last:=vF l k) us hm aS.1 (by grind) (by rw[hl];exact h);rw[hl]at this;exact this
attribute [simp] uF
end
def aY(c0 c1:V)(s:an)(F:Int)(m:aj):List V:=c0::c1::(m.Env.enc.map V.d++(m.Told.enc.map V.d++(oD m.bX::(s.enc.map V.d++ [iD F]))))
abbrev Tw(s:an)(F:Int)(m:aj):List V:=aY (.rv 5005) (.rv 5004) s F m
@[simp] theorem akP(c0 c1:V)(s:an)(F:Int)(m:aj):(aY c0 c1 s F m).length=42:=rfl
@[simp] theorem anm(c0 c1:V)(s:an)(F:Int)(m:aj):(aY c0 c1 s F m)[0]?=some c0:=rfl
@[simp] theorem alO(c0 c1:V)(s:an)(F:Int)(m:aj)(h:0<(aY c0 c1 s F m).length):(aY c0 c1 s F m)[0]=c0:=rfl
@[simp] theorem ann(c0 c1:V)(s:an)(F:Int)(m:aj):(aY c0 c1 s F m)[1]?=some c1:=rfl
@[simp] theorem alP(c0 c1:V)(s:an)(F:Int)(m:aj)(h:1<(aY c0 c1 s F m).length):(aY c0 c1 s F m)[1]=c1:=rfl
@[simp] theorem ano(c0 c1:V)(s:an)(F:Int)(m:aj):(aY c0 c1 s F m)[2]?=some (iD m.Env.qt):=rfl
@[simp] theorem alQ(c0 c1:V)(s:an)(F:Int)(m:aj)(h:2<(aY c0 c1 s F m).length):(aY c0 c1 s F m)[2]=iD m.Env.qt:=rfl
@[simp] theorem anp(c0 c1:V)(s:an)(F:Int)(m:aj):(aY c0 c1 s F m)[3]?=some (iD m.Env.Second):=rfl
@[simp] theorem alR(c0 c1:V)(s:an)(F:Int)(m:aj)(h:3<(aY c0 c1 s F m).length):(aY c0 c1 s F m)[3]=iD m.Env.Second:=rfl
@[simp] theorem anq(c0 c1:V)(s:an)(F:Int)(m:aj):(aY c0 c1 s F m)[4]?=some (iD m.Env.Number):=rfl
@[simp] theorem alS(c0 c1:V)(s:an)(F:Int)(m:aj)(h:4<(aY c0 c1 s F m).length):(aY c0 c1 s F m)[4]=iD m.Env.Number:=rfl
@[simp] theorem anr(c0 c1:V)(s:an)(F:Int)(m:aj):(aY c0 c1 s F m)[5]?=some (iD m.Told.kC):=rfl
@[simp] theorem alT(c0 c1:V)(s:an)(F:Int)(m:aj)(h:5<(aY c0 c1 s F m).length):(aY c0 c1 s F m)[5]=iD m.Told.kC:=rfl
@[simp] theorem ans(c0 c1:V)(s:an)(F:Int)(m:aj):(aY c0 c1 s F m)[6]?=some (.d (.sl (aD m.Told.World.aW))):=rfl
@[simp] theorem alU(c0 c1:V)(s:an)(F:Int)(m:aj)(h:6<(aY c0 c1 s F m).length):(aY c0 c1 s F m)[6]= .d (.sl (aD m.Told.World.aW)):=rfl
@[simp] theorem ant(c0 c1:V)(s:an)(F:Int)(m:aj):(aY c0 c1 s F m)[7]?=some (.d (.sl (aD m.Told.World.ah))):=rfl
@[simp] theorem alV(c0 c1:V)(s:an)(F:Int)(m:aj)(h:7<(aY c0 c1 s F m).length):(aY c0 c1 s F m)[7]= .d (.sl (aD m.Told.World.ah)):=rfl
@[simp] theorem anu(c0 c1:V)(s:an)(F:Int)(m:aj):(aY c0 c1 s F m)[8]?=some (.d (.sl (aD m.Told.World.Child))):=rfl
@[simp] theorem alW(c0 c1:V)(s:an)(F:Int)(m:aj)(h:8<(aY c0 c1 s F m).length):(aY c0 c1 s F m)[8]= .d (.sl (aD m.Told.World.Child)):=rfl
@[simp] theorem anv(c0 c1:V)(s:an)(F:Int)(m:aj):(aY c0 c1 s F m)[9]?=some (.d (.sl (aD m.Told.World.Next))):=rfl
@[simp] theorem alX(c0 c1:V)(s:an)(F:Int)(m:aj)(h:9<(aY c0 c1 s F m).length):(aY c0 c1 s F m)[9]= .d (.sl (aD m.Told.World.Next)):=rfl
@[simp] theorem alY(c0 c1:V)(s:an)(F:Int)(m:aj):(aY c0 c1 s F m)[10]?=some (.d (.sl (aD m.Told.World.Flags))):=rfl
@[simp] theorem akQ(c0 c1:V)(s:an)(F:Int)(m:aj)(h:10<(aY c0 c1 s F m).length):(aY c0 c1 s F m)[10]= .d (.sl (aD m.Told.World.Flags)):=rfl
@[simp] theorem alZ(c0 c1:V)(s:an)(F:Int)(m:aj):(aY c0 c1 s F m)[11]?=some (.d (.sl (aD m.Told.World.aM))):=rfl
@[simp] theorem akR(c0 c1:V)(s:an)(F:Int)(m:aj)(h:11<(aY c0 c1 s F m).length):(aY c0 c1 s F m)[11]= .d (.sl (aD m.Told.World.aM)):=rfl
@[simp] theorem al0(c0 c1:V)(s:an)(F:Int)(m:aj):(aY c0 c1 s F m)[12]?=some (.d (.sl (aD m.Told.World.bO))):=rfl
@[simp] theorem akS(c0 c1:V)(s:an)(F:Int)(m:aj)(h:12<(aY c0 c1 s F m).length):(aY c0 c1 s F m)[12]= .d (.sl (aD m.Told.World.bO)):=rfl
@[simp] theorem al1(c0 c1:V)(s:an)(F:Int)(m:aj):(aY c0 c1 s F m)[13]?=some (.d (.v (.int .u64 m.Told.World.dN))):=rfl
@[simp] theorem akT(c0 c1:V)(s:an)(F:Int)(m:aj)(h:13<(aY c0 c1 s F m).length):(aY c0 c1 s F m)[13]= .d (.v (.int .u64 m.Told.World.dN)):=rfl
@[simp] theorem al2(c0 c1:V)(s:an)(F:Int)(m:aj):(aY c0 c1 s F m)[14]?=some (iD m.Told.World.Score):=rfl
@[simp] theorem akU(c0 c1:V)(s:an)(F:Int)(m:aj)(h:14<(aY c0 c1 s F m).length):(aY c0 c1 s F m)[14]=iD m.Told.World.Score:=rfl
@[simp] theorem al3(c0 c1:V)(s:an)(F:Int)(m:aj):(aY c0 c1 s F m)[15]?=some (iD m.Told.World.nG):=rfl
@[simp] theorem akV(c0 c1:V)(s:an)(F:Int)(m:aj)(h:15<(aY c0 c1 s F m).length):(aY c0 c1 s F m)[15]=iD m.Told.World.nG:=rfl
@[simp] theorem al4(c0 c1:V)(s:an)(F:Int)(m:aj):(aY c0 c1 s F m)[16]?=some (iD m.Told.World.lq):=rfl
@[simp] theorem akW(c0 c1:V)(s:an)(F:Int)(m:aj)(h:16<(aY c0 c1 s F m).length):(aY c0 c1 s F m)[16]=iD m.Told.World.lq:=rfl
@[simp] theorem al5(c0 c1:V)(s:an)(F:Int)(m:aj):(aY c0 c1 s F m)[17]?=some (iD m.Told.World.It):=rfl
@[simp] theorem akX(c0 c1:V)(s:an)(F:Int)(m:aj)(h:17<(aY c0 c1 s F m).length):(aY c0 c1 s F m)[17]=iD m.Told.World.It:=rfl
@[simp] theorem al6(c0 c1:V)(s:an)(F:Int)(m:aj):(aY c0 c1 s F m)[18]?=some (iD m.Told.World.Go):=rfl
@[simp] theorem akY(c0 c1:V)(s:an)(F:Int)(m:aj)(h:18<(aY c0 c1 s F m).length):(aY c0 c1 s F m)[18]=iD m.Told.World.Go:=rfl
@[simp] theorem al7(c0 c1:V)(s:an)(F:Int)(m:aj):(aY c0 c1 s F m)[19]?=some (.d (.v (.string m.Told.Out))):=rfl
@[simp] theorem akZ(c0 c1:V)(s:an)(F:Int)(m:aj)(h:19<(aY c0 c1 s F m).length):(aY c0 c1 s F m)[19]= .d (.v (.string m.Told.Out)):=rfl
@[simp] theorem al8(c0 c1:V)(s:an)(F:Int)(m:aj):(aY c0 c1 s F m)[20]?=some (iD m.Told.Value):=rfl
@[simp] theorem ak0(c0 c1:V)(s:an)(F:Int)(m:aj)(h:20<(aY c0 c1 s F m).length):(aY c0 c1 s F m)[20]=iD m.Told.Value:=rfl
@[simp] theorem al9(c0 c1:V)(s:an)(F:Int)(m:aj):(aY c0 c1 s F m)[21]?=some (oD m.Told.lI):=rfl
@[simp] theorem ak1(c0 c1:V)(s:an)(F:Int)(m:aj)(h:21<(aY c0 c1 s F m).length):(aY c0 c1 s F m)[21]=oD m.Told.lI:=rfl
@[simp] theorem ama(c0 c1:V)(s:an)(F:Int)(m:aj):(aY c0 c1 s F m)[22]?=some (iD m.Told.Fuel):=rfl
@[simp] theorem ak2(c0 c1:V)(s:an)(F:Int)(m:aj)(h:22<(aY c0 c1 s F m).length):(aY c0 c1 s F m)[22]=iD m.Told.Fuel:=rfl
@[simp] theorem amb(c0 c1:V)(s:an)(F:Int)(m:aj):(aY c0 c1 s F m)[23]?=some (oD m.bX):=rfl
@[simp] theorem ak3(c0 c1:V)(s:an)(F:Int)(m:aj)(h:23<(aY c0 c1 s F m).length):(aY c0 c1 s F m)[23]=oD m.bX:=rfl
@[simp] theorem amc(c0 c1:V)(s:an)(F:Int)(m:aj):(aY c0 c1 s F m)[32]?=some (.d (.sl (s.Tables.aB.map aZ.enc))):=rfl
@[simp] theorem ak4(c0 c1:V)(s:an)(F:Int)(m:aj)(h:32<(aY c0 c1 s F m).length):(aY c0 c1 s F m)[32]= .d (.sl (s.Tables.aB.map aZ.enc)):=rfl
@[simp] theorem amd(c0 c1:V)(s:an)(F:Int)(m:aj):(aY c0 c1 s F m)[35]?=some (.d (.sl (aD s.Tables.cS))):=rfl
@[simp] theorem ak5(c0 c1:V)(s:an)(F:Int)(m:aj)(h:35<(aY c0 c1 s F m).length):(aY c0 c1 s F m)[35]= .d (.sl (aD s.Tables.cS)):=rfl
@[simp] theorem ame(c0 c1:V)(s:an)(F:Int)(m:aj):(aY c0 c1 s F m)[37]?=some (.d (.sl (aD s.Tables.Params))):=rfl
@[simp] theorem ak6(c0 c1:V)(s:an)(F:Int)(m:aj)(h:37<(aY c0 c1 s F m).length):(aY c0 c1 s F m)[37]= .d (.sl (aD s.Tables.Params)):=rfl
@[simp] theorem amf(c0 c1:V)(s:an)(F:Int)(m:aj):(aY c0 c1 s F m)[38]?=some (.d (.sl (aD s.Tables.aJ))):=rfl
@[simp] theorem ak7(c0 c1:V)(s:an)(F:Int)(m:aj)(h:38<(aY c0 c1 s F m).length):(aY c0 c1 s F m)[38]= .d (.sl (aD s.Tables.aJ)):=rfl
@[simp] theorem amg(c0 c1:V)(s:an)(F:Int)(m:aj):(aY c0 c1 s F m)[41]?=some (iD F):=rfl
@[simp] theorem ak8(c0 c1:V)(s:an)(F:Int)(m:aj)(h:41<(aY c0 c1 s F m).length):(aY c0 c1 s F m)[41]=iD F:=rfl
@[simp] theorem aiO(c0 c1:V)(s:an)(F:Int)(m:aj)(n:Int):List.take 14 (aY c0 c1 s F m)++V.d (.v (.int .i64 n))::List.drop 15 (aY c0 c1 s F m)=aY c0 c1 s F {m with Told:={m.Told with World:={m.Told.World with Score:=n}}}:=rfl
@[simp] theorem aiP(c0 c1:V)(s:an)(F:Int)(m:aj)(n:Int):(aY c0 c1 s F m).set 14 (iD n)=aY c0 c1 s F {m with Told:={m.Told with World:={m.Told.World with Score:=n}}}:=rfl
@[simp] theorem aiQ(c0 c1:V)(s:an)(F:Int)(m:aj)(n:Int):List.take 16 (aY c0 c1 s F m)++V.d (.v (.int .i64 n))::List.drop 17 (aY c0 c1 s F m)=aY c0 c1 s F {m with Told:={m.Told with World:={m.Told.World with lq:=n}}}:=rfl
@[simp] theorem aiR(c0 c1:V)(s:an)(F:Int)(m:aj)(n:Int):(aY c0 c1 s F m).set 16 (iD n)=aY c0 c1 s F {m with Told:={m.Told with World:={m.Told.World with lq:=n}}}:=rfl
@[simp] theorem aiS(c0 c1:V)(s:an)(F:Int)(m:aj)(n:Int):List.take 18 (aY c0 c1 s F m)++V.d (.v (.int .i64 n))::List.drop 19 (aY c0 c1 s F m)=aY c0 c1 s F {m with Told:={m.Told with World:={m.Told.World with Go:=n}}}:=rfl
@[simp] theorem aiT(c0 c1:V)(s:an)(F:Int)(m:aj)(n:Int):(aY c0 c1 s F m).set 18 (iD n)=aY c0 c1 s F {m with Told:={m.Told with World:={m.Told.World with Go:=n}}}:=rfl
@[simp] theorem aiU(c0 c1:V)(s:an)(F:Int)(m:aj)(n:ByteArray):List.take 19 (aY c0 c1 s F m)++V.d (.v (.string n))::List.drop 20 (aY c0 c1 s F m)=aY c0 c1 s F {m with Told:={m.Told with Out:=n}}:=rfl
@[simp] theorem aiV(c0 c1:V)(s:an)(F:Int)(m:aj)(n:ByteArray):(aY c0 c1 s F m).set 19 (.d (.v (.string n)))=aY c0 c1 s F {m with Told:={m.Told with Out:=n}}:=rfl
@[simp] theorem aiW(c0 c1:V)(s:an)(F:Int)(m:aj)(n:Int):List.take 20 (aY c0 c1 s F m)++V.d (.v (.int .i64 n))::List.drop 21 (aY c0 c1 s F m)=aY c0 c1 s F {m with Told:={m.Told with Value:=n}}:=rfl
@[simp] theorem aiX(c0 c1:V)(s:an)(F:Int)(m:aj)(n:Int):(aY c0 c1 s F m).set 20 (iD n)=aY c0 c1 s F {m with Told:={m.Told with Value:=n}}:=rfl
@[simp] theorem aiY(c0 c1:V)(s:an)(F:Int)(m:aj)(n:Bool):List.take 21 (aY c0 c1 s F m)++V.d (.v (.bool n))::List.drop 22 (aY c0 c1 s F m)=aY c0 c1 s F {m with Told:={m.Told with lI:=n}}:=rfl
@[simp] theorem aiZ(c0 c1:V)(s:an)(F:Int)(m:aj)(n:Bool):(aY c0 c1 s F m).set 21 (oD n)=aY c0 c1 s F {m with Told:={m.Told with lI:=n}}:=rfl
@[simp] theorem ai0(c0 c1:V)(s:an)(F:Int)(m:aj)(n:Int):List.take 22 (aY c0 c1 s F m)++V.d (.v (.int .i64 n))::List.drop 23 (aY c0 c1 s F m)=aY c0 c1 s F {m with Told:={m.Told with Fuel:=n}}:=rfl
@[simp] theorem ai1(c0 c1:V)(s:an)(F:Int)(m:aj)(n:Int):(aY c0 c1 s F m).set 22 (iD n)=aY c0 c1 s F {m with Told:={m.Told with Fuel:=n}}:=rfl
@[simp] theorem ai2(c0 c1:V)(s:an)(F:Int)(m:aj)(n:Bool):List.take 23 (aY c0 c1 s F m)++V.d (.v (.bool n))::List.drop 24 (aY c0 c1 s F m)=aY c0 c1 s F {m with bX:=n}:=rfl
@[simp] theorem ai3(c0 c1:V)(s:an)(F:Int)(m:aj)(n:Bool):(aY c0 c1 s F m).set 23 (oD n)=aY c0 c1 s F {m with bX:=n}:=rfl
@[simp] theorem anw(c0 c1:V)(s:an)(F:Int)(m:aj):List.take 15 (List.drop 24 (aY c0 c1 s F m))=s.Tables.enc.map .d:=rfl
@[simp] theorem anx(c0 c1:V)(s:an)(F:Int)(m:aj):List.take 17 (List.drop 24 (aY c0 c1 s F m))=s.enc.map .d:=rfl
@[simp] theorem anz(c0 c1:V)(s:an)(F:Int)(m:aj):List.take 13 (List.drop 6 (aY c0 c1 s F m))=m.Told.World.enc.map .d:=rfl
@[simp] theorem anA(c0 c1:V)(s:an)(F:Int)(m:aj):List.take 3 (List.drop 2 (aY c0 c1 s F m))=m.Env.enc.map .d:=rfl
@[simp] theorem akf(c0 c1:V)(s:an)(F:Int)(m:aj)(w:ai):List.take 6 (aY c0 c1 s F m)++(w.enc.map V.d++List.drop 19 (aY c0 c1 s F m))=aY c0 c1 s F {m with Told:={m.Told with World:=w}}:=rfl
@[simp] theorem akg(x c0 c1:V)(s:an)(F:Int)(m:aj):x::List.drop 1 (aY c0 c1 s F m)=aY x c1 s F m:=rfl
@[simp] theorem ai4(x c0 c1:V)(s:an)(F:Int)(m:aj):x::(aY c0 c1 s F m).tail=aY x c1 s F m:=rfl
@[simp] theorem akh(x c0 c1:V)(s:an)(F:Int)(m:aj):List.take 1 (aY c0 c1 s F m)++x::List.drop 2 (aY c0 c1 s F m)=aY c0 x s F m:=rfl
theorem Hy(ks:List Nat):∀(a b:List V),V.dA ks (a++b)=(V.dA ks a&&V.dA ks b)
 | [],b=>by simp[V.dA]
 | x::a,b=>by simp[V.dA,Hy ks a b,ar8]
theorem Zm(h g:Nat)(a b:List V):V.qy h g (a++b)=V.qy h g a++V.qy h g b:=by simp[qX]
theorem EC(h:Nat)(y:V)(a b:List V):V.mC h y (a++b)=V.mC h y a++V.mC h y b:=by simp[pj]
@[simp] theorem amh(ks:List Nat)(c0 c1:V)(s:an)(F:Int)(m:aj):V.dA ks (aY c0 c1 s F m)=(c0.on ks&&c1.on ks):=by
 simp[aY,Hy,V.dA,V.on]
@[simp] theorem aki(h:Nat)(c0 c1:V)(s:an)(F:Int)(m:aj):V.dR h (aY c0 c1 s F m)=aY (c0.kill h) (c1.kill h) s F m:=by
 rw[iF];simp only[aY,aqd,aqM,<-iF,JH];simp[V.dR,V.kill]
@[simp] theorem ak9(h:Nat)(y c0 c1:V)(s:an)(F:Int)(m:aj):V.mC h y (aY c0 c1 s F m)=aY (V.fM h y c0) (V.fM h y c1) s F m:=by
 unfold aY;simp[V.mC,V.fM,EC,vD]
@[simp] theorem ala(h g:Nat)(c0 c1:V)(s:an)(F:Int)(m:aj):V.qy h g (aY c0 c1 s F m)=aY (c0.eR h g) (c1.eR h g) s F m:=by
 unfold aY;simp[V.qy,V.eR,Zm,OA]
theorem aeF(hx:List (Nat×Value))(l:List D):(l.map V.d).map (V.cg hx)=l.map V.d:=by
 rw[arc];exact List.map_congr_left λ_ _=>rfl
@[simp] theorem akj(hx:List (Nat×Value))(c0 c1:V)(s:an)(F:Int)(m:aj):(aY c0 c1 s F m).map (V.cg hx)=aY (c0.cg hx) (c1.cg hx) s F m:=by
 unfold aY;simp only[aqd,aqM,aeF,ar3];rfl
def bE(wb:Nat)(s:an)(F:Int)(m:aj):aH:=[(5003,.box (wb+1) 80 (Tw s F m)),(5004,.row 3 1 (dd (aD m.Stack))),(5005,.row 74 4 (dd (m.Frames.map aG.enc)))]
theorem lK(wb:Nat)(s:an)(F:Int)(m:aj)(n:Int)(hl:m.Stack.length<=1000000):aE prog 128 [.bp 5003 0,iD n] (bE wb s F m) (λr L=>r= .ret (.bM [])/\L=bE wb s F {m with Stack:=m.Stack++ [ax n]}):=by
 have hw:=(cu n).ok;unfold bE;refine rX [] [5003,5004,5005] func128 ?_;simp[-cB,f128];refine aw.bI [asj,Q3,Q3,Q3,Q3,Q3,Q0,Q0,none,none,asl,asl,asl,none] [iD (ax n)] bc (by kernel_rfl) ?_;simp[-cB,hw];exact⟨by omega,rfl⟩
theorem fg(wb:Nat)(s:an)(F:Int)(m:aj)(S:List Int)(v:Int)(h:m.Stack=S++ [v])(hl:S.length<=1000000):aE prog 73 [.bp 5003 0] (bE wb s F m) (λr L=>r= .ret (iD v)/\L=bE wb s F {m with Stack:=S}):=by
 unfold bE;refine rX [2] [5003,5004,5005] func73 ?_;simp[-cB,f73];simp[h];refine aw.cV [] bc (by kernel_rfl) (by rfl) ?_;simp[-cB,h];refine⟨iW,?_⟩;refine aw.bI [Q3,Q0,Q0,Q0,Q0,Q0,Q0,Q0,Q0,Q0,Q0,Q0,Q0,none,asi,asi,asi,none] [] bc (by kernel_rfl) ?_;simp[-cB];exact⟨iW,by omega,rfl⟩
theorem xC(wb:Nat)(s:an)(F:Int)(m:aj)(Fr:List aG)(f:aG)(h:m.Frames=Fr++ [f])(hl:Fr.length<=1000000):r7 prog 36 [.bp 5003 0] (bE wb s F m) (.ep 5005 4 Fr.length 0):=by
 unfold bE;refine r7.run func36 rfl (by simp[f36]) ?_;simp only[f36];refine RW.seq (RW.one [] rfl (by kernel_rfl) (by rfl) ?_);simp[uF];refine RW.seq (RW.draw [] bc (by kernel_rfl) (by rfl) ?_);simp[uF];have hlen:m.Frames.length=Fr.length+1:=by rw[h];simp
 refine⟨iW,⟨by omega,by omega⟩,RW.ret ?_⟩;simp[Tv,u5,Bq,hlen]
theorem PU(wb:Nat)(s:an)(F:Int)(m:aj)(x:ByteArray)(h:m.Told.Out.size+x.size<=140737488355328):aE prog 77 [.bp 5003 0,.d (.v (.string x))] (bE wb s F m) (λr L=>r= .ret (.bM [])/\L=bE wb s F {m with Told:={m.Told with Out:=m.Told.Out++x}}):=by
 unfold bE;refine rX [] [5003,5004,5005] func77 ?_;simp[-cB,f77];omega
theorem aeG(wb:Nat)(s:an)(F:Int)(m:aj)(k:Int):aE prog 76 [.bp 5003 0,iD k] (bE wb s F m) (λr L=>r= .ret (.bM [])/\L=bE wb s F {m with Told:={m.Told with World:=(if k=29 then {m.Told.World with lq:=1}else if k=30 then {m.Told.World with lq:=2}else m.Told.World),lI:=true},bX:=true}):=by
 unfold bE;by_cases h1:k=29
 ·refine rX [] [5003,5004,5005] func76 ?_;simp[-cB,f76];simp[h1]
 ·by_cases h2:k=30
  ·refine rX [] [5003,5004,5005] func76 ?_;simp[-cB,f76];simp[h2]
  ·refine rX [] [5003,5004,5005] func76 ?_;simp[-cB,f76];simp[h1,h2]
theorem FA{l Fr:List aG}{f:aG}(h:l=Fr++ [f])(x:List V):(dd (List.map aG.enc l)).set Fr.length x=dd (List.map aG.enc Fr)++ [x]:=by
 subst h;simp[dd,List.set_append]
theorem Zn(ks:List Nat)(l:List (List D)):∀x∈dd l,V.dA ks x=true:=by
 intro x hx;obtain⟨y,_,rfl⟩:=apV.1 hx;exact E4 ks y
theorem agA(a b:List (List D)):dd (a++b)=dd a++dd b:=by simp[dd]
theorem tq{l Fr:List aG}{f:aG}(h:l=Fr++ [f]):l[Fr.length]?=some f:=by subst h;simp
abbrev ky(wb:Nat)(s:an)(F:Int)(m:aj)(i:ae)(m':aj):Prop:=aE prog 38 [.bp 5003 0,.agg (i.enc.map .d)] (bE wb s F m) (λr L=>r= .ret (.bM [])/\L=bE wb s F m')
theorem Zo(wb:Nat)(s:an)(F:Int)(m:aj)(Fr:List aG)(f:aG)(i:ae)(aP:i.Op=24)(h:m.Frames=Fr++ [f])(hl:Fr.length≤1000000)(hA:aN .i64 (f.At+i.Arg)):
  ky wb s F m i {m with Frames:=Fr++ [{f with At:=f.At+i.Arg}]}:=by
 have ht:=xC wb s F m Fr f h hl;have hg:=tq h;have hlen:Fr.length<m.Frames.length:=by rw[h];simp
 unfold ky bE at *;refine rX [] [5003,5004,5005] func38 ?_;simp[-cB,f38];intro bs;simp[aP];refine aw.bI [Q0,Q0,Q0,Q0,Q0,Q0,Q0,Q0,Q0,Q0,none] [.ep 5005 4 Fr.length 0] bc (by kernel_rfl) ?_;simp[-cB];refine⟨lU.read [5003,5004,5005] ht (by simp) (by kernel_rfl) (by simp) (by simp),?_⟩;have bR:m.Frames[Fr.length]'hlen=f:=by rw[anc hlen]at hg;exact apO hg
 simp[hlen,bR,hA,FA h,aG.enc];exact⟨λx hx=>hx.elim (Zn _ _ x) (λe=>by rw[e];rfl),rfl,by simp[dd]⟩
theorem iZ{hx:List (Nat×Value)}{h:Nat}(e:hx.map Prod.fst=[h]):∃x,hx=[(h,x)]:=by
 match hx,e with
 | [(k,x)],e=>simp at e;subst e;exact⟨x,rfl⟩
theorem Is{hx:List (Nat×Value)}{h g:Nat}(e:hx.map Prod.fst=[h,g]):∃x y,hx=[(h,x),(g,y)]:=by
 match hx,e with
 | [(k,x),(j,y)],e=>simp at e;obtain⟨rfl,rfl⟩:=e;exact⟨x,y,rfl⟩
def pZ(wb:Nat)(s:an)(F:Int)(m:aj):aH:=[(5003,.box (wb+1) 80 (Tw s F m)),(5004,.row 3 1 (dd (aD m.Stack)))]
theorem fR(wb:Nat)(s:an)(F:Int)(m:aj)(S:List Int)(v:Int)(h:m.Stack=S++ [v])(hl:S.length<=1000000):∀hx:List (Nat×Value),hx.map Prod.fst=[5005]->aE prog 73 [.bp 5003 0] (cY hx (pZ wb s F m)) (λr L=>r= .ret (iD v)/\L=cY hx (pZ wb s F {m with Stack:=S})):=by
 intro hx e;obtain⟨x,rfl⟩:=iZ e;unfold pZ;simp[cY,aV.cg,V.cg];refine rX [2] [5003,5004] func73 ?_;simp[-cB,f73];simp[h];refine aw.cV [] bc (by kernel_rfl) (by rfl) ?_;simp[-cB,h];refine⟨iW,?_⟩;refine aw.bI [Q3,Q0,Q0,Q0,Q0,Q0,Q0,Q0,Q0,Q0,Q0,Q0,Q0,none,asi,asi,asi,none] [] bc (by kernel_rfl) ?_;simp[-cB];exact⟨iW,by omega,rfl⟩
def Zp(wb:Nat)(s:an)(F:Int)(m:aj):aH:=[(5003,.box (wb+1) 80 (Tw s F m))]
theorem Tx(wb:Nat)(s:an)(F:Int)(m:aj)(x:ByteArray)(h:m.Told.Out.size+x.size<=140737488355328):∀hx:List (Nat×Value),hx.map Prod.fst=[5004,5005]->aE prog 77 [.bp 5003 0,.d (.v (.string x))] (cY hx (Zp wb s F m)) (λr L=>r= .ret (.bM [])/\L=cY hx (Zp wb s F {m with Told:={m.Told with Out:=m.Told.Out++x}})):=by
 intro hx e;obtain⟨y,z,rfl⟩:=Is e;unfold Zp;simp[cY,aV.cg,V.cg];refine rX [] [5003] func77 ?_;simp[-cB,f77];omega
theorem Zq(wb:Nat)(s:an)(F:Int)(m:aj)(Fr:List aG)(f:aG)(i:ae)(S:List Int)(v:Int)(aP:i.Op=25)(h:m.Frames=Fr++ [f])(hl:Fr.length≤1000000)(hS:m.Stack=S++ [v])(wC:S.length≤1000000)(hA:aN .i64 (f.At+i.Arg)):
  ky wb s F m i {m with Stack:=S,Frames:=Fr++ [{f with At:=if v=0 then f.At+i.Arg else f.At}]}:=by
 have hp:=fg wb s F m S v hS wC;have ht:=xC wb s F {m with Stack:=S} Fr f h hl;have hg:=tq h;have hlen:Fr.length<m.Frames.length:=by rw[h];simp
 have bR:m.Frames[Fr.length]'hlen=f:=by rw[anc hlen]at hg;exact apO hg
 unfold ky bE at *;by_cases hv:v=0
 ·refine rX [] [5003,5004,5005] func38 ?_;simp[-cB,f38];intro bs;simp[aP];refine eD [5003,5004,5005] hp ?_;simp[hv];refine aw.bI [Q0,Q0,Q0,Q0,Q0,Q0,Q0,Q0,Q0,Q0,none] [.ep 5005 4 Fr.length 0] bc (by kernel_rfl) ?_;simp[-cB];refine⟨lU.read [5003,5004,5005] ht (by simp) (by kernel_rfl) (by simp) (by simp),?_⟩;simp[hlen,bR,hA,FA h,aG.enc];exact⟨λx hx=>hx.elim (Zn _ _ x) (λe=>by rw[e];rfl),rfl,by simp[dd]⟩
 ·have hm:m.Frames=Fr++ [⟨f.dF,f.At,f.cE,f.aJ⟩]:=h;refine rX [] [5003,5004,5005] func38 ?_;simp[-cB,f38];intro bs;simp[aP];refine eD [5003,5004,5005] hp ?_;simp[hv];rw[hm];exact⟨rfl,by simp⟩
def Zr(wb:Nat)(s:an)(F:Int)(m:aj):aH:=[(5003,.box (wb+1) 80 (aY (.rv 5005) (.d (.sl (aD m.Stack))) s F m)),(5005,.row 74 4 (dd (m.Frames.map aG.enc)))]
set_option maxRecDepth 20000 in
set_option maxHeartbeats 2000000 in
theorem ab2(wb:Nat)(s:an)(F:Int)(m:aj)(r:Nat)(e:Int)(N:Nat)(S a:List Int)(he:s.Entry[r]?=some e)(hn:s.Tables.aJ[r]?=some (N:Int))(hN:N≤1000)(hp:s.Tables.Params[r]?=some (a.length:Int))(ha:a.length≤N)(hS:m.Stack=S++a)(wC:S.length≤1000000)(iE:m.Frames.length < 32):
  aE prog 74 [.bp 5003 0,iD r] (bE wb s F m) (λx L=>x= .ret (.bM [])/\L=Zr wb s F {m with Stack:=S,Frames:=m.Frames++ [⟨r,e,S.length,a.map ax++List.replicate (N-a.length) 0⟩]}):=by
 have hf:=wW s r e N he hn (by omega) a ha (S.length:Int);obtain⟨nz,qi⟩:=apQ.1 hp;unfold bE Zr;refine aE.xY func74 rfl (by simp[f74]) (aw.adm [] [5003,5005] (by simp) (by decide) ?_);simp only[f74];refine aw.weaken (Wk.freeze 5004 (ty:=3) (k:=1) (ys:=aD m.Stack) (by rfl)) ?_;refine aw.tJ ?_;have ab3:¬(32<=(m.Frames.length:Int)):=by omega
 simp[-cB,V.fM,hS];simp[ab3];refine aw.cV [] bc (by kernel_rfl) (by rfl) ?_;have aaU:¬((S.length:Int)<0):=by omega
 simp[-cB,nz,qi];refine⟨iW,?_⟩;simp[aaU];refine aw.bI [asj,Q3,Q3,Q3,Q3,Q3,Q0,Q0,Q0,Q0,Q0,Q0,Q0,Q0,Q0,Q0,Q0,Q0,Q0,Q0,none,none,asl,asl,asl,none] [.agg ((aG.mk r e S.length (a.map ax++List.replicate (N-a.length) 0)).enc.map .d)] bc (by kernel_rfl) ?_;simp[-cB];have hda:List.drop S.length (List.take (S.length+a.length) (S++a))=a:=by
  rw[<-apX,aqC,List.drop_left]
 rw[hda];exact⟨hf.ok _,by omega,rfl⟩
set_option maxRecDepth 20000 in
set_option maxHeartbeats 2000000 in
theorem ab4(wb:Nat)(s:an)(F:Int)(m:aj)(Fr:List aG)(f:aG)(v:Int)(h:m.Frames=Fr++ [f])(hl:Fr.length≤1000000)(hB:0≤f.cE∧f.cE≤m.Stack.length)(wC:m.Stack.length≤1000000):
  aE prog 75 [.bp 5003 0,iD v] (bE wb s F m) (λx L=>x= .ret (.bM [])/\L=bE wb s F (if Fr=[]then {m with Stack:=m.Stack.take f.cE.toNat,Frames:=[],bX:=true,Told:={m.Told with Value:=v}}else {m with Stack:=m.Stack.take f.cE.toNat++ [ax v],Frames:=Fr})):=by
 have ht:=xC wb s F m Fr f h hl;have hlen:m.Frames.length=Fr.length+1:=by rw[h];simp
 have ay:Fr.length<m.Frames.length:=by omega
 have hg:=tq h;have bR:m.Frames[Fr.length]'ay=f:=by rw[anc ay]at hg;exact apO hg
 unfold bE at *;refine rX [] [5003,5004,5005] func75 ?_;simp[-cB,f75];refine ar.V3 [5003,5004,5005] rfl ht (by simp) rfl (by simp) rfl (by kernel_rfl) (by simp) (by simp) (by simp) ?_;simp[-cB,ay,bR];refine aw.bI [Q3,Q0,Q0,Q0,Q0,Q0,Q0,Q0,Q0,Q0,Q0,Q0,Q0,none,asi,asi,asi,none] [] bc (by kernel_rfl) ?_;simp[-cB,hlen];refine⟨iW,by omega,?_⟩;refine aw.bI [Q3,Q0,Q0,Q0,Q0,Q0,Q0,Q0,Q0,Q0,Q0,Q0,Q0,Q0,none,asi,asi,asi,none] [] bc (by kernel_rfl) ?_;have agB:(if(m.Stack.length:Int)<f.cE then(m.Stack.length:Int)else f.cE)=f.cE:=if_neg (by omega);have hmn:min Fr.length m.Frames.length=Fr.length:=arX (by omega);have bU:m.Frames≠ []:=by rw[h];simp
 have AQ:List.take Fr.length (m.Frames.map aG.enc)=Fr.map aG.enc:=by rw[h];simp
 by_cases uw:Fr=[]
 ·simp[-cB,agB,hmn,bU,AQ,uw];exact⟨hB,rfl⟩
 ·have hp:=lK wb s F {m with Stack:=m.Stack.take f.cE.toNat,Frames:=Fr} v (by simp;omega);unfold bE at hp;simp[-cB,agB,hmn,bU,AQ,uw];refine⟨hB,?_⟩;refine ar.weaken (Wk.pick [62,63] [5003,5004,5005] (by rfl) (by decide) (by simp)) ?_;simp[-cB];refine eD [5003,5004,5005] hp ?_;simp
abbrev Na(wb:Nat)(s:an)(F:Int)(m:aj)(i:ae)(m':aj):Prop:=aE prog 38 [.bp 5003 0,.agg (i.enc.map .d)] (bE wb s F m) (λr L=>r= .ret (.bM [])/\L=Zr wb s F m')
abbrev PV(wb:Nat)(s:an)(F:Int)(m:aj)(i:ae)(e:Int):Prop:=∃m',aE prog 38 [.bp 5003 0,.agg (i.enc.map .d)] (bE wb s F m) (λr L=>r= .iC (pc e)/\L=bE wb s F m')
theorem Zs(wb:Nat)(s:an)(F:Int)(m:aj)(i:ae)(r:Nat)(e:Int)(N:Nat)(S a:List Int)(aP:i.Op=26)(hA:0≤i.Arg)(hf:s.Tables.cS[i.Arg.toNat]?=some (r:Int))(he:s.Entry[r]?=some e)(hn:s.Tables.aJ[r]?=some (N:Int))(hN:N≤1000)(hp:s.Tables.Params[r]?=some (a.length:Int))(ha:a.length≤N)(hS:m.Stack=S++a)(wC:S.length≤1000000)(iE:m.Frames.length < 32):
  Na wb s F m i {m with Stack:=S,Frames:=m.Frames++ [⟨r,e,S.length,a.map ax++List.replicate (N-a.length) 0⟩]}:=by
 have hc:=ab2 wb s F m r e N S a he hn hN hp ha hS wC iE;obtain⟨hf1,hf2⟩:=apQ.1 hf;unfold Na bE Zr at *;refine rX [] [5003,5005] func38 ?_;simp[-cB,f38];intro bs;simp[aP];refine aw.Fy 11 [] bc (by rfl) (by kernel_rfl) ?_;simp[-cB,hf1,hf2,vF];refine⟨hA,?_⟩;refine eD [5003,5004,5005] hc ?_;simp
theorem Gq(wb:Nat)(s:an)(F:Int)(m:aj)(i:ae)(Fr:List aG)(f:aG)(S:List Int)(v:Int)(aP:i.Op=27)(h:m.Frames=Fr++ [f])(hl:Fr.length≤1000000)(hS:m.Stack=S++ [v])(hB:0≤f.cE∧f.cE≤S.length)(wC:S.length≤1000000):
  ky wb s F m i (if Fr=[]then {m with Stack:=S.take f.cE.toNat,Frames:=[],bX:=true,Told:={m.Told with Value:=v}}else {m with Stack:=S.take f.cE.toNat++ [ax v],Frames:=Fr}):=by
 have hp:=fg wb s F m S v hS wC;have hb:=ab4 wb s F {m with Stack:=S} Fr f v h hl hB wC;unfold ky bE at *;refine rX [] [5003,5004,5005] func38 ?_;simp[-cB,f38];intro bs;simp[aP];refine eD [5003,5004,5005] hp ?_;simp;refine eD [5003,5004,5005] hb ?_;simp
theorem Zu(wb:Nat)(s:an)(F:Int)(m:aj)(i:ae)(aP:i.Op=28∨i.Op=29∨i.Op=30):
  ky wb s F m i {m with Told:={m.Told with World:=(if i.Op=29 then {m.Told.World with lq:=1}else if i.Op=30 then {m.Told.World with lq:=2}else m.Told.World),lI:=true},bX:=true}:=by
 have hs:=aeG wb s F m i.Op;unfold ky bE at *;rcases aP with h|h|h
 ·rw[h]at hs⊢;refine rX [] [5003,5004,5005] func38 ?_;simp[-cB,f38];intro bs;simp[h];refine eD [5003,5004,5005] hs ?_;simp
 ·rw[h]at hs⊢;refine rX [] [5003,5004,5005] func38 ?_;simp[-cB,f38];intro bs;simp[h];refine eD [5003,5004,5005] hs ?_;simp
 ·rw[h]at hs⊢;refine rX [] [5003,5004,5005] func38 ?_;simp[-cB,f38];intro bs;simp[h];refine eD [5003,5004,5005] hs ?_;simp
theorem LZ(wb:Nat)(s:an)(F:Int)(m:aj)(i:ae)(aP:i.Op=37)(hF:0≤m.Told.Fuel∧m.Told.Fuel≤1099511627776)(hc:¬F < m.Told.Fuel+1):
  ky wb s F m i {m with Told:={m.Told with Fuel:=m.Told.Fuel+1}}:=by
 have da:aN .i64 (m.Told.Fuel+1):=iW;have xP:¬(if F<0 then 0 else F)<=m.Told.Fuel:=by split<;>omega
 unfold ky bE at *;refine rX [] [5003,5004,5005] func38 ?_;simp[-cB,f38];intro bs;simp[aP];refine aw.cV [] bc (by kernel_rfl) (by rfl) ?_;simp[da];exact λh=>absurd h xP
theorem L3(wb:Nat)(s:an)(F:Int)(m:aj)(i:ae)(aP:i.Op=37)(hF:0≤m.Told.Fuel∧m.Told.Fuel≤1099511627776)(hc:F < m.Told.Fuel+1):
  PV wb s F m i 19:=by
 refine⟨m,?_⟩;unfold bE at *;refine rX [] [5003,5004,5005] func38 ?_;simp[-cB,f38];intro bs;simp[aP];refine aw.cV [] bc (by kernel_rfl) (by rfl) ?_;have xP:(if F<0 then 0 else F)<=m.Told.Fuel:=by split<;>omega
 simp[xP];refine ar.panic rfl rfl rfl ?_;simp[pc]
theorem Zv(h:Nat)(l:List aG)(hl:l.length *48<=140737488355328):aE prog 33 [.d (.sl (l.map aG.enc))] [] (λr L=>r= .ret (.rv h)/\L=[(h,.row 74 4 (dd (l.map aG.enc)))]):=by
 refine aE.agl h ?_;refine aE.run func33 rfl (by simp[f33]) ?_;simp[f33];refine ar.adi rfl (by simp;exact⟨rfl,rfl⟩) rfl rfl rfl (by simp) ?_;intro b hb;refine ar.nil ?_;cases b with
 | true=>
   have hl:l=[]:=by have:=hb rfl;simpa using this
   subst hl;simp[-cB]
 | false=>
   simp[-cB];omega
theorem PW(s:an)(m:aj)(F:Int)(hd:m.bX=true):Pure prog 13 [.agg (s.enc.map .d),.agg (m.enc.map .d),iD F] (.agg (m.enc.map .d)):=by
 refine⟨by kernel_rfl,by simp,by simp,?_⟩;refine aE.Yo func13 rfl (by simp[f13]) ?_;simp only[f13];refine D6.Vb rfl ?_;refine aw.tJ ?_;simp[-cB];intro bs;refine D6.Vb rfl ?_;refine aw.tJ ?_;simp[-cB,hd]
theorem jR.Nb{P:Program}{f:FuncId}{args:List V}{L:aH}{px:Option V}{R R':Option V->aH->Prop}(h:jR P f args L px R)(hr:∀r L,R r L->R' r L):jR P f args L px R':=
 λfo m w xs u hi hx hu=>(h fo m w xs u hi hx hu).mono λ_ _ _ ⟨m',r,L',h1,h2⟩=>⟨m',r,L',hr _ _ h1,h2⟩
theorem jR.aim{P:Program}{f:FuncId}{args:List V}{L:aH}{px:Option V}{R R':Option V->aH->Prop}(h:jR P f args L px R)(hr:∀r L,R r L->∃L2,L.Perm L2/\R' r L2):jR P f args L px R':=
 λfo m w xs u hi hx hu=>(h fo m w xs u hi hx hu).mono λ_ _ _ ⟨m',r,L',h1,h2,h3,h4⟩=>by
  obtain⟨L2,hp,hR⟩:=hr _ _ h1;exact⟨m',r,L2,hR,h2,h3.perm hp,h4⟩
theorem ads{α:Type}(A:List α)(x y z:α):(A++ [x,y,z]).Perm ([y,x]++(A++ [z])):=by
 have h1:(A++ [x,y,z]).Perm (([x,y]++A)++ [z]):=by
  have:A++ [x,y,z]=(A++ [x,y])++ [z]:=by simp
  rw[this];exact(List.perm_append_comm).append_right [z]
 have h2:(([x,y]++A)++ [z]).Perm (([y,x]++A)++ [z]):=((List.Perm.swap y x []).append_right A).append_right [z];have h3:=h1.trans h2;simpa using h3
theorem zH(m out:aj)(b4 b6 b3:Nat)(px:Option Int)(A:aH)(c3:List V)(h4:(A++ [(3,aV.box (b3+1) 41 c3)]).all (fun p=>aV.on (keys A++ [3,4,6]) p.2)=true)(h5:(∀x,¬(4,x)∈A)∧∀x,¬(6,x)∈A):jR prog 32 [.bp 4 0,.bp 6 0] (A++ [(6,.box (b6+1) 50 (out.enc.map .d)),(4,.box (b4+1) 50 (m.enc.map .d)),(3,.box (b3+1) 41 c3)]) (px.map pc)
  (λr L'=>r=none/\L'=A++ [(6,.box (b6+1) 50 ((match px with|none=>out|some e=>tp m e).enc.map .d)),(4,.box (b4+1) 50 (m.enc.map .d)),(3,.box (b3+1) 41 c3)]):=by
 refine(jR.frame (PR m out b4 b6 px) (L2:=A++ [(3,.box (b3+1) 41 c3)]) ?_ ?_ (by cases px<;>rfl) ?_ ?_ ?_).aim ?_
 ·exact ads _ _ _ _
 ·simp[keys]
 ·simp
 ·have h4':(∀(a:Nat) (b:aV),(a,b)∈A->aV.on (keys A++ [3,4,6]) b=true)/\V.dA (keys A++ [3,4,6]) c3=true:=by
   simpa using h4
  rintro⟨a,b⟩ hm;have hk:keys (A++ [(3,aV.box (b3+1) 41 c3)])++ [4,6]=keys A++ [3,4,6]:=by simp[keys]
  rcases ap9.1 hm with hm|hm
  ·have:=h4'.1 a b hm;simpa[keys]using this
  ·simp at hm;obtain⟨rfl,rfl⟩:=hm;simpa[keys]using h4'.2
 ·rintro r bh ⟨rfl,rfl⟩;exact⟨by simpa[keys]using h5,cC (by simp)⟩
 ·rintro r bh ⟨uI,⟨rfl,rfl⟩,rfl⟩;exact⟨_,(ads _ _ _ _).symm,rfl,rfl⟩
theorem di:aE prog 37 [iD 0] [] (λr L=>r= .ret (.bM [])/\L=[]):=by
 refine aE.run func37 rfl (by simp[f37]) ?_;simp[-cB,f37]
theorem iS(e:Int)(he:e≠0):aE prog 37 [iD e] [] (λr L=>r= .iC (pc e)/\L=[]):=by
 refine aE.run func37 rfl (by simp[f37]) ?_;simp[-cB,f37];refine aA (λh=>?_) (λh=>?_)<;>simp at h
 ·simp[-cB,h];refine ar.panic rfl rfl rfl ?_;simp[pc]
 ·exact absurd h he
theorem adt(s:an)(F:Int)(m:aj):List.take 24 (aY (.d (.sl (m.Frames.map aG.enc))) (.d (.sl (aD m.Stack))) s F m)=m.enc.map V.d:=rfl
def tt(s:an)(m:aj)(F:Int)(Fr:List aG)(f:aG)(i:ae)(k e:Int)(m':aj):Prop:=
 (e≠0/\m'=tp m e)\/(e=0/\∀wb,ky wb s F {m with Frames:=Fr++ [{f with At:=k}]} i m')\/(e=0/\∀wb,Na wb s F {m with Frames:=Fr++ [{f with At:=k}]} i m')\/(e=0/\∃x,∀wb,PV wb s F {m with Frames:=Fr++ [{f with At:=k}]} i x/\m'=tp m x)
set_option maxHeartbeats 4000000 in
theorem yG(s:an)(m m':aj)(F:Int)(Fr:List aG)(f:aG)(i:ae)(k e:Int)(hd:m.bX=false)(h:m.Frames=Fr++ [f])(hl:m.Frames.length≤1000000)(hS:m.Stack.length≤1000000)
  (xV:Pure prog 35 [.d (.sl (s.Code.map λy=> [.v (.int .u8 y)])),iD f.At] (.bM [.agg (i.enc.map .d),iD k,iD e])) (ho:tt s m F Fr f i k e m'):Pure prog 13 [.agg (s.enc.map .d),.agg (m.enc.map .d),iD F] (.agg (m'.enc.map .d)):=by
 refine⟨by kernel_rfl,by simp,by simp,?_⟩;have hcF:=Zv 5005 m.Frames (by omega);have hcS:=ic 5004 m.Stack (by omega);refine aE.Yo func13 rfl (by simp[f13]) ?_;simp only[f13];refine D6.Vb rfl ?_;refine aw.tJ ?_;simp[-cB];intro bs;refine D6.Vb rfl ?_;refine aw.tJ ?_;simp[-cB];simp[hd];refine D6.defer (hs:=[(4,bs 1),(6,bs 2)]) rfl rfl (by decide) rfl rfl rfl rfl rfl rfl ⟨rfl,by simp[dj],rfl,by simp[dj],trivial⟩ (by kernel_rfl) rfl ?_;refine aw.fZ ?_;simp[-cB];intro cI;refine aw.weaken (s':=⟨[(3,.bp 3 0),(4,.bp 4 0),(6,.bp 6 0),(7,.bp 19 0)],[(19,.box (cI 0+1) 80 (aY (.d (.sl (m.Frames.map aG.enc))) (.d (.sl (aD m.Stack))) s F m)),(6,.box (bs 2+1) 50 (aj.zero.enc.map .d)),(4,.box (bs 1+1) 50 (m.enc.map .d)),(3,.box (bs 0+1) 41 (s.enc.map .d))]⟩) ((Wk.pick [3,4,6,7] [19,6,4,3] (by rfl) (by decide) (by rfl)).trans (Wk.deep 0 (by rfl))) ?_;refine aw.fZ ?_;refine aw.ew bc (dY.m0 [asj,asm,Q0,Q0,none,Q3,Q3,none,asl,asl,asl,none,some (3,3),some (3,3),some (3,3),none] [] (by kernel_rfl) ?_);simp[-cB];refine gv.intro (λ_=>fK.call (s:=⟨_,_⟩) 5005 [] rfl hcF (by simp) rfl (by kernel_rfl) (by first|rfl|simp) (by simp) (cC (by simp)) (by simp) (by simp)) ?_;simp[-cB];refine gv.intro (λ_=>fK.call (s:=⟨_,_⟩) 5004 [] rfl hcS (by simp) rfl (by kernel_rfl) (by first|rfl|simp) (by simp) (cC (by simp)) (by simp) (by simp)) ?_;simp[-cB];refine aw.weaken (Wk.eR 19 5003 (by simp[keys])) ?_;refine aw.weaken (Wk.pick [3,4,6,7] [5003,5004,5005,6,4,3] (by rfl) (by decide) (by simp)) ?_;simp[-cB];refine aw.fZ ?_;have ht:=xC (cI 0) s F m Fr f h (by rw[h]at hl;simp at hl;omega);unfold bE at ht;have bR:m.Frames[Fr.length]?=some f:=tq h;refine aw.JY [Q3,Q3,Q3,Q3,Q3,Q3,Q3,Q3,Q3,Q3,asj,asj,none,none,asl,asl] [.ep 5005 4 Fr.length 0,.bM [.agg (i.enc.map .d),iD k,iD e]] bc (by kernel_rfl) ?_;have sO:Fr.length<m.Frames.length:=by rw[h];simp
 have sE:m.Frames[Fr.length]'sO=f:=by rw[anc sO]at bR;exact apO bR
 simp[-cB,sE,sO];refine⟨lU.read [5003,5004,5005] ht (by simp) (by kernel_rfl) (by simp) (by simp),xV.ok _,⟨xV.ok _,lU.read [5003,5004,5005] ht (by simp) (by kernel_rfl) (by simp) (by simp)⟩,?_⟩;intro H8;rcases ho with⟨he,rfl⟩|ho
 ·refine aw.fZ ?_;simp[-cB];refine ar.Ti [] rfl (iS e he) (by simp) rfl (by simp) (by kernel_rfl) (by first|rfl|simp) (by simp) (by simp) (by simp) ?_;simp;refine⟨by simp[dj],(zH m aj.zero (bs 1) (bs 2) (bs 0) (some e) [_,_,_,_] _ (by simp) (by simp)).Nb ?_⟩;rintro r L' ⟨rfl,rfl⟩;simp[Hk,dj,S3,fj,aqG,V.on]
 have he:e=0:=by rcases ho with ho|ho|ho<;>exact ho.1
 subst he;refine aw.fZ ?_;simp[-cB];refine eD [] di ?_;simp[-cB];refine aw.fZ ?_;simp[-cB];refine ar.V3 [5003,5004,5005] rfl ht (by simp) rfl (by simp) rfl (by kernel_rfl) (by simp) (by simp) (by simp) ?_;simp[-cB,sE,sO];have e5:(dd (List.map aG.enc m.Frames)).set Fr.length (List.take 1 (List.map V.d f.enc)++V.d (D.v (Value.int IntKind.i64 k))::List.drop 2 (List.map V.d f.enc))=dd (List.map aG.enc (Fr++ [{f with At:=k}])):=by
  rw[FA h,aqM,agA];rfl
 rw[e5];refine aw.weaken (Wk.pick [3,4,6,7,8] [8,5003,5004,5005,6,4,3] (by rfl) (by decide) (by simp)) ?_;simp[-cB];refine aw.fZ ?_;rcases ho with⟨_,hC⟩|⟨_,hC⟩|⟨_,x,hC⟩
 ·have hC:=hC (cI 0);unfold ky bE at hC;simp[-cB];rw[show aY (V.rv 5005) (V.rv 5004) s F m=Tw s F {m with Frames:=Fr++ [{f with At:=k}]}from rfl];refine eD [5003,5004,5005] hC ?_;simp[-cB];refine aw.weaken (Wk.freeze 5004 (ty:=3) (k:=1) (ys:=aD m'.Stack) (by rfl)) ?_;simp[-cB,V.fM];refine aw.weaken (Wk.freeze 5005 (ty:=74) (k:=4) (ys:=m'.Frames.map aG.enc) (by rfl)) ?_;refine aw.tJ ?_;simp[-cB,V.fM,adt];refine⟨by simp[dj],(zH m m' (bs 1) (bs 2) (bs 0) none [_,_] _ (by simp) (by simp)).Nb ?_⟩;rintro r L' ⟨rfl,rfl⟩;simp[Hk,dj,S3,fj,aqG,V.on]
 ·have hC:=hC (cI 0);unfold Na Zr bE at hC;simp[-cB];rw[show aY (V.rv 5005) (V.rv 5004) s F m=Tw s F {m with Frames:=Fr++ [{f with At:=k}]}from rfl];refine eD [5003,5004,5005] hC ?_;simp[-cB];refine aw.weaken (Wk.freeze 5005 (ty:=74) (k:=4) (ys:=m'.Frames.map aG.enc) (by rfl)) ?_;refine aw.tJ ?_;simp[-cB,V.fM,adt];refine⟨by simp[dj],(zH m m' (bs 1) (bs 2) (bs 0) none [_,_] _ (by simp) (by simp)).Nb ?_⟩;rintro r L' ⟨rfl,rfl⟩;simp[Hk,dj,S3,fj,aqG,V.on]
 ·obtain⟨⟨m2,hC⟩,he⟩:=hC (cI 0);rw[he];unfold bE at hC;simp[-cB];rw[show aY (V.rv 5005) (V.rv 5004) s F m=Tw s F {m with Frames:=Fr++ [{f with At:=k}]}from rfl];refine ar.Ti [5003,5004,5005] rfl (hC) (by simp) rfl (by simp) (by kernel_rfl) (by first|rfl|simp) (by simp) (by simp) (by simp) ?_;simp;refine⟨by simp[dj],(zH m aj.zero (bs 1) (bs 2) (bs 0) (some x) [_,_,_,_] _ (by simp) (by simp)).Nb ?_⟩;rintro r L' ⟨rfl,rfl⟩;simp[Hk,dj,S3,fj,aqG,V.on]
set_option maxHeartbeats 4000000
set_option maxRecDepth 20000
abbrev jv(wb:Nat)(s:an)(F:Int)(m:aj)(i:ae)(m':aj):Prop:=aE prog 83 [.bp 5003 0,.agg (i.enc.map .d)] (bE wb s F m) (λr L=>r= .ret (.bM [])/\L=bE wb s F m')
theorem Jc(wb:Nat)(s:an)(F:Int)(m:aj)(i:ae)(aP:i.Op=1)(hl:m.Stack.length<=1000000):jv wb s F m i {m with Stack:=m.Stack++ [ax i.Arg]}:=by
 have hp:=lK wb s F m i.Arg hl;unfold jv bE at *;refine rX [] [5003,5004,5005] func83 ?_;simp[-cB,f83];intro bs cI;simp[-cB,aP];refine eD [] di ?_;simp[-cB];refine eD [5003,5004,5005] hp ?_;simp
@[simp] theorem ai5(ks:List Nat)(e:Int):V.on ks (pc e)=true:=rfl
abbrev Cm(wb:Nat)(s:an)(F:Int)(m:aj)(i:ae)(e:Int):Prop:=∃m',aE prog 83 [.bp 5003 0,.agg (i.enc.map .d)] (bE wb s F m) (λr L=>r= .iC (pc e)/\L=bE wb s F m')
def eI(o:Int):Prop:=o≠24/\o≠25/\o≠26/\o≠27/\o≠28/\o≠29/\o≠30/\o≠37/\o≠21/\o≠22/\o≠23/\o≠35/\o≠36
theorem Ty(wb:Nat)(s:an)(F:Int)(m m':aj)(i:ae)(aP:eI i.Op)(h:jv wb s F m i m'):ky wb s F m i m':=by
 obtain⟨h1,h2,h3,h4,h5,h6,h7,h8,h9,dX,fT,uj,jb⟩:=aP;unfold jv bE at h;unfold ky bE;refine rX [] [5003,5004,5005] func38 ?_;simp[-cB,f38];intro bs;simp[-cB,h1,h2,h3,h4,h5,h6,h7,h8,h9,dX,fT,uj,jb];refine eD [5003,5004,5005] h ?_;simp
theorem aeH(wb:Nat)(s:an)(F:Int)(m:aj)(i:ae)(e:Int)(aP:eI i.Op)(h:Cm wb s F m i e):PV wb s F m i e:=by
 obtain⟨h1,h2,h3,h4,h5,h6,h7,h8,h9,dX,fT,uj,jb⟩:=aP;obtain⟨m',h⟩:=h;refine⟨m',?_⟩;unfold bE at h⊢;refine rX [] [5003,5004,5005] func38 ?_;simp[-cB,f38];intro bs;simp[-cB,h1,h2,h3,h4,h5,h6,h7,h8,h9,dX,fT,uj,jb];refine ar.ld [5003,5004,5005] rfl (h) (by simp) rfl (by simp) (by kernel_rfl) (by first|rfl|simp) (by simp) (by simp) (by simp) ?_;simp
theorem Zw(wb:Nat)(s:an)(F:Int)(m:aj)(i:ae)(aP:i.Op=1)(hl:m.Stack.length<=1000000):ky wb s F m i {m with Stack:=m.Stack++ [ax i.Arg]}:=
 Ty wb s F m _ i (by simp[eI,aP]) (Jc wb s F m i aP hl)
set_option maxHeartbeats 200000
set_option maxRecDepth 512
open Go.ChangeShapes Go.WideShapes Go.ChangeAt Go.RowKit
section
variable {P : Program} {w : World} {base : Nat} {spare : Nat -> Bool} {held : Bool}
theorem sq{k:IntKind}{t e n fuel:Nat}{H:Type}{enc:TypeId×Value→H}{cs:List Value}{xs:List Int}{ps:List MemPlace}(ht:P.underlying t=some (.array n e))(he:P.underlying e=some (.int k))(ce:P.cellsOf e=1)
  (h:DataW.trod enc P w base spare held fuel t cs=some (.agg (xs.map λx=> .lit (.int k x)),ps)):∀(i:Nat) (x:Int),xs[i]?=some x->cs[i]?=some (.int k x):=by
 obtain⟨ys,m,rfl,hx,hl,hn,sU⟩:=DataW.trod_array ht h;intro i x hi;simp only[apM,DataW.agg.injEq]at hx;have hlen:ys.length=xs.length:=by
  have:=congrArg List.length hx.1;simpa using this.symm
 have cO:i<n:=by
  have:=(apQ.1 hi).1;omega
 have h0:=sU i cO;have hyi:ys[i]?=some ys[i]:=anc (by omega);rw[hyi]at h0;obtain⟨r,e1,e2,_⟩:=DataW.trod_int he h0;have h3:=congrArg (λl=>l[i]?) hx.1;simp only[apS,hi,hyi,aqe,akC]at h3;rw[e2]at h3;simp only[DataW.lit.injEq,Lit.int.injEq,true_and]at h3;subst h3;rw[ce]at e1;have h4:((cs.drop (i *1)).take 1)[0]?=some (.int k x):=by rw[e1];rfl
 rw[ar2,if_pos (by omega),aqO]at h4;simpa using h4
theorem Ah{k:IntKind}{t e n fuel:Nat}{H:Type}{enc:TypeId×Value→H}{cs:List Value}{xs:List Int}{ps:List MemPlace}(ht:P.underlying t=some (.array n e))(he:P.underlying e=some (.int k))(ce:P.cellsOf e=1)(ct:P.cellsOf t=xs.length)
  (h:DataW.trod enc P w base spare held fuel t cs=some (.agg (xs.map λx=> .lit (.int k x)),ps)):cs=xs.map (Value.int k):=by
 have h1:=sq ht he ce h;obtain⟨-,-,-,-,hl,-⟩:=DataW.trod_array ht h;rw[ct]at hl;refine List.ext_getElem? λi=>?_
 rw[apS];rcases aq7 i xs.length with hi|hi
 ·rw[anc hi,h1 i _ (anc hi)];rfl
 ·rw[aqL hi,aqL (by omega)];rfl
theorem yH{nm:String}{g:Nat}{cs:Array Value}(hg:P.globalNamed nm=some g)(h:w.var? P nm=some cs):∃e z,w.heap[g]?=some (.cells cs e z):=by
 simp only[World.var?,hg,arf]at h;split at h<;>simp_all
end
theorem KB(b:Nat):¬OO (⟨λ_=>False,[],none,false⟩:FO) fk b:=by rintro(h|h);exact gE b h;exact h
theorem KC{w:World}{g i:Nat}{v:Value}(h:w.cell? ⟨g,i,none⟩=some v):g<w.heap.size:=by
 rcases aq7 g w.heap.size with h1|h1
 ·exact h1
 ·simp[World.cell?,Array.getElem?_eq_none h1]at h
theorem Hz{H:Type}{enc:TypeId×Value→H}{C:Checked}{os:Os}{f:FuncId}{fn:Func}{s:OpenSpec}{F:Stop.Interp}{a:Assume}{conds:List PathCond}{fresh handsOn:Bool}{laid:List (String×DataW Unit)}(tb:TypeId)
  (hgl:∀W:World,laidMetH C.prog laid W->sb W (OO (⟨λ_=>False,[],none,false⟩:FO) fk))
  (own:ownKnob C.prog.godebug=none) (started:os.Started) (agC:C.prog.inits.idxOf? f=none) (Gr:C.prog.funcs[f]?=some fn)
  (witness:∃(w:World) (tape:Tape) (i:Input),w.os=os/\(w.forCall tape i).Shaped C.prog/\i.vars=[]/\Input.okWide C.prog (w.forCall tape i) .any w.heap.size f i/\
   s.preRow enc C.prog fn conds false laid (w.forCall tape i).memory i.args/\a.holds C.prog (lone (Frame.enter C.prog f i.args .normal) [] (w.forCall tape i)))
  (ain:UN C.prog=true) (wP:laidOutB C.prog=true)
  (ID:fn.params.toList.all (λt=>C.prog.readableRec t&&decide (t<C.prog.types.size))=true)
  (oM:fn.resultTypes= #[tb]) (Zx:C.prog.underlying tb=some .bool) (hv:s.vars=[]) (PX:s.bare.vars=[]) (hva:(s.at F).vars=[])
  (hs:∀ds:List (DataW H),ds.length=fn.params.size->(s.at F).fn H ds={results:=[.lit (.bool true)],args:=ds})
  (walk:∀dQ:List (List D),dQ.length=fn.params.size->(∀(i:Nat) t ys,fn.params[i]?=some t->dQ[i]?=some ys->cJ C.prog t ys)->
   (∀N,(∀ds:List (DataW H),(∀k,s.cond=some k->k H ds=true)->fQ ds<=N)->lk dQ<=N)->
   aE C.prog f ((fn.params.toList.zip dQ).map λp=>zX C.prog p.1 p.2) [] (λr _=>r= .ret (oD true))):
  ReturnsInHanded a C os f .any (s.preRow enc C.prog fn conds false laid) ((s.at F).post enc C.prog fn false fresh handsOn false):=by
 refine returnsInHanded_of_row own started agC Gr witness ?_;intro W base args ds gs before JM hW _ sR Zb FK _ _;have hW':=hW;obtain⟨p,q,hA,hV,rfl,hfz,kg⟩:=hW;rw[hv]at hV;obtain⟨rfl,rfl⟩:=trodVars_none hV;simp only[aqp]at Zb hW' sR⊢;rw[show s.bare.plain.varTypes C.prog=[] by simp[ChangeSpec.plain,DataSpec.varTypes,PX],aqp]at Zb;have agD:∀t∈fn.params.toList,C.prog.readableRec t=true/\t<C.prog.types.size:=λt h=>by
  have:=apR.1 ID t h;simpa using this
 obtain⟨dQ,y1,y2,y3,y4,y6,y5⟩:=Ov (base:=base) ain fn.params.toList args.toList ds p (λt h=>(agD t h).2) hA (λn hn=>by simpa using apR.1 Zb n hn) (λj t v h1 h2=>JM j t v (by simpa using h1) (by simpa using h2));have hc:=walk dQ (by simpa using y1) (λi t ys h1 h2=>y2 i t ys (by simpa using h1) h2) (λN hN=>aqo y6 (hN _ sR));refine(hc (⟨λ_=>False,[],none,false⟩:FO) fk W args ⟨by simp[keys],by simp[fk],by simp[fk],by simp[fk],by simp,by simp,hgl W FK⟩ ⟨by simp at y1 y3;simp[y1,y3],λj x y hx hy=>y5 j x y (by simpa using hx) hy⟩).mono λe W' ⟨m',r,L',hr,he,hi,bx⟩=>?_
 subst hr;cases e with
 | returned v=>
   simp only[Ends]at he;have hb:=he.p6;subst hb;have bel:Below W.heap.size W W':=⟨bx.os,bx.tape,bx.output,bx.size,λk hk=>bx.block k hk (gE k)⟩
   have ay:∀x∈p,x.block<W.heap.size:=λx hx=>hW'.lt x (by simpa using hx)
   refine⟨_,rfl,ds,[],p++ [],[],p,[],by rw[hva];rw[hv]at hW';simpa using hW',?_,?_,by simp[hva,DataW.TrodVars,aqp,hs ds (by simpa using y4)],bel.frame _,λh=>by cases h⟩
   ·rw[aqp,hs ds (by simpa using y4),oM];exact trodAll_mk1 (shut_bool Zx _)
   ·rw[aqp,hs ds (by simpa using y4)];exact AK wP bel _ _ _ _ agD hA ay
 | panicked c=>simp only[Ends]at he
 | _=>simp only[Ends]at he
theorem yI{H:Type}{enc:TypeId×Value→H}{C:Checked}{os:Os}{f:FuncId}{fn:Func}{s:OpenSpec}{k:(H:Type)→List (DataW H)→Bool}(hk:s.cond=some k){conds:List PathCond}{apart:Bool}{laid:List (String×DataW Unit)}(modest:Bool)(w0:World)(args:Array Value)(fuel:Nat)(Xl:w0.os=os)
  (CI:(w0.forCall (λ_ _=>0) ⟨#[],args,[]⟩).Shaped C.prog)
  (aS:Input.okWideB C.prog (w0.forCall (λ_ _=>0) ⟨#[],args,[]⟩) f ⟨#[],args,[]⟩=true)
  {x:List (DataW H)×List (DataW H)×List MemPlace} (hx:DataW.whole enc C.prog (w0.forCall (λ_ _=>0) ⟨#[],args,[]⟩).memory fn.params.toList s.vars apart args.toList fuel=some x)
  (agE:conds.all (PathCond.test C.prog ⟨fn.params.toList,x.1,s.bare.plain.varTypes C.prog,x.2.1⟩)=true) (sR:k H (x.1++x.2.1)=true)
  (dW:s.bare.sizedB enc C.prog fn apart (w0.forCall (λ_ _=>0) ⟨#[],args,[]⟩).memory args fuel=true)
  (hl:laidMetH C.prog laid (w0.forCall (λ_ _=>0) ⟨#[],args,[]⟩).memory):
  ∃(w:World) (tape:Tape) (i:Input),w.os=os/\(w.forCall tape i).Shaped C.prog/\i.vars=[]/\Input.okWide C.prog (w.forCall tape i) .any w.heap.size f i/\
   s.preRow enc C.prog fn conds apart laid (w.forCall tape i).memory i.args/\({modest:=modest}:Assume).holds C.prog (lone (Frame.enter C.prog f i.args .normal) [] (w.forCall tape i)):=
 ⟨w0,λ_ _=>0,⟨#[],args,[]⟩,Xl,CI,(Input.okWide_of_okWideB (base:=0) aS).1,(Input.okWide_of_okWideB aS).2,
  ⟨⟨(OpenSpec.pre_some hk conds apart _ _).2 ⟨x.1,x.2.1,x.2.2,DataW.Whole_of_whole hx,agE,sR⟩,hl⟩,sizedMet_of_sizedB dW⟩,by
  simp only[Assume.holds];exact⟨by simp,by simp,λ_=>Modest.zero,by simp,by simp⟩⟩
set_option maxHeartbeats 4000000
set_option maxRecDepth 20000
theorem Cn(b:Bool):Pure prog 138 [oD b] (iD (gF b)):=by
 cases b
 ·refine rn func138 ?_;simp[-cB,f138];rfl
 ·refine rn func138 ?_;simp[-cB,f138];rfl
theorem V6(wb:Nat)(s:an)(F:Int)(m:aj)(i:ae)(S:List Int)(v:Int)(aP:i.Op=9)(hS:m.Stack=S++ [v])(hl:S.length<=1000000):jv wb s F m i {m with Stack:=S++ [ax (uP v)]}:=by
 have hp:=fg wb s F m S v hS hl;have hq:=lK wb s F {m with Stack:=S} (uP v) hl;have hn:=af7 v;unfold jv bE at *;refine rX [] [5003,5004,5005] func83 ?_;simp[-cB,f83];intro bs cI;simp[-cB,aP];refine eD [5003,5004,5005] hp ?_;simp[-cB];refine pC hn ?_;simp[-cB];refine eD [] di ?_;simp[-cB];refine eD [5003,5004,5005] hq ?_;simp
theorem Rk(wb:Nat)(s:an)(F:Int)(m:aj)(i:ae)(S:List Int)(v:Int)(aP:i.Op=10)(hS:m.Stack=S++ [v])(hl:S.length<=1000000):jv wb s F m i {m with Stack:=S++ [ax (gF (decide (ax v=0)))]}:=by
 have hp:=fg wb s F m S v hS hl;have hq:=lK wb s F {m with Stack:=S} (gF (decide (ax v=0))) hl;have hn:=ago v;unfold jv bE at *;refine rX [] [5003,5004,5005] func83 ?_;simp[-cB,f83];intro bs cI;simp[-cB,aP];refine eD [5003,5004,5005] hp ?_;simp[-cB];refine pC hn ?_;simp[-cB];refine eD [] di ?_;simp[-cB];refine eD [5003,5004,5005] hq ?_;simp
theorem Rm(wb:Nat)(s:an)(F:Int)(m:aj)(i:ae)(S:List Int)(v:Int)(aP:i.Op=11)(hS:m.Stack=S++ [v])(hl:S.length<=1000000):jv wb s F m i {m with Stack:=S++ [ax (gF (decide (v≠0)))]}:=by
 have hp:=fg wb s F m S v hS hl;have hq:=lK wb s F {m with Stack:=S} (gF (decide (v≠0))) hl;have hn:=Cn (!decide (v=0));have e:decide (v≠0)=!decide (v=0):=by simp
 rw[e]at hq⊢;unfold jv bE at *;refine rX [] [5003,5004,5005] func83 ?_;simp[-cB,f83];intro bs cI;simp[-cB,aP];refine eD [5003,5004,5005] hp ?_;generalize gF (!decide (v=0))=T at *;simp[-cB];refine pC hn ?_;simp[-cB];refine eD [] di ?_;simp[-cB];refine eD [5003,5004,5005] hq ?_;simp
theorem V7(wb:Nat)(s:an)(F:Int)(m:aj)(i:ae)(v:Int)(aP:i.Op=3)(hA:0<=i.Arg)(hg:m.Told.World.aW[i.Arg.toNat]?=some v)(hl:m.Stack.length<=1000000):jv wb s F m i {m with Stack:=m.Stack++ [ax v]}:=by
 have hq:=lK wb s F m v hl;obtain⟨g1,g2⟩:=apQ.1 hg;unfold jv bE at *;refine rX [] [5003,5004,5005] func83 ?_;simp[-cB,f83];intro bs cI;simp[-cB,aP,hA,g1,g2];refine eD [] di ?_;simp[-cB];refine eD [5003,5004,5005] hq ?_;simp
theorem V8(wb:Nat)(s:an)(F:Int)(m:aj)(i:ae)(Fr:List aG)(f:aG)(v:Int)(aP:i.Op=5)(hA:0<=i.Arg)(h:m.Frames=Fr++ [f])(L4:Fr.length<=1000000)(hg:f.aJ[i.Arg.toNat]?=some v)(hl:m.Stack.length<=1000000):jv wb s F m i {m with Stack:=m.Stack++ [ax v]}:=by
 have hq:=lK wb s F m v hl;have ht:=xC wb s F m Fr f h L4;obtain⟨g1,g2⟩:=apQ.1 hg;have sO:Fr.length<m.Frames.length:=by rw[h];simp
 have bR:m.Frames[Fr.length]?=some f:=tq h;have sE:m.Frames[Fr.length]'sO=f:=by rw[anc sO]at bR;exact apO bR
 unfold jv bE at *;refine rX [] [5003,5004,5005] func83 ?_;simp[-cB,f83];intro bs cI;simp[-cB,aP];refine aw.cV [.ep 5005 4 Fr.length 0] bc (by kernel_rfl) (by rfl) ?_;simp[-cB,sE,sO];refine⟨lU.read [5003,5004,5005] ht (by simp) (by kernel_rfl) (by simp) (by simp),?_⟩;simp[-cB,hA,g1,g2];refine eD [] di ?_;simp[-cB];refine ar.weaken (Wk.pick [144,145] [5003,5004,5005] (by rfl) (by decide) (by simp)) ?_;simp[-cB];refine eD [5003,5004,5005] hq ?_;simp
theorem V9(wb:Nat)(s:an)(F:Int)(m:aj)(i:ae)(v:Int)(aP:i.Op=7)(hv:xa m.Told.World m.Env i.Arg=(v,0))(hl:m.Stack.length<=1000000)(hw:m.Told.World.wf)(hn:m.Told.World.ah.length<=32768):jv wb s F m i {m with Stack:=m.Stack++ [ax v]}:=by
 have hq:=lK wb s F m v hl;have hs:=S8 m.Told.World hw hn m.Env i.Arg;rw[hv]at hs;unfold jv bE at *;refine rX [] [5003,5004,5005] func83 ?_;simp[-cB,f83];intro bs cI;simp[-cB,aP];refine aw.cV [gW (v,0)] bc (by kernel_rfl) (by rfl) ?_;simp[-cB,hs.ok,gW];refine⟨hs.ok _,?_⟩;refine eD [] di ?_;simp[-cB];refine eD [5003,5004,5005] hq ?_;simp
theorem Rn(wb:Nat)(s:an)(F:Int)(m:aj)(i:ae)(S:List Int)(x v:Int)(aP:i.Op=13)(hS:m.Stack=S++ [x])(hl:S.length<=1000000)(hv:BV s.Tables m.Told.World x i.Arg=(v,0))(hn:m.Told.World.ah.length<=32768)(hk:s.Tables.aM.length<=65536)(hm:m.Told.World.ah.length *s.Tables.aM.length=m.Told.World.aM.length):jv wb s F m i {m with Stack:=S++ [ax v]}:=by
 have hp:=fR wb s F m S x hS hl;have hq:=lK wb s F {m with Stack:=S} v hl;have fB:=S6 s.Tables m.Told.World hn hk hm x i.Arg;rw[hv]at fB;unfold jv bE at *;unfold pZ at hp;refine rX [] [5003,5004,5005] func83 ?_;simp[-cB,f83];intro bs cI;simp[-cB,aP];refine aw.ew bc (dY.m0 [Q3,Q3,Q3,Q3,Q3,Q3,Q0,none,Q3,Q3,asi,asi,asi,asi,asi,asi] [gW (v,0)] (by kernel_rfl) ?_);simp[-cB];refine gv.intro (λ_=>fK.ju (s:=⟨_,_⟩) 5004 [5003,5004] [5005] rfl (hp) rfl rfl (by kernel_rfl) (by first|rfl|simp) (by simp) (by simp[cY,aV.cg,V.cg]) (cC (by simp)) (by simp) (by simp)) ?_;simp[-cB,gW];refine⟨fB.ok _,?_⟩;refine eD [] di ?_;simp[-cB];refine eD [5003,5004,5005] hq ?_;simp
theorem Ro(wb:Nat)(s:an)(F:Int)(m:aj)(i:ae)(S:List Int)(x v e:Int)(he:e≠0)(aP:i.Op=13)(hS:m.Stack=S++ [x])(hl:S.length<=1000000)(hv:BV s.Tables m.Told.World x i.Arg=(v,e))(hn:m.Told.World.ah.length<=32768)(hk:s.Tables.aM.length<=65536)(hm:m.Told.World.ah.length *s.Tables.aM.length=m.Told.World.aM.length):Cm wb s F m i e:=by
 refine⟨{m with Stack:=S},?_⟩;have hp:=fR wb s F m S x hS hl;have fB:=S6 s.Tables m.Told.World hn hk hm x i.Arg;rw[hv]at fB;have hc:=iS e he;unfold bE at *;unfold pZ at hp;refine rX [] [5003,5004,5005] func83 ?_;simp[-cB,f83];intro bs cI;simp[-cB,aP];refine aw.ew bc (dY.m0 [Q3,Q3,Q3,Q3,Q3,Q3,Q0,none,Q3,Q3,asi,asi,asi,asi,asi,asi] [gW (v,e)] (by kernel_rfl) ?_);simp[-cB];refine gv.intro (λ_=>fK.ju (s:=⟨_,_⟩) 5004 [5003,5004] [5005] rfl (hp) rfl rfl (by kernel_rfl) (by first|rfl|simp) (by simp) (by simp[cY,aV.cg,V.cg]) (cC (by simp)) (by simp) (by simp)) ?_;simp[-cB,gW];refine⟨fB.ok _,?_⟩;refine ar.ld [] rfl (hc) (by simp) rfl (by simp) (by kernel_rfl) (by first|rfl|simp) (by simp) (by simp) (by simp) ?_;simp
set_option maxHeartbeats 200000
set_option maxRecDepth 512
def fS(w:ai):Prop:=w.Flags.length=w.ah.length/\∀v∈w.Flags,0<=v/\v<=65535
theorem zI{w:ai}{x f:Int}(h:dO w x f=0):cT w.ah.length x=true/\0<=f/\f<=15:=by
 unfold dO at h;split at h
 ·split at h
  ·rename_i a b;exact⟨a,b⟩
  ·omega
 ·omega
theorem Tz{v f:Int}(hv:0<=v/\v<=65535)(hf:0<=f/\f<=15):IntKind.wrap .i64 (((v.fdiv (2^min (IntKind.wrap .u64 f).toNat IntKind.i64.bits) % 2^IntKind.i64.bits).toNat &&& 1 % 2^IntKind.i64.bits:Nat):Int)=v / (2^f.toNat:Nat) % 2:=by
 have da:IntKind.i64.bits=64:=rfl;rw[wZ (by omega),da,arX (by omega),Int.fdiv_eq_ediv_of_nonneg _ (by exact_mod_cast aqc _)];have e:((2:Int)^f.toNat)=((2^f.toNat:Nat):Int):=by simp
 rw[e];obtain⟨n,rfl⟩:∃n:Nat,v=n:=⟨v.toNat,by omega⟩
 have hq:n / 2^f.toNat<=n:=Nat.div_le_self _ _;have e2:((n:Int) / ((2^f.toNat:Nat):Int))=((n / 2^f.toNat:Nat):Int):=by simp
 rw[e2];generalize n / 2^f.toNat=q at *;have e3:(((q:Nat):Int) % 2^64).toNat=q:=by omega
 rw[e3,show(1 % 2^64:Nat)=1 by decide,Nat.and_one_is_mod,wrap64 iW];omega
theorem L5{l:List Int}{x:Int}(h:0<=x/\x<l.length):aC l x∈l:=by
 unfold aC;rw[anc (by omega)];exact ap1 _
theorem HA(w:ai)(hF:fS w)(x f:Int):Pure prog 139 [.agg (w.enc.map .d),iD x,iD f] (.bM [oD (decide (dO w x f=0)&&ff w x f.toNat),iD (dO w x f)]):=by
 have ha:=O8 w x f;by_cases h0:dO w x f=0
 ·have hx:=zI h0;have hb:=bG.1 hx.1;have hl:=hF.1;have ay:x.toNat<w.Flags.length:=by omega
  have hg:w.Flags[x.toNat]?.getD 0=aC w.Flags x:=rfl;have hm:=hF.2 (aC w.Flags x) (by unfold aC;rw[anc ay];exact ap1 _);have Kz:=Tz hm hx.2;have hh:ff w x f.toNat=decide (aC w.Flags x / (2^f.toNat:Nat) % 2=1):=by unfold ff;rw[hx.1,ard]
  rw[hh];refine rn func139 ?_;simp[-cB,f139];intro bs;refine pC ha ?_;simp[-cB,h0,hg,Kz];exact⟨⟨by omega,ay⟩,(Kj _).1⟩
 ·have bU:(dO w x f !=0)=true:=by simpa using h0
  refine rn func139 ?_;simp[-cB,f139];intro bs;refine pC ha ?_;simp[h0]
theorem TA(b:Bool):Pure prog 201 [oD b] (.bM [iD (gF b),iD 0]):=by
 unfold gF;cases b
 ·refine rn func201 ?_;simp[-cB,f201]
 ·refine rn func201 ?_;simp[-cB,f201]
set_option maxHeartbeats 4000000 in
set_option maxRecDepth 6000 in
theorem aeI(w:ai)(op a b:Int)(ho:op=1\/op=2\/op=3\/op=4\/op=5\/op=6\/op=7\/op=8\/op=10\/op=11\/op=12\/op=13\/op=14):Pure prog 135 [.agg (w.enc.map .d),iD op,iD a,iD b] (gW (iK w op a b)):=by
 have hd:=af8 (ax a) (ax b);have hm:=af9 (ax a) (ax b);unfold gW at hd hm⊢;rcases ho with rfl|rfl|rfl|rfl|rfl|rfl|rfl|rfl|rfl|rfl|rfl|rfl|rfl
 all_goals
  refine Pure.Dw func135 rfl (by simp[f135]) ?_;refine aw.named (λQ0 I1=>?_);simp only[f135];refine aw.fZ ?_;simp[-cB];intro bs;refine aw.fZ ?_;simp[-cB];refine pC (cu _) ?_;simp[-cB];refine pC (cu _) ?_;simp[-cB];refine aw.fZ ?_;simp[-cB];refine aw.seq ?_;refine aw.fZ ?_;simp[-cB];refine aw.block ?_
  iterate 14 (refine aw.seq (aw.block ?_))
  refine aw.named (λQ1 Zy=>?_);refine aw.tJ ?_;simp[-cB];rw[Zy]
  repeat (first|refine Pk ?_ (by decide)|refine Pm ?_)
  refine Pl (Fs ?_)
  try (refine aw.named (λQ3 hQ3=>?_);refine aw.tJ ?_;simp[-cB];rw[hQ3];refine aes (Fs ?_))
  refine aw.named (λQ2 TB=>?_);refine aw.tJ ?_;simp[-cB]
  first
   | refine pC (TA _) ?_
   | refine pC (Yd _ _) ?_
   | refine pC (af5 _ _) ?_
   | refine pC (af6 _ _) ?_
   | refine pC hd ?_
   | refine pC hm ?_
  simp[-cB];rw[TB]
  repeat (first|refine Ko ?_|refine Kp ?_)
  rw[I1];simp[iK]
  all_goals rfl
set_option maxRecDepth 6000 in
theorem ab5(w:ai)(hC:w.Child.length=w.ah.length)(hN:w.Next.length=w.ah.length)(a b:Int):Pure prog 135 [.agg (w.enc.map .d),iD 9,iD a,iD b] (gW (iK w 9 a b)):=by
 have hT:=Kk w hC hN 1 (ax a);have hB:iK w 9 a b=if(dq w 1 (ax a)).2=0 then(gF (decide ((dq w 1 (ax a)).1=ax b)),0)else(0,(dq w 1 (ax a)).2):=by
  simp only[iK,dq,QW];cases cT w.ah.length (ax a)<;>simp
 rw[hB];unfold gW at hT⊢;generalize dq w 1 (ax a)=p at *;refine Pure.Dw func135 rfl (by simp[f135]) ?_;refine aw.named (λQ0 I1=>?_);simp only[f135];refine aw.fZ ?_;simp[-cB];intro bs;refine aw.fZ ?_;simp[-cB];refine pC (cu _) ?_;simp[-cB];refine pC (cu _) ?_;simp[-cB];refine aw.fZ ?_;simp[-cB];refine aw.seq ?_;refine aw.fZ ?_;simp[-cB];refine aw.block ?_
 iterate 14 (refine aw.seq (aw.block ?_))
 refine aw.named (λQ1 Zy=>?_);refine aw.tJ ?_;simp[-cB];rw[Zy]
 repeat (first|refine Pk ?_ (by decide)|refine Pm ?_)
 refine Pl (Fs ?_);refine aw.named (λQ2 TB=>?_);refine aw.tJ ?_;simp[-cB];by_cases he:p.2=0
 ·rw[he]at hT;refine pC hT ?_;simp[-cB];refine pC (TA _) ?_;simp[-cB];rw[TB]
  repeat (first|refine Ko ?_|refine Kp ?_)
  rw[I1];simp[he]
 ·refine pC hT ?_;simp[-cB,he];rw[TB]
  repeat (first|refine Ko ?_|refine Kp ?_)
  rw[I1];simp[he]
set_option maxRecDepth 6000 in
theorem ab6(w:ai)(op a b:Int)(ho:op<1\/14<op):Pure prog 135 [.agg (w.enc.map .d),iD op,iD a,iD b] (gW (iK w op a b)):=by
 have n1:op≠1:=by omega
 have n2:op≠2:=by omega
 have n3:op≠3:=by omega
 have n4:op≠4:=by omega
 have n5:op≠5:=by omega
 have n6:op≠6:=by omega
 have n7:op≠7:=by omega
 have n8:op≠8:=by omega
 have n9:op≠9:=by omega
 have n10:op≠10:=by omega
 have n11:op≠11:=by omega
 have n12:op≠12:=by omega
 have n13:op≠13:=by omega
 have n14:op≠14:=by omega
 have hB:iK w op a b=(0,16):=by simp[iK,n1,n2,n3,n4,n5,n6,n7,n8,n9,n10,n11,n12,n13,n14]
 rw[hB];unfold gW;refine Pure.Dw func135 rfl (by simp[f135]) ?_;refine aw.named (λQ0 I1=>?_);simp only[f135];refine aw.fZ ?_;simp[-cB];intro bs;refine aw.fZ ?_;simp[-cB];refine pC (cu _) ?_;simp[-cB];refine pC (cu _) ?_;simp[-cB];refine aw.fZ ?_;simp[-cB];refine aw.seq ?_;refine aw.fZ ?_;simp[-cB];refine aw.block ?_
 iterate 14 (refine aw.seq (aw.block ?_))
 refine aw.named (λQ1 Zy=>?_);refine aw.tJ ?_;simp[-cB,n1,n2,n3,n4,n5,n6,n7,n8,n9,n10,n11,n12,n13,n14];rw[Zy]
 repeat (first|refine Pk ?_ (by decide)|refine Pm ?_)
 refine Pl (Fs ?_);refine aw.named (λQ2 TB=>?_);refine aw.tJ ?_;simp[-cB];rw[TB];rw[I1];simp
theorem Zz(w:ai)(op:Int)(h9:op=9->w.Child.length=w.ah.length/\w.Next.length=w.ah.length)(a b:Int):Pure prog 135 [.agg (w.enc.map .d),iD op,iD a,iD b] (gW (iK w op a b)):=by
 have:(op<1\/14<op)\/op=9\/op=1\/op=2\/op=3\/op=4\/op=5\/op=6\/op=7\/op=8\/op=10\/op=11\/op=12\/op=13\/op=14:=by omega
 rcases this with h|rfl|h
 ·exact ab6 w op a b h
 ·exact ab5 w (h9 rfl).1 (h9 rfl).2 a b
 ·exact aeI w op a b h
set_option maxHeartbeats 4000000
set_option maxRecDepth 20000
theorem Rp(wb:Nat)(s:an)(F:Int)(m:aj)(i:ae)(S:List Int)(x:Int)(v:Int)(aP:i.Op=19)(hS:m.Stack=S++ [x])(hl:S.length<=100000)(hC:m.Told.World.Child.length=m.Told.World.ah.length)(hN:m.Told.World.Next.length=m.Told.World.ah.length)(hv:dq m.Told.World i.Arg x=(v,0)):jv wb s F m i {m with Stack:=S++ [ax (v)]}:=by
 have hp:=fR wb s F m S x hS (by omega);have hq:=lK wb s F {m with Stack:=S} (v) (by simp;omega);have fB:=Kk m.Told.World hC hN i.Arg x;rw[hv]at fB;unfold jv bE at *;unfold pZ at hp;refine rX [] [5003,5004,5005] func83 ?_;simp[-cB,f83];intro bs cI;simp[-cB,aP];refine aw.ew bc (dY.m0 [Q3,Q3,Q3,Q0,none,asi,asi,asi,asi,asi,asi] [gW (v,0)] (by kernel_rfl) ?_);simp[-cB];refine gv.intro (λ_=>fK.ju (s:=⟨_,_⟩) 5004 [5003,5004] [5005] rfl (hp) rfl rfl (by kernel_rfl) (by first|rfl|simp) (by simp) (by simp[cY,aV.cg,V.cg]) (cC (by simp)) (by simp) (by simp)) ?_;simp[-cB,gW];refine⟨fB.ok _,?_⟩;refine eD [] di ?_;simp[-cB];refine eD [5003,5004,5005] hq ?_;simp
theorem Rq(wb:Nat)(s:an)(F:Int)(m:aj)(i:ae)(S:List Int)(x:Int)(v:Int)(e:Int)(he:e≠0)(aP:i.Op=19)(hS:m.Stack=S++ [x])(hl:S.length<=100000)(hC:m.Told.World.Child.length=m.Told.World.ah.length)(hN:m.Told.World.Next.length=m.Told.World.ah.length)(hv:dq m.Told.World i.Arg x=(v,e)):Cm wb s F m i e:=by
 refine⟨{m with Stack:=S},?_⟩;have hp:=fR wb s F m S x hS (by omega);have fB:=Kk m.Told.World hC hN i.Arg x;rw[hv]at fB;have hc:=iS e he;unfold bE at *;unfold pZ at hp;refine rX [] [5003,5004,5005] func83 ?_;simp[-cB,f83];intro bs cI;simp[-cB,aP];refine aw.ew bc (dY.m0 [Q3,Q3,Q3,Q0,none,asi,asi,asi,asi,asi,asi] [gW (v,e)] (by kernel_rfl) ?_);simp[-cB];refine gv.intro (λ_=>fK.ju (s:=⟨_,_⟩) 5004 [5003,5004] [5005] rfl (hp) rfl rfl (by kernel_rfl) (by first|rfl|simp) (by simp) (by simp[cY,aV.cg,V.cg]) (cC (by simp)) (by simp) (by simp)) ?_;simp[-cB,gW];refine⟨fB.ok _,?_⟩;refine ar.ld [] rfl (hc) (by simp) rfl (by simp) (by kernel_rfl) (by first|rfl|simp) (by simp) (by simp) (by simp) ?_;simp
theorem Rr(wb:Nat)(s:an)(F:Int)(m:aj)(i:ae)(S:List Int)(x:Int)(v:Bool)(aP:i.Op=12)(hS:m.Stack=S++ [x])(hl:S.length<=100000)(L4:fS m.Told.World)(hv:(decide (dO m.Told.World x i.Arg=0)&&ff m.Told.World x i.Arg.toNat,dO m.Told.World x i.Arg)=(v,0)):jv wb s F m i {m with Stack:=S++ [ax (gF v)]}:=by
 have hp:=fR wb s F m S x hS (by omega);have hq:=lK wb s F {m with Stack:=S} (gF v) (by simp;omega);have fB:=HA m.Told.World L4 x i.Arg;have PX:=congrArg Prod.fst hv;have ZA:=congrArg Prod.snd hv;simp only at PX ZA;rw[PX,ZA]at fB;have A2:=Cn v;unfold jv bE at *;unfold pZ at hp;refine rX [] [5003,5004,5005] func83 ?_;simp[-cB,f83];intro bs cI;simp[-cB,aP];refine aw.ew bc (dY.m0 [Q3,Q0,none,Q3,Q3,asi,asi,asi,asi,asi,asi] [.bM [oD v,iD 0]] (by kernel_rfl) ?_);simp[-cB];refine gv.intro (λ_=>fK.ju (s:=⟨_,_⟩) 5004 [5003,5004] [5005] rfl (hp) rfl rfl (by kernel_rfl) (by first|rfl|simp) (by simp) (by simp[cY,aV.cg,V.cg]) (cC (by simp)) (by simp) (by simp)) ?_;simp[-cB,gW];refine⟨fB.ok _,?_⟩;refine pC A2 ?_;simp[-cB];refine eD [] di ?_;simp[-cB];refine eD [5003,5004,5005] hq ?_;simp
theorem Rs(wb:Nat)(s:an)(F:Int)(m:aj)(i:ae)(S:List Int)(x:Int)(v:Bool)(e:Int)(he:e≠0)(aP:i.Op=12)(hS:m.Stack=S++ [x])(hl:S.length<=100000)(L4:fS m.Told.World)(hv:(decide (dO m.Told.World x i.Arg=0)&&ff m.Told.World x i.Arg.toNat,dO m.Told.World x i.Arg)=(v,e)):Cm wb s F m i e:=by
 refine⟨{m with Stack:=S},?_⟩;have hp:=fR wb s F m S x hS (by omega);have fB:=HA m.Told.World L4 x i.Arg;have PX:=congrArg Prod.fst hv;have ZA:=congrArg Prod.snd hv;simp only at PX ZA;rw[PX,ZA]at fB;have A2:=Cn v;have hc:=iS e he;unfold bE at *;unfold pZ at hp;refine rX [] [5003,5004,5005] func83 ?_;simp[-cB,f83];intro bs cI;simp[-cB,aP];refine aw.ew bc (dY.m0 [Q3,Q0,none,Q3,Q3,asi,asi,asi,asi,asi,asi] [.bM [oD v,iD e]] (by kernel_rfl) ?_);simp[-cB];refine gv.intro (λ_=>fK.ju (s:=⟨_,_⟩) 5004 [5003,5004] [5005] rfl (hp) rfl rfl (by kernel_rfl) (by first|rfl|simp) (by simp) (by simp[cY,aV.cg,V.cg]) (cC (by simp)) (by simp) (by simp)) ?_;simp[-cB,gW];refine⟨fB.ok _,?_⟩;refine pC A2 ?_;simp[-cB];refine ar.ld [] rfl (hc) (by simp) rfl (by simp) (by kernel_rfl) (by first|rfl|simp) (by simp) (by simp) (by simp) ?_;simp
theorem Wa(wb:Nat)(s:an)(F:Int)(m:aj)(i:ae)(S:List Int)(x y:Int)(v:Int)(aP:i.Op=8)(hS:m.Stack=S++ [y,x])(hl:S.length<=100000)(h9:i.Arg=9->m.Told.World.Child.length=m.Told.World.ah.length/\m.Told.World.Next.length=m.Told.World.ah.length)(hv:iK m.Told.World i.Arg y x=(v,0)):jv wb s F m i {m with Stack:=S++ [ax (v)]}:=by
 have mN:=fg wb s F m (S++ [y]) x (by rw[hS];simp) (by simp;omega);have hp:=fR wb s F {m with Stack:=S++ [y]} S y rfl (by omega);have hq:=lK wb s F {m with Stack:=S} (v) (by simp;omega);have fB:=Zz m.Told.World i.Arg h9 y x;rw[hv]at fB;unfold jv bE at *;unfold pZ at hp;refine rX [] [5003,5004,5005] func83 ?_;simp[-cB,f83];intro bs cI;simp[-cB,aP];refine eD [5003,5004,5005] mN ?_;simp[-cB];refine aw.ew bc (dY.m0 [Q3,Q3,Q3,Q0,none,Q3,asi,asi,asi,asi,asi,asi] [gW (v,0)] (by kernel_rfl) ?_);simp[-cB];refine gv.intro (λ_=>fK.ju (s:=⟨_,_⟩) 5004 [5003,5004] [5005] rfl (hp) rfl rfl (by kernel_rfl) (by first|rfl|simp) (by simp) (by simp[cY,aV.cg,V.cg]) (cC (by simp)) (by simp) (by simp)) ?_;simp[-cB,gW];refine⟨fB.ok _,?_⟩;refine eD [] di ?_;simp[-cB];refine eD [5003,5004,5005] hq ?_;simp
theorem Wb(wb:Nat)(s:an)(F:Int)(m:aj)(i:ae)(S:List Int)(x y:Int)(v:Int)(e:Int)(he:e≠0)(aP:i.Op=8)(hS:m.Stack=S++ [y,x])(hl:S.length<=100000)(h9:i.Arg=9->m.Told.World.Child.length=m.Told.World.ah.length/\m.Told.World.Next.length=m.Told.World.ah.length)(hv:iK m.Told.World i.Arg y x=(v,e)):Cm wb s F m i e:=by
 refine⟨{m with Stack:=S},?_⟩;have mN:=fg wb s F m (S++ [y]) x (by rw[hS];simp) (by simp;omega);have hp:=fR wb s F {m with Stack:=S++ [y]} S y rfl (by omega);have fB:=Zz m.Told.World i.Arg h9 y x;rw[hv]at fB;have hc:=iS e he;unfold bE at *;unfold pZ at hp;refine rX [] [5003,5004,5005] func83 ?_;simp[-cB,f83];intro bs cI;simp[-cB,aP];refine eD [5003,5004,5005] mN ?_;simp[-cB];refine aw.ew bc (dY.m0 [Q3,Q3,Q3,Q0,none,Q3,asi,asi,asi,asi,asi,asi] [gW (v,e)] (by kernel_rfl) ?_);simp[-cB];refine gv.intro (λ_=>fK.ju (s:=⟨_,_⟩) 5004 [5003,5004] [5005] rfl (hp) rfl rfl (by kernel_rfl) (by first|rfl|simp) (by simp) (by simp[cY,aV.cg,V.cg]) (cC (by simp)) (by simp) (by simp)) ?_;simp[-cB,gW];refine⟨fB.ok _,?_⟩;refine ar.ld [] rfl (hc) (by simp) rfl (by simp) (by kernel_rfl) (by first|rfl|simp) (by simp) (by simp) (by simp) ?_;simp
set_option maxHeartbeats 200000
set_option maxRecDepth 512
theorem L6(n f:Nat):n=2^f *(n / 2^f)+n % 2^f/\n % 2^f<2^f:=⟨(Nat.div_add_mod n (2^f)).symm,Nat.mod_lt _ (Nat.pow_pos (by decide))⟩
theorem TC(p k:Nat):(2 *p).testBit k=(decide (0<k)&&p.testBit (k-1)):=by
 cases k with
 | zero=>simp
 | succ k=>rw[Nat.testBit_succ];simp
theorem ZB(p k:Nat):(2 *p+1).testBit k=(decide (k=0)||p.testBit (k-1)):=by
 cases k with
 | zero=>simp
 | succ k=>rw[Nat.testBit_succ];simp;congr 1;omega
theorem aeJ{n f:Nat}(h:n / 2^f % 2=0):n ||| 2^f=n+2^f:=by
 obtain⟨h1,h2⟩:=L6 n f;obtain⟨p,hp⟩:∃p,n / 2^f=2 *p:=⟨n / 2^f / 2,by revert h;generalize n / 2^f=q;omega⟩
 rw[hp]at h1;generalize n % 2^f=r at *;have e:n+2^f=2^f *(2 *p+1)+r:=by rw[h1,Nat.mul_add,Nat.mul_one];omega
 rw[e,h1];refine arR λj=>?_
 rw[Nat.testBit_or,arb _ h2,arb _ h2,Nat.testBit_two_pow];by_cases hj:j<f
 ·simp[hj];omega
 ·simp only[hj,if_false,TC,ZB];by_cases ED:f=j
  ·subst ED;simp
  ·have:0<j-f:=by omega
   have h3:¬(j-f=0):=by omega
   simp[ED,this,h3]
theorem aeK{n f:Nat}(h:n / 2^f % 2=1):n ||| 2^f=n:=by
 refine arR λj=>?_
 rw[Nat.testBit_or,Nat.testBit_two_pow];by_cases ED:f=j
 ·subst ED;rw[Nat.testBit_eq_decide_div_mod_eq,h];simp
 ·simp[ED]
theorem TD(f j:Nat):(2^64-1-2^f).testBit j=(decide (j<64)&&!decide (f=j))\/64<=f:=by
 by_cases hf:f<64
 ·left;have:2^f<2^64:=Nat.pow_lt_pow_right (by decide) hf;rw[show 2^64-1-2^f=2^64-(2^f+1) by omega,Nat.testBit_two_pow_sub_succ this,Nat.testBit_two_pow]
 ·right;omega
theorem aeL{n f:Nat}(hn:n<2^64)(hf:f<64)(h:n / 2^f % 2=1):n &&& (2^64-1-2^f)=n-2^f:=by
 obtain⟨h1,h2⟩:=L6 n f;obtain⟨p,hp⟩:∃p,n / 2^f=2 *p+1:=⟨n / 2^f / 2,by revert h;generalize n / 2^f=q;omega⟩
 rw[hp]at h1;generalize hr:n % 2^f=r at *;have e:n-2^f=2^f *(2 *p)+r:=by rw[h1,Nat.mul_add,Nat.mul_one];omega
 rw[e];refine arR λj=>?_
 rw[Nat.testBit_and,(TD f j).resolve_right (by omega),arb _ h2];by_cases Wc:j<64
 ·have e2:n.testBit j=(2^f *(2 *p+1)+r).testBit j:=by rw[<-h1]
  rw[e2,arb _ h2];by_cases hj:j<f
  ·simp[hj,Wc];omega
  ·simp only[hj,if_false,TC,ZB];by_cases ED:f=j
   ·subst ED;simp
   ·have:0<j-f:=by omega
    have h3:¬(j-f=0):=by omega
    simp[ED,this,h3,Wc]
 ·have e3:n.testBit j=false:=Nat.testBit_lt_two_pow (aqa hn (arl (by decide) (by omega)));have e4:(2^f *(2 *p)+r).testBit j=false:=Nat.testBit_lt_two_pow (aqa (by omega:2^f *(2 *p)+r<2^64) (arl (by decide) (by omega)));rw[arb _ h2]at e4;rw[e3,e4];rfl
theorem aeM{n f:Nat}(hn:n<2^64)(hf:f<64)(h:n / 2^f % 2=0):n &&& (2^64-1-2^f)=n:=by
 refine arR λj=>?_
 rw[Nat.testBit_and,(TD f j).resolve_right (by omega)];by_cases Wc:j<64
 ·by_cases ED:f=j
  ·subst ED;rw[Nat.testBit_eq_decide_div_mod_eq,h];simp
  ·simp[ED,Wc]
 ·have e3:n.testBit j=false:=Nat.testBit_lt_two_pow (aqa hn (arl (by decide) (by omega)));rw[e3];rfl
def TE(a b:Int):Int:=IntKind.wrap .i64 (((a % 2^IntKind.i64.bits).toNat ||| (b % 2^IntKind.i64.bits).toNat:Nat):Int)
def xD(a b:Int):Int:=IntKind.wrap .i64 (((a % 2^IntKind.i64.bits).toNat &&& (2^IntKind.i64.bits-1-(b % 2^IntKind.i64.bits).toNat):Nat):Int)
theorem TF{v:Int}{n f:Nat}(hv:v=n):v / (2^f:Nat) % 2=((n / 2^f % 2:Nat):Int):=by subst hv;simp
theorem Wd{f:Nat}(hf:f<=15):2^f<=32768:=arl (n:=2) (by decide) hf
theorem aeN{v:Int}{f:Nat}(hv:0<=v/\v<=65535)(hf:f<=15):TE v (2^f:Nat)=if v / (2^f:Nat) % 2=1 then v else v+(2^f:Nat):=by
 obtain⟨n,rfl⟩:∃n:Nat,v=n:=⟨v.toNat,by omega⟩
 have hp:=Wd hf;have hb:IntKind.i64.bits=64:=rfl;rw[TF rfl];unfold TE;rw[hb];have e1:((n:Int) % 2^64).toNat=n:=by omega
 have e2:(((2^f:Nat):Int) % 2^64).toNat=2^f:=by
  generalize 2^f=P at *;omega
 rw[e1,e2];rcases Nat.mod_two_eq_zero_or_one (n / 2^f)with h|h
 ·rw[aeJ h,h,if_neg (by decide),wrap64 ?_]
  ·simp
  ·rw[aR];generalize 2^f=P at *;omega
 ·rw[aeK h,h,if_pos (by decide),wrap64 iW]
theorem Rt{v:Int}{f:Nat}(hv:0<=v/\v<=65535)(hf:f<=15):xD v (2^f:Nat)=if v / (2^f:Nat) % 2=1 then v-(2^f:Nat)else v:=by
 obtain⟨n,rfl⟩:∃n:Nat,v=n:=⟨v.toNat,by omega⟩
 have hp:=Wd hf;have hb:IntKind.i64.bits=64:=rfl;rw[TF rfl];unfold xD;rw[hb];have e1:((n:Int) % 2^64).toNat=n:=by omega
 have e2:(((2^f:Nat):Int) % 2^64).toNat=2^f:=by
  generalize 2^f=P at *;omega
 rw[e1,e2];have hn:n<2^64:=by omega
 rcases Nat.mod_two_eq_zero_or_one (n / 2^f)with h|h
 ·rw[aeM hn (by omega) h,h,if_neg (by decide),wrap64 iW]
 ·have hle:2^f<=n:=by
   have hm:=Nat.div_mul_le_self n (2^f);have hq:1<=n / 2^f:=by revert h;generalize n / 2^f=q;omega
   have h3:=aqb (2^f) hq;rw[ark]at h3;exact aqo h3 hm
  rw[aeL hn (by omega) h,h,if_pos (by decide)];generalize 2^f=P at *;rw[wrap64 iW];omega
theorem aeO(a b:Int):Pure prog 250 [iD a,iD b] (iD (TE a b)):=by
 refine rn func250 ?_;simp[-cB,f250];rfl
theorem ZC(a b:Int):Pure prog 251 [iD a,iD b] (iD (xD a b)):=by
 refine rn func251 ?_;simp[-cB,f251];rfl
theorem Jd(w:ai)(hF:fS w)(hlen:w.Flags.length≤100000)(x f:Int)(G:FuncId)(tf:Int→Int→Int)(hg:∀a b,Pure prog G [iD a,iD b] (iD (tf a b))):
  Pure prog 249 [.agg (w.enc.map .d),iD x,iD f,.eW (.func G) [] []]
   (.bM [.agg ((if dO w x f=0 then {w with Flags:=w.Flags.set x.toNat (tf (aC w.Flags x) (2^f.toNat:Nat))}else w).enc.map .d),iD (dO w x f)]):=by
 have ha:=O8 w x f;by_cases h0:dO w x f=0
 ·have hx:=zI h0;have hb:=bG.1 hx.1;have hl:=hF.1;have ay:x.toNat<w.Flags.length:=by omega
  have hgt:w.Flags[x.toNat]?.getD 0=aC w.Flags x:=rfl;rw[if_pos h0,h0];rw[h0]at ha;have hc:=ic 4050 w.Flags (by omega);have akk:IntKind.i64.wrap (2^min (IntKind.u64.wrap f).toNat IntKind.i64.bits)=((2^f.toNat:Nat):Int):=by
   have hp:=Wd (f:=f.toNat) (by omega);rw[wZ (by omega),show IntKind.i64.bits=64 from rfl,arX (by omega)];have e:((2:Int)^f.toNat)=((2^f.toNat:Nat):Int):=by simp
   rw[e];generalize 2^f.toNat=P at *;exact wrap64 iW
  refine rn func249 ?_;simp[-cB,f249];intro bs;refine pC ha ?_;simp[-cB];refine eD [] hc ?_;simp[-cB,ai.enc];generalize hP:((2^f.toNat:Nat):Int)=P at *;refine aw.bI [Q0,Q0,Q0,Q0,Q0,Q0,Q0,Q0,Q0,Q0,Q0,Q0,Q0,Q0,none] [iD (tf (aC w.Flags x) P)] bc (by kernel_rfl) ?_;simp[-cB,akk,hgt,(hg _ _).ok];exact⟨⟨by omega,ay⟩,ay,(Kj _).1,by omega,ay,by rw[<-hP];simp⟩
 ·rw[if_neg h0];refine rn func249 ?_;simp[-cB,f249];intro bs;refine pC ha ?_;simp[h0]
theorem PY{l:List Int}{x:Int}(hx:0<=x/\x.toNat<l.length):l.set x.toNat (aC l x)=l:=by
 unfold aC;rw[anc hx.2];exact List.set_getElem_self hx.2
theorem PZ(w:ai)(hF:fS w)(hlen:w.Flags.length<=100000)(x f:Int):Pure prog 212 [.agg (w.enc.map .d),iD x,iD f] (.bM [.agg ((ig w x f true).1.enc.map .d),iD (ig w x f true).2]):=by
 have h:=Jd w hF hlen x f 250 TE aeO;have e:(ig w x f true).1=(if dO w x f=0 then {w with Flags:=w.Flags.set x.toNat (TE (aC w.Flags x) (2^f.toNat:Nat))}else w)/\(ig w x f true).2=dO w x f:=by
  unfold ig;split
  ·rename_i h0;have hx:=zI h0;have hb:=bG.1 hx.1;have hl:=hF.1;have hm:=hF.2 _ (L5 (l:=w.Flags) (x:=x) (by omega));refine⟨?_,h0.symm⟩;simp only;rw[aeN hm (by omega)];unfold ff;rw[hx.1,ard];split
   ·rename_i hh;have hh:aC w.Flags x / (2^f.toNat:Nat) % 2=1:=by simpa using hh
    rw[if_pos hh,PY (by omega)]
   ·rename_i hh;have hh:¬aC w.Flags x / (2^f.toNat:Nat) % 2=1:=by simpa using hh
    rw[if_neg hh];simp
  ·exact⟨rfl,rfl⟩
 rw[e.1,e.2];clear e;revert h;generalize (if dO w x f=0 then {w with Flags:=w.Flags.set x.toNat (TE (aC w.Flags x) (2^f.toNat:Nat))}else w)=R;intro h;refine Pure.run func212 rfl (by simp[f212,ai.enc]) ?_;simp[-cB,f212,ai.enc];intro bs;refine pC h ?_;simp[-cB];rfl
theorem Je(w:ai)(hF:fS w)(hlen:w.Flags.length<=100000)(x f:Int):Pure prog 213 [.agg (w.enc.map .d),iD x,iD f] (.bM [.agg ((ig w x f false).1.enc.map .d),iD (ig w x f false).2]):=by
 have h:=Jd w hF hlen x f 251 xD ZC;have e:(ig w x f false).1=(if dO w x f=0 then {w with Flags:=w.Flags.set x.toNat (xD (aC w.Flags x) (2^f.toNat:Nat))}else w)/\(ig w x f false).2=dO w x f:=by
  unfold ig;split
  ·rename_i h0;have hx:=zI h0;have hb:=bG.1 hx.1;have hl:=hF.1;have hm:=hF.2 _ (L5 (l:=w.Flags) (x:=x) (by omega));refine⟨?_,h0.symm⟩;simp only;rw[Rt hm (by omega)];unfold ff;rw[hx.1,ard];split
   ·rename_i hh;have hh:¬aC w.Flags x / (2^f.toNat:Nat) % 2=1:=by simpa using hh
    rw[if_neg hh,PY (by omega)]
   ·rename_i hh;have hh:aC w.Flags x / (2^f.toNat:Nat) % 2=1:=by simpa using hh
    rw[if_pos hh];simp
  ·exact⟨rfl,rfl⟩
 rw[e.1,e.2];clear e;revert h;generalize (if dO w x f=0 then {w with Flags:=w.Flags.set x.toNat (xD (aC w.Flags x) (2^f.toNat:Nat))}else w)=R;intro h;refine Pure.run func213 rfl (by simp[f213,ai.enc]) ?_;simp[-cB,f213,ai.enc];intro bs;refine pC h ?_;simp[-cB];rfl
set_option maxHeartbeats 4000000
set_option maxRecDepth 20000
abbrev jX(wb:Nat)(s:an)(F:Int)(m:aj)(i:ae)(m':aj):Prop:=aE prog 143 [.bp 5003 0,.agg (i.enc.map .d)] (bE wb s F m) (λr L=>r= .ret (.bM [])/\L=bE wb s F m')
abbrev EE(wb:Nat)(s:an)(F:Int)(m:aj)(i:ae)(e:Int):Prop:=∃m',aE prog 143 [.bp 5003 0,.agg (i.enc.map .d)] (bE wb s F m) (λr L=>r= .iC (pc e)/\L=bE wb s F m')
@[simp] theorem alb(w:ai)(n:Int):List.take 12 (w.enc.map V.d)++ [V.d (.v (.int .i64 n))]=({w with Go:=n}:ai).enc.map V.d:=rfl
@[simp] theorem ami(w:ai)(n:Int):List.take 8 (w.enc.map V.d)++V.d (.v (.int .i64 n))::List.drop 9 (w.enc.map V.d)=({w with Score:=n}:ai).enc.map V.d:=rfl
@[simp] theorem akl(w:ai):List.take 13 (w.enc.map V.d)=w.enc.map V.d:=rfl
theorem We(wb:Nat)(s:an)(F:Int)(m:aj)(i:ae)(S:List Int)(x:Int)(aP:i.Op=2)(hS:m.Stack=S++ [x])(hl:S.length<=100000):jX wb s F m i {m with Stack:=S}:=by
 have hp:=fg wb s F m S x hS (by omega);unfold jX bE at *;refine rX [] [5003,5004,5005] func143 ?_;simp[-cB,f143];intro bs cI;simp[-cB,aP];refine eD [5003,5004,5005] hp ?_;simp[-cB];refine eD [] di ?_;simp[-cB]
theorem Ru(wb:Nat)(s:an)(F:Int)(m:aj)(i:ae)(S:List Int)(x:Int)(aP:i.Op=34)(hS:m.Stack=S++ [x])(hl:S.length<=100000)(hx:1<=x/\x<=12):jX wb s F m i {m with Stack:=S,Told:={m.Told with World:={m.Told.World with Go:=x}}}:=by
 have hp:=fg wb s F m S x hS (by omega);have h1:¬x<1:=by omega
 have h2:¬12<x:=by omega
 unfold jX bE at *;refine rX [] [5003,5004,5005] func143 ?_;simp[-cB,f143];intro bs cI;simp[-cB,aP];refine eD [5003,5004,5005] hp ?_;simp[-cB,h1,h2];refine eD [] di ?_;simp[-cB]
theorem Rv(wb:Nat)(s:an)(F:Int)(m:aj)(i:ae)(S:List Int)(x:Int)(aP:i.Op=34)(hS:m.Stack=S++ [x])(hl:S.length<=100000)(hx:¬(1<=x/\x<=12)):EE wb s F m i 5:=by
 refine⟨{m with Stack:=S},?_⟩;have hp:=fg wb s F m S x hS (by omega);have hc:=iS 5 (by decide);unfold bE at *;by_cases h1:x<1
 ·refine rX [] [5003,5004,5005] func143 ?_;simp[-cB,f143];intro bs cI;simp[-cB,aP];refine eD [5003,5004,5005] hp ?_;simp[-cB,h1];refine ar.ld [] rfl (hc) (by simp) rfl (by simp) (by kernel_rfl) (by first|rfl|simp) (by simp) (by simp) (by simp) ?_;simp
 ·have h2:12<x:=by omega
  refine rX [] [5003,5004,5005] func143 ?_;simp[-cB,f143];intro bs cI;simp[-cB,aP];refine eD [5003,5004,5005] hp ?_;simp[-cB,h1,h2];refine ar.ld [] rfl (hc) (by simp) rfl (by simp) (by kernel_rfl) (by first|rfl|simp) (by simp) (by simp) (by simp) ?_;simp
theorem Rw(wb:Nat)(s:an)(F:Int)(m:aj)(i:ae)(S:List Int)(x:Int)(w':ai)(aP:i.Op=15)(hS:m.Stack=S++ [x])(hl:S.length<=100000)(hF:fS m.Told.World)(hlen:m.Told.World.Flags.length<=100000)(hv:ig m.Told.World x i.Arg true=(w',0)):jX wb s F m i {m with Stack:=S,Told:={m.Told with World:=w'}}:=by
 have hp:=fR wb s F m S x hS (by omega);have fB:=PZ m.Told.World hF hlen x i.Arg;rw[hv]at fB;unfold jX bE at *;unfold pZ at hp;refine rX [] [5003,5004,5005] func143 ?_;simp[-cB,f143];intro bs cI;simp[-cB,aP];refine aw.ew bc (dY.m0 [Q3,Q0,none,Q3,Q3,asi,asi,asi,asn,none,asl] [.bM [.agg (w'.enc.map .d),iD 0]] (by kernel_rfl) ?_);simp[-cB];refine gv.intro (λ_=>fK.ju (s:=⟨_,_⟩) 5004 [5003,5004] [5005] rfl (hp) rfl rfl (by kernel_rfl) (by first|rfl|simp) (by simp) (by simp[cY,aV.cg,V.cg]) (cC (by simp)) (by simp) (by simp)) ?_;simp[-cB];refine⟨fB.ok _,?_⟩;refine eD [] di ?_;simp[-cB]
theorem Rx(wb:Nat)(s:an)(F:Int)(m:aj)(i:ae)(S:List Int)(x:Int)(w':ai)(e:Int)(he:e≠0)(aP:i.Op=15)(hS:m.Stack=S++ [x])(hl:S.length<=100000)(hF:fS m.Told.World)(hlen:m.Told.World.Flags.length<=100000)(hv:ig m.Told.World x i.Arg true=(w',e)):EE wb s F m i e:=by
 refine⟨{m with Stack:=S},?_⟩;have hc:=iS e he;have hp:=fR wb s F m S x hS (by omega);have fB:=PZ m.Told.World hF hlen x i.Arg;rw[hv]at fB;unfold bE at *;unfold pZ at hp;refine rX [] [5003,5004,5005] func143 ?_;simp[-cB,f143];intro bs cI;simp[-cB,aP];refine aw.ew bc (dY.m0 [Q3,Q0,none,Q3,Q3,asi,asi,asi,asn,none,asl] [.bM [.agg (w'.enc.map .d),iD e]] (by kernel_rfl) ?_);simp[-cB];refine gv.intro (λ_=>fK.ju (s:=⟨_,_⟩) 5004 [5003,5004] [5005] rfl (hp) rfl rfl (by kernel_rfl) (by first|rfl|simp) (by simp) (by simp[cY,aV.cg,V.cg]) (cC (by simp)) (by simp) (by simp)) ?_;simp[-cB];refine⟨fB.ok _,?_⟩;refine ar.ld [] rfl (hc) (by simp) rfl (by simp) (by kernel_rfl) (by first|rfl|simp) (by simp) (by simp) (by simp) ?_;simp
theorem Rz(wb:Nat)(s:an)(F:Int)(m:aj)(i:ae)(S:List Int)(x:Int)(w':ai)(aP:i.Op=16)(hS:m.Stack=S++ [x])(hl:S.length<=100000)(hF:fS m.Told.World)(hlen:m.Told.World.Flags.length<=100000)(hv:ig m.Told.World x i.Arg false=(w',0)):jX wb s F m i {m with Stack:=S,Told:={m.Told with World:=w'}}:=by
 have hp:=fR wb s F m S x hS (by omega);have fB:=Je m.Told.World hF hlen x i.Arg;rw[hv]at fB;unfold jX bE at *;unfold pZ at hp;refine rX [] [5003,5004,5005] func143 ?_;simp[-cB,f143];intro bs cI;simp[-cB,aP];refine aw.ew bc (dY.m0 [Q3,Q0,none,Q3,Q3,asi,asi,asi,asn,none,asl] [.bM [.agg (w'.enc.map .d),iD 0]] (by kernel_rfl) ?_);simp[-cB];refine gv.intro (λ_=>fK.ju (s:=⟨_,_⟩) 5004 [5003,5004] [5005] rfl (hp) rfl rfl (by kernel_rfl) (by first|rfl|simp) (by simp) (by simp[cY,aV.cg,V.cg]) (cC (by simp)) (by simp) (by simp)) ?_;simp[-cB];refine⟨fB.ok _,?_⟩;refine eD [] di ?_;simp[-cB]
theorem RA(wb:Nat)(s:an)(F:Int)(m:aj)(i:ae)(S:List Int)(x:Int)(w':ai)(e:Int)(he:e≠0)(aP:i.Op=16)(hS:m.Stack=S++ [x])(hl:S.length<=100000)(hF:fS m.Told.World)(hlen:m.Told.World.Flags.length<=100000)(hv:ig m.Told.World x i.Arg false=(w',e)):EE wb s F m i e:=by
 refine⟨{m with Stack:=S},?_⟩;have hc:=iS e he;have hp:=fR wb s F m S x hS (by omega);have fB:=Je m.Told.World hF hlen x i.Arg;rw[hv]at fB;unfold bE at *;unfold pZ at hp;refine rX [] [5003,5004,5005] func143 ?_;simp[-cB,f143];intro bs cI;simp[-cB,aP];refine aw.ew bc (dY.m0 [Q3,Q0,none,Q3,Q3,asi,asi,asi,asn,none,asl] [.bM [.agg (w'.enc.map .d),iD e]] (by kernel_rfl) ?_);simp[-cB];refine gv.intro (λ_=>fK.ju (s:=⟨_,_⟩) 5004 [5003,5004] [5005] rfl (hp) rfl rfl (by kernel_rfl) (by first|rfl|simp) (by simp) (by simp[cY,aV.cg,V.cg]) (cC (by simp)) (by simp) (by simp)) ?_;simp[-cB];refine⟨fB.ok _,?_⟩;refine ar.ld [] rfl (hc) (by simp) rfl (by simp) (by kernel_rfl) (by first|rfl|simp) (by simp) (by simp) (by simp) ?_;simp
theorem RB(wb:Nat)(s:an)(F:Int)(m:aj)(i:ae)(S:List Int)(x:Int)(aP:i.Op=31)(hS:m.Stack=S++ [x])(hl:S.length<=100000):jX wb s F m i {m with Stack:=S,Told:={m.Told with World:={m.Told.World with Score:=D1 m.Told.World.Score x}}}:=by
 have hp:=fR wb s F m S x hS (by omega);have fB:=Yd m.Told.World.Score x;unfold jX bE at *;unfold pZ at hp;refine rX [] [5003,5004,5005] func143 ?_;simp[-cB,f143];intro bs cI;simp[-cB,aP];refine aw.ew bc (dY.m0 [Q3,Q3,Q0,none,asi,asi,none] [iD (D1 m.Told.World.Score x)] (by kernel_rfl) ?_);simp[-cB];refine gv.intro (λ_=>fK.ju (s:=⟨_,_⟩) 5004 [5003,5004] [5005] rfl (hp) rfl rfl (by kernel_rfl) (by first|rfl|simp) (by simp) (by simp[cY,aV.cg,V.cg]) (cC (by simp)) (by simp) (by simp)) ?_;simp[-cB];refine⟨fB.ok _,?_⟩;refine eD [] di ?_;simp[-cB]
theorem RC(wb:Nat)(s:an)(F:Int)(m:aj)(i:ae)(S:List Int)(x:Int)(aP:i.Op=20)(hS:m.Stack=S++ [x])(hl:S.length<=100000)(hx:¬ax x<1):jv wb s F m i {m with Stack:=S++ [ax ((sJ m.Told.World.dN (ax x)).1+1)],Told:={m.Told with World:={m.Told.World with dN:=(sJ m.Told.World.dN (ax x)).2}}}:=by
 have hp:=fR wb s F m S x hS (by omega);have fB:=LK m.Told.World x;rw[if_neg hx]at fB;generalize sJ m.Told.World.dN (ax x)=R at *;obtain⟨v,q⟩:=R;have hq:=lK wb s F {m with Stack:=S,Told:={m.Told with World:={m.Told.World with dN:=q}}} (v+1) (by simp;omega);unfold jv bE at *;unfold pZ at hp;refine rX [] [5003,5004,5005] func83 ?_;simp[-cB,f83];intro bs cI;simp[-cB,aP];refine aw.ew bc (dY.m0 [Q3,Q3,Q0,none,asi,asi,asi,asi,asn,asi,asi,asi,asi,asi,none,asl] [.bM [iD (v+1),.agg (({m.Told.World with dN:=q}:ai).enc.map .d),iD 0]] (by kernel_rfl) ?_);simp[-cB];refine gv.intro (λ_=>fK.ju (s:=⟨_,_⟩) 5004 [5003,5004] [5005] rfl (hp) rfl rfl (by kernel_rfl) (by first|rfl|simp) (by simp) (by simp[cY,aV.cg,V.cg]) (cC (by simp)) (by simp) (by simp)) ?_;simp[-cB];refine⟨fB.ok _,?_⟩;refine eD [] di ?_;simp[-cB];refine eD [5003,5004,5005] hq ?_;simp
theorem RD(wb:Nat)(s:an)(F:Int)(m:aj)(i:ae)(S:List Int)(x:Int)(aP:i.Op=20)(hS:m.Stack=S++ [x])(hl:S.length<=100000)(hx:ax x<1):Cm wb s F m i 1:=by
 refine⟨{m with Stack:=S},?_⟩;have hc:=iS 1 (by decide);have hp:=fR wb s F m S x hS (by omega);have fB:=LK m.Told.World x;rw[if_pos hx]at fB;unfold bE at *;unfold pZ at hp;refine rX [] [5003,5004,5005] func83 ?_;simp[-cB,f83];intro bs cI;simp[-cB,aP];refine aw.ew bc (dY.m0 [Q3,Q3,Q0,none,asi,asi,asi,asi,asn,asi,asi,asi,asi,asi,none,asl] [.bM [iD 0,.agg (m.Told.World.enc.map .d),iD 1]] (by kernel_rfl) ?_);simp[-cB];refine gv.intro (λ_=>fK.ju (s:=⟨_,_⟩) 5004 [5003,5004] [5005] rfl (hp) rfl rfl (by kernel_rfl) (by first|rfl|simp) (by simp) (by simp[cY,aV.cg,V.cg]) (cC (by simp)) (by simp) (by simp)) ?_;simp[-cB];refine⟨fB.ok _,?_⟩;refine ar.ld [] rfl (hc) (by simp) rfl (by simp) (by kernel_rfl) (by first|rfl|simp) (by simp) (by simp) (by simp) ?_;simp
theorem P0(t:aq)(w:ai)(hn:w.ah.length<=32768)(hk:t.aM.length<=65536)(hm:w.ah.length *t.aM.length=w.aM.length)(uA:w.aM.length<=100000000)(x p n:Int):Pure prog 211 [.agg (t.enc.map .d),.agg (w.enc.map .d),iD x,iD p,iD n] (.bM [.agg ((sI t w x p n).1.enc.map .d),iD (sI t w x p n).2]):=by
 have lP:=O9 t w hn hk x p;have hi:=ahZ n;have hc:=ic 4050 w.aM (by omega);unfold gW at lP;unfold sI;by_cases he:nW t w x p=0
 ·have hT:cT w.ah.length x=true/\0<=p/\p<t.aM.length:=by
   unfold nW at he;split at he
   ·split at he
    ·rename_i a b;exact⟨a,b⟩
    ·omega
   ·omega
  have hl:=Pa hm (bG.1 hT.1) hT.2;rw[he]at lP⊢;simp at lP;generalize x *t.aM.length+p=q at *;cases nB:ib n with
  | false=>
    rw[nB]at hi;simp only[if_true];refine rn func211 ?_;simp[-cB,f211];intro bs;refine pC lP ?_;simp[-cB];refine pC hi ?_;simp[-cB]
  | true=>
    rw[nB]at hi;simp only[if_true];unfold ai.enc;refine rn func211 ?_;simp[-cB,f211];intro bs;refine pC lP ?_;simp[-cB];refine pC hi ?_;simp[-cB];refine eD [] hc ?_;simp[-cB,hl.1,hl.2]
 ·simp[he]at lP;rw[if_neg he];generalize nW t w x p=e at *;have kD:(e !=0)=true:=by simpa using he
  refine rn func211 ?_;simp[-cB,f211];intro bs;refine pC lP ?_;simp[-cB,kD]
theorem ZD(l:List D):(l.map V.d).tail=l.tail.map V.d:=by cases l<;>rfl
@[simp] theorem akm(ks:List Nat)(l:List D):V.dA ks (l.map V.d).tail=true:=by rw[ZD];exact E4 ks _
@[simp] theorem ai6(h:Nat)(y:V)(l:List D):V.mC h y (l.map V.d).tail=(l.map V.d).tail:=by rw[ZD];exact vD h y _
@[simp] theorem alc(w:ai)(g:List Int):V.d (.sl (aD g))::(List.map V.d w.enc).tail=({w with aW:=g}:ai).enc.map V.d:=rfl
theorem RE(wb:Nat)(s:an)(F:Int)(m:aj)(i:ae)(S:List Int)(x n:Int)(w':ai)(aP:i.Op=14)(hS:m.Stack=S++ [x,n])(hl:S.length<=100000)(hn:m.Told.World.ah.length<=32768)(hk:s.Tables.aM.length<=65536)(hm:m.Told.World.ah.length *s.Tables.aM.length=m.Told.World.aM.length)(uA:m.Told.World.aM.length<=100000000)(hv:sI s.Tables m.Told.World x i.Arg n=(w',0)):jX wb s F m i {m with Stack:=S,Told:={m.Told with World:=w'}}:=by
 have mN:=fg wb s F m (S++ [x]) n (by rw[hS];simp) (by simp;omega);have hp:=fR wb s F {m with Stack:=S++ [x]} S x rfl (by omega);have fB:=P0 s.Tables m.Told.World hn hk hm uA x i.Arg n;rw[hv]at fB;unfold jX bE at *;unfold pZ at hp;refine rX [] [5003,5004,5005] func143 ?_;simp[-cB,f143];intro bs cI;simp[-cB,aP];refine eD [5003,5004,5005] mN ?_;simp[-cB];refine aw.ew bc (dY.m0 [Q3,Q3,Q3,Q3,Q3,Q3,Q0,none,Q3,Q3,Q3,asi,asi,asi,asn,none,asl] [.bM [.agg (w'.enc.map .d),iD 0]] (by kernel_rfl) ?_);simp[-cB];refine gv.intro (λ_=>fK.ju (s:=⟨_,_⟩) 5004 [5003,5004] [5005] rfl (hp) rfl rfl (by kernel_rfl) (by first|rfl|simp) (by simp) (by simp[cY,aV.cg,V.cg]) (cC (by simp)) (by simp) (by simp)) ?_;simp[-cB];refine⟨fB.ok _,?_⟩;refine eD [] di ?_;simp[-cB]
theorem RF(wb:Nat)(s:an)(F:Int)(m:aj)(i:ae)(S:List Int)(x n:Int)(w':ai)(e:Int)(he:e≠0)(aP:i.Op=14)(hS:m.Stack=S++ [x,n])(hl:S.length<=100000)(hn:m.Told.World.ah.length<=32768)(hk:s.Tables.aM.length<=65536)(hm:m.Told.World.ah.length *s.Tables.aM.length=m.Told.World.aM.length)(uA:m.Told.World.aM.length<=100000000)(hv:sI s.Tables m.Told.World x i.Arg n=(w',e)):EE wb s F m i e:=by
 refine⟨{m with Stack:=S},?_⟩;have hc:=iS e he;have mN:=fg wb s F m (S++ [x]) n (by rw[hS];simp) (by simp;omega);have hp:=fR wb s F {m with Stack:=S++ [x]} S x rfl (by omega);have fB:=P0 s.Tables m.Told.World hn hk hm uA x i.Arg n;rw[hv]at fB;unfold bE at *;unfold pZ at hp;refine rX [] [5003,5004,5005] func143 ?_;simp[-cB,f143];intro bs cI;simp[-cB,aP];refine eD [5003,5004,5005] mN ?_;simp[-cB];refine aw.ew bc (dY.m0 [Q3,Q3,Q3,Q3,Q3,Q3,Q0,none,Q3,Q3,Q3,asi,asi,asi,asn,none,asl] [.bM [.agg (w'.enc.map .d),iD e]] (by kernel_rfl) ?_);simp[-cB];refine gv.intro (λ_=>fK.ju (s:=⟨_,_⟩) 5004 [5003,5004] [5005] rfl (hp) rfl rfl (by kernel_rfl) (by first|rfl|simp) (by simp) (by simp[cY,aV.cg,V.cg]) (cC (by simp)) (by simp) (by simp)) ?_;simp[-cB];refine⟨fB.ok _,?_⟩;refine ar.ld [] rfl (hc) (by simp) rfl (by simp) (by kernel_rfl) (by first|rfl|simp) (by simp) (by simp) (by simp) ?_;simp
theorem Wf(wb:Nat)(s:an)(F:Int)(m:aj)(i:ae)(S:List Int)(x:Int)(aP:i.Op=4)(hA:0<=i.Arg/\i.Arg<m.Told.World.aW.length)(hg:m.Told.World.aW.length<=100000)(hS:m.Stack=S++ [x])(hl:S.length<=100000):jX wb s F m i {m with Stack:=S,Told:={m.Told with World:={m.Told.World with aW:=m.Told.World.aW.set i.Arg.toNat x}}}:=by
 have hp:=fR wb s F m S x hS (by omega);have hc:=ic 5010 m.Told.World.aW (by omega);unfold jX bE at *;unfold pZ at hp;refine rX [] [5003,5004,5005] func143 ?_;simp[-cB,f143];intro bs cI;simp[-cB,aP];refine eD [] hc ?_;simp[-cB];have CS:i.Arg.toNat<m.Told.World.aW.length:=by omega
 refine aw.ew bc (dY.m0 [Q3,Q3,Q3,Q3,Q0,none,asi,none] [] (by kernel_rfl) ?_);simp[-cB];refine gv.intro (λ_=>fK.ju (s:=⟨_,_⟩) 5004 [5003,5004] [5005] rfl (hp) rfl rfl (by kernel_rfl) (by first|rfl|simp) (by simp) (by simp[cY,aV.cg,V.cg]) (cC (by simp)) (by simp) (by simp)) ?_;simp[-cB,hA.1,CS];refine ar.weaken (Wk.freeze 5010 (ty:=3) (k:=1) (ys:=aD (m.Told.World.aW.set i.Arg.toNat x)) (by rfl)) ?_;simp[-cB,V.fM];refine eD [] di ?_;simp[-cB]
theorem adu(l:List D)(a b:Nat)(x:V):List.take a (l.map V.d)++x::List.drop b (l.map V.d)=(l.take a).map V.d++x::(l.drop b).map V.d:=by simp
theorem P1(h:Nat)(y:V)(l:List D)(a b:Nat)(x:V):V.mC h y (List.take a (l.map V.d)++x::List.drop b (l.map V.d))=List.take a (l.map V.d)++V.fM h y x::List.drop b (l.map V.d):=by
 rw[adu,EC,vD,V.mC,vD,<-adu]
theorem ZE(w:ai)(g:List Int):List.take 6 (w.enc.map V.d)++V.d (.sl (aD g))::List.drop 7 (w.enc.map V.d)=({w with bO:=g}:ai).enc.map V.d:=rfl
theorem RG(wb:Nat)(s:an)(F:Int)(m:aj)(i:ae)(aP:i.Op=33)(hA:0<=i.Arg/\i.Arg<m.Told.World.bO.length)(hg:m.Told.World.bO.length<=100000):jX wb s F m i {m with Told:={m.Told with World:={m.Told.World with bO:=m.Told.World.bO.set i.Arg.toNat 0}}}:=by
 have hc:=ic 5010 m.Told.World.bO (by omega);have CS:i.Arg.toNat<m.Told.World.bO.length:=by omega
 unfold jX bE at *;refine rX [] [5003,5004,5005] func143 ?_;simp[-cB,f143];intro bs cI;simp[-cB,aP];refine eD [] hc ?_;simp[-cB,hA.1,CS];refine ar.weaken (Wk.freeze 5010 (ty:=3) (k:=1) (ys:=aD (m.Told.World.bO.set i.Arg.toNat 0)) (by rfl)) ?_;simp[-cB,V.fM,P1,ZE];refine eD [] di ?_;simp[-cB]
theorem RH(wb:Nat)(s:an)(F:Int)(m:aj)(i:ae)(S:List Int)(x:Int)(aP:i.Op=32)(hS:m.Stack=S++ [x])(hl:S.length<=100000)(hA:0<=i.Arg/\i.Arg<m.Told.World.bO.length)(hg:m.Told.World.bO.length<=100000):jX wb s F m i {m with Stack:=S,Told:={m.Told with World:={m.Told.World with bO:=m.Told.World.bO.set i.Arg.toNat (if x<1 then 1 else x)}}}:=by
 have hp:=fg wb s F m S x hS (by omega);have hc:=ic 5010 m.Told.World.bO (by omega);have CS:i.Arg.toNat<m.Told.World.bO.length:=by omega
 unfold jX bE at *;refine rX [] [5003,5004,5005] func143 ?_;simp[-cB,f143];intro bs cI;simp[-cB,aP];refine eD [5003,5004,5005] hp ?_;simp[-cB];refine eD [] hc ?_;simp[-cB,hA.1,CS];refine ar.weaken (Wk.freeze 5010 (ty:=3) (k:=1) (ys:=aD (m.Told.World.bO.set i.Arg.toNat (if x<1 then 1 else x))) (by rfl)) ?_;simp[-cB,V.fM,P1,ZE];refine eD [] di ?_;simp[-cB]
theorem ZF(l:List D)(a:Nat)(x:V):List.take a (l.map V.d)++ [x]=(l.take a).map V.d++ [x]:=by simp
@[simp] theorem akn(ks:List Nat)(l:List D)(a:Nat)(x:V):V.dA ks (List.take a (l.map V.d)++ [x])=x.on ks:=by
 rw[ZF,Hy,E4];simp[V.dA]
theorem ZG(h:Nat)(y:V)(l:List D)(a:Nat)(x:V):V.mC h y (List.take a (l.map V.d)++ [x])=List.take a (l.map V.d)++ [V.fM h y x]:=by
 rw[ZF,EC,vD];simp[V.mC]
theorem agF(f:aG)(g:List Int):List.take 3 (f.enc.map V.d)++ [V.d (.sl (aD g))]=({f with aJ:=g}:aG).enc.map V.d:=rfl
theorem Wg(wb:Nat)(s:an)(F:Int)(m:aj)(i:ae)(Fr:List aG)(f:aG)(S:List Int)(x:Int)(aP:i.Op=6)(h:m.Frames=Fr++ [f])(L4:Fr.length<=1000000)(hS:m.Stack=S++ [x])(hl:S.length<=100000)(hA:0<=i.Arg/\i.Arg<f.aJ.length)(hg:f.aJ.length<=100000):jX wb s F m i {m with Stack:=S,Frames:=Fr++ [{f with aJ:=f.aJ.set i.Arg.toNat x}]}:=by
 have hp:=fR wb s F m S x hS (by omega);have hc:=ic 5010 f.aJ (by omega);have ht:=xC wb s F m Fr f h L4;have CS:i.Arg.toNat<f.aJ.length:=by omega
 have sO:Fr.length<m.Frames.length:=by rw[h];simp
 have bR:m.Frames[Fr.length]?=some f:=tq h;have sE:m.Frames[Fr.length]'sO=f:=by rw[anc sO]at bR;exact apO bR
 unfold jX bE at *;unfold pZ at hp;refine rX [] [5003,5004,5005] func143 ?_;simp[-cB,f143];intro bs cI;simp[-cB,aP];refine ar.V3 [5003,5004,5005] rfl ht (by simp) rfl (by simp) rfl (by kernel_rfl) (by simp) (by simp) (by simp) ?_;simp[-cB,sE,sO];refine eD [] hc ?_;simp[-cB,sO];rw[sE,FA h];have nF:∀z,cellAt (dd (List.map aG.enc Fr)++ [List.take 3 (List.map V.d f.enc)++ [V.rv 5010]]) Fr.length 3 z=V.rv 5010:=by
  intro z;have e:(dd (List.map aG.enc Fr)++ [List.take 3 (List.map V.d f.enc)++ [V.rv 5010]])[Fr.length]?=some (List.take 3 (List.map V.d f.enc)++ [V.rv 5010]):=by
   rw[aqE (by simp[dd])];simp[dd]
  unfold cellAt;rw[e];rfl
 refine aw.ew bc (dY.m0 [Q3,Q3,Q3,Q3,Q3,Q3,Q0,none,asi,none] [] (by kernel_rfl) ?_);simp[-cB,sO,hA.1,CS,nF];refine gv.intro (λ_=>fK.ju (s:=⟨_,_⟩) 5004 [5003,5004] [5005] rfl (hp) rfl rfl (by kernel_rfl) (by first|rfl|simp) (by simp) (by simp[cY,aV.cg,V.cg]) (cC (by simp)) (by simp) (by simp)) ?_;simp[-cB,sO,hA.1,CS,nF];refine ar.weaken (Wk.freeze 5010 (ty:=3) (k:=1) (ys:=aD (f.aJ.set i.Arg.toNat x)) (by rfl)) ?_;simp[-cB,V.fM,ZG,agF];refine eD [] di ?_;simp[-cB];rfl
def mG(o:Int):Prop:=o≠1/\o≠3/\o≠5/\o≠7/\o≠8/\o≠9/\o≠10/\o≠11/\o≠12/\o≠13/\o≠19/\o≠20
theorem aeP(wb:Nat)(s:an)(F:Int)(m m':aj)(i:ae)(aP:mG i.Op)(h:jX wb s F m i m'):jv wb s F m i m':=by
 obtain⟨h1,h2,h3,h4,h5,h6,h7,h8,h9,dX,fT,uj⟩:=aP;unfold jX bE at h;unfold jv bE;refine rX [] [5003,5004,5005] func83 ?_;simp[-cB,f83];intro bs cI;simp[-cB,h1,h2,h3,h4,h5,h6,h7,h8,h9,dX,fT,uj];refine eD [5003,5004,5005] h ?_;simp
theorem aeQ(wb:Nat)(s:an)(F:Int)(m:aj)(i:ae)(e:Int)(aP:mG i.Op)(h:EE wb s F m i e):Cm wb s F m i e:=by
 obtain⟨h1,h2,h3,h4,h5,h6,h7,h8,h9,dX,fT,uj⟩:=aP;obtain⟨m',h⟩:=h;refine⟨m',?_⟩;unfold bE at h⊢;refine rX [] [5003,5004,5005] func83 ?_;simp[-cB,f83];intro bs cI;simp[-cB,h1,h2,h3,h4,h5,h6,h7,h8,h9,dX,fT,uj];refine ar.ld [5003,5004,5005] rfl (h) (by simp) rfl (by simp) (by kernel_rfl) (by first|rfl|simp) (by simp) (by simp) (by simp) ?_;simp
theorem aeR(wb:Nat)(s:an)(F:Int)(m:aj)(i:ae)(x:ByteArray)(aP:i.Op=21)(ht:Pure prog 78 [.agg (s.Tables.enc.map .d),iD i.Arg] (.d (.v (.string x))))(hl:m.Told.Out.size+x.size<=140737488355328):ky wb s F m i {m with Told:={m.Told with Out:=m.Told.Out++x}}:=by
 have hs:=PU wb s F m x hl;unfold ky bE at *;refine rX [] [5003,5004,5005] func38 ?_;simp[-cB,f38];intro bs;simp[aP];refine aw.Fy 9 [.d (.v (.string x))] bc (by rfl) (by kernel_rfl) ?_;simp[-cB,vF];refine⟨ht.ok _,?_⟩;refine eD [5003,5004,5005] hs ?_;simp
theorem aeS(wb:Nat)(s:an)(F:Int)(m:aj)(i:ae)(S:List Int)(v:Int)(x:ByteArray)(aP:i.Op=22)(hS:m.Stack=S++ [v])(wC:S.length<=100000)(ht:Pure prog 79 [iD v] (.d (.v (.string x))))(hl:m.Told.Out.size+x.size<=140737488355328):ky wb s F m i {m with Stack:=S,Told:={m.Told with Out:=m.Told.Out++x}}:=by
 have hp:=fg wb s F m S v hS (by omega);have hs:=PU wb s F {m with Stack:=S} x hl;unfold ky bE at *;refine rX [] [5003,5004,5005] func38 ?_;simp[-cB,f38];intro bs;simp[aP];refine eD [5003,5004,5005] hp ?_;simp[-cB];refine pC ht ?_;simp[-cB];refine eD [5003,5004,5005] hs ?_;simp
theorem aeT(wb:Nat)(s:an)(F:Int)(m:aj)(i:ae)(x:ByteArray)(aP:i.Op=35)(ht:Pure prog 81 [.agg (s.Tables.enc.map .d),.agg (m.Told.World.enc.map .d)] (.d (.v (.string x))))(hl:m.Told.Out.size+x.size<=140737488355328):ky wb s F m i {m with Told:={m.Told with Out:=m.Told.Out++x}}:=by
 have hs:=PU wb s F m x hl;unfold ky bE at *;refine rX [] [5003,5004,5005] func38 ?_;simp[-cB,f38];intro bs;simp[aP];refine aw.Fy 13 [.d (.v (.string x))] bc (by rfl) (by kernel_rfl) ?_;simp[-cB,vF];refine⟨ht.ok _,?_⟩;refine eD [5003,5004,5005] hs ?_;simp
theorem aeU(wb:Nat)(s:an)(F:Int)(m:aj)(i:ae)(S:List Int)(v:Int)(x:ByteArray)(aP:i.Op=23)(hS:m.Stack=S++ [v])(wC:S.length<=100000)(ht:Pure prog 80 [.agg (s.Tables.enc.map .d),iD v] (.d (.v (.string x))))(hl:m.Told.Out.size+x.size<=140737488355328):ky wb s F m i {m with Stack:=S,Told:={m.Told with Out:=m.Told.Out++x}}:=by
 have hp:=fR wb s F m S v hS (by omega);have hs:=Tx wb s F {m with Stack:=S} x hl;unfold ky bE at *;unfold pZ at hp;unfold Zp at hs;refine rX [] [5003,5004,5005] func38 ?_;simp[-cB,f38];intro bs;simp[aP];refine aw.ew bc (dY.m0 [Q3,Q3,Q3,Q3,Q3,Q3,Q0,none,asi,none] [.d (.v (.string x))] (by kernel_rfl) ?_);simp[-cB];refine gv.intro (λ_=>fK.ju (s:=⟨_,_⟩) 5004 [5003,5004] [5005] rfl (hp) rfl rfl (by kernel_rfl) (by first|rfl|simp) (by simp) (by simp[cY,aV.cg,V.cg]) (cC (by simp)) (by simp) (by simp)) ?_;simp[-cB];refine⟨ht.ok _,?_⟩;refine gv.intro (λ_=>fK.ju (s:=⟨_,_⟩) 5003 [5003] [5004,5005] rfl (hs) rfl rfl (by kernel_rfl) (by first|rfl|simp) (by simp) (by refine⟨by simp,λhx e=>?_,by simp⟩;obtain⟨x1,y1,rfl⟩:=Is e;simp[cY,aV.cg,V.cg,V.on]) (cC (by simp)) (by simp) (by simp)) ?_;simp[-cB]
theorem aeV(wb:Nat)(s:an)(F:Int)(m:aj)(i:ae)(S:List Int)(v:Int)(x:ByteArray)(aP:i.Op=36)(hS:m.Stack=S++ [v])(wC:S.length<=100000)(ht:Pure prog 82 [.agg (s.Tables.enc.map .d),.agg (m.Told.World.enc.map .d),iD v] (.d (.v (.string x))))(hl:m.Told.Out.size+x.size<=140737488355328):ky wb s F m i {m with Stack:=S,Told:={m.Told with Out:=m.Told.Out++x}}:=by
 have hp:=fR wb s F m S v hS (by omega);have hs:=Tx wb s F {m with Stack:=S} x hl;unfold ky bE at *;unfold pZ at hp;unfold Zp at hs;refine rX [] [5003,5004,5005] func38 ?_;simp[-cB,f38];intro bs;simp[aP];refine aw.ew bc (dY.m0 [Q3,Q3,Q3,Q3,Q3,Q3,Q3,Q3,Q3,Q3,Q3,Q3,Q0,none,asi,none] [.d (.v (.string x))] (by kernel_rfl) ?_);simp[-cB];refine gv.intro (λ_=>fK.ju (s:=⟨_,_⟩) 5004 [5003,5004] [5005] rfl (hp) rfl rfl (by kernel_rfl) (by first|rfl|simp) (by simp) (by simp[cY,aV.cg,V.cg]) (cC (by simp)) (by simp) (by simp)) ?_;simp[-cB];refine⟨ht.ok _,?_⟩;refine gv.intro (λ_=>fK.ju (s:=⟨_,_⟩) 5003 [5003] [5004,5005] rfl (hs) rfl rfl (by kernel_rfl) (by first|rfl|simp) (by simp) (by refine⟨by simp,λhx e=>?_,by simp⟩;obtain⟨x1,y1,rfl⟩:=Is e;simp[cY,aV.cg,V.cg,V.on]) (cC (by simp)) (by simp) (by simp)) ?_;simp[-cB]
theorem Wh(wb:Nat)(s:an)(F:Int)(m:aj)(i:ae)(v e:Int)(he:e≠0)(aP:i.Op=7)(hv:xa m.Told.World m.Env i.Arg=(v,e))(hw:m.Told.World.wf)(hn:m.Told.World.ah.length<=32768):Cm wb s F m i e:=by
 refine⟨m,?_⟩;have hc:=iS e he;have hs:=S8 m.Told.World hw hn m.Env i.Arg;rw[hv]at hs;unfold bE at *;refine rX [] [5003,5004,5005] func83 ?_;simp[-cB,f83];intro bs cI;simp[-cB,aP];refine aw.cV [gW (v,e)] bc (by kernel_rfl) (by rfl) ?_;simp[-cB,hs.ok,gW];refine⟨hs.ok _,?_⟩;refine ar.ld [] rfl (hc) (by simp) rfl (by simp) (by kernel_rfl) (by first|rfl|simp) (by simp) (by simp) (by simp) ?_;simp
theorem ab7(wb:Nat)(s:an)(F:Int)(m:aj)(r:Int)(iE:32≤m.Frames.length):
  aE prog 74 [.bp 5003 0,iD r] (bE wb s F m) (λx L=>x= .iC (pc 17)/\L=bE wb s F m):=by
 unfold bE;refine rX [] [5003,5004,5005] func74 ?_;simp[-cB,f74];have ab3:(32:Int)<=m.Frames.length:=by omega
 simp[-cB,iE,ab3];refine ar.panic rfl rfl rfl ?_;simp[pc]
theorem ZH(wb:Nat)(s:an)(F:Int)(m:aj)(i:ae)(r:Int)(aP:i.Op=26)(hA:0<=i.Arg)(hf:s.Tables.cS[i.Arg.toNat]?=some r)(iE:32<=m.Frames.length):PV wb s F m i 17:=by
 refine⟨m,?_⟩;have hc:=ab7 wb s F m r iE;obtain⟨hf1,hf2⟩:=apQ.1 hf;unfold bE at *;refine rX [] [5003,5004,5005] func38 ?_;simp[-cB,f38];intro bs;simp[aP];refine aw.Fy 11 [] bc (by rfl) (by kernel_rfl) ?_;simp[-cB,hf1,hf2,vF];refine⟨hA,?_⟩;refine ar.ld [5003,5004,5005] rfl (hc) (by simp) rfl (by simp) (by kernel_rfl) (by first|rfl|simp) (by simp) (by simp) (by simp) ?_;simp
def Jf(t:aq)(x:Int):Bool:=decide (0<x)&&(decide (x<t.aB.length)&&(t.aB[x.toNat]?.getD aZ.zero).Room)
theorem lL(wb:Nat)(s:an)(F:Int)(m:aj)(x:Int):
  aE prog 252 [.bp 5003 0,iD x] (bE wb s F m) (λr L=>r= .ret (oD (Jf s.Tables x))/\L=bE wb s F m):=by
 unfold Jf bE;by_cases h1:0<x
 ·by_cases h2:x<s.Tables.aB.length
  ·have h3:x.toNat<s.Tables.aB.length:=by omega
   have h4:0<=x:=by omega
   refine rX [4] [5003,5004,5005] func252 ?_;simp[-cB,f252,h1,h2,h3,h4]
  ·refine rX [4] [5003,5004,5005] func252 ?_;simp[-cB,f252,h1,h2]
 ·refine rX [4] [5003,5004,5005] func252 ?_;simp[-cB,f252,h1]
set_option maxHeartbeats 200000
set_option maxRecDepth 512
section
variable {P : Program} {n : Nat} {ops : Array Oper} {s : St} {Q : AX -> St -> Prop}
theorem ar.A3{o:Oper}{rest:List Oper}(lD:gk ops s o=some (some true))(hu:nQ s o.op.operands.toList)(k:ar P n ops (⟨o.dst,o.op,o.type,o.pos,o.after,none⟩::rest) (sZ s o) Q):ar P n ops (o::rest) s Q:=by
 intro fo m0 w0 m a w st g;have hw:=nN g lD;have h:=k fo m0 w0 m a w st (g.sZ hu);unfold wpListIn at h⊢;rw[if_pos hw];rw[if_pos (by simp[Region.wanted])]at h;exact h
theorem ar.skip{o:Oper}{rest:List Oper}(lD:gk ops s o=some (some false))(hd:∀d,o.dst=some d->d<n)(k:ar P n ops rest (s.put o.dst (.gd false .any)) Q):ar P n ops (o::rest) s Q:=
 ar.guarded lD hd (λh=>by cases h) k
end
theorem Ch.last{nx:List Int}{n:Nat}{c:Int}{l:List Int}(h:Ch nx n c l):(match l.getLast? with|some y=>aL nx y|none=>c)=0:=by
 induction h with
 | nil=>rfl
 | @cons c l h t ih=>
   rw[ar5];cases hl:l.getLast? with
   | none=>
     rw[hl]at ih;simpa using ih
   | some y=>
     rw[hl]at ih;simpa using ih
theorem iJ.Wi{t:Tree}{ls:Int->List Int}(h:iJ t t.bz.length ls):po t=true:=by
 unfold po;have iX:=h.pos;simp only[apP,decide_eq_true_eq,apR,aqK];refine⟨⟨⟨⟨⟨⟨by omega,h.lc⟩,h.ln⟩,h.p0⟩,h.c0⟩,h.n0⟩,λk hk=>?_⟩;have hx:1<=(k:Int)+1/\(k:Int)+1<t.bz.length:=by omega
 generalize (k:Int)+1=x at hx;have AR:=h.up x hx.1 hx.2;have nT:=h.ch x hx.1 hx.2;have Ip:=h.kids hx;unfold sh;simp only[apP,arA,aq4,decide_eq_false_iff_not,ar6,aqX];have SO:aL t.bz x≠0->(1<=aL t.bz x/\aL t.bz x<t.bz.length)/\x∈ls (aL t.bz x):=λe=>AR.resolve_left λe2=>e e2.1
 refine⟨⟨⟨⟨?_,?_⟩,?_⟩,?_⟩,?_⟩
 ·by_cases e:aL t.bz x=0
  ·exact .inl e
  ·exact .inr (bG.2 (SO e).1)
 ·by_cases e:aL t.bz x=0
  ·right;rcases AR with h1|h1
   ·exact h1.2
   ·omega
  ·exact .inl e
 ·rw[BK,apP,apR,decide_eq_true_eq,Ip];refine⟨λy hy=>?_,nT.last⟩;unfold jx;simp only[apP,decide_eq_true_eq];refine⟨h.par x hx.1 hx.2 y hy,?_⟩;have h1:=arQ.1 nT.nodup y;have h2:=List.count_pos_iff.2 hy;omega
 ·by_cases e:aL t.bz x=0
  ·exact .inl e
  ·right;obtain⟨h1,h2⟩:=SO e;rw[h.kids h1];have h3:=arQ.1 (h.ch _ h1.1 h1.2).nodup x;have h4:=List.count_pos_iff.2 h2;omega
 ·by_cases e:cT t.bz.length (aL t.bz x)=true
  ·right;intro hm;have hu:=h.Yu (bG.1 e);have:=(Ch.cons hx hu).nodup;exact(aqZ.1 this).1 hm
  ·left;simpa using e
theorem dT{t:aq}{w:ai}:bS t w=true↔(w.aW.length=t.aW.length∧w.ah.length=t.aB.length∧w.Flags.length=t.aB.length∧w.aM.length=t.aB.length *t.aM.length∧w.bO.length=t.eu.length∧po w.tree=true)∧
  ((∀x∈w.aW,-32768<=x/\x<=32767)/\(∀x∈w.aM,-32768<=x/\x<=32767)/\(∀x∈w.Flags,0<=x/\x<=lr t.Flags-1)/\(∀x∈w.bO,0<=x/\x<=32767)/\(-32768<=w.Score/\w.Score<=32767)/\(0<=w.nG/\w.nG<=2147483647))/\
  ((0<=w.lq/\w.lq<=3)/\(0<=w.It/\w.It<=(t.aB.length:Int)-1)/\(0<=w.Go/\w.Go<=12)/\td t w=true):=by
 unfold bS;simp only[apP,decide_eq_true_eq,bJ,cx,apR,ib];constructor
 ·rintro⟨⟨⟨⟨⟨⟨⟨h1,h2⟩,h3⟩,h4⟩,h5⟩,h6⟩,⟨⟨⟨⟨⟨h7,h8⟩,h9⟩,dX⟩,fT⟩,uj⟩⟩,⟨⟨⟨jb,LY⟩,r6⟩,nB⟩⟩;exact⟨⟨h1,h2,h3,h4,h5,h6⟩,⟨h7,h8,h9,dX,fT,uj⟩,⟨jb,LY,r6,nB⟩⟩
 ·rintro⟨⟨h1,h2,h3,h4,h5,h6⟩,⟨h7,h8,h9,dX,fT,uj⟩,⟨jb,LY,r6,nB⟩⟩;exact⟨⟨⟨⟨⟨⟨⟨h1,h2⟩,h3⟩,h4⟩,h5⟩,h6⟩,⟨⟨⟨⟨⟨h7,h8⟩,h9⟩,dX⟩,fT⟩,uj⟩⟩,⟨⟨⟨jb,LY⟩,r6⟩,nB⟩⟩
theorem FB{p:Int->Prop}{l:List Int}{i:Nat}{v:Int}(h:∀x∈l,p x)(hv:p v):∀x∈l.set i v,p x:=by
 intro x hx;rcases ar1 hx with hx|hx
 ·exact h x hx
 ·rw[hx];exact hv
section
variable {t : aq} {w : ai}
theorem RI(h:bS t w=true)(v:Int)(hv: -32768<=v/\v<=32767):bS t {w with Score:=v}=true:=by
 obtain⟨a,⟨b1,b2,b3,b4,b5,b6⟩,c⟩:=dT.1 h;exact dT.2 ⟨a,⟨b1,b2,b3,b4,hv,b6⟩,c⟩
theorem Wj(h:bS t w=true)(v:Int):bS t {w with dN:=v}=true:=by
 obtain⟨a,b,c⟩:=dT.1 h;exact dT.2 ⟨a,b,c⟩
theorem Jg(h:bS t w=true)(v:Int)(hv:0<=v/\v<=3):bS t {w with lq:=v}=true:=by
 obtain⟨a,b,c1,c⟩:=dT.1 h;exact dT.2 ⟨a,b,hv,c⟩
theorem ab8(h:bS t w=true)(v:Int)(hv:0<=v/\v<=12):bS t {w with Go:=v}=true:=by
 obtain⟨a,b,c1,c2,c3,c4⟩:=dT.1 h;exact dT.2 ⟨a,b,c1,c2,hv,c4⟩
theorem MR(h:bS t w=true)(i:Nat)(v:Int)(hv: -32768<=v/\v<=32767):bS t {w with aW:=w.aW.set i v}=true:=by
 obtain⟨⟨a1,a⟩,⟨b1,b⟩,c⟩:=dT.1 h;exact dT.2 ⟨⟨by simpa using a1,a⟩,⟨FB b1 hv,b⟩,c⟩
theorem EF(h:bS t w=true)(i:Nat)(v:Int)(hv:0<=v/\v<=32767):bS t {w with bO:=w.bO.set i v}=true:=by
 obtain⟨⟨a1,a2,a3,a4,a5,a6⟩,⟨b1,b2,b3,b4,b⟩,c⟩:=dT.1 h;exact dT.2 ⟨⟨a1,a2,a3,a4,by simpa using a5,a6⟩,⟨b1,b2,b3,FB b4 hv,b⟩,c⟩
theorem RJ(h:bS t w=true)(i:Nat)(v:Int)(hv: -32768<=v/\v<=32767):bS t {w with aM:=w.aM.set i v}=true:=by
 obtain⟨⟨a1,a2,a3,a4,a⟩,⟨b1,b2,b⟩,c⟩:=dT.1 h;exact dT.2 ⟨⟨a1,a2,a3,by simpa using a4,a⟩,⟨b1,FB b2 hv,b⟩,c⟩
theorem RK(h:bS t w=true)(i:Nat)(v:Int)(hv:0<=v/\v<=lr t.Flags-1):bS t {w with Flags:=w.Flags.set i v}=true:=by
 obtain⟨⟨a1,a2,a3,a⟩,⟨b1,b2,b3,b⟩,c⟩:=dT.1 h;exact dT.2 ⟨⟨a1,a2,by simpa using a3,a⟩,⟨b1,b2,FB b3 hv,b⟩,c⟩
theorem ZI(h:bS t w=true)(x p n:Int):bS t (sI t w x p n).1=true:=by
 unfold sI;split
 ·split
  ·rename_i hi;unfold ib bJ at hi;simp only[apP,decide_eq_true_eq]at hi;exact RJ h _ _ hi
  ·exact h
 ·exact h
theorem ab9{l:List Int}{x:Int}(h:0<=x/\x<l.length):aC l x∈l:=by
 unfold aC;rw[anc (by omega)];exact ap1 _
theorem aca{n f k:Nat}(hf:f<k)(hv:n<2^k)(hb:n / 2^f % 2=0):n+2^f<2^k:=by
 obtain⟨d,rfl⟩:∃d,k=f+1+d:=⟨k-(f+1),by omega⟩
 have h2:2^(f+1+d)=2^f *(2 *2^d):=by rw[Nat.pow_add,Nat.pow_succ,Nat.mul_assoc]
 rw[h2]at hv⊢;have hpf:0<2^f:=Nat.pow_pos (by decide);have hq:n / 2^f<2 *2^d:=Nat.div_lt_of_lt_mul hv;have hm:=Nat.div_add_mod n (2^f);have hr:=Nat.mod_lt n hpf;generalize 2^f=P at *;generalize n / P=q at *;have h3:P *(q+1+1)<=P *(2 *2^d):=Nat.mul_le_mul_left _ (by omega);rw[Nat.mul_add,Nat.mul_add]at h3;omega
theorem acb{n f:Nat}(hb:n / 2^f % 2=1):2^f<=n:=by
 have hm:=Nat.div_mul_le_self n (2^f);have hq:1<=n / 2^f:=by revert hb;generalize n / 2^f=q;omega
 have h3:=aqb (2^f) hq;rw[ark]at h3;exact aqo h3 hm
theorem Jh(h:bS t w=true)(x f:Int)(on:Bool)(hf:0<=f/\f<t.Flags)(nB:t.Flags<=16):bS t (ig w x f on).1=true:=by
 unfold ig;split
 ·rename_i ha;simp only;split
  ·exact h
  ·rename_i bU;obtain⟨⟨a1,a2,a3,a⟩,⟨b1,b2,b3,b⟩,c⟩:=dT.1 h;have hx:cT w.ah.length x=true:=by
    unfold dO at ha;split at ha
    ·assumption
    ·omega
   have EG:=bG.1 hx;have hg:=b3 _ (ab9 (l:=w.Flags) (x:=x) (by omega));have XT:lr t.Flags=((2^t.Flags.toNat:Nat):Int):=by
    unfold lr;rw[arX (by omega)];simp
   refine RK h _ _ ?_;rw[XT]at hg⊢;obtain⟨n,hn⟩:∃n:Nat,aC w.Flags x=n:=⟨(aC w.Flags x).toNat,by omega⟩
   have hp:0<2^f.toNat:=Nat.pow_pos (by decide);have ay:n<2^t.Flags.toNat:=by
    have h1:=hg.2;rw[hn]at h1;generalize 2^t.Flags.toNat=K at *;omega
   have hdiv:((n:Int) / ((2^f.toNat:Nat):Int)) % 2=((n / 2^f.toNat % 2:Nat):Int):=by simp
   cases on with
   | true=>
     simp only[if_true];have rS:ff w x f.toNat=false:=by simpa using bU
     unfold ff at rS;rw[hx,ard,decide_eq_false_iff_not,hn,hdiv]at rS;have h1:=aca (f:=f.toNat) (k:=t.Flags.toNat) (by omega) ay (by omega);rw[hn];generalize 2^t.Flags.toNat=K at *;generalize 2^f.toNat=P at *;omega
   | false=>
     simp only[aqq,if_false];have rS:ff w x f.toNat=true:=by simpa using bU
     unfold ff at rS;rw[hx,ard,decide_eq_true_eq,hn,hdiv]at rS;have h1:=acb (n:=n) (f:=f.toNat) (by omega);rw[hn];generalize 2^t.Flags.toNat=K at *;generalize 2^f.toNat=P at *;omega
 ·exact h
def Wl(t:aq)(par:List Int):Prop:=∀k:Int,1<=k->k<t.aB.length->(bW t k).Room=true->aL par k=0
theorem Ai:td t w=true↔Wl t w.ah/\(bW t (gh w.tree 1)).Room=true:=by
 unfold td Wl;simp only[apP,apR,aqK,arA,aq4,decide_eq_false_iff_not,aqX];refine and_congr_left λ_=>⟨λh k h1 h2 h3=>?_,λh k hk=>?_⟩
 ·have:=h (k.toNat-1) (by omega);rw[show((k.toNat-1:Nat):Int)+1=k by omega]at this;rcases this with h4|h4
  ·rw[h3]at h4;cases h4
  ·exact h4
 ·cases hr:(bW t ((k:Int)+1)).Room with
  | false=>exact .inl rfl
  | true=>exact .inr (h _ (by omega) (by omega) hr)
theorem L7{x:Int}:gQ t x=true↔1<=x/\x<t.aB.length/\(bW t x).Room=true:=by
 unfold gQ;simp only[apP,decide_eq_true_eq,and_assoc]
theorem Ji{p:ai×Int}(h1:gQ t (gh p.1.tree 1)=true->p.2=0->bS t p.1=true)(h2:(tY t p).2=0):bS t (tY t p).1=true:=by
 unfold tY at h2⊢;split
 ·rename_i hc;rw[if_pos hc]at h2;simp at h2
 ·rename_i hc;rw[if_neg hc]at h2;refine h1 ?_ h2;cases hr:gQ t (gh p.1.tree 1)with
  | true=>rfl
  | false=>exact(hc ⟨h2,hr⟩).elim
theorem Jj(h:bS t w=true){w':ai}(e:w'={w with ah:=w'.ah,Child:=w'.Child,Next:=w'.Next})(hl:w'.ah.length=w.ah.length){ls:Int->List Int}(hn:iJ w'.tree w'.ah.length ls)(hp:Wl t w'.ah)(v7:gQ t (gh w'.tree 1)=true):bS t w'=true:=by
 obtain⟨⟨a1,a2,a3,a4,a5,a6⟩,b,⟨c1,c2,c3,c4⟩⟩:=dT.1 h;have hN:po w'.tree=true:=iJ.Wi hn;have hP:td t w'=true:=Ai.2 ⟨hp,(L7.1 v7).2.2⟩;rw[e]at hN hP⊢;exact dT.2 ⟨⟨a1,by rw[hl];exact a2,a3,a4,a5,hN⟩,b,⟨c1,c2,c3,hP⟩⟩
theorem L8(w:ai)(x:Int):dv w x={w with ah:=(dv w x).ah,Child:=(dv w x).Child,Next:=(dv w x).Next}:=rfl
theorem P2(w:ai)(x to:Int):ve w x to={w with ah:=(ve w x to).ah,Child:=(ve w x to).Child,Next:=(ve w x to).Next}:=rfl
theorem P3(h:bS t w=true)(aS:jM t w)(x:Int)(h2:(kI t w x).2=0):bS t (kI t w x).1=true:=by
 unfold kI at h2⊢;split
 ·rename_i hc;rw[if_pos hc]at h2;simp at h2
 ·rename_i hc;rw[if_neg hc]at h2;refine Ji (λv7 he=>?_) h2;unfold kH at he v7⊢;split
  ·rename_i hx;rw[if_pos hx]at v7;have EG:=bG.1 hx;have hlen:(dv w x).ah.length=w.ah.length:=uT w x;have hn:iJ (dv w x).tree (dv w x).ah.length (λu=>if u=aL w.tree.bz x then(cz w.tree u).erase x else cz w.tree u):=by
    rw[vd,hlen];exact aS.nest.leave EG
   refine Jj h (L8 w x) hlen hn (λk k1 k2 k3=>?_) v7;show aL (w.ah.set x.toNat 0) k=0;rw[mI (by omega)];split
   ·rfl
   ·exact(Ai.1 aS.pl).1 k k1 k2 k3
  ·exact h
theorem Wm(h:bS t w=true)(aS:jM t w)(x to:Int)(h2:(oN t w x to).2=0):bS t (oN t w x to).1=true:=by
 unfold oN at h2⊢;split
 ·rename_i hc;rw[if_pos hc]at h2;simp at h2
 ·rename_i hc;rw[if_neg hc]at h2;refine Ji (λv7 he=>?_) h2;unfold pW at he v7⊢;split
  ·rename_i hx;rw[if_pos hx]at v7 he;rw[apP]at hx;have EG:=bG.1 hx.1;have Zx:=bG.1 hx.2;split
   ·exact h
   ·rename_i hm;rw[if_neg hm]at v7;have hlen:(ve w x to).ah.length=w.ah.length:=by
     show((dv w x).ah.set x.toNat to).length=_;rw[arx];exact uT w x
    have hn:=aS.nest.move EG Zx hm;rw[<-vd,<-IV,<-hlen]at hn;refine Jj h (P2 w x to) hlen hn (λk k1 k2 k3=>?_) v7;show aL (((w.ah.set x.toNat 0)).set x.toNat to) k=0;have hT:=aS.hT;by_cases Ip:k=x
    ·subst Ip;exact(hc (L7.2 ⟨k1,k2,k3⟩)).elim
    ·rw[mI (by rw[arx];omega),if_neg Ip,mI (by omega),if_neg Ip];exact(Ai.1 aS.pl).1 k k1 k2 k3
  ·exact h
end
end Go.Ab

/-
  The texts Vstory Vok Vlocs Lvm Vdec Vdec2 Vdec3 Xnew Vtale Vawk Vawk2 Gbulk Vlaw1 Lvm2 Vjoin Vjoin2 Vr7 Vtl4 Vjoin3 Vjoin4 Vsteps Vsteps2 Vlaw2 Vsteps3 Lkeep Vkeeps Rsteps Rrun Rtrace Rseq Lty Lty4 Lty5 Lty6 Lty7 Lty8 Lty9 Lty10 Lpeepp Lty2 Lty3 Lty11 Lty12 Lco, one behind the other.
-/
import Derived.Test.YtmhnopomnpgcjaaGreatDoorMg8
set_option linter.unusedSimpArgs false
set_option linter.unusedVariables false
namespace Go.Ab
theorem adw(b:br):∀(n i:Nat),i<n->(stM b n).1[i]?=some ((stM b i).2.length:Int)/\∃post,(stM b n).2=(stM b i).2++((ly b i).1++post)
 | 0,i,h=>by omega
 | n+1,i,h=>by
   have hl:∀k,(stM b k).1.length=k:=by
    intro k
    induction k with
    | zero=>rfl
    | succ k ih=>rw[stM];simp[ih]
   rw[stM];by_cases e:i=n
   ·subst e;refine⟨?_,[],by simp⟩;simp only;rw[aqE (by rw[hl];exact apU _),hl];simp
   ·obtain⟨h1,post,h2⟩:=adw b n i (by omega);refine⟨?_,post++(ly b n).1,?_⟩
    ·simp only;rw[aqx (by rw[hl];omega)];exact h1
    ·simp only;rw[h2];simp
theorem Gx{b:br}:∀(n i:Nat),qI b n i=0->∀k:Nat,i<=k->k<i+n->(ly b k).2=0
 | 0,i,_,k,h1,h2=>by omega
 | n+1,i,h,k,h1,h2=>by
   rw[qI]at h;split at h
   ·rename_i h0;by_cases e:k=i
    ·rw[e];exact h0
    ·exact Gx n (i+1) h k (by omega) (by omega)
   ·rename_i h0;exact absurd h h0
theorem qR{b:br}{s:an}(h:cZ b=(s,0)):dS b=true/\s.Tables=b.Tables/\s.Entry.length=b.aF.length/\s.Code.length<=65536/\Laid s (λf=>dK (bT b f)):=by
 unfold cZ at h;split at h
 ·simp at h
 ·rename_i hr;split at h
  ·rename_i he;simp only[apM]at h;exact absurd h.2 he
  ·rename_i he;split at h
   ·simp at h
   ·rename_i hL;simp only[apM,and_true]at h;subst h;have hl:∀k,(stM b k).1.length=k:=by
     intro k
     induction k with
     | zero=>rfl
     | succ k ih=>rw[stM];simp[ih]
    refine⟨by simpa using hr,rfl,hl _,by simp only;omega,λf hf=>?_⟩;have ia:0<=f/\f<b.aF.length:=by
     by_cases cO:eJ b.aF f
     ·exact cO
     ·exact absurd (by show dK (bT b f)=[];unfold bT;rw[if_neg cO];rfl) hf
    obtain⟨k,rfl⟩:∃k:Nat,f=k:=⟨f.toNat,by omega⟩
    have hk:k<b.aF.length:=by omega
    have h0:=Gx _ _ (by simpa using he) k (by omega) (by omega);have vr:ly b k=pI (dK (bT b k)):=by unfold ly;rw[if_neg (by omega)]
    rw[vr]at h0;obtain⟨z,h1,h2,h3,h4⟩:=Ph (l:=dK (bT b k)) (c:=(pI (dK (bT b k))).1) (by rw[<-h0]);obtain⟨e1,post,e2⟩:=adw b b.aF.length k hk;rw[vr,h3]at e2;refine⟨⟨by omega,by show(k:Int)<((stM b b.aF.length).1.length:Int);rw[hl];omega⟩,z,(stM b k).2,h1,h2,⟨post,e2⟩,?_⟩;unfold aC;simp only[asd];rw[e1];rfl
end Go.Ab
namespace Go.Ab
theorem vu{b:br}(h:dS b=true):gK b:=by
 unfold dS at h;simp only[apP,decide_eq_true_eq,apR]at h;obtain⟨⟨h1,h2⟩,h3⟩:=h;refine⟨h1,h2,λr hr=>?_⟩;obtain⟨k,rfl⟩:∃k:Nat,r=k:=⟨r.toNat,by have:=hr.1;omega⟩
 have hk:k<b.aF.length:=by have:=hr.2;omega
 have hg:=h3 k (by simpa using hk);unfold u2 at hg;simp only[apP]at hg;have:=hg.1.1.2;unfold aC;simp only[asd];exact this
theorem Cv(a:List Int)(n:Nat)(h:a.length<=n):uk a n=a.map ax++List.replicate (n-a.length) 0:=by
 refine List.ext_getElem? λi=>?_
 show((List.range n).map λi=>if i<a.length then ax (a[i]?.getD 0)else 0)[i]?=_;rw[apS];by_cases hi:i<n
 ·rw[ars hi];by_cases hA:i<a.length
  ·rw[aqx (by simpa using hA),apS,anc hA];simp[hA]
  ·rw[aqE (by simpa using hA),aqg,List.getElem?_replicate];simp[hA];omega
 ·rw[aqL (by simp;omega),aqL (by simp;omega)];rfl
def adx(s:an)(b:br)(w:ai)(r:Int)(a:List Int)(env:cH):aj:=gM env [] r (aC s.Entry r) [] (a.map ax++List.replicate ((aC b.Tables.aJ r).toNat-a.length) 0) [] ⟨w,⟨#[]⟩,0⟩
def ady(env:cH)(m':aj)(σ':XS):OC->Prop
 | .bL v=>m'=⟨[],[],env,⟨0,σ'.W,σ'.Out,v,false,σ'.Fuel⟩,true⟩
 | .bm e=>m'.bX=true/\m'.Env=env/\∃W,m'.Told=⟨e,W,σ'.Out,0,false,σ'.Fuel⟩
 | .over=>m'.bX=true/\m'.Env=env/\m'.Told=⟨0,σ'.W,σ'.Out,0,true,σ'.Fuel⟩
 | .ret _=>False
theorem Qm{b:br}{s:an}(hs:cZ b=(s,0)){env:cH}{M:Int}{w:ai}{r:Int}{a:List Int}{g:Nat}{σ':XS}{o:OC}(hc:jo ⟨b,env,M⟩ g ⟨w,⟨#[]⟩,false,0,0,[]⟩ r a=some (σ',o))(hr:eJ b.aF r):
  ∃n m',iterM (aX ⟨b,env,M⟩) s n (adx s b w r a env)=some m'/\ady env m' σ' o/\∀e,o= .bm e->e≠0:=by
 obtain⟨qj,hT,hE,hC,wP⟩:=qR hs;have hB:=vu qj;obtain⟨y,hy,g1,k1,h1⟩:=ae1 (c:=⟨b,env,M⟩) hB hc rfl;have bU:bT b r≠ []:=by unfold bT;rw[if_pos hr];simp
 obtain⟨g2,k2,-,h2⟩:=abI (Ze ⟨b,env,M⟩) (bT b) (zR b) b.aF.length (λf hf=>by
  by_cases cO:eJ b.aF f
  ·exact cO
  ·exact absurd (by unfold bT;rw[if_neg cO]) hf) r 1 [] _ _ g1 y k1 h1
 have akt:dK (bT b r)≠ []:=by
  intro e;obtain⟨g',Yk⟩:=nZ h2;simp only at h2;rw[e,Yk,run]at h2;cases h2
 obtain⟨cO,z,pre,hz,dx⟩:=wP r akt;simp only at hz;have rQ:run (aX ⟨b,env,M⟩) (λf=>dK (bT b f)) g2 1 (z.map Prod.fst) (z.map Prod.fst) [] ((aX ⟨b,env,M⟩).lo r a) ⟨w,⟨#[]⟩,0⟩=some (y,k2):=by
  rw[hz];exact h2
 obtain⟨m',h3,h4⟩:=YE wP env g2 1 [] _ _ y k2 r z [] z pre [] [] rQ dx rfl rfl;rw[show(pre.length:Int)+aU []=aC s.Entry r by rw[dx.2.2];simp[aU]]at h3;refine⟨k2,m',h3,?_⟩;cases o with
 | bL v=>simp only[Qh,akC]at hy;subst hy;simp only[Ef,if_true]at h4;exact⟨h4,λe h=>by cases h⟩
 | bm e=>simp only[Qh,akC]at hy;subst hy;exact⟨h4,λe h=>by cases h;exact FE _ _ _ _ _ _ _ _ _ _ h2⟩
 | over=>simp only[Qh,akC]at hy;subst hy;exact⟨h4,λe h=>by cases h⟩
 | ret n=>simp[Qh]at hy
theorem Ju{K:eA}{s:an}{m:aj}(h:m.bX=true):∀n,iterM K s n m=some m
 | 0=>rfl
 | n+1=>by rw[iterM,db,if_pos h];exact Ju h n
theorem WQ{K:eA}{s:an}{m m':aj}{n:Nat}(h:iterM K s n m=some m')(hd:m'.bX=true)(i:Nat):∃mi,iterM K s i m=some mi:=by
 rcases Nat.le_total i n with hle|bR
 ·have:=tj K s i (n-i) m;rw[show i+(n-i)=n by omega,h]at this;cases hi:iterM K s i m with
  | none=>rw[hi]at this;cases this
  | some mi=>exact⟨mi,rfl⟩
 ·refine⟨m',?_⟩;rw[show i=n+(i-n) by omega,tj,h];exact Ju hd _
def wi(c:XC)(S L:List Int)(σ:MS):Ev->Prop
 | .ok S' L' σ'=>(σ.Fuel<=σ'.Fuel/\σ'.Fuel<=σ.Fuel+1/\σ'.Fuel<=max σ.Fuel c.M)/\σ.Out.size<=σ'.Out.size/\(WL S->WL S')/\S'.length<=S.length+1/\L'.length=L.length
 | .over σ'=>σ'.Fuel=σ.Fuel/\σ'.Out=σ.Out
 | .bm _=>True
theorem WL.cons{v:Int}{l:List Int}(h:ax v=v)(hl:WL l):WL (v::l):=by
 intro n hn;rcases ap8.1 hn with rfl|hn
 ·exact h
 ·exact hl n hn
theorem WL.tail{v:Int}{l:List Int}(h:WL (v::l)):WL l:=λn hn=>h n (by simp[hn])
theorem wi.mk{c:XC}{S S' L L':List Int}{σ:MS}(h1:WL S->WL S')(h2:S'.length<=S.length+1)(h3:L'.length=L.length){w:ai}:wi c S L σ (.ok S' L' {σ with W:=w}):=⟨⟨aql _,by show σ.Fuel<=σ.Fuel+1;omega,by show σ.Fuel<=_;omega⟩,apU _,h1,h2,h3⟩
theorem EO{c:XC}{v:Bool}{S S0 L:List Int}{σ:MS}{p:Option (ai×OC)}{e:Ev}(h:jS v S0 L σ p=some e)(h1:WL S->WL S0)(h2:S0.length<=S.length):wi c S L σ e:=by
 unfold jS at h;split at h
 ·rename_i w n;cases h;refine wi.mk (λhs=>?_) ?_ rfl
  ·split
   ·exact(h1 hs).cons (wrap_wrap n)
   ·exact h1 hs
  ·split
   ·simp only[apY];omega
   ·omega
 ·cases h;trivial
 ·cases h;exact⟨rfl,rfl⟩
 ·cases h
theorem EP{c:XC}{S S0 L:List Int}{σ:MS}{t:ByteArray}{e:Ev}(h:uB S0 L σ t=some e)(h1:WL S->WL S0)(h2:S0.length<=S.length):wi c S L σ e:=by
 unfold uB at h;split at h
 ·cases h;refine⟨⟨aql _,by show σ.Fuel<=σ.Fuel+1;omega,by show σ.Fuel<=_;omega⟩,?_,h1,by omega,rfl⟩;show σ.Out.size<=(σ.Out++t).size;rw[aqi];omega
 ·cases h
theorem agQ{c:XC}{S S0 L:List Int}{σ:MS}{p:Int×Int}(h1:WL S->WL S0)(h2:S0.length<=S.length):wi c S L σ (A1 S0 L σ p):=by
 unfold A1;split
 ·exact wi.mk (w:=σ.W) (λhs=>(h1 hs).cons (wrap_wrap _)) (by simp only[apY];omega) rfl
 ·trivial
theorem instJ_ok{c:XC}{i:ae}{S L:List Int}{σ:MS}{e:Ev}(h:instJ c i S L σ=some e):wi c S L σ e:=by
 have Qn:∀{S' L':List Int},some (Ev.ok S' L' σ)=some e->(WL S->WL S')->S'.length<=S.length+1->L'.length=L.length->wi c S L σ e:=by
  intro S' L' he h1 h2 h3;simp only[akC]at he;rw[<-he];exact wi.mk (w:=σ.W) h1 h2 h3
 unfold instJ at h;by_cases h1:i.Op=1
 ·rw[if_pos h1]at h;exact Qn h (λhs=>hs.cons (wrap_wrap _)) (by simp) rfl
 rw[if_neg h1]at h;by_cases rA:i.Op=37
 ·rw[if_pos rA]at h;split at h
  ·split at h
   ·cases h;trivial
   ·cases h;exact⟨⟨by show σ.Fuel<=σ.Fuel+1;omega,aql _,by show σ.Fuel+1<=_;omega⟩,apU _,id,Nat.le_succ _,rfl⟩
  ·cases h
 rw[if_neg rA]at h;by_cases h5:i.Op=5
 ·rw[if_pos h5]at h;split at h
  ·exact Qn h (λhs=>hs.cons (wrap_wrap _)) (by simp) rfl
  ·cases h
 rw[if_neg h5]at h;by_cases A5:i.Op=21
 ·rw[if_pos A5]at h;exact EP h id (apU _)
 rw[if_neg A5]at h;by_cases Gy:i.Op=35
 ·rw[if_pos Gy]at h;split at h
  ·exact EP h id (apU _)
  ·cases h
 rw[if_neg Gy]at h;by_cases h0:dr i.Op=0
 ·rw[if_pos h0]at h;split at h
  ·exact EO h id (apU _)
  ·split at h
   ·exact EO h id (apU _)
   ·cases h
 rw[if_neg h0]at h;cases S with
 | nil=>cases h
 | cons v S=>
   simp only at h;have ht:WL (v::S)->WL S:=WL.tail;have hl:S.length<=(v::S).length:=by simp
   by_cases h2:i.Op=2
   ·rw[if_pos h2]at h;exact Qn h ht (by simp only[apY];omega) rfl
   rw[if_neg h2]at h;by_cases h6:i.Op=6
   ·rw[if_pos h6]at h;split at h
    ·exact Qn h ht (by simp only[apY];omega) (by simp)
    ·cases h
   rw[if_neg h6]at h;by_cases h9:i.Op=9
   ·rw[if_pos h9]at h;exact Qn h (λhs=>(ht hs).cons (wrap_wrap _)) (by simp) rfl
   rw[if_neg h9]at h;by_cases dX:i.Op=10
   ·rw[if_pos dX]at h;exact Qn h (λhs=>(ht hs).cons (by unfold notM;first|exact qK _|(split<;>decide))) (by simp) rfl
   rw[if_neg dX]at h;by_cases fT:i.Op=11
   ·rw[if_pos fT]at h;exact Qn h (λhs=>(ht hs).cons (qK _)) (by simp) rfl
   rw[if_neg fT]at h;by_cases CU:i.Op=22
   ·rw[if_pos CU]at h;exact EP h ht hl
   rw[if_neg CU]at h;by_cases zL:i.Op=23
   ·rw[if_pos zL]at h;exact EP h ht hl
   rw[if_neg zL]at h;by_cases Gz:i.Op=36
   ·rw[if_pos Gz]at h;split at h
    ·exact EP h ht hl
    ·cases h
   rw[if_neg Gz]at h;by_cases h8:i.Op=8
   ·rw[if_pos h8]at h;cases S with
    | nil=>cases h
    | cons u S=>
      simp only at h;split at h
      ·cases h
      ·simp only[akC]at h;rw[<-h];exact agQ (λhs=>hs.tail.tail) (by simp only[apY];omega)
   rw[if_neg h8]at h;by_cases Qo:dr i.Op=2
   ·rw[if_pos Qo]at h;cases S with
    | nil=>cases h
    | cons u S=>
      simp only at h;split at h
      ·exact EO h (λhs=>hs.tail.tail) (by simp only[apY];omega)
      ·cases h
   rw[if_neg Qo]at h;split at h
   ·exact EO h ht hl
   ·split at h
    ·exact EO h ht hl
    ·cases h
set_option maxHeartbeats 4000000
set_option maxRecDepth 8000
open Go.Proofs Go.Proofs.Tryz
theorem Qp{b:List Int}{k:Nat}{y:Int}(h:b[k]?=some y)(hl:k<(iL b).length):(iL b)[k]'hl=[.v (.int .u8 y)]:=by
 have:(iL b)[k]?=some [.v (.int .u8 y)]:=by unfold iL;rw[apS,h];rfl
 rw[anc hl]at this;exact apO this
abbrev KJ(x:ae×Int×Int):V:= .bM [.agg (x.1.enc.map .d),iD x.2.1,iD x.2.2]
def Mx(n:Int):List Int->Nat->Int
 | [],_=> -1
 | x::l,i=>if n=x then(i:Int)else Mx n l (i+1)
theorem TN(n:Int):∀(l:List Int) (i:Nat),decide (0<=Mx n l i)=l.contains n
 | [],i=>by simp[Mx]
 | x::l,i=>by
   rw[Mx,List.contains_cons];by_cases h:n=x
   ·subst h;simp
   ·rw[if_neg h,TN n l];simp[h]
theorem aaa(l:List Int)(n:Int)(hl:l.length<=1000000):Pure prog 239 [.d (.sl (aD l)),iD n] (iD (Mx n l 0)):=by
 refine rn func239 ?_;simp[-cB,f239];refine aw.cX [0,1,7,8] l.length (λi=> [(8,iD i)]) (λ_=> []) (λi=>Mx n (l.drop i) i=Mx n l 0) (by rfl) (by simp[aD]) ?_;intro i hi hH;rcases apW hi with ay|heq
 ·have hx:l[i]?=some l[i]:=anc ay;have da:aN .i64 ((i:Int)+1):=iW;rw[arD ay,Mx]at hH;by_cases hp:n=l[i]
  ·rw[if_pos hp]at hH;simp[ay,<-hp];exact hH
  ·rw[if_neg hp]at hH;simp[ay,hp,da];exact hH
 ·have:l.drop i=[]:=by rw[heq];simp
  rw[this]at hH;simp[heq];exact hH
theorem Qq(l:List Int)(n:Int)(hl:l.length<=1000000):Pure prog 194 [.d (.sl (aD l)),iD n] (oD (l.contains n)):=by
 have h:=aaa l n hl;rw[<-TN n l 0];refine rn func194 ?_;simp[-cB,f194];refine pC h ?_;simp
theorem acD(l:List Int)(n:Int)(hl:l.length<=1000000):Pure prog 127 [iD n,.d (.sl (aD l))] (oD (l.contains n)):=by
 have h:=Qq l n hl;refine rn func127 ?_;simp[-cB,f127];refine pC h ?_;simp
theorem acE(n:Int):Pure prog 71 [iD n] (oD (pH n)):=by
 have h:=acD [1,3,4,5,6,7,8,12,13,14,15,16,19,21,24,25,26,32,33,38] n (by simp);unfold pH;refine rn func71 ?_;simp[-cB,f71];refine ar.weaken (Wk.freeze 4 (ys:=aD [1,3,4,5,6,7,8,12,13,14,15,16,19,21,24,25,26,32,33,38]) rfl) ?_;simp[-cB];refine pC h ?_;simp
theorem aab(n:Int):Pure prog 72 [iD n] (iD (eK n)):=by
 unfold eK;by_cases h0:n=0
 ·subst h0;refine rn func72 ?_;simp[-cB,f72]
 ·by_cases h1: -128<=n/\n<=127
  ·refine rn func72 ?_;simp[-cB,f72]
   repeat' (first
    | (with_reducible refine And.intro ?_ ?_)
    | (refine aA (λh=>?_) (λh=>?_)<;>(try simp at h)<;>(try simp[-cB, *]))
    | (with_reducible intro _))
   all_goals (try omega)
  ·refine rn func72 ?_;simp[-cB,f72]
   repeat' (first
    | (with_reducible refine And.intro ?_ ?_)
    | (refine aA (λh=>?_) (λh=>?_)<;>(try simp at h)<;>(try simp[-cB, *]))
    | (with_reducible intro _))
   all_goals (try omega)
theorem WR(n:Int):Pure prog 70 [iD n] (oD (decide (1<=n)&&decide (n<=38))):=by
 refine rn func70 ?_;simp[f70]
theorem WS(n a b:Int):Pure prog 69 [iD n,iD a,iD b] (oD (decide (a<=n)&&decide (n<b))):=by
 refine rn func69 ?_;simp[f69]
theorem agR(s z:Int)(hs: -128<=s/\s<=127)(hz:0<=z/\z<=255):IntKind.wrap .i64 (((IntKind.wrap .i64 (s *2^min 8 IntKind.i64.bits) % 2^IntKind.i64.bits).toNat ||| (z % 2^IntKind.i64.bits).toNat:Nat):Int)=256 *s+z:=by
 have h0:IntKind.wrap .i64 (s *2^min 8 IntKind.i64.bits)=256 *s:=by
  rw[show min 8 IntKind.i64.bits=8 from rfl,show((2:Int)^8)=256 from rfl,Int.mul_comm];exact nk iW
 have h1:(256 *s % 2^IntKind.i64.bits).toNat=256 *((s % 72057594037927936).toNat):=by
  rw[show IntKind.i64.bits=64 from rfl];omega
 have h2:(z % 2^IntKind.i64.bits).toNat=z.toNat:=by rw[show IntKind.i64.bits=64 from rfl];omega
 rw[h0,h1,h2];have h3:256 *((s % 72057594037927936).toNat) ||| z.toNat=256 *((s % 72057594037927936).toNat)+z.toNat:=by
  have:=Nat.two_pow_add_eq_or_of_lt (i:=8) (b:=z.toNat) (by omega) ((s % 72057594037927936).toNat);exact this.symm
 rw[h3];have h4:IntKind.wrap .i64 ((256 *((s % 72057594037927936).toNat)+z.toNat:Nat):Int)=IntKind.wrap .i64 (256 *s+z):=by
  have e:((256 *((s % 72057594037927936).toNat)+z.toNat:Nat):Int) % 2^IntKind.i64.bits=(256 *s+z) % 2^IntKind.i64.bits:=by
   rw[show IntKind.i64.bits=64 from rfl];omega
  unfold IntKind.wrap;rw[e]
 rw[h4];exact nk iW
theorem agS(y:Int)(h:0<=y/\y<=255):IntKind.wrap .i8 y=if 128<=y then y-256 else y:=by
 simp[IntKind.wrap,IntKind.bits,IntKind.signed];split<;>split<;>omega
def qN(y:Int):Int:=if 128<=y then y-256 else y
def sP(l:List Int):Nat->Int
 | 0=>0
 | 1=>qN (l[0]?.getD 0)
 | _=>256 *qN (l[0]?.getD 0)+l[1]?.getD 0
theorem KL{y:Int}(h:0<=y/\y<=255): -128<=qN y/\qN y<=127:=by unfold qN;split<;>omega
theorem acF(y z:Int)(h:0<=y/\y<=255)(hz:0<=z/\z<=255):ax (256 *y+z)=256 *qN y+z:=by
 unfold ax qN;simp[IntKind.wrap,IntKind.bits,IntKind.signed];split<;>split<;>omega
set_option maxRecDepth 30000
theorem Ak(b:List Int)(i:Int)(hb:∀y∈b,0<=y/\y<=255)(hl:b.length<=100000000000000):Pure prog 35 [.d (.sl (iL b)),iD i] (KJ (mA b i)):=by
 have hA:=WS i 0 b.length;by_cases h0:i<0\/(b.length:Int)<=i
 ·have hv:mA b i=(⟨0,0⟩,0,2):=by unfold mA;rw[if_pos h0]
  rw[hv];have hf:(decide (0<=i)&&decide (i<(b.length:Int)))=false:=by
   rw[aq4];simp;omega
  rw[hf]at hA;refine rn func35 ?_;simp[-cB,f35];intro bs;refine pC hA ?_;simp[-cB];rfl
 have hf:(decide (0<=i)&&decide (i<(b.length:Int)))=true:=by simp;omega
 rw[hf]at hA;obtain⟨k,rfl⟩:∃k:Nat,i=k:=⟨i.toNat,by omega⟩
 have hk:k<b.length:=by omega
 have hx:=anc hk;have EG:=hb _ (ap1 hk);have hg:aC b k=b[k]:=by unfold aC;simp[hx]
 unfold mA;rw[if_neg h0,hg];generalize b[k]=x at *;have hq:x.tdiv 4=x / 4:=arU EG.1;have hr:x.tmod 4=x % 4:=aqT EG.1;have rD:∀R:ae×Int×Int,R=(if x / 4<1\/38<=x / 4\/x % 4=3\/(0<x % 4/\pH (x / 4)=false)then(⟨0,0⟩,0,16)
  else if(b.length:Int)-k-1<x % 4 then(⟨0,0⟩,0,2)
  else if x % 4≠(eK (uW b (k+1) (x % 4)):Int)/\x / 4≠24/\x / 4≠25 then(⟨0,0⟩,0,4)
  else(⟨x / 4,uW b (k+1) (x % 4)⟩,k+1+x % 4,0))->Pure prog 35 [.d (.sl (iL b)),iD k] (KJ R):=by
  intro R hR;have hh:=acE (x / 4);have hK:=WR (x / 4);have yb:=Qp hx (by simpa using hk);have hx4:aN .i64 (x / 4):=iW;have hx5:aN .i64 x:=iW;have hwx:IntKind.wrap .i64 x=x:=nk hx5;have hw4:IntKind.wrap .i64 (x / 4)=x / 4:=nk hx4;have tF:aN .i64 ((k:Int)+1+1):=iW;have K7:aN .i64 ((k:Int)+2):=iW;have YJ:aN .i64 ((k:Int)+1+2):=iW;have agT:aN .i64 ((b.length:Int)-k):=iW;have agU:aN .i64 ((b.length:Int)-k-1):=iW;have nu:aN .i64 ((k:Int)+1):=iW;refine rn func35 ?_;simp[-cB,f35];intro bs;refine pC hA ?_;simp[-cB];refine aw.cV [] bc (by kernel_rfl) (by rfl) ?_;generalize hQ:x / 4=q at *;generalize hRm:x % 4=r at *;simp[-cB,hk,hq,hr,yb,hx5,hwx,hw4];by_cases h1:q<1\/38<q
  ·have hKf:(decide (1<=q)&&decide (q<=38))=false:=by
    rw[aq4];simp;omega
   rw[hKf]at hK;have e:R=(⟨0,0⟩,0,16):=by rw[hR,if_pos (by omega)]
   rw[e];refine pC hK ?_;simp[-cB];refine pN (oD true) ?_;simp[-cB];rfl
  have hKt:(decide (1<=q)&&decide (q<=38))=true:=by simp;omega
  rw[hKt]at hK;refine pC hK ?_;by_cases h2:q=38
  ·have e:R=(⟨0,0⟩,0,16):=by rw[hR,if_pos (by omega)]
   rw[e];simp[-cB,h2];refine pN (oD true) ?_;simp[-cB];rfl
  by_cases h3:r=3
  ·have e:R=(⟨0,0⟩,0,16):=by rw[hR,if_pos (by omega)]
   rw[e];simp[-cB,h2,h3];refine pN (oD true) ?_;simp[-cB];rfl
  have jy:¬q<1:=by omega
  have rQ:¬38<=q:=by omega
  have hrr:0<=r/\r<=2:=by omega
  have hcf:(decide (0<r)&&!pH q)=decide (0<r/\pH q=false):=by rw[arv];simp
  by_cases h4:0<r/\pH q=false
  ·have e:R=(⟨0,0⟩,0,16):=by rw[hR,if_pos (.inr (.inr (.inr h4)))]
   rw[decide_eq_true h4]at hcf;rw[e];simp[-cB,h2,h3];refine pG hh ?_;simp[-cB,hcf];rfl
  rw[decide_eq_false h4]at hcf;rw[if_neg (by rintro(h|h|h|h)<;>contradiction)]at hR;simp[-cB,h2,h3];refine pG hh ?_;simp[-cB,hcf];by_cases h6:(b.length:Int)-k-1<r
  ·have e:R=(⟨0,0⟩,0,2):=by rw[hR,if_pos h6]
   rw[e];simp[-cB,agT,agU,h6];rfl
  rw[if_neg h6]at hR;simp[-cB,agT,agU,h6];obtain⟨ρ,rfl⟩:∃ρ:Nat,r=ρ:=⟨r.toNat,by omega⟩
  have hkr:k+1+ρ<=b.length:=by omega
  have SF:((k:Int)+1+ρ).toNat=k+1+ρ:=by omega
  have N9:((b.take (k+1+ρ)).drop (k+1)).length=ρ:=by simp;omega
  have hdg:∀j,j<ρ->((b.take (k+1+ρ)).drop (k+1))[j]?=b[k+1+j]?:=by
   intro j hj;rw[aqO,ar2,if_pos (by omega)]
  have hde:List.drop (k+1) (List.take (k+1+ρ) (iL b))=iL ((b.take (k+1+ρ)).drop (k+1)):=by simp[iL,List.map_drop,List.map_take]
  have hmn:min (k+1+ρ) b.length-(k+1)=ρ:=by omega
  have hdb:∀y∈(b.take (k+1+ρ)).drop (k+1),0<=y/\y<=255:=λy hy=>hb y (aqQ (List.mem_of_mem_drop hy))
  have Gi:uW b ((k:Int)+1) ρ=sP ((b.take (k+1+ρ)).drop (k+1)) ρ:=by
   have SJ:ρ=0\/ρ=1\/ρ=2:=by omega
   rcases SJ with rfl|rfl|rfl
   ·simp[uW,sP]
   ·obtain⟨y,hy⟩:∃y,b[k+1]?=some y:=⟨_,anc (by omega)⟩
    have e1:aC b ((k:Int)+1)=y:=by unfold aC;rw[show((k:Int)+1).toNat=k+1 by omega,hy];rfl
    have e2:=hdg 0 (by omega);rw[aqS,hy]at e2;simp only[uW,sP,e1,e2,qN];rfl
   ·obtain⟨y,hy⟩:∃y,b[k+1]?=some y:=⟨_,anc (by omega)⟩
    obtain⟨z,hz⟩:∃z,b[k+2]?=some z:=⟨_,anc (by omega)⟩
    have e1:aC b ((k:Int)+1)=y:=by unfold aC;rw[show((k:Int)+1).toNat=k+1 by omega,hy];rfl
    have e3:aC b ((k:Int)+1+1)=z:=by unfold aC;rw[show((k:Int)+1+1).toNat=k+2 by omega,hz];rfl
    have e2:=hdg 0 (by omega);rw[aqS,hy]at e2;have e4:=hdg 1 (by omega);rw[hz]at e4;have:=acF y z (hb y (apT hy)) (hb z (apT hz));simp only[uW,sP,e1,e2,e3,e4];rw[if_neg (by omega),if_pos (by omega),this];rfl
  rw[Gi]at hR;refine⟨nu,iW,⟨⟨⟨by omega,by omega⟩,by omega,by omega⟩,Ci b⟩,?_⟩;rw[SF,hde,hmn];generalize (b.take (k+1+ρ)).drop (k+1)=ds at *;refine aw.cX [1,4,7,8,9,68,69,70] ρ (λi=> [(9,iD (sP ds i)),(70,iD i)]) (λ_=> []) (λ_=>True) (by rfl) (by simp[sP]) ?_;intro j hj _;rcases apW hj with ay|heq
  ·have hjd:j<ds.length:=by omega
   have cy:ds[j]?=some ds[j]:=anc hjd;have AN:=hdb _ (ap1 hjd);have hye:=Qp cy (by simpa using hjd);generalize ds[j]=y at *;have hyw:IntKind.wrap .i64 y=y:=nk iW;have hs8:=agS y AN;have hsb:=KL AN;have hsw:IntKind.wrap .i64 (qN y)=qN y:=nk iW;rw[show(if 128<=y then y-256 else y)=qN y from rfl]at hs8;have IW:j=0\/j=1:=by omega
   have an3:aN .i64 ((j:Int)+1):=iW;rcases IW with rfl|rfl
   ·have aku:sP ds (0+1)=qN y:=by simp[sP,cy]
    have ait:sP ds 1=qN y:=aku;simp[-cB,ay,hjd,hye,hs8,hsw];exact⟨iW,ait.symm⟩
   ·have rz:∃y0,ds[0]?=some y0:=⟨_,anc (by omega)⟩
    obtain⟨y0,rz⟩:=rz;have agV:=hdb y0 (apT rz);have aiu:sP ds 1=qN y0:=by simp[sP,rz]
    have aiv:sP ds 2=256 *qN y0+y:=by simp[sP,rz,cy]
    have Xl:=agR (qN y0) y (KL agV) AN;have El:=KL agV;generalize qN y0=s0 at *;have akv:(1:Int)<ρ:=by omega
    simp[-cB,ay,akv,hjd,hye,hyw,aiu];exact⟨iW,Xl.trans aiv.symm⟩
  ·subst heq;have hbN:=aab (sP ds j);generalize sP ds j=n at *;have hR2:R=if((((eK n:Int) !=(j:Int))&&(q !=24))&&(q !=25))=true then(⟨0,0⟩,0,4)else((⟨q,n⟩:ae),((k:Int)+1+j,(0:Int))):=by
    rw[hR];by_cases c:((j:Int)≠(eK n:Int)/\q≠24/\q≠25)
    ·rw[if_pos c,if_pos (by simp[c.2.1,c.2.2];have:=c.1;omega)]
    ·rw[if_neg c,if_neg (by intro h;simp at h;exact c ⟨by have:=h.1.1;omega,h.1.2,h.2⟩)]
   have hkj:aN .i64 ((k:Int)+1+j):=iW;clear hR;generalize eK n=β at *;generalize hJ:(j:Int)=J at *;generalize hBe:(β:Int)=B at *;simp[-cB];refine pC hbN ?_;cases xS:(B !=J)<;>cases xP:(q !=24)<;>cases hc3:(q !=25)
   all_goals rw[xS,xP,hc3]at hR2
   all_goals simp[-cB,xS,xP,hc3,nu,hkj]
   all_goals (rw[hR2];first|rfl|exact⟨rfl,rfl,rfl⟩)
 exact rD _ rfl
set_option maxHeartbeats 200000
set_option maxRecDepth 512
def u64(n:Int):Int:=IntKind.wrap .u64 n
def Jw(n:Int):Int:=if u64 (u64 (u64 n *2654435769)+1)=0 then 1 else u64 (u64 (u64 n *2654435769)+1)
theorem WT(n:Int):Pure prog 65 [iD n] (.d (.v (.int .u64 (Jw n)))):=by
 unfold Jw u64;refine rn func65 ?_;simp[-cB,f65];refine aA (λh=>?_) (λh=>?_)
 ·simp at h;simp[h]
 ·simp at h;simp[h]
def nj(inn:Int):List aZ->Int->Int
 | [],_=>0
 | y::l,i=>if y.ah=inn then i else nj inn l (i+1)
theorem Al{inn:Int}:∀(l r:List aZ) (i:Int),(∀y∈l,y.ah≠inn)->nj inn (l++r) i=nj inn r (i+l.length)
 | [],r,i,_=>by simp
 | y::l,r,i,h=>by
   rw[apZ,nj,if_neg (h y (by simp)),Al l r _ (λz hz=>h z (by simp[hz]))];congr 1;simp only[apY];omega
theorem GA(t:aq)(ht:t.wf)(x:Nat)(hx:x<=t.aB.length)(inn:Int):Pure prog 66 [.agg (t.enc.map .d),iD x,iD inn] (iD (nj inn (t.aB.drop x) x)):=by
 have hlen:=aq.DV ht;refine rn func66 ?_;simp[-cB,f66];intro bs;refine aw.cX [2,3,7] (t.aB.length-x) (λi=> [(7,iD ((x+i:Nat):Int))]) (λ_=> []) (λi=>∀y∈(t.aB.drop x).take i,y.ah≠inn) (by rfl) (by simp) ?_;intro i hi hH;rcases apW hi with ay|heq
 ·have Tp:x+i<t.aB.length:=by omega
  have hxz:(x:Int)+i<t.aB.length:=by omega
  have hd:t.aB.drop x=(t.aB.drop x).take i++t.aB[x+i]::t.aB.drop (x+i+1):=by
   conv=>lhs;rw[<-aqh i (t.aB.drop x)]
   rw[aqW,arD Tp]
  have hl:((t.aB.drop x).take i).length=i:=by simp;omega
  have hz:((x:Int)+i).toNat=x+i:=by omega
  have hz0:0<=(x:Int)+i:=by omega
  have lD:t.aB[x+i]?.getD aZ.zero=t.aB[x+i]:=by rw[anc Tp];rfl
  have cO:aN .i64 ((x:Int)+i+1):=iW;by_cases hp:(t.aB[x+i]).ah=inn
  ·have hv:nj inn (t.aB.drop x) x=(x:Int)+i:=by
    rw[hd,Al _ _ _ hH,nj,if_pos hp,hl]
   simp[Tp,hxz,hp,hv,hz,hz0]
  ·have hH':∀y∈(t.aB.drop x).take (i+1),y.ah≠inn:=by
    intro y hy;rw[aqy]at hy;rcases ap9.1 hy with h|h
    ·exact hH y h
    ·rw[aqO,anc Tp]at h;simp at h;rw[h];exact hp
   simp[Tp,hxz,hp,cO,hz,hz0,ay];exact⟨by omega,λy hy=>hH' y hy⟩
 ·have hxz:¬((x:Int)+i<t.aB.length):=by omega
  have hv:nj inn (t.aB.drop x) x=0:=by
   have h1:(t.aB.drop x).take i=t.aB.drop x:=List.take_of_length_le (by simp;omega);rw[h1]at hH;have:=Al (inn:=inn) (t.aB.drop x) [] x hH;rw[aqp]at this;rw[this,nj]
  simp[hxz,hv]
def ER(t:aq)(k:Nat):Int:=if k=0 then 0 else nj k (t.aB.drop 1) 1
def FF(t:aq)(k:Nat):Int:=if(bW t k).ah=0 then 0 else nj (bW t k).ah (t.aB.drop (k+1)) (k+1)
def NW(t:aq):ai:=⟨t.aW,t.aB.map (·.ah),(List.range t.aB.length).map (ER t),(List.range t.aB.length).map (FF t),t.aB.map (·.Flags),t.aB.flatMap (·.aM),List.replicate t.eu.length 0,Jw t.pk,0,0,0,0,0⟩
theorem Qr:∀(l:List aZ),(∀y∈l,y.aM.length<=64)->(List.map (λa=>a.aM.length) l).sum<=l.length *64
 | [],_=>by simp
 | y::l,h=>by
   have h1:=Qr l (λz hz=>h z (by simp[hz]));have h2:=h y (by simp);simp only[aqd,arT,apY];omega
set_option maxHeartbeats 8000000 in
theorem K6(t:aq)(ht:t.wf)(hT:t.aB.length<=1000)(hP:∀y∈t.aB,y.aM.length<=64):Pure prog 29 [.agg (t.enc.map .d)] (.agg ((NW t).enc.map .d)):=by
 have l1:=aq.oH ht;have l2:=aq.BE ht;have l3:=aq.DV ht;refine rn func29 ?_;simp[-cB,f29];intro bs;refine aw.Sw [Q3,Q3,Q3,Q3,Q3,Q3,Q3,Q3,Q3,Q3,Q3,Q3,none,none] [8,11,15] [.kn (λv=>∃ao,v= .slice ao 0 0),.d (.sl (aD t.aW)),.d (.sl (aD (List.replicate t.eu.length 0))),.d (.v (.int .u64 (Jw t.pk)))] bc (by kernel_rfl) ?_;simp[(WT _).ok];have tS:kQ prog 23=some (3,1,8,[.int .i64 0]):=by kernel_rfl
 have tR:se prog 23=true:=by kernel_rfl
 have y0:∀(ops:Array Oper) (s:St) (dst:Option Tmp) (pos:String) (after:Array Edge),rU prog ops ⟨dst,.buildSlice 23 0 #[],23,pos,after,none⟩ s (.kn (λv=>∃ao,v= .slice ao 0 0)):=λops s dst pos after=>Vy tS
 refine⟨y0 _ _ _ _ _,?_⟩;refine⟨Gg tS tR rfl rfl (by decide) (by simp [aD]) (by simp;omega),?_⟩;have y2:∀(ops:Array Oper) (s:St) (dst:Option Tmp) (lo co:Operand) (pos:String) (after:Array Edge),s.ev lo=iD t.eu.length→s.ev co=iD t.eu.length→
   rU prog ops ⟨dst,.makeSlice 23 lo co,23,pos,after,none⟩ s (.d (.sl (aD (List.replicate t.eu.length 0)))):=by
  intro ops s dst lo co pos after h1 h2;have:=abN (P:=prog) (ops:=ops) (dst:=dst) (ty:=23) (pos:=pos) (after:=after) (s:=s) tS h1 h2 (by decide) (by omega) (by simp only[maxLen];omega);simpa[aD]using this
 refine⟨y2 _ _ _ _ _ _ _ rfl rfl,?_⟩
 repeat' (first|exact y0 _ _ _ _ _|exact y2 _ _ _ _ _ _ _ rfl rfl|exact Gg tS tR rfl rfl (by decide) (by simp[aD]) (by simp;omega)|with_reducible refine And.intro ?_ ?_)
 intro Lw;refine aw.weaken (s':=⟨[(4,iD 0),(3,.bp 3 0),(2,.bp 2 0),(1,.bp 1 0)],_⟩) (Wk.pick [4,3,2,1] [3,2,1] (by rfl) (by decide) (by simp[St.pick,St.on,V.on,V.dA])) ?_;refine aw.weaken (Wk.qx 3 1 5301 (e:=3) (k:=1) rfl rfl (by simp[keys])) ?_;refine aw.weaken (Wk.qx 3 2 5302 (e:=3) (k:=1) rfl rfl (by simp[keys,aH.jK])) ?_;refine aw.weaken (Wk.qx 3 3 5303 (e:=3) (k:=1) rfl rfl (by simp[keys,aH.jK])) ?_;refine aw.weaken (Wk.qx 3 4 5304 (e:=3) (k:=1) rfl rfl (by simp[keys,aH.jK])) ?_;refine aw.weaken (Wk.qx 3 5 5305 (e:=3) (k:=1) rfl rfl (by simp[keys,aH.jK])) ?_;refine aw.weaken (s':=⟨[(4,iD 0),(3,.bp 3 0),(2,.bp 2 0),(1,.bp 1 0)],
  [(5301,.row 3 1 []),(5302,.row 3 1 []),(5303,.row 3 1 []),(5304,.row 3 1 []),(5305,.row 3 1 []),
   (3,.box (Lw 3+1) 34 [.d (.sl (aD t.aW)),.rv 5301,.rv 5302,.rv 5303,.rv 5304,.rv 5305,.d (.sl (aD (List.replicate t.eu.length 0))),.d (.v (.int .u64 (Jw t.pk))),iD 0,iD 0,iD 0,iD 0,iD 0]),_,_]⟩) (Wk.pick [4,3,2,1] [5301,5302,5303,5304,5305,3,2,1] (by rfl) (by decide) (by simp[St.pick,St.on,V.on,V.dA,aH.jK])) ?_
 refine aw.fq [1,2,3,4] t.aB (λpre=> [(4,iD pre.length)]) (λpre=> [(5301,.row 3 1 (dd (aD (pre.map (·.ah))))),(5302,.row 3 1 (dd (aD ((List.range pre.length).map (ER t))))),(5303,.row 3 1 (dd (aD ((List.range pre.length).map (FF t))))),(5304,.row 3 1 (dd (aD (pre.map (·.Flags))))),(5305,.row 3 1 (dd (aD (pre.flatMap (·.aM)))))]) (λ_=>True) (by rfl) (by omega) (by simp[aD]) ?_ ?_
 ·rintro pre y post bn hH ay bR a4;have hy:bW t pre.length=y:=by rw[bW,bn];simp
  have hA:=GA t ht 1 (by omega) pre.length;have hB:=GA t ht (pre.length+1) (by omega) y.ah;have ID:=Qr pre (λz hz=>hP z (by rw[bn];simp[hz]));have S5:=hP y (by rw[bn];simp);have lP:pre.length<=1000:=by omega
  clear bn;have da:aN .i64 ((pre.length:Int)+1):=a4;have hc:ER t pre.length=if pre=[]then 0 else nj pre.length t.aB.tail 1:=by
   unfold ER;cases pre<;>simp
  have hn:FF t pre.length=if y.ah=0 then 0 else nj y.ah (t.aB.drop (pre.length+1)) (pre.length+1):=by
   unfold FF;rw[hy]
  by_cases mN:pre=[]
  ·subst mN;simp only[aqj,Int.natCast_zero,Int.zero_add,aqB]at bR ay hy da a4 hB hn;have sT:ER t 0=0:=rfl;by_cases ry:y.ah=0
   ·have Lg:FF t 0=0:=by rw[hn,if_pos ry]
    clear hc hn hA hB;simp[-cB,bR,ay]
    repeat' (first
     | (with_reducible refine And.intro ?_ ?_)
     | (refine aA (λh=>?_) (λh=>?_)<;>(try simp at h)<;>(try simp[-cB, *]))
     | (with_reducible intro _))
    all_goals (try omega)
    refine aw.bI [Q3,Q3,Q0,Q0,Q0,Q0,Q0,Q0,none,none,asl,none] [] bc (by kernel_rfl) ?_;simp[-cB, *];refine aw.bI [Q0,Q0,Q0,Q0,Q0,Q0,Q0,Q0,none,asi,none] [] bc (by kernel_rfl) ?_;simp[-cB,ara, *];simp[dd,aD];omega
   ·have Lg:FF t 0=nj y.ah (t.aB.drop 1) 1:=by
     rw[hn,if_neg ry]
    clear hc hn hA;simp[-cB,bR,ay]
    repeat' (first
     | (with_reducible refine And.intro ?_ ?_)
     | ((first|(refine aA (λh=>?_) (λh=>?_)<;>(try simp at h))|refine pC hB ?_|refine lC hB ?_|refine pG hB ?_)<;>(try simp[-cB, *]))
     | (with_reducible intro _))
    all_goals (try omega)
    refine aw.bI [Q3,Q3,Q0,Q0,Q0,Q0,Q0,Q0,none,none,asl,none] [] bc (by kernel_rfl) ?_;simp[-cB, *];refine aw.bI [Q0,Q0,Q0,Q0,Q0,Q0,Q0,Q0,none,asi,none] [] bc (by kernel_rfl) ?_;simp[-cB,ara, *];simp[dd,aD];omega
  ·have On:0<pre.length:=aqz.2 mN;rw[if_neg mN]at hc;by_cases ry:y.ah=0
   ·rw[if_pos ry]at hn;clear hB;simp[-cB,bR,ay,On]
    repeat' (first
     | (with_reducible refine And.intro ?_ ?_)
     | ((first|(refine aA (λh=>?_) (λh=>?_)<;>(try simp at h))|refine pC hA ?_|refine lC hA ?_|refine pG hA ?_)<;>(try simp[-cB, *]))
     | (with_reducible intro _))
    all_goals (try omega)
    refine aw.bI [Q3,Q3,Q0,Q0,Q0,Q0,Q0,Q0,none,none,asl,none] [] bc (by kernel_rfl) ?_;simp[-cB, *];refine⟨by omega,?_⟩;refine aw.bI [Q0,Q0,Q0,Q0,Q0,Q0,Q0,Q0,none,asi,none] [] bc (by kernel_rfl) ?_;simp[-cB,ara, *]
    try omega
   ·rw[if_neg ry]at hn;simp[-cB,bR,ay,On]
    repeat' (first
     | (with_reducible refine And.intro ?_ ?_)
     | ((first|(refine aA (λh=>?_) (λh=>?_)<;>(try simp at h))|refine pC hA ?_|refine pC hB ?_|refine lC hA ?_|refine lC hB ?_|refine pG hA ?_|refine pG hB ?_)<;>(try simp[-cB, *]))
     | (with_reducible intro _))
    all_goals (try omega)
    refine aw.bI [Q3,Q3,Q0,Q0,Q0,Q0,Q0,Q0,none,none,asl,none] [] bc (by kernel_rfl) ?_;simp[-cB, *];refine⟨by omega,?_⟩;refine aw.bI [Q0,Q0,Q0,Q0,Q0,Q0,Q0,Q0,none,asi,none] [] bc (by kernel_rfl) ?_;simp[-cB,ara, *]
    try omega
 ·intro _;simp[-cB,NW,ai.enc]
set_option maxHeartbeats 4000000
set_option maxRecDepth 20000
def adz:au:= .mk 1 0 5 ⟨#[]⟩ []
def Bn:al:= .mk 12 0 ⟨#[]⟩ [adz] [] []
def tL:aq:={aq.zero with gO:=[⟨#[84,97,108,101]⟩],Flags:=4,aB:=[{aZ.zero with Text:= -1},{aZ.zero with Text:= -1,ah:=2},{aZ.zero with Text:= -1,Room:=true}],cS:=[0],Params:=[0],aJ:=[0]}
def vl:br:=⟨tL,[[Bn]]⟩
def AD(p:Int)(r:Bool):List D:=[.v (.int .i64 0),.v (.int .i64 (-1)),.v (.int .i64 p),.v (.int .i64 0),.v (.bool r),.v (.slice none 0 0),.v (.slice none 0 0),.v (.slice none 0 0),.v (.slice none 0 0)]
def adA:List D:=[.v (.int .i64 1),.v (.int .i64 0),.v (.int .i64 5),.v (.string ⟨#[]⟩),.v (.slice none 0 0)]
def adB:List D:=[.v (.int .i64 12),.v (.int .i64 0),.v (.string ⟨#[]⟩),.sl [adA],.v (.slice none 0 0),.v (.slice none 0 0)]
theorem ae7:Pure prog 28 [] (.agg (vl.enc.map .d)):=by
 refine Pure.Dw func28 rfl (by simp[f28]) ?_;simp only[f28];refine aw.fZ ?_;simp[-cB];intro bs;refine aw.fZ ?_;simp[-cB];intro cI;refine aw.fZ ?_;simp[-cB];refine aw.weaken (Wk.pick [0] [16,15,13,9,8,7,6,2,0] (by rfl) (by decide) (by rfl)) ?_;refine aw.weaken (Wk.freeze 13 (ys:=[adA]) rfl) ?_;refine aw.weaken (Wk.freeze 15 (ys:=[adB]) rfl) ?_;refine aw.weaken (Wk.freeze 16 (ys:=[[.sl [adB]]]) rfl) ?_;refine aw.weaken (Wk.freeze 2 (ys:=[[.v (.string ⟨#[84,97,108,101]⟩)]]) rfl) ?_;refine aw.weaken (Wk.freeze 6 (ys:=[AD 0 false,AD 2 false,AD 0 true]) rfl) ?_;refine aw.weaken (Wk.freeze 7 (ys:=[[.v (.int .i64 0)]]) rfl) ?_;refine aw.weaken (Wk.freeze 8 (ys:=[[.v (.int .i64 0)]]) rfl) ?_;refine aw.weaken (Wk.freeze 9 (ys:=[[.v (.int .i64 0)]]) rfl) ?_;refine aw.weaken (s':=⟨[(0,.bp 0 0)],[(0,.box (bs 0+1) 31 (vl.enc.map .d))]⟩) (Wk.deep 6 (by rfl)) ?_;refine aw.tJ ?_;simp[-cB]
def fH:an:=⟨tL,[0],[148,5,5,108]⟩
theorem WU:cZ vl=(fH,0):=by kernel_rfl
theorem Qs:tL.wf:=by
 unfold tL aq.wf;simp[aq.zero,aZ.wf,aZ.zero,aR];decide
theorem GV:Bn.wf:=by
 unfold Bn adz al.wf;simp[au.wf,au.wu,al.wu,aR];decide
theorem acG:vl.wf:=by
 unfold vl br.wf;refine⟨Qs,by decide,?_⟩;intro l hl;simp at hl;subst hl;refine⟨by decide,?_⟩;intro y hy;simp at hy;subst hy;exact GV
theorem WV:∀l∈vl.aF,me l/\gB l<=30000000:=by
 intro l hl;simp[vl]at hl;subst hl;refine⟨Gl (t:=tL) (locals:=0) iW ?_ (by decide) (by kernel_rfl),by decide+kernel⟩;intro y hy;simp at hy;subst hy;exact GV
theorem Qt:Pure prog 27 [.agg (vl.enc.map .d)] (.bM [.agg (fH.enc.map .d),iD 0]):=by
 have h:=wQ vl acG λ_=>WV
 rw[WU]at h;exact h
theorem acH:Pure prog 29 [.agg (tL.enc.map .d)] (.agg ((NW tL).enc.map .d)):=K6 tL Qs (by decide) (by decide)
def pB:cH:=⟨0,0,0⟩
def mT(W:ai)(k fuel:Int)(st:List Int):aj:=⟨[⟨0,k,0,[]⟩],st,pB,⟨0,W,⟨#[]⟩,0,false,fuel⟩,false⟩
def mE(W:ai):aj:=⟨[],[],pB,⟨0,W,⟨#[]⟩,5,false,1⟩,true⟩
theorem ae8:∀y∈fH.Code,0<=y/\y<=255:=by decide
theorem Cw(at_:Int):Pure prog 35 [.d (.sl (fH.Code.map λy=> [.v (.int .u8 y)])),iD at_] (KJ (mA fH.Code at_)):=Ak fH.Code at_ ae8 (by decide)
theorem WW(W:ai)(F:Int)(hF:1<=F):Pure prog 13 [.agg (fH.enc.map .d),.agg ((mT W 0 0 []).enc.map .d),iD F] (.agg ((mT W 1 1 []).enc.map .d)):=by
 refine yG fH (mT W 0 0 []) (mT W 1 1 []) F [] ⟨0,0,0,[]⟩ ⟨37,0⟩ 1 0 rfl rfl (by simp[mT]) (by simp[mT]) (Cw 0) (.inr (.inl ⟨rfl,λwb=>?_⟩));exact LZ wb fH F (mT W 1 0 []) ⟨37,0⟩ rfl (by simp[mT]) (by simp[mT];omega)
theorem WX(W:ai)(F:Int)(hF:F<1):Pure prog 13 [.agg (fH.enc.map .d),.agg ((mT W 0 0 []).enc.map .d),iD F] (.agg ((tp (mT W 0 0 []) 19).enc.map .d)):=by
 refine yG fH (mT W 0 0 []) _ F [] ⟨0,0,0,[]⟩ ⟨37,0⟩ 1 0 rfl rfl (by simp[mT]) (by simp[mT]) (Cw 0) (.inr (.inr (.inr ⟨rfl,19,λwb=>⟨?_,rfl⟩⟩)));exact L3 wb fH F (mT W 1 0 []) ⟨37,0⟩ rfl (by simp[mT]) (by simp[mT];omega)
theorem WY(W:ai)(F:Int):Pure prog 13 [.agg (fH.enc.map .d),.agg ((mT W 1 1 []).enc.map .d),iD F] (.agg ((mT W 3 1 [5]).enc.map .d)):=by
 refine yG fH (mT W 1 1 []) (mT W 3 1 [5]) F [] ⟨0,1,0,[]⟩ ⟨1,5⟩ 3 0 rfl rfl (by simp[mT]) (by simp[mT]) (Cw 1) (.inr (.inl ⟨rfl,λwb=>?_⟩));exact Zw wb fH F (mT W 3 1 []) ⟨1,5⟩ rfl (by simp[mT])
theorem WZ(W:ai)(F:Int):Pure prog 13 [.agg (fH.enc.map .d),.agg ((mT W 3 1 [5]).enc.map .d),iD F] (.agg ((mE W).enc.map .d)):=by
 refine yG fH (mT W 3 1 [5]) (mE W) F [] ⟨0,3,0,[]⟩ ⟨27,0⟩ 4 0 rfl rfl (by simp[mT]) (by simp[mT]) (Cw 3) (.inr (.inl ⟨rfl,λwb=>?_⟩));exact Gq wb fH F (mT W 4 1 [5]) ⟨27,0⟩ [] ⟨0,4,0,[]⟩ [] 5 rfl rfl (by simp) rfl (by simp) (by simp)
theorem W0(W:ai)(F:Int):Pure prog 13 [.agg (fH.enc.map .d),.agg ((mE W).enc.map .d),iD F] (.agg ((mE W).enc.map .d)):=PW fH (mE W) F rfl
def mAt(W:ai):Nat->aj
 | 0=>mT W 0 0 []
 | 1=>mT W 1 1 []
 | 2=>mT W 3 1 [5]
 | _=>mE W
theorem RZ(W:ai):∀i:Nat,Pure prog 13 [.agg (fH.enc.map .d),.agg ((mAt W i).enc.map .d),iD 4] (.agg ((mAt W (i+1)).enc.map .d))
 | 0=>WW W 4 (by decide)
 | 1=>WY W 4
 | 2=>WZ W 4
 | _+3=>W0 W 4
theorem W1(W:ai):Pure prog 11 [.agg (fH.enc.map .d),.agg (W.enc.map .d),iD 0,.d (.sl (aD [])),.agg (pB.enc.map .d)] (.agg ((mT W 0 0 []).enc.map .d)):=by
 have h:=Ck fH W 0 [] pB rfl rfl (by decide) ?_
 ·exact h
 ·intro r e n he hn rS ha;have:=wW fH r e n he hn rS [] (by simp) 0;rw[Cv _ _ (by simp)];exact this
def mX(W:ai):aj:=⟨[],[],pB,⟨11,W,⟨#[]⟩,0,false,0⟩,true⟩
theorem R0(W:ai):Pure prog 11 [.agg (fH.enc.map .d),.agg (W.enc.map .d),iD 9,.d (.sl (aD [])),.agg (pB.enc.map .d)] (.agg ((mX W).enc.map .d)):=by
 have h:=Ck fH W 9 [] pB rfl rfl (by decide) ?_
 ·exact h
 ·intro r e n he hn rS ha;have:=wW fH r e n he hn rS [] (by simp) 0;rw[Cv _ _ (by simp)];exact this
theorem Jx:Pure prog 10 [] (oD true):=by
 obtain⟨W,hW⟩:∃W,NW tL=W:=⟨_,rfl⟩
 have hN:Pure prog 29 [.agg (fH.Tables.enc.map .d)] (.agg (W.enc.map .d)):=by rw[<-hW];exact acH
 have hT:=ae7;have hS:=Qt;have hB:Pure prog 11 [.agg (fH.enc.map .d),.agg (W.enc.map .d),iD 0,.d (.v (.slice none 0 0)),.agg (pB.enc.map .d)] (.agg ((mT W 0 0 []).enc.map .d)):=(W1 W).deep 0 (by rfl) (by rfl);have hX:Pure prog 11 [.agg (fH.enc.map .d),.agg (W.enc.map .d),iD 9,.d (.v (.slice none 0 0)),.agg (pB.enc.map .d)] (.agg ((mX W).enc.map .d)):=(R0 W).deep 0 (by rfl) (by rfl);have A6:=RZ W;have hF:=WX W 0 (by decide);generalize vl=B at *;generalize fH=G at *;refine rn func10 ?_;simp[-cB,f10];refine pC hT ?_;simp[-cB];refine pC hS ?_;simp[-cB];intro bs;refine pC hN ?_;simp[-cB];intro cI;refine pC hB ?_;simp[-cB];intro H8;refine aw.cX [1,2,3,4,5] 9 (λi=> [(5,iD i)]) (λi=> [(4,.box (H8 0+1) 50 ((mAt W i).enc.map .d))]) (λ_=>True) (by rfl) (by simp[mAt]) ?_;intro i hi _;rcases apW hi with ay|heq
 ·have da:aN .i64 ((i:Int)+1):=iW;have hc:=A6 i;have Xp:(i:Int)<9:=by omega
  simp[-cB,Xp];refine pC hc ?_;simp[-cB,da];omega
 ·subst heq;simp[-cB];refine pC hX ?_;simp[-cB];intro bs4;refine aw.JY [Q3,Q3,Q3,Q3,Q3,Q3,none,none] [.agg ((mT W 0 0 []).enc.map .d),.agg ((tp (mT W 0 0 []) 19).enc.map .d)] bc (by kernel_rfl) ?_;have h9:mAt W 9=mE W:=rfl;rw[h9];simp[-cB,hB.ok,hF.ok];exact⟨hB.ok _,hB.ok _,by simp[mE,mX,mT,tp]⟩
set_option maxRecDepth 40000
theorem acI:∀(N:Nat) (l:List al),SizeOf.sizeOf l<N->gB l<=lk (l.map al.enc):=by
 have hE:∀(N:Nat) (l:List au),SizeOf.sizeOf l<N->fw l<=lk (l.map au.enc):=by
  intro N
  induction N with
  | zero=>intro l h;omega
  | succ N ih=>
    intro l h;cases l with
    | nil=>simp[fw]
    | cons x l=>
      have hl:SizeOf.sizeOf l<N:=by simp only[aqt]at h;omega
      have hx:SizeOf.sizeOf x<N:=by simp only[aqt]at h;omega
      have h1:=ih l hl;have h2:=ih x.av (by cases x;simp only[au.Tf];simp only[au.mk.sizeOf_spec]at hx;omega);have h3:iN x.enc=bD (.v (.int .i64 x.Kind))+(bD (.v (.int .i64 x.Op))+(bD (.v (.int .i64 x.aI))+(bD (.v (.string x.Name))+(bD (.sl (x.av.map au.enc))+0)))):=by
       cases x;simp[au.enc,au.uM,iN]
      rw[fw,vL,aqd,lk,h3];simp only[bD];omega
 intro N
 induction N with
 | zero=>intro l h;omega
 | succ N ih=>
   intro l h;cases l with
   | nil=>simp[gB]
   | cons s l=>
     have hl:SizeOf.sizeOf l<N:=by simp only[aqt]at h;omega
     have hs:SizeOf.sizeOf s<N:=by simp only[aqt]at h;omega
     have hb:=al.q8 s;have he:=al.re s;have h1:=ih l hl;have h2:=ih s.Body (by omega);have h3:=ih s.bC (by omega);have h4:=hE _ s.av (ap5 _);have h5:iN s.enc=bD (.v (.int .i64 s.Kind))+(bD (.v (.int .i64 s.aI))+(bD (.v (.string s.Name))+(bD (.sl (s.av.map au.enc))+(bD (.sl (s.Body.map al.enc))+(bD (.sl (s.bC.map al.enc))+0))))):=by
      cases s;simp[al.enc,al.uM,iN]
     rw[gB,ui,aqd,lk,h5];simp only[bD];omega
set_option maxRecDepth 20000
def My(b:br)(w:ai):Bool:=decide (b.aF.length<=12)&&decide (b.Tables.aB.length<=20)&&dS b&&bS b.Tables w
def jT(b:br)(w:ai):an×Bool:=if My b w then((cZ b).1,(cZ b).2==0)else(an.zero,false)
theorem Dv{b:br}(hb:b.wf)(h:dS b=true)(hz:∀l∈b.aF,gB l<=30000000):∀l∈b.aF,me l/\gB l<=30000000:=by
 intro l hl;refine⟨?_,hz l hl⟩;unfold dS at h;simp only[apP,decide_eq_true_eq,apR]at h;obtain⟨⟨h1,h2⟩,h3⟩:=h;obtain⟨k,hk,vG⟩:=arp hl;have hg:=h3 k (by simpa using hk);unfold u2 at hg;simp only[apP]at hg;have Ay:=hg.1.1.2;rw[anc hk,vG]at Ay;have ht:=br.vv hb;have hw:l.length *104<=140737488351232/\∀y∈l,y.wf:=hb.2.2 l hl;have jz:aN .i64 (b.Tables.aJ[k]?.getD 0):=by
  cases hL:b.Tables.aJ[k]? with
  | none=>rw[aR];simp
  | some y=>exact aq.Ll ht y (apT hL)
 exact Gl (t:=b.Tables) (locals:=b.Tables.aJ[k]?.getD 0) jz hw.2 hw.1 Ay
theorem H7{b:br}{s:an}(h:cZ b=(s,0)):dS b=true/\s.Tables=b.Tables/\s.Entry.length=b.aF.length:=by
 unfold cZ at h;split at h
 ·simp at h
 ·rename_i hr;split at h
  ·rename_i he;simp only[apM]at h;exact absurd h.2 he
  ·split at h
   ·simp at h
   ·simp only[apM,and_true]at h;subst h;have hl:∀k,(stM b k).1.length=k:=by
     intro k
     induction k with
     | zero=>rfl
     | succ k ih=>rw[stM];simp[ih]
    exact⟨by simpa using hr,rfl,hl _⟩
theorem Mz(b:br)(w:ai)(hb:b.wf)(hw:w.wf)(hz:∀l∈b.aF,gB l<=30000000):Pure prog 9 [.agg (b.enc.map .d),.agg (w.enc.map .d)] (.bM [.agg ((jT b w).1.enc.map .d),oD (jT b w).2]):=by
 have hr:=EA b hb;by_cases h1:12<b.aF.length
 ·have e:jT b w=(an.zero,false):=by unfold jT My;rw[if_neg (by simp;omega)]
  rw[e];have TO:(12:Int)<b.aF.length:=by omega
  refine rn func9 ?_;simp[-cB,Tryz.f9];intro bs;simp[-cB,TO];refine pN (oD true) ?_;simp[-cB];refine pN (oD true) ?_;simp[-cB];rfl
 have TO:¬(12:Int)<b.aF.length:=by omega
 by_cases h2:20<b.Tables.aB.length
 ·have e:jT b w=(an.zero,false):=by unfold jT My;rw[if_neg (by simp;omega)]
  rw[e];have H6:(20:Int)<b.Tables.aB.length:=by omega
  refine rn func9 ?_;simp[-cB,Tryz.f9];intro bs;simp[-cB,TO,H6];refine pN (oD true) ?_;simp[-cB];refine pN (oD true) ?_;simp[-cB];rfl
 have H6:¬(20:Int)<b.Tables.aB.length:=by omega
 cases h3:dS b with
 | false=>
   have e:jT b w=(an.zero,false):=by unfold jT My;rw[if_neg (by simp[h3])]
   rw[e];rw[h3]at hr;refine rn func9 ?_;simp[-cB,Tryz.f9];intro bs;simp[-cB,TO,H6];refine pG hr ?_;simp[-cB];refine pN (oD true) ?_;simp[-cB];rfl
 | true=>
   rw[h3]at hr;have hf:fF b.Tables=true:=by
    unfold dS at h3;simp only[apP]at h3;exact h3.1.1
   have hR:=zT b.Tables (br.vv hb) w hw (gC hf).2.1 (gC hf).1.2;cases h4:bS b.Tables w with
   | false=>
     have e:jT b w=(an.zero,false):=by unfold jT My;rw[if_neg (by simp[h4])]
     rw[e];rw[h4]at hR;refine rn func9 ?_;simp[-cB,Tryz.f9];intro bs;simp[-cB,TO,H6];refine pG hr ?_;simp[-cB];refine pG hR ?_;simp[-cB];rfl
   | true=>
     have e:jT b w=((cZ b).1,(cZ b).2==0):=by unfold jT My;rw[if_pos (by simp[h3,h4];omega)]
     rw[e];rw[h4]at hR;have hS:=wQ b hb (λh=>Dv hb h hz);generalize cZ b=S at *;refine rn func9 ?_;simp[-cB,Tryz.f9];intro bs;simp[-cB,TO,H6];refine pG hr ?_;simp[-cB];refine pG hR ?_;simp[-cB];refine pC hS ?_;simp[-cB]
theorem H5{w:ai}(hw:w.wf):0<=w.dN/\w.dN<18446744073709551616:=by
 have h:=hw;unfold ai.wf at h;obtain⟨_,_,_,_,_,_,_,_,_,_,_,_,_,_,h8,_⟩:=h;have h1:(0:Int)<=w.dN:=h8.1;have h2:w.dN<=18446744073709551615:=h8.2;omega
set_option maxHeartbeats 200000
set_option maxRecDepth 512
def gu(w w':ai):Prop:=w'.aW.length=w.aW.length/\w'.ah.length=w.ah.length/\w'.Child.length=w.Child.length/\w'.Next.length=w.Next.length/\w'.Flags.length=w.Flags.length/\w'.aM.length=w.aM.length/\w'.bO.length=w.bO.length
theorem fW(w:ai):gu w w:=⟨rfl,rfl,rfl,rfl,rfl,rfl,rfl⟩
theorem Jy{a b c:ai}(h:gu a b)(k:gu b c):gu a c:=by
 unfold gu at *;omega
theorem aac(w:ai)(x f:Int)(on:Bool):gu w (ig w x f on).1:=by
 unfold ig;split
 ·split
  ·exact fW w
  ·simp[gu]
 ·exact fW w
theorem acJ(t:aq)(w:ai)(x p n:Int):gu w (sI t w x p n).1:=by
 unfold sI;split<;>(try split)<;>simp[gu]
theorem Jz(w:ai)(x:Int):gu w (dv w x):=⟨rfl,uT w x,O6 w x,O7 w x,rfl,rfl,rfl⟩
theorem W2(w:ai)(x to:Int):gu w (ve w x to):=by
 have h:=Jz w x;unfold gu at *;unfold ve;simp;omega
theorem MA(t:aq)(p:ai×Int):(tY t p).1=p.1:=by unfold tY;split<;>rfl
theorem R3(t:aq)(w:ai)(x:Int):gu w (kI t w x).1:=by
 unfold kI;split
 ·exact fW w
 ·rw[MA];unfold kH;split
  ·exact Jz w x
  ·exact fW w
theorem aad(t:aq)(w:ai)(x to:Int):gu w (oN t w x to).1:=by
 unfold oN;split
 ·exact fW w
 ·rw[MA];unfold pW;repeat' split
  all_goals first|exact fW w|exact W2 w x to
theorem R4{w:ai}{p:ai×Int}(h:gu w p.1):gu w (iy w p).1:=by
 unfold iy;split
 ·exact h
 ·exact fW w
theorem aae{c:XC}{w w':ai}{k n:Int}{a:List Int}{o:OC}(h:dk c w k n a=some (w',o)):gu w w':=by
 have wO:∀p,gu w p.1->some (iy w p)=some (w',o)->gu w w':=by
  intro p hp he;have:=R4 hp;rw[apO he]at this;exact this
 unfold dk at h
 repeat' (refine KH h (λh=>?_) (λh=>?_))
 all_goals first
  | (cases h;done)
  | exact wO _ (aac ..) h
  | exact wO _ (R3 ..) h
  | exact wO _ (acJ ..) h
  | exact wO _ (aad ..) h
  | (simp only[akC,apM]at h;rw[<-h.1];first|exact fW w|simp[gu])
theorem aaf{c:XC}{w w':ai}{k n:Int}{a:List Int}{o:OC}(h:dZ c w k n a=some (w',o)):gu w w':=by
 have pO:∀p:Int×Int,some (iV w p)=some (w',o)->gu w w':=by
  intro p he;have:=Ml w p;rw[apO he]at this;have:w'=w:=this;rw[this];exact fW w
 unfold dZ at h
 repeat' (refine KH h (λh=>?_) (λh=>?_))
 all_goals first
  | (cases h;done)
  | exact pO _ h
  | (simp only[akC,apM]at h;rw[<-h.1];first|exact fW w|simp[gu])
def EvL(σ:MS):Ev->Prop
 | .ok _ _ σ'=>gu σ.W σ'.W
 | .over σ'=>gu σ.W σ'.W
 | .bm _=>True
theorem acK{S0 L:List Int}{σ:MS}{t:ByteArray}{e:Ev}(h:uB S0 L σ t=some e):EvL σ e:=by
 unfold uB at h;split at h
 ·cases h;exact fW _
 ·cases h
theorem Qu{v:Bool}{S0 L:List Int}{σ:MS}{p:Option (ai×OC)}{e:Ev}(hp:∀w' o,p=some (w',o)->gu σ.W w')(h:jS v S0 L σ p=some e):EvL σ e:=by
 unfold jS at h;split at h
 ·cases h;exact hp _ _ rfl
 ·cases h;trivial
 ·cases h;exact hp _ _ rfl
 ·cases h
theorem acL{S0 L:List Int}{σ:MS}{p:Int×Int}:EvL σ (A1 S0 L σ p):=by
 unfold A1;split
 ·exact fW _
 ·trivial
theorem instJ_lens{c:XC}{i:ae}{S L:List Int}{σ:MS}{e:Ev}(h:instJ c i S L σ=some e):EvL σ e:=by
 rcases S with _|⟨v,_|⟨u,S⟩⟩
 all_goals
  unfold instJ at h;dsimp only at h
  repeat' (refine KH h (λh=>?_) (λh=>?_))
  all_goals first
   | (cases h;done)
   | exact acK h
   | exact Qu (λw' o hv=>aaf hv) h
   | exact Qu (λw' o hv=>aae hv) h
   | (simp only[akC]at h;rw[<-h];first|exact acL|trivial|exact fW _)
structure Jv(c:XC) (w0:ai) (n:Nat) (m:aj):Prop where
 hE:m.Env=c.E
 iE:m.Frames.length<=32
 hS:m.Stack.length<=n
 hW:WL m.Stack
 hL:∀f∈m.Frames,f.aJ.length<=40
 hF:0<=m.Told.Fuel/\m.Told.Fuel<=n
 hw:gu w0 m.Told.World
theorem Jv.le{c:XC}{w0:ai}{n k:Nat}{m:aj}(h:Jv c w0 n m)(hk:n<=k):Jv c w0 k m:=⟨h.hE,h.iE,by have:=h.hS;omega,h.hW,h.hL,by have:=h.hF;omega,h.hw⟩
theorem WL.take{l:List Int}(h:WL l)(n:Nat):WL (l.take n):=λx hx=>h x (aqQ hx)
theorem WL.drop{l:List Int}(h:WL l)(n:Nat):WL (l.drop n):=λx hx=>h x (List.mem_of_mem_drop hx)
theorem WL.app{a b:List Int}(ha:WL a)(hb:WL b):WL (a++b):=λx hx=>(ap9.1 hx).elim (ha x) (hb x)
theorem WL.rev{a:List Int}(ha:WL a):WL a.reverse:=λx hx=>ha x (List.mem_reverse.1 hx)
theorem ae9{c:XC}{s:an}{w0:ai}{n:Nat}{m m':aj}(ey:fF c.B.Tables=true)(Qv:s.Entry.length=c.B.Tables.Params.length)(hj:Jv c w0 n m)(h:db (aX c) s m=some m'):Jv c w0 (n+1) m':=by
 obtain⟨hE,iE,hS,hW,hL,hF,hw⟩:=id hj;unfold db at h;split at h
 ·cases h;exact hj.le (by omega)
 rename_i hd;split at h
 ·rename_i f hf;split at h
  ·rename_i hB;have uw:m.Frames=m.Frames.dropLast++ [f]:=by
    have bU:m.Frames≠ []:=by intro e;rw[e]at hf;cases hf
    have:=arM bU;rw[aro bU,akC]at hf;rw[hf]at this;exact this.symm
   generalize m.Frames.dropLast=Fr at *;have hlF:Fr.length+1<=32:=by rw[uw]at iE;simpa using iE
   have hLf:f.aJ.length<=40:=hL f (by rw[uw];simp);have hLF:∀g∈Fr,g.aJ.length<=40:=λg hg=>hL g (by rw[uw];simp[hg])
   have hLk:∀(g0:aG),g0.aJ.length<=40->∀g∈Fr++ [g0],g.aJ.length<=40:=by
    intro g0 h0 g hg;rcases ap9.1 hg with hg|hg
    ·exact hLF g hg
    ·simp at hg;rw[hg];exact h0
   have TP:0<=m.Told.Fuel/\m.Told.Fuel<=((n+1:Nat):Int):=by omega
   have hB2:f.cE.toNat<=m.Stack.length:=by omega
   have A6:m.Stack=m.Stack.take f.cE.toNat++(dI m f).reverse:=by unfold dI;rw[arS,aqh]
   have wC:(m.Stack.take f.cE.toNat).length+(dI m f).length=m.Stack.length:=by
    have:=congrArg List.length A6;rw[apX,aqY]at this;exact this.symm
   have hWt:WL (dI m f):=by unfold dI;exact(hW.drop _).rev
   have fail:∀e,Jv c w0 (n+1) (zA m e):=λe=>⟨hE,iE,by show m.Stack.length<=_;omega,hW,hL,TP,hw⟩
   generalize mA s.Code f.At=x at h;obtain⟨i,k,e⟩:=x;unfold oE at h;simp only at h;split at h
   ·cases h
   split at h
   ·rw[<-apO h];exact⟨hE,by simp;omega,by show m.Stack.length<=_;omega,hW,hLk _ hLf,TP,hw⟩
   split at h
   ·unfold Bm at h;split at h
    ·rename_i v S hv;rw[hv]at wC hWt;rw[<-apO h];refine⟨hE,by simp;omega,?_,?_,hLk _ hLf,TP,hw⟩
     ·simp only[apX,aqY,apY]at wC⊢;omega
     ·exact(hW.take _).app hWt.tail.rev
    ·cases h
   split at h
   ·unfold GS at h;split at h
    ·rename_i v S hv;rw[hv]at wC hWt;have SA:ax v=v:=hWt v (by simp);rw[<-apO h];split
     ·exact⟨hE,by simp,by simp only[aqs];omega,hW.take _,by simp,TP,hw⟩
     ·refine⟨hE,by show Fr.length<=32;omega,?_,(hW.take _).app (λy hy=>?_),hLF,TP,hw⟩
      ·simp only[apX,aqs,apY,aqj];omega
      ·simp at hy;rw[hy,SA,SA]
    ·cases h
   split at h
   ·split at h
    ·split at h
     ·rw[<-apO h];exact fail 17
     ·cases h
    ·rename_i nP ay;unfold y7 at h;split at h
     ·rename_i hp;obtain⟨nz,qi⟩:=hp;rw[<-apO h];generalize (aX c).fn i.Arg=r at *;obtain⟨-,pE,-⟩:=oS ey;have hr:=pE r qi.1 (by have:=qi.2;omega);have jz:((aX c).lo r ((dI m f).take ((aX c).pa r)).reverse).length<=40:=by
       show(List.map ax ((dI m f).take (aC c.B.Tables.Params r).toNat).reverse++List.replicate _ 0).length<=40;simp only[apX,aqg,aqY,aqs,List.length_replicate];omega
      refine⟨hE,?_,?_,hW.take _,?_,TP,hw⟩
      ·simp only[apX,apY,aqj];have:¬32<=m.Frames.length:=ay;rw[uw]at this;simp at this;omega
      ·simp only[aqs];omega
      ·intro g hg;rcases ap9.1 hg with hg|hg
       ·exact hLk _ (by exact hLf) g hg
       ·simp at hg;rw[hg];exact jz
     ·cases h
   cases hJ:(aX c).J i (dI m f) f.aJ (iH m)with
   | none=>rw[hJ]at h;cases h
   | some ev=>
     have aS:wi c (dI m f) f.aJ (iH m) ev:=instJ_ok hJ;have hle:EvL (iH m) ev:=instJ_lens hJ;rw[hJ]at h;cases ev with
     | bm e=>rw[<-apO h];exact fail e
     | over σ'=>
       rw[<-apO h];have h1:σ'.Fuel=m.Told.Fuel:=aS.1;have hFs:0<=σ'.Fuel/\σ'.Fuel<=((n+1:Nat):Int):=by omega
       exact⟨hE,by show(Fr++ [_]).length<=32;simp;omega,by show m.Stack.length<=_;omega,hW,hLk _ hLf,hFs,Jy hw hle⟩
     | ok S' L' σ'=>
       rw[<-apO h];obtain⟨⟨f1,f2,-⟩,-,g1,g2,g3⟩:=aS;have f1':m.Told.Fuel<=σ'.Fuel:=f1;have f2':σ'.Fuel<=m.Told.Fuel+1:=f2;have hFs:0<=σ'.Fuel/\σ'.Fuel<=((n+1:Nat):Int):=by omega
       refine⟨hE,by show(Fr++ [_]).length<=32;simp;omega,?_,(hW.take _).app (g1 hWt).rev,hLk _ (by show L'.length<=40;omega),hFs,Jy hw hle⟩;show(m.Stack.take f.cE.toNat++S'.reverse).length<=_;rw[apX,aqY];omega
  ·cases h
 ·cases h
theorem TQ{c:XC}{s:an}{w0:ai}(ey:fF c.B.Tables=true)(Qv:s.Entry.length=c.B.Tables.Params.length):∀(k n:Nat) (m m':aj),Jv c w0 n m->iterM (aX c) s k m=some m'->Jv c w0 (n+k) m'
 | 0,n,m,m',hj,h=>by cases h;exact hj
 | k+1,n,m,m',hj,h=>by
   rw[iterM]at h;cases hs:db (aX c) s m with
   | none=>rw[hs]at h;cases h
   | some m1=>
     rw[hs]at h;have:=TQ ey Qv k (n+1) m1 m' (ae9 ey Qv hj hs) h;rw[show n+(k+1)=n+1+k by omega];exact this
theorem TR{o n:Int}{k:Nat}(ho:1<=o/\o<38)(hk:k<=2):∀y∈fD o n k,0<=y/\y<=255:=by
 intro y hy;unfold fD at hy;rcases ap8.1 hy with rfl|hy
 ·omega
 ·match k,hk with
  | 0,_=>simp[kv]at hy
  | 1,_=>simp[kv]at hy;omega
  | 2,_=>simp[kv]at hy;omega
theorem Qw(w:Zl):∀(z:Zl) (k:Nat),(∀p∈z,jmp p.1.Op=true->p.2<=2)->∀y∈fv w k z,0<=y/\y<=255
 | [],k,_,y,hy=>by simp[fv]at hy
 | p::z,k,hp,y,hy=>by
   rw[fv]at hy;rcases ap9.1 hy with hy|hy
   ·unfold oO at hy;split at hy
    ·simp at hy
    ·split at hy
     ·rename_i hj;have ho:p.1.Op=24\/p.1.Op=25:=by simpa[jmp]using hj
      exact TR (by omega) (hp p (by simp) hj) y hy
     ·unfold mz at hy;split at hy
      ·simp at hy
      ·exact TR (by omega) (qE _) y hy
   ·exact Qw w z _ (λq hq=>hp q (by simp[hq])) y hy
theorem acM(l:List ae):(pI l).2=0\/(pI l).1=[]:=by
 unfold pI;split
 ·exact .inr rfl
 ·split
  ·split
   ·exact .inr rfl
   ·split
    ·exact .inr rfl
    ·exact .inl rfl
  ·exact .inr rfl
theorem aag(l:List ae):∀y∈(pI l).1,0<=y/\y<=255:=by
 by_cases h0:(pI l).2=0
 ·obtain⟨z,h1,h2,h3,h4⟩:=Ph (l:=l) (c:=(pI l).1) (by rw[<-h0]);rw[h3];refine Qw z z 0 (λp hp hj=>?_);obtain⟨a,b,rfl⟩:=arh hp;have:=h2 a p b rfl;exact this.1
 ·rcases acM l with h|h
  ·exact absurd h h0
  ·rw[h];simp
theorem R5{b:br}{s:an}(h:cZ b=(s,0)):∀y∈s.Code,0<=y/\y<=255:=by
 unfold cZ at h;split at h
 ·simp at h
 ·split at h
  ·rename_i he;simp only[apM]at h;exact absurd h.2 he
  ·split at h
   ·simp at h
   ·simp only[apM,and_true]at h;subst h;have:∀k,∀y∈(stM b k).2,0<=y/\y<=255:=by
     intro k
     induction k with
     | zero=>intro y hy;simp[stM]at hy
     | succ k ih=>
       intro y hy;rw[stM]at hy;rcases ap9.1 hy with hy|hy
       ·exact ih y hy
       ·unfold ly at hy;split at hy
        ·simp at hy
        ·exact aag _ y hy
    exact this _
theorem afa{b:List Int}(hb:∀y∈b,0<=y/\y<=255)(i k:Int): -32768<=uW b i k/\uW b i k<=32767:=by
 have hg:0<=aC b i/\aC b i<=255:=by
  unfold aC;cases hx:b[i.toNat]? with
  | none=>simp
  | some y=>exact hb y (apT hx)
 unfold uW;split
 ·split<;>omega
 ·split
  ·rw[jm];omega
  ·omega
theorem agW{b:List Int}(hb:∀y∈b,0<=y/\y<=255){at_:Int}{i:ae}{k:Int}(h:mA b at_=(i,k,0)):(0<=k/\k<=b.length)/\(-32768<=i.Arg/\i.Arg<=32767)/\(1<=i.Op/\i.Op<38):=by
 unfold mA at h;split at h
 ·simp at h
 split at h
 ·simp at h
 split at h
 ·simp at h
 split at h
 ·simp at h
 ·rename_i h1 h2 h3 h4;simp only[apM,and_true]at h;obtain⟨rfl,rfl⟩:=h;have:=afa hb (at_+1) (aC b at_ % 4);refine⟨by omega,this,by simp only;omega⟩
set_option maxHeartbeats 4000000
set_option maxRecDepth 20000
structure Jn(c:XC) (s:an) (F:Int) (m:aj) (Fr:List aG) (f:aG):Prop where
 hT:s.Tables=c.B.Tables
 ey:fF c.B.Tables=true
 hE:m.Env=c.E
 uw:m.Frames=Fr++ [f]
 hD:m.bX=false
 iE:m.Frames.length<=32
 hS:m.Stack.length<=20000
 hW:WL m.Stack
 hB:0<=f.cE/\f.cE<=m.Stack.length
 hL:f.aJ.length<=1000
 hF:0<=m.Told.Fuel/\m.Told.Fuel<=1000000
 hFM:F<m.Told.Fuel+1↔c.M<m.Told.Fuel+1
abbrev yM(m:aj)(Fr:List aG)(f:aG)(k:Int):aj:={m with Frames:=Fr++ [{f with At:=k}]}
section
variable {c : XC} {s : an} {F : Int} {m m' : aj} {Fr : List aG} {f : aG} {i : ae} {k : Int}
theorem yN{X}(h:∀wb,ky wb s F (yM m Fr f k) i X)(e:X=m'):tt s m F Fr f i k 0 m':= .inr (.inl ⟨rfl,λwb=>e ▸ h wb⟩)
theorem Qx{x}(h:∀wb,PV wb s F (yM m Fr f k) i x)(e:zA m x=m'):tt s m F Fr f i k 0 m':= .inr (.inr (.inr ⟨rfl,x,λwb=>⟨h wb,e.symm⟩⟩))
theorem u0{X}(aP:eI i.Op)(h:∀wb,jv wb s F (yM m Fr f k) i X)(e:X=m'):tt s m F Fr f i k 0 m':=yN (λwb=>Ty wb s F _ _ i aP (h wb)) e
theorem yO{x}(aP:eI i.Op)(h:∀wb,Cm wb s F (yM m Fr f k) i x)(e:zA m x=m'):tt s m F Fr f i k 0 m':=Qx (λwb=>aeH wb s F _ i x aP (h wb)) e
theorem wj{X}(aP:eI i.Op)(acN:mG i.Op)(h:∀wb,jX wb s F (yM m Fr f k) i X)(e:X=m'):tt s m F Fr f i k 0 m':=u0 aP (λwb=>aeP wb s F _ _ i acN (h wb)) e
theorem A7{x}(aP:eI i.Op)(acN:mG i.Op)(h:∀wb,EE wb s F (yM m Fr f k) i x)(e:zA m x=m'):tt s m F Fr f i k 0 m':=yO aP (λwb=>aeQ wb s F _ i x acN (h wb)) e
theorem fN{S L σ}(h:wz m Fr f k (some (.ok S L σ))=some m'):B8 m (Fr++ [{f with At:=k,aJ:=L}]) (m.Stack.take f.cE.toNat++S.reverse) σ=m':=apO h
theorem lM{e}(h:wz m Fr f k (some (.bm e))=some m'):zA m e=m':=apO h
theorem sQ{v S L σ w p}:jS v S L σ (some (iV w p))=if p.2=0 then some (.ok (if v then ax p.1::S else S) L {σ with W:=w})else some (.bm p.2):=by
 unfold iV;split<;>rfl
theorem ot{S L σ w p}:jS false S L σ (some (iy w p))=if p.2=0 then some (.ok S L {σ with W:=p.1})else some (.bm p.2):=by
 unfold iy;split<;>rfl
theorem A8{S L σ x}(h:wz m Fr f k (uB S L σ x)=some m'):σ.Out.size+x.size<=140737488355328/\B8 m (Fr++ [{f with At:=k,aJ:=L}]) (m.Stack.take f.cE.toNat++S.reverse) {σ with Out:=σ.Out++x}=m':=by
 unfold uB at h;split at h
 ·exact⟨by omega,apO h⟩
 ·cases h
theorem u1{c w}(hf:fF c.B.Tables=true)(h:okW c w=true):jM c.B.Tables w:=by
 simp_all[kE,jM.of]
theorem afb{t}(hf:fF t=true):lr t.Flags<=65536:=by
 simp[BQ]
theorem jM.flags{t w}(hf:fF t=true)(h:jM t w):fS w:=⟨by rw[h.hF,h.hT],λv hv=>by have:=h.fl v hv;have:=afb hf;omega⟩
theorem jM.W3{t w}(hf:fF t=true)(h:jM t w):w.ah.length<=128/\w.Flags.length<=128/\w.aW.length<=64/\w.bO.length<=16/\w.aM.length<=2048/\t.aM.length<=16/\w.ah.length *t.aM.length=w.aM.length:=by
 obtain⟨h1,h2,h3,h4,-⟩:=gC hf;have:=h.hT;have:=h.hF;have:=h.hG;have:=h.hD;have:=h.hP;have oa:=ar9 h1.2 h2;grind
theorem tw{l x}(h:eJ l x):l[x.toNat]?=some (aC l x):=by
 simp_all[aC]
theorem aah(hj:Jn c s F m Fr f)(h:wz m Fr f k (instJ c i (dI m f) f.aJ (iH m))=some m'):tt s m F Fr f i k 0 m':=by
 have hA:m.Stack=m.Stack.take f.cE.toNat++(dI m f).reverse:=by simp[dI,arS,aqh]
 have hl:=hj.hS;have hlF:Fr.length<=1000000:=by have:=hj.iE;rw[hj.uw]at this;grind
 have hT:=hj.hT;have hE:=hj.hE;have ey:=hj.ey;have Nc:∀x,m.Stack.take f.cE.toNat++(x::dI m f).reverse=m.Stack++ [x]:=by
  grind
 unfold instJ at h;by_cases h1:i.Op=1
 ·rw[if_pos h1]at h;refine u0 (by simp[eI,h1]) (λwb=>Jc wb s F _ i h1 (by grind)) ?_;rw[<-fN h,Nc];rfl
 rw[if_neg h1]at h;by_cases rA:i.Op=37
 ·rw[if_pos rA]at h;have hF:=hj.hF;rw[if_pos (show 0<=(iH m).Fuel/\(iH m).Fuel<=1099511627776 from⟨hF.1,by show m.Told.Fuel<=_;omega⟩)]at h;split at h
  ·rename_i hc;exact Qx (λwb=>L3 wb s F _ i rA ⟨hF.1,by grind⟩ (hj.hFM.2 hc)) (lM h)
  ·rename_i hc;refine yN (λwb=>LZ wb s F _ i rA ⟨hF.1,by grind⟩ (λh=>hc (hj.hFM.1 h))) ?_;rw[<-fN h,<-hA];rfl
 rw[if_neg rA]at h;by_cases h5:i.Op=5
 ·rw[if_pos h5]at h;split at h
  ·rename_i cO;refine u0 (by simp[eI,h5]) (λwb=>V8 wb s F _ i Fr _ _ h5 cO.1 rfl hlF (tw cO) (by grind)) ?_;rw[<-fN h,Nc];rfl
  ·cases h
 rw[if_neg h5]at h;by_cases A5:i.Op=21
 ·rw[if_pos A5]at h;obtain⟨jy,rQ⟩:=A8 h;refine yN (λwb=>aeR wb s F _ i _ A5 (EH s.Tables i.Arg) (by rw[hT];exact jy)) ?_;rw[<-rQ,<-hA,hT];rfl
 rw[if_neg A5]at h;by_cases Gy:i.Op=35
 ·rw[if_pos Gy]at h;split at h
  ·rename_i aS;have hw:=u1 ey aS;obtain⟨jy,rQ⟩:=A8 h;refine yN (λwb=>aeT wb s F _ i _ Gy (Z8 s.Tables m.Told.World (by grind) (by rw[hT];exact hw) (hw.flags ey)) (by rw[hT];exact jy)) ?_;rw[<-rQ,<-hA,hT];rfl
  ·cases h
 rw[if_neg Gy]at h;by_cases h0:dr i.Op=0
 ·rw[if_pos h0]at h;have Hj:i.Op=3\/i.Op=7\/(i.Op=28\/i.Op=29\/i.Op=30)\/i.Op=33:=by
   grind[dr]
  cases aS:okW c (iH m).W with
  | false=>grind[eQ,fy,dZ,dk,jS,wz]
  | true=>
  have hw:=u1 ey aS;rcases Hj with h3|h7|h28|Tq
  ·simp[h3,eQ,dZ,aS]at h;split at h
   ·rename_i cO;refine u0 (by simp[eI,h3]) (λwb=>V7 wb s F _ i _ h3 cO.1 (tw cO) (by grind)) ?_;rw[<-fN h];simp only[if_true];rw[Nc];rfl
   grind[jS,wz]
  ·simp[h7,eQ,dZ,aS,sQ]at h;have pE:=(hw.W3 ey).1;cases hp:xa (iH m).W c.E i.Arg with
   | mk v e=>
   rw[hp]at h;by_cases he:e=0
   ·subst he;refine u0 (by simp[eI,h7]) (λwb=>V9 wb s F _ i v h7 (by show xa m.Told.World m.Env i.Arg=_;rw[hE];exact hp) (by grind) hw.wf (by show m.Told.World.ah.length<=_;have:m.Told.World.ah.length<=128:=pE;omega)) ?_;rw[<-fN h];rw[Nc];rfl
   ·simp only[if_neg he]at h;exact yO (by simp[eI,h7]) (λwb=>Wh wb s F _ i v e he h7 (by grind[xa]) hw.wf (by show m.Told.World.ah.length<=_;have:m.Told.World.ah.length<=128:=pE;omega)) (lM h)
  ·refine yN (λwb=>Zu wb s F _ i h28) ?_;rcases h28 with hq|hq|hq<;>simp[hq,eQ,fy,dk,aS,jS,wz]at h<;>rw[<-h]<;>simp[hq,B8,iH,yM]
  ·simp[Tq,eQ,fy,dk,aS]at h;split at h
   ·rename_i cO;have hd:=(hw.W3 ey).2.2.2.1;refine wj (by grind[eI]) (by grind[mG]) (λwb=>RG wb s F _ i Tq cO (by show m.Told.World.bO.length<=_;have:m.Told.World.bO.length<=16:=hd;omega)) ?_;rw[<-fN h];show _=B8 m _ (m.Stack.take f.cE.toNat++(dI m f).reverse) _;rw[<-hA];rfl
   grind[jS,wz]
 rw[if_neg h0]at h;cases A6:dI m f with
 | nil=>rw[A6]at h;cases h
 | cons v S=>
   rw[A6]at h;simp only at h;rw[A6]at hA;have kN:m.Stack=(m.Stack.take f.cE.toNat++S.reverse)++ [v]:=by grind
   have hlA:(m.Stack.take f.cE.toNat++S.reverse).length<=20000:=by
    grind
   have hv:ax v=v:=hj.hW v (by grind);have Qy:∀x,m.Stack.take f.cE.toNat++(x::S).reverse=(m.Stack.take f.cE.toNat++S.reverse)++ [x]:=by simp
   by_cases h2:i.Op=2
   ·rw[if_pos h2]at h;refine wj (by simp[eI,h2]) (by simp[mG,h2]) (λwb=>We wb s F _ i _ v h2 kN (by omega)) ?_;rw[<-fN h];rfl
   rw[if_neg h2]at h;by_cases h6:i.Op=6
   ·rw[if_pos h6]at h;split at h
    ·rename_i cO;refine wj (by simp[eI,h6]) (by simp[mG,h6]) (λwb=>Wg wb s F _ i Fr _ _ v h6 rfl hlF kN (by omega) cO (by show f.aJ.length<=_;have:=hj.hL;omega)) ?_;rw[<-fN h];rfl
    ·cases h
   rw[if_neg h6]at h;by_cases h9:i.Op=9
   ·rw[if_pos h9]at h;refine u0 (by simp[eI,h9]) (λwb=>V6 wb s F _ i _ v h9 kN (by omega)) ?_;rw[<-fN h,Qy];rfl
   rw[if_neg h9]at h;by_cases dX:i.Op=10
   ·rw[if_pos dX]at h;refine u0 (by grind[eI]) (λwb=>Rk wb s F _ i _ v dX kN (by omega)) ?_;rw[<-fN h,Qy,qK];rfl
   rw[if_neg dX]at h;by_cases fT:i.Op=11
   ·rw[if_pos fT]at h;refine u0 (by grind[eI]) (λwb=>Rm wb s F _ i _ v fT kN (by omega)) ?_;rw[<-fN h,Qy,qK];rfl
   rw[if_neg fT]at h;by_cases CU:i.Op=22
   ·rw[if_pos CU]at h;obtain⟨jy,rQ⟩:=A8 h;refine yN (λwb=>aeS wb s F _ i _ v _ CU kN (by omega) (P8 v hv) jy) ?_;rw[<-rQ];rfl
   rw[if_neg CU]at h;by_cases zL:i.Op=23
   ·rw[if_pos zL]at h;obtain⟨jy,rQ⟩:=A8 h;refine yN (λwb=>aeU wb s F _ i _ v _ zL kN (by omega) (Co s.Tables v) (by rw[hT];exact jy)) ?_;rw[<-rQ,hT];rfl
   rw[if_neg zL]at h;by_cases Gz:i.Op=36
   ·rw[if_pos Gz]at h;split at h
    ·rename_i aS;have hw:=u1 ey aS;obtain⟨jy,rQ⟩:=A8 h;refine yN (λwb=>aeV wb s F _ i _ v _ Gz kN (by omega) (Mu s.Tables m.Told.World v (by grind) (by rw[hT];exact hw) (hw.flags ey)) (by rw[hT];exact jy)) ?_;rw[<-rQ,hT];rfl
    ·cases h
   rw[if_neg Gz]at h;by_cases h8:i.Op=8
   ·rw[if_pos h8]at h;cases S with
    | nil=>cases h
    | cons u S=>
    simp only at h;split at h
    ·cases h
    ·rename_i h9;have Qz:m.Stack=(m.Stack.take f.cE.toNat++S.reverse)++ [u,v]:=by grind
     have akw:(m.Stack.take f.cE.toNat++S.reverse).length<=20000:=by grind
     have hTR:i.Arg=9->m.Told.World.Child.length=m.Told.World.ah.length/\m.Told.World.Next.length=m.Told.World.ah.length:=by
      intro h9';have aS:okW c (iH m).W=true:=by
       grind
      have hw:=u1 ey aS;exact⟨hw.hC,hw.hN⟩
     unfold A1 at h;cases hp:iK (iH m).W i.Arg u v with
     | mk x e=>
     rw[hp]at h;by_cases he:e=0
     ·subst he;refine u0 (by simp[eI,h8]) (λwb=>Wa wb s F _ i _ v u x h8 Qz (by omega) hTR hp) ?_;rw[<-fN h];simp[B8,iH]
     ·simp only[if_neg he]at h;exact yO (by simp[eI,h8]) (λwb=>Wb wb s F _ i _ v u x e he h8 Qz (by omega) hTR hp) (lM h)
   rw[if_neg h8]at h;by_cases h2t:dr i.Op=2
   ·rw[if_pos h2t]at h;have Hj:i.Op=14\/i.Op=17:=by grind[dr]
    cases S with
    | nil=>cases h
    | cons u S=>
    simp only at h;have Qz:m.Stack=(m.Stack.take f.cE.toNat++S.reverse)++ [u,v]:=by grind
    have akw:(m.Stack.take f.cE.toNat++S.reverse).length<=20000:=by grind
    cases aS:okW c (iH m).W with
    | false=>grind[fy,dk,jS,wz]
    | true=>
    have hw:=u1 ey aS;have hd:=hw.W3 ey;rcases Hj with LY|h17
    ·simp[LY,fy,dk,aS,ot,aC]at h;cases hp:sI c.B.Tables (iH m).W u i.Arg v with
     | mk w' e=>
     rw[hp]at h;have LC:sI s.Tables m.Told.World u i.Arg v=(w',e):=by rw[hT];exact hp
     by_cases he:e=0
     ·subst he;refine wj (by grind[eI]) (by grind[mG]) (λwb=>RE wb s F _ i _ u v w' LY Qz (by omega) (by show m.Told.World.ah.length<=_;have:m.Told.World.ah.length<=128:=hd.1;omega) (by grind) (by rw[hT];exact hd.2.2.2.2.2.2) (by show m.Told.World.aM.length<=_;have:m.Told.World.aM.length<=2048:=hd.2.2.2.2.1;omega) LC) ?_;rw[<-fN h];rfl
     ·simp only[if_neg he]at h;exact A7 (by grind[eI]) (by grind[mG]) (λwb=>RF wb s F _ i _ u v w' e he LY Qz (by omega) (by show m.Told.World.ah.length<=_;have:m.Told.World.ah.length<=128:=hd.1;omega) (by grind) (by rw[hT];exact hd.2.2.2.2.2.2) (by show m.Told.World.aM.length<=_;have:m.Told.World.aM.length<=2048:=hd.2.2.2.2.1;omega) LC) (lM h)
    ·simp[h17,fy,dk,aS,ot,aC]at h;cases hp:oN c.B.Tables (iH m).W u v with
     | mk w' e=>
     rw[hp]at h;have LC:oN s.Tables m.Told.World u v=(w',e):=by rw[hT];exact hp
     have L9:jM s.Tables m.Told.World:=by rw[hT];exact hw
     by_cases he:e=0
     ·subst he;refine wj (by grind[eI]) (by grind[mG]) (λwb=>RN wb s F _ i _ u v w' h17 Qz (by omega) L9 LC) ?_;rw[<-fN h];rfl
     ·simp only[if_neg he]at h;exact A7 (by grind[eI]) (by grind[mG]) (λwb=>RO wb s F _ i _ u v w' e he h17 Qz (by omega) L9 LC) (lM h)
   rw[if_neg h2t]at h;have Hj:i.Op=12\/i.Op=13\/i.Op=19\/i.Op=20\/i.Op=4\/i.Op=15\/i.Op=16\/i.Op=18\/i.Op=31\/i.Op=32\/i.Op=34:=by
    by_cases hA:i.Op=12\/i.Op=13\/i.Op=19\/i.Op=20\/i.Op=4\/i.Op=15\/i.Op=16\/i.Op=18\/i.Op=31\/i.Op=32\/i.Op=34
    ·exact hA
    ·exfalso;have n0:i.Op≠3/\i.Op≠7/\i.Op≠28/\i.Op≠29/\i.Op≠30/\i.Op≠33:=by
      refine⟨?_,?_,?_,?_,?_,?_⟩<;>intro hq<;>exact h0 (by rw[hq];rfl)
     have n2:i.Op≠14/\i.Op≠17:=by
      refine⟨?_,?_⟩<;>intro hq<;>exact h2t (by rw[hq];rfl)
     obtain⟨a1,a2,a3,a4,a5,a6⟩:=n0;obtain⟨a7,a8⟩:=n2;have b1:i.Op≠12:=λhq=>hA (by omega)
     have b2:i.Op≠13:=λhq=>hA (by omega)
     have b3:i.Op≠19:=λhq=>hA (by omega)
     have b4:i.Op≠20:=λhq=>hA (by omega)
     have b5:i.Op≠4:=λhq=>hA (by omega)
     have b6:i.Op≠15:=λhq=>hA (by omega)
     have b7:i.Op≠16:=λhq=>hA (by omega)
     have b8:i.Op≠18:=λhq=>hA (by omega)
     have b9:i.Op≠31:=λhq=>hA (by omega)
     have b10:i.Op≠32:=λhq=>hA (by omega)
     have b11:i.Op≠34:=λhq=>hA (by omega)
     have e1:eQ i.Op=0:=by unfold eQ;omega
     have e2:fy i.Op=0:=by unfold fy;omega
     grind[wz]
   cases aS:okW c (iH m).W with
   | false=>grind[eQ,fy,dZ,dk,jS,wz]
   | true=>
   have hw:=u1 ey aS;have L9:jM s.Tables m.Told.World:=by rw[hT];exact hw
   obtain⟨d1,d2,d3,d4,d5,d6,d7⟩:=hw.W3 ey;have KM:fS m.Told.World:=hw.flags ey;have d1':m.Told.World.ah.length<=128:=d1;have d2':m.Told.World.Flags.length<=128:=d2;rcases Hj with uj|jb|mQ|MB|h4|r6|nB|vR|h31|iE|h34
   ·simp[uj,eQ,fy,dZ,dk,aS,sQ,ot,aC]at h;unfold abF at h;simp only at h;by_cases he:dO (iH m).W v i.Arg=0
    ·have kD:dO m.Told.World v i.Arg=0:=he;rw[if_pos he,if_pos he]at h;refine u0 (by grind[eI]) (λwb=>Rr wb s F _ i _ v (ff m.Told.World v i.Arg.toNat) uj kN (by omega) KM (by grind)) ?_;rw[<-fN h,Qy];rfl
    ·have kD:¬dO m.Told.World v i.Arg=0:=he;rw[if_neg he]at h;exact yO (by grind[eI]) (λwb=>Rs wb s F _ i _ v false (dO m.Told.World v i.Arg) kD uj kN (by omega) KM (by grind)) (lM h)
   ·simp[jb,eQ,fy,dZ,dk,aS,sQ,ot,aC]at h;cases hp:BV c.B.Tables (iH m).W v i.Arg with
    | mk w' e=>
    rw[hp]at h;by_cases he:e=0
    ·subst he;refine u0 (by grind[eI]) (λwb=>Rn wb s F _ i _ v w' jb kN (by omega) (by rw[hT];exact hp) (by grind) (by grind) (by rw[hT];exact d7)) ?_;rw[<-fN h,Qy];rfl
    ·simp only[if_neg he]at h;exact yO (by grind[eI]) (λwb=>Ro wb s F _ i _ v w' e he jb kN (by omega) (by rw[hT];exact hp) (by grind) (by grind) (by rw[hT];exact d7)) (lM h)
   ·simp[mQ,eQ,fy,dZ,dk,aS,sQ,ot,aC]at h;cases hp:dq (iH m).W i.Arg v with
    | mk w' e=>
    rw[hp]at h;by_cases he:e=0
    ·subst he;refine u0 (by grind[eI]) (λwb=>Rp wb s F _ i _ v w' mQ kN (by omega) hw.hC hw.hN hp) ?_;rw[<-fN h,Qy];rfl
    ·simp only[if_neg he]at h;exact yO (by grind[eI]) (λwb=>Rq wb s F _ i _ v w' e he mQ kN (by omega) hw.hC hw.hN hp) (lM h)
   ·simp[MB,eQ,fy,dZ,dk,aS,aC]at h;split at h
    ·rename_i hx;exact yO (by grind[eI]) (λwb=>RD wb s F _ i _ v MB kN (by omega) hx) (lM h)
    ·rename_i hx;refine u0 (by grind[eI]) (λwb=>RC wb s F _ i _ v MB kN (by omega) hx) ?_;have h':=fN (by simpa[jS]using h);rw[<-h',Qy];rfl
   ·simp[h4,eQ,fy,dZ,dk,aS,aC]at h;split at h
    ·rename_i cO;refine wj (by simp[eI,h4]) (by simp[mG,h4]) (λwb=>Wf wb s F _ i _ v h4 cO (by show m.Told.World.aW.length<=_;have:m.Told.World.aW.length<=64:=d3;omega) kN (by omega)) ?_;rw[<-fN h];rfl
    grind[jS,wz]
   ·simp[r6,eQ,fy,dZ,dk,aS,sQ,ot,aC]at h;cases hp:ig (iH m).W v i.Arg true with
    | mk w' e=>
    rw[hp]at h;by_cases he:e=0
    ·subst he;refine wj (by grind[eI]) (by grind[mG]) (λwb=>Rw wb s F _ i _ v w' r6 kN (by omega) KM (by grind) hp) ?_;rw[<-fN h];rfl
    ·simp only[if_neg he]at h;exact A7 (by grind[eI]) (by grind[mG]) (λwb=>Rx wb s F _ i _ v w' e he r6 kN (by omega) KM (by grind) hp) (lM h)
   ·simp[nB,eQ,fy,dZ,dk,aS,sQ,ot,aC]at h;cases hp:ig (iH m).W v i.Arg false with
    | mk w' e=>
    rw[hp]at h;by_cases he:e=0
    ·subst he;refine wj (by grind[eI]) (by grind[mG]) (λwb=>Rz wb s F _ i _ v w' nB kN (by omega) KM (by grind) hp) ?_;rw[<-fN h];rfl
    ·simp only[if_neg he]at h;exact A7 (by grind[eI]) (by grind[mG]) (λwb=>RA wb s F _ i _ v w' e he nB kN (by omega) KM (by grind) hp) (lM h)
   ·simp[vR,eQ,fy,dZ,dk,aS,sQ,ot,aC]at h;cases hp:kI c.B.Tables (iH m).W v with
    | mk w' e=>
    rw[hp]at h;by_cases he:e=0
    ·subst he;refine wj (by grind[eI]) (by grind[mG]) (λwb=>RQ wb s F _ i _ v w' vR kN (by omega) L9 (by rw[hT];exact hp)) ?_;rw[<-fN h];rfl
    ·simp only[if_neg he]at h;exact A7 (by grind[eI]) (by grind[mG]) (λwb=>RR wb s F _ i _ v w' e he vR kN (by omega) L9 (by rw[hT];exact hp)) (lM h)
   ·simp[h31,eQ,fy,dZ,dk,aS,aC]at h;refine wj (by grind[eI]) (by grind[mG]) (λwb=>RB wb s F _ i _ v h31 kN (by omega)) ?_;rw[<-fN h];rfl
   ·simp[iE,eQ,fy,dZ,dk,aS,aC]at h;split at h
    ·rename_i cO;refine wj (by grind[eI]) (by grind[mG]) (λwb=>RH wb s F _ i _ v iE kN (by omega) cO (by show m.Told.World.bO.length<=_;have:m.Told.World.bO.length<=16:=d4;omega)) ?_;rw[<-fN h];rfl
    grind[jS,wz]
   ·simp[h34,eQ,fy,dZ,dk,aS,aC]at h;split at h
    ·rename_i hx;exact A7 (by grind[eI]) (by grind[mG]) (λwb=>Rv wb s F _ i _ v h34 kN (by omega) (by omega)) (lM h)
    ·rename_i hx;refine wj (by grind[eI]) (by grind[mG]) (λwb=>Ru wb s F _ i _ v h34 kN (by omega) (by omega)) ?_;rw[<-fN h];rfl
end
structure Nd(c:XC) (s:an):Prop where
 hT:s.Tables=c.B.Tables
 ey:fF c.B.Tables=true
 hE:s.Entry.length=c.B.Tables.Params.length
 hC:s.Code.length<=65536
 hb:∀y∈s.Code,0<=y/\y<=255
theorem Dz{b:br}{s:an}(env:cH)(M:Int)(h:cZ b=(s,0)):Nd ⟨b,env,M⟩ s:=by
 obtain⟨h1,h2,h3,h4,-⟩:=qR h;have hB:=vu h1;exact⟨h2,hB.fits,by rw[h3];exact hB.len,h4,R5 h⟩
structure agX(c:XC) (s:an) (m:aj) (f:aG) (i:ae) (r:Nat) (e:Int) (N:Nat) (S a:List Int):Prop where
 hA:0<=i.Arg
 hf:s.Tables.cS[i.Arg.toNat]?=some (r:Int)
 he:s.Entry[r]?=some e
 hn:s.Tables.aJ[r]?=some (N:Int)
 hN:N<=1000
 hp:s.Tables.Params[r]?=some (a.length:Int)
 ha:a.length<=N
 hS:m.Stack=S++a
 iE:m.Frames.length<32
theorem adC{c:XC}{s:an}(hs:Nd c s){a:Int}(h:0<=(aX c).fn a):0<=a/\s.Tables.cS[a.toNat]?=some ((aX c).fn a):=by
 have e:(aX c).fn a=if eJ c.B.Tables.cS a then aC c.B.Tables.cS a else -1:=rfl
 rw[e]at h⊢;split at h
 ·rename_i cO;rw[if_pos cO,hs.hT];exact⟨cO.1,tw cO⟩
 ·omega
theorem afc{c:XC}{s:an}{m m':aj}{Fr:List aG}{f:aG}{i:ae}{k:Int}(hs:Nd c s)(hB:0≤f.cE∧f.cE≤m.Stack.length)(ay:¬32≤m.Frames.length)(h:y7 (aX c) s m Fr f k ((aX c).fn i.Arg)=some m'):
  ∃r e N S a,agX c s m f i r e N S a/\m'={m with Stack:=S,Frames:=Fr++ [{f with At:=k}]++ [⟨r,e,S.length,a.map ax++List.replicate (N-a.length) 0⟩]}:=by
 unfold y7 at h;split at h
 ·rename_i hp;obtain⟨nz,qi⟩:=hp;have hf:=adC hs (a:=i.Arg) qi.1;generalize (aX c).fn i.Arg=r at *;obtain⟨R,rfl⟩:∃R:Nat,r=R:=⟨r.toNat,by have:=qi.1;omega⟩
  obtain⟨-,pE,-⟩:=oS hs.ey;have hdm:=gC hs.ey;have hE:=hs.hE;have hRp:R<c.B.Tables.Params.length:=by have:=qi.2;omega
  have hr:=pE R (by omega) (by omega);have hRl:R<c.B.Tables.aJ.length:=by omega
  have hpa:(aX c).pa R=(aC c.B.Tables.Params R).toNat:=rfl;have gp:c.B.Tables.Params[R]?=some (aC c.B.Tables.Params R):=tw (x:=(R:Int)) ⟨by omega,by omega⟩;have gl:c.B.Tables.aJ[R]?=some (aC c.B.Tables.aJ R):=tw (x:=(R:Int)) ⟨by omega,by omega⟩;have ge:s.Entry[R]?=some (aC s.Entry R):=tw (x:=(R:Int)) qi;have AI:(dI m f).length<=m.Stack.length:=by unfold dI;simp
  have nD:((dI m f).take ((aX c).pa R)).reverse.length=(aX c).pa R:=by rw[aqY,aqs];omega
  have bx:m.Stack=m.Stack.take (m.Stack.length-(aX c).pa R)++((dI m f).take ((aX c).pa R)).reverse:=by
   have hA:m.Stack=m.Stack.take f.cE.toNat++(dI m f).reverse:=by unfold dI;rw[arS,aqh]
   have bn:(dI m f).reverse=((dI m f).drop ((aX c).pa R)).reverse++((dI m f).take ((aX c).pa R)).reverse:=by rw[<-arI,aqh]
   have CS:m.Stack=(m.Stack.take f.cE.toNat++((dI m f).drop ((aX c).pa R)).reverse)++((dI m f).take ((aX c).pa R)).reverse:=by
    rw[ap0,<-bn];exact hA
   have nv:m.Stack.length-(aX c).pa R=(m.Stack.take f.cE.toNat++((dI m f).drop ((aX c).pa R)).reverse).length:=by
    have:=congrArg List.length CS;rw[apX (bs:=((dI m f).take ((aX c).pa R)).reverse),nD]at this;omega
   rw[nv]
   conv=>lhs;rw[CS]
   conv=>rhs;arg 1;arg 2;rw[CS]
   rw[List.take_left]
  have hlen:(m.Stack.take (m.Stack.length-(aX c).pa R)).length=m.Stack.length-(aX c).pa R:=by rw[aqs];omega
  refine⟨R,aC s.Entry R,(aC c.B.Tables.aJ R).toNat,m.Stack.take (m.Stack.length-(aX c).pa R),((dI m f).take ((aX c).pa R)).reverse,⟨hf.1,hf.2,ge,?_,by omega,?_,by omega,bx,by omega⟩,?_⟩
  ·rw[hs.hT,gl];congr 1;omega
  ·rw[hs.hT,gp,nD,hpa];congr 1;omega
  ·rw[<-apO h,hlen];rfl
 ·cases h
theorem MU{α:Type}{l:List α}{x:α}(h:l.getLast?=some x):l=l.dropLast++ [x]:=by
 have bU:l≠ []:=by intro e;rw[e]at h;cases h
 have:=arM bU;rw[aro bU,akC]at h;rw[h]at this;exact this.symm
theorem vy{c:XC}{s:an}{F:Int}{w0:ai}{n:Nat}{m m':aj}(hs:Nd c s)(hj:Jv c w0 n m)(hn:n≤10000)(hFM:F < m.Told.Fuel+1↔c.M < m.Told.Fuel+1)(h:db (aX c) s m=some m'):
  Pure prog 13 [.agg (s.enc.map .d),.agg (m.enc.map .d),iD F] (.agg (m'.enc.map .d)):=by
 unfold db at h;split at h
 ·rename_i hd;rw[<-apO h];exact PW s m F hd
 rename_i hd;have hd:m.bX=false:=by simpa using hd
 split at h
 ·rename_i f hf;split at h
  ·rename_i hB;have uw:=MU hf;generalize m.Frames.dropLast=Fr at *;have iE:=hj.iE;have wC:=hj.hS;have L4:Fr.length+1<=32:=by rw[uw]at iE;simpa using iE
   have xV:=Ak s.Code f.At hs.hb (by have:=hs.hC;omega);obtain⟨i,k,e,hx⟩:∃i k e,mA s.Code f.At=(i,k,e):=⟨_,_,_,rfl⟩
   rw[hx]at h xV;refine yG s m m' F Fr f i k e hd uw (by omega) (by omega) xV ?_;have hW:=hj.hW;have hA:m.Stack=m.Stack.take f.cE.toNat++(dI m f).reverse:=by unfold dI;rw[arS,aqh]
   have hLf:f.aJ.length<=40:=hj.hL f (by rw[uw];simp);have hF0:=hj.hF;unfold oE at h;simp only at h;by_cases he:e=0
   ·subst he;have iY:=agW hs.hb hx;have hC:=hs.hC;rw[if_neg (by simp)]at h;by_cases fe:i.Op=24
    ·rw[if_pos fe]at h;refine yN (λwb=>Zo wb s F _ Fr {f with At:=k} i fe rfl (by omega) (by rw[aR];show _<=k+i.Arg/\k+i.Arg<=_;omega)) ?_;rw[<-apO h]
    rw[if_neg fe]at h;by_cases gL:i.Op=25
    ·rw[if_pos gL]at h;unfold Bm at h;cases A6:dI m f with
     | nil=>rw[A6]at h;cases h
     | cons v S=>
       rw[A6]at h hA;have kN:m.Stack=(m.Stack.take f.cE.toNat++S.reverse)++ [v]:=by rw[ap0,<-arL];exact hA
       have hlA:(m.Stack.take f.cE.toNat++S.reverse).length<=20000:=by
        have:=congrArg List.length kN;rw[apX,List.length_singleton]at this;omega
       have hv:ax v=v:=hW v (by rw[kN];simp);refine yN (λwb=>Zq wb s F _ Fr {f with At:=k} i _ v gL rfl (by omega) kN (by omega) (by rw[aR];show _<=k+i.Arg/\k+i.Arg<=_;omega)) ?_;rw[<-apO h,hv]
    rw[if_neg gL]at h;by_cases rC:i.Op=27
    ·rw[if_pos rC]at h;unfold GS at h;cases A6:dI m f with
     | nil=>rw[A6]at h;cases h
     | cons v S=>
       rw[A6]at h hA;have kN:m.Stack=(m.Stack.take f.cE.toNat++S.reverse)++ [v]:=by rw[ap0,<-arL];exact hA
       have hlA:(m.Stack.take f.cE.toNat++S.reverse).length<=20000:=by
        have:=congrArg List.length kN;rw[apX,List.length_singleton]at this;omega
       have hBl:f.cE.toNat<=(m.Stack.take f.cE.toNat++S.reverse).length:=by
        rw[apX,aqs];omega
       have AQ:(m.Stack.take f.cE.toNat++S.reverse).take f.cE.toNat=m.Stack.take f.cE.toNat:=by
        rw[List.take_append_of_le_length (by rw[aqs];omega),List.take_take,Nat.min_self]
       refine yN (λwb=>Gq wb s F _ i Fr {f with At:=k} _ v rC rfl (by omega) kN ⟨hB.1,by show f.cE<=_;omega⟩ (by omega)) ?_;rw[<-apO h,AQ]
    rw[if_neg rC]at h;by_cases nP:i.Op=26
    ·rw[if_pos nP]at h;by_cases ay:32<=m.Frames.length
     ·rw[if_pos ay]at h;split at h
      ·rename_i CL;obtain⟨g1,g2⟩:=adC hs CL;refine Qx (λwb=>ZH wb s F _ i _ nP g1 g2 (by show 32<=(Fr++ [_]).length;simp;rw[uw]at ay;simpa using ay)) (apO h)
      ·cases h
     ·rw[if_neg ay]at h;obtain⟨r,e,N,S,a,hc,he⟩:=afc hs hB ay h;have akx:S.length<=1000000:=by
       have:=congrArg List.length hc.hS;rw[apX]at this;omega
      refine .inr (.inr (.inl ⟨rfl,λwb=>?_⟩));rw[he];exact Zs wb s F _ i r e N S a nP hc.hA hc.hf hc.he hc.hn hc.hN hc.hp hc.ha hc.hS akx (by show(Fr++ [_]).length<32;have:=hc.iE;rw[uw]at this;simp at this⊢;exact this)
    rw[if_neg nP]at h;exact aah ⟨hs.hT,hs.ey,hj.hE,uw,hd,hj.iE,by omega,hW,hB,by omega,⟨hF0.1,by omega⟩,hFM⟩ h
   ·rw[if_pos he]at h;cases h
  ·cases h
 ·cases h
@[simp] theorem aG.apL(f:aG)(n:Int):List.take 1 (f.enc.map V.d)++V.d (.v (.int .i64 n))::List.drop 2 (f.enc.map V.d)=({f with At:=n}:aG).enc.map V.d:=rfl
@[simp] theorem aG.Z7(f:aG):List.take 4 (f.enc.map V.d)=f.enc.map V.d:=rfl
section
variable {c : XC} {s : an} {F : Int} {m m' : aj} {Fr : List aG} {f : aG} {i : ae} {k : Int}
end
def Cx(F:Int):Int:=min F 1000
theorem W4{w w':ai}(h:gu w w')(hs:vP w):vP w':=by
 unfold gu at h;unfold vP at *;omega
theorem Jv.short{c:XC}{w0:ai}{n:Nat}{m:aj}(h:Jv c w0 n m)(hn:n<=10000)(hs:vP w0):Zj m:=
 ⟨by have:=h.hS;omega,by have:=h.iE;omega,λf hf=>by have:=h.hL f hf;omega,W4 h.hw hs⟩
theorem aai{t:aq}{w:ai}(hf:fF t=true)(wv:jM t w):vP w:=by
 have hdm:=gC hf;have k1:=wv.hC;have k2:=wv.hN;have k3:=wv.hT;have k4:=wv.hF;have k5:=wv.hP;have k6:=wv.hG;have k7:=wv.hD;have k8:=wv.hn;have k9:=wv.hp;have oa:t.aB.length *t.aM.length<=128 *16:=ar9 k8.2 k9;unfold vP;omega
theorem zM{K:eA}{s:an}{Ms:Nat->aj}(h:∀i,db K s (Ms i)=some (Ms (i+1))):∀n,iterM K s n (Ms 0)=some (Ms n)
 | 0=>rfl
 | n+1=>by rw[tj,zM h n];simp[iterM,h]
theorem W5{c:XC}{s:an}{w0:ai}{m0:aj}(ey:fF c.B.Tables=true)(Qv:s.Entry.length=c.B.Tables.Params.length)(k1:∀i,∃mi,iterM (aX c) s i m0=some mi)(k2:Jv c w0 0 m0):
  ∃Ms:Nat->aj,Ms 0=m0/\∀i,Jv c w0 i (Ms i)/\db (aX c) s (Ms i)=some (Ms (i+1)):=by
 generalize hK:aX c=K at k1;obtain⟨Ms,jg⟩:=asa k1;refine⟨Ms,?_,λi=>⟨?_,?_⟩⟩
 ·have:=jg 0;rw[iterM]at this;exact(apO this).symm
 ·have hi:=jg i;rw[<-hK]at hi;have:=TQ ey Qv i 0 m0 (Ms i) k2 hi;rw[aqB]at this;exact this
 ·have hi:=jg i;have hj:=jg (i+1);rw[tj,hi]at hj;simp only[arf]at hj;rw[iterM]at hj;cases h:db K s (Ms i)with
  | none=>rw[h]at hj;cases hj
  | some x=>rw[h]at hj;simp only[arf,iterM]at hj;exact hj
theorem y9{b:br}{s:an}{w:ai}(hs:cZ b=(s,0))(hw:bS b.Tables w=true)(TJ:0≤w.dN∧w.dN < 18446744073709551616)(r:Int)(a:List Int)(env:cH)(M:Int)(hM:M≤1000000):
  ∃Ms:Nat->aj,Ms 0=kR s w r a env/\(∀i,Jv ⟨b,env,M⟩ w i (Ms i)/\db (aX ⟨b,env,M⟩) s (Ms i)=some (Ms (i+1)))/\∃n,(Ms n).bX=true/\((Ms n).Told.kC=0->okW ⟨b,env,M⟩ (Ms n).Told.World=true):=by
 obtain⟨qj,hT,hE,-,-⟩:=qR hs;have hB:=vu qj;obtain⟨-,pE,-⟩:=oS hB.fits;have Qv:s.Entry.length=b.Tables.Params.length:=by rw[hE];exact hB.len
 have key:(∃n m',iterM (aX ⟨b,env,M⟩) s n (kR s w r a env)=some m'/\m'.bX=true/\(m'.Told.kC=0->okW ⟨b,env,M⟩ m'.Told.World=true))/\Jv ⟨b,env,M⟩ w 0 (kR s w r a env):=by
  unfold kR;split
  ·exact⟨⟨0,_,rfl,rfl,λh=>by simp at h⟩,⟨rfl,by simp,by simp,by intro n hn;simp at hn,by simp,⟨aql _,aql _⟩,fW w⟩⟩
  ·rename_i hr;split
   ·exact⟨⟨0,_,rfl,rfl,λh=>by simp at h⟩,⟨rfl,by simp,by simp,by intro n hn;simp at hn,by simp,⟨aql _,aql _⟩,fW w⟩⟩
   ·rename_i nD;rw[hT]at hr nD;have cO:0<=r/\r<b.Tables.Params.length:=by omega
    have fB:=pE r cO.1 cO.2;have aky:(a.length:Int)<=aC b.Tables.aJ r:=by omega
    have hle:a.length<=(aC s.Tables.aJ r).toNat:=by rw[hT];omega
    rw[Cv a _ hle];constructor
    ·obtain⟨g,σ',o,hc,hrl⟩:=ae6 (c:=⟨b,env,M⟩) hB hM (kE.2 ⟨hw,TJ⟩) (r:=r) (a:=a) (by show 0<=r/\r<(b.aF.length:Int);have:=hB.len;omega) aky;obtain⟨n,m',h1,h2,h3⟩:=Qm hs hc (by show 0<=r/\r<(b.aF.length:Int);have:=hB.len;omega);unfold adx gM at h1;rw[hT];refine⟨n,m',h1,?_⟩;cases o with
     | bL v=>unfold ady at h2;rw[h2];exact⟨rfl,λ_=>hrl.w⟩
     | bm e=>
       obtain⟨k1,-,W,k2⟩:=h2;rw[k2];exact⟨k1,λh=>absurd h (h3 e rfl)⟩
     | over=>rw[h2.2.2];exact⟨h2.1,λ_=>hrl.w⟩
     | ret n=>exact h2.elim
    ·refine⟨rfl,by simp,by simp,by intro n hn;simp at hn,?_,⟨aql _,aql _⟩,fW w⟩;intro f hf;simp at hf;rw[hf];simp only[apX,aqg,List.length_replicate];rw[hT];omega
 obtain⟨⟨n,m',k1,k3,k4⟩,k2⟩:=key;obtain⟨Ms,e0,jg⟩:=W5 (c:=⟨b,env,M⟩) hB.fits Qv (λi=>WQ k1 k3 i) k2;refine⟨Ms,e0,jg,n,?_⟩;have gR:=zM (λi=>(jg i).2) n;rw[e0,k1,akC]at gR;rw[<-gR];exact⟨k3,k4⟩
set_option maxHeartbeats 8000000
set_option maxRecDepth 40000
set_option maxHeartbeats 200000
set_option maxRecDepth 20000
theorem QA{x:List D}:∀{L:List (List D)},x∈L->iN x<=lk L
 | [],h=>by cases h
 | y::L,h=>by
   rw[lk];rcases ap8.1 h with rfl|h
   ·omega
   ·have:=QA h;omega
theorem TS{x:D}:∀{L:List D},x∈L->bD x<=iN L
 | [],h=>by cases h
 | y::L,h=>by
   rw[iN];rcases ap8.1 h with rfl|h
   ·omega
   ·have:=TS h;omega
theorem zU{L:List (List al)}{E:List D}(h2:D.sl (oF (List.map al.enc) L)∈E){r:List (List D)}(hB:lk (E::r)<=1048576):∀l∈L,gB l<=30000000:=by
 intro l hl;have h1:iN E<=1048576:=by rw[lk]at hB;omega
 have h3:=TS h2;rw[bD]at h3;have h4:[D.sl (l.map al.enc)]∈oF (List.map al.enc) L:=apV.2 ⟨l,hl,rfl⟩;have h5:=QA h4;simp only[iN,bD]at h5;have h6:=acI _ l (ap5 _);omega
theorem KN{b:br}{r:List (List D)}(hB:lk (b.enc::r)<=1048576):∀l∈b.aF,gB l<=30000000:=zU (by simp[br.enc]) hB
set_option maxHeartbeats 4000000
theorem sX{b:br}{w:ai}{s:an}(hw:w.wf)(hs:cZ b=(s,0))(mr:bS b.Tables w=true):
  fF b.Tables=true/\jM b.Tables w/\
   ∀r a env,Pure prog 11 [.agg (s.enc.map .d),.agg (w.enc.map .d),iD r,.d (.sl (aD a)),.agg (env.enc.map .d)] (.agg ((kR s w r a env).enc.map .d))/\
    Pure prog 12 [.agg (s.enc.map .d),.agg (w.enc.map .d),iD r,.d (.sl (aD a)),.agg (env.enc.map .d)] (.agg ((kR s w r a env).enc.map .d)):=by
 obtain⟨qj,hT,hE⟩:=H7 hs;have pP:=qj;unfold dS at pP;simp only[apP,decide_eq_true_eq]at pP;have hf:=pP.1.1;have hRl:=pP.1.2;have hdm:=gC hf;obtain⟨-,pE,-⟩:=oS hf;have wv:=jM.of hf mr (H5 hw);have l1:s.Entry.length=s.Tables.Params.length:=by rw[hT,hE];exact hRl
 have l2:s.Tables.aJ.length=s.Tables.Params.length:=by rw[hT];omega
 have l3:∀n∈s.Tables.aJ,0<=n/\n<=1000000:=by
  intro n hn;rw[hT]at hn;obtain⟨k,hk,YO⟩:=arp hn;have:=pE k (by omega) (by omega);have hg:aC b.Tables.aJ k=n:=by unfold aC;rw[asd,anc hk,YO];rfl
  rw[hg]at this;omega
 refine⟨hf,wv,λr a env=>⟨?_,V1 s w r a env l1 l2 l3⟩⟩;refine Ck s w r a env l1 l2 l3 ?_;intro r e n he hn rS ha;have hle:a.length<=n:=by
  obtain⟨hk,YO⟩:=apQ.1 hn;have h1:=pE r (by omega) (by rw[hT]at l2 hk;omega);have hg:aC s.Tables.aJ r=n:=by unfold aC;rw[asd,hn];rfl
  rw[hT]at hg ha;omega
 have:=wW s r e n he hn rS a hle 0;rw[Cv _ _ hle];exact this
theorem acO{b:br}{w:ai}(hb:b.wf)(hw:w.wf)(hz:∀l∈b.aF,gB l≤30000000)(aS:(jT b w).2=true):
  ∃s,cZ b=(s,0)/\Pure prog 9 [.agg (b.enc.map .d),.agg (w.enc.map .d)] (.bM [.agg (s.enc.map .d),oD true])/\fF b.Tables=true/\bS b.Tables w=true/\jM b.Tables w/\
   ∀r a env,Pure prog 11 [.agg (s.enc.map .d),.agg (w.enc.map .d),iD r,.d (.sl (aD a)),.agg (env.enc.map .d)] (.agg ((kR s w r a env).enc.map .d))/\
    Pure prog 12 [.agg (s.enc.map .d),.agg (w.enc.map .d),iD r,.d (.sl (aD a)),.agg (env.enc.map .d)] (.agg ((kR s w r a env).enc.map .d)):=by
 have bx:=Mz b w hb hw hz;obtain⟨s,hs⟩:∃s,cZ b=(s,0):=by
  unfold jT at aS;split at aS
  ·exact⟨(cZ b).1,Prod.ext rfl (by simpa using aS)⟩
  ·cases aS
 have W6:My b w=true:=by
  unfold jT at aS;split at aS
  ·assumption
  ·cases aS
 have mr:bS b.Tables w=true:=by
  unfold My at W6;simp only[apP]at W6;exact W6.2
 have e1:(jT b w).1=s:=by unfold jT;rw[if_pos W6,hs]
 rw[aS,e1]at bx;obtain⟨h1,h2,h3⟩:=sX hw hs mr;exact⟨s,hs,bx,h1,mr,h2,h3⟩
set_option maxHeartbeats 200000
set_option maxRecDepth 512
theorem y8{c:XC}{s:an}{m m':aj}(h:db (aX c) s m=some m'):m.Told.Fuel<=m'.Told.Fuel/\m.Told.Out.size<=m'.Told.Out.size/\(m.Told.Fuel<=max c.M 0->m'.Told.Fuel<=max c.M 0):=by
 have same:∀{m1:aj},some m1=some m'->m1.Told.Fuel=m.Told.Fuel->m1.Told.Out=m.Told.Out->m.Told.Fuel<=m'.Told.Fuel/\m.Told.Out.size<=m'.Told.Out.size/\(m.Told.Fuel<=max c.M 0->m'.Told.Fuel<=max c.M 0):=by
  intro m1 e h1 h2;rw[<-apO e,h1,h2];exact⟨aql _,apU _,id⟩
 unfold db at h;split at h
 ·exact same h rfl rfl
 split at h
 ·rename_i f hf;split at h
  ·generalize mA s.Code f.At=x at h;obtain⟨i,k,e⟩:=x;unfold oE Bm GS y7 at h;simp only at h;split at h
   ·cases h
   split at h
   ·exact same h rfl rfl
   split at h
   ·split at h
    ·exact same h rfl rfl
    ·cases h
   split at h
   ·split at h
    ·exact same h (by split<;>rfl) (by split<;>rfl)
    ·cases h
   split at h
   ·split at h
    ·split at h
     ·exact same h rfl rfl
     ·cases h
    ·split at h
     ·exact same h rfl rfl
     ·cases h
   cases hJ:(aX c).J i (dI m f) f.aJ (iH m)with
   | none=>rw[hJ]at h;cases h
   | some ev=>
     have aS:wi c (dI m f) f.aJ (iH m) ev:=instJ_ok hJ;rw[hJ]at h;cases ev with
     | bm e=>exact same h rfl rfl
     | over σ'=>exact same h aS.1 aS.2
     | ok S' L' σ'=>
       rw[<-apO h];obtain⟨⟨f1,f2,f3⟩,g,-⟩:=aS;have f3':σ'.Fuel<=max m.Told.Fuel c.M:=f3;exact⟨f1,g,λh=>by show σ'.Fuel<=_;omega⟩
  ·cases h
 ·cases h
theorem R6{K:eA}{s:an}{m m':aj}(h:db K s m=some m')(hd:m.bX=false):0<m.Frames.length:=by
 unfold db at h;rw[if_neg (by rw[hd];simp)]at h;cases hf:m.Frames.getLast? with
 | none=>rw[hf]at h;cases h
 | some f=>exact aqz.2 λe=>by rw[e]at hf;cases hf
set_option maxHeartbeats 8000000
set_option maxRecDepth 40000
theorem Cy(b:br)(w:ai)(c:qW)(s:an)(ok:Bool)(bx:Pure prog 9 [.agg (b.enc.map .d),.agg (w.enc.map .d)] (.bM [.agg (s.enc.map .d),oD ok]))(h:ok=false∨20 < c.av.length∨200 < c.Steps):
  Pure prog 5 [.agg (b.enc.map .d),.agg (w.enc.map .d),.agg (c.enc.map .d)] (oD true):=by
 have tK:=Jx;cases ok with
 | false=>
   refine rn func5 ?_;simp[-cB,Tryz.f5];intro bs;refine pC bx ?_;simp[-cB];intro cI;refine pC tK ?_;simp[-cB]
 | true=>
   by_cases MB:20<c.av.length
   ·have QB:(20:Int)<c.av.length:=by omega
    refine rn func5 ?_;simp[-cB,Tryz.f5];intro bs;refine pC bx ?_;simp[-cB,QB];intro cI;refine pC tK ?_;simp[-cB]
   ·have QB:¬(20:Int)<c.av.length:=by omega
    have W7:200<c.Steps:=by simpa[MB]using h
    refine rn func5 ?_;simp[-cB,Tryz.f5];intro bs;refine pC bx ?_;simp[-cB,QB,W7];intro cI;refine pC tK ?_;simp[-cB]
def aiw(F:Int)(m m':aj):Prop:=¬max F 0<m'.Told.Fuel/\¬m'.Told.Fuel<m.Told.Fuel/\¬(32:Int)<m'.Frames.length/\¬300 *(m.Frames.length:Int)<m'.Stack.length/\¬(m'.Told.Out.size:Int)<m.Told.Out.size/\m.Frames.length<=32
theorem QC(b:br)(w:ai)(c:qW)(s:an)(Ms:Nat→aj)(bx:Pure prog 9 [.agg (b.enc.map .d),.agg (w.enc.map .d)] (.bM [.agg (s.enc.map .d),oD true]))(MB:c.av.length≤20)(W7:c.Steps≤200)
  (Ay:Pure prog 11 [.agg (s.enc.map .d),.agg (w.enc.map .d),iD c.dF,.d (.sl (aD c.av)),.agg (c.Env.enc.map .d)] (.agg ((Ms 0).enc.map .d)))
  (pP:Pure prog 12 [.agg (s.enc.map .d),.agg (w.enc.map .d),iD c.dF,.d (.sl (aD c.av)),.agg (c.Env.enc.map .d)] (.agg ((Ms 0).enc.map .d)))
  (hp:∀i,i<=200->Pure prog 13 [.agg (s.enc.map .d),.agg ((Ms i).enc.map .d),iD c.Fuel] (.agg ((Ms (i+1)).enc.map .d)))
  (vw:Pure prog 15 [.agg ((Ms 0).enc.map .d),.agg ((Ms 0).enc.map .d)] (oD true))
  (hk:∀i,i<=200->(Ms i).bX=false->aiw c.Fuel (Ms i) (Ms (i+1))):
  Pure prog 5 [.agg (b.enc.map .d),.agg (w.enc.map .d),.agg (c.enc.map .d)] (oD true):=by
 have tK:=Jx;have QB:¬(20:Int)<c.av.length:=by omega
 have aix:¬200<c.Steps:=by omega
 have hF:(if c.Fuel<0 then 0 else c.Fuel)=max c.Fuel 0:=by rw[Int.max_def];split<;>split<;>omega
 refine rn func5 ?_;simp[-cB,Tryz.f5];intro bs;refine pC bx ?_;simp[-cB,QB,aix];intro cI;refine pC Ay ?_;simp[-cB];intro H8;refine pC pP ?_;simp[-cB];intro bs4;intro bs5;refine aw.cX [5,7,9,10,11,12] c.Steps.toNat (λi=> [(12,iD i)]) (λi=> [(11,.box (bs5 0+1) 50 ((Ms i).enc.map .d))]) (λ_=>True) (by rfl) (by simp) ?_;intro i hi _;by_cases rD:i<c.Steps.toNat/\(Ms i).bX=false
 ·obtain⟨ay,hd⟩:=rD;obtain⟨k1,k2,k3,k4,k5,k6⟩:=hk i (by omega) hd;have dw:(i:Int)<c.Steps:=by omega
  have da:aN .i64 ((i:Int)+1):=iW;have hm:aN .i64 (300 *((Ms i).Frames.length:Int)):=iW;have j1:=hp i (by omega);simp[-cB,dw,hd];refine pC j1 ?_;simp[-cB,hF,k1,k2,k3,k4,k5,hm];exact⟨da,dw⟩
 ·have akz:(decide ((i:Int)<c.Steps)&&!(Ms i).bX)=false:=by
   rw[aq4,decide_eq_false_iff_not,ar6];rcases apW hi with ay|heq
   ·right;cases hd:(Ms i).bX with
    | true=>rfl
    | false=>exact(rD ⟨ay,hd⟩).elim
   ·left;omega
  by_cases dw:(i:Int)<c.Steps
  ·have hd:(Ms i).bX=true:=by simpa[dw]using akz
   simp[-cB,dw,hd];refine pC vw ?_;simp[-cB];refine ar.fE rfl (λh=>tK) rfl (by first|rfl|(simp;done)|(simp;rfl)) (by simp) (by simp) rfl ?_;simp[-cB]
  ·simp[-cB,dw];refine pC vw ?_;simp[-cB];refine ar.fE rfl (λh=>tK) rfl (by first|rfl|(simp;done)|(simp;rfl)) (by simp) (by simp) rfl ?_;simp[-cB]
theorem W8(b:br)(w:ai)(c:qW)(hb:b.wf)(hw:w.wf)(hz:∀l∈b.aF,gB l<=30000000):Pure prog 5 [.agg (b.enc.map .d),.agg (w.enc.map .d),.agg (c.enc.map .d)] (oD true):=by
 cases aS:(jT b w).2 with
 | false=>
   have bx:=Mz b w hb hw hz;rw[aS]at bx;exact Cy b w c _ false bx (.inl rfl)
 | true=>
   obtain⟨s,hs,bx,hf,mr,wv,acP⟩:=acO hb hw hz aS;by_cases MB:20<c.av.length
   ·exact Cy b w c s true bx (.inr (.inl MB))
   by_cases W7:200<c.Steps
   ·exact Cy b w c s true bx (.inr (.inr W7))
   obtain⟨Ms,CV,jg,-⟩:=y9 hs mr (H5 hw) c.dF c.av c.Env (Cx c.Fuel) (by unfold Cx;omega);have lQ:=Dz c.Env (Cx c.Fuel) hs;have hF:∀i,i<=200->(c.Fuel<(Ms i).Told.Fuel+1↔Cx c.Fuel<(Ms i).Told.Fuel+1):=by
    intro i hi;have:=(jg i).1.hF;unfold Cx;omega
   have hg:=acP c.dF c.av c.Env;rw[<-CV]at hg;have mL:∀i,(Ms i).Told.Fuel<=max (Cx c.Fuel) 0:=by
    intro i
    induction i with
    | zero=>
      rw[CV];unfold kR;split
      ·show(0:Int)<=_;omega
      ·split<;>(show(0:Int)<=_;omega)
    | succ i ih=>exact(y8 (jg i).2).2.2 ih
   refine QC b w c s Ms bx (by omega) (by omega) hg.1 hg.2
    (λi hi=>vy lQ (jg i).1 (by omega) (hF i hi) (jg i).2)
    (V2 _ ((jg 0).1.short (by omega) (aai hf wv))) (λi hi hd=>?_)
   have k1:=y8 (jg i).2;have k2:=(jg (i+1)).1.iE;have k3:=(jg (i+1)).1.hS;have k4:=(jg i).1.iE;have k5:=R6 (jg i).2 hd;have k6:=mL (i+1);unfold Cx at k6;exact⟨by omega,by omega,by omega,by omega,by omega,k4⟩
theorem W9(b:br)(hb:b.wf)(w:ai)(hw:w.wf)(c:qW)(hB:lk [b.enc,w.enc,c.enc]<=1048576):Pure prog 5 [.agg (b.enc.map .d),.agg (w.enc.map .d),.agg (c.enc.map .d)] (oD true):=W8 b w c hb hw (KN hB)
set_option maxHeartbeats 4000000
set_option maxRecDepth 20000
def A9(s:an)(m:aj)(F:Int):aH:=[(5201,.box 0 50 (m.enc.map .d)),(5202,.box 0 41 (s.enc.map .d)),(5203,.box 0 3 [iD F])]
theorem MC(s:an)(m:aj)(F:Int):aE prog 51 [.agg (s.enc.map .d),.agg (m.enc.map .d),iD F] [] (λr L=>r= .ret (.eW (.func 112) [] [.bp 5201 0,.bp 5202 0,.bp 5203 0])/\L=A9 s m F):=by
 refine aE.wk (R:=λr L=>r= .ret (.eW (.func 112) [] [.bp 4 0,.bp 3 0,.bp 5 0])/\∃b3 b4 b5,L=[(5,.box b5 3 [iD F]),(4,.box b4 50 (m.enc.map .d)),(3,.box b3 41 (s.enc.map .d))]) ?_ ?_
 ·refine aE.run func51 rfl (by simp[f51]) ?_;simp[f51]
 ·rintro r L ⟨rfl,b3,b4,b5,rfl⟩;refine⟨_,_,_,rfl,((Wk.vE [3,4,5]).trans ((Wk.eR 4 5201 (by simp[keys])).trans ((Wk.eR 3 5202 (by simp[keys])).trans ((Wk.eR 5 5203 (by simp[keys])).trans (Wk.pick [0] [5201,5202,5203] (by simp) (by decide) ?_))))),?_⟩
  ·simp
  ·simp[A9,St.pick]
theorem ar.aiy{P:Program}{n:Nat}{Q:AX->St->Prop}{ops:Array Oper}{l:List Oper}{s:St}{A:Env}(k:Nat)(h:(k,.env A)∈s.L)(hA:∀w O x,¬A.H w O x):ar P n ops l s Q:=λfo m0 w0 m a w st g=>by
 obtain⟨x,hx,hh⟩:=g.inv.holds _ _ h;exact(hA _ _ _ hh).elim
theorem JA{KP:Prop}(s:an)(F:Int)(Ms:Nat→aj)(N:Nat)(hp:∀i,i < N→Pure prog 13 [.agg (s.enc.map .d),.agg ((Ms i).enc.map .d),iD F] (.agg ((Ms (i+1)).enc.map .d)))
  (hd:∀i,i<N->(Ms i).bX=false) (hN:(Ms N).bX=false->KP):M4 KP prog 112 [.bp 5201 0,.bp 5202 0,.bp 5203 0] (A9 s (Ms 0) F) ((List.range (N+1)).map λi=> [.agg ((Ms i).enc.map .d)]):=by
 intro l A B hy hK;rw[aqg,List.length_range]at hK;unfold A9;refine aE.vZ [5003] (by simp) func112 rfl (by simp[f112]) ?_;simp[f112];refine aw.cX [0,1,2,3] N (λi=> []) (λi=> [(5003,.env (A i)),(5201,.box 0 50 ((Ms i).enc.map .d))]) (λ_=>True) (by rfl) (by simp) ?_;intro i hi _;have O3:rV prog l [.agg ((Ms i).enc.map .d)] [(5003,.env (A i))] (YR (A (i+1)) B):=hy i _ (by rw[apS,ars (by omega)];rfl);simp[-cB];refine ar.X9 (O3) rfl (by simp[qY]) (by simp) rfl (by simp) rfl (by simp[keys]) rfl (by simp) (by simp) ?_ ?_
 ·intro cI;rcases apW hi with ay|rfl
  ·have h1:=hd i ay;have h2:=hp i ay;simp[-cB,List.filter,h1];refine pC h2 ?_;simp[-cB,ay]
  ·cases FZ:(Ms i).bX with
   | true=>simp[-cB,List.filter,FZ]
   | false=>
     simp[-cB,List.filter,FZ];exact ar.aiy 5003 (by simp) (hK (hN FZ))
 ·intro cI;simp[-cB,List.filter]
def gm(w:ai)(x:jh):jh:=if x.kC≠0 then⟨x.kC,w,x.Out,0,false,x.Fuel⟩else x
theorem Sx(s:an)(w:ai)(r:Int)(a:List Int)(env:cH)(F:Int)(Ms:Nat→aj)(N:Nat)(hb:Pure prog 11 [.agg (s.enc.map .d),.agg (w.enc.map .d),iD r,.d (.sl (aD a)),.agg (env.enc.map .d)] (.agg ((Ms 0).enc.map .d)))
  (hp:∀i,i<N->Pure prog 13 [.agg (s.enc.map .d),.agg ((Ms i).enc.map .d),iD (max F 0)] (.agg ((Ms (i+1)).enc.map .d)))
  (hd:∀i,i<N->(Ms i).bX=false) (hN:(Ms N).bX=true):Pure prog 24 [.agg (s.enc.map .d),.agg (w.enc.map .d),iD r,.d (.sl (aD a)),.agg (env.enc.map .d),iD F] (.agg ((gm w (Ms N).Told).enc.map .d)):=by
 have gR:=JA (KP:=False) s (max F 0) Ms N hp hd (λh=>by rw[hN]at h;cases h);have hu:=MC s (Ms 0) (max F 0);unfold A9 at gR hu;have k1:∀L,lU prog 11 [.agg (s.enc.map .d),.agg (w.enc.map .d),iD r,.d (.sl (aD a)),.agg (env.enc.map .d)] L (.agg ((Ms 0).enc.map .d)):=hb.ok;have hrg:(List.range (N+1)).getLast?.getD 0=N:=by simp[ara]
 have hF:(if F<0 then 0 else F)=max F 0:=by rw[Int.max_def];split<;>split<;>omega
 have Tu:List.range (N+1)≠ []:=by simp
 generalize List.range (N+1)=l at *;refine rn func24 ?_;simp[-cB,f24];intro bs;refine aw.bI [Q0,Q0,Q0,Q0,Q0,Q0,Q0,Q0,Q0,none] [.agg ((Ms 0).enc.map .d)] bc (by kernel_rfl) ?_;simp[-cB,k1];refine gv.intro (λ_=>fK.call (s:=⟨_,_⟩) 5009 [] rfl hu (by simp[hF]) rfl (by kernel_rfl) (by first|rfl|simp) (by simp) (cC (by simp)) (by simp) (by simp)) ?_;simp[-cB,hF];refine aw.uS [5201,5202,5203] [7,12] l (λi=> [.agg ((Ms i).enc.map .d)]) (λpre=>if pre=[]then []else [(12,.box (bs 3+1) 48 ((Ms (pre.getLast?.getD 0)).Told.enc.map .d))]) (λ_=>True) (by simpa[List.filter]using gR) rfl (by simp) (by simp[List.filter]) (by simp[gi]) (by simp) (by rfl) (by rfl) (by simp[List.filter]) (by intro pre;by_cases h:pre=[]<;>simp[h,List.filter]) ?_ ?_
 ·rintro pre x post bn -;by_cases h:pre=[]
  ·simp[-cB,List.filter,h]
  ·simp[-cB,List.filter,h]
 ·intro _;simp[-cB,List.filter,Tu,hrg];by_cases he:(Ms N).Told.kC=0
  ·simp[-cB,he,gm]
  ·have kD:((Ms N).Told.kC !=0)=true:=by simpa using he
   simp[-cB,he,kD,gm,jh.enc,ai.enc,V.mv,V.fz]
def QE(m:aj):Int:=(m.Frames[m.Frames.length-1]?.getD aG.zero).At
def acQ(s:an)(m:aj):ae:=(mA s.Code (QE m)).1
def Bo(jl:Int):Int:=min jl 1024
def Am(s:an)(Ms:Nat->aj)(n:Nat):List ae:=(List.range n).map λi=>acQ s (Ms i)
theorem aaj(s:an)(Ms:Nat->aj)(n:Nat):Am s Ms (n+1)=Am s Ms n++ [acQ s (Ms n)]:=by simp[Am,ara]
theorem GW(s:an)(Ms:Nat->aj)(n:Nat):(Am s Ms n).length=n:=by simp[Am]
def NY(N:Nat)(jl:Int):Nat:=min N (Bo jl).toNat
theorem acR{N x:Nat}{pre post:List Nat}(h:List.range N=pre++x::post):x=pre.length/\x<N:=by
 have h1:(List.range N)[pre.length]?=some x:=by rw[h];simp
 obtain⟨h2,h3⟩:=apQ.1 h1;simp at h2 h3;exact⟨h3.symm,by omega⟩
theorem aak(s:an)(w:ai)(r:Int)(a:List Int)(env:cH)(jl:Int)(Ms:Nat→aj)(N:Nat)(hb:Pure prog 11 [.agg (s.enc.map .d),.agg (w.enc.map .d),iD r,.d (.sl (aD a)),.agg (env.enc.map .d)] (.agg ((Ms 0).enc.map .d)))
  (hp:∀i,i<N->Pure prog 13 [.agg (s.enc.map .d),.agg ((Ms i).enc.map .d),iD 4096] (.agg ((Ms (i+1)).enc.map .d)))
  (hd:∀i,i<N->(Ms i).bX=false) (hN:(Ms N).bX=true\/Bo jl<=N) (hf:∀i,i<N->0<(Ms i).Frames.length/\(Ms i).Frames.length<=1000)
  (hc:∀i,Pure prog 35 [.d (.sl (iL s.Code)),iD i] (KJ (mA s.Code i))):
  Pure prog 20 [.agg (s.enc.map .d),.agg (w.enc.map .d),iD r,.d (.sl (aD a)),.agg (env.enc.map .d),iD jl] (.d (.sl ((Am s Ms (NY N jl)).map ae.enc))):=by
 have gR:=JA (KP:=True) s 4096 Ms N hp hd (λ_=>trivial);have hu:=MC s (Ms 0) 4096;unfold A9 at gR hu;have k1:∀L,lU prog 11 [.agg (s.enc.map .d),.agg (w.enc.map .d),iD r,.d (.sl (aD a)),.agg (env.enc.map .d)] L (.agg ((Ms 0).enc.map .d)):=hb.ok;have hm:(if 1024<jl then 1024 else jl)=Bo jl:=by unfold Bo;rw[Int.min_def];split<;>split<;>omega
 have pU:Bo jl<=1024:=by unfold Bo;omega
 unfold NY;generalize Bo jl=M at *;refine rn func20 ?_;simp[-cB,f20];intro bs Lw;refine aw.bI [Q0,Q0,Q0,Q0,Q0,Q0,Q0,none] [.agg ((Ms 0).enc.map .d)] bc (by kernel_rfl) ?_;simp[-cB,k1];refine gv.intro (λ_=>fK.call (s:=⟨_,_⟩) 5009 [] rfl hu (by simp) rfl (by kernel_rfl) (by first|rfl|simp) (by simp) (cC (by simp)) (by simp) (by simp)) ?_;simp[-cB];refine aw.weaken (Wk.qx 13 0 5300 (e:=84) (k:=2) rfl rfl (by simp[keys])) ?_;simp[-cB];refine aw.uS [5201,5202,5203] [6,11,13] (List.range (N+1)) (λi=> [.agg ((Ms i).enc.map .d)]) (λpre=> [(5300,.row 84 2 (dd ((Am s Ms pre.length).map ae.enc)))]) (λpre=>(pre.length:Int)<=max M 0/\pre.length<=N) (by simpa[List.filter]using gR) rfl (by simp) (by simp[List.filter]) (by simp[gi]) (by simp) (by rfl) (by rfl) (by simp[List.filter,Am];omega) (by simp[List.filter]) ?_ ?_ (λ_ h=>by have:=h.2;simp at this;omega)
 ·rintro pre x post bn hH;obtain⟨rfl,hx⟩:=acR bn;simp[-cB,List.filter,hm,GW];intro cI;have ia:=hf pre.length;by_cases my:((Ms pre.length).bX||decide (M<=(pre.length:Int)))=true
  ·have hi:pre.length=min N M.toNat:=by
    simp only[arw,decide_eq_true_eq]at my;rcases apW (Nat.le_of_lt_succ hx)with h|h
    ·rw[hd _ h]at my;simp at my;omega
    ·omega
   simp[-cB,List.filter,my,<-hi]
  ·have HI:((Ms pre.length).bX||decide (M<=(pre.length:Int)))=false:=by simpa using my
   have ay:pre.length<N:=by
    simp only[Bool.or_eq_false_iff,decide_eq_false_iff_not]at HI;refine aqr λhn=>?_
    rw[show pre.length=N by omega]at HI;rcases hN with h|h
    ·rw[h]at HI;exact absurd HI.1 (by simp)
    ·exact HI.2 h
   have FK:(pre.length:Int)<M:=by
    simp only[Bool.or_eq_false_iff,decide_eq_false_iff_not]at HI;omega
   obtain⟨f1,f2⟩:=ia ay;have tH:∀L,lU prog 35 [.d (.sl (s.Code.map λy=> [D.v (.int .u8 y)])),iD ((Ms pre.length).Frames[(Ms pre.length).Frames.length-1]?.getD aG.zero).At] L (KJ (mA s.Code ((Ms pre.length).Frames[(Ms pre.length).Frames.length-1]?.getD aG.zero).At)):=λL=>(hc (QE (Ms pre.length))).ok L
   have g1:aN .i64 ((((Ms pre.length).Frames.length:Nat):Int)-1):=iW;have g2:(1:Int)<=((Ms pre.length).Frames.length:Nat):=by omega
   have g3:(Ms pre.length).Frames.length-1<(Ms pre.length).Frames.length:=by omega
   have g4:(pre.length+1) *16<=140737488355328:=by omega
   simp[g3]at tH;simp[-cB,List.filter,HI];refine aw.JY [Q3,Q3,Q3,Q3,Q3,Q3,Q3,Q3,Q3,Q3,Q3,Q3,Q3,Q3,asj,asj,none,none,asl,asl] [KJ (mA s.Code (QE (Ms pre.length)))] bc (by kernel_rfl) ?_;simp[-cB,QE,tH,g1,g2,g3,g4,GW,aaj,acQ,List.filter];omega
 ·rintro⟨hH,hn⟩;simp at hn;omega
theorem acS{K:eA}{s:an}{m m':aj}(h:db K s m=some m')(hd:m.bX=false):0<m.Frames.length/\(mA s.Code (QE m)).2.2=0:=by
 unfold db at h;rw[hd]at h;split at h
 ·cases ‹false=true›
 split at h
 ·rename_i f hf;split at h
  ·unfold oE at h;split at h
   ·cases h
   ·rename_i he;have hl:m.Frames≠ []:=by intro e;rw[e]at hf;cases hf
    have hp:=aqz.2 hl;refine⟨hp,?_⟩;have:QE m=f.At:=by
     unfold QE;rw[arZ]at hf;rw[hf];rfl
    rw[this];exact aqr λhn=>he hn
  ·cases h
 ·cases h
theorem aaP{b:br}{s:an}{w:ai}(hw:w.wf)(hs:cZ b=(s,0))(mr:bS b.Tables w=true)(r:Int)(a:List Int)(env:cH)(F:Int)(hF:F≤1000000)(N:Nat)(hN:N≤10000)
  (h1:∀i,i<N->∃m,iterM (aX ⟨b,env,max F 0⟩) s i (kR s w r a env)=some m/\m.bX=false) (m':aj) (h2:iterM (aX ⟨b,env,max F 0⟩) s N (kR s w r a env)=some m') (h3:m'.bX=true):
  Pure prog 24 [.agg (s.enc.map .d),.agg (w.enc.map .d),iD r,.d (.sl (aD a)),.agg (env.enc.map .d),iD F] (.agg ((gm w m'.Told).enc.map .d)):=by
 obtain⟨hf,wv,acP⟩:=sX hw hs mr;obtain⟨Ms,CV,jg,-⟩:=y9 hs mr (H5 hw) r a env (max F 0) (by omega);have lQ:=Dz env (max F 0) hs;have gR:=zM λi=>(jg i).2
 rw[CV]at gR;rw[gR,akC]at h2;subst h2;have hb:=(acP r a env).1;rw[<-CV]at hb;exact Sx s w r a env F Ms N hb (λi hi=>vy lQ (jg i).1 (by omega) Iff.rfl (jg i).2) (λi hi=>by
  obtain⟨m,e,hd⟩:=h1 i hi;rw[gR,akC]at e;rw[e];exact hd) h3
theorem acT{b:br}{s:an}{w:ai}(hs:cZ b=(s,0))(hw:w.wf)(mr:bS b.Tables w=true)(r:Int)(a:List Int)(env:cH):∃(Ms:Nat->aj) (N:Nat),Ms 0=kR s w r a env/\(∀i,Jv ⟨b,env,4096⟩ w i (Ms i)/\db (aX ⟨b,env,4096⟩) s (Ms i)=some (Ms (i+1)))/\N<=1024/\(∀i,i<N->(Ms i).bX=false)/\((Ms N).bX=true\/N=1024):=by
 obtain⟨Ms,CV,jg,-⟩:=y9 hs mr (H5 hw) r a env 4096 (by omega);obtain⟨N,hN,hd,he⟩:∃N,N<=1024/\(∀i,i<N->(Ms i).bX=false)/\((Ms N).bX=true\/N=1024):=by
  by_cases h:∃i,i<=1024/\(Ms i).bX=true
  ·obtain⟨i,h1,h2⟩:=h
   induction i using Nat.strongRecOn with
   | ind i ih=>
     by_cases h3:∃j,j<i/\(Ms j).bX=true
     ·obtain⟨j,h4,h5⟩:=h3;exact ih j h4 (by omega) h5
     ·refine⟨i,h1,λj hj=>?_,.inl h2⟩;cases e:(Ms j).bX with
      | false=>rfl
      | true=>exact(h3 ⟨j,hj,e⟩).elim
  ·refine⟨1024,apU _,λj hj=>?_,.inr rfl⟩;cases e:(Ms j).bX with
   | false=>rfl
   | true=>exact(h ⟨j,by omega,e⟩).elim
 exact⟨Ms,N,CV,jg,hN,hd,he⟩
theorem Xa{b:br}{s:an}{w:ai}(hw:w.wf)(hs:cZ b=(s,0))(mr:bS b.Tables w=true)(r:Int)(a:List Int)(env:cH)(jl:Int){Ms:Nat→aj}{N:Nat}(CV:Ms 0=kR s w r a env)(jg:∀i,Jv ⟨b,env,4096⟩ w i (Ms i)∧db (aX ⟨b,env,4096⟩) s (Ms i)=some (Ms (i+1)))(hN:N≤1024)(hd:∀i,i < N→(Ms i).bX=false)(he:(Ms N).bX=true∨N=1024):
  Pure prog 20 [.agg (s.enc.map .d),.agg (w.enc.map .d),iD r,.d (.sl (aD a)),.agg (env.enc.map .d),iD jl] (.d (.sl ((Am s Ms (NY N jl)).map ae.enc))):=by
 have lQ:=Dz env 4096 hs;have hb:=((sX hw hs mr).2.2 r a env).1;rw [←CV]at hb;exact aak s w r a env jl Ms N hb (fun i hi=>vy lQ (jg i).1 (by omega) Iff.rfl (jg i).2) hd (he.imp id fun h=>by unfold Bo;omega)
   (λi hi=>⟨(acS (jg i).2 (hd i hi)).1,by have:=(jg i).1.iE;omega⟩) (λi=>Ak s.Code i lQ.hb (by have:=lQ.hC;omega))
theorem adQ{b:br}{s:an}{w:ai}(hw:w.wf)(hs:cZ b=(s,0))(mr:bS b.Tables w=true)(r:Int)(a:List Int)(env:cH):∃(Ms:Nat→aj) (N:Nat),(∀i,iterM (aX ⟨b,env,4096⟩) s i (kR s w r a env)=some (Ms i))∧(∀i,i < N→(Ms i).bX=false)∧((Ms N).bX=true∨N=1024)∧∀jl,
  Pure prog 20 [.agg (s.enc.map .d),.agg (w.enc.map .d),iD r,.d (.sl (aD a)),.agg (env.enc.map .d),iD jl] (.d (.sl ((Am s Ms (NY N jl)).map ae.enc))):=by
 obtain⟨Ms,N,CV,jg,hN,hd,he⟩:=acT hs hw mr r a env;have gR:=zM λi=>(jg i).2
 rw[CV]at gR;exact⟨Ms,N,gR,hd,he,λjl=>Xa hw hs mr r a env jl CV jg hN hd he⟩
end Go.Ab
namespace Go.Ab
def mB(op:Int):Nat:=if [1,37,5,21,35,3,7,28,29,30,33].contains op then 0 else if [8,14,17].contains op then 2 else 1
def fh(op:Int):Nat:=if [1,5,3,7,9,10,11,8,12,13,19,20].contains op then 1 else 0
def dE(op:Int):Prop:=op=24\/op=27\/op=28\/op=29\/op=30
instance (op:Int):Decidable (dE op):=by unfold dE;infer_instance
def fL(pf Γ:Int->Nat)(i:ae)(o:Option Nat):Option Nat:=
 if i.Op=38 then some (Γ i.Arg)else if dE i.Op then none
 else o.map λh=>if i.Op=25 then h-1 else if i.Op=26 then h+1-pf i.Arg else h+fh i.Op-mB i.Op
def Ss(H:Nat)(pf Γ:Int->Nat)(i:ae)(o:Option Nat):Prop:=
 (i.Op=38->Γ i.Arg<=H)/\∀h,o=some h->(i.Op=38\/i.Op=24->h=Γ i.Arg)/\(i.Op=25->h=Γ i.Arg+1)/\∀x,fL pf Γ i o=some x->x<=H
def ez(H:Nat)(pf Γ:Int->Nat):List ae->Option Nat->Prop
 | [],o=>o=none
 | i::r,o=>Ss H pf Γ i o/\ez H pf Γ r (fL pf Γ i o)
def TT(o' o:Option Nat):Prop:=∀h,o'=some h->o=some h
theorem HJ(o:Option Nat):TT o o:=λ_ e=>e
theorem HK(o:Option Nat):TT none o:=λh e=>by cases e
variable {H : Nat} {pf Γ : Int -> Nat}
theorem aal{i:ae}{o' o:Option Nat}(k:TT o' o):TT (fL pf Γ i o') (fL pf Γ i o):=by
 unfold fL;split
 ·exact HJ _
 ·split
  ·exact HK _
  ·intro h' e;obtain⟨x,rfl,rfl⟩:=apN.1 e;rw[k x rfl];rfl
theorem aiz{i:ae}{o' o:Option Nat}(k:TT o' o)(h:Ss H pf Γ i o):Ss H pf Γ i o':=by
 refine⟨h.1,λx e=>?_⟩;obtain⟨a1,a2,a3⟩:=h.2 x (k x e);exact⟨a1,a2,λz hz=>a3 z (aal k z hz)⟩
theorem xh:∀{r:List ae} {o' o:Option Nat},TT o' o->ez H pf Γ r o->ez H pf Γ r o'
 | [],o',o,k,h=>by
   have h:o=none:=h;subst h;cases o' with
   | none=>rfl
   | some x=>cases k x rfl
 | i::r,o',o,k,h=>⟨aiz k h.1,xh (aal k) h.2⟩
theorem aam{r r':List ae}(h:∀o,ez H pf Γ r o->ez H pf Γ r' o):∀{p:List ae} {o:Option Nat},ez H pf Γ (p++r) o->ez H pf Γ (p++r') o
 | [],o,k=>h o k
 | i::p,o,k=>⟨k.1,aam h k.2⟩
theorem GR{n:Int}:∀{l r:List ae} {o:Option Nat},ez H pf Γ l o->after l n=some r->ez H pf Γ r (some (Γ n))/\Γ n<=H
 | [],r,o,_,h=>by cases h
 | i::l,r,o,k,h=>by
   rw[after]at h;split at h
   ·rename_i c;cases h;have e:fL pf Γ i o=some (Γ n):=by unfold fL;rw[if_pos c.1,c.2]
    have k2:=k.2;rw[e]at k2;exact⟨k2,by rw[<-c.2];exact k.1.1 c.1⟩
   ·exact GR k.2 h
end Go.Ab
namespace Go.Ab
mutual
def wE:au->Nat
 | .mk _ _ _ _ l=>max 1 (CW l)
def CW:List au->Nat
 | []=>0
 | x::l=>max (wE x) (CW l+1)
end
theorem Xb(e:au):wE e=max 1 (CW e.av):=by cases e;rw[wE];rfl
variable {H : Nat} {pf : Int -> Nat}
def gY(H:Nat)(pf:Int->Nat)(c:List ae)(n m:Int)(h h':Nat):Prop:=
 ∃Γ0:Int->Nat,∀Γ:Int->Nat,(∀k,n<=k->k<m->Γ k=Γ0 k)->∀r,ez H pf Γ r (some h')->ez H pf Γ (c++r) (some h)
theorem gY.nil(n:Int)(h:Nat):gY H pf [] n n h h:=⟨λ_=>0,λ_ _ _ k=>k⟩
theorem gY.app{a b:List ae}{n m k:Int}{h h1 h2:Nat}(zb:n<=m)(qz:m<=k)(ha:gY H pf a n m h h1)(hb:gY H pf b m k h1 h2):gY H pf (a++b) n k h h2:=by
 obtain⟨wD,ka⟩:=ha;obtain⟨wF,kb⟩:=hb;refine⟨λx=>if x<m then wD x else wF x,fun Γ kY r hr=>?_⟩;rw[ap0];exact ka Γ (λx h1 h2=>(kY x h1 (by omega)).trans (if_pos h2)) _ (kb Γ (λx h1 h2=>(kY x (by omega) h2).trans (if_neg (by omega))) _ hr)
theorem gY.one{i:ae}{n:Int}{h h':Nat}(ed:i.Op≠38)(fe:¬dE i.Op)(gL:i.Op≠25)(ho:(if i.Op=26 then h+1-pf i.Arg else h+fh i.Op-mB i.Op)=h')(hH:h'<=H):gY H pf [i] n n h h':=by
 refine⟨λ_=>0,fun Γ _ r hr=>?_⟩;have e:fL pf Γ i (some h)=some h':=by
  unfold fL;rw[if_neg ed,if_neg fe];simp only[aqe,if_neg gL];rw[ho]
 refine⟨⟨λc=>(ed c).elim,λx hx=>?_⟩,?_⟩
 ·cases hx;refine⟨λc=>?_,λc=>(gL c).elim,λz hz=>?_⟩
  ·rcases c with c|c
   ·exact(ed c).elim
   ·exact(fe (.inl c)).elim
  ·rw[e]at hz;cases hz;exact hH
 ·rw[e];exact hr
end Go.Ab
namespace Go.Ab
variable {H : Nat} {pf Γ : Int -> Nat}
theorem xE{n:Int}{h:Nat}{r:List ae}(hg:Γ n=h)(hH:h<=H)(k:ez H pf Γ r (some h)):ez H pf Γ (⟨25,n⟩::r) (some (h+1)):=
 ⟨⟨λc=>by simp at c,λx hx=>⟨λc=>by simp at c,λ_=>by cases hx;rw[<-hg],λz hz=>by cases hx;cases hz;exact hH⟩⟩,k⟩
theorem Ba{n:Int}{h:Nat}{r:List ae}(hg:Γ n=h)(k:ez H pf Γ r none):ez H pf Γ (⟨24,n⟩::r) (some h):=
 ⟨⟨λc=>by simp at c,λx hx=>⟨λ_=>by cases hx;rw[<-hg],λc=>by simp at c,λz hz=>by cases hz⟩⟩,k⟩
theorem mf{n:Int}{h:Nat}{r:List ae}{o:Option Nat}(hg:Γ n=h)(ho:o=none\/o=some h)(hH:h<=H)(k:ez H pf Γ r (some h)):ez H pf Γ (⟨38,n⟩::r) o:=by
 refine⟨⟨λ_=>by show Γ n<=H;omega,λx hx=>⟨λ_=>?_,λc=>by simp at c,λz hz=>?_⟩⟩,?_⟩
 ·rcases ho with rfl|rfl
  ·cases hx
  ·cases hx;exact hg.symm
 ·have:some (Γ n)=some z:=hz;cases this;omega
 ·show ez H pf Γ r (some (Γ n));rw[hg];exact k
theorem ur{i:ae}{h h':Nat}{r:List ae}(ed:i.Op≠38)(fe:¬dE i.Op)(gL:i.Op≠25)(ho:(if i.Op=26 then h+1-pf i.Arg else h+fh i.Op-mB i.Op)=h')(hH:h'<=H)(k:ez H pf Γ r (some h')):ez H pf Γ (i::r) (some h):=by
 have e:fL pf Γ i (some h)=some h':=by
  unfold fL;rw[if_neg ed,if_neg fe];simp only[aqe,if_neg gL];rw[ho]
 refine⟨⟨λc=>(ed c).elim,λx hx=>?_⟩,by rw[e];exact k⟩;cases hx;exact⟨λc=>(c.elim ed (λc=>fe (.inl c))).elim,λc=>(gL c).elim,λz hz=>by rw[e]at hz;cases hz;exact hH⟩
def ExT(H:Nat)(pf:Int->Nat)(e:au):Prop:=∀n h,h+wE e<=H->gY H pf (aT e n).1 n (aT e n).2 h (h+1)
theorem Cz:∀(l:List au),(∀e∈l,ExT H pf e)->∀n h,h+CW l<=H->gY H pf (aK l n).1 n (aK l n).2 h (h+l.length)
 | [],_,n,h,_=>gY.nil n h
 | x::l,hl,n,h,hw=>by
   rw[CW]at hw;have a:=hl x (by simp) n h (by omega);have b:=Cz l (λe he=>hl e (by simp[he])) (aT x n).2 (h+1) (by omega);rw[aK,apY,show h+(l.length+1)=h+1+l.length by omega];exact a.app (iQ x n).1 (gI l _).1 b
def Xc(pf:Int->Nat)(e:au):Prop:=(cG e).Op≠38/\¬dE (cG e).Op/\(cG e).Op≠25/\∀h,(if(cG e).Op=26 then h+e.av.length+1-pf (cG e).Arg else h+e.av.length+fh (cG e).Op-mB (cG e).Op)=h+1
theorem afd(e:au)(hs:∀x∈e.av,ExT H pf x)(hp:¬qe e->Xc pf e)(h2:qe e->∃a b,e.av=[a,b]):ExT H pf e:=by
 intro n h hw;rw[Xb]at hw;by_cases hL:qe e
 ·obtain⟨a,b,ha⟩:=h2 hL;obtain⟨hk,ho⟩:=hL;rw[ha,CW,CW,CW]at hw;obtain⟨wD,ka⟩:=hs a (by rw[ha];simp) (n+2) h (by omega);obtain⟨wF,kb⟩:=hs b (by rw[ha];simp) (aT a (n+2)).2 h (by omega);have b1:=(iQ a (n+2)).1;have b2:=(iQ b (aT a (n+2)).2).1;have e2:(aT e n).2=(aT b (aT a (n+2)).2).2:=by
   rcases ho with ho|ho
   ·rw[uE e a b [] n hk ho ha]
   ·rw[sy e a b [] n hk ho ha]
  rw[e2];generalize rP:(aT a (n+2)).2=n1 at *;generalize rS:(aT b n1).2=n2 at *;refine⟨λx=>if x=n then h else if x=n+1 then h+1 else if x<n1 then wD x else wF x,fun Γ kY r hr=>?_⟩;have g1:Γ n=h:=by rw[kY n (by omega) (by omega)];simp
  have g2:Γ (n+1)=h+1:=by rw[kY (n+1) (by omega) (by omega)];simp only[if_neg (show ¬n+1=n by omega),if_true]
  have ga:∀x,n+2<=x->x<n1->Γ x=wD x:=λx h1 h2=>by
   rw[kY x (by omega) (by omega)];simp only[if_neg (show ¬x=n by omega),if_neg (show ¬x=n+1 by omega),if_pos h2]
  have gb:∀x,n1<=x->x<n2->Γ x=wF x:=λx h1 h2=>by
   rw[kY x (by omega) (by omega)];simp only[if_neg (show ¬x=n by omega),if_neg (show ¬x=n+1 by omega),if_neg (show ¬x<n1 by omega)]
  rcases ho with ho|ho
  ·rw[uE e a b [] n hk ho ha,rP];simp only[ap0,apZ,ap4];exact ka Γ ga _ (xE g1 (by omega) (ur (by decide) (by decide) (by decide) rfl (by show h+1-0<=H;omega) (Ba g2 (mf g1 (.inl rfl) (by omega) (kb Γ gb _ (ur (by decide) (by decide) (by decide) rfl (by show h+1+1-1<=H;omega) (mf g2 (.inr rfl) (by omega) hr)))))))
  ·rw[sy e a b [] n hk ho ha,rP];simp only[ap0,apZ,ap4];exact ka Γ ga _ (xE g1 (by omega) (kb Γ gb _ (ur (by decide) (by decide) (by decide) rfl (by show h+1+1-1<=H;omega) (Ba g2 (mf g1 (.inl rfl) (by omega) (ur (by decide) (by decide) (by decide) rfl (by show h+1-0<=H;omega) (mf g2 (.inr rfl) (by omega) hr)))))))
 ·rw[oz e n hL];obtain⟨o1,o2,o3,o4⟩:=hp hL;have b1:=(gI e.av n).1;exact(Cz e.av hs n h (by omega)).app b1 (aql _) (gY.one o1 o2 o3 (o4 h) (by omega))
end Go.Ab
namespace Go.Ab
def oh(c:XC)(a:Int):Nat:=(aX c).pa ((aX c).fn a)
theorem aan{c:XC}{f:Int}{n:Nat}(h:kL c.B.Tables f=n):oh c f=n:=by
 unfold kL at h;split at h
 ·rename_i hc;rw[apP]at hc;have h1:=od hc.1;have h4:aC c.B.Tables.Params (aC c.B.Tables.cS f)=n:=h;simp only[oh,aX,if_pos h1,h4];omega
 ·omega
theorem aao{t:aq}{e:au}{loc:Int}(hb:dH t e loc false=true)(vR:e.Kind≠18):
  ∃op a,cG e=⟨op,a⟩/\((e.av.length=0/\(op=1\/op=3\/op=5\/op=7))\/(e.av.length=1/\(op=9\/op=10\/op=20\/op=12\/op=13\/op=19))\/(e.av.length=2/\op=8)):=by
 have hlen:∀{n:Int} {a b d:Bool},ec e n a b d=true->(e.av.length:Int)=n:=λh=>by
  unfold ec at h;simp only[apP,decide_eq_true_eq]at h;exact h.1.1.1
 unfold dH at hb;unfold cG;by_cases k1:e.Kind=1
 ·simp[k1]at hb⊢;have:=hlen hb.1;first|omega|exact ap3.1 (by omega)
 by_cases ZO:e.Kind=14
 ·simp[ZO]at hb⊢;have:=hlen hb.1;first|omega|exact ap3.1 (by omega)
 by_cases ZP:e.Kind=15
 ·simp[ZP]at hb⊢;have:=hlen hb.1.1;first|omega|exact ap3.1 (by omega)
 by_cases CT:e.Kind=12
 ·simp[CT]at hb⊢;have:=hlen hb.1;first|omega|exact ap3.1 (by omega)
 by_cases k4:e.Kind=4
 ·simp[k4]at hb⊢;have:=hlen hb;first|omega|exact ap3.1 (by omega)
 by_cases k5:e.Kind=5
 ·simp[k5]at hb⊢;have:=hlen hb;first|omega|exact ap3.1 (by omega)
 by_cases o9:e.Kind=11
 ·simp[o9]at hb⊢;have:=hlen hb;first|omega|exact ap3.1 (by omega)
 by_cases k6:e.Kind=6
 ·simp[k6]at hb⊢;have:=hlen hb.1;first|omega|exact ap3.1 (by omega)
 by_cases ZQ:e.Kind=16
 ·simp[ZQ]at hb⊢;have:=hlen hb.1.1;first|omega|exact ap3.1 (by omega)
 by_cases ZR:e.Kind=17
 ·simp[ZR]at hb⊢;have:=hlen hb.1;first|omega|exact ap3.1 (by omega)
 by_cases oa:e.Kind=10
 ·simp[oa]at hb⊢;have:=hlen hb.1;first|omega|exact ap3.1 (by omega)
 simp[k1,ZO,ZP,CT,k4,k5,o9,k6,ZQ,ZR,oa,vR]at hb
theorem aiA{c:XC}{e:au}{loc:Int}(hb:dH c.B.Tables e loc false=true):Xc (oh c) e:=by
 unfold Xc;by_cases Gt:e.Kind=18
 ·have ho:cG e=⟨26,e.aI⟩:=by simp[cG,Gt]
  unfold dH at hb;simp[Gt]at hb;have:=aan (c:=c) hb.2;rw[ho];exact⟨by simp,by simp[dE],by simp,λh=>by simp[this];omega⟩
 ·obtain⟨op,a,ho,hc⟩:=aao hb Gt;rw[ho];rcases hc with⟨hl,rfl|rfl|rfl|rfl⟩|⟨hl,rfl|rfl|rfl|rfl|rfl|rfl⟩|⟨hl,rfl⟩<;>exact⟨by simp,by simp[dE],by simp,λh=>by simp[hl,fh,mB]⟩
theorem xk:∀(l:List au) (m n:Int),n<=eb l m n/\∀x∈l,kK x m<=eb l m n
 | [],m,n=>by rw[eb];exact⟨aql _,λx hx=>by cases hx⟩
 | y::l,m,n=>by
   rw[eb];obtain⟨h1,h2⟩:=xk l m (if n<kK y m then kK y m else n);have h3:n<=(if n<kK y m then kK y m else n)/\kK y m<=(if n<kK y m then kK y m else n):=by split<;>omega
   refine⟨by omega,λx hx=>?_⟩;rcases ap8.1 hx with rfl|hx
   ·omega
   ·exact h2 x hx
theorem QF{k:Nat}:∀(l:List au),(∀x∈l,wE x<=k)->CW l<=k+l.length
 | [],_=>by simp[CW]
 | x::l,h=>by
   have a:=h x (by simp);have b:=QF l (λy hy=>h y (by simp[hy]));rw[CW,apY];omega
theorem aiB{c:XC}(hB:gK c.B){e:au}{loc:Int}{b:Bool}(hb:dH c.B.Tables e loc b=true):e.av.length<=8:=by
 have hlen:∀{n:Int} {a b d:Bool},ec e n a b d=true->(e.av.length:Int)=n:=λh=>by
  unfold ec at h;simp only[apP,decide_eq_true_eq]at h;exact h.1.1.1
 by_cases Gt:e.Kind=18
 ·unfold dH at hb;simp[Gt]at hb;exact(EN hB hb.2).2.2.2
 ·by_cases Qc:e.Kind=19
  ·unfold dH at hb;simp[Qc]at hb;have:=hlen hb.1.2;omega
  by_cases Jo:e.Kind=13
  ·unfold dH at hb;simp[Jo]at hb;have:=hlen hb.2;omega
  have hf:dH c.B.Tables e loc false=true:=by
   rw[<-hb];unfold dH;simp only[if_neg Qc,if_neg Jo]
  obtain⟨_,_,_,h⟩:=aao hf Gt;omega
theorem TU{c:XC}(hB:gK c.B){loc:Int}:∀(k:Nat) (M:Int) (e:au) (b:Bool),(k:Int)<M->cw c.B.Tables loc e b=true->kK e M<=k->wE e<=8 *k
 | 0,M,e,b,hM,hb,hd=>by
   have:=(Pj e M (by omega)).1;omega
 | k+1,M,e,b,hM,hb,hd=>by
   rw[iP,apP,jd,apR]at hb;have h8:=aiB hB hb.1;rw[Hq,if_pos (by omega)]at hd;obtain⟨-,hm⟩:=xk e.av (M-1) 0;have hk:∀x∈e.av,wE x<=8 *k:=λx hx=>TU hB k (M-1) x false (by omega) (hb.2 x hx) (by have:=hm x hx;omega)
   have:=QF e.av hk;rw[Xb];omega
theorem Nf{c:XC}{H:Nat}{loc:Int}:∀(N:Nat) (e:au),SizeOf.sizeOf e<N->cw c.B.Tables loc e false=true->ExT H (oh c) e
 | 0,e,h,_=>by omega
 | N+1,e,h,hb=>by
   rw[iP,apP,jd,apR]at hb;refine afd e (λx hx=>Nf N x (by have:=au.mO hx;omega) (hb.2 x hx)) (λ_=>aiA hb.1) (λhL=>?_);have h2:e.av.length=2:=by
    have:=hb.1;unfold dH ec at this;simp[hL.1]at this;omega
   match e.av,h2 with
   | [a,b],_=>exact⟨a,b,rfl⟩
end Go.Ab
namespace Go.Ab
variable {H : Nat} {pf : Int -> Nat}
def HL(H:Nat)(pf:Int->Nat)(s:al):Prop:=∀n,gY H pf (cU s n).1 n (cU s n).2 0 0
theorem acU(s:al)(n:Int):n<=(cU s n).2:=by
 have:=(gJ [s] n).1;simpa[aQ]using this
theorem TV:∀(l:List al),(∀s∈l,HL H pf s)->∀n,gY H pf (aQ l n).1 n (aQ l n).2 0 0
 | [],_,n=>gY.nil n 0
 | s::l,h,n=>by
   rw[aQ];exact(h s (by simp) n).app (acU s n) (gJ l _).1 (TV l (λx hx=>h x (by simp[hx])) _)
theorem Bb{Γ:Int->Nat}{r:List ae}(k:ez H pf Γ r (some 0)):ez H pf Γ (tick::r) (some 0):=ur (by decide) (by decide) (by decide) rfl (aqc _) k
theorem agY{s:al}(hk:s.Kind=9)(he:s.bC=[])(h1:s.av.length=1)(ha:∀n,gY H pf (aK s.av n).1 n (aK s.av n).2 0 s.av.length)(hb:∀n,gY H pf (aQ s.Body n).1 n (aQ s.Body n).2 0 0):HL H pf s:=by
 intro n;rw[sz s n hk he];have b1:=(gI s.av (n+1)).1;have b2:=(gJ s.Body (aK s.av (n+1)).2).1;obtain⟨wD,ka⟩:=ha (n+1);obtain⟨wF,kb⟩:=hb (aK s.av (n+1)).2;rw[h1]at ka;generalize rP:(aK s.av (n+1)).2=n1 at *;generalize rS:(aQ s.Body n1).2=n2 at *;refine⟨λx=>if x=n then 0 else if x<n1 then wD x else wF x,fun Γ kY r hr=>?_⟩;have g1:Γ n=0:=by rw[kY n (by omega) (by omega)];simp
 have ga:∀x,n+1<=x->x<n1->Γ x=wD x:=λx h1 h2=>by
  rw[kY x (by omega) (by omega)];simp only[if_neg (show ¬x=n by omega),if_pos h2]
 have gb:∀x,n1<=x->x<n2->Γ x=wF x:=λx h1 h2=>by
  rw[kY x (by omega) (by omega)];simp only[if_neg (show ¬x=n by omega),if_neg (show ¬x<n1 by omega)]
 simp only[ap0,apZ,ap4];exact Bb (ka Γ ga _ (xE g1 (aqc _) (kb Γ gb _ (mf g1 (.inr rfl) (aqc _) hr))))
theorem agZ{s:al}(hk:s.Kind=9)(he:s.bC≠ [])(h1:s.av.length=1)(ha:∀n,gY H pf (aK s.av n).1 n (aK s.av n).2 0 s.av.length)(hb:∀n,gY H pf (aQ s.Body n).1 n (aQ s.Body n).2 0 0)(hc:∀n,gY H pf (aQ s.bC n).1 n (aQ s.bC n).2 0 0):HL H pf s:=by
 intro n;rw[sA s n hk he];have b1:=(gI s.av (n+2)).1;have b2:=(gJ s.Body (aK s.av (n+2)).2).1;have b3:=(gJ s.bC (aQ s.Body (aK s.av (n+2)).2).2).1;obtain⟨wD,ka⟩:=ha (n+2);obtain⟨wF,kb⟩:=hb (aK s.av (n+2)).2;obtain⟨Γc,kc⟩:=hc (aQ s.Body (aK s.av (n+2)).2).2;rw[h1]at ka;generalize rP:(aK s.av (n+2)).2=n1 at *;generalize rS:(aQ s.Body n1).2=n2 at *;generalize hn3:(aQ s.bC n2).2=n3 at *;refine⟨λx=>if x<n+2 then 0 else if x<n1 then wD x else if x<n2 then wF x else Γc x,fun Γ kY r hr=>?_⟩;have g1:Γ n=0:=by rw[kY n (by omega) (by omega)];exact if_pos (by omega)
 have g2:Γ (n+1)=0:=by rw[kY (n+1) (by omega) (by omega)];exact if_pos (by omega)
 have ga:∀x,n+2<=x->x<n1->Γ x=wD x:=λx h1 h2=>by
  rw[kY x (by omega) (by omega)];simp only[if_neg (show ¬x<n+2 by omega),if_pos h2]
 have gb:∀x,n1<=x->x<n2->Γ x=wF x:=λx h1 h2=>by
  rw[kY x (by omega) (by omega)];simp only[if_neg (show ¬x<n+2 by omega),if_neg (show ¬x<n1 by omega),if_pos h2]
 have gc:∀x,n2<=x->x<n3->Γ x=Γc x:=λx h1 h2=>by
  rw[kY x (by omega) (by omega)];simp only[if_neg (show ¬x<n+2 by omega),if_neg (show ¬x<n1 by omega),if_neg (show ¬x<n2 by omega)]
 simp only[ap0,apZ,ap4];exact Bb (ka Γ ga _ (xE g1 (aqc _) (kb Γ gb _ (Ba g2 (mf g1 (.inl rfl) (aqc _) (kc Γ gc _ (mf g2 (.inr rfl) (aqc _) hr)))))))
theorem acV{s:al}(hk:s.Kind=10)(h1:s.av.length=1)(ha:∀n,gY H pf (aK s.av n).1 n (aK s.av n).2 0 s.av.length)(hb:∀n,gY H pf (aQ s.Body n).1 n (aQ s.Body n).2 0 0):HL H pf s:=by
 intro n;rw[oA s n hk];have b1:=(gI s.av (n+2)).1;have b2:=(gJ s.Body (aK s.av (n+2)).2).1;obtain⟨wD,ka⟩:=ha (n+2);obtain⟨wF,kb⟩:=hb (aK s.av (n+2)).2;rw[h1]at ka;generalize rP:(aK s.av (n+2)).2=n1 at *;generalize rS:(aQ s.Body n1).2=n2 at *;refine⟨λx=>if x<n+2 then 0 else if x<n1 then wD x else wF x,fun Γ kY r hr=>?_⟩;have g1:Γ n=0:=by rw[kY n (by omega) (by omega)];exact if_pos (by omega)
 have g2:Γ (n+1)=0:=by rw[kY (n+1) (by omega) (by omega)];exact if_pos (by omega)
 have ga:∀x,n+2<=x->x<n1->Γ x=wD x:=λx h1 h2=>by
  rw[kY x (by omega) (by omega)];simp only[if_neg (show ¬x<n+2 by omega),if_pos h2]
 have gb:∀x,n1<=x->x<n2->Γ x=wF x:=λx h1 h2=>by
  rw[kY x (by omega) (by omega)];simp only[if_neg (show ¬x<n+2 by omega),if_neg (show ¬x<n1 by omega)]
 simp only[ap0,apZ,ap4];exact mf g1 (.inr rfl) (aqc _) (Bb (ka Γ ga _ (xE g2 (aqc _) (kb Γ gb _ (Ba g1 (mf g2 (.inl rfl) (aqc _) hr))))))
end Go.Ab
namespace Go.Ab
variable {H : Nat} {pf : Int -> Nat}
theorem afe{s:al}(hH:1<=H)(hk:s.Kind=11)(h1:s.av.length=1)(ha:∀n,gY H pf (aK s.av n).1 n (aK s.av n).2 0 s.av.length)(hb:∀n,gY H pf (aQ s.Body n).1 n (aQ s.Body n).2 0 0):HL H pf s:=by
 intro n;rw[qg s n hk];have b1:=(gI s.av (n+2)).1;have b2:=(gJ s.Body (aK s.av (n+2)).2).1;obtain⟨wD,ka⟩:=ha (n+2);obtain⟨wF,kb⟩:=hb (aK s.av (n+2)).2;rw[h1]at ka;generalize rP:(aK s.av (n+2)).2=n1 at *;generalize rS:(aQ s.Body n1).2=n2 at *;refine⟨λx=>if x<n+2 then 0 else if x<n1 then wD x else wF x,fun Γ kY r hr=>?_⟩;have g1:Γ n=0:=by rw[kY n (by omega) (by omega)];exact if_pos (by omega)
 have g2:Γ (n+1)=0:=by rw[kY (n+1) (by omega) (by omega)];exact if_pos (by omega)
 have ga:∀x,n+2<=x->x<n1->Γ x=wD x:=λx h1 h2=>by
  rw[kY x (by omega) (by omega)];simp only[if_neg (show ¬x<n+2 by omega),if_pos h2]
 have gb:∀x,n1<=x->x<n2->Γ x=wF x:=λx h1 h2=>by
  rw[kY x (by omega) (by omega)];simp only[if_neg (show ¬x<n+2 by omega),if_neg (show ¬x<n1 by omega)]
 have l5:∀{a:Int} {r:List ae},ez H pf Γ r (some 1)->ez H pf Γ (⟨5,a⟩::r) (some 0):=λk=>ur (by simp) (by simp[dE]) (by simp) rfl hH k
 have l6:∀{a:Int} {r:List ae},ez H pf Γ r (some 0)->ez H pf Γ (⟨6,a⟩::r) (some 1):=λk=>ur (by simp) (by simp[dE]) (by simp) rfl (aqc _) k
 have l19:∀{a:Int} {r:List ae},ez H pf Γ r (some 1)->ez H pf Γ (⟨19,a⟩::r) (some 1):=λk=>ur (by simp) (by simp[dE]) (by simp) rfl hH k
 simp only[ap0,apZ,ap4];exact Bb (ka Γ ga _ (l19 (l6 (mf g1 (.inr rfl) (aqc _) (l5 (xE g2 (aqc _) (Bb (l5 (l19 (l6 (kb Γ gb _ (l5 (l6 (Ba g1 (mf g2 (.inl rfl) (aqc _) hr)))))))))))))))
theorem gY.ends{i:ae}{n:Int}{h:Nat}(he:i.Op=27\/i.Op=28\/i.Op=29\/i.Op=30):gY H pf [i] n n h 0:=by
 refine⟨λ_=>0,fun Γ _ r hr=>⟨⟨λc=>by omega,λx hx=>⟨λc=>by omega,λc=>by omega,λz hz=>?_⟩⟩,?_⟩⟩
 ·unfold fL at hz;rw[if_neg (by omega),if_pos (by unfold dE;omega)]at hz;cases hz
 ·have e:fL pf Γ i (some h)=none:=by unfold fL;rw[if_neg (by omega),if_pos (by unfold dE;omega)]
  rw[e];exact xh (HK _) hr
theorem aff{s:al}(hs:(gX s).1=true)(h1:s.Kind≠1)(h9:s.Kind≠9)(dX:s.Kind≠10)(fT:s.Kind≠11):
  ∃op a,eS s.Kind s.aI=⟨op,a⟩/\((op=27\/op=28\/op=29\/op=30)\/(s.av.length=0/\(op=33\/op=35))\/(s.av.length=1/\(op=6\/op=4\/op=15\/op=16\/op=32\/op=18\/op=31\/op=34\/op=36\/op=2))\/(s.av.length=2/\(op=14\/op=17))):=by
 have hlen:∀{a d e:Bool} {n:Int},oQ s a n d e=true->(s.av.length:Int)=n:=λh=>by
  unfold oQ at h;simp only[apP,decide_eq_true_eq]at h;exact h.1.1.1
 unfold gX at hs;unfold eS;have hk:s.Kind=2\/s.Kind=3\/s.Kind=4\/s.Kind=5\/s.Kind=6\/s.Kind=7\/s.Kind=8\/s.Kind=12\/s.Kind=13\/s.Kind=14\/s.Kind=15\/s.Kind=16\/s.Kind=17\/s.Kind=18\/s.Kind=19\/s.Kind=20\/s.Kind=21\/s.Kind=22\/s.Kind=23:=by
  refine aqr λhn=>?_
  rw[if_neg h1,if_neg (by omega),if_neg (by omega),if_neg (by omega),if_neg (by omega),if_neg h9,if_neg dX,if_neg fT,if_neg (by omega),if_neg (by omega)]at hs;cases hs
 rcases hk with hk|hk|hk|hk|hk|hk|hk|hk|hk|hk|hk|hk|hk|hk|hk|hk|hk|hk|hk<;>(simp[hk]at hs⊢;try (have:=hlen hs;first|omega|exact ap3.1 (by omega)))
end Go.Ab
namespace Go.Ab
variable {H : Nat} {pf : Int -> Nat}
theorem acW{s:al}(hs:(gX s).1=true)(h1:s.Kind≠1)(h9:s.Kind≠9)(dX:s.Kind≠10)(fT:s.Kind≠11)(ha:∀n,gY H pf (aK s.av n).1 n (aK s.av n).2 0 s.av.length):HL H pf s:=by
 intro n;rw[oB s n h9 dX fT h1];have b1:=(gI s.av n).1;have hd:gY H pf [eS s.Kind s.aI] (aK s.av n).2 (aK s.av n).2 s.av.length 0:=by
  obtain⟨op,a,ho,hc⟩:=aff hs h1 h9 dX fT;rw[ho];rcases hc with hc|⟨hl,hc⟩|⟨hl,hc⟩|⟨hl,hc⟩
  ·exact gY.ends hc
  ·rw[hl];rcases hc with rfl|rfl<;>exact gY.one (by simp) (by simp[dE]) (by simp) rfl (aqc _)
  ·rw[hl];rcases hc with rfl|rfl|rfl|rfl|rfl|rfl|rfl|rfl|rfl|rfl<;>exact gY.one (by simp) (by simp[dE]) (by simp) rfl (aqc _)
  ·rw[hl];rcases hc with rfl|rfl<;>exact gY.one (by simp) (by simp[dE]) (by simp) rfl (aqc _)
 have ht:gY H pf [tick] n n 0 0:=gY.one (by decide) (by decide) (by decide) rfl (aqc _);exact(ht.app (aql _) b1 (ha n)).app b1 (aql _) hd
theorem aap:∀(l:List au),(∀x∈l,∀n,gY H pf (eM x n).1 n (eM x n).2 0 0)->∀n,gY H pf (cF l n).1 n (cF l n).2 0 0
 | [],_,n=>gY.nil n 0
 | x::l,h,n=>by
   rw[cF];exact(h x (by simp) n).app (Kx x n).1 (vO l _).1 (aap l (λy hy=>h y (by simp[hy])) _)
theorem ag0{s:al}(hk:s.Kind=1)(h:∀x∈s.av,∀n,gY H pf (eM x n).1 n (eM x n).2 0 0):HL H pf s:=by
 intro n;rw[qh s n hk];have ht:gY H pf [tick] n n 0 0:=gY.one (by decide) (by decide) (by decide) rfl (aqc _);exact ht.app (aql _) (vO s.av n).1 (aap s.av h n)
theorem afg{c:XC}{H:Nat}(hB:gK c.B){loc:Int}{x:au}(hb:cw c.B.Tables loc x true=true)(hw:wE x+8<=H)(n:Int):gY H (oh c) (eM x n).1 n (eM x n).2 0 0:=by
 have pP:=hb;rw[iP,apP,jd,apR]at pP;have one:∀(op:Int) (h:Nat),op=21/\h=0\/(op=22\/op=23)/\h=1->∀a m,gY H (oh c) [⟨op,a⟩] m m h 0:=λop h hc a m=>by
  rcases hc with⟨rfl,rfl⟩|⟨rfl|rfl,rfl⟩<;>exact gY.one (by simp) (by simp[dE]) (by simp) rfl (aqc _)
 unfold eM;split
 ·exact one 21 0 (.inl ⟨rfl,rfl⟩) _ _
 ·rename_i Qc;split
  ·rename_i Jo;have hl:x.av.length=1:=by
    have:=pP.1;unfold dH ec at this;simp[Jo]at this;omega
   have Ep:0+CW x.av<=H:=by rw[Xb]at hw;omega
   have:=Cz (H:=H) (pf:=oh c) x.av (λy hy=>Nf _ y (ap5 _) (pP.2 y hy)) n 0 Ep;rw[hl]at this;exact this.app (gI x.av n).1 (aql _) (one 23 1 (.inr ⟨.inr rfl,rfl⟩) _ _)
  ·rename_i Jo;have hf:cw c.B.Tables loc x false=true:=by
    rw[iP,apP,jd,apR];refine⟨?_,pP.2⟩;rw[<-pP.1];unfold dH;simp only[if_neg Qc,if_neg Jo]
   exact(Nf _ x (ap5 _) hf n 0 (by omega)).app (iQ x n).1 (aql _) (one 22 1 (.inr ⟨.inl rfl,rfl⟩) _ _)
theorem GB{s:al}{M n:Int}:eb s.av M n<=xf s M n/\im s.Body M<=xf s M n/\im s.bC M<=xf s M n:=by
 rw[Cj];unfold jt
 repeat' split
 all_goals omega
theorem CA:∀(l:List al) (M n:Int),n<=iR l M n/\∀s∈l,∃n',xf s M n'<=iR l M n
 | [],M,n=>by rw[iR];exact⟨aql _,λx hx=>by cases hx⟩
 | y::l,M,n=>by
   rw[iR];obtain⟨h1,h2⟩:=CA l M (xf y M n);have h3:=(GB (s:=y) (M:=M) (n:=n)).1;have h4:=(xk y.av M n).1;refine⟨by omega,λs hs=>?_⟩;rcases ap8.1 hs with rfl|hs
   ·exact⟨n,h1⟩
   ·exact h2 s hs
theorem QG{c:XC}{H:Nat}(hB:gK c.B){loc:Int}:∀(k:Nat) (M:Int) (l:List al),(k:Int)<M->8 *k+8<=H->gH c.B.Tables loc l=true->im l M<=k->∀n,gY H (oh c) (aQ l n).1 n (aQ l n).2 0 0
 | k,M,l,hM,hH,hb,hd=>by
   unfold gH at hb;rw[apP,lE,apR]at hb;refine TV l λs hs=>?_
   have wx:=hb.1 s hs;rw[vN]at wx;simp only[apP,apR]at wx;obtain⟨⟨⟨⟨⟨q1,q2⟩,q3⟩,q4⟩,q5⟩,q6⟩:=wx;have bU:l.isEmpty=false:=by cases l with|nil=>cases hs|cons a l=>rfl
   unfold im at hd;rw[bU]at hd;simp only[aqq,if_false]at hd;have hk0:0<k:=by split at hd<;>(have:=(CA l (M-1) 0).1;omega)
   obtain⟨k,rfl⟩:∃j,k=j+1:=⟨k-1,by omega⟩
   rw[if_pos (by omega)]at hd;obtain⟨n',Lg⟩:=(CA l (M-1) 0).2 s hs;obtain⟨p1,p2,p3⟩:=GB (s:=s) (M:=M-1) (n:=n');have hw:∀x∈s.av,wE x<=8 *k:=λx hx=>TU hB k (M-1) x _ (by omega) (q4 x hx) (by have:=(xk s.av (M-1) n').2 x hx;omega)
   have Ql:=QG (H:=H) hB k (M-1) s.Body (by omega) (by omega) q5 (by omega);have hB2:=QG (H:=H) hB k (M-1) s.bC (by omega) (by omega) q6 (by omega);by_cases h1:s.Kind=1
   ·have q4':=q4;simp only[h1,decide_true]at q4';exact ag0 h1 λx hx n=>afg hB (q4' x hx) (by have:=hw x hx;omega) n
   ·have hx:∀x∈s.av,cw c.B.Tables loc x false=true:=λx hx=>by have:=q4 x hx;simpa[h1]using this
    have h8:=(Mw q1).1;have ha:∀n,gY H (oh c) (aK s.av n).1 n (aK s.av n).2 0 s.av.length:=λn=>by
     have:=Cz (H:=H) (pf:=oh c) s.av (λx cy=>Nf _ x (ap5 _) (hx x cy)) n 0 (by have:=QF s.av hw;omega);rw[aqB]at this;exact this
    have pU:s.Kind=9\/s.Kind=10\/s.Kind=11->s.av.length=1:=λhk=>by
     unfold gX oQ at q1;rcases hk with hk|hk|hk<;>(simp[hk]at q1;omega)
    by_cases h9:s.Kind=9
    ·by_cases he:s.bC=[]
     ·exact agY h9 he (pU (.inl h9)) ha Ql
     ·exact agZ h9 he (pU (.inl h9)) ha Ql hB2
    by_cases dX:s.Kind=10
    ·exact acV dX (pU (.inr (.inl dX))) ha Ql
    by_cases fT:s.Kind=11
    ·exact afe (by omega) fT (pU (.inr (.inr fT))) ha Ql
    exact acW q1 h1 h9 dX fT ha
end Go.Ab
namespace Go.Ab
def jF(l r:List ae):Nat->Option (Nat×Nat×List ae)
 | 0=>if cr r 0=1/\cr r 1=1/\cr r 2=8/\bg r 2≠9/\(iK ai.zero (bg r 2) (bg r 0) (bg r 1)).2=0 then some (0,3,jJ (iK ai.zero (bg r 2) (bg r 0) (bg r 1)).1)else none
 | 1=>if cr r 0≠1 then none else if cr r 1=9 then some (0,2,jJ (uP (bg r 0)))else if cr r 1=10 then some (0,2,jJ (notM (bg r 0)))else if cr r 1=11 then some (0,2,jJ (1-notM (bg r 0)))else none
 | 2=>if cr r 0=10/\cr r 1=10/\cr r 2=25 then some (0,2,[])else none
 | 3=>if cr r 0=1/\cr r 1=25/\ax (bg r 0)=0 then some (0,2,[⟨24,bg r 1⟩])else none
 | 4=>if cr r 0=1/\cr r 1=25/\ax (bg r 0)≠0 then some (0,2,[])else none
 | 5=>if cr r 0=1/\cr r 1=2 then some (0,2,[])else none
 | 6=>if iz (cr r 0)/\0<ik r.tail then some (1,ik r.tail,[])else none
 | 7=>if cr r 0=24/\(r.tail.takeWhile bl).any (λi=>decide (i.Arg=bg r 0))=true then some (0,1,[])else none
 | 8=>if cr r 0=24\/cr r 0=25 then(rL l r).map λx=>(0,1,x)else none
 | 9=>if cr r 0=38/\kq l (bg r 0)=false then some (0,1,[])else none
 | _=>none
def zN{α:Type}:Option α->Option α->Option α
 | some x,_=>some x
 | none,y=>y
def ES(l r:List ae):Nat->Nat->Option (Nat×Nat×List ae)
 | 0,_=>none
 | n+1,k=>zN (jF l r k) (ES l r n (k+1))
theorem MD(l r:List ae):ES l r 10 0=nY l r:=by
 simp only[ES];unfold nY nI ma;by_cases c0:cr r 0=1/\cr r 1=1/\cr r 2=8/\bg r 2≠9/\(iK ai.zero (bg r 2) (bg r 0) (bg r 1)).2=0
 ·simp only[jF,if_pos c0,zN]
 ·by_cases h1:cr r 0=1
  ·have e24:¬(1:Int)=24:=by omega
   simp only[jF,if_neg c0,h1,zN,iz];by_cases k9:cr r 1=9
   ·simp[k9,zN]
   by_cases oa:cr r 1=10
   ·simp[oa,zN]
   by_cases o9:cr r 1=11
   ·simp[o9,zN]
   by_cases k25:cr r 1=25
   ·by_cases kw:ax (bg r 0)=0<;>simp[k25,kw,zN]
   by_cases k2:cr r 1=2
   ·simp[k2,zN]
   have c1:¬(cr r 1=1/\cr r 2=8/\¬bg r 2=9/\(iK ai.zero (bg r 2) (bg r 0) (bg r 1)).2=0):=λh=>c0 ⟨h1,h⟩
   simp[k9,oa,o9,k25,k2,zN,c1]
  ·simp only[jF,if_neg c0,h1,zN,ne_eq,not_false_eq_true,if_true,false_and,if_false];by_cases dX:cr r 0=10/\cr r 1=10/\cr r 2=25
   ·simp[dX,zN]
   rw[if_neg dX,if_neg dX];simp only[zN];by_cases h6:iz (cr r 0)/\0<ik r.tail
   ·simp[h6,zN]
   rw[if_neg h6,if_neg h6];simp only[zN];by_cases hj:cr r 0=24\/cr r 0=25
   ·rw[if_pos hj,if_pos hj];by_cases h7:cr r 0=24/\(r.tail.takeWhile bl).any (λi=>decide (i.Arg=bg r 0))=true
    ·rw[if_pos h7,if_pos h7]
    ·rw[if_neg h7,if_neg h7];have ed:¬(cr r 0=38/\kq l (bg r 0)=false):=by omega
     rw[if_neg ed];cases (rL l r).map (λx=>((0:Nat),(1:Nat),x))<;>rfl
   ·rw[if_neg hj,if_neg hj,if_neg (by omega)];generalize (if cr r 0=38/\kq l (bg r 0)=false then some ((0:Nat),(1:Nat),([]:List ae))else none)=z;cases z<;>rfl
end Go.Ab
namespace Go.Ab
variable {H : Nat} {pf Γ : Int -> Nat}
theorem CB{l r:List ae}{y:Nat×Nat×List ae}:∀(n k:Nat),ES l r n k=some y->∃j,jF l r j=some y
 | 0,_,h=>by cases h
 | n+1,k,h=>by
   rw[ES]at h;cases hw:jF l r k with
   | some x=>rw[hw]at h;exact⟨k,by rw[hw];exact h⟩
   | none=>rw[hw]at h;exact CB n (k+1) h
theorem adP{i:ae}{o:Option Nat}(h1:i.Op≠38)(h2:¬dE i.Op)(h3:i.Op≠25)(h4:i.Op≠26):fL pf Γ i o=o.map λh=>h+fh i.Op-mB i.Op:=by
 unfold fL;rw[if_neg h1,if_neg h2];simp only[if_neg h3,if_neg h4]
theorem acX{a:Int}(o:Option Nat):fL pf Γ ⟨1,a⟩ o=o.map (· +1):=by
 cases o<;>rfl
theorem TW{L:Int}:∀{t:List ae} {o:Option Nat},ez H pf Γ t o->(t.takeWhile bl).any (λi=>decide (i.Arg=L))=true->ez H pf Γ t (some (Γ L))
 | [],o,_,hn=>by simp at hn
 | i::t,o,hc,hn=>by
   by_cases hi:i.Op=38
   ·have hl:bl i=true:=by unfold bl;simp[hi]
    have e:∀o,fL pf Γ i o=some (Γ i.Arg):=λo=>by unfold fL;rw[if_pos hi]
    have hg:Γ L=Γ i.Arg:=by
     rw[aqw,hl]at hn;simp only[if_true,asf,arw,decide_eq_true_eq]at hn;rcases hn with hn|hn
     ·rw[<-hn]
     ·have h2:=hc.2;rw[e]at h2;cases t with
      | nil=>simp at hn
      | cons j t=>
        by_cases hj:j.Op=38
        ·have h3:=TW h2 hn;have a1:=(h3.1.2 _ rfl).1 (.inl hj);have a2:=(h2.1.2 _ rfl).1 (.inl hj);rw[a1,a2]
        ·have hl:bl j=false:=by unfold bl;simp[hj]
         rw[aqw,hl]at hn;simp at hn
    refine⟨⟨hc.1.1,λh e'=>?_⟩,?_⟩
    ·cases e';refine⟨λ_=>hg,λc=>by omega,λx hx=>?_⟩;rw[e]at hx;cases hx;exact hc.1.1 hi
    ·have:=hc.2;rw[e]at this⊢;exact this
   ·have hl:bl i=false:=by unfold bl;simp[hi]
    rw[aqw,hl]at hn;simp at hn
theorem TX:∀{t:List ae},ez H pf Γ t none->ez H pf Γ (t.drop (ik t)) none
 | [],h=>h
 | i::t,h=>by
   unfold ik;by_cases hi:i.Op=38
   ·have:bl i=true:=by unfold bl;simp[hi]
    rw[aqw,this];exact h
   ·have hl:bl i=false:=by unfold bl;simp[hi]
    have e:fL pf Γ i none=none:=by unfold fL;rw[if_neg hi];split<;>rfl
    have h2:=h.2;rw[e]at h2;rw[aqw,hl];exact TX h2
theorem afh{t:List ae}{n:Nat}:ez H pf Γ t (some n)->t.dropWhile bl=t\/∃a∈t.takeWhile bl,ez H pf Γ (t.dropWhile bl) (some n):=by
 intro h
 induction t with
 | nil=>exact .inl rfl
 | cons i t ih=>
   by_cases hi:i.Op=38
   ·have hl:bl i=true:=by unfold bl;simp[hi]
    right;have e:fL pf Γ i (some n)=some (Γ i.Arg):=by unfold fL;rw[if_pos hi]
    have h1:=(h.1.2 _ rfl).1 (.inl hi);have h2:=h.2;rw[e,<-h1]at h2;rw[aqw,arJ,hl];refine⟨i,by simp,?_⟩;simp only[if_true];rcases ih h2 with k|⟨_,_,k⟩
    ·rw[k];exact h2
    ·exact k
   ·have hl:bl i=false:=by unfold bl;simp[hi]
    left;rw[arJ,hl];rfl
theorem acY{t:List ae}{n:Nat}(h:ez H pf Γ t (some n)):ez H pf Γ (t.dropWhile bl) (some n):=by
 rcases afh h with k|⟨_,_,k⟩
 ·rw[k];exact h
 ·exact k
end Go.Ab
namespace Go.Ab
variable {H : Nat} {pf Γ : Int -> Nat}
theorem TY{a b:Int}{o:Option Nat}(k:Ss H pf Γ ⟨1,a⟩ o):Ss H pf Γ ⟨1,b⟩ o:=
 ⟨λc=>by simp at c,λh e=>⟨λc=>by simp at c,λc=>by simp at c,λx hx=>(k.2 h e).2.2 x (by rw[acX]at hx⊢;exact hx)⟩⟩
theorem ag1{l p r:List ae}{j:Nat}{y:Nat×Nat×List ae}(hl:l=p++r)(h:ez H pf Γ l (some 0))(hw:jF l r j=some y):ez H pf Γ (p++(r.take y.1++(y.2.2++r.drop (y.1+y.2.1)))) (some 0):=by
 have key:(∀o,ez H pf Γ r o->ez H pf Γ (r.take y.1++(y.2.2++r.drop (y.1+y.2.1))) o)->ez H pf Γ (p++(r.take y.1++(y.2.2++r.drop (y.1+y.2.1)))) (some 0):=λk=>by
  rw[hl]at h;exact aam k h
 have lH:∀{r:List ae} {k:Int},cr r 0=k->k≠0->∃a t,r=⟨k,a⟩::t:=λ{r k} hk h0=>by
  obtain⟨⟨o1,a⟩,t,rfl⟩:=dy (r:=r) (by omega);rw[sK]at hk;exact⟨a,t,by rw[<-hk]⟩
 match j,hw with
 | 0,hw=>
   rw[jF]at hw;split at hw
   ·rename_i c;cases hw;obtain⟨a,t,rfl⟩:=lH c.1 (by decide);obtain⟨b,t,rfl⟩:=lH (r:=t) ((dt _ _ _).symm.trans c.2.1) (by decide);obtain⟨d,t,rfl⟩:=lH (r:=t) (((dt _ _ _).trans (dt _ _ _)).symm.trans c.2.2.1) (by decide);refine key λo ho=>⟨TY ho.1,?_⟩
    have:=ho.2.2.2;refine xh ?_ this;cases o<;>exact HJ _
   ·cases hw
 | 1,hw=>
   rw[jF]at hw;split at hw
   ·cases hw
   ·rename_i c;obtain⟨a,t,rfl⟩:=lH (Classical.not_not.1 c) (by decide);rw[dt]at hw
    repeat' split at hw
    all_goals first|(cases hw;done)|skip
    all_goals
     rename_i c2;obtain⟨b,t,rfl⟩:=lH (r:=t) c2 (by decide);cases hw;refine key λo ho=>⟨TY ho.1,?_⟩
     have:=ho.2.2;refine xh ?_ this;cases o<;>exact HJ _
 | 2,hw=>
   rw[jF]at hw;split at hw
   ·rename_i c;cases hw;obtain⟨a,t,rfl⟩:=lH c.1 (by decide);obtain⟨b,t,rfl⟩:=lH (r:=t) ((dt _ _ _).symm.trans c.2.1) (by decide);obtain⟨d,t,rfl⟩:=lH (r:=t) (((dt _ _ _).trans (dt _ _ _)).symm.trans c.2.2) (by decide);refine key λo ho=>xh ?_ ho.2.2
    intro x hx;subst hx;have h1:=(ho.1.2 x rfl).2.2;have h3:=(ho.2.2.1.2 _ rfl).2.1 rfl;show some (x+1-1+1-1)=some x;congr 1
   ·cases hw
 | 3,hw=>
   rw[jF]at hw;split at hw
   ·rename_i c;cases hw;obtain⟨a,t,rfl⟩:=lH c.1 (by decide);obtain⟨b,t,rfl⟩:=lH (r:=t) ((dt _ _ _).symm.trans c.2.1) (by decide);refine key λo ho=>⟨⟨λc=>by simp at c,λx hx=>⟨λ_=>?_,λc=>by simp at c,λz hz=>by cases hz⟩⟩,xh (HK _) ho.2.2⟩
    subst hx;have h3:=(ho.2.1.2 _ rfl).2.1 rfl;have SS:x+1-0=Γ b+1:=h3;show x=Γ b;omega
   ·cases hw
 | 4,hw=>
   rw[jF]at hw;split at hw
   ·rename_i c;cases hw;obtain⟨a,t,rfl⟩:=lH c.1 (by decide);obtain⟨b,t,rfl⟩:=lH (r:=t) ((dt _ _ _).symm.trans c.2.1) (by decide);refine key λo ho=>xh ?_ ho.2.2
    intro x hx;subst hx;show some (x+1-0-1)=some x;congr 1
   ·cases hw
 | 5,hw=>
   rw[jF]at hw;split at hw
   ·rename_i c;cases hw;obtain⟨a,t,rfl⟩:=lH c.1 (by decide);obtain⟨b,t,rfl⟩:=lH (r:=t) ((dt _ _ _).symm.trans c.2) (by decide);refine key λo ho=>xh ?_ ho.2.2
    intro x hx;subst hx;show some (x+1-0+0-1)=some x;congr 1
   ·cases hw
 | 6,hw=>
   rw[jF]at hw;split at hw
   ·rename_i c;cases hw;obtain⟨i,t,rfl⟩:=dy (r:=r) (by have:=c.1;unfold iz at this;omega);have ce:dE i.Op:=c.1;have e:∀o,fL pf Γ i o=none:=λo=>by unfold fL;rw[if_neg (by unfold dE at ce;omega),if_pos ce]
    refine key λo ho=>?_
    rw[show(i::t).drop (1+ik (i::t).tail)=t.drop (ik t) by rw[Nat.add_comm];rfl];refine⟨ho.1,?_⟩;have h2:=ho.2;rw[e]at h2⊢;exact TX h2
   ·cases hw
 | 7,hw=>
   rw[jF]at hw;split at hw
   ·rename_i c;cases hw;obtain⟨a,t,rfl⟩:=lH c.1 (by decide);refine key λo ho=>?_
    cases o with
    | none=>exact ho.2
    | some x=>
      have h1:x=Γ a:=(ho.1.2 x rfl).1 (.inr rfl);show ez H pf Γ t (some x);rw[h1];exact TW ho.2 c.2
   ·cases hw
 | 8,hw=>
   rw[jF]at hw;split at hw
   ·rename_i c;obtain⟨x,hx,rfl⟩:=apN.1 hw;unfold rL at hx;split at hx
    ·cases hx
    ·rename_i a ha;split at hx
     ·rename_i c2;cases hx;obtain⟨⟨op,n⟩,t,rfl⟩:=dy (r:=r) (by omega);obtain⟨k1,-⟩:=GR h ha;have k2:=acY k1;generalize a.dropWhile bl=u at *;obtain⟨⟨o2,n2⟩,u,rfl⟩:=dy (r:=u) (by omega);have e2:o2=24:=c2.1;subst e2;have hg:Γ n=Γ n2:=(k2.1.2 _ rfl).1 (.inr rfl);refine key λo ho=>?_
      have c':op=24\/op=25:=c;have e:fL pf Γ ⟨op,n2⟩ o=fL pf Γ ⟨op,n⟩ o:=by
       rcases c' with rfl|rfl<;>rfl
      refine⟨⟨λk=>?_,λy hy=>?_⟩,?_⟩
      ·have k':op=38:=k;omega
      ·obtain⟨a1,a2,a3⟩:=ho.1.2 y hy;refine⟨λk=>(a1 k).trans hg,λk=>by have:=a2 k;show y=Γ n2+1;rw[<-hg];exact this,λz hz=>a3 z (by rw[<-e];exact hz)⟩
      ·show ez H pf Γ t (fL pf Γ ⟨op,n2⟩ o);rw[e];exact ho.2
     ·cases hx
   ·cases hw
 | 9,hw=>
   rw[jF]at hw;split at hw
   ·rename_i c;cases hw;obtain⟨a,t,rfl⟩:=lH c.1 (by decide);refine key λo ho=>xh ?_ ho.2
    intro x hx;subst hx;have h1:x=Γ a:=(ho.1.2 x rfl).1 (.inl rfl);rw[h1];rfl
   ·cases hw
 | n+10,hw=>cases hw
theorem aaq{l l':List ae}{k:Nat}(h:ez H pf Γ l (some 0))(hb:iq l k=some l'):ez H pf Γ l' (some 0):=by
 unfold iq at hb;obtain⟨y,hy,rfl⟩:=apN.1 hb;rw[<-MD]at hy;obtain⟨j,hj⟩:=CB _ _ hy;have:=ag1 (p:=l.take k) (aqh k l).symm h hj;unfold il;rw[List.take_add,ap0,show k+y.1+y.2.1=k+(y.1+y.2.1) by omega,<-aqW];exact this
theorem TZ{l:List ae}(h:ez H pf Γ l (some 0)):∀(n k:Nat) {l':List ae},jq l n k=some l'->ez H pf Γ l' (some 0)
 | 0,_,_,e=>by cases e
 | n+1,k,l',e=>by
   rw[jq]at e;cases hb:iq l k with
   | some x=>rw[hb]at e;cases e;exact aaq h hb
   | none=>rw[hb]at e;exact TZ h n (k+1) e
theorem aar:∀(n:Nat) {l:List ae},ez H pf Γ l (some 0)->ez H pf Γ (allM n l) (some 0)
 | 0,_,h=>h
 | n+1,l,h=>by
   rw[allM];cases ho:jq l l.length 0 with
   | some x=>exact aar n (TZ h _ _ ho)
   | none=>exact h
theorem afi{l:List ae}(h:ez H pf Γ l (some 0)):ez H pf Γ (dK l) (some 0):=aar _ h
end Go.Ab
namespace Go.Ab
theorem Uu{c:XC}(hB:gK c.B)(f:Int)(hf:eJ c.B.aF f)(hd:im (c.B.aF[f.toNat]?.getD []) 65<=32):∃Γ,ez 290 (oh c) Γ (dK (bT c.B f)) (some 0):=by
 obtain⟨Γ,k⟩:=QG (H:=290) hB 32 65 (c.B.aF[f.toNat]?.getD []) (by omega) (by omega) (hB.bnd f hf) hd 0;refine⟨Γ,afi ?_⟩;unfold bT;rw[if_pos hf];refine k Γ (λ_ _ _=>rfl) _ ?_;refine ur (by decide) (by decide) (by decide) rfl (by show(1:Nat)<=290;omega) ?_;refine⟨⟨λc=>by simp at c,λx hx=>⟨λc=>by simp at c,λc=>by simp at c,λz hz=>by cases hz⟩⟩,rfl⟩
theorem Su{H:Nat}{pf Γ:Int->Nat}:∀{r:List ae} {h:Nat},ez H pf Γ r (some h)->∃a i t,r=a++i::t/\(∀j∈a,j.Op=38)/\i.Op≠38/\ez H pf Γ (i::t) (some h)
 | [],h,k=>by cases k
 | i::r,h,k=>by
   by_cases ed:i.Op=38
   ·have e:fL pf Γ i (some h)=some (Γ i.Arg):=by unfold fL;rw[if_pos ed]
    have h1:=(k.1.2 _ rfl).1 (.inl ed);have h2:=k.2;rw[e,<-h1]at h2;obtain⟨a,j,t,e1,e2,e3,e4⟩:=Su h2;exact⟨i::a,j,t,by rw[e1];rfl,λx hx=>by rcases ap8.1 hx with rfl|hx;exact ed;exact e2 x hx,e3,e4⟩
   ·exact⟨[],i,r,rfl,(λx hx=>by cases hx),ed,k⟩
theorem JC{v:Bool}{S0 L S' L':List Int}{σ σ':MS}{p:Option (ai×OC)}(h:jS v S0 L σ p=some (.ok S' L' σ')):S'.length=S0.length+(if v then 1 else 0):=by
 unfold jS at h;split at h
 ·cases h;cases v<;>rfl
 all_goals cases h
theorem JD{S0 L S' L':List Int}{σ σ':MS}{t:ByteArray}(h:uB S0 L σ t=some (.ok S' L' σ')):S'.length=S0.length:=by
 unfold uB at h;split at h
 ·cases h;rfl
 ·cases h
theorem aiC{S0 L S' L':List Int}{σ σ':MS}{p:Int×Int}(h:A1 S0 L σ p= .ok S' L' σ'):S'.length=S0.length+1:=by
 unfold A1 at h;split at h
 ·cases h;rfl
 ·cases h
theorem T0{o:Int}(h:eQ o≠0):o=3\/o=7\/o=12\/o=13\/o=19\/o=20:=by
 unfold eQ at h
 repeat' split at h
 all_goals omega
theorem T2{o:Int}(h:fy o≠0):o=4\/o=14\/o=15\/o=16\/o=17\/o=18\/o=28\/o=29\/o=30\/o=31\/o=32\/o=33\/o=34:=by
 refine aqr λhn=>h ?_
 simp only[fy,show ¬o=4 by omega,show ¬o=14 by omega,show ¬o=15 by omega,show ¬o=16 by omega,show ¬o=17 by omega,show ¬o=18 by omega,show ¬o=28 by omega,show ¬o=29 by omega,show ¬o=30 by omega,show ¬o=31 by omega,show ¬o=32 by omega,show ¬o=33 by omega,show ¬o=34 by omega,if_false]
theorem acZ(o:Int):(dr o=0/\(o=3\/o=7\/o=28\/o=29\/o=30\/o=33))\/(dr o=2/\(o=14\/o=17))\/(dr o=1/\¬(o=3\/o=7\/o=28\/o=29\/o=30\/o=33\/o=14\/o=17)):=by
 unfold dr
 repeat' split
 all_goals omega
theorem ac0{c:XC}{w:ai}{o n:Int}{S0 L S' L':List Int}{σ σ':MS}{a:List Int}(h:jS false S0 L σ (dk c w (fy o) n a)=some (.ok S' L' σ')):o≠28/\o≠29/\o≠30:=by
 refine aqr λhn=>?_
 have ho:o=28\/o=29\/o=30:=by omega
 rcases ho with rfl|rfl|rfl<;>(simp only[fy,dk]at h;cases hk:okW c w<;>simp[hk,jS]at h)
theorem instJ_ht{c:XC}{i:ae}{S L S' L':List Int}{σ σ':MS}(h:instJ c i S L σ=some (.ok S' L' σ')):¬dE i.Op/\∃k,S.length=k+mB i.Op/\S'.length=k+fh i.Op:=by
 have fin:∀{o:Int} (k:Nat),i.Op=o->¬dE o->S.length=k+mB o->S'.length=k+fh o->¬dE i.Op/\∃k,S.length=k+mB i.Op/\S'.length=k+fh i.Op:=λk e h1 h2 h3=>by rw[e];exact⟨h1,k,h2,h3⟩
 unfold instJ at h;by_cases h1:i.Op=1
 ·rw[if_pos h1]at h;cases h;exact fin S.length h1 (by decide) (by simp[mB]) (by simp[fh])
 rw[if_neg h1]at h;by_cases rA:i.Op=37
 ·rw[if_pos rA]at h;split at h
  ·split at h
   ·cases h
   ·cases h;exact fin S.length rA (by decide) (by simp[mB]) (by simp[fh])
  ·cases h
 rw[if_neg rA]at h;by_cases h5:i.Op=5
 ·rw[if_pos h5]at h;split at h
  ·cases h;exact fin S.length h5 (by decide) (by simp[mB]) (by simp[fh])
  ·cases h
 rw[if_neg h5]at h;by_cases A5:i.Op=21
 ·rw[if_pos A5]at h;exact fin S.length A5 (by decide) (by simp[mB]) (by simp[fh,JD h])
 rw[if_neg A5]at h;by_cases Gy:i.Op=35
 ·rw[if_pos Gy]at h;split at h
  ·exact fin S.length Gy (by decide) (by simp[mB]) (by simp[fh,JD h])
  ·cases h
 rw[if_neg Gy]at h;have hti:=acZ i.Op;by_cases h0:dr i.Op=0
 ·rw[if_pos h0]at h;split at h
  ·rename_i hv;have he:=JC h;rcases T0 hv with e|e|e|e|e|e
   ·exact fin S.length e (by decide) (by simp[mB]) (by simp[fh,he])
   ·exact fin S.length e (by decide) (by simp[mB]) (by simp[fh,he])
   all_goals omega
  ·split at h
   ·rename_i hv;have he:=JC h;have ho:=ac0 h;have e:i.Op=33:=by have:=T2 hv;omega
    exact fin S.length e (by decide) (by simp[mB]) (by simp[fh,he])
   ·cases h
 rw[if_neg h0]at h;cases S with
 | nil=>cases h
 | cons v S=>
   simp only at h;have one:∀{o:Int},i.Op=o->¬dE o->mB o=1->S'.length=S.length+fh o->¬dE i.Op/\∃k,(v::S).length=k+mB i.Op/\S'.length=k+fh i.Op:=λe h1 h2 h3=>fin S.length e h1 (by rw[h2];rfl) h3
   by_cases h2:i.Op=2
   ·rw[if_pos h2]at h;cases h;exact one h2 (by decide) (by decide) (by simp[fh])
   rw[if_neg h2]at h;by_cases h6:i.Op=6
   ·rw[if_pos h6]at h;split at h
    ·cases h;exact one h6 (by decide) (by decide) (by simp[fh])
    ·cases h
   rw[if_neg h6]at h;by_cases h9:i.Op=9
   ·rw[if_pos h9]at h;cases h;exact one h9 (by decide) (by decide) (by simp[fh])
   rw[if_neg h9]at h;by_cases dX:i.Op=10
   ·rw[if_pos dX]at h;cases h;exact one dX (by decide) (by decide) (by simp[fh])
   rw[if_neg dX]at h;by_cases fT:i.Op=11
   ·rw[if_pos fT]at h;cases h;exact one fT (by decide) (by decide) (by simp[fh])
   rw[if_neg fT]at h;by_cases CU:i.Op=22
   ·rw[if_pos CU]at h;exact one CU (by decide) (by decide) (by simp[fh,JD h])
   rw[if_neg CU]at h;by_cases zL:i.Op=23
   ·rw[if_pos zL]at h;exact one zL (by decide) (by decide) (by simp[fh,JD h])
   rw[if_neg zL]at h;by_cases Gz:i.Op=36
   ·rw[if_pos Gz]at h;split at h
    ·exact one Gz (by decide) (by decide) (by simp[fh,JD h])
    ·cases h
   rw[if_neg Gz]at h;by_cases h8:i.Op=8
   ·rw[if_pos h8]at h;cases S with
    | nil=>cases h
    | cons u S=>
      simp only at h;split at h
      ·cases h
      ·simp only[akC]at h;exact fin S.length h8 (by decide) (by simp[mB]) (by simp[fh,aiC h])
   rw[if_neg h8]at h;by_cases Qo:dr i.Op=2
   ·rw[if_pos Qo]at h;cases S with
    | nil=>cases h
    | cons u S=>
      simp only at h;split at h
      ·have he:=JC h;have e:i.Op=14\/i.Op=17:=by omega
       rcases e with e|e<;>exact fin S.length e (by decide) (by simp[mB]) (by simp[fh,he])
      ·cases h
   rw[if_neg Qo]at h;split at h
   ·rename_i hv;have he:=JC h;rcases T0 hv with e|e|e|e|e|e
    ·omega
    ·omega
    all_goals exact one e (by decide) (by decide) (by simp[fh,he])
   ·split at h
    ·rename_i hv;have he:=JC h;rcases T2 hv with e|e|e|e|e|e|e|e|e|e|e|e|e
     all_goals first|omega|exact one e (by decide) (by decide) (by simp[fh,he])
    ·cases h
end Go.Ab
namespace Go.Ab
def cp(κ:Int->Nat):List ae->Nat
 | []=>1
 | i::r=>if i.Op=38 then cp κ r else if i.Op=37 then 1 else if i.Op=24 then 1+κ i.Arg else if dE i.Op then 1 else if i.Op=25 then 1+max (κ i.Arg) (cp κ r)else 1+cp κ r
def mP(κ:Int->Nat):List ae->Prop
 | []=>True
 | i::r=>(i.Op=38->cp κ r<=κ i.Arg)/\mP κ r
variable {κ : Int -> Nat}
theorem JO:∀r:List ae,1<=cp κ r
 | []=>apU _
 | i::r=>by
   have:=JO r;rw[cp]
   repeat' split
   all_goals omega
theorem ac1{i:ae}{r r':List ae}(h:cp κ r'<=cp κ r):cp κ (i::r')<=cp κ (i::r):=by
 rw[cp,cp]
 repeat' split
 all_goals omega
theorem Dt{i:ae}{r:List ae}(h1:i.Op≠38)(h2:i.Op≠37)(h3:¬dE i.Op)(h4:i.Op≠25):cp κ (i::r)=1+cp κ r:=by
 rw[cp,if_neg h1,if_neg h2,if_neg (λe=>h3 (.inl e)),if_neg h3,if_neg h4]
theorem afj{i:ae}{r r':List ae}(h:dE i.Op):cp κ (i::r)=cp κ (i::r'):=by
 have h':=h;unfold dE at h';have n1:¬i.Op=38:=by omega
 have n2:¬i.Op=37:=by omega
 simp only[cp,if_neg n1,if_neg n2,if_pos h]
theorem aas{r r':List ae}(h:mP κ r->mP κ r'/\cp κ r'<=cp κ r):∀{p:List ae},mP κ (p++r)->mP κ (p++r')/\cp κ (p++r')<=cp κ (p++r)
 | [],k=>h k
 | i::p,k=>by
   obtain⟨h1,h2⟩:=aas h (p:=p) k.2;exact⟨⟨λe=>aqo h2 (k.1 e),h1⟩,ac1 h2⟩
theorem Ds{n:Int}:∀{l r:List ae},mP κ l->after l n=some r->mP κ r/\cp κ r<=κ n
 | [],r,_,h=>by cases h
 | i::l,r,k,h=>by
   rw[after]at h;split at h
   ·rename_i c;cases h;exact⟨k.2,by have:=k.1 c.1;rw[c.2]at this;exact this⟩
   ·exact Ds k.2 h
theorem QH:∀(t:List ae),cp κ (t.dropWhile bl)=cp κ t
 | []=>rfl
 | i::t=>by
   by_cases hi:i.Op=38
   ·have hl:bl i=true:=by unfold bl;simp[hi]
    rw[arJ,hl,if_pos rfl,QH t,cp,if_pos hi]
   ·have hl:bl i=false:=by unfold bl;simp[hi]
    rw[arJ,hl];rfl
theorem T3{L:Int}:∀{t:List ae},mP κ t->(t.takeWhile bl).any (λi=>decide (i.Arg=L))=true->cp κ t<=κ L
 | [],_,h=>by simp at h
 | i::t,k,h=>by
   by_cases hi:i.Op=38
   ·have hl:bl i=true:=by unfold bl;simp[hi]
    rw[aqw,hl]at h;simp only[if_true,asf,arw,decide_eq_true_eq]at h;rw[cp,if_pos hi];rcases h with h|h
    ·rw[<-h];exact k.1 hi
    ·exact T3 k.2 h
   ·have hl:bl i=false:=by unfold bl;simp[hi]
    rw[aqw,hl]at h;simp at h
theorem QI:∀(k:Nat) {t:List ae},mP κ t->mP κ (t.drop k)
 | 0,_,h=>h
 | _+1,[],h=>h
 | k+1,_::_,h=>QI k h.2
theorem ag2{l p r:List ae}{j:Nat}{y:Nat×Nat×List ae}(hl:l=p++r)(h:mP κ l)(hw:jF l r j=some y):mP κ (p++(r.take y.1++(y.2.2++r.drop (y.1+y.2.1))))/\cp κ (p++(r.take y.1++(y.2.2++r.drop (y.1+y.2.1))))<=cp κ l:=by
 have key:(mP κ r->mP κ (r.take y.1++(y.2.2++r.drop (y.1+y.2.1)))/\cp κ (r.take y.1++(y.2.2++r.drop (y.1+y.2.1)))<=cp κ r)->mP κ (p++(r.take y.1++(y.2.2++r.drop (y.1+y.2.1))))/\cp κ (p++(r.take y.1++(y.2.2++r.drop (y.1+y.2.1))))<=cp κ l:=λk=>by
  rw[hl]at h⊢;exact aas k h
 have lH:∀{r:List ae} {k:Int},cr r 0=k->k≠0->∃a t,r=⟨k,a⟩::t:=λ{r k} hk h0=>by
  obtain⟨⟨o1,a⟩,t,rfl⟩:=dy (r:=r) (by omega);rw[sK]at hk;exact⟨a,t,by rw[<-hk]⟩
 have pl:∀{k a:Int} {t:List ae},k=1\/k=2\/k=8\/k=9\/k=10\/k=11->cp κ (⟨k,a⟩::t)=1+cp κ t:=λ{k a t} hk=>Dt (by show k≠38;omega) (by show k≠37;omega) (by show ¬dE k;unfold dE;omega) (by show k≠25;omega)
 have z25:∀{a:Int} {t:List ae},cp κ (⟨25,a⟩::t)=1+max (κ a) (cp κ t):=λ{a t}=>by rw[cp];simp[dE]
 have z24:∀{a:Int} {t:List ae},cp κ (⟨24,a⟩::t)=1+κ a:=λ{a t}=>by rw[cp];simp
 have k1:∀{a:Int} {t:List ae},mP κ t->mP κ (⟨1,a⟩::t):=λh=>⟨λe=>by simp at e,h⟩
 match j,hw with
 | 0,hw=>
   rw[jF]at hw;split at hw
   ·rename_i c;cases hw;obtain⟨a,t,rfl⟩:=lH c.1 (by decide);obtain⟨b,t,rfl⟩:=lH (r:=t) ((dt _ _ _).symm.trans c.2.1) (by decide);obtain⟨d,t,rfl⟩:=lH (r:=t) (((dt _ _ _).trans (dt _ _ _)).symm.trans c.2.2.1) (by decide);refine key λho=>⟨k1 ho.2.2.2,?_⟩
    show cp κ (⟨1,_⟩::t)<=_;rw[pl (.inl rfl),pl (.inl rfl),pl (.inl rfl),pl (by simp)];omega
   ·cases hw
 | 1,hw=>
   rw[jF]at hw;split at hw
   ·cases hw
   ·rename_i c;obtain⟨a,t,rfl⟩:=lH (Classical.not_not.1 c) (by decide);rw[dt]at hw
    repeat' split at hw
    all_goals first|(cases hw;done)|skip
    all_goals
     rename_i c2;obtain⟨b,t,rfl⟩:=lH (r:=t) c2 (by decide);cases hw;refine key λho=>⟨k1 ho.2.2,?_⟩
     show cp κ (⟨1,_⟩::t)<=_;rw[pl (.inl rfl),pl (.inl rfl),pl (by simp)];omega
 | 2,hw=>
   rw[jF]at hw;split at hw
   ·rename_i c;cases hw;obtain⟨a,t,rfl⟩:=lH c.1 (by decide);obtain⟨b,t,rfl⟩:=lH (r:=t) ((dt _ _ _).symm.trans c.2.1) (by decide);refine key λho=>⟨ho.2.2,?_⟩
    show cp κ t<=_;rw[pl (by simp),pl (by simp)];omega
   ·cases hw
 | 3,hw=>
   rw[jF]at hw;split at hw
   ·rename_i c;cases hw;obtain⟨a,t,rfl⟩:=lH c.1 (by decide);obtain⟨b,t,rfl⟩:=lH (r:=t) ((dt _ _ _).symm.trans c.2.1) (by decide);refine key λho=>⟨⟨λe=>by simp at e,ho.2.2⟩,?_⟩
    show cp κ (⟨24,b⟩::t)<=_;rw[pl (.inl rfl),z25,z24];omega
   ·cases hw
 | 4,hw=>
   rw[jF]at hw;split at hw
   ·rename_i c;cases hw;obtain⟨a,t,rfl⟩:=lH c.1 (by decide);obtain⟨b,t,rfl⟩:=lH (r:=t) ((dt _ _ _).symm.trans c.2.1) (by decide);refine key λho=>⟨ho.2.2,?_⟩
    show cp κ t<=_;rw[pl (.inl rfl),z25];omega
   ·cases hw
 | 5,hw=>
   rw[jF]at hw;split at hw
   ·rename_i c;cases hw;obtain⟨a,t,rfl⟩:=lH c.1 (by decide);obtain⟨b,t,rfl⟩:=lH (r:=t) ((dt _ _ _).symm.trans c.2) (by decide);refine key λho=>⟨ho.2.2,?_⟩
    show cp κ t<=_;rw[pl (.inl rfl),pl (by simp)];omega
   ·cases hw
 | 6,hw=>
   rw[jF]at hw;split at hw
   ·rename_i c;cases hw;obtain⟨i,t,rfl⟩:=dy (r:=r) (by have:=c.1;unfold iz at this;omega);have ce:dE i.Op:=c.1;refine key λho=>?_
    rw[show(i::t).drop (1+ik (i::t).tail)=t.drop (ik t) by rw[Nat.add_comm];rfl];have hc:cp κ (i::t.drop (ik t))=cp κ (i::t):=afj ce;exact⟨⟨λe=>by unfold dE at ce;omega,QI _ ho.2⟩,by show cp κ (i::t.drop (ik t))<=_;omega⟩
   ·cases hw
 | 7,hw=>
   rw[jF]at hw;split at hw
   ·rename_i c;cases hw;obtain⟨a,t,rfl⟩:=lH c.1 (by decide);refine key λho=>⟨ho.2,?_⟩
    have:=T3 ho.2 c.2;show cp κ t<=_;rw[z24];have e:bg (⟨24,a⟩::t) 0=a:=rfl;rw[e]at this;omega
   ·cases hw
 | 8,hw=>
   rw[jF]at hw;split at hw
   ·rename_i c;obtain⟨x,hx,rfl⟩:=apN.1 hw;unfold rL at hx;split at hx
    ·cases hx
    ·rename_i a ha;split at hx
     ·rename_i c2;cases hx;obtain⟨⟨op,n⟩,t,rfl⟩:=dy (r:=r) (by omega);obtain⟨-,h2⟩:=Ds h ha;rw[<-QH]at h2;generalize a.dropWhile bl=u at *;obtain⟨⟨o2,n2⟩,u,rfl⟩:=dy (r:=u) (by omega);have e2:o2=24:=c2.1;subst e2;have hg:1+κ n2<=κ n:=by rw[z24]at h2;exact h2
      have c':op=24\/op=25:=c;refine key λho=>⟨⟨λk=>by have k':op=38:=k;omega,ho.2⟩,?_⟩
      show cp κ (⟨op,n2⟩::t)<=_;rcases c' with rfl|rfl
      ·rw[z24,z24];omega
      ·rw[z25,z25];omega
     ·cases hx
   ·cases hw
 | 9,hw=>
   rw[jF]at hw;split at hw
   ·rename_i c;cases hw;obtain⟨a,t,rfl⟩:=lH c.1 (by decide);refine key λho=>⟨ho.2,?_⟩
    show cp κ t<=_;rw[show cp κ (⟨38,a⟩::t)=cp κ t by rw[cp];simp];exact apU _
   ·cases hw
 | n+10,hw=>cases hw
theorem aat{l l':List ae}{k:Nat}(h:mP κ l)(hb:iq l k=some l'):mP κ l'/\cp κ l'<=cp κ l:=by
 unfold iq at hb;obtain⟨y,hy,rfl⟩:=apN.1 hb;rw[<-MD]at hy;obtain⟨j,hj⟩:=CB _ _ hy;have:=ag2 (p:=l.take k) (aqh k l).symm h hj;unfold il;rw[List.take_add,ap0,show k+y.1+y.2.1=k+(y.1+y.2.1) by omega,<-aqW];exact this
theorem T4{l:List ae}(h:mP κ l):∀(n k:Nat) {l':List ae},jq l n k=some l'->mP κ l'/\cp κ l'<=cp κ l
 | 0,_,_,e=>by cases e
 | n+1,k,l',e=>by
   rw[jq]at e;cases hb:iq l k with
   | some x=>rw[hb]at e;cases e;exact aat h hb
   | none=>rw[hb]at e;exact T4 h n (k+1) e
theorem aau:∀(n:Nat) {l:List ae},mP κ l->mP κ (allM n l)/\cp κ (allM n l)<=cp κ l
 | 0,_,h=>⟨h,apU _⟩
 | n+1,l,h=>by
   rw[allM];cases ho:jq l l.length 0 with
   | some x=>
     obtain⟨h1,h2⟩:=T4 h _ _ ho;obtain⟨h3,h4⟩:=aau n h1;exact⟨h3,aqo h4 h2⟩
   | none=>exact⟨h,apU _⟩
theorem JN{l:List ae}(h:mP κ l):mP κ (dK l)/\cp κ (dK l)<=cp κ l:=aau _ h
end Go.Ab

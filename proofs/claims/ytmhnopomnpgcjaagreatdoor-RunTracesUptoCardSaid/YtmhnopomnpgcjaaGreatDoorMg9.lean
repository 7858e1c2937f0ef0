/-
 HK texts aoQ aoR al5 aoS E2 aoT Vr1 Vr2 Vr3 Vr4 aoU Vr5 Vr6 aoV anm ann ano al6 Vok anp Lvm aoW anq anr aoX ans aoY ant anu anv aoZ,one behind Cb other.
-/
import Derived.Test.YtmhnopomnpgcjaaGreatDoorMg8
set_option linter.unusedSimpArgs false
set_option linter.unusedVariables false
namespace Go.Ab
open Go.Proofs Go.Proofs.Tryz
set_option maxHeartbeats 4000000
set_option maxRecDepth 20000
def JA:ByteArray:=⟨#[44,32]⟩
def agm:ByteArray:=⟨#[32,97,110,100,32]⟩
def yK(n k:Nat):ByteArray:=if k+2=n then agm else JA
def qL(l:List ByteArray):Nat->ByteArray
 | 0=>l[0]?.getD ⟨#[]⟩
 | k+1=>qL l k++(yK l.length k++l[k+1]?.getD ⟨#[]⟩)
theorem Mi(a:ByteArray)(l:List ByteArray)(h:2<=l.length):∀k,qL (a::l) (k+1)=a++(JA++qL l k)
 | 0=>by
   rw[qL,qL];have:yK (a::l).length 0=JA:=by unfold yK;rw[if_neg (by simp;omega)]
   rw[this];simp[qL]
 | k+1=>by
   rw[qL,Mi a l h k,qL];have:yK (a::l).length (k+1)=yK l.length k:=by unfold yK;simp
   rw[this];simp[aq3]
theorem Qv:∀l:List ByteArray,l≠ []->qL l (l.length-1)=u6 l
 | [],h=>absurd rfl h
 | [a],_=>rfl
 | [a,b],_=>by
   show a++(yK 2 0++b)=a++agm++b;rw[aq3];rfl
 | a::b::c::l,_=>by
   have ih:=Qv (b::c::l) (by simp);show qL (a::b::c::l) ((l.length+1)+1)=a++JA++u6 (b::c::l);rw[Mi a (b::c::l) (by simp),<-ih,aq3];rfl
theorem Mj(l:List ByteArray)(h:∀s∈l,s.size<=1024):∀k,(qL l k).size<=1029 *(k+1)
 | 0=>by
   unfold qL;cases h0:l[0]? with
   | none=>have:(ByteArray.mk #[]).size=0:=rfl;simp only[Option.getD_none];omega
   | some s=>have:=h s (ape h0);simp only[ap3];omega
 | k+1=>by
   have ih:=Mj l h k;rw[qL,apw,apw];have h1:(yK l.length k).size<=5:=by unfold yK;split<;>decide
   have h2:(l[k+1]?.getD ⟨#[]⟩).size<=1024:=by
    cases h0:l[k+1]? with
    | none=>have:(ByteArray.mk #[]).size=0:=rfl;simp only[Option.getD_none];omega
    | some s=>have:=h s (ape h0);simpa using this
   omega
theorem KW(t:aq)(w:aj)(x:Int)(hf:fD t=true)(aN:iG t w)(hF:cZ w):Pure prog 82 [.agg (t.enc.map .d),.agg (w.enc.map .d),iD x] (.d (.v (.string (sw t w x)))):=by
 have hn:w.ah.length<=128:=by have:=aN.hT;have:=aN.hn;omega
 have mj:=L4 t w aN.wf aN.hC aN.hN hF (by omega) x;have hlen:((iK w x).map (dB t)).length<=128:=by
  rw[apx];have:=aqO (λy=>!cU w y 3&&decide (y≠1)) (bw w.tree x);have h2:(bw w.tree x).length<=w.ah.length:=mK w.tree x;unfold iK;omega
 have dW:∀s∈(iK w x).map (dB t),s.size<=1024:=by
  intro s hs;obtain⟨y,_,rfl⟩:=apf.1 hs;exact iV hf y
 unfold sw;generalize (iK w x).map (dB t)=l at *;by_cases h0:l=[]
 ·subst h0;refine rn func82 ?_;simp[-cB,f82];intro bs;refine pC mj ?_;simp;rfl
 have iZ:0<l.length:=apV.2 h0;have bR:¬l.length=0:=by omega
 rw[<-Qv l h0];have hrk:=Mj l dW;have e0:l[0]?.getD ⟨#[]⟩=l[0]:=by rw[akC iZ];rfl
 have bY:aM .i64 ((l.length:Int)-1):=iW;refine rn func82 ?_;simp[-cB,f82];intro bs;refine pC mj ?_;simp[h0,iZ,bR,bY];refine av.cJ [7,8,23,24] (l.length-1) (λi=> [(24,iD i),(8,.d (.v (.string (qL l i))))]) (λ_=> []) (λ_=>True) (by rfl) (by simp[qL,e0]) ?_;intro i hi _;rcases apg hi with au|heq
 ·have dF:(i:Int)<(l.length:Int)-1:=by omega
  have WX:aM .i64 ((i:Int)+1):=iW;have nN:i+1<l.length:=by omega
  have e1:l[i+1]?.getD ⟨#[]⟩=l[i+1]:=by rw[akC nN];rfl
  have aj6:aM .i64 ((l.length:Int)-2):=iW;have hk:=hrk i;have vy:=dW l[i+1] (apk nN);have z5:(ByteArray.mk #[32,97,110,100,32]).size=5:=rfl;have z2:(ByteArray.mk #[44,32]).size=2:=rfl;simp[dF,aj6];rw[e1];refine⟨λh=>⟨WX,⟨by omega,nN⟩,by omega,by omega,WX,au,?_⟩,λh=>⟨WX,⟨by omega,nN⟩,by omega,by omega,WX,au,?_⟩⟩
  ·rw[qL,e1,yK,if_pos (by omega)];rfl
  ·rw[qL,e1,yK,if_neg (by omega)];rfl
 ·have bm:¬(i:Int)<(l.length:Int)-1:=by omega
  simp[bm];rw[heq]
end Go.Ab
namespace Go.Ab
set_option maxHeartbeats 4000000
set_option maxRecDepth 20000
open Go.Proofs Go.Proofs.Tryz
theorem aai{p:Int->Bool}(l:List Int)(y:Int):(l++ [y]).filter p=l.filter p++if p y then [y]else []:=by
 rw[List.filter_append];cases h:p y<;>simp[List.filter,h]
theorem aaj{w:aj}{y:Int}(hy:1<=y/\y<w.ah.length)(f:Int)(hf:0<=f/\f<=15):cz w y f=0:=by
 unfold cz;rw[if_pos (aY.2 hy),if_pos hf]
theorem Gx(w:aj)(hw:w.wf)(hF:cZ w)(hn:w.ah.length≤100000)(x:Int):
  Pure prog 147 [.agg (w.enc.map .d),iD x] (.d (.sl (aA (iK w x)))):=by
 have hk:=oA w hw x;have hlen:(bw w.tree x).length<=w.ah.length:=mK w.tree x;have fm:∀y∈bw w.tree x,1<=y/\y<w.ah.length:=λy hy=>nW hy
 unfold iK;change Pure prog 147 [.agg (w.enc.map .d),iD x] (.d (.sl (aA ((bw w.tree x).filter (Ep w)))));generalize bw w.tree x=ks at *;refine rn func147 ?_;simp[-cB,f147];intro bs;refine pC hk ?_;simp[-cB];refine av.weaken (Wk.C4 (t:=5) (h:=5404) (k:=1) (ty:=3) (by rfl) (by simp[keys])) ?_;refine av.cJ [2,5,12,13,14] ks.length (λi=> [(14,iD i)]) (λi=> [(5404,.row 3 1 (dd (aA ((ks.take i).filter (Ep w)))))]) (λ_=>True) (by rfl) (by simp) ?_;intro i hi _;rcases apg hi with au|rfl
 ·have dF:(i:Int)<ks.length:=by omega
  have bY:aM .i64 ((i:Int)+1):=iW;have hs:ks.take (i+1)=ks.take i++ [ks[i]]:=by rw[apI,akC au];rfl
  have lY:((ks.take i).filter (Ep w)).length<=i:=by
   have:=aqO (Ep w) (ks.take i);rw[apG]at this;omega
  have hh:=Gt w hF ks[i] 3;rw[aaj (fm _ (apk au)) 3 (by omega)]at hh;simp only[decide_true,ap1,show(3:Int).toNat=3 from rfl]at hh;have dH:=aai (p:=Ep w) (ks.take i) ks[i];rw[<-hs]at dH;rw[show Ep w ks[i]=(!cU w ks[i] 3&&decide (ks[i]≠1))from rfl]at dH;generalize cU w ks[i] 3=B at *;simp[-cB,au,dF];refine pC hh ?_;simp[-cB];by_cases h1:ks[i]=1
  ·simp[h1]at dH;simp[h1,bY,dH];exact au
  ·cases B with
   | true=>
     simp at dH;simp[bY,dH];exact au
   | false=>
     simp[h1]at dH;simp[h1,bY,dH];exact⟨by omega,au⟩
 ·simp
theorem Qw(t:aq)(hf:fD t=true):∀(l:List Int),l≠ []->l.length<=1000->Pure prog 149 [.agg (t.enc.map .d),.d (.sl (aA l))] (.d (.v (.string (u6 (l.map (dB t))))))
 | [],h,_=>absurd rfl h
 | [a],_,_=>by
   have ha:=qS t a;show Pure prog 149 [.agg (t.enc.map .d),.d (.sl (aA [a]))] (.d (.v (.string (dB t a))));generalize dB t a=A at *;refine rn func149 ?_;simp[-cB,f149];intro bs;refine av.bT [.d (.v (.string A))] aS (by kernel_rfl) (by rfl) ?_;simp;exact ha.ok _
 | [a,b],_,_=>by
   have ha:=qS t a;have hb:=qS t b;have za:=iV hf a;have zb:=iV hf b;have z5:(ByteArray.mk #[32,97,110,100,32]).size=5:=rfl;show Pure prog 149 [.agg (t.enc.map .d),.d (.sl (aA [a,b]))] (.d (.v (.string (dB t a++⟨#[32,97,110,100,32]⟩++dB t b))));generalize dB t a=A at *;generalize dB t b=B at *;refine rn func149 ?_;simp[-cB,f149];intro bs;refine av.bT [.d (.v (.string A)),.d (.v (.string B))] aS (by kernel_rfl) (by rfl) ?_;simp;exact⟨ha.ok _,by omega,hb.ok _,by omega⟩
 | a::b::c::l,_,hl=>by
   have ih:=Qw t hf (b::c::l) (by simp) (by simp at hl⊢;omega);have ha:=qS t a;have za:=iV hf a;have zr:=Ex ((b::c::l).map (dB t)) (by intro s hs;obtain⟨y,_,rfl⟩:=apf.1 hs;exact iV hf y);have z2:(ByteArray.mk #[44,32]).size=2:=rfl;show Pure prog 149 [.agg (t.enc.map .d),.d (.sl (aA (a::b::c::l)))] (.d (.v (.string (dB t a++⟨#[44,32]⟩++u6 ((b::c::l).map (dB t))))));generalize dB t a=A at *;generalize hR:u6 ((b::c::l).map (dB t))=R at *;rw[apx]at zr;have rC:¬(a::b::c::l).length=1:=by simp
   have lZ:¬(a::b::c::l).length=2:=by simp
   have e1:(b::c::l)=(a::b::c::l).drop 1:=rfl;rw[e1]at ih;have aj7:¬((a::b::c::l).length:Int)=1:=by simp;omega
   have aj8:¬((a::b::c::l).length:Int)=2:=by simp;omega
   have ahU:1<=(a::b::c::l).length:=by simp
   have adr:0<(a::b::c::l).length:=by simp
   have hg0:(a::b::c::l)[0]'adr=a:=rfl;have zq:(b::c::l).length<=1000:=by simp at hl⊢;omega
   clear e1;generalize (b::c::l).length=q at *;generalize a::b::c::l=L at *;refine rn func149 ?_;simp[-cB,f149];intro bs;simp[rC,lZ,aj7,aj8];refine av.bT [.d (.v (.string A)),.d (.v (.string R))] aS (by kernel_rfl) (by rfl) ?_;simp[ahU,adr,hg0];have et:(aA L).tail=aA (L.drop 1):=by cases L<;>rfl
   rw[et];exact⟨ha.ok _,by omega,ih.ok _,by omega⟩
theorem KY(t:aq)(w:aj)(x:Int)(hf:fD t=true)(hw:w.wf)(hF:cZ w)(hn:w.ah.length<=128):Pure prog 93 [.agg (t.enc.map .d),.agg (w.enc.map .d),iD x] (.d (.v (.string (sw t w x)))):=by
 have mj:=Gx w hw hF (by omega) x;have hlen:(iK w x).length<=128:=by
  have:=aqO (λy=>!cU w y 3&&decide (y≠1)) (bw w.tree x);have h2:(bw w.tree x).length<=w.ah.length:=mK w.tree x;unfold iK;omega
 unfold sw;generalize iK w x=l at *;by_cases h0:l=[]
 ·subst h0;refine rn func93 ?_;simp[-cB,f93];intro bs;refine pC mj ?_;simp;rfl
 ·have hr:=Qw t hf l h0 (by omega);have bR:¬l.length=0:=by have:=apV.2 h0;omega
  refine rn func93 ?_;simp[-cB,f93];intro bs;refine pC mj ?_;simp[h0,bR];refine pC hr ?_;simp[-cB]
theorem yL(w:aj)(hF:cZ w)(x f:Int)(hf:0<=f/\f<=15):Pure prog 215 [.agg (w.enc.map .d),iD x,iD f] (oD (cU w x f.toNat)):=by
 have hl:=hF.1;unfold cU;by_cases h1:1<=x
 ·by_cases h2:x<w.Flags.length
  ·have au:x.toNat<w.Flags.length:=by omega
   have h0:0<=x:=by omega
   have hg:w.Flags[x.toNat]?.getD 0=aB w.Flags x:=rfl;have bm:w.Flags[x.toNat]'au=aB w.Flags x:=by rw[<-hg,akC au];rfl
   have hm:=hF.2 (aB w.Flags x) (by rw[<-bm];exact apk _);rw[aY.2 (by omega),ap1];refine rn func215 ?_;simp[-cB,f215];rw[hg];refine⟨λ_ _=>⟨⟨h0,au⟩,h1,h2⟩,λ_ _=>⟨hf.1,h1,h2⟩,?_⟩;have bY:IntKind.i64.bits=64:=rfl;rw[decide_eq_true h1,decide_eq_true h2,bY,aq1 (by omega),ari _ (Int.pow_nonneg (by decide)),apz (Int.ediv_nonneg hm.1 (Int.pow_nonneg (by decide)))];rfl
  ·rw[Ly.2 (by omega),Bool.false_and];refine rn func215 ?_;simp[-cB,f215];exact⟨λ_ h=>absurd h h2,λ_ h=>absurd h h2,λ_ h=>absurd h h2⟩
 ·rw[Ly.2 (by omega),Bool.false_and];refine rn func215 ?_;simp[-cB,f215];exact⟨λh=>absurd h h1,λh=>absurd h h1,λh=>absurd h h1⟩
theorem WY(w:aj)(hF:cZ w)(x:Int):Pure prog 255 [.agg (w.enc.map .d),iD x] (oD (tZ w x)):=by
 have h2:=yL w hF x 2 (by decide);have h1:=yL w hF x 1 (by decide);unfold tZ;simp only[show(2:Int).toNat=2 from rfl,show(1:Int).toNat=1 from rfl]at h1 h2;generalize cU w x 2=A at *;generalize cU w x 1=B at *;refine rn func255 ?_;simp[-cB,f255];intro bs;refine pC h2 ?_;simp[-cB];refine pG h1 ?_;simp[-cB]
set_option maxHeartbeats 200000
set_option maxRecDepth 512
theorem B8(nx:List Int):∀(a j:Nat) (z:Int),cw nx (a+j) z=cw nx j (cw nx a z)
 | a,0,z=>rfl
 | a,j+1,z=>by
   rw[show a+(j+1)=(a+j)+1 by omega,fy,fy,B8 nx a j z]
theorem Mk{nx:List Int}(h0:aH nx 0=0):∀k,cw nx k 0=0
 | 0=>rfl
 | k+1=>by rw[fy,Mk h0 k,h0]
theorem Ch.iter{nx:List Int}{n:Nat}{c:Int}{l:List Int}(h0:aH nx 0=0)(h:Ch nx n c l):∀k,cw nx k c∈l\/cw nx k c=0:=by
 induction h with
 | nil=>intro k;exact .inr (Mk h0 k)
 | @cons c l h t ih=>
   intro k;cases k with
   | zero=>exact .inl (by simp[cw])
   | succ k=>
     rw[show k+1=1+k by omega,B8];have:cw nx 1 c=aH nx c:=by rw[fy];rfl
     rw[this];rcases ih k with h|h
     ·exact .inl (apl _ h)
     ·exact .inr h
theorem Ch.aak{nx:List Int}{n:Nat}{c:Int}{l:List Int}(h0:aH nx 0=0)(h:Ch nx n c l)(hc:1<=c)(m:Nat):cw nx (m+1) c≠c:=by
 have gz:=h.nodup;cases h with
 | nil=>omega
 | @cons _ l hb t=>
   intro e;rw[show m+1=1+m by omega,B8]at e;have h1:cw nx 1 c=aH nx c:=by rw[fy];rfl
   rw[h1]at e;rcases t.iter h0 m with h|h
   ·rw[e]at h;exact(ap0.1 gz).1 h
   ·omega
theorem HF{f:Int->List Int}:∀ks:List Int,ks.Nodup->(∀y∈ks,(f y).Nodup)->(∀y1∈ks,∀y2∈ks,y1≠y2->∀z∈f y1,z∉f y2)->(ks.flatMap f).Nodup
 | [],_,_,_=>by simp
 | y::ks,h1,h2,h3=>by
   obtain⟨g1,g2⟩:=ap0.1 h1;rw[List.flatMap_cons,aqE];refine⟨h2 y (by simp),HF ks g2 (λx hx=>h2 x (by simp[hx])) (λa ha b hb=>h3 a (by simp[ha]) b (by simp[hb])),λa ha b hb e=>?_⟩;subst e;obtain⟨y2,yj,hz⟩:=arb.1 hb;exact h3 y (by simp) y2 (by simp[yj]) (by rintro rfl;exact g1 yj) a ha hz
section
variable {w : aj}
def qM(w:aj)(d:Nat)(y:Int):List Int:=if cU w y 3 then []else y::(if tZ w y then jG w d y else [])
theorem sg(w:aj)(d:Nat)(x:Int):jG w (d+1) x=(bw w.tree x).flatMap (qM w d):=rfl
theorem tA{ls:Int->List Int}(hn:ec w.tree w.ah.length ls){x y:Int}(h:y∈bw w.tree x):aH w.ah y=x/\(1<=x/\x<w.ah.length)/\(1<=y/\y<w.ah.length):=by
 have hx:1<=x/\x<w.ah.length:=by
  unfold bw at h;split at h
  ·rename_i hx;exact aY.1 hx
  ·simp at h
 have hy:=nW h;rw[hn.kids hx]at h;exact⟨hn.par x hx.1 hx.2 y h,hx,hy⟩
theorem JC{ls:Int->List Int}(hn:ec w.tree w.ah.length ls):∀(d:Nat) (y z:Int),1<=y/\y<w.ah.length->z∈qM w d y->(1<=z/\z<w.ah.length)/\∃k,cw w.ah k z=y:=by
 intro d
 induction d with
 | zero=>
   intro y z hy hz;unfold qM at hz;split at hz
   ·simp at hz
   ·rcases apq.1 hz with rfl|hz
    ·exact⟨hy,0,rfl⟩
    ·split at hz
     ·simp[jG]at hz
     ·simp at hz
 | succ d ih=>
   intro y z hy hz;unfold qM at hz;split at hz
   ·simp at hz
   ·rcases apq.1 hz with rfl|hz
    ·exact⟨hy,0,rfl⟩
    ·split at hz
     ·rw[sg]at hz;obtain⟨u,hu,hzu⟩:=arb.1 hz;obtain⟨p1,p2,p3⟩:=tA hn hu;obtain⟨q1,k,q2⟩:=ih u z p3 hzu;exact⟨q1,k+1,by rw[fy,q2,p1]⟩
     ·simp at hz
theorem Ml{ls:Int->List Int}(hn:ec w.tree w.ah.length ls)(d:Nat){x y1 y2:Int}(h1:y1∈bw w.tree x)(h2:y2∈bw w.tree x)(bR:y1≠y2):∀z∈qM w d y1,z∉qM w d y2:=by
 intro z HO sX;obtain⟨a1,a2,a3⟩:=tA hn h1;obtain⟨b1,-,b3⟩:=tA hn h2;obtain⟨-,a,ha⟩:=JC hn d y1 z a3 HO;obtain⟨-,b,hb⟩:=JC hn d y2 z b3 sX;obtain⟨l,hl⟩:=hn.ends x a2.1 a2.2;have h0:aH w.ah 0=0:=hn.p0;have key:∀(a b:Nat) (y1 y2:Int),cw w.ah a z=y1->cw w.ah b z=y2->aH w.ah y1=x->aH w.ah y2=x->¬a<b:=by
  intro a b y1 y2 ha hb p1 p2 au;have e:cw w.ah (a+1) z=x:=by rw[fy,ha,p1]
  have e2:cw w.ah (b-(a+1)) x=y2:=by rw[<-e,<-B8,show a+1+(b-(a+1))=b by omega,hb]
  exact hl.aak h0 a2.1 (b-(a+1)) (by rw[fy];show aH w.ah (cw w.ah (b-(a+1)) x)=x;rw[e2,p2])
 rcases Nat.lt_trichotomy a b with h|h|h
 ·exact key a b y1 y2 ha hb a1 b1 h
 ·subst h;exact bR (ha.symm.trans hb)
 ·exact key b a y2 y1 hb ha b1 a1 h
theorem aal{ls:Int->List Int}(hn:ec w.tree w.ah.length ls):∀(d:Nat) (y:Int),1<=y/\y<w.ah.length->(qM w d y).Nodup:=by
 intro d
 induction d with
 | zero=>
   intro y hy;unfold qM;split
   ·simp
   ·split<;>simp[jG]
 | succ d ih=>
   intro y hy;unfold qM;split
   ·simp
   ·split
    ·rw[ap0,sg];refine⟨λhm=>?_,HF _ (hn.Pq y) (λu hu=>ih u (tA hn hu).2.2) (λa ha b hb bR=>Ml hn d ha hb bR)⟩;obtain⟨u,hu,hzu⟩:=arb.1 hm;obtain⟨p1,p2,p3⟩:=tA hn hu;obtain⟨-,k,q⟩:=JC hn d u y p3 hzu;obtain⟨l,hl⟩:=hn.ends y hy.1 hy.2;exact hl.aak (nx:=w.ah) hn.p0 hy.1 k (by rw[fy,q,p1])
    ·simp
theorem Mm{ls:Int->List Int}(hn:ec w.tree w.ah.length ls)(d:Nat)(x:Int):(jG w d x).length<=w.ah.length:=by
 cases d with
 | zero=>simp[jG]
 | succ d=>
   rw[sg];have h1:=HF _ (hn.Pq x) (λu hu=>aal hn d u (tA hn hu).2.2) (λa ha b hb bR=>Ml hn d ha hb bR);have h2:∀z∈(bw w.tree x).flatMap (qM w d),1<=z/\z<w.ah.length:=by
    intro z hz;obtain⟨u,hu,hzu⟩:=arb.1 hz;exact(JC hn d u z (tA hn hu).2.2 hzu).1
   rcases ye h1 h2 with h|h
   ·omega
   ·rw[h];simp
theorem aeU{ls:Int->List Int}(hn:ec w.tree w.ah.length ls){x y:Int}(h:y∈bw w.tree x):(ik w.tree y).length=(ik w.tree x).length+1:=by
 obtain⟨p1,p2,p3⟩:=tA hn h;have h1:=hn.YW p2;have h2:=hn.YW p3;have h3:Ch w.ah w.ah.length y (y::ik w.tree x):=Ch.cons p3 (by rw[p1];exact h1);rw[h2.uniq h3];simp
theorem agn{ls:Int->List Int}(hn:ec w.tree w.ah.length ls){x:Int}(hx:1<=x/\x<w.ah.length):(ik w.tree x).length<w.ah.length:=by
 have h:=hn.YW hx;rcases ye h.nodup h.mem with h2|h2
 ·exact h2
 ·rw[h2];simp;omega
end
set_option maxHeartbeats 4000000
set_option maxRecDepth 20000
theorem Mn{l:List Int}{i:Nat}(h:i<l.length):l.take (i+1)=l.take i++ [l[i]]:=by rw[apI,akC h];rfl
theorem ago{f:Int->List Int}(l:List Int)(i:Nat):((l.take i).flatMap f).length<=(l.flatMap f).length:=by
 conv=>rhs;rw[<-apv i l,List.flatMap_append,aph]
 omega
def sS(w:aj)(d:Nat)(ks:List Int)(i:Nat):List Int:=(ks.take i).flatMap (qM w d)
theorem Mo(w:aj)(d:Nat)(ks:List Int):sS w d ks 0=[]:=rfl
theorem Qx(w:aj)(d:Nat)(ks:List Int):sS w d ks ks.length=ks.flatMap (qM w d):=by unfold sS;rw[apM]
theorem Qy(w:aj)(d:Nat)(ks:List Int)(i:Nat):(sS w d ks i).length<=(ks.flatMap (qM w d)).length:=ago ks i
theorem Mr(w:aj)(d:Nat)(ks:List Int)(i:Nat)(h:i<ks.length):sS w d ks (i+1)=sS w d ks i++(if cU w ks[i] 3 then []else ks[i]::(if tZ w ks[i]then jG w d ks[i]else [])):=by
 unfold sS;rw[Mn h,List.flatMap_append];simp[qM]
theorem Ey(w:aj)(hw:w.wf)(hF:cZ w)(hn:w.ah.length<=1000){ls:Int->List Int}(Mt:ec w.tree w.ah.length ls):∀(d:Nat),d<=1000->∀x:Int,Pure prog 216 [.agg (w.enc.map .d),iD x,iD d] (.d (.sl (aA (jG w d x))))
 | 0,_,x=>by
   have hk:=oA w hw x;generalize bw w.tree x=ks at *;show Pure prog 216 [.agg (w.enc.map .d),iD x,iD (0:Nat)] (.d (.sl (aA [])));refine rn func216 ?_;simp[-cB,f216];intro bs;refine pC hk ?_;simp[-cB];refine av.cJ [2,3,7,8,9] 0 (λi=> [(9,iD i)]) (λ_=> []) (λ_=>True) (by rfl) (by simp) ?_;intro i hi _;obtain rfl:i=0:=by omega
   by_cases h0:0<ks.length
   ·have xR:(0:Int)<ks.length:=by omega
    simp[h0,xR]
   ·simp[h0]
 | d+1,hd,x=>by
   have hk:=oA w hw x;have hlen:=Mm Mt (d+1) x;have tW:(bw w.tree x).length<=w.ah.length:=mK w.tree x;have TH:∀y∈bw w.tree x,1<=y/\y<w.ah.length:=λy hy=>nW hy
   have ih:=Ey w hw hF hn Mt d (by omega);rw[sg]at hlen⊢;generalize bw w.tree x=ks at *;generalize hV:ks.flatMap (qM w d)=V0 at *;have AD:(0:Int)<(d+1:Nat):=by omega
   have y8:((d+1:Nat):Int)-1=d:=by omega
   have aj9:aM .i64 (d:Int):=iW;generalize ((d+1:Nat):Int)=D at *;refine rn func216 ?_;simp[-cB,f216];intro bs;refine pC hk ?_;simp[-cB];refine av.weaken (Wk.C4 (t:=7) (h:=5404) (k:=1) (ty:=3) (by rfl) (by simp[keys])) ?_;refine av.cJ [2,3,7,8,9] ks.length (λi=> [(9,iD i)]) (λi=> [(5404,.row 3 1 (dd (aA (sS w d ks i))))]) (λ_=>True) (by rfl) (by simp[Mo]) ?_;intro i hi _;rcases apg hi with au|rfl
   ·have dF:(i:Int)<ks.length:=by omega
    have bY:aM .i64 ((i:Int)+1):=iW;have lY:=Qy w d ks i;have Qz:=Qy w d ks (i+1);rw[hV]at lY Qz;have tE:=Mr w d ks i au;have hh:=yL w hF ks[i] 3 (by decide);have y7:=WY w hF ks[i];have TW:=ih ks[i];simp only[show(3:Int).toNat=3 from rfl]at hh;rw[tE]at Qz;generalize hH:cU w ks[i] 3=H at *;generalize hS:tZ w ks[i]=S at *;generalize hRy:jG w d ks[i]=Ry at *;simp only[aph]at Qz;simp[-cB,dF,AD];refine av.bT [oD H] aS (by kernel_rfl) (by rfl) ?_;simp[-cB,au];refine⟨hh.ok _,?_⟩;cases H with
    | true=>
      simp at tE;simp[bY,tE];exact au
    | false=>
      simp at tE Qz;simp[-cB,au];refine⟨by omega,?_⟩;refine av.bT [oD S] aS (by kernel_rfl) (by rfl) ?_;simp[-cB,au];refine⟨y7.ok _,?_⟩;cases S with
      | false=>
        simp at tE;simp[bY,tE];exact au
      | true=>
        simp at tE Qz;simp[-cB];refine av.aT [Q0,Q0,Q0,Q0,Q0,Q0,Q0,Q0,Q0,none,arF] [.d (.sl (aA Ry))] aS (by kernel_rfl) ?_;simp[-cB,au,y8,aj9];rw[tE];exact⟨TW.ok _,by omega,bY,rfl⟩
   ·simp[Qx,hV]
theorem Mu(w:aj)(hw:w.wf):Pure prog 146 [.agg (w.enc.map .d)] (iD (cN w)):=by
 have ht:=sb w hw 1;unfold cN;refine rn func146 ?_;simp[-cB,f146];intro bs;refine pC ht ?_;simp[-cB]
def Ez(w:aj)(l:List Int)(i:Nat):Bool:=(l.take i).any λy=>cU w y 0
theorem aam(w:aj)(l:List Int):Ez w l 0=false:=rfl
theorem acC(w:aj)(l:List Int):Ez w l l.length=l.any λy=>cU w y 0:=by unfold Ez;rw[apM]
theorem aan(w:aj)(l:List Int)(i:Nat)(h:i<l.length):Ez w l (i+1)=(Ez w l i||cU w l[i] 0):=by
 unfold Ez;rw[Mn h,aqv];simp
theorem acD(t:aq)(w:aj)(aN:iG t w)(hF:cZ w)(hn:w.ah.length<=128):Pure prog 145 [.agg (t.enc.map .d),.agg (w.enc.map .d)] (oD (Hk w)):=by
 have hh:=Mu w aN.wf;have h0:=yL w hF (cN w) 0 (by decide);have hr:=Ey w aN.wf hF (by omega) aN.nest w.ah.length (by omega) (cN w);have hrl:=Mm aN.nest w.ah.length (cN w);have hy:∀y,Pure prog 215 [.agg (w.enc.map .d),iD y,iD 0] (oD (cU w y 0)):=λy=>yL w hF y 0 (by decide)
 simp only[show(0:Int).toNat=0 from rfl]at h0;unfold Hk;rw[<-acC];generalize cN w=x at *;generalize jG w w.ah.length x=l at *;generalize cU w x 0=A at *;refine rn func145 ?_;simp[-cB,f145];intro bs;refine pC hh ?_;simp[-cB];refine pC h0 ?_;simp[-cB];refine pC hr ?_;simp[-cB];refine av.cJ [3,6,7,8] l.length (λi=> [(6,oD (A||Ez w l i)),(8,iD i)]) (λ_=> []) (λ_=>True) (by rfl) (by simp[aam]) ?_;intro i hi _;rcases apg hi with au|rfl
 ·have dF:(i:Int)<l.length:=by omega
  have bY:aM .i64 ((i:Int)+1):=iW;have hs:=aan w l i au;have hyi:=hy l[i];generalize cU w l[i] 0=B at *;generalize Ez w l i=C at *;simp[-cB,dF,au];refine av.bT [oD B] aS (by kernel_rfl) (by rfl) ?_;simp[-cB,au];exact⟨λa b=>⟨⟨a,b⟩,hyi.ok _⟩,bY,by rw[hs,Bool.or_assoc]⟩
 ·simp
set_option maxHeartbeats 200000
set_option maxRecDepth 512
section
variable {P : Program} {n : Nat} {s : St} {Q : AX -> St -> Prop}
theorem ay.agp{ops:Array Oper}{o:Oper}{rest:List Oper}{c:Call}{f:FuncId}{args:List V}{L1 La Lb:aI}{x y:V}(hs:List Nat)(aD:o.op= .call c)(h:aE P f args L1 (fun r L=>(r= .ret x∧L=La)∨(r= .ret y∧L=Lb)))(hc:callee s.ev c=some (f,args))(hg:o.guard=none)
  (hd:∀d,o.dst=some d->d<n) (hr:dG n rest=true) (he:enters P f=true) (hL:s.L.filter (λp=>hs.contains p.1)=L1)
  (ho:V.dK (keys L1) args=true/\L1.all (λp=>aV.on (keys L1) p.2)=true/\L1.all (λp=>match p.2 with|.box (_+1) _ _=>false|_=>true)=true)
  (iT:(s.L.filter λp=>!hs.contains p.1).all (λp=>aV.on (keys (s.L.filter λp=>!hs.contains p.1)) p.2)=true)
  (hk:(keys La).all (λk=>!(keys (s.L.filter λp=>!hs.contains p.1)).contains k)=true/\(keys Lb).all (λk=>!(keys (s.L.filter λp=>!hs.contains p.1)).contains k)=true)
  (ka:∀bs,eM P ops rest (St.put ⟨s.fr.filter λp=>V.on (keys (s.L.filter λp=>!hs.contains p.1)) p.2,La++s.L.filter λp=>!hs.contains p.1⟩ o.dst x) bs [] (KK P n ops Q))
  (kb:∀bs,eM P ops rest (St.put ⟨s.fr.filter λp=>V.on (keys (s.L.filter λp=>!hs.contains p.1)) p.2,Lb++s.L.filter λp=>!hs.contains p.1⟩ o.dst y) bs [] (KK P n ops Q)):ay P n ops (o::rest) s Q:=by
 have hb:(L1.filterMap λp=>match p.2 with|.box (_+1) _ _=>some p.1|_=>none)=[]:=by
  rw[List.filterMap_eq_nil_iff];intro p hp;have:=apd.1 ho.2.2 p hp;split<;>simp_all
 refine ay.jh (L1:=L1) (L2:=s.L.filter λp=>!hs.contains p.1) (s.fr.filter λp=>V.on (keys (s.L.filter λp=>!hs.contains p.1)) p.2) hg hd aD hc he ho.1 (by subst hL;exact(ap5 _ s.L).symm) ho.2.1 ?_ ?_ h ?_ ?_
 ·intro p hp;obtain⟨h1,h2⟩:=aqm.1 hp;exact⟨h1,(congrArg (λl=>V.on l p.2) ((congrArg (λl=>keys (s.L.filter λp=>!hs.contains p.1)++l) hb).trans (apL _))).trans h2⟩
 ·intro p hp;exact(congrArg (λl=>aV.on l p.2) ((congrArg (λl=>keys (s.L.filter λp=>!hs.contains p.1)++l) hb).trans (apL _))).trans (apd.1 iT p hp)
 ·rintro r uW (⟨rfl,rfl⟩|⟨rfl,rfl⟩)
  ·refine⟨⟨_,rfl⟩,λk rA=>?_,λk b ty cs hm=>?_⟩
   ·have:=apd.1 hk.1 k rA;simpa using this
   ·have:=apd.1 ho.2.2 _ hm;simp at this
  ·refine⟨⟨_,rfl⟩,λk rA=>?_,λk b ty cs hm=>?_⟩
   ·have:=apd.1 hk.2 k rA;simpa using this
   ·have:=apd.1 ho.2.2 _ hm;simp at this
 ·rintro x' uW (⟨e,rfl⟩|⟨e,rfl⟩)
  ·obtain rfl:=AE.ret.inj e;exact bq rest _ [] hr ka
  ·obtain rfl:=AE.ret.inj e;exact bq rest _ [] hr kb
end
set_option maxHeartbeats 4000000
set_option maxRecDepth 20000
theorem uy(w:aj)(hF:cZ w)(x f:Int)(hf:0<=f/\f<=15):Pure prog 196 [.agg (w.enc.map .d),iD x,iD f] (oD (cU w x f.toNat)):=by
 have hh:=Hy w hF x f;have e:(decide (cz w x f=0)&&cU w x f.toNat)=cU w x f.toNat:=by
  unfold cz;by_cases hx:bU w.ah.length x=true
  ·rw[if_pos hx,if_pos hf];simp
  ·have:cU w x f.toNat=false:=by unfold cU;simp[hx]
   rw[this];simp
 rw[e]at hh;generalize cU w x f.toNat=B at *;generalize cz w x f=E at *;refine rn func196 ?_;simp[-cB,f196];intro bs;refine pC hh ?_;simp[-cB]
theorem QA(w:aj)(hF:cZ w)(x:Int):Pure prog 276 [.agg (w.enc.map .d),iD x] (oD (tZ w x)):=by
 have h2:=uy w hF x 2 (by decide);have h1:=uy w hF x 1 (by decide);unfold tZ;simp only[show(2:Int).toNat=2 from rfl,show(1:Int).toNat=1 from rfl]at h1 h2;generalize cU w x 2=A at *;generalize cU w x 1=B at *;refine rn func276 ?_;simp[-cB,f276];intro bs;refine pC h2 ?_;simp[-cB];refine pG h1 ?_;simp[-cB]
def ahV(w:aj)(d:Nat):Prop:=∀(x:Int),1<=x/\x<w.ah.length->w.ah.length<=(ik w.tree x).length+d->∀(l:Nat) (A:Nat->Env) (B:Env),(∀i z,(jG w d x)[i]?=some z->rY prog l [iD z] [(5003,.env (A i))] (YR (A (i+1)) B))->
 aE prog 242 [.agg (w.enc.map .d),iD x,yv l] [(5003,.env (A 0))] (λr L=>(r= .ret (oD true)/\L=[(5003,.env (A (jG w d x).length))])\/(r= .ret (oD false)/\L=[(5003,.env B)]))
theorem TX(w:aj)(aN:vK w)(hn:w.ah.length<=1000)(hF:cZ w){ls:Int->List Int}(Mt:ec w.tree w.ah.length ls):∀d,ahV w d
 | 0,x,hx,hd,l,A,B,hy=>by
   have:=agn Mt hx;omega
 | d+1,x,hx,hd,l,A,B,hy=>by
   have ih:=TX w aN hn hF Mt d;have hk:=Gc w aN.wf aN.hC aN.hN x;have tW:(bw w.tree x).length<=w.ah.length:=mK w.tree x;have TH:∀y∈bw w.tree x,(1<=y/\y<w.ah.length)/\w.ah.length<=(ik w.tree y).length+d:=λy hy=>⟨nW hy,by rw[aeU Mt hy];omega⟩
   rw[sg]at hy⊢;generalize bw w.tree x=ks at *;rw[<-Qx];have hyp:∀i j z,i<=ks.length->(sS w d ks i)[j]?=some z->rY prog l [iD z] [(5003,.env (A j))] (YR (A (j+1)) B):=by
    intro i j z hi hz;refine hy j z ?_;have:ks.flatMap (qM w d)=sS w d ks i++(ks.drop i).flatMap (qM w d):=by
     unfold sS;rw[<-List.flatMap_append,apv]
    rw[this,apQ (apa.1 hz).1];exact hz
   clear hy;refine rX [6] [5003] func242 ?_;simp[-cB,f242];intro bs;refine pC hk ?_;simp[-cB];refine av.cJ [2,3,11,12,13] ks.length (λi=> [(13,iD i)]) (λi=> [(5003,.env (A (sS w d ks i).length))]) (λ_=>True) (by rfl) (by simp[Mo]) ?_;intro i hi _;rcases apg hi with au|rfl
   ·have dF:(i:Int)<ks.length:=by omega
    have bY:aM .i64 ((i:Int)+1):=iW;have tE:=Mr w d ks i au;have hh:=uy w hF ks[i] 3 (by decide);have y7:=QA w hF ks[i];simp only[show(3:Int).toNat=3 from rfl]at hh;have hq:=hyp (i+1);obtain⟨OP,hq2⟩:=TH ks[i] (apk au);have TW:=ih ks[i] OP hq2 l (λj=>A ((sS w d ks i).length+1+j)) B;generalize hH:cU w ks[i] 3=H at *;generalize hS:tZ w ks[i]=S at *;generalize hRy:jG w d ks[i]=Ry at *;generalize agq:sS w d ks i=pre at *;rw[tE]at hq;cases H with
    | true=>
      simp at tE;simp[-cB,dF,au,agq];refine pC hh ?_;simp[bY,tE,au]
    | false=>
      simp only[apH,if_false]at tE hq;have N4:=hq pre.length ks[i] (by omega) (by simp);simp[-cB,dF,au,agq];refine pC hh ?_;simp;refine ay.X3 (N4) rfl (by simp[qT]) (by simp) rfl (by simp) rfl (by simp[keys]) rfl (by simp) (by simp) ?_ ?_
      ·intro bL;simp[-cB,List.filter];refine pG y7 ?_;simp[-cB];cases S with
       | false=>
         simp at tE;refine ay.skip (by first|rfl|(simp;done)) (by simp) ?_;refine bq _ _ [] (by rfl) ?_;simp[bY,tE,au]
       | true=>
         simp at tE;have hlen:(sS w d ks (i+1)).length=pre.length+1+Ry.length:=by rw[tE];simp;omega
         simp only[if_true]at hq;have TW:=TW (λj z hz=>hq (pre.length+1+j) z (by omega) (by
          rw[ap6 (by omega),show pre.length+1+j-pre.length=j+1 by omega];simpa using hz))
         unfold yv at TW;refine ay.AT (by first|rfl|(simp;rfl)) (by simp) ?_;simp[-cB];refine ay.agp [5003] rfl TW (by simp) rfl (by simp) rfl (by kernel_rfl) (by first|rfl|simp) (by simp) (by simp) (by simp) ?_ ?_
         ·intro lJ;simp[-cB,List.filter];simp[bY,hlen,au]
         ·intro lJ;simp[-cB,List.filter]
      ·intro bL;simp[-cB,List.filter];refine ay.ss rfl (g:=false) (x:=oD true) (λh=>by cases h) rfl (by first|rfl|(simp;done)) (by simp) (by simp) rfl ?_;simp[-cB];refine ay.skip (by first|rfl|(simp;done)) (by simp) ?_;refine bq _ _ [] (by rfl) ?_;simp
   ·simp
theorem ae.rN(x:ae):x.enc.map V.d=[.d (D.sl (x.Frames.map aG.enc)),.d (D.sl (aA x.Stack)),.d (D.v (.int .i64 x.Env.qn)),.d (D.v (.int .i64 x.Env.Second)),.d (D.v (.int .i64 x.Env.Number)),.d (D.v (.int .i64 x.Told.s9)),.d (D.sl (aA x.Told.World.aP)),.d (D.sl (aA x.Told.World.ah)),.d (D.sl (aA x.Told.World.Child)),.d (D.sl (aA x.Told.World.Next)),.d (D.sl (aA x.Told.World.Flags)),.d (D.sl (aA x.Told.World.aJ)),.d (D.sl (aA x.Told.World.bc)),.d (D.v (.int .u64 x.Told.World.cL)),.d (D.v (.int .i64 x.Told.World.Score)),.d (D.v (.int .i64 x.Told.World.jx)),.d (D.v (.int .i64 x.Told.World.ij)),.d (D.v (.int .i64 x.Told.World.It)),.d (D.v (.int .i64 x.Told.World.Go)),.d (D.v (.string x.Told.Out)),.d (D.v (.int .i64 x.Told.Value)),.d (D.v (.bool x.Told.jM)),.d (D.v (.int .i64 x.Told.Fuel)),.d (D.v (.bool x.de))]:=rfl
theorem EA(l:List Int)(hl:l.length<=1000000):Pure prog 88 [.d (.sl (aA l))] (.d (.sl (aA l))):=by
 refine rn func88 ?_;simp[-cB,f88];omega
theorem uz(h:Nat)(l:List Int)(hl:l.length<=1000000):aE prog 88 [.d (.sl (aA l))] [] (λr L=>r= .ret (.rv h)/\L=[(h,.row 3 1 (dd (aA l)))]):=by
 refine aE.abE h ?_;refine aE.run func88 rfl (by simp[f88]) ?_;simp[f88];omega
theorem o8(m:ae)(e:Int):Pure prog 40 [.agg (m.enc.map .d),iD e] (.agg ((eO m e).enc.map .d)):=by
 refine rn func40 ?_;simp[-cB,f40];intro bs;rfl
theorem gF(was m:ae):Pure prog 101 [.agg (was.enc.map .d),.agg (m.enc.map .d),iD 0] (.agg (m.enc.map .d)):=by
 refine rn func101 ?_;simp[-cB,f101]
theorem jq(was m:ae)(e:Int)(he:e≠0):Pure prog 101 [.agg (was.enc.map .d),.agg (m.enc.map .d),iD e] (.agg ((eO was e).enc.map .d)):=by
 have hf:=o8 was e;refine rn func101 ?_;simp[-cB,f101];intro bs;simp[he];refine pC hf ?_;simp[-cB]
theorem jl(m:ae)(n:Int)(hl:m.Stack.length<=1000000):Pure prog 87 [.agg (m.enc.map .d),iD n] (.agg (({m with Stack:=m.Stack++ [ar n]}:ae).enc.map .d)):=by
 have hi:=uz 5301 m.Stack hl;have hw:=aQ n;unfold ae.enc;refine rn func87 ?_;simp[-cB,f87];intro bs;refine eD [] hi ?_;simp[-cB];refine pC hw ?_;simp[-cB];omega
theorem cO(m:ae)(A l:List Int)(h:m.Stack=A++l)(hl:m.Stack.length<=1000000):Pure prog 86 [.agg (m.enc.map .d),iD l.length] (.bA [.agg (({m with Stack:=A}:ae).enc.map .d),.d (.sl (aA l))]):=by
 have hlen:m.Stack.length=A.length+l.length:=by rw[h];simp
 have h1:=EA A (by omega);have h2:=EA l (by omega);have e1:((A++l).length:Int)-l.length=A.length:=by simp
 have bY:aM .i64 (A.length:Int):=iW;unfold ae.enc;rw[h];refine rn func86 ?_;simp[-cB,f86];intro bs;refine⟨bY,?_⟩;have e2:List.drop A.length (List.take (A.length+l.length) (A++l))=l:=by
  rw[show A.length+l.length=(A++l).length by simp,apM];simp
 rw[e2];refine pC h2 ?_;simp[-cB];refine pC h1 ?_;simp[-cB]
theorem vg(m:ae)(Fr:List aG)(f g:aG)(h:m.Frames=Fr++ [f])(hl:m.Frames.length<=1000):Pure prog 41 [.agg (m.enc.map .d),.agg (g.enc.map .d)] (.agg (({m with Frames:=Fr++ [g]}:ae).enc.map .d)):=by
 have NO:Fr.length+1<=1000:=by rw[h]at hl;simpa using hl
 have e1:(dd (List.map aG.enc Fr++ [f.enc])).set Fr.length (List.map V.d g.enc)=dd (List.map aG.enc Fr++ [g.enc]):=by
  simp[dd,List.set_append]
 unfold ae.enc;rw[h];refine rn func41 ?_;simp[-cB,f41];rw[e1,adU];refine⟨⟨?_,by omega⟩,iW,rfl⟩;rintro x (⟨a,_,rfl⟩|rfl)<;>rfl
abbrev FP(s:al)(m x:ae)(f:aG)(i:ai)(m':ae):Prop:=Pure prog 42 [.agg (s.enc.map .d),.agg (m.enc.map .d),.agg (x.enc.map .d),.agg (f.enc.map .d),.agg (i.enc.map .d)] (.agg (m'.enc.map .d))
theorem XX(s:al)(m x:ae)(Fr:List aG)(g f:aG)(i:ai)(aD:i.Op=24)(hx:x.Frames=Fr++ [g])(hl:x.Frames.length<=1000)(hA:aM .i64 (f.At+i.Arg)):FP s m x f i {x with Frames:=Fr++ [{f with At:=f.At+i.Arg}]}:=by
 have ht:=vg x Fr g {f with At:=f.At+i.Arg} hx hl;refine rn func42 ?_;simp[-cB,f42];intro bs;simp[-cB,aD,hA];refine pC ht ?_;simp[-cB]
theorem XY(s:al)(m x:ae)(Fr:List aG)(g f:aG)(i:ai)(S:List Int)(v:Int)(aD:i.Op=25)(hx:x.Frames=Fr++ [g])(hl:x.Frames.length≤1000)(hS:x.Stack=S++ [v])(pM:S.length≤100000)(hA:aM .i64 (f.At+i.Arg)):
  FP s m x f i (if ar v=0 then {x with Stack:=S,Frames:=Fr++ [{f with At:=f.At+i.Arg}]}else {x with Stack:=S}):=by
 have ht:=vg {x with Stack:=S} Fr g {f with At:=f.At+i.Arg} hx hl;have hk:=cO x S [v] hS (by rw[hS];simp;omega);have hw:=aQ v;by_cases hv:ar v=0
 ·rw[if_pos hv];refine rn func42 ?_;simp[-cB,f42];intro bs;simp[-cB,aD];refine pC hk ?_;simp[-cB];intro bL;refine pC hw ?_;simp[-cB,hv,hA];refine pC ht ?_;simp[-cB]
 ·rw[if_neg hv];refine rn func42 ?_;simp[-cB,f42];intro bs;simp[-cB,aD];refine pC hk ?_;simp[-cB];intro bL;refine pC hw ?_;simp[hv]
theorem aaN(s:al)(m x:ae)(f:aG)(i:ai)(v:Int)(aD:i.Op=5)(hA:0<=i.Arg)(hg:f.aL[i.Arg.toNat]?=some v)(hl:x.Stack.length<=100000):FP s m x f i {x with Stack:=x.Stack++ [ar v]}:=by
 have hk:=jl x v (by omega);obtain⟨g1,g2⟩:=apa.1 hg;refine rn func42 ?_;simp[-cB,f42];intro bs;simp[-cB,aD];refine av.aT [Q0,Q0,Q0,Q0,Q0,Q0,Q0,Q0,none] [.agg (({x with Stack:=x.Stack++ [ar v]}:ae).enc.map .d)] aS (by kernel_rfl) ?_;simp[-cB,hA,g1,g2];exact hk.ok _
theorem aaO(s:al)(m x:ae)(Fr:List aG)(g f:aG)(i:ai)(S:List Int)(v:Int)(aD:i.Op=6)(hx:x.Frames=Fr++ [g])(hl:x.Frames.length≤1000)(hS:x.Stack=S++ [v])(pM:S.length≤100000)(hA:0≤i.Arg∧i.Arg < f.aL.length)(hLl:f.aL.length≤100000):
  FP s m x f i {x with Stack:=S,Frames:=Fr++ [{f with aL:=f.aL.set i.Arg.toNat v}]}:=by
 have ht:=vg {x with Stack:=S} Fr g {f with aL:=f.aL.set i.Arg.toNat v} hx hl;have hk:=cO x S [v] hS (by rw[hS];simp;omega);have hi:=uz 5301 f.aL (by omega);have Ek:i.Arg.toNat<f.aL.length:=by omega
 have e1:f.enc.map V.d=[iD f.qU,iD f.At,iD f.bP,.d (.sl (aA f.aL))]:=rfl;unfold FP;rw[e1];refine rn func42 ?_;simp[-cB,f42];intro bs;simp[-cB,aD];refine pC hk ?_;simp[-cB];intro bL;refine eD [] hi ?_;simp[-cB];refine av.aT [Q0,Q0,Q0,Q0,Q0,Q0,Q0,Q0,none] [] aS (by kernel_rfl) ?_;simp[-cB,hA,Ek];refine ay.weaken (Wk.freeze 5301 (ty:=3) (k:=1) (ys:=aA (f.aL.set i.Arg.toNat v)) (by rfl)) ?_;simp[-cB,V.fg];refine pC ht ?_;simp[-cB]
theorem X0(s:al)(m x:ae)(f:aG)(i:ai)(aD:i.Op=26)(fL:32<=m.Frames.length):FP s m x f i (eO m 17):=by
 have hf:=o8 m 17;have P9:(32:Int)<=m.Frames.length:=by omega
 refine rn func42 ?_;simp[-cB,f42];intro bs;simp[-cB,aD,fL,P9];refine pC hf ?_;simp[-cB]
theorem X1(s:al)(m x:ae)(f:aG)(i:ai)(r:Nat)(e:Int)(N:Nat)(S a:List Int)(aD:i.Op=26)(hA:0≤i.Arg)(hf:s.Tables.cV[i.Arg.toNat]?=some (r:Int))(he:s.Entry[r]?=some e)(hn:s.Tables.aL[r]?=some (N:Int))(hN:N≤1000)(hp:s.Tables.Params[r]?=some (a.length:Int))(hS:x.Stack=S++a)(pM:x.Stack.length≤100000)(fL:m.Frames.length < 32)(hl:x.Frames.length≤1000):
  FP s m x f i {x with Stack:=S,Frames:=x.Frames++ [⟨r,e,S.length,sA a N⟩]}:=by
 have hk:=cO x S a hS (by omega);have hZ:=Jg s r e N he hn (by omega) a S.length;obtain⟨f1,f2⟩:=apa.1 hf;obtain⟨p1,p2⟩:=apa.1 hp;have aka:¬(32:Int)<=m.Frames.length:=by omega
 have akb:¬32<=m.Frames.length:=by omega
 refine rn func42 ?_;simp[-cB,f42];intro bs;simp[-cB,aD,aka,akb];simp[hA,f1,f2];refine av.ES [Q3,Q3,Q3,Q3,Q3,Q3,Q3,Q3,Q3,Q3,arH,none,none,arG] [.bA [.agg (({x with Stack:=S}:ae).enc.map .d),.d (.sl (aA a))]] aS (by kernel_rfl) ?_;simp[-cB,p1,p2];refine⟨hk.ok _,hk.ok _,λbL=>⟨by omega,?_⟩⟩;rw[ae.rN {x with Stack:=S}];refine pC hZ ?_;simp[-cB];exact⟨by omega,by rw[ae.rN];simp⟩
theorem XZ(s:al)(m x:ae)(Fr:List aG)(g f:aG)(i:ai)(S:List Int)(v:Int)(aD:i.Op=27)(hx:x.Frames=Fr++ [g])(hl:x.Frames.length≤1000)(hS:x.Stack=S++ [v])(pM:S.length≤100000)(hB:0≤f.bP∧f.bP≤S.length):
  FP s m x f i (if Fr=[]then {x with Stack:=S.take f.bP.toNat,Frames:=[],de:=true,Told:={x.Told with Value:=v}}else {x with Stack:=S.take f.bP.toNat++ [ar v],Frames:=Fr}):=by
 obtain⟨xF,xS,xE,xT,xD⟩:=x;simp only at hx hS hl;subst hx hS;have hk:=cO ⟨Fr++ [g],S++ [v],xE,xT,xD⟩ S [v] rfl (by simp;omega);have hi:=EA (S.take f.bP.toNat) (by simp;omega);have hy:=jl ⟨Fr,S.take f.bP.toNat,xE,xT,xD⟩ v (by simp;omega);have hb:f.bP.toNat<=S.length:=by omega
 have NO:Fr.length+1<=1000:=by simpa using hl
 have bY:aM .i64 (Fr.length:Int):=iW;simp only at hy;by_cases hF:Fr=[]
 ·rw[if_pos hF];subst hF;refine rn func42 ?_;simp[-cB,f42];intro bs;simp[-cB,aD];refine pC hk ?_;simp[-cB];intro bL;rw[ae.rN ⟨[g],S,xE,xT,xD⟩];simp[-cB,hB,hb];refine pC hi ?_;simp[bY];exact⟨iW,rfl⟩
 ·rw[if_neg hF];have hF2:¬Fr.length=0:=by simpa using hF
  refine rn func42 ?_;simp[-cB,f42];intro bs;simp[-cB,aD];refine pC hk ?_;simp[-cB];intro bL;rw[ae.rN ⟨Fr++ [g],S,xE,xT,xD⟩];simp[-cB,hB,hb];refine pC hi ?_;simp[-cB,bY,hF,hF2];refine⟨by rintro x (⟨a,_,rfl⟩|rfl)<;>rfl,?_⟩;refine av.aT [Q0,Q0,Q0,Q0,Q0,none] [.agg ((ae.mk Fr (S.take f.bP.toNat++ [ar v]) xE xT xD).enc.map .d)] aS (by kernel_rfl) ?_;rw[<-ae.rN ⟨Fr,S.take f.bP.toNat,xE,xT,xD⟩];simp[-cB];exact hy.ok _
abbrev NS(m x:ae)(i:ai)(F:Int)(m':ae):Prop:=Pure prog 43 [.agg (m.enc.map .d),.agg (x.enc.map .d),.agg (i.enc.map .d),iD F] (.agg (m'.enc.map .d))
theorem XK(m x:ae)(i:ai)(F:Int)(aD:i.Op=37)(hF:0<=m.Told.Fuel/\m.Told.Fuel<=1000000)(hc:¬F<m.Told.Fuel+1)(hx:x.Told.Fuel=m.Told.Fuel):NS m x i F {x with Told:={x.Told with Fuel:=m.Told.Fuel+1}}:=by
 have bY:aM .i64 (m.Told.Fuel+1):=iW;unfold NS;rw[ae.rN x];refine rn func43 ?_;simp[-cB,f43];intro bs;simp[aD,bY,hc,hx];rfl
theorem XJ(m x:ae)(i:ai)(F:Int)(aD:i.Op=37)(hF:0<=m.Told.Fuel/\m.Told.Fuel<=1000000)(hc:F<m.Told.Fuel+1):NS m x i F (eO m 19):=by
 have bY:aM .i64 (m.Told.Fuel+1):=iW;have hf:=o8 m 19;refine rn func43 ?_;simp[-cB,f43];intro bs;simp[aD,bY,hc];refine pC hf ?_;simp[-cB]
theorem adN(m x:ae)(i:ai)(F:Int)(aD:i.Op=28\/i.Op=29\/i.Op=30):NS m x i F {x with Told:={x.Told with World:=(if i.Op=29 then {x.Told.World with ij:=1}else if i.Op=30 then {x.Told.World with ij:=2}else x.Told.World),jM:=true},de:=true}:=by
 unfold NS;rw[ae.rN x];rcases aD with hq|hq|hq
 ·refine rn func43 ?_;simp[-cB,f43];intro bs;simp[hq];rfl
 ·refine rn func43 ?_;simp[-cB,f43];intro bs;simp[hq];rfl
 ·refine rn func43 ?_;simp[-cB,f43];intro bs;simp[hq];rfl
abbrev H4(s:al)(x:ae)(i:ai)(m':ae):Prop:=Pure prog 44 [.agg (s.enc.map .d),.agg (x.enc.map .d),.agg (i.enc.map .d)] (.agg (m'.enc.map .d))
theorem XL(s:al)(x:ae)(i:ai)(t:ByteArray)(aD:i.Op=21)(ht:Pure prog 89 [.agg (s.Tables.enc.map .d),iD i.Arg] (.d (.v (.string t))))(hl:x.Told.Out.size+t.size<=140737488355328):H4 s x i {x with Told:={x.Told with Out:=x.Told.Out++t}}:=by
 unfold H4;rw[ae.rN x];refine rn func44 ?_;simp[-cB,f44];intro bs;simp[-cB,aD];refine av.aT [Q0,Q0,Q0,Q0,Q0,Q0,Q0,Q0,Q0,Q0,Q0,none] [.d (.v (.string t))] aS (by kernel_rfl) ?_;simp[-cB];exact⟨ht.ok _,by omega,rfl⟩
theorem XM(s:al)(x:ae)(i:ai)(t:ByteArray)(aD:i.Op=35)(ht:Pure prog 90 [.agg (s.Tables.enc.map .d),.agg (x.Told.World.enc.map .d)] (.d (.v (.string t))))(hl:x.Told.Out.size+t.size<=140737488355328):H4 s x i {x with Told:={x.Told with Out:=x.Told.Out++t}}:=by
 unfold H4;rw[ae.rN x];refine rn func44 ?_;simp[-cB,f44];intro bs;simp[-cB,aD];refine av.aT [Q0,Q0,Q0,Q0,Q0,Q0,Q0,Q0,Q0,Q0,Q0,Q0,none] [.d (.v (.string t))] aS (by kernel_rfl) ?_;simp[-cB];exact⟨ht.ok _,by omega,rfl⟩
theorem XP(s:al)(x:ae)(i:ai)(S:List Int)(v:Int)(t:ByteArray)(aD:i.Op=22)(hS:x.Stack=S++ [v])(pM:S.length<=100000)(ht:Pure prog 91 [iD (ar v)] (.d (.v (.string t))))(hl:x.Told.Out.size+t.size<=140737488355328):H4 s x i {x with Stack:=S,Told:={x.Told with Out:=x.Told.Out++t}}:=by
 have hk:=cO x S [v] hS (by rw[hS];simp;omega);have hw:=aQ v;refine rn func44 ?_;simp[-cB,f44];intro bs;simp[-cB,aD];refine pC hk ?_;simp[-cB];intro bL;refine pC hw ?_;simp[-cB,aD];refine av.aT [Q0,Q0,Q0,Q0,Q0,Q0,Q0,Q0,none] [.d (.v (.string t))] aS (by kernel_rfl) ?_;rw[ae.rN {x with Stack:=S}];simp[-cB];exact⟨ht.ok _,by omega,rfl⟩
theorem XQ(s:al)(x:ae)(i:ai)(S:List Int)(v:Int)(t:ByteArray)(aD:i.Op=23)(hS:x.Stack=S++ [v])(pM:S.length<=100000)(ht:Pure prog 92 [.agg (s.Tables.enc.map .d),iD (ar v)] (.d (.v (.string t))))(hl:x.Told.Out.size+t.size<=140737488355328):H4 s x i {x with Stack:=S,Told:={x.Told with Out:=x.Told.Out++t}}:=by
 have hk:=cO x S [v] hS (by rw[hS];simp;omega);have hw:=aQ v;refine rn func44 ?_;simp[-cB,f44];intro bs;simp[-cB,aD];refine pC hk ?_;simp[-cB];intro bL;refine pC hw ?_;simp[-cB,aD];refine av.aT [Q0,Q0,Q0,Q0,Q0,Q0,Q0,Q0,Q0,Q0,none] [.d (.v (.string t))] aS (by kernel_rfl) ?_;rw[ae.rN {x with Stack:=S}];simp[-cB];exact⟨ht.ok _,by omega,rfl⟩
theorem XR(s:al)(x:ae)(i:ai)(S:List Int)(v:Int)(t:ByteArray)(aD:i.Op=36)(hS:x.Stack=S++ [v])(pM:S.length<=100000)(ht:Pure prog 93 [.agg (s.Tables.enc.map .d),.agg (x.Told.World.enc.map .d),iD (ar v)] (.d (.v (.string t))))(hl:x.Told.Out.size+t.size<=140737488355328):H4 s x i {x with Stack:=S,Told:={x.Told with Out:=x.Told.Out++t}}:=by
 have hk:=cO x S [v] hS (by rw[hS];simp;omega);have hw:=aQ v;refine rn func44 ?_;simp[-cB,f44];intro bs;simp[-cB,aD];refine pC hk ?_;simp[-cB];intro bL;refine pC hw ?_;simp[-cB,aD];refine av.aT [Q0,Q0,Q0,Q0,Q0,Q0,Q0,Q0,Q0,Q0,Q0,Q0,Q0,none] [.d (.v (.string t))] aS (by kernel_rfl) ?_;rw[ae.rN {x with Stack:=S}];simp[-cB];exact⟨ht.ok _,by omega,rfl⟩
@[simp] theorem ae.ao0(x:ae):List.take 13 (List.drop 6 (x.enc.map V.d))=x.Told.World.enc.map V.d:=rfl
@[simp] theorem ae.ao1(x:ae):List.take 3 (List.drop 2 (x.enc.map V.d))=x.Env.enc.map V.d:=rfl
abbrev xP(s:al)(m x:ae)(i:ai)(m':ae):Prop:=Pure prog 46 [.agg (s.enc.map .d),.agg (m.enc.map .d),.agg (x.enc.map .d),.agg (i.enc.map .d)] (.agg (m'.enc.map .d))
theorem JD(b:Bool):Pure prog 106 [oD b] (iD (ey b)):=by
 cases b
 ·refine rn func106 ?_;simp[-cB,f106];rfl
 ·refine rn func106 ?_;simp[-cB,f106];rfl
theorem Rv(s:al)(m x:ae)(i:ai)(aD:i.Op=1)(hl:x.Stack.length<=100000):xP s m x i {x with Stack:=x.Stack++ [ar i.Arg]}:=by
 have hk:=jl x i.Arg (by omega);refine rn func46 ?_;simp[-cB,f46];intro bs bL;simp[-cB,aD];refine pC hk ?_;simp[-cB]
theorem Rw(s:al)(m x:ae)(i:ai)(v:Int)(aD:i.Op=3)(hA:0<=i.Arg)(hg:x.Told.World.aP[i.Arg.toNat]?=some v)(hl:x.Stack.length<=100000):xP s m x i {x with Stack:=x.Stack++ [ar v]}:=by
 have hk:=jl x v (by omega);obtain⟨g1,g2⟩:=apa.1 hg;refine rn func46 ?_;simp[-cB,f46];intro bs bL;simp[-cB,aD];refine av.aT [Q0,Q0,Q0,Q0,Q0,Q0,Q0,Q0,none] [.agg (({x with Stack:=x.Stack++ [ar v]}:ae).enc.map .d)] aS (by kernel_rfl) ?_;simp[-cB,hA,g1,g2];exact hk.ok _
theorem FR(s:al)(m x:ae)(i:ai)(v:Int)(e:Int)(aD:i.Op=7)(hv:og x.Told.World m.Env i.Arg=(v,e))(hl:x.Stack.length<=100000)(hw:x.Told.World.wf){R:ae}(ht:Pure prog 101 [.agg (m.enc.map .d),.agg (({x with Stack:=x.Stack++ [ar v]}:ae).enc.map .d),iD e] (.agg (R.enc.map .d))):xP s m x i R:=by
 have hk:=jl x v (by omega);have hs:=VF x.Told.World hw m.Env i.Arg;rw[hv]at hs;refine rn func46 ?_;simp[-cB,f46];intro bs bL;simp[-cB,aD];refine pC hs ?_;simp[-cB,eI];refine av.aT [Q0,Q0,Q0,Q0,Q0,Q0,none] [.agg (({x with Stack:=x.Stack++ [ar v]}:ae).enc.map .d),.agg (R.enc.map .d)] aS (by kernel_rfl) ?_;simp[-cB]
 repeat' (with_reducible refine And.intro ?_ ?_)
 all_goals first|exact hk.ok _|exact ht.ok _
theorem Rx(s:al)(m x:ae)(i:ai)(S:List Int)(v:Int)(aD:i.Op=2)(hS:x.Stack=S++ [v])(hl:S.length<=100000)(hv:ar v=v):xP s m x i {x with Stack:=S}:=by
 have hq:=cO x S [v] hS (by rw[hS];simp;omega);have hw:=aQ v;rw[hv]at hw;refine rn func46 ?_;simp[-cB,f46];intro bs bL;simp[-cB,aD];refine pC hq ?_;simp[-cB];intro lJ;refine pC hw ?_;simp[-cB,aD]
theorem Rz(s:al)(m x:ae)(i:ai)(S:List Int)(v:Int)(aD:i.Op=9)(hS:x.Stack=S++ [v])(hl:S.length<=100000)(hv:ar v=v):xP s m x i {x with Stack:=S++ [ar (rL v)]}:=by
 have hk:=jl {x with Stack:=S} (rL v) (by simp;omega);have hn:=qt v;have hq:=cO x S [v] hS (by rw[hS];simp;omega);have hw:=aQ v;rw[hv]at hw;refine rn func46 ?_;simp[-cB,f46];intro bs bL;simp[-cB,aD];refine pC hq ?_;simp[-cB];intro lJ;refine pC hw ?_;simp[-cB,aD];refine av.aT [Q0,Q0,Q0,Q0,none] [iD (rL v),.agg (({x with Stack:=S++ [ar (rL v)]}:ae).enc.map .d)] aS (by kernel_rfl) ?_;simp[-cB]
 repeat' (with_reducible refine And.intro ?_ ?_)
 all_goals first|exact hk.ok _|exact hn.ok _
theorem NW(s:al)(m x:ae)(i:ai)(S:List Int)(v:Int)(aD:i.Op=10)(hS:x.Stack=S++ [v])(hl:S.length<=100000)(hv:ar v=v):xP s m x i {x with Stack:=S++ [ar (ey (decide (ar v=0)))]}:=by
 have hk:=jl {x with Stack:=S} (ey (decide (ar v=0))) (by simp;omega);have hn:=qz v;have hq:=cO x S [v] hS (by rw[hS];simp;omega);have hw:=aQ v;rw[hv]at hw;refine rn func46 ?_;simp[-cB,f46];intro bs bL;simp[-cB,aD];refine pC hq ?_;simp[-cB];intro lJ;refine pC hw ?_;simp[-cB,aD];refine av.aT [Q0,Q0,Q0,Q0,none] [iD (ey (decide (ar v=0))),.agg (({x with Stack:=S++ [ar (ey (decide (ar v=0)))]}:ae).enc.map .d)] aS (by kernel_rfl) ?_;simp[-cB]
 repeat' (with_reducible refine And.intro ?_ ?_)
 all_goals first|exact hk.ok _|exact hn.ok _
theorem NX(s:al)(m x:ae)(i:ai)(S:List Int)(v:Int)(aD:i.Op=11)(hS:x.Stack=S++ [v])(hl:S.length<=100000)(hv:ar v=v):xP s m x i {x with Stack:=S++ [ar (ey (!decide (v=0)))]}:=by
 have hk:=jl {x with Stack:=S} (ey (!decide (v=0))) (by simp;omega);have hn:=JD (!decide (v=0));have hq:=cO x S [v] hS (by rw[hS];simp;omega);have hw:=aQ v;rw[hv]at hw;refine rn func46 ?_;simp[-cB,f46];intro bs bL;simp[-cB,aD];refine pC hq ?_;simp[-cB];intro lJ;refine pC hw ?_;simp[-cB,aD];refine av.aT [Q0,Q0,Q0,Q0,Q0,none] [iD (ey (!decide (v=0))),.agg (({x with Stack:=S++ [ar (ey (!decide (v=0)))]}:ae).enc.map .d)] aS (by kernel_rfl) ?_;simp[-cB]
 repeat' (with_reducible refine And.intro ?_ ?_)
 all_goals first|exact hk.ok _|exact hn.ok _
theorem C1(s:al)(m x:ae)(i:ai)(S:List Int)(v:Int)(u:Bool)(e:Int)(aD:i.Op=12)(hS:x.Stack=S++ [v])(hl:S.length<=100000)(hv:ar v=v)(CZ:cZ x.Told.World)(hr:(decide (cz x.Told.World v i.Arg=0)&&cU x.Told.World v i.Arg.toNat,cz x.Told.World v i.Arg)=(u,e)){R:ae}(ht:Pure prog 101 [.agg (m.enc.map .d),.agg (({x with Stack:=S++ [ar (ey u)]}:ae).enc.map .d),iD e] (.agg (R.enc.map .d))):xP s m x i R:=by
 have hk:=jl {x with Stack:=S} (ey u) (by simp;omega);have hc:=Gt x.Told.World CZ v i.Arg;have Gr:=congrArg Prod.fst hr;have LW:=congrArg Prod.snd hr;simp only at Gr LW;rw[Gr,LW]at hc;have yH:=JD u;have hq:=cO x S [v] hS (by rw[hS];simp;omega);have hw:=aQ v;rw[hv]at hw;refine rn func46 ?_;simp[-cB,f46];intro bs bL;simp[-cB,aD];refine pC hq ?_;simp[-cB];intro lJ;refine pC hw ?_;simp[-cB,aD];refine pC hc ?_;simp[-cB,eI];refine av.aT [Q0,Q0,Q0,Q0,Q0,Q0,Q0,none] [iD (ey u),.agg (({x with Stack:=S++ [ar (ey u)]}:ae).enc.map .d),.agg (R.enc.map .d)] aS (by kernel_rfl) ?_;simp[-cB]
 repeat' (with_reducible refine And.intro ?_ ?_)
 all_goals first|exact hk.ok _|exact ht.ok _|exact yH.ok _
theorem C2(s:al)(m x:ae)(i:ai)(S:List Int)(v:Int)(u:Int)(e:Int)(aD:i.Op=13)(hS:x.Stack=S++ [v])(hl:S.length<=100000)(hv:ar v=v)(hn:x.Told.World.ah.length<=32768)(TH:s.Tables.aJ.length<=65536)(hm:x.Told.World.ah.length *s.Tables.aJ.length=x.Told.World.aJ.length)(hr:tI s.Tables x.Told.World v i.Arg=(u,e)){R:ae}(ht:Pure prog 101 [.agg (m.enc.map .d),.agg (({x with Stack:=S++ [ar (u)]}:ae).enc.map .d),iD e] (.agg (R.enc.map .d))):xP s m x i R:=by
 have hk:=jl {x with Stack:=S} (u) (by simp;omega);have hc:=VA s.Tables x.Told.World hn TH hm v i.Arg;rw[hr]at hc;have hq:=cO x S [v] hS (by rw[hS];simp;omega);have hw:=aQ v;rw[hv]at hw;refine rn func46 ?_;simp[-cB,f46];intro bs bL;simp[-cB,aD];refine pC hq ?_;simp[-cB];intro lJ;refine pC hw ?_;simp[-cB,aD];refine pC hc ?_;simp[-cB,eI];refine av.aT [Q0,Q0,Q0,Q0,Q0,Q0,none] [.agg (({x with Stack:=S++ [ar (u)]}:ae).enc.map .d),.agg (R.enc.map .d)] aS (by kernel_rfl) ?_;simp[-cB]
 repeat' (with_reducible refine And.intro ?_ ?_)
 all_goals first|exact hk.ok _|exact ht.ok _
theorem C3(s:al)(m x:ae)(i:ai)(S:List Int)(v:Int)(u:Int)(e:Int)(aD:i.Op=19)(hS:x.Stack=S++ [v])(hl:S.length<=100000)(hv:ar v=v)(hC:x.Told.World.Child.length=x.Told.World.ah.length)(hN:x.Told.World.Next.length=x.Told.World.ah.length)(hr:dh x.Told.World i.Arg v=(u,e)){R:ae}(ht:Pure prog 101 [.agg (m.enc.map .d),.agg (({x with Stack:=S++ [ar (u)]}:ae).enc.map .d),iD e] (.agg (R.enc.map .d))):xP s m x i R:=by
 have hk:=jl {x with Stack:=S} (u) (by simp;omega);have hc:=VE x.Told.World hC hN i.Arg v;rw[hr]at hc;have hq:=cO x S [v] hS (by rw[hS];simp;omega);have hw:=aQ v;rw[hv]at hw;refine rn func46 ?_;simp[-cB,f46];intro bs bL;simp[-cB,aD];refine pC hq ?_;simp[-cB];intro lJ;refine pC hw ?_;simp[-cB,aD];refine pC hc ?_;simp[-cB,eI];refine av.aT [Q0,Q0,Q0,Q0,Q0,Q0,none] [.agg (({x with Stack:=S++ [ar (u)]}:ae).enc.map .d),.agg (R.enc.map .d)] aS (by kernel_rfl) ?_;simp[-cB]
 repeat' (with_reducible refine And.intro ?_ ?_)
 all_goals first|exact hk.ok _|exact ht.ok _
@[simp] theorem ae.ao2(x:ae)(w:aj):List.take 6 (x.enc.map V.d)++(w.enc.map V.d++List.drop 19 (x.enc.map V.d))=({x with Told:={x.Told with World:=w}}:ae).enc.map V.d:=rfl
theorem FT(s:al)(m x:ae)(i:ai)(S:List Int)(y v u:Int)(e:Int)(aD:i.Op=8)(hS:x.Stack=S++ [y,v])(hl:S.length<=100000)(hr:jd x.Told.World i.Arg y v=(u,e)){R:ae}(ht:Pure prog 101 [.agg (m.enc.map .d),.agg (({x with Stack:=S++ [ar u]}:ae).enc.map .d),iD e] (.agg (R.enc.map .d))):xP s m x i R:=by
 have hk:=jl {x with Stack:=S} u (by simp;omega);have hc:=LG x.Told.World i.Arg y v;rw[hr]at hc;have hq:=cO x S [y,v] hS (by rw[hS];simp;omega);refine rn func46 ?_;simp[-cB,f46];intro bs bL;simp[-cB,aD];refine pC hq ?_;simp[-cB];intro lJ;refine av.bT [eI (u,e)] aS (by kernel_rfl) (by rfl) ?_;simp[-cB,eI];refine⟨hc.ok _,?_⟩;refine av.aT [Q0,Q0,Q0,Q0,Q0,Q0,none] [.agg (({x with Stack:=S++ [ar u]}:ae).enc.map .d),.agg (R.enc.map .d)] aS (by kernel_rfl) ?_;simp[-cB]
 repeat' (with_reducible refine And.intro ?_ ?_)
 all_goals first|exact hk.ok _|exact ht.ok _
theorem NZ(s:al)(m x:ae)(i:ai)(S:List Int)(v:Int)(aD:i.Op=20)(hS:x.Stack=S++ [v])(hl:S.length<=100000)(hv:ar v=v)(hx:¬ar v<1):xP s m x i {x with Stack:=S++ [ar ((kF x.Told.World.cL (ar v)).1+1)],Told:={x.Told with World:={x.Told.World with cL:=(kF x.Told.World.cL (ar v)).2}}}:=by
 have hc:=DS x.Told.World v;rw[if_neg hx]at hc;generalize (kF x.Told.World.cL (ar v)).1+1=u at *;generalize Au:({x.Told.World with cL:=(kF x.Told.World.cL (ar v)).2}:aj)=w' at *;have hk:=jl {x with Stack:=S,Told:={x.Told with World:=w'}} u (by simp;omega);have ht:=gF m {x with Stack:=S++ [ar u],Told:={x.Told with World:=w'}};have hq:=cO x S [v] hS (by rw[hS];simp;omega);have hw:=aQ v;rw[hv]at hw;refine rn func46 ?_;simp[-cB,f46];intro bs bL;simp[-cB,aD];refine pC hq ?_;simp[-cB];intro lJ;refine pC hw ?_;simp[-cB,aD];refine pC hc ?_;simp[-cB];intro tJ;refine av.aT [Q0,Q0,Q0,Q0,Q0,Q0,none] [.agg (({x with Stack:=S++ [ar u],Told:={x.Told with World:=w'}}:ae).enc.map .d),.agg (({x with Stack:=S++ [ar u],Told:={x.Told with World:=w'}}:ae).enc.map .d)] aS (by kernel_rfl) ?_;simp[-cB]
 repeat' (with_reducible refine And.intro ?_ ?_)
 all_goals first|exact hk.ok _|exact ht.ok _
theorem NY(s:al)(m x:ae)(i:ai)(S:List Int)(v:Int)(aD:i.Op=20)(hS:x.Stack=S++ [v])(hl:S.length<=100000)(hv:ar v=v)(hx:ar v<1):xP s m x i (eO m 1):=by
 have hc:=DS x.Told.World v;rw[if_pos hx]at hc;have hk:=jl {x with Stack:=S} 0 (by simp;omega);have ht:=jq m {x with Stack:=S++ [ar 0]} 1 (by decide);have hq:=cO x S [v] hS (by rw[hS];simp;omega);have hw:=aQ v;rw[hv]at hw;refine rn func46 ?_;simp[-cB,f46];intro bs bL;simp[-cB,aD];refine pC hq ?_;simp[-cB];intro lJ;refine pC hw ?_;simp[-cB,aD];refine pC hc ?_;simp[-cB];intro tJ;refine av.aT [Q0,Q0,Q0,Q0,Q0,Q0,none] [.agg (({x with Stack:=S++ [ar 0]}:ae).enc.map .d),.agg ((eO m 1).enc.map .d)] aS (by kernel_rfl) ?_;simp[-cB]
 repeat' (with_reducible refine And.intro ?_ ?_)
 all_goals first|exact hk.ok _|exact ht.ok _
abbrev uE(s:al)(m x:ae)(i:ai)(m':ae):Prop:=Pure prog 45 [.agg (s.enc.map .d),.agg (m.enc.map .d),.agg (x.enc.map .d),.agg (i.enc.map .d)] (.agg (m'.enc.map .d))
@[simp] theorem al.ao3(s:al):List.take 15 (s.enc.map V.d)=s.Tables.enc.map V.d:=rfl
@[simp] theorem aj.XF(w:aj):List.take 13 (w.enc.map V.d)=w.enc.map V.d:=rfl
@[simp] theorem aq.XF(t:aq):List.take 15 (t.enc.map V.d)=t.enc.map V.d:=rfl
@[simp] theorem aj.ao4(w:aj)(n:Int):List.take 8 (w.enc.map V.d)++V.d (.v (.int .i64 n))::List.drop 9 (w.enc.map V.d)=({w with Score:=n}:aj).enc.map V.d:=rfl
@[simp] theorem aj.anw(w:aj)(n:Int):List.take 12 (w.enc.map V.d)++ [V.d (.v (.int .i64 n))]=({w with Go:=n}:aj).enc.map V.d:=rfl
theorem aj.rN(w:aj):w.enc.map V.d=[.d (.sl (aA w.aP)),.d (.sl (aA w.ah)),.d (.sl (aA w.Child)),.d (.sl (aA w.Next)),.d (.sl (aA w.Flags)),.d (.sl (aA w.aJ)),.d (.sl (aA w.bc)),.d (.v (.int .u64 w.cL)),iD w.Score,iD w.jx,iD w.ij,iD w.It,iD w.Go]:=rfl
theorem XT(s:al)(m x:ae)(i:ai)(S:List Int)(v:Int)(aD:i.Op=31)(hS:x.Stack=S++ [v])(hl:S.length<=100000):uE s m x i {x with Stack:=S,Told:={x.Told with World:={x.Told.World with Score:=zV x.Told.World.Score v}}}:=by
 have ht:=gF m {x with Stack:=S,Told:={x.Told with World:={x.Told.World with Score:=zV x.Told.World.Score v}}};have hc:=zp x.Told.World.Score v;have hq:=cO x S [v] hS (by rw[hS];simp;omega);refine rn func45 ?_;simp[-cB,f45];intro bs bL;simp[-cB,aD];refine pC hq ?_;simp[-cB];intro lJ;simp[-cB,aD];intro tJ;refine pC hc ?_;simp[-cB];refine pC ht ?_;simp[-cB]
theorem K0(s:al)(m x:ae)(i:ai)(S:List Int)(v:Int)(w':aj)(e:Int)(aD:i.Op=15)(hS:x.Stack=S++ [v])(hl:S.length<=100000)(hF:cZ x.Told.World)(hlen:x.Told.World.Flags.length<=100000)(hr:eb x.Told.World v i.Arg true=(w',e)){R:ae}(ht:Pure prog 101 [.agg (m.enc.map .d),.agg (({x with Stack:=S,Told:={x.Told with World:=w'}}:ae).enc.map .d),iD e] (.agg (R.enc.map .d))):uE s m x i R:=by
 have hc:=Z4 x.Told.World hF hlen v i.Arg;rw[hr]at hc;have hq:=cO x S [v] hS (by rw[hS];simp;omega);refine rn func45 ?_;simp[-cB,f45];intro bs bL;simp[-cB,aD];refine pC hq ?_;simp[-cB];intro lJ;simp[-cB,aD];intro tJ;refine pC hc ?_;simp[-cB];refine pC ht ?_;simp[-cB]
theorem K1(s:al)(m x:ae)(i:ai)(S:List Int)(v:Int)(w':aj)(e:Int)(aD:i.Op=16)(hS:x.Stack=S++ [v])(hl:S.length<=100000)(hF:cZ x.Told.World)(hlen:x.Told.World.Flags.length<=100000)(hr:eb x.Told.World v i.Arg false=(w',e)){R:ae}(ht:Pure prog 101 [.agg (m.enc.map .d),.agg (({x with Stack:=S,Told:={x.Told with World:=w'}}:ae).enc.map .d),iD e] (.agg (R.enc.map .d))):uE s m x i R:=by
 have hc:=Sa x.Told.World hF hlen v i.Arg;rw[hr]at hc;have hq:=cO x S [v] hS (by rw[hS];simp;omega);refine rn func45 ?_;simp[-cB,f45];intro bs bL;simp[-cB,aD];refine pC hq ?_;simp[-cB];intro lJ;simp[-cB,aD];intro tJ;refine pC hc ?_;simp[-cB];refine pC ht ?_;simp[-cB]
theorem KZ(s:al)(m x:ae)(i:ai)(S:List Int)(v n:Int)(w':aj)(e:Int)(aD:i.Op=14)(hS:x.Stack=S++ [v,n])(hl:S.length<=100000)(hw:x.Told.World.wf)(hn:x.Told.World.ah.length<=32768)(hk:s.Tables.aJ.length<=65536)(hm:x.Told.World.ah.length *s.Tables.aJ.length=x.Told.World.aJ.length)(hr:mY s.Tables x.Told.World v i.Arg n=(w',e)){R:ae}(ht:Pure prog 101 [.agg (m.enc.map .d),.agg (({x with Stack:=S,Told:={x.Told with World:=w'}}:ae).enc.map .d),iD e] (.agg (R.enc.map .d))):uE s m x i R:=by
 have hc:=YX s.Tables x.Told.World hw hn hk hm v i.Arg n;rw[hr]at hc;have hq:=cO x S [v,n] hS (by rw[hS];simp;omega);refine rn func45 ?_;simp[-cB,f45];intro bs bL;simp[-cB,aD];refine pC hq ?_;simp[-cB];intro lJ;simp[-cB,aD];intro tJ;refine av.aT [Q0,Q0,Q0,Q0,Q0,Q0,Q0,Q0,Q0,Q0,Q0,Q3,none,arF] [.bA [.agg (w'.enc.map .d),iD e]] aS (by kernel_rfl) ?_;simp[-cB];refine⟨hc.ok _,?_⟩;refine pC ht ?_;simp[-cB]
theorem XW(s:al)(m x:ae)(i:ai)(S:List Int)(v:Int)(aD:i.Op=34)(hS:x.Stack=S++ [v])(hl:S.length<=100000)(hx:1<=v/\v<=12):uE s m x i ({x with Stack:=S,Told:={x.Told with World:={x.Told.World with Go:=v}}}):=by
 have ht:=gF m {x with Stack:=S,Told:={x.Told with World:={x.Told.World with Go:=v}}};have hq:=cO x S [v] hS (by rw[hS];simp;omega);refine rn func45 ?_;simp[-cB,f45];intro bs bL;simp[-cB,aD];refine pC hq ?_;simp[-cB];intro lJ;simp[-cB,aD];intro tJ;have hb:(decide (v<1)||decide (12<v))=false:=by simp;omega
 simp[hb];refine pC ht ?_;simp[-cB]
theorem XV(s:al)(m x:ae)(i:ai)(S:List Int)(v:Int)(aD:i.Op=34)(hS:x.Stack=S++ [v])(hl:S.length<=100000)(hx:¬(1<=v/\v<=12)):uE s m x i (eO m 5):=by
 have ht:=jq m {x with Stack:=S,Told:={x.Told with World:={x.Told.World with Go:=v}}} 5 (by decide);have hq:=cO x S [v] hS (by rw[hS];simp;omega);refine rn func45 ?_;simp[-cB,f45];intro bs bL;simp[-cB,aD];refine pC hq ?_;simp[-cB];intro lJ;simp[-cB,aD];intro tJ;have hb:(decide (v<1)||decide (12<v))=true:=by simp;omega
 simp[hb];refine pC ht ?_;simp[-cB]
theorem XO(s:al)(m x:ae)(i:ai)(aD:i.Op=33)(hA:0<=i.Arg/\i.Arg<x.Told.World.bc.length)(hg:x.Told.World.bc.length<=100000):uE s m x i {x with Told:={x.Told with World:={x.Told.World with bc:=x.Told.World.bc.set i.Arg.toNat 0}}}:=by
 have hi:=uz 5301 x.Told.World.bc (by omega);have Ek:i.Arg.toNat<x.Told.World.bc.length:=by omega
 unfold uE;rw[ae.rN x];refine rn func45 ?_;simp[-cB,f45];intro bs bL;simp[-cB,aD];refine eD [] hi ?_;simp[-cB,hA,Ek];rfl
theorem XU(s:al)(m x:ae)(i:ai)(S:List Int)(v:Int)(aD:i.Op=32)(hS:x.Stack=S++ [v])(hl:S.length<=100000)(hA:0<=i.Arg/\i.Arg<x.Told.World.bc.length)(hg:x.Told.World.bc.length<=100000):uE s m x i {x with Stack:=S,Told:={x.Told with World:={x.Told.World with bc:=x.Told.World.bc.set i.Arg.toNat (if v<1 then 1 else v)}}}:=by
 have ht:=gF m {x with Stack:=S,Told:={x.Told with World:={x.Told.World with bc:=x.Told.World.bc.set i.Arg.toNat (if v<1 then 1 else v)}}};have hi:=uz 5301 x.Told.World.bc (by omega);have Ek:i.Arg.toNat<x.Told.World.bc.length:=by omega
 have hq:=cO x S [v] hS (by rw[hS];simp;omega);refine rn func45 ?_;simp[-cB,f45];intro bs bL;simp[-cB,aD];refine pC hq ?_;simp[-cB];intro lJ;simp[-cB,aD];intro tJ;rw[aj.rN x.Told.World];refine eD [] hi ?_;simp[-cB,hA,Ek];refine ay.weaken (Wk.freeze 5301 (ty:=3) (k:=1) (ys:=aA (x.Told.World.bc.set i.Arg.toNat (if v<1 then 1 else v))) (by rfl)) ?_;simp[-cB,V.fg];refine pC ht ?_;simp[-cB]
theorem aaP(s:al)(m x:ae)(i:ai)(S:List Int)(v:Int)(aD:i.Op=4)(hS:x.Stack=S++ [v])(hl:S.length<=100000)(hA:0<=i.Arg/\i.Arg<x.Told.World.aP.length)(hg:x.Told.World.aP.length<=100000):uE s m x i {x with Stack:=S,Told:={x.Told with World:={x.Told.World with aP:=x.Told.World.aP.set i.Arg.toNat v}}}:=by
 have ht:=gF m {x with Stack:=S,Told:={x.Told with World:={x.Told.World with aP:=x.Told.World.aP.set i.Arg.toNat v}}};have hi:=uz 5301 x.Told.World.aP (by omega);have Ek:i.Arg.toNat<x.Told.World.aP.length:=by omega
 have hq:=cO x S [v] hS (by rw[hS];simp;omega);refine rn func45 ?_;simp[-cB,f45];intro bs bL;simp[-cB,aD];refine pC hq ?_;simp[-cB];intro lJ;simp[-cB,aD];intro tJ;rw[aj.rN x.Told.World];refine eD [] hi ?_;simp[-cB,hA,Ek];refine ay.weaken (Wk.freeze 5301 (ty:=3) (k:=1) (ys:=aA (x.Told.World.aP.set i.Arg.toNat v)) (by rfl)) ?_;simp[-cB,V.fg];refine pC ht ?_;simp[-cB]
theorem TY{w:aj}{x:Int}(hx:1<=x/\x<w.ah.length):1<=dj w.tree x:=by
 unfold dj ik;have e1:w.tree.bn=w.ah:=rfl;rw[e1];obtain⟨k,hk⟩:∃k,w.ah.length=k+1:=⟨w.ah.length-1,by omega⟩
 have bR:bI w.ah w.ah.length w.ah.length x≠ []:=by
  rw[hk,bI,if_pos (by rw[aY];omega)];simp
 have hm:(bI w.ah w.ah.length w.ah.length x).getLastD 0∈bI w.ah w.ah.length w.ah.length x:=by
  rw[aqB,aq4 bR];exact List.getLast_mem bR
 exact(mJ hm).1
theorem Cl(s:al)(w:aj)(hw:w.wf)(hT:w.ah.length=s.Tables.az.length)(h3:3<=s.Tables.az.length):Pure prog 99 [.agg (s.enc.map .d),.agg (w.enc.map .d)] (oD (!da s.Tables (dj w.tree 1))):=by
 have ht:=sb w hw 1;have hb:=Ki w.tree 1 (by show 0<w.ah.length;omega);have hp:=TY (w:=w) (x:=1) (by omega);have e1:w.tree.bn=w.ah:=rfl;rw[e1,hT]at hb;have hr:da s.Tables (dj w.tree 1)=(bx s.Tables (dj w.tree 1)).Room:=by
  unfold da;rw[decide_eq_true (by omega:1<=dj w.tree 1),decide_eq_true hb.2];rfl
 rw[hr];generalize dj w.tree 1=T at *;have au:T.toNat<s.Tables.az.length:=by omega
 have bm:bx s.Tables T=s.Tables.az[T.toNat]:=by unfold bx;simp[akC au]
 rw[bm];refine rn func99 ?_;simp[-cB,f99];intro bs;refine av.bT [iD T] aS (by kernel_rfl) (by rfl) ?_;simp[au];exact⟨ht.ok _,hb.1⟩
theorem Rt(s:al)(m x:ae)(i:ai)(S:List Int)(v n:Int)(aD:i.Op=17)(hS:x.Stack=S++ [v,n])(hl:S.length<=100000)(hr:da s.Tables v=true):uE s m x i (eO m 12):=by
 obtain⟨h1,h2,h3⟩:=zL.1 hr;have au:v.toNat<s.Tables.az.length:=by omega
 have bm:bx s.Tables v=s.Tables.az[v.toNat]:=by unfold bx;simp[akC au]
 rw[bm]at h3;have h0:0<=v:=by omega
 have hf:=o8 m 12;have hq:=cO x S [v,n] hS (by rw[hS];simp;omega);refine rn func45 ?_;simp[-cB,f45];intro bs bL;simp[-cB,aD];refine pC hq ?_;simp[-cB];intro lJ;simp[-cB,aD];intro tJ;simp[-cB,aD,h1,h2,au,h3,h0];refine pC hf ?_;simp[-cB]
theorem Ru(s:al)(m x:ae)(i:ai)(S:List Int)(v:Int)(aD:i.Op=18)(hS:x.Stack=S++ [v])(hl:S.length<=100000)(hr:da s.Tables v=true):uE s m x i (eO m 12):=by
 obtain⟨h1,h2,h3⟩:=zL.1 hr;have au:v.toNat<s.Tables.az.length:=by omega
 have bm:bx s.Tables v=s.Tables.az[v.toNat]:=by unfold bx;simp[akC au]
 rw[bm]at h3;have h0:0<=v:=by omega
 have hf:=o8 m 12;have hq:=cO x S [v] hS (by rw[hS];simp;omega);refine rn func45 ?_;simp[-cB,f45];intro bs bL;simp[-cB,aD];refine pC hq ?_;simp[-cB];intro lJ;simp[-cB,aD];intro tJ;simp[-cB,aD,h1,h2,au,h3,h0];refine pC hf ?_;simp[-cB]
theorem XH(s:al)(m x:ae)(i:ai)(S:List Int)(v n:Int)(w1:aj)(e1:Int)(aD:i.Op=17)(hS:x.Stack=S++ [v,n])(hl:S.length≤100000)(hr:da s.Tables v=false)(hw:x.Told.World.wf){ls:Int→List Int}(hn:ec x.Told.World.tree x.Told.World.ah.length ls)(hp:kZ x.Told.World v n=(w1,e1))
  (hh:e1=0->Pure prog 99 [.agg (s.enc.map .d),.agg (w1.enc.map .d)] (oD (!da s.Tables (dj w1.tree 1))))
  (R:ae) (hR:R=if e1≠0 then eO m e1 else if da s.Tables (dj w1.tree 1)=true then {x with Stack:=S,Told:={x.Told with World:=w1}}else eO m 12):uE s m x i R:=by
 have hq:=cO x S [v,n] hS (by rw[hS];simp;omega);have hc:=VC x.Told.World hw hn v n;rw[hp]at hc;have pW:∀e,e≠0->Pure prog 101 [.agg (m.enc.map .d),.agg (({x with Stack:=S,Told:={x.Told with World:=w1}}:ae).enc.map .d),iD e] (.agg ((eO m e).enc.map .d)):=λe he=>jq m _ e he
 have Tw:=gF m {x with Stack:=S,Told:={x.Told with World:=w1}};generalize hB:da s.Tables (dj w1.tree 1)=B at *;have cs:¬1<=v\/(1<=v/\¬v<s.Tables.az.length)\/(1<=v/\v<s.Tables.az.length/\0<=v/\∃au:v.toNat<s.Tables.az.length,s.Tables.az[v.toNat].Room=false):=by
  by_cases h1:1<=v
  ·by_cases h2:v<s.Tables.az.length
   ·have au:v.toNat<s.Tables.az.length:=by omega
    have h0:0<=v:=by omega
    have h3:s.Tables.az[v.toNat].Room=false:=by
     unfold da bx at hr;rw[decide_eq_true h1,decide_eq_true h2,akC au]at hr;simpa using hr
    exact .inr (.inr ⟨h1,h2,h0,au,h3⟩)
   ·exact .inr (.inl ⟨h1,h2⟩)
  ·exact .inl h1
 rcases cs with h1|⟨h1,h2⟩|⟨h1,h2,h0,au,h3⟩
 all_goals
  refine rn func45 ?_;simp[-cB,f45];intro bs bL;simp[-cB,aD];refine pC hq ?_;simp[-cB];intro lJ;simp[-cB,aD];intro tJ
  first
   | simp[-cB,aD,h1,h2,au,h3,h0]
   | simp[-cB,aD,h1,h2]
   | simp[-cB,aD,h1]
  refine av.aT [Q0,Q0,Q0,Q0,Q0,Q0,Q0,Q0,Q3,none,arF] [.bA [.agg (w1.enc.map .d),iD e1]] aS (by kernel_rfl) ?_;simp[-cB];refine⟨hc.ok _,?_⟩;by_cases he:e1=0
  ·subst he;have hh:=hh rfl;rw[if_neg (by simp)]at hR;refine pG hh ?_;cases B with
   | true=>
     rw[if_pos rfl]at hR;subst hR;simp;refine pC Tw ?_;simp[-cB]
   | false=>
     rw[if_neg (by simp)]at hR;subst hR;have acE:=pW 12 (by decide);simp;refine pC acE ?_;simp[-cB]
  ·rw[if_pos he]at hR;subst hR;have hte:=pW e1 he;have hb:decide (e1=0)=false:=decide_eq_false he;refine ay.ss rfl (g:=false) (x:=oD true) (λh=>by cases h) (by first|rfl|simp[fq,he]) (by first|rfl|(simp;exact he)|(simp;rfl)) (by simp) (by simp) rfl ?_;simp[he];refine pC hte ?_;simp[-cB]
theorem XI(s:al)(m x:ae)(i:ai)(S:List Int)(v:Int)(w1:aj)(e1:Int)(aD:i.Op=18)(hS:x.Stack=S++ [v])(hl:S.length≤100000)(hr:da s.Tables v=false)(hw:x.Told.World.wf){ls:Int→List Int}(hn:ec x.Told.World.tree x.Told.World.ah.length ls)(hp:fB x.Told.World v=(w1,e1))
  (hh:e1=0->Pure prog 99 [.agg (s.enc.map .d),.agg (w1.enc.map .d)] (oD (!da s.Tables (dj w1.tree 1))))
  (R:ae) (hR:R=if e1≠0 then eO m e1 else if da s.Tables (dj w1.tree 1)=true then {x with Stack:=S,Told:={x.Told with World:=w1}}else eO m 12):uE s m x i R:=by
 have hq:=cO x S [v] hS (by rw[hS];simp;omega);have hc:=Pr x.Told.World hw hn v;rw[hp]at hc;have pW:∀e,e≠0->Pure prog 101 [.agg (m.enc.map .d),.agg (({x with Stack:=S,Told:={x.Told with World:=w1}}:ae).enc.map .d),iD e] (.agg ((eO m e).enc.map .d)):=λe he=>jq m _ e he
 have Tw:=gF m {x with Stack:=S,Told:={x.Told with World:=w1}};generalize hB:da s.Tables (dj w1.tree 1)=B at *;have cs:¬1<=v\/(1<=v/\¬v<s.Tables.az.length)\/(1<=v/\v<s.Tables.az.length/\0<=v/\∃au:v.toNat<s.Tables.az.length,s.Tables.az[v.toNat].Room=false):=by
  by_cases h1:1<=v
  ·by_cases h2:v<s.Tables.az.length
   ·have au:v.toNat<s.Tables.az.length:=by omega
    have h0:0<=v:=by omega
    have h3:s.Tables.az[v.toNat].Room=false:=by
     unfold da bx at hr;rw[decide_eq_true h1,decide_eq_true h2,akC au]at hr;simpa using hr
    exact .inr (.inr ⟨h1,h2,h0,au,h3⟩)
   ·exact .inr (.inl ⟨h1,h2⟩)
  ·exact .inl h1
 rcases cs with h1|⟨h1,h2⟩|⟨h1,h2,h0,au,h3⟩
 all_goals
  refine rn func45 ?_;simp[-cB,f45];intro bs bL;simp[-cB,aD];refine pC hq ?_;simp[-cB];intro lJ;simp[-cB,aD];intro tJ
  first
   | simp[-cB,aD,h1,h2,au,h3,h0]
   | simp[-cB,aD,h1,h2]
   | simp[-cB,aD,h1]
  refine pC hc ?_;simp[-cB];by_cases he:e1=0
  ·subst he;have hh:=hh rfl;rw[if_neg (by simp)]at hR;refine pG hh ?_;cases B with
   | true=>
     rw[if_pos rfl]at hR;subst hR;simp;refine pC Tw ?_;simp[-cB]
   | false=>
     rw[if_neg (by simp)]at hR;subst hR;have acE:=pW 12 (by decide);simp;refine pC acE ?_;simp[-cB]
  ·rw[if_pos he]at hR;subst hR;have hte:=pW e1 he;have hb:decide (e1=0)=false:=decide_eq_false he;refine ay.ss rfl (g:=false) (x:=oD true) (λh=>by cases h) (by first|rfl|simp[fq,he]) (by first|rfl|(simp;exact he)|(simp;rfl)) (by simp) (by simp) rfl ?_;simp[he];refine pC hte ?_;simp[-cB]
theorem JE(x:ByteArray):x++⟨#[]⟩=x:=by
 apply aq0;rw[aqp];simp
theorem KG{t:aq}{w:aj}(aN:iG t w):1<=cN w/\cN w<t.az.length:=by
 have hT:=aN.hT;have h3:=aN.hn;have hb:=Ki w.tree 1 (by show 0<w.ah.length;omega);have hp:=TY (w:=w) (x:=1) (by omega);have e1:w.tree.bn=w.ah:=rfl;rw[e1]at hb;unfold cN;omega
theorem XN(t:aq)(w:aj)(hf:fD t=true)(aN:iG t w)(hF:cZ w):Pure prog 90 [.agg (t.enc.map .d),.agg (w.enc.map .d)] (.d (.v (.string (wU t w)))):=by
 have hn:w.ah.length<=128:=by have:=aN.hT;have:=aN.hn;omega
 have sT:=acD t w aN hF hn;have hh:=Mu w aN.wf;have cp:=KG aN;have ht:=qS t (cN w);have mj:=Gx w aN.wf hF (by omega) (cN w);have So:=KY t w (cN w) hf aN.wf hF hn;have au:(cN w).toNat<t.az.length:=by omega
 have h0:0<=cN w:=by omega
 have bm:bx t (cN w)=t.az[(cN w).toNat]:=by unfold bx;simp[akC au]
 have jC:(t.az[(cN w).toNat]?.getD bg.zero).Text=t.az[(cN w).toNat].Text:=by rw[akC au];rfl
 have htx:=C0 t t.az[(cN w).toNat].Text;have z1:=iV hf (cN w);have z2:=ux hf t.az[(cN w).toNat].Text;have z3:=xa hf aN (cN w);have y1:(ByteArray.mk #[10]).size=1:=rfl;have y2:(ByteArray.mk #[89,111,117,32,115,101,101,32]).size=8:=rfl;have y3:(ByteArray.mk #[46,10]).size=2:=rfl;unfold wU;rw[bm];generalize cN w=x at *;generalize hTx:t.az[x.toNat].Text=tx at *;generalize dB t x=A at *;generalize oF t tx=B at *;generalize sw t w x=C at *;generalize iK w x=l at *;cases hL:Hk w with
 | false=>
   rw[hL]at sT;refine rn func90 ?_;simp[-cB,f90];intro bs;refine pC sT ?_;simp
 | true=>
   rw[hL]at sT;by_cases hx:tx= -1
   ·by_cases hl:l=[]
    ·refine rn func90 ?_;simp[-cB,f90];intro bs;refine pC sT ?_;simp[-cB];refine pC hh ?_;simp[-cB];refine pC ht ?_;simp[-cB];refine⟨by omega,⟨h0,au⟩,?_⟩;simp[jC,hx];refine pC mj ?_;simp[hl];simp[JE]
    ·refine rn func90 ?_;simp[-cB,f90];intro bs;refine pC sT ?_;simp[-cB];refine pC hh ?_;simp[-cB];refine pC ht ?_;simp[-cB];refine⟨by omega,⟨h0,au⟩,?_⟩;simp[jC,hx];refine pC mj ?_;simp[hl];intro _;refine pC So ?_;simp[-cB,JE];refine⟨by omega,by omega,by omega⟩
   ·by_cases hl:l=[]
    ·refine rn func90 ?_;simp[-cB,f90];intro bs;refine pC sT ?_;simp[-cB];refine pC hh ?_;simp[-cB];refine pC ht ?_;simp[-cB];refine⟨by omega,⟨h0,au⟩,?_⟩;simp[jC,hx];refine av.bT [.d (.v (.string B))] aS (by kernel_rfl) (by rfl) ?_;simp[-cB,au,h0,hTx];refine⟨htx.ok _,by omega,by omega,?_⟩;refine pC mj ?_;simp[hl];simp[JE]
    ·refine rn func90 ?_;simp[-cB,f90];intro bs;refine pC sT ?_;simp[-cB];refine pC hh ?_;simp[-cB];refine pC ht ?_;simp[-cB];refine⟨by omega,⟨h0,au⟩,?_⟩;simp[jC,hx];refine av.bT [.d (.v (.string B))] aS (by kernel_rfl) (by rfl) ?_;simp[-cB,au,h0,hTx];refine⟨htx.ok _,by omega,by omega,?_⟩;refine pC mj ?_;simp[hl];intro _;refine pC So ?_;simp[-cB,JE];refine⟨by omega,by omega,by omega⟩
theorem WZ(w:aj)(x:Int):aE prog 197 [.agg (w.enc.map .d),iD x] [] (λr L=>r= .ret (.eS (.func 241) [] [.bp 5201 0,.bp 5202 0])/\L=qu w x):=by
 refine aE.wk (R:=λr L=>r= .ret (.eS (.func 241) [] [.bp 2 0,.bp 3 0])/\∃b2 b3,L=[(3,.box b3 3 [iD x]),(2,.box b2 34 (w.enc.map .d))]) ?_ ?_
 ·refine aE.run func197 rfl (by simp[f197]) ?_;simp[f197]
 ·rintro r L ⟨rfl,b2,b3,rfl⟩;refine⟨_,_,_,rfl,((Wk.yZ [2,3]).trans ((Wk.eB 2 5201 (by simp[keys])).trans ((Wk.eB 3 5202 (by simp[keys])).trans (Wk.pick [0] [5201,5202] (by simp) (by decide) ?_)))),?_⟩
  ·simp
  ·simp[qu,St.pick]
theorem Sg(w:aj)(aN:vK w)(hn:w.ah.length<=1000)(hF:cZ w){ls:Int->List Int}(Mt:ec w.tree w.ah.length ls)(x:Int)(hx:1<=x/\x<w.ah.length):Iter prog 241 [.bp 5201 0,.bp 5202 0] (qu w x) ((jG w w.ah.length x).map λi=> [iD i]):=by
 intro l A B hy _;have hw:=TX w aN hn hF Mt w.ah.length x hx (by omega) l A B (λi z hz=>hy i _ (by rw[apc,hz];rfl));rw[apx];generalize jG w w.ah.length x=xs at *;unfold qu;unfold yv at hw;refine aE.vT [5003] (by simp) func241 rfl (by simp[f241]) ?_;simp[f241];refine ay.agp [5003] rfl hw (by simp) rfl (by simp) rfl (by kernel_rfl) (by first|rfl|simp) (by simp) (by simp) (by simp) ?_ ?_
 ·intro bs;simp[-cB,List.filter]
 ·intro bs;simp[-cB,List.filter]
theorem acF(t:aq)(w:aj)(aN:iG t w)(hF:cZ w)(hn:w.ah.length<=128):Pure prog 130 [.agg (t.enc.map .d),.agg (w.enc.map .d)] (oD (Hk w)):=by
 have hh:=py w aN.wf;have cp:=KG aN;have hT:=aN.hT;have h0:=uy w hF (cN w) 0 (by decide);have iy:=Sg w aN.P2 (by omega) hF aN.nest (cN w) (by omega);have hu:=WZ w (cN w);have hy:∀y,Pure prog 196 [.agg (w.enc.map .d),iD y,iD 0] (oD (cU w y 0)):=λy=>uy w hF y 0 (by decide)
 simp only[show(0:Int).toNat=0 from rfl]at h0;unfold Hk;unfold qu at iy hu;change Pure prog 131 [.agg (w.enc.map .d)] (iD (cN w))at hh;generalize cN w=x at *;generalize jG w w.ah.length x=l at *;cases hA:cU w x 0 with
 | true=>
   rw[hA]at h0;refine rn func130 ?_;simp[-cB,f130];intro bs;refine pC hh ?_;simp[-cB];refine pC h0 ?_;simp
 | false=>
   rw[hA]at h0;refine rn func130 ?_;simp[-cB,f130];intro bs;refine pC hh ?_;simp[-cB];refine pC h0 ?_;simp;refine eD [] hu ?_;simp[-cB];refine av.uR [5201,5202] [3,4] l (λi=> [iD i]) (λpre=> []) (λpre=>∀y∈pre,cU w y 0=false) (by simpa[List.filter]using iy) rfl (by simp) (by simp[List.filter]) (by simp[gm]) (by simp) (by rfl) (by rfl) (by simp[List.filter]) (by simp[List.filter]) ?_ ?_
   ·rintro pre z post bu hH;have hz:=hy z;cases hB:cU w z 0 with
    | true=>
      rw[hB]at hz;have yq:l.any (λy=>cU w y 0)=true:=by rw[bu];simp[hB]
      simp[-cB,List.filter];refine pC hz ?_;simp[yq]
    | false=>
      rw[hB]at hz;simp[-cB,List.filter];refine pC hz ?_;simp[hH,hB];rintro y (h|rfl)
      ·exact hH y h
      ·exact hB
   ·intro hH;have yq:l.any (λy=>cU w y 0)=false:=by
     rw[aqt];intro y hy;simp[hH y hy]
    simp[-cB,List.filter,yq]
def lf(l:List ByteArray)(s:ByteArray):Nat->ByteArray
 | 0=>⟨#[]⟩
 | k+1=>(if 0<k then lf l s k++s else lf l s k)++l[k]?.getD ⟨#[]⟩
theorem rq(l:List ByteArray)(s:ByteArray)(hs:s.size<=1000)(h:∀x∈l,x.size<=1000000):∀k,(lf l s k).size<=1001000 *k
 | 0=>api _
 | k+1=>by
   have ih:=rq l s hs h k;have h2:(l[k]?.getD ⟨#[]⟩).size<=1000000:=by
    cases h0:l[k]? with
    | none=>have:(ByteArray.mk #[]).size=0:=rfl;simp only[Option.getD_none];omega
    | some s=>have:=h s (ape h0);simpa using this
   rw[lf,apw];split
   ·rw[apw];omega
   ·omega
theorem B9(l:List ByteArray)(s:ByteArray)(hs:s.size<=1000)(h:∀x∈l,x.size<=1000000)(hl:l.length<=1000):Pure prog 133 [.d (.sl (iB l)),.d (.v (.string s))] (.d (.v (.string (lf l s l.length)))):=by
 have hz:=rq l s hs h;refine rn func133 ?_;simp[-cB,f133];refine av.cJ [1,5,8,9,10] l.length (λi=> [(10,iD i),(5,.d (.v (.string (lf l s i))))]) (λ_=> []) (λ_=>True) (by rfl) (by simp[lf]) ?_;intro i hi _;rcases apg hi with au|rfl
 ·have dF:(i:Int)<l.length:=by omega
  have bY:aM .i64 ((i:Int)+1):=iW;have e1:l[i]?.getD ⟨#[]⟩=l[i]:=by rw[akC au];rfl
  have z1:=hz i;have z2:=h l[i] (apk au);have hj:lf l s (i+1)=(if 0<i then lf l s i++s else lf l s i)++l[i]:=by rw[lf,e1]
  by_cases h0:0<i
  ·have xR:(0:Int)<i:=by omega
   rw[if_pos h0]at hj;simp[dF,au,h0,xR,bY,hj];exact⟨by omega,by omega⟩
  ·rw[if_neg h0]at hj;have xR:¬(0:Int)<i:=by omega
   simp[dF,au,h0,xR,bY,hj];omega
 ·simp
theorem Xt(t:aq)(w:aj)(hf:fD t=true)(aN:iG t w)(hF:cZ w):Pure prog 81 [.agg (t.enc.map .d),.agg (w.enc.map .d)] (.d (.v (.string (wU t w)))):=by
 have hn:w.ah.length<=128:=by have:=aN.hT;have:=aN.hn;omega
 have sT:=acF t w aN hF hn;have hh:=py w aN.wf;change Pure prog 131 [.agg (w.enc.map .d)] (iD (cN w))at hh;have cp:=KG aN;have ht:=Ba t (cN w);have mj:=L4 t w aN.wf aN.hC aN.hN hF (by omega) (cN w);have So:=KW t w (cN w) hf aN hF;have au:(cN w).toNat<t.az.length:=by omega
 have h0:0<=cN w:=by omega
 have bm:bx t (cN w)=t.az[(cN w).toNat]:=by unfold bx;simp[akC au]
 have jC:(t.az[(cN w).toNat]?.getD bg.zero).Text=t.az[(cN w).toNat].Text:=by rw[akC au];rfl
 have htx:=CX t t.az[(cN w).toNat].Text;have z1:=iV hf (cN w);have z2:=ux hf t.az[(cN w).toNat].Text;have z3:=xa hf aN (cN w);have y1:(ByteArray.mk #[10]).size=1:=rfl;have y2:(ByteArray.mk #[89,111,117,32,115,101,101,32]).size=8:=rfl;have y3:(ByteArray.mk #[46]).size=1:=rfl;have ea:∀X:Array UInt8,X++ #[46,10]=(X.push 46).push 10:=by intro X;apply Array.ext';simp
 unfold wU;rw[bm];generalize cN w=x at *;generalize hTx:t.az[x.toNat].Text=tx at *;generalize dB t x=A at *;generalize oF t tx=B at *;generalize sw t w x=C at *;generalize iK w x=l at *;have Lx:((l.map (dB t)).length:Int)=l.length:=by simp
 cases hL:Hk w with
 | false=>
   rw[hL]at sT;refine rn func81 ?_;simp[-cB,f81];intro bs;refine pC sT ?_;simp
 | true=>
   rw[hL]at sT;by_cases hx:tx= -1
   ·by_cases hl:l=[]
    ·have dW:∀s∈([A]:List ByteArray),s.size<=1000000:=by intro s hs;simp at hs;subst hs;omega
     have hj:=B9 [A] ⟨#[10]⟩ (by decide) dW (by simp);have hz:(lf [A] ⟨#[10]⟩ 1).size<=1001000 *1:=rq [A] ⟨#[10]⟩ (by decide) dW 1;refine rn func81 ?_;simp[-cB,f81];intro bs;refine pC sT ?_;simp[-cB];refine pC hh ?_;simp[-cB];refine pC ht ?_;simp[-cB];refine⟨⟨h0,au⟩,?_⟩;simp[jC,hx];refine pC mj ?_;simp[hl];refine ay.weaken (Wk.freeze 17 (ty:=9) (k:=1) (ys:=iB [A]) (by rfl)) ?_;simp[-cB,V.fg];refine pC hj ?_;simp[-cB];refine⟨by omega,?_⟩;apply aq0;simp[lf,aqp,ea]
    ·have dW:∀s∈([A,(⟨#[89,111,117,32,115,101,101,32]⟩++C++⟨#[46]⟩)]:List ByteArray),s.size<=1000000:=by intro s hs;simp at hs;rcases hs with rfl|rfl<;>(try rw[apw,apw])<;>omega
     have hj:=B9 [A,(⟨#[89,111,117,32,115,101,101,32]⟩++C++⟨#[46]⟩)] ⟨#[10]⟩ (by decide) dW (by simp);have hz:(lf [A,(⟨#[89,111,117,32,115,101,101,32]⟩++C++⟨#[46]⟩)] ⟨#[10]⟩ 2).size<=1001000 *2:=rq [A,(⟨#[89,111,117,32,115,101,101,32]⟩++C++⟨#[46]⟩)] ⟨#[10]⟩ (by decide) dW 2;refine rn func81 ?_;simp[-cB,f81];intro bs;refine pC sT ?_;simp[-cB];refine pC hh ?_;simp[-cB];refine pC ht ?_;simp[-cB];refine⟨⟨h0,au⟩,?_⟩;simp[jC,hx];refine pC mj ?_;simp[hl];intro _;refine pC So ?_;simp[-cB];refine⟨by omega,by omega,?_⟩;refine ay.weaken (Wk.freeze 17 (ty:=9) (k:=1) (ys:=iB [A,(⟨#[89,111,117,32,115,101,101,32]⟩++C++⟨#[46]⟩)]) (by rfl)) ?_;simp[-cB,V.fg];refine pC hj ?_;simp[-cB];refine⟨by omega,?_⟩;apply aq0;simp[lf,aqp,ea]
   ·by_cases hl:l=[]
    ·have dW:∀s∈([A,B]:List ByteArray),s.size<=1000000:=by intro s hs;simp at hs;rcases hs with rfl|rfl<;>(try rw[apw,apw])<;>omega
     have hj:=B9 [A,B] ⟨#[10]⟩ (by decide) dW (by simp);have hz:(lf [A,B] ⟨#[10]⟩ 2).size<=1001000 *2:=rq [A,B] ⟨#[10]⟩ (by decide) dW 2;refine rn func81 ?_;simp[-cB,f81];intro bs;refine pC sT ?_;simp[-cB];refine pC hh ?_;simp[-cB];refine pC ht ?_;simp[-cB];refine⟨⟨h0,au⟩,?_⟩;simp[jC,hx];refine pC htx ?_;simp[-cB];refine pC mj ?_;simp[hl];refine ay.weaken (Wk.freeze 17 (ty:=9) (k:=1) (ys:=iB [A,B]) (by rfl)) ?_;simp[-cB,V.fg];refine pC hj ?_;simp[-cB];refine⟨by omega,?_⟩;apply aq0;simp[lf,aqp,ea]
    ·have dW:∀s∈([A,B,(⟨#[89,111,117,32,115,101,101,32]⟩++C++⟨#[46]⟩)]:List ByteArray),s.size<=1000000:=by intro s hs;simp at hs;rcases hs with rfl|rfl|rfl<;>(try rw[apw,apw])<;>omega
     have hj:=B9 [A,B,(⟨#[89,111,117,32,115,101,101,32]⟩++C++⟨#[46]⟩)] ⟨#[10]⟩ (by decide) dW (by simp);have hz:(lf [A,B,(⟨#[89,111,117,32,115,101,101,32]⟩++C++⟨#[46]⟩)] ⟨#[10]⟩ 3).size<=1001000 *3:=rq [A,B,(⟨#[89,111,117,32,115,101,101,32]⟩++C++⟨#[46]⟩)] ⟨#[10]⟩ (by decide) dW 3;refine rn func81 ?_;simp[-cB,f81];intro bs;refine pC sT ?_;simp[-cB];refine pC hh ?_;simp[-cB];refine pC ht ?_;simp[-cB];refine⟨⟨h0,au⟩,?_⟩;simp[jC,hx];refine pC htx ?_;simp[-cB];refine pC mj ?_;simp[hl];intro _;refine pC So ?_;simp[-cB];refine⟨by omega,by omega,?_⟩;refine ay.weaken (Wk.freeze 17 (ty:=9) (k:=1) (ys:=iB [A,B,(⟨#[89,111,117,32,115,101,101,32]⟩++C++⟨#[46]⟩)]) (by rfl)) ?_;simp[-cB,V.fg];refine pC hj ?_;simp[-cB];refine⟨by omega,?_⟩;apply aq0;simp[lf,aqp,ea]
set_option maxHeartbeats 200000
set_option maxRecDepth 512
section
variable {c : XC} {d loc : Int}
def StT(c:XC)(d loc:Int)(x:an):Prop:=∀σ,Iv c σ->σ.Dp=d->(σ.Ls.length:Int)=loc->Af c 0 σ (λg=>jy c g σ x)
def Mv(c:XC)(d loc:Int)(l:List an):Prop:=∀σ,Iv c σ->σ.Dp=d->(σ.Ls.length:Int)=loc->Af c 0 σ (λg=>dY c g σ l)
theorem zN:∀l,(∀s∈l,StT c d loc s)->Mv c d loc l
 | [],_,σ,hi,_,_=>⟨1,σ,.bO 0,by rfl,hi.rl (by omega)⟩
 | x::l,h,σ,hi,hd,hl=>by
   have hi0:=hi.out;obtain⟨g1,aR,o1,h1,r1⟩:=h x (by simp) σ hi hd hl;cases o1 with
   | bO n=>
     obtain⟨g2,cj,o2,h2,r2⟩:=zN l (λs hs=>h s (by grind)) aR (r1.iv hi (by omega)) (by rw[r1.dp];exact hd) (by rw[r1.ls];exact hl);have e1:=WI (aqo g1 g2) h1;have e2:=pA (aqh g1 g2) h2;exact⟨max g1 g2+1,cj,o2,by simp_all[dY],r1.trans r2 (by omega)⟩
   | bH u=>exact⟨g1+1,aR,.bH u,by simp_all[dY],r1⟩
   | over=>exact⟨g1+1,aR,.over,by simp_all[dY],r1⟩
   | ret u=>exact⟨g1+1,aR,.ret u,by simp_all[dY],r1⟩
theorem aao(hM:c.M<=1000000){x e}(hx:x.aF=[e])(he:WV c d loc e)(hb:Mv c d loc x.Body):∀(k:Nat) σ,max c.M 0-σ.Fuel<k->Iv c σ->σ.Dp=d->(σ.Ls.length:Int)=loc->Af c 0 σ (λg=>gu c g σ x):=by
 intro k
 induction k with
 | zero=>intro σ hk hi;have:=hi.f2;omega
 | succ k ih=>
   intro σ hk hi hd hl;have hi0:=hi.out;rcases HD hM hi with⟨qN,yh,r0,yX⟩|yh
   ·have i0:=r0.iv hi (by omega);obtain⟨g1,aR,o1,h1,r1⟩:=he qN i0 (by rw[r0.dp];exact hd) (by rw[r0.ls];exact hl);have h1:dR c g1 qN e=some (aR,o1):=h1;have HG:Rl c 0 σ aR:=r0.trans r1 (by omega);cases o1 with
    | bO n=>
      by_cases hn:n=0
      ·refine⟨g1+1,aR,.bO 0,?_,HG⟩;simp_all[gu,if_pos]
      ·have i1:=r1.iv i0 (by have:=i0.out;omega);obtain⟨g2,cj,o2,h2,r2⟩:=hb aR i1 (by rw[HG.dp];exact hd) (by rw[HG.ls];exact hl);have vc:Rl c 0 σ cj:=HG.trans r2 (by omega);cases o2 with
       | bO m=>
         have i2:=r2.iv i1 (by have:=i1.out;omega);obtain⟨g3,zM,o3,h3,r3⟩:=ih cj (by have h4:=r1.f1;have h5:=r2.f1;omega) i2 (by rw[vc.dp];exact hd) (by rw[vc.ls];exact hl);have e1:=qJ (g':=max (max g1 g2) g3) (by omega) h1;have e2:=pA (g':=max (max g1 g2) g3) (by omega) h2;have e3:=Se (g':=max (max g1 g2) g3) (by omega) h3;refine⟨max (max g1 g2) g3+1,zM,o3,?_,vc.trans r3 (by omega)⟩;simp_all[gu,max,if_neg]
       | bH u=>
         have e1:=qJ (aqo g1 g2) h1;have e2:=pA (aqh g1 g2) h2;refine⟨max g1 g2+1,cj,.bH u,?_,vc⟩;simp_all[gu,max,if_neg]
       | over=>
         have e1:=qJ (aqo g1 g2) h1;have e2:=pA (aqh g1 g2) h2;refine⟨max g1 g2+1,cj,.over,?_,vc⟩;simp_all[gu,max,if_neg]
       | ret u=>
         have e1:=qJ (aqo g1 g2) h1;have e2:=pA (aqh g1 g2) h2;refine⟨max g1 g2+1,cj,.ret u,?_,vc⟩;simp_all[gu,max,if_neg]
    | bH u=>
      refine⟨g1+1,aR,.bH u,?_,HG⟩;simp_all[gu]
    | over=>
      refine⟨g1+1,aR,.over,?_,HG⟩;simp_all[gu]
    | ret u=>
      refine⟨g1+1,aR,.ret u,?_,HG⟩;simp_all[gu]
   ·refine⟨1,σ,.bH 19,?_,hi.rl (by omega)⟩;simp_all[gu]
theorem acG(hB:jI c.B)(hM:c.M<=1000000){x}(hx:0<=x.aK/\x.aK+1<loc)(W0:loc<=1000)(hb:Mv c d loc x.Body):∀(k:Nat) σ,max c.M 0-σ.Fuel<k->Iv c σ->σ.Dp=d->(σ.Ls.length:Int)=loc->Af c 0 σ (λg=>fj c g σ x):=by
 intro k
 induction k with
 | zero=>intro σ hk hi;have:=hi.f2;omega
 | succ k ih=>
   intro σ hk hi hd hl;have hi0:=hi.out;have hg:fM σ.Ls x.aK/\fM σ.Ls (x.aK+1)/\x.aK<=1000000/\okW c σ.W=true:=⟨⟨hx.1,by omega⟩,⟨by omega,by omega⟩,by omega,hi.w⟩
   by_cases h0:aB σ.Ls x.aK=0
   ·refine⟨1,σ,.bO 0,?_,hi.rl (by omega)⟩;show fj c 1 σ x=_;rw[fj,if_pos hg,if_pos h0]
   rcases HD hM hi with⟨qN,yh,r0,yX⟩|yh
   ·have i0:=r0.iv hi (by omega);by_cases ht:(dh qN.W 3 (aB qN.Ls x.aK)).2≠0
    ·refine⟨1,qN,.bH (dh qN.W 3 (aB qN.Ls x.aK)).2,?_,r0.trans (i0.rl (k:=0) (by omega)) (by omega)⟩;show fj c 1 σ x=_;rw[fj,if_pos hg,if_neg h0,yh];grind
    ·obtain⟨g2,cj,o2,h2,r2⟩:=hb {qN with Ls:=qN.Ls.set (x.aK+1).toNat (dh qN.W 3 (aB qN.Ls x.aK)).1} ⟨i0.w,i0.d0,i0.f0,i0.f2,i0.out⟩ (by show qN.Dp=d;rw[r0.dp];exact hd) (by show((qN.Ls.set _ _).length:Int)=loc;rw[aqN,r0.ls];exact hl);have q:Rl c 0 qN cj:=⟨r2.w,by rw[r2.ls];simp,r2.dp,r2.f1,r2.f2,r2.out⟩
     have vc:Rl c 0 σ cj:=r0.trans q (by omega);cases o2 with
     | bO m=>
       have i2:=q.iv i0 (by have:=i0.out;omega);obtain⟨g3,zM,o3,h3,r3⟩:=ih {cj with Ls:=cj.Ls.set x.aK.toNat (aB cj.Ls (x.aK+1))} (by show max c.M 0-cj.Fuel<k;have h5:=q.f1;omega) ⟨i2.w,i2.d0,i2.f0,i2.f2,i2.out⟩ (by show cj.Dp=d;rw[vc.dp];exact hd) (by show((cj.Ls.set _ _).length:Int)=loc;rw[aqN,vc.ls];exact hl);have q3:Rl c 0 cj zM:=⟨r3.w,by rw[r3.ls];simp,r3.dp,r3.f1,r3.f2,r3.out⟩
       have e2:=pA (aqo g2 g3) h2;have e3:=WK (aqh g2 g3) h3;refine⟨max g2 g3+1,zM,o3,?_,vc.trans q3 (by omega)⟩;show fj c (max g2 g3+1) σ x=_;rw[fj,if_pos hg,if_neg h0,yh];grind
     | bH u=>
       refine⟨g2+1,cj,.bH u,?_,vc⟩;show fj c (g2+1) σ x=_;rw[fj,if_pos hg,if_neg h0,yh];grind
     | over=>
       refine⟨g2+1,cj,.over,?_,vc⟩;show fj c (g2+1) σ x=_;rw[fj,if_pos hg,if_neg h0,yh];grind
     | ret u=>
       refine⟨g2+1,cj,.ret u,?_,vc⟩;show fj c (g2+1) σ x=_;rw[fj,if_pos hg,if_neg h0,yh];grind
   ·refine⟨1,σ,.bH 19,?_,hi.rl (by omega)⟩;show fj c 1 σ x=_;rw[fj,if_pos hg,if_neg h0,yh]
theorem JF{t loc l}(h:iq t loc l=true):l.length<=256/\∀s∈l,eJ t loc s=true:=by
 simp_all[iq,np]
theorem Gy{t loc x}(h:eJ t loc x=true):x.Body.length<=256/\x.bW.length<=256:=by
 rw[zG]at h;grind[JF]
theorem acH(hB:jI c.B)(hM:c.M≤1000000)(W0:loc≤1000){x}(Co:eJ c.B.Tables loc x=true)(hb:Mv c d loc x.Body)(he:Mv c d loc x.bW)(h1:x.Kind≠1)(eu:x.Kind≠10){a}(nv:a.length=x.aF.length)(haw:∀n∈a,ar n=n)
  σ (hi:Iv c σ) (ho:(σ.Out.size:Int)+150000<=1300000 *σ.Fuel) (hd:σ.Dp=d) (hl:(σ.Ls.length:Int)=loc):Af c 150000 σ (λg=>ib c g σ x a):=by
 obtain⟨hs,yH,-,-,-,-⟩:=rm Co;obtain⟨tV,sZ⟩:=Gy Co;obtain⟨t2,t11,-,-,-⟩:=Mg yH;have hsa:=yJ hs;have hW:=Jx hB.fits hi.w;by_cases yV:x.Kind=2\/x.Kind=3
 ·have hg:0<a.length/\fM σ.Ls x.aK:=⟨by omega,⟨(t2 yV).1,by omega⟩⟩
  refine⟨1,{σ with Ls:=σ.Ls.set x.aK.toNat (aB a 0)},.bO 0,by simp_all[ib,if_pos],⟨hi.w,aqN,rfl,ap4 _,hi.f2,?_⟩⟩;grind
 by_cases h9:x.Kind=9
 ·have hg:0<a.length/\zy x.Body/\zy x.bW:=⟨by omega,by omega,by omega⟩
  have tV:Mv c d loc (if aB a 0≠0 then x.Body else x.bW):=by grind
  obtain⟨g,σ',o,h2,r2⟩:=tV σ hi hd hl;exact⟨g+1,σ',o,by simp_all[ib,if_neg,if_pos],r2.trans ((r2.iv hi (by omega)).rl (k:=0) (by omega)) (by omega)⟩
 by_cases jP:x.Kind=11
 ·have hn:=t11 jP;have hg:0<a.length/\okW c σ.W=true/\fM σ.Ls x.aK/\zy x.Body:=⟨by omega,hi.w,⟨hn.1,by omega⟩,by omega⟩
  by_cases ht:(dh σ.W 2 (aB a 0)).2≠0
  ·exact⟨1,σ,.bH (dh σ.W 2 (aB a 0)).2,by show ib c 1 σ x a=_;rw[ib,if_neg yV,if_neg h9,if_pos jP,if_pos hg,if_pos ht],hi.rl (by omega)⟩
  ·obtain⟨g,σ',o,h2,r2⟩:=acG hB hM hn W0 hb ((max c.M 0-σ.Fuel).toNat+1) {σ with Ls:=σ.Ls.set x.aK.toNat (dh σ.W 2 (aB a 0)).1} (by grind) ⟨hi.w,hi.d0,hi.f0,hi.f2,hi.out⟩ hd (by grind);have q:Rl c 0 σ σ':=⟨r2.w,by rw[r2.ls];simp,r2.dp,r2.f1,r2.f2,r2.out⟩
   exact⟨g+1,σ',o,by show ib c (g+1) σ x a=_;rw[ib,if_neg yV,if_neg h9,if_pos jP,if_pos hg,if_neg ht];exact h2,q.trans ((q.iv hi (by omega)).rl (k:=0) (by omega)) (by omega)⟩
 by_cases oO:x.Kind=12
 ·have hg:0<a.length:=by omega
  exact⟨1,σ,.ret (aB a 0),by simp_all[ib,if_neg,if_pos],hi.rl (by omega)⟩
 have FD:∀g,ib c (g+1) σ x a=Kp c σ x.Kind x.aK a:=by
  simp_all[ib,if_neg]
 by_cases Ar:x.Kind=21
 ·obtain⟨σ',o,h2,r2⟩:=AU (s:=wU c.B.Tables σ.W) hM hi (WT hB.fits hW);exact⟨1,σ',o,by show ib c 1 σ x a=_;rw[FD,Kp,if_pos Ar,if_pos hi.w];exact h2,r2⟩
 by_cases Cg:x.Kind=22
 ·have hg:okW c σ.W=true/\0<a.length:=⟨hi.w,by omega⟩
  obtain⟨σ',o,h2,r2⟩:=AU (s:=sw c.B.Tables σ.W (aB a 0)) hM hi (apR (xa hB.fits hW _) (by omega));exact⟨1,σ',o,by simp_all[ib,Kp,if_neg,if_pos],r2⟩
 obtain⟨w',o,Cu,I8⟩:=acB (a:=a) hB hi.w hs yH ⟨h1,by omega,by omega,h9,eu,jP,oO,Ar,Cg⟩ nv haw;refine⟨1,{σ with W:=w'},o,by simp_all[ib,Kp,if_neg],⟨I8,rfl,rfl,ap4 _,hi.f2,?_⟩⟩;grind
theorem aap{x}(h:(jH x).1=true):x.aF.length<=8/\(x.Kind=10->x.aF.length=1):=by
 rcases yJ h with h1|⟨h,ha⟩|⟨h,ha⟩|⟨h,ha⟩
 ·unfold jH at h;rw[if_pos h1,apb]at h;have:=h.2;unfold eF at this;grind
 ·omega
 ·omega
 ·omega
theorem acI(hB:jI c.B)(hM:c.M<=1000000)(W0:loc<=1000)(hc:Jz c d):∀n x,SizeOf.sizeOf x<n->eJ c.B.Tables loc x=true->StT c d loc x:=by
 intro n
 induction n with
 | zero=>simp
 | succ n ih=>
   intro x hn hb σ hi hd hl;have hi0:=hi.out;obtain⟨hs,yH,Ma,km,rI,_⟩:=rm hb;obtain⟨tV,sZ⟩:=Gy hb;obtain⟨sl,s10⟩:=aap hs;have hB1:Mv c d loc x.Body:=zN _ λs h=>ih s (by have h1:=apP h;grind[an.rf]) (km s h)
   have hB2:Mv c d loc x.bW:=zN _ λs h=>ih s (by have h1:=apP h;grind[an.rh]) (rI s h)
   by_cases eu:x.Kind=10
   ·obtain⟨e,he⟩:=Es (s10 eu);have rI:=Ma e (by grind);rw[decide_eq_false (by omega)]at rI;obtain⟨g,σ',o,h2,r2⟩:=aao hM he (Fw hB hc _ e (aps _) rI) hB1 ((max c.M 0-σ.Fuel).toNat+1) σ (by omega) hi hd hl;exact⟨g+1,σ',o,by show jy c (g+1) σ x=_;rw[jy,if_pos eu,if_pos (by omega)];exact h2,r2⟩
   rcases HD hM hi with⟨qN,yh,r0,yX⟩|yh
   ·have i0:=r0.iv hi (by omega);have FD:qN.Dp=d:=by rw[r0.dp];exact hd
    have Nv:(qN.Ls.length:Int)=loc:=by rw[r0.ls];exact hl
    have ae2:(qN.Out.size:Int)+1300000<=1300000 *qN.Fuel:=by have:=r0.out;omega
    have Yd:zy x.aF:=by omega
    by_cases h1:x.Kind=1
    ·obtain⟨g,σ',o,h2,r2⟩:=Qu hB hM hc x.aF (λe he=>by grind) qN i0 (by omega) FD Nv;exact⟨g+1,σ',o,by simp_all[jy,if_neg,if_pos],r0.trans r2 (by omega)⟩
    ·have WQ:∀e∈x.aF,cT c.B.Tables loc e false=true:=λe he=>by grind
     obtain⟨g1,aR,o1,h2,r1⟩:=HE x.aF (λe he=>Fw hB hc _ e (aps _) (WQ e he)) qN i0 FD Nv;have nD:Rl c (-1300000) σ aR:=r0.trans r1 (by omega);rcases o1 with a|o
     ·have WW:a.length=x.aF.length:=((KF hB g1).asks qN x.aF aR (.inl a) h2 loc WQ).2.2.1 a rfl;have i1:=r1.iv i0 (by omega);obtain⟨g2,cj,o2,h3,r2⟩:=acH hB hM W0 hb hB1 hB2 h1 eu WW (Eu h2) aR i1 (by have:=r1.out;omega) (by rw[r1.dp];omega) (by rw[r1.ls];omega);have e1:=B0 (aqo g1 g2) h2;have e2:=WM (aqh g1 g2) h3;exact⟨max g1 g2+1,cj,o2,by simp_all[jy,max,if_neg],nD.trans r2 (by omega)⟩
     ·exact⟨g1+1,aR,o,by simp_all[jy,if_neg],nD.trans ((r1.iv i0 (by omega)).rl (k:=0) (by omega)) (by omega)⟩
   ·refine⟨1,σ,.bH 19,?_,hi.rl (by omega)⟩;simp_all[jy,if_neg]
end
theorem acJ{c}(hB:jI c.B)(hM:c.M<=1000000):∀(n:Nat) (d:Int),32-d<n->Jz c d:=by
 intro n
 induction n with
 | zero=>
   intro d hn σ r a hi hd hr ha;have:=hi.d0;omega
 | succ n ih=>
   intro d hn σ r a hi hd hr ha;have FD:=hi.d0;by_cases fL:32<=σ.Dp
   ·refine⟨1,σ,.bH 17,?_,hi.rl (by omega)⟩;simp_all[jh,if_neg,if_pos]
   ·have hc:=ih (d+1) (by omega);have dc:=lh hB.fits;have H6:0<=r/\r<c.B.Tables.Params.length:=⟨hr.1,by have:=hB.len;omega⟩
    have fv:=(oh hB.fits).2.1 r H6.1 H6.2;obtain⟨tV,Co⟩:=JF (hB.bnd r hr);have hbt:=zN _ λs hs=>acI hB hM (by omega) hc _ s (aps _) (Co s hs)
    obtain⟨g,σ',o,h2,r2⟩:=hbt {σ with Dp:=σ.Dp+1,Ls:=a.map ar++List.replicate ((aB c.B.Tables.aL r).toNat-a.length) 0} ⟨hi.w,by grind,hi.f0,hi.f2,hi.out⟩ (by grind) (by grind);have h2:dY c g {σ with Dp:=σ.Dp+1,Ls:=a.map ar++List.replicate ((aB c.B.Tables.aL r).toNat-a.length) 0} (c.B.aO[r.toNat]?.getD [])=some (σ',o):=h2;have hg:fM c.B.Tables.aL r/\fM c.B.aO r/\(a.length:Int)<=aB c.B.Tables.aL r/\aB c.B.Tables.aL r<=1000/\zy (c.B.aO[r.toNat]?.getD []):=⟨⟨hr.1,by omega⟩,hr,ha,by omega,by omega⟩
    have key:∃o',jh c (g+1) σ r a=some ({σ' with Dp:=σ'.Dp-1,Ls:=σ.Ls},o'):=by
     rw[jh,if_neg (by omega),if_neg fL,if_pos hg,h2];simp
    obtain⟨o',iC⟩:=key;refine⟨g+1,_,o',iC,⟨r2.w,rfl,?_,r2.f1,r2.f2,r2.out⟩⟩;show σ'.Dp-1=σ.Dp;have:σ'.Dp=σ.Dp+1:=r2.dp;omega
theorem adO{c}(hB:jI c.B)(hM:c.M<=1000000){w}(hw:okW c w=true){r a}(hr:fM c.B.aO r)(ha:(a.length:Int)<=aB c.B.Tables.aL r):Af c 0 ⟨w,⟨#[]⟩,false,0,0,[]⟩ (λg=>jh c g ⟨w,⟨#[]⟩,false,0,0,[]⟩ r a):=
 acJ hB hM 33 0 (by omega) _ r a ⟨hw,⟨ap4 0,by simp⟩,ap4 _,by grind,by show((ByteArray.mk #[]).size:Int)<=1300000 *0;decide⟩ rfl hr ha
theorem ads(b:cM):∀(n i:Nat),i<n->(stM b n).1[i]?=some ((stM b i).2.length:Int)/\∃post,(stM b n).2=(stM b i).2++((ld b i).1++post)
 | 0,i,h=>by omega
 | n+1,i,h=>by
   have hl:∀k,(stM b k).1.length=k:=by
    intro k
    induction k with
    | zero=>rfl
    | succ k ih=>rw[stM];simp[ih]
   rw[stM];by_cases e:i=n
   ·subst e;refine⟨?_,[],by simp⟩;simp only;rw[ap6 (by rw[hl];exact api _),hl];simp
   ·obtain⟨h1,post,h2⟩:=ads b n i (by omega);refine⟨?_,post++(ld b n).1,?_⟩
    ·simp only;rw[apQ (by rw[hl];omega)];exact h1
    ·simp only;rw[h2];simp
theorem Gz{b:cM}:∀(n i:Nat),qH b n i=0->∀k:Nat,i<=k->k<i+n->(ld b k).2=0
 | 0,i,_,k,h1,h2=>by omega
 | n+1,i,h,k,h1,h2=>by
   rw[qH]at h;split at h
   ·rename_i h0;by_cases e:k=i
    ·rw[e];exact h0
    ·exact Gz n (i+1) h k (by omega) (by omega)
   ·rename_i h0;exact absurd h h0
theorem Bb{b:cM}{s:al}(h:fu b=(s,0)):fE b=true/\s.Tables=b.Tables/\s.Entry.length=b.aO.length/\s.Code.length<=65536/\Laid s (λf=>gv (cK b f)):=by
 unfold fu at h;split at h
 ·simp at h
 ·rename_i hr;split at h
  ·rename_i he;simp only[ao7]at h;exact absurd h.2 he
  ·rename_i he;split at h
   ·simp at h
   ·rename_i hL;simp only[ao7,and_true]at h;subst h;have hl:∀k,(stM b k).1.length=k:=by
     intro k
     induction k with
     | zero=>rfl
     | succ k ih=>rw[stM];simp[ih]
    refine⟨by simpa using hr,rfl,hl _,by simp only;omega,λf hf=>?_⟩;have hZ:0<=f/\f<b.aO.length:=by
     by_cases cp:fM b.aO f
     ·exact cp
     ·exact absurd (by show gv (cK b f)=[];unfold cK;rw[if_neg cp];rfl) hf
    obtain⟨k,rfl⟩:∃k:Nat,f=k:=⟨f.toNat,by omega⟩
    have hk:k<b.aO.length:=by omega
    have h0:=Gz _ _ (by simpa using he) k (by omega) (by omega);have vC:ld b k=pH (gv (cK b k)):=by unfold ld;rw[if_neg (by omega)]
    rw[vC]at h0;obtain⟨z,h1,h2,h3,h4⟩:=Py (l:=gv (cK b k)) (c:=(pH (gv (cK b k))).1) (by rw[<-h0]);obtain⟨e1,post,e2⟩:=ads b b.aO.length k hk;rw[vC,h3]at e2;refine⟨⟨by omega,by show(k:Int)<((stM b b.aO.length).1.length:Int);rw[hl];omega⟩,z,(stM b k).2,h1,h2,⟨post,e2⟩,?_⟩;unfold aB;simp only[arB];rw[e1];rfl
theorem CY{b:cM}(h:fE b=true):jI b:=by
 unfold fE at h;simp only[apb,decide_eq_true_eq,apd]at h;obtain⟨⟨h1,h2⟩,h3⟩:=h;refine⟨h1,h2,λr hr=>?_⟩;obtain⟨k,rfl⟩:∃k:Nat,r=k:=⟨r.toNat,by have:=hr.1;omega⟩
 have hk:k<b.aO.length:=by have:=hr.2;omega
 have hg:=h3 k (by simpa using hk);unfold wZ at hg;simp only[apb]at hg;have:=hg.1.1.2;unfold aB;simp only[arB];exact this
theorem GQ(a:List Int)(n:Nat)(h:a.length<=n):sA a n=a.map ar++List.replicate (n-a.length) 0:=by
 refine List.ext_getElem? λi=>?_
 show((List.range n).map λi=>if i<a.length then ar (a[i]?.getD 0)else 0)[i]?=_;rw[apc];by_cases hi:i<n
 ·rw[aqG hi];by_cases hA:i<a.length
  ·rw[apQ (by simpa using hA),apc,akC hA];simp[hA]
  ·rw[ap6 (by simpa using hA),apx,List.getElem?_replicate];simp[hA];omega
 ·rw[apT (by simp;omega),apT (by simp;omega)];rfl
def ac0(s:al)(b:cM)(w:aj)(r:Int)(a:List Int)(env:dx):ae:=gL env [] r (aB s.Entry r) [] (a.map ar++List.replicate ((aB b.Tables.aL r).toNat-a.length) 0) [] ⟨w,⟨#[]⟩,0⟩
def acZ(env:dx)(m':ae)(σ':XS):OC->Prop
 | .bO v=>m'=⟨[],[],env,⟨0,σ'.W,σ'.Out,v,false,σ'.Fuel⟩,true⟩
 | .bH e=>m'.de=true/\m'.Env=env/\∃W,m'.Told=⟨e,W,σ'.Out,0,false,σ'.Fuel⟩
 | .over=>m'.de=true/\m'.Env=env/\m'.Told=⟨0,σ'.W,σ'.Out,0,true,σ'.Fuel⟩
 | .ret _=>False
theorem N2{b:cM}{s:al}(hs:fu b=(s,0)){env:dx}{M:Int}{w:aj}{r:Int}{a:List Int}{g:Nat}{σ':XS}{o:OC}(hc:jh ⟨b,env,M⟩ g ⟨w,⟨#[]⟩,false,0,0,[]⟩ r a=some (σ',o))(hr:fM b.aO r):
  ∃n m',iterM (bN ⟨b,env,M⟩) s n (ac0 s b w r a env)=some m'/\acZ env m' σ' o:=by
 obtain⟨uG,hT,hE,hC,Na⟩:=Bb hs;have hB:=CY uG;obtain⟨y,hy,g1,k1,h1⟩:=aeS (c:=⟨b,env,M⟩) hB hc rfl;have bR:cK b r≠ []:=by unfold cK;rw[if_pos hr];simp
 obtain⟨g2,k2,-,h2⟩:=abN (ZI ⟨b,env,M⟩) (cK b) (Gu b) b.aO.length (λf hf=>by
  by_cases cp:fM b.aO f
  ·exact cp
  ·exact absurd (by unfold cK;rw[if_neg cp]) hf) r 1 [] _ _ g1 y k1 h1
 have akc:gv (cK b r)≠ []:=by
  intro e;obtain⟨g',YJ⟩:=nO h2;simp only at h2;rw[e,YJ,run]at h2;cases h2
 obtain⟨cp,z,pre,hz,dS⟩:=Na r akc;simp only at hz;have lG:run (bN ⟨b,env,M⟩) (λf=>gv (cK b f)) g2 1 (z.map Prod.fst) (z.map Prod.fst) [] ((bN ⟨b,env,M⟩).lo r a) ⟨w,⟨#[]⟩,0⟩=some (y,k2):=by
  rw[hz];exact h2
 obtain⟨m',h3,h4⟩:=Y8 Na env g2 1 [] _ _ y k2 r z [] z pre [] [] lG dS rfl rfl;rw[show(pre.length:Int)+aW []=aB s.Entry r by rw[dS.2.2];simp[aW]]at h3;refine⟨k2,m',h3,?_⟩;cases o with
 | bO v=>simp only[Qt,anc]at hy;subst hy;simp only[DZ,if_true]at h4;exact h4
 | bH e=>simp only[Qt,anc]at hy;subst hy;exact h4
 | over=>simp only[Qt,anc]at hy;subst hy;exact h4
 | ret n=>simp[Qt]at hy
theorem wG{K:eX}{s:al}{m:ae}(h:m.de=true):∀n,iterM K s n m=some m
 | 0=>rfl
 | n+1=>by rw[iterM,gN,if_pos h];exact wG h n
theorem UK{K:eX}{s:al}{m m':ae}{n:Nat}(h:iterM K s n m=some m')(hd:m'.de=true)(i:Nat):∃mi,iterM K s i m=some mi:=by
 rcases Nat.le_total i n with hle|bm
 ·have:=s8 K s i (n-i) m;rw[show i+(n-i)=n by omega,h]at this;cases hi:iterM K s i m with
  | none=>rw[hi]at this;cases this
  | some mi=>exact⟨mi,rfl⟩
 ·refine⟨m',?_⟩;rw[show i=n+(i-n) by omega,s8,h];exact wG hd _
def yM(c:XC)(S L:List Int)(σ:MS):Ev->Prop
 | .ok S' L' σ'=>(σ.Fuel<=σ'.Fuel/\σ'.Fuel<=σ.Fuel+1/\σ'.Fuel<=max σ.Fuel c.M)/\σ.Out.size<=σ'.Out.size/\(WL S->WL S')/\S'.length<=S.length+1/\L'.length=L.length
 | .over σ'=>σ'.Fuel=σ.Fuel/\σ'.Out=σ.Out
 | .bH _=>True
theorem WL.cons{v:Int}{l:List Int}(h:ar v=v)(hl:WL l):WL (v::l):=by
 intro n hn;rcases apq.1 hn with rfl|hn
 ·exact h
 ·exact hl n hn
theorem WL.tail{v:Int}{l:List Int}(h:WL (v::l)):WL l:=λn hn=>h n (by simp[hn])
theorem yM.mk{c:XC}{S S' L L':List Int}{σ:MS}(h1:WL S->WL S')(h2:S'.length<=S.length+1)(h3:L'.length=L.length){w:aj}:yM c S L σ (.ok S' L' {σ with W:=w}):=⟨⟨ap4 _,by show σ.Fuel<=σ.Fuel+1;omega,by show σ.Fuel<=_;omega⟩,api _,h1,h2,h3⟩
theorem EB{c:XC}{v:Bool}{S S0 L:List Int}{σ:MS}{p:Option (aj×OC)}{e:Ev}(h:iS v S0 L σ p=some e)(h1:WL S->WL S0)(h2:S0.length<=S.length):yM c S L σ e:=by
 unfold iS at h;split at h
 ·rename_i w n;cases h;refine yM.mk (λhs=>?_) ?_ rfl
  ·split
   ·exact(h1 hs).cons (wrap_wrap n)
   ·exact h1 hs
  ·split
   ·simp only[apj];omega
   ·omega
 ·cases h;trivial
 ·cases h;exact⟨rfl,rfl⟩
 ·cases h
theorem EC{c:XC}{S S0 L:List Int}{σ:MS}{t:ByteArray}{e:Ev}(h:yU S0 L σ t=some e)(h1:WL S->WL S0)(h2:S0.length<=S.length):yM c S L σ e:=by
 unfold yU at h;split at h
 ·cases h;refine⟨⟨ap4 _,by show σ.Fuel<=σ.Fuel+1;omega,by show σ.Fuel<=_;omega⟩,?_,h1,by omega,rfl⟩;show σ.Out.size<=(σ.Out++t).size;rw[apw];omega
 ·cases h
theorem agr{c:XC}{S S0 L:List Int}{σ:MS}{p:Int×Int}(h1:WL S->WL S0)(h2:S0.length<=S.length):yM c S L σ (FM S0 L σ p):=by
 unfold FM;split
 ·exact yM.mk (w:=σ.W) (λhs=>(h1 hs).cons (wrap_wrap _)) (by simp only[apj];omega) rfl
 ·trivial
theorem instJ_ok{c:XC}{i:ai}{S L:List Int}{σ:MS}{e:Ev}(h:instJ c i S L σ=some e):yM c S L σ e:=by
 have QB:∀{S' L':List Int},some (Ev.ok S' L' σ)=some e->(WL S->WL S')->S'.length<=S.length+1->L'.length=L.length->yM c S L σ e:=by
  intro S' L' he h1 h2 h3;simp only[anc]at he;rw[<-he];exact yM.mk (w:=σ.W) h1 h2 h3
 unfold instJ at h;by_cases h1:i.Op=1
 ·rw[if_pos h1]at h;exact QB h (λhs=>hs.cons (wrap_wrap _)) (by simp) rfl
 rw[if_neg h1]at h;by_cases Cf:i.Op=37
 ·rw[if_pos Cf]at h;split at h
  ·split at h
   ·cases h;trivial
   ·cases h;exact⟨⟨by show σ.Fuel<=σ.Fuel+1;omega,ap4 _,by show σ.Fuel+1<=_;omega⟩,api _,id,Nat.le_succ _,rfl⟩
  ·cases h
 rw[if_neg Cf]at h;by_cases h5:i.Op=5
 ·rw[if_pos h5]at h;split at h
  ·exact QB h (λhs=>hs.cons (wrap_wrap _)) (by simp) rfl
  ·cases h
 rw[if_neg h5]at h;by_cases Ar:i.Op=21
 ·rw[if_pos Ar]at h;exact EC h id (api _)
 rw[if_neg Ar]at h;by_cases FK:i.Op=35
 ·rw[if_pos FK]at h;split at h
  ·exact EC h id (api _)
  ·cases h
 rw[if_neg FK]at h;by_cases h0:dI i.Op=0
 ·rw[if_pos h0]at h;split at h
  ·exact EB h id (api _)
  ·split at h
   ·exact EB h id (api _)
   ·cases h
 rw[if_neg h0]at h;cases S with
 | nil=>cases h
 | cons v S=>
   simp only at h;have ht:WL (v::S)->WL S:=WL.tail;have hl:S.length<=(v::S).length:=by simp
   by_cases h2:i.Op=2
   ·rw[if_pos h2]at h;exact QB h ht (by simp only[apj];omega) rfl
   rw[if_neg h2]at h;by_cases h6:i.Op=6
   ·rw[if_pos h6]at h;split at h
    ·exact QB h ht (by simp only[apj];omega) (by simp)
    ·cases h
   rw[if_neg h6]at h;by_cases h9:i.Op=9
   ·rw[if_pos h9]at h;exact QB h (λhs=>(ht hs).cons (wrap_wrap _)) (by simp) rfl
   rw[if_neg h9]at h;by_cases eu:i.Op=10
   ·rw[if_pos eu]at h;exact QB h (λhs=>(ht hs).cons (by unfold notM;first|exact mX _|(split<;>decide))) (by simp) rfl
   rw[if_neg eu]at h;by_cases jP:i.Op=11
   ·rw[if_pos jP]at h;exact QB h (λhs=>(ht hs).cons (mX _)) (by simp) rfl
   rw[if_neg jP]at h;by_cases Cg:i.Op=22
   ·rw[if_pos Cg]at h;exact EC h ht hl
   rw[if_neg Cg]at h;by_cases yV:i.Op=23
   ·rw[if_pos yV]at h;exact EC h ht hl
   rw[if_neg yV]at h;by_cases FL:i.Op=36
   ·rw[if_pos FL]at h;split at h
    ·exact EC h ht hl
    ·cases h
   rw[if_neg FL]at h;by_cases h8:i.Op=8
   ·rw[if_pos h8]at h;cases S with
    | nil=>cases h
    | cons u S=>
      simp only at h;split at h
      ·cases h
      ·simp only[anc]at h;rw[<-h];exact agr (λhs=>hs.tail.tail) (by simp only[apj];omega)
   rw[if_neg h8]at h;by_cases ags:dI i.Op=2
   ·rw[if_pos ags]at h;cases S with
    | nil=>cases h
    | cons u S=>
      simp only at h;split at h
      ·exact EB h (λhs=>hs.tail.tail) (by simp only[apj];omega)
      ·cases h
   rw[if_neg ags]at h;split at h
   ·exact EB h ht hl
   ·split at h
    ·exact EB h ht hl
    ·cases h
set_option maxHeartbeats 4000000
set_option maxRecDepth 8000
theorem yN{b:List Int}{k:Nat}{y:Int}(h:b[k]?=some y)(hl:k<(gk b).length):(gk b)[k]'hl=[.v (.int .u8 y)]:=by
 have:(gk b)[k]?=some [.v (.int .u8 y)]:=by unfold gk;rw[apc,h];rfl
 rw[akC hl]at this;exact ao9 this
abbrev zQ(x:ai×Int×Int):V:= .bA [.agg (x.1.enc.map .d),iD x.2.1,iD x.2.2]
theorem N0(b:List Int)(i:Int)(hb:∀y∈b,0<=y/\y<=255)(hl:b.length<=100000000000000):Pure prog 39 [.d (.sl (gk b)),iD i] (zQ (jL b i)):=by
 by_cases h0:i<0\/(b.length:Int)<=i
 ·have hv:jL b i=(⟨0,0⟩,0,2):=by unfold jL;rw[if_pos h0]
  rw[hv];by_cases h1:i<0
  ·refine rn func39 ?_;simp[-cB,f39];intro bs;simp[-cB,h1];rfl
  ·have h2:(b.length:Int)<=i:=by omega
   refine rn func39 ?_;simp[-cB,f39];intro bs;simp[-cB,h1,h2];rfl
 obtain⟨k,rfl⟩:∃k:Nat,i=k:=⟨i.toNat,by omega⟩
 have hk:k<b.length:=by omega
 have hx:=akC hk;have zK:=hb _ (apk hk);have hg:aB b k=b[k]:=by unfold aB;simp[hx]
 unfold jL;rw[if_neg h0,hg];generalize b[k]=x at *;have hq:x.tdiv 4=x / 4:=apW zK.1;have hr:x.tmod 4=x % 4:=apz zK.1;have oQ:∀R:ai×Int×Int,R=(if x / 4<1\/38<=x / 4\/x % 4=3\/(0<x % 4/\nj (x / 4)=false)then(⟨0,0⟩,0,16)
  else if(b.length:Int)-k-1<x % 4 then(⟨0,0⟩,0,2)
  else if x % 4≠(dC (nP b (k+1) (x % 4)):Int)/\x / 4≠24/\x / 4≠25 then(⟨0,0⟩,0,4)
  else(⟨x / 4,nP b (k+1) (x % 4)⟩,k+1+x % 4,0))->Pure prog 39 [.d (.sl (gk b)),iD k] (zQ R):=by
  intro R hR;have hh:=Hq (x / 4);have hk0:¬(k:Int)<0:=by omega
  have Zq:¬b.length<=k:=by omega
  have rF:(gk b)[k]'(by simpa using hk)=[.v (.int .u8 x)]:=by
   have:(gk b)[k]?=some [.v (.int .u8 x)]:=by unfold gk;rw[apc,hx];rfl
   rw[akC (by simpa using hk)]at this;exact ao9 this
  have YN:aM .i64 (x / 4):=iW;have Cv:aM .i64 x:=iW;have IQ:aM .i64 (x % 4):=iW;have Mw:IntKind.wrap .i64 x=x:=iX Cv;have Mx:IntKind.wrap .i64 (x / 4)=x / 4:=iX YN;have HH:aM .i64 ((b.length:Int)-k):=iW;have HI:aM .i64 ((b.length:Int)-k-1):=iW;have rP:aM .i64 ((k:Int)+1+1):=iW;have FX:aM .i64 ((k:Int)+2):=iW;have PA:aM .i64 ((k:Int)+1+2):=iW;have kj:aM .i64 ((k:Int)+1):=iW;refine rn func39 ?_;simp[-cB,f39];intro bs;simp[-cB,hk0,Zq];refine av.bT [] aS (by kernel_rfl) (by rfl) ?_;generalize hQ:x / 4=q at *;generalize hRm:x % 4=r at *;by_cases h1:q<1
  ·have e:R=(⟨0,0⟩,0,16):=by rw[hR,if_pos (.inl h1)]
   rw[e];simp[-cB,hk,hq,hr,rF,Cv,Mw,Mx,h1];refine pN (oD true) ?_;simp[-cB,h1];rfl
  by_cases h2:38<=q
  ·have e:R=(⟨0,0⟩,0,16):=by rw[hR,if_pos (.inr (.inl h2))]
   rw[e];simp[-cB,hk,hq,hr,rF,Cv,Mw,Mx,h1,h2];refine pN (oD true) ?_;simp[-cB,h1,h2];rfl
  by_cases h3:r=3
  ·have e:R=(⟨0,0⟩,0,16):=by rw[hR,if_pos (.inr (.inr (.inl h3)))]
   rw[e];simp[-cB,hk,hq,hr,rF,Cv,Mw,Mx,h1,h2,h3];refine pN (oD true) ?_;simp[-cB,h1,h2,h3];rfl
  by_cases h4:0<r
  ·by_cases h5:nj q=false
   ·have e:R=(⟨0,0⟩,0,16):=by rw[hR,if_pos (.inr (.inr (.inr ⟨h4,h5⟩)))]
    rw[h5]at hh;rw[e];simp[-cB,hk,hq,hr,rF,Cv,Mw,Mx,h1,h2,h3,h4];refine pG hh ?_;simp[-cB,h1,h2,h3,h4];rfl
   rw[Bool.not_eq_false]at h5;rw[h5]at hh;simp[-cB,hk,hq,hr,rF,Cv,Mw,Mx,h1,h2,h3,h4];refine pG hh ?_;have akd:r=1\/r=2:=by omega
   have hc4:¬(q<1\/38<=q\/r=3\/(0<r/\nj q=false)):=by simp[h1,h2,h3,h5]
   rw[if_neg hc4]at hR;by_cases h6:(b.length:Int)-k-1<r
   ·have e:R=(⟨0,0⟩,0,2):=by rw[hR,if_pos h6]
    rw[e];simp[-cB,h1,h2,h3,h4,HH,HI,h6];rfl
   rw[if_neg h6]at hR;rcases akd with rfl|rfl
   ·have HJ:k+1<b.length:=by omega
    obtain⟨y,hy⟩:∃y,b[k+1]?=some y:=⟨_,akC HJ⟩
    have ya:=hb y (ape hy);have TZ:=yN hy (by simpa using HJ);have O8:IntKind.wrap .i64 y=y:=iX iW;have acK:(0:Int)<=(k:Int)+1:=by omega
    have hyg:aB b ((k:Int)+1)=y:=by unfold aB;rw[show((k:Int)+1).toNat=k+1 by omega,hy];rfl
    simp only[nP,if_true,hyg]at hR;simp[-cB,h1,h2,h3,h4,HH,HI,h6];simp[-cB,kj,acK,HJ,TZ,O8];by_cases hs:128<=y
    ·rw[if_pos hs]at hR;have yj:aM .i64 (y-256):=iW;generalize hN:y-256=n at *;have QC:=um n;have ED:R=if((((1:Int) !=(dC n:Int))&&(q !=24))&&(q !=25))=true then(⟨0,0⟩,0,4)else((⟨q,n⟩:ai),((k:Int)+1+1,(0:Int))):=by
      rw[hR];simp[and_assoc]
     skip
     simp[-cB,hs,hN,yj];refine pC QC ?_;cases pL:((1:Int) !=(dC n:Int))<;>cases pK:(q !=24)<;>cases EE:(q !=25)
     all_goals rw[pL,pK,EE]at ED
     all_goals simp[-cB,pL,pK,EE,kj,rP]
     all_goals (rw[ED];first|rfl|exact⟨rfl,rfl,rfl⟩)
    ·rw[if_neg hs]at hR;have QC:=um y;have ED:R=if((((1:Int) !=(dC y:Int))&&(q !=24))&&(q !=25))=true then(⟨0,0⟩,0,4)else((⟨q,y⟩:ai),((k:Int)+1+1,(0:Int))):=by
      rw[hR];simp[and_assoc]
     skip
     simp[-cB,hs];refine pC QC ?_;cases pL:((1:Int) !=(dC y:Int))<;>cases pK:(q !=24)<;>cases EE:(q !=25)
     all_goals rw[pL,pK,EE]at ED
     all_goals simp[-cB,pL,pK,EE,kj,rP]
     all_goals (rw[ED];first|rfl|exact⟨rfl,rfl,rfl⟩)
   ·have HJ:k+1<b.length:=by omega
    have acL:k+2<b.length:=by omega
    obtain⟨y,hy⟩:∃y,b[k+1]?=some y:=⟨_,akC HJ⟩
    obtain⟨z,hz⟩:∃z,b[k+2]?=some z:=⟨_,akC acL⟩
    have ya:=hb y (ape hy);have hzb:=hb z (ape hz);have TZ:=yN hy (by simpa using HJ);have hze:=yN hz (by simpa using acL);have O8:IntKind.wrap .i64 y=y:=iX iW;have hzw:IntKind.wrap .i64 z=z:=iX iW;have acK:(0:Int)<=(k:Int)+1:=by omega
    have ahW:(0:Int)<=(k:Int)+2:=by omega
    have hyg:aB b ((k:Int)+1)=y:=by unfold aB;rw[show((k:Int)+1).toNat=k+1 by omega,hy];rfl
    have hzg:aB b ((k:Int)+1+1)=z:=by unfold aB;rw[show((k:Int)+1+1).toNat=k+2 by omega,hz];rfl
    have yj:aM .i64 (256 *y):=iW;have hy3:aM .i64 (256 *y+z):=iW;have ahX:nP b ((k:Int)+1) 2=ar (256 *y+z):=by unfold nP;rw[if_neg (by omega),if_pos rfl,hyg,hzg]
    rw[ahX]at hR;have F1:((k:Int)+2).toNat=k+2:=by omega
    have ake:(k:Int)+2<b.length:=by omega
    have hw:=aQ (256 *y+z);generalize ar (256 *y+z)=n at *;simp[-cB,h1,h2,h3,h4,HH,HI,h6];refine av.bT [iD n] aS (by kernel_rfl) (by rfl) ?_;simp[-cB,kj,acK,HJ,TZ,O8,FX,ahW,acL,ake,F1,hze,hzw,yj,hy3,hw.ok];have QC:=um n;have ED:R=if((((2:Int) !=(dC n:Int))&&(q !=24))&&(q !=25))=true then(⟨0,0⟩,0,4)else((⟨q,n⟩:ai),((k:Int)+1+2,(0:Int))):=by
     rw[hR];simp[and_assoc]
    skip
    refine pC QC ?_;cases pL:((2:Int) !=(dC n:Int))<;>cases pK:(q !=24)<;>cases EE:(q !=25)
    all_goals rw[pL,pK,EE]at ED
    all_goals simp[-cB,pL,pK,EE,kj,PA]
    all_goals (rw[ED];first|rfl|exact⟨rfl,rfl,rfl⟩)
  ·have tO:r=0:=by omega
   subst tO;have e:R=((⟨q,0⟩:ai),((k:Int)+1,(0:Int))):=by
    rw[hR,if_neg (by simp[h1,h2]),if_neg (by omega),if_neg (by simp[nP,dC])];simp[nP]
   rw[e];have h6:¬(b.length:Int)-k-1<0:=by omega
   have SH:Pure prog 85 [iD 0] (iD 0):=um 0;simp[-cB,hk,hq,hr,rF,Cv,Mw,Mx,h1,h2];refine pN (oD true) ?_;simp[-cB,h1,h2,HH,HI,h6];refine pC SH ?_;simp[-cB,kj];rfl
 exact oQ _ rfl
def My(n:Int):List Int->Nat->Int
 | [],_=> -1
 | x::l,i=>if n=x then(i:Int)else My n l (i+1)
theorem T0(n:Int):∀(l:List Int) (i:Nat),decide (0<=My n l i)=l.contains n
 | [],i=>by simp[My]
 | x::l,i=>by
   rw[My,List.contains_cons];by_cases h:n=x
   ·subst h;simp
   ·rw[if_neg h,T0 n l];simp[h]
theorem aaq(l:List Int)(n:Int)(hl:l.length<=1000000):Pure prog 239 [.d (.sl (aA l)),iD n] (iD (My n l 0)):=by
 refine rn func239 ?_;simp[-cB,f239];refine av.cJ [0,1,7,8] l.length (λi=> [(8,iD i)]) (λ_=> []) (λi=>My n (l.drop i) i=My n l 0) (by rfl) (by simp[aA]) ?_;intro i hi hH;rcases apg hi with au|heq
 ·have hx:l[i]?=some l[i]:=akC au;have bY:aM .i64 ((i:Int)+1):=iW;rw[aqT au,My]at hH;by_cases hp:n=l[i]
  ·rw[if_pos hp]at hH;simp[au,<-hp];exact hH
  ·rw[if_neg hp]at hH;simp[au,hp,bY];exact hH
 ·have:l.drop i=[]:=by rw[heq];simp
  rw[this]at hH;simp[heq];exact hH
theorem QE(l:List Int)(n:Int)(hl:l.length<=1000000):Pure prog 194 [.d (.sl (aA l)),iD n] (oD (l.contains n)):=by
 have h:=aaq l n hl;rw[<-T0 n l 0];refine rn func194 ?_;simp[-cB,f194];refine pC h ?_;simp
theorem acM(l:List Int)(n:Int)(hl:l.length<=1000000):Pure prog 127 [iD n,.d (.sl (aA l))] (oD (l.contains n)):=by
 have h:=QE l n hl;refine rn func127 ?_;simp[-cB,f127];refine pC h ?_;simp
theorem acN(n:Int):Pure prog 71 [iD n] (oD (nj n)):=by
 have h:=acM [1,3,4,5,6,7,8,12,13,14,15,16,19,21,24,25,26,32,33,38] n (by simp);unfold nj;refine rn func71 ?_;simp[-cB,f71];refine ay.weaken (Wk.freeze 4 (ys:=aA [1,3,4,5,6,7,8,12,13,14,15,16,19,21,24,25,26,32,33,38]) rfl) ?_;simp[-cB];refine pC h ?_;simp
theorem aar(n:Int):Pure prog 72 [iD n] (iD (dC n)):=by
 unfold dC;by_cases h0:n=0
 ·subst h0;refine rn func72 ?_;simp[-cB,f72]
 ·by_cases h1: -128<=n/\n<=127
  ·refine rn func72 ?_;simp[-cB,f72]
   repeat' (first
    | (with_reducible refine And.intro ?_ ?_)
    | (refine aw (λh=>?_) (λh=>?_)<;>(try simp at h)<;>(try simp[-cB, *]))
    | (with_reducible intro _))
   all_goals (try omega)
  ·refine rn func72 ?_;simp[-cB,f72]
   repeat' (first
    | (with_reducible refine And.intro ?_ ?_)
    | (refine aw (λh=>?_) (λh=>?_)<;>(try simp at h)<;>(try simp[-cB, *]))
    | (with_reducible intro _))
   all_goals (try omega)
theorem W1(n:Int):Pure prog 70 [iD n] (oD (decide (1<=n)&&decide (n<=38))):=by
 refine rn func70 ?_;simp[f70]
theorem W2(n a b:Int):Pure prog 69 [iD n,iD a,iD b] (oD (decide (a<=n)&&decide (n<b))):=by
 refine rn func69 ?_;simp[f69]
theorem agt(s z:Int)(hs: -128<=s/\s<=127)(hz:0<=z/\z<=255):IntKind.wrap .i64 (((IntKind.wrap .i64 (s *2^min 8 IntKind.i64.bits) % 2^IntKind.i64.bits).toNat ||| (z % 2^IntKind.i64.bits).toNat:Nat):Int)=256 *s+z:=by
 have h0:IntKind.wrap .i64 (s *2^min 8 IntKind.i64.bits)=256 *s:=by
  rw[show min 8 IntKind.i64.bits=8 from rfl,show((2:Int)^8)=256 from rfl,Int.mul_comm];exact iX iW
 have h1:(256 *s % 2^IntKind.i64.bits).toNat=256 *((s % 72057594037927936).toNat):=by
  rw[show IntKind.i64.bits=64 from rfl];omega
 have h2:(z % 2^IntKind.i64.bits).toNat=z.toNat:=by rw[show IntKind.i64.bits=64 from rfl];omega
 rw[h0,h1,h2];have h3:256 *((s % 72057594037927936).toNat) ||| z.toNat=256 *((s % 72057594037927936).toNat)+z.toNat:=by
  have:=Nat.two_pow_add_eq_or_of_lt (i:=8) (b:=z.toNat) (by omega) ((s % 72057594037927936).toNat);exact this.symm
 rw[h3];have h4:IntKind.wrap .i64 ((256 *((s % 72057594037927936).toNat)+z.toNat:Nat):Int)=IntKind.wrap .i64 (256 *s+z):=by
  have e:((256 *((s % 72057594037927936).toNat)+z.toNat:Nat):Int) % 2^IntKind.i64.bits=(256 *s+z) % 2^IntKind.i64.bits:=by
   rw[show IntKind.i64.bits=64 from rfl];omega
  unfold IntKind.wrap;rw[e]
 rw[h4];exact iX iW
theorem agu(y:Int)(h:0<=y/\y<=255):IntKind.wrap .i8 y=if 128<=y then y-256 else y:=by
 simp[IntKind.wrap,IntKind.bits,IntKind.signed];split<;>split<;>omega
def qO(y:Int):Int:=if 128<=y then y-256 else y
def sU(l:List Int):Nat->Int
 | 0=>0
 | 1=>qO (l[0]?.getD 0)
 | _=>256 *qO (l[0]?.getD 0)+l[1]?.getD 0
theorem KH{y:Int}(h:0<=y/\y<=255): -128<=qO y/\qO y<=127:=by unfold qO;split<;>omega
theorem acO(y z:Int)(h:0<=y/\y<=255)(hz:0<=z/\z<=255):ar (256 *y+z)=256 *qO y+z:=by
 unfold ar qO;simp[IntKind.wrap,IntKind.bits,IntKind.signed];split<;>split<;>omega
set_option maxRecDepth 30000
theorem FN(b:List Int)(i:Int)(hb:∀y∈b,0<=y/\y<=255)(hl:b.length<=100000000000000):Pure prog 35 [.d (.sl (gk b)),iD i] (zQ (jL b i)):=by
 have hA:=W2 i 0 b.length;by_cases h0:i<0\/(b.length:Int)<=i
 ·have hv:jL b i=(⟨0,0⟩,0,2):=by unfold jL;rw[if_pos h0]
  rw[hv];have hf:(decide (0<=i)&&decide (i<(b.length:Int)))=false:=by
   rw[aqA];simp;omega
  rw[hf]at hA;refine rn func35 ?_;simp[-cB,f35];intro bs;refine pC hA ?_;simp[-cB];rfl
 have hf:(decide (0<=i)&&decide (i<(b.length:Int)))=true:=by simp;omega
 rw[hf]at hA;obtain⟨k,rfl⟩:∃k:Nat,i=k:=⟨i.toNat,by omega⟩
 have hk:k<b.length:=by omega
 have hx:=akC hk;have zK:=hb _ (apk hk);have hg:aB b k=b[k]:=by unfold aB;simp[hx]
 unfold jL;rw[if_neg h0,hg];generalize b[k]=x at *;have hq:x.tdiv 4=x / 4:=apW zK.1;have hr:x.tmod 4=x % 4:=apz zK.1;have oQ:∀R:ai×Int×Int,R=(if x / 4<1\/38<=x / 4\/x % 4=3\/(0<x % 4/\nj (x / 4)=false)then(⟨0,0⟩,0,16)
  else if(b.length:Int)-k-1<x % 4 then(⟨0,0⟩,0,2)
  else if x % 4≠(dC (nP b (k+1) (x % 4)):Int)/\x / 4≠24/\x / 4≠25 then(⟨0,0⟩,0,4)
  else(⟨x / 4,nP b (k+1) (x % 4)⟩,k+1+x % 4,0))->Pure prog 35 [.d (.sl (gk b)),iD k] (zQ R):=by
  intro R hR;have hh:=acN (x / 4);have hK:=W1 (x / 4);have rF:=yN hx (by simpa using hk);have YN:aM .i64 (x / 4):=iW;have Cv:aM .i64 x:=iW;have Mw:IntKind.wrap .i64 x=x:=iX Cv;have Mx:IntKind.wrap .i64 (x / 4)=x / 4:=iX YN;have rP:aM .i64 ((k:Int)+1+1):=iW;have FX:aM .i64 ((k:Int)+2):=iW;have PA:aM .i64 ((k:Int)+1+2):=iW;have HH:aM .i64 ((b.length:Int)-k):=iW;have HI:aM .i64 ((b.length:Int)-k-1):=iW;have kj:aM .i64 ((k:Int)+1):=iW;refine rn func35 ?_;simp[-cB,f35];intro bs;refine pC hA ?_;simp[-cB];refine av.bT [] aS (by kernel_rfl) (by rfl) ?_;generalize hQ:x / 4=q at *;generalize hRm:x % 4=r at *;simp[-cB,hk,hq,hr,rF,Cv,Mw,Mx];by_cases h1:q<1\/38<q
  ·have hKf:(decide (1<=q)&&decide (q<=38))=false:=by
    rw[aqA];simp;omega
   rw[hKf]at hK;have e:R=(⟨0,0⟩,0,16):=by rw[hR,if_pos (by omega)]
   rw[e];refine pC hK ?_;simp[-cB];refine pN (oD true) ?_;simp[-cB];rfl
  have hKt:(decide (1<=q)&&decide (q<=38))=true:=by simp;omega
  rw[hKt]at hK;refine pC hK ?_;by_cases h2:q=38
  ·have e:R=(⟨0,0⟩,0,16):=by rw[hR,if_pos (by omega)]
   rw[e];simp[-cB,h2];refine pN (oD true) ?_;simp[-cB];rfl
  by_cases h3:r=3
  ·have e:R=(⟨0,0⟩,0,16):=by rw[hR,if_pos (by omega)]
   rw[e];simp[-cB,h2,h3];refine pN (oD true) ?_;simp[-cB];rfl
  have gA:¬q<1:=by omega
  have lG:¬38<=q:=by omega
  have hrr:0<=r/\r<=2:=by omega
  have hcf:(decide (0<r)&&!nj q)=decide (0<r/\nj q=false):=by rw[aqM];simp
  by_cases h4:0<r/\nj q=false
  ·have e:R=(⟨0,0⟩,0,16):=by rw[hR,if_pos (.inr (.inr (.inr h4)))]
   rw[decide_eq_true h4]at hcf;rw[e];simp[-cB,h2,h3];refine pG hh ?_;simp[-cB,hcf];rfl
  rw[decide_eq_false h4]at hcf;rw[if_neg (by rintro(h|h|h|h)<;>contradiction)]at hR;simp[-cB,h2,h3];refine pG hh ?_;simp[-cB,hcf];by_cases h6:(b.length:Int)-k-1<r
  ·have e:R=(⟨0,0⟩,0,2):=by rw[hR,if_pos h6]
   rw[e];simp[-cB,HH,HI,h6];rfl
  rw[if_neg h6]at hR;simp[-cB,HH,HI,h6];obtain⟨ρ,rfl⟩:∃ρ:Nat,r=ρ:=⟨r.toNat,by omega⟩
  have hkr:k+1+ρ<=b.length:=by omega
  have F1:((k:Int)+1+ρ).toNat=k+1+ρ:=by omega
  have Ol:((b.take (k+1+ρ)).drop (k+1)).length=ρ:=by simp;omega
  have hdg:∀j,j<ρ->((b.take (k+1+ρ)).drop (k+1))[j]?=b[k+1+j]?:=by
   intro j hj;rw[aqf,art,if_pos (by omega)]
  have hde:List.drop (k+1) (List.take (k+1+ρ) (gk b))=gk ((b.take (k+1+ρ)).drop (k+1)):=by simp[gk,List.map_drop,List.map_take]
  have SG:min (k+1+ρ) b.length-(k+1)=ρ:=by omega
  have hdb:∀y∈(b.take (k+1+ρ)).drop (k+1),0<=y/\y<=255:=λy hy=>hb y (aqg (List.mem_of_mem_drop hy))
  have Gk:nP b ((k:Int)+1) ρ=sU ((b.take (k+1+ρ)).drop (k+1)) ρ:=by
   have SS:ρ=0\/ρ=1\/ρ=2:=by omega
   rcases SS with rfl|rfl|rfl
   ·simp[nP,sU]
   ·obtain⟨y,hy⟩:∃y,b[k+1]?=some y:=⟨_,akC (by omega)⟩
    have e1:aB b ((k:Int)+1)=y:=by unfold aB;rw[show((k:Int)+1).toNat=k+1 by omega,hy];rfl
    have e2:=hdg 0 (by omega);rw[aqi,hy]at e2;simp only[nP,sU,e1,e2,qO];rfl
   ·obtain⟨y,hy⟩:∃y,b[k+1]?=some y:=⟨_,akC (by omega)⟩
    obtain⟨z,hz⟩:∃z,b[k+2]?=some z:=⟨_,akC (by omega)⟩
    have e1:aB b ((k:Int)+1)=y:=by unfold aB;rw[show((k:Int)+1).toNat=k+1 by omega,hy];rfl
    have e3:aB b ((k:Int)+1+1)=z:=by unfold aB;rw[show((k:Int)+1+1).toNat=k+2 by omega,hz];rfl
    have e2:=hdg 0 (by omega);rw[aqi,hy]at e2;have e4:=hdg 1 (by omega);rw[hz]at e4;have:=acO y z (hb y (ape hy)) (hb z (ape hz));simp only[nP,sU,e1,e2,e3,e4];rw[if_neg (by omega),if_pos (by omega),this];rfl
  rw[Gk]at hR;refine⟨kj,iW,⟨⟨⟨by omega,by omega⟩,by omega,by omega⟩,BT b⟩,?_⟩;rw[F1,hde,SG];generalize (b.take (k+1+ρ)).drop (k+1)=ds at *;refine av.cJ [1,4,7,8,9,68,69,70] ρ (λi=> [(9,iD (sU ds i)),(70,iD i)]) (λ_=> []) (λ_=>True) (by rfl) (by simp[sU]) ?_;intro j hj _;rcases apg hj with au|heq
  ·have hjd:j<ds.length:=by omega
   have cH:ds[j]?=some ds[j]:=akC hjd;have ya:=hdb _ (apk hjd);have TZ:=yN cH (by simpa using hjd);generalize ds[j]=y at *;have O8:IntKind.wrap .i64 y=y:=iX iW;have hs8:=agu y ya;have hsb:=KH ya;have hsw:IntKind.wrap .i64 (qO y)=qO y:=iX iW;rw[show(if 128<=y then y-256 else y)=qO y from rfl]at hs8;have I0:j=0\/j=1:=by omega
   have anx:aM .i64 ((j:Int)+1):=iW;rcases I0 with rfl|rfl
   ·have akf:sU ds (0+1)=qO y:=by simp[sU,cH]
    have ahY:sU ds 1=qO y:=akf;simp[-cB,au,hjd,TZ,hs8,hsw];exact⟨iW,ahY.symm⟩
   ·have ma:∃y0,ds[0]?=some y0:=⟨_,akC (by omega)⟩
    obtain⟨y0,ma⟩:=ma;have agv:=hdb y0 (ape ma);have ahZ:sU ds 1=qO y0:=by simp[sU,ma]
    have ah0:sU ds 2=256 *qO y0+y:=by simp[sU,ma,cH]
    have Xd:=agt (qO y0) y (KH agv) ya;have D6:=KH agv;generalize qO y0=s0 at *;have akg:(1:Int)<ρ:=by omega
    simp[-cB,au,akg,hjd,TZ,O8,ahZ];exact⟨iW,Xd.trans ah0.symm⟩
  ·subst heq;have QC:=aar (sU ds j);generalize sU ds j=n at *;have ED:R=if((((dC n:Int) !=(j:Int))&&(q !=24))&&(q !=25))=true then(⟨0,0⟩,0,4)else((⟨q,n⟩:ai),((k:Int)+1+j,(0:Int))):=by
    rw[hR];by_cases c:((j:Int)≠(dC n:Int)/\q≠24/\q≠25)
    ·rw[if_pos c,if_pos (by simp[c.2.1,c.2.2];have:=c.1;omega)]
    ·rw[if_neg c,if_neg (by intro h;simp at h;exact c ⟨by have:=h.1.1;omega,h.1.2,h.2⟩)]
   have hkj:aM .i64 ((k:Int)+1+j):=iW;clear hR;generalize dC n=β at *;generalize hJ:(j:Int)=J at *;generalize hBe:(β:Int)=B at *;simp[-cB];refine pC QC ?_;cases pL:(B !=J)<;>cases pK:(q !=24)<;>cases EE:(q !=25)
   all_goals rw[pL,pK,EE]at ED
   all_goals simp[-cB,pL,pK,EE,kj,hkj]
   all_goals (rw[ED];first|rfl|exact⟨rfl,rfl,rfl⟩)
 exact oQ _ rfl
set_option maxHeartbeats 200000
set_option maxRecDepth 512
def u64(n:Int):Int:=IntKind.wrap .u64 n
def JG(n:Int):Int:=if u64 (u64 (u64 n *2654435769)+1)=0 then 1 else u64 (u64 (u64 n *2654435769)+1)
theorem W3(n:Int):Pure prog 65 [iD n] (.d (.v (.int .u64 (JG n)))):=by
 unfold JG u64;refine rn func65 ?_;simp[-cB,f65];refine aw (λh=>?_) (λh=>?_)
 ·simp at h;simp[h]
 ·simp at h;simp[h]
def mW(inn:Int):List bg->Int->Int
 | [],_=>0
 | y::l,i=>if y.ah=inn then i else mW inn l (i+1)
theorem Ag{inn:Int}:∀(l r:List bg) (i:Int),(∀y∈l,y.ah≠inn)->mW inn (l++r) i=mW inn r (i+l.length)
 | [],r,i,_=>by simp
 | y::l,r,i,h=>by
   rw[apm,mW,if_neg (h y (by simp)),Ag l r _ (λz hz=>h z (by simp[hz]))];congr 1;simp only[apj];omega
theorem GA(t:aq)(ht:t.wf)(x:Nat)(hx:x<=t.az.length)(inn:Int):Pure prog 66 [.agg (t.enc.map .d),iD x,iD inn] (iD (mW inn (t.az.drop x) x)):=by
 have hlen:=aq.Dz ht;refine rn func66 ?_;simp[-cB,f66];intro bs;refine av.cJ [2,3,7] (t.az.length-x) (λi=> [(7,iD ((x+i:Nat):Int))]) (λ_=> []) (λi=>∀y∈(t.az.drop x).take i,y.ah≠inn) (by rfl) (by simp) ?_;intro i hi hH;rcases apg hi with au|heq
 ·have TB:x+i<t.az.length:=by omega
  have hxz:(x:Int)+i<t.az.length:=by omega
  have hd:t.az.drop x=(t.az.drop x).take i++t.az[x+i]::t.az.drop (x+i+1):=by
   conv=>lhs;rw[<-apv i (t.az.drop x)]
   rw[aqz,aqT TB]
  have hl:((t.az.drop x).take i).length=i:=by simp;omega
  have hz:((x:Int)+i).toNat=x+i:=by omega
  have hz0:0<=(x:Int)+i:=by omega
  have jC:t.az[x+i]?.getD bg.zero=t.az[x+i]:=by rw[akC TB];rfl
  have cp:aM .i64 ((x:Int)+i+1):=iW;by_cases hp:(t.az[x+i]).ah=inn
  ·have hv:mW inn (t.az.drop x) x=(x:Int)+i:=by
    rw[hd,Ag _ _ _ hH,mW,if_pos hp,hl]
   simp[TB,hxz,hp,hv,hz,hz0]
  ·have hH':∀y∈(t.az.drop x).take (i+1),y.ah≠inn:=by
    intro y hy;rw[apI]at hy;rcases apr.1 hy with h|h
    ·exact hH y h
    ·rw[aqf,akC TB]at h;simp at h;rw[h];exact hp
   simp[TB,hxz,hp,cp,hz,hz0,au];exact⟨by omega,λy hy=>hH' y hy⟩
 ·have hxz:¬((x:Int)+i<t.az.length):=by omega
  have hv:mW inn (t.az.drop x) x=0:=by
   have h1:(t.az.drop x).take i=t.az.drop x:=List.take_of_length_le (by simp;omega);rw[h1]at hH;have:=Ag (inn:=inn) (t.az.drop x) [] x hH;rw[apL]at this;rw[this,mW]
  simp[hxz,hv]
def EF(t:aq)(k:Nat):Int:=if k=0 then 0 else mW k (t.az.drop 1) 1
def Fx(t:aq)(k:Nat):Int:=if(bx t k).ah=0 then 0 else mW (bx t k).ah (t.az.drop (k+1)) (k+1)
def aaY(t:aq):aj:=⟨t.aP,t.az.map (·.ah),(List.range t.az.length).map (EF t),(List.range t.az.length).map (Fx t),t.az.map (·.Flags),t.az.flatMap (·.aJ),List.replicate t.eA.length 0,JG t.pg,0,0,0,0,0⟩
theorem QF:∀(l:List bg),(∀y∈l,y.aJ.length<=64)->(List.map (λa=>a.aJ.length) l).sum<=l.length *64
 | [],_=>by simp
 | y::l,h=>by
   have h1:=QF l (λz hz=>h z (by simp[hz]));have h2:=h y (by simp);simp only[apF,arh,apj];omega
set_option maxHeartbeats 8000000 in
theorem Ya(t:aq)(ht:t.wf)(hT:t.az.length<=1000)(hP:∀y∈t.az,y.aJ.length<=64):Pure prog 29 [.agg (t.enc.map .d)] (.agg ((aaY t).enc.map .d)):=by
 have l1:=aq.ow ht;have l2:=aq.Bq ht;have l3:=aq.Dz ht;refine rn func29 ?_;simp[-cB,f29];intro bs;refine av.SF [Q3,Q3,Q3,Q3,Q3,Q3,Q3,Q3,Q3,Q3,Q3,Q3,none,none] [8,11,15] [.kn (λv=>∃ao,v= .slice ao 0 0),.d (.sl (aA t.aP)),.d (.sl (aA (List.replicate t.eA.length 0))),.d (.v (.int .u64 (JG t.pg)))] aS (by kernel_rfl) ?_;simp[(W3 _).ok];have tS:kB prog 23=some (3,1,8,[.int .i64 0]):=by kernel_rfl
 have tR:sk prog 23=true:=by kernel_rfl
 have y0:∀(ops:Array Oper) (s:St) (dst:Option Tmp) (pos:String) (after:Array Edge),r6 prog ops ⟨dst,.buildSlice 23 0 #[],23,pos,after,none⟩ s (.kn (λv=>∃ao,v= .slice ao 0 0)):=λops s dst pos after=>VW tS
 refine⟨y0 _ _ _ _ _,?_⟩;refine⟨Gi tS tR rfl rfl (by decide) (by simp [aA]) (by simp;omega),?_⟩;have y2:∀(ops:Array Oper) (s:St) (dst:Option Tmp) (lo co:Operand) (pos:String) (after:Array Edge),s.ev lo=iD t.eA.length→s.ev co=iD t.eA.length→
   r6 prog ops ⟨dst,.makeSlice 23 lo co,23,pos,after,none⟩ s (.d (.sl (aA (List.replicate t.eA.length 0)))):=by
  intro ops s dst lo co pos after h1 h2;have:=abT (P:=prog) (ops:=ops) (dst:=dst) (ty:=23) (pos:=pos) (after:=after) (s:=s) tS h1 h2 (by decide) (by omega) (by simp only[maxLen];omega);simpa[aA]using this
 refine⟨y2 _ _ _ _ _ _ _ rfl rfl,?_⟩
 repeat' (first|exact y0 _ _ _ _ _|exact y2 _ _ _ _ _ _ _ rfl rfl|exact Gi tS tR rfl rfl (by decide) (by simp[aA]) (by simp;omega)|with_reducible refine And.intro ?_ ?_)
 intro K6;refine av.weaken (s':=⟨[(4,iD 0),(3,.bp 3 0),(2,.bp 2 0),(1,.bp 1 0)],_⟩) (Wk.pick [4,3,2,1] [3,2,1] (by rfl) (by decide) (by simp[St.pick,St.on,V.on,V.dK])) ?_;refine av.weaken (Wk.qh 3 1 5301 (e:=3) (k:=1) rfl rfl (by simp[keys])) ?_;refine av.weaken (Wk.qh 3 2 5302 (e:=3) (k:=1) rfl rfl (by simp[keys,aI.jA])) ?_;refine av.weaken (Wk.qh 3 3 5303 (e:=3) (k:=1) rfl rfl (by simp[keys,aI.jA])) ?_;refine av.weaken (Wk.qh 3 4 5304 (e:=3) (k:=1) rfl rfl (by simp[keys,aI.jA])) ?_;refine av.weaken (Wk.qh 3 5 5305 (e:=3) (k:=1) rfl rfl (by simp[keys,aI.jA])) ?_;refine av.weaken (s':=⟨[(4,iD 0),(3,.bp 3 0),(2,.bp 2 0),(1,.bp 1 0)],
  [(5301,.row 3 1 []),(5302,.row 3 1 []),(5303,.row 3 1 []),(5304,.row 3 1 []),(5305,.row 3 1 []),
   (3,.box (K6 3+1) 34 [.d (.sl (aA t.aP)),.rv 5301,.rv 5302,.rv 5303,.rv 5304,.rv 5305,.d (.sl (aA (List.replicate t.eA.length 0))),.d (.v (.int .u64 (JG t.pg))),iD 0,iD 0,iD 0,iD 0,iD 0]),_,_]⟩) (Wk.pick [4,3,2,1] [5301,5302,5303,5304,5305,3,2,1] (by rfl) (by decide) (by simp[St.pick,St.on,V.on,V.dK,aI.jA])) ?_
 refine av.fh [1,2,3,4] t.az (λpre=> [(4,iD pre.length)]) (λpre=> [(5301,.row 3 1 (dd (aA (pre.map (·.ah))))),(5302,.row 3 1 (dd (aA ((List.range pre.length).map (EF t))))),(5303,.row 3 1 (dd (aA ((List.range pre.length).map (Fx t))))),(5304,.row 3 1 (dd (aA (pre.map (·.Flags))))),(5305,.row 3 1 (dd (aA (pre.flatMap (·.aJ)))))]) (λ_=>True) (by rfl) (by omega) (by simp[aA]) ?_ ?_
 ·rintro pre y post bu hH au bm a4;have hy:bx t pre.length=y:=by rw[bx,bu];simp
  have hA:=GA t ht 1 (by omega) pre.length;have hB:=GA t ht (pre.length+1) (by omega) y.ah;have II:=QF pre (λz hz=>hP z (by rw[bu];simp[hz]));have Tc:=hP y (by rw[bu];simp);have fJ:pre.length<=1000:=by omega
  clear bu;have bY:aM .i64 ((pre.length:Int)+1):=a4;have hc:EF t pre.length=if pre=[]then 0 else mW pre.length t.az.tail 1:=by
   unfold EF;cases pre<;>simp
  have hn:Fx t pre.length=if y.ah=0 then 0 else mW y.ah (t.az.drop (pre.length+1)) (pre.length+1):=by
   unfold Fx;rw[hy]
  by_cases mB:pre=[]
  ·subst mB;simp only[apC,Int.natCast_zero,Int.zero_add,ap2]at bm au hy bY a4 hB hn;have sY:EF t 0=0:=rfl;by_cases rB:y.ah=0
   ·have OE:Fx t 0=0:=by rw[hn,if_pos rB]
    clear hc hn hA hB;simp[-cB,bm,au]
    repeat' (first
     | (with_reducible refine And.intro ?_ ?_)
     | (refine aw (λh=>?_) (λh=>?_)<;>(try simp at h)<;>(try simp[-cB, *]))
     | (with_reducible intro _))
    all_goals (try omega)
    refine av.aT [Q3,Q3,Q0,Q0,Q0,Q0,Q0,Q0,none,none,arG,none] [] aS (by kernel_rfl) ?_;simp[-cB, *];refine av.aT [Q0,Q0,Q0,Q0,Q0,Q0,Q0,Q0,none,arF,none] [] aS (by kernel_rfl) ?_;simp[-cB,aqu, *];simp[dd,aA];omega
   ·have OE:Fx t 0=mW y.ah (t.az.drop 1) 1:=by
     rw[hn,if_neg rB]
    clear hc hn hA;simp[-cB,bm,au]
    repeat' (first
     | (with_reducible refine And.intro ?_ ?_)
     | ((first|(refine aw (λh=>?_) (λh=>?_)<;>(try simp at h))|refine pC hB ?_|refine lC hB ?_|refine pG hB ?_)<;>(try simp[-cB, *]))
     | (with_reducible intro _))
    all_goals (try omega)
    refine av.aT [Q3,Q3,Q0,Q0,Q0,Q0,Q0,Q0,none,none,arG,none] [] aS (by kernel_rfl) ?_;simp[-cB, *];refine av.aT [Q0,Q0,Q0,Q0,Q0,Q0,Q0,Q0,none,arF,none] [] aS (by kernel_rfl) ?_;simp[-cB,aqu, *];simp[dd,aA];omega
  ·have OA:0<pre.length:=apV.2 mB;rw[if_neg mB]at hc;by_cases rB:y.ah=0
   ·rw[if_pos rB]at hn;clear hB;simp[-cB,bm,au,OA]
    repeat' (first
     | (with_reducible refine And.intro ?_ ?_)
     | ((first|(refine aw (λh=>?_) (λh=>?_)<;>(try simp at h))|refine pC hA ?_|refine lC hA ?_|refine pG hA ?_)<;>(try simp[-cB, *]))
     | (with_reducible intro _))
    all_goals (try omega)
    refine av.aT [Q3,Q3,Q0,Q0,Q0,Q0,Q0,Q0,none,none,arG,none] [] aS (by kernel_rfl) ?_;simp[-cB, *];refine⟨by omega,?_⟩;refine av.aT [Q0,Q0,Q0,Q0,Q0,Q0,Q0,Q0,none,arF,none] [] aS (by kernel_rfl) ?_;simp[-cB,aqu, *]
    try omega
   ·rw[if_neg rB]at hn;simp[-cB,bm,au,OA]
    repeat' (first
     | (with_reducible refine And.intro ?_ ?_)
     | ((first|(refine aw (λh=>?_) (λh=>?_)<;>(try simp at h))|refine pC hA ?_|refine pC hB ?_|refine lC hA ?_|refine lC hB ?_|refine pG hA ?_|refine pG hB ?_)<;>(try simp[-cB, *]))
     | (with_reducible intro _))
    all_goals (try omega)
    refine av.aT [Q3,Q3,Q0,Q0,Q0,Q0,Q0,Q0,none,none,arG,none] [] aS (by kernel_rfl) ?_;simp[-cB, *];refine⟨by omega,?_⟩;refine av.aT [Q0,Q0,Q0,Q0,Q0,Q0,Q0,Q0,none,arF,none] [] aS (by kernel_rfl) ?_;simp[-cB,aqu, *]
    try omega
 ·intro _;simp[-cB,aaY,aj.enc]
set_option maxHeartbeats 4000000
set_option maxRecDepth 20000
def adt:ax:= .mk 1 0 5 ⟨#[]⟩ []
def ET:an:= .mk 12 0 ⟨#[]⟩ [adt] [] []
def ac1:aq:={aq.zero with fP:=[⟨#[84,97,108,101]⟩],Flags:=4,az:=[{bg.zero with Text:= -1},{bg.zero with Text:= -1,ah:=2},{bg.zero with Text:= -1,Room:=true}],cV:=[0],Params:=[0],aL:=[0]}
def N7(p:Int)(r:Bool):List D:=[.v (.int .i64 0),.v (.int .i64 (-1)),.v (.int .i64 p),.v (.int .i64 0),.v (.bool r),.v (.slice none 0 0),.v (.slice none 0 0),.v (.slice none 0 0),.v (.slice none 0 0)]
theorem aaW:ET.wf:=by
 unfold ET adt an.wf;simp[ax.wf,ax.wo,an.wo,aU];decide
def Bc:dx:=⟨0,0,0⟩
set_option maxRecDepth 40000
theorem aaR:∀(N:Nat) (l:List an),SizeOf.sizeOf l<N->iJ l<=mZ (l.map an.enc):=by
 have hE:∀(N:Nat) (l:List ax),SizeOf.sizeOf l<N->fp l<=mZ (l.map ax.enc):=by
  intro N
  induction N with
  | zero=>intro l h;omega
  | succ N ih=>
    intro l h;cases l with
    | nil=>simp[fp]
    | cons x l=>
      have hl:SizeOf.sizeOf l<N:=by simp only[apU]at h;omega
      have hx:SizeOf.sizeOf x<N:=by simp only[apU]at h;omega
      have h1:=ih l hl;have h2:=ih x.aF (by cases x;simp only[ax.Tr];simp only[ax.mk.sizeOf_spec]at hx;omega);have h3:iI x.enc=bD (.v (.int .i64 x.Kind))+(bD (.v (.int .i64 x.Op))+(bD (.v (.int .i64 x.aK))+(bD (.v (.string x.Name))+(bD (.sl (x.aF.map ax.enc))+0)))):=by
       cases x;simp[ax.enc,ax.u0,iI]
      rw[fp,vN,apF,mZ,h3];simp only[bD];omega
 intro N
 induction N with
 | zero=>intro l h;omega
 | succ N ih=>
   intro l h;cases l with
   | nil=>simp[iJ]
   | cons s l=>
     have hl:SizeOf.sizeOf l<N:=by simp only[apU]at h;omega
     have hs:SizeOf.sizeOf s<N:=by simp only[apU]at h;omega
     have hb:=an.rf s;have he:=an.rh s;have h1:=ih l hl;have h2:=ih s.Body (by omega);have h3:=ih s.bW (by omega);have h4:=hE _ s.aF (aps _);have h5:iI s.enc=bD (.v (.int .i64 s.Kind))+(bD (.v (.int .i64 s.aK))+(bD (.v (.string s.Name))+(bD (.sl (s.aF.map ax.enc))+(bD (.sl (s.Body.map an.enc))+(bD (.sl (s.bW.map an.enc))+0))))):=by
      cases s;simp[an.enc,an.u0,iI]
     rw[iJ,uq,apF,mZ,h5];simp only[bD];omega
set_option maxRecDepth 20000
theorem K7{b:cM}(hb:b.wf)(h:fE b=true)(hz:∀l∈b.aO,iJ l<=30000000):∀l∈b.aO,mU l/\iJ l<=30000000:=by
 intro l hl;refine⟨?_,hz l hl⟩;unfold fE at h;simp only[apb,decide_eq_true_eq,apd]at h;obtain⟨⟨h1,h2⟩,h3⟩:=h;obtain⟨k,hk,tW⟩:=aqF hl;have hg:=h3 k (by simpa using hk);unfold wZ at hg;simp only[apb]at hg;have Il:=hg.1.1.2;rw[akC hk,tW]at Il;have ht:=cM.C5 hb;have hw:l.length *104<=140737488351232/\∀y∈l,y.wf:=hb.2.2 l hl;have jn:aM .i64 (b.Tables.aL[k]?.getD 0):=by
  cases hL:b.Tables.aL[k]? with
  | none=>rw[aU];simp
  | some y=>exact aq.Lm ht y (ape hL)
 exact RZ (t:=b.Tables) (locals:=b.Tables.aL[k]?.getD 0) jn hw.2 hw.1 Il
theorem H8{b:cM}{s:al}(h:fu b=(s,0)):fE b=true/\s.Tables=b.Tables/\s.Entry.length=b.aO.length:=by
 unfold fu at h;split at h
 ·simp at h
 ·rename_i hr;split at h
  ·rename_i he;simp only[ao7]at h;exact absurd h.2 he
  ·split at h
   ·simp at h
   ·simp only[ao7,and_true]at h;subst h;have hl:∀k,(stM b k).1.length=k:=by
     intro k
     induction k with
     | zero=>rfl
     | succ k ih=>rw[stM];simp[ih]
    exact⟨by simpa using hr,rfl,hl _⟩
theorem UL{w:aj}(hw:w.wf):0<=w.cL/\w.cL<18446744073709551616:=by
 have h:=hw;unfold aj.wf at h;obtain⟨_,_,_,_,_,_,_,_,_,_,_,_,_,_,h8,_⟩:=h;have h1:(0:Int)<=w.cL:=h8.1;have h2:w.cL<=18446744073709551615:=h8.2;omega
set_option maxHeartbeats 200000
set_option maxRecDepth 512
def gR(w w':aj):Prop:=w'.aP.length=w.aP.length/\w'.ah.length=w.ah.length/\w'.Child.length=w.Child.length/\w'.Next.length=w.Next.length/\w'.Flags.length=w.Flags.length/\w'.aJ.length=w.aJ.length/\w'.bc.length=w.bc.length
theorem fV(w:aj):gR w w:=⟨rfl,rfl,rfl,rfl,rfl,rfl,rfl⟩
theorem JH{a b c:aj}(h:gR a b)(k:gR b c):gR a c:=by
 unfold gR at *;omega
theorem aas(w:aj)(x f:Int)(on:Bool):gR w (eb w x f on).1:=by
 unfold eb;split
 ·split
  ·exact fV w
  ·simp[gR]
 ·exact fV w
theorem acP(t:aq)(w:aj)(x p n:Int):gR w (mY t w x p n).1:=by
 unfold mY;split<;>(try split)<;>simp[gR]
theorem JI(w:aj)(x:Int):gR w (cx w x):=⟨rfl,qw w x,Hf w x,Hg w x,rfl,rfl,rfl⟩
theorem W4(w:aj)(x to:Int):gR w (vp w x to):=by
 have h:=JI w x;unfold gR at *;unfold vp;simp;omega
theorem Mz(t:aq)(p:aj×Int):(pQ t p).1=p.1:=by unfold pQ;split<;>rfl
theorem Si(t:aq)(w:aj)(x:Int):gR w (iH t w x).1:=by
 unfold iH;split
 ·exact fV w
 ·rw[Mz];unfold fB;split
  ·exact JI w x
  ·exact fV w
theorem aat(t:aq)(w:aj)(x to:Int):gR w (kY t w x to).1:=by
 unfold kY;split
 ·exact fV w
 ·rw[Mz];unfold kZ;repeat' split
  all_goals first|exact fV w|exact W4 w x to
theorem acQ{α:Type}{p:Prop}[Decidable p]{a b:Option α}{x:α}{Q:Prop}(h:(if p then a else b)=some x)(h1:a=some x->Q)(h2:b=some x->Q):Q:=by
 by_cases hp:p
 ·rw[if_pos hp]at h;exact h1 h
 ·rw[if_neg hp]at h;exact h2 h
theorem Sj{w:aj}{p:aj×Int}(h:gR w p.1):gR w (jc w p).1:=by
 unfold jc;split
 ·exact h
 ·exact fV w
theorem aau{c:XC}{w w':aj}{k n:Int}{a:List Int}{o:OC}(h:cG c w k n a=some (w',o)):gR w w':=by
 have wO:∀p,gR w p.1->some (jc w p)=some (w',o)->gR w w':=by
  intro p hp he;have:=Sj hp;rw[ao9 he]at this;exact this
 unfold cG at h
 repeat' (refine acQ h (λh=>?_) (λh=>?_))
 all_goals first
  | (cases h;done)
  | exact wO _ (aas ..) h
  | exact wO _ (Si ..) h
  | exact wO _ (acP ..) h
  | exact wO _ (aat ..) h
  | (simp only[anc,ao7]at h;rw[<-h.1];first|exact fV w|simp[gR])
theorem aav{c:XC}{w w':aj}{k n:Int}{a:List Int}{o:OC}(h:di c w k n a=some (w',o)):gR w w':=by
 have pO:∀p:Int×Int,some (jv w p)=some (w',o)->gR w w':=by
  intro p he;have:=Md w p;rw[ao9 he]at this;have:w'=w:=this;rw[this];exact fV w
 unfold di at h
 repeat' (refine acQ h (λh=>?_) (λh=>?_))
 all_goals first
  | (cases h;done)
  | exact pO _ h
  | (simp only[anc,ao7]at h;rw[<-h.1];first|exact fV w|simp[gR])
def EvL(σ:MS):Ev->Prop
 | .ok _ _ σ'=>gR σ.W σ'.W
 | .over σ'=>gR σ.W σ'.W
 | .bH _=>True
theorem acR{S0 L:List Int}{σ:MS}{t:ByteArray}{e:Ev}(h:yU S0 L σ t=some e):EvL σ e:=by
 unfold yU at h;split at h
 ·cases h;exact fV _
 ·cases h
theorem QG{v:Bool}{S0 L:List Int}{σ:MS}{p:Option (aj×OC)}{e:Ev}(hp:∀w' o,p=some (w',o)->gR σ.W w')(h:iS v S0 L σ p=some e):EvL σ e:=by
 unfold iS at h;split at h
 ·cases h;exact hp _ _ rfl
 ·cases h;trivial
 ·cases h;exact hp _ _ rfl
 ·cases h
theorem acS{S0 L:List Int}{σ:MS}{p:Int×Int}:EvL σ (FM S0 L σ p):=by
 unfold FM;split
 ·exact fV _
 ·trivial
theorem instJ_lens{c:XC}{i:ai}{S L:List Int}{σ:MS}{e:Ev}(h:instJ c i S L σ=some e):EvL σ e:=by
 rcases S with _|⟨v,_|⟨u,S⟩⟩
 all_goals
  unfold instJ at h;dsimp only at h
  repeat' (refine acQ h (λh=>?_) (λh=>?_))
  all_goals first
   | (cases h;done)
   | exact acR h
   | exact QG (λw' o hv=>aav hv) h
   | exact QG (λw' o hv=>aau hv) h
   | (simp only[anc]at h;rw[<-h];first|exact acS|trivial|exact fV _)
structure Jv(c:XC) (w0:aj) (n:Nat) (m:ae):Prop where
 hE:m.Env=c.E
 fL:m.Frames.length<=32
 hS:m.Stack.length<=n
 hW:WL m.Stack
 hL:∀f∈m.Frames,f.aL.length<=40
 hF:0<=m.Told.Fuel/\m.Told.Fuel<=n
 hw:gR w0 m.Told.World
theorem Jv.le{c:XC}{w0:aj}{n k:Nat}{m:ae}(h:Jv c w0 n m)(hk:n<=k):Jv c w0 k m:=⟨h.hE,h.fL,by have:=h.hS;omega,h.hW,h.hL,by have:=h.hF;omega,h.hw⟩
theorem WL.take{l:List Int}(h:WL l)(n:Nat):WL (l.take n):=λx hx=>h x (aqg hx)
theorem WL.drop{l:List Int}(h:WL l)(n:Nat):WL (l.drop n):=λx hx=>h x (List.mem_of_mem_drop hx)
theorem WL.app{a b:List Int}(ha:WL a)(hb:WL b):WL (a++b):=λx hx=>(apr.1 hx).elim (ha x) (hb x)
theorem WL.rev{a:List Int}(ha:WL a):WL a.reverse:=λx hx=>ha x (List.mem_reverse.1 hx)
theorem aeV{c:XC}{s:al}{w0:aj}{n:Nat}{m m':ae}(dc:fD c.B.Tables=true)(N1:s.Entry.length=c.B.Tables.Params.length)(hj:Jv c w0 n m)(h:gN (bN c) s m=some m'):Jv c w0 (n+1) m':=by
 obtain⟨hE,fL,hS,hW,hL,hF,hw⟩:=id hj;unfold gN at h;split at h
 ·cases h;exact hj.le (by omega)
 rename_i hd;split at h
 ·rename_i f hf;split at h
  ·rename_i hB;have qe:m.Frames=m.Frames.dropLast++ [f]:=by
    have bR:m.Frames≠ []:=by intro e;rw[e]at hf;cases hf
    have:=List.dropLast_concat_getLast bR;rw[aq4 bR,anc]at hf;rw[hf]at this;exact this.symm
   generalize m.Frames.dropLast=Fr at *;have NO:Fr.length+1<=32:=by rw[qe]at fL;simpa using fL
   have Sz:f.aL.length<=40:=hL f (by rw[qe];simp);have hLF:∀g∈Fr,g.aL.length<=40:=λg hg=>hL g (by rw[qe];simp[hg])
   have hLk:∀(g0:aG),g0.aL.length<=40->∀g∈Fr++ [g0],g.aL.length<=40:=by
    intro g0 h0 g hg;rcases apr.1 hg with hg|hg
    ·exact hLF g hg
    ·simp at hg;rw[hg];exact h0
   have T2:0<=m.Told.Fuel/\m.Told.Fuel<=((n+1:Nat):Int):=by omega
   have hB2:f.bP.toNat<=m.Stack.length:=by omega
   have rU:m.Stack=m.Stack.take f.bP.toNat++(dQ m f).reverse:=by unfold dQ;rw[aqD,apv]
   have pM:(m.Stack.take f.bP.toNat).length+(dQ m f).length=m.Stack.length:=by
    have:=congrArg List.length rU;rw[aph,aqY]at this;exact this.symm
   have hWt:WL (dQ m f):=by unfold dQ;exact(hW.drop _).rev
   have fail:∀e,Jv c w0 (n+1) (eO m e):=λe=>⟨hE,fL,by show m.Stack.length<=_;omega,hW,hL,T2,hw⟩
   generalize jL s.Code f.At=x at h;obtain⟨i,k,e⟩:=x;unfold sq at h;simp only at h;split at h
   ·cases h
   split at h
   ·rw[<-ao9 h];exact⟨hE,by simp;omega,by show m.Stack.length<=_;omega,hW,hLk _ Sz,T2,hw⟩
   split at h
   ·unfold EP at h;split at h
    ·rename_i v S hv;rw[hv]at pM hWt;rw[<-ao9 h];refine⟨hE,by simp;omega,?_,?_,hLk _ Sz,T2,hw⟩
     ·simp only[aph,aqY,apj]at pM⊢;omega
     ·exact(hW.take _).app hWt.tail.rev
    ·cases h
   split at h
   ·unfold JQ at h;split at h
    ·rename_i v S hv;rw[hv]at pM hWt;have hv1:ar v=v:=hWt v (by simp);rw[<-ao9 h];split
     ·exact⟨hE,by simp,by simp only[apG];omega,hW.take _,by simp,T2,hw⟩
     ·refine⟨hE,by show Fr.length<=32;omega,?_,(hW.take _).app (λy hy=>?_),hLF,T2,hw⟩
      ·simp only[aph,apG,apj,apC];omega
      ·simp at hy;rw[hy,hv1,hv1]
    ·cases h
   split at h
   ·split at h
    ·split at h
     ·rw[<-ao9 h];exact fail 17
     ·cases h
    ·rename_i pP au;unfold EO at h;split at h
     ·rename_i hp;obtain⟨nu,uD⟩:=hp;rw[<-ao9 h];generalize (bN c).fn i.Arg=r at *;obtain⟨-,oe,-⟩:=oh dc;have hr:=oe r uD.1 (by have:=uD.2;omega);have jn:((bN c).lo r ((dQ m f).take ((bN c).pa r)).reverse).length<=40:=by
       show(List.map ar ((dQ m f).take (aB c.B.Tables.Params r).toNat).reverse++List.replicate _ 0).length<=40;simp only[aph,apx,aqY,apG,List.length_replicate];omega
      refine⟨hE,?_,?_,hW.take _,?_,T2,hw⟩
      ·simp only[aph,apj,apC];have:¬32<=m.Frames.length:=au;rw[qe]at this;simp at this;omega
      ·simp only[apG];omega
      ·intro g hg;rcases apr.1 hg with hg|hg
       ·exact hLk _ (by exact Sz) g hg
       ·simp at hg;rw[hg];exact jn
     ·cases h
   cases hJ:(bN c).J i (dQ m f) f.aL (eL m)with
   | none=>rw[hJ]at h;cases h
   | some ev=>
     have aN:yM c (dQ m f) f.aL (eL m) ev:=instJ_ok hJ;have hle:EvL (eL m) ev:=instJ_lens hJ;rw[hJ]at h;cases ev with
     | bH e=>rw[<-ao9 h];exact fail e
     | over σ'=>
       rw[<-ao9 h];have h1:σ'.Fuel=m.Told.Fuel:=aN.1;have hFs:0<=σ'.Fuel/\σ'.Fuel<=((n+1:Nat):Int):=by omega
       exact⟨hE,by show(Fr++ [_]).length<=32;simp;omega,by show m.Stack.length<=_;omega,hW,hLk _ Sz,hFs,JH hw hle⟩
     | ok S' L' σ'=>
       rw[<-ao9 h];obtain⟨⟨f1,f2,-⟩,-,g1,g2,g3⟩:=aN;have f1':m.Told.Fuel<=σ'.Fuel:=f1;have f2':σ'.Fuel<=m.Told.Fuel+1:=f2;have hFs:0<=σ'.Fuel/\σ'.Fuel<=((n+1:Nat):Int):=by omega
       refine⟨hE,by show(Fr++ [_]).length<=32;simp;omega,?_,(hW.take _).app (g1 hWt).rev,hLk _ (by show L'.length<=40;omega),hFs,JH hw hle⟩;show(m.Stack.take f.bP.toNat++S'.reverse).length<=_;rw[aph,aqY];omega
  ·cases h
 ·cases h
theorem SA{c:XC}{s:al}{w0:aj}(dc:fD c.B.Tables=true)(N1:s.Entry.length=c.B.Tables.Params.length):∀(k n:Nat) (m m':ae),Jv c w0 n m->iterM (bN c) s k m=some m'->Jv c w0 (n+k) m'
 | 0,n,m,m',hj,h=>by cases h;exact hj
 | k+1,n,m,m',hj,h=>by
   rw[iterM]at h;cases hs:gN (bN c) s m with
   | none=>rw[hs]at h;cases h
   | some m1=>
     rw[hs]at h;have:=SA dc N1 k (n+1) m1 m' (aeV dc N1 hj hs) h;rw[show n+(k+1)=n+1+k by omega];exact this
theorem T3{o n:Int}{k:Nat}(ho:1<=o/\o<38)(hk:k<=2):∀y∈fO o n k,0<=y/\y<=255:=by
 intro y hy;unfold fO at hy;rcases apq.1 hy with rfl|hy
 ·omega
 ·match k,hk with
  | 0,_=>simp[kg]at hy
  | 1,_=>simp[kg]at hy;omega
  | 2,_=>simp[kg]at hy;omega
theorem QH(w:Zl):∀(z:Zl) (k:Nat),(∀p∈z,jmp p.1.Op=true->p.2<=2)->∀y∈fk w k z,0<=y/\y<=255
 | [],k,_,y,hy=>by simp[fk]at hy
 | p::z,k,hp,y,hy=>by
   rw[fk]at hy;rcases apr.1 hy with hy|hy
   ·unfold oI at hy;split at hy
    ·simp at hy
    ·split at hy
     ·rename_i hj;have ho:p.1.Op=24\/p.1.Op=25:=by simpa[jmp]using hj
      exact T3 (by omega) (hp p (by simp) hj) y hy
     ·unfold nk at hy;split at hy
      ·simp at hy
      ·exact T3 (by omega) (qB _) y hy
   ·exact QH w z _ (λq hq=>hp q (by simp[hq])) y hy
theorem acT(l:List ai):(pH l).2=0\/(pH l).1=[]:=by
 unfold pH;split
 ·exact .inr rfl
 ·split
  ·split
   ·exact .inr rfl
   ·split
    ·exact .inr rfl
    ·exact .inl rfl
  ·exact .inr rfl
theorem aaw(l:List ai):∀y∈(pH l).1,0<=y/\y<=255:=by
 by_cases h0:(pH l).2=0
 ·obtain⟨z,h1,h2,h3,h4⟩:=Py (l:=l) (c:=(pH l).1) (by rw[<-h0]);rw[h3];refine QH z z 0 (λp hp hj=>?_);obtain⟨a,b,rfl⟩:=aq2 hp;have:=h2 a p b rfl;exact this.1
 ·rcases acT l with h|h
  ·exact absurd h h0
  ·rw[h];simp
theorem Rp{b:cM}{s:al}(h:fu b=(s,0)):∀y∈s.Code,0<=y/\y<=255:=by
 unfold fu at h;split at h
 ·simp at h
 ·split at h
  ·rename_i he;simp only[ao7]at h;exact absurd h.2 he
  ·split at h
   ·simp at h
   ·simp only[ao7,and_true]at h;subst h;have:∀k,∀y∈(stM b k).2,0<=y/\y<=255:=by
     intro k
     induction k with
     | zero=>intro y hy;simp[stM]at hy
     | succ k ih=>
       intro y hy;rw[stM]at hy;rcases apr.1 hy with hy|hy
       ·exact ih y hy
       ·unfold ld at hy;split at hy
        ·simp at hy
        ·exact aaw _ y hy
    exact this _
theorem aeW{b:List Int}(hb:∀y∈b,0<=y/\y<=255)(i k:Int): -32768<=nP b i k/\nP b i k<=32767:=by
 have hg:0<=aB b i/\aB b i<=255:=by
  unfold aB;cases hx:b[i.toNat]? with
  | none=>simp
  | some y=>exact hb y (ape hx)
 unfold nP;split
 ·split<;>omega
 ·split
  ·rw[iA];omega
  ·omega
theorem Xz{b:List Int}(hb:∀y∈b,0<=y/\y<=255){at_:Int}{i:ai}{k:Int}(h:jL b at_=(i,k,0)):(0<=k/\k<=b.length)/\(-32768<=i.Arg/\i.Arg<=32767)/\(1<=i.Op/\i.Op<38):=by
 unfold jL at h;split at h
 ·simp at h
 split at h
 ·simp at h
 split at h
 ·simp at h
 split at h
 ·simp at h
 ·rename_i h1 h2 h3 h4;simp only[ao7,and_true]at h;obtain⟨rfl,rfl⟩:=h;have:=aeW hb (at_+1) (aB b at_ % 4);refine⟨by omega,this,by simp only;omega⟩
end Go.Ab

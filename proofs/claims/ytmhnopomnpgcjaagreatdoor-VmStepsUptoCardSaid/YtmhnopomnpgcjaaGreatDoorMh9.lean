/-
  The texts Vtl3 Vtl6 Lreach Vtl7 E2 Vtl9 Vr1 Vr2 Vr3 Vr4 Vr4b Vr5 Vr6 Vtl8 Vtl10 Vtl11 Ltot2 Vstory Vok Vlocs Lvm Vdec Vdec2 Vdec3 Xnew Vtale Vawk Vawk2 Gbulk Vlaw1, one behind the other.
-/
import Derived.Test.YtmhnopomnpgcjaaGreatDoorMh8
set_option linter.unusedSimpArgs false
set_option linter.unusedVariables false
namespace Go.Ab
open Go.Proofs Go.Proofs.Tryz
set_option maxHeartbeats 4000000
set_option maxRecDepth 20000
def Jm:ByteArray:=⟨#[44,32]⟩
def aga:ByteArray:=⟨#[32,97,110,100,32]⟩
def yH(n k:Nat):ByteArray:=if k+2=n then aga else Jm
def qE(l:List ByteArray):Nat->ByteArray
 | 0=>l[0]?.getD ⟨#[]⟩
 | k+1=>qE l k++(yH l.length k++l[k+1]?.getD ⟨#[]⟩)
theorem L7(a:ByteArray)(l:List ByteArray)(h:2<=l.length):∀k,qE (a::l) (k+1)=a++(Jm++qE l k)
 | 0=>by
   rw[qE,qE];have:yH (a::l).length 0=Jm:=by unfold yH;rw[if_neg (by simp;omega)]
   rw[this];simp[qE]
 | k+1=>by
   rw[qE,L7 a l h k,qE];have:yH (a::l).length (k+1)=yH l.length k:=by unfold yH;simp
   rw[this];simp[aqC]
theorem Qf:∀l:List ByteArray,l≠ []->qE l (l.length-1)=uR l
 | [],h=>absurd rfl h
 | [a],_=>rfl
 | [a,b],_=>by
   show a++(yH 2 0++b)=a++aga++b;rw[aqC];rfl
 | a::b::c::l,_=>by
   have ih:=Qf (b::c::l) (by simp);show qE (a::b::c::l) ((l.length+1)+1)=a++Jm++uR (b::c::l);rw[L7 a (b::c::l) (by simp),<-ih,aqC];rfl
theorem L8(l:List ByteArray)(h:∀s∈l,s.size<=1024):∀k,(qE l k).size<=1029 *(k+1)
 | 0=>by
   unfold qE;cases h0:l[0]? with
   | none=>have:(ByteArray.mk #[]).size=0:=rfl;simp only[Option.getD_none];omega
   | some s=>have:=h s (aoO h0);simp only[apA];omega
 | k+1=>by
   have ih:=L8 l h k;rw[qE,ao6,ao6];have h1:(yH l.length k).size<=5:=by unfold yH;split<;>decide
   have h2:(l[k+1]?.getD ⟨#[]⟩).size<=1024:=by
    cases h0:l[k+1]? with
    | none=>have:(ByteArray.mk #[]).size=0:=rfl;simp only[Option.getD_none];omega
    | some s=>have:=h s (aoO h0);simpa using this
   omega
theorem KN(t:ar)(w:aj)(x:Int)(hf:eJ t=true)(aO:ig t w)(hF:cZ w):Pure prog 82 [.agg (t.enc.map .d),.agg (w.enc.map .d),iD x] (.d (.v (.string (r9 t w x)))):=by
 have hn:w.ae.length<=128:=by have:=aO.hT;have:=aO.hn;omega
 have mb:=LQ t w aO.wf aO.hC aO.hN hF (by omega) x;have hlen:((iI w x).map (dB t)).length<=128:=by
  rw[ao8];have:=aqn (λy=>!cU w y 3&&decide (y≠1)) (br w.tree x);have h2:(br w.tree x).length<=w.ae.length:=mI w.tree x;unfold iI;omega
 have dZ:∀s∈(iI w x).map (dB t),s.size<=1024:=by
  intro s hs;obtain⟨y,_,rfl⟩:=aoQ.1 hs;exact iU hf y
 unfold r9;generalize (iI w x).map (dB t)=l at *;by_cases h0:l=[]
 ·subst h0;refine rn func82 ?_;simp[-cB,f82];intro bs;refine pC mb ?_;simp;rfl
 have iZ:0<l.length:=apB.2 h0;have bR:¬l.length=0:=by omega
 rw[<-Qf l h0];have hrk:=L8 l dZ;have e0:l[0]?.getD ⟨#[]⟩=l[0]:=by rw[akC iZ];rfl
 have bU:aN .i64 ((l.length:Int)-1):=iW;refine rn func82 ?_;simp[-cB,f82];intro bs;refine pC mb ?_;simp[h0,iZ,bR,bU];refine av.cI [7,8,23,24] (l.length-1) (λi=> [(24,iD i),(8,.d (.v (.string (qE l i))))]) (λ_=> []) (λ_=>True) (by rfl) (by simp[qE,e0]) ?_;intro i hi _;rcases aoR hi with aw|heq
 ·have dj:(i:Int)<(l.length:Int)-1:=by omega
  have WI:aN .i64 ((i:Int)+1):=iW;have nP:i+1<l.length:=by omega
  have e1:l[i+1]?.getD ⟨#[]⟩=l[i+1]:=by rw[akC nP];rfl
  have ajS:aN .i64 ((l.length:Int)-2):=iW;have hk:=hrk i;have vl:=dZ l[i+1] (aoV nP);have z5:(ByteArray.mk #[32,97,110,100,32]).size=5:=rfl;have z2:(ByteArray.mk #[44,32]).size=2:=rfl;simp[dj,ajS];rw[e1];refine⟨λh=>⟨WI,⟨by omega,nP⟩,by omega,by omega,WI,aw,?_⟩,λh=>⟨WI,⟨by omega,nP⟩,by omega,by omega,WI,aw,?_⟩⟩
  ·rw[qE,e1,yH,if_pos (by omega)];rfl
  ·rw[qE,e1,yH,if_neg (by omega)];rfl
 ·have bm:¬(i:Int)<(l.length:Int)-1:=by omega
  simp[bm];rw[heq]
end Go.Ab
namespace Go.Ab
set_option maxHeartbeats 4000000
set_option maxRecDepth 20000
open Go.Proofs Go.Proofs.Tryz
theorem aaf{p:Int->Bool}(l:List Int)(y:Int):(l++ [y]).filter p=l.filter p++if p y then [y]else []:=by
 rw[List.filter_append];cases h:p y<;>simp[List.filter,h]
theorem aag{w:aj}{y:Int}(hy:1<=y/\y<w.ae.length)(f:Int)(hf:0<=f/\f<=15):cz w y f=0:=by
 unfold cz;rw[if_pos (aY.2 hy),if_pos hf]
theorem Gl(w:aj)(hw:w.wf)(hF:cZ w)(hn:w.ae.length≤100000)(x:Int):
  Pure prog 147 [.agg (w.enc.map .d),iD x] (.d (.sl (aC (iI w x)))):=by
 have hk:=oz w hw x;have hlen:(br w.tree x).length<=w.ae.length:=mI w.tree x;have fp:∀y∈br w.tree x,1<=y/\y<w.ae.length:=λy hy=>nX hy
 unfold iI;change Pure prog 147 [.agg (w.enc.map .d),iD x] (.d (.sl (aC ((br w.tree x).filter (Ek w)))));generalize br w.tree x=ks at *;refine rn func147 ?_;simp[-cB,f147];intro bs;refine pC hk ?_;simp[-cB];refine av.weaken (Wk.GQ (t:=5) (h:=5404) (k:=1) (ty:=3) (by rfl) (by simp[keys])) ?_;refine av.cI [2,5,12,13,14] ks.length (λi=> [(14,iD i)]) (λi=> [(5404,.row 3 1 (dd (aC ((ks.take i).filter (Ek w)))))]) (λ_=>True) (by rfl) (by simp) ?_;intro i hi _;rcases aoR hi with aw|rfl
 ·have dj:(i:Int)<ks.length:=by omega
  have bU:aN .i64 ((i:Int)+1):=iW;have hs:ks.take (i+1)=ks.take i++ [ks[i]]:=by rw[api,akC aw];rfl
  have lV:((ks.take i).filter (Ek w)).length<=i:=by
   have:=aqn (Ek w) (ks.take i);rw[apg]at this;omega
  have hh:=Gh w hF ks[i] 3;rw[aag (fp _ (aoV aw)) 3 (by omega)]at hh;simp only[decide_true,apy,show(3:Int).toNat=3 from rfl]at hh;have dH:=aaf (p:=Ek w) (ks.take i) ks[i];rw[<-hs]at dH;rw[show Ek w ks[i]=(!cU w ks[i] 3&&decide (ks[i]≠1))from rfl]at dH;generalize cU w ks[i] 3=B at *;simp[-cB,aw,dj];refine pC hh ?_;simp[-cB];by_cases h1:ks[i]=1
  ·simp[h1]at dH;simp[h1,bU,dH];exact aw
  ·cases B with
   | true=>
     simp at dH;simp[bU,dH];exact aw
   | false=>
     simp[h1]at dH;simp[h1,bU,dH];exact⟨by omega,aw⟩
 ·simp
theorem Qg(t:ar)(hf:eJ t=true):∀(l:List Int),l≠ []->l.length<=1000->Pure prog 149 [.agg (t.enc.map .d),.d (.sl (aC l))] (.d (.v (.string (uR (l.map (dB t))))))
 | [],h,_=>absurd rfl h
 | [a],_,_=>by
   have ha:=qK t a;show Pure prog 149 [.agg (t.enc.map .d),.d (.sl (aC [a]))] (.d (.v (.string (dB t a))));generalize dB t a=A at *;refine rn func149 ?_;simp[-cB,f149];intro bs;refine av.bT [.d (.v (.string A))] aT (by kernel_rfl) (by rfl) ?_;simp;exact ha.ok _
 | [a,b],_,_=>by
   have ha:=qK t a;have hb:=qK t b;have za:=iU hf a;have zb:=iU hf b;have z5:(ByteArray.mk #[32,97,110,100,32]).size=5:=rfl;show Pure prog 149 [.agg (t.enc.map .d),.d (.sl (aC [a,b]))] (.d (.v (.string (dB t a++⟨#[32,97,110,100,32]⟩++dB t b))));generalize dB t a=A at *;generalize dB t b=B at *;refine rn func149 ?_;simp[-cB,f149];intro bs;refine av.bT [.d (.v (.string A)),.d (.v (.string B))] aT (by kernel_rfl) (by rfl) ?_;simp;exact⟨ha.ok _,by omega,hb.ok _,by omega⟩
 | a::b::c::l,_,hl=>by
   have ih:=Qg t hf (b::c::l) (by simp) (by simp at hl⊢;omega);have ha:=qK t a;have za:=iU hf a;have zr:=Er ((b::c::l).map (dB t)) (by intro s hs;obtain⟨y,_,rfl⟩:=aoQ.1 hs;exact iU hf y);have z2:(ByteArray.mk #[44,32]).size=2:=rfl;show Pure prog 149 [.agg (t.enc.map .d),.d (.sl (aC (a::b::c::l)))] (.d (.v (.string (dB t a++⟨#[44,32]⟩++uR ((b::c::l).map (dB t))))));generalize dB t a=A at *;generalize hR:uR ((b::c::l).map (dB t))=R at *;rw[ao8]at zr;have sW:¬(a::b::c::l).length=1:=by simp
   have lW:¬(a::b::c::l).length=2:=by simp
   have e1:(b::c::l)=(a::b::c::l).drop 1:=rfl;rw[e1]at ih;have ajT:¬((a::b::c::l).length:Int)=1:=by simp;omega
   have ajU:¬((a::b::c::l).length:Int)=2:=by simp;omega
   have ahI:1<=(a::b::c::l).length:=by simp
   have adf:0<(a::b::c::l).length:=by simp
   have hg0:(a::b::c::l)[0]'adf=a:=rfl;have zq:(b::c::l).length<=1000:=by simp at hl⊢;omega
   clear e1;generalize (b::c::l).length=q at *;generalize a::b::c::l=L at *;refine rn func149 ?_;simp[-cB,f149];intro bs;simp[sW,lW,ajT,ajU];refine av.bT [.d (.v (.string A)),.d (.v (.string R))] aT (by kernel_rfl) (by rfl) ?_;simp[ahI,adf,hg0];have et:(aC L).tail=aC (L.drop 1):=by cases L<;>rfl
   rw[et];exact⟨ha.ok _,by omega,ih.ok _,by omega⟩
theorem KO(t:ar)(w:aj)(x:Int)(hf:eJ t=true)(hw:w.wf)(hF:cZ w)(hn:w.ae.length<=128):Pure prog 93 [.agg (t.enc.map .d),.agg (w.enc.map .d),iD x] (.d (.v (.string (r9 t w x)))):=by
 have mb:=Gl w hw hF (by omega) x;have hlen:(iI w x).length<=128:=by
  have:=aqn (λy=>!cU w y 3&&decide (y≠1)) (br w.tree x);have h2:(br w.tree x).length<=w.ae.length:=mI w.tree x;unfold iI;omega
 unfold r9;generalize iI w x=l at *;by_cases h0:l=[]
 ·subst h0;refine rn func93 ?_;simp[-cB,f93];intro bs;refine pC mb ?_;simp;rfl
 ·have hr:=Qg t hf l h0 (by omega);have bR:¬l.length=0:=by have:=apB.2 h0;omega
  refine rn func93 ?_;simp[-cB,f93];intro bs;refine pC mb ?_;simp[h0,bR];refine pC hr ?_;simp[-cB]
theorem yI(w:aj)(hF:cZ w)(x f:Int)(hf:0<=f/\f<=15):Pure prog 215 [.agg (w.enc.map .d),iD x,iD f] (oD (cU w x f.toNat)):=by
 have hl:=hF.1;unfold cU;by_cases h1:1<=x
 ·by_cases h2:x<w.Flags.length
  ·have aw:x.toNat<w.Flags.length:=by omega
   have h0:0<=x:=by omega
   have hg:w.Flags[x.toNat]?.getD 0=aA w.Flags x:=rfl;have bm:w.Flags[x.toNat]'aw=aA w.Flags x:=by rw[<-hg,akC aw];rfl
   have hm:=hF.2 (aA w.Flags x) (by rw[<-bm];exact aoV _);rw[aY.2 (by omega),apy];refine rn func215 ?_;simp[-cB,f215];rw[hg];refine⟨λ_ _=>⟨⟨h0,aw⟩,h1,h2⟩,λ_ _=>⟨hf.1,h1,h2⟩,?_⟩;have bU:IntKind.i64.bits=64:=rfl;rw[decide_eq_true h1,decide_eq_true h2,bU,aqV (by omega),aqP _ (Int.pow_nonneg (by decide)),apa (Int.ediv_nonneg hm.1 (Int.pow_nonneg (by decide)))];rfl
  ·rw[Lj.2 (by omega),Bool.false_and];refine rn func215 ?_;simp[-cB,f215];exact⟨λ_ h=>absurd h h2,λ_ h=>absurd h h2,λ_ h=>absurd h h2⟩
 ·rw[Lj.2 (by omega),Bool.false_and];refine rn func215 ?_;simp[-cB,f215];exact⟨λh=>absurd h h1,λh=>absurd h h1,λh=>absurd h h1⟩
theorem WJ(w:aj)(hF:cZ w)(x:Int):Pure prog 255 [.agg (w.enc.map .d),iD x] (oD (tK w x)):=by
 have h2:=yI w hF x 2 (by decide);have h1:=yI w hF x 1 (by decide);unfold tK;simp only[show(2:Int).toNat=2 from rfl,show(1:Int).toNat=1 from rfl]at h1 h2;generalize cU w x 2=A at *;generalize cU w x 1=B at *;refine rn func255 ?_;simp[-cB,f255];intro bs;refine pC h2 ?_;simp[-cB];refine pG h1 ?_;simp[-cB]
set_option maxHeartbeats 200000
set_option maxRecDepth 512
theorem BW(nx:List Int):∀(a j:Nat) (z:Int),cF nx (a+j) z=cF nx j (cF nx a z)
 | a,0,z=>rfl
 | a,j+1,z=>by
   rw[show a+(j+1)=(a+j)+1 by omega,fA,fA,BW nx a j z]
theorem L9{nx:List Int}(h0:aH nx 0=0):∀k,cF nx k 0=0
 | 0=>rfl
 | k+1=>by rw[fA,L9 h0 k,h0]
theorem Ch.iter{nx:List Int}{n:Nat}{c:Int}{l:List Int}(h0:aH nx 0=0)(h:Ch nx n c l):∀k,cF nx k c∈l\/cF nx k c=0:=by
 induction h with
 | nil=>intro k;exact .inr (L9 h0 k)
 | @cons c l h t ih=>
   intro k;cases k with
   | zero=>exact .inl (by simp[cF])
   | succ k=>
     rw[show k+1=1+k by omega,BW];have:cF nx 1 c=aH nx c:=by rw[fA];rfl
     rw[this];rcases ih k with h|h
     ·exact .inl (aoW _ h)
     ·exact .inr h
theorem Ch.aah{nx:List Int}{n:Nat}{c:Int}{l:List Int}(h0:aH nx 0=0)(h:Ch nx n c l)(hc:1<=c)(m:Nat):cF nx (m+1) c≠c:=by
 have gv:=h.nodup;cases h with
 | nil=>omega
 | @cons _ l hb t=>
   intro e;rw[show m+1=1+m by omega,BW]at e;have h1:cF nx 1 c=aH nx c:=by rw[fA];rfl
   rw[h1]at e;rcases t.iter h0 m with h|h
   ·rw[e]at h;exact(apx.1 gv).1 h
   ·omega
theorem Hv{f:Int->List Int}:∀ks:List Int,ks.Nodup->(∀y∈ks,(f y).Nodup)->(∀y1∈ks,∀y2∈ks,y1≠y2->∀z∈f y1,z∉f y2)->(ks.flatMap f).Nodup
 | [],_,_,_=>by simp
 | y::ks,h1,h2,h3=>by
   obtain⟨g1,g2⟩:=apx.1 h1;rw[List.flatMap_cons,aqd];refine⟨h2 y (by simp),Hv ks g2 (λx hx=>h2 x (by simp[hx])) (λa ha b hb=>h3 a (by simp[ha]) b (by simp[hb])),λa ha b hb e=>?_⟩;subst e;obtain⟨y2,yg,hz⟩:=aqK.1 hb;exact h3 y (by simp) y2 (by simp[yg]) (by rintro rfl;exact g1 yg) a ha hz
section
variable {w : aj}
def qF(w:aj)(d:Nat)(y:Int):List Int:=if cU w y 3 then []else y::(if tK w y then jG w d y else [])
theorem rV(w:aj)(d:Nat)(x:Int):jG w (d+1) x=(br w.tree x).flatMap (qF w d):=rfl
theorem s7{ls:Int->List Int}(hn:ec w.tree w.ae.length ls){x y:Int}(h:y∈br w.tree x):aH w.ae y=x/\(1<=x/\x<w.ae.length)/\(1<=y/\y<w.ae.length):=by
 have hx:1<=x/\x<w.ae.length:=by
  unfold br at h;split at h
  ·rename_i hx;exact aY.1 hx
  ·simp at h
 have hy:=nX h;rw[hn.kids hx]at h;exact⟨hn.par x hx.1 hx.2 y h,hx,hy⟩
theorem Jo{ls:Int->List Int}(hn:ec w.tree w.ae.length ls):∀(d:Nat) (y z:Int),1<=y/\y<w.ae.length->z∈qF w d y->(1<=z/\z<w.ae.length)/\∃k,cF w.ae k z=y:=by
 intro d
 induction d with
 | zero=>
   intro y z hy hz;unfold qF at hz;split at hz
   ·simp at hz
   ·rcases ao0.1 hz with rfl|hz
    ·exact⟨hy,0,rfl⟩
    ·split at hz
     ·simp[jG]at hz
     ·simp at hz
 | succ d ih=>
   intro y z hy hz;unfold qF at hz;split at hz
   ·simp at hz
   ·rcases ao0.1 hz with rfl|hz
    ·exact⟨hy,0,rfl⟩
    ·split at hz
     ·rw[rV]at hz;obtain⟨u,hu,hzu⟩:=aqK.1 hz;obtain⟨p1,p2,p3⟩:=s7 hn hu;obtain⟨q1,k,q2⟩:=ih u z p3 hzu;exact⟨q1,k+1,by rw[fA,q2,p1]⟩
     ·simp at hz
theorem Ma{ls:Int->List Int}(hn:ec w.tree w.ae.length ls)(d:Nat){x y1 y2:Int}(h1:y1∈br w.tree x)(h2:y2∈br w.tree x)(bR:y1≠y2):∀z∈qF w d y1,z∉qF w d y2:=by
 intro z HE sI;obtain⟨a1,a2,a3⟩:=s7 hn h1;obtain⟨b1,-,b3⟩:=s7 hn h2;obtain⟨-,a,ha⟩:=Jo hn d y1 z a3 HE;obtain⟨-,b,hb⟩:=Jo hn d y2 z b3 sI;obtain⟨l,hl⟩:=hn.ends x a2.1 a2.2;have h0:aH w.ae 0=0:=hn.p0;have key:∀(a b:Nat) (y1 y2:Int),cF w.ae a z=y1->cF w.ae b z=y2->aH w.ae y1=x->aH w.ae y2=x->¬a<b:=by
  intro a b y1 y2 ha hb p1 p2 aw;have e:cF w.ae (a+1) z=x:=by rw[fA,ha,p1]
  have e2:cF w.ae (b-(a+1)) x=y2:=by rw[<-e,<-BW,show a+1+(b-(a+1))=b by omega,hb]
  exact hl.aah h0 a2.1 (b-(a+1)) (by rw[fA];show aH w.ae (cF w.ae (b-(a+1)) x)=x;rw[e2,p2])
 rcases Nat.lt_trichotomy a b with h|h|h
 ·exact key a b y1 y2 ha hb a1 b1 h
 ·subst h;exact bR (ha.symm.trans hb)
 ·exact key b a y2 y1 hb ha b1 a1 h
theorem aai{ls:Int->List Int}(hn:ec w.tree w.ae.length ls):∀(d:Nat) (y:Int),1<=y/\y<w.ae.length->(qF w d y).Nodup:=by
 intro d
 induction d with
 | zero=>
   intro y hy;unfold qF;split
   ·simp
   ·split<;>simp[jG]
 | succ d ih=>
   intro y hy;unfold qF;split
   ·simp
   ·split
    ·rw[apx,rV];refine⟨λhm=>?_,Hv _ (hn.O7 y) (λu hu=>ih u (s7 hn hu).2.2) (λa ha b hb bR=>Ma hn d ha hb bR)⟩;obtain⟨u,hu,hzu⟩:=aqK.1 hm;obtain⟨p1,p2,p3⟩:=s7 hn hu;obtain⟨-,k,q⟩:=Jo hn d u y p3 hzu;obtain⟨l,hl⟩:=hn.ends y hy.1 hy.2;exact hl.aah (nx:=w.ae) hn.p0 hy.1 k (by rw[fA,q,p1])
    ·simp
theorem Mb{ls:Int->List Int}(hn:ec w.tree w.ae.length ls)(d:Nat)(x:Int):(jG w d x).length<=w.ae.length:=by
 cases d with
 | zero=>simp[jG]
 | succ d=>
   rw[rV];have h1:=Hv _ (hn.O7 x) (λu hu=>aai hn d u (s7 hn hu).2.2) (λa ha b hb bR=>Ma hn d ha hb bR);have h2:∀z∈(br w.tree x).flatMap (qF w d),1<=z/\z<w.ae.length:=by
    intro z hz;obtain⟨u,hu,hzu⟩:=aqK.1 hz;exact(Jo hn d u z (s7 hn hu).2.2 hzu).1
   rcases ya h1 h2 with h|h
   ·omega
   ·rw[h];simp
theorem aeL{ls:Int->List Int}(hn:ec w.tree w.ae.length ls){x y:Int}(h:y∈br w.tree x):(ik w.tree y).length=(ik w.tree x).length+1:=by
 obtain⟨p1,p2,p3⟩:=s7 hn h;have h1:=hn.YQ p2;have h2:=hn.YQ p3;have h3:Ch w.ae w.ae.length y (y::ik w.tree x):=Ch.cons p3 (by rw[p1];exact h1);rw[h2.uniq h3];simp
theorem agb{ls:Int->List Int}(hn:ec w.tree w.ae.length ls){x:Int}(hx:1<=x/\x<w.ae.length):(ik w.tree x).length<w.ae.length:=by
 have h:=hn.YQ hx;rcases ya h.nodup h.mem with h2|h2
 ·exact h2
 ·rw[h2];simp;omega
end
set_option maxHeartbeats 4000000
set_option maxRecDepth 20000
theorem Mc{l:List Int}{i:Nat}(h:i<l.length):l.take (i+1)=l.take i++ [l[i]]:=by rw[api,akC h];rfl
theorem agc{f:Int->List Int}(l:List Int)(i:Nat):((l.take i).flatMap f).length<=(l.flatMap f).length:=by
 conv=>rhs;rw[<-ao5 i l,List.flatMap_append,aoS]
 omega
def sD(w:aj)(d:Nat)(ks:List Int)(i:Nat):List Int:=(ks.take i).flatMap (qF w d)
theorem Md(w:aj)(d:Nat)(ks:List Int):sD w d ks 0=[]:=rfl
theorem Qh(w:aj)(d:Nat)(ks:List Int):sD w d ks ks.length=ks.flatMap (qF w d):=by unfold sD;rw[apl]
theorem Qi(w:aj)(d:Nat)(ks:List Int)(i:Nat):(sD w d ks i).length<=(ks.flatMap (qF w d)).length:=agc ks i
theorem Me(w:aj)(d:Nat)(ks:List Int)(i:Nat)(h:i<ks.length):sD w d ks (i+1)=sD w d ks i++(if cU w ks[i] 3 then []else ks[i]::(if tK w ks[i]then jG w d ks[i]else [])):=by
 unfold sD;rw[Mc h,List.flatMap_append];simp[qF]
theorem Es(w:aj)(hw:w.wf)(hF:cZ w)(hn:w.ae.length<=1000){ls:Int->List Int}(Mf:ec w.tree w.ae.length ls):∀(d:Nat),d<=1000->∀x:Int,Pure prog 216 [.agg (w.enc.map .d),iD x,iD d] (.d (.sl (aC (jG w d x))))
 | 0,_,x=>by
   have hk:=oz w hw x;generalize br w.tree x=ks at *;show Pure prog 216 [.agg (w.enc.map .d),iD x,iD (0:Nat)] (.d (.sl (aC [])));refine rn func216 ?_;simp[-cB,f216];intro bs;refine pC hk ?_;simp[-cB];refine av.cI [2,3,7,8,9] 0 (λi=> [(9,iD i)]) (λ_=> []) (λ_=>True) (by rfl) (by simp) ?_;intro i hi _;obtain rfl:i=0:=by omega
   by_cases h0:0<ks.length
   ·have AD:(0:Int)<ks.length:=by omega
    simp[h0,AD]
   ·simp[h0]
 | d+1,hd,x=>by
   have hk:=oz w hw x;have hlen:=Mb Mf (d+1) x;have tH:(br w.tree x).length<=w.ae.length:=mI w.tree x;have Tt:∀y∈br w.tree x,1<=y/\y<w.ae.length:=λy hy=>nX hy
   have ih:=Es w hw hF hn Mf d (by omega);rw[rV]at hlen⊢;generalize br w.tree x=ks at *;generalize hV:ks.flatMap (qF w d)=V0 at *;have Au:(0:Int)<(d+1:Nat):=by omega
   have yY:((d+1:Nat):Int)-1=d:=by omega
   have ajV:aN .i64 (d:Int):=iW;generalize ((d+1:Nat):Int)=D at *;refine rn func216 ?_;simp[-cB,f216];intro bs;refine pC hk ?_;simp[-cB];refine av.weaken (Wk.GQ (t:=7) (h:=5404) (k:=1) (ty:=3) (by rfl) (by simp[keys])) ?_;refine av.cI [2,3,7,8,9] ks.length (λi=> [(9,iD i)]) (λi=> [(5404,.row 3 1 (dd (aC (sD w d ks i))))]) (λ_=>True) (by rfl) (by simp[Md]) ?_;intro i hi _;rcases aoR hi with aw|rfl
   ·have dj:(i:Int)<ks.length:=by omega
    have bU:aN .i64 ((i:Int)+1):=iW;have lV:=Qi w d ks i;have Qj:=Qi w d ks (i+1);rw[hV]at lV Qj;have tc:=Me w d ks i aw;have hh:=yI w hF ks[i] 3 (by decide);have yX:=WJ w hF ks[i];have TH:=ih ks[i];simp only[show(3:Int).toNat=3 from rfl]at hh;rw[tc]at Qj;generalize hH:cU w ks[i] 3=H at *;generalize hS:tK w ks[i]=S at *;generalize hRy:jG w d ks[i]=Ry at *;simp only[aoS]at Qj;simp[-cB,dj,Au];refine av.bT [oD H] aT (by kernel_rfl) (by rfl) ?_;simp[-cB,aw];refine⟨hh.ok _,?_⟩;cases H with
    | true=>
      simp at tc;simp[bU,tc];exact aw
    | false=>
      simp at tc Qj;simp[-cB,aw];refine⟨by omega,?_⟩;refine av.bT [oD S] aT (by kernel_rfl) (by rfl) ?_;simp[-cB,aw];refine⟨yX.ok _,?_⟩;cases S with
      | false=>
        simp at tc;simp[bU,tc];exact aw
      | true=>
        simp at tc Qj;simp[-cB];refine av.aU [Q0,Q0,Q0,Q0,Q0,Q0,Q0,Q0,Q0,none,arb] [.d (.sl (aC Ry))] aT (by kernel_rfl) ?_;simp[-cB,aw,yY,ajV];rw[tc];exact⟨TH.ok _,by omega,bU,rfl⟩
   ·simp[Qh,hV]
theorem Mg(w:aj)(hw:w.wf):Pure prog 146 [.agg (w.enc.map .d)] (iD (cL w)):=by
 have ht:=rP w hw 1;unfold cL;refine rn func146 ?_;simp[-cB,f146];intro bs;refine pC ht ?_;simp[-cB]
def Et(w:aj)(l:List Int)(i:Nat):Bool:=(l.take i).any λy=>cU w y 0
theorem aaj(w:aj)(l:List Int):Et w l 0=false:=rfl
theorem acr(w:aj)(l:List Int):Et w l l.length=l.any λy=>cU w y 0:=by unfold Et;rw[apl]
theorem aak(w:aj)(l:List Int)(i:Nat)(h:i<l.length):Et w l (i+1)=(Et w l i||cU w l[i] 0):=by
 unfold Et;rw[Mc h,ap4];simp
theorem acs(t:ar)(w:aj)(aO:ig t w)(hF:cZ w)(hn:w.ae.length<=128):Pure prog 145 [.agg (t.enc.map .d),.agg (w.enc.map .d)] (oD (G8 w)):=by
 have hh:=Mg w aO.wf;have h0:=yI w hF (cL w) 0 (by decide);have hr:=Es w aO.wf hF (by omega) aO.nest w.ae.length (by omega) (cL w);have hrl:=Mb aO.nest w.ae.length (cL w);have hy:∀y,Pure prog 215 [.agg (w.enc.map .d),iD y,iD 0] (oD (cU w y 0)):=λy=>yI w hF y 0 (by decide)
 simp only[show(0:Int).toNat=0 from rfl]at h0;unfold G8;rw[<-acr];generalize cL w=x at *;generalize jG w w.ae.length x=l at *;generalize cU w x 0=A at *;refine rn func145 ?_;simp[-cB,f145];intro bs;refine pC hh ?_;simp[-cB];refine pC h0 ?_;simp[-cB];refine pC hr ?_;simp[-cB];refine av.cI [3,6,7,8] l.length (λi=> [(6,oD (A||Et w l i)),(8,iD i)]) (λ_=> []) (λ_=>True) (by rfl) (by simp[aaj]) ?_;intro i hi _;rcases aoR hi with aw|rfl
 ·have dj:(i:Int)<l.length:=by omega
  have bU:aN .i64 ((i:Int)+1):=iW;have hs:=aak w l i aw;have hyi:=hy l[i];generalize cU w l[i] 0=B at *;generalize Et w l i=C at *;simp[-cB,dj,aw];refine av.bT [oD B] aT (by kernel_rfl) (by rfl) ?_;simp[-cB,aw];exact⟨λa b=>⟨⟨a,b⟩,hyi.ok _⟩,bU,by rw[hs,Bool.or_assoc]⟩
 ·simp
set_option maxHeartbeats 200000
set_option maxRecDepth 512
section
variable {P : Program} {n : Nat} {s : St} {Q : AX -> St -> Prop}
theorem au.agd{ops:Array Oper}{o:Oper}{rest:List Oper}{c:Call}{f:FuncId}{args:List V}{L1 La Lb:aI}{x y:V}(hs:List Nat)(aD:o.op= .call c)(h:aE P f args L1 (fun r L=>(r= .ret x∧L=La)∨(r= .ret y∧L=Lb)))(hc:callee s.ev c=some (f,args))(hg:o.guard=none)
  (hd:∀d,o.dst=some d->d<n) (hr:dG n rest=true) (he:enters P f=true) (hL:s.L.filter (λp=>hs.contains p.1)=L1)
  (ho:V.dE (keys L1) args=true/\L1.all (λp=>aV.on (keys L1) p.2)=true/\L1.all (λp=>match p.2 with|.box (_+1) _ _=>false|_=>true)=true)
  (iS:(s.L.filter λp=>!hs.contains p.1).all (λp=>aV.on (keys (s.L.filter λp=>!hs.contains p.1)) p.2)=true)
  (hk:(keys La).all (λk=>!(keys (s.L.filter λp=>!hs.contains p.1)).contains k)=true/\(keys Lb).all (λk=>!(keys (s.L.filter λp=>!hs.contains p.1)).contains k)=true)
  (ka:∀bs,eR P ops rest (St.put ⟨s.fr.filter λp=>V.on (keys (s.L.filter λp=>!hs.contains p.1)) p.2,La++s.L.filter λp=>!hs.contains p.1⟩ o.dst x) bs [] (KK P n ops Q))
  (kb:∀bs,eR P ops rest (St.put ⟨s.fr.filter λp=>V.on (keys (s.L.filter λp=>!hs.contains p.1)) p.2,Lb++s.L.filter λp=>!hs.contains p.1⟩ o.dst y) bs [] (KK P n ops Q)):au P n ops (o::rest) s Q:=by
 have hb:(L1.filterMap λp=>match p.2 with|.box (_+1) _ _=>some p.1|_=>none)=[]:=by
  rw[List.filterMap_eq_nil_iff];intro p hp;have:=aoP.1 ho.2.2 p hp;split<;>simp_all
 refine au.jh (L1:=L1) (L2:=s.L.filter λp=>!hs.contains p.1) (s.fr.filter λp=>V.on (keys (s.L.filter λp=>!hs.contains p.1)) p.2) hg hd aD hc he ho.1 (by subst hL;exact(apE _ s.L).symm) ho.2.1 ?_ ?_ h ?_ ?_
 ·intro p hp;obtain⟨h1,h2⟩:=apU.1 hp;exact⟨h1,(congrArg (λl=>V.on l p.2) ((congrArg (λl=>keys (s.L.filter λp=>!hs.contains p.1)++l) hb).trans (apk _))).trans h2⟩
 ·intro p hp;exact(congrArg (λl=>aV.on l p.2) ((congrArg (λl=>keys (s.L.filter λp=>!hs.contains p.1)++l) hb).trans (apk _))).trans (aoP.1 iS p hp)
 ·rintro r uH (⟨rfl,rfl⟩|⟨rfl,rfl⟩)
  ·refine⟨⟨_,rfl⟩,λk re=>?_,λk b ty cs hm=>?_⟩
   ·have:=aoP.1 hk.1 k re;simpa using this
   ·have:=aoP.1 ho.2.2 _ hm;simp at this
  ·refine⟨⟨_,rfl⟩,λk re=>?_,λk b ty cs hm=>?_⟩
   ·have:=aoP.1 hk.2 k re;simpa using this
   ·have:=aoP.1 ho.2.2 _ hm;simp at this
 ·rintro x' uH (⟨e,rfl⟩|⟨e,rfl⟩)
  ·obtain rfl:=AE.ret.inj e;exact bn rest _ [] hr ka
  ·obtain rfl:=AE.ret.inj e;exact bn rest _ [] hr kb
end
set_option maxHeartbeats 4000000
set_option maxRecDepth 20000
theorem ug(w:aj)(hF:cZ w)(x f:Int)(hf:0<=f/\f<=15):Pure prog 196 [.agg (w.enc.map .d),iD x,iD f] (oD (cU w x f.toNat)):=by
 have hh:=Ho w hF x f;have e:(decide (cz w x f=0)&&cU w x f.toNat)=cU w x f.toNat:=by
  unfold cz;by_cases hx:bY w.ae.length x=true
  ·rw[if_pos hx,if_pos hf];simp
  ·have:cU w x f.toNat=false:=by unfold cU;simp[hx]
   rw[this];simp
 rw[e]at hh;generalize cU w x f.toNat=B at *;generalize cz w x f=E at *;refine rn func196 ?_;simp[-cB,f196];intro bs;refine pC hh ?_;simp[-cB]
theorem Qk(w:aj)(hF:cZ w)(x:Int):Pure prog 276 [.agg (w.enc.map .d),iD x] (oD (tK w x)):=by
 have h2:=ug w hF x 2 (by decide);have h1:=ug w hF x 1 (by decide);unfold tK;simp only[show(2:Int).toNat=2 from rfl,show(1:Int).toNat=1 from rfl]at h1 h2;generalize cU w x 2=A at *;generalize cU w x 1=B at *;refine rn func276 ?_;simp[-cB,f276];intro bs;refine pC h2 ?_;simp[-cB];refine pG h1 ?_;simp[-cB]
def ahJ(w:aj)(d:Nat):Prop:=∀(x:Int),1<=x/\x<w.ae.length->w.ae.length<=(ik w.tree x).length+d->∀(l:Nat) (A:Nat->Env) (B:Env),(∀i z,(jG w d x)[i]?=some z->tF prog l [iD z] [(5003,.env (A i))] (YR (A (i+1)) B))->
 aE prog 242 [.agg (w.enc.map .d),iD x,yv l] [(5003,.env (A 0))] (λr L=>(r= .ret (oD true)/\L=[(5003,.env (A (jG w d x).length))])\/(r= .ret (oD false)/\L=[(5003,.env B)]))
theorem TI(w:aj)(aO:vF w)(hn:w.ae.length<=1000)(hF:cZ w){ls:Int->List Int}(Mf:ec w.tree w.ae.length ls):∀d,ahJ w d
 | 0,x,hx,hd,l,A,B,hy=>by
   have:=agb Mf hx;omega
 | d+1,x,hx,hd,l,A,B,hy=>by
   have ih:=TI w aO hn hF Mf d;have hk:=F1 w aO.wf aO.hC aO.hN x;have tH:(br w.tree x).length<=w.ae.length:=mI w.tree x;have Tt:∀y∈br w.tree x,(1<=y/\y<w.ae.length)/\w.ae.length<=(ik w.tree y).length+d:=λy hy=>⟨nX hy,by rw[aeL Mf hy];omega⟩
   rw[rV]at hy⊢;generalize br w.tree x=ks at *;rw[<-Qh];have hyp:∀i j z,i<=ks.length->(sD w d ks i)[j]?=some z->tF prog l [iD z] [(5003,.env (A j))] (YR (A (j+1)) B):=by
    intro i j z hi hz;refine hy j z ?_;have:ks.flatMap (qF w d)=sD w d ks i++(ks.drop i).flatMap (qF w d):=by
     unfold sD;rw[<-List.flatMap_append,ao5]
    rw[this,apq (aoL.1 hz).1];exact hz
   clear hy;refine rX [6] [5003] func242 ?_;simp[-cB,f242];intro bs;refine pC hk ?_;simp[-cB];refine av.cI [2,3,11,12,13] ks.length (λi=> [(13,iD i)]) (λi=> [(5003,.env (A (sD w d ks i).length))]) (λ_=>True) (by rfl) (by simp[Md]) ?_;intro i hi _;rcases aoR hi with aw|rfl
   ·have dj:(i:Int)<ks.length:=by omega
    have bU:aN .i64 ((i:Int)+1):=iW;have tc:=Me w d ks i aw;have hh:=ug w hF ks[i] 3 (by decide);have yX:=Qk w hF ks[i];simp only[show(3:Int).toNat=3 from rfl]at hh;have hq:=hyp (i+1);obtain⟨Oy,hq2⟩:=Tt ks[i] (aoV aw);have TH:=ih ks[i] Oy hq2 l (λj=>A ((sD w d ks i).length+1+j)) B;generalize hH:cU w ks[i] 3=H at *;generalize hS:tK w ks[i]=S at *;generalize hRy:jG w d ks[i]=Ry at *;generalize age:sD w d ks i=pre at *;rw[tc]at hq;cases H with
    | true=>
      simp at tc;simp[-cB,dj,aw,age];refine pC hh ?_;simp[bU,tc,aw]
    | false=>
      simp only[aph,if_false]at tc hq;have YN:=hq pre.length ks[i] (by omega) (by simp);simp[-cB,dj,aw,age];refine pC hh ?_;simp;refine au.afq (YN) rfl (by simp[sV]) (by simp) rfl (by simp) rfl (by simp[keys]) rfl (by simp) (by simp) ?_ ?_
      ·intro bL;simp[-cB,List.filter];refine pG yX ?_;simp[-cB];cases S with
       | false=>
         simp at tc;refine au.skip (by first|rfl|(simp;done)) (by simp) ?_;refine bn _ _ [] (by rfl) ?_;simp[bU,tc,aw]
       | true=>
         simp at tc;have hlen:(sD w d ks (i+1)).length=pre.length+1+Ry.length:=by rw[tc];simp;omega
         simp only[if_true]at hq;have TH:=TH (λj z hz=>hq (pre.length+1+j) z (by omega) (by
          rw[apF (by omega),show pre.length+1+j-pre.length=j+1 by omega];simpa using hz))
         unfold yv at TH;refine au.AM (by first|rfl|(simp;rfl)) (by simp) ?_;simp[-cB];refine au.agd [5003] rfl TH (by simp) rfl (by simp) rfl (by kernel_rfl) (by first|rfl|simp) (by simp) (by simp) (by simp) ?_ ?_
         ·intro jX;simp[-cB,List.filter];simp[bU,hlen,aw]
         ·intro jX;simp[-cB,List.filter]
      ·intro bL;simp[-cB,List.filter];refine au.eL rfl (g:=false) (x:=oD true) (λh=>by cases h) rfl (by first|rfl|(simp;done)) (by simp) (by simp) rfl ?_;simp[-cB];refine au.skip (by first|rfl|(simp;done)) (by simp) ?_;refine bn _ _ [] (by rfl) ?_;simp
   ·simp
theorem ah.rA(x:ah):x.enc.map V.d=[.d (D.sl (x.Frames.map aG.enc)),.d (D.sl (aC x.Stack)),.d (D.v (.int .i64 x.Env.qi)),.d (D.v (.int .i64 x.Env.Second)),.d (D.v (.int .i64 x.Env.Number)),.d (D.v (.int .i64 x.Told.Ik)),.d (D.sl (aC x.Told.World.aQ)),.d (D.sl (aC x.Told.World.ae)),.d (D.sl (aC x.Told.World.Child)),.d (D.sl (aC x.Told.World.Next)),.d (D.sl (aC x.Told.World.Flags)),.d (D.sl (aC x.Told.World.aJ)),.d (D.sl (aC x.Told.World.bc)),.d (D.v (.int .u64 x.Told.World.cO)),.d (D.v (.int .i64 x.Told.World.Score)),.d (D.v (.int .i64 x.Told.World.jO)),.d (D.v (.int .i64 x.Told.World.iB)),.d (D.v (.int .i64 x.Told.World.It)),.d (D.v (.int .i64 x.Told.World.Go)),.d (D.v (.string x.Told.Out)),.d (D.v (.int .i64 x.Told.Value)),.d (D.v (.bool x.Told.pb)),.d (D.v (.int .i64 x.Told.Fuel)),.d (D.v (.bool x.gB))]:=rfl
theorem Eu(l:List Int)(hl:l.length<=1000000):Pure prog 88 [.d (.sl (aC l))] (.d (.sl (aC l))):=by
 refine rn func88 ?_;simp[-cB,f88];omega
theorem uh(h:Nat)(l:List Int)(hl:l.length<=1000000):aE prog 88 [.d (.sl (aC l))] [] (λr L=>r= .ret (.rv h)/\L=[(h,.row 3 1 (dd (aC l)))]):=by
 refine aE.abu h ?_;refine aE.run func88 rfl (by simp[f88]) ?_;simp[f88];omega
theorem oX(m:ah)(e:Int):Pure prog 40 [.agg (m.enc.map .d),iD e] (.agg ((eT m e).enc.map .d)):=by
 refine rn func40 ?_;simp[-cB,f40];intro bs;rfl
theorem gD(was m:ah):Pure prog 101 [.agg (was.enc.map .d),.agg (m.enc.map .d),iD 0] (.agg (m.enc.map .d)):=by
 refine rn func101 ?_;simp[-cB,f101]
theorem jq(was m:ah)(e:Int)(he:e≠0):Pure prog 101 [.agg (was.enc.map .d),.agg (m.enc.map .d),iD e] (.agg ((eT was e).enc.map .d)):=by
 have hf:=oX was e;refine rn func101 ?_;simp[-cB,f101];intro bs;simp[he];refine pC hf ?_;simp[-cB]
theorem jl(m:ah)(n:Int)(hl:m.Stack.length<=1000000):Pure prog 87 [.agg (m.enc.map .d),iD n] (.agg (({m with Stack:=m.Stack++ [aq n]}:ah).enc.map .d)):=by
 have hi:=uh 5301 m.Stack hl;have hw:=aP n;unfold ah.enc;refine rn func87 ?_;simp[-cB,f87];intro bs;refine eD [] hi ?_;simp[-cB];refine pC hw ?_;simp[-cB];omega
theorem cN(m:ah)(A l:List Int)(h:m.Stack=A++l)(hl:m.Stack.length<=1000000):Pure prog 86 [.agg (m.enc.map .d),iD l.length] (.bA [.agg (({m with Stack:=A}:ah).enc.map .d),.d (.sl (aC l))]):=by
 have hlen:m.Stack.length=A.length+l.length:=by rw[h];simp
 have h1:=Eu A (by omega);have h2:=Eu l (by omega);have e1:((A++l).length:Int)-l.length=A.length:=by simp
 have bU:aN .i64 (A.length:Int):=iW;unfold ah.enc;rw[h];refine rn func86 ?_;simp[-cB,f86];intro bs;refine⟨bU,?_⟩;have e2:List.drop A.length (List.take (A.length+l.length) (A++l))=l:=by
  rw[show A.length+l.length=(A++l).length by simp,apl];simp
 rw[e2];refine pC h2 ?_;simp[-cB];refine pC h1 ?_;simp[-cB]
theorem u0(m:ah)(Fr:List aG)(f g:aG)(h:m.Frames=Fr++ [f])(hl:m.Frames.length<=1000):Pure prog 41 [.agg (m.enc.map .d),.agg (g.enc.map .d)] (.agg (({m with Frames:=Fr++ [g]}:ah).enc.map .d)):=by
 have NB:Fr.length+1<=1000:=by rw[h]at hl;simpa using hl
 have e1:(dd (List.map aG.enc Fr++ [f.enc])).set Fr.length (List.map V.d g.enc)=dd (List.map aG.enc Fr++ [g.enc]):=by
  simp[dd,List.set_append]
 unfold ah.enc;rw[h];refine rn func41 ?_;simp[-cB,f41];rw[e1,adJ];refine⟨⟨?_,by omega⟩,iW,rfl⟩;rintro x (⟨a,_,rfl⟩|rfl)<;>rfl
abbrev FH(s:al)(m x:ah)(f:aG)(i:ai)(m':ah):Prop:=Pure prog 42 [.agg (s.enc.map .d),.agg (m.enc.map .d),.agg (x.enc.map .d),.agg (f.enc.map .d),.agg (i.enc.map .d)] (.agg (m'.enc.map .d))
theorem XZ(s:al)(m x:ah)(Fr:List aG)(g f:aG)(i:ai)(aD:i.Op=24)(hx:x.Frames=Fr++ [g])(hl:x.Frames.length<=1000)(hA:aN .i64 (f.At+i.Arg)):FH s m x f i {x with Frames:=Fr++ [{f with At:=f.At+i.Arg}]}:=by
 have ht:=u0 x Fr g {f with At:=f.At+i.Arg} hx hl;refine rn func42 ?_;simp[-cB,f42];intro bs;simp[-cB,aD,hA];refine pC ht ?_;simp[-cB]
theorem X0(s:al)(m x:ah)(Fr:List aG)(g f:aG)(i:ai)(S:List Int)(v:Int)(aD:i.Op=25)(hx:x.Frames=Fr++ [g])(hl:x.Frames.length≤1000)(hS:x.Stack=S++ [v])(pF:S.length≤100000)(hA:aN .i64 (f.At+i.Arg)):
  FH s m x f i (if aq v=0 then {x with Stack:=S,Frames:=Fr++ [{f with At:=f.At+i.Arg}]}else {x with Stack:=S}):=by
 have ht:=u0 {x with Stack:=S} Fr g {f with At:=f.At+i.Arg} hx hl;have hk:=cN x S [v] hS (by rw[hS];simp;omega);have hw:=aP v;by_cases hv:aq v=0
 ·rw[if_pos hv];refine rn func42 ?_;simp[-cB,f42];intro bs;simp[-cB,aD];refine pC hk ?_;simp[-cB];intro bL;refine pC hw ?_;simp[-cB,hv,hA];refine pC ht ?_;simp[-cB]
 ·rw[if_neg hv];refine rn func42 ?_;simp[-cB,f42];intro bs;simp[-cB,aD];refine pC hk ?_;simp[-cB];intro bL;refine pC hw ?_;simp[hv]
theorem aaK(s:al)(m x:ah)(f:aG)(i:ai)(v:Int)(aD:i.Op=5)(hA:0<=i.Arg)(hg:f.aM[i.Arg.toNat]?=some v)(hl:x.Stack.length<=100000):FH s m x f i {x with Stack:=x.Stack++ [aq v]}:=by
 have hk:=jl x v (by omega);obtain⟨g1,g2⟩:=aoL.1 hg;refine rn func42 ?_;simp[-cB,f42];intro bs;simp[-cB,aD];refine av.aU [Q0,Q0,Q0,Q0,Q0,Q0,Q0,Q0,none] [.agg (({x with Stack:=x.Stack++ [aq v]}:ah).enc.map .d)] aT (by kernel_rfl) ?_;simp[-cB,hA,g1,g2];exact hk.ok _
theorem aaL(s:al)(m x:ah)(Fr:List aG)(g f:aG)(i:ai)(S:List Int)(v:Int)(aD:i.Op=6)(hx:x.Frames=Fr++ [g])(hl:x.Frames.length≤1000)(hS:x.Stack=S++ [v])(pF:S.length≤100000)(hA:0≤i.Arg∧i.Arg < f.aM.length)(hLl:f.aM.length≤100000):
  FH s m x f i {x with Stack:=S,Frames:=Fr++ [{f with aM:=f.aM.set i.Arg.toNat v}]}:=by
 have ht:=u0 {x with Stack:=S} Fr g {f with aM:=f.aM.set i.Arg.toNat v} hx hl;have hk:=cN x S [v] hS (by rw[hS];simp;omega);have hi:=uh 5301 f.aM (by omega);have Ef:i.Arg.toNat<f.aM.length:=by omega
 have e1:f.enc.map V.d=[iD f.kv,iD f.At,iD f.bO,.d (.sl (aC f.aM))]:=rfl;unfold FH;rw[e1];refine rn func42 ?_;simp[-cB,f42];intro bs;simp[-cB,aD];refine pC hk ?_;simp[-cB];intro bL;refine eD [] hi ?_;simp[-cB];refine av.aU [Q0,Q0,Q0,Q0,Q0,Q0,Q0,Q0,none] [] aT (by kernel_rfl) ?_;simp[-cB,hA,Ef];refine au.weaken (Wk.freeze 5301 (ty:=3) (k:=1) (ys:=aC (f.aM.set i.Arg.toNat v)) (by rfl)) ?_;simp[-cB,V.fi];refine pC ht ?_;simp[-cB]
theorem X2(s:al)(m x:ah)(f:aG)(i:ai)(aD:i.Op=26)(fM:32<=m.Frames.length):FH s m x f i (eT m 17):=by
 have hf:=oX m 17;have PT:(32:Int)<=m.Frames.length:=by omega
 refine rn func42 ?_;simp[-cB,f42];intro bs;simp[-cB,aD,fM,PT];refine pC hf ?_;simp[-cB]
theorem X3(s:al)(m x:ah)(f:aG)(i:ai)(r:Nat)(e:Int)(N:Nat)(S a:List Int)(aD:i.Op=26)(hA:0≤i.Arg)(hf:s.Tables.cY[i.Arg.toNat]?=some (r:Int))(he:s.Entry[r]?=some e)(hn:s.Tables.aM[r]?=some (N:Int))(hN:N≤1000)(hp:s.Tables.Params[r]?=some (a.length:Int))(hS:x.Stack=S++a)(pF:x.Stack.length≤100000)(fM:m.Frames.length < 32)(hl:x.Frames.length≤1000):
  FH s m x f i {x with Stack:=S,Frames:=x.Frames++ [⟨r,e,S.length,sd a N⟩]}:=by
 have hk:=cN x S a hS (by omega);have iy:=I4 s r e N he hn (by omega) a S.length;obtain⟨f1,f2⟩:=aoL.1 hf;obtain⟨p1,p2⟩:=aoL.1 hp;have ajW:¬(32:Int)<=m.Frames.length:=by omega
 have ajX:¬32<=m.Frames.length:=by omega
 refine rn func42 ?_;simp[-cB,f42];intro bs;simp[-cB,aD,ajW,ajX];simp[hA,f1,f2];refine av.JM [Q3,Q3,Q3,Q3,Q3,Q3,Q3,Q3,Q3,Q3,arc,none,none,ard] [.bA [.agg (({x with Stack:=S}:ah).enc.map .d),.d (.sl (aC a))]] aT (by kernel_rfl) ?_;simp[-cB,p1,p2];refine⟨hk.ok _,hk.ok _,λbL=>⟨by omega,?_⟩⟩;rw[ah.rA {x with Stack:=S}];refine pC iy ?_;simp[-cB];exact⟨by omega,by rw[ah.rA];simp⟩
theorem X1(s:al)(m x:ah)(Fr:List aG)(g f:aG)(i:ai)(S:List Int)(v:Int)(aD:i.Op=27)(hx:x.Frames=Fr++ [g])(hl:x.Frames.length≤1000)(hS:x.Stack=S++ [v])(pF:S.length≤100000)(hB:0≤f.bO∧f.bO≤S.length):
  FH s m x f i (if Fr=[]then {x with Stack:=S.take f.bO.toNat,Frames:=[],gB:=true,Told:={x.Told with Value:=v}}else {x with Stack:=S.take f.bO.toNat++ [aq v],Frames:=Fr}):=by
 obtain⟨xF,xS,xE,xT,xD⟩:=x;simp only at hx hS hl;subst hx hS;have hk:=cN ⟨Fr++ [g],S++ [v],xE,xT,xD⟩ S [v] rfl (by simp;omega);have hi:=Eu (S.take f.bO.toNat) (by simp;omega);have hy:=jl ⟨Fr,S.take f.bO.toNat,xE,xT,xD⟩ v (by simp;omega);have hb:f.bO.toNat<=S.length:=by omega
 have NB:Fr.length+1<=1000:=by simpa using hl
 have bU:aN .i64 (Fr.length:Int):=iW;simp only at hy;by_cases hF:Fr=[]
 ·rw[if_pos hF];subst hF;refine rn func42 ?_;simp[-cB,f42];intro bs;simp[-cB,aD];refine pC hk ?_;simp[-cB];intro bL;rw[ah.rA ⟨[g],S,xE,xT,xD⟩];simp[-cB,hB,hb];refine pC hi ?_;simp[bU];exact⟨iW,rfl⟩
 ·rw[if_neg hF];have hF2:¬Fr.length=0:=by simpa using hF
  refine rn func42 ?_;simp[-cB,f42];intro bs;simp[-cB,aD];refine pC hk ?_;simp[-cB];intro bL;rw[ah.rA ⟨Fr++ [g],S,xE,xT,xD⟩];simp[-cB,hB,hb];refine pC hi ?_;simp[-cB,bU,hF,hF2];refine⟨by rintro x (⟨a,_,rfl⟩|rfl)<;>rfl,?_⟩;refine av.aU [Q0,Q0,Q0,Q0,Q0,none] [.agg ((ah.mk Fr (S.take f.bO.toNat++ [aq v]) xE xT xD).enc.map .d)] aT (by kernel_rfl) ?_;rw[<-ah.rA ⟨Fr,S.take f.bO.toNat,xE,xT,xD⟩];simp[-cB];exact hy.ok _
abbrev NK(m x:ah)(i:ai)(F:Int)(m':ah):Prop:=Pure prog 43 [.agg (m.enc.map .d),.agg (x.enc.map .d),.agg (i.enc.map .d),iD F] (.agg (m'.enc.map .d))
theorem XM(m x:ah)(i:ai)(F:Int)(aD:i.Op=37)(hF:0<=m.Told.Fuel/\m.Told.Fuel<=1000000)(hc:¬F<m.Told.Fuel+1)(hx:x.Told.Fuel=m.Told.Fuel):NK m x i F {x with Told:={x.Told with Fuel:=m.Told.Fuel+1}}:=by
 have bU:aN .i64 (m.Told.Fuel+1):=iW;unfold NK;rw[ah.rA x];refine rn func43 ?_;simp[-cB,f43];intro bs;simp[aD,bU,hc,hx];rfl
theorem XL(m x:ah)(i:ai)(F:Int)(aD:i.Op=37)(hF:0<=m.Told.Fuel/\m.Told.Fuel<=1000000)(hc:F<m.Told.Fuel+1):NK m x i F (eT m 19):=by
 have bU:aN .i64 (m.Told.Fuel+1):=iW;have hf:=oX m 19;refine rn func43 ?_;simp[-cB,f43];intro bs;simp[aD,bU,hc];refine pC hf ?_;simp[-cB]
theorem adE(m x:ah)(i:ai)(F:Int)(aD:i.Op=28\/i.Op=29\/i.Op=30):NK m x i F {x with Told:={x.Told with World:=(if i.Op=29 then {x.Told.World with iB:=1}else if i.Op=30 then {x.Told.World with iB:=2}else x.Told.World),pb:=true},gB:=true}:=by
 unfold NK;rw[ah.rA x];rcases aD with hq|hq|hq
 ·refine rn func43 ?_;simp[-cB,f43];intro bs;simp[hq];rfl
 ·refine rn func43 ?_;simp[-cB,f43];intro bs;simp[hq];rfl
 ·refine rn func43 ?_;simp[-cB,f43];intro bs;simp[hq];rfl
abbrev HW(s:al)(x:ah)(i:ai)(m':ah):Prop:=Pure prog 44 [.agg (s.enc.map .d),.agg (x.enc.map .d),.agg (i.enc.map .d)] (.agg (m'.enc.map .d))
theorem XN(s:al)(x:ah)(i:ai)(t:ByteArray)(aD:i.Op=21)(ht:Pure prog 89 [.agg (s.Tables.enc.map .d),iD i.Arg] (.d (.v (.string t))))(hl:x.Told.Out.size+t.size<=140737488355328):HW s x i {x with Told:={x.Told with Out:=x.Told.Out++t}}:=by
 unfold HW;rw[ah.rA x];refine rn func44 ?_;simp[-cB,f44];intro bs;simp[-cB,aD];refine av.aU [Q0,Q0,Q0,Q0,Q0,Q0,Q0,Q0,Q0,Q0,Q0,none] [.d (.v (.string t))] aT (by kernel_rfl) ?_;simp[-cB];exact⟨ht.ok _,by omega,rfl⟩
theorem XO(s:al)(x:ah)(i:ai)(t:ByteArray)(aD:i.Op=35)(ht:Pure prog 90 [.agg (s.Tables.enc.map .d),.agg (x.Told.World.enc.map .d)] (.d (.v (.string t))))(hl:x.Told.Out.size+t.size<=140737488355328):HW s x i {x with Told:={x.Told with Out:=x.Told.Out++t}}:=by
 unfold HW;rw[ah.rA x];refine rn func44 ?_;simp[-cB,f44];intro bs;simp[-cB,aD];refine av.aU [Q0,Q0,Q0,Q0,Q0,Q0,Q0,Q0,Q0,Q0,Q0,Q0,none] [.d (.v (.string t))] aT (by kernel_rfl) ?_;simp[-cB];exact⟨ht.ok _,by omega,rfl⟩
theorem XR(s:al)(x:ah)(i:ai)(S:List Int)(v:Int)(t:ByteArray)(aD:i.Op=22)(hS:x.Stack=S++ [v])(pF:S.length<=100000)(ht:Pure prog 91 [iD (aq v)] (.d (.v (.string t))))(hl:x.Told.Out.size+t.size<=140737488355328):HW s x i {x with Stack:=S,Told:={x.Told with Out:=x.Told.Out++t}}:=by
 have hk:=cN x S [v] hS (by rw[hS];simp;omega);have hw:=aP v;refine rn func44 ?_;simp[-cB,f44];intro bs;simp[-cB,aD];refine pC hk ?_;simp[-cB];intro bL;refine pC hw ?_;simp[-cB,aD];refine av.aU [Q0,Q0,Q0,Q0,Q0,Q0,Q0,Q0,none] [.d (.v (.string t))] aT (by kernel_rfl) ?_;rw[ah.rA {x with Stack:=S}];simp[-cB];exact⟨ht.ok _,by omega,rfl⟩
theorem XT(s:al)(x:ah)(i:ai)(S:List Int)(v:Int)(t:ByteArray)(aD:i.Op=23)(hS:x.Stack=S++ [v])(pF:S.length<=100000)(ht:Pure prog 92 [.agg (s.Tables.enc.map .d),iD (aq v)] (.d (.v (.string t))))(hl:x.Told.Out.size+t.size<=140737488355328):HW s x i {x with Stack:=S,Told:={x.Told with Out:=x.Told.Out++t}}:=by
 have hk:=cN x S [v] hS (by rw[hS];simp;omega);have hw:=aP v;refine rn func44 ?_;simp[-cB,f44];intro bs;simp[-cB,aD];refine pC hk ?_;simp[-cB];intro bL;refine pC hw ?_;simp[-cB,aD];refine av.aU [Q0,Q0,Q0,Q0,Q0,Q0,Q0,Q0,Q0,Q0,none] [.d (.v (.string t))] aT (by kernel_rfl) ?_;rw[ah.rA {x with Stack:=S}];simp[-cB];exact⟨ht.ok _,by omega,rfl⟩
theorem XU(s:al)(x:ah)(i:ai)(S:List Int)(v:Int)(t:ByteArray)(aD:i.Op=36)(hS:x.Stack=S++ [v])(pF:S.length<=100000)(ht:Pure prog 93 [.agg (s.Tables.enc.map .d),.agg (x.Told.World.enc.map .d),iD (aq v)] (.d (.v (.string t))))(hl:x.Told.Out.size+t.size<=140737488355328):HW s x i {x with Stack:=S,Told:={x.Told with Out:=x.Told.Out++t}}:=by
 have hk:=cN x S [v] hS (by rw[hS];simp;omega);have hw:=aP v;refine rn func44 ?_;simp[-cB,f44];intro bs;simp[-cB,aD];refine pC hk ?_;simp[-cB];intro bL;refine pC hw ?_;simp[-cB,aD];refine av.aU [Q0,Q0,Q0,Q0,Q0,Q0,Q0,Q0,Q0,Q0,Q0,Q0,Q0,none] [.d (.v (.string t))] aT (by kernel_rfl) ?_;rw[ah.rA {x with Stack:=S}];simp[-cB];exact⟨ht.ok _,by omega,rfl⟩
@[simp] theorem ah.aoB(x:ah):List.take 13 (List.drop 6 (x.enc.map V.d))=x.Told.World.enc.map V.d:=rfl
@[simp] theorem ah.aoC(x:ah):List.take 3 (List.drop 2 (x.enc.map V.d))=x.Env.enc.map V.d:=rfl
abbrev xM(s:al)(m x:ah)(i:ai)(m':ah):Prop:=Pure prog 46 [.agg (s.enc.map .d),.agg (m.enc.map .d),.agg (x.enc.map .d),.agg (i.enc.map .d)] (.agg (m'.enc.map .d))
theorem Jp(b:Bool):Pure prog 106 [oD b] (iD (ez b)):=by
 cases b
 ·refine rn func106 ?_;simp[-cB,f106];rfl
 ·refine rn func106 ?_;simp[-cB,f106];rfl
theorem Rd(s:al)(m x:ah)(i:ai)(aD:i.Op=1)(hl:x.Stack.length<=100000):xM s m x i {x with Stack:=x.Stack++ [aq i.Arg]}:=by
 have hk:=jl x i.Arg (by omega);refine rn func46 ?_;simp[-cB,f46];intro bs bL;simp[-cB,aD];refine pC hk ?_;simp[-cB]
theorem Re(s:al)(m x:ah)(i:ai)(v:Int)(aD:i.Op=3)(hA:0<=i.Arg)(hg:x.Told.World.aQ[i.Arg.toNat]?=some v)(hl:x.Stack.length<=100000):xM s m x i {x with Stack:=x.Stack++ [aq v]}:=by
 have hk:=jl x v (by omega);obtain⟨g1,g2⟩:=aoL.1 hg;refine rn func46 ?_;simp[-cB,f46];intro bs bL;simp[-cB,aD];refine av.aU [Q0,Q0,Q0,Q0,Q0,Q0,Q0,Q0,none] [.agg (({x with Stack:=x.Stack++ [aq v]}:ah).enc.map .d)] aT (by kernel_rfl) ?_;simp[-cB,hA,g1,g2];exact hk.ok _
theorem FJ(s:al)(m x:ah)(i:ai)(v:Int)(e:Int)(aD:i.Op=7)(hv:oq x.Told.World m.Env i.Arg=(v,e))(hl:x.Stack.length<=100000)(hw:x.Told.World.wf){R:ah}(ht:Pure prog 101 [.agg (m.enc.map .d),.agg (({x with Stack:=x.Stack++ [aq v]}:ah).enc.map .d),iD e] (.agg (R.enc.map .d))):xM s m x i R:=by
 have hk:=jl x v (by omega);have hs:=Vs x.Told.World hw m.Env i.Arg;rw[hv]at hs;refine rn func46 ?_;simp[-cB,f46];intro bs bL;simp[-cB,aD];refine pC hs ?_;simp[-cB,eM];refine av.aU [Q0,Q0,Q0,Q0,Q0,Q0,none] [.agg (({x with Stack:=x.Stack++ [aq v]}:ah).enc.map .d),.agg (R.enc.map .d)] aT (by kernel_rfl) ?_;simp[-cB]
 repeat' (with_reducible refine And.intro ?_ ?_)
 all_goals first|exact hk.ok _|exact ht.ok _
theorem Rk(s:al)(m x:ah)(i:ai)(S:List Int)(v:Int)(aD:i.Op=2)(hS:x.Stack=S++ [v])(hl:S.length<=100000)(hv:aq v=v):xM s m x i {x with Stack:=S}:=by
 have hq:=cN x S [v] hS (by rw[hS];simp;omega);have hw:=aP v;rw[hv]at hw;refine rn func46 ?_;simp[-cB,f46];intro bs bL;simp[-cB,aD];refine pC hq ?_;simp[-cB];intro jX;refine pC hw ?_;simp[-cB,aD]
theorem Rm(s:al)(m x:ah)(i:ai)(S:List Int)(v:Int)(aD:i.Op=9)(hS:x.Stack=S++ [v])(hl:S.length<=100000)(hv:aq v=v):xM s m x i {x with Stack:=S++ [aq (ry v)]}:=by
 have hk:=jl {x with Stack:=S} (ry v) (by simp;omega);have hn:=qm v;have hq:=cN x S [v] hS (by rw[hS];simp;omega);have hw:=aP v;rw[hv]at hw;refine rn func46 ?_;simp[-cB,f46];intro bs bL;simp[-cB,aD];refine pC hq ?_;simp[-cB];intro jX;refine pC hw ?_;simp[-cB,aD];refine av.aU [Q0,Q0,Q0,Q0,none] [iD (ry v),.agg (({x with Stack:=S++ [aq (ry v)]}:ah).enc.map .d)] aT (by kernel_rfl) ?_;simp[-cB]
 repeat' (with_reducible refine And.intro ?_ ?_)
 all_goals first|exact hk.ok _|exact hn.ok _
theorem NO(s:al)(m x:ah)(i:ai)(S:List Int)(v:Int)(aD:i.Op=10)(hS:x.Stack=S++ [v])(hl:S.length<=100000)(hv:aq v=v):xM s m x i {x with Stack:=S++ [aq (ez (decide (aq v=0)))]}:=by
 have hk:=jl {x with Stack:=S} (ez (decide (aq v=0))) (by simp;omega);have hn:=qq v;have hq:=cN x S [v] hS (by rw[hS];simp;omega);have hw:=aP v;rw[hv]at hw;refine rn func46 ?_;simp[-cB,f46];intro bs bL;simp[-cB,aD];refine pC hq ?_;simp[-cB];intro jX;refine pC hw ?_;simp[-cB,aD];refine av.aU [Q0,Q0,Q0,Q0,none] [iD (ez (decide (aq v=0))),.agg (({x with Stack:=S++ [aq (ez (decide (aq v=0)))]}:ah).enc.map .d)] aT (by kernel_rfl) ?_;simp[-cB]
 repeat' (with_reducible refine And.intro ?_ ?_)
 all_goals first|exact hk.ok _|exact hn.ok _
theorem NP(s:al)(m x:ah)(i:ai)(S:List Int)(v:Int)(aD:i.Op=11)(hS:x.Stack=S++ [v])(hl:S.length<=100000)(hv:aq v=v):xM s m x i {x with Stack:=S++ [aq (ez (!decide (v=0)))]}:=by
 have hk:=jl {x with Stack:=S} (ez (!decide (v=0))) (by simp;omega);have hn:=Jp (!decide (v=0));have hq:=cN x S [v] hS (by rw[hS];simp;omega);have hw:=aP v;rw[hv]at hw;refine rn func46 ?_;simp[-cB,f46];intro bs bL;simp[-cB,aD];refine pC hq ?_;simp[-cB];intro jX;refine pC hw ?_;simp[-cB,aD];refine av.aU [Q0,Q0,Q0,Q0,Q0,none] [iD (ez (!decide (v=0))),.agg (({x with Stack:=S++ [aq (ez (!decide (v=0)))]}:ah).enc.map .d)] aT (by kernel_rfl) ?_;simp[-cB]
 repeat' (with_reducible refine And.intro ?_ ?_)
 all_goals first|exact hk.ok _|exact hn.ok _
theorem CY(s:al)(m x:ah)(i:ai)(S:List Int)(v:Int)(u:Bool)(e:Int)(aD:i.Op=12)(hS:x.Stack=S++ [v])(hl:S.length<=100000)(hv:aq v=v)(CW:cZ x.Told.World)(hr:(decide (cz x.Told.World v i.Arg=0)&&cU x.Told.World v i.Arg.toNat,cz x.Told.World v i.Arg)=(u,e)){R:ah}(ht:Pure prog 101 [.agg (m.enc.map .d),.agg (({x with Stack:=S++ [aq (ez u)]}:ah).enc.map .d),iD e] (.agg (R.enc.map .d))):xM s m x i R:=by
 have hk:=jl {x with Stack:=S} (ez u) (by simp;omega);have hc:=Gh x.Told.World CW v i.Arg;have Gg:=congrArg Prod.fst hr;have LL:=congrArg Prod.snd hr;simp only at Gg LL;rw[Gg,LL]at hc;have yE:=Jp u;have hq:=cN x S [v] hS (by rw[hS];simp;omega);have hw:=aP v;rw[hv]at hw;refine rn func46 ?_;simp[-cB,f46];intro bs bL;simp[-cB,aD];refine pC hq ?_;simp[-cB];intro jX;refine pC hw ?_;simp[-cB,aD];refine pC hc ?_;simp[-cB,eM];refine av.aU [Q0,Q0,Q0,Q0,Q0,Q0,Q0,none] [iD (ez u),.agg (({x with Stack:=S++ [aq (ez u)]}:ah).enc.map .d),.agg (R.enc.map .d)] aT (by kernel_rfl) ?_;simp[-cB]
 repeat' (with_reducible refine And.intro ?_ ?_)
 all_goals first|exact hk.ok _|exact ht.ok _|exact yE.ok _
theorem CZ(s:al)(m x:ah)(i:ai)(S:List Int)(v:Int)(u:Int)(e:Int)(aD:i.Op=13)(hS:x.Stack=S++ [v])(hl:S.length<=100000)(hv:aq v=v)(hn:x.Told.World.ae.length<=32768)(Tt:s.Tables.aJ.length<=65536)(hm:x.Told.World.ae.length *s.Tables.aJ.length=x.Told.World.aJ.length)(hr:tl s.Tables x.Told.World v i.Arg=(u,e)){R:ah}(ht:Pure prog 101 [.agg (m.enc.map .d),.agg (({x with Stack:=S++ [aq (u)]}:ah).enc.map .d),iD e] (.agg (R.enc.map .d))):xM s m x i R:=by
 have hk:=jl {x with Stack:=S} (u) (by simp;omega);have hc:=Vn s.Tables x.Told.World hn Tt hm v i.Arg;rw[hr]at hc;have hq:=cN x S [v] hS (by rw[hS];simp;omega);have hw:=aP v;rw[hv]at hw;refine rn func46 ?_;simp[-cB,f46];intro bs bL;simp[-cB,aD];refine pC hq ?_;simp[-cB];intro jX;refine pC hw ?_;simp[-cB,aD];refine pC hc ?_;simp[-cB,eM];refine av.aU [Q0,Q0,Q0,Q0,Q0,Q0,none] [.agg (({x with Stack:=S++ [aq (u)]}:ah).enc.map .d),.agg (R.enc.map .d)] aT (by kernel_rfl) ?_;simp[-cB]
 repeat' (with_reducible refine And.intro ?_ ?_)
 all_goals first|exact hk.ok _|exact ht.ok _
theorem C0(s:al)(m x:ah)(i:ai)(S:List Int)(v:Int)(u:Int)(e:Int)(aD:i.Op=19)(hS:x.Stack=S++ [v])(hl:S.length<=100000)(hv:aq v=v)(hC:x.Told.World.Child.length=x.Told.World.ae.length)(hN:x.Told.World.Next.length=x.Told.World.ae.length)(hr:df x.Told.World i.Arg v=(u,e)){R:ah}(ht:Pure prog 101 [.agg (m.enc.map .d),.agg (({x with Stack:=S++ [aq (u)]}:ah).enc.map .d),iD e] (.agg (R.enc.map .d))):xM s m x i R:=by
 have hk:=jl {x with Stack:=S} (u) (by simp;omega);have hc:=Vr x.Told.World hC hN i.Arg v;rw[hr]at hc;have hq:=cN x S [v] hS (by rw[hS];simp;omega);have hw:=aP v;rw[hv]at hw;refine rn func46 ?_;simp[-cB,f46];intro bs bL;simp[-cB,aD];refine pC hq ?_;simp[-cB];intro jX;refine pC hw ?_;simp[-cB,aD];refine pC hc ?_;simp[-cB,eM];refine av.aU [Q0,Q0,Q0,Q0,Q0,Q0,none] [.agg (({x with Stack:=S++ [aq (u)]}:ah).enc.map .d),.agg (R.enc.map .d)] aT (by kernel_rfl) ?_;simp[-cB]
 repeat' (with_reducible refine And.intro ?_ ?_)
 all_goals first|exact hk.ok _|exact ht.ok _
@[simp] theorem ah.aoD(x:ah)(w:aj):List.take 6 (x.enc.map V.d)++(w.enc.map V.d++List.drop 19 (x.enc.map V.d))=({x with Told:={x.Told with World:=w}}:ah).enc.map V.d:=rfl
theorem FK(s:al)(m x:ah)(i:ai)(S:List Int)(y v u:Int)(e:Int)(aD:i.Op=8)(hS:x.Stack=S++ [y,v])(hl:S.length<=100000)(hr:jd x.Told.World i.Arg y v=(u,e)){R:ah}(ht:Pure prog 101 [.agg (m.enc.map .d),.agg (({x with Stack:=S++ [aq u]}:ah).enc.map .d),iD e] (.agg (R.enc.map .d))):xM s m x i R:=by
 have hk:=jl {x with Stack:=S} u (by simp;omega);have hc:=Lu x.Told.World i.Arg y v;rw[hr]at hc;have hq:=cN x S [y,v] hS (by rw[hS];simp;omega);refine rn func46 ?_;simp[-cB,f46];intro bs bL;simp[-cB,aD];refine pC hq ?_;simp[-cB];intro jX;refine av.bT [eM (u,e)] aT (by kernel_rfl) (by rfl) ?_;simp[-cB,eM];refine⟨hc.ok _,?_⟩;refine av.aU [Q0,Q0,Q0,Q0,Q0,Q0,none] [.agg (({x with Stack:=S++ [aq u]}:ah).enc.map .d),.agg (R.enc.map .d)] aT (by kernel_rfl) ?_;simp[-cB]
 repeat' (with_reducible refine And.intro ?_ ?_)
 all_goals first|exact hk.ok _|exact ht.ok _
theorem NR(s:al)(m x:ah)(i:ai)(S:List Int)(v:Int)(aD:i.Op=20)(hS:x.Stack=S++ [v])(hl:S.length<=100000)(hv:aq v=v)(hx:¬aq v<1):xM s m x i {x with Stack:=S++ [aq ((kE x.Told.World.cO (aq v)).1+1)],Told:={x.Told with World:={x.Told.World with cO:=(kE x.Told.World.cO (aq v)).2}}}:=by
 have hc:=DN x.Told.World v;rw[if_neg hx]at hc;generalize (kE x.Told.World.cO (aq v)).1+1=u at *;generalize Am:({x.Told.World with cO:=(kE x.Told.World.cO (aq v)).2}:aj)=w' at *;have hk:=jl {x with Stack:=S,Told:={x.Told with World:=w'}} u (by simp;omega);have ht:=gD m {x with Stack:=S++ [aq u],Told:={x.Told with World:=w'}};have hq:=cN x S [v] hS (by rw[hS];simp;omega);have hw:=aP v;rw[hv]at hw;refine rn func46 ?_;simp[-cB,f46];intro bs bL;simp[-cB,aD];refine pC hq ?_;simp[-cB];intro jX;refine pC hw ?_;simp[-cB,aD];refine pC hc ?_;simp[-cB];intro tn;refine av.aU [Q0,Q0,Q0,Q0,Q0,Q0,none] [.agg (({x with Stack:=S++ [aq u],Told:={x.Told with World:=w'}}:ah).enc.map .d),.agg (({x with Stack:=S++ [aq u],Told:={x.Told with World:=w'}}:ah).enc.map .d)] aT (by kernel_rfl) ?_;simp[-cB]
 repeat' (with_reducible refine And.intro ?_ ?_)
 all_goals first|exact hk.ok _|exact ht.ok _
theorem NQ(s:al)(m x:ah)(i:ai)(S:List Int)(v:Int)(aD:i.Op=20)(hS:x.Stack=S++ [v])(hl:S.length<=100000)(hv:aq v=v)(hx:aq v<1):xM s m x i (eT m 1):=by
 have hc:=DN x.Told.World v;rw[if_pos hx]at hc;have hk:=jl {x with Stack:=S} 0 (by simp;omega);have ht:=jq m {x with Stack:=S++ [aq 0]} 1 (by decide);have hq:=cN x S [v] hS (by rw[hS];simp;omega);have hw:=aP v;rw[hv]at hw;refine rn func46 ?_;simp[-cB,f46];intro bs bL;simp[-cB,aD];refine pC hq ?_;simp[-cB];intro jX;refine pC hw ?_;simp[-cB,aD];refine pC hc ?_;simp[-cB];intro tn;refine av.aU [Q0,Q0,Q0,Q0,Q0,Q0,none] [.agg (({x with Stack:=S++ [aq 0]}:ah).enc.map .d),.agg ((eT m 1).enc.map .d)] aT (by kernel_rfl) ?_;simp[-cB]
 repeat' (with_reducible refine And.intro ?_ ?_)
 all_goals first|exact hk.ok _|exact ht.ok _
abbrev uo(s:al)(m x:ah)(i:ai)(m':ah):Prop:=Pure prog 45 [.agg (s.enc.map .d),.agg (m.enc.map .d),.agg (x.enc.map .d),.agg (i.enc.map .d)] (.agg (m'.enc.map .d))
@[simp] theorem al.aoE(s:al):List.take 15 (s.enc.map V.d)=s.Tables.enc.map V.d:=rfl
@[simp] theorem aj.XH(w:aj):List.take 13 (w.enc.map V.d)=w.enc.map V.d:=rfl
@[simp] theorem ar.XH(t:ar):List.take 15 (t.enc.map V.d)=t.enc.map V.d:=rfl
@[simp] theorem aj.aoF(w:aj)(n:Int):List.take 8 (w.enc.map V.d)++V.d (.v (.int .i64 n))::List.drop 9 (w.enc.map V.d)=({w with Score:=n}:aj).enc.map V.d:=rfl
@[simp] theorem aj.ana(w:aj)(n:Int):List.take 12 (w.enc.map V.d)++ [V.d (.v (.int .i64 n))]=({w with Go:=n}:aj).enc.map V.d:=rfl
theorem aj.rA(w:aj):w.enc.map V.d=[.d (.sl (aC w.aQ)),.d (.sl (aC w.ae)),.d (.sl (aC w.Child)),.d (.sl (aC w.Next)),.d (.sl (aC w.Flags)),.d (.sl (aC w.aJ)),.d (.sl (aC w.bc)),.d (.v (.int .u64 w.cO)),iD w.Score,iD w.jO,iD w.iB,iD w.It,iD w.Go]:=rfl
theorem XV(s:al)(m x:ah)(i:ai)(S:List Int)(v:Int)(aD:i.Op=31)(hS:x.Stack=S++ [v])(hl:S.length<=100000):uo s m x i {x with Stack:=S,Told:={x.Told with World:={x.Told.World with Score:=zR x.Told.World.Score v}}}:=by
 have ht:=gD m {x with Stack:=S,Told:={x.Told with World:={x.Told.World with Score:=zR x.Told.World.Score v}}};have hc:=zk x.Told.World.Score v;have hq:=cN x S [v] hS (by rw[hS];simp;omega);refine rn func45 ?_;simp[-cB,f45];intro bs bL;simp[-cB,aD];refine pC hq ?_;simp[-cB];intro jX;simp[-cB,aD];intro tn;refine pC hc ?_;simp[-cB];refine pC ht ?_;simp[-cB]
theorem KR(s:al)(m x:ah)(i:ai)(S:List Int)(v:Int)(w':aj)(e:Int)(aD:i.Op=15)(hS:x.Stack=S++ [v])(hl:S.length<=100000)(hF:cZ x.Told.World)(hlen:x.Told.World.Flags.length<=100000)(hr:eb x.Told.World v i.Arg true=(w',e)){R:ah}(ht:Pure prog 101 [.agg (m.enc.map .d),.agg (({x with Stack:=S,Told:={x.Told with World:=w'}}:ah).enc.map .d),iD e] (.agg (R.enc.map .d))):uo s m x i R:=by
 have hc:=Z1 x.Told.World hF hlen v i.Arg;rw[hr]at hc;have hq:=cN x S [v] hS (by rw[hS];simp;omega);refine rn func45 ?_;simp[-cB,f45];intro bs bL;simp[-cB,aD];refine pC hq ?_;simp[-cB];intro jX;simp[-cB,aD];intro tn;refine pC hc ?_;simp[-cB];refine pC ht ?_;simp[-cB]
theorem KS(s:al)(m x:ah)(i:ai)(S:List Int)(v:Int)(w':aj)(e:Int)(aD:i.Op=16)(hS:x.Stack=S++ [v])(hl:S.length<=100000)(hF:cZ x.Told.World)(hlen:x.Told.World.Flags.length<=100000)(hr:eb x.Told.World v i.Arg false=(w',e)){R:ah}(ht:Pure prog 101 [.agg (m.enc.map .d),.agg (({x with Stack:=S,Told:={x.Told with World:=w'}}:ah).enc.map .d),iD e] (.agg (R.enc.map .d))):uo s m x i R:=by
 have hc:=RT x.Told.World hF hlen v i.Arg;rw[hr]at hc;have hq:=cN x S [v] hS (by rw[hS];simp;omega);refine rn func45 ?_;simp[-cB,f45];intro bs bL;simp[-cB,aD];refine pC hq ?_;simp[-cB];intro jX;simp[-cB,aD];intro tn;refine pC hc ?_;simp[-cB];refine pC ht ?_;simp[-cB]
theorem KQ(s:al)(m x:ah)(i:ai)(S:List Int)(v n:Int)(w':aj)(e:Int)(aD:i.Op=14)(hS:x.Stack=S++ [v,n])(hl:S.length<=100000)(hw:x.Told.World.wf)(hn:x.Told.World.ae.length<=32768)(hk:s.Tables.aJ.length<=65536)(hm:x.Told.World.ae.length *s.Tables.aJ.length=x.Told.World.aJ.length)(hr:mW s.Tables x.Told.World v i.Arg n=(w',e)){R:ah}(ht:Pure prog 101 [.agg (m.enc.map .d),.agg (({x with Stack:=S,Told:={x.Told with World:=w'}}:ah).enc.map .d),iD e] (.agg (R.enc.map .d))):uo s m x i R:=by
 have hc:=YS s.Tables x.Told.World hw hn hk hm v i.Arg n;rw[hr]at hc;have hq:=cN x S [v,n] hS (by rw[hS];simp;omega);refine rn func45 ?_;simp[-cB,f45];intro bs bL;simp[-cB,aD];refine pC hq ?_;simp[-cB];intro jX;simp[-cB,aD];intro tn;refine av.aU [Q0,Q0,Q0,Q0,Q0,Q0,Q0,Q0,Q0,Q0,Q0,Q3,none,arb] [.bA [.agg (w'.enc.map .d),iD e]] aT (by kernel_rfl) ?_;simp[-cB];refine⟨hc.ok _,?_⟩;refine pC ht ?_;simp[-cB]
theorem XY(s:al)(m x:ah)(i:ai)(S:List Int)(v:Int)(aD:i.Op=34)(hS:x.Stack=S++ [v])(hl:S.length<=100000)(hx:1<=v/\v<=12):uo s m x i ({x with Stack:=S,Told:={x.Told with World:={x.Told.World with Go:=v}}}):=by
 have ht:=gD m {x with Stack:=S,Told:={x.Told with World:={x.Told.World with Go:=v}}};have hq:=cN x S [v] hS (by rw[hS];simp;omega);refine rn func45 ?_;simp[-cB,f45];intro bs bL;simp[-cB,aD];refine pC hq ?_;simp[-cB];intro jX;simp[-cB,aD];intro tn;have hb:(decide (v<1)||decide (12<v))=false:=by simp;omega
 simp[hb];refine pC ht ?_;simp[-cB]
theorem XX(s:al)(m x:ah)(i:ai)(S:List Int)(v:Int)(aD:i.Op=34)(hS:x.Stack=S++ [v])(hl:S.length<=100000)(hx:¬(1<=v/\v<=12)):uo s m x i (eT m 5):=by
 have ht:=jq m {x with Stack:=S,Told:={x.Told with World:={x.Told.World with Go:=v}}} 5 (by decide);have hq:=cN x S [v] hS (by rw[hS];simp;omega);refine rn func45 ?_;simp[-cB,f45];intro bs bL;simp[-cB,aD];refine pC hq ?_;simp[-cB];intro jX;simp[-cB,aD];intro tn;have hb:(decide (v<1)||decide (12<v))=true:=by simp;omega
 simp[hb];refine pC ht ?_;simp[-cB]
theorem XQ(s:al)(m x:ah)(i:ai)(aD:i.Op=33)(hA:0<=i.Arg/\i.Arg<x.Told.World.bc.length)(hg:x.Told.World.bc.length<=100000):uo s m x i {x with Told:={x.Told with World:={x.Told.World with bc:=x.Told.World.bc.set i.Arg.toNat 0}}}:=by
 have hi:=uh 5301 x.Told.World.bc (by omega);have Ef:i.Arg.toNat<x.Told.World.bc.length:=by omega
 unfold uo;rw[ah.rA x];refine rn func45 ?_;simp[-cB,f45];intro bs bL;simp[-cB,aD];refine eD [] hi ?_;simp[-cB,hA,Ef];rfl
theorem XW(s:al)(m x:ah)(i:ai)(S:List Int)(v:Int)(aD:i.Op=32)(hS:x.Stack=S++ [v])(hl:S.length<=100000)(hA:0<=i.Arg/\i.Arg<x.Told.World.bc.length)(hg:x.Told.World.bc.length<=100000):uo s m x i {x with Stack:=S,Told:={x.Told with World:={x.Told.World with bc:=x.Told.World.bc.set i.Arg.toNat (if v<1 then 1 else v)}}}:=by
 have ht:=gD m {x with Stack:=S,Told:={x.Told with World:={x.Told.World with bc:=x.Told.World.bc.set i.Arg.toNat (if v<1 then 1 else v)}}};have hi:=uh 5301 x.Told.World.bc (by omega);have Ef:i.Arg.toNat<x.Told.World.bc.length:=by omega
 have hq:=cN x S [v] hS (by rw[hS];simp;omega);refine rn func45 ?_;simp[-cB,f45];intro bs bL;simp[-cB,aD];refine pC hq ?_;simp[-cB];intro jX;simp[-cB,aD];intro tn;rw[aj.rA x.Told.World];refine eD [] hi ?_;simp[-cB,hA,Ef];refine au.weaken (Wk.freeze 5301 (ty:=3) (k:=1) (ys:=aC (x.Told.World.bc.set i.Arg.toNat (if v<1 then 1 else v))) (by rfl)) ?_;simp[-cB,V.fi];refine pC ht ?_;simp[-cB]
theorem aaM(s:al)(m x:ah)(i:ai)(S:List Int)(v:Int)(aD:i.Op=4)(hS:x.Stack=S++ [v])(hl:S.length<=100000)(hA:0<=i.Arg/\i.Arg<x.Told.World.aQ.length)(hg:x.Told.World.aQ.length<=100000):uo s m x i {x with Stack:=S,Told:={x.Told with World:={x.Told.World with aQ:=x.Told.World.aQ.set i.Arg.toNat v}}}:=by
 have ht:=gD m {x with Stack:=S,Told:={x.Told with World:={x.Told.World with aQ:=x.Told.World.aQ.set i.Arg.toNat v}}};have hi:=uh 5301 x.Told.World.aQ (by omega);have Ef:i.Arg.toNat<x.Told.World.aQ.length:=by omega
 have hq:=cN x S [v] hS (by rw[hS];simp;omega);refine rn func45 ?_;simp[-cB,f45];intro bs bL;simp[-cB,aD];refine pC hq ?_;simp[-cB];intro jX;simp[-cB,aD];intro tn;rw[aj.rA x.Told.World];refine eD [] hi ?_;simp[-cB,hA,Ef];refine au.weaken (Wk.freeze 5301 (ty:=3) (k:=1) (ys:=aC (x.Told.World.aQ.set i.Arg.toNat v)) (by rfl)) ?_;simp[-cB,V.fi];refine pC ht ?_;simp[-cB]
theorem TJ{w:aj}{x:Int}(hx:1<=x/\x<w.ae.length):1<=dw w.tree x:=by
 unfold dw ik;have e1:w.tree.bl=w.ae:=rfl;rw[e1];obtain⟨k,hk⟩:∃k,w.ae.length=k+1:=⟨w.ae.length-1,by omega⟩
 have bR:bH w.ae w.ae.length w.ae.length x≠ []:=by
  rw[hk,bH,if_pos (by rw[aY];omega)];simp
 have hm:(bH w.ae w.ae.length w.ae.length x).getLastD 0∈bH w.ae w.ae.length w.ae.length x:=by
  rw[aqa,aqD bR];exact List.getLast_mem bR
 exact(mG hm).1
theorem Ci(s:al)(w:aj)(hw:w.wf)(hT:w.ae.length=s.Tables.az.length)(h3:3<=s.Tables.az.length):Pure prog 99 [.agg (s.enc.map .d),.agg (w.enc.map .d)] (oD (!da s.Tables (dw w.tree 1))):=by
 have ht:=rP w hw 1;have hb:=J5 w.tree 1 (by show 0<w.ae.length;omega);have hp:=TJ (w:=w) (x:=1) (by omega);have e1:w.tree.bl=w.ae:=rfl;rw[e1,hT]at hb;have hr:da s.Tables (dw w.tree 1)=(bu s.Tables (dw w.tree 1)).Room:=by
  unfold da;rw[decide_eq_true (by omega:1<=dw w.tree 1),decide_eq_true hb.2];rfl
 rw[hr];generalize dw w.tree 1=T at *;have aw:T.toNat<s.Tables.az.length:=by omega
 have bm:bu s.Tables T=s.Tables.az[T.toNat]:=by unfold bu;simp[akC aw]
 rw[bm];refine rn func99 ?_;simp[-cB,f99];intro bs;refine av.bT [iD T] aT (by kernel_rfl) (by rfl) ?_;simp[aw];exact⟨ht.ok _,hb.1⟩
theorem Ra(s:al)(m x:ah)(i:ai)(S:List Int)(v n:Int)(aD:i.Op=17)(hS:x.Stack=S++ [v,n])(hl:S.length<=100000)(hr:da s.Tables v=true):uo s m x i (eT m 12):=by
 obtain⟨h1,h2,h3⟩:=zI.1 hr;have aw:v.toNat<s.Tables.az.length:=by omega
 have bm:bu s.Tables v=s.Tables.az[v.toNat]:=by unfold bu;simp[akC aw]
 rw[bm]at h3;have h0:0<=v:=by omega
 have hf:=oX m 12;have hq:=cN x S [v,n] hS (by rw[hS];simp;omega);refine rn func45 ?_;simp[-cB,f45];intro bs bL;simp[-cB,aD];refine pC hq ?_;simp[-cB];intro jX;simp[-cB,aD];intro tn;simp[-cB,aD,h1,h2,aw,h3,h0];refine pC hf ?_;simp[-cB]
theorem Rb(s:al)(m x:ah)(i:ai)(S:List Int)(v:Int)(aD:i.Op=18)(hS:x.Stack=S++ [v])(hl:S.length<=100000)(hr:da s.Tables v=true):uo s m x i (eT m 12):=by
 obtain⟨h1,h2,h3⟩:=zI.1 hr;have aw:v.toNat<s.Tables.az.length:=by omega
 have bm:bu s.Tables v=s.Tables.az[v.toNat]:=by unfold bu;simp[akC aw]
 rw[bm]at h3;have h0:0<=v:=by omega
 have hf:=oX m 12;have hq:=cN x S [v] hS (by rw[hS];simp;omega);refine rn func45 ?_;simp[-cB,f45];intro bs bL;simp[-cB,aD];refine pC hq ?_;simp[-cB];intro jX;simp[-cB,aD];intro tn;simp[-cB,aD,h1,h2,aw,h3,h0];refine pC hf ?_;simp[-cB]
theorem XJ(s:al)(m x:ah)(i:ai)(S:List Int)(v n:Int)(w1:aj)(e1:Int)(aD:i.Op=17)(hS:x.Stack=S++ [v,n])(hl:S.length≤100000)(hr:da s.Tables v=false)(hw:x.Told.World.wf){ls:Int→List Int}(hn:ec x.Told.World.tree x.Told.World.ae.length ls)(hp:kX x.Told.World v n=(w1,e1))
  (hh:e1=0->Pure prog 99 [.agg (s.enc.map .d),.agg (w1.enc.map .d)] (oD (!da s.Tables (dw w1.tree 1))))
  (R:ah) (hR:R=if e1≠0 then eT m e1 else if da s.Tables (dw w1.tree 1)=true then {x with Stack:=S,Told:={x.Told with World:=w1}}else eT m 12):uo s m x i R:=by
 have hq:=cN x S [v,n] hS (by rw[hS];simp;omega);have hc:=Vp x.Told.World hw hn v n;rw[hp]at hc;have pQ:∀e,e≠0->Pure prog 101 [.agg (m.enc.map .d),.agg (({x with Stack:=S,Told:={x.Told with World:=w1}}:ah).enc.map .d),iD e] (.agg ((eT m e).enc.map .d)):=λe he=>jq m _ e he
 have Th:=gD m {x with Stack:=S,Told:={x.Told with World:=w1}};generalize hB:da s.Tables (dw w1.tree 1)=B at *;have cs:¬1<=v\/(1<=v/\¬v<s.Tables.az.length)\/(1<=v/\v<s.Tables.az.length/\0<=v/\∃aw:v.toNat<s.Tables.az.length,s.Tables.az[v.toNat].Room=false):=by
  by_cases h1:1<=v
  ·by_cases h2:v<s.Tables.az.length
   ·have aw:v.toNat<s.Tables.az.length:=by omega
    have h0:0<=v:=by omega
    have h3:s.Tables.az[v.toNat].Room=false:=by
     unfold da bu at hr;rw[decide_eq_true h1,decide_eq_true h2,akC aw]at hr;simpa using hr
    exact .inr (.inr ⟨h1,h2,h0,aw,h3⟩)
   ·exact .inr (.inl ⟨h1,h2⟩)
  ·exact .inl h1
 rcases cs with h1|⟨h1,h2⟩|⟨h1,h2,h0,aw,h3⟩
 all_goals
  refine rn func45 ?_;simp[-cB,f45];intro bs bL;simp[-cB,aD];refine pC hq ?_;simp[-cB];intro jX;simp[-cB,aD];intro tn
  first
   | simp[-cB,aD,h1,h2,aw,h3,h0]
   | simp[-cB,aD,h1,h2]
   | simp[-cB,aD,h1]
  refine av.aU [Q0,Q0,Q0,Q0,Q0,Q0,Q0,Q0,Q3,none,arb] [.bA [.agg (w1.enc.map .d),iD e1]] aT (by kernel_rfl) ?_;simp[-cB];refine⟨hc.ok _,?_⟩;by_cases he:e1=0
  ·subst he;have hh:=hh rfl;rw[if_neg (by simp)]at hR;refine pG hh ?_;cases B with
   | true=>
     rw[if_pos rfl]at hR;subst hR;simp;refine pC Th ?_;simp[-cB]
   | false=>
     rw[if_neg (by simp)]at hR;subst hR;have acu:=pQ 12 (by decide);simp;refine pC acu ?_;simp[-cB]
  ·rw[if_pos he]at hR;subst hR;have hte:=pQ e1 he;have hb:decide (e1=0)=false:=decide_eq_false he;refine au.eL rfl (g:=false) (x:=oD true) (λh=>by cases h) (by first|rfl|simp[fv,he]) (by first|rfl|(simp;exact he)|(simp;rfl)) (by simp) (by simp) rfl ?_;simp[he];refine pC hte ?_;simp[-cB]
theorem XK(s:al)(m x:ah)(i:ai)(S:List Int)(v:Int)(w1:aj)(e1:Int)(aD:i.Op=18)(hS:x.Stack=S++ [v])(hl:S.length≤100000)(hr:da s.Tables v=false)(hw:x.Told.World.wf){ls:Int→List Int}(hn:ec x.Told.World.tree x.Told.World.ae.length ls)(hp:fC x.Told.World v=(w1,e1))
  (hh:e1=0->Pure prog 99 [.agg (s.enc.map .d),.agg (w1.enc.map .d)] (oD (!da s.Tables (dw w1.tree 1))))
  (R:ah) (hR:R=if e1≠0 then eT m e1 else if da s.Tables (dw w1.tree 1)=true then {x with Stack:=S,Told:={x.Told with World:=w1}}else eT m 12):uo s m x i R:=by
 have hq:=cN x S [v] hS (by rw[hS];simp;omega);have hc:=O8 x.Told.World hw hn v;rw[hp]at hc;have pQ:∀e,e≠0->Pure prog 101 [.agg (m.enc.map .d),.agg (({x with Stack:=S,Told:={x.Told with World:=w1}}:ah).enc.map .d),iD e] (.agg ((eT m e).enc.map .d)):=λe he=>jq m _ e he
 have Th:=gD m {x with Stack:=S,Told:={x.Told with World:=w1}};generalize hB:da s.Tables (dw w1.tree 1)=B at *;have cs:¬1<=v\/(1<=v/\¬v<s.Tables.az.length)\/(1<=v/\v<s.Tables.az.length/\0<=v/\∃aw:v.toNat<s.Tables.az.length,s.Tables.az[v.toNat].Room=false):=by
  by_cases h1:1<=v
  ·by_cases h2:v<s.Tables.az.length
   ·have aw:v.toNat<s.Tables.az.length:=by omega
    have h0:0<=v:=by omega
    have h3:s.Tables.az[v.toNat].Room=false:=by
     unfold da bu at hr;rw[decide_eq_true h1,decide_eq_true h2,akC aw]at hr;simpa using hr
    exact .inr (.inr ⟨h1,h2,h0,aw,h3⟩)
   ·exact .inr (.inl ⟨h1,h2⟩)
  ·exact .inl h1
 rcases cs with h1|⟨h1,h2⟩|⟨h1,h2,h0,aw,h3⟩
 all_goals
  refine rn func45 ?_;simp[-cB,f45];intro bs bL;simp[-cB,aD];refine pC hq ?_;simp[-cB];intro jX;simp[-cB,aD];intro tn
  first
   | simp[-cB,aD,h1,h2,aw,h3,h0]
   | simp[-cB,aD,h1,h2]
   | simp[-cB,aD,h1]
  refine pC hc ?_;simp[-cB];by_cases he:e1=0
  ·subst he;have hh:=hh rfl;rw[if_neg (by simp)]at hR;refine pG hh ?_;cases B with
   | true=>
     rw[if_pos rfl]at hR;subst hR;simp;refine pC Th ?_;simp[-cB]
   | false=>
     rw[if_neg (by simp)]at hR;subst hR;have acu:=pQ 12 (by decide);simp;refine pC acu ?_;simp[-cB]
  ·rw[if_pos he]at hR;subst hR;have hte:=pQ e1 he;have hb:decide (e1=0)=false:=decide_eq_false he;refine au.eL rfl (g:=false) (x:=oD true) (λh=>by cases h) (by first|rfl|simp[fv,he]) (by first|rfl|(simp;exact he)|(simp;rfl)) (by simp) (by simp) rfl ?_;simp[he];refine pC hte ?_;simp[-cB]
theorem Jq(x:ByteArray):x++⟨#[]⟩=x:=by
 apply aqA;rw[apX];simp
theorem Kt{t:ar}{w:aj}(aO:ig t w):1<=cL w/\cL w<t.az.length:=by
 have hT:=aO.hT;have h3:=aO.hn;have hb:=J5 w.tree 1 (by show 0<w.ae.length;omega);have hp:=TJ (w:=w) (x:=1) (by omega);have e1:w.tree.bl=w.ae:=rfl;rw[e1]at hb;unfold cL;omega
theorem XP(t:ar)(w:aj)(hf:eJ t=true)(aO:ig t w)(hF:cZ w):Pure prog 90 [.agg (t.enc.map .d),.agg (w.enc.map .d)] (.d (.v (.string (wL t w)))):=by
 have hn:w.ae.length<=128:=by have:=aO.hT;have:=aO.hn;omega
 have sE:=acs t w aO hF hn;have hh:=Mg w aO.wf;have cq:=Kt aO;have ht:=qK t (cL w);have mb:=Gl w aO.wf hF (by omega) (cL w);have KD:=KO t w (cL w) hf aO.wf hF hn;have aw:(cL w).toNat<t.az.length:=by omega
 have h0:0<=cL w:=by omega
 have bm:bu t (cL w)=t.az[(cL w).toNat]:=by unfold bu;simp[akC aw]
 have jB:(t.az[(cL w).toNat]?.getD bg.zero).Text=t.az[(cL w).toNat].Text:=by rw[akC aw];rfl
 have htx:=CX t t.az[(cL w).toNat].Text;have z1:=iU hf (cL w);have z2:=uf hf t.az[(cL w).toNat].Text;have z3:=wU hf aO (cL w);have y1:(ByteArray.mk #[10]).size=1:=rfl;have y2:(ByteArray.mk #[89,111,117,32,115,101,101,32]).size=8:=rfl;have y3:(ByteArray.mk #[46,10]).size=2:=rfl;unfold wL;rw[bm];generalize cL w=x at *;generalize hTx:t.az[x.toNat].Text=tx at *;generalize dB t x=A at *;generalize oE t tx=B at *;generalize r9 t w x=C at *;generalize iI w x=l at *;cases hL:G8 w with
 | false=>
   rw[hL]at sE;refine rn func90 ?_;simp[-cB,f90];intro bs;refine pC sE ?_;simp
 | true=>
   rw[hL]at sE;by_cases hx:tx= -1
   ·by_cases hl:l=[]
    ·refine rn func90 ?_;simp[-cB,f90];intro bs;refine pC sE ?_;simp[-cB];refine pC hh ?_;simp[-cB];refine pC ht ?_;simp[-cB];refine⟨by omega,⟨h0,aw⟩,?_⟩;simp[jB,hx];refine pC mb ?_;simp[hl];simp[Jq]
    ·refine rn func90 ?_;simp[-cB,f90];intro bs;refine pC sE ?_;simp[-cB];refine pC hh ?_;simp[-cB];refine pC ht ?_;simp[-cB];refine⟨by omega,⟨h0,aw⟩,?_⟩;simp[jB,hx];refine pC mb ?_;simp[hl];intro _;refine pC KD ?_;simp[-cB,Jq];refine⟨by omega,by omega,by omega⟩
   ·by_cases hl:l=[]
    ·refine rn func90 ?_;simp[-cB,f90];intro bs;refine pC sE ?_;simp[-cB];refine pC hh ?_;simp[-cB];refine pC ht ?_;simp[-cB];refine⟨by omega,⟨h0,aw⟩,?_⟩;simp[jB,hx];refine av.bT [.d (.v (.string B))] aT (by kernel_rfl) (by rfl) ?_;simp[-cB,aw,h0,hTx];refine⟨htx.ok _,by omega,by omega,?_⟩;refine pC mb ?_;simp[hl];simp[Jq]
    ·refine rn func90 ?_;simp[-cB,f90];intro bs;refine pC sE ?_;simp[-cB];refine pC hh ?_;simp[-cB];refine pC ht ?_;simp[-cB];refine⟨by omega,⟨h0,aw⟩,?_⟩;simp[jB,hx];refine av.bT [.d (.v (.string B))] aT (by kernel_rfl) (by rfl) ?_;simp[-cB,aw,h0,hTx];refine⟨htx.ok _,by omega,by omega,?_⟩;refine pC mb ?_;simp[hl];intro _;refine pC KD ?_;simp[-cB,Jq];refine⟨by omega,by omega,by omega⟩
theorem WK(w:aj)(x:Int):aE prog 197 [.agg (w.enc.map .d),iD x] [] (λr L=>r= .ret (.fu (.func 241) [] [.bp 5201 0,.bp 5202 0])/\L=qn w x):=by
 refine aE.wk (R:=λr L=>r= .ret (.fu (.func 241) [] [.bp 2 0,.bp 3 0])/\∃b2 b3,L=[(3,.box b3 3 [iD x]),(2,.box b2 34 (w.enc.map .d))]) ?_ ?_
 ·refine aE.run func197 rfl (by simp[f197]) ?_;simp[f197]
 ·rintro r L ⟨rfl,b2,b3,rfl⟩;refine⟨_,_,_,rfl,((Wk.tt [2,3]).trans ((Wk.eS 2 5201 (by simp[keys])).trans ((Wk.eS 3 5202 (by simp[keys])).trans (Wk.pick [0] [5201,5202] (by simp) (by decide) ?_)))),?_⟩
  ·simp
  ·simp[qn,St.pick]
theorem RY(w:aj)(aO:vF w)(hn:w.ae.length<=1000)(hF:cZ w){ls:Int->List Int}(Mf:ec w.tree w.ae.length ls)(x:Int)(hx:1<=x/\x<w.ae.length):Iter prog 241 [.bp 5201 0,.bp 5202 0] (qn w x) ((jG w w.ae.length x).map λi=> [iD i]):=by
 intro l A B hy _;have hw:=TI w aO hn hF Mf w.ae.length x hx (by omega) l A B (λi z hz=>hy i _ (by rw[aoN,hz];rfl));rw[ao8];generalize jG w w.ae.length x=xs at *;unfold qn;unfold yv at hw;refine aE.x5 [5003] (by simp) func241 rfl (by simp[f241]) ?_;simp[f241];refine au.agd [5003] rfl hw (by simp) rfl (by simp) rfl (by kernel_rfl) (by first|rfl|simp) (by simp) (by simp) (by simp) ?_ ?_
 ·intro bs;simp[-cB,List.filter]
 ·intro bs;simp[-cB,List.filter]
theorem acv(t:ar)(w:aj)(aO:ig t w)(hF:cZ w)(hn:w.ae.length<=128):Pure prog 130 [.agg (t.enc.map .d),.agg (w.enc.map .d)] (oD (G8 w)):=by
 have hh:=pk w aO.wf;have cq:=Kt aO;have hT:=aO.hT;have h0:=ug w hF (cL w) 0 (by decide);have my:=RY w aO.PM (by omega) hF aO.nest (cL w) (by omega);have hu:=WK w (cL w);have hy:∀y,Pure prog 196 [.agg (w.enc.map .d),iD y,iD 0] (oD (cU w y 0)):=λy=>ug w hF y 0 (by decide)
 simp only[show(0:Int).toNat=0 from rfl]at h0;unfold G8;unfold qn at my hu;change Pure prog 131 [.agg (w.enc.map .d)] (iD (cL w))at hh;generalize cL w=x at *;generalize jG w w.ae.length x=l at *;cases hA:cU w x 0 with
 | true=>
   rw[hA]at h0;refine rn func130 ?_;simp[-cB,f130];intro bs;refine pC hh ?_;simp[-cB];refine pC h0 ?_;simp
 | false=>
   rw[hA]at h0;refine rn func130 ?_;simp[-cB,f130];intro bs;refine pC hh ?_;simp[-cB];refine pC h0 ?_;simp;refine eD [] hu ?_;simp[-cB];refine av.AA [5201,5202] [3,4] l (λi=> [iD i]) (λpre=> []) (λpre=>∀y∈pre,cU w y 0=false) (by simpa[List.filter]using my) rfl (by simp) (by simp[List.filter]) (by simp[gN]) (by simp) (by rfl) (by rfl) (by simp[List.filter]) (by simp[List.filter]) ?_ ?_
   ·rintro pre z post bx hH;have hz:=hy z;cases hB:cU w z 0 with
    | true=>
      rw[hB]at hz;have yj:l.any (λy=>cU w y 0)=true:=by rw[bx];simp[hB]
      simp[-cB,List.filter];refine pC hz ?_;simp[yj]
    | false=>
      rw[hB]at hz;simp[-cB,List.filter];refine pC hz ?_;simp[hH,hB];rintro y (h|rfl)
      ·exact hH y h
      ·exact hB
   ·intro hH;have yj:l.any (λy=>cU w y 0)=false:=by
     rw[ap3];intro y hy;simp[hH y hy]
    simp[-cB,List.filter,yj]
def ld(l:List ByteArray)(s:ByteArray):Nat->ByteArray
 | 0=>⟨#[]⟩
 | k+1=>(if 0<k then ld l s k++s else ld l s k)++l[k]?.getD ⟨#[]⟩
theorem qZ(l:List ByteArray)(s:ByteArray)(hs:s.size<=1000)(h:∀x∈l,x.size<=1000000):∀k,(ld l s k).size<=1001000 *k
 | 0=>aoT _
 | k+1=>by
   have ih:=qZ l s hs h k;have h2:(l[k]?.getD ⟨#[]⟩).size<=1000000:=by
    cases h0:l[k]? with
    | none=>have:(ByteArray.mk #[]).size=0:=rfl;simp only[Option.getD_none];omega
    | some s=>have:=h s (aoO h0);simpa using this
   rw[ld,ao6];split
   ·rw[ao6];omega
   ·omega
theorem BX(l:List ByteArray)(s:ByteArray)(hs:s.size<=1000)(h:∀x∈l,x.size<=1000000)(hl:l.length<=1000):Pure prog 133 [.d (.sl (iO l)),.d (.v (.string s))] (.d (.v (.string (ld l s l.length)))):=by
 have hz:=qZ l s hs h;refine rn func133 ?_;simp[-cB,f133];refine av.cI [1,5,8,9,10] l.length (λi=> [(10,iD i),(5,.d (.v (.string (ld l s i))))]) (λ_=> []) (λ_=>True) (by rfl) (by simp[ld]) ?_;intro i hi _;rcases aoR hi with aw|rfl
 ·have dj:(i:Int)<l.length:=by omega
  have bU:aN .i64 ((i:Int)+1):=iW;have e1:l[i]?.getD ⟨#[]⟩=l[i]:=by rw[akC aw];rfl
  have z1:=hz i;have z2:=h l[i] (aoV aw);have hj:ld l s (i+1)=(if 0<i then ld l s i++s else ld l s i)++l[i]:=by rw[ld,e1]
  by_cases h0:0<i
  ·have AD:(0:Int)<i:=by omega
   rw[if_pos h0]at hj;simp[dj,aw,h0,AD,bU,hj];exact⟨by omega,by omega⟩
  ·rw[if_neg h0]at hj;have AD:¬(0:Int)<i:=by omega
   simp[dj,aw,h0,AD,bU,hj];omega
 ·simp
theorem Xw(t:ar)(w:aj)(hf:eJ t=true)(aO:ig t w)(hF:cZ w):Pure prog 81 [.agg (t.enc.map .d),.agg (w.enc.map .d)] (.d (.v (.string (wL t w)))):=by
 have hn:w.ae.length<=128:=by have:=aO.hT;have:=aO.hn;omega
 have sE:=acv t w aO hF hn;have hh:=pk w aO.wf;change Pure prog 131 [.agg (w.enc.map .d)] (iD (cL w))at hh;have cq:=Kt aO;have ht:=A1 t (cL w);have mb:=LQ t w aO.wf aO.hC aO.hN hF (by omega) (cL w);have KD:=KN t w (cL w) hf aO hF;have aw:(cL w).toNat<t.az.length:=by omega
 have h0:0<=cL w:=by omega
 have bm:bu t (cL w)=t.az[(cL w).toNat]:=by unfold bu;simp[akC aw]
 have jB:(t.az[(cL w).toNat]?.getD bg.zero).Text=t.az[(cL w).toNat].Text:=by rw[akC aw];rfl
 have htx:=CU t t.az[(cL w).toNat].Text;have z1:=iU hf (cL w);have z2:=uf hf t.az[(cL w).toNat].Text;have z3:=wU hf aO (cL w);have y1:(ByteArray.mk #[10]).size=1:=rfl;have y2:(ByteArray.mk #[89,111,117,32,115,101,101,32]).size=8:=rfl;have y3:(ByteArray.mk #[46]).size=1:=rfl;have ea:∀X:Array UInt8,X++ #[46,10]=(X.push 46).push 10:=by intro X;apply Array.ext';simp
 unfold wL;rw[bm];generalize cL w=x at *;generalize hTx:t.az[x.toNat].Text=tx at *;generalize dB t x=A at *;generalize oE t tx=B at *;generalize r9 t w x=C at *;generalize iI w x=l at *;have Li:((l.map (dB t)).length:Int)=l.length:=by simp
 cases hL:G8 w with
 | false=>
   rw[hL]at sE;refine rn func81 ?_;simp[-cB,f81];intro bs;refine pC sE ?_;simp
 | true=>
   rw[hL]at sE;by_cases hx:tx= -1
   ·by_cases hl:l=[]
    ·have dZ:∀s∈([A]:List ByteArray),s.size<=1000000:=by intro s hs;simp at hs;subst hs;omega
     have hj:=BX [A] ⟨#[10]⟩ (by decide) dZ (by simp);have hz:(ld [A] ⟨#[10]⟩ 1).size<=1001000 *1:=qZ [A] ⟨#[10]⟩ (by decide) dZ 1;refine rn func81 ?_;simp[-cB,f81];intro bs;refine pC sE ?_;simp[-cB];refine pC hh ?_;simp[-cB];refine pC ht ?_;simp[-cB];refine⟨⟨h0,aw⟩,?_⟩;simp[jB,hx];refine pC mb ?_;simp[hl];refine au.weaken (Wk.freeze 17 (ty:=9) (k:=1) (ys:=iO [A]) (by rfl)) ?_;simp[-cB,V.fi];refine pC hj ?_;simp[-cB];refine⟨by omega,?_⟩;apply aqA;simp[ld,apX,ea]
    ·have dZ:∀s∈([A,(⟨#[89,111,117,32,115,101,101,32]⟩++C++⟨#[46]⟩)]:List ByteArray),s.size<=1000000:=by intro s hs;simp at hs;rcases hs with rfl|rfl<;>(try rw[ao6,ao6])<;>omega
     have hj:=BX [A,(⟨#[89,111,117,32,115,101,101,32]⟩++C++⟨#[46]⟩)] ⟨#[10]⟩ (by decide) dZ (by simp);have hz:(ld [A,(⟨#[89,111,117,32,115,101,101,32]⟩++C++⟨#[46]⟩)] ⟨#[10]⟩ 2).size<=1001000 *2:=qZ [A,(⟨#[89,111,117,32,115,101,101,32]⟩++C++⟨#[46]⟩)] ⟨#[10]⟩ (by decide) dZ 2;refine rn func81 ?_;simp[-cB,f81];intro bs;refine pC sE ?_;simp[-cB];refine pC hh ?_;simp[-cB];refine pC ht ?_;simp[-cB];refine⟨⟨h0,aw⟩,?_⟩;simp[jB,hx];refine pC mb ?_;simp[hl];intro _;refine pC KD ?_;simp[-cB];refine⟨by omega,by omega,?_⟩;refine au.weaken (Wk.freeze 17 (ty:=9) (k:=1) (ys:=iO [A,(⟨#[89,111,117,32,115,101,101,32]⟩++C++⟨#[46]⟩)]) (by rfl)) ?_;simp[-cB,V.fi];refine pC hj ?_;simp[-cB];refine⟨by omega,?_⟩;apply aqA;simp[ld,apX,ea]
   ·by_cases hl:l=[]
    ·have dZ:∀s∈([A,B]:List ByteArray),s.size<=1000000:=by intro s hs;simp at hs;rcases hs with rfl|rfl<;>(try rw[ao6,ao6])<;>omega
     have hj:=BX [A,B] ⟨#[10]⟩ (by decide) dZ (by simp);have hz:(ld [A,B] ⟨#[10]⟩ 2).size<=1001000 *2:=qZ [A,B] ⟨#[10]⟩ (by decide) dZ 2;refine rn func81 ?_;simp[-cB,f81];intro bs;refine pC sE ?_;simp[-cB];refine pC hh ?_;simp[-cB];refine pC ht ?_;simp[-cB];refine⟨⟨h0,aw⟩,?_⟩;simp[jB,hx];refine pC htx ?_;simp[-cB];refine pC mb ?_;simp[hl];refine au.weaken (Wk.freeze 17 (ty:=9) (k:=1) (ys:=iO [A,B]) (by rfl)) ?_;simp[-cB,V.fi];refine pC hj ?_;simp[-cB];refine⟨by omega,?_⟩;apply aqA;simp[ld,apX,ea]
    ·have dZ:∀s∈([A,B,(⟨#[89,111,117,32,115,101,101,32]⟩++C++⟨#[46]⟩)]:List ByteArray),s.size<=1000000:=by intro s hs;simp at hs;rcases hs with rfl|rfl|rfl<;>(try rw[ao6,ao6])<;>omega
     have hj:=BX [A,B,(⟨#[89,111,117,32,115,101,101,32]⟩++C++⟨#[46]⟩)] ⟨#[10]⟩ (by decide) dZ (by simp);have hz:(ld [A,B,(⟨#[89,111,117,32,115,101,101,32]⟩++C++⟨#[46]⟩)] ⟨#[10]⟩ 3).size<=1001000 *3:=qZ [A,B,(⟨#[89,111,117,32,115,101,101,32]⟩++C++⟨#[46]⟩)] ⟨#[10]⟩ (by decide) dZ 3;refine rn func81 ?_;simp[-cB,f81];intro bs;refine pC sE ?_;simp[-cB];refine pC hh ?_;simp[-cB];refine pC ht ?_;simp[-cB];refine⟨⟨h0,aw⟩,?_⟩;simp[jB,hx];refine pC htx ?_;simp[-cB];refine pC mb ?_;simp[hl];intro _;refine pC KD ?_;simp[-cB];refine⟨by omega,by omega,?_⟩;refine au.weaken (Wk.freeze 17 (ty:=9) (k:=1) (ys:=iO [A,B,(⟨#[89,111,117,32,115,101,101,32]⟩++C++⟨#[46]⟩)]) (by rfl)) ?_;simp[-cB,V.fi];refine pC hj ?_;simp[-cB];refine⟨by omega,?_⟩;apply aqA;simp[ld,apX,ea]
set_option maxHeartbeats 200000
set_option maxRecDepth 512
section
variable {c : XC} {d loc : Int}
def StT(c:XC)(d loc:Int)(x:an):Prop:=∀σ,Iv c σ->σ.Dp=d->(σ.Ls.length:Int)=loc->Aa c 0 σ (λg=>jx c g σ x)
def Mh(c:XC)(d loc:Int)(l:List an):Prop:=∀σ,Iv c σ->σ.Dp=d->(σ.Ls.length:Int)=loc->Aa c 0 σ (λg=>dX c g σ l)
theorem zK:∀l,(∀s∈l,StT c d loc s)->Mh c d loc l
 | [],_,σ,hi,_,_=>⟨1,σ,.bN 0,by rfl,hi.rl (by omega)⟩
 | x::l,h,σ,hi,hd,hl=>by
   have hi0:=hi.out;obtain⟨g1,aR,o1,h1,r1⟩:=h x (by simp) σ hi hd hl;cases o1 with
   | bN n=>
     obtain⟨g2,ck,o2,h2,r2⟩:=zK l (λs hs=>h s (by grind)) aR (r1.iv hi (by omega)) (by rw[r1.dp];exact hd) (by rw[r1.ls];exact hl);have e1:=Wu (apW g1 g2) h1;have e2:=po (apP g1 g2) h2;exact⟨max g1 g2+1,ck,o2,by simp_all[dX],r1.trans r2 (by omega)⟩
   | bG u=>exact⟨g1+1,aR,.bG u,by simp_all[dX],r1⟩
   | over=>exact⟨g1+1,aR,.over,by simp_all[dX],r1⟩
   | ret u=>exact⟨g1+1,aR,.ret u,by simp_all[dX],r1⟩
theorem aal(hM:c.M<=1000000){x e}(hx:x.aF=[e])(he:WG c d loc e)(hb:Mh c d loc x.Body):∀(k:Nat) σ,max c.M 0-σ.Fuel<k->Iv c σ->σ.Dp=d->(σ.Ls.length:Int)=loc->Aa c 0 σ (λg=>gm c g σ x):=by
 intro k
 induction k with
 | zero=>intro σ hk hi;have:=hi.f2;omega
 | succ k ih=>
   intro σ hk hi hd hl;have hi0:=hi.out;rcases Ht hM hi with⟨qG,ye,r0,yT⟩|ye
   ·have i0:=r0.iv hi (by omega);obtain⟨g1,aR,o1,h1,r1⟩:=he qG i0 (by rw[r0.dp];exact hd) (by rw[r0.ls];exact hl);have h1:dR c g1 qG e=some (aR,o1):=h1;have Hw:Rl c 0 σ aR:=r0.trans r1 (by omega);cases o1 with
    | bN n=>
      by_cases hn:n=0
      ·refine⟨g1+1,aR,.bN 0,?_,Hw⟩;simp_all[gm,if_pos]
      ·have i1:=r1.iv i0 (by have:=i0.out;omega);obtain⟨g2,ck,o2,h2,r2⟩:=hb aR i1 (by rw[Hw.dp];exact hd) (by rw[Hw.ls];exact hl);have uU:Rl c 0 σ ck:=Hw.trans r2 (by omega);cases o2 with
       | bN m=>
         have i2:=r2.iv i1 (by have:=i1.out;omega);obtain⟨g3,zJ,o3,h3,r3⟩:=ih ck (by have h4:=r1.f1;have h5:=r2.f1;omega) i2 (by rw[uU.dp];exact hd) (by rw[uU.ls];exact hl);have e1:=qC (g':=max (max g1 g2) g3) (by omega) h1;have e2:=po (g':=max (max g1 g2) g3) (by omega) h2;have e3:=RV (g':=max (max g1 g2) g3) (by omega) h3;refine⟨max (max g1 g2) g3+1,zJ,o3,?_,uU.trans r3 (by omega)⟩;simp_all[gm,max,if_neg]
       | bG u=>
         have e1:=qC (apW g1 g2) h1;have e2:=po (apP g1 g2) h2;refine⟨max g1 g2+1,ck,.bG u,?_,uU⟩;simp_all[gm,max,if_neg]
       | over=>
         have e1:=qC (apW g1 g2) h1;have e2:=po (apP g1 g2) h2;refine⟨max g1 g2+1,ck,.over,?_,uU⟩;simp_all[gm,max,if_neg]
       | ret u=>
         have e1:=qC (apW g1 g2) h1;have e2:=po (apP g1 g2) h2;refine⟨max g1 g2+1,ck,.ret u,?_,uU⟩;simp_all[gm,max,if_neg]
    | bG u=>
      refine⟨g1+1,aR,.bG u,?_,Hw⟩;simp_all[gm]
    | over=>
      refine⟨g1+1,aR,.over,?_,Hw⟩;simp_all[gm]
    | ret u=>
      refine⟨g1+1,aR,.ret u,?_,Hw⟩;simp_all[gm]
   ·refine⟨1,σ,.bG 19,?_,hi.rl (by omega)⟩;simp_all[gm]
theorem acw(hB:jI c.B)(hM:c.M<=1000000){x}(hx:0<=x.aL/\x.aL+1<loc)(WM:loc<=1000)(hb:Mh c d loc x.Body):∀(k:Nat) σ,max c.M 0-σ.Fuel<k->Iv c σ->σ.Dp=d->(σ.Ls.length:Int)=loc->Aa c 0 σ (λg=>fm c g σ x):=by
 intro k
 induction k with
 | zero=>intro σ hk hi;have:=hi.f2;omega
 | succ k ih=>
   intro σ hk hi hd hl;have hi0:=hi.out;have hg:fL σ.Ls x.aL/\fL σ.Ls (x.aL+1)/\x.aL<=1000000/\okW c σ.W=true:=⟨⟨hx.1,by omega⟩,⟨by omega,by omega⟩,by omega,hi.w⟩
   by_cases h0:aA σ.Ls x.aL=0
   ·refine⟨1,σ,.bN 0,?_,hi.rl (by omega)⟩;show fm c 1 σ x=_;rw[fm,if_pos hg,if_pos h0]
   rcases Ht hM hi with⟨qG,ye,r0,yT⟩|ye
   ·have i0:=r0.iv hi (by omega);by_cases ht:(df qG.W 3 (aA qG.Ls x.aL)).2≠0
    ·refine⟨1,qG,.bG (df qG.W 3 (aA qG.Ls x.aL)).2,?_,r0.trans (i0.rl (k:=0) (by omega)) (by omega)⟩;show fm c 1 σ x=_;rw[fm,if_pos hg,if_neg h0,ye];grind
    ·obtain⟨g2,ck,o2,h2,r2⟩:=hb {qG with Ls:=qG.Ls.set (x.aL+1).toNat (df qG.W 3 (aA qG.Ls x.aL)).1} ⟨i0.w,i0.d0,i0.f0,i0.f2,i0.out⟩ (by show qG.Dp=d;rw[r0.dp];exact hd) (by show((qG.Ls.set _ _).length:Int)=loc;rw[aqm,r0.ls];exact hl);have q:Rl c 0 qG ck:=⟨r2.w,by rw[r2.ls];simp,r2.dp,r2.f1,r2.f2,r2.out⟩
     have uU:Rl c 0 σ ck:=r0.trans q (by omega);cases o2 with
     | bN m=>
       have i2:=q.iv i0 (by have:=i0.out;omega);obtain⟨g3,zJ,o3,h3,r3⟩:=ih {ck with Ls:=ck.Ls.set x.aL.toNat (aA ck.Ls (x.aL+1))} (by show max c.M 0-ck.Fuel<k;have h5:=q.f1;omega) ⟨i2.w,i2.d0,i2.f0,i2.f2,i2.out⟩ (by show ck.Dp=d;rw[uU.dp];exact hd) (by show((ck.Ls.set _ _).length:Int)=loc;rw[aqm,uU.ls];exact hl);have q3:Rl c 0 ck zJ:=⟨r3.w,by rw[r3.ls];simp,r3.dp,r3.f1,r3.f2,r3.out⟩
       have e2:=po (apW g2 g3) h2;have e3:=Ww (apP g2 g3) h3;refine⟨max g2 g3+1,zJ,o3,?_,uU.trans q3 (by omega)⟩;show fm c (max g2 g3+1) σ x=_;rw[fm,if_pos hg,if_neg h0,ye];grind
     | bG u=>
       refine⟨g2+1,ck,.bG u,?_,uU⟩;show fm c (g2+1) σ x=_;rw[fm,if_pos hg,if_neg h0,ye];grind
     | over=>
       refine⟨g2+1,ck,.over,?_,uU⟩;show fm c (g2+1) σ x=_;rw[fm,if_pos hg,if_neg h0,ye];grind
     | ret u=>
       refine⟨g2+1,ck,.ret u,?_,uU⟩;show fm c (g2+1) σ x=_;rw[fm,if_pos hg,if_neg h0,ye];grind
   ·refine⟨1,σ,.bG 19,?_,hi.rl (by omega)⟩;show fm c 1 σ x=_;rw[fm,if_pos hg,if_neg h0,ye]
theorem Jr{t loc l}(h:iq t loc l=true):l.length<=256/\∀s∈l,eO t loc s=true:=by
 simp_all[iq,nk]
theorem Gm{t loc x}(h:eO t loc x=true):x.Body.length<=256/\x.bX.length<=256:=by
 rw[zD]at h;grind[Jr]
theorem acx(hB:jI c.B)(hM:c.M≤1000000)(WM:loc≤1000){x}(Ck:eO c.B.Tables loc x=true)(hb:Mh c d loc x.Body)(he:Mh c d loc x.bX)(h1:x.Kind≠1)(ew:x.Kind≠10){a}(nu:a.length=x.aF.length)(haw:∀n∈a,aq n=n)
  σ (hi:Iv c σ) (ho:(σ.Out.size:Int)+150000<=1300000 *σ.Fuel) (hd:σ.Dp=d) (hl:(σ.Ls.length:Int)=loc):Aa c 150000 σ (λg=>ib c g σ x a):=by
 obtain⟨hs,yE,-,-,-,-⟩:=qY Ck;obtain⟨tG,sL⟩:=Gm Ck;obtain⟨t2,t11,-,-,-⟩:=L5 yE;have hsa:=yG hs;have hW:=Jj hB.fits hi.w;by_cases yQ:x.Kind=2\/x.Kind=3
 ·have hg:0<a.length/\fL σ.Ls x.aL:=⟨by omega,⟨(t2 yQ).1,by omega⟩⟩
  refine⟨1,{σ with Ls:=σ.Ls.set x.aL.toNat (aA a 0)},.bN 0,by simp_all[ib,if_pos],⟨hi.w,aqm,rfl,apD _,hi.f2,?_⟩⟩;grind
 by_cases h9:x.Kind=9
 ·have hg:0<a.length/\zu x.Body/\zu x.bX:=⟨by omega,by omega,by omega⟩
  have tG:Mh c d loc (if aA a 0≠0 then x.Body else x.bX):=by grind
  obtain⟨g,σ',o,h2,r2⟩:=tG σ hi hd hl;exact⟨g+1,σ',o,by simp_all[ib,if_neg,if_pos],r2.trans ((r2.iv hi (by omega)).rl (k:=0) (by omega)) (by omega)⟩
 by_cases jN:x.Kind=11
 ·have hn:=t11 jN;have hg:0<a.length/\okW c σ.W=true/\fL σ.Ls x.aL/\zu x.Body:=⟨by omega,hi.w,⟨hn.1,by omega⟩,by omega⟩
  by_cases ht:(df σ.W 2 (aA a 0)).2≠0
  ·exact⟨1,σ,.bG (df σ.W 2 (aA a 0)).2,by show ib c 1 σ x a=_;rw[ib,if_neg yQ,if_neg h9,if_pos jN,if_pos hg,if_pos ht],hi.rl (by omega)⟩
  ·obtain⟨g,σ',o,h2,r2⟩:=acw hB hM hn WM hb ((max c.M 0-σ.Fuel).toNat+1) {σ with Ls:=σ.Ls.set x.aL.toNat (df σ.W 2 (aA a 0)).1} (by grind) ⟨hi.w,hi.d0,hi.f0,hi.f2,hi.out⟩ hd (by grind);have q:Rl c 0 σ σ':=⟨r2.w,by rw[r2.ls];simp,r2.dp,r2.f1,r2.f2,r2.out⟩
   exact⟨g+1,σ',o,by show ib c (g+1) σ x a=_;rw[ib,if_neg yQ,if_neg h9,if_pos jN,if_pos hg,if_neg ht];exact h2,q.trans ((q.iv hi (by omega)).rl (k:=0) (by omega)) (by omega)⟩
 by_cases oM:x.Kind=12
 ·have hg:0<a.length:=by omega
  exact⟨1,σ,.ret (aA a 0),by simp_all[ib,if_neg,if_pos],hi.rl (by omega)⟩
 have Fu:∀g,ib c (g+1) σ x a=Kc c σ x.Kind x.aL a:=by
  simp_all[ib,if_neg]
 by_cases Ak:x.Kind=21
 ·obtain⟨σ',o,h2,r2⟩:=AN (s:=wL c.B.Tables σ.W) hM hi (WD hB.fits hW);exact⟨1,σ',o,by show ib c 1 σ x a=_;rw[Fu,Kc,if_pos Ak,if_pos hi.w];exact h2,r2⟩
 by_cases Cd:x.Kind=22
 ·have hg:okW c σ.W=true/\0<a.length:=⟨hi.w,by omega⟩
  obtain⟨σ',o,h2,r2⟩:=AN (s:=r9 c.B.Tables σ.W (aA a 0)) hM hi (apr (wU hB.fits hW _) (by omega));exact⟨1,σ',o,by simp_all[ib,Kc,if_neg,if_pos],r2⟩
 obtain⟨w',o,Cq,IV⟩:=acq (a:=a) hB hi.w hs yE ⟨h1,by omega,by omega,h9,ew,jN,oM,Ak,Cd⟩ nu haw;refine⟨1,{σ with W:=w'},o,by simp_all[ib,Kc,if_neg],⟨IV,rfl,rfl,apD _,hi.f2,?_⟩⟩;grind
theorem aam{x}(h:(jH x).1=true):x.aF.length<=8/\(x.Kind=10->x.aF.length=1):=by
 rcases yG h with h1|⟨h,ha⟩|⟨h,ha⟩|⟨h,ha⟩
 ·unfold jH at h;rw[if_pos h1,aoM]at h;have:=h.2;unfold eF at this;grind
 ·omega
 ·omega
 ·omega
theorem acy(hB:jI c.B)(hM:c.M<=1000000)(WM:loc<=1000)(hc:Jl c d):∀n x,SizeOf.sizeOf x<n->eO c.B.Tables loc x=true->StT c d loc x:=by
 intro n
 induction n with
 | zero=>simp
 | succ n ih=>
   intro x hn hb σ hi hd hl;have hi0:=hi.out;obtain⟨hs,yE,LX,kq,rk,_⟩:=qY hb;obtain⟨tG,sL⟩:=Gm hb;obtain⟨sl,s10⟩:=aam hs;have hB1:Mh c d loc x.Body:=zK _ λs h=>ih s (by have h1:=apo h;grind[an.qU]) (kq s h)
   have hB2:Mh c d loc x.bX:=zK _ λs h=>ih s (by have h1:=apo h;grind[an.qV]) (rk s h)
   by_cases ew:x.Kind=10
   ·obtain⟨e,he⟩:=Em (s10 ew);have rk:=LX e (by grind);rw[decide_eq_false (by omega)]at rk;obtain⟨g,σ',o,h2,r2⟩:=aal hM he (Fo hB hc _ e (ao2 _) rk) hB1 ((max c.M 0-σ.Fuel).toNat+1) σ (by omega) hi hd hl;exact⟨g+1,σ',o,by show jx c (g+1) σ x=_;rw[jx,if_pos ew,if_pos (by omega)];exact h2,r2⟩
   rcases Ht hM hi with⟨qG,ye,r0,yT⟩|ye
   ·have i0:=r0.iv hi (by omega);have Fu:qG.Dp=d:=by rw[r0.dp];exact hd
    have Ng:(qG.Ls.length:Int)=loc:=by rw[r0.ls];exact hl
    have aeT:(qG.Out.size:Int)+1300000<=1300000 *qG.Fuel:=by have:=r0.out;omega
    have hsm:zu x.aF:=by omega
    by_cases h1:x.Kind=1
    ·obtain⟨g,σ',o,h2,r2⟩:=Qe hB hM hc x.aF (λe he=>by grind) qG i0 (by omega) Fu Ng;exact⟨g+1,σ',o,by simp_all[jx,if_neg,if_pos],r0.trans r2 (by omega)⟩
    ·have WA:∀e∈x.aF,cT c.B.Tables loc e false=true:=λe he=>by grind
     obtain⟨g1,aR,o1,h2,r1⟩:=Hu x.aF (λe he=>Fo hB hc _ e (ao2 _) (WA e he)) qG i0 Fu Ng;have nD:Rl c (-1300000) σ aR:=r0.trans r1 (by omega);rcases o1 with a|o
     ·have WH:a.length=x.aF.length:=((Ks hB g1).asks qG x.aF aR (.inl a) h2 loc WA).2.2.1 a rfl;have i1:=r1.iv i0 (by omega);obtain⟨g2,ck,o2,h3,r2⟩:=acx hB hM WM hb hB1 hB2 h1 ew WH (Eo h2) aR i1 (by have:=r1.out;omega) (by rw[r1.dp];omega) (by rw[r1.ls];omega);have e1:=BT (apW g1 g2) h2;have e2:=Wx (apP g1 g2) h3;exact⟨max g1 g2+1,ck,o2,by simp_all[jx,max,if_neg],nD.trans r2 (by omega)⟩
     ·exact⟨g1+1,aR,o,by simp_all[jx,if_neg],nD.trans ((r1.iv i0 (by omega)).rl (k:=0) (by omega)) (by omega)⟩
   ·refine⟨1,σ,.bG 19,?_,hi.rl (by omega)⟩;simp_all[jx,if_neg]
end
theorem acz{c}(hB:jI c.B)(hM:c.M<=1000000):∀(n:Nat) (d:Int),32-d<n->Jl c d:=by
 intro n
 induction n with
 | zero=>
   intro d hn σ r a hi hd hr ha;have:=hi.d0;omega
 | succ n ih=>
   intro d hn σ r a hi hd hr ha;have Fu:=hi.d0;by_cases fM:32<=σ.Dp
   ·refine⟨1,σ,.bG 17,?_,hi.rl (by omega)⟩;simp_all[jh,if_neg,if_pos]
   ·have hc:=ih (d+1) (by omega);have dc:=jW hB.fits;have HY:0<=r/\r<c.B.Tables.Params.length:=⟨hr.1,by have:=hB.len;omega⟩
    have fw:=(oi hB.fits).2.1 r HY.1 HY.2;obtain⟨tG,Ck⟩:=Jr (hB.bnd r hr);have hbt:=zK _ λs hs=>acy hB hM (by omega) hc _ s (ao2 _) (Ck s hs)
    obtain⟨g,σ',o,h2,r2⟩:=hbt {σ with Dp:=σ.Dp+1,Ls:=a.map aq++List.replicate ((aA c.B.Tables.aM r).toNat-a.length) 0} ⟨hi.w,by grind,hi.f0,hi.f2,hi.out⟩ (by grind) (by grind);have h2:dX c g {σ with Dp:=σ.Dp+1,Ls:=a.map aq++List.replicate ((aA c.B.Tables.aM r).toNat-a.length) 0} (c.B.aK[r.toNat]?.getD [])=some (σ',o):=h2;have hg:fL c.B.Tables.aM r/\fL c.B.aK r/\(a.length:Int)<=aA c.B.Tables.aM r/\aA c.B.Tables.aM r<=1000/\zu (c.B.aK[r.toNat]?.getD []):=⟨⟨hr.1,by omega⟩,hr,ha,by omega,by omega⟩
    have key:∃o',jh c (g+1) σ r a=some ({σ' with Dp:=σ'.Dp-1,Ls:=σ.Ls},o'):=by
     rw[jh,if_neg (by omega),if_neg fM,if_pos hg,h2];simp
    obtain⟨o',iC⟩:=key;refine⟨g+1,_,o',iC,⟨r2.w,rfl,?_,r2.f1,r2.f2,r2.out⟩⟩;show σ'.Dp-1=σ.Dp;have:σ'.Dp=σ.Dp+1:=r2.dp;omega
theorem adF{c}(hB:jI c.B)(hM:c.M<=1000000){w}(hw:okW c w=true){r a}(hr:fL c.B.aK r)(ha:(a.length:Int)<=aA c.B.Tables.aM r):Aa c 0 ⟨w,⟨#[]⟩,false,0,0,[]⟩ (λg=>jh c g ⟨w,⟨#[]⟩,false,0,0,[]⟩ r a):=
 acz hB hM 33 0 (by omega) _ r a ⟨hw,⟨apD 0,by simp⟩,apD _,by grind,by show((ByteArray.mk #[]).size:Int)<=1300000 *0;decide⟩ rfl hr ha
theorem adg(b:bW):∀(n i:Nat),i<n->(stM b n).1[i]?=some ((stM b i).2.length:Int)/\∃post,(stM b n).2=(stM b i).2++((kY b i).1++post)
 | 0,i,h=>by omega
 | n+1,i,h=>by
   have hl:∀k,(stM b k).1.length=k:=by
    intro k
    induction k with
    | zero=>rfl
    | succ k ih=>rw[stM];simp[ih]
   rw[stM];by_cases e:i=n
   ·subst e;refine⟨?_,[],by simp⟩;simp only;rw[apF (by rw[hl];exact aoT _),hl];simp
   ·obtain⟨h1,post,h2⟩:=adg b n i (by omega);refine⟨?_,post++(kY b n).1,?_⟩
    ·simp only;rw[apq (by rw[hl];omega)];exact h1
    ·simp only;rw[h2];simp
theorem Gn{b:bW}:∀(n i:Nat),qA b n i=0->∀k:Nat,i<=k->k<i+n->(kY b k).2=0
 | 0,i,_,k,h1,h2=>by omega
 | n+1,i,h,k,h1,h2=>by
   rw[qA]at h;split at h
   ·rename_i h0;by_cases e:k=i
    ·rw[e];exact h0
    ·exact Gn n (i+1) h k (by omega) (by omega)
   ·rename_i h0;exact absurd h h0
theorem A2{b:bW}{s:al}(h:gA b=(s,0)):eB b=true/\s.Tables=b.Tables/\s.Entry.length=b.aK.length/\s.Code.length<=65536/\Laid s (λf=>gn (cJ b f)):=by
 unfold gA at h;split at h
 ·simp at h
 ·rename_i hr;split at h
  ·rename_i he;simp only[aoI]at h;exact absurd h.2 he
  ·rename_i he;split at h
   ·simp at h
   ·rename_i hL;simp only[aoI,and_true]at h;subst h;have hl:∀k,(stM b k).1.length=k:=by
     intro k
     induction k with
     | zero=>rfl
     | succ k ih=>rw[stM];simp[ih]
    refine⟨by simpa using hr,rfl,hl _,by simp only;omega,λf hf=>?_⟩;have iy:0<=f/\f<b.aK.length:=by
     by_cases cq:fL b.aK f
     ·exact cq
     ·exact absurd (by show gn (cJ b f)=[];unfold cJ;rw[if_neg cq];rfl) hf
    obtain⟨k,rfl⟩:∃k:Nat,f=k:=⟨f.toNat,by omega⟩
    have hk:k<b.aK.length:=by omega
    have h0:=Gn _ _ (by simpa using he) k (by omega) (by omega);have vr:kY b k=pv (gn (cJ b k)):=by unfold kY;rw[if_neg (by omega)]
    rw[vr]at h0;obtain⟨z,h1,h2,h3,h4⟩:=ND (l:=gn (cJ b k)) (c:=(pv (gn (cJ b k))).1) (by rw[<-h0]);obtain⟨e1,post,e2⟩:=adg b b.aK.length k hk;rw[vr,h3]at e2;refine⟨⟨by omega,by show(k:Int)<((stM b b.aK.length).1.length:Int);rw[hl];omega⟩,z,(stM b k).2,h1,h2,⟨post,e2⟩,?_⟩;unfold aA;simp only[aq6];rw[e1];rfl
theorem CV{b:bW}(h:eB b=true):jI b:=by
 unfold eB at h;simp only[aoM,decide_eq_true_eq,aoP]at h;obtain⟨⟨h1,h2⟩,h3⟩:=h;refine⟨h1,h2,λr hr=>?_⟩;obtain⟨k,rfl⟩:∃k:Nat,r=k:=⟨r.toNat,by have:=hr.1;omega⟩
 have hk:k<b.aK.length:=by have:=hr.2;omega
 have hg:=h3 k (by simpa using hk);unfold wT at hg;simp only[aoM]at hg;have:=hg.1.1.2;unfold aA;simp only[aq6];exact this
theorem xN(a:List Int)(n:Nat)(h:a.length<=n):sd a n=a.map aq++List.replicate (n-a.length) 0:=by
 refine List.ext_getElem? λi=>?_
 show((List.range n).map λi=>if i<a.length then aq (a[i]?.getD 0)else 0)[i]?=_;rw[aoN];by_cases hi:i<n
 ·rw[aqy hi];by_cases hA:i<a.length
  ·rw[apq (by simpa using hA),aoN,akC hA];simp[hA]
  ·rw[apF (by simpa using hA),ao8,List.getElem?_replicate];simp[hA];omega
 ·rw[apC (by simp;omega),apC (by simp;omega)];rfl
def acN(s:al)(b:bW)(w:aj)(r:Int)(a:List Int)(env:dy):ah:=gL env [] r (aA s.Entry r) [] (a.map aq++List.replicate ((aA b.Tables.aM r).toNat-a.length) 0) [] ⟨w,⟨#[]⟩,0⟩
def acM(env:dy)(m':ah)(σ':XS):OC->Prop
 | .bN v=>m'=⟨[],[],env,⟨0,σ'.W,σ'.Out,v,false,σ'.Fuel⟩,true⟩
 | .bG e=>m'.gB=true/\m'.Env=env/\∃W,m'.Told=⟨e,W,σ'.Out,0,false,σ'.Fuel⟩
 | .over=>m'.gB=true/\m'.Env=env/\m'.Told=⟨0,σ'.W,σ'.Out,0,true,σ'.Fuel⟩
 | .ret _=>False
theorem NS{b:bW}{s:al}(hs:gA b=(s,0)){env:dy}{M:Int}{w:aj}{r:Int}{a:List Int}{g:Nat}{σ':XS}{o:OC}(hc:jh ⟨b,env,M⟩ g ⟨w,⟨#[]⟩,false,0,0,[]⟩ r a=some (σ',o))(hr:fL b.aK r):
  ∃n m',iterM (bS ⟨b,env,M⟩) s n (acN s b w r a env)=some m'/\acM env m' σ' o:=by
 obtain⟨yV,hT,hE,hC,MW⟩:=A2 hs;have hB:=CV yV;obtain⟨y,hy,g1,k1,h1⟩:=aeJ (c:=⟨b,env,M⟩) hB hc rfl;have bR:cJ b r≠ []:=by unfold cJ;rw[if_pos hr];simp
 obtain⟨g2,k2,-,h2⟩:=abD (ZD ⟨b,env,M⟩) (cJ b) (Gi b) b.aK.length (λf hf=>by
  by_cases cq:fL b.aK f
  ·exact cq
  ·exact absurd (by unfold cJ;rw[if_neg cq]) hf) r 1 [] _ _ g1 y k1 h1
 have ajY:gn (cJ b r)≠ []:=by
  intro e;obtain⟨g',YD⟩:=nQ h2;simp only at h2;rw[e,YD,run]at h2;cases h2
 obtain⟨cq,z,pre,hz,dS⟩:=MW r ajY;simp only at hz;have lE:run (bS ⟨b,env,M⟩) (λf=>gn (cJ b f)) g2 1 (z.map Prod.fst) (z.map Prod.fst) [] ((bS ⟨b,env,M⟩).lo r a) ⟨w,⟨#[]⟩,0⟩=some (y,k2):=by
  rw[hz];exact h2
 obtain⟨m',h3,h4⟩:=Y3 MW env g2 1 [] _ _ y k2 r z [] z pre [] [] lE dS rfl rfl;rw[show(pre.length:Int)+aW []=aA s.Entry r by rw[dS.2.2];simp[aW]]at h3;refine⟨k2,m',h3,?_⟩;cases o with
 | bN v=>simp only[Qd,anc]at hy;subst hy;simp only[DV,if_true]at h4;exact h4
 | bG e=>simp only[Qd,anc]at hy;subst hy;exact h4
 | over=>simp only[Qd,anc]at hy;subst hy;exact h4
 | ret n=>simp[Qd]at hy
theorem wA{K:fE}{s:al}{m:ah}(h:m.gB=true):∀n,iterM K s n m=some m
 | 0=>rfl
 | n+1=>by rw[iterM,iM,if_pos h];exact wA h n
theorem Uu{K:fE}{s:al}{m m':ah}{n:Nat}(h:iterM K s n m=some m')(hd:m'.gB=true)(i:Nat):∃mi,iterM K s i m=some mi:=by
 rcases Nat.le_total i n with hle|bm
 ·have:=vw K s i (n-i) m;rw[show i+(n-i)=n by omega,h]at this;cases hi:iterM K s i m with
  | none=>rw[hi]at this;cases this
  | some mi=>exact⟨mi,rfl⟩
 ·refine⟨m',?_⟩;rw[show i=n+(i-n) by omega,vw,h];exact wA hd _
def xG(c:XC)(S L:List Int)(σ:MS):Ev->Prop
 | .ok S' L' σ'=>(σ.Fuel<=σ'.Fuel/\σ'.Fuel<=σ.Fuel+1/\σ'.Fuel<=max σ.Fuel c.M)/\σ.Out.size<=σ'.Out.size/\(WL S->WL S')/\S'.length<=S.length+1/\L'.length=L.length
 | .over σ'=>σ'.Fuel=σ.Fuel/\σ'.Out=σ.Out
 | .bG _=>True
theorem WL.cons{v:Int}{l:List Int}(h:aq v=v)(hl:WL l):WL (v::l):=by
 intro n hn;rcases ao0.1 hn with rfl|hn
 ·exact h
 ·exact hl n hn
theorem WL.tail{v:Int}{l:List Int}(h:WL (v::l)):WL l:=λn hn=>h n (by simp[hn])
theorem xG.mk{c:XC}{S S' L L':List Int}{σ:MS}(h1:WL S->WL S')(h2:S'.length<=S.length+1)(h3:L'.length=L.length){w:aj}:xG c S L σ (.ok S' L' {σ with W:=w}):=⟨⟨apD _,by show σ.Fuel<=σ.Fuel+1;omega,by show σ.Fuel<=_;omega⟩,aoT _,h1,h2,h3⟩
theorem Ew{c:XC}{v:Bool}{S S0 L:List Int}{σ:MS}{p:Option (aj×OC)}{e:Ev}(h:iR v S0 L σ p=some e)(h1:WL S->WL S0)(h2:S0.length<=S.length):xG c S L σ e:=by
 unfold iR at h;split at h
 ·rename_i w n;cases h;refine xG.mk (λhs=>?_) ?_ rfl
  ·split
   ·exact(h1 hs).cons (wrap_wrap n)
   ·exact h1 hs
  ·split
   ·simp only[aoU];omega
   ·omega
 ·cases h;trivial
 ·cases h;exact⟨rfl,rfl⟩
 ·cases h
theorem Ex{c:XC}{S S0 L:List Int}{σ:MS}{t:ByteArray}{e:Ev}(h:yP S0 L σ t=some e)(h1:WL S->WL S0)(h2:S0.length<=S.length):xG c S L σ e:=by
 unfold yP at h;split at h
 ·cases h;refine⟨⟨apD _,by show σ.Fuel<=σ.Fuel+1;omega,by show σ.Fuel<=_;omega⟩,?_,h1,by omega,rfl⟩;show σ.Out.size<=(σ.Out++t).size;rw[ao6];omega
 ·cases h
theorem agf{c:XC}{S S0 L:List Int}{σ:MS}{p:Int×Int}(h1:WL S->WL S0)(h2:S0.length<=S.length):xG c S L σ (FC S0 L σ p):=by
 unfold FC;split
 ·exact xG.mk (w:=σ.W) (λhs=>(h1 hs).cons (wrap_wrap _)) (by simp only[aoU];omega) rfl
 ·trivial
theorem instJ_ok{c:XC}{i:ai}{S L:List Int}{σ:MS}{e:Ev}(h:instJ c i S L σ=some e):xG c S L σ e:=by
 have Ql:∀{S' L':List Int},some (Ev.ok S' L' σ)=some e->(WL S->WL S')->S'.length<=S.length+1->L'.length=L.length->xG c S L σ e:=by
  intro S' L' he h1 h2 h3;simp only[anc]at he;rw[<-he];exact xG.mk (w:=σ.W) h1 h2 h3
 unfold instJ at h;by_cases h1:i.Op=1
 ·rw[if_pos h1]at h;exact Ql h (λhs=>hs.cons (wrap_wrap _)) (by simp) rfl
 rw[if_neg h1]at h;by_cases Cc:i.Op=37
 ·rw[if_pos Cc]at h;split at h
  ·split at h
   ·cases h;trivial
   ·cases h;exact⟨⟨by show σ.Fuel<=σ.Fuel+1;omega,apD _,by show σ.Fuel+1<=_;omega⟩,aoT _,id,Nat.le_succ _,rfl⟩
  ·cases h
 rw[if_neg Cc]at h;by_cases h5:i.Op=5
 ·rw[if_pos h5]at h;split at h
  ·exact Ql h (λhs=>hs.cons (wrap_wrap _)) (by simp) rfl
  ·cases h
 rw[if_neg h5]at h;by_cases Ak:i.Op=21
 ·rw[if_pos Ak]at h;exact Ex h id (aoT _)
 rw[if_neg Ak]at h;by_cases FD:i.Op=35
 ·rw[if_pos FD]at h;split at h
  ·exact Ex h id (aoT _)
  ·cases h
 rw[if_neg FD]at h;by_cases h0:dI i.Op=0
 ·rw[if_pos h0]at h;split at h
  ·exact Ew h id (aoT _)
  ·split at h
   ·exact Ew h id (aoT _)
   ·cases h
 rw[if_neg h0]at h;cases S with
 | nil=>cases h
 | cons v S=>
   simp only at h;have ht:WL (v::S)->WL S:=WL.tail;have hl:S.length<=(v::S).length:=by simp
   by_cases h2:i.Op=2
   ·rw[if_pos h2]at h;exact Ql h ht (by simp only[aoU];omega) rfl
   rw[if_neg h2]at h;by_cases h6:i.Op=6
   ·rw[if_pos h6]at h;split at h
    ·exact Ql h ht (by simp only[aoU];omega) (by simp)
    ·cases h
   rw[if_neg h6]at h;by_cases h9:i.Op=9
   ·rw[if_pos h9]at h;exact Ql h (λhs=>(ht hs).cons (wrap_wrap _)) (by simp) rfl
   rw[if_neg h9]at h;by_cases ew:i.Op=10
   ·rw[if_pos ew]at h;exact Ql h (λhs=>(ht hs).cons (by unfold notM;first|exact mZ _|(split<;>decide))) (by simp) rfl
   rw[if_neg ew]at h;by_cases jN:i.Op=11
   ·rw[if_pos jN]at h;exact Ql h (λhs=>(ht hs).cons (mZ _)) (by simp) rfl
   rw[if_neg jN]at h;by_cases Cd:i.Op=22
   ·rw[if_pos Cd]at h;exact Ex h ht hl
   rw[if_neg Cd]at h;by_cases yQ:i.Op=23
   ·rw[if_pos yQ]at h;exact Ex h ht hl
   rw[if_neg yQ]at h;by_cases FE:i.Op=36
   ·rw[if_pos FE]at h;split at h
    ·exact Ex h ht hl
    ·cases h
   rw[if_neg FE]at h;by_cases h8:i.Op=8
   ·rw[if_pos h8]at h;cases S with
    | nil=>cases h
    | cons u S=>
      simp only at h;split at h
      ·cases h
      ·simp only[anc]at h;rw[<-h];exact agf (λhs=>hs.tail.tail) (by simp only[aoU];omega)
   rw[if_neg h8]at h;by_cases agh:dI i.Op=2
   ·rw[if_pos agh]at h;cases S with
    | nil=>cases h
    | cons u S=>
      simp only at h;split at h
      ·exact Ew h (λhs=>hs.tail.tail) (by simp only[aoU];omega)
      ·cases h
   rw[if_neg agh]at h;split at h
   ·exact Ew h ht hl
   ·split at h
    ·exact Ew h ht hl
    ·cases h
set_option maxHeartbeats 4000000
set_option maxRecDepth 8000
theorem yJ{b:List Int}{k:Nat}{y:Int}(h:b[k]?=some y)(hl:k<(gJ b).length):(gJ b)[k]'hl=[.v (.int .u8 y)]:=by
 have:(gJ b)[k]?=some [.v (.int .u8 y)]:=by unfold gJ;rw[aoN,h];rfl
 rw[akC hl]at this;exact aoK this
abbrev Qm(x:ai×Int×Int):V:= .bA [.agg (x.1.enc.map .d),iD x.2.1,iD x.2.2]
theorem aaO(b:List Int)(i:Int)(hb:∀y∈b,0<=y/\y<=255)(hl:b.length<=100000000000000):Pure prog 39 [.d (.sl (gJ b)),iD i] (Qm (og b i)):=by
 by_cases h0:i<0\/(b.length:Int)<=i
 ·have hv:og b i=(⟨0,0⟩,0,2):=by unfold og;rw[if_pos h0]
  rw[hv];by_cases h1:i<0
  ·refine rn func39 ?_;simp[-cB,f39];intro bs;simp[-cB,h1];rfl
  ·have h2:(b.length:Int)<=i:=by omega
   refine rn func39 ?_;simp[-cB,f39];intro bs;simp[-cB,h1,h2];rfl
 obtain⟨k,rfl⟩:∃k:Nat,i=k:=⟨i.toNat,by omega⟩
 have hk:k<b.length:=by omega
 have hx:=akC hk;have zH:=hb _ (aoV hk);have hg:aA b k=b[k]:=by unfold aA;simp[hx]
 unfold og;rw[if_neg h0,hg];generalize b[k]=x at *;have hq:x.tdiv 4=x / 4:=apt zH.1;have hr:x.tmod 4=x % 4:=apa zH.1;have oO:∀R:ai×Int×Int,R=(if x / 4<1\/38<=x / 4\/x % 4=3\/(0<x % 4/\ni (x / 4)=false)then(⟨0,0⟩,0,16)
  else if(b.length:Int)-k-1<x % 4 then(⟨0,0⟩,0,2)
  else if x % 4≠(dC (nI b (k+1) (x % 4)):Int)/\x / 4≠24/\x / 4≠25 then(⟨0,0⟩,0,4)
  else(⟨x / 4,nI b (k+1) (x % 4)⟩,k+1+x % 4,0))->Pure prog 39 [.d (.sl (gJ b)),iD k] (Qm R):=by
  intro R hR;have hh:=He (x / 4);have hk0:¬(k:Int)<0:=by omega
  have Zk:¬b.length<=k:=by omega
  have rh:(gJ b)[k]'(by simpa using hk)=[.v (.int .u8 x)]:=by
   have:(gJ b)[k]?=some [.v (.int .u8 x)]:=by unfold gJ;rw[aoN,hx];rfl
   rw[akC (by simpa using hk)]at this;exact aoK this
  have YH:aN .i64 (x / 4):=iW;have Cr:aN .i64 x:=iW;have IB:aN .i64 (x % 4):=iW;have Mi:IntKind.wrap .i64 x=x:=iX Cr;have Mj:IntKind.wrap .i64 (x / 4)=x / 4:=iX YH;have Hx:aN .i64 ((b.length:Int)-k):=iW;have Hy:aN .i64 ((b.length:Int)-k-1):=iW;have rC:aN .i64 ((k:Int)+1+1):=iW;have FL:aN .i64 ((k:Int)+2):=iW;have Ph:aN .i64 ((k:Int)+1+2):=iW;have km:aN .i64 ((k:Int)+1):=iW;refine rn func39 ?_;simp[-cB,f39];intro bs;simp[-cB,hk0,Zk];refine av.bT [] aT (by kernel_rfl) (by rfl) ?_;generalize hQ:x / 4=q at *;generalize hRm:x % 4=r at *;by_cases h1:q<1
  ·have e:R=(⟨0,0⟩,0,16):=by rw[hR,if_pos (.inl h1)]
   rw[e];simp[-cB,hk,hq,hr,rh,Cr,Mi,Mj,h1];refine pN (oD true) ?_;simp[-cB,h1];rfl
  by_cases h2:38<=q
  ·have e:R=(⟨0,0⟩,0,16):=by rw[hR,if_pos (.inr (.inl h2))]
   rw[e];simp[-cB,hk,hq,hr,rh,Cr,Mi,Mj,h1,h2];refine pN (oD true) ?_;simp[-cB,h1,h2];rfl
  by_cases h3:r=3
  ·have e:R=(⟨0,0⟩,0,16):=by rw[hR,if_pos (.inr (.inr (.inl h3)))]
   rw[e];simp[-cB,hk,hq,hr,rh,Cr,Mi,Mj,h1,h2,h3];refine pN (oD true) ?_;simp[-cB,h1,h2,h3];rfl
  by_cases h4:0<r
  ·by_cases h5:ni q=false
   ·have e:R=(⟨0,0⟩,0,16):=by rw[hR,if_pos (.inr (.inr (.inr ⟨h4,h5⟩)))]
    rw[h5]at hh;rw[e];simp[-cB,hk,hq,hr,rh,Cr,Mi,Mj,h1,h2,h3,h4];refine pG hh ?_;simp[-cB,h1,h2,h3,h4];rfl
   rw[Bool.not_eq_false]at h5;rw[h5]at hh;simp[-cB,hk,hq,hr,rh,Cr,Mi,Mj,h1,h2,h3,h4];refine pG hh ?_;have ajZ:r=1\/r=2:=by omega
   have hc4:¬(q<1\/38<=q\/r=3\/(0<r/\ni q=false)):=by simp[h1,h2,h3,h5]
   rw[if_neg hc4]at hR;by_cases h6:(b.length:Int)-k-1<r
   ·have e:R=(⟨0,0⟩,0,2):=by rw[hR,if_pos h6]
    rw[e];simp[-cB,h1,h2,h3,h4,Hx,Hy,h6];rfl
   rw[if_neg h6]at hR;rcases ajZ with rfl|rfl
   ·have Hz:k+1<b.length:=by omega
    obtain⟨y,hy⟩:∃y,b[k+1]?=some y:=⟨_,akC Hz⟩
    have x7:=hb y (aoO hy);have TL:=yJ hy (by simpa using Hz);have OU:IntKind.wrap .i64 y=y:=iX iW;have acA:(0:Int)<=(k:Int)+1:=by omega
    have hyg:aA b ((k:Int)+1)=y:=by unfold aA;rw[show((k:Int)+1).toNat=k+1 by omega,hy];rfl
    simp only[nI,if_true,hyg]at hR;simp[-cB,h1,h2,h3,h4,Hx,Hy,h6];simp[-cB,km,acA,Hz,TL,OU];by_cases hs:128<=y
    ·rw[if_pos hs]at hR;have yg:aN .i64 (y-256):=iW;generalize hN:y-256=n at *;have Qn:=tY n;have Ey:R=if((((1:Int) !=(dC n:Int))&&(q !=24))&&(q !=25))=true then(⟨0,0⟩,0,4)else((⟨q,n⟩:ai),((k:Int)+1+1,(0:Int))):=by
      rw[hR];simp[and_assoc]
     skip
     simp[-cB,hs,hN,yg];refine pC Qn ?_;cases pD:((1:Int) !=(dC n:Int))<;>cases pB:(q !=24)<;>cases Ez:(q !=25)
     all_goals rw[pD,pB,Ez]at Ey
     all_goals simp[-cB,pD,pB,Ez,km,rC]
     all_goals (rw[Ey];first|rfl|exact⟨rfl,rfl,rfl⟩)
    ·rw[if_neg hs]at hR;have Qn:=tY y;have Ey:R=if((((1:Int) !=(dC y:Int))&&(q !=24))&&(q !=25))=true then(⟨0,0⟩,0,4)else((⟨q,y⟩:ai),((k:Int)+1+1,(0:Int))):=by
      rw[hR];simp[and_assoc]
     skip
     simp[-cB,hs];refine pC Qn ?_;cases pD:((1:Int) !=(dC y:Int))<;>cases pB:(q !=24)<;>cases Ez:(q !=25)
     all_goals rw[pD,pB,Ez]at Ey
     all_goals simp[-cB,pD,pB,Ez,km,rC]
     all_goals (rw[Ey];first|rfl|exact⟨rfl,rfl,rfl⟩)
   ·have Hz:k+1<b.length:=by omega
    have acB:k+2<b.length:=by omega
    obtain⟨y,hy⟩:∃y,b[k+1]?=some y:=⟨_,akC Hz⟩
    obtain⟨z,hz⟩:∃z,b[k+2]?=some z:=⟨_,akC acB⟩
    have x7:=hb y (aoO hy);have hzb:=hb z (aoO hz);have TL:=yJ hy (by simpa using Hz);have hze:=yJ hz (by simpa using acB);have OU:IntKind.wrap .i64 y=y:=iX iW;have hzw:IntKind.wrap .i64 z=z:=iX iW;have acA:(0:Int)<=(k:Int)+1:=by omega
    have ahK:(0:Int)<=(k:Int)+2:=by omega
    have hyg:aA b ((k:Int)+1)=y:=by unfold aA;rw[show((k:Int)+1).toNat=k+1 by omega,hy];rfl
    have hzg:aA b ((k:Int)+1+1)=z:=by unfold aA;rw[show((k:Int)+1+1).toNat=k+2 by omega,hz];rfl
    have yg:aN .i64 (256 *y):=iW;have hy3:aN .i64 (256 *y+z):=iW;have ahL:nI b ((k:Int)+1) 2=aq (256 *y+z):=by unfold nI;rw[if_neg (by omega),if_pos rfl,hyg,hzg]
    rw[ahL]at hR;have FQ:((k:Int)+2).toNat=k+2:=by omega
    have aj0:(k:Int)+2<b.length:=by omega
    have hw:=aP (256 *y+z);generalize aq (256 *y+z)=n at *;simp[-cB,h1,h2,h3,h4,Hx,Hy,h6];refine av.bT [iD n] aT (by kernel_rfl) (by rfl) ?_;simp[-cB,km,acA,Hz,TL,OU,FL,ahK,acB,aj0,FQ,hze,hzw,yg,hy3,hw.ok];have Qn:=tY n;have Ey:R=if((((2:Int) !=(dC n:Int))&&(q !=24))&&(q !=25))=true then(⟨0,0⟩,0,4)else((⟨q,n⟩:ai),((k:Int)+1+2,(0:Int))):=by
     rw[hR];simp[and_assoc]
    skip
    refine pC Qn ?_;cases pD:((2:Int) !=(dC n:Int))<;>cases pB:(q !=24)<;>cases Ez:(q !=25)
    all_goals rw[pD,pB,Ez]at Ey
    all_goals simp[-cB,pD,pB,Ez,km,Ph]
    all_goals (rw[Ey];first|rfl|exact⟨rfl,rfl,rfl⟩)
  ·have tz:r=0:=by omega
   subst tz;have e:R=((⟨q,0⟩:ai),((k:Int)+1,(0:Int))):=by
    rw[hR,if_neg (by simp[h1,h2]),if_neg (by omega),if_neg (by simp[nI,dC])];simp[nI]
   rw[e];have h6:¬(b.length:Int)-k-1<0:=by omega
   have Ss:Pure prog 85 [iD 0] (iD 0):=tY 0;simp[-cB,hk,hq,hr,rh,Cr,Mi,Mj,h1,h2];refine pN (oD true) ?_;simp[-cB,h1,h2,Hx,Hy,h6];refine pC Ss ?_;simp[-cB,km];rfl
 exact oO _ rfl
def Mk(n:Int):List Int->Nat->Int
 | [],_=> -1
 | x::l,i=>if n=x then(i:Int)else Mk n l (i+1)
theorem TM(n:Int):∀(l:List Int) (i:Nat),decide (0<=Mk n l i)=l.contains n
 | [],i=>by simp[Mk]
 | x::l,i=>by
   rw[Mk,List.contains_cons];by_cases h:n=x
   ·subst h;simp
   ·rw[if_neg h,TM n l];simp[h]
theorem aan(l:List Int)(n:Int)(hl:l.length<=1000000):Pure prog 239 [.d (.sl (aC l)),iD n] (iD (Mk n l 0)):=by
 refine rn func239 ?_;simp[-cB,f239];refine av.cI [0,1,7,8] l.length (λi=> [(8,iD i)]) (λ_=> []) (λi=>Mk n (l.drop i) i=Mk n l 0) (by rfl) (by simp[aC]) ?_;intro i hi hH;rcases aoR hi with aw|heq
 ·have hx:l[i]?=some l[i]:=akC aw;have bU:aN .i64 ((i:Int)+1):=iW;rw[aqs aw,Mk]at hH;by_cases hp:n=l[i]
  ·rw[if_pos hp]at hH;simp[aw,<-hp];exact hH
  ·rw[if_neg hp]at hH;simp[aw,hp,bU];exact hH
 ·have:l.drop i=[]:=by rw[heq];simp
  rw[this]at hH;simp[heq];exact hH
theorem Qo(l:List Int)(n:Int)(hl:l.length<=1000000):Pure prog 194 [.d (.sl (aC l)),iD n] (oD (l.contains n)):=by
 have h:=aan l n hl;rw[<-TM n l 0];refine rn func194 ?_;simp[-cB,f194];refine pC h ?_;simp
theorem acC(l:List Int)(n:Int)(hl:l.length<=1000000):Pure prog 127 [iD n,.d (.sl (aC l))] (oD (l.contains n)):=by
 have h:=Qo l n hl;refine rn func127 ?_;simp[-cB,f127];refine pC h ?_;simp
theorem acD(n:Int):Pure prog 71 [iD n] (oD (ni n)):=by
 have h:=acC [1,3,4,5,6,7,8,12,13,14,15,16,19,21,24,25,26,32,33,38] n (by simp);unfold ni;refine rn func71 ?_;simp[-cB,f71];refine au.weaken (Wk.freeze 4 (ys:=aC [1,3,4,5,6,7,8,12,13,14,15,16,19,21,24,25,26,32,33,38]) rfl) ?_;simp[-cB];refine pC h ?_;simp
theorem aao(n:Int):Pure prog 72 [iD n] (iD (dC n)):=by
 unfold dC;by_cases h0:n=0
 ·subst h0;refine rn func72 ?_;simp[-cB,f72]
 ·by_cases h1: -128<=n/\n<=127
  ·refine rn func72 ?_;simp[-cB,f72]
   repeat' (first
    | (with_reducible refine And.intro ?_ ?_)
    | (refine ax (λh=>?_) (λh=>?_)<;>(try simp at h)<;>(try simp[-cB, *]))
    | (with_reducible intro _))
   all_goals (try omega)
  ·refine rn func72 ?_;simp[-cB,f72]
   repeat' (first
    | (with_reducible refine And.intro ?_ ?_)
    | (refine ax (λh=>?_) (λh=>?_)<;>(try simp at h)<;>(try simp[-cB, *]))
    | (with_reducible intro _))
   all_goals (try omega)
theorem WN(n:Int):Pure prog 70 [iD n] (oD (decide (1<=n)&&decide (n<=38))):=by
 refine rn func70 ?_;simp[f70]
theorem WO(n a b:Int):Pure prog 69 [iD n,iD a,iD b] (oD (decide (a<=n)&&decide (n<b))):=by
 refine rn func69 ?_;simp[f69]
theorem agi(s z:Int)(hs: -128<=s/\s<=127)(hz:0<=z/\z<=255):IntKind.wrap .i64 (((IntKind.wrap .i64 (s *2^min 8 IntKind.i64.bits) % 2^IntKind.i64.bits).toNat ||| (z % 2^IntKind.i64.bits).toNat:Nat):Int)=256 *s+z:=by
 have h0:IntKind.wrap .i64 (s *2^min 8 IntKind.i64.bits)=256 *s:=by
  rw[show min 8 IntKind.i64.bits=8 from rfl,show((2:Int)^8)=256 from rfl,Int.mul_comm];exact iX iW
 have h1:(256 *s % 2^IntKind.i64.bits).toNat=256 *((s % 72057594037927936).toNat):=by
  rw[show IntKind.i64.bits=64 from rfl];omega
 have h2:(z % 2^IntKind.i64.bits).toNat=z.toNat:=by rw[show IntKind.i64.bits=64 from rfl];omega
 rw[h0,h1,h2];have h3:256 *((s % 72057594037927936).toNat) ||| z.toNat=256 *((s % 72057594037927936).toNat)+z.toNat:=by
  have:=Nat.two_pow_add_eq_or_of_lt (i:=8) (b:=z.toNat) (by omega) ((s % 72057594037927936).toNat);exact this.symm
 rw[h3];have h4:IntKind.wrap .i64 ((256 *((s % 72057594037927936).toNat)+z.toNat:Nat):Int)=IntKind.wrap .i64 (256 *s+z):=by
  have e:((256 *((s % 72057594037927936).toNat)+z.toNat:Nat):Int) % 2^IntKind.i64.bits=(256 *s+z) % 2^IntKind.i64.bits:=by
   rw[show IntKind.i64.bits=64 from rfl];omega
  unfold IntKind.wrap;rw[e]
 rw[h4];exact iX iW
theorem agj(y:Int)(h:0<=y/\y<=255):IntKind.wrap .i8 y=if 128<=y then y-256 else y:=by
 simp[IntKind.wrap,IntKind.bits,IntKind.signed];split<;>split<;>omega
def qH(y:Int):Int:=if 128<=y then y-256 else y
def sF(l:List Int):Nat->Int
 | 0=>0
 | 1=>qH (l[0]?.getD 0)
 | _=>256 *qH (l[0]?.getD 0)+l[1]?.getD 0
theorem Ku{y:Int}(h:0<=y/\y<=255): -128<=qH y/\qH y<=127:=by unfold qH;split<;>omega
theorem acE(y z:Int)(h:0<=y/\y<=255)(hz:0<=z/\z<=255):aq (256 *y+z)=256 *qH y+z:=by
 unfold aq qH;simp[IntKind.wrap,IntKind.bits,IntKind.signed];split<;>split<;>omega
set_option maxRecDepth 30000
theorem FF(b:List Int)(i:Int)(hb:∀y∈b,0<=y/\y<=255)(hl:b.length<=100000000000000):Pure prog 35 [.d (.sl (gJ b)),iD i] (Qm (og b i)):=by
 have hA:=WO i 0 b.length;by_cases h0:i<0\/(b.length:Int)<=i
 ·have hv:og b i=(⟨0,0⟩,0,2):=by unfold og;rw[if_pos h0]
  rw[hv];have hf:(decide (0<=i)&&decide (i<(b.length:Int)))=false:=by
   rw[ap9];simp;omega
  rw[hf]at hA;refine rn func35 ?_;simp[-cB,f35];intro bs;refine pC hA ?_;simp[-cB];rfl
 have hf:(decide (0<=i)&&decide (i<(b.length:Int)))=true:=by simp;omega
 rw[hf]at hA;obtain⟨k,rfl⟩:∃k:Nat,i=k:=⟨i.toNat,by omega⟩
 have hk:k<b.length:=by omega
 have hx:=akC hk;have zH:=hb _ (aoV hk);have hg:aA b k=b[k]:=by unfold aA;simp[hx]
 unfold og;rw[if_neg h0,hg];generalize b[k]=x at *;have hq:x.tdiv 4=x / 4:=apt zH.1;have hr:x.tmod 4=x % 4:=apa zH.1;have oO:∀R:ai×Int×Int,R=(if x / 4<1\/38<=x / 4\/x % 4=3\/(0<x % 4/\ni (x / 4)=false)then(⟨0,0⟩,0,16)
  else if(b.length:Int)-k-1<x % 4 then(⟨0,0⟩,0,2)
  else if x % 4≠(dC (nI b (k+1) (x % 4)):Int)/\x / 4≠24/\x / 4≠25 then(⟨0,0⟩,0,4)
  else(⟨x / 4,nI b (k+1) (x % 4)⟩,k+1+x % 4,0))->Pure prog 35 [.d (.sl (gJ b)),iD k] (Qm R):=by
  intro R hR;have hh:=acD (x / 4);have hK:=WN (x / 4);have rh:=yJ hx (by simpa using hk);have YH:aN .i64 (x / 4):=iW;have Cr:aN .i64 x:=iW;have Mi:IntKind.wrap .i64 x=x:=iX Cr;have Mj:IntKind.wrap .i64 (x / 4)=x / 4:=iX YH;have rC:aN .i64 ((k:Int)+1+1):=iW;have FL:aN .i64 ((k:Int)+2):=iW;have Ph:aN .i64 ((k:Int)+1+2):=iW;have Hx:aN .i64 ((b.length:Int)-k):=iW;have Hy:aN .i64 ((b.length:Int)-k-1):=iW;have km:aN .i64 ((k:Int)+1):=iW;refine rn func35 ?_;simp[-cB,f35];intro bs;refine pC hA ?_;simp[-cB];refine av.bT [] aT (by kernel_rfl) (by rfl) ?_;generalize hQ:x / 4=q at *;generalize hRm:x % 4=r at *;simp[-cB,hk,hq,hr,rh,Cr,Mi,Mj];by_cases h1:q<1\/38<q
  ·have hKf:(decide (1<=q)&&decide (q<=38))=false:=by
    rw[ap9];simp;omega
   rw[hKf]at hK;have e:R=(⟨0,0⟩,0,16):=by rw[hR,if_pos (by omega)]
   rw[e];refine pC hK ?_;simp[-cB];refine pN (oD true) ?_;simp[-cB];rfl
  have hKt:(decide (1<=q)&&decide (q<=38))=true:=by simp;omega
  rw[hKt]at hK;refine pC hK ?_;by_cases h2:q=38
  ·have e:R=(⟨0,0⟩,0,16):=by rw[hR,if_pos (by omega)]
   rw[e];simp[-cB,h2];refine pN (oD true) ?_;simp[-cB];rfl
  by_cases h3:r=3
  ·have e:R=(⟨0,0⟩,0,16):=by rw[hR,if_pos (by omega)]
   rw[e];simp[-cB,h2,h3];refine pN (oD true) ?_;simp[-cB];rfl
  have gw:¬q<1:=by omega
  have lE:¬38<=q:=by omega
  have hrr:0<=r/\r<=2:=by omega
  have hcf:(decide (0<r)&&!ni q)=decide (0<r/\ni q=false):=by rw[aqk];simp
  by_cases h4:0<r/\ni q=false
  ·have e:R=(⟨0,0⟩,0,16):=by rw[hR,if_pos (.inr (.inr (.inr h4)))]
   rw[decide_eq_true h4]at hcf;rw[e];simp[-cB,h2,h3];refine pG hh ?_;simp[-cB,hcf];rfl
  rw[decide_eq_false h4]at hcf;rw[if_neg (by rintro(h|h|h|h)<;>contradiction)]at hR;simp[-cB,h2,h3];refine pG hh ?_;simp[-cB,hcf];by_cases h6:(b.length:Int)-k-1<r
  ·have e:R=(⟨0,0⟩,0,2):=by rw[hR,if_pos h6]
   rw[e];simp[-cB,Hx,Hy,h6];rfl
  rw[if_neg h6]at hR;simp[-cB,Hx,Hy,h6];obtain⟨ρ,rfl⟩:∃ρ:Nat,r=ρ:=⟨r.toNat,by omega⟩
  have hkr:k+1+ρ<=b.length:=by omega
  have FQ:((k:Int)+1+ρ).toNat=k+1+ρ:=by omega
  have N4:((b.take (k+1+ρ)).drop (k+1)).length=ρ:=by simp;omega
  have hdg:∀j,j<ρ->((b.take (k+1+ρ)).drop (k+1))[j]?=b[k+1+j]?:=by
   intro j hj;rw[apN,aqW,if_pos (by omega)]
  have hde:List.drop (k+1) (List.take (k+1+ρ) (gJ b))=gJ ((b.take (k+1+ρ)).drop (k+1)):=by simp[gJ,List.map_drop,List.map_take]
  have hmn:min (k+1+ρ) b.length-(k+1)=ρ:=by omega
  have hdb:∀y∈(b.take (k+1+ρ)).drop (k+1),0<=y/\y<=255:=λy hy=>hb y (apO (List.mem_of_mem_drop hy))
  have F9:nI b ((k:Int)+1) ρ=sF ((b.take (k+1+ρ)).drop (k+1)) ρ:=by
   have SD:ρ=0\/ρ=1\/ρ=2:=by omega
   rcases SD with rfl|rfl|rfl
   ·simp[nI,sF]
   ·obtain⟨y,hy⟩:∃y,b[k+1]?=some y:=⟨_,akC (by omega)⟩
    have e1:aA b ((k:Int)+1)=y:=by unfold aA;rw[show((k:Int)+1).toNat=k+1 by omega,hy];rfl
    have e2:=hdg 0 (by omega);rw[apQ,hy]at e2;simp only[nI,sF,e1,e2,qH];rfl
   ·obtain⟨y,hy⟩:∃y,b[k+1]?=some y:=⟨_,akC (by omega)⟩
    obtain⟨z,hz⟩:∃z,b[k+2]?=some z:=⟨_,akC (by omega)⟩
    have e1:aA b ((k:Int)+1)=y:=by unfold aA;rw[show((k:Int)+1).toNat=k+1 by omega,hy];rfl
    have e3:aA b ((k:Int)+1+1)=z:=by unfold aA;rw[show((k:Int)+1+1).toNat=k+2 by omega,hz];rfl
    have e2:=hdg 0 (by omega);rw[apQ,hy]at e2;have e4:=hdg 1 (by omega);rw[hz]at e4;have:=acE y z (hb y (aoO hy)) (hb z (aoO hz));simp only[nI,sF,e1,e2,e3,e4];rw[if_neg (by omega),if_pos (by omega),this];rfl
  rw[F9]at hR;refine⟨km,iW,⟨⟨⟨by omega,by omega⟩,by omega,by omega⟩,BM b⟩,?_⟩;rw[FQ,hde,hmn];generalize (b.take (k+1+ρ)).drop (k+1)=ds at *;refine av.cI [1,4,7,8,9,68,69,70] ρ (λi=> [(9,iD (sF ds i)),(70,iD i)]) (λ_=> []) (λ_=>True) (by rfl) (by simp[sF]) ?_;intro j hj _;rcases aoR hj with aw|heq
  ·have hjd:j<ds.length:=by omega
   have cG:ds[j]?=some ds[j]:=akC hjd;have x7:=hdb _ (aoV hjd);have TL:=yJ cG (by simpa using hjd);generalize ds[j]=y at *;have OU:IntKind.wrap .i64 y=y:=iX iW;have hs8:=agj y x7;have hsb:=Ku x7;have hsw:IntKind.wrap .i64 (qH y)=qH y:=iX iW;rw[show(if 128<=y then y-256 else y)=qH y from rfl]at hs8;have IL:j=0\/j=1:=by omega
   have anb:aN .i64 ((j:Int)+1):=iW;rcases IL with rfl|rfl
   ·have aj1:sF ds (0+1)=qH y:=by simp[sF,cG]
    have ahM:sF ds 1=qH y:=aj1;simp[-cB,aw,hjd,TL,hs8,hsw];exact⟨iW,ahM.symm⟩
   ·have lX:∃y0,ds[0]?=some y0:=⟨_,akC (by omega)⟩
    obtain⟨y0,lX⟩:=lX;have agk:=hdb y0 (aoO lX);have ahN:sF ds 1=qH y0:=by simp[sF,lX]
    have ahO:sF ds 2=256 *qH y0+y:=by simp[sF,lX,cG]
    have W9:=agi (qH y0) y (Ku agk) x7;have D0:=Ku agk;generalize qH y0=s0 at *;have aj2:(1:Int)<ρ:=by omega
    simp[-cB,aw,aj2,hjd,TL,OU,ahN];exact⟨iW,W9.trans ahO.symm⟩
  ·subst heq;have Qn:=aao (sF ds j);generalize sF ds j=n at *;have Ey:R=if((((dC n:Int) !=(j:Int))&&(q !=24))&&(q !=25))=true then(⟨0,0⟩,0,4)else((⟨q,n⟩:ai),((k:Int)+1+j,(0:Int))):=by
    rw[hR];by_cases c:((j:Int)≠(dC n:Int)/\q≠24/\q≠25)
    ·rw[if_pos c,if_pos (by simp[c.2.1,c.2.2];have:=c.1;omega)]
    ·rw[if_neg c,if_neg (by intro h;simp at h;exact c ⟨by have:=h.1.1;omega,h.1.2,h.2⟩)]
   have hkj:aN .i64 ((k:Int)+1+j):=iW;clear hR;generalize dC n=β at *;generalize hJ:(j:Int)=J at *;generalize hBe:(β:Int)=B at *;simp[-cB];refine pC Qn ?_;cases pD:(B !=J)<;>cases pB:(q !=24)<;>cases Ez:(q !=25)
   all_goals rw[pD,pB,Ez]at Ey
   all_goals simp[-cB,pD,pB,Ez,km,hkj]
   all_goals (rw[Ey];first|rfl|exact⟨rfl,rfl,rfl⟩)
 exact oO _ rfl
set_option maxHeartbeats 200000
set_option maxRecDepth 512
def u64(n:Int):Int:=IntKind.wrap .u64 n
def Js(n:Int):Int:=if u64 (u64 (u64 n *2654435769)+1)=0 then 1 else u64 (u64 (u64 n *2654435769)+1)
theorem WQ(n:Int):Pure prog 65 [iD n] (.d (.v (.int .u64 (Js n)))):=by
 unfold Js u64;refine rn func65 ?_;simp[-cB,f65];refine ax (λh=>?_) (λh=>?_)
 ·simp at h;simp[h]
 ·simp at h;simp[h]
def mV(inn:Int):List bg->Int->Int
 | [],_=>0
 | y::l,i=>if y.ae=inn then i else mV inn l (i+1)
theorem Ac{inn:Int}:∀(l r:List bg) (i:Int),(∀y∈l,y.ae≠inn)->mV inn (l++r) i=mV inn r (i+l.length)
 | [],r,i,_=>by simp
 | y::l,r,i,h=>by
   rw[aoX,mV,if_neg (h y (by simp)),Ac l r _ (λz hz=>h z (by simp[hz]))];congr 1;simp only[aoU];omega
theorem Gp(t:ar)(ht:t.wf)(x:Nat)(hx:x<=t.az.length)(inn:Int):Pure prog 66 [.agg (t.enc.map .d),iD x,iD inn] (iD (mV inn (t.az.drop x) x)):=by
 have hlen:=ar.Du ht;refine rn func66 ?_;simp[-cB,f66];intro bs;refine av.cI [2,3,7] (t.az.length-x) (λi=> [(7,iD ((x+i:Nat):Int))]) (λ_=> []) (λi=>∀y∈(t.az.drop x).take i,y.ae≠inn) (by rfl) (by simp) ?_;intro i hi hH;rcases aoR hi with aw|heq
 ·have Tm:x+i<t.az.length:=by omega
  have hxz:(x:Int)+i<t.az.length:=by omega
  have hd:t.az.drop x=(t.az.drop x).take i++t.az[x+i]::t.az.drop (x+i+1):=by
   conv=>lhs;rw[<-ao5 i (t.az.drop x)]
   rw[ap8,aqs Tm]
  have hl:((t.az.drop x).take i).length=i:=by simp;omega
  have hz:((x:Int)+i).toNat=x+i:=by omega
  have hz0:0<=(x:Int)+i:=by omega
  have jB:t.az[x+i]?.getD bg.zero=t.az[x+i]:=by rw[akC Tm];rfl
  have cq:aN .i64 ((x:Int)+i+1):=iW;by_cases hp:(t.az[x+i]).ae=inn
  ·have hv:mV inn (t.az.drop x) x=(x:Int)+i:=by
    rw[hd,Ac _ _ _ hH,mV,if_pos hp,hl]
   simp[Tm,hxz,hp,hv,hz,hz0]
  ·have hH':∀y∈(t.az.drop x).take (i+1),y.ae≠inn:=by
    intro y hy;rw[api]at hy;rcases ao1.1 hy with h|h
    ·exact hH y h
    ·rw[apN,akC Tm]at h;simp at h;rw[h];exact hp
   simp[Tm,hxz,hp,cq,hz,hz0,aw];exact⟨by omega,λy hy=>hH' y hy⟩
 ·have hxz:¬((x:Int)+i<t.az.length):=by omega
  have hv:mV inn (t.az.drop x) x=0:=by
   have h1:(t.az.drop x).take i=t.az.drop x:=List.take_of_length_le (by simp;omega);rw[h1]at hH;have:=Ac (inn:=inn) (t.az.drop x) [] x hH;rw[apk]at this;rw[this,mV]
  simp[hxz,hv]
def EA(t:ar)(k:Nat):Int:=if k=0 then 0 else mV k (t.az.drop 1) 1
def Fp(t:ar)(k:Nat):Int:=if(bu t k).ae=0 then 0 else mV (bu t k).ae (t.az.drop (k+1)) (k+1)
def WR(t:ar):aj:=⟨t.aQ,t.az.map (·.ae),(List.range t.az.length).map (EA t),(List.range t.az.length).map (Fp t),t.az.map (·.Flags),t.az.flatMap (·.aJ),List.replicate t.eK.length 0,Js t.qQ,0,0,0,0,0⟩
theorem Qp:∀(l:List bg),(∀y∈l,y.aJ.length<=64)->(List.map (λa=>a.aJ.length) l).sum<=l.length *64
 | [],_=>by simp
 | y::l,h=>by
   have h1:=Qp l (λz hz=>h z (by simp[hz]));have h2:=h y (by simp);simp only[ao9,aqO,aoU];omega
set_option maxHeartbeats 8000000 in
theorem aap(t:ar)(ht:t.wf)(hT:t.az.length<=1000)(hP:∀y∈t.az,y.aJ.length<=64):Pure prog 29 [.agg (t.enc.map .d)] (.agg ((WR t).enc.map .d)):=by
 have l1:=ar.ow ht;have l2:=ar.Bi ht;have l3:=ar.Du ht;refine rn func29 ?_;simp[-cB,f29];intro bs;refine av.aee [Q3,Q3,Q3,Q3,Q3,Q3,Q3,Q3,Q3,Q3,Q3,Q3,none,none] [8,11,15] [.kn (λv=>∃ao,v= .slice ao 0 0),.d (.sl (aC t.aQ)),.d (.sl (aC (List.replicate t.eK.length 0))),.d (.v (.int .u64 (Js t.qQ)))] aT (by kernel_rfl) ?_;simp[(WQ _).ok];have tS:kU prog 23=some (3,1,8,[.int .i64 0]):=by kernel_rfl
 have tR:rZ prog 23=true:=by kernel_rfl
 have y0:∀(ops:Array Oper) (s:St) (dst:Option Tmp) (pos:String) (after:Array Edge),sQ prog ops ⟨dst,.buildSlice 23 0 #[],23,pos,after,none⟩ s (.kn (λv=>∃ao,v= .slice ao 0 0)):=λops s dst pos after=>VJ tS
 refine⟨y0 _ _ _ _ _,?_⟩;refine⟨F7 tS tR rfl rfl (by decide) (by simp [aC]) (by simp;omega),?_⟩;have y2:∀(ops:Array Oper) (s:St) (dst:Option Tmp) (lo co:Operand) (pos:String) (after:Array Edge),s.ev lo=iD t.eK.length→s.ev co=iD t.eK.length→
   sQ prog ops ⟨dst,.makeSlice 23 lo co,23,pos,after,none⟩ s (.d (.sl (aC (List.replicate t.eK.length 0)))):=by
  intro ops s dst lo co pos after h1 h2;have:=abJ (P:=prog) (ops:=ops) (dst:=dst) (ty:=23) (pos:=pos) (after:=after) (s:=s) tS h1 h2 (by decide) (by omega) (by simp only[maxLen];omega);simpa[aC]using this
 refine⟨y2 _ _ _ _ _ _ _ rfl rfl,?_⟩
 repeat' (first|exact y0 _ _ _ _ _|exact y2 _ _ _ _ _ _ _ rfl rfl|exact F7 tS tR rfl rfl (by decide) (by simp[aC]) (by simp;omega)|with_reducible refine And.intro ?_ ?_)
 intro KU;refine av.weaken (s':=⟨[(4,iD 0),(3,.bp 3 0),(2,.bp 2 0),(1,.bp 1 0)],_⟩) (Wk.pick [4,3,2,1] [3,2,1] (by rfl) (by decide) (by simp[St.pick,St.on,V.on,V.dE])) ?_;refine av.weaken (Wk.rM 3 1 5301 (e:=3) (k:=1) rfl rfl (by simp[keys])) ?_;refine av.weaken (Wk.rM 3 2 5302 (e:=3) (k:=1) rfl rfl (by simp[keys,aI.jz])) ?_;refine av.weaken (Wk.rM 3 3 5303 (e:=3) (k:=1) rfl rfl (by simp[keys,aI.jz])) ?_;refine av.weaken (Wk.rM 3 4 5304 (e:=3) (k:=1) rfl rfl (by simp[keys,aI.jz])) ?_;refine av.weaken (Wk.rM 3 5 5305 (e:=3) (k:=1) rfl rfl (by simp[keys,aI.jz])) ?_;refine av.weaken (s':=⟨[(4,iD 0),(3,.bp 3 0),(2,.bp 2 0),(1,.bp 1 0)],
  [(5301,.row 3 1 []),(5302,.row 3 1 []),(5303,.row 3 1 []),(5304,.row 3 1 []),(5305,.row 3 1 []),
   (3,.box (KU 3+1) 34 [.d (.sl (aC t.aQ)),.rv 5301,.rv 5302,.rv 5303,.rv 5304,.rv 5305,.d (.sl (aC (List.replicate t.eK.length 0))),.d (.v (.int .u64 (Js t.qQ))),iD 0,iD 0,iD 0,iD 0,iD 0]),_,_]⟩) (Wk.pick [4,3,2,1] [5301,5302,5303,5304,5305,3,2,1] (by rfl) (by decide) (by simp[St.pick,St.on,V.on,V.dE,aI.jz])) ?_
 refine av.fj [1,2,3,4] t.az (λpre=> [(4,iD pre.length)]) (λpre=> [(5301,.row 3 1 (dd (aC (pre.map (·.ae))))),(5302,.row 3 1 (dd (aC ((List.range pre.length).map (EA t))))),(5303,.row 3 1 (dd (aC ((List.range pre.length).map (Fp t))))),(5304,.row 3 1 (dd (aC (pre.map (·.Flags))))),(5305,.row 3 1 (dd (aC (pre.flatMap (·.aJ)))))]) (λ_=>True) (by rfl) (by omega) (by simp[aC]) ?_ ?_
 ·rintro pre y post bx hH aw bm a4;have hy:bu t pre.length=y:=by rw[bu,bx];simp
  have hA:=Gp t ht 1 (by omega) pre.length;have hB:=Gp t ht (pre.length+1) (by omega) y.ae;have Is:=Qp pre (λz hz=>hP z (by rw[bx];simp[hz]));have SV:=hP y (by rw[bx];simp);have fJ:pre.length<=1000:=by omega
  clear bx;have bU:aN .i64 ((pre.length:Int)+1):=a4;have hc:EA t pre.length=if pre=[]then 0 else mV pre.length t.az.tail 1:=by
   unfold EA;cases pre<;>simp
  have hn:Fp t pre.length=if y.ae=0 then 0 else mV y.ae (t.az.drop (pre.length+1)) (pre.length+1):=by
   unfold Fp;rw[hy]
  by_cases mx:pre=[]
  ·subst mx;simp only[apd,Int.natCast_zero,Int.zero_add,apz]at bm aw hy bU a4 hB hn;have sK:EA t 0=0:=rfl;by_cases rf:y.ae=0
   ·have Ol:Fp t 0=0:=by rw[hn,if_pos rf]
    clear hc hn hA hB;simp[-cB,bm,aw]
    repeat' (first
     | (with_reducible refine And.intro ?_ ?_)
     | (refine ax (λh=>?_) (λh=>?_)<;>(try simp at h)<;>(try simp[-cB, *]))
     | (with_reducible intro _))
    all_goals (try omega)
    refine av.aU [Q3,Q3,Q0,Q0,Q0,Q0,Q0,Q0,none,none,ard,none] [] aT (by kernel_rfl) ?_;simp[-cB, *];refine av.aU [Q0,Q0,Q0,Q0,Q0,Q0,Q0,Q0,none,arb,none] [] aT (by kernel_rfl) ?_;simp[-cB,aql, *];simp[dd,aC];omega
   ·have Ol:Fp t 0=mV y.ae (t.az.drop 1) 1:=by
     rw[hn,if_neg rf]
    clear hc hn hA;simp[-cB,bm,aw]
    repeat' (first
     | (with_reducible refine And.intro ?_ ?_)
     | ((first|(refine ax (λh=>?_) (λh=>?_)<;>(try simp at h))|refine pC hB ?_|refine lC hB ?_|refine pG hB ?_)<;>(try simp[-cB, *]))
     | (with_reducible intro _))
    all_goals (try omega)
    refine av.aU [Q3,Q3,Q0,Q0,Q0,Q0,Q0,Q0,none,none,ard,none] [] aT (by kernel_rfl) ?_;simp[-cB, *];refine av.aU [Q0,Q0,Q0,Q0,Q0,Q0,Q0,Q0,none,arb,none] [] aT (by kernel_rfl) ?_;simp[-cB,aql, *];simp[dd,aC];omega
  ·have Oh:0<pre.length:=apB.2 mx;rw[if_neg mx]at hc;by_cases rf:y.ae=0
   ·rw[if_pos rf]at hn;clear hB;simp[-cB,bm,aw,Oh]
    repeat' (first
     | (with_reducible refine And.intro ?_ ?_)
     | ((first|(refine ax (λh=>?_) (λh=>?_)<;>(try simp at h))|refine pC hA ?_|refine lC hA ?_|refine pG hA ?_)<;>(try simp[-cB, *]))
     | (with_reducible intro _))
    all_goals (try omega)
    refine av.aU [Q3,Q3,Q0,Q0,Q0,Q0,Q0,Q0,none,none,ard,none] [] aT (by kernel_rfl) ?_;simp[-cB, *];refine⟨by omega,?_⟩;refine av.aU [Q0,Q0,Q0,Q0,Q0,Q0,Q0,Q0,none,arb,none] [] aT (by kernel_rfl) ?_;simp[-cB,aql, *]
    try omega
   ·rw[if_neg rf]at hn;simp[-cB,bm,aw,Oh]
    repeat' (first
     | (with_reducible refine And.intro ?_ ?_)
     | ((first|(refine ax (λh=>?_) (λh=>?_)<;>(try simp at h))|refine pC hA ?_|refine pC hB ?_|refine lC hA ?_|refine lC hB ?_|refine pG hA ?_|refine pG hB ?_)<;>(try simp[-cB, *]))
     | (with_reducible intro _))
    all_goals (try omega)
    refine av.aU [Q3,Q3,Q0,Q0,Q0,Q0,Q0,Q0,none,none,ard,none] [] aT (by kernel_rfl) ?_;simp[-cB, *];refine⟨by omega,?_⟩;refine av.aU [Q0,Q0,Q0,Q0,Q0,Q0,Q0,Q0,none,arb,none] [] aT (by kernel_rfl) ?_;simp[-cB,aql, *]
    try omega
 ·intro _;simp[-cB,WR,aj.enc]
set_option maxHeartbeats 4000000
set_option maxRecDepth 20000
def adh:ay:= .mk 1 0 5 ⟨#[]⟩ []
def WS:an:= .mk 12 0 ⟨#[]⟩ [adh] [] []
def wV:ar:={ar.zero with gy:=[⟨#[84,97,108,101]⟩],Flags:=4,az:=[{bg.zero with Text:= -1},{bg.zero with Text:= -1,ae:=2},{bg.zero with Text:= -1,Room:=true}],cY:=[0],Params:=[0],aM:=[0]}
def vk:bW:=⟨wV,[[WS]]⟩
def Qq(p:Int)(r:Bool):List D:=[.v (.int .i64 0),.v (.int .i64 (-1)),.v (.int .i64 p),.v (.int .i64 0),.v (.bool r),.v (.slice none 0 0),.v (.slice none 0 0),.v (.slice none 0 0),.v (.slice none 0 0)]
def adi:List D:=[.v (.int .i64 1),.v (.int .i64 0),.v (.int .i64 5),.v (.string ⟨#[]⟩),.v (.slice none 0 0)]
def adj:List D:=[.v (.int .i64 12),.v (.int .i64 0),.v (.string ⟨#[]⟩),.sl [adi],.v (.slice none 0 0),.v (.slice none 0 0)]
theorem aeM:Pure prog 28 [] (.agg (vk.enc.map .d)):=by
 refine Pure.GI func28 rfl (by simp[f28]) ?_;simp only[f28];refine av.gE ?_;simp[-cB];intro bs;refine av.gE ?_;simp[-cB];intro bL;refine av.gE ?_;simp[-cB];refine av.weaken (Wk.pick [0] [16,15,13,9,8,7,6,2,0] (by rfl) (by decide) (by rfl)) ?_;refine av.weaken (Wk.freeze 13 (ys:=[adi]) rfl) ?_;refine av.weaken (Wk.freeze 15 (ys:=[adj]) rfl) ?_;refine av.weaken (Wk.freeze 16 (ys:=[[.sl [adj]]]) rfl) ?_;refine av.weaken (Wk.freeze 2 (ys:=[[.v (.string ⟨#[84,97,108,101]⟩)]]) rfl) ?_;refine av.weaken (Wk.freeze 6 (ys:=[Qq 0 false,Qq 2 false,Qq 0 true]) rfl) ?_;refine av.weaken (Wk.freeze 7 (ys:=[[.v (.int .i64 0)]]) rfl) ?_;refine av.weaken (Wk.freeze 8 (ys:=[[.v (.int .i64 0)]]) rfl) ?_;refine av.weaken (Wk.freeze 9 (ys:=[[.v (.int .i64 0)]]) rfl) ?_;refine av.weaken (s':=⟨[(0,.bp 0 0)],[(0,.box (bs 0+1) 31 (vk.enc.map .d))]⟩) (Wk.deep 6 (by rfl)) ?_;refine av.ur ?_;simp[-cB]
def fH:al:=⟨wV,[0],[148,5,5,108]⟩
theorem WT:gA vk=(fH,0):=by kernel_rfl
theorem Qr:wV.wf:=by
 unfold wV ar.wf;simp[ar.zero,bg.wf,bg.zero,aS];decide
theorem Qs:WS.wf:=by
 unfold WS adh an.wf;simp[ay.wf,ay.zg,an.zg,aS];decide
theorem acF:vk.wf:=by
 unfold vk bW.wf;refine⟨Qr,by decide,?_⟩;intro l hl;simp at hl;subst hl;refine⟨by decide,?_⟩;intro y hy;simp at hy;subst hy;exact Qs
theorem WU:∀l∈vk.aK,lQ l/\hZ l<=30000000:=by
 intro l hl;simp[vk]at hl;subst hl;refine⟨Gc (t:=wV) (locals:=0) iW ?_ (by decide) (by kernel_rfl),by decide+kernel⟩;intro y hy;simp at hy;subst hy;exact Qs
theorem Qt:Pure prog 27 [.agg (vk.enc.map .d)] (.bA [.agg (fH.enc.map .d),iD 0]):=by
 have h:=I3 vk acF λ_=>WU
 rw[WT]at h;exact h
theorem acG:Pure prog 29 [.agg (wV.enc.map .d)] (.agg ((WR wV).enc.map .d)):=aap wV Qr (by decide) (by decide)
def BY:dy:=⟨0,0,0⟩
def mT(W:aj)(k fuel:Int)(st:List Int):ah:=⟨[⟨0,k,0,[]⟩],st,BY,⟨0,W,⟨#[]⟩,0,false,fuel⟩,false⟩
def mE(W:aj):ah:=⟨[],[],BY,⟨0,W,⟨#[]⟩,5,false,1⟩,true⟩
theorem aeN:∀y∈fH.Code,0<=y/\y<=255:=by decide
theorem BZ(at_:Int):Pure prog 35 [.d (.sl (fH.Code.map λy=> [.v (.int .u8 y)])),iD at_] (Qm (og fH.Code at_)):=FF fH.Code at_ aeN (by decide)
theorem WV(W:aj)(F:Int)(hF:1<=F):Pure prog 13 [.agg (fH.enc.map .d),.agg ((mT W 0 0 []).enc.map .d),iD F] (.agg ((mT W 1 1 []).enc.map .d)):=by
 refine xK fH (mT W 0 0 []) (mT W 1 1 []) F [] ⟨0,0,0,[]⟩ ⟨37,0⟩ 1 0 rfl rfl (by simp[mT]) (by simp[mT]) (BZ 0) (.inr (.inl ⟨rfl,λwb=>?_⟩));exact KM wb fH F (mT W 1 0 []) ⟨37,0⟩ rfl (by simp[mT]) (by simp[mT];omega)
theorem WW(W:aj)(F:Int)(hF:F<1):Pure prog 13 [.agg (fH.enc.map .d),.agg ((mT W 0 0 []).enc.map .d),iD F] (.agg ((s4 (mT W 0 0 []) 19).enc.map .d)):=by
 refine xK fH (mT W 0 0 []) _ F [] ⟨0,0,0,[]⟩ ⟨37,0⟩ 1 0 rfl rfl (by simp[mT]) (by simp[mT]) (BZ 0) (.inr (.inr (.inr ⟨rfl,19,λwb=>⟨?_,rfl⟩⟩)));exact KL wb fH F (mT W 1 0 []) ⟨37,0⟩ rfl (by simp[mT]) (by simp[mT];omega)
theorem WX(W:aj)(F:Int):Pure prog 13 [.agg (fH.enc.map .d),.agg ((mT W 1 1 []).enc.map .d),iD F] (.agg ((mT W 3 1 [5]).enc.map .d)):=by
 refine xK fH (mT W 1 1 []) (mT W 3 1 [5]) F [] ⟨0,1,0,[]⟩ ⟨1,5⟩ 3 0 rfl rfl (by simp[mT]) (by simp[mT]) (BZ 1) (.inr (.inl ⟨rfl,λwb=>?_⟩));exact ZO wb fH F (mT W 3 1 []) ⟨1,5⟩ rfl (by simp[mT])
theorem WY(W:aj)(F:Int):Pure prog 13 [.agg (fH.enc.map .d),.agg ((mT W 3 1 [5]).enc.map .d),iD F] (.agg ((mE W).enc.map .d)):=by
 refine xK fH (mT W 3 1 [5]) (mE W) F [] ⟨0,3,0,[]⟩ ⟨27,0⟩ 4 0 rfl rfl (by simp[mT]) (by simp[mT]) (BZ 3) (.inr (.inl ⟨rfl,λwb=>?_⟩));exact FG wb fH F (mT W 4 1 [5]) ⟨27,0⟩ [] ⟨0,4,0,[]⟩ [] 5 rfl rfl (by simp) rfl (by simp) (by simp)
theorem WZ(W:aj)(F:Int):Pure prog 13 [.agg (fH.enc.map .d),.agg ((mE W).enc.map .d),iD F] (.agg ((mE W).enc.map .d)):=GF fH (mE W) F rfl
def mAt(W:aj):Nat->ah
 | 0=>mT W 0 0 []
 | 1=>mT W 1 1 []
 | 2=>mT W 3 1 [5]
 | _=>mE W
theorem RZ(W:aj):∀i:Nat,Pure prog 13 [.agg (fH.enc.map .d),.agg ((mAt W i).enc.map .d),iD 4] (.agg ((mAt W (i+1)).enc.map .d))
 | 0=>WV W 4 (by decide)
 | 1=>WX W 4
 | 2=>WY W 4
 | _+3=>WZ W 4
theorem W0(W:aj):Pure prog 11 [.agg (fH.enc.map .d),.agg (W.enc.map .d),iD 0,.d (.sl (aC [])),.agg (BY.enc.map .d)] (.agg ((mT W 0 0 []).enc.map .d)):=by
 have h:=A4 fH W 0 [] BY rfl rfl (by decide) ?_
 ·exact h
 ·intro r e n he hn yW ha;have:=wB fH r e n he hn yW [] (by simp) 0;rw[xN _ _ (by simp)];exact this
def mX(W:aj):ah:=⟨[],[],BY,⟨11,W,⟨#[]⟩,0,false,0⟩,true⟩
theorem R0(W:aj):Pure prog 11 [.agg (fH.enc.map .d),.agg (W.enc.map .d),iD 9,.d (.sl (aC [])),.agg (BY.enc.map .d)] (.agg ((mX W).enc.map .d)):=by
 have h:=A4 fH W 9 [] BY rfl rfl (by decide) ?_
 ·exact h
 ·intro r e n he hn yW ha;have:=wB fH r e n he hn yW [] (by simp) 0;rw[xN _ _ (by simp)];exact this
theorem H0:Pure prog 10 [] (oD true):=by
 obtain⟨W,hW⟩:∃W,WR wV=W:=⟨_,rfl⟩
 have hN:Pure prog 29 [.agg (fH.Tables.enc.map .d)] (.agg (W.enc.map .d)):=by rw[<-hW];exact acG
 have hT:=aeM;have hS:=Qt;have hB:Pure prog 11 [.agg (fH.enc.map .d),.agg (W.enc.map .d),iD 0,.d (.v (.slice none 0 0)),.agg (BY.enc.map .d)] (.agg ((mT W 0 0 []).enc.map .d)):=(W0 W).deep 0 (by rfl) (by rfl);have hX:Pure prog 11 [.agg (fH.enc.map .d),.agg (W.enc.map .d),iD 9,.d (.v (.slice none 0 0)),.agg (BY.enc.map .d)] (.agg ((mX W).enc.map .d)):=(R0 W).deep 0 (by rfl) (by rfl);have qb:=RZ W;have hF:=WW W 0 (by decide);generalize vk=B at *;generalize fH=G at *;refine rn func10 ?_;simp[-cB,f10];refine pC hT ?_;simp[-cB];refine pC hS ?_;simp[-cB];intro bs;refine pC hN ?_;simp[-cB];intro bL;refine pC hB ?_;simp[-cB];intro jX;refine av.cI [1,2,3,4,5] 9 (λi=> [(5,iD i)]) (λi=> [(4,.box (jX 0+1) 50 ((mAt W i).enc.map .d))]) (λ_=>True) (by rfl) (by simp[mAt]) ?_;intro i hi _;rcases aoR hi with aw|heq
 ·have bU:aN .i64 ((i:Int)+1):=iW;have hc:=qb i;have KD:(i:Int)<9:=by omega
  simp[-cB,KD];refine pC hc ?_;simp[-cB,bU];omega
 ·subst heq;simp[-cB];refine pC hX ?_;simp[-cB];intro tn;refine av.JM [Q3,Q3,Q3,Q3,Q3,Q3,none,none] [.agg ((mT W 0 0 []).enc.map .d),.agg ((s4 (mT W 0 0 []) 19).enc.map .d)] aT (by kernel_rfl) ?_;have h9:mAt W 9=mE W:=rfl;rw[h9];simp[-cB,hB.ok,hF.ok];exact⟨hB.ok _,hB.ok _,by simp[mE,mX,mT,s4]⟩
set_option maxRecDepth 40000
theorem aaP:∀(N:Nat) (l:List an),SizeOf.sizeOf l<N->hZ l<=mf (l.map an.enc):=by
 have hE:∀(N:Nat) (l:List ay),SizeOf.sizeOf l<N->fq l<=mf (l.map ay.enc):=by
  intro N
  induction N with
  | zero=>intro l h;omega
  | succ N ih=>
    intro l h;cases l with
    | nil=>simp[fq]
    | cons x l=>
      have hl:SizeOf.sizeOf l<N:=by simp only[aps]at h;omega
      have hx:SizeOf.sizeOf x<N:=by simp only[aps]at h;omega
      have h1:=ih l hl;have h2:=ih x.aF (by cases x;simp only[ay.Tc];simp only[ay.mk.sizeOf_spec]at hx;omega);have h3:iH x.enc=bD (.v (.int .i64 x.Kind))+(bD (.v (.int .i64 x.Op))+(bD (.v (.int .i64 x.aL))+(bD (.v (.string x.Name))+(bD (.sl (x.aF.map ay.enc))+0)))):=by
       cases x;simp[ay.enc,ay.uL,iH]
      rw[fq,vI,ao9,mf,h3];simp only[bD];omega
 intro N
 induction N with
 | zero=>intro l h;omega
 | succ N ih=>
   intro l h;cases l with
   | nil=>simp[hZ]
   | cons s l=>
     have hl:SizeOf.sizeOf l<N:=by simp only[aps]at h;omega
     have hs:SizeOf.sizeOf s<N:=by simp only[aps]at h;omega
     have hb:=an.qU s;have he:=an.qV s;have h1:=ih l hl;have h2:=ih s.Body (by omega);have h3:=ih s.bX (by omega);have h4:=hE _ s.aF (ao2 _);have h5:iH s.enc=bD (.v (.int .i64 s.Kind))+(bD (.v (.int .i64 s.aL))+(bD (.v (.string s.Name))+(bD (.sl (s.aF.map ay.enc))+(bD (.sl (s.Body.map an.enc))+(bD (.sl (s.bX.map an.enc))+0))))):=by
      cases s;simp[an.enc,an.uL,iH]
     rw[hZ,ua,ao9,mf,h5];simp only[bD];omega
set_option maxRecDepth 20000
def KW(b:bW)(w:aj):Bool:=decide (b.aK.length<=12)&&decide (b.Tables.az.length<=20)&&eB b&&cK b.Tables w
def jC(b:bW)(w:aj):al×Bool:=if KW b w then((gA b).1,(gA b).2==0)else(al.zero,false)
theorem aaq{b:bW}(hb:b.wf)(h:eB b=true)(hz:∀l∈b.aK,hZ l<=30000000):∀l∈b.aK,lQ l/\hZ l<=30000000:=by
 intro l hl;refine⟨?_,hz l hl⟩;unfold eB at h;simp only[aoM,decide_eq_true_eq,aoP]at h;obtain⟨⟨h1,h2⟩,h3⟩:=h;obtain⟨k,hk,tH⟩:=aqe hl;have hg:=h3 k (by simpa using hk);unfold wT at hg;simp only[aoM]at hg;have C2:=hg.1.1.2;rw[akC hk,tH]at C2;have ht:=bW.Dv hb;have hw:l.length *104<=140737488351232/\∀y∈l,y.wf:=hb.2.2 l hl;have jn:aN .i64 (b.Tables.aM[k]?.getD 0):=by
  cases hL:b.Tables.aM[k]? with
  | none=>rw[aS];simp
  | some y=>exact ar.K7 ht y (aoO hL)
 exact Gc (t:=b.Tables) (locals:=b.Tables.aM[k]?.getD 0) jn hw.2 hw.1 C2
theorem Ux{b:bW}{s:al}(h:gA b=(s,0)):eB b=true/\s.Tables=b.Tables/\s.Entry.length=b.aK.length:=by
 unfold gA at h;split at h
 ·simp at h
 ·rename_i hr;split at h
  ·rename_i he;simp only[aoI]at h;exact absurd h.2 he
  ·split at h
   ·simp at h
   ·simp only[aoI,and_true]at h;subst h;have hl:∀k,(stM b k).1.length=k:=by
     intro k
     induction k with
     | zero=>rfl
     | succ k ih=>rw[stM];simp[ih]
    exact⟨by simpa using hr,rfl,hl _⟩
theorem KV(b:bW)(w:aj)(hb:b.wf)(hw:w.wf)(hz:∀l∈b.aK,hZ l<=30000000):Pure prog 9 [.agg (b.enc.map .d),.agg (w.enc.map .d)] (.bA [.agg ((jC b w).1.enc.map .d),oD (jC b w).2]):=by
 have hr:=Ee b hb;by_cases h1:12<b.aK.length
 ·have e:jC b w=(al.zero,false):=by unfold jC KW;rw[if_neg (by simp;omega)]
  rw[e];have TN:(12:Int)<b.aK.length:=by omega
  refine rn func9 ?_;simp[-cB,Tryz.f9];intro bs;simp[-cB,TN];refine pN (oD true) ?_;simp[-cB];refine pN (oD true) ?_;simp[-cB];rfl
 have TN:¬(12:Int)<b.aK.length:=by omega
 by_cases h2:20<b.Tables.az.length
 ·have e:jC b w=(al.zero,false):=by unfold jC KW;rw[if_neg (by simp;omega)]
  rw[e];have h2i:(20:Int)<b.Tables.az.length:=by omega
  refine rn func9 ?_;simp[-cB,Tryz.f9];intro bs;simp[-cB,TN,h2i];refine pN (oD true) ?_;simp[-cB];refine pN (oD true) ?_;simp[-cB];rfl
 have h2i:¬(20:Int)<b.Tables.az.length:=by omega
 cases h3:eB b with
 | false=>
   have e:jC b w=(al.zero,false):=by unfold jC KW;rw[if_neg (by simp[h3])]
   rw[e];rw[h3]at hr;refine rn func9 ?_;simp[-cB,Tryz.f9];intro bs;simp[-cB,TN,h2i];refine pG hr ?_;simp[-cB];refine pN (oD true) ?_;simp[-cB];rfl
 | true=>
   rw[h3]at hr;have hf:eJ b.Tables=true:=by
    unfold eB at h3;simp only[aoM]at h3;exact h3.1.1
   have hR:=Ru b.Tables (bW.Dv hb) w hw (jW hf).2.1 (jW hf).1.2;cases h4:cK b.Tables w with
   | false=>
     have e:jC b w=(al.zero,false):=by unfold jC KW;rw[if_neg (by simp[h4])]
     rw[e];rw[h4]at hR;refine rn func9 ?_;simp[-cB,Tryz.f9];intro bs;simp[-cB,TN,h2i];refine pG hr ?_;simp[-cB];refine pG hR ?_;simp[-cB];rfl
   | true=>
     have e:jC b w=((gA b).1,(gA b).2==0):=by unfold jC KW;rw[if_pos (by simp[h3,h4];omega)]
     rw[e];rw[h4]at hR;have hS:=I3 b hb (λh=>aaq hb h hz);generalize gA b=S at *;refine rn func9 ?_;simp[-cB,Tryz.f9];intro bs;simp[-cB,TN,h2i];refine pG hr ?_;simp[-cB];refine pG hR ?_;simp[-cB];refine pC hS ?_;simp[-cB]
theorem acP{w:aj}(hw:w.wf):0<=w.cO/\w.cO<18446744073709551616:=by
 have h:=hw;unfold aj.wf at h;obtain⟨_,_,_,_,_,_,_,_,_,_,_,_,_,_,h8,_⟩:=h;have h1:(0:Int)<=w.cO:=h8.1;have h2:w.cO<=18446744073709551615:=h8.2;omega
end Go.Ab

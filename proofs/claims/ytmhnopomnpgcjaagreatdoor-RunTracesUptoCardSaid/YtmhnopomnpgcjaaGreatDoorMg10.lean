/-
 HK texts al7 akW Vr7 anA akX akY akZ akh al8 aki ak0 anB ak1 al9 anC anD anE,one behind Cb other.
-/
import Derived.Test.YtmhnopomnpgcjaaGreatDoorMg9
set_option linter.unusedSimpArgs false
set_option linter.unusedVariables false
namespace Go.Ab
open Go.Proofs Go.Proofs.Tryz
set_option maxHeartbeats 4000000
set_option maxRecDepth 20000
structure Jn(c:XC) (s:al) (F:Int) (m:ae) (Fr:List aG) (f:aG):Prop where
 hT:s.Tables=c.B.Tables
 dc:fD c.B.Tables=true
 hE:m.Env=c.E
 qe:m.Frames=Fr++ [f]
 hD:m.de=false
 fL:m.Frames.length<=32
 hS:m.Stack.length<=20000
 hW:WL m.Stack
 hB:0<=f.bP/\f.bP<=m.Stack.length
 hL:f.aL.length<=1000
 hF:0<=m.Told.Fuel/\m.Told.Fuel<=1000000
 KV:F<m.Told.Fuel+1↔c.M<m.Told.Fuel+1
abbrev eg(m:ae)(Fr:List aG)(f:aG)(k:Int):ae:={m with Frames:=Fr++ [{f with At:=k}]}
section
variable {c : XC} {s : al} {F : Int} {m m' : ae} {Fr : List aG} {f : aG} {i : ai} {k : Int}
theorem xL{X}(h:∀wb,kC wb s F (eg m Fr f k) i X)(e:X=m'):s6 s m F Fr f i k 0 m':= .inr (.inl ⟨rfl,λwb=>e ▸ h wb⟩)
theorem NM{x}(h:∀wb,NN wb s F (eg m Fr f k) i x)(e:eO m x=m'):s6 s m F Fr f i k 0 m':= .inr (.inr (.inr ⟨rfl,x,λwb=>⟨h wb,e.symm⟩⟩))
theorem uN{X}(aD:eK i.Op)(h:∀wb,ja wb s F (eg m Fr f k) i X)(e:X=m'):s6 s m F Fr f i k 0 m':=xL (λwb=>adD wb s F _ _ i aD (h wb)) e
theorem xM{x}(aD:eK i.Op)(h:∀wb,A7 wb s F (eg m Fr f k) i x)(e:eO m x=m'):s6 s m F Fr f i k 0 m':=NM (λwb=>adE wb s F _ i x aD (h wb)) e
theorem vS{X}(aD:eK i.Op)(aaI:mn i.Op)(h:∀wb,jK wb s F (eg m Fr f k) i X)(e:X=m'):s6 s m F Fr f i k 0 m':=uN aD (λwb=>adF wb s F _ _ i aaI (h wb)) e
theorem Aq{x}(aD:eK i.Op)(aaI:mn i.Op)(h:∀wb,CW wb s F (eg m Fr f k) i x)(e:eO m x=m'):s6 s m F Fr f i k 0 m':=xM aD (λwb=>adG wb s F _ i x aaI (h wb)) e
theorem cr{S L σ}(h:nT m Fr f k (some (.ok S L σ))=some m'):ve m (Fr++ [{f with At:=k,aL:=L}]) (m.Stack.take f.bP.toNat++S.reverse) σ=m':=ao9 h
theorem ed{e}(h:nT m Fr f k (some (.bH e))=some m'):eO m e=m':=ao9 h
theorem jb{v S L σ w p}:iS v S L σ (some (jv w p))=if p.2=0 then some (.ok (if v then ar p.1::S else S) L {σ with W:=w})else some (.bH p.2):=by
 unfold jv;split<;>rfl
theorem fU{S L σ w p}:iS false S L σ (some (jc w p))=if p.2=0 then some (.ok S L {σ with W:=p.1})else some (.bH p.2):=by
 unfold jc;split<;>rfl
theorem oZ{S L σ x}(h:nT m Fr f k (yU S L σ x)=some m'):σ.Out.size+x.size<=140737488355328/\ve m (Fr++ [{f with At:=k,aL:=L}]) (m.Stack.take f.bP.toNat++S.reverse) {σ with Out:=σ.Out++x}=m':=by
 unfold yU at h;split at h
 ·exact⟨by omega,ao9 h⟩
 ·cases h
theorem kD{c w}(hf:fD c.B.Tables=true)(h:okW c w=true):iG c.B.Tables w:=by
 simp_all[lq,iG.of]
theorem adH{t}(hf:fD t=true):kX t.Flags<=65536:=by
 simp[A8]
theorem iG.flags{t w}(hf:fD t=true)(h:iG t w):cZ w:=⟨by rw[h.hF,h.hT],λv hv=>by have:=h.fl v hv;have:=adH hf;omega⟩
theorem iG.A9{t w}(hf:fD t=true)(h:iG t w):w.ah.length<=128/\w.Flags.length<=128/\w.aP.length<=64/\w.bc.length<=16/\w.aJ.length<=2048/\t.aJ.length<=16/\w.ah.length *t.aJ.length=w.aJ.length:=by
 obtain⟨h1,h2,h3,h4,-⟩:=lh hf;have:=h.hT;have:=h.hF;have:=h.hG;have:=h.hD;have:=h.hP;have s7:=Nat.mul_le_mul h1.2 h2;grind
theorem nU{l x}(h:fM l x):l[x.toNat]?=some (aB l x):=by
 simp_all[aB]
theorem Xq(hj:Jn c s F m Fr f)(h:nT m Fr f k (instJ c i (dQ m f) f.aL (eL m))=some m'):s6 s m F Fr f i k 0 m':=by
 have hA:m.Stack=m.Stack.take f.bP.toNat++(dQ m f).reverse:=by simp[dQ,aqD,apv]
 have hl:=hj.hS;have NO:Fr.length<=1000000:=by have:=hj.fL;rw[hj.qe]at this;grind
 have hT:=hj.hT;have hE:=hj.hE;have dc:=hj.dc;have wF:∀x,m.Stack.take f.bP.toNat++(x::dQ m f).reverse=m.Stack++ [x]:=by
  grind
 unfold instJ at h;by_cases h1:i.Op=1
 ·rw[if_pos h1]at h;refine uN (by simp[eK,h1]) (λwb=>Us wb s F _ i h1 (by grind)) ?_;rw[<-cr h,wF];rfl
 rw[if_neg h1]at h;by_cases Cf:i.Op=37
 ·rw[if_pos Cf]at h;have hF:=hj.hF;rw[if_pos (show 0<=(eL m).Fuel/\(eL m).Fuel<=1099511627776 from⟨hF.1,by show m.Told.Fuel<=_;omega⟩)]at h;split at h
  ·rename_i hc;exact NM (λwb=>Xr wb s F _ i Cf ⟨hF.1,by grind⟩ (hj.KV.2 hc)) (ed h)
  ·rename_i hc;refine xL (λwb=>Xs wb s F _ i Cf ⟨hF.1,by grind⟩ (λh=>hc (hj.KV.1 h))) ?_;rw[<-cr h,<-hA];rfl
 rw[if_neg Cf]at h;by_cases h5:i.Op=5
 ·rw[if_pos h5]at h;split at h
  ·rename_i cp;refine uN (by simp[eK,h5]) (λwb=>Ut wb s F _ i Fr _ _ h5 cp.1 rfl NO (nU cp) (by grind)) ?_;rw[<-cr h,wF];rfl
  ·cases h
 rw[if_neg h5]at h;by_cases Ar:i.Op=21
 ·rw[if_pos Ar]at h;obtain⟨gA,lG⟩:=oZ h;refine xL (λwb=>adI wb s F _ i _ Ar (CX s.Tables i.Arg) (by rw[hT];exact gA)) ?_;rw[<-lG,<-hA,hT];rfl
 rw[if_neg Ar]at h;by_cases FK:i.Op=35
 ·rw[if_pos FK]at h;split at h
  ·rename_i aN;have hw:=kD dc aN;obtain⟨gA,lG⟩:=oZ h;refine xL (λwb=>adJ wb s F _ i _ FK (Xt s.Tables m.Told.World (by grind) (by rw[hT];exact hw) (hw.flags dc)) (by rw[hT];exact gA)) ?_;rw[<-lG,<-hA,hT];rfl
  ·cases h
 rw[if_neg FK]at h;by_cases h0:dI i.Op=0
 ·rw[if_pos h0]at h;have uO:i.Op=3\/i.Op=7\/(i.Op=28\/i.Op=29\/i.Op=30)\/i.Op=33:=by
   grind[dI]
  cases aN:okW c (eL m).W with
  | false=>grind[dk,dw,di,cG,iS,nT]
  | true=>
  have hw:=kD dc aN;rcases uO with h3|h7|Xu|H0
  ·simp[h3,dk,di,aN]at h;split at h
   ·rename_i cp;refine uN (by simp[eK,h3]) (λwb=>Uu wb s F _ i _ h3 cp.1 (nU cp) (by grind)) ?_;rw[<-cr h];simp only[if_true];rw[wF];rfl
   grind[iS,nT]
  ·simp[h7,dk,di,aN,jb]at h;have oe:=(hw.A9 dc).1;cases hp:og (eL m).W c.E i.Arg with
   | mk v e=>
   rw[hp]at h;by_cases he:e=0
   ·subst he;refine uN (by simp[eK,h7]) (λwb=>Uv wb s F _ i v h7 (by show og m.Told.World m.Env i.Arg=_;rw[hE];exact hp) (by grind) hw.wf (by show m.Told.World.ah.length<=_;have:m.Told.World.ah.length<=128:=oe;omega)) ?_;rw[<-cr h];rw[wF];rfl
   ·simp only[if_neg he]at h;exact xM (by simp[eK,h7]) (λwb=>Uw wb s F _ i v e he h7 (by grind[og]) hw.wf (by show m.Told.World.ah.length<=_;have:m.Told.World.ah.length<=128:=oe;omega)) (ed h)
  ·refine xL (λwb=>Xv wb s F _ i Xu) ?_;rcases Xu with hq|hq|hq<;>simp[hq,dk,dw,cG,aN,iS,nT]at h<;>rw[<-h]<;>simp[hq,ve,eL,eg]
  ·simp[H0,dk,dw,cG,aN]at h;split at h
   ·rename_i cp;have hd:=(hw.A9 dc).2.2.2.1;refine vS (by grind[eK]) (by grind[mn]) (λwb=>QP wb s F _ i H0 cp (by show m.Told.World.bc.length<=_;have:m.Told.World.bc.length<=16:=hd;omega)) ?_;rw[<-cr h];show _=ve m _ (m.Stack.take f.bP.toNat++(dQ m f).reverse) _;rw[<-hA];rfl
   grind[iS,nT]
 rw[if_neg h0]at h;cases rU:dQ m f with
 | nil=>rw[rU]at h;cases h
 | cons v S=>
   rw[rU]at h;simp only at h;rw[rU]at hA;have dN:m.Stack=(m.Stack.take f.bP.toNat++S.reverse)++ [v]:=by grind
   have Xw:(m.Stack.take f.bP.toNat++S.reverse).length<=20000:=by
    grind
   have hv:ar v=v:=hj.hW v (by grind);have xN:∀x,m.Stack.take f.bP.toNat++(x::S).reverse=(m.Stack.take f.bP.toNat++S.reverse)++ [x]:=by simp
   by_cases h2:i.Op=2
   ·rw[if_pos h2]at h;refine vS (by simp[eK,h2]) (by simp[mn,h2]) (λwb=>Ux wb s F _ i _ v h2 dN (by omega)) ?_;rw[<-cr h];rfl
   rw[if_neg h2]at h;by_cases h6:i.Op=6
   ·rw[if_pos h6]at h;split at h
    ·rename_i cp;refine vS (by simp[eK,h6]) (by simp[mn,h6]) (λwb=>Uy wb s F _ i Fr _ _ v h6 rfl NO dN (by omega) cp (by show f.aL.length<=_;have:=hj.hL;omega)) ?_;rw[<-cr h];rfl
    ·cases h
   rw[if_neg h6]at h;by_cases h9:i.Op=9
   ·rw[if_pos h9]at h;refine uN (by simp[eK,h9]) (λwb=>Uz wb s F _ i _ v h9 dN (by omega)) ?_;rw[<-cr h,xN];rfl
   rw[if_neg h9]at h;by_cases eu:i.Op=10
   ·rw[if_pos eu]at h;refine uN (by grind[eK]) (λwb=>QQ wb s F _ i _ v eu dN (by omega)) ?_;rw[<-cr h,xN,mX];rfl
   rw[if_neg eu]at h;by_cases jP:i.Op=11
   ·rw[if_pos jP]at h;refine uN (by grind[eK]) (λwb=>QR wb s F _ i _ v jP dN (by omega)) ?_;rw[<-cr h,xN,mX];rfl
   rw[if_neg jP]at h;by_cases Cg:i.Op=22
   ·rw[if_pos Cg]at h;obtain⟨gA,lG⟩:=oZ h;refine xL (λwb=>adK wb s F _ i _ v _ Cg dN (by omega) (NP v hv) gA) ?_;rw[<-lG];rfl
   rw[if_neg Cg]at h;by_cases yV:i.Op=23
   ·rw[if_pos yV]at h;obtain⟨gA,lG⟩:=oZ h;refine xL (λwb=>adL wb s F _ i _ v _ yV dN (by omega) (Ba s.Tables v) (by rw[hT];exact gA)) ?_;rw[<-lG,hT];rfl
   rw[if_neg yV]at h;by_cases FL:i.Op=36
   ·rw[if_pos FL]at h;split at h
    ·rename_i aN;have hw:=kD dc aN;obtain⟨gA,lG⟩:=oZ h;refine xL (λwb=>adM wb s F _ i _ v _ FL dN (by omega) (KW s.Tables m.Told.World v (by grind) (by rw[hT];exact hw) (hw.flags dc)) (by rw[hT];exact gA)) ?_;rw[<-lG,hT];rfl
    ·cases h
   rw[if_neg FL]at h;by_cases h8:i.Op=8
   ·rw[if_pos h8]at h;cases S with
    | nil=>cases h
    | cons u S=>
    simp only at h;split at h
    ·cases h
    ·rename_i h9;have yW:m.Stack=(m.Stack.take f.bP.toNat++S.reverse)++ [u,v]:=by grind
     have aaJ:(m.Stack.take f.bP.toNat++S.reverse).length<=20000:=by grind
     have hTR:i.Arg=9->m.Told.World.Child.length=m.Told.World.ah.length/\m.Told.World.Next.length=m.Told.World.ah.length:=by
      intro h9';have aN:okW c (eL m).W=true:=by
       grind
      have hw:=kD dc aN;exact⟨hw.hC,hw.hN⟩
     unfold FM at h;cases hp:jd (eL m).W i.Arg u v with
     | mk x e=>
     rw[hp]at h;by_cases he:e=0
     ·subst he;refine uN (by simp[eK,h8]) (λwb=>UA wb s F _ i _ v u x h8 yW (by omega) hTR hp) ?_;rw[<-cr h];simp[ve,eL]
     ·simp only[if_neg he]at h;exact xM (by simp[eK,h8]) (λwb=>UB wb s F _ i _ v u x e he h8 yW (by omega) hTR hp) (ed h)
   rw[if_neg h8]at h;by_cases NQ:dI i.Op=2
   ·rw[if_pos NQ]at h;have uO:i.Op=14\/i.Op=17:=by grind[dI]
    cases S with
    | nil=>cases h
    | cons u S=>
    simp only at h;have yW:m.Stack=(m.Stack.take f.bP.toNat++S.reverse)++ [u,v]:=by grind
    have aaJ:(m.Stack.take f.bP.toNat++S.reverse).length<=20000:=by grind
    cases aN:okW c (eL m).W with
    | false=>grind[dw,cG,iS,nT]
    | true=>
    have hw:=kD dc aN;have hd:=hw.A9 dc;rcases uO with Ci|Sx
    ·simp[Ci,dw,cG,aN,fU,aB]at h;cases hp:mY c.B.Tables (eL m).W u i.Arg v with
     | mk w' e=>
     rw[hp]at h;have As:mY s.Tables m.Told.World u i.Arg v=(w',e):=by rw[hT];exact hp
     by_cases he:e=0
     ·subst he;refine vS (by grind[eK]) (by grind[mn]) (λwb=>QS wb s F _ i _ u v w' Ci yW (by omega) (by show m.Told.World.ah.length<=_;have:m.Told.World.ah.length<=128:=hd.1;omega) (by grind) (by rw[hT];exact hd.2.2.2.2.2.2) (by show m.Told.World.aJ.length<=_;have:m.Told.World.aJ.length<=2048:=hd.2.2.2.2.1;omega) As) ?_;rw[<-cr h];rfl
     ·simp only[if_neg he]at h;exact Aq (by grind[eK]) (by grind[mn]) (λwb=>QT wb s F _ i _ u v w' e he Ci yW (by omega) (by show m.Told.World.ah.length<=_;have:m.Told.World.ah.length<=128:=hd.1;omega) (by grind) (by rw[hT];exact hd.2.2.2.2.2.2) (by show m.Told.World.aJ.length<=_;have:m.Told.World.aJ.length<=2048:=hd.2.2.2.2.1;omega) As) (ed h)
    ·simp[Sx,dw,cG,aN,fU,aB]at h;cases hp:kY c.B.Tables (eL m).W u v with
     | mk w' e=>
     rw[hp]at h;have As:kY s.Tables m.Told.World u v=(w',e):=by rw[hT];exact hp
     have Au:iG s.Tables m.Told.World:=by rw[hT];exact hw
     by_cases he:e=0
     ·subst he;refine vS (by grind[eK]) (by grind[mn]) (λwb=>QU wb s F _ i _ u v w' Sx yW (by omega) Au As) ?_;rw[<-cr h];rfl
     ·simp only[if_neg he]at h;exact Aq (by grind[eK]) (by grind[mn]) (λwb=>QV wb s F _ i _ u v w' e he Sx yW (by omega) Au As) (ed h)
   rw[if_neg NQ]at h;have uO:i.Op=12\/i.Op=13\/i.Op=19\/i.Op=20\/i.Op=4\/i.Op=15\/i.Op=16\/i.Op=18\/i.Op=31\/i.Op=32\/i.Op=34:=by
    by_cases hA:i.Op=12\/i.Op=13\/i.Op=19\/i.Op=20\/i.Op=4\/i.Op=15\/i.Op=16\/i.Op=18\/i.Op=31\/i.Op=32\/i.Op=34
    ·exact hA
    ·exfalso;have n0:i.Op≠3/\i.Op≠7/\i.Op≠28/\i.Op≠29/\i.Op≠30/\i.Op≠33:=by
      refine⟨?_,?_,?_,?_,?_,?_⟩<;>intro hq<;>exact h0 (by rw[hq];rfl)
     have n2:i.Op≠14/\i.Op≠17:=by
      refine⟨?_,?_⟩<;>intro hq<;>exact NQ (by rw[hq];rfl)
     obtain⟨a1,a2,a3,a4,a5,a6⟩:=n0;obtain⟨a7,a8⟩:=n2;have b1:i.Op≠12:=λhq=>hA (by omega)
     have b2:i.Op≠13:=λhq=>hA (by omega)
     have b3:i.Op≠19:=λhq=>hA (by omega)
     have b4:i.Op≠20:=λhq=>hA (by omega)
     have b5:i.Op≠4:=λhq=>hA (by omega)
     have b6:i.Op≠15:=λhq=>hA (by omega)
     have b7:i.Op≠16:=λhq=>hA (by omega)
     have b8:i.Op≠18:=λhq=>hA (by omega)
     have b9:i.Op≠31:=λhq=>hA (by omega)
     have b10:i.Op≠32:=λhq=>hA (by omega)
     have b11:i.Op≠34:=λhq=>hA (by omega)
     have e1:dk i.Op=0:=by unfold dk;omega
     have e2:dw i.Op=0:=by unfold dw;omega
     grind[nT]
   cases aN:okW c (eL m).W with
   | false=>grind[dk,dw,di,cG,iS,nT]
   | true=>
   have hw:=kD dc aN;have Au:iG s.Tables m.Told.World:=by rw[hT];exact hw
   obtain⟨d1,d2,d3,d4,d5,d6,d7⟩:=hw.A9 dc;have uP:cZ m.Told.World:=hw.flags dc;have d1':m.Told.World.ah.length<=128:=d1;have d2':m.Told.World.Flags.length<=128:=d2;rcases uO with oO|gK|nt|H2|h4|oP|lj|uC|Xx|fL|NR
   ·simp[oO,dk,dw,di,cG,aN,jb,fU,aB]at h;unfold UC at h;simp only at h;by_cases he:cz (eL m).W v i.Arg=0
    ·have kK:cz m.Told.World v i.Arg=0:=he;rw[if_pos he,if_pos he]at h;refine uN (by grind[eK]) (λwb=>QW wb s F _ i _ v (cU m.Told.World v i.Arg.toNat) oO dN (by omega) uP (by grind)) ?_;rw[<-cr h,xN];rfl
    ·have kK:¬cz m.Told.World v i.Arg=0:=he;rw[if_neg he]at h;exact xM (by grind[eK]) (λwb=>QX wb s F _ i _ v false (cz m.Told.World v i.Arg) kK oO dN (by omega) uP (by grind)) (ed h)
   ·simp[gK,dk,dw,di,cG,aN,jb,fU,aB]at h;cases hp:tI c.B.Tables (eL m).W v i.Arg with
    | mk w' e=>
    rw[hp]at h;by_cases he:e=0
    ·subst he;refine uN (by grind[eK]) (λwb=>QY wb s F _ i _ v w' gK dN (by omega) (by rw[hT];exact hp) (by grind) (by grind) (by rw[hT];exact d7)) ?_;rw[<-cr h,xN];rfl
    ·simp only[if_neg he]at h;exact xM (by grind[eK]) (λwb=>QZ wb s F _ i _ v w' e he gK dN (by omega) (by rw[hT];exact hp) (by grind) (by grind) (by rw[hT];exact d7)) (ed h)
   ·simp[nt,dk,dw,di,cG,aN,jb,fU,aB]at h;cases hp:dh (eL m).W i.Arg v with
    | mk w' e=>
    rw[hp]at h;by_cases he:e=0
    ·subst he;refine uN (by grind[eK]) (λwb=>Q4 wb s F _ i _ v w' nt dN (by omega) hw.hC hw.hN hp) ?_;rw[<-cr h,xN];rfl
    ·simp only[if_neg he]at h;exact xM (by grind[eK]) (λwb=>Q5 wb s F _ i _ v w' e he nt dN (by omega) hw.hC hw.hN hp) (ed h)
   ·simp[H2,dk,dw,di,cG,aN,aB]at h;split at h
    ·rename_i hx;exact xM (by grind[eK]) (λwb=>Q6 wb s F _ i _ v H2 dN (by omega) hx) (ed h)
    ·rename_i hx;refine uN (by grind[eK]) (λwb=>Q7 wb s F _ i _ v H2 dN (by omega) hx) ?_;have h':=cr (by simpa[iS]using h);rw[<-h',xN];rfl
   ·simp[h4,dk,dw,di,cG,aN,aB]at h;split at h
    ·rename_i cp;refine vS (by simp[eK,h4]) (by simp[mn,h4]) (λwb=>UD wb s F _ i _ v h4 cp (by show m.Told.World.aP.length<=_;have:m.Told.World.aP.length<=64:=d3;omega) dN (by omega)) ?_;rw[<-cr h];rfl
    grind[iS,nT]
   ·simp[oP,dk,dw,di,cG,aN,jb,fU,aB]at h;cases hp:eb (eL m).W v i.Arg true with
    | mk w' e=>
    rw[hp]at h;by_cases he:e=0
    ·subst he;refine vS (by grind[eK]) (by grind[mn]) (λwb=>Q8 wb s F _ i _ v w' oP dN (by omega) uP (by grind) hp) ?_;rw[<-cr h];rfl
    ·simp only[if_neg he]at h;exact Aq (by grind[eK]) (by grind[mn]) (λwb=>Q9 wb s F _ i _ v w' e he oP dN (by omega) uP (by grind) hp) (ed h)
   ·simp[lj,dk,dw,di,cG,aN,jb,fU,aB]at h;cases hp:eb (eL m).W v i.Arg false with
    | mk w' e=>
    rw[hp]at h;by_cases he:e=0
    ·subst he;refine vS (by grind[eK]) (by grind[mn]) (λwb=>Ra wb s F _ i _ v w' lj dN (by omega) uP (by grind) hp) ?_;rw[<-cr h];rfl
    ·simp only[if_neg he]at h;exact Aq (by grind[eK]) (by grind[mn]) (λwb=>Rb wb s F _ i _ v w' e he lj dN (by omega) uP (by grind) hp) (ed h)
   ·simp[uC,dk,dw,di,cG,aN,jb,fU,aB]at h;cases hp:iH c.B.Tables (eL m).W v with
    | mk w' e=>
    rw[hp]at h;by_cases he:e=0
    ·subst he;refine vS (by grind[eK]) (by grind[mn]) (λwb=>Rd wb s F _ i _ v w' uC dN (by omega) Au (by rw[hT];exact hp)) ?_;rw[<-cr h];rfl
    ·simp only[if_neg he]at h;exact Aq (by grind[eK]) (by grind[mn]) (λwb=>Re wb s F _ i _ v w' e he uC dN (by omega) Au (by rw[hT];exact hp)) (ed h)
   ·simp[Xx,dk,dw,di,cG,aN,aB]at h;refine vS (by grind[eK]) (by grind[mn]) (λwb=>Rk wb s F _ i _ v Xx dN (by omega)) ?_;rw[<-cr h];rfl
   ·simp[fL,dk,dw,di,cG,aN,aB]at h;split at h
    ·rename_i cp;refine vS (by grind[eK]) (by grind[mn]) (λwb=>Rm wb s F _ i _ v fL dN (by omega) cp (by show m.Told.World.bc.length<=_;have:m.Told.World.bc.length<=16:=d4;omega)) ?_;rw[<-cr h];rfl
    grind[iS,nT]
   ·simp[NR,dk,dw,di,cG,aN,aB]at h;split at h
    ·rename_i hx;exact Aq (by grind[eK]) (by grind[mn]) (λwb=>Rn wb s F _ i _ v NR dN (by omega) (by omega)) (ed h)
    ·rename_i hx;refine vS (by grind[eK]) (by grind[mn]) (λwb=>Ro wb s F _ i _ v NR dN (by omega) (by omega)) ?_;rw[<-cr h];rfl
end
end Go.Ab
namespace Go.Ab
set_option maxHeartbeats 4000000
set_option maxRecDepth 20000
open Go.Proofs Go.Proofs.Tryz
structure H3(c:XC) (s:al):Prop where
 hT:s.Tables=c.B.Tables
 dc:fD c.B.Tables=true
 hE:s.Entry.length=c.B.Tables.Params.length
 hC:s.Code.length<=65536
 hb:∀y∈s.Code,0<=y/\y<=255
theorem Xy{b:cM}{s:al}(env:dx)(M:Int)(h:fu b=(s,0)):H3 ⟨b,env,M⟩ s:=by
 obtain⟨h1,h2,h3,h4,-⟩:=Bb h;have hB:=CY h1;exact⟨h2,hB.fits,by rw[h3];exact hB.len,h4,Rp h⟩
structure ae5(c:XC) (s:al) (m:ae) (f:aG) (i:ai) (r:Nat) (e:Int) (N:Nat) (S a:List Int):Prop where
 hA:0<=i.Arg
 hf:s.Tables.cV[i.Arg.toNat]?=some (r:Int)
 he:s.Entry[r]?=some e
 hn:s.Tables.aL[r]?=some (N:Int)
 hN:N<=1000
 hp:s.Tables.Params[r]?=some (a.length:Int)
 ha:a.length<=N
 hS:m.Stack=S++a
 fL:m.Frames.length<32
theorem UE{c:XC}{s:al}(hs:H3 c s){a:Int}(h:0<=(bN c).fn a):0<=a/\s.Tables.cV[a.toNat]?=some ((bN c).fn a):=by
 have e:(bN c).fn a=if fM c.B.Tables.cV a then aB c.B.Tables.cV a else -1:=rfl
 rw[e]at h⊢;split at h
 ·rename_i cp;rw[if_pos cp,hs.hT];exact⟨cp.1,nU cp⟩
 ·omega
theorem Sy{c:XC}{s:al}{m m':ae}{Fr:List aG}{f:aG}{i:ai}{k:Int}(hs:H3 c s)(hB:0≤f.bP∧f.bP≤m.Stack.length)(au:¬32≤m.Frames.length)(h:EO (bN c) s m Fr f k ((bN c).fn i.Arg)=some m'):
  ∃r e N S a,ae5 c s m f i r e N S a/\m'={m with Stack:=S,Frames:=Fr++ [{f with At:=k}]++ [⟨r,e,S.length,a.map ar++List.replicate (N-a.length) 0⟩]}:=by
 unfold EO at h;split at h
 ·rename_i hp;obtain⟨nu,uD⟩:=hp;have hf:=UE hs (a:=i.Arg) uD.1;generalize (bN c).fn i.Arg=r at *;obtain⟨R,rfl⟩:∃R:Nat,r=R:=⟨r.toNat,by have:=uD.1;omega⟩
  obtain⟨-,oe,-⟩:=oh hs.dc;have hdm:=lh hs.dc;have hE:=hs.hE;have hRp:R<c.B.Tables.Params.length:=by have:=uD.2;omega
  have hr:=oe R (by omega) (by omega);have hRl:R<c.B.Tables.aL.length:=by omega
  have hpa:(bN c).pa R=(aB c.B.Tables.Params R).toNat:=rfl;have gp:c.B.Tables.Params[R]?=some (aB c.B.Tables.Params R):=nU (x:=(R:Int)) ⟨by omega,by omega⟩;have gl:c.B.Tables.aL[R]?=some (aB c.B.Tables.aL R):=nU (x:=(R:Int)) ⟨by omega,by omega⟩;have ge:s.Entry[R]?=some (aB s.Entry R):=nU (x:=(R:Int)) uD;have Av:(dQ m f).length<=m.Stack.length:=by unfold dQ;simp
  have nv:((dQ m f).take ((bN c).pa R)).reverse.length=(bN c).pa R:=by rw[aqY,apG];omega
  have bV:m.Stack=m.Stack.take (m.Stack.length-(bN c).pa R)++((dQ m f).take ((bN c).pa R)).reverse:=by
   have hA:m.Stack=m.Stack.take f.bP.toNat++(dQ m f).reverse:=by unfold dQ;rw[aqD,apv]
   have bu:(dQ m f).reverse=((dQ m f).drop ((bN c).pa R)).reverse++((dQ m f).take ((bN c).pa R)).reverse:=by rw[<-List.reverse_append,apv]
   have Cj:m.Stack=(m.Stack.take f.bP.toNat++((dQ m f).drop ((bN c).pa R)).reverse)++((dQ m f).take ((bN c).pa R)).reverse:=by
    rw[apA,<-bu];exact hA
   have lZ:m.Stack.length-(bN c).pa R=(m.Stack.take f.bP.toNat++((dQ m f).drop ((bN c).pa R)).reverse).length:=by
    have:=congrArg List.length Cj;rw[aph (bs:=((dQ m f).take ((bN c).pa R)).reverse),nv]at this;omega
   rw[lZ]
   conv=>lhs;rw[Cj]
   conv=>rhs;arg 1;arg 2;rw[Cj]
   rw[List.take_left]
  have hlen:(m.Stack.take (m.Stack.length-(bN c).pa R)).length=m.Stack.length-(bN c).pa R:=by rw[apG];omega
  refine⟨R,aB s.Entry R,(aB c.B.Tables.aL R).toNat,m.Stack.take (m.Stack.length-(bN c).pa R),((dQ m f).take ((bN c).pa R)).reverse,⟨hf.1,hf.2,ge,?_,by omega,?_,by omega,bV,by omega⟩,?_⟩
  ·rw[hs.hT,gl];congr 1;omega
  ·rw[hs.hT,gp,nv,hpa];congr 1;omega
  ·rw[<-ao9 h,hlen];rfl
 ·cases h
theorem Ck{α:Type}{l:List α}{x:α}(h:l.getLast?=some x):l=l.dropLast++ [x]:=by
 have bR:l≠ []:=by intro e;rw[e]at h;cases h
 have:=List.dropLast_concat_getLast bR;rw[aq4 bR,anc]at h;rw[h]at this;exact this.symm
theorem KX{c:XC}{s:al}{F:Int}{w0:aj}{n:Nat}{m m':ae}(hs:H3 c s)(hj:Jv c w0 n m)(hn:n≤10000)(KV:F < m.Told.Fuel+1↔c.M < m.Told.Fuel+1)(h:gN (bN c) s m=some m'):
  Pure prog 13 [.agg (s.enc.map .d),.agg (m.enc.map .d),iD F] (.agg (m'.enc.map .d)):=by
 unfold gN at h;split at h
 ·rename_i hd;rw[<-ao9 h];exact aaK s m F hd
 rename_i hd;have hd:m.de=false:=by simpa using hd
 split at h
 ·rename_i f hf;split at h
  ·rename_i hB;have qe:=Ck hf;generalize m.Frames.dropLast=Fr at *;have fL:=hj.fL;have pM:=hj.hS;have CZ:Fr.length+1<=32:=by rw[qe]at fL;simpa using fL
   have pD:=FN s.Code f.At hs.hb (by have:=hs.hC;omega);obtain⟨i,k,e,hx⟩:∃i k e,jL s.Code f.At=(i,k,e):=⟨_,_,_,rfl⟩
   rw[hx]at h pD;refine aaL s m m' F Fr f i k e hd qe (by omega) (by omega) pD ?_;have hW:=hj.hW;have hA:m.Stack=m.Stack.take f.bP.toNat++(dQ m f).reverse:=by unfold dQ;rw[aqD,apv]
   have Sz:f.aL.length<=40:=hj.hL f (by rw[qe];simp);have hF0:=hj.hF;unfold sq at h;simp only at h;by_cases he:e=0
   ·subst he;have iE:=Xz hs.hb hx;have hC:=hs.hC;rw[if_neg (by simp)]at h;by_cases jo:i.Op=24
    ·rw[if_pos jo]at h;refine xL (λwb=>XA wb s F _ Fr {f with At:=k} i jo rfl (by omega) (by rw[aU];show _<=k+i.Arg/\k+i.Arg<=_;omega)) ?_;rw[<-ao9 h]
    rw[if_neg jo]at h;by_cases nw:i.Op=25
    ·rw[if_pos nw]at h;unfold EP at h;cases rU:dQ m f with
     | nil=>rw[rU]at h;cases h
     | cons v S=>
       rw[rU]at h hA;have dN:m.Stack=(m.Stack.take f.bP.toNat++S.reverse)++ [v]:=by rw[apA,<-aq6];exact hA
       have Xw:(m.Stack.take f.bP.toNat++S.reverse).length<=20000:=by
        have:=congrArg List.length dN;rw[aph,aq8]at this;omega
       have hv:ar v=v:=hW v (by rw[dN];simp);refine xL (λwb=>XB wb s F _ Fr {f with At:=k} i _ v nw rfl (by omega) dN (by omega) (by rw[aU];show _<=k+i.Arg/\k+i.Arg<=_;omega)) ?_;rw[<-ao9 h,hv]
    rw[if_neg nw]at h;by_cases rV:i.Op=27
    ·rw[if_pos rV]at h;unfold JQ at h;cases rU:dQ m f with
     | nil=>rw[rU]at h;cases h
     | cons v S=>
       rw[rU]at h hA;have dN:m.Stack=(m.Stack.take f.bP.toNat++S.reverse)++ [v]:=by rw[apA,<-aq6];exact hA
       have Xw:(m.Stack.take f.bP.toNat++S.reverse).length<=20000:=by
        have:=congrArg List.length dN;rw[aph,aq8]at this;omega
       have hBl:f.bP.toNat<=(m.Stack.take f.bP.toNat++S.reverse).length:=by
        rw[aph,apG];omega
       have xO:(m.Stack.take f.bP.toNat++S.reverse).take f.bP.toNat=m.Stack.take f.bP.toNat:=by
        rw[aq5 (by rw[apG];omega),List.take_take,Nat.min_self]
       refine xL (λwb=>Rq wb s F _ i Fr {f with At:=k} _ v rV rfl (by omega) dN ⟨hB.1,by show f.bP<=_;omega⟩ (by omega)) ?_;rw[<-ao9 h,xO]
    rw[if_neg rV]at h;by_cases pP:i.Op=26
    ·rw[if_pos pP]at h;by_cases au:32<=m.Frames.length
     ·rw[if_pos au]at h;split at h
      ·rename_i yX;obtain⟨g1,g2⟩:=UE hs yX;refine NM (λwb=>XD wb s F _ i _ pP g1 g2 (by show 32<=(Fr++ [_]).length;simp;rw[qe]at au;simpa using au)) (ao9 h)
      ·cases h
     ·rw[if_neg au]at h;obtain⟨r,e,N,S,a,hc,he⟩:=Sy hs hB au h;have aiH:S.length<=1000000:=by
       have:=congrArg List.length hc.hS;rw[aph]at this;omega
      refine .inr (.inr (.inl ⟨rfl,λwb=>?_⟩));rw[he];exact XE wb s F _ i r e N S a pP hc.hA hc.hf hc.he hc.hn hc.hN hc.hp hc.ha hc.hS aiH (by show(Fr++ [_]).length<32;have:=hc.fL;rw[qe]at this;simp at this⊢;exact this)
    rw[if_neg pP]at h;exact Xq ⟨hs.hT,hs.dc,hj.hE,qe,hd,hj.fL,by omega,hW,hB,by omega,⟨hF0.1,by omega⟩,KV⟩ h
   ·rw[if_pos he]at h;cases h
  ·cases h
 ·cases h
def vf(o:Int):Prop:=o=24\/o=25\/o=26\/o=27\/o=5\/o=6
def ER(o:Int):Prop:=o=28\/o=29\/o=30\/o=37
def yY(o:Int):Prop:=o=21\/o=22\/o=23\/o=35\/o=36
def mD(o:Int):Prop:=o=15\/o=16\/o=14\/o=17\/o=18\/o=31\/o=32\/o=33\/o=34\/o=4
def kq(o:Int):Prop:=(o≠24/\o≠25/\o≠26/\o≠27/\o≠5/\o≠6)/\(o≠28/\o≠29/\o≠30/\o≠37)/\(o≠21/\o≠22/\o≠23/\o≠35/\o≠36)/\(o≠15/\o≠16/\o≠14/\o≠17/\o≠18/\o≠31/\o≠32/\o≠33/\o≠34/\o≠4)
def UF(s:al)(m x:ae)(f:aG)(i:ai)(F:Int)(m':ae):Prop:=
 (vf i.Op/\FP s m x f i m')\/(ER i.Op/\NS m x i F m')\/(yY i.Op/\H4 s x i m')\/(mD i.Op/\uE s m x i m')\/(kq i.Op/\xP s m x i m')
theorem NT(s:al)(m:ae)(F:Int)(hd:m.de=true):Pure prog 14 [.agg (s.enc.map .d),.agg (m.enc.map .d),iD F] (.agg (m.enc.map .d)):=by
 refine rn func14 ?_;simp[-cB,f14];intro bs;simp[hd]
@[simp] theorem aG.anF(f:aG)(n:Int):List.take 1 (f.enc.map V.d)++V.d (.v (.int .i64 n))::List.drop 2 (f.enc.map V.d)=({f with At:=n}:aG).enc.map V.d:=rfl
@[simp] theorem aG.XF(f:aG):List.take 4 (f.enc.map V.d)=f.enc.map V.d:=rfl
theorem Rr(s:al)(m m':ae)(F:Int)(Fr:List aG)(f:aG)(i:ai)(k e:Int)(hd:m.de=false)(h:m.Frames=Fr++ [f])(hl:m.Frames.length≤1000)
  (pD:Pure prog 39 [.d (.sl (s.Code.map λy=> [.v (.int .u8 y)])),iD f.At] (.bA [.agg (i.enc.map .d),iD k,iD e]))
  (ho:(e≠0/\m'=eO m e)\/(e=0/\UF s m {m with Frames:=Fr++ [{f with At:=k}]} {f with At:=k} i F m')):Pure prog 14 [.agg (s.enc.map .d),.agg (m.enc.map .d),iD F] (.agg (m'.enc.map .d)):=by
 have lI:Fr.length<m.Frames.length:=by rw[h];simp
 have bm:m.Frames[Fr.length]'lI=f:=by simp[h]
 have FQ:((m.Frames.length:Nat):Int)-1=Fr.length:=by rw[h];simp
 have bY:aM .i64 (Fr.length:Int):=by rw[aU];omega
 have hf:=o8 m e;have XG:=vg m Fr f {f with At:=k} h hl;generalize hx:({m with Frames:=Fr++ [{f with At:=k}]}:ae)=x at *;by_cases he:e=0
 ·subst he;have ho:UF s m x {f with At:=k} i F m':=by
   rcases ho with ho|ho
   ·exact absurd rfl ho.1
   ·exact ho.2
  rcases ho with⟨aD,hC⟩|⟨aD,hC⟩|⟨aD,hC⟩|⟨aD,hC⟩|⟨aD,hC⟩
  ·refine rn func14 ?_;simp[-cB,f14];intro bs;simp[hd,FQ,bY,bm,lI];intro bL;refine pC pD ?_;simp[-cB];intro lJ;refine pC XG ?_;simp[-cB];intro tJ;unfold vf at aD;rcases aD with hq|hq|hq|hq|hq|hq
   all_goals
    simp[-cB,hq];refine pC hC ?_;simp[-cB]
  ·refine rn func14 ?_;simp[-cB,f14];intro bs;simp[hd,FQ,bY,bm,lI];intro bL;refine pC pD ?_;simp[-cB];intro lJ;refine pC XG ?_;simp[-cB];intro tJ;unfold ER at aD;rcases aD with hq|hq|hq|hq
   all_goals
    simp[-cB,hq];refine pC hC ?_;simp[-cB]
  ·refine rn func14 ?_;simp[-cB,f14];intro bs;simp[hd,FQ,bY,bm,lI];intro bL;refine pC pD ?_;simp[-cB];intro lJ;refine pC XG ?_;simp[-cB];intro tJ;unfold yY at aD;rcases aD with hq|hq|hq|hq|hq
   all_goals
    simp[-cB,hq];refine pC hC ?_;simp[-cB]
  ·refine rn func14 ?_;simp[-cB,f14];intro bs;simp[hd,FQ,bY,bm,lI];intro bL;refine pC pD ?_;simp[-cB];intro lJ;refine pC XG ?_;simp[-cB];intro tJ;unfold mD at aD;rcases aD with hq|hq|hq|hq|hq|hq|hq|hq|hq|hq
   all_goals
    simp[-cB,hq];refine pC hC ?_;simp[-cB]
  ·refine rn func14 ?_;simp[-cB,f14];intro bs;simp[hd,FQ,bY,bm,lI];intro bL;refine pC pD ?_;simp[-cB];intro lJ;refine pC XG ?_;simp[-cB];intro tJ;obtain⟨⟨a1,a2,a3,a4,a5,a6⟩,⟨b1,b2,b3,b4⟩,⟨c1,c2,c3,c4,c5⟩,d1,d2,d3,d4,d5,d6,d7,d8,d9,d10⟩:=aD;simp[-cB,a1,a2,a3,a4,a5,a6,b1,b2,b3,b4,c1,c2,c3,c4,c5,d1,d2,d3,d4,d5,d6,d7,d8,d9,d10];refine pC hC ?_;simp[-cB]
 ·have ho:m'=eO m e:=by
   rcases ho with ho|ho
   ·exact ho.2
   ·exact absurd ho.1 he
  subst ho;refine rn func14 ?_;simp[-cB,f14];intro bs;simp[hd,FQ,bY,bm,lI];intro bL;refine pC pD ?_;simp[-cB];intro lJ;simp[he];refine pC hf ?_;simp[-cB]
theorem tK(N:Nat)(eu:N<10):Pure prog 148 [.d (.v (.int .u64 N))] (.d (.v (.string (gE N)))):=by
 have GO:(N:Int)<10:=by omega
 have e:gE N=⟨#[UInt8.ofNat (48+N)]⟩:=by rw[gE,if_pos eu]
 rw[e];have hu:IntKind.wrap .u64 ((N:Int)+1)=N+1:=iu (by omega);have key:∀N<10,(ByteArray.mk #[48,49,50,51,52,53,54,55,56,57]).extract N (N+1)=⟨#[48+UInt8.ofNat N]⟩:=by decide
 refine rn func148 ?_;simp[-cB,f148];simp[eu,GO,hu];exact⟨⟨by omega,by show N+1<=10;omega⟩,key N eu⟩
theorem rW:∀(n N:Nat),N<=n->(gE N).size<=N+1:=by
 intro n
 induction n with
 | zero=>intro N hN;obtain rfl:N=0:=by omega
         rw[gE,if_pos (by decide)];decide
 | succ n ih=>
   intro N hN;by_cases eu:N<10
   ·rw[gE,if_pos eu];show 1<=_;omega
   ·rw[gE,if_neg eu,apw];have h1:=ih (N / 10) (by omega);have:(ByteArray.mk #[UInt8.ofNat (48+N % 10)]).size=1:=rfl;omega
theorem Rs:∀(n N:Nat),N<=n->N<1000000->Pure prog 148 [.d (.v (.int .u64 N))] (.d (.v (.string (gE N)))):=by
 intro n
 induction n with
 | zero=>
   intro N hN _;exact tK N (by omega)
 | succ n ih=>
   intro N hN bY;by_cases eu:N<10
   ·exact tK N eu
   ·have GO:¬(N:Int)<10:=by omega
    have h1:=ih (N / 10) (by omega) (by omega);have h2:=tK (N % 10) (by omega);have z1:=rW (N / 10) (N / 10) (by omega);have z2:=rW (N % 10) (N % 10) (by omega);have e:gE N=gE (N / 10)++gE (N % 10):=by
     conv=>lhs;rw[gE,if_neg eu]
     congr 1;rw[gE,if_pos (by omega)]
    rw[e];generalize gE (N / 10)=A at *;generalize gE (N % 10)=B at *;have q1:IntKind.wrap .u64 ((N:Int).tdiv 10)=((N / 10:Nat):Int):=by rw[apW (by omega),iu (by omega)];omega
    have q2:IntKind.wrap .u64 ((N:Int).tmod 10)=((N % 10:Nat):Int):=by rw[apz (by omega),iu (by omega)];omega
    have q3:(N:Int).tdiv 10=((N / 10:Nat):Int):=by rw[apW (by omega)];omega
    have q4:(N:Int).tmod 10=((N % 10:Nat):Int):=by rw[apz (by omega)];omega
    generalize hQ:N / 10=Q at *;generalize hR:N % 10=R at *;refine rn func148 ?_;simp[-cB,f148];have wQ:IntKind.wrap .u64 (Q:Int)=Q:=iu (by omega);have wR:IntKind.wrap .u64 (R:Int)=R:=iu (by omega);simp[eu,GO,q1,q2,q3,q4,wQ];refine pC h1 ?_;simp[-cB,q2,q4,wR];refine pC h2 ?_;simp[-cB];omega
theorem UG:∀(n N:Nat),N<=n->0<N->N<1000000->Pure prog 91 [iD (-(N:Int))] (.d (.v (.string (⟨#[45]⟩++gE N)))):=by
 intro n
 induction n with
 | zero=>intro N h1 h2;omega
 | succ n ih=>
   intro N hN iZ au;have h0:¬(0:Int)<= -(N:Int):=by omega
   by_cases eu:N<10
   ·have GO:(-10:Int) < -(N:Int):=by omega
    have hd:=tK N eu;have hw:IntKind.wrap .u64 (N:Int)=N:=iu (by omega);have bY:aM .i64 (N:Int):=by rw[aU];omega
    have z:=rW N N (by omega);generalize gE N=A at *;refine rn func91 ?_;simp[-cB,f91];have hN0:¬N=0:=by omega
    simp[h0,GO,hw,bY,hN0];refine pC hd ?_;simp[-cB];have z1:(ByteArray.mk #[45]).size=1:=rfl;omega
   ·have GO:¬(-10:Int) < -(N:Int):=by omega
    have FA:=ih (N / 10) (by omega) (by omega) (by omega);have hd:=tK (N % 10) (by omega);have e:gE N=gE (N / 10)++gE (N % 10):=by
     conv=>lhs;rw[gE,if_neg eu]
     congr 1;rw[gE,if_pos (by omega)]
    have z1:=rW (N / 10) (N / 10) (by omega);have z2:=rW (N % 10) (N % 10) (by omega);have q1:(-(N:Int)).tdiv 10= -((N / 10:Nat):Int):=by rw[Int.neg_tdiv,apW (by omega)];omega
    have q2:10 *(-((N / 10:Nat):Int))- -(N:Int)=((N % 10:Nat):Int):=by omega
    rw[e,<-aq3];generalize gE (N / 10)=A at *;generalize gE (N % 10)=B at *;have i1:aM .i64 (-((N / 10:Nat):Int)):=by rw[aU];omega
    have i2:aM .i64 (10 *(-((N / 10:Nat):Int))):=by rw[aU];omega
    have i3:aM .i64 ((N % 10:Nat):Int):=by rw[aU];omega
    have wR:IntKind.wrap .u64 ((N % 10:Nat):Int)=((N % 10:Nat):Int):=iu (by omega);generalize N / 10=Q at *;generalize N % 10=R at *;refine rn func91 ?_;simp[-cB,f91];have hN0:¬N=0:=by omega
    have wQ:IntKind.wrap .i64 (-(Q:Int))= -(Q:Int):=wrap64 i1;simp[h0,GO,q1,hN0,wQ];refine pC FA ?_;simp[-cB,i2,q2,i3,wR];refine pC hd ?_;simp[-cB];have z3:(ByteArray.mk #[45]).size=1:=rfl;omega
theorem NU(v:Int)(hv:ar v=v):Pure prog 91 [iD v] (.d (.v (.string (uQ v)))):=by
 rw[iA]at hv;unfold uQ;by_cases h:v<0
 ·rw[if_pos h];have:=UG v.natAbs v.natAbs (api _) (by omega) (by omega);rw[show(-(v.natAbs:Int))=v by omega]at this;exact this
 ·rw[if_neg h];obtain⟨N,rfl⟩:∃N:Nat,v=N:=⟨v.toNat,by omega⟩
  have hd:=Rs N N (api _) (by omega);have hw:IntKind.wrap .u64 (N:Int)=N:=iu (by omega);have h0:(0:Int)<=N:=by omega
  simp only[Int.natAbs_natCast];generalize gE N=A at *;refine rn func91 ?_;simp[-cB,f91];simp[h0,hw];refine pC hd ?_;simp[-cB]
theorem UH s m x i S v n w' e(aD:i.Op=17)(hS:x.Stack=S++ [v,n])(hl:S.length≤100000)(aN:iG s.Tables x.Told.World)(hv:kY s.Tables x.Told.World v n=(w',e)):
  uE s m x i (if e≠0 then eO m e else {x with Stack:=S,Told:={x.Told with World:=w'}}):=by
 have uF:=NV aN v n;have hT:=aN.hT;have h3:=aN.hn;unfold kY at hv;cases hr:da s.Tables v with
 | true=>
   rw[hr,if_pos (by simp)]at hv;simp at hv;rw[<-hv.2,if_pos (by decide)];exact Rt s m x i S v n aD hS hl hr
 | false=>
   cases hp:kZ x.Told.World v n with
   | mk w1 e1=>
   rw[hp]at hv uF;have oQ:=XH s m x i S v n w1 e1 aD hS hl hr aN.wf aN.nest hp (λ_=>Cl s w1 uF.1 (by grind) h3.1) _ rfl;have e2:(if e≠0 then eO m e else {x with Stack:=S,Told:={x.Told with World:=w'}})=(if e1≠0 then eO m e1 else if da s.Tables (dj w1.tree 1)=true then({x with Stack:=S,Told:={x.Told with World:=w1}}:ae)else eO m 12):=by
    unfold pQ at hv;grind
   rw[e2];exact oQ
theorem UI s m x i S v w' e(aD:i.Op=18)(hS:x.Stack=S++ [v])(hl:S.length≤100000)(aN:iG s.Tables x.Told.World)(hv:iH s.Tables x.Told.World v=(w',e)):
  uE s m x i (if e≠0 then eO m e else {x with Stack:=S,Told:={x.Told with World:=w'}}):=by
 have uF:=H5 aN v;have hT:=aN.hT;have h3:=aN.hn;unfold iH at hv;cases hr:da s.Tables v with
 | true=>
   rw[hr,if_pos (by simp)]at hv;simp at hv;rw[<-hv.2,if_pos (by decide)];exact Ru s m x i S v aD hS hl hr
 | false=>
   cases hp:fB x.Told.World v with
   | mk w1 e1=>
   rw[hp]at uF;have hv:pQ s.Tables (w1,e1)=(w',e)\/(e=12/\e1=0/\da s.Tables (dj w1.tree 1)=false):=by
    by_cases h1:v=1
    ·subst h1;have H6:=MG aN hr;grind
    grind
   have oQ:=XI s m x i S v w1 e1 aD hS hl hr aN.wf aN.nest hp (λ_=>Cl s w1 uF.1 (by grind) h3.1) _ rfl;have e2:(if e≠0 then eO m e else {x with Stack:=S,Told:={x.Told with World:=w'}})=(if e1≠0 then eO m e1 else if da s.Tables (dj w1.tree 1)=true then({x with Stack:=S,Told:={x.Told with World:=w1}}:ae)else eO m 12):=by
    rcases hv with hv|⟨rfl,rfl,hB⟩
    ·unfold pQ at hv;grind
    grind
   rw[e2];exact oQ
section
variable {c : XC} {s : al} {F : Int} {m m' : ae} {Fr : List aG} {f : aG} {i : ai} {k : Int}
abbrev GP(s:al)(m:ae)(Fr:List aG)(f:aG)(k:Int)(i:ai)(F:Int)(m':ae):Prop:=UF s m (eg m Fr f k) {f with At:=k} i F m'
theorem rG{X}(aD:vf i.Op)(h:FP s m (eg m Fr f k) {f with At:=k} i X)(e:X=m'):GP s m Fr f k i F m':= .inl ⟨aD,e ▸ h⟩
theorem rE{X}(aD:ER i.Op)(h:NS m (eg m Fr f k) i F X)(e:X=m'):GP s m Fr f k i F m':= .inr (.inl ⟨aD,e ▸ h⟩)
theorem rS{X}(aD:yY i.Op)(h:H4 s (eg m Fr f k) i X)(e:X=m'):GP s m Fr f k i F m':= .inr (.inr (.inl ⟨aD,e ▸ h⟩))
theorem rD{X}(aD:mD i.Op)(h:uE s m (eg m Fr f k) i X)(e:X=m'):GP s m Fr f k i F m':= .inr (.inr (.inr (.inl ⟨aD,e ▸ h⟩)))
theorem rR{X}(aD:kq i.Op)(h:xP s m (eg m Fr f k) i X)(e:X=m'):GP s m Fr f k i F m':= .inr (.inr (.inr (.inr ⟨aD,e ▸ h⟩)))
theorem aaM(hj:Jn c s F m Fr f)(h:nT m Fr f k (instJ c i (dQ m f) f.aL (eL m))=some m'):GP s m Fr f k i F m':=by
 have hA:m.Stack=m.Stack.take f.bP.toNat++(dQ m f).reverse:=by simp[dQ,aqD,apv]
 have hl:=hj.hS;have NO:Fr.length<=1000000:=by have:=hj.fL;rw[hj.qe]at this;grind
 have aiI:(Fr++ [({f with At:=k}:aG)]).length<=1000:=by have:=hj.fL;rw[hj.qe]at this;grind
 have hT:=hj.hT;have hE:=hj.hE;have dc:=hj.dc;have wF:∀x,m.Stack.take f.bP.toNat++(x::dQ m f).reverse=m.Stack++ [x]:=by
  grind
 unfold instJ at h;by_cases h1:i.Op=1
 ·rw[if_pos h1]at h;refine rR (by simp[kq,h1]) (Rv s m _ i h1 (by grind)) ?_;rw[<-cr h,wF];rfl
 rw[if_neg h1]at h;by_cases Cf:i.Op=37
 ·rw[if_pos Cf]at h;have hF:=hj.hF;rw[if_pos (show 0<=(eL m).Fuel/\(eL m).Fuel<=1099511627776 from⟨hF.1,by show m.Told.Fuel<=_;omega⟩)]at h;split at h
  ·rename_i hc;exact rE (by grind[ER]) (XJ m _ i F Cf hF (hj.KV.2 hc)) (ed h)
  ·rename_i hc;refine rE (by grind[ER]) (XK m _ i F Cf hF (λh=>hc (hj.KV.1 h)) rfl) ?_;rw[<-cr h,<-hA];rfl
 rw[if_neg Cf]at h;by_cases h5:i.Op=5
 ·rw[if_pos h5]at h;split at h
  ·rename_i cp;refine rG (by simp[vf,h5]) (aaN s m _ _ i _ h5 cp.1 (nU cp) (by grind)) ?_;rw[<-cr h,wF];rfl
  ·cases h
 rw[if_neg h5]at h;by_cases Ar:i.Op=21
 ·rw[if_pos Ar]at h;obtain⟨gA,lG⟩:=oZ h;refine rS (by grind[yY]) (XL s _ i _ Ar (C0 s.Tables i.Arg) (by rw[hT];exact gA)) ?_;rw[<-lG,<-hA,hT];rfl
 rw[if_neg Ar]at h;by_cases FK:i.Op=35
 ·rw[if_pos FK]at h;split at h
  ·rename_i aN;have hw:=kD dc aN;obtain⟨gA,lG⟩:=oZ h;refine rS (by grind[yY]) (XM s _ i _ FK (XN s.Tables m.Told.World (by grind) (by rw[hT];exact hw) (hw.flags dc)) (by rw[hT];exact gA)) ?_;rw[<-lG,<-hA,hT];rfl
  ·cases h
 rw[if_neg FK]at h;by_cases h0:dI i.Op=0
 ·rw[if_pos h0]at h;have uO:i.Op=3\/i.Op=7\/(i.Op=28\/i.Op=29\/i.Op=30)\/i.Op=33:=by
   grind[dI]
  cases aN:okW c (eL m).W with
  | false=>grind[dk,dw,di,cG,iS,nT]
  | true=>
  have hw:=kD dc aN;rcases uO with h3|h7|Xu|H0
  ·simp[h3,dk,di,aN]at h;split at h
   ·rename_i cp;refine rR (by simp[kq,h3]) (Rw s m _ i _ h3 cp.1 (nU cp) (by grind)) ?_;rw[<-cr h];simp only[if_true];rw[wF];rfl
   grind[iS,nT]
  ·simp[h7,dk,di,aN,jb]at h;have oe:=(hw.A9 dc).1;cases hp:og (eL m).W c.E i.Arg with
   | mk v e=>
   rw[hp]at h;by_cases he:e=0
   ·subst he;refine rR (by simp[kq,h7]) (FR s m (eg m Fr f k) i v 0 h7 (by show og m.Told.World m.Env i.Arg=_;rw[hE];exact hp) (by grind) hw.wf (gF _ _)) ?_;rw[<-cr h];rw[wF];rfl
   ·simp only[if_neg he]at h;exact rR (by simp[kq,h7]) (FR s m (eg m Fr f k) i v e h7 (by grind[og]) (by grind) hw.wf (jq _ _ e he)) (ed h)
  ·refine rE (by grind[ER]) (adN m _ i F Xu) ?_;rcases Xu with hq|hq|hq<;>simp[hq,dk,dw,cG,aN,iS,nT]at h<;>rw[<-h]<;>simp[hq,ve,eL,eg]
  ·simp[H0,dk,dw,cG,aN]at h;split at h
   ·rename_i cp;have hd:=(hw.A9 dc).2.2.2.1;refine rD (by grind[mD]) (XO s m _ i H0 cp (by show m.Told.World.bc.length<=_;have:m.Told.World.bc.length<=16:=hd;omega)) ?_;rw[<-cr h];show _=ve m _ (m.Stack.take f.bP.toNat++(dQ m f).reverse) _;rw[<-hA];rfl
   grind[iS,nT]
 rw[if_neg h0]at h;cases rU:dQ m f with
 | nil=>rw[rU]at h;cases h
 | cons v S=>
   rw[rU]at h;simp only at h;rw[rU]at hA;have dN:m.Stack=(m.Stack.take f.bP.toNat++S.reverse)++ [v]:=by grind
   have Xw:(m.Stack.take f.bP.toNat++S.reverse).length<=20000:=by
    grind
   have hv:ar v=v:=hj.hW v (by grind);have xN:∀x,m.Stack.take f.bP.toNat++(x::S).reverse=(m.Stack.take f.bP.toNat++S.reverse)++ [x]:=by simp
   by_cases h2:i.Op=2
   ·rw[if_pos h2]at h;refine rR (by simp[kq,h2]) (Rx s m _ i _ v h2 dN (by omega) hv) ?_;rw[<-cr h];rfl
   rw[if_neg h2]at h;by_cases h6:i.Op=6
   ·rw[if_pos h6]at h;split at h
    ·rename_i cp;refine rG (by simp[vf,h6]) (aaO s m _ Fr _ _ i _ v h6 rfl aiI dN (by omega) cp (by show f.aL.length<=_;have:=hj.hL;omega)) ?_;rw[<-cr h];rfl
    ·cases h
   rw[if_neg h6]at h;by_cases h9:i.Op=9
   ·rw[if_pos h9]at h;refine rR (by simp[kq,h9]) (Rz s m _ i _ v h9 dN (by omega) hv) ?_;rw[<-cr h,xN];rfl
   rw[if_neg h9]at h;by_cases eu:i.Op=10
   ·rw[if_pos eu]at h;refine rR (by simp[kq,eu]) (NW s m _ i _ v eu dN (by omega) hv) ?_;rw[<-cr h,xN,mX];rfl
   rw[if_neg eu]at h;by_cases jP:i.Op=11
   ·rw[if_pos jP]at h;refine rR (by simp[kq,jP]) (NX s m _ i _ v jP dN (by omega) hv) ?_;rw[<-cr h,xN,mX,show(!decide (v=0))=decide (v≠0) by simp];rfl
   rw[if_neg jP]at h;by_cases Cg:i.Op=22
   ·rw[if_pos Cg]at h;obtain⟨gA,lG⟩:=oZ h;refine rS (by grind[yY]) (XP s _ i _ v _ Cg dN (by omega) (by rw[hv];exact NU v hv) gA) ?_;rw[<-lG];rfl
   rw[if_neg Cg]at h;by_cases yV:i.Op=23
   ·rw[if_pos yV]at h;obtain⟨gA,lG⟩:=oZ h;refine rS (by grind[yY]) (XQ s _ i _ v _ yV dN (by omega) (by rw[hv];exact qS s.Tables v) (by rw[hT];exact gA)) ?_;rw[<-lG,hT];rfl
   rw[if_neg yV]at h;by_cases FL:i.Op=36
   ·rw[if_pos FL]at h;split at h
    ·rename_i aN;have hw:=kD dc aN;obtain⟨gA,lG⟩:=oZ h;refine rS (by grind[yY]) (XR s _ i _ v _ FL dN (by omega) (by rw[hv];exact KY s.Tables m.Told.World v (by grind) hw.wf (hw.flags dc) (hw.A9 dc).1) (by rw[hT];exact gA)) ?_;rw[<-lG,hT];rfl
    ·cases h
   rw[if_neg FL]at h;by_cases h8:i.Op=8
   ·rw[if_pos h8]at h;cases S with
    | nil=>cases h
    | cons u S=>
    simp only at h;split at h
    ·cases h
    ·rename_i h9;have yW:m.Stack=(m.Stack.take f.bP.toNat++S.reverse)++ [u,v]:=by grind
     have aaJ:(m.Stack.take f.bP.toNat++S.reverse).length<=20000:=by grind
     have hTR:i.Arg=9->m.Told.World.Child.length=m.Told.World.ah.length/\m.Told.World.Next.length=m.Told.World.ah.length:=by
      intro h9';have aN:okW c (eL m).W=true:=by
       grind
      have hw:=kD dc aN;exact⟨hw.hC,hw.hN⟩
     unfold FM at h;cases hp:jd (eL m).W i.Arg u v with
     | mk x e=>
     rw[hp]at h;by_cases he:e=0
     ·subst he;refine rR (by simp[kq,h8]) (FT s m (eg m Fr f k) i _ u v x 0 h8 yW (by omega) hp (gF _ _)) ?_;rw[<-cr h];simp[ve,eL]
     ·simp only[if_neg he]at h;exact rR (by simp[kq,h8]) (FT s m (eg m Fr f k) i _ u v x e h8 yW (by omega) hp (jq _ _ e he)) (ed h)
   rw[if_neg h8]at h;by_cases NQ:dI i.Op=2
   ·rw[if_pos NQ]at h;have uO:i.Op=14\/i.Op=17:=by grind[dI]
    cases S with
    | nil=>cases h
    | cons u S=>
    simp only at h;have yW:m.Stack=(m.Stack.take f.bP.toNat++S.reverse)++ [u,v]:=by grind
    have aaJ:(m.Stack.take f.bP.toNat++S.reverse).length<=20000:=by grind
    cases aN:okW c (eL m).W with
    | false=>grind[dw,cG,iS,nT]
    | true=>
    have hw:=kD dc aN;have hd:=hw.A9 dc;rcases uO with Ci|Sx
    ·simp[Ci,dw,cG,aN,fU,aB]at h;cases hp:mY c.B.Tables (eL m).W u i.Arg v with
     | mk w' e=>
     rw[hp]at h;have As:mY s.Tables m.Told.World u i.Arg v=(w',e):=by rw[hT];exact hp
     by_cases he:e=0
     ·subst he;refine rD (by grind[mD]) (KZ s m (eg m Fr f k) i _ u v w' 0 Ci yW (by omega) hw.wf (by show m.Told.World.ah.length<=_;have:m.Told.World.ah.length<=128:=hd.1;omega) (by grind) (by rw[hT];exact hd.2.2.2.2.2.2) As (gF _ _)) ?_;rw[<-cr h];rfl
     ·simp only[if_neg he]at h;exact rD (by grind[mD]) (KZ s m (eg m Fr f k) i _ u v w' e Ci yW (by omega) hw.wf (by show m.Told.World.ah.length<=_;have:m.Told.World.ah.length<=128:=hd.1;omega) (by grind) (by rw[hT];exact hd.2.2.2.2.2.2) As (jq _ _ e he)) (ed h)
    ·simp[Sx,dw,cG,aN,fU,aB]at h;cases hp:kY c.B.Tables (eL m).W u v with
     | mk w' e=>
     rw[hp]at h;have As:kY s.Tables m.Told.World u v=(w',e):=by rw[hT];exact hp
     have Au:iG s.Tables m.Told.World:=by rw[hT];exact hw
     exact rD (by grind[mD]) (UH s m _ i _ u v w' e Sx yW (by omega) Au As) (by
      by_cases he:e=0
      ·subst he;rw[if_neg (by simp),<-cr h];rfl
      ·simp only[if_neg he]at h;rw[if_pos he];exact ed h)
   rw[if_neg NQ]at h;have uO:i.Op=12\/i.Op=13\/i.Op=19\/i.Op=20\/i.Op=4\/i.Op=15\/i.Op=16\/i.Op=18\/i.Op=31\/i.Op=32\/i.Op=34:=by
    by_cases hA:i.Op=12\/i.Op=13\/i.Op=19\/i.Op=20\/i.Op=4\/i.Op=15\/i.Op=16\/i.Op=18\/i.Op=31\/i.Op=32\/i.Op=34
    ·exact hA
    ·exfalso;have n0:i.Op≠3/\i.Op≠7/\i.Op≠28/\i.Op≠29/\i.Op≠30/\i.Op≠33:=by
      refine⟨?_,?_,?_,?_,?_,?_⟩<;>intro hq<;>exact h0 (by rw[hq];rfl)
     have n2:i.Op≠14/\i.Op≠17:=by
      refine⟨?_,?_⟩<;>intro hq<;>exact NQ (by rw[hq];rfl)
     obtain⟨a1,a2,a3,a4,a5,a6⟩:=n0;obtain⟨a7,a8⟩:=n2;have b1:i.Op≠12:=λhq=>hA (by omega)
     have b2:i.Op≠13:=λhq=>hA (by omega)
     have b3:i.Op≠19:=λhq=>hA (by omega)
     have b4:i.Op≠20:=λhq=>hA (by omega)
     have b5:i.Op≠4:=λhq=>hA (by omega)
     have b6:i.Op≠15:=λhq=>hA (by omega)
     have b7:i.Op≠16:=λhq=>hA (by omega)
     have b8:i.Op≠18:=λhq=>hA (by omega)
     have b9:i.Op≠31:=λhq=>hA (by omega)
     have b10:i.Op≠32:=λhq=>hA (by omega)
     have b11:i.Op≠34:=λhq=>hA (by omega)
     have e1:dk i.Op=0:=by unfold dk;omega
     have e2:dw i.Op=0:=by unfold dw;omega
     grind[nT]
   cases aN:okW c (eL m).W with
   | false=>grind[dk,dw,di,cG,iS,nT]
   | true=>
   have hw:=kD dc aN;have Au:iG s.Tables m.Told.World:=by rw[hT];exact hw
   obtain⟨d1,d2,d3,d4,d5,d6,d7⟩:=hw.A9 dc;have uP:cZ m.Told.World:=hw.flags dc;have d1':m.Told.World.ah.length<=128:=d1;have d2':m.Told.World.Flags.length<=128:=d2;rcases uO with oO|gK|nt|H2|h4|oP|lj|uC|Xx|fL|NR
   ·simp[oO,dk,dw,di,cG,aN,jb,fU,aB]at h;unfold UC at h;simp only at h;by_cases he:cz (eL m).W v i.Arg=0
    ·have kK:cz m.Told.World v i.Arg=0:=he;rw[if_pos he,if_pos he]at h;refine rR (by simp[kq,oO]) (C1 s m (eg m Fr f k) i _ v (cU m.Told.World v i.Arg.toNat) 0 oO dN (by omega) hv uP (by grind) (gF _ _)) ?_;rw[<-cr h,xN];rfl
    ·have kK:¬cz m.Told.World v i.Arg=0:=he;rw[if_neg he]at h;exact rR (by simp[kq,oO]) (C1 s m (eg m Fr f k) i _ v false (cz m.Told.World v i.Arg) oO dN (by omega) hv uP (by grind) (jq _ _ _ kK)) (ed h)
   ·simp[gK,dk,dw,di,cG,aN,jb,fU,aB]at h;cases hp:tI c.B.Tables (eL m).W v i.Arg with
    | mk w' e=>
    rw[hp]at h;by_cases he:e=0
    ·subst he;refine rR (by simp[kq,gK]) (C2 s m (eg m Fr f k) i _ v w' 0 gK dN (by omega) hv (by grind) (by grind) (by rw[hT];exact d7) (by rw[hT];exact hp) (gF _ _)) ?_;rw[<-cr h,xN];rfl
    ·simp only[if_neg he]at h;exact rR (by simp[kq,gK]) (C2 s m (eg m Fr f k) i _ v w' e gK dN (by omega) hv (by grind) (by grind) (by rw[hT];exact d7) (by rw[hT];exact hp) (jq _ _ e he)) (ed h)
   ·simp[nt,dk,dw,di,cG,aN,jb,fU,aB]at h;cases hp:dh (eL m).W i.Arg v with
    | mk w' e=>
    rw[hp]at h;by_cases he:e=0
    ·subst he;refine rR (by simp[kq,nt]) (C3 s m (eg m Fr f k) i _ v w' 0 nt dN (by omega) hv hw.hC hw.hN hp (gF _ _)) ?_;rw[<-cr h,xN];rfl
    ·simp only[if_neg he]at h;exact rR (by simp[kq,nt]) (C3 s m (eg m Fr f k) i _ v w' e nt dN (by omega) hv hw.hC hw.hN hp (jq _ _ e he)) (ed h)
   ·simp[H2,dk,dw,di,cG,aN,aB]at h;split at h
    ·rename_i hx;exact rR (by simp[kq,H2]) (NY s m _ i _ v H2 dN (by omega) hv hx) (ed h)
    ·rename_i hx;refine rR (by simp[kq,H2]) (NZ s m _ i _ v H2 dN (by omega) hv hx) ?_;have h':=cr (by simpa[iS]using h);rw[<-h',xN];rfl
   ·simp[h4,dk,dw,di,cG,aN,aB]at h;split at h
    ·rename_i cp;refine rD (by simp[mD,h4]) (aaP s m _ i _ v h4 dN (by omega) cp (by show m.Told.World.aP.length<=_;have:m.Told.World.aP.length<=64:=d3;omega)) ?_;rw[<-cr h];rfl
    grind[iS,nT]
   ·simp[oP,dk,dw,di,cG,aN,jb,fU,aB]at h;cases hp:eb (eL m).W v i.Arg true with
    | mk w' e=>
    rw[hp]at h;by_cases he:e=0
    ·subst he;refine rD (by grind[mD]) (K0 s m (eg m Fr f k) i _ v w' 0 oP dN (by omega) uP (by grind) hp (gF _ _)) ?_;rw[<-cr h];rfl
    ·simp only[if_neg he]at h;exact rD (by grind[mD]) (K0 s m (eg m Fr f k) i _ v w' e oP dN (by omega) uP (by grind) hp (jq _ _ e he)) (ed h)
   ·simp[lj,dk,dw,di,cG,aN,jb,fU,aB]at h;cases hp:eb (eL m).W v i.Arg false with
    | mk w' e=>
    rw[hp]at h;by_cases he:e=0
    ·subst he;refine rD (by grind[mD]) (K1 s m (eg m Fr f k) i _ v w' 0 lj dN (by omega) uP (by grind) hp (gF _ _)) ?_;rw[<-cr h];rfl
    ·simp only[if_neg he]at h;exact rD (by grind[mD]) (K1 s m (eg m Fr f k) i _ v w' e lj dN (by omega) uP (by grind) hp (jq _ _ e he)) (ed h)
   ·simp[uC,dk,dw,di,cG,aN,jb,fU,aB]at h;cases hp:iH c.B.Tables (eL m).W v with
    | mk w' e=>
    rw[hp]at h;exact rD (by grind[mD]) (UI s m _ i _ v w' e uC dN (by omega) Au (by rw[hT];exact hp)) (by
     by_cases he:e=0
     ·subst he;rw[if_neg (by simp),<-cr h];rfl
     ·simp only[if_neg he]at h;rw[if_pos he];exact ed h)
   ·simp[Xx,dk,dw,di,cG,aN,aB]at h;refine rD (by grind[mD]) (XT s m _ i _ v Xx dN (by omega)) ?_;rw[<-cr h];rfl
   ·simp[fL,dk,dw,di,cG,aN,aB]at h;split at h
    ·rename_i cp;refine rD (by grind[mD]) (XU s m _ i _ v fL dN (by omega) cp (by show m.Told.World.bc.length<=_;have:m.Told.World.bc.length<=16:=d4;omega)) ?_;rw[<-cr h];rfl
    grind[iS,nT]
   ·simp[NR,dk,dw,di,cG,aN,aB]at h;split at h
    ·rename_i hx;exact rD (by grind[mD]) (XV s m _ i _ v NR dN (by omega) (by omega)) (ed h)
    ·rename_i hx;refine rD (by grind[mD]) (XW s m _ i _ v NR dN (by omega) (by omega)) ?_;rw[<-cr h];rfl
end
theorem aaQ{c:XC}{s:al}{F:Int}{w0:aj}{n:Nat}{m m':ae}(hs:H3 c s)(hj:Jv c w0 n m)(hn:n≤10000)(KV:F < m.Told.Fuel+1↔c.M < m.Told.Fuel+1)(h:gN (bN c) s m=some m'):
  Pure prog 14 [.agg (s.enc.map .d),.agg (m.enc.map .d),iD F] (.agg (m'.enc.map .d)):=by
 unfold gN at h;split at h
 ·rename_i hd;rw[<-ao9 h];exact NT s m F hd
 rename_i hd;have hd:m.de=false:=by simpa using hd
 split at h
 ·rename_i f hf;split at h
  ·rename_i hB;have qe:=Ck hf;generalize m.Frames.dropLast=Fr at *;have fL:=hj.fL;have pM:=hj.hS;have CZ:Fr.length+1<=32:=by rw[qe]at fL;simpa using fL
   have pD:=N0 s.Code f.At hs.hb (by have:=hs.hC;omega);obtain⟨i,k,e,hx⟩:∃i k e,jL s.Code f.At=(i,k,e):=⟨_,_,_,rfl⟩
   rw[hx]at h pD;refine Rr s m m' F Fr f i k e hd qe (by omega) pD ?_;have hFk:(Fr++ [({f with At:=k}:aG)]).length<=1000:=by simp;omega
   have hW:=hj.hW;have hA:m.Stack=m.Stack.take f.bP.toNat++(dQ m f).reverse:=by unfold dQ;rw[aqD,apv]
   have Sz:f.aL.length<=40:=hj.hL f (by rw[qe];simp);have hF0:=hj.hF;unfold sq at h;simp only at h;by_cases he:e=0
   ·subst he;refine .inr ⟨rfl,?_⟩;show GP s m Fr f k i F m';have iE:=Xz hs.hb hx;have hC:=hs.hC;rw[if_neg (by simp)]at h;by_cases jo:i.Op=24
    ·rw[if_pos jo]at h;refine rG (by simp[vf,jo]) (XX s m _ Fr _ {f with At:=k} i jo rfl hFk (by rw[aU];show _<=k+i.Arg/\k+i.Arg<=_;omega)) ?_;rw[<-ao9 h]
    rw[if_neg jo]at h;by_cases nw:i.Op=25
    ·rw[if_pos nw]at h;unfold EP at h;cases rU:dQ m f with
     | nil=>rw[rU]at h;cases h
     | cons v S=>
       rw[rU]at h hA;have dN:m.Stack=(m.Stack.take f.bP.toNat++S.reverse)++ [v]:=by rw[apA,<-aq6];exact hA
       have Xw:(m.Stack.take f.bP.toNat++S.reverse).length<=20000:=by
        have:=congrArg List.length dN;rw[aph,aq8]at this;omega
       have hv:ar v=v:=hW v (by rw[dN];simp);refine rG (by simp[vf,nw]) (XY s m _ Fr _ {f with At:=k} i _ v nw rfl hFk dN (by omega) (by rw[aU];show _<=k+i.Arg/\k+i.Arg<=_;omega)) ?_;rw[<-ao9 h];split<;>rfl
    rw[if_neg nw]at h;by_cases rV:i.Op=27
    ·rw[if_pos rV]at h;unfold JQ at h;cases rU:dQ m f with
     | nil=>rw[rU]at h;cases h
     | cons v S=>
       rw[rU]at h hA;have dN:m.Stack=(m.Stack.take f.bP.toNat++S.reverse)++ [v]:=by rw[apA,<-aq6];exact hA
       have Xw:(m.Stack.take f.bP.toNat++S.reverse).length<=20000:=by
        have:=congrArg List.length dN;rw[aph,aq8]at this;omega
       have hBl:f.bP.toNat<=(m.Stack.take f.bP.toNat++S.reverse).length:=by
        rw[aph,apG];omega
       have xO:(m.Stack.take f.bP.toNat++S.reverse).take f.bP.toNat=m.Stack.take f.bP.toNat:=by
        rw[aq5 (by rw[apG];omega),List.take_take,Nat.min_self]
       refine rG (by simp[vf,rV]) (XZ s m _ Fr _ {f with At:=k} i _ v rV rfl hFk dN (by omega) ⟨hB.1,by show f.bP<=_;omega⟩) ?_;rw[<-ao9 h,xO]
    rw[if_neg rV]at h;by_cases pP:i.Op=26
    ·rw[if_pos pP]at h;by_cases au:32<=m.Frames.length
     ·rw[if_pos au]at h;split at h
      ·rename_i yX;obtain⟨g1,g2⟩:=UE hs yX;exact rG (by simp[vf,pP]) (X0 s m _ _ i pP au) (ao9 h)
      ·cases h
     ·rw[if_neg au]at h;obtain⟨r,e,N,S,a,hc,he⟩:=Sy hs hB au h;refine rG (by simp[vf,pP]) (X1 s m _ _ i r e N S a pP hc.hA hc.hf hc.he hc.hn hc.hN hc.hp hc.hS (by show m.Stack.length<=_;omega) hc.fL hFk) ?_;rw[he,GQ a N hc.ha]
    rw[if_neg pP]at h;exact aaM ⟨hs.hT,hs.dc,hj.hE,qe,hd,hj.fL,by omega,hW,hB,by omega,⟨hF0.1,by omega⟩,KV⟩ h
   ·rw[if_pos he]at h;cases h
  ·cases h
 ·cases h
theorem UJ{c:XC}{s:al}{w0:aj}{m0:ae}(dc:fD c.B.Tables=true)(N1:s.Entry.length=c.B.Tables.Params.length)(k1:∀i,∃mi,iterM (bN c) s i m0=some mi)(k2:Jv c w0 0 m0):
  ∃Ms:Nat->ae,Ms 0=m0/\∀i,Jv c w0 i (Ms i)/\gN (bN c) s (Ms i)=some (Ms (i+1)):=by
 generalize hK:bN c=K at k1;obtain⟨Ms,tL⟩:=arz k1;refine⟨Ms,?_,λi=>⟨?_,?_⟩⟩
 ·have:=tL 0;rw[iterM]at this;exact(ao9 this).symm
 ·have hi:=tL i;rw[<-hK]at hi;have:=SA dc N1 i 0 m0 (Ms i) k2 hi;rw[ap2]at this;exact this
 ·have hi:=tL i;have hj:=tL (i+1);rw[s8,hi]at hj;simp only[aqy]at hj;rw[iterM]at hj;cases h:gN K s (Ms i)with
  | none=>rw[h]at hj;cases hj
  | some x=>rw[h]at hj;simp only[aqy,iterM]at hj;exact hj
theorem K2{b:cM}{s:al}{w:aj}(hs:fu b=(s,0))(hw:cA b.Tables w=true)(SB:0≤w.cL∧w.cL < 18446744073709551616)(r:Int)(a:List Int)(env:dx)(M:Int)(hM:M≤1000000):
  ∃Ms:Nat->ae,Ms 0=qg s w r a env/\∀i,Jv ⟨b,env,M⟩ w i (Ms i)/\gN (bN ⟨b,env,M⟩) s (Ms i)=some (Ms (i+1)):=by
 obtain⟨uG,hT,hE,-,-⟩:=Bb hs;have hB:=CY uG;obtain⟨-,oe,-⟩:=oh hB.fits;have N1:s.Entry.length=b.Tables.Params.length:=by rw[hE];exact hB.len
 have key:(∀i,∃mi,iterM (bN ⟨b,env,M⟩) s i (qg s w r a env)=some mi)/\Jv ⟨b,env,M⟩ w 0 (qg s w r a env):=by
  unfold qg;split
  ·exact⟨λi=>⟨_,wG rfl i⟩,⟨rfl,by simp,by simp,by intro n hn;simp at hn,by simp,⟨ap4 _,ap4 _⟩,fV w⟩⟩
  ·rename_i hr;split
   ·exact⟨λi=>⟨_,wG rfl i⟩,⟨rfl,by simp,by simp,by intro n hn;simp at hn,by simp,⟨ap4 _,ap4 _⟩,fV w⟩⟩
   ·rename_i nv;rw[hT]at hr nv;have cp:0<=r/\r<b.Tables.Params.length:=by omega
    have fv:=oe r cp.1 cp.2;have aiJ:(a.length:Int)<=aB b.Tables.aL r:=by omega
    have hle:a.length<=(aB s.Tables.aL r).toNat:=by rw[hT];omega
    rw[GQ a _ hle];constructor
    ·obtain⟨g,σ',o,hc,-⟩:=adO (c:=⟨b,env,M⟩) hB hM (lq.2 ⟨hw,SB⟩) (r:=r) (a:=a) (by show 0<=r/\r<(b.aO.length:Int);have:=hB.len;omega) aiJ;obtain⟨n,m',h1,h2⟩:=N2 hs hc (by show 0<=r/\r<(b.aO.length:Int);have:=hB.len;omega);have hd:m'.de=true:=by
      cases o with
      | bO v=>unfold acZ at h2;rw[h2]
      | bH e=>exact h2.1
      | over=>exact h2.1
      | ret n=>exact h2.elim
     intro i;have:=UK h1 hd i;unfold ac0 gL at this;rw[hT];exact this
    ·refine⟨rfl,by simp,by simp,by intro n hn;simp at hn,?_,⟨ap4 _,ap4 _⟩,fV w⟩;intro f hf;simp at hf;rw[hf];simp only[aph,apx,List.length_replicate];rw[hT];omega
 obtain⟨k1,k2⟩:=key;exact UJ (c:=⟨b,env,M⟩) hB.fits N1 k1 k2
set_option maxHeartbeats 8000000
set_option maxRecDepth 40000
set_option maxHeartbeats 200000
set_option maxRecDepth 20000
theorem N3{x:List D}:∀{L:List (List D)},x∈L->iI x<=mZ L
 | [],h=>by cases h
 | y::L,h=>by
   rw[mZ];rcases apq.1 h with rfl|h
   ·omega
   ·have:=N3 h;omega
theorem SC{x:D}:∀{L:List D},x∈L->bD x<=iI L
 | [],h=>by cases h
 | y::L,h=>by
   rw[iI];rcases apq.1 h with rfl|h
   ·omega
   ·have:=SC h;omega
theorem RA{L:List (List an)}{E:List D}(h2:D.sl (oi (List.map an.enc) L)∈E){r:List (List D)}(hB:mZ (E::r)<=1048576):∀l∈L,iJ l<=30000000:=by
 intro l hl;have h1:iI E<=1048576:=by rw[mZ]at hB;omega
 have h3:=SC h2;rw[bD]at h3;have h4:[D.sl (l.map an.enc)]∈oi (List.map an.enc) L:=apf.2 ⟨l,hl,rfl⟩;have h5:=N3 h4;simp only[iI,bD]at h5;have h6:=aaR _ l (aps _);omega
set_option maxHeartbeats 4000000
theorem K3{b:cM}{w:aj}{s:al}(hw:w.wf)(hs:fu b=(s,0))(H7:cA b.Tables w=true):
  fD b.Tables=true/\iG b.Tables w/\
   ∀r a env,Pure prog 11 [.agg (s.enc.map .d),.agg (w.enc.map .d),iD r,.d (.sl (aA a)),.agg (env.enc.map .d)] (.agg ((qg s w r a env).enc.map .d))/\
    Pure prog 12 [.agg (s.enc.map .d),.agg (w.enc.map .d),iD r,.d (.sl (aA a)),.agg (env.enc.map .d)] (.agg ((qg s w r a env).enc.map .d)):=by
 obtain⟨uG,hT,hE⟩:=H8 hs;have xQ:=uG;unfold fE at xQ;simp only[apb,decide_eq_true_eq]at xQ;have hf:=xQ.1.1;have hRl:=xQ.1.2;have hdm:=lh hf;obtain⟨-,oe,-⟩:=oh hf;have hkw:=iG.of hf H7 (UL hw);have l1:s.Entry.length=s.Tables.Params.length:=by rw[hT,hE];exact hRl
 have l2:s.Tables.aL.length=s.Tables.Params.length:=by rw[hT];omega
 have l3:∀n∈s.Tables.aL,0<=n/\n<=1000000:=by
  intro n hn;rw[hT]at hn;obtain⟨k,hk,X2⟩:=aqF hn;have:=oe k (by omega) (by omega);have hg:aB b.Tables.aL k=n:=by unfold aB;rw[arB,akC hk,X2];rfl
  rw[hg]at this;omega
 refine⟨hf,hkw,λr a env=>⟨?_,UM s w r a env l1 l2 l3⟩⟩;refine UN s w r a env l1 l2 l3 ?_;intro r e n he hn Cm ha;have hle:a.length<=n:=by
  obtain⟨hk,X2⟩:=apa.1 hn;have h1:=oe r (by omega) (by rw[hT]at l2 hk;omega);have hg:aB s.Tables.aL r=n:=by unfold aB;rw[arB,hn];rfl
  rw[hT]at hg ha;omega
 have:=H9 s r e n he hn Cm a hle 0;rw[GQ _ _ hle];exact this
def Aw(s:al)(m:ae)(F:Int):aI:=[(5201,.box 0 50 (m.enc.map .d)),(5202,.box 0 41 (s.enc.map .d)),(5203,.box 0 3 [iD F])]
theorem K4(s:al)(m:ae)(F:Int):aE prog 51 [.agg (s.enc.map .d),.agg (m.enc.map .d),iD F] [] (λr L=>r= .ret (.eS (.func 112) [] [.bp 5201 0,.bp 5202 0,.bp 5203 0])/\L=Aw s m F):=by
 refine aE.wk (R:=λr L=>r= .ret (.eS (.func 112) [] [.bp 4 0,.bp 3 0,.bp 5 0])/\∃b3 b4 b5,L=[(5,.box b5 3 [iD F]),(4,.box b4 50 (m.enc.map .d)),(3,.box b3 41 (s.enc.map .d))]) ?_ ?_
 ·refine aE.run func51 rfl (by simp[f51]) ?_;simp[f51]
 ·rintro r L ⟨rfl,b3,b4,b5,rfl⟩;refine⟨_,_,_,rfl,((Wk.yZ [3,4,5]).trans ((Wk.eB 4 5201 (by simp[keys])).trans ((Wk.eB 3 5202 (by simp[keys])).trans ((Wk.eB 5 5203 (by simp[keys])).trans (Wk.pick [0] [5201,5202,5203] (by simp) (by decide) ?_))))),?_⟩
  ·simp
  ·simp[Aw,St.pick]
theorem ay.ag0{P:Program}{n:Nat}{Q:AX->St->Prop}{ops:Array Oper}{l:List Oper}{s:St}{A:Env}(k:Nat)(h:(k,.env A)∈s.L)(hA:∀w O x,¬A.H w O x):ay P n ops l s Q:=λfo m0 w0 m a w st g=>by
 obtain⟨x,hx,hh⟩:=g.inv.holds _ _ h;exact(hA _ _ _ hh).elim
theorem Ia{KP:Prop}(s:al)(F:Int)(Ms:Nat→ae)(N:Nat)(hp:∀i,i < N→Pure prog 13 [.agg (s.enc.map .d),.agg ((Ms i).enc.map .d),iD F] (.agg ((Ms (i+1)).enc.map .d)))
  (hd:∀i,i<N->(Ms i).de=false) (hN:(Ms N).de=false->KP):MV KP prog 112 [.bp 5201 0,.bp 5202 0,.bp 5203 0] (Aw s (Ms 0) F) ((List.range (N+1)).map λi=> [.agg ((Ms i).enc.map .d)]):=by
 intro l A B hy hK;rw[apx,List.length_range]at hK;unfold Aw;refine aE.vT [5003] (by simp) func112 rfl (by simp[f112]) ?_;simp[f112];refine av.cJ [0,1,2,3] N (λi=> []) (λi=> [(5003,.env (A i)),(5201,.box 0 50 ((Ms i).enc.map .d))]) (λ_=>True) (by rfl) (by simp) ?_;intro i hi _;have N4:rY prog l [.agg ((Ms i).enc.map .d)] [(5003,.env (A i))] (YR (A (i+1)) B):=hy i _ (by rw[apc,aqG (by omega)];rfl);simp[-cB];refine ay.X3 (N4) rfl (by simp[qT]) (by simp) rfl (by simp) rfl (by simp[keys]) rfl (by simp) (by simp) ?_ ?_
 ·intro bL;rcases apg hi with au|rfl
  ·have h1:=hd i au;have h2:=hp i au;simp[-cB,List.filter,h1];refine pC h2 ?_;simp[-cB,au]
  ·cases FU:(Ms i).de with
   | true=>simp[-cB,List.filter,FU]
   | false=>
     simp[-cB,List.filter,FU];exact ay.ag0 5003 (by simp) (hK (hN FU))
 ·intro bL;simp[-cB,List.filter]
def om(w:aj)(x:lS):lS:=if x.s9≠0 then⟨x.s9,w,x.Out,0,false,x.Fuel⟩else x
theorem adP(s:al)(w:aj)(r:Int)(a:List Int)(env:dx)(F:Int)(Ms:Nat→ae)(N:Nat)(hb:Pure prog 11 [.agg (s.enc.map .d),.agg (w.enc.map .d),iD r,.d (.sl (aA a)),.agg (env.enc.map .d)] (.agg ((Ms 0).enc.map .d)))
  (hp:∀i,i<N->Pure prog 13 [.agg (s.enc.map .d),.agg ((Ms i).enc.map .d),iD (max F 0)] (.agg ((Ms (i+1)).enc.map .d)))
  (hd:∀i,i<N->(Ms i).de=false) (hN:(Ms N).de=true):Pure prog 24 [.agg (s.enc.map .d),.agg (w.enc.map .d),iD r,.d (.sl (aA a)),.agg (env.enc.map .d),iD F] (.agg ((om w (Ms N).Told).enc.map .d)):=by
 have iy:=Ia (KP:=False) s (max F 0) Ms N hp hd (λh=>by rw[hN]at h;cases h);have hu:=K4 s (Ms 0) (max F 0);unfold Aw at iy hu;have k1:∀L,kL prog 11 [.agg (s.enc.map .d),.agg (w.enc.map .d),iD r,.d (.sl (aA a)),.agg (env.enc.map .d)] L (.agg ((Ms 0).enc.map .d)):=hb.ok;have hrg:(List.range (N+1)).getLast?.getD 0=N:=by simp[aqu]
 have hF:(if F<0 then 0 else F)=max F 0:=by rw[Int.max_def];split<;>split<;>omega
 have SD:List.range (N+1)≠ []:=by simp
 generalize List.range (N+1)=l at *;refine rn func24 ?_;simp[-cB,f24];intro bs;refine av.aT [Q0,Q0,Q0,Q0,Q0,Q0,Q0,Q0,Q0,none] [.agg ((Ms 0).enc.map .d)] aS (by kernel_rfl) ?_;simp[-cB,k1];refine gx.intro (λ_=>fN.call (s:=⟨_,_⟩) 5009 [] rfl hu (by simp[hF]) rfl (by kernel_rfl) (by first|rfl|simp) (by simp) (cE (by simp)) (by simp) (by simp)) ?_;simp[-cB,hF];refine av.uR [5201,5202,5203] [7,12] l (λi=> [.agg ((Ms i).enc.map .d)]) (λpre=>if pre=[]then []else [(12,.box (bs 3+1) 48 ((Ms (pre.getLast?.getD 0)).Told.enc.map .d))]) (λ_=>True) (by simpa[List.filter]using iy) rfl (by simp) (by simp[List.filter]) (by simp[gm]) (by simp) (by rfl) (by rfl) (by simp[List.filter]) (by intro pre;by_cases h:pre=[]<;>simp[h,List.filter]) ?_ ?_
 ·rintro pre x post bu -;by_cases h:pre=[]
  ·simp[-cB,List.filter,h]
  ·simp[-cB,List.filter,h]
 ·intro _;simp[-cB,List.filter,SD,hrg];by_cases he:(Ms N).Told.s9=0
  ·simp[-cB,he,om]
  ·have kK:((Ms N).Told.s9 !=0)=true:=by simpa using he
   simp[-cB,he,kK,om,lS.enc,aj.enc,V.mb,V.fz]
def Ax(m:ae):Int:=(m.Frames[m.Frames.length-1]?.getD aG.zero).At
def UO(s:al)(m:ae):ai:=(jL s.Code (Ax m)).1
def pE(ej:Int):Int:=min ej 1024
def na(s:al)(Ms:Nat->ae)(n:Nat):List ai:=(List.range n).map λi=>UO s (Ms i)
theorem K5(s:al)(Ms:Nat->ae)(n:Nat):na s Ms (n+1)=na s Ms n++ [UO s (Ms n)]:=by simp[na,aqu]
theorem oq(s:al)(Ms:Nat->ae)(n:Nat):(na s Ms n).length=n:=by simp[na]
def uS(N:Nat)(ej:Int):Nat:=min N (pE ej).toNat
theorem aaS{N x:Nat}{pre post:List Nat}(h:List.range N=pre++x::post):x=pre.length/\x<N:=by
 have h1:(List.range N)[pre.length]?=some x:=by rw[h];simp
 obtain⟨h2,h3⟩:=apa.1 h1;simp at h2 h3;exact⟨h3.symm,by omega⟩
theorem X4(s:al)(w:aj)(r:Int)(a:List Int)(env:dx)(ej:Int)(Ms:Nat→ae)(N:Nat)(hb:Pure prog 11 [.agg (s.enc.map .d),.agg (w.enc.map .d),iD r,.d (.sl (aA a)),.agg (env.enc.map .d)] (.agg ((Ms 0).enc.map .d)))
  (hp:∀i,i<N->Pure prog 13 [.agg (s.enc.map .d),.agg ((Ms i).enc.map .d),iD 4096] (.agg ((Ms (i+1)).enc.map .d)))
  (hd:∀i,i<N->(Ms i).de=false) (hN:(Ms N).de=true\/pE ej<=N) (hf:∀i,i<N->0<(Ms i).Frames.length/\(Ms i).Frames.length<=1000)
  (hc:∀i,Pure prog 35 [.d (.sl (gk s.Code)),iD i] (zQ (jL s.Code i))):
  Pure prog 20 [.agg (s.enc.map .d),.agg (w.enc.map .d),iD r,.d (.sl (aA a)),.agg (env.enc.map .d),iD ej] (.d (.sl ((na s Ms (uS N ej)).map ai.enc))):=by
 have iy:=Ia (KP:=True) s 4096 Ms N hp hd (λ_=>trivial);have hu:=K4 s (Ms 0) 4096;unfold Aw at iy hu;have k1:∀L,kL prog 11 [.agg (s.enc.map .d),.agg (w.enc.map .d),iD r,.d (.sl (aA a)),.agg (env.enc.map .d)] L (.agg ((Ms 0).enc.map .d)):=hb.ok;have hm:(if 1024<ej then 1024 else ej)=pE ej:=by unfold pE;rw[Int.min_def];split<;>split<;>omega
 have rC:pE ej<=1024:=by unfold pE;omega
 unfold uS;generalize pE ej=M at *;refine rn func20 ?_;simp[-cB,f20];intro bs K6;refine av.aT [Q0,Q0,Q0,Q0,Q0,Q0,Q0,none] [.agg ((Ms 0).enc.map .d)] aS (by kernel_rfl) ?_;simp[-cB,k1];refine gx.intro (λ_=>fN.call (s:=⟨_,_⟩) 5009 [] rfl hu (by simp) rfl (by kernel_rfl) (by first|rfl|simp) (by simp) (cE (by simp)) (by simp) (by simp)) ?_;simp[-cB];refine av.weaken (Wk.qh 13 0 5300 (e:=84) (k:=2) rfl rfl (by simp[keys])) ?_;simp[-cB];refine av.uR [5201,5202,5203] [6,11,13] (List.range (N+1)) (λi=> [.agg ((Ms i).enc.map .d)]) (λpre=> [(5300,.row 84 2 (dd ((na s Ms pre.length).map ai.enc)))]) (λpre=>(pre.length:Int)<=max M 0/\pre.length<=N) (by simpa[List.filter]using iy) rfl (by simp) (by simp[List.filter]) (by simp[gm]) (by simp) (by rfl) (by rfl) (by simp[List.filter,na];omega) (by simp[List.filter]) ?_ ?_ (λ_ h=>by have:=h.2;simp at this;omega)
 ·rintro pre x post bu hH;obtain⟨rfl,hx⟩:=aaS bu;simp[-cB,List.filter,hm,oq];intro bL;have hZ:=hf pre.length;by_cases me:((Ms pre.length).de||decide (M<=(pre.length:Int)))=true
  ·have hi:pre.length=min N M.toNat:=by
    simp only[arl,decide_eq_true_eq]at me;rcases apg (Nat.le_of_lt_succ hx)with h|h
    ·rw[hd _ h]at me;simp at me;omega
    ·omega
   simp[-cB,List.filter,me,<-hi]
  ·have GR:((Ms pre.length).de||decide (M<=(pre.length:Int)))=false:=by simpa using me
   have au:pre.length<N:=by
    simp only[Bool.or_eq_false_iff,decide_eq_false_iff_not]at GR;refine ap9 λhn=>?_
    rw[show pre.length=N by omega]at GR;rcases hN with h|h
    ·rw[h]at GR;exact absurd GR.1 (by simp)
    ·exact GR.2 h
   have FC:(pre.length:Int)<M:=by
    simp only[Bool.or_eq_false_iff,decide_eq_false_iff_not]at GR;omega
   obtain⟨f1,f2⟩:=hZ au;have rz:∀L,kL prog 35 [.d (.sl (s.Code.map λy=> [D.v (.int .u8 y)])),iD ((Ms pre.length).Frames[(Ms pre.length).Frames.length-1]?.getD aG.zero).At] L (zQ (jL s.Code ((Ms pre.length).Frames[(Ms pre.length).Frames.length-1]?.getD aG.zero).At)):=λL=>(hc (Ax (Ms pre.length))).ok L
   have g1:aM .i64 ((((Ms pre.length).Frames.length:Nat):Int)-1):=by rw[aU];omega
   have g2:(1:Int)<=((Ms pre.length).Frames.length:Nat):=by omega
   have g3:(Ms pre.length).Frames.length-1<(Ms pre.length).Frames.length:=by omega
   have g4:(pre.length+1) *16<=140737488355328:=by omega
   simp[g3]at rz;simp[-cB,List.filter,GR];refine av.ES [Q3,Q3,Q3,Q3,Q3,Q3,Q3,Q3,Q3,Q3,Q3,Q3,Q3,Q3,arH,arH,none,none,arG,arG] [zQ (jL s.Code (Ax (Ms pre.length)))] aS (by kernel_rfl) ?_;simp[-cB,Ax,rz,g1,g2,g3,g4,oq,K5,UO,List.filter];omega
 ·rintro⟨hH,hn⟩;simp at hn;omega
theorem RB(s:al)(w:aj)(r:Int)(a:List Int)(env:dx)(ej:Int)(Ms:Nat→ae)(N:Nat)(hb:Pure prog 12 [.agg (s.enc.map .d),.agg (w.enc.map .d),iD r,.d (.sl (aA a)),.agg (env.enc.map .d)] (.agg ((Ms 0).enc.map .d)))
  (hp:∀i,i<N->Pure prog 14 [.agg (s.enc.map .d),.agg ((Ms i).enc.map .d),iD 4096] (.agg ((Ms (i+1)).enc.map .d)))
  (hd:∀i,i<N->(Ms i).de=false) (hN:(Ms N).de=true\/pE ej<=N) (hf:∀i,i<N->0<(Ms i).Frames.length/\(Ms i).Frames.length<=1000)
  (hc:∀i,Pure prog 39 [.d (.sl (gk s.Code)),iD i] (zQ (jL s.Code i))) (he:∀i,i<N->(jL s.Code (Ax (Ms i))).2.2=0):
  Pure prog 22 [.agg (s.enc.map .d),.agg (w.enc.map .d),iD r,.d (.sl (aA a)),.agg (env.enc.map .d),iD ej] (.d (.sl ((na s Ms (uS N ej)).map ai.enc))):=by
 have hm:(if 1024<ej then 1024 else ej)=pE ej:=by unfold pE;rw[Int.min_def];split<;>split<;>omega
 have rC:pE ej<=1024:=by unfold pE;omega
 unfold uS;generalize pE ej=M at *;refine rn func22 ?_;simp[-cB,f22];intro bs;refine pC hb ?_;simp[-cB];intro K6;obtain⟨K,hK⟩:∃K,K=min N M.toNat:=⟨_,rfl⟩
 rw[<-hK];refine av.weaken (Wk.C4 (t:=14) (h:=5300) (k:=2) (ty:=84) rfl (by simp[keys])) ?_;simp[-cB];refine av.cJ [5,6,13,14] K (λi=> [(14,.rv 5300)]) (λi=> [(5300,.row 84 2 (dd ((na s Ms i).map ai.enc))),(13,.box (K6 0+1) 50 ((Ms i).enc.map .d))]) (λ_=>True) (by rfl) (by simp[na]) ?_;intro i hi _;simp[-cB,hm,oq];rcases apg hi with au|rfl
 ·have h1:(i:Int)<M:=by omega
  have h2:=hd i (by omega);have hcb:(decide ((i:Int)<M)&&!(Ms i).de)=true:=by simp[h1,h2]
  obtain⟨f1,f2⟩:=hf i (by omega);have bV:=hp i (by omega);have ru:=he i (by omega);have g1:aM .i64 ((((Ms i).Frames.length:Nat):Int)-1):=by rw[aU];omega
  have g2:(1:Int)<=((Ms i).Frames.length:Nat):=by omega
  have g3:(Ms i).Frames.length-1<(Ms i).Frames.length:=by omega
  have g4:(i+1) *16<=140737488355328:=by omega
  have rz:∀L,kL prog 39 [.d (.sl (s.Code.map λy=> [D.v (.int .u8 y)])),iD ((Ms i).Frames[(Ms i).Frames.length-1]?.getD aG.zero).At] L (zQ (jL s.Code ((Ms i).Frames[(Ms i).Frames.length-1]?.getD aG.zero).At)):=λL=>(hc (Ax (Ms i))).ok L
  unfold Ax at ru;simp[g3]at rz ru;simp[-cB,hcb];refine av.ES [Q3,Q3,Q3,Q3,Q3,Q3,Q3,Q3,Q3,Q3,Q3,Q3,Q3,Q3,arH,arH,none,none,arG,arG] [zQ (jL s.Code (Ax (Ms i)))] aS (by kernel_rfl) ?_;simp[-cB,Ax,rz,g1,g2,g3,ru];intro bL;simp[-cB,ru,oq,g4];refine pC bV ?_;simp[-cB,K5,UO,Ax,g3,au]
 ·have hcb:(decide ((i:Int)<M)&&!(Ms i).de)=false:=by
   rcases apJ i N with h|h
   ·simp;omega
   ·rcases hN with hN|hN
    ·rw[show i=N by omega,hN];simp
    ·simp;omega
  simp[-cB,hcb]
theorem Ib(a:List ai)(ha:a.length<=1000000000000):Pure prog 21 [.d (.sl (a.map ai.enc)),.d (.sl (a.map ai.enc))] (oD true):=by
 refine rn func21 ?_;simp[-cB,f21];refine av.cJ [0,1,12,13] a.length (λi=> [(13,iD i)]) (λ_=> []) (λ_=>True) (by rfl) (by simp) ?_;intro i hi _;rcases apg hi with au|heq
 ·have bY:aM .i64 ((i:Int)+1):=by rw[aU];omega
  have dF:(i:Int)<a.length:=by omega
  simp[-cB,au,dF];refine av.bT [] aS (by kernel_rfl) (by rfl) ?_;simp[au,dF,bY]
 ·simp[heq]
theorem X5(a b:lS):Pure prog 23 [.agg (a.enc.map .d),.agg (b.enc.map .d)] (oD (decide (a.s9=b.s9)&&decide (a.Out.toList=b.Out.toList)&&decide (a.Value=b.Value)&&decide (a.jM=b.jM)&&decide (a.Fuel=b.Fuel))):=by
 refine rn func23 ?_;simp[-cB,f23]
theorem aaT(x:jw):List.take 15 (x.enc.map V.d)=x.B.Tables.enc.map V.d:=rfl
def oR(x:jw):al×Bool:=if 300<x.Fuel\/20<x.aF.length then(al.zero,false)else((fu x.B).1,(fu x.B).2==0&&cA x.B.Tables x.W)
theorem X6(x:jw)(hx:x.wf)(hz:∀l∈x.B.aO,iJ l<=30000000):Pure prog 18 [.agg (x.enc.map .d)] (.bA [.agg ((oR x).1.enc.map .d),oD (oR x).2]):=by
 have hb:=jw.aiK hx;have hw:=jw.ae6 hx;have hS:=Ic x.B hb (λh=>K7 hb h hz);by_cases h1:300<x.Fuel
 ·have e:oR x=(al.zero,false):=by unfold oR;rw[if_pos (.inl h1)]
  rw[e];refine rn func18 ?_;simp[-cB,f18];intro bs;simp[-cB,h1];rfl
 by_cases h2:20<x.aF.length
 ·have e:oR x=(al.zero,false):=by unfold oR;rw[if_pos (.inr h2)]
  rw[e];have h2i:(20:Int)<x.aF.length:=by omega
  refine rn func18 ?_;simp[-cB,f18];intro bs;simp[-cB,h1,h2i];rfl
 have e:oR x=((fu x.B).1,(fu x.B).2==0&&cA x.B.Tables x.W):=by unfold oR;rw[if_neg (by omega)]
 have h2i:¬(20:Int)<x.aF.length:=by omega
 have hR:(fu x.B).2=0->Pure prog 25 [.agg (x.B.Tables.enc.map .d),.agg (x.W.enc.map .d)] (oD (cA x.B.Tables x.W)):=by
  intro h0;obtain⟨uG,-⟩:=H8 (b:=x.B) (s:=(fu x.B).1) (Prod.ext rfl h0);unfold fE at uG;simp only[apb]at uG;have hf:=uG.1.1;exact RC x.B.Tables (cM.C5 hb) x.W hw (lh hf).2.1 (lh hf).1.2
 rw[e];generalize fu x.B=S at *;obtain⟨S,e0⟩:=S;simp only at hR hS⊢;generalize cA x.B.Tables x.W=rb at *;refine rn func18 ?_;simp[-cB,f18];intro bs;simp[-cB,h1,h2i];refine pC hS ?_;simp[-cB];intro bL;by_cases h0:e0=0
 ·have hR':=λL=>(hR h0).ok L
  subst h0;refine av.aT [Q0,Q0,Q0,Q0,Q0,Q0,Q0,Q0,Q0,Q0,Q3,none,arF] [oD rb] aS (by kernel_rfl) ?_;simp[-cB,hR',aaT]
 ·have xR:(e0==0)=false:=by simpa using h0
  refine av.aT [Q0,Q0,Q0,Q0,Q0,Q0,Q0,Q0,Q0,Q0,Q3,none,arF] [oD rb] aS (by kernel_rfl) ?_;simp[-cB,xR];exact λh=>(h0 h).elim
theorem JR(n:Int):Pure prog 50 [iD n] (.agg ((ax.mk 1 0 n ⟨#[]⟩ []).enc.map .d)):=by
 refine Pure.JS func50 rfl (by simp[f50]) ?_;simp only[f50];refine av.gW ?_;simp[-cB];intro bs;refine av.gW ?_;simp[-cB];refine av.weaken (Wk.pick [2] [2] (by rfl) (by decide) (by rfl)) ?_;refine av.weaken (s':=⟨[(2,.bp 2 0)],[(2,.box (bs 0+1) 107 ((ax.mk 1 0 n ⟨#[]⟩ []).enc.map .d))]⟩) (Wk.deep 2 (by rfl)) ?_;refine av.vF ?_;simp[-cB]
theorem C6{K:eX}{s:al}{Ms:Nat->ae}(h:∀i,gN K s (Ms i)=some (Ms (i+1))):∀n,iterM K s n (Ms 0)=some (Ms n)
 | 0=>rfl
 | n+1=>by rw[s8,C6 h n];simp[iterM,h]
theorem GS{K:eX}{s:al}{m m':ae}(h:gN K s m=some m')(hd:m.de=false):0<m.Frames.length/\(jL s.Code (Ax m)).2.2=0:=by
 unfold gN at h;rw[hd]at h;split at h
 ·cases ‹false=true›
 split at h
 ·rename_i f hf;split at h
  ·unfold sq at h;split at h
   ·cases h
   ·rename_i he;have hl:m.Frames≠ []:=by intro e;rw[e]at hf;cases hf
    have hp:=apV.2 hl;refine⟨hp,?_⟩;have:Ax m=f.At:=by
     unfold Ax;rw[arn]at hf;rw[hf];rfl
    rw[this];exact ap9 λhn=>he hn
  ·cases h
 ·cases h
theorem aaU{b:cM}{s:al}{w:aj}(hw:w.wf)(hs:fu b=(s,0))(H7:cA b.Tables w=true)(r:Int)(a:List Int)(env:dx)(F:Int)(hF:F≤1000000)(N:Nat)(hN:N≤10000)
  (h1:∀i,i<N->∃m,iterM (bN ⟨b,env,max F 0⟩) s i (qg s w r a env)=some m/\m.de=false) (m':ae) (h2:iterM (bN ⟨b,env,max F 0⟩) s N (qg s w r a env)=some m') (h3:m'.de=true):
  Pure prog 24 [.agg (s.enc.map .d),.agg (w.enc.map .d),iD r,.d (.sl (aA a)),.agg (env.enc.map .d),iD F] (.agg ((om w m'.Told).enc.map .d)):=by
 obtain⟨hf,hkw,aaV⟩:=K3 hw hs H7;obtain⟨Ms,X7,tL⟩:=K2 hs H7 (UL hw) r a env (max F 0) (by omega);have mC:=Xy env (max F 0) hs;have iy:=C6 λi=>(tL i).2
 rw[X7]at iy;rw[iy,anc]at h2;subst h2;have hb:=(aaV r a env).1;rw[<-X7]at hb;exact adP s w r a env F Ms N hb (λi hi=>KX mC (tL i).1 (by omega) Iff.rfl (tL i).2) (λi hi=>by
  obtain⟨m,e,hd⟩:=h1 i hi;rw[iy,anc]at e;rw[e];exact hd) h3
theorem traces{b:cM}{s:al}{w:aj}(hw:w.wf)(hs:fu b=(s,0))(H7:cA b.Tables w=true)(r:Int)(a:List Int)(env:dx):∃(Ms:Nat→ae) (N:Nat),(∀i,iterM (bN ⟨b,env,4096⟩) s i (qg s w r a env)=some (Ms i))∧(∀i,i < N→(Ms i).de=false)∧((Ms N).de=true∨N=1024)∧∀ej,
  Pure prog 20 [.agg (s.enc.map .d),.agg (w.enc.map .d),iD r,.d (.sl (aA a)),.agg (env.enc.map .d),iD ej] (.d (.sl ((na s Ms (uS N ej)).map ai.enc)))/\
  Pure prog 22 [.agg (s.enc.map .d),.agg (w.enc.map .d),iD r,.d (.sl (aA a)),.agg (env.enc.map .d),iD ej] (.d (.sl ((na s Ms (uS N ej)).map ai.enc))):=by
 obtain⟨hf,hkw,aaV⟩:=K3 hw hs H7;obtain⟨Ms,X7,tL⟩:=K2 hs H7 (UL hw) r a env 4096 (by omega);have mC:=Xy env 4096 hs;have iy:=C6 λi=>(tL i).2
 rw[X7]at iy;obtain⟨N,hN,hd,he⟩:∃N,N<=1024/\(∀i,i<N->(Ms i).de=false)/\((Ms N).de=true\/N=1024):=by
  by_cases h:∃i,i<=1024/\(Ms i).de=true
  ·obtain⟨i,h1,h2⟩:=h
   induction i using Nat.strongRecOn with
   | ind i ih=>
     by_cases h3:∃j,j<i/\(Ms j).de=true
     ·obtain⟨j,h4,h5⟩:=h3;exact ih j h4 (by omega) h5
     ·refine⟨i,h1,λj hj=>?_,.inl h2⟩;cases e:(Ms j).de with
      | false=>rfl
      | true=>exact(h3 ⟨j,hj,e⟩).elim
  ·refine⟨1024,api _,λj hj=>?_,.inr rfl⟩;cases e:(Ms j).de with
   | false=>rfl
   | true=>exact(h ⟨j,by omega,e⟩).elim
 have hb:=aaV r a env;rw[<-X7]at hb;refine⟨Ms,N,iy,hd,he,λej=>⟨?_,?_⟩⟩
 ·exact X4 s w r a env ej Ms N hb.1 (λi hi=>KX mC (tL i).1 (by omega) Iff.rfl (tL i).2) hd (he.imp id λh=>by unfold pE;omega)
   (λi hi=>⟨(GS (tL i).2 (hd i hi)).1,by have:=(tL i).1.fL;omega⟩) (λi=>FN s.Code i mC.hb (by have:=mC.hC;omega))
 ·exact RB s w r a env ej Ms N hb.2 (λi hi=>aaQ mC (tL i).1 (by omega) Iff.rfl (tL i).2) hd (he.imp id λh=>by unfold pE;omega)
   (λi hi=>⟨(GS (tL i).2 (hd i hi)).1,by have:=(tL i).1.fL;omega⟩) (λi=>N0 s.Code i mC.hb (by have:=mC.hC;omega)) (λi hi=>(GS (tL i).2 (hd i hi)).2)
set_option maxHeartbeats 8000000
set_option maxRecDepth 40000
def Ie:aq:={ac1 with fP:=[⟨#[]⟩]}
def FV(n:Int):ax:= .mk 1 0 n ⟨#[]⟩ []
def saE:ax:= .mk 6 10 0 ⟨#[]⟩ [FV 1,FV 2]
def SE:an:= .mk 1 0 ⟨#[]⟩ [saE] [] []
def FW:cM:=⟨Ie,[[SE,ET]]⟩
def Ig:al:=(fu FW).1
theorem N5:fu FW=(Ig,0):=Prod.ext rfl (by kernel_rfl)
theorem X8:Ie.wf:=by
 unfold Ie ac1 aq.wf;simp[aq.zero,bg.wf,bg.zero,aU];decide
theorem ae7:SE.wf:=by
 unfold SE saE FV an.wf;simp[ax.wf,ax.wo,an.wo,aU];decide
theorem X9:FW.wf:=by
 unfold FW cM.wf;refine⟨X8,by decide,?_⟩;intro l hl;simp at hl;subst hl;refine⟨by decide,?_⟩;intro y hy;simp at hy;rcases hy with rfl|rfl
 ·exact ae7
 ·exact aaW
theorem aaX:Pure prog 27 [.agg (FW.enc.map .d)] (.bA [.agg (Ig.enc.map .d),iD 0]):=by
 have h:=Ic FW X9 (λh=>K7 X9 h (by intro l hl;simp[FW]at hl;subst hl;decide+kernel));rw[N5]at h;exact h
def tM:aj:=⟨[],[0,2,0],[0,0,1],[0,0,0],[0,0,0],[],[],1,0,0,0,0,0⟩
theorem ae8:aaY Ie=tM:=by kernel_rfl
theorem ae9:Pure prog 29 [.agg (Ie.enc.map .d)] (.agg (tM.enc.map .d)):=ae8 ▸ Ya Ie X8 (by decide) (by decide)
theorem N6:cA FW.Tables tM=true:=by kernel_rfl
theorem Yb:tM.wf:=by
 unfold tM aj.wf;simp[aU];unfold aM;decide
def saI(F:Int)(i:Nat):Option ae:=iterM (bN ⟨FW,Bc,max F 0⟩) Ig i (qg Ig tM 0 [] Bc)
def saC(F:Int)(N:Nat)(K:ae→Bool):Bool:=((List.range N).all fun i=>match saI F i with
  | some m=>!m.de
  | none=>false)&&match saI F N with
  | some m=>m.de&&K m
  | none=>false
theorem Yc{F:Int}{N:Nat}{K:ae->Bool}(h:saC F N K=true)(hF:F<=1000000)(hN:N<=10000):∃m:ae,K m=true/\Pure prog 24 [.agg (Ig.enc.map .d),.agg (tM.enc.map .d),iD 0,.d (.sl (aA [])),.agg (Bc.enc.map .d),iD F] (.agg ((om tM m.Told).enc.map .d)):=by
 unfold saC at h;simp only[apb,apd,apS]at h;obtain⟨h1,h2⟩:=h;split at h2
 ·rename_i m hm;simp only[apb]at h2;refine⟨m,h2.2,aaU Yb N5 N6 0 [] Bc F hF N hN (λi hi=>?_) m hm h2.1⟩;have:=h1 i hi;split at this
  ·rename_i m' mE;exact⟨m',mE,by simpa using this⟩
  ·cases this
 ·cases h2
theorem sa9:saC 9 6 (λm=>decide (m.Told.s9=0)&&decide (m.Told.Out.toList=[51])&&decide (m.Told.Value=5)&&!m.Told.jM&&decide (m.Told.Fuel=2))=true:=by kernel_rfl
theorem sa1:saC 1 4 (λm=>decide (m.Told.s9=19))=true:=by kernel_rfl
theorem sa2:((List.range 2).all fun i=>match iterM (bN ⟨FW,Bc,4096⟩) Ig i (qg Ig tM 0 [] Bc)with
  | some m=>!m.de
  | none=>false)=true:=by kernel_rfl
theorem aaZ:∃l:List ai,l.length=2/\Pure prog 20 [.agg (Ig.enc.map .d),.agg (tM.enc.map .d),iD 0,.d (.sl (aA [])),.agg (Bc.enc.map .d),iD 2] (.d (.sl (l.map ai.enc))):=by
 obtain⟨Ms,N,h1,h2,h3,h4⟩:=traces Yb N5 N6 0 [] Bc;refine⟨_,?_,(h4 2).1⟩;rw[oq];have h5:∀i,i<2->(Ms i).de=false:=by
  intro i hi;have:=apd.1 sa2 i (apS.2 hi);rw[h1 i]at this;simpa using this
 have:2<=N:=by
  rcases h3 with h|h
  ·refine ap9 λhn=>?_
   rw[h5 N (by omega)]at h;cases h
  ·omega
 unfold uS pE;omega
theorem JT{f:FuncId}{s:al}{w:aj}{r F:Int}{env:dx}{x:V}(h:Pure prog f [.agg (s.enc.map .d),.agg (w.enc.map .d),iD r,.d (.sl (aA [])),.agg (env.enc.map .d),iD F] x):
  Pure prog f [.agg (s.enc.map .d),.agg (w.enc.map .d),iD r,.d (.v (.slice none 0 0)),.agg (env.enc.map .d),iD F] x:=Pure.deep 0 h (by rfl) (by simp)
def GU(x:an):List D:=[.v (.int .i64 x.Kind),.v (.int .i64 x.aK),.v (.string x.Name),.sl (x.aF.map ax.enc),.v (.slice none 0 0),.v (.slice none 0 0)]
theorem UP:Pure prog 19 [] (oD true):=by
 obtain⟨m9,k9,r9⟩:=Yc sa9 (by omega) (by omega);obtain⟨m1,k1,r1⟩:=Yc sa1 (by omega) (by omega);obtain⟨tl,kl,rl⟩:=aaZ;refine Pure.JS func19 rfl (by simp[f19]) ?_;simp only[f19];refine av.gW ?_;simp[-cB];refine av.gW ?_;simp[-cB];intro bs;refine av.weaken (Wk.pick [0,1] [13,12,11,10,6,1] (by rfl) (by decide) (by rfl)) ?_;refine av.weaken (Wk.freeze 6 (ys:=[[.v (.string ⟨#[]⟩)]]) rfl) ?_;refine av.weaken (Wk.freeze 10 (ys:=[N7 0 false,N7 2 false,N7 0 true]) rfl) ?_;refine av.weaken (Wk.freeze 11 (ys:=[[.v (.int .i64 0)]]) rfl) ?_;refine av.weaken (Wk.freeze 12 (ys:=[[.v (.int .i64 0)]]) rfl) ?_;refine av.weaken (Wk.freeze 13 (ys:=[[.v (.int .i64 0)]]) rfl) ?_;refine av.weaken (s':=⟨[(0,oD false),(1,.bp 1 0)],[(1,.box (bs 5+1) 28 (Ie.enc.map .d))]⟩) (Wk.deep 6 (by rfl)) ?_;refine av.gW ?_;simp[-cB];have Am:=λL=>(JR 1).ok L
 have Cm:=λL=>(JR 2).ok L
 have hn5:=λL=>(JR 5).ok L
 refine av.SF [Q3,Q3,Q3,Q3,Q3,Q3,Q3,Q3,Q3,Q3,Q3,Q3,Q3,Q3,Q3,Q3,arH,none,none,arG] [19,21,24,26,27] [.agg ((FV 1).enc.map .d),.agg ((FV 2).enc.map .d),.d (.sl [(FV 1).enc,(FV 2).enc]),.d (.sl [saE.enc]),.agg ((FV 5).enc.map .d),.d (.sl [(FV 5).enc]),.d (.sl [GU SE,GU ET]),.d (.sl [[.sl [GU SE,GU ET]]]),.bA [.agg (Ig.enc.map .d),iD 0]] aS (by kernel_rfl) ?_;simp[-cB];have bV:=λL=>(Pure.deep 7 (args:=[.agg (Ie.enc.map .d++ .d (.sl [[.sl [GU SE,GU ET]]])::List.drop 16 (Ie.enc.map .d++ [.d (.v (.slice none 0 0))]))]) aaX (by rfl) (by rfl)).ok L
 repeat' (first|exact bV _|exact Am _|exact Cm _|exact hn5 _|exact C7 aa0 (by decide) (by decide) rfl (by simp) (by rfl) rfl (by simp[FV,ax.wH])|exact C7 aa1 (by decide) (by decide) rfl (by simp) (by rfl) rfl (by simp[GU])|exact C7 adQ (by decide) (by decide) rfl (by simp) (by rfl) rfl (by simp)|with_reducible refine And.intro ?_ ?_)
 intro bL;refine av.weaken (Wk.pick [0,1,2,3] [1,2] (by rfl) (by decide) (by rfl)) ?_;have e0:([iD 0,iD 0,iD 0]:List V)=Bc.enc.map .d:=rfl;have q9:=JT r9;have q1:=JT r1;have ql:=JT rl;have hT9:(om tM m9.Told).s9=0/\(om tM m9.Told).Out.toList=[51]/\(om tM m9.Told).Value=5/\(om tM m9.Told).jM=false/\(om tM m9.Told).Fuel=2:=by
  simp only[apb,decide_eq_true_eq,aqQ]at k9;obtain⟨⟨⟨⟨a1,a2⟩,a3⟩,a4⟩,a5⟩:=k9;unfold om;rw[if_neg (by rw[a1];simp)];exact⟨a1,a2,a3,a4,a5⟩
 have hT1:(om tM m1.Told).s9=19:=by
  have:m1.Told.s9=19:=by simpa using k1
  unfold om;rw[this];rfl
 generalize om tM m9.Told=T9 at *;generalize om tM m1.Told=T1 at *;obtain⟨t1,t2,t3,t4,t5⟩:=hT9;have Yd:=X5 T9 ⟨0,tM,⟨#[51]⟩,5,false,2⟩;rw[t1,t2,t3,t4,t5]at Yd;refine av.vF ?_;simp[-cB];refine pC ae9 ?_;simp[-cB];intro lJ;refine pC q9 ?_;simp[-cB];intro tJ;refine pC Yd ?_;simp[-cB];refine pG q1 ?_;simp[-cB,hT1];refine pG ql ?_;simp[-cB,kl]
theorem K8(s:al)(Ms:Nat->ae)(n k:Nat)(h:n<=k):(na s Ms k).take n=na s Ms n:=by
 unfold na;rw[<-List.map_take,List.take_range,aq1 h]
theorem N8(x:jw)(ej:Int)(hx:x.wf)(hz:∀l∈x.B.aO,iJ l<=30000000)(awk:Pure prog 19 [] (oD true)):Pure prog 6 [.agg (x.enc.map .d),iD ej] (oD true):=by
 have bV:=X6 x hx hz;have hw:=jw.ae6 hx;cases aN:(oR x).2 with
 | false=>
   rw[aN]at bV;generalize (oR x).1=s at *;refine rn func6 ?_;simp[-cB,Tryz.f6];intro bs;refine pC bV ?_;simp[-cB];intro bL;refine pC awk ?_;simp[-cB]
 | true=>
   obtain⟨s,e1,hs,H7⟩:∃s,(oR x).1=s/\fu x.B=(s,0)/\cA x.B.Tables x.W=true:=by
    unfold oR at aN⊢;split at aN
    ·cases aN
    ·rename_i h;rw[if_neg h];simp only[apb,beq_iff_eq]at aN;exact⟨_,rfl,Prod.ext rfl aN.1,aN.2⟩
   rw[aN,e1]at bV;obtain⟨Ms,N,-,-,-,ht⟩:=traces hw hs H7 x.qU x.aF x.Env;have h1:=(ht ej).1;have h2:=(ht ej).2;have h3:=(ht 20).1;have c1:uS N ej<=1024:=by unfold uS pE;omega
   have c2:uS N 20<=20:=by unfold uS pE;omega
   generalize uS N ej=k1 at *;generalize uS N 20=k2 at *;have s1:=Ib (na s Ms k1) (by rw[oq];omega);have s2:=Ib (na s Ms (min k1 k2)) (by rw[oq];omega);have t1:=K8 s Ms (min k1 k2) k1 (Nat.min_le_left _ _);have t2:=K8 s Ms (min k1 k2) k2 (Nat.min_le_right _ _);have l1:=oq s Ms k1;have l2:=oq s Ms k2;have l3:¬(1024:Int)<k1:=by omega
   generalize na s Ms (min k1 k2)=A at *;generalize na s Ms k1=A1 at *;generalize na s Ms k2=A2 at *;refine rn func6 ?_;simp[-cB,Tryz.f6];intro bs;refine pC bV ?_;simp[-cB];intro bL;refine pC h1 ?_;simp[-cB];refine pC h2 ?_;simp[-cB];refine pC s1 ?_;simp[-cB,l1,l3];refine pC h3 ?_;have SG:(if k2<k1 then(k2:Int)else(k1:Int))=((min k1 k2:Nat):Int):=by split<;>omega
   have m1:min k1 k2<=k1:=Nat.min_le_left _ _;have m2:min k1 k2<=k2:=Nat.min_le_right _ _;simp[-cB,l1,l2,SG];generalize min k1 k2=k at *;have ta:(k:Int)<=k1:=by omega
   have m2':(k:Int)<=k2:=by omega
   refine av.aT [Q0,Q0,Q0,Q0,Q0,Q0,Q0,Q0,Q0,Q0,Q0] [oD true,oD true] aS (by kernel_rfl) ?_;simp[-cB,l1,l2,m1,m2,ta,m2',<-List.map_take,t1,t2];exact⟨s2.ok _,awk.ok _⟩
theorem N9(x:jw)(hx:x.wf)(ej:Int)(hB:mZ [x.enc,[D.v (.int .i64 ej)]]<=1048576):Pure prog 6 [.agg (x.enc.map .d),iD ej] (oD true):=N8 x ej hx (RA (by simp[jw.enc]) hB) UP
end Go.Ab

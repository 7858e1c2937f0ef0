/-
 HK texts aoD aoE aoF aoG aoH am7 aoI am8 Ug Lok Lmv am9 Sh ana aoJ al4 aoK aoL aoM anb ane anf ang anh ani anj ank aoN,one behind Cb other.
-/
import Derived.Test.YtmhnopomnpgcjaaGreatDoorMg7
import Derived.Sort.Grow
import Derived.Deep.Draws
import Derived.Lib.LaidTab
import Derived.Shelf.LaysM
import Derived.Shelf.Strconv.Itoa3
import Derived.Test.YtmhnopomnpgcjaaGreatDoorProg
set_option linter.unusedSimpArgs false
set_option linter.unusedVariables false
namespace Go.Ab
open Go.Proofs Go.Proofs.Tryz
set_option maxHeartbeats 4000000
set_option maxRecDepth 20000
theorem ZX(l:List D):(l.map V.d).tail=l.tail.map V.d:=by cases l<;>rfl
@[simp] theorem ajZ(ks:List Nat)(l:List D):V.dK ks (l.map V.d).tail=true:=by rw[ZX];exact EV ks _
@[simp] theorem aix(h:Nat)(y:V)(l:List D):V.mq h y (l.map V.d).tail=(l.map V.d).tail:=by rw[ZX];exact vH h y _
@[simp] theorem akV(w:aj)(g:List Int):V.d (.sl (aA g))::(List.map V.d w.enc).tail=({w with aP:=g}:aj).enc.map V.d:=rfl
theorem QS(wb:Nat)(s:al)(F:Int)(m:ae)(i:ai)(S:List Int)(x n:Int)(w':aj)(aD:i.Op=14)(hS:m.Stack=S++ [x,n])(hl:S.length<=100000)(hn:m.Told.World.ah.length<=32768)(hk:s.Tables.aJ.length<=65536)(hm:m.Told.World.ah.length *s.Tables.aJ.length=m.Told.World.aJ.length)(uJ:m.Told.World.aJ.length<=100000000)(hv:mY s.Tables m.Told.World x i.Arg n=(w',0)):jK wb s F m i {m with Stack:=S,Told:={m.Told with World:=w'}}:=by
 have mB:=eZ wb s F m (S++ [x]) n (by rw[hS];simp) (by simp;omega);have hp:=fT wb s F {m with Stack:=S++ [x]} S x rfl (by omega);have fv:=Qe s.Tables m.Told.World hn hk hm uJ x i.Arg n;rw[hv]at fv;unfold jK bF at *;unfold pZ at hp;refine rX [] [5003,5004,5005] func143 ?_;simp[-cB,f143];intro bs bL;simp[-cB,aD];refine eD [5003,5004,5005] mB ?_;simp[-cB];refine av.eY aS (fF.m0 [Q3,Q3,Q3,Q3,Q3,Q3,Q0,none,Q3,Q3,Q3,arF,arF,arF,arI,none,arG] [.bA [.agg (w'.enc.map .d),iD 0]] (by kernel_rfl) ?_);simp[-cB];refine gx.intro (λ_=>fN.jk (s:=⟨_,_⟩) 5004 [5003,5004] [5005] rfl (hp) rfl rfl (by kernel_rfl) (by first|rfl|simp) (by simp) (by simp[db,aV.cg,V.cg]) (cE (by simp)) (by simp) (by simp)) ?_;simp[-cB];refine⟨fv.ok _,?_⟩;refine eD [] dt ?_;simp[-cB]
theorem QT(wb:Nat)(s:al)(F:Int)(m:ae)(i:ai)(S:List Int)(x n:Int)(w':aj)(e:Int)(he:e≠0)(aD:i.Op=14)(hS:m.Stack=S++ [x,n])(hl:S.length<=100000)(hn:m.Told.World.ah.length<=32768)(hk:s.Tables.aJ.length<=65536)(hm:m.Told.World.ah.length *s.Tables.aJ.length=m.Told.World.aJ.length)(uJ:m.Told.World.aJ.length<=100000000)(hv:mY s.Tables m.Told.World x i.Arg n=(w',e)):CW wb s F m i e:=by
 refine⟨{m with Stack:=S},?_⟩;have hc:=iM e he;have mB:=eZ wb s F m (S++ [x]) n (by rw[hS];simp) (by simp;omega);have hp:=fT wb s F {m with Stack:=S++ [x]} S x rfl (by omega);have fv:=Qe s.Tables m.Told.World hn hk hm uJ x i.Arg n;rw[hv]at fv;unfold bF at *;unfold pZ at hp;refine rX [] [5003,5004,5005] func143 ?_;simp[-cB,f143];intro bs bL;simp[-cB,aD];refine eD [5003,5004,5005] mB ?_;simp[-cB];refine av.eY aS (fF.m0 [Q3,Q3,Q3,Q3,Q3,Q3,Q0,none,Q3,Q3,Q3,arF,arF,arF,arI,none,arG] [.bA [.agg (w'.enc.map .d),iD e]] (by kernel_rfl) ?_);simp[-cB];refine gx.intro (λ_=>fN.jk (s:=⟨_,_⟩) 5004 [5003,5004] [5005] rfl (hp) rfl rfl (by kernel_rfl) (by first|rfl|simp) (by simp) (by simp[db,aV.cg,V.cg]) (cE (by simp)) (by simp) (by simp)) ?_;simp[-cB];refine⟨fv.ok _,?_⟩;refine ay.kQ [] rfl (hc) (by simp) rfl (by simp) (by kernel_rfl) (by first|rfl|simp) (by simp) (by simp) (by simp) ?_;simp
theorem UD(wb:Nat)(s:al)(F:Int)(m:ae)(i:ai)(S:List Int)(x:Int)(aD:i.Op=4)(hA:0<=i.Arg/\i.Arg<m.Told.World.aP.length)(hg:m.Told.World.aP.length<=100000)(hS:m.Stack=S++ [x])(hl:S.length<=100000):jK wb s F m i {m with Stack:=S,Told:={m.Told with World:={m.Told.World with aP:=m.Told.World.aP.set i.Arg.toNat x}}}:=by
 have hp:=fT wb s F m S x hS (by omega);have hc:=ia 5010 m.Told.World.aP (by omega);unfold jK bF at *;unfold pZ at hp;refine rX [] [5003,5004,5005] func143 ?_;simp[-cB,f143];intro bs bL;simp[-cB,aD];refine eD [] hc ?_;simp[-cB];have Cj:i.Arg.toNat<m.Told.World.aP.length:=by omega
 refine av.eY aS (fF.m0 [Q3,Q3,Q3,Q3,Q0,none,arF,none] [] (by kernel_rfl) ?_);simp[-cB];refine gx.intro (λ_=>fN.jk (s:=⟨_,_⟩) 5004 [5003,5004] [5005] rfl (hp) rfl rfl (by kernel_rfl) (by first|rfl|simp) (by simp) (by simp[db,aV.cg,V.cg]) (cE (by simp)) (by simp) (by simp)) ?_;simp[-cB,hA.1,Cj];refine ay.weaken (Wk.freeze 5010 (ty:=3) (k:=1) (ys:=aA (m.Told.World.aP.set i.Arg.toNat x)) (by rfl)) ?_;simp[-cB,V.fg];refine eD [] dt ?_;simp[-cB]
end Go.Ab
namespace Go.Ab
set_option maxHeartbeats 4000000
set_option maxRecDepth 20000
open Go.Proofs Go.Proofs.Tryz
theorem adp(l:List D)(a b:Nat)(x:V):List.take a (l.map V.d)++x::List.drop b (l.map V.d)=(l.take a).map V.d++x::(l.drop b).map V.d:=by simp
theorem Qf(h:Nat)(y:V)(l:List D)(a b:Nat)(x:V):V.mq h y (List.take a (l.map V.d)++x::List.drop b (l.map V.d))=List.take a (l.map V.d)++V.fg h y x::List.drop b (l.map V.d):=by
 rw[adp,Em,vH,V.mq,vH,<-adp]
theorem ZY(w:aj)(g:List Int):List.take 6 (w.enc.map V.d)++V.d (.sl (aA g))::List.drop 7 (w.enc.map V.d)=({w with bc:=g}:aj).enc.map V.d:=rfl
theorem QP(wb:Nat)(s:al)(F:Int)(m:ae)(i:ai)(aD:i.Op=33)(hA:0<=i.Arg/\i.Arg<m.Told.World.bc.length)(hg:m.Told.World.bc.length<=100000):jK wb s F m i {m with Told:={m.Told with World:={m.Told.World with bc:=m.Told.World.bc.set i.Arg.toNat 0}}}:=by
 have hc:=ia 5010 m.Told.World.bc (by omega);have Cj:i.Arg.toNat<m.Told.World.bc.length:=by omega
 unfold jK bF at *;refine rX [] [5003,5004,5005] func143 ?_;simp[-cB,f143];intro bs bL;simp[-cB,aD];refine eD [] hc ?_;simp[-cB,hA.1,Cj];refine ay.weaken (Wk.freeze 5010 (ty:=3) (k:=1) (ys:=aA (m.Told.World.bc.set i.Arg.toNat 0)) (by rfl)) ?_;simp[-cB,V.fg,Qf,ZY];refine eD [] dt ?_;simp[-cB]
theorem Rm(wb:Nat)(s:al)(F:Int)(m:ae)(i:ai)(S:List Int)(x:Int)(aD:i.Op=32)(hS:m.Stack=S++ [x])(hl:S.length<=100000)(hA:0<=i.Arg/\i.Arg<m.Told.World.bc.length)(hg:m.Told.World.bc.length<=100000):jK wb s F m i {m with Stack:=S,Told:={m.Told with World:={m.Told.World with bc:=m.Told.World.bc.set i.Arg.toNat (if x<1 then 1 else x)}}}:=by
 have hp:=eZ wb s F m S x hS (by omega);have hc:=ia 5010 m.Told.World.bc (by omega);have Cj:i.Arg.toNat<m.Told.World.bc.length:=by omega
 unfold jK bF at *;refine rX [] [5003,5004,5005] func143 ?_;simp[-cB,f143];intro bs bL;simp[-cB,aD];refine eD [5003,5004,5005] hp ?_;simp[-cB];refine eD [] hc ?_;simp[-cB,hA.1,Cj];refine ay.weaken (Wk.freeze 5010 (ty:=3) (k:=1) (ys:=aA (m.Told.World.bc.set i.Arg.toNat (if x<1 then 1 else x))) (by rfl)) ?_;simp[-cB,V.fg,Qf,ZY];refine eD [] dt ?_;simp[-cB]
theorem ZZ(l:List D)(a:Nat)(x:V):List.take a (l.map V.d)++ [x]=(l.take a).map V.d++ [x]:=by simp
@[simp] theorem aj0(ks:List Nat)(l:List D)(a:Nat)(x:V):V.dK ks (List.take a (l.map V.d)++ [x])=x.on ks:=by
 rw[ZZ,Hx,EV];simp[V.dK]
theorem Z0(h:Nat)(y:V)(l:List D)(a:Nat)(x:V):V.mq h y (List.take a (l.map V.d)++ [x])=List.take a (l.map V.d)++ [V.fg h y x]:=by
 rw[ZZ,Em,vH];simp[V.mq]
theorem age(f:aG)(g:List Int):List.take 3 (f.enc.map V.d)++ [V.d (.sl (aA g))]=({f with aL:=g}:aG).enc.map V.d:=rfl
theorem Uy(wb:Nat)(s:al)(F:Int)(m:ae)(i:ai)(Fr:List aG)(f:aG)(S:List Int)(x:Int)(aD:i.Op=6)(h:m.Frames=Fr++ [f])(CZ:Fr.length<=1000000)(hS:m.Stack=S++ [x])(hl:S.length<=100000)(hA:0<=i.Arg/\i.Arg<f.aL.length)(hg:f.aL.length<=100000):jK wb s F m i {m with Stack:=S,Frames:=Fr++ [{f with aL:=f.aL.set i.Arg.toNat x}]}:=by
 have hp:=fT wb s F m S x hS (by omega);have hc:=ia 5010 f.aL (by omega);have ht:=xv wb s F m Fr f h CZ;have Cj:i.Arg.toNat<f.aL.length:=by omega
 have lI:Fr.length<m.Frames.length:=by rw[h];simp
 have bm:m.Frames[Fr.length]?=some f:=tz h;have sI:m.Frames[Fr.length]'lI=f:=by rw[akC lI]at bm;exact ao9 bm
 unfold jK bF at *;unfold pZ at hp;refine rX [] [5003,5004,5005] func143 ?_;simp[-cB,f143];intro bs bL;simp[-cB,aD];refine ay.Wp [5003,5004,5005] rfl ht (by simp) rfl (by simp) rfl (by kernel_rfl) (by simp) (by simp) (by simp) ?_;simp[-cB,sI,lI];refine eD [] hc ?_;simp[-cB,lI];rw[sI,Ft h];have nA:∀z,cellAt (dd (List.map aG.enc Fr)++ [List.take 3 (List.map V.d f.enc)++ [V.rv 5010]]) Fr.length 3 z=V.rv 5010:=by
  intro z;have e:(dd (List.map aG.enc Fr)++ [List.take 3 (List.map V.d f.enc)++ [V.rv 5010]])[Fr.length]?=some (List.take 3 (List.map V.d f.enc)++ [V.rv 5010]):=by
   rw[ap6 (by simp[dd])];simp[dd]
  unfold cellAt;rw[e];rfl
 refine av.eY aS (fF.m0 [Q3,Q3,Q3,Q3,Q3,Q3,Q0,none,arF,none] [] (by kernel_rfl) ?_);simp[-cB,lI,hA.1,Cj,nA];refine gx.intro (λ_=>fN.jk (s:=⟨_,_⟩) 5004 [5003,5004] [5005] rfl (hp) rfl rfl (by kernel_rfl) (by first|rfl|simp) (by simp) (by simp[db,aV.cg,V.cg]) (cE (by simp)) (by simp) (by simp)) ?_;simp[-cB,lI,hA.1,Cj,nA];refine ay.weaken (Wk.freeze 5010 (ty:=3) (k:=1) (ys:=aA (f.aL.set i.Arg.toNat x)) (by rfl)) ?_;simp[-cB,V.fg,Z0,age];refine eD [] dt ?_;simp[-cB];rfl
def mn(o:Int):Prop:=o≠1/\o≠3/\o≠5/\o≠7/\o≠8/\o≠9/\o≠10/\o≠11/\o≠12/\o≠13/\o≠19/\o≠20
theorem adF(wb:Nat)(s:al)(F:Int)(m m':ae)(i:ai)(aD:mn i.Op)(h:jK wb s F m i m'):ja wb s F m i m':=by
 obtain⟨h1,h2,h3,h4,h5,h6,h7,h8,h9,eu,jP,oO⟩:=aD;unfold jK bF at h;unfold ja bF;refine rX [] [5003,5004,5005] func83 ?_;simp[-cB,f83];intro bs bL;simp[-cB,h1,h2,h3,h4,h5,h6,h7,h8,h9,eu,jP,oO];refine eD [5003,5004,5005] h ?_;simp
theorem adG(wb:Nat)(s:al)(F:Int)(m:ae)(i:ai)(e:Int)(aD:mn i.Op)(h:CW wb s F m i e):A7 wb s F m i e:=by
 obtain⟨h1,h2,h3,h4,h5,h6,h7,h8,h9,eu,jP,oO⟩:=aD;obtain⟨m',h⟩:=h;refine⟨m',?_⟩;unfold bF at h⊢;refine rX [] [5003,5004,5005] func83 ?_;simp[-cB,f83];intro bs bL;simp[-cB,h1,h2,h3,h4,h5,h6,h7,h8,h9,eu,jP,oO];refine ay.kQ [5003,5004,5005] rfl (h) (by simp) rfl (by simp) (by kernel_rfl) (by first|rfl|simp) (by simp) (by simp) (by simp) ?_;simp
theorem adI(wb:Nat)(s:al)(F:Int)(m:ae)(i:ai)(x:ByteArray)(aD:i.Op=21)(ht:Pure prog 78 [.agg (s.Tables.enc.map .d),iD i.Arg] (.d (.v (.string x))))(hl:m.Told.Out.size+x.size<=140737488355328):kC wb s F m i {m with Told:={m.Told with Out:=m.Told.Out++x}}:=by
 have hs:=P8 wb s F m x hl;unfold kC bF at *;refine rX [] [5003,5004,5005] func38 ?_;simp[-cB,f38];intro bs;simp[aD];refine av.Fs 9 [.d (.v (.string x))] aS (by rfl) (by kernel_rfl) ?_;simp[-cB,vI];refine⟨ht.ok _,?_⟩;refine eD [5003,5004,5005] hs ?_;simp
theorem adK(wb:Nat)(s:al)(F:Int)(m:ae)(i:ai)(S:List Int)(v:Int)(x:ByteArray)(aD:i.Op=22)(hS:m.Stack=S++ [v])(pM:S.length<=100000)(ht:Pure prog 79 [iD v] (.d (.v (.string x))))(hl:m.Told.Out.size+x.size<=140737488355328):kC wb s F m i {m with Stack:=S,Told:={m.Told with Out:=m.Told.Out++x}}:=by
 have hp:=eZ wb s F m S v hS (by omega);have hs:=P8 wb s F {m with Stack:=S} x hl;unfold kC bF at *;refine rX [] [5003,5004,5005] func38 ?_;simp[-cB,f38];intro bs;simp[aD];refine eD [5003,5004,5005] hp ?_;simp[-cB];refine pC ht ?_;simp[-cB];refine eD [5003,5004,5005] hs ?_;simp
theorem adJ(wb:Nat)(s:al)(F:Int)(m:ae)(i:ai)(x:ByteArray)(aD:i.Op=35)(ht:Pure prog 81 [.agg (s.Tables.enc.map .d),.agg (m.Told.World.enc.map .d)] (.d (.v (.string x))))(hl:m.Told.Out.size+x.size<=140737488355328):kC wb s F m i {m with Told:={m.Told with Out:=m.Told.Out++x}}:=by
 have hs:=P8 wb s F m x hl;unfold kC bF at *;refine rX [] [5003,5004,5005] func38 ?_;simp[-cB,f38];intro bs;simp[aD];refine av.Fs 13 [.d (.v (.string x))] aS (by rfl) (by kernel_rfl) ?_;simp[-cB,vI];refine⟨ht.ok _,?_⟩;refine eD [5003,5004,5005] hs ?_;simp
theorem adL(wb:Nat)(s:al)(F:Int)(m:ae)(i:ai)(S:List Int)(v:Int)(x:ByteArray)(aD:i.Op=23)(hS:m.Stack=S++ [v])(pM:S.length<=100000)(ht:Pure prog 80 [.agg (s.Tables.enc.map .d),iD v] (.d (.v (.string x))))(hl:m.Told.Out.size+x.size<=140737488355328):kC wb s F m i {m with Stack:=S,Told:={m.Told with Out:=m.Told.Out++x}}:=by
 have hp:=fT wb s F m S v hS (by omega);have hs:=TJ wb s F {m with Stack:=S} x hl;unfold kC bF at *;unfold pZ at hp;unfold ZP at hs;refine rX [] [5003,5004,5005] func38 ?_;simp[-cB,f38];intro bs;simp[aD];refine av.eY aS (fF.m0 [Q3,Q3,Q3,Q3,Q3,Q3,Q0,none,arF,none] [.d (.v (.string x))] (by kernel_rfl) ?_);simp[-cB];refine gx.intro (λ_=>fN.jk (s:=⟨_,_⟩) 5004 [5003,5004] [5005] rfl (hp) rfl rfl (by kernel_rfl) (by first|rfl|simp) (by simp) (by simp[db,aV.cg,V.cg]) (cE (by simp)) (by simp) (by simp)) ?_;simp[-cB];refine⟨ht.ok _,?_⟩;refine gx.intro (λ_=>fN.jk (s:=⟨_,_⟩) 5003 [5003] [5004,5005] rfl (hs) rfl rfl (by kernel_rfl) (by first|rfl|simp) (by simp) (by refine⟨by simp,λhx e=>?_,by simp⟩;obtain⟨x1,y1,rfl⟩:=Cr e;simp[db,aV.cg,V.cg,V.on]) (cE (by simp)) (by simp) (by simp)) ?_;simp[-cB]
theorem adM(wb:Nat)(s:al)(F:Int)(m:ae)(i:ai)(S:List Int)(v:Int)(x:ByteArray)(aD:i.Op=36)(hS:m.Stack=S++ [v])(pM:S.length<=100000)(ht:Pure prog 82 [.agg (s.Tables.enc.map .d),.agg (m.Told.World.enc.map .d),iD v] (.d (.v (.string x))))(hl:m.Told.Out.size+x.size<=140737488355328):kC wb s F m i {m with Stack:=S,Told:={m.Told with Out:=m.Told.Out++x}}:=by
 have hp:=fT wb s F m S v hS (by omega);have hs:=TJ wb s F {m with Stack:=S} x hl;unfold kC bF at *;unfold pZ at hp;unfold ZP at hs;refine rX [] [5003,5004,5005] func38 ?_;simp[-cB,f38];intro bs;simp[aD];refine av.eY aS (fF.m0 [Q3,Q3,Q3,Q3,Q3,Q3,Q3,Q3,Q3,Q3,Q3,Q3,Q0,none,arF,none] [.d (.v (.string x))] (by kernel_rfl) ?_);simp[-cB];refine gx.intro (λ_=>fN.jk (s:=⟨_,_⟩) 5004 [5003,5004] [5005] rfl (hp) rfl rfl (by kernel_rfl) (by first|rfl|simp) (by simp) (by simp[db,aV.cg,V.cg]) (cE (by simp)) (by simp) (by simp)) ?_;simp[-cB];refine⟨ht.ok _,?_⟩;refine gx.intro (λ_=>fN.jk (s:=⟨_,_⟩) 5003 [5003] [5004,5005] rfl (hs) rfl rfl (by kernel_rfl) (by first|rfl|simp) (by simp) (by refine⟨by simp,λhx e=>?_,by simp⟩;obtain⟨x1,y1,rfl⟩:=Cr e;simp[db,aV.cg,V.cg,V.on]) (cE (by simp)) (by simp) (by simp)) ?_;simp[-cB]
theorem Uw(wb:Nat)(s:al)(F:Int)(m:ae)(i:ai)(v e:Int)(he:e≠0)(aD:i.Op=7)(hv:og m.Told.World m.Env i.Arg=(v,e))(hw:m.Told.World.wf)(hn:m.Told.World.ah.length<=32768):A7 wb s F m i e:=by
 refine⟨m,?_⟩;have hc:=iM e he;have hs:=Ti m.Told.World hw hn m.Env i.Arg;rw[hv]at hs;unfold bF at *;refine rX [] [5003,5004,5005] func83 ?_;simp[-cB,f83];intro bs bL;simp[-cB,aD];refine av.bT [eI (v,e)] aS (by kernel_rfl) (by rfl) ?_;simp[-cB,hs.ok,eI];refine⟨hs.ok _,?_⟩;refine ay.kQ [] rfl (hc) (by simp) rfl (by simp) (by kernel_rfl) (by first|rfl|simp) (by simp) (by simp) (by simp) ?_;simp
theorem ace(wb:Nat)(s:al)(F:Int)(m:ae)(r:Int)(fL:32≤m.Frames.length):
  aE prog 74 [.bp 5003 0,iD r] (bF wb s F m) (λx L=>x= .ix (oY 17)/\L=bF wb s F m):=by
 unfold bF;refine rX [] [5003,5004,5005] func74 ?_;simp[-cB,f74];have P9:(32:Int)<=m.Frames.length:=by omega
 simp[-cB,fL,P9];refine ay.panic rfl rfl rfl ?_;simp[oY]
theorem XD(wb:Nat)(s:al)(F:Int)(m:ae)(i:ai)(r:Int)(aD:i.Op=26)(hA:0<=i.Arg)(hf:s.Tables.cV[i.Arg.toNat]?=some r)(fL:32<=m.Frames.length):NN wb s F m i 17:=by
 refine⟨m,?_⟩;have hc:=ace wb s F m r fL;obtain⟨hf1,hf2⟩:=apa.1 hf;unfold bF at *;refine rX [] [5003,5004,5005] func38 ?_;simp[-cB,f38];intro bs;simp[aD];refine av.Fs 11 [] aS (by rfl) (by kernel_rfl) ?_;simp[-cB,hf1,hf2,vI];refine⟨hA,?_⟩;refine ay.kQ [5003,5004,5005] rfl (hc) (by simp) rfl (by simp) (by kernel_rfl) (by first|rfl|simp) (by simp) (by simp) (by simp) ?_;simp
def Jl(t:aq)(x:Int):Bool:=decide (0<x)&&(decide (x<t.az.length)&&(t.az[x.toNat]?.getD bg.zero).Room)
theorem lB(wb:Nat)(s:al)(F:Int)(m:ae)(x:Int):
  aE prog 252 [.bp 5003 0,iD x] (bF wb s F m) (λr L=>r= .ret (oD (Jl s.Tables x))/\L=bF wb s F m):=by
 unfold Jl bF;by_cases h1:0<x
 ·by_cases h2:x<s.Tables.az.length
  ·have h3:x.toNat<s.Tables.az.length:=by omega
   have h4:0<=x:=by omega
   refine rX [4] [5003,5004,5005] func252 ?_;simp[-cB,f252,h1,h2,h3,h4]
  ·refine rX [4] [5003,5004,5005] func252 ?_;simp[-cB,f252,h1,h2]
 ·refine rX [4] [5003,5004,5005] func252 ?_;simp[-cB,f252,h1]
set_option maxHeartbeats 200000
set_option maxRecDepth 512
section
variable {P : Program} {n : Nat} {ops : Array Oper} {s : St} {Q : AX -> St -> Prop}
theorem ay.AT{o:Oper}{rest:List Oper}(jC:fq ops s o=some (some true))(hu:nI s o.op.operands.toList)(k:ay P n ops (⟨o.dst,o.op,o.type,o.pos,o.after,none⟩::rest) (td s o) Q):ay P n ops (o::rest) s Q:=by
 intro fo m0 w0 m a w st g;have hw:=nH g jC;have h:=k fo m0 w0 m a w st (g.td hu);unfold wpListIn at h⊢;rw[if_pos hw];rw[if_pos (by simp[Region.wanted])]at h;exact h
theorem ay.skip{o:Oper}{rest:List Oper}(jC:fq ops s o=some (some false))(hd:∀d,o.dst=some d->d<n)(k:ay P n ops rest (s.put o.dst (.gd false .any)) Q):ay P n ops (o::rest) s Q:=
 ay.guarded jC hd (λh=>by cases h) k
end
theorem Ch.last{nx:List Int}{n:Nat}{c:Int}{l:List Int}(h:Ch nx n c l):(match l.getLast? with|some y=>aH nx y|none=>c)=0:=by
 induction h with
 | nil=>rfl
 | @cons c l h t ih=>
   rw[arv];cases hl:l.getLast? with
   | none=>
     rw[hl]at ih;simpa using ih
   | some y=>
     rw[hl]at ih;simpa using ih
theorem ec.Wv{t:Tree}{ls:Int->List Int}(h:ec t t.bn.length ls):po t=true:=by
 unfold po;have iZ:=h.pos;simp only[apb,decide_eq_true_eq,apd,apS];refine⟨⟨⟨⟨⟨⟨by omega,h.lc⟩,h.ln⟩,h.p0⟩,h.c0⟩,h.n0⟩,λk hk=>?_⟩;have hx:1<=(k:Int)+1/\(k:Int)+1<t.bn.length:=by omega
 generalize (k:Int)+1=x at hx;have wq:=h.up x hx.1 hx.2;have mh:=h.ch x hx.1 hx.2;have Iu:=h.kids hx;unfold su;simp only[apb,aqQ,aqA,decide_eq_false_iff_not,Bool.not_eq_false',aql];have SY:aH t.bn x≠0->(1<=aH t.bn x/\aH t.bn x<t.bn.length)/\x∈ls (aH t.bn x):=λe=>wq.resolve_left λe2=>e e2.1
 refine⟨⟨⟨⟨?_,?_⟩,?_⟩,?_⟩,?_⟩
 ·by_cases e:aH t.bn x=0
  ·exact .inl e
  ·exact .inr (aY.2 (SY e).1)
 ·by_cases e:aH t.bn x=0
  ·right;rcases wq with h1|h1
   ·exact h1.2
   ·omega
  ·exact .inl e
 ·rw[Bt,apb,apd,decide_eq_true_eq,Iu];refine⟨λy hy=>?_,mh.last⟩;unfold jm;simp only[apb,decide_eq_true_eq];refine⟨h.par x hx.1 hx.2 y hy,?_⟩;have h1:=ard.1 mh.nodup y;have h2:=List.count_pos_iff.2 hy;omega
 ·by_cases e:aH t.bn x=0
  ·exact .inl e
  ·right;obtain⟨h1,h2⟩:=SY e;rw[h.kids h1];have h3:=ard.1 (h.ch _ h1.1 h1.2).nodup x;have h4:=List.count_pos_iff.2 h2;omega
 ·by_cases e:bU t.bn.length (aH t.bn x)=true
  ·right;intro hm;have hu:=h.YW (aY.1 e);have:=(Ch.cons hx hu).nodup;exact(ap0.1 this).1 hm
  ·left;simpa using e
theorem dV{t:aq}{w:aj}:cA t w=true↔(w.aP.length=t.aP.length∧w.ah.length=t.az.length∧w.Flags.length=t.az.length∧w.aJ.length=t.az.length *t.aJ.length∧w.bc.length=t.eA.length∧po w.tree=true)∧
  ((∀x∈w.aP,-32768<=x/\x<=32767)/\(∀x∈w.aJ,-32768<=x/\x<=32767)/\(∀x∈w.Flags,0<=x/\x<=kX t.Flags-1)/\(∀x∈w.bc,0<=x/\x<=32767)/\(-32768<=w.Score/\w.Score<=32767)/\(0<=w.jx/\w.jx<=2147483647))/\
  ((0<=w.ij/\w.ij<=3)/\(0<=w.It/\w.It<=(t.az.length:Int)-1)/\(0<=w.Go/\w.Go<=12)/\tq t w=true):=by
 unfold cA;simp only[apb,decide_eq_true_eq,bB,cD,apd,gP];constructor
 ·rintro⟨⟨⟨⟨⟨⟨⟨h1,h2⟩,h3⟩,h4⟩,h5⟩,h6⟩,⟨⟨⟨⟨⟨h7,h8⟩,h9⟩,eu⟩,jP⟩,oO⟩⟩,⟨⟨⟨gK,Ci⟩,oP⟩,lj⟩⟩;exact⟨⟨h1,h2,h3,h4,h5,h6⟩,⟨h7,h8,h9,eu,jP,oO⟩,⟨gK,Ci,oP,lj⟩⟩
 ·rintro⟨⟨h1,h2,h3,h4,h5,h6⟩,⟨h7,h8,h9,eu,jP,oO⟩,⟨gK,Ci,oP,lj⟩⟩;exact⟨⟨⟨⟨⟨⟨⟨h1,h2⟩,h3⟩,h4⟩,h5⟩,h6⟩,⟨⟨⟨⟨⟨h7,h8⟩,h9⟩,eu⟩,jP⟩,oO⟩⟩,⟨⟨⟨gK,Ci⟩,oP⟩,lj⟩⟩
theorem Fu{p:Int->Prop}{l:List Int}{i:Nat}{v:Int}(h:∀x∈l,p x)(hv:p v):∀x∈l.set i v,p x:=by
 intro x hx;rcases ars hx with hx|hx
 ·exact h x hx
 ·rw[hx];exact hv
section
variable {t : aq} {w : aj}
theorem R4(h:cA t w=true)(v:Int)(hv: -32768<=v/\v<=32767):cA t {w with Score:=v}=true:=by
 obtain⟨a,⟨b1,b2,b3,b4,b5,b6⟩,c⟩:=dV.1 h;exact dV.2 ⟨a,⟨b1,b2,b3,b4,hv,b6⟩,c⟩
theorem Ww(h:cA t w=true)(v:Int):cA t {w with cL:=v}=true:=by
 obtain⟨a,b,c⟩:=dV.1 h;exact dV.2 ⟨a,b,c⟩
theorem Jm(h:cA t w=true)(v:Int)(hv:0<=v/\v<=3):cA t {w with ij:=v}=true:=by
 obtain⟨a,b,c1,c⟩:=dV.1 h;exact dV.2 ⟨a,b,hv,c⟩
theorem acf(h:cA t w=true)(v:Int)(hv:0<=v/\v<=12):cA t {w with Go:=v}=true:=by
 obtain⟨a,b,c1,c2,c3,c4⟩:=dV.1 h;exact dV.2 ⟨a,b,c1,c2,hv,c4⟩
theorem MP(h:cA t w=true)(i:Nat)(v:Int)(hv: -32768<=v/\v<=32767):cA t {w with aP:=w.aP.set i v}=true:=by
 obtain⟨⟨a1,a⟩,⟨b1,b⟩,c⟩:=dV.1 h;exact dV.2 ⟨⟨by simpa using a1,a⟩,⟨Fu b1 hv,b⟩,c⟩
theorem Eo(h:cA t w=true)(i:Nat)(v:Int)(hv:0<=v/\v<=32767):cA t {w with bc:=w.bc.set i v}=true:=by
 obtain⟨⟨a1,a2,a3,a4,a5,a6⟩,⟨b1,b2,b3,b4,b⟩,c⟩:=dV.1 h;exact dV.2 ⟨⟨a1,a2,a3,a4,by simpa using a5,a6⟩,⟨b1,b2,b3,Fu b4 hv,b⟩,c⟩
theorem R5(h:cA t w=true)(i:Nat)(v:Int)(hv: -32768<=v/\v<=32767):cA t {w with aJ:=w.aJ.set i v}=true:=by
 obtain⟨⟨a1,a2,a3,a4,a⟩,⟨b1,b2,b⟩,c⟩:=dV.1 h;exact dV.2 ⟨⟨a1,a2,a3,by simpa using a4,a⟩,⟨b1,Fu b2 hv,b⟩,c⟩
theorem R6(h:cA t w=true)(i:Nat)(v:Int)(hv:0<=v/\v<=kX t.Flags-1):cA t {w with Flags:=w.Flags.set i v}=true:=by
 obtain⟨⟨a1,a2,a3,a⟩,⟨b1,b2,b3,b⟩,c⟩:=dV.1 h;exact dV.2 ⟨⟨a1,a2,by simpa using a3,a⟩,⟨b1,b2,Fu b3 hv,b⟩,c⟩
theorem Z1(h:cA t w=true)(x p n:Int):cA t (mY t w x p n).1=true:=by
 unfold mY;split
 ·split
  ·rename_i hi;unfold gP bB at hi;simp only[apb,decide_eq_true_eq]at hi;exact R5 h _ _ hi
  ·exact h
 ·exact h
theorem acg{l:List Int}{x:Int}(h:0<=x/\x<l.length):aB l x∈l:=by
 unfold aB;rw[akC (by omega)];exact apk _
theorem ach{n f k:Nat}(hf:f<k)(hv:n<2^k)(hb:n / 2^f % 2=0):n+2^f<2^k:=by
 obtain⟨d,rfl⟩:∃d,k=f+1+d:=⟨k-(f+1),by omega⟩
 have h2:2^(f+1+d)=2^f *(2 *2^d):=by rw[Nat.pow_add,Nat.pow_succ,Nat.mul_assoc]
 rw[h2]at hv⊢;have hpf:0<2^f:=Nat.pow_pos (by decide);have hq:n / 2^f<2 *2^d:=Nat.div_lt_of_lt_mul hv;have hm:=Nat.div_add_mod n (2^f);have hr:=Nat.mod_lt n hpf;generalize 2^f=P at *;generalize n / P=q at *;have h3:P *(q+1+1)<=P *(2 *2^d):=Nat.mul_le_mul_left _ (by omega);rw[Nat.mul_add,Nat.mul_add]at h3;omega
theorem aci{n f:Nat}(hb:n / 2^f % 2=1):2^f<=n:=by
 have hm:=Nat.div_mul_le_self n (2^f);have hq:1<=n / 2^f:=by revert hb;generalize n / 2^f=q;omega
 have h3:=apu (2^f) hq;rw[aqC]at h3;exact apR h3 hm
theorem Jo(h:cA t w=true)(x f:Int)(on:Bool)(hf:0<=f/\f<t.Flags)(lj:t.Flags<=16):cA t (eb w x f on).1=true:=by
 unfold eb;split
 ·rename_i ha;simp only;split
  ·exact h
  ·rename_i bR;obtain⟨⟨a1,a2,a3,a⟩,⟨b1,b2,b3,b⟩,c⟩:=dV.1 h;have hx:bU w.ah.length x=true:=by
    unfold cz at ha;split at ha
    ·assumption
    ·omega
   have zK:=aY.1 hx;have hg:=b3 _ (acg (l:=w.Flags) (x:=x) (by omega));have Yj:kX t.Flags=((2^t.Flags.toNat:Nat):Int):=by
    unfold kX;rw[aq1 (by omega)];simp
   refine R6 h _ _ ?_;rw[Yj]at hg⊢;obtain⟨n,hn⟩:∃n:Nat,aB w.Flags x=n:=⟨(aB w.Flags x).toNat,by omega⟩
   have hp:0<2^f.toNat:=Nat.pow_pos (by decide);have au:n<2^t.Flags.toNat:=by
    have h1:=hg.2;rw[hn]at h1;generalize 2^t.Flags.toNat=K at *;omega
   have hdiv:((n:Int) / ((2^f.toNat:Nat):Int)) % 2=((n / 2^f.toNat % 2:Nat):Int):=by simp
   cases on with
   | true=>
     simp only[if_true];have Cm:cU w x f.toNat=false:=by simpa using bR
     unfold cU at Cm;rw[hx,ap1,decide_eq_false_iff_not,hn,hdiv]at Cm;have h1:=ach (f:=f.toNat) (k:=t.Flags.toNat) (by omega) au (by omega);rw[hn];generalize 2^t.Flags.toNat=K at *;generalize 2^f.toNat=P at *;omega
   | false=>
     simp only[apH,if_false];have Cm:cU w x f.toNat=true:=by simpa using bR
     unfold cU at Cm;rw[hx,ap1,decide_eq_true_eq,hn,hdiv]at Cm;have h1:=aci (n:=n) (f:=f.toNat) (by omega);rw[hn];generalize 2^t.Flags.toNat=K at *;generalize 2^f.toNat=P at *;omega
 ·exact h
def Wx(t:aq)(par:List Int):Prop:=∀k:Int,1<=k->k<t.az.length->(bx t k).Room=true->aH par k=0
theorem Ae:tq t w=true↔Wx t w.ah/\(bx t (dj w.tree 1)).Room=true:=by
 unfold tq Wx;simp only[apb,apd,apS,aqQ,aqA,decide_eq_false_iff_not,aql];refine and_congr_left λ_=>⟨λh k h1 h2 h3=>?_,λh k hk=>?_⟩
 ·have:=h (k.toNat-1) (by omega);rw[show((k.toNat-1:Nat):Int)+1=k by omega]at this;rcases this with h4|h4
  ·rw[h3]at h4;cases h4
  ·exact h4
 ·cases hr:(bx t ((k:Int)+1)).Room with
  | false=>exact .inl rfl
  | true=>exact .inr (h _ (by omega) (by omega) hr)
theorem zL{x:Int}:da t x=true↔1<=x/\x<t.az.length/\(bx t x).Room=true:=by
 unfold da;simp only[apb,decide_eq_true_eq,and_assoc]
theorem Jp{p:aj×Int}(h1:da t (dj p.1.tree 1)=true->p.2=0->cA t p.1=true)(h2:(pQ t p).2=0):cA t (pQ t p).1=true:=by
 unfold pQ at h2⊢;split
 ·rename_i hc;rw[if_pos hc]at h2;simp at h2
 ·rename_i hc;rw[if_neg hc]at h2;refine h1 ?_ h2;cases hr:da t (dj p.1.tree 1)with
  | true=>rfl
  | false=>exact(hc ⟨h2,hr⟩).elim
theorem Jq(h:cA t w=true){w':aj}(e:w'={w with ah:=w'.ah,Child:=w'.Child,Next:=w'.Next})(hl:w'.ah.length=w.ah.length){ls:Int->List Int}(hn:ec w'.tree w'.ah.length ls)(hp:Wx t w'.ah)(vY:da t (dj w'.tree 1)=true):cA t w'=true:=by
 obtain⟨⟨a1,a2,a3,a4,a5,a6⟩,b,⟨c1,c2,c3,c4⟩⟩:=dV.1 h;have hN:po w'.tree=true:=ec.Wv hn;have hP:tq t w'=true:=Ae.2 ⟨hp,(zL.1 vY).2.2⟩;rw[e]at hN hP⊢;exact dV.2 ⟨⟨a1,by rw[hl];exact a2,a3,a4,a5,hN⟩,b,⟨c1,c2,c3,hP⟩⟩
theorem LY(w:aj)(x:Int):cx w x={w with ah:=(cx w x).ah,Child:=(cx w x).Child,Next:=(cx w x).Next}:=rfl
theorem Qg(w:aj)(x to:Int):vp w x to={w with ah:=(vp w x to).ah,Child:=(vp w x to).Child,Next:=(vp w x to).Next}:=rfl
theorem Qh(h:cA t w=true)(aN:iG t w)(x:Int)(h2:(iH t w x).2=0):cA t (iH t w x).1=true:=by
 unfold iH at h2⊢;split
 ·rename_i hc;rw[if_pos hc]at h2;simp at h2
 ·rename_i hc;rw[if_neg hc]at h2;refine Jp (λvY he=>?_) h2;unfold fB at he vY⊢;split
  ·rename_i hx;rw[if_pos hx]at vY;have zK:=aY.1 hx;have hlen:(cx w x).ah.length=w.ah.length:=qw w x;have hn:ec (cx w x).tree (cx w x).ah.length (λu=>if u=aH w.tree.bn x then(bw w.tree u).erase x else bw w.tree u):=by
    rw[vn,hlen];exact aN.nest.leave zK
   refine Jq h (LY w x) hlen hn (λk k1 k2 k3=>?_) vY;show aH (w.ah.set x.toNat 0) k=0;rw[lu (by omega)];split
   ·rfl
   ·exact(Ae.1 aN.pl).1 k k1 k2 k3
  ·exact h
theorem Wy(h:cA t w=true)(aN:iG t w)(x to:Int)(h2:(kY t w x to).2=0):cA t (kY t w x to).1=true:=by
 unfold kY at h2⊢;split
 ·rename_i hc;rw[if_pos hc]at h2;simp at h2
 ·rename_i hc;rw[if_neg hc]at h2;refine Jp (λvY he=>?_) h2;unfold kZ at he vY⊢;split
  ·rename_i hx;rw[if_pos hx]at vY he;rw[apb]at hx;have zK:=aY.1 hx.1;have ZS:=aY.1 hx.2;split
   ·exact h
   ·rename_i hm;rw[if_neg hm]at vY;have hlen:(vp w x to).ah.length=w.ah.length:=by
     show((cx w x).ah.set x.toNat to).length=_;rw[aqN];exact qw w x
    have hn:=aN.nest.move zK ZS hm;rw[<-vn,<-IZ,<-hlen]at hn;refine Jq h (Qg w x to) hlen hn (λk k1 k2 k3=>?_) vY;show aH (((w.ah.set x.toNat 0)).set x.toNat to) k=0;have hT:=aN.hT;by_cases Iu:k=x
    ·subst Iu;exact(hc (zL.2 ⟨k1,k2,k3⟩)).elim
    ·rw[lu (by rw[aqN];omega),if_neg Iu,lu (by omega),if_neg Iu];exact(Ae.1 aN.pl).1 k k1 k2 k3
  ·exact h
end
theorem TT{w w1:aj}(hw:w.wf){ls:Int->List Int}(hn:ec w1.tree w1.ah.length ls)(hlen:w1.ah.length=w.ah.length)(e:w1={w with ah:=w1.ah,Child:=w1.Child,Next:=w1.Next}):w1.wf:=by
 have l0:=aj.fX hw;have lc:w1.Child.length=w1.ah.length:=hn.lc;have ln:w1.Next.length=w1.ah.length:=hn.ln;have small:∀y:Int,y=0\/(1<=y/\y<w1.ah.length)->aM .i64 y:=by intro y hy;rw[aU];omega
 have oe:∀x:Int,0<=x->x<w1.ah.length->aH w1.ah x=0\/(1<=aH w1.ah x/\aH w1.ah x<w1.ah.length):=by
  intro x a b;by_cases h0:x=0
  ·subst h0;exact .inl hn.p0
  ·rcases hn.up x (by omega) b with h|h
   ·exact .inl h.1
   ·exact .inr h.1
 have ab4:∀x:Int,0<=x->x<w1.ah.length->aH w1.Child x=0\/(1<=aH w1.Child x/\aH w1.Child x<w1.ah.length):=by
  intro x a b;by_cases h0:x=0
  ·subst h0;exact .inl hn.c0
  ·exact(hn.ch x (by omega) b).head
 have ab5:∀x:Int,0<=x->x<w1.ah.length->aH w1.Next x=0\/(1<=aH w1.Next x/\aH w1.Next x<w1.ah.length):=by
  intro x a b;by_cases h0:x=0
  ·subst h0;exact .inl hn.n0
  ·rcases hn.up x (by omega) b with h|h
   ·exact .inl h.2
   ·exact(hn.ch _ h.1.1 h.1.2).Wm x h.2
 have Au:=hw;unfold aj.wf at Au;obtain⟨g1,g2,-,-,-,-,-,-,g3⟩:=Au;rw[e];unfold aj.wf;refine⟨g1,g2,by show w1.ah.length *8<=_;omega,λy hy=>?_,by show w1.Child.length *8<=_;omega,λy hy=>?_,by show w1.Next.length *8<=_;omega,λy hy=>?_,g3⟩
 ·obtain⟨i,a,b,rfl⟩:=xr hy;exact small _ (oe i a b)
 ·obtain⟨i,a,b,rfl⟩:=xr hy;exact small _ (ab4 i a (by have:(i:Int)<w1.Child.length:=b;omega))
 ·obtain⟨i,a,b,rfl⟩:=xr hy;exact small _ (ab5 i a (by have:(i:Int)<w1.Next.length:=b;omega))
theorem H5{t:aq}{w:aj}(aN:iG t w)(x:Int):(fB w x).1.wf/\(fB w x).1.ah.length=w.ah.length:=by
 unfold fB;split
 ·rename_i hx;have zK:=aY.1 hx;have hlen:(cx w x).ah.length=w.ah.length:=qw w x;have hn:ec (cx w x).tree (cx w x).ah.length (λu=>if u=aH w.tree.bn x then(bw w.tree u).erase x else bw w.tree u):=by
   rw[vn,hlen];exact aN.nest.leave zK
  exact⟨TT aN.wf hn hlen (LY w x),hlen⟩
 ·exact⟨aN.wf,rfl⟩
theorem NV{t:aq}{w:aj}(aN:iG t w)(x to:Int):(kZ w x to).1.wf/\(kZ w x to).1.ah.length=w.ah.length:=by
 unfold kZ;split
 ·rename_i hx;rw[apb]at hx;have zK:=aY.1 hx.1;have ZS:=aY.1 hx.2;split
  ·exact⟨aN.wf,rfl⟩
  ·rename_i hm;have hlen:(vp w x to).ah.length=w.ah.length:=by
    show((cx w x).ah.set x.toNat to).length=_;rw[aqN];exact qw w x
   have hn:=aN.nest.move zK ZS hm;rw[<-vn,<-IZ,<-hlen]at hn;exact⟨TT aN.wf hn hlen (Qg w x to),hlen⟩
 ·exact⟨aN.wf,rfl⟩
theorem MG{t:aq}{w:aj}(aN:iG t w)(hr:da t 1=false):(fB w 1).2=0/\da t (dj (fB w 1).1.tree 1)=false:=by
 have hT:=aN.hT;have hn3:=aN.hn;have hx:bU w.ah.length 1=true:=by rw[aY];omega
 unfold fB;rw[if_pos hx];refine⟨rfl,?_⟩;have hlen:(cx w 1).ah.length=w.ah.length:=qw w 1;have e:dj (cx w 1).tree 1=1:=by
  unfold dj ik;have e1:(cx w 1).tree.bn=(cx w 1).ah:=rfl;rw[e1,hlen];have h0:aH (cx w 1).ah 1=0:=by
   show aH (w.ah.set (1:Int).toNat 0) 1=0;rw[lu (by omega)];simp
  obtain⟨k,hk⟩:∃k,w.ah.length=k+2:=⟨w.ah.length-2,by omega⟩
  rw[hk,bI,if_pos (by rw[aY];omega),h0,bI,if_neg (by simp[bU])];rfl
 rw[e];exact hr
set_option maxHeartbeats 4000000
set_option maxRecDepth 20000
theorem py(w:aj)(hw:w.wf):Pure prog 131 [.agg (w.enc.map .d)] (iD (dj w.tree 1)):=by
 have ht:=IY w hw 1;refine rn func131 ?_;simp[-cB,f131];intro bs;refine pC ht ?_;simp[-cB]
theorem iN(t:aq)(x:Int):Jl t x=da t x:=by
 unfold Jl da bx;have:decide (0<x)=decide (1<=x):=by congr 1
 rw[this];cases decide (1<=x)<;>cases decide (x<t.az.length)<;>simp
def uv(wb:Nat)(s:al)(F:Int)(m:ae)(L:aI):Prop:=∃b cs,L=bF wb s F m++ [(4,.box b 34 cs)]
theorem R7(wb:Nat)(s:al)(F:Int)(m:ae)(S:List Int)(v n:Int)(hS:m.Stack=S++ [v,n])(hl:S.length≤100000)(hr:da s.Tables v=true):
  aE prog 214 [.bp 5003 0,iD 17] (bF wb s F m) (λr L=>r= .ret (.bA [.agg ((m.Told.World).enc.map .d),iD 12])/\uv wb s F {m with Stack:=S} L):=by
 have mB:=eZ wb s F m (S++ [v]) n (by rw[hS];simp) (by simp;omega);have hp:=eZ wb s F {m with Stack:=S++ [v]} S v rfl (by omega);have ny:=lB wb s F {m with Stack:=S} v;rw[iN,hr]at ny;unfold uv bF at *;refine rX [4,5] [5003,5004,5005,4] func214 ?_;simp[-cB,f214];intro bs bL;refine eD [5003,5004,5005] mB ?_;simp[-cB];refine eD [5003,5004,5005] hp ?_;simp[-cB];refine eD [5003,5004,5005] ny ?_;simp[-cB]
theorem Wz(wb:Nat)(s:al)(F:Int)(m:ae)(S:List Int)(v n:Int)(hS:m.Stack=S++ [v,n])(hl:S.length≤100000)(hr:da s.Tables v=false)(hw:vK m.Told.World)(w1:aj)(e1:Int)(he:e1≠0)(nu:kZ m.Told.World v n=(w1,e1)):
  aE prog 214 [.bp 5003 0,iD 17] (bF wb s F m) (λr L=>r= .ret (.bA [.agg ((w1).enc.map .d),iD e1])/\uv wb s F {m with Stack:=S} L):=by
 have mB:=eZ wb s F m (S++ [v]) n (by rw[hS];simp) (by simp;omega);have hp:=eZ wb s F {m with Stack:=S++ [v]} S v rfl (by omega);have ny:=lB wb s F {m with Stack:=S} v;rw[iN,hr]at ny;have hc:=Kl m.Told.World hw v n;rw[nu]at hc;unfold uv bF at *;refine rX [4,5] [5003,5004,5005,4] func214 ?_;simp[-cB,f214];intro bs bL;refine eD [5003,5004,5005] mB ?_;simp[-cB];refine eD [5003,5004,5005] hp ?_;simp[-cB];refine eD [5003,5004,5005] ny ?_;simp[-cB];refine pC hc ?_;simp[-cB];refine ay.ss rfl (g:=false) (x:=oD true) (λh=>by cases h) (by first|rfl|(simp;done)|(simp;exact he)) (by first|rfl|(simp;exact he)|(simp;rfl)) (by simp) (by simp) rfl ?_;simp[-cB];refine ay.skip (by first|rfl|(simp;done)|(simp;exact he)) (by simp) ?_;refine bq _ _ [] (by rfl) ?_;simp[-cB,he]
theorem WA(wb:Nat)(s:al)(F:Int)(m:ae)(S:List Int)(v n:Int)(hS:m.Stack=S++ [v,n])(hl:S.length≤100000)(hr:da s.Tables v=false)(hw:vK m.Told.World)(w1:aj)(Cu:w1.wf)(nu:kZ m.Told.World v n=(w1,0))(hB:da s.Tables (dj w1.tree 1)=true):
  aE prog 214 [.bp 5003 0,iD 17] (bF wb s F m) (λr L=>r= .ret (.bA [.agg ((w1).enc.map .d),iD 0])/\uv wb s F {m with Stack:=S} L):=by
 have mB:=eZ wb s F m (S++ [v]) n (by rw[hS];simp) (by simp;omega);have hp:=eZ wb s F {m with Stack:=S++ [v]} S v rfl (by omega);have ny:=lB wb s F {m with Stack:=S} v;rw[iN,hr]at ny;have hc:=Kl m.Told.World hw v n;rw[nu]at hc;have hh:=py w1 Cu;have yI:=lB wb s F {m with Stack:=S} (dj w1.tree 1);rw[iN,hB]at yI;generalize dj w1.tree 1=T at *;unfold uv bF at *;refine rX [4,5] [5003,5004,5005,4] func214 ?_;simp[-cB,f214];intro bs bL;refine eD [5003,5004,5005] mB ?_;simp[-cB];refine eD [5003,5004,5005] hp ?_;simp[-cB];refine eD [5003,5004,5005] ny ?_;simp[-cB];refine pC hc ?_;simp[-cB];refine pG hh ?_;simp[-cB];refine ay.AT (by first|rfl|(simp;rfl)) (by simp) ?_;simp[-cB];refine eD [5003,5004,5005] yI ?_;simp[-cB]
theorem Jr(wb:Nat)(s:al)(F:Int)(m:ae)(S:List Int)(v n:Int)(hS:m.Stack=S++ [v,n])(hl:S.length≤100000)(hr:da s.Tables v=false)(hw:vK m.Told.World)(w1:aj)(Cu:w1.wf)(nu:kZ m.Told.World v n=(w1,0))(hB:da s.Tables (dj w1.tree 1)=false):
  aE prog 214 [.bp 5003 0,iD 17] (bF wb s F m) (λr L=>r= .ret (.bA [.agg ((w1).enc.map .d),iD 12])/\uv wb s F {m with Stack:=S} L):=by
 have mB:=eZ wb s F m (S++ [v]) n (by rw[hS];simp) (by simp;omega);have hp:=eZ wb s F {m with Stack:=S++ [v]} S v rfl (by omega);have ny:=lB wb s F {m with Stack:=S} v;rw[iN,hr]at ny;have hc:=Kl m.Told.World hw v n;rw[nu]at hc;have hh:=py w1 Cu;have yI:=lB wb s F {m with Stack:=S} (dj w1.tree 1);rw[iN,hB]at yI;generalize dj w1.tree 1=T at *;unfold uv bF at *;refine rX [4,5] [5003,5004,5005,4] func214 ?_;simp[-cB,f214];intro bs bL;refine eD [5003,5004,5005] mB ?_;simp[-cB];refine eD [5003,5004,5005] hp ?_;simp[-cB];refine eD [5003,5004,5005] ny ?_;simp[-cB];refine pC hc ?_;simp[-cB];refine pG hh ?_;simp[-cB];refine ay.AT (by first|rfl|(simp;rfl)) (by simp) ?_;simp[-cB];refine eD [5003,5004,5005] yI ?_;simp[-cB]
theorem R8(wb:Nat)(s:al)(F:Int)(m:ae)(S:List Int)(v:Int)(hS:m.Stack=S++ [v])(hl:S.length≤100000)(hr:da s.Tables v=true):
  aE prog 214 [.bp 5003 0,iD 18] (bF wb s F m) (λr L=>r= .ret (.bA [.agg ((m.Told.World).enc.map .d),iD 12])/\uv wb s F {m with Stack:=S} L):=by
 have hp:=eZ wb s F m S v hS (by omega);have ny:=lB wb s F {m with Stack:=S} v;rw[iN,hr]at ny;unfold uv bF at *;refine rX [4,5] [5003,5004,5005,4] func214 ?_;simp[-cB,f214];intro bs bL;refine eD [5003,5004,5005] hp ?_;simp[-cB];refine eD [5003,5004,5005] ny ?_;simp[-cB]
theorem MQ(wb:Nat)(s:al)(F:Int)(m:ae)(S:List Int)(v:Int)(hS:m.Stack=S++ [v])(hl:S.length≤100000)(hr:da s.Tables v=false)(h1:v=1):
  aE prog 214 [.bp 5003 0,iD 18] (bF wb s F m) (λr L=>r= .ret (.bA [.agg ((m.Told.World).enc.map .d),iD 12])/\uv wb s F {m with Stack:=S} L):=by
 have hp:=eZ wb s F m S v hS (by omega);have ny:=lB wb s F {m with Stack:=S} v;rw[iN,hr]at ny;unfold uv bF at *;subst h1;refine rX [4,5] [5003,5004,5005,4] func214 ?_;simp[-cB,f214];intro bs bL;refine eD [5003,5004,5005] hp ?_;simp[-cB];refine eD [5003,5004,5005] ny ?_;simp[-cB]
theorem WB(wb:Nat)(s:al)(F:Int)(m:ae)(S:List Int)(v:Int)(hS:m.Stack=S++ [v])(hl:S.length≤100000)(hr:da s.Tables v=false)(h1:v≠1)(hw:vK m.Told.World)(w1:aj)(e1:Int)(he:e1≠0)(nu:fB m.Told.World v=(w1,e1)):
  aE prog 214 [.bp 5003 0,iD 18] (bF wb s F m) (λr L=>r= .ret (.bA [.agg ((w1).enc.map .d),iD e1])/\uv wb s F {m with Stack:=S} L):=by
 have hp:=eZ wb s F m S v hS (by omega);have ny:=lB wb s F {m with Stack:=S} v;rw[iN,hr]at ny;have hc:=DO m.Told.World hw v;rw[nu]at hc;unfold uv bF at *;refine rX [4,5] [5003,5004,5005,4] func214 ?_;simp[-cB,f214];intro bs bL;refine eD [5003,5004,5005] hp ?_;simp[-cB];refine eD [5003,5004,5005] ny ?_;simp[-cB];simp[-cB,h1];refine pC hc ?_;simp[-cB];refine ay.ss rfl (g:=false) (x:=oD true) (λh=>by cases h) (by first|rfl|(simp;done)|(simp;exact he)) (by first|rfl|(simp;exact he)|(simp;rfl)) (by simp) (by simp) rfl ?_;simp[-cB];refine ay.skip (by first|rfl|(simp;done)|(simp;exact he)) (by simp) ?_;refine bq _ _ [] (by rfl) ?_;simp[-cB,he]
theorem WC(wb:Nat)(s:al)(F:Int)(m:ae)(S:List Int)(v:Int)(hS:m.Stack=S++ [v])(hl:S.length≤100000)(hr:da s.Tables v=false)(h1:v≠1)(hw:vK m.Told.World)(w1:aj)(Cu:w1.wf)(nu:fB m.Told.World v=(w1,0))(hB:da s.Tables (dj w1.tree 1)=true):
  aE prog 214 [.bp 5003 0,iD 18] (bF wb s F m) (λr L=>r= .ret (.bA [.agg ((w1).enc.map .d),iD 0])/\uv wb s F {m with Stack:=S} L):=by
 have hp:=eZ wb s F m S v hS (by omega);have ny:=lB wb s F {m with Stack:=S} v;rw[iN,hr]at ny;have hc:=DO m.Told.World hw v;rw[nu]at hc;have hh:=py w1 Cu;have yI:=lB wb s F {m with Stack:=S} (dj w1.tree 1);rw[iN,hB]at yI;generalize dj w1.tree 1=T at *;unfold uv bF at *;refine rX [4,5] [5003,5004,5005,4] func214 ?_;simp[-cB,f214];intro bs bL;refine eD [5003,5004,5005] hp ?_;simp[-cB];refine eD [5003,5004,5005] ny ?_;simp[-cB];simp[-cB,h1];refine pC hc ?_;simp[-cB];refine pG hh ?_;simp[-cB];refine ay.AT (by first|rfl|(simp;rfl)) (by simp) ?_;simp[-cB];refine eD [5003,5004,5005] yI ?_;simp[-cB]
theorem Js(wb:Nat)(s:al)(F:Int)(m:ae)(S:List Int)(v:Int)(hS:m.Stack=S++ [v])(hl:S.length≤100000)(hr:da s.Tables v=false)(h1:v≠1)(hw:vK m.Told.World)(w1:aj)(Cu:w1.wf)(nu:fB m.Told.World v=(w1,0))(hB:da s.Tables (dj w1.tree 1)=false):
  aE prog 214 [.bp 5003 0,iD 18] (bF wb s F m) (λr L=>r= .ret (.bA [.agg ((w1).enc.map .d),iD 12])/\uv wb s F {m with Stack:=S} L):=by
 have hp:=eZ wb s F m S v hS (by omega);have ny:=lB wb s F {m with Stack:=S} v;rw[iN,hr]at ny;have hc:=DO m.Told.World hw v;rw[nu]at hc;have hh:=py w1 Cu;have yI:=lB wb s F {m with Stack:=S} (dj w1.tree 1);rw[iN,hB]at yI;generalize dj w1.tree 1=T at *;unfold uv bF at *;refine rX [4,5] [5003,5004,5005,4] func214 ?_;simp[-cB,f214];intro bs bL;refine eD [5003,5004,5005] hp ?_;simp[-cB];refine eD [5003,5004,5005] ny ?_;simp[-cB];simp[-cB,h1];refine pC hc ?_;simp[-cB];refine pG hh ?_;simp[-cB];refine ay.AT (by first|rfl|(simp;rfl)) (by simp) ?_;simp[-cB];refine eD [5003,5004,5005] yI ?_;simp[-cB]
theorem Qi{wb:Nat}{s:al}{F:Int}{m m2:ae}{k:Int}{w:aj}{e:Int}(h:aE prog 214 [.bp 5003 0,iD k] (bF wb s F m) (fun r L=>r= .ret (.bA [.agg (w.enc.map .d),iD e])∧uv wb s F m2 L)):
  aE prog 214 [.bp 5003 0,iD k] (bF wb s F m) (λr L=>r= .ret (.bA [.agg (w.enc.map .d),iD e])/\L=bF wb s F m2):=by
 refine aE.wk h ?_;rintro r L ⟨rfl,b,cs,rfl⟩;refine⟨_,_,_,rfl,Wk.pick [0] [5003,5004,5005] (by rfl) (by decide) ?_,?_⟩
 ·unfold bF;simp
 ·simp[bF,St.pick]
theorem LZ(wb:Nat)(s:al)(F:Int)(m:ae)(S:List Int)(v n:Int)(hS:m.Stack=S++ [v,n])(hl:S.length≤100000)(aN:iG s.Tables m.Told.World)(w':aj)(e:Int)(hv:kY s.Tables m.Told.World v n=(w',e)):
  aE prog 214 [.bp 5003 0,iD 17] (bF wb s F m) (λr L=>r= .ret (.bA [.agg (w'.enc.map .d),iD e])/\L=bF wb s F {m with Stack:=S}):=by
 refine Qi ?_;have uF:=NV aN v n;unfold kY at hv;cases hr:da s.Tables v with
 | true=>
   rw[hr,if_pos (by simp)]at hv;simp only[ao7]at hv;rw[<-hv.1,<-hv.2];exact R7 wb s F m S v n hS hl hr
 | false=>
   rw[hr,if_neg (by simp)]at hv;cases hp:kZ m.Told.World v n with
   | mk w1 e1=>
   rw[hp]at hv uF;unfold pQ at hv;by_cases he:e1=0
   ·subst he;cases hB:da s.Tables (dj w1.tree 1)with
    | true=>
      rw[if_neg (by simp[hB])]at hv;simp only[ao7]at hv;rw[<-hv.1,<-hv.2];exact WA wb s F m S v n hS hl hr aN.P2 w1 uF.1 hp hB
    | false=>
      rw[if_pos ⟨rfl,hB⟩]at hv;simp only[ao7]at hv;rw[<-hv.1,<-hv.2];exact Jr wb s F m S v n hS hl hr aN.P2 w1 uF.1 hp hB
   ·rw[if_neg (by simp[he])]at hv;simp only[ao7]at hv;rw[<-hv.1,<-hv.2];exact Wz wb s F m S v n hS hl hr aN.P2 w1 e1 he hp
theorem L3(wb:Nat)(s:al)(F:Int)(m:ae)(S:List Int)(v:Int)(hS:m.Stack=S++ [v])(hl:S.length≤100000)(aN:iG s.Tables m.Told.World)(w':aj)(e:Int)(hv:iH s.Tables m.Told.World v=(w',e)):
  aE prog 214 [.bp 5003 0,iD 18] (bF wb s F m) (λr L=>r= .ret (.bA [.agg (w'.enc.map .d),iD e])/\L=bF wb s F {m with Stack:=S}):=by
 refine Qi ?_;have uF:=H5 aN v;unfold iH at hv;cases hr:da s.Tables v with
 | true=>
   rw[hr,if_pos (by simp)]at hv;simp only[ao7]at hv;rw[<-hv.1,<-hv.2];exact R8 wb s F m S v hS hl hr
 | false=>
   by_cases h1:v=1
   ·rw[if_pos (by simp[h1])]at hv;simp only[ao7]at hv;rw[<-hv.1,<-hv.2];exact MQ wb s F m S v hS hl hr h1
   rw[hr,if_neg (by simp[h1])]at hv;cases hp:fB m.Told.World v with
   | mk w1 e1=>
   rw[hp]at hv uF;unfold pQ at hv;by_cases he:e1=0
   ·subst he;cases hB:da s.Tables (dj w1.tree 1)with
    | true=>
      rw[if_neg (by simp[hB])]at hv;simp only[ao7]at hv;rw[<-hv.1,<-hv.2];exact WC wb s F m S v hS hl hr h1 aN.P2 w1 uF.1 hp hB
    | false=>
      rw[if_pos ⟨rfl,hB⟩]at hv;simp only[ao7]at hv;rw[<-hv.1,<-hv.2];exact Js wb s F m S v hS hl hr h1 aN.P2 w1 uF.1 hp hB
   ·rw[if_neg (by simp[he])]at hv;simp only[ao7]at hv;rw[<-hv.1,<-hv.2];exact WB wb s F m S v hS hl hr h1 aN.P2 w1 e1 he hp
theorem QU(wb:Nat)(s:al)(F:Int)(m:ae)(i:ai)(S:List Int)(v n:Int)(w':aj)(aD:i.Op=17)(hS:m.Stack=S++ [v,n])(hl:S.length<=100000)(aN:iG s.Tables m.Told.World)(hv:kY s.Tables m.Told.World v n=(w',0)):jK wb s F m i {m with Stack:=S,Told:={m.Told with World:=w'}}:=by
 have hm:=LZ wb s F m S v n hS hl aN w' 0 hv;unfold jK bF at *;refine rX [] [5003,5004,5005] func143 ?_;simp[-cB,f143];intro bs bL;simp[-cB,aD];refine eD [5003,5004,5005] hm ?_;simp[-cB];refine eD [] dt ?_;simp[-cB]
theorem QV(wb:Nat)(s:al)(F:Int)(m:ae)(i:ai)(S:List Int)(v n:Int)(w':aj)(e:Int)(he:e≠0)(aD:i.Op=17)(hS:m.Stack=S++ [v,n])(hl:S.length<=100000)(aN:iG s.Tables m.Told.World)(hv:kY s.Tables m.Told.World v n=(w',e)):CW wb s F m i e:=by
 refine⟨{m with Stack:=S},?_⟩;have hm:=LZ wb s F m S v n hS hl aN w' e hv;have hc:=iM e he;unfold bF at *;refine rX [] [5003,5004,5005] func143 ?_;simp[-cB,f143];intro bs bL;simp[-cB,aD];refine eD [5003,5004,5005] hm ?_;simp[-cB];refine ay.kQ [] rfl (hc) (by simp) rfl (by simp) (by kernel_rfl) (by first|rfl|simp) (by simp) (by simp) (by simp) ?_;simp
theorem Rd(wb:Nat)(s:al)(F:Int)(m:ae)(i:ai)(S:List Int)(v:Int)(w':aj)(aD:i.Op=18)(hS:m.Stack=S++ [v])(hl:S.length<=100000)(aN:iG s.Tables m.Told.World)(hv:iH s.Tables m.Told.World v=(w',0)):jK wb s F m i {m with Stack:=S,Told:={m.Told with World:=w'}}:=by
 have hm:=L3 wb s F m S v hS hl aN w' 0 hv;unfold jK bF at *;refine rX [] [5003,5004,5005] func143 ?_;simp[-cB,f143];intro bs bL;simp[-cB,aD];refine eD [5003,5004,5005] hm ?_;simp[-cB];refine eD [] dt ?_;simp[-cB]
theorem Re(wb:Nat)(s:al)(F:Int)(m:ae)(i:ai)(S:List Int)(v:Int)(w':aj)(e:Int)(he:e≠0)(aD:i.Op=18)(hS:m.Stack=S++ [v])(hl:S.length<=100000)(aN:iG s.Tables m.Told.World)(hv:iH s.Tables m.Told.World v=(w',e)):CW wb s F m i e:=by
 refine⟨{m with Stack:=S},?_⟩;have hm:=L3 wb s F m S v hS hl aN w' e hv;have hc:=iM e he;unfold bF at *;refine rX [] [5003,5004,5005] func143 ?_;simp[-cB,f143];intro bs bL;simp[-cB,aD];refine eD [5003,5004,5005] hm ?_;simp[-cB];refine ay.kQ [] rfl (hc) (by simp) rfl (by simp) (by kernel_rfl) (by first|rfl|simp) (by simp) (by simp) (by simp) ?_;simp
set_option maxHeartbeats 200000
set_option maxRecDepth 512
theorem aE.acj{P:Program}{f:FuncId}{args:List V}{v:Value}(hv:v.oneCell'=true)
  (h:∀(fo:FO) (m:Nat->Option Value) (w:World) (xs:Array Value),vd w (OO fo m)->ir w (OO fo m) m xs args->Calls P f xs w (λe w'=>e= .returned v/\∃k os,w'=Sort.grow (w.drewN k) os)):aE P f args [] (λr L=>r= .ret (.d (.v v))/\L=[]):=by
 intro fo m w xs hi hx;refine(h fo m w xs hi.ee hx).mono ?_;rintro e w' ⟨rfl,k,os,rfl⟩;have hs:w.heap.size<=(Sort.grow (w.drewN k) os).heap.size:=by show w.heap.size<=(w.heap++os).size;simp
 have hb:∀b,b<w.heap.size->(Sort.grow (w.drewN k) os).heap[b]?=w.heap[b]?:=by
  intro b hb;show(w.heap++os)[b]?=_;rw[Array.getElem?_append_left hb]
 exact⟨m,.ret (.d (.v v)),[],⟨rfl,rfl⟩,.d _ _ (.v _ hv),hi.grown hs hb,⟨rfl,rfl,rfl,hs,λb h _=>hb b h,λb _ h=>h⟩⟩
theorem Qj{P:Program}{w:World}{O:Nat->Prop}{name:String}{k:IntKind}{g:Nat}{xs:List Int}(hn:P.globalNamed name=some g)(hm:(g,xs.map λx=>Value.int k x)∈EG)(h:vd w O):Lib.TabIs P w name k xs:=by
 obtain⟨-,-,-,t,z,h4⟩:=h _ hm;unfold Lib.TabIs World.var?;rw[hn];simp only[aqy];simp only at h4;rw[h4]
end Go.Ab
namespace Go.Proofs
open Go.Shelf
def Tryz.R9:Go.Shelf.Ren:=⟨λ|246=>240|283=>272|284=>273|285=>274|286=>275|129=>301|317=>300|318=>302|319=>303|320=>304|337=>308|338=>309|n=>n,λ|2=>2|3=>3|9=>9|4=>4|171=>256|0=>0|53=>32|37=>39|5=>5|173=>259|212=>271|51=>224|20=>20|213=>272|46=>130|232=>278|233=>279|n=>n,λ|17=>0|18=>1|19=>2|n=>n⟩
theorem Tryz.aeN:Go.Proofs.LaysM.n246 prog Tryz.R9:={
 mixed:=by kernel_rfl
 f129:=func301.trans (congrArg some (by kernel_rfl))
 f246:=func240.trans (congrArg some (by kernel_rfl))
 f283:=func272.trans (congrArg some (by kernel_rfl))
 f284:=func273.trans (congrArg some (by kernel_rfl))
 f285:=func274.trans (congrArg some (by kernel_rfl))
 f286:=func275.trans (congrArg some (by kernel_rfl))
 f317:=func300.trans (congrArg some (by kernel_rfl))
 f318:=func302.trans (congrArg some (by kernel_rfl))
 f319:=func303.trans (congrArg some (by kernel_rfl))
 f320:=func304.trans (congrArg some (by kernel_rfl))
 f337:=func308.trans (congrArg some (by kernel_rfl))
 f338:=func309.trans (congrArg some (by kernel_rfl))
 t0:=underlying0
 a0:=Tryz.isAgg0
 z0:=sizeOf0
 v0:=zeroValue0
 t2:=underlying2
 a2:=Tryz.isAgg2
 z2:=sizeOf2
 v2:=zeroValue2
 t3:=underlying3
 a3:=Tryz.isAgg3
 z3:=sizeOf3
 v3:=zeroValue3
 t4:=underlying4
 a4:=Tryz.isAgg4
 z4:=sizeOf4
 v4:=zeroValue4
 t5:=underlying5
 a5:=Tryz.isAgg5
 z5:=sizeOf5
 v5:=zeroValue5
 t9:=underlying9
 a9:=Tryz.isAgg9
 z9:=sizeOf9
 v9:=zeroValue9
 t20:=underlying20
 a20:=Tryz.isAgg20
 z20:=sizeOf20
 v20:=zeroValue20
 t37:=underlying39
 a37:=Tryz.isAgg39
 z37:=sizeOf39
 v37:=zeroValue39
 t46:=underlying130
 a46:=Tryz.isAgg130
 z46:=sizeOf130
 v46:=zeroValue130
 t51:=underlying224
 a51:=Tryz.isAgg224
 z51:=sizeOf224
 v51:=zeroValue224
 t53:=underlying32
 a53:=Tryz.isAgg32
 z53:=sizeOf32
 v53:=zeroValue32
 t171:=underlying256
 a171:=Tryz.isAgg256
 z171:=sizeOf256
 v171:=zeroValue256
 t173:=underlying259
 a173:=Tryz.isAgg259
 z173:=sizeOf259
 v173:=zeroValue259
 t212:=underlying271
 a212:=Tryz.isAgg271
 z212:=sizeOf271
 v212:=zeroValue271
 t213:=underlying272
 a213:=Tryz.isAgg272
 z213:=sizeOf272
 t232:=underlying278
 a232:=Tryz.isAgg278
 z232:=sizeOf278
 v232:=zeroValue278
 t233:=underlying279
 a233:=Tryz.isAgg279
 z233:=sizeOf279
 v233:=zeroValue279
 g17:=by kernel_rfl
 g18:=by kernel_rfl
 g19:=by kernel_rfl
 i0:=by kernel_rfl
 i2:=by kernel_rfl
 i3:=by kernel_rfl
 i4:=by kernel_rfl
 i5:=by kernel_rfl
 i9:=by kernel_rfl
 i20:=by kernel_rfl
 i37:=by kernel_rfl
 i46:=by kernel_rfl
 i51:=by kernel_rfl
 i53:=by kernel_rfl
 i171:=by kernel_rfl
 i173:=by kernel_rfl
 i212:=by kernel_rfl
 i232:=by kernel_rfl
 i233:=by kernel_rfl
 m17:=by kernel_rfl
 m18:=by kernel_rfl
 m19:=by kernel_rfl}
end Go.Proofs
namespace Go.Ab
open Go.Proofs Go.Proofs.Tryz
theorem ir.v2{w:World}{O:Nat->Prop}{m:Nat->Option Value}{xs:Array Value}{u v:Value}(h:ir w O m xs [.d (.v u),.d (.v v)]):xs= #[u,v]:=by
 obtain⟨h1,h2⟩:=h;simp at h1;have e0:=(h2 0 xs[0] _ (apy (by omega)) rfl).cy;have e1:=(h2 1 xs[1] _ (apy (by omega)) rfl).cy;refine Array.ext (by simpa using h1) (λi hi hj=>?_);have:i=0\/i=1:=by omega
 rcases this with rfl|rfl
 ·simpa using e0
 ·simpa using e1
theorem Qk:∀(n N:Nat),N<=n->gE N=⟨(Lib.decDigits N).toArray⟩:=by
 intro n
 induction n with
 | zero=>intro N hN;obtain rfl:N=0:=by omega
         rw[gE,if_pos (by decide),Lib.decDigits,dif_pos (by decide)]
 | succ n ih=>
   intro N hN;by_cases eu:N<10
   ·rw[gE,if_pos eu,Lib.decDigits,dif_pos eu]
   ·rw[gE,if_neg eu,Lib.decDigits,dif_neg eu,ih (N / 10) (by omega)];apply aq0;rw[aqp];simp
theorem Z2(n:Int):uQ n=⟨(Lib.itoa n).toArray⟩:=by
 unfold uQ Lib.itoa;by_cases h:n<0
 ·rw[if_pos h,if_pos h,Qk _ _ (api _)];apply aq0;rw[aqp];simp
 ·rw[if_neg h,if_neg h,Qk _ _ (api _)];rw[show n.natAbs=n.toNat by omega]
theorem Z3:prog.globalNamed "internal/strconv.uint64pow10" =some 0:=by kernel_rfl
theorem WD:(0,Lib.pow10Tab.map λx=>Value.int .u64 x)∈EG:=aqJ.2 (by kernel_rfl)
theorem Ql(n:Int)(h:ar n=n):Pure prog 240 [iD n,iD 10] (.d (.v (.string (uQ n)))):=by
 rw[iA]at h;refine⟨by kernel_rfl,by simp,by simp,(aE.acj (v:= .string (uQ n)) rfl (λfo m w xs hg hx=>?_)).mono λ_ _ h=>h.1⟩;rw[hx.v2,Z2];exact Any.internal_strconv_FormatInt_10 Tryz.aeN n (by omega) (by omega) w (Qj Z3 WD hg)
theorem NP(n:Int)(h:ar n=n):Pure prog 79 [iD n] (.d (.v (.string (uQ n)))):=by
 have h4:=Ql n h;have h3:Pure prog 195 [iD n] (.d (.v (.string (uQ n)))):=by
  refine Pure.run func195 rfl ⟨by simp[f195],by kernel_rfl,by simp,by simp⟩ ?_;simp[-cB,f195];refine pC h4 ?_;simp[-cB]
 have h2:Pure prog 129 [iD n] (.d (.v (.string (uQ n)))):=by
  refine Pure.run func129 rfl ⟨by simp[f129],by kernel_rfl,by simp,by simp⟩ ?_;simp[-cB,f129];refine pC h3 ?_;simp[-cB]
 refine rn func79 ?_;simp[-cB,f79];refine pC h2 ?_;simp[-cB]
end Go.Ab
namespace Go.Ab
open Go.Proofs Go.Proofs.Tryz
theorem Hz(n f:Int)(hn:0<=n/\n<=65535)(hf:0<=f/\f<=15):Pure prog 151 [iD n,iD f] (oD (decide (n / (2^f.toNat:Nat) % 2=1))):=by
 obtain⟨N,rfl⟩:∃N:Nat,n=N:=⟨n.toNat,by omega⟩
 obtain⟨k,rfl⟩:∃k:Nat,f=k:=⟨f.toNat,by omega⟩
 have hq:∀i,N / 2^i<=N:=λi=>Nat.div_le_self _ _
 refine rn func151 ?_;simp[-cB,f151];refine av.cJ [0,1,5] k (λi=> [(0,iD ((N / 2^i:Nat):Int)),(5,iD i)]) (λ_=> []) (λ_=>True) (by rfl) (by simp) ?_;intro i hi _;have h1:=hq i;have h2:N / 2^(i+1)=N / 2^i / 2:=by rw[Nat.pow_succ,Nat.div_div_eq_div_mul]
 rcases apg hi with au|rfl
 ·have dF:(i:Int)<k:=by omega
  have bY:aM .i64 ((i:Int)+1):=iW;simp[au,dF,bY];have e1:((N:Int) / 2^i)=((N / 2^i:Nat):Int):=by simp
  have e2:((N:Int) / 2^(i+1))=((N / 2^i / 2:Nat):Int):=by rw[<-h2];simp
  rw[e1,e2];generalize N / 2^i=q at *;rw[apW (by omega),wrap64 iW];omega
 ·simp;have e1:((N:Int) / 2^i)=((N / 2^i:Nat):Int):=by simp
  try rw[e1]
  generalize N / 2^i=q at *;rw[apz (by omega)]
theorem BY:∀k:Nat,k<=15->Pure prog 153 [iD k] (iD ((2^k:Nat):Int))
 | 0,_=>by
   refine rn func153 ?_;simp[-cB,f153]
 | k+1,hk=>by
   have ih:=BY k (by omega);have h1:((k+1:Nat):Int)-1=k:=by omega
   have h2:¬((k+1:Nat):Int)=0:=by omega
   have h3:aM .i64 (k:Int):=iW;have h4:2^k<=2^15:=ap7 (by decide) (by omega);have h6:((2^(k+1):Nat):Int)=(2 *((2^k:Nat):Int)):=by rw[Nat.pow_succ];omega
   rw[h6];clear h6;generalize 2^k=q at *;have h5:aM .i64 (2 *(q:Int)):=iW;generalize ((k+1:Nat):Int)=K at *;refine rn func153 ?_;simp[-cB,f153];simp[h2,h1,h3];refine pC ih ?_;simp[h5]
theorem Gt(w:aj)(hF:cZ w)(x f:Int):Pure prog 107 [.agg (w.enc.map .d),iD x,iD f] (.bA [oD (decide (cz w x f=0)&&cU w x f.toNat),iD (cz w x f)]):=by
 have ha:=BF w x f;by_cases h0:cz w x f=0
 ·have hx:=qI h0;have hb:=aY.1 hx.1;have hl:=hF.1;have au:x.toNat<w.Flags.length:=by omega
  have hg:w.Flags[x.toNat]?.getD 0=aB w.Flags x:=rfl;have bm:w.Flags[x.toNat]'au=aB w.Flags x:=by rw[<-hg,akC au];rfl
  have hm:=hF.2 (aB w.Flags x) (by rw[<-bm];exact apk _);have uu:=Hz (aB w.Flags x) f hm hx.2;have hh:cU w x f.toNat=decide (aB w.Flags x / (2^f.toNat:Nat) % 2=1):=by unfold cU;rw[hx.1,ap1]
  rw[hh];generalize decide (aB w.Flags x / (2^f.toNat:Nat) % 2=1)=B at *;refine rn func107 ?_;simp[-cB,f107];intro bs;refine pC ha ?_;simp[h0,bm,au];refine⟨by omega,?_⟩;refine pC uu ?_;simp[-cB]
 ·refine rn func107 ?_;simp[-cB,f107];intro bs;refine pC ha ?_;simp[h0]
theorem Jt(w:aj)(x n:Int)(hx:0<=x/\x<w.Flags.length)(hlen:w.Flags.length<=100000):Pure prog 152 [.agg (w.enc.map .d),iD x,iD n] (.agg (({w with Flags:=w.Flags.set x.toNat n}:aj).enc.map .d)):=by
 have e1:(w.enc.map V.d)=[.d (.sl (aA w.aP)),.d (.sl (aA w.ah)),.d (.sl (aA w.Child)),.d (.sl (aA w.Next)),.d (.sl (aA w.Flags)),.d (.sl (aA w.aJ)),.d (.sl (aA w.bc)),.d (.v (.int .u64 w.cL)),iD w.Score,iD w.jx,iD w.ij,iD w.It,iD w.Go]:=rfl;have Cr:x.toNat<w.Flags.length:=by omega
 rw[e1];refine rn func152 ?_;simp[-cB,f152];exact⟨by omega,⟨hx.1,Cr⟩,Cr,rfl⟩
theorem Z4(w:aj)(hF:cZ w)(hlen:w.Flags.length<=100000)(x f:Int):Pure prog 94 [.agg (w.enc.map .d),iD x,iD f] (.bA [.agg ((eb w x f true).1.enc.map .d),iD (eb w x f true).2]):=by
 have ha:=BF w x f;by_cases h0:cz w x f=0
 ·have hx:=qI h0;have hb:=aY.1 hx.1;have hl:=hF.1;have au:x.toNat<w.Flags.length:=by omega
  have ma:0<=x:=by omega
  have hg:w.Flags[x.toNat]?.getD 0=aB w.Flags x:=rfl;have bm:w.Flags[x.toNat]'au=aB w.Flags x:=by rw[<-hg,akC au];rfl
  have hm:=hF.2 (aB w.Flags x) (by rw[<-bm];exact apk _);have uu:=Hz (aB w.Flags x) f hm hx.2;have hh:cU w x f.toNat=decide (aB w.Flags x / (2^f.toNat:Nat) % 2=1):=by unfold cU;rw[hx.1,ap1]
  have Z5:=BY f.toNat (by omega)
  rw[show((f.toNat:Nat):Int)=f by omega]at Z5;have aj1:2^f.toNat<=2^15:=ap7 (by decide) (by omega);unfold eb;rw[if_pos h0,hh];generalize decide (aB w.Flags x / (2^f.toNat:Nat) % 2=1)=B at *;have hwi:=Jt w x (aB w.Flags x+(2^f.toNat:Nat)) ⟨by omega,by omega⟩ hlen;generalize 2^f.toNat=q at *;have bY:aM .i64 (aB w.Flags x+(q:Int)):=iW;cases B with
  | true=>
    simp only[if_true];refine rn func94 ?_;simp[-cB,f94];intro bs;refine pC ha ?_;simp[h0,bm,au,ma];refine pC uu ?_;simp
  | false=>
    simp only[reduceCtorEq,if_false,if_true,apH,Bool.true_eq_false];generalize w.Flags.set x.toNat (aB w.Flags x+(q:Int))=fl at *;refine rn func94 ?_;simp[-cB,f94];intro bs;refine pC ha ?_;simp[h0,bm,au,ma];refine pC uu ?_;simp[-cB];refine av.aT [Q0,Q0,Q0,Q0,Q0,Q0,Q0,Q0,Q0,Q0,Q0,none,arF] [iD q,.agg (({w with Flags:=fl}:aj).enc.map .d)] aS (by kernel_rfl) ?_;simp[bm,au,ma,bY];exact⟨Z5.ok _,hwi.ok _⟩
 ·unfold eb;rw[if_neg h0];refine rn func94 ?_;simp[-cB,f94];intro bs;refine pC ha ?_;simp[h0]
theorem Sa(w:aj)(hF:cZ w)(hlen:w.Flags.length<=100000)(x f:Int):Pure prog 95 [.agg (w.enc.map .d),iD x,iD f] (.bA [.agg ((eb w x f false).1.enc.map .d),iD (eb w x f false).2]):=by
 have ha:=BF w x f;by_cases h0:cz w x f=0
 ·have hx:=qI h0;have hb:=aY.1 hx.1;have hl:=hF.1;have au:x.toNat<w.Flags.length:=by omega
  have ma:0<=x:=by omega
  have hg:w.Flags[x.toNat]?.getD 0=aB w.Flags x:=rfl;have bm:w.Flags[x.toNat]'au=aB w.Flags x:=by rw[<-hg,akC au];rfl
  have hm:=hF.2 (aB w.Flags x) (by rw[<-bm];exact apk _);have uu:=Hz (aB w.Flags x) f hm hx.2;have hh:cU w x f.toNat=decide (aB w.Flags x / (2^f.toNat:Nat) % 2=1):=by unfold cU;rw[hx.1,ap1]
  have Z5:=BY f.toNat (by omega)
  rw[show((f.toNat:Nat):Int)=f by omega]at Z5;have aj1:2^f.toNat<=2^15:=ap7 (by decide) (by omega);unfold eb;rw[if_pos h0,hh];generalize decide (aB w.Flags x / (2^f.toNat:Nat) % 2=1)=B at *;have hwi:=Jt w x (aB w.Flags x-(2^f.toNat:Nat)) ⟨by omega,by omega⟩ hlen;generalize 2^f.toNat=q at *;have bY:aM .i64 (aB w.Flags x-(q:Int)):=iW;cases B with
  | false=>
    simp only[if_true];refine rn func95 ?_;simp[-cB,f95];intro bs;refine pC ha ?_;simp[h0,bm,au,ma];refine pC uu ?_;simp
  | true=>
    simp only[reduceCtorEq,if_false,if_true,apH,Bool.true_eq_false];generalize w.Flags.set x.toNat (aB w.Flags x-(q:Int))=fl at *;refine rn func95 ?_;simp[-cB,f95];intro bs;refine pC ha ?_;simp[h0,bm,au,ma];refine pC uu ?_;simp[-cB];refine av.aT [Q0,Q0,Q0,Q0,Q0,Q0,Q0,Q0,Q0,Q0,Q0,none,arF] [iD q,.agg (({w with Flags:=fl}:aj).enc.map .d)] aS (by kernel_rfl) ?_;simp[bm,au,ma,bY];exact⟨Z5.ok _,hwi.ok _⟩
 ·unfold eb;rw[if_neg h0];refine rn func95 ?_;simp[-cB,f95];intro bs;refine pC ha ?_;simp[h0]
set_option maxHeartbeats 4000000
set_option maxRecDepth 20000
theorem CX(t:aq)(i:Int):Pure prog 78 [.agg (t.enc.map .d),iD i] (.d (.v (.string (oF t i)))):=by
 unfold oF;by_cases h:i<0\/(t.fP.length:Int)<=i
 ·rw[if_pos h];have hb:(decide (i<0)||decide ((t.fP.length:Int)<=i))=true:=by simpa using h
  refine rn func78 ?_;simp[-cB,f78];intro bs;simp[-cB,hb]
 ·rw[if_neg h];have hb:(decide (i<0)||decide ((t.fP.length:Int)<=i))=false:=by simpa using h
  refine rn func78 ?_;simp[-cB,f78];intro bs;simp[-cB,hb];omega
theorem Ba(t:aq)(x:Int):Pure prog 80 [.agg (t.enc.map .d),iD x] (.d (.v (.string (dB t x)))):=by
 unfold dB;by_cases h:x<1\/(t.az.length:Int)<=x
 ·rw[if_pos h];have hb:(decide (x<1)||decide ((t.az.length:Int)<=x))=true:=by simpa using h
  refine rn func80 ?_;simp[-cB,f80];intro bs;simp[-cB,hb];rfl
 ·rw[if_neg h];have hb:(decide (x<1)||decide ((t.az.length:Int)<=x))=false:=by simpa using h
  have au:x.toNat<t.az.length:=by omega
  have h0:0<=x:=by omega
  have bm:bx t x=t.az[x.toNat]:=by unfold bx;simp[akC au]
  rw[bm];have ht:=CX t t.az[x.toNat].kx;generalize oF t t.az[x.toNat].kx=T at *;refine rn func80 ?_;simp[-cB,f80];intro bs;simp[-cB,hb];refine av.bT [.d (.v (.string T))] aS (by kernel_rfl) (by rfl) ?_;simp[-cB,au,h0];exact ht.ok _
theorem C0(t:aq)(i:Int):Pure prog 89 [.agg (t.enc.map .d),iD i] (.d (.v (.string (oF t i)))):=by
 unfold oF;by_cases h:i<0\/(t.fP.length:Int)<=i
 ·rw[if_pos h];have hb:(decide (i<0)||decide ((t.fP.length:Int)<=i))=true:=by simpa using h
  refine rn func89 ?_;simp[-cB,f89];intro bs;simp[-cB,hb]
 ·rw[if_neg h];have hb:(decide (i<0)||decide ((t.fP.length:Int)<=i))=false:=by simpa using h
  refine rn func89 ?_;simp[-cB,f89];intro bs;simp[-cB,hb];omega
theorem qS(t:aq)(x:Int):Pure prog 92 [.agg (t.enc.map .d),iD x] (.d (.v (.string (dB t x)))):=by
 unfold dB;by_cases h:x<1\/(t.az.length:Int)<=x
 ·rw[if_pos h];have hb:(decide (x<1)||decide ((t.az.length:Int)<=x))=true:=by simpa using h
  refine rn func92 ?_;simp[-cB,f92];intro bs;simp[-cB,hb];rfl
 ·rw[if_neg h];have hb:(decide (x<1)||decide ((t.az.length:Int)<=x))=false:=by simpa using h
  have au:x.toNat<t.az.length:=by omega
  have h0:0<=x:=by omega
  have bm:bx t x=t.az[x.toNat]:=by unfold bx;simp[akC au]
  rw[bm];have ht:=C0 t t.az[x.toNat].kx;generalize oF t t.az[x.toNat].kx=T at *;refine rn func92 ?_;simp[-cB,f92];intro bs;simp[-cB,hb];refine av.bT [.d (.v (.string T))] aS (by kernel_rfl) (by rfl) ?_;simp[-cB,au,h0];exact ht.ok _
def Qm(t:aq)(w:aj)(out:List ByteArray)(b1 b2 b3:Nat):aI:=[(5401,.box b1 34 (w.enc.map .d)),(5402,.box b2 22 [.rv 5404]),(5403,.box b3 28 (t.enc.map .d)),(5404,.row 9 1 (dd (iB out)))]
def Ep(w:aj)(y:Int):Bool:=!cU w y 3&&decide (y≠1)
theorem WE(t:aq)(w:aj)(hF:cZ w)(y:Int)(hy:1≤y∧y < w.ah.length)(out:List ByteArray)(hl:out.length≤1000000)(b1 b2 b3:Nat):
  aE prog 199 [iD y,.bp 5401 0,.bp 5402 0,.bp 5403 0] (Qm t w out b1 b2 b3) (λr L=>r= .ret (.bA [])/\L=Qm t w (out++if Ep w y then [dB t y]else []) b1 b2 b3):=by
 have NO:=hF.1;have au:y.toNat<w.Flags.length:=by omega
 have h0:0<=y:=by omega
 have hg:w.Flags[y.toNat]?.getD 0=aB w.Flags y:=rfl;have hm:=hF.2 (aB w.Flags y) (by unfold aB;rw[akC au];exact apk _);have uu:=TM (f:=3) hm (by omega);have hh:cU w y 3=decide (aB w.Flags y / (2^3:Nat) % 2=1):=by unfold cU;rw[aY.2 hy,ap1]
 have ht:=Ba t y;generalize dB t y=T at *;unfold Ep;rw[hh];by_cases h1:y=1
 ·simp only[h1,ne_eq,not_true,decide_false,Bool.and_false,apH,if_false,apL];unfold Qm;refine rX [] [5401,5402,5403,5404] func199 ?_;simp[-cB,f199]
 ·have e3:IntKind.wrap .u64 3=3:=by decide
  rw[e3]at uu;have ahQ:IntKind.wrap .i64 ((((aB w.Flags y).fdiv (2^min 3 IntKind.i64.bits) % 2^IntKind.i64.bits).toNat &&& 1 % 2^IntKind.i64.bits:Nat):Int)=aB w.Flags y / ((2^3:Nat):Int) % 2:=uu;have bm:w.Flags[y.toNat]'au=aB w.Flags y:=by rw[<-hg,akC au];rfl
  have hqq:aB w.Flags y / ((2^3:Nat):Int) % 2=0\/aB w.Flags y / ((2^3:Nat):Int) % 2=1:=by omega
  clear uu hh;unfold Qm;refine rX [] [5401,5402,5403,5404] func199 ?_;simp[-cB,f199];simp[-cB,h1,h0,au,hg];rw[bm,ahQ];generalize aB w.Flags y / ((2^3:Nat):Int) % 2=q at *;by_cases OP:q=1
  ·simp[OP]
  ·have hq0:q=0:=by omega
   simp[hq0,h1];refine av.aT [Q3,Q0,Q0,Q0,none,none,none] [.d (.v (.string T))] aS (by kernel_rfl) ?_;simp[-cB];exact⟨ht.ok _,by omega⟩
def BZ(t:aq)(w:aj)(l:List Int):List ByteArray:=(l.filter (Ep w)).map (dB t)
theorem Z6(t:aq)(w:aj)(l:List Int)(y:Int):BZ t w (l++ [y])=BZ t w l++if Ep w y then [dB t y]else []:=by
 unfold BZ;rw[List.filter_append,aqd];cases h:Ep w y<;>simp[List.filter,h]
theorem ack(t:aq)(w:aj)(l:List Int):(BZ t w l).length<=l.length:=by unfold BZ;rw[apx];exact aqO _ _
theorem Sd(t:aq)(w:aj)(x:Int):BZ t w (bw w.tree x)=(iK w x).map (dB t):=rfl
theorem L4(t:aq)(w:aj)(hw:w.wf)(hC:w.Child.length=w.ah.length)(hN:w.Next.length=w.ah.length)(hF:cZ w)(hn:w.ah.length≤100000)(x:Int):
  Pure prog 132 [.agg (t.enc.map .d),.agg (w.enc.map .d),iD x] (.d (.sl (iB ((iK w x).map (dB t))))):=by
 have hk:=Gc w hw hC hN x;have hlen:(bw w.tree x).length<=w.ah.length:=mK w.tree x;have fm:∀y∈bw w.tree x,1<=y/\y<w.ah.length:=λy hy=>nW hy
 rw[<-Sd];generalize bw w.tree x=ks at *;refine rn func132 ?_;simp[-cB,f132];intro bs bL;refine pC hk ?_;simp[-cB];refine av.weaken (s':=⟨[(7,.bp 5402 0),(8,.eS (.func 199) [] [.bp 5401 0,.bp 5402 0,.bp 5403 0]),(14,.d (.sl (aA ks))),(15,iD ks.length),(16,iD 0)],Qm t w [] (bs 1+1) (bL 0+1) (bs 0+1)⟩) (((Wk.qh 7 0 5404 (e:=9) (k:=1) rfl rfl (by simp[keys])).trans ((Wk.eB 4 5401 (by simp[keys])).trans ((Wk.eB 7 5402 (by simp[keys])).trans (Wk.eB 3 5403 (by simp[keys]))))).trans (Wk.pick [7,8,14,15,16] [5401,5402,5403,5404] (by rfl) (by decide) (by rfl))) ?_;unfold Qm;refine av.cJ [7,8,14,15,16] ks.length (λi=> [(16,iD i)]) (λi=> [(5404,.row 9 1 (dd (iB (BZ t w (ks.take i)))))]) (λ_=>True) (by rfl) (by simp[BZ]) ?_;intro i hi _;rcases apg hi with au|rfl
 ·have dF:(i:Int)<ks.length:=by omega
  have bY:aM .i64 ((i:Int)+1):=iW;have hs:ks.take (i+1)=ks.take i++ [ks[i]]:=by rw[apI,akC au];rfl
  have hol:=ack t w (ks.take i);have ha:=WE t w hF ks[i] (fm _ (apk au)) (BZ t w (ks.take i)) (by rw[apG]at hol;omega) (bs 1+1) (bL 0+1) (bs 0+1);rw[<-Z6,<-hs]at ha;unfold Qm at ha;simp[-cB,au,dF];refine eD [5401,5402,5403,5404] ha ?_;simp[bY];exact au
 ·simp
set_option maxHeartbeats 200000
set_option maxRecDepth 512
def Sub{α:Type}(a b:Option α):Prop:=∀p,a=some p->b=some p
theorem Sub.refl{α:Type}(a:Option α):Sub a a:=λ_ h=>h
theorem Sub.none{α:Type}(b:Option α):Sub (none:Option α) b:=λ_ h=>by cases h
theorem Sub.ite{α:Type}{p:Prop}[Decidable p]{a b a' b':Option α}(h1:p->Sub a a')(h2:¬p->Sub b b'):Sub (if p then a else b) (if p then a' else b'):=by
 by_cases h:p
 ·rw[if_pos h,if_pos h];exact h1 h
 ·rw[if_neg h,if_neg h];exact h2 h
theorem Sub.map{α β:Type}{a b:Option α}(f:α->β)(h:Sub a b):Sub (a.map f) (b.map f):=by
 intro p hp;obtain⟨x,h1,h2⟩:=ao8.1 hp;rw[h x h1,apB,h2]
structure GM(c:XC) (g:Nat):Prop where
 ask:∀σ e,Sub (dR c g σ e) (dR c (g+1) σ e)
 asks:∀σ l,Sub (dO c g σ l) (dO c (g+1) σ l)
 call:∀σ r a,Sub (jh c g σ r a) (jh c (g+1) σ r a)
 block:∀σ l,Sub (dY c g σ l) (dY c (g+1) σ l)
 stmt:∀σ x,Sub (jy c g σ x) (jy c (g+1) σ x)
 KD:∀σ l,Sub (jz c g σ l) (jz c (g+1) σ l)
 say:∀σ x,Sub (kG c g σ x) (kG c (g+1) σ x)
 KE:∀σ x,Sub (gu c g σ x) (gu c (g+1) σ x)
 each:∀σ x,Sub (fj c g σ x) (fj c (g+1) σ x)
 WG:∀σ x a,Sub (ib c g σ x a) (ib c (g+1) σ x a)
set_option maxHeartbeats 2000000 in
theorem sf(c:XC):∀g,GM c g:=by
 intro g
 induction g with
 | zero=>constructor<;>intros<;>simp only[dR,dO,jh,dY,jy,jz,kG,gu,fj,ib]<;>exact Sub.none _
 | succ g ih=>
   constructor
   ·intro σ e;rw[dR,dR];refine Sub.ite (λ_=>?_) (λ_=>?_)
    ·split
     ·rename_i x y _ _;cases hx:dR c g σ x with
      | none=>exact Sub.none _
      | some q=>
        rw[ih.ask _ _ q hx];obtain⟨aR,o⟩:=q;cases o with
        | bO l=>
          refine Sub.ite (λ_=>Sub.refl _) (λ_=>?_);cases hy:dR c g aR y with
          | none=>exact Sub.none _
          | some q=>rw[ih.ask _ _ q hy];exact Sub.refl _
        | _=>exact Sub.refl _
     ·exact Sub.none _
    ·refine Sub.ite (λ_=>Sub.none _) (λ_=>?_);cases hx:dO c g σ e.aF with
     | none=>exact Sub.none _
     | some q=>
       rw[ih.asks _ _ q hx];obtain⟨aR,a|o⟩:=q
       ·refine Sub.ite (λ_=>Sub.ite (λ_=>Sub.map _ (ih.call _ _ _)) (λ_=>Sub.none _)) (λ_=>Sub.refl _)
       ·exact Sub.refl _
   ·intro σ l;cases l with
    | nil=>rw[dO,dO];exact Sub.refl _
    | cons e l=>
      rw[dO,dO];cases hx:dR c g σ e with
      | none=>exact Sub.none _
      | some q=>
        rw[ih.ask _ _ q hx];obtain⟨aR,o⟩:=q;cases o with
        | bO n=>
          simp only;cases hy:dO c g aR l with
          | none=>exact Sub.none _
          | some q=>rw[ih.asks _ _ q hy];exact Sub.refl _
        | _=>exact Sub.refl _
   ·intro σ r a;rw[jh,jh];refine Sub.ite (λ_=>Sub.refl _) (λ_=>Sub.ite (λ_=>Sub.refl _) (λ_=>Sub.ite (λ_=>?_) (λ_=>Sub.refl _)));cases hx:dY c g {σ with Dp:=σ.Dp+1,Ls:=a.map ar++List.replicate ((aB c.B.Tables.aL r).toNat-a.length) 0} (c.B.aO[r.toNat]?.getD [])with
    | none=>exact Sub.none _
    | some q=>rw[ih.block _ _ q hx];exact Sub.refl _
   ·intro σ l;cases l with
    | nil=>rw[dY,dY];exact Sub.refl _
    | cons x l=>
      rw[dY,dY];cases hx:jy c g σ x with
      | none=>exact Sub.none _
      | some q=>
        rw[ih.stmt _ _ q hx];obtain⟨aR,o⟩:=q;cases o with
        | bO n=>exact ih.block _ _
        | _=>exact Sub.refl _
   ·intro σ x;rw[jy,jy];refine Sub.ite (λ_=>Sub.ite (λ_=>ih.KE _ _) (λ_=>Sub.none _)) (λ_=>?_);split
    ·refine Sub.ite (λ_=>Sub.none _) (λ_=>Sub.ite (λ_=>ih.KD _ _) (λ_=>?_));rename_i aR _ _ _ _;cases hx:dO c g aR x.aF with
     | none=>exact Sub.none _
     | some q=>
       rw[ih.asks _ _ q hx];obtain⟨cj,a|o⟩:=q
       ·exact ih.WG _ _ _
       ·exact Sub.refl _
    ·exact Sub.refl _
   ·intro σ l;cases l with
    | nil=>rw[jz,jz];exact Sub.refl _
    | cons x l=>
      rw[jz,jz];cases hx:kG c g σ x with
      | none=>exact Sub.none _
      | some q=>
        rw[ih.say _ _ q hx];obtain⟨aR,o⟩:=q;cases o with
        | bO n=>exact ih.KD _ _
        | _=>exact Sub.refl _
   ·intro σ e;rw[kG,kG];refine Sub.ite (λ_=>Sub.refl _) (λ_=>Sub.ite (λ_=>?_) (λ_=>?_))
    ·split
     ·rename_i x _ _;cases hx:dR c g σ x with
      | none=>exact Sub.none _
      | some q=>rw[ih.ask _ _ q hx];exact Sub.refl _
     ·exact Sub.none _
    ·cases hx:dR c g σ e with
     | none=>exact Sub.none _
     | some q=>rw[ih.ask _ _ q hx];exact Sub.refl _
   ·intro σ x;rw[gu,gu];split
    ·split
     ·rename_i aR _ _ _ e _ _;cases hx:dR c g aR e with
      | none=>exact Sub.none _
      | some q=>
        rw[ih.ask _ _ q hx];obtain⟨cj,o⟩:=q;cases o with
        | bO n=>
          refine Sub.ite (λ_=>Sub.refl _) (λ_=>?_);cases hy:dY c g cj x.Body with
          | none=>exact Sub.none _
          | some q=>
            rw[ih.block _ _ q hy];obtain⟨zM,o⟩:=q;cases o with
            | bO n=>exact ih.KE _ _
            | _=>exact Sub.refl _
        | _=>exact Sub.refl _
     ·exact Sub.none _
    ·exact Sub.refl _
   ·intro σ x;rw[fj,fj];refine Sub.ite (λ_=>Sub.ite (λ_=>Sub.refl _) (λ_=>?_)) (λ_=>Sub.none _);split
    ·refine Sub.ite (λ_=>Sub.refl _) (λ_=>?_);rename_i aR _ _ _;cases hy:dY c g {aR with Ls:=aR.Ls.set (x.aK+1).toNat (dh aR.W 3 (aB aR.Ls x.aK)).1} x.Body with
     | none=>exact Sub.none _
     | some q=>
       rw[ih.block _ _ q hy];obtain⟨zM,o⟩:=q;cases o with
       | bO n=>exact ih.each _ _
       | _=>exact Sub.refl _
    ·exact Sub.refl _
   ·intro σ x a;rw[ib,ib];refine Sub.ite (λ_=>Sub.refl _) (λ_=>Sub.ite (λ_=>Sub.ite (λ_=>ih.block _ _) (λ_=>Sub.none _)) (λ_=>Sub.ite (λ_=>Sub.ite (λ_=>Sub.ite (λ_=>Sub.refl _) (λ_=>ih.each _ _)) (λ_=>Sub.none _)) (λ_=>Sub.refl _)))
theorem adq{α:Type}{f:Nat->Option α}(h:∀g,Sub (f g) (f (g+1))):∀(k g:Nat),Sub (f g) (f (g+k))
 | 0,g=>Sub.refl _
 | k+1,g=>λp hp=>h _ p (adq h k g p hp)
theorem pz{α:Type}{f:Nat->Option α}(h:∀g,Sub (f g) (f (g+1))){g g':Nat}(hg:g<=g'){p:α}(hp:f g=some p):f g'=some p:=by
 have:=adq h (g'-g) g p hp
 rwa[show g+(g'-g)=g' by omega]at this
theorem qJ{c:XC}{g g':Nat}(hg:g<=g'){σ:XS}{e:ax}{p:XS×OC}(h:dR c g σ e=some p):dR c g' σ e=some p:=pz (f:=λg=>dR c g σ e) (λg=>(sf c g).ask σ e) hg h
theorem B0{c:XC}{g g':Nat}(hg:g<=g'){σ:XS}{l:List ax}{p:XS×(List Int ⊕ OC)}(h:dO c g σ l=some p):dO c g' σ l=some p:=pz (f:=λg=>dO c g σ l) (λg=>(sf c g).asks σ l) hg h
theorem WH{c:XC}{g g':Nat}(hg:g<=g'){σ:XS}{r:Int}{a:List Int}{p:XS×OC}(h:jh c g σ r a=some p):jh c g' σ r a=some p:=pz (f:=λg=>jh c g σ r a) (λg=>(sf c g).call σ r a) hg h
theorem pA{c:XC}{g g':Nat}(hg:g<=g'){σ:XS}{l:List an}{p:XS×OC}(h:dY c g σ l=some p):dY c g' σ l=some p:=pz (f:=λg=>dY c g σ l) (λg=>(sf c g).block σ l) hg h
theorem WI{c:XC}{g g':Nat}(hg:g<=g'){σ:XS}{x:an}{p:XS×OC}(h:jy c g σ x=some p):jy c g' σ x=some p:=pz (f:=λg=>jy c g σ x) (λg=>(sf c g).stmt σ x) hg h
theorem WJ{c:XC}{g g':Nat}(hg:g<=g'){σ:XS}{l:List ax}{p:XS×OC}(h:jz c g σ l=some p):jz c g' σ l=some p:=pz (f:=λg=>jz c g σ l) (λg=>(sf c g).KD σ l) hg h
theorem Z7{c:XC}{g g':Nat}(hg:g<=g'){σ:XS}{e:ax}{p:XS×OC}(h:kG c g σ e=some p):kG c g' σ e=some p:=pz (f:=λg=>kG c g σ e) (λg=>(sf c g).say σ e) hg h
theorem Se{c:XC}{g g':Nat}(hg:g<=g'){σ:XS}{x:an}{p:XS×OC}(h:gu c g σ x=some p):gu c g' σ x=some p:=pz (f:=λg=>gu c g σ x) (λg=>(sf c g).KE σ x) hg h
theorem WK{c:XC}{g g':Nat}(hg:g<=g'){σ:XS}{x:an}{p:XS×OC}(h:fj c g σ x=some p):fj c g' σ x=some p:=pz (f:=λg=>fj c g σ x) (λg=>(sf c g).each σ x) hg h
theorem WM{c:XC}{g g':Nat}(hg:g<=g'){σ:XS}{x:an}{a:List Int}{p:XS×OC}(h:ib c g σ x a=some p):ib c g' σ x a=some p:=pz (f:=λg=>ib c g σ x a) (λg=>(sf c g).WG σ x a) hg h
def wh(c:XC)(d:Nat)(l r:List ai)(S L:List Int)(σ:MS)(b:List ai)(S0:List Int)(σ':XS):OC->Prop
 | .bO n=>ar n=n/\cI c d l r S L σ b (n::S0) σ'.Ls (bX σ')
 | .bH x=>dJ c d l r S L σ (.bH x (bX σ'))
 | .over=>dJ c d l r S L σ (.over (bX σ'))
 | .ret _=>False
def er(c:XC)(d:Nat)(l r:List ai)(S L:List Int)(σ:MS)(b:List ai)(S0:List Int)(σ':XS):OC->Prop
 | .bO _=>cI c d l r S L σ b S0 σ'.Ls (bX σ')
 | .bH x=>dJ c d l r S L σ (.bH x (bX σ'))
 | .over=>dJ c d l r S L σ (.over (bX σ'))
 | .ret n=>dJ c d l r S L σ (.ret n (bX σ'))
def HA(c:XC)(d:Nat)(l r:List ai)(S L:List Int)(σ:MS)(b:List ai)(S0:List Int)(σ':XS):List Int ⊕ OC->Prop
 | .inl a=>(∀n∈a,ar n=n)/\cI c d l r S L σ b (a.reverse++S0) σ'.Ls (bX σ')
 | .inr (.bH x)=>dJ c d l r S L σ (.bH x (bX σ'))
 | .inr .over=>dJ c d l r S L σ (.over (bX σ'))
 | .inr _=>False
theorem wh.pre{c:XC}{d:Nat}{l r r1:List ai}{S L S1 L1:List Int}{σ aR:MS}{b:List ai}{S0:List Int}{σ':XS}{o:OC}(h:cI c d l r S L σ r1 S1 L1 aR)(h2:wh c d l r1 S1 L1 aR b S0 σ' o):wh c d l r S L σ b S0 σ' o:=by
 cases o with
 | bO n=>exact⟨h2.1,h.trans h2.2⟩
 | bH x=>exact h.stop h2
 | over=>exact h.stop h2
 | ret n=>exact h2
theorem er.pre{c:XC}{d:Nat}{l r r1:List ai}{S L S1 L1:List Int}{σ aR:MS}{b:List ai}{S0:List Int}{σ':XS}{o:OC}(h:cI c d l r S L σ r1 S1 L1 aR)(h2:er c d l r1 S1 L1 aR b S0 σ' o):er c d l r S L σ b S0 σ' o:=by
 cases o with
 | bO n=>exact h.trans h2
 | bH x=>exact h.stop h2
 | over=>exact h.stop h2
 | ret n=>exact h.stop h2
theorem HA.toS{c:XC}{d:Nat}{l r b b':List ai}{S L:List Int}{σ:MS}{S0 S1:List Int}{σ':XS}{o:OC}(h:HA c d l r S L σ b S0 σ' (.inr o)):er c d l r S L σ b' S1 σ' o:=by
 cases o with
 | bO n=>exact h.elim
 | bH x=>exact h
 | over=>exact h
 | ret n=>exact h.elim
theorem HA.toE{c:XC}{d:Nat}{l r b b':List ai}{S L:List Int}{σ:MS}{S0 S1:List Int}{σ':XS}{o:OC}(h:HA c d l r S L σ b S0 σ' (.inr o)):wh c d l r S L σ b' S1 σ' o:=by
 cases o with
 | bO n=>exact h.elim
 | bH x=>exact h
 | over=>exact h
 | ret n=>exact h.elim
theorem mX(b:Bool):ar (ey b)=ey b:=by cases b<;>decide
theorem acm{c:XC}{d:Nat}{l:List ai}{i:ai}{b:List ai}{S S0 L:List Int}{σ:MS}{p:Option (aj×OC)}{Ju σ':XS}{o:OC}(hf:Go.Ab.flat i.Op)(hJ:instJ c i S L σ=iS true S0 L σ p)(Er:σ=bX Ju)(hL:L=Ju.Ls)
  (hp:p.map (λp=>(({Ju with W:=p.1}:XS),p.2))=some (σ',o)) (ho:∀n,o≠ .ret n) (hw:∀w x,p=some (w,.bH x)->w=Ju.W):wh c d l (i::b) S L σ b S0 σ' (mN (σ',o)).2:=by
 obtain⟨⟨w,o1⟩,h1,h2⟩:=ao8.1 hp;simp only[ao7]at h2;obtain⟨rfl,rfl⟩:=h2;rw[h1]at hJ;cases o1 with
 | bO n=>
   refine⟨wrap_wrap n,?_⟩;refine .flat hf ?_;rw[hJ,Er,hL];rfl
 | bH x=>
   have e:=hw w x h1;subst e;have:=dJ.bH (c:=c) (d:=d) (l:=l) (r:=b) (σ:=σ) hf hJ;rw[Er]at this⊢;exact this
 | over=>
   have:=dJ.over (c:=c) (d:=d) (l:=l) (r:=b) (σ:=σ) hf hJ;rw[Er]at this⊢;exact this
 | ret n=>exact(ho n rfl).elim
theorem Qn{α:Type}{p:Prop}[Decidable p]{a b x:α}{Q:Prop}(h:(if p then a else b)=x)(h1:a=x->Q)(h2:b=x->Q):Q:=by
 by_cases hp:p
 ·rw[if_pos hp]at h;exact h1 h
 ·rw[if_neg hp]at h;exact h2 h
theorem aeO{w w':aj}{p:Int×Int}{x:Int}(h:jv w p=(w',.bH x)):w'=w:=by
 unfold jv at h;split at h<;>simp at h
 exact h.1.symm
theorem acn{w w':aj}{p:aj×Int}{x:Int}(h:jc w p=(w',.bH x)):w'=w:=by
 unfold jc at h;split at h<;>simp at h
 exact h.1.symm
theorem aco{c:XC}{w w':aj}{k n:Int}{a:List Int}{o:OC}(h:di c w k n a=some (w',o)):(∀n,o≠ .ret n)/\(∀x,o= .bH x->w'=w):=by
 have key:∀p,jv w p=(w',o)->(∀n,o≠ .ret n)/\(∀x,o= .bH x->w'=w):=by
  intro p hp;refine⟨λn hn=>?_,λx hx=>?_⟩
  ·unfold jv at hp;split at hp<;>(rw[hn]at hp;simp at hp)
  ·rw[hx]at hp;exact aeO hp
 unfold di at h
 repeat' (refine Qn h (λh=>?_) (λh=>?_)<;>rename_i h9<;>clear h9)
 all_goals first
  | (simp only[anc]at h;exact key _ h)
  | (cases h;done)
  | (cases h;exact⟨λ_ hn=>(by cases hn),λ_ hx=>(by first|rfl|cases hx)⟩)
theorem Qo{c:XC}{w w':aj}{k n:Int}{a:List Int}{o:OC}(h:cG c w k n a=some (w',o)):(∀n,o≠ .ret n)/\(∀x,o= .bH x->w'=w):=by
 have key:∀p,jc w p=(w',o)->(∀n,o≠ .ret n)/\(∀x,o= .bH x->w'=w):=by
  intro p hp;refine⟨λn hn=>?_,λx hx=>?_⟩
  ·unfold jc at hp;split at hp<;>(rw[hn]at hp;simp at hp)
  ·rw[hx]at hp;exact acn hp
 unfold cG at h
 repeat' (refine Qn h (λh=>?_) (λh=>?_)<;>rename_i h9<;>clear h9)
 all_goals first
  | (simp only[anc]at h;exact key _ h)
  | (cases h;done)
  | (cases h;exact⟨λ_ hn=>(by cases hn),λ_ hx=>(by first|rfl|cases hx)⟩)
theorem acp{c:XC}{d:Nat}{l:List ai}{i:ai}{b:List ai}{S S0 L:List Int}{σ:MS}{p:Option (aj×OC)}{Ju σ':XS}{o:OC}(hf:Go.Ab.flat i.Op)(hJ:instJ c i S L σ=iS false S0 L σ p)(Er:σ=bX Ju)(hL:L=Ju.Ls)
  (hp:p.map (λp=>(({Ju with W:=p.1}:XS),p.2))=some (σ',o)) (ho:∀n,o≠ .ret n) (hw:∀w x,p=some (w,.bH x)->w=Ju.W):er c d l (i::b) S L σ b S0 σ' o:=by
 obtain⟨⟨w,o1⟩,h1,h2⟩:=ao8.1 hp;simp only[ao7]at h2;obtain⟨rfl,rfl⟩:=h2;rw[h1]at hJ;cases o1 with
 | bO n=>
   refine .flat hf ?_;rw[hJ,Er,hL];rfl
 | bH x=>
   have e:=hw w x h1;subst e;have:=dJ.bH (c:=c) (d:=d) (l:=l) (r:=b) (σ:=σ) hf hJ;rw[Er]at this⊢;exact this
 | over=>
   have:=dJ.over (c:=c) (d:=d) (l:=l) (r:=b) (σ:=σ) hf hJ;rw[Er]at this⊢;exact this
 | ret n=>exact(ho n rfl).elim
theorem lk{e:ax}{n:Int}{op num named:Bool}(h:fG e n op num named=true):(e.aF.length:Int)=n:=by
 unfold fG at h;simp only[apb,decide_eq_true_eq]at h;exact h.1.1.1
theorem ll{t:aq}{e:ax}{loc:Int}(h:im t e loc false=true):((e.Kind=1\/e.Kind=14\/e.Kind=15\/e.Kind=12)/\e.aF.length=0)\/((e.Kind=4\/e.Kind=5\/e.Kind=11\/e.Kind=16\/e.Kind=17\/e.Kind=10)/\e.aF.length=1)\/(e.Kind=6/\e.aF.length=2)\/(e.Kind=18/\my t e.aK=e.aF.length):=by
 unfold im at h;by_cases k1:e.Kind=1
 ·rw[if_pos k1,apb]at h;have:=lk h.1;omega
 rw[if_neg k1]at h;by_cases k14:e.Kind=14
 ·rw[if_pos k14,apb]at h;have:=lk h.1;omega
 rw[if_neg k14]at h;by_cases k15:e.Kind=15
 ·rw[if_pos k15,apb,apb]at h;have:=lk h.1.1;omega
 rw[if_neg k15]at h;by_cases k19:e.Kind=19
 ·rw[if_pos k19]at h;simp at h
 rw[if_neg k19]at h;by_cases k4:e.Kind=4\/e.Kind=5\/e.Kind=11
 ·rw[if_pos k4]at h;have:=lk h;omega
 rw[if_neg k4]at h;by_cases k13:e.Kind=13
 ·rw[if_pos k13]at h;simp at h
 rw[if_neg k13]at h;by_cases k6:e.Kind=6
 ·rw[if_pos k6,apb]at h;have:=lk h.1;omega
 rw[if_neg k6]at h;by_cases k16:e.Kind=16
 ·rw[if_pos k16,apb,apb]at h;have:=lk h.1.1;omega
 rw[if_neg k16]at h;by_cases k17:e.Kind=17
 ·rw[if_pos k17,apb]at h;have:=lk h.1;omega
 rw[if_neg k17]at h;by_cases k18:e.Kind=18
 ·rw[if_pos k18,apb,decide_eq_true_eq]at h;exact Or.inr (Or.inr (Or.inr ⟨k18,h.2⟩))
 rw[if_neg k18]at h;by_cases s7:e.Kind=10
 ·rw[if_pos s7,apb]at h;have:=lk h.1;omega
 rw[if_neg s7]at h;by_cases Jw:e.Kind=12
 ·rw[if_pos Jw,apb]at h;have:=lk h.1;omega
 rw[if_neg Jw]at h;cases h
theorem aeP{c:XC}{w:aj}{k n:Int}{a:List Int}{x:aj×OC}(h:di c w k n a=some x):okW c w=true:=by
 cases ho:okW c w with
 | true=>rfl
 | false=>unfold di at h;rw[if_pos ho]at h;cases h
theorem aeQ{c:XC}{w:aj}{k n:Int}{a:List Int}{x:aj×OC}(h:cG c w k n a=some x):okW c w=true:=by
 cases ho:okW c w with
 | true=>rfl
 | false=>unfold cG at h;rw[if_pos ho]at h;cases h
theorem acq(S L:List Int)(σ:MS)(p:Int×Int):some (FM S L σ p)=iS true S L σ (some (jv σ.W p)):=by
 unfold FM jv;split<;>rfl
theorem Es{α:Type}{l:List α}(h:l.length=1):∃x,l=[x]:=by
 match l,h with
 | [x],_=>exact⟨x,rfl⟩
theorem Qp{α:Type}{l:List α}(h:l.length=2):∃x y,l=[x,y]:=by
 match l,h with
 | [x,y],_=>exact⟨x,y,rfl⟩
theorem inst_val{c:XC}{e:ax}{a:List Int}{t:aq}{loc:Int}(hb:im t e loc false=true)(uC:e.Kind≠18)(oP:e.Kind≠15)(ha:a.length=e.aF.length)(S L:List Int)(σ:MS)(aN:okW c σ.W=true):
  Go.Ab.flat (dD e).Op/\instJ c (dD e) (a.reverse++S) L σ=iS true S L σ (di c σ.W e.Kind (lQ e) a):=by
 rcases ll hb with⟨hk,hl⟩|⟨hk,hl⟩|⟨hk,hl⟩|⟨hk,_⟩
 ·rw[hl]at ha;obtain rfl:=apZ.1 ha;rcases hk with hk|hk|hk|hk
  ·simp[dD,lQ,hk,instJ,di,aN,iS,ub]
  ·simp[dD,lQ,hk,instJ,dI,dk,Go.Ab.flat]
  ·exact(oP hk).elim
  ·simp[dD,lQ,hk,instJ,dI,dk,Go.Ab.flat]
 ·rw[hl]at ha;obtain⟨x,rfl⟩:=Es ha;have hx:aB [x] 0=x:=rfl;rcases hk with hk|hk|hk|hk|hk|hk
  ·simp[dD,lQ,hk,instJ,dI,di,aN,iS,adf,hx]
  ·refine⟨by simp[dD,hk,DW],?_⟩;simp[dD,lQ,hk,instJ,dI,di,aN,iS,hx,notM,mX]
  ·simp[dD,lQ,hk,instJ,dI,dk,Go.Ab.flat,di,aN,hx]
  ·simp[dD,lQ,hk,instJ,dI,dk,Go.Ab.flat]
  ·simp[dD,lQ,hk,instJ,dI,dk,Go.Ab.flat]
  ·simp[dD,lQ,hk,instJ,dI,dk,Go.Ab.flat]
 ·rw[hl]at ha;obtain⟨x,y,rfl⟩:=Qp ha;have hx:aB [x,y] 0=x:=rfl;have hy:aB [x,y] 1=y:=rfl;refine⟨by simp[dD,hk,ade],?_⟩;simp[dD,lQ,hk,instJ,dI,di,aN,hx,hy,acq]
 ·exact(uC hk).elim
theorem aeR{c:XC}{σ σ':XS}{e:ax}{a:List Int}{o:OC}{t:aq}{loc:Int}(h:Ko c σ e a=some (σ',o))(hb:im t e loc false=true)(uC:e.Kind≠18)(ha:a.length=e.aF.length)(d:Nat)(l b:List ai)(S:List Int):
  wh c d l (dD e::b) (a.reverse++S) σ.Ls (bX σ) b S σ' (mN (σ',o)).2/\σ'.Dp=σ.Dp:=by
 unfold Ko at h;by_cases oP:e.Kind=15
 ·rw[if_pos oP]at h;split at h
  ·rename_i cp;simp only[anc,ao7]at h;obtain⟨rfl,rfl⟩:=h;have hl:a=[]:=by
    rcases ll hb with⟨hk,hl⟩|⟨hk,hl⟩|⟨hk,hl⟩|⟨hk,_⟩
    ·rw[hl]at ha;exact apZ.1 ha
    ·omega
    ·omega
    ·omega
   subst hl;refine⟨⟨wrap_wrap _,?_⟩,rfl⟩;refine .flat (by simp[dD,oP,Go.Ab.flat]) ?_;simp[dD,oP,instJ,cp]
  ·cases h
 ·rw[if_neg oP]at h;cases hv:di c σ.W e.Kind (lQ e) a with
  | none=>rw[hv]at h;cases h
  | some x=>
    have aN:=aeP hv;obtain⟨hf,hJ⟩:=inst_val hb uC oP ha S σ.Ls (bX σ) aN;have agf:=λw' o1 (he:di c σ.W e.Kind (lQ e) a=some (w',o1))=>aco he
    refine⟨acm hf hJ rfl rfl h ?_ ?_,?_⟩
    ·obtain⟨w1,o1⟩:=x;have h2:=h;rw[hv]at h2;simp only[apB,anc,ao7]at h2;rw[<-h2.2];exact(agf w1 o1 hv).1
    ·intro w x1 hw;exact(agf w _ hw).2 x1 rfl
    ·rw[hv]at h;simp only[apB,anc,ao7]at h;rw[<-h.1]
def WL(l:List Int):Prop:=∀n∈l,ar n=n
theorem WL.get{l:List Int}(h:WL l)(i:Int):ar (aB l i)=aB l i:=by
 unfold aB;cases hx:l[i.toNat]? with
 | none=>rfl
 | some v=>exact h v (ape hx)
theorem WL.set{l:List Int}(h:WL l)(i:Nat){n:Int}(hn:ar n=n):WL (l.set i n):=by
 intro x hx;rcases ars hx with hx|hx
 ·exact h x hx
 ·rw[hx];exact hn
theorem iG.ahR{t:aq}{w:aj}(h:iG t w)(k x:Int):0<=(dh w k x).1/\(dh w k x).1<128:=by
 have hl:=h.hT;have hn:=h.hn;unfold dh;by_cases hk:k=1\/k=2\/k=3
 ·rw[if_pos hk];by_cases hx:bU w.ah.length (ar x)=true
  ·rw[if_pos hx];have hb:=aY.1 hx;have e1:w.tree.bn=w.ah:=rfl;have e2:w.tree.gn=w.Child:=rfl;have e3:w.tree.gq=w.Next:=rfl;have wq:=h.nest.up _ hb.1 hb.2;have mh:=(h.nest.ch _ hb.1 hb.2).head;rw[e2]at mh;rw[e1,e3]at wq;show 0<=(if k=1 then _ else if k=2 then _ else _)/\(if k=1 then _ else if k=2 then _ else _)<128;split
   ·omega
   ·split
    ·omega
    ·rcases wq with⟨_,h0⟩|⟨h1,h2⟩
     ·omega
     ·have:=(h.nest.ch _ h1.1 h1.2).Wm _ h2;rw[e3]at this;omega
  ·rw[if_neg hx];decide
 ·rw[if_neg hk];decide
theorem Jx{c:XC}{w:aj}(hf:fD c.B.Tables=true)(h:okW c w=true):iG c.B.Tables w:=by
 unfold okW at h;rw[apb,decide_eq_true_eq]at h;exact iG.of hf h.1 h.2
theorem L5{c:XC}{w:aj}(hf:fD c.B.Tables=true)(h:okW c w=true)(k x:Int):ar (dh w k x).1=(dh w k x).1:=by
 have:=(Jx hf h).ahR k x;exact Tm (by omega)
def mS(x:an)(m:Int):Int:=if x.Kind=9 then(if x.bW=[]then m+1 else m+2)else if x.Kind=11 then m+2 else m
def kS(x:an)(m:Int):Int:=(aZ x.aF (mS x m)).2
def mV(x:an)(m:Int):List ai:=[⟨38,m⟩,⟨5,x.aK⟩,⟨25,m+1⟩,tick,⟨5,x.aK⟩,⟨19,3⟩,⟨6,x.aK+1⟩]++(bl x.Body (kS x m)).1++ [⟨5,x.aK+1⟩,⟨6,x.aK⟩,⟨24,m⟩,⟨38,m+1⟩]
def kz(x:an)(m:Int):List ai:=
 if x.Kind=9 then(if x.bW=[]then [⟨25,m⟩]++(bl x.Body (kS x m)).1++ [⟨38,m⟩]else [⟨25,m⟩]++(bl x.Body (kS x m)).1++ [⟨24,m+1⟩,⟨38,m⟩]++(bl x.bW (bl x.Body (kS x m)).2).1++ [⟨38,m+1⟩])
 else if x.Kind=11 then [⟨19,2⟩,⟨6,x.aK⟩]++mV x m
 else [gQ x.Kind x.aK]
theorem L6(x:an)(m:Int)(h1:x.Kind≠1)(eu:x.Kind≠10):(dy x m).1=tick::((aZ x.aF (mS x m)).1++kz x m):=by
 unfold kz kS mS;by_cases h9:x.Kind=9
 ·by_cases he:x.bW=[]
  ·rw[BU x m h9 he];simp[h9,he]
  ·rw[BV x m h9 he];simp[h9,he]
 ·by_cases jP:x.Kind=11
  ·rw[zH x m jP];simp[h9,jP,mV,kS,mS]
  ·rw[wY x m h9 eu jP h1];simp[h9,jP]
theorem HB{c:XC}{σ σ':XS}{o:OC}(h:ua c σ=some (σ',o))(d:Nat)(l b:List ai)(S:List Int):
  σ'.Ls=σ.Ls/\σ'.Dp=σ.Dp/\σ'.W=σ.W/\((∃n,o= .bO n/\cI c d l (tick::b) S σ.Ls (bX σ) b S σ'.Ls (bX σ'))\/(o= .bH 19/\dJ c d l (tick::b) S σ.Ls (bX σ) (.bH 19 (bX σ')))):=by
 unfold ua at h;split at h
 ·rename_i hg;have lY:Go.Ab.flat tick.Op:=by simp[tick,Go.Ab.flat]
  split at h
  ·rename_i hm;simp only[anc,ao7]at h;obtain⟨rfl,rfl⟩:=h;refine⟨rfl,rfl,rfl,Or.inr ⟨rfl,.bH lY ?_⟩⟩;simp[tick,instJ,bX,hg,hm]
  ·rename_i hm;simp only[anc,ao7]at h;obtain⟨rfl,rfl⟩:=h;refine⟨rfl,rfl,rfl,Or.inl ⟨0,rfl,.flat lY ?_⟩⟩;simp[tick,instJ,bX,hg,hm]
 ·cases h
theorem Fv{c:XC}{σ σ':XS}{o:OC}{s:ByteArray}(h:z7 σ s=some (σ',o)){i:ai}(hf:Go.Ab.flat i.Op){S S0:List Int}(hJ:instJ c i S σ.Ls (bX σ)=yU S0 σ.Ls (bX σ) s)(d:Nat)(l b:List ai):
  σ'.Ls=σ.Ls/\σ'.Dp=σ.Dp/\(∃n,o= .bO n)/\er c d l (i::b) S σ.Ls (bX σ) b S0 σ' o:=by
 unfold z7 at h;split at h
 ·rename_i hs;simp only[anc,ao7]at h;obtain⟨rfl,rfl⟩:=h;refine⟨rfl,rfl,⟨0,rfl⟩,.flat hf ?_⟩;rw[hJ,yU,if_pos (by exact hs)];rfl
 ·cases h
structure uw(c:XC) (g:Nat):Prop where
 ask:∀σ e σ' o,dR c g σ e=some (σ',o)->∀loc,cT c.B.Tables loc e false=true->σ'.Dp=σ.Dp/\σ'.Ls=σ.Ls/\(WL σ.Ls->∀(m:Int) (l a b:List ai),l=a++((aX e m).1++b)->(bQ l).Nodup->∀(d:Nat) (S:List Int),σ.Dp=d->
  wh c d l ((aX e m).1++b) S σ.Ls (bX σ) b S σ' o)
 asks:∀σ es σ' o,dO c g σ es=some (σ',o)->∀loc,(∀e∈es,cT c.B.Tables loc e false=true)->σ'.Dp=σ.Dp/\σ'.Ls=σ.Ls/\(∀a,o= .inl a->a.length=es.length)/\(WL σ.Ls->∀(m:Int) (l a b:List ai),l=a++((aZ es m).1++b)->(bQ l).Nodup->∀(d:Nat) (S:List Int),σ.Dp=d->
  HA c d l ((aZ es m).1++b) S σ.Ls (bX σ) b S σ' o)
 call:∀σ r a σ' o,jh c g σ r a=some (σ',o)->σ'.Dp=σ.Dp/\σ'.Ls=σ.Ls/\∀(d:Nat),σ.Dp=d->(32<=d->o= .bH 17/\bX σ'=bX σ)/\(d<32->match o with
  | .bO n=>dJ c (d+1) (cK c.B r) (cK c.B r) [] ((bN c).lo r a) (bX σ) (.ret n (bX σ'))
  | .bH x=>dJ c (d+1) (cK c.B r) (cK c.B r) [] ((bN c).lo r a) (bX σ) (.bH x (bX σ'))
  | .over=>dJ c (d+1) (cK c.B r) (cK c.B r) [] ((bN c).lo r a) (bX σ) (.over (bX σ'))
  | .ret _=>False)
 block:∀σ ls σ' o,dY c g σ ls=some (σ',o)->∀loc,(∀s∈ls,eJ c.B.Tables loc s=true)->σ'.Dp=σ.Dp/\(WL σ.Ls->WL σ'.Ls/\∀(m:Int) (l a b:List ai),l=a++((bl ls m).1++b)->(bQ l).Nodup->∀(d:Nat) (S:List Int),σ.Dp=d->
  er c d l ((bl ls m).1++b) S σ.Ls (bX σ) b S σ' o)
 stmt:∀σ x σ' o,jy c g σ x=some (σ',o)->∀loc,eJ c.B.Tables loc x=true->σ'.Dp=σ.Dp/\(WL σ.Ls->WL σ'.Ls/\∀(m:Int) (l a b:List ai),l=a++((dy x m).1++b)->(bQ l).Nodup->∀(d:Nat) (S:List Int),σ.Dp=d->
  er c d l ((dy x m).1++b) S σ.Ls (bX σ) b S σ' o)
 KD:∀σ es σ' o,jz c g σ es=some (σ',o)->∀loc,(∀e∈es,cT c.B.Tables loc e true=true)->σ'.Dp=σ.Dp/\σ'.Ls=σ.Ls/\(WL σ.Ls->∀(m:Int) (l a b:List ai),l=a++((df es m).1++b)->(bQ l).Nodup->∀(d:Nat) (S:List Int),σ.Dp=d->
  er c d l ((df es m).1++b) S σ.Ls (bX σ) b S σ' o)
 say:∀σ e σ' o,kG c g σ e=some (σ',o)->∀loc,cT c.B.Tables loc e true=true->σ'.Dp=σ.Dp/\σ'.Ls=σ.Ls/\(WL σ.Ls->∀(m:Int) (l a b:List ai),l=a++((hU e m).1++b)->(bQ l).Nodup->∀(d:Nat) (S:List Int),σ.Dp=d->
  er c d l ((hU e m).1++b) S σ.Ls (bX σ) b S σ' o)
 KE:∀σ x σ' o,gu c g σ x=some (σ',o)->x.Kind=10->∀loc,eJ c.B.Tables loc x=true->σ'.Dp=σ.Dp/\(WL σ.Ls->WL σ'.Ls/\∀(m:Int) (l a b:List ai),l=a++((dy x m).1++b)->(bQ l).Nodup->∀(d:Nat) (S:List Int),σ.Dp=d->
  er c d l ((dy x m).1++b) S σ.Ls (bX σ) b S σ' o)
 each:∀σ x σ' o,fj c g σ x=some (σ',o)->x.Kind=11->∀loc,eJ c.B.Tables loc x=true->σ'.Dp=σ.Dp/\(WL σ.Ls->WL σ'.Ls/\∀(m:Int) (l a b:List ai),l=a++(mV x m++b)->(bQ l).Nodup->∀(d:Nat) (S:List Int),σ.Dp=d->
  er c d l (mV x m++b) S σ.Ls (bX σ) b S σ' o)
 WG:∀σ x v σ' o,ib c g σ x v=some (σ',o)->x.Kind≠1->x.Kind≠10->v.length=x.aF.length->∀loc,eJ c.B.Tables loc x=true->σ'.Dp=σ.Dp/\(WL σ.Ls->(∀n∈v,ar n=n)->WL σ'.Ls/\∀(m:Int) (l a b:List ai),l=a++(kz x m++b)->(bQ l).Nodup->∀(d:Nat) (S:List Int),σ.Dp=d->
  er c d l (kz x m++b) (v.reverse++S) σ.Ls (bX σ) b S σ' o)
theorem Qq{c:XC}:∀{g:Nat} {es:List ax} {σ σ':XS} {o:OC},dO c g σ es=some (σ',.inr o)->∀n,o≠ .bO n
 | 0,es,σ,σ',o,h=>by simp[dO]at h
 | g+1,[],σ,σ',o,h=>by rw[dO]at h;simp at h
 | g+1,e::es,σ,σ',o,h=>by
   rw[dO]at h;cases he:dR c g σ e with
   | none=>rw[he]at h;cases h
   | some p=>
     obtain⟨aR,o1⟩:=p;rw[he]at h;cases o1 with
     | bO n=>
       simp only at h;cases Et:dO c g aR es with
       | none=>rw[Et]at h;cases h
       | some q=>
         obtain⟨cj,o2⟩:=q;rw[Et]at h;rcases o2 with w|o2
         ·simp at h
         ·simp only[anc,ao7,Sum.inr.injEq]at h;rw[<-h.2];exact Qq Et
     | bH x=>simp only[anc,ao7,Sum.inr.injEq]at h;rw[<-h.2];intro n hn;cases hn
     | over=>simp only[anc,ao7,Sum.inr.injEq]at h;rw[<-h.2];intro n hn;cases hn
     | ret x=>simp only[anc,ao7,Sum.inr.injEq]at h;rw[<-h.2];intro n hn;cases hn
theorem Qr{c:XC}{g:Nat}{σ σ':XS}{e:ax}{n:Int}(h:dR c g σ e=some (σ',.bO n)):ar n=n:=by
 have wt:∀b,ar (ey b)=ey b:=mX;cases g with
 | zero=>simp[dR]at h
 | succ g=>
   rw[dR]at h
   repeat' split at h
   all_goals (try (simp only[ao8]at h))
   all_goals first
    | (cases h;done)
    | (simp only[anc,ao7,OC.bO.injEq]at h;rw[<-h.2];exact wt _)
    | (obtain⟨⟨cj,o2⟩,_,h2⟩:=h
       cases o2<;>simp only[mN,ao7,OC.bO.injEq,reduceCtorEq,and_false]at h2
       rw[<-h2.2];exact wrap_wrap _)
    | (rename_i hh;exact(hh _ _ h).elim)
    | (rename_i hh;simp only[anc,ao7]at h;exact(Qq hh n h.2).elim)
theorem Eu{c:XC}:∀{g:Nat} {es:List ax} {σ σ':XS} {v:List Int},dO c g σ es=some (σ',.inl v)->∀n∈v,ar n=n
 | 0,es,σ,σ',v,h=>by simp[dO]at h
 | g+1,[],σ,σ',v,h=>by
   rw[dO]at h;simp only[anc,ao7,Sum.inl.injEq]at h;intro n hn;rw[<-h.2]at hn;cases hn
 | g+1,e::es,σ,σ',v,h=>by
   rw[dO]at h;cases he:dR c g σ e with
   | none=>rw[he]at h;cases h
   | some p=>
     obtain⟨aR,o1⟩:=p;rw[he]at h;cases o1 with
     | bO n=>
       simp only at h;cases Et:dO c g aR es with
       | none=>rw[Et]at h;cases h
       | some q=>
         obtain⟨cj,o2⟩:=q;rw[Et]at h;rcases o2 with w|o2
         ·simp only[anc,ao7,Sum.inl.injEq]at h;intro x hx;rw[<-h.2]at hx;rcases apq.1 hx with rfl|hx
          ·exact Qr he
          ·exact Eu Et x hx
         ·simp at h
     | bH x=>simp at h
     | over=>simp at h
     | ret x=>simp at h
structure jI(b:cM):Prop where
 fits:fD b.Tables=true
 len:b.aO.length=b.Tables.Params.length
 bnd:∀r,fM b.aO r->iq b.Tables (aB b.Tables.aL r) (b.aO[r.toNat]?.getD [])=true
theorem acr:ar 1=1:=by decide
theorem Ew:ar 0=0:=by decide
theorem cI.push{c d l r n S L σ}:cI c d l (⟨1,n⟩::r) S L σ r (ar n::S) L σ:= .flat ub (by rfl)
theorem cI.test{c d l r n v S L σ}:cI c d l (⟨11,n⟩::r) (v::S) L σ r (ey (decide (v≠0))::S) L σ:= .flat Y2 (by rfl)
theorem acs{c}{g}(ih:uw c g):∀σ e σ' o,dR c (g+1) σ e=some (σ',o)→∀loc,cT c.B.Tables loc e false=true→σ'.Dp=σ.Dp∧σ'.Ls=σ.Ls∧(WL σ.Ls→∀m l a b,l=a++((aX e m).1++b)→(bQ l).Nodup→∀(d:Nat) S,σ.Dp=d→
  wh c d l ((aX e m).1++b) S σ.Ls (bX σ) b S σ' o):=by
 intro σ e σ' o h loc hb;rw[dR]at h;by_cases HC:e.Kind=6/\(e.Op=1\/e.Op=2)
 ·rw[if_pos HC]at h;obtain⟨x,y,oa⟩:=Gm hb HC.1;rw[oa]at h;simp only at h;have gS:=zF hb (x:=x) (by grind);have kI:=zF hb (x:=y) (by grind);cases hx:dR c g σ x with
  | none=>grind
  | some p=>
    obtain⟨aR,o1⟩:=p;rw[hx]at h;obtain⟨d1,l1,r1⟩:=ih.ask σ x aR o1 hx loc gS;have code:∀(m:Int) (b:List ai),∃(C:List ai),(aX e m).1++b=(aX x (m+2)).1++(⟨25,m⟩::C)/\C=(if e.Op=1 then⟨1,1⟩::⟨24,m+1⟩::⟨38,m⟩::((aX y (aX x (m+2)).2).1++(⟨11,0⟩::⟨38,m+1⟩::b))else(aX y (aX x (m+2)).2).1++(⟨11,0⟩::⟨24,m+1⟩::⟨38,m⟩::⟨1,0⟩::⟨38,m+1⟩::b)):=by
     intro m b;refine⟨_,?_,rfl⟩;by_cases ho:e.Op=1
     ·rw[Fj e x y [] m HC.1 ho oa,if_pos ho];simp
     ·have DH:e.Op=2:=HC.2.resolve_left ho;rw[BK e x y [] m HC.1 DH oa,if_neg ho];simp
    cases o1 with
    | bH v=>
      simp only[anc,ao7]at h;obtain⟨rfl,rfl⟩:=h;refine⟨d1,l1,λhW m l a b hl hu d S hd=>?_⟩;obtain⟨C,e1,_⟩:=code m b;rw[e1]at hl⊢;exact r1 hW (m+2) l a _ hl hu d S hd
    | over=>
      simp only[anc,ao7]at h;obtain⟨rfl,rfl⟩:=h;refine⟨d1,l1,λhW m l a b hl hu d S hd=>?_⟩;obtain⟨C,e1,_⟩:=code m b;rw[e1]at hl⊢;exact r1 hW (m+2) l a _ hl hu d S hd
    | ret v=>
      simp only[anc,ao7]at h;obtain⟨rfl,rfl⟩:=h;refine⟨d1,l1,λhW m l a b hl hu d S hd=>?_⟩;obtain⟨C,e1,_⟩:=code m b;rw[e1]at hl;exact(r1 hW (m+2) l a _ hl hu d S hd).elim
    | bO v=>
      simp only at h;by_cases hc:decide (v≠0)=decide (e.Op=1)
      ·rw[if_pos hc]at h;simp only[anc,ao7]at h;obtain⟨rfl,rfl⟩:=h;refine⟨d1,l1,λhW m l a b hl hu d S hd=>?_⟩;obtain⟨C,e1,e2⟩:=code m b;rw[e1]at hl⊢;obtain⟨hv,oQ⟩:=r1 hW (m+2) l a _ hl hu d S hd;refine⟨mX _,oQ.trans ?_⟩;by_cases ho:e.Op=1
       ·rw[if_pos ho]at e2;have L7:v≠0:=by grind
        subst e2;refine(cI.Fq (by omega)).trans (cI.push.trans ?_);refine(cI.jump (a:=a++((aX x (m+2)).1++(⟨25,m⟩::⟨1,1⟩::⟨24,m+1⟩::⟨38,m⟩::((aX y (aX x (m+2)).2).1++ [⟨11,0⟩])))) (b:=b) (by grind) hu).trans ?_;grind[ey,decide,ar,acr,cI.refl]
       ·rw[if_neg ho]at e2;have L7:v=0:=by grind
        subst e2;refine(cI.Fp (a:=a++((aX x (m+2)).1++(⟨25,m⟩::((aX y (aX x (m+2)).2).1++ [⟨11,0⟩,⟨24,m+1⟩])))) (b:=⟨1,0⟩::⟨38,m+1⟩::b) (by grind) hu (by omega)).trans ?_;refine cI.push.trans (cI.label.trans ?_);grind[ey,decide,ar,Ew,cI.refl]
      ·rw[if_neg hc]at h;cases hy:dR c g aR y with
       | none=>grind
       | some q=>
         obtain⟨cj,o2⟩:=q;rw [hy]at h;obtain⟨d2,l2,r2⟩:=ih.ask aR y cj o2 hy loc kI;have to2:WL σ.Ls→∀(m:Int) (l a b:List ai),l=a++((aX e m).1++b)→(bQ l).Nodup→∀(d:Nat) (S:List Int),σ.Dp=d→
           ∃b2,cI c d l ((aX e m).1++b) S σ.Ls (bX σ) ((aX y (aX x (m+2)).2).1++(⟨11,0⟩::b2)) S aR.Ls (bX aR)/\(∀u,cI c d l b2 [u] cj.Ls (bX cj) b [u] cj.Ls (bX cj))/\(∀u S,cI c d l b2 (u::S) cj.Ls (bX cj) b (u::S) cj.Ls (bX cj))/\∃a2,l=a2++((aX y (aX x (m+2)).2).1++(⟨11,0⟩::b2)):=by
          intro hW m l a b hl hu d S hd;obtain⟨C,e1,e2⟩:=code m b;rw[e1]at hl⊢;obtain⟨hv,oQ⟩:=r1 hW (m+2) l a _ hl hu d S hd;by_cases ho:e.Op=1
          ·rw[if_pos ho]at e2;have L7:v=0:=by
            grind
           subst e2;refine⟨⟨38,m+1⟩::b,oQ.trans (cI.Fp (a:=a++((aX x (m+2)).1++ [⟨25,m⟩,⟨1,1⟩,⟨24,m+1⟩])) (by grind) hu (by omega)),λu=> .label,λu S=> .label,a++((aX x (m+2)).1++ [⟨25,m⟩,⟨1,1⟩,⟨24,m+1⟩,⟨38,m⟩]),by grind⟩
          ·rw[if_neg ho]at e2;have L7:v≠0:=by
            grind
           subst e2;refine⟨⟨24,m+1⟩::⟨38,m⟩::⟨1,0⟩::⟨38,m+1⟩::b,oQ.trans (cI.Fq (by omega)),?_,?_,a++((aX x (m+2)).1++ [⟨25,m⟩]),by grind⟩
           ·intro u;exact cI.jump (a:=a++((aX x (m+2)).1++(⟨25,m⟩::((aX y (aX x (m+2)).2).1++ [⟨11,0⟩,⟨24,m+1⟩,⟨38,m⟩,⟨1,0⟩])))) (b:=b) (by grind) hu
           ·intro u S;exact cI.jump (a:=a++((aX x (m+2)).1++(⟨25,m⟩::((aX y (aX x (m+2)).2).1++ [⟨11,0⟩,⟨24,m+1⟩,⟨38,m⟩,⟨1,0⟩])))) (b:=b) (by grind) hu
         have nz:WL σ.Ls->WL aR.Ls:=λhW=>by grind
         cases o2 with
         | bO u=>
           simp only[anc,ao7]at h;obtain⟨rfl,rfl⟩:=h;refine⟨d2.trans d1,l2.trans l1,λhW m l a b hl hu d S hd=>?_⟩;obtain⟨b2,g1,_,g2,a2,lZ⟩:=to2 hW m l a b hl hu d S hd;obtain⟨nG,g3⟩:=r2 (nz hW) _ l a2 _ lZ hu d S (d1.trans hd);exact⟨mX _,g1.trans (g3.trans (cI.test.trans (g2 _ _)))⟩
         | bH u=>
           simp only[anc,ao7]at h;obtain⟨rfl,rfl⟩:=h;refine⟨d2.trans d1,l2.trans l1,λhW m l a b hl hu d S hd=>?_⟩;obtain⟨b2,g1,_,g2,a2,lZ⟩:=to2 hW m l a b hl hu d S hd;exact g1.stop (r2 (nz hW) _ l a2 _ lZ hu d S (d1.trans hd))
         | over=>
           simp only[anc,ao7]at h;obtain⟨rfl,rfl⟩:=h;refine⟨d2.trans d1,l2.trans l1,λhW m l a b hl hu d S hd=>?_⟩;obtain⟨b2,g1,_,g2,a2,lZ⟩:=to2 hW m l a b hl hu d S hd;exact g1.stop (r2 (nz hW) _ l a2 _ lZ hu d S (d1.trans hd))
         | ret u=>
           simp only[anc,ao7]at h;obtain⟨rfl,rfl⟩:=h;refine⟨d2.trans d1,l2.trans l1,λhW m l a b hl hu d S hd=>?_⟩;obtain⟨b2,g1,_,g2,a2,lZ⟩:=to2 hW m l a b hl hu d S hd;exact(r2 (nz hW) _ l a2 _ lZ hu d S (d1.trans hd)).elim
 ·rw[if_neg HC]at h;by_cases hs:zy e.aF
  ·rw[if_neg (by omega)]at h;cases ha:dO c g σ e.aF with
   | none=>grind
   | some p=>
     obtain⟨aR,o1⟩:=p;rw[ha]at h;rw[mT,apb]at hb;obtain⟨me,Co⟩:=hb;rw[pv,apd]at Co;obtain⟨d1,l1,n1,r1⟩:=ih.asks σ e.aF aR o1 ha loc Co;have nz:WL σ.Ls->WL aR.Ls:=λhW=>by grind
     have code:∀(m:Int) (b:List ai),(aX e m).1++b=(aZ e.aF m).1++(dD e::b):=by
      intro m b;rw[ui e m HC];simp
     rcases o1 with v|o1
     ·simp only at h;have hlen:=n1 v rfl;by_cases uC:e.Kind=18
      ·rw[if_pos uC]at h;split at h
       ·rename_i cp;obtain⟨⟨cj,o2⟩,pS,h2⟩:=ao8.1 h;obtain⟨d2,l2,r2⟩:=ih.call aR _ v cj o2 pS;have Er:σ'=cj:=by
         have:=congrArg Prod.fst h2;unfold mN at this;grind
        have Z8:o=(mN (cj,o2)).2:=(congrArg Prod.snd h2).symm;subst Er;refine⟨d2.trans d1,l2.trans l1,λhW m l a b hl hu d S hd=>?_⟩;rw[code]at hl⊢;obtain⟨L8,g1⟩:=r1 hW m l a _ hl hu d S hd;obtain⟨q1,q2⟩:=r2 d (d1.trans hd);have eW:dD e=⟨26,e.aK⟩:=by simp[dD,uC]
        have TL:(bN c).fn e.aK=aB c.B.Tables.cV e.aK:=if_pos cp;have oe:(bN c).pa ((bN c).fn e.aK)=v.length:=by
         rw[TL];rcases ll me with⟨hk,_⟩|⟨hk,_⟩|⟨hk,_⟩|⟨_,hp⟩
         ·omega
         ·omega
         ·omega
         ·have bR:my c.B.Tables e.aK≠ -1:=by omega
          unfold my at hp bR;split at hp
          ·rename_i OA;show(aB c.B.Tables.Params (aB c.B.Tables.cV e.aK)).toNat=v.length;grind[aB]
          omega
        rw[eW]at hl g1⊢;refine wh.pre g1 ?_;by_cases fL:32<=d
        ·obtain⟨ho,hm⟩:=q1 fL;subst ho;subst Z8;show dJ c d l (⟨26,e.aK⟩::b) (v.reverse++S) aR.Ls (bX aR) (.bH 17 (bX σ'));rw[hm];have yX:0<=(bN c).fn e.aK:=by
          rw[TL];rcases ll me with⟨hk,_⟩|⟨hk,_⟩|⟨hk,_⟩|⟨_,hp⟩
          ·omega
          ·omega
          ·omega
          ·have bR:my c.B.Tables e.aK≠ -1:=by omega
           unfold my at bR;split at bR
           ·rename_i OA;rw[apb]at OA;grind[eF,aB]
           omega
         exact⟨1,1,by rw[run,DU rfl,if_pos fL];grind⟩
        ·have hq:=q2 (by omega);have sW:nx (bN c) d l ⟨26,e.aK⟩ b (v.reverse++S) aR.Ls (bX aR)= .call (aB c.B.Tables.cV e.aK) v S:=by
          rw[DU rfl,if_neg fL];grind
         cases o2 with
         | bO n=>
           subst Z8;refine⟨wrap_wrap _,?_⟩;intro g' o' k' hr;obtain⟨gc,kc,hc⟩:=hq;refine⟨gc+g'+1,k'+kc+1,?_⟩;rw[l2]at hr;rw[run,sW];simp only[BH gc (gc+g') _ _ _ _ _ _ _ (by omega) hc];rw[BH g' (gc+g') _ _ _ _ _ _ _ (by omega) hr];rfl
         | bH x=>
           subst Z8;obtain⟨gc,kc,hc⟩:=hq;exact⟨gc+1,kc+1,by grind[run]⟩
         | over=>
           subst Z8;obtain⟨gc,kc,hc⟩:=hq;exact⟨gc+1,kc+1,by grind[run]⟩
         | ret x=>grind
       grind
      ·rw[if_neg uC]at h;obtain⟨⟨cj,o2⟩,JP,h2⟩:=ao8.1 h;have Er:σ'=cj:=by
        have:=congrArg Prod.fst h2;grind[mN]
       have Z8:o=(mN (cj,o2)).2:=(congrArg Prod.snd h2).symm;subst Er;have K9:=λd l b S=>aeR JP me uC hlen d l b S
       have mj:σ'.Ls=aR.Ls:=by
        grind[Ko,Option.some.injEq,Prod.mk.injEq,Option.map_eq_some_iff]
       refine⟨(K9 0 [] [] []).2.trans d1,mj.trans l1,λhW m l a b hl hu d S hd=>?_⟩;rw[code]at hl⊢;obtain⟨L8,g1⟩:=r1 hW m l a _ hl hu d S hd;grind[wh.pre]
     ·simp only[anc,ao7]at h;obtain⟨rfl,rfl⟩:=h;refine⟨d1,l1,λhW m l a b hl hu d S hd=>?_⟩;rw[code]at hl⊢;exact(r1 hW m l a _ hl hu d S hd).toE
  grind
theorem Z9{c:XC}{g:Nat}(ih:uw c g):∀σ es σ' o,dO c (g+1) σ es=some (σ',o)→∀loc,(∀e∈es,cT c.B.Tables loc e false=true)→σ'.Dp=σ.Dp∧σ'.Ls=σ.Ls∧(∀a,o= .inl a→a.length=es.length)∧(WL σ.Ls→∀(m:Int) (l a b:List ai),l=a++((aZ es m).1++b)→(bQ l).Nodup→∀(d:Nat) (S:List Int),σ.Dp=d→
  HA c d l ((aZ es m).1++b) S σ.Ls (bX σ) b S σ' o):=by
 intro σ es σ' o h loc hb;cases es with
 | nil=>
   rw[dO]at h;simp only[anc,ao7]at h;obtain⟨rfl,rfl⟩:=h;refine⟨rfl,rfl,λa ha=>(by cases ha;rfl),λhW m l a b hl hu d S hd=>⟨λn hn=>(by cases hn),?_⟩⟩;rw[aZ];exact cI.refl _ _ _ _ _ _ _
 | cons e es=>
   rw[dO]at h;cases he:dR c g σ e with
   | none=>rw[he]at h;cases h
   | some p=>
     obtain⟨aR,o1⟩:=p;rw[he]at h;obtain⟨d1,l1,r1⟩:=ih.ask σ e aR o1 he loc (hb e (by simp));have nz:WL σ.Ls->WL aR.Ls:=λhW=>by rw[l1];exact hW
     have code:∀(m:Int) (b:List ai),(aZ (e::es) m).1++b=(aX e m).1++((aZ es (aX e m).2).1++b):=by
      intro m b;rw[aZ];simp
     have bad:∀o2,(∀n,o1≠ .bO n)->o2=Sum.inr o1->∀(m:Int) (l a b:List ai),WL σ.Ls->l=a++((aZ (e::es) m).1++b)->(bQ l).Nodup->∀(d:Nat) (S:List Int),σ.Dp=d->HA c d l ((aZ (e::es) m).1++b) S σ.Ls (bX σ) b S aR o2:=by
      intro o2 hn ho m l a b hW hl hu d S hd;rw[code]at hl⊢;have:=r1 hW m l a _ hl hu d S hd;subst ho;cases o1 with
      | bO n=>exact(hn n rfl).elim
      | bH x=>exact this
      | over=>exact this
      | ret n=>exact this.elim
     cases o1 with
     | bO n=>
       simp only at h;cases Et:dO c g aR es with
       | none=>rw[Et]at h;cases h
       | some q=>
         obtain⟨cj,o2⟩:=q;rw[Et]at h;obtain⟨d2,l2,n2,r2⟩:=ih.asks aR es cj o2 Et loc (λx hx=>hb x (by simp[hx]));rcases o2 with v|o2
         ·simp only[anc,ao7]at h;obtain⟨rfl,rfl⟩:=h;refine⟨d2.trans d1,l2.trans l1,λa ha=>?_,λhW m l a b hl hu d S hd=>?_⟩
          ·cases ha;have:=n2 v rfl;simp[this]
          ·rw[code]at hl⊢;obtain⟨hn,g1⟩:=r1 hW m l a _ hl hu d S hd;obtain⟨hv,g2⟩:=r2 (nz hW) (aX e m).2 l (a++(aX e m).1) b (by rw[hl];simp) hu d (n::S) (d1.trans hd);refine⟨λx hx=>?_,g1.trans ?_⟩
           ·rcases apq.1 hx with rfl|hx
            ·exact hn
            ·exact hv x hx
           ·have e1:(n::v).reverse++S=v.reverse++(n::S):=by simp
            rw[e1];exact g2
         ·simp only[anc,ao7]at h;obtain⟨rfl,rfl⟩:=h;refine⟨d2.trans d1,l2.trans l1,λa ha=>(by cases ha),λhW m l a b hl hu d S hd=>?_⟩;rw[code]at hl⊢;obtain⟨hn,g1⟩:=r1 hW m l a _ hl hu d S hd;have h2:=r2 (nz hW) (aX e m).2 l (a++(aX e m).1) b (by rw[hl];simp) hu d (n::S) (d1.trans hd);cases o2 with
          | bO n=>exact h2
          | bH x=>exact g1.stop h2
          | over=>exact g1.stop h2
          | ret n=>exact h2
     | bH x=>
       simp only[anc,ao7]at h;obtain⟨rfl,rfl⟩:=h;exact⟨d1,l1,λa ha=>(by cases ha),λhW m l a b hl hu d S hd=>bad _ (λn hn=>by cases hn) rfl m l a b hW hl hu d S hd⟩
     | over=>
       simp only[anc,ao7]at h;obtain⟨rfl,rfl⟩:=h;exact⟨d1,l1,λa ha=>(by cases ha),λhW m l a b hl hu d S hd=>bad _ (λn hn=>by cases hn) rfl m l a b hW hl hu d S hd⟩
     | ret x=>
       simp only[anc,ao7]at h;obtain⟨rfl,rfl⟩:=h;exact⟨d1,l1,λa ha=>(by cases ha),λhW m l a b hl hu d S hd=>bad _ (λn hn=>by cases hn) rfl m l a b hW hl hu d S hd⟩
theorem acu(l:List ai)(k:Int):(bQ l).count k=yF l k:=by
 unfold bQ yF;rw[List.count_eq_countP,List.countP_map,List.countP_filter];congr 1;funext i;simp only[Function.comp,cR,Bool.and_eq_decide,decide_eq_true_eq,beq_iff_eq];rw[aqM];simp[and_comm]
theorem WN(l:List an)(x:List ai)(hx:ky x):(bQ ((bl l 0).1++x)).Nodup:=by
 rw[ard];intro k;rw[nY,Ge hx,apL,acu];have:=(ab3 _ l (aps _) 0).st k;by_cases hk:0<=k/\k<(bl l 0).2
 ·rw[this.1 hk];omega
 ·rw[this.2 hk];omega
theorem Gu(b:cM)(r:Int):(bQ (cK b r)).Nodup:=by
 unfold cK;split
 ·exact WN _ _ (cF (by show(1:Int)≠38;omega) (cF (by show(27:Int)≠38;omega) dr))
 ·simp[bQ]
theorem aaa{c:XC}{g:Nat}(hB:jI c.B)(ih:uw c g):∀σ r a σ' o,jh c (g+1) σ r a=some (σ',o)→σ'.Dp=σ.Dp∧σ'.Ls=σ.Ls∧∀(d:Nat),σ.Dp=d→(32≤d→o= .bH 17∧bX σ'=bX σ)∧(d < 32→match o with
  | .bO n=>dJ c (d+1) (cK c.B r) (cK c.B r) [] ((bN c).lo r a) (bX σ) (.ret n (bX σ'))
  | .bH x=>dJ c (d+1) (cK c.B r) (cK c.B r) [] ((bN c).lo r a) (bX σ) (.bH x (bX σ'))
  | .over=>dJ c (d+1) (cK c.B r) (cK c.B r) [] ((bN c).lo r a) (bX σ) (.over (bX σ'))
  | .ret _=>False):=by
 intro σ r a σ' o h;rw[jh]at h;by_cases h0:σ.Dp<0
 ·rw[if_pos h0]at h;cases h
 rw[if_neg h0]at h;by_cases fL:32<=σ.Dp
 ·rw[if_pos fL]at h;simp only[anc,ao7]at h;obtain⟨rfl,rfl⟩:=h;exact⟨rfl,rfl,λd hd=>⟨λ_=>⟨rfl,rfl⟩,λau=>by omega⟩⟩
 rw[if_neg fL]at h;split at h
 ·rename_i hc;obtain⟨hl,hr,nv,_,Yd⟩:=hc;cases gS:dY c g {σ with Dp:=σ.Dp+1,Ls:=a.map ar++List.replicate ((aB c.B.Tables.aL r).toNat-a.length) 0} (c.B.aO[r.toNat]?.getD [])with
  | none=>rw[gS]at h;cases h
  | some p=>
    obtain⟨aR,o1⟩:=p;rw[gS]at h;simp only[anc,ao7]at h;obtain⟨rfl,ho⟩:=h;have iE:=hB.bnd r hr;unfold iq at iE;rw[apb,np,apd]at iE;obtain⟨d1,r1⟩:=ih.block _ _ aR o1 gS _ iE.1;have hWL:WL (a.map ar++List.replicate ((aB c.B.Tables.aL r).toNat-a.length) 0):=by
     intro n hn;rcases apr.1 hn with hn|hn
     ·obtain⟨x,_,rfl⟩:=apf.1 hn;exact wrap_wrap x
     ·obtain⟨_,rfl⟩:=List.mem_replicate.1 hn;exact Ew
    obtain⟨_,r2⟩:=r1 hWL;have Fa:cK c.B r=[]++((bl (c.B.aO[r.toNat]?.getD []) 0).1++ [⟨1,0⟩,⟨27,0⟩]):=by
     unfold cK;rw[if_pos hr];rfl
    have d1':aR.Dp=σ.Dp+1:=d1;refine⟨by show aR.Dp-1=σ.Dp;omega,rfl,λd hd=>⟨λbm=>by omega,λau=>?_⟩⟩;have r3:=r2 0 (cK c.B r) [] [⟨1,0⟩,⟨27,0⟩] Fa (Gu c.B r) (d+1) [] (by show σ.Dp+1=((d+1:Nat):Int);omega);have e0:cK c.B r=(bl (c.B.aO[r.toNat]?.getD []) 0).1++ [⟨1,0⟩,⟨27,0⟩]:=by rw[Fa];rfl
    have e1:∀o,dJ c (d+1) (cK c.B r) ((bl (c.B.aO[r.toNat]?.getD []) 0).1++ [⟨1,0⟩,⟨27,0⟩]) [] ((bN c).lo r a) (bX σ) o->dJ c (d+1) (cK c.B r) (cK c.B r) [] ((bN c).lo r a) (bX σ) o:=by
     intro o ho;rw[<-e0]at ho;exact ho
    subst ho;cases o1 with
    | bO n=>
      refine e1 _ (cI.stop r3 ?_);have:=(cI.push (c:=c) (d:=d+1) (l:=cK c.B r) (r:=[⟨27,0⟩]) (n:=0) (S:=[]) (L:=aR.Ls) (σ:=bX aR)).stop dJ.ret;rw[Ew]at this;exact this
    | bH x=>exact e1 _ r3
    | over=>exact e1 _ r3
    | ret n=>exact e1 _ r3
 ·cases h
theorem WO{c:XC}{g:Nat}(ih:uw c g):∀σ ls σ' o,dY c (g+1) σ ls=some (σ',o)→∀loc,(∀s∈ls,eJ c.B.Tables loc s=true)→σ'.Dp=σ.Dp∧(WL σ.Ls→WL σ'.Ls∧∀(m:Int) (l a b:List ai),l=a++((bl ls m).1++b)→(bQ l).Nodup→∀(d:Nat) (S:List Int),σ.Dp=d→
  er c d l ((bl ls m).1++b) S σ.Ls (bX σ) b S σ' o):=by
 intro σ ls σ' o h loc hb;cases ls with
 | nil=>
   rw[dY]at h;simp only[anc,ao7]at h;obtain⟨rfl,rfl⟩:=h;refine⟨rfl,λhW=>⟨hW,λm l a b hl hu d S hd=>?_⟩⟩;rw[bl];exact cI.refl _ _ _ _ _ _ _
 | cons x ls=>
   rw[dY]at h;cases he:jy c g σ x with
   | none=>rw[he]at h;cases h
   | some p=>
     obtain⟨aR,o1⟩:=p;rw[he]at h;obtain⟨d1,r1⟩:=ih.stmt σ x aR o1 he loc (hb x (by simp));have code:∀(m:Int) (b:List ai),(bl (x::ls) m).1++b=(dy x m).1++((bl ls (dy x m).2).1++b):=by
      intro m b;rw[bl];simp
     have bad:(∀n,o1≠ .bO n)->∀(m:Int) (l a b:List ai),WL σ.Ls->l=a++((bl (x::ls) m).1++b)->(bQ l).Nodup->∀(d:Nat) (S:List Int),σ.Dp=d->er c d l ((bl (x::ls) m).1++b) S σ.Ls (bX σ) b S aR o1:=by
      intro hn m l a b hW hl hu d S hd;rw[code]at hl⊢;have:=(r1 hW).2 m l a _ hl hu d S hd;cases o1 with
      | bO n=>exact(hn n rfl).elim
      | bH x=>exact this
      | over=>exact this
      | ret n=>exact this
     cases o1 with
     | bO n=>
       simp only at h;obtain⟨d2,r2⟩:=ih.block aR ls σ' o h loc (λs hs=>hb s (by simp[hs]));refine⟨d2.trans d1,λhW=>⟨(r2 (r1 hW).1).1,λm l a b hl hu d S hd=>?_⟩⟩;rw[code]at hl⊢;have g1:=(r1 hW).2 m l a _ hl hu d S hd;have g2:=(r2 (r1 hW).1).2 (dy x m).2 l (a++(dy x m).1) b (by rw[hl];simp) hu d S (d1.trans hd);exact er.pre g1 g2
     | bH v=>
       simp only[anc,ao7]at h;obtain⟨rfl,rfl⟩:=h;exact⟨d1,λhW=>⟨(r1 hW).1,λm l a b hl hu d S hd=>bad (λn hn=>by cases hn) m l a b hW hl hu d S hd⟩⟩
     | over=>
       simp only[anc,ao7]at h;obtain⟨rfl,rfl⟩:=h;exact⟨d1,λhW=>⟨(r1 hW).1,λm l a b hl hu d S hd=>bad (λn hn=>by cases hn) m l a b hW hl hu d S hd⟩⟩
     | ret v=>
       simp only[anc,ao7]at h;obtain⟨rfl,rfl⟩:=h;exact⟨d1,λhW=>⟨(r1 hW).1,λm l a b hl hu d S hd=>bad (λn hn=>by cases hn) m l a b hW hl hu d S hd⟩⟩
theorem Gv{t:aq}{loc:Int}{e:ax}(h:cT t loc e true=true)(nt:e.Kind≠19)(gK:e.Kind≠13):cT t loc e false=true:=by
 rw[mT]at h⊢;have:im t e loc true=im t e loc false:=by
  unfold im;rw[if_neg nt,if_neg gK,if_neg nt,if_neg gK]
 rw[<-this];exact h
theorem TU{t:aq}{loc:Int}{e:ax}(h:cT t loc e true=true)(gK:e.Kind=13):∃x,e.aF=[x]/\cT t loc x false=true:=by
 rw[mT,apb]at h;obtain⟨h1,h2⟩:=h;unfold im at h1;rw[if_neg (by omega),if_neg (by omega),if_neg (by omega),if_neg (by omega),if_neg (by omega),if_pos gK]at h1;simp only[ap1]at h1;have:=lk h1;obtain⟨x,hx⟩:=Es (show e.aF.length=1 by omega);refine⟨x,hx,?_⟩;rw[hx]at h2;rw[pv]at h2;simpa using h2
theorem L9(x:ax)(m:Int):aZ [x] m=(aX x m):=by rw[aZ,aZ];simp
theorem agh:Go.Ab.flat 21:=by unfold Go.Ab.flat;omega
theorem agi:Go.Ab.flat 22:=by unfold Go.Ab.flat;omega
theorem agj:Go.Ab.flat 23:=by unfold Go.Ab.flat;omega
theorem acv{c:XC}{g:Nat}(ih:uw c g):∀σ e σ' o,kG c (g+1) σ e=some (σ',o)→∀loc,cT c.B.Tables loc e true=true→σ'.Dp=σ.Dp∧σ'.Ls=σ.Ls∧(WL σ.Ls→∀(m:Int) (l a b:List ai),l=a++((hU e m).1++b)→(bQ l).Nodup→∀(d:Nat) (S:List Int),σ.Dp=d→
  er c d l ((hU e m).1++b) S σ.Ls (bX σ) b S σ' o):=by
 intro σ e σ' o h loc hb;rw[kG]at h;by_cases nt:e.Kind=19
 ·rw[if_pos nt]at h;have code:∀(m:Int) (b:List ai),(hU e m).1++b=⟨21,e.aK⟩::b:=by intro m b;rw[hU,if_pos nt];rfl
  have hr:=λd l b S=>Fv (c:=c) h (i:=⟨21,e.aK⟩) agh (S:=S) (S0:=S) (by simp[instJ]) d l b
  refine⟨(hr 0 [] [] []).2.1,(hr 0 [] [] []).1,λhW m l a b hl hu d S hd=>?_⟩;rw[code];exact(hr d l b S).2.2.2
 rw [if_neg nt]at h;have fin:∀(x:ax) (op:Int) (s:Int→ByteArray),Go.Ab.flat op→(∀n S L σ,instJ c ⟨op,0⟩ (n::S) L σ=yU S L σ (s n))→cT c.B.Tables loc x false=true→(∀(m:Int) (b:List ai),(hU e m).1++b=(aX x m).1++(⟨op,0⟩::b))→
   (match dR c g σ x with|some (aR,.bO n)=>z7 aR (s n)|r=>r)=some (σ',o)->σ'.Dp=σ.Dp/\σ'.Ls=σ.Ls/\(WL σ.Ls->∀(m:Int) (l a b:List ai),l=a++((hU e m).1++b)->(bQ l).Nodup->∀(d:Nat) (S:List Int),σ.Dp=d->
  er c d l ((hU e m).1++b) S σ.Ls (bX σ) b S σ' o):=by
  intro x op s hf hJ gS code h;cases he:dR c g σ x with
  | none=>rw[he]at h;cases h
  | some p=>
    obtain⟨aR,o1⟩:=p;rw[he]at h;obtain⟨d1,l1,r1⟩:=ih.ask σ x aR o1 he loc gS;cases o1 with
    | bO n=>
      simp only at h;have hr:=λd l b S=>Fv (c:=c) h (i:=⟨op,0⟩) hf (S:=n::S) (S0:=S) (hJ n S _ _) d l b
      refine⟨(hr 0 [] [] []).2.1.trans d1,(hr 0 [] [] []).1.trans l1,λhW m l a b hl hu d S hd=>?_⟩;rw[code]at hl⊢;obtain⟨_,g1⟩:=r1 hW m l a _ hl hu d S hd;exact er.pre g1 (hr d l b S).2.2.2
    | bH v=>
      simp only[anc,ao7]at h;obtain⟨rfl,rfl⟩:=h;refine⟨d1,l1,λhW m l a b hl hu d S hd=>?_⟩;rw[code]at hl⊢;exact r1 hW m l a _ hl hu d S hd
    | over=>
      simp only[anc,ao7]at h;obtain⟨rfl,rfl⟩:=h;refine⟨d1,l1,λhW m l a b hl hu d S hd=>?_⟩;rw[code]at hl⊢;exact r1 hW m l a _ hl hu d S hd
    | ret v=>
      simp only[anc,ao7]at h;obtain⟨rfl,rfl⟩:=h;refine⟨d1,l1,λhW m l a b hl hu d S hd=>?_⟩;rw[code]at hl;exact(r1 hW m l a _ hl hu d S hd).elim
 by_cases gK:e.Kind=13
 ·rw[if_pos gK]at h;obtain⟨x,hx,gS⟩:=TU hb gK;rw[hx]at h;exact fin x 23 _ agj (λn S L σ=>by simp[instJ,dI]) gS (λm b=>by rw[hU,if_neg nt,if_pos gK,hx,L9];simp) h
 ·rw[if_neg gK]at h;exact fin e 22 _ agi (λn S L σ=>by simp[instJ,dI]) (Gv hb nt gK) (λm b=>by rw[hU,if_neg nt,if_neg gK];simp) h
theorem aab{c:XC}{g:Nat}(ih:uw c g):∀σ es σ' o,jz c (g+1) σ es=some (σ',o)→∀loc,(∀e∈es,cT c.B.Tables loc e true=true)→σ'.Dp=σ.Dp∧σ'.Ls=σ.Ls∧(WL σ.Ls→∀(m:Int) (l a b:List ai),l=a++((df es m).1++b)→(bQ l).Nodup→∀(d:Nat) (S:List Int),σ.Dp=d→
  er c d l ((df es m).1++b) S σ.Ls (bX σ) b S σ' o):=by
 intro σ ls σ' o h loc hb;cases ls with
 | nil=>
   rw[jz]at h;simp only[anc,ao7]at h;obtain⟨rfl,rfl⟩:=h;refine⟨rfl,rfl,λhW m l a b hl hu d S hd=>?_⟩;rw[df];exact cI.refl _ _ _ _ _ _ _
 | cons x ls=>
   rw[jz]at h;cases he:kG c g σ x with
   | none=>rw[he]at h;cases h
   | some p=>
     obtain⟨aR,o1⟩:=p;rw[he]at h;obtain⟨d1,l1,r1⟩:=ih.say σ x aR o1 he loc (hb x (by simp));have code:∀(m:Int) (b:List ai),(df (x::ls) m).1++b=(hU x m).1++((df ls (hU x m).2).1++b):=by
      intro m b;rw[df];simp
     have nz:WL σ.Ls->WL aR.Ls:=λhW=>by rw[l1];exact hW
     have bad:(∀n,o1≠ .bO n)->∀(m:Int) (l a b:List ai),WL σ.Ls->l=a++((df (x::ls) m).1++b)->(bQ l).Nodup->∀(d:Nat) (S:List Int),σ.Dp=d->er c d l ((df (x::ls) m).1++b) S σ.Ls (bX σ) b S aR o1:=by
      intro hn m l a b hW hl hu d S hd;rw[code]at hl⊢;have:=r1 hW m l a _ hl hu d S hd;cases o1 with
      | bO n=>exact(hn n rfl).elim
      | bH x=>exact this
      | over=>exact this
      | ret n=>exact this
     cases o1 with
     | bO n=>
       simp only at h;obtain⟨d2,l2,r2⟩:=ih.KD aR ls σ' o h loc (λs hs=>hb s (by simp[hs]));refine⟨d2.trans d1,l2.trans l1,λhW m l a b hl hu d S hd=>?_⟩;rw[code]at hl⊢;have g1:=r1 hW m l a _ hl hu d S hd;have g2:=r2 (nz hW) (hU x m).2 l (a++(hU x m).1) b (by rw[hl];simp) hu d S (d1.trans hd);exact er.pre g1 g2
     | bH v=>
       simp only[anc,ao7]at h;obtain⟨rfl,rfl⟩:=h;exact⟨d1,l1,λhW m l a b hl hu d S hd=>bad (λn hn=>by cases hn) m l a b hW hl hu d S hd⟩
     | over=>
       simp only[anc,ao7]at h;obtain⟨rfl,rfl⟩:=h;exact⟨d1,l1,λhW m l a b hl hu d S hd=>bad (λn hn=>by cases hn) m l a b hW hl hu d S hd⟩
     | ret v=>
       simp only[anc,ao7]at h;obtain⟨rfl,rfl⟩:=h;exact⟨d1,l1,λhW m l a b hl hu d S hd=>bad (λn hn=>by cases hn) m l a b hW hl hu d S hd⟩
theorem rm{t:aq}{loc:Int}{x:an}(h:eJ t loc x=true):(jH x).1=true/\oW t x loc=true/\(∀e∈x.aF,cT t loc e (decide (x.Kind=1))=true)/\(∀s∈x.Body,eJ t loc s=true)/\(∀s∈x.bW,eJ t loc s=true)/\(x.Kind≠19\/Fo x=true):=by
 rw[zG]at h;simp only[apb,arl,decide_eq_true_eq,apd,iq,np]at h;exact⟨h.1.1.1.1.1,h.1.1.1.1.2,h.1.1.2,h.1.2.1,h.2.1,h.1.1.1.2⟩
theorem aac{c:XC}{g:Nat}(ih:uw c g):∀σ x σ' o,jy c (g+1) σ x=some (σ',o)→∀loc,eJ c.B.Tables loc x=true→σ'.Dp=σ.Dp∧(WL σ.Ls→WL σ'.Ls∧∀(m:Int) (l a b:List ai),l=a++((dy x m).1++b)→(bQ l).Nodup→∀(d:Nat) (S:List Int),σ.Dp=d→
  er c d l ((dy x m).1++b) S σ.Ls (bX σ) b S σ' o):=by
 intro σ x σ' o h loc hb;rw[jy]at h;obtain⟨y7,yH,Ma,km,rI,_⟩:=rm hb;by_cases eu:x.Kind=10
 ·rw[if_pos eu]at h;split at h
  ·exact ih.KE σ x σ' o h eu loc hb
  ·cases h
 rw[if_neg eu]at h;cases hc:ua c σ with
 | none=>rw[hc]at h;cases h
 | some p=>
   obtain⟨aR,o1⟩:=p;rw[hc]at h;have ht:=λd l b S=>HB hc d l b S
   obtain⟨l1,d1,w1,_⟩:=ht 0 [] [] [];have nz:WL σ.Ls->WL aR.Ls:=λhW=>by rw[l1];exact hW
   cases o1 with
   | bO n=>
     simp only at h;have tk:∀d l b S,cI c d l (tick::b) S σ.Ls (bX σ) b S aR.Ls (bX aR):=by
      intro d l b S;obtain⟨_,_,_,h1⟩:=ht d l b S;rcases h1 with⟨_,_,h1⟩|⟨h1,_⟩
      ·exact h1
      ·cases h1
     split at h
     ·cases h
     ·by_cases h1:x.Kind=1
      ·rw[if_pos h1]at h;obtain⟨d2,l2,r2⟩:=ih.KD aR x.aF σ' o h loc (λe he=>by have:=Ma e he;rw[h1]at this;exact this);have code:∀(m:Int) (b:List ai),(dy x m).1++b=tick::((df x.aF m).1++b):=by intro m b;rw[yC x m h1];rfl
       refine⟨d2.trans d1,λhW=>⟨by rw[l2];exact nz hW,λm l a b hl hu d S hd=>?_⟩⟩;rw[code]at hl⊢;exact er.pre (tk d l _ S) (r2 (nz hW) m l (a++ [tick]) b (by rw[hl];simp) hu d S (d1.trans hd))
      ·rw[if_neg h1]at h;have code:∀(m:Int) (b:List ai),(dy x m).1++b=tick::((aZ x.aF (mS x m)).1++(kz x m++b)):=by intro m b;rw[L6 x m h1 eu];simp
       have WQ:∀e∈x.aF,cT c.B.Tables loc e false=true:=λe he=>by have:=Ma e he;rw[decide_eq_false h1]at this;exact this
       cases ha:dO c g aR x.aF with
       | none=>rw[ha]at h;cases h
       | some q=>
         obtain⟨cj,o2⟩:=q;rw[ha]at h;obtain⟨d2,l2,n2,r2⟩:=ih.asks aR x.aF cj o2 ha loc WQ;have uK:WL σ.Ls->WL cj.Ls:=λhW=>by rw[l2];exact nz hW
         rcases o2 with v|o2
         ·simp only at h;have hlen:=n2 v rfl;have L8:=Eu ha;obtain⟨d3,r3⟩:=ih.WG cj x v σ' o h h1 eu hlen loc hb;refine⟨(d3.trans d2).trans d1,λhW=>⟨(r3 (uK hW) L8).1,λm l a b hl hu d S hd=>?_⟩⟩;rw[code]at hl⊢;obtain⟨_,g2⟩:=r2 (nz hW) (mS x m) l (a++ [tick]) (kz x m++b) (by rw[hl];simp) hu d S (d1.trans hd);exact er.pre (tk d l _ S) (er.pre g2 ((r3 (uK hW) L8).2 m l (a++ [tick]++(aZ x.aF (mS x m)).1) b (by rw[hl];simp) hu d S ((d2.trans d1).trans hd)))
         ·simp only[anc,ao7]at h;obtain⟨rfl,rfl⟩:=h;refine⟨d2.trans d1,λhW=>⟨uK hW,λm l a b hl hu d S hd=>?_⟩⟩;rw[code]at hl⊢;exact er.pre (tk d l _ S) (r2 (nz hW) (mS x m) l (a++ [tick]) _ (by rw[hl];simp) hu d S (d1.trans hd)).toS
   | bH v=>
     simp only[anc,ao7]at h;obtain⟨rfl,rfl⟩:=h;refine⟨d1,λhW=>⟨nz hW,λm l a b hl hu d S hd=>?_⟩⟩;have code:∃C,(dy x m).1++b=tick::C:=by
      by_cases h1:x.Kind=1
      ·exact⟨_,by rw[yC x m h1];rfl⟩
      ·exact⟨_,by rw[L6 x m h1 eu];rfl⟩
     obtain⟨C,hC⟩:=code;rw[hC];obtain⟨_,_,_,h1⟩:=ht d l C S;rcases h1 with⟨_,h1,_⟩|⟨h1,h2⟩
     ·cases h1
     ·cases h1;exact h2
   | over=>obtain⟨_,_,_,h1⟩:=ht 0 [] [] [];rcases h1 with⟨_,h1,_⟩|⟨h1,_⟩<;>cases h1
   | ret v=>obtain⟨_,_,_,h1⟩:=ht 0 [] [] [];rcases h1 with⟨_,h1,_⟩|⟨h1,_⟩<;>cases h1
theorem oK{s:an}{named body other:Bool}{n:Int}(h:rM s named n body other=true):(s.aF.length:Int)=n:=by
 unfold rM at h;simp only[apb,decide_eq_true_eq]at h;exact h.1.1.1
theorem yJ{s:an}(h:(jH s).1=true):s.Kind=1\/((s.Kind=2\/s.Kind=3\/s.Kind=5\/s.Kind=6\/s.Kind=17\/s.Kind=23\/s.Kind=8\/s.Kind=12\/s.Kind=16\/s.Kind=20\/s.Kind=22\/s.Kind=19\/s.Kind=9\/s.Kind=10\/s.Kind=11)/\s.aF.length=1)\/((s.Kind=4\/s.Kind=7)/\s.aF.length=2)\/((s.Kind=18\/s.Kind=13\/s.Kind=14\/s.Kind=15\/s.Kind=21)/\s.aF.length=0):=by
 unfold jH at h;by_cases k1:s.Kind=1
 ·exact Or.inl k1
 rw[if_neg k1]at h;by_cases k2:s.Kind=2\/s.Kind=3\/s.Kind=5\/s.Kind=6\/s.Kind=17\/s.Kind=23
 ·rw[if_pos k2]at h;have:=oK h;omega
 rw[if_neg k2]at h;by_cases k3:s.Kind=4
 ·rw[if_pos k3]at h;have:=oK h;omega
 rw[if_neg k3]at h;by_cases k4:s.Kind=7
 ·rw[if_pos k4]at h;have:=oK h;omega
 rw[if_neg k4]at h;by_cases k5:s.Kind=8\/s.Kind=12\/s.Kind=16\/s.Kind=20\/s.Kind=22\/s.Kind=19
 ·rw[if_pos k5]at h;have:=oK h;omega
 rw[if_neg k5]at h;by_cases k6:s.Kind=9
 ·rw[if_pos k6]at h;have:=oK h;omega
 rw[if_neg k6]at h;by_cases k7:s.Kind=10
 ·rw[if_pos k7]at h;have:=oK h;omega
 rw[if_neg k7]at h;by_cases k8:s.Kind=11
 ·rw[if_pos k8]at h;have:=oK h;omega
 rw[if_neg k8]at h;by_cases k9:s.Kind=18
 ·rw[if_pos k9]at h;have:=oK h;omega
 rw[if_neg k9]at h;by_cases s7:s.Kind=13\/s.Kind=14\/s.Kind=15\/s.Kind=21
 ·rw[if_pos s7]at h;have:=oK h;omega
 rw[if_neg s7]at h;cases h
theorem B6(v:Int):aB [v] 0=v:=rfl
theorem ahS:Go.Ab.flat 6:=by unfold Go.Ab.flat;omega
theorem ahT:Go.Ab.flat 5:=by unfold Go.Ab.flat;omega
theorem aad:Go.Ab.flat 19:=by unfold Go.Ab.flat;omega
theorem agk:Go.Ab.flat 35:=by unfold Go.Ab.flat;omega
theorem agl:Go.Ab.flat 36:=by unfold Go.Ab.flat;omega
theorem inst_chg{c:XC}{x:an}{v:List Int}(hs:(jH x).1=true)(hk:x.Kind≠1∧x.Kind≠2∧x.Kind≠3∧x.Kind≠9∧x.Kind≠10∧x.Kind≠11∧x.Kind≠12∧x.Kind≠21∧x.Kind≠22)(hl:v.length=x.aF.length)(S L:List Int)(σ:MS)(aN:okW c σ.W=true):
  Go.Ab.flat (gQ x.Kind x.aK).Op/\instJ c (gQ x.Kind x.aK) (v.reverse++S) L σ=iS false S L σ (cG c σ.W x.Kind x.aK v):=by
 obtain⟨k1,k2,k3,k9,s7,ur,Jw,Mb,TV⟩:=hk;rcases yJ hs with h|⟨h,ha⟩|⟨h,ha⟩|⟨h,ha⟩
 ·exact(k1 h).elim
 ·rw[ha]at hl;obtain⟨u,rfl⟩:=Es hl;rcases h with h|h|h|h|h|h|h|h|h|h|h|h|h|h|h<;>first|exact(by omega:False).elim|skip
  all_goals first
   | (simp[h,gQ,instJ,dI,dk,dw,Go.Ab.flat];done)
   | (simp[h,gQ,instJ,dI,dk,dw,Go.Ab.flat,cG,aN,B6];done)
   | (simp[h,gQ,instJ,dI,dk,dw,Go.Ab.flat,cG,aN,B6,iS];done)
 ·rw[ha]at hl;obtain⟨u,t,rfl⟩:=Qp hl;rcases h with h|h
  ·simp[h,gQ,instJ,dI,dk,dw,Go.Ab.flat]
  ·simp[h,gQ,instJ,dI,dk,dw,Go.Ab.flat,cG]
 ·rw[ha]at hl;obtain rfl:=apZ.1 hl;rcases h with h|h|h|h|h
  ·simp[h,gQ,instJ,dI,dk,dw,Go.Ab.flat]
  ·simp[h,gQ,instJ,dI,dk,dw,Go.Ab.flat,cG]
  ·simp[h,gQ,instJ,dI,dk,dw,Go.Ab.flat,cG]
  ·simp[h,gQ,instJ,dI,dk,dw,Go.Ab.flat,cG]
  ·exact(Mb h).elim
theorem cI.get{c:XC}{d:Nat}{l r:List ai}{n:Int}{S L:List Int}{σ:MS}(h:fM L n):cI c d l (⟨5,n⟩::r) S L σ r (ar (aB L n)::S) L σ:= .flat ahT (by simp[instJ,h])
theorem cI.put{c:XC}{d:Nat}{l r:List ai}{n v:Int}{S L:List Int}{σ:MS}(h:fM L n):cI c d l (⟨6,n⟩::r) (v::S) L σ r S (L.set n.toNat v) σ:= .flat ahS (by simp[instJ,dI,h])
theorem B7{c:XC}{d:Nat}{l r:List ai}{k v:Int}{S L:List Int}{σ:MS}(aN:okW c σ.W=true):((dh σ.W k v).2=0->cI c d l (⟨19,k⟩::r) (v::S) L σ r (ar (dh σ.W k v).1::S) L σ)/\((dh σ.W k v).2≠0->dJ c d l (⟨19,k⟩::r) (v::S) L σ (.bH (dh σ.W k v).2 σ)):=by
 have hJ:instJ c ⟨19,k⟩ (v::S) L σ=iS true S L σ (some (jv σ.W (dh σ.W k v))):=by
  simp[instJ,dI,dk,di,aN,B6]
 refine⟨λh=> .flat aad ?_,λh=> .bH aad ?_⟩
 ·rw[hJ,jv,if_pos h];rfl
 ·rw[hJ,jv,if_neg h];rfl
theorem WR{x:an}{e:ax}(h:x.aF=[e])(m:Int):aZ x.aF m=aX e m:=by rw[h,L9]
theorem WS{c:XC}{g:Nat}(ih:uw c g):∀σ x σ' o,gu c (g+1) σ x=some (σ',o)→x.Kind=10→∀loc,eJ c.B.Tables loc x=true→σ'.Dp=σ.Dp∧(WL σ.Ls→WL σ'.Ls∧∀(m:Int) (l a b:List ai),l=a++((dy x m).1++b)→(bQ l).Nodup→∀(d:Nat) (S:List Int),σ.Dp=d→
  er c d l ((dy x m).1++b) S σ.Ls (bX σ) b S σ' o):=by
 intro σ x σ' o h hk loc hb;rw[gu]at h;obtain⟨y7,yH,Ma,km,rI,_⟩:=rm hb;have hlen:x.aF.length=1:=by
  rcases yJ y7 with h|⟨h,ha⟩|⟨h,ha⟩|⟨h,ha⟩<;>omega
 obtain⟨e,he⟩:=Es hlen;have aj2:cT c.B.Tables loc e false=true:=by
  have:=Ma e (by rw[he];simp);rw[hk]at this;exact this
 have code:∀(m:Int) (b:List ai),(dy x m).1++b=⟨38,m⟩::tick::((aX e (m+2)).1++(⟨25,m+1⟩::((bl x.Body (aX e (m+2)).2).1++(⟨24,m⟩::⟨38,m+1⟩::b)))):=by
  intro m b;rw[wX x m hk,WR he];simp
 cases hc:ua c σ with
 | none=>rw[hc]at h;cases h
 | some p=>
   obtain⟨aR,o1⟩:=p;rw[hc]at h;have ht:=λd l b S=>HB hc d l b S
   obtain⟨l1,d1,w1,_⟩:=ht 0 [] [] [];have nz:WL σ.Ls->WL aR.Ls:=λhW=>by rw[l1];exact hW
   cases o1 with
   | bO n=>
     rw[he]at h;simp only at h;have tk:∀d l b S,cI c d l (tick::b) S σ.Ls (bX σ) b S aR.Ls (bX aR):=by
      intro d l b S;obtain⟨_,_,_,h1⟩:=ht d l b S;rcases h1 with⟨_,_,h1⟩|⟨h1,_⟩
      ·exact h1
      ·cases h1
     cases ha:dR c g aR e with
     | none=>rw[ha]at h;cases h
     | some q=>
       obtain⟨cj,o2⟩:=q;rw[ha]at h;obtain⟨d2,l2,r2⟩:=ih.ask aR e cj o2 ha loc aj2;have uK:WL σ.Ls->WL cj.Ls:=λhW=>by rw[l2];exact nz hW
       have g2:WL σ.Ls→∀(m:Int) (l a b:List ai),l=a++((dy x m).1++b)→(bQ l).Nodup→∀(d:Nat) (S:List Int),σ.Dp=d→
         wh c d l ((dy x m).1++b) S σ.Ls (bX σ) (⟨25,m+1⟩::((bl x.Body (aX e (m+2)).2).1++(⟨24,m⟩::⟨38,m+1⟩::b))) S cj o2:=by
        intro hW m l a b hl hu d S hd;rw[code]at hl⊢;exact wh.pre (cI.label.trans (tk d l _ S)) (r2 (nz hW) (m+2) l (a++ [⟨38,m⟩,tick]) _ (by rw[hl];simp) hu d S (d1.trans hd))
       cases o2 with
       | bO v=>
         simp only at h;by_cases hv:v=0
         ·rw[if_pos hv]at h;simp only[anc,ao7]at h;obtain⟨rfl,rfl⟩:=h;refine⟨d2.trans d1,λhW=>⟨uK hW,λm l a b hl hu d S hd=>?_⟩⟩;obtain⟨L8,g3⟩:=g2 hW m l a b hl hu d S hd;rw[code]at hl;exact g3.trans (cI.Fp (a:=a++(⟨38,m⟩::tick::((aX e (m+2)).1++(⟨25,m+1⟩::((bl x.Body (aX e (m+2)).2).1++ [⟨24,m⟩]))))) (by rw[hl];simp) hu (by rw[L8];exact hv))
         ·rw[if_neg hv]at h;cases gS:dY c g cj x.Body with
          | none=>rw[gS]at h;cases h
          | some q2=>
            obtain⟨zM,o3⟩:=q2;rw [gS]at h;obtain⟨d3,r3⟩:=ih.block cj x.Body zM o3 gS loc km;have g3:WL σ.Ls→∀(m:Int) (l a b:List ai),l=a++((dy x m).1++b)→(bQ l).Nodup→∀(d:Nat) (S:List Int),σ.Dp=d→
              er c d l ((dy x m).1++b) S σ.Ls (bX σ) (⟨24,m⟩::⟨38,m+1⟩::b) S zM o3:=by
             intro hW m l a b hl hu d S hd;obtain⟨L8,g3⟩:=g2 hW m l a b hl hu d S hd;rw[code]at hl;refine er.pre (g3.trans (cI.Fq (by rw[L8];exact hv))) ?_;exact(r3 (uK hW)).2 _ l (a++(⟨38,m⟩::tick::((aX e (m+2)).1++ [⟨25,m+1⟩]))) _ (by rw[hl];simp) hu d S ((d2.trans d1).trans hd)
            cases o3 with
            | bO u=>
              simp only at h;obtain⟨d4,r4⟩:=ih.KE zM x σ' o h hk loc hb;refine⟨((d4.trans d3).trans d2).trans d1,λhW=>⟨(r4 (r3 (uK hW)).1).1,λm l a b hl hu d S hd=>?_⟩⟩;have g4:=g3 hW m l a b hl hu d S hd;have g5:=(r4 (r3 (uK hW)).1).2 m l a b hl hu d S (((d3.trans d2).trans d1).trans hd);rw[code]at hl g4 g5⊢;have hj:cI c d l (⟨24,m⟩::⟨38,m+1⟩::b) S zM.Ls (bX zM) (tick::((aX e (m+2)).1++(⟨25,m+1⟩::((bl x.Body (aX e (m+2)).2).1++(⟨24,m⟩::⟨38,m+1⟩::b))))) S zM.Ls (bX zM):=cI.jump (a:=a) hl hu;refine er.pre g4 (er.pre hj ?_);cases o with
              | bO n=>exact cI.rk g5
              | bH n=>exact dJ.rk g5
              | over=>exact dJ.rk g5
              | ret n=>exact dJ.rk g5
            | bH u=>
              simp only[anc,ao7]at h;obtain⟨rfl,rfl⟩:=h;exact⟨(d3.trans d2).trans d1,λhW=>⟨(r3 (uK hW)).1,λm l a b hl hu d S hd=>g3 hW m l a b hl hu d S hd⟩⟩
            | over=>
              simp only[anc,ao7]at h;obtain⟨rfl,rfl⟩:=h;exact⟨(d3.trans d2).trans d1,λhW=>⟨(r3 (uK hW)).1,λm l a b hl hu d S hd=>g3 hW m l a b hl hu d S hd⟩⟩
            | ret u=>
              simp only[anc,ao7]at h;obtain⟨rfl,rfl⟩:=h;exact⟨(d3.trans d2).trans d1,λhW=>⟨(r3 (uK hW)).1,λm l a b hl hu d S hd=>g3 hW m l a b hl hu d S hd⟩⟩
       | bH v=>
         simp only[anc,ao7]at h;obtain⟨rfl,rfl⟩:=h;exact⟨d2.trans d1,λhW=>⟨uK hW,λm l a b hl hu d S hd=>g2 hW m l a b hl hu d S hd⟩⟩
       | over=>
         simp only[anc,ao7]at h;obtain⟨rfl,rfl⟩:=h;exact⟨d2.trans d1,λhW=>⟨uK hW,λm l a b hl hu d S hd=>g2 hW m l a b hl hu d S hd⟩⟩
       | ret v=>
         simp only[anc,ao7]at h;obtain⟨rfl,rfl⟩:=h;exact⟨d2.trans d1,λhW=>⟨uK hW,λm l a b hl hu d S hd=>(g2 hW m l a b hl hu d S hd).elim⟩⟩
   | bH v=>
     simp only[anc,ao7]at h;obtain⟨rfl,rfl⟩:=h;refine⟨d1,λhW=>⟨nz hW,λm l a b hl hu d S hd=>?_⟩⟩;rw[code];obtain⟨_,_,_,h1⟩:=ht d l ((aX e (m+2)).1++(⟨25,m+1⟩::((bl x.Body (aX e (m+2)).2).1++(⟨24,m⟩::⟨38,m+1⟩::b)))) S;rcases h1 with⟨_,h1,_⟩|⟨h1,h2⟩
     ·cases h1
     ·cases h1;exact cI.label.stop h2
   | over=>obtain⟨_,_,_,h1⟩:=ht 0 [] [] [];rcases h1 with⟨_,h1,_⟩|⟨h1,_⟩<;>cases h1
   | ret v=>obtain⟨_,_,_,h1⟩:=ht 0 [] [] [];rcases h1 with⟨_,h1,_⟩|⟨h1,_⟩<;>cases h1
theorem Gw{c g σ x p}(h:fj c g σ x=some p):fM σ.Ls x.aK/\fM σ.Ls (x.aK+1)/\okW c σ.W=true:=by
 cases g with
 | zero=>grind[fj]
 | succ g=>
   grind[fj]
set_option maxHeartbeats 4000000 in
theorem aae{c:XC}{g:Nat}(hB:jI c.B)(ih:uw c g):∀σ x σ' o,fj c (g+1) σ x=some (σ',o)→x.Kind=11→∀loc,eJ c.B.Tables loc x=true→σ'.Dp=σ.Dp∧(WL σ.Ls→WL σ'.Ls∧∀(m:Int) (l a b:List ai),l=a++(mV x m++b)→(bQ l).Nodup→∀(d:Nat) (S:List Int),σ.Dp=d→
  er c d l (mV x m++b) S σ.Ls (bX σ) b S σ' o):=by
 intro σ x σ' o h hk loc hb;obtain⟨Pc,nV,aN⟩:=Gw h;obtain⟨y7,yH,Ma,km,rI,_⟩:=rm hb;rw[fj]at h;have code:∀(m:Int) (b:List ai),mV x m++b=⟨38,m⟩::⟨5,x.aK⟩::⟨25,m+1⟩::tick::⟨5,x.aK⟩::⟨19,3⟩::⟨6,x.aK+1⟩::((bl x.Body (kS x m)).1++(⟨5,x.aK+1⟩::⟨6,x.aK⟩::⟨24,m⟩::⟨38,m+1⟩::b)):=by
  intro m b;unfold mV;simp
 split at h
 ·-- Cb anl
  by_cases hv:aB σ.Ls x.aK=0
  ·rw[if_pos hv]at h;simp only[anc,ao7]at h;obtain⟨rfl,rfl⟩:=h;refine⟨rfl,λhW=>⟨hW,λm l a b hl hu d S hd=>?_⟩⟩;rw[code]at hl⊢;refine cI.label.trans ((cI.get Pc).trans ?_);exact cI.Fp (a:=a++(⟨38,m⟩::⟨5,x.aK⟩::⟨25,m+1⟩::tick::⟨5,x.aK⟩::⟨19,3⟩::⟨6,x.aK+1⟩::((bl x.Body (kS x m)).1++ [⟨5,x.aK+1⟩,⟨6,x.aK⟩,⟨24,m⟩]))) (by rw[hl];simp) hu (by rw[hv];decide)
  ·rw[if_neg hv]at h;cases hc:ua c σ with
   | none=>rw[hc]at h;cases h
   | some p=>
     obtain⟨aR,o1⟩:=p;rw[hc]at h;have ht:=λd l b S=>HB hc d l b S
     obtain⟨l1,d1,w1,_⟩:=ht 0 [] [] [];have g0:WL σ.Ls->∀(m:Int) (l a b:List ai),l=a++(mV x m++b)->(bQ l).Nodup->∀(d:Nat) (S:List Int),cI c d l (mV x m++b) S σ.Ls (bX σ) (tick::⟨5,x.aK⟩::⟨19,3⟩::⟨6,x.aK+1⟩::((bl x.Body (kS x m)).1++(⟨5,x.aK+1⟩::⟨6,x.aK⟩::⟨24,m⟩::⟨38,m+1⟩::b))) S σ.Ls (bX σ):=by
      intro hW m l a b hl hu d S;rw[code];refine cI.label.trans ((cI.get Pc).trans (cI.Fq ?_));rw[hW.get,hW.get];exact hv
     cases o1 with
     | bO n=>
       simp only at h;have tk:∀d l b S,cI c d l (tick::b) S σ.Ls (bX σ) b S aR.Ls (bX aR):=by
        intro d l b S;obtain⟨_,_,_,h1⟩:=ht d l b S;rcases h1 with⟨_,_,h1⟩|⟨h1,_⟩
        ·exact h1
        ·cases h1
       have acw:okW c aR.W=true:=by rw[w1];exact aN
       have aj3:fM aR.Ls x.aK:=by rw[l1];exact Pc
       have aj4:fM aR.Ls (x.aK+1):=by rw[l1];exact nV
       have nz:WL σ.Ls->WL aR.Ls:=λhW=>by rw[l1];exact hW
       have g1:WL σ.Ls->∀(m:Int) (l a b:List ai),l=a++(mV x m++b)->(bQ l).Nodup->∀(d:Nat) (S:List Int),cI c d l (mV x m++b) S σ.Ls (bX σ) (⟨19,3⟩::⟨6,x.aK+1⟩::((bl x.Body (kS x m)).1++(⟨5,x.aK+1⟩::⟨6,x.aK⟩::⟨24,m⟩::⟨38,m+1⟩::b))) (aB aR.Ls x.aK::S) aR.Ls (bX aR):=by
        intro hW m l a b hl hu d S;have:=(g0 hW m l a b hl hu d S).trans ((tk d l _ S).trans (cI.get aj3));rw[(nz hW).get]at this;exact this
       by_cases he:(dh aR.W 3 (aB aR.Ls x.aK)).2=0
       ·rw[if_neg (by simpa using he)]at h;cases gS:dY c g {aR with Ls:=aR.Ls.set (x.aK+1).toNat (dh aR.W 3 (aB aR.Ls x.aK)).1} x.Body with
        | none=>rw[gS]at h;cases h
        | some q=>
          obtain⟨cj,o2⟩:=q;rw[gS]at h;obtain⟨d2,r2⟩:=ih.block _ x.Body cj o2 gS loc km;have d2:cj.Dp=aR.Dp:=d2;have htw:=L5 hB.fits acw 3 (aB aR.Ls x.aK);have Qs:WL σ.Ls->WL (aR.Ls.set (x.aK+1).toNat (dh aR.W 3 (aB aR.Ls x.aK)).1):=λhW=>(nz hW).set _ htw
          have g2:WL σ.Ls->∀(m:Int) (l a b:List ai),l=a++(mV x m++b)->(bQ l).Nodup->∀(d:Nat) (S:List Int),σ.Dp=d->er c d l (mV x m++b) S σ.Ls (bX σ) (⟨5,x.aK+1⟩::⟨6,x.aK⟩::⟨24,m⟩::⟨38,m+1⟩::b) S cj o2:=by
           intro hW m l a b hl hu d S hd;have ga:=(g1 hW m l a b hl hu d S).trans ((B7 acw).1 he);have gb:=ga.trans (cI.put aj4);have acx:ar (dh (bX aR).W 3 (aB aR.Ls x.aK)).1=(dh aR.W 3 (aB aR.Ls x.aK)).1:=htw;rw[acx]at gb;refine er.pre gb ?_;rw[code]at hl;exact(r2 (Qs hW)).2 (kS x m) l (a++ [⟨38,m⟩,⟨5,x.aK⟩,⟨25,m+1⟩,tick,⟨5,x.aK⟩,⟨19,3⟩,⟨6,x.aK+1⟩]) _ (by rw[hl];simp) hu d S (d1.trans hd)
          cases o2 with
          | bO u=>
            simp only at h;obtain⟨SX,I0,_⟩:=Gw h;simp only[fM,aqN]at SX I0;obtain⟨d3,r3⟩:=ih.each _ x σ' o h hk loc hb;have d3:σ'.Dp=cj.Dp:=d3;have uK:WL σ.Ls->WL cj.Ls:=λhW=>(r2 (Qs hW)).1
            have hW3:WL σ.Ls->WL (cj.Ls.set x.aK.toNat (aB cj.Ls (x.aK+1))):=λhW=>(uK hW).set _ ((uK hW).get _)
            refine⟨(d3.trans d2).trans d1,λhW=>⟨(r3 (hW3 hW)).1,λm l a b hl hu d S hd=>?_⟩⟩;have ga:=g2 hW m l a b hl hu d S hd;have gb:=(cI.get (c:=c) (d:=d) (l:=l) (r:=⟨6,x.aK⟩::⟨24,m⟩::⟨38,m+1⟩::b) (S:=S) (σ:=bX cj) I0).trans (cI.put SX);rw[(uK hW).get]at gb;have gc:=(r3 (hW3 hW)).2 m l a b hl hu d S ((d2.trans d1).trans hd);rw[code]at hl ga gc⊢;have gd:=gb.trans (cI.jump (a:=a) hl hu);refine er.pre ga (er.pre gd ?_);cases o with
            | bO n=>exact cI.rk gc
            | bH n=>exact dJ.rk gc
            | over=>exact dJ.rk gc
            | ret n=>exact dJ.rk gc
          | bH u=>
            simp only[anc,ao7]at h;obtain⟨rfl,rfl⟩:=h;exact⟨d2.trans d1,λhW=>⟨(r2 (Qs hW)).1,λm l a b hl hu d S hd=>g2 hW m l a b hl hu d S hd⟩⟩
          | over=>
            simp only[anc,ao7]at h;obtain⟨rfl,rfl⟩:=h;exact⟨d2.trans d1,λhW=>⟨(r2 (Qs hW)).1,λm l a b hl hu d S hd=>g2 hW m l a b hl hu d S hd⟩⟩
          | ret u=>
            simp only[anc,ao7]at h;obtain⟨rfl,rfl⟩:=h;exact⟨d2.trans d1,λhW=>⟨(r2 (Qs hW)).1,λm l a b hl hu d S hd=>g2 hW m l a b hl hu d S hd⟩⟩
       ·rw[if_pos (by simpa using he)]at h;simp only[anc,ao7]at h;obtain⟨rfl,rfl⟩:=h;exact⟨d1,λhW=>⟨nz hW,λm l a b hl hu d S hd=>(g1 hW m l a b hl hu d S).stop ((B7 acw).2 he)⟩⟩
     | bH v=>
       simp only[anc,ao7]at h;obtain⟨rfl,rfl⟩:=h;refine⟨d1,λhW=>⟨by rw[l1];exact hW,λm l a b hl hu d S hd=>?_⟩⟩;refine(g0 hW m l a b hl hu d S).stop ?_;obtain⟨_,_,_,h1⟩:=ht d l (⟨5,x.aK⟩::⟨19,3⟩::⟨6,x.aK+1⟩::((bl x.Body (kS x m)).1++(⟨5,x.aK+1⟩::⟨6,x.aK⟩::⟨24,m⟩::⟨38,m+1⟩::b))) S;rcases h1 with⟨_,h1,_⟩|⟨h1,h2⟩
       ·cases h1
       ·cases h1;exact h2
     | over=>obtain⟨_,_,_,h1⟩:=ht 0 [] [] [];rcases h1 with⟨_,h1,_⟩|⟨h1,_⟩<;>cases h1
     | ret v=>obtain⟨_,_,_,h1⟩:=ht 0 [] [] [];rcases h1 with⟨_,h1,_⟩|⟨h1,_⟩<;>cases h1
 ·cases h
theorem aaf{c}{g}(hB:jI c.B)(ih:uw c g):∀σ x v σ' o,ib c (g+1) σ x v=some (σ',o)→x.Kind≠1→x.Kind≠10→v.length=x.aF.length→∀loc,eJ c.B.Tables loc x=true→σ'.Dp=σ.Dp∧(WL σ.Ls→(∀n∈v,ar n=n)→WL σ'.Ls∧∀m l a b,l=a++(kz x m++b)→(bQ l).Nodup→∀(d:Nat) S,σ.Dp=d→
  er c d l (kz x m++b) (v.reverse++S) σ.Ls (bX σ) b S σ' o):=by
 intro σ x v σ' o h k1 s7 hlen loc hb;obtain⟨y7,yH,Ma,km,rI,_⟩:=rm hb;rw[ib]at h;have one:(x.Kind=2\/x.Kind=3\/x.Kind=9\/x.Kind=11\/x.Kind=12\/x.Kind=22)->∃u,v=[u]:=by
  intro hk;rcases yJ y7 with h|⟨h,ha⟩|⟨h,ha⟩|⟨h,ha⟩
  ·omega
  ·simp_all[Es]
  ·omega
  ·omega
 by_cases k2:x.Kind=2\/x.Kind=3
 ·rw[if_pos k2]at h;obtain⟨u,rfl⟩:=one (by omega);split at h
  ·rename_i cp;simp only[anc,ao7]at h;obtain⟨rfl,rfl⟩:=h;refine⟨rfl,λhW hv=>⟨hW.set _ (hv u (by simp)),λm l a b hl hu d S hd=>?_⟩⟩;have ht:kz x m=[⟨6,x.aK⟩]:=by
    unfold kz;rw[if_neg (by omega),if_neg (by omega)];simp_all[gQ,if_pos]
   rw[ht];exact cI.put cp.2
  grind
 rw[if_neg k2]at h;by_cases k9:x.Kind=9
 ·rw[if_pos k9]at h;obtain⟨u,rfl⟩:=one (by omega);split at h
  ·have L7:aB [u] 0=u:=rfl;rw[L7]at h;have iE:∀s∈(if u≠0 then x.Body else x.bW),eJ c.B.Tables loc s=true:=by
    grind
   obtain⟨d1,r1⟩:=ih.block σ _ σ' o h loc iE;refine⟨d1,λhW hv=>⟨(r1 hW).1,λm l a b hl hu d S hd=>?_⟩⟩;have huw:ar u=u:=hv u (by simp);have r2:=(r1 hW).2;have bV:∀(b':List ai),cI c d l b' S σ'.Ls (bX σ') b S σ'.Ls (bX σ')->er c d l (kz x m++b) ([u].reverse++S) σ.Ls (bX σ) b' S σ' o->er c d l (kz x m++b) ([u].reverse++S) σ.Ls (bX σ) b S σ' o:=by
    intro b' hg hr;cases o with
    | bO n=>exact cI.trans hr hg
    | bH n=>exact hr
    | over=>exact hr
    | ret n=>exact hr
   by_cases he:x.bW=[]
   ·have ht:kz x m++b=⟨25,m⟩::((bl x.Body (kS x m)).1++(⟨38,m⟩::b)):=by
     simp_all[kz,if_pos]
    rw[ht]at hl bV⊢;by_cases NK:u=0
    ·rw[if_neg (by omega),he]at r2;have hz:=cI.Fp (c:=c) (d:=d) (r:=(bl x.Body (kS x m)).1++(⟨38,m⟩::b)) (S:=S) (L:=σ.Ls) (σ:=bX σ) (a:=a++(⟨25,m⟩::(bl x.Body (kS x m)).1)) (b:=b) (v:=u) (n:=m) (l:=l) (by grind) hu (by omega);have:=r2 0 l (a++(⟨25,m⟩::((bl x.Body (kS x m)).1++ [⟨38,m⟩]))) b (by simp_all[bl]) hu d S hd;grind[bl,er.pre]
    ·rw[if_pos (by omega)]at r2;refine bV (⟨38,m⟩::b) cI.label (er.pre (cI.Fq (by omega)) ?_);exact r2 (kS x m) l (a++ [⟨25,m⟩]) _ (by grind) hu d S hd
   ·have ht:kz x m++b=⟨25,m⟩::((bl x.Body (kS x m)).1++(⟨24,m+1⟩::⟨38,m⟩::((bl x.bW (bl x.Body (kS x m)).2).1++(⟨38,m+1⟩::b)))):=by
     simp_all[kz,if_pos,if_neg]
    rw[ht]at hl bV⊢;by_cases NK:u=0
    ·rw[if_neg (by omega)]at r2;refine bV (⟨38,m+1⟩::b) cI.label ?_;have hz:=cI.Fp (c:=c) (d:=d) (r:=(bl x.Body (kS x m)).1++(⟨24,m+1⟩::⟨38,m⟩::((bl x.bW (bl x.Body (kS x m)).2).1++(⟨38,m+1⟩::b)))) (S:=S) (L:=σ.Ls) (σ:=bX σ) (a:=a++(⟨25,m⟩::((bl x.Body (kS x m)).1++ [⟨24,m+1⟩]))) (b:=(bl x.bW (bl x.Body (kS x m)).2).1++(⟨38,m+1⟩::b)) (v:=u) (n:=m) (l:=l) (by grind) hu (by omega);exact er.pre hz (r2 _ l (a++(⟨25,m⟩::((bl x.Body (kS x m)).1++ [⟨24,m+1⟩,⟨38,m⟩]))) _ (by grind) hu d S hd)
    ·rw[if_pos (by omega)]at r2;have hj:=cI.jump (c:=c) (d:=d) (r:=⟨38,m⟩::((bl x.bW (bl x.Body (kS x m)).2).1++(⟨38,m+1⟩::b))) (S:=S) (L:=σ'.Ls) (σ:=bX σ') (a:=a++(⟨25,m⟩::((bl x.Body (kS x m)).1++(⟨24,m+1⟩::⟨38,m⟩::(bl x.bW (bl x.Body (kS x m)).2).1)))) (b:=b) (n:=m+1) (l:=l) (by grind) hu;refine bV _ hj (er.pre (cI.Fq (by omega)) ?_);exact r2 (kS x m) l (a++ [⟨25,m⟩]) _ (by grind) hu d S hd
  grind
 rw[if_neg k9]at h;by_cases ur:x.Kind=11
 ·rw[if_pos ur]at h;obtain⟨u,rfl⟩:=one (by omega);split at h
  ·rename_i cp;obtain⟨_,aN,aj5,_⟩:=cp;have L7:aB [u] 0=u:=rfl;rw[L7]at h;have ht:∀(m:Int) (b:List ai),kz x m++b=⟨19,2⟩::⟨6,x.aK⟩::(mV x m++b):=by
    simp_all[kz,if_neg,if_pos]
   by_cases he:(dh σ.W 2 u).2=0
   ·rw[if_neg (by omega)]at h;obtain⟨d1,r1⟩:=ih.each _ x σ' o h ur loc hb;have d1:σ'.Dp=σ.Dp:=d1;have htw:=L5 hB.fits aN 2 u;have nz:WL σ.Ls->WL (σ.Ls.set x.aK.toNat (dh σ.W 2 u).1):=λhW=>hW.set _ htw
    refine⟨d1,λhW hv=>⟨(r1 (nz hW)).1,λm l a b hl hu d S hd=>?_⟩⟩;rw[ht]at hl⊢;have ga:=(B7 (c:=c) (d:=d) (l:=l) (r:=⟨6,x.aK⟩::(mV x m++b)) (k:=2) (v:=u) (S:=S) (L:=σ.Ls) (σ:=bX σ) aN).1 he;have gb:=ga.trans (cI.put aj5);have acx:ar (dh (bX σ).W 2 u).1=(dh (bX σ).W 2 u).1:=htw;rw[acx]at gb;exact er.pre gb ((r1 (nz hW)).2 m l (a++ [⟨19,2⟩,⟨6,x.aK⟩]) b (by grind) hu d S hd)
   ·rw[if_pos (by omega)]at h;simp only[anc,ao7]at h;obtain⟨rfl,rfl⟩:=h;refine⟨rfl,λhW hv=>⟨hW,λm l a b hl hu d S hd=>?_⟩⟩;rw[ht];exact(B7 (c:=c) (d:=d) (l:=l) (r:=⟨6,x.aK⟩::(mV x m++b)) (k:=2) (v:=u) (S:=S) (L:=σ.Ls) (σ:=bX σ) aN).2 he
  grind
 rw[if_neg ur]at h;have ht:∀(m:Int) (b:List ai),kz x m++b=gQ x.Kind x.aK::b:=by
  simp_all[kz,if_neg]
 by_cases Jw:x.Kind=12
 ·rw[if_pos Jw]at h;obtain⟨u,rfl⟩:=one (by omega);split at h
  ·simp only[anc,ao7]at h;obtain⟨rfl,rfl⟩:=h;refine⟨rfl,λhW hv=>⟨hW,λm l a b hl hu d S hd=>?_⟩⟩;rw[ht];have:gQ x.Kind x.aK=⟨27,0⟩:=by rw[Jw];rfl
   rw[this];exact dJ.ret
  grind
 rw[if_neg Jw]at h;unfold Kp at h;by_cases Mb:x.Kind=21
 ·rw[if_pos Mb]at h;split at h
  ·rename_i aN;have hv:v=[]:=by
    grind[yJ,List.length_eq_zero_iff]
   subst hv;have aoO:gQ x.Kind x.aK=⟨35,0⟩:=by rw[Mb];rfl
   have hr:=λd l b S=>Fv (c:=c) h (i:=⟨35,0⟩) agk (S:=S) (S0:=S) (by simp[instJ,bX,aN]) d l b
   refine⟨(hr 0 [] [] []).2.1,λhW hv=>⟨by rw[(hr 0 [] [] []).1];exact hW,λm l a b hl hu d S hd=>?_⟩⟩;grind
  grind
 rw[if_neg Mb]at h;by_cases TV:x.Kind=22
 ·rw[if_pos TV]at h;split at h
  ·rename_i aN;obtain⟨u,rfl⟩:=one (by omega);have aoP:gQ x.Kind x.aK=⟨36,0⟩:=by rw[TV];rfl
   have hr:=λd l b S=>Fv (c:=c) h (i:=⟨36,0⟩) agl (S:=u::S) (S0:=S) (by simp[instJ,dI,bX,aN.1,B6]) d l b
   refine⟨(hr 0 [] [] []).2.1,λhW hv=>⟨by rw[(hr 0 [] [] []).1];exact hW,λm l a b hl hu d S hd=>?_⟩⟩;grind
  grind
 rw[if_neg TV]at h;cases hw:cG c σ.W x.Kind x.aK v with
 | none=>grind
 | some p=>
   have aN:=aeQ hw;have AD:σ'.Dp=σ.Dp/\σ'.Ls=σ.Ls:=by
    grind
   refine⟨AD.1,λhW hv=>⟨by grind,λm l a b hl hu d S hd=>?_⟩⟩;rw[ht];obtain⟨hf,hJ⟩:=inst_chg (c:=c) y7 ⟨k1,by omega,by omega,k9,s7,ur,Jw,Mb,TV⟩ hlen S σ.Ls (bX σ) aN;refine acp hf hJ rfl rfl h ?_ ?_
   ·grind[Option.some.injEq,Prod.mk.injEq,Qo]
   ·intro w x1 hww;exact(Qo hww).2 x1 rfl
theorem KF{c}(hB:jI c.B):∀g,uw c g:=by
 intro g
 induction g with
 | zero=>constructor<;>intros<;>rename_i h<;>first|(simp[dR,dO,jh,dY,jy,jz,kG,gu,fj,ib]at *;done)
 | succ g ih=>exact⟨acs ih,Z9 ih,aaa hB ih,WO ih,aac ih,aab ih,acv ih,WS ih,aae hB ih,aaf hB ih⟩
def Qt(σ:XS):OC->Option Oc
 | .bO n=>some (.ret n (bX σ))
 | .bH x=>some (.bH x (bX σ))
 | .over=>some (.over (bX σ))
 | .ret _=>none
theorem aeS{c}(hB:jI c.B){g}{σ σ'}{r}{a}{o}(h:jh c g σ r a=some (σ',o))(h0:σ.Dp=0):
  ∃y,Qt σ' o=some y/\dJ c 1 (cK c.B r) (cK c.B r) [] ((bN c).lo r a) (bX σ) y:=by
 have:=(((KF hB g).call σ r a σ' o h).2.2 0 (by omega)).2 (by omega);cases o with
 | bO n=>exact⟨_,rfl,this⟩
 | bH n=>exact⟨_,rfl,this⟩
 | over=>exact⟨_,rfl,this⟩
 | ret n=>grind
theorem oh{t}(hf:fD t=true):(∀s∈t.fP,s.size<=1024)/\(∀r:Int,0<=r->r<t.Params.length->(0<=aB t.Params r/\aB t.Params r<=8)/\aB t.Params r<=aB t.aL r/\aB t.aL r<=24)/\(∀n∈t.cV,0<=n/\n<t.Params.length):=by
 unfold fD IP DI at hf;simp[bB,cD]at hf;obtain⟨⟨⟨⟨h1,h2⟩,h3⟩,h4⟩,h5⟩:=hf;refine⟨λs hs=>?_,λr r1 r2=>?_,λn hn=>?_⟩
 ·simp_all[u3]
 ·simp_all[yg,bB,aB]
 grind
theorem ux{t}(hf:fD t=true) i:(oF t i).size<=1024:=by
 unfold oF;split
 ·decide
 grind[oh,List.mem_of_getElem?]
theorem Jy:VG.size=7:=by decide
theorem iV{t}(hf:fD t=true) x:(dB t x).size<=1024:=by
 grind[dB,Jy,ux]
theorem Ex:∀l:List ByteArray,(∀s∈l,s.size<=1024)->(u6 l).size<=7+l.length *1029
 | [],_=>by simp[u6,Jy]
 | [a],h=>by grind[u6,List.length_cons,List.length_nil]
 | [a,b],h=>by
   have h1:=h a (by simp);have h2:=h b (by simp);rw[u6];simp;have:(ByteArray.mk #[32,97,110,100,32]).size=5:=by decide
   omega
 | a::b::c::l,h=>by
   have h1:=h a (by simp);have ih:=Ex (b::c::l) (λs hs=>h s (by simp at hs⊢;exact .inr hs));have e:u6 (a::b::c::l)=a++ByteArray.mk #[44,32]++u6 (b::c::l):=by first|rfl|(all_goals simp)
   rw[e];simp at ih⊢;have:(ByteArray.mk #[44,32]).size=2:=by decide
   omega
theorem xa{t w}(hf:fD t=true)(hw:iG t w) x:(sw t w x).size<=131719:=by
 unfold sw;have h1:=Ex ((iK w x).map (dB t)) (λs hs=>by
  obtain⟨y,_,rfl⟩:=apf.1 hs;exact iV hf y)
 have h2:(iK w x).length<=(bw w.tree x).length:=aqO _ _;have h3:=mK w.tree x;have h4:w.tree.bn.length=w.ah.length:=rfl;have h5:=hw.hT;have h6:=hw.hn;grind
theorem WT{t w}(hf:fD t=true)(hw:iG t w):(wU t w).size<=150000:=by
 unfold wU;have h1:=iV hf (cN w);have h2:=ux hf (bx t (cN w)).Text;have h3:=xa hf hw (cN w);have e0:(ByteArray.mk #[]).size=0:=by decide
 have e1:(ByteArray.mk #[10]).size=1:=by decide
 have e2:(ByteArray.mk #[89,111,117,32,115,101,101,32]).size=8:=by decide
 have e3:(ByteArray.mk #[46,10]).size=2:=by decide
 have e4:(ByteArray.mk #[73,116,32,105,115,32,100,97,114,107,46,10]).size=12:=by decide
 grind
theorem Mc:∀k n,n<10^(k+1)->(gE n).size<=k+1
 | 0,n,h=>by
   rw[gE,if_pos (by omega)];exact Nat.le_of_eq rfl
 | k+1,n,h=>by
   rw[gE];split
   ·exact apR (Nat.le_of_eq rfl) (Nat.succ_le_succ (aqr (k+1)))
   ·have:=Mc k (n / 10) (by
     omega)
    rw[apw];have e:(ByteArray.mk #[UInt8.ofNat (48+n % 10)]).size=1:=rfl;omega
theorem aag{n}(h:ar n=n):(uQ n).size<=150000:=by
 have hb:=cS n;have h1:=Mc 4 n.natAbs (by omega);unfold uQ;split
 ·rw[apw];have:(ByteArray.mk #[45]).size=1:=by decide
  omega
 ·omega
theorem lq{c w}:okW c w=true↔cA c.B.Tables w=true/\(0<=w.cL/\w.cL<18446744073709551616):=by
 simp[okW]
theorem acy s:0<=vq s/\vq s<18446744073709551616:=Km _
theorem Md{α}(w:α) p:(jv w p).1=w:=by grind[jv]
theorem qK{l:List Int}{n}(h:eF n 0 (l.length-1)=true):fM l n:=by
 unfold eF at h;grind
theorem acz{c}{w}{e}{a}{loc}(hB:jI c.B)(aN:okW c w=true)(hb:im c.B.Tables e loc false=true)(uC:e.Kind≠18)(oP:e.Kind≠15)(ha:a.length=e.aF.length):
  ∃w' o,di c w e.Kind (lQ e) a=some (w',o)/\okW c w'=true:=by
 have hW:=Jx hB.fits aN;have pr:∀p,∃w' o,some (jv w p)=some (w',o)/\okW c w'=true:=λp=>⟨(jv w p).1,(jv w p).2,rfl,by simp_all[Md]⟩
 rcases ll hb with⟨hk,hl⟩|⟨hk,hl⟩|⟨hk,hl⟩|⟨hk,_⟩
 ·rw[hl]at ha;obtain rfl:=apZ.1 ha;rcases hk with hk|hk|hk|hk
  ·simp_all[lQ,di]
  ·have cp:fM w.aP (lQ e):=by
    unfold im at hb;rw[if_neg (by omega),if_pos hk,apb]at hb;have h1:=qK hb.2;have h2:=hW.hG;grind[lQ]
   exact⟨w,.bO (aB w.aP (lQ e)),by simp_all[di],aN⟩
  ·omega
  simp_all[og,lQ,di]
 ·rw[hl]at ha;obtain⟨x,rfl⟩:=Es ha;have hx:aB [x] 0=x:=rfl;rcases hk with hk|hk|hk|hk|hk|hk
  ·simp_all[di]
  ·simp_all[di]
  ·by_cases iR:ar x<1
   ·simp_all[di]
   ·refine⟨_,_,by simp[di,aN,hk,hx,iR];exact⟨rfl,rfl⟩,?_⟩;have h1:=lq.1 aN;refine lq.2 ⟨Ww h1.1 _,?_⟩;unfold kF;rw[if_neg iR];exact acy _
  ·simp_all[UC,lQ,di]
  ·simp_all[tI,lQ,di]
  simp_all[dh,lQ,di]
 ·rw[hl]at ha;obtain⟨x,y,rfl⟩:=Qp ha;have hx:aB [x,y] 0=x:=rfl;have hy:aB [x,y] 1=y:=rfl;simp_all[di]
 omega
theorem WU{c w p}(aN:okW c w=true)(h1:p.2=0->cA c.B.Tables p.1=true)(h2:p.1.cL=w.cL):okW c (jc w p).1=true:=by
 grind[jc,lq]
theorem Me w x f on:(eb w x f on).1.cL=w.cL:=by grind[eb]
theorem acA t w x p n:(mY t w x p n).1.cL=w.cL:=by grind[mY]
theorem Mf t p:(pQ t p).1.cL=p.1.cL:=by grind[pQ]
theorem Sf t w x:(iH t w x).1.cL=w.cL:=by
 unfold iH;split
 ·rfl
 ·rw[Mf];unfold fB;split<;>rfl
theorem aah t w x to:(kY t w x to).1.cL=w.cL:=by
 unfold kY;split
 ·rfl
 ·rw[Mf];unfold kZ;split<;>(try split)<;>rfl
theorem Mg{t x loc}(h:oW t x loc=true):(x.Kind=2\/x.Kind=3->0<=x.aK/\x.aK<loc)/\(x.Kind=11->0<=x.aK/\x.aK+1<loc)/\(x.Kind=23->fM t.aP x.aK)/\(x.Kind=5\/x.Kind=6->0<=x.aK/\x.aK<t.Flags)/\(x.Kind=17\/x.Kind=18->fM t.eA x.aK):=by
 unfold oW at h;split at h
 ·refine⟨λhk=>?_,λhk=>?_,λhk=>?_,λhk=>?_,λhk=>?_⟩
  ·grind
  ·grind
  ·rw[if_neg (by omega),if_neg (by omega),if_pos hk]at h;exact qK h
  ·grind
  ·rw[if_neg (by omega),if_neg (by omega),if_neg (by omega),if_neg (by omega),if_neg (by omega),if_pos hk]at h;exact qK h
 grind
theorem acB{c}{w}{x}{a}{loc}(hB:jI c.B)(aN:okW c w=true)(hs:(jH x).1=true)(yH:oW c.B.Tables x loc=true)(hk:x.Kind≠1∧x.Kind≠2∧x.Kind≠3∧x.Kind≠9∧x.Kind≠10∧x.Kind≠11∧x.Kind≠12∧x.Kind≠21∧x.Kind≠22)(hl:a.length=x.aF.length)(hw:∀n∈a,ar n=n):
  ∃w' o,cG c w x.Kind x.aK a=some (w',o)/\okW c w'=true:=by
 have hW:=Jx hB.fits aN;obtain⟨hr,SB⟩:=lq.1 aN;obtain⟨-,-,t23,t5,t17⟩:=Mg yH;obtain⟨k1,k2,k3,k9,s7,ur,Jw,Mb,TV⟩:=hk;have pr:∀p:aj×Int,(p.2=0->cA c.B.Tables p.1=true)->p.1.cL=w.cL->∃w' o,some (jc w p)=some (w',o)/\okW c w'=true:=λp h1 h2=>⟨(jc w p).1,(jc w p).2,rfl,WU aN h1 h2⟩
 have lY:=(lh hB.fits).2.2.2.2.2.2.2.2;rcases yJ hs with h|⟨h,ha⟩|⟨h,ha⟩|⟨h,ha⟩
 ·omega
 ·rw[ha]at hl;obtain⟨u,rfl⟩:=Es hl;have hu:aB [u] 0=u:=rfl;have hub:=cS u;rw[hw u (by simp)]at hub;rcases h with h|h|h|h|h|h|h|h|h|h|h|h|h|h|h<;>first|exact(by omega:False).elim|skip
  ·obtain⟨w',o,h1,h2⟩:=pr (eb w u x.aK true) (λ_=>Jo hr u x.aK true (t5 (.inl h)) lY.2) (Me _ _ _ _);simp_all[cG]
  ·obtain⟨w',o,h1,h2⟩:=pr (eb w u x.aK false) (λ_=>Jo hr u x.aK false (t5 (.inr h)) lY.2) (Me _ _ _ _);simp_all[cG]
  ·have cp:fM w.bc x.aK:=by have h1:=t17 (.inl h);have h2:=hW.hD;omega
   refine⟨{w with bc:=w.bc.set x.aK.toNat (if u<1 then 1 else u)},.bO 0,by simp_all[cG],lq.2 ⟨Eo hr _ _ ?_,SB⟩⟩;omega
  ·have cp:fM w.aP x.aK:=by have h1:=t23 h;have h2:=hW.hG;omega
   exact⟨{w with aP:=w.aP.set x.aK.toNat u},.bO 0,by simp_all[cG],lq.2 ⟨MP hr _ _ hub,SB⟩⟩
  ·obtain⟨w',o,h1,h2⟩:=pr (iH c.B.Tables w u) (λh0=>Qh hr hW u h0) (Sf _ _ _);simp_all[cG]
  ·simp_all[zV,cG,lq,R4,cS]
  ·by_cases hg:u<1\/12<u
   ·simp_all[cG]
   ·exact⟨{w with Go:=u},.bO 0,by simp_all[cG],lq.2 ⟨acf hr _ (by omega),SB⟩⟩
  simp_all[cG]
 ·rw[ha]at hl;obtain⟨u,v,rfl⟩:=Qp hl;have hu:aB [u,v] 0=u:=rfl;have hv:aB [u,v] 1=v:=rfl;rcases h with h|h
  ·obtain⟨w',o,h1,h2⟩:=pr (mY c.B.Tables w u x.aK v) (λ_=>Z1 hr u x.aK v) (acA _ _ _ _ _);simp_all[cG]
  ·obtain⟨w',o,h1,h2⟩:=pr (kY c.B.Tables w u v) (λh0=>Wy hr hW u v h0) (aah _ _ _ _);simp_all[cG]
 ·rw[ha]at hl;obtain rfl:=apZ.1 hl;rcases h with h|h|h|h|h<;>first|exact(Mb h).elim|skip
  ·have cp:fM w.bc x.aK:=by have h1:=t17 (.inr h);have h2:=hW.hD;omega
   exact⟨{w with bc:=w.bc.set x.aK.toNat 0},.bO 0,by simp_all[cG],lq.2 ⟨Eo hr _ _ (by omega),SB⟩⟩
  ·simp_all[cG]
  ·simp_all[cG,lq,Jm]
  simp_all[cG,lq,Jm]
structure Rl(c:XC) (k:Int) (σ σ':XS):Prop where
 w:okW c σ'.W=true
 ls:σ'.Ls.length=σ.Ls.length
 dp:σ'.Dp=σ.Dp
 f1:σ.Fuel<=σ'.Fuel
 f2:σ'.Fuel<=max c.M 0
 out:(σ'.Out.size:Int)+1300000 *σ.Fuel<=σ.Out.size+k+1300000 *σ'.Fuel
structure Iv(c:XC) (σ:XS):Prop where
 w:okW c σ.W=true
 d0:0<=σ.Dp/\σ.Dp<=32
 f0:0<=σ.Fuel
 f2:σ.Fuel<=max c.M 0
 out:(σ.Out.size:Int)<=1300000 *σ.Fuel
theorem Iv.rl{c σ}(h:Iv c σ){k}(hk:0<=k):Rl c k σ σ:=⟨h.w,rfl,rfl,ap4 _,h.f2,by omega⟩
theorem Rl.trans{c k j σ aR cj}(h1:Rl c k σ aR)(h2:Rl c j aR cj){i}(hi:k+j<=i):Rl c i σ cj:=by
 obtain⟨a1,a2,a3,a4,a5,a6⟩:=h1;obtain⟨b1,b2,b3,b4,b5,b6⟩:=h2;exact⟨b1,by omega,by omega,by omega,b5,by omega⟩
theorem Rl.iv{c k σ σ'}(h:Rl c k σ σ')(hi:Iv c σ)(ho:(σ.Out.size:Int)+k<=1300000 *σ.Fuel):Iv c σ':=by
 obtain⟨a1,a2,a3,a4,a5,a6⟩:=h;obtain⟨b1,b2,b3,b4,b5⟩:=hi;exact⟨a1,by omega,by omega,a5,by omega⟩
def Af(c:XC)(k:Int)(σ:XS)(f:Nat->Option (XS×OC)):Prop:=∃g σ' o,f g=some (σ',o)/\Rl c k σ σ'
theorem AU{c σ s}(hM:c.M<=1000000)(h:Iv c σ)(hs:s.size<=150000):∃σ' o,z7 σ s=some (σ',o)/\Rl c 150000 σ σ':=by
 obtain⟨a1,a2,a3,a4,a5⟩:=h;refine⟨{σ with Out:=σ.Out++s,Wr:=true},.bO 0,by unfold z7;grind,⟨a1,rfl,rfl,ap4 _,a4,?_⟩⟩;grind
theorem HD{c σ}(hM:c.M<=1000000)(h:Iv c σ):(∃σ',ua c σ=some (σ',.bO 0)/\Rl c (-1300000) σ σ'/\σ'.Fuel=σ.Fuel+1)\/ua c σ=some (σ,.bH 19):=by
 obtain⟨a1,a2,a3,a4,a5⟩:=h;unfold ua;rw[if_pos (by omega)];by_cases hc:c.M<σ.Fuel+1
 ·grind
 ·left;rw[if_neg hc];exact⟨_,rfl,⟨a1,rfl,rfl,by grind,by grind,by grind⟩,rfl⟩
section
variable {c : XC} (hB : jI c.B) (hM : c.M <= 1000000) {d loc : Int}
def Jz(c:XC)(d:Int):Prop:=∀σ r a,Iv c σ->σ.Dp=d->fM c.B.aO r->(a.length:Int)<=aB c.B.Tables.aL r->Af c 0 σ (λg=>jh c g σ r a)
def WV(c:XC)(d loc:Int)(e:ax):Prop:=∀σ,Iv c σ->σ.Dp=d->(σ.Ls.length:Int)=loc->Af c 0 σ (λg=>dR c g σ e)
theorem HE:∀l,(∀e∈l,WV c d loc e)->∀σ,Iv c σ->σ.Dp=d->(σ.Ls.length:Int)=loc->∃g σ' o,dO c g σ l=some (σ',o)/\Rl c 0 σ σ'
 | [],_,σ,hi,hd,hl=>⟨1,σ,.inl [],by rfl,hi.rl (by omega)⟩
 | e::l,h,σ,hi,hd,hl=>by
   obtain⟨g1,aR,o1,h1,r1⟩:=h e (by simp) σ hi hd hl;have h1:dR c g1 σ e=some (aR,o1):=h1;cases o1 with
   | bO n=>
     obtain⟨g2,cj,o2,h2,r2⟩:=HE l (λx hx=>h x (by grind)) aR (r1.iv hi (by have:=hi.out;omega)) (by rw[r1.dp];exact hd) (by rw[r1.ls];exact hl);have e1:=qJ (aqo g1 g2) h1;have e2:=B0 (aqh g1 g2) h2;cases o2 with
     | inl a=>exact⟨max g1 g2+1,cj,.inl (n::a),by simp_all[dO],r1.trans r2 (by omega)⟩
     | inr o=>exact⟨max g1 g2+1,cj,.inr o,by simp_all[dO],r1.trans r2 (by omega)⟩
   | bH x=>exact⟨g1+1,aR,.inr (.bH x),by rw[dO,h1],r1⟩
   | over=>exact⟨g1+1,aR,.inr .over,by rw[dO,h1],r1⟩
   | ret x=>exact⟨g1+1,aR,.inr (.ret x),by rw[dO,h1],r1⟩
theorem Mh(hB:jI c.B){f}{n:Nat}(h:my c.B.Tables f=n):fM c.B.Tables.cV f/\fM c.B.aO (aB c.B.Tables.cV f)/\(n:Int)<=aB c.B.Tables.aL (aB c.B.Tables.cV f)/\n<=8:=by
 unfold my at h;split at h
 ·rename_i hc;rw[apb]at hc;have h1:=qK hc.1;have h2:fM c.B.Tables.Params (aB c.B.Tables.cV f):=qK hc.2;have h3:=(oh hB.fits).2.1 _ h2.1 h2.2;have h4:aB c.B.Tables.Params (aB c.B.Tables.cV f)=n:=h;have h5:=hB.len;omega
 ·omega
theorem Fw(hB:jI c.B)(hc:Jz c d):∀n e,SizeOf.sizeOf e<n->cT c.B.Tables loc e false=true->WV c d loc e:=by
 intro n
 induction n with
 | zero=>simp
 | succ n ih=>
   intro e hn hb σ hi hd hl;rw[mT,apb,pv,apd]at hb;obtain⟨hb,Co⟩:=hb;have jU:∀x∈e.aF,WV c d loc x:=λx hx=>ih x (by have:=ax.qC hx;omega) (Co x hx)
   have hi0:=hi.out;by_cases h6:e.Kind=6/\(e.Op=1\/e.Op=2)
   ·obtain⟨x,y,F8⟩:∃x y,e.aF=[x,y]:=by
     rcases ll hb with⟨hk,_⟩|⟨hk,_⟩|⟨_,hl⟩|⟨hk,_⟩
     ·omega
     ·omega
     ·exact Qp hl
     ·omega
    obtain⟨g1,aR,o1,h1,r1⟩:=jU x (by grind) σ hi hd hl;have h1:dR c g1 σ x=some (aR,o1):=h1;cases o1 with
    | bO v=>
      by_cases hv:decide (v≠0)=decide (e.Op=1)
      ·refine⟨g1+1,aR,.bO (ey (decide (v≠0))),?_,r1⟩;simp_all[dR,if_pos]
      ·obtain⟨g2,cj,o2,h2,r2⟩:=jU y (by grind) aR (r1.iv hi (by omega)) (by rw[r1.dp];exact hd) (by rw[r1.ls];exact hl);have e1:=qJ (aqo g1 g2) h1;have e2:=qJ (aqh g1 g2) h2;have hr:=r1.trans r2 (i:=0) (by omega);cases o2 with
       | bO u=>
         refine⟨max g1 g2+1,cj,.bO (ey (decide (u≠0))),?_,hr⟩;simp_all[dR,max,if_pos,if_neg]
       | bH u=>
         refine⟨max g1 g2+1,cj,.bH u,?_,hr⟩;simp_all[dR,max,if_pos,if_neg]
       | over=>
         refine⟨max g1 g2+1,cj,.over,?_,hr⟩;simp_all[dR,max,if_pos,if_neg]
       | ret u=>
         refine⟨max g1 g2+1,cj,.ret u,?_,hr⟩;simp_all[dR,max,if_pos,if_neg]
    | bH u=>
      refine⟨g1+1,aR,.bH u,?_,r1⟩;simp_all[dR,if_pos]
    | over=>
      refine⟨g1+1,aR,.over,?_,r1⟩;simp_all[dR,if_pos]
    | ret u=>
      refine⟨g1+1,aR,.ret u,?_,r1⟩;simp_all[dR,if_pos]
   ·obtain⟨g1,aR,o1,h1,r1⟩:=HE e.aF jU σ hi hd hl;have Yd:zy e.aF:=by
     show e.aF.length<=1000000;rcases ll hb with⟨_,hl⟩|⟨_,hl⟩|⟨_,hl⟩|⟨_,hl⟩
     ·omega
     ·omega
     ·omega
     ·have:=(Mh hB hl).2.2.2;omega
    rcases o1 with a|o
    ·have WW:a.length=e.aF.length:=((KF hB g1).asks σ e.aF aR (.inl a) h1 loc Co).2.2.1 a rfl;by_cases uC:e.Kind=18
     ·have hp:my c.B.Tables e.aK=e.aF.length:=by
       grind[ll]
      obtain⟨p1,p2,p3,p4⟩:=Mh hB hp;obtain⟨g2,cj,o2,h2,r2⟩:=hc aR (aB c.B.Tables.cV e.aK) a (r1.iv hi (by omega)) (by rw[r1.dp];exact hd) p2 (by omega);have e1:=B0 (aqo g1 g2) h1;have e2:=WH (aqh g1 g2) h2;refine⟨max g1 g2+1,(mN (cj,o2)).1,(mN (cj,o2)).2,?_,?_⟩
      ·simp_all[dR,max,if_neg,if_pos]
      ·have:(mN (cj,o2)).1=cj:=by grind[mN]
       rw[this];exact r1.trans r2 (by omega)
     ·have hv:∃cj o2,Ko c aR e a=some (cj,o2)/\Rl c 0 aR cj:=by
       have i1:=r1.iv hi (by omega);unfold Ko;by_cases oP:e.Kind=15
       ·have cp:fM aR.Ls e.aK:=by
         unfold im at hb;rw[if_neg (by omega),if_neg (by omega),if_pos oP]at hb;simp only[apb,decide_eq_true_eq]at hb;exact⟨hb.1.2,by rw[r1.ls,hl];omega⟩
        exact⟨aR,.bO (aB aR.Ls e.aK),by grind,i1.rl (by omega)⟩
       ·obtain⟨w',o,Cu,I8⟩:=acz (a:=a) hB r1.w hb uC oP WW;refine⟨{aR with W:=w'},o,by grind,⟨I8,rfl,rfl,ap4 _,i1.f2,by simp⟩⟩
      obtain⟨cj,o2,h2,r2⟩:=hv;refine⟨g1+1,(mN (cj,o2)).1,(mN (cj,o2)).2,?_,?_⟩
      ·simp_all[dR,if_neg]
      ·have:(mN (cj,o2)).1=cj:=by grind[mN]
       rw[this];exact r1.trans r2 (by omega)
    ·refine⟨g1+1,aR,o,?_,r1⟩;simp_all[dR,if_neg]
theorem aeT(hB:jI c.B)(hM:c.M<=1000000)(hc:Jz c d) e(hb:cT c.B.Tables loc e true=true) σ(hi:Iv c σ)(ho:(σ.Out.size:Int)+150000<=1300000 *σ.Fuel)(hd:σ.Dp=d)(hl:(σ.Ls.length:Int)=loc):Af c 150000 σ (λg=>kG c g σ e):=by
 by_cases nt:e.Kind=19
 ·obtain⟨σ',o,h1,h2⟩:=AU (s:=oF c.B.Tables e.aK) hM hi (apR (ux hB.fits _) (by omega));exact⟨1,σ',o,by simp_all[kG],h2⟩
 ·by_cases gK:e.Kind=13
  ·obtain⟨x,hx,gS⟩:=TU hb gK;obtain⟨g1,aR,o1,h1,r1⟩:=Fw hB hc _ x (aps _) gS σ hi hd hl;cases o1 with
   | bO n=>
     obtain⟨σ',o,h2,r2⟩:=AU (s:=dB c.B.Tables n) hM (r1.iv hi (by omega)) (apR (iV hB.fits _) (by omega));exact⟨g1+1,σ',o,by simp_all[kG,if_pos],r1.trans r2 (by omega)⟩
   | bH u=>exact⟨g1+1,aR,.bH u,by simp_all[kG,if_pos],r1.trans ((r1.iv hi (by omega)).rl (k:=0) (by omega)) (by omega)⟩
   | over=>exact⟨g1+1,aR,.over,by simp_all[kG,if_pos],r1.trans ((r1.iv hi (by omega)).rl (k:=0) (by omega)) (by omega)⟩
   | ret u=>exact⟨g1+1,aR,.ret u,by simp_all[kG,if_neg],r1.trans ((r1.iv hi (by omega)).rl (k:=0) (by omega)) (by omega)⟩
  ·obtain⟨g1,aR,o1,h1,r1⟩:=Fw hB hc _ e (aps _) (Gv hb nt gK) σ hi hd hl;cases o1 with
   | bO n=>
     obtain⟨σ',o,h2,r2⟩:=AU hM (r1.iv hi (by omega)) (aag (Qr h1));exact⟨g1+1,σ',o,by simp_all[kG],r1.trans r2 (by omega)⟩
   | bH u=>exact⟨g1+1,aR,.bH u,by simp_all[kG],r1.trans ((r1.iv hi (by omega)).rl (k:=0) (by omega)) (by omega)⟩
   | over=>exact⟨g1+1,aR,.over,by simp_all[kG],r1.trans ((r1.iv hi (by omega)).rl (k:=0) (by omega)) (by omega)⟩
   | ret u=>exact⟨g1+1,aR,.ret u,by simp_all[kG],r1.trans ((r1.iv hi (by omega)).rl (k:=0) (by omega)) (by omega)⟩
theorem Qu(hB:jI c.B)(hM:c.M<=1000000)(hc:Jz c d):∀l,(∀e∈l,cT c.B.Tables loc e true=true)->∀σ,Iv c σ->(σ.Out.size:Int)+150000 *l.length<=1300000 *σ.Fuel->σ.Dp=d->(σ.Ls.length:Int)=loc->Af c (150000 *l.length) σ (λg=>jz c g σ l)
 | [],_,σ,hi,_,hd,hl=>⟨1,σ,.bO 0,by rfl,hi.rl (by simp)⟩
 | e::l,h,σ,hi,ho,hd,hl=>by
   simp[arq]at ho⊢;obtain⟨g1,aR,o1,h1,r1⟩:=aeT hB hM hc e (h e (by simp)) σ hi (by omega) hd hl;have i1:=r1.iv hi (by omega);have tO:Rl c (150000 *((l.length:Int)+1)) σ aR:=r1.trans (i1.rl (k:=0) (by omega)) (by omega);cases o1 with
   | bO n=>
     obtain⟨g2,cj,o2,h2,r2⟩:=Qu hB hM hc l (λx hx=>h x (by grind)) aR i1 (by have:=r1.out;omega) (by rw[r1.dp];exact hd) (by rw[r1.ls];exact hl);have e1:=Z7 (aqo g1 g2) h1;have e2:=WJ (aqh g1 g2) h2;exact⟨max g1 g2+1,cj,o2,by simp_all[jz],r1.trans r2 (by omega)⟩
   | bH u=>exact⟨g1+1,aR,.bH u,by simp_all[jz],tO⟩
   | over=>exact⟨g1+1,aR,.over,by simp_all[jz],tO⟩
   | ret u=>exact⟨g1+1,aR,.ret u,by simp_all[jz],tO⟩
end
end Go.Ab

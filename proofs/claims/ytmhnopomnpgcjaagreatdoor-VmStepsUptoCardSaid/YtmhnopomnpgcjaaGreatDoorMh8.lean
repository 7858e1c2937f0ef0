/-
  The texts Battr3 Vch2 Vch3 Vch4 Vch5 Vsay Vsay2 Vdo4 Vroom Ug Lok Lmv Vmove Sh Shlay Vtl5 Bref21 Vtl1 Vtl2 Lgas Lgen2 Lgen3 Lgen4 Lgen5 Lgen6 Lgen7 Lgen8 Lgen9 Ltot, one behind the other.
-/
import Derived.Test.YtmhnopomnpgcjaaGreatDoorMh7
import Derived.Sort.Grow
import Derived.Deep.Draws
import Derived.Lib.LaidTab
import Derived.Shelf.LaysM
import Derived.Shelf.Strconv.Itoa3
import Derived.Test.YtmhnopomnpgcjaaGreatDoorProg
set_option linter.unusedSimpArgs false
set_option linter.unusedVariables false
namespace Go.Ab
open Go.Proofs Go.Proofs.Tryz
set_option maxHeartbeats 4000000
set_option maxRecDepth 20000
theorem PY(t:ar)(w:aj)(hn:w.ae.length<=32768)(hk:t.aJ.length<=65536)(hm:w.ae.length *t.aJ.length=w.aJ.length)(ux:w.aJ.length<=100000000)(x p n:Int):Pure prog 211 [.agg (t.enc.map .d),.agg (w.enc.map .d),iD x,iD p,iD n] (.bA [.agg ((mW t w x p n).1.enc.map .d),iD (mW t w x p n).2]):=by
 have fJ:=O6 t w hn hk x p;have hi:=ahd n;have hc:=ia 4050 w.aJ (by omega);unfold eM at fJ;unfold mW;by_cases he:gI t w x p=0
 ·have hT:bY w.ae.length x=true/\0<=p/\p<t.aJ.length:=by
   unfold gI at he;split at he
   ·split at he
    ·rename_i a b;exact⟨a,b⟩
    ·omega
   ·omega
  have hl:=Bx hm (aY.1 hT.1) hT.2;rw[he]at fJ⊢;simp at fJ;generalize x *t.aJ.length+p=q at *;cases lg:gQ n with
  | false=>
    rw[lg]at hi;simp only[if_true];refine rn func211 ?_;simp[-cB,f211];intro bs;refine pC fJ ?_;simp[-cB];refine pC hi ?_;simp[-cB]
  | true=>
    rw[lg]at hi;simp only[if_true];unfold aj.enc;refine rn func211 ?_;simp[-cB,f211];intro bs;refine pC fJ ?_;simp[-cB];refine pC hi ?_;simp[-cB];refine eD [] hc ?_;simp[-cB,hl.1,hl.2]
 ·simp[he]at fJ;rw[if_neg he];generalize gI t w x p=e at *;have lG:(e !=0)=true:=by simpa using he
  refine rn func211 ?_;simp[-cB,f211];intro bs;refine pC fJ ?_;simp[-cB,lG]
end Go.Ab
namespace Go.Ab
set_option maxHeartbeats 4000000
set_option maxRecDepth 20000
open Go.Proofs Go.Proofs.Tryz
theorem ZU(l:List D):(l.map V.d).tail=l.tail.map V.d:=by cases l<;>rfl
@[simp] theorem ajL(ks:List Nat)(l:List D):V.dE ks (l.map V.d).tail=true:=by rw[ZU];exact EN ks _
@[simp] theorem ail(h:Nat)(y:V)(l:List D):V.mg h y (l.map V.d).tail=(l.map V.d).tail:=by rw[ZU];exact vC h y _
@[simp] theorem akF(w:aj)(g:List Int):V.d (.sl (aC g))::(List.map V.d w.enc).tail=({w with aQ:=g}:aj).enc.map V.d:=rfl
theorem QI(wb:Nat)(s:al)(F:Int)(m:ah)(i:ai)(S:List Int)(x n:Int)(w':aj)(aD:i.Op=14)(hS:m.Stack=S++ [x,n])(hl:S.length<=100000)(hn:m.Told.World.ae.length<=32768)(hk:s.Tables.aJ.length<=65536)(hm:m.Told.World.ae.length *s.Tables.aJ.length=m.Told.World.aJ.length)(ux:m.Told.World.aJ.length<=100000000)(hv:mW s.Tables m.Told.World x i.Arg n=(w',0)):jK wb s F m i {m with Stack:=S,Told:={m.Told with World:=w'}}:=by
 have mx:=fb wb s F m (S++ [x]) n (by rw[hS];simp) (by simp;omega);have hp:=fR wb s F {m with Stack:=S++ [x]} S x rfl (by omega);have fw:=PY s.Tables m.Told.World hn hk hm ux x i.Arg n;rw[hv]at fw;unfold jK bE at *;unfold pU at hp;refine rX [] [5003,5004,5005] func143 ?_;simp[-cB,f143];intro bs bL;simp[-cB,aD];refine eD [5003,5004,5005] mx ?_;simp[-cB];refine av.ee aT (dM.m0 [Q3,Q3,Q3,Q3,Q3,Q3,Q0,none,Q3,Q3,Q3,arb,arb,arb,arh,none,ard] [.bA [.agg (w'.enc.map .d),iD 0]] (by kernel_rfl) ?_);simp[-cB];refine gP.intro (λ_=>fU.jk (s:=⟨_,_⟩) 5004 [5003,5004] [5005] rfl (hp) rfl rfl (by kernel_rfl) (by first|rfl|simp) (by simp) (by simp[db,aV.cj,V.cj]) (cM (by simp)) (by simp) (by simp)) ?_;simp[-cB];refine⟨fw.ok _,?_⟩;refine eD [] dr ?_;simp[-cB]
theorem QJ(wb:Nat)(s:al)(F:Int)(m:ah)(i:ai)(S:List Int)(x n:Int)(w':aj)(e:Int)(he:e≠0)(aD:i.Op=14)(hS:m.Stack=S++ [x,n])(hl:S.length<=100000)(hn:m.Told.World.ae.length<=32768)(hk:s.Tables.aJ.length<=65536)(hm:m.Told.World.ae.length *s.Tables.aJ.length=m.Told.World.aJ.length)(ux:m.Told.World.aJ.length<=100000000)(hv:mW s.Tables m.Told.World x i.Arg n=(w',e)):CT wb s F m i e:=by
 refine⟨{m with Stack:=S},?_⟩;have hc:=iK e he;have mx:=fb wb s F m (S++ [x]) n (by rw[hS];simp) (by simp;omega);have hp:=fR wb s F {m with Stack:=S++ [x]} S x rfl (by omega);have fw:=PY s.Tables m.Told.World hn hk hm ux x i.Arg n;rw[hv]at fw;unfold bE at *;unfold pU at hp;refine rX [] [5003,5004,5005] func143 ?_;simp[-cB,f143];intro bs bL;simp[-cB,aD];refine eD [5003,5004,5005] mx ?_;simp[-cB];refine av.ee aT (dM.m0 [Q3,Q3,Q3,Q3,Q3,Q3,Q0,none,Q3,Q3,Q3,arb,arb,arb,arh,none,ard] [.bA [.agg (w'.enc.map .d),iD e]] (by kernel_rfl) ?_);simp[-cB];refine gP.intro (λ_=>fU.jk (s:=⟨_,_⟩) 5004 [5003,5004] [5005] rfl (hp) rfl rfl (by kernel_rfl) (by first|rfl|simp) (by simp) (by simp[db,aV.cj,V.cj]) (cM (by simp)) (by simp) (by simp)) ?_;simp[-cB];refine⟨fw.ok _,?_⟩;refine au.kN [] rfl (hc) (by simp) rfl (by simp) (by kernel_rfl) (by first|rfl|simp) (by simp) (by simp) (by simp) ?_;simp
theorem Um(wb:Nat)(s:al)(F:Int)(m:ah)(i:ai)(S:List Int)(x:Int)(aD:i.Op=4)(hA:0<=i.Arg/\i.Arg<m.Told.World.aQ.length)(hg:m.Told.World.aQ.length<=100000)(hS:m.Stack=S++ [x])(hl:S.length<=100000):jK wb s F m i {m with Stack:=S,Told:={m.Told with World:={m.Told.World with aQ:=m.Told.World.aQ.set i.Arg.toNat x}}}:=by
 have hp:=fR wb s F m S x hS (by omega);have hc:=ia 5010 m.Told.World.aQ (by omega);unfold jK bE at *;unfold pU at hp;refine rX [] [5003,5004,5005] func143 ?_;simp[-cB,f143];intro bs bL;simp[-cB,aD];refine eD [] hc ?_;simp[-cB];have Cf:i.Arg.toNat<m.Told.World.aQ.length:=by omega
 refine av.ee aT (dM.m0 [Q3,Q3,Q3,Q3,Q0,none,arb,none] [] (by kernel_rfl) ?_);simp[-cB];refine gP.intro (λ_=>fU.jk (s:=⟨_,_⟩) 5004 [5003,5004] [5005] rfl (hp) rfl rfl (by kernel_rfl) (by first|rfl|simp) (by simp) (by simp[db,aV.cj,V.cj]) (cM (by simp)) (by simp) (by simp)) ?_;simp[-cB,hA.1,Cf];refine au.weaken (Wk.freeze 5010 (ty:=3) (k:=1) (ys:=aC (m.Told.World.aQ.set i.Arg.toNat x)) (by rfl)) ?_;simp[-cB,V.fi];refine eD [] dr ?_;simp[-cB]
theorem adb(l:List D)(a b:Nat)(x:V):List.take a (l.map V.d)++x::List.drop b (l.map V.d)=(l.take a).map V.d++x::(l.drop b).map V.d:=by simp
theorem PZ(h:Nat)(y:V)(l:List D)(a b:Nat)(x:V):V.mg h y (List.take a (l.map V.d)++x::List.drop b (l.map V.d))=List.take a (l.map V.d)++V.fi h y x::List.drop b (l.map V.d):=by
 rw[adb,Eh,vC,V.mg,vC,<-adb]
theorem ZV(w:aj)(g:List Int):List.take 6 (w.enc.map V.d)++V.d (.sl (aC g))::List.drop 7 (w.enc.map V.d)=({w with bc:=g}:aj).enc.map V.d:=rfl
theorem QF(wb:Nat)(s:al)(F:Int)(m:ah)(i:ai)(aD:i.Op=33)(hA:0<=i.Arg/\i.Arg<m.Told.World.bc.length)(hg:m.Told.World.bc.length<=100000):jK wb s F m i {m with Told:={m.Told with World:={m.Told.World with bc:=m.Told.World.bc.set i.Arg.toNat 0}}}:=by
 have hc:=ia 5010 m.Told.World.bc (by omega);have Cf:i.Arg.toNat<m.Told.World.bc.length:=by omega
 unfold jK bE at *;refine rX [] [5003,5004,5005] func143 ?_;simp[-cB,f143];intro bs bL;simp[-cB,aD];refine eD [] hc ?_;simp[-cB,hA.1,Cf];refine au.weaken (Wk.freeze 5010 (ty:=3) (k:=1) (ys:=aC (m.Told.World.bc.set i.Arg.toNat 0)) (by rfl)) ?_;simp[-cB,V.fi,PZ,ZV];refine eD [] dr ?_;simp[-cB]
theorem Q5(wb:Nat)(s:al)(F:Int)(m:ah)(i:ai)(S:List Int)(x:Int)(aD:i.Op=32)(hS:m.Stack=S++ [x])(hl:S.length<=100000)(hA:0<=i.Arg/\i.Arg<m.Told.World.bc.length)(hg:m.Told.World.bc.length<=100000):jK wb s F m i {m with Stack:=S,Told:={m.Told with World:={m.Told.World with bc:=m.Told.World.bc.set i.Arg.toNat (if x<1 then 1 else x)}}}:=by
 have hp:=fb wb s F m S x hS (by omega);have hc:=ia 5010 m.Told.World.bc (by omega);have Cf:i.Arg.toNat<m.Told.World.bc.length:=by omega
 unfold jK bE at *;refine rX [] [5003,5004,5005] func143 ?_;simp[-cB,f143];intro bs bL;simp[-cB,aD];refine eD [5003,5004,5005] hp ?_;simp[-cB];refine eD [] hc ?_;simp[-cB,hA.1,Cf];refine au.weaken (Wk.freeze 5010 (ty:=3) (k:=1) (ys:=aC (m.Told.World.bc.set i.Arg.toNat (if x<1 then 1 else x))) (by rfl)) ?_;simp[-cB,V.fi,PZ,ZV];refine eD [] dr ?_;simp[-cB]
theorem ZW(l:List D)(a:Nat)(x:V):List.take a (l.map V.d)++ [x]=(l.take a).map V.d++ [x]:=by simp
@[simp] theorem ajM(ks:List Nat)(l:List D)(a:Nat)(x:V):V.dE ks (List.take a (l.map V.d)++ [x])=x.on ks:=by
 rw[ZW,Hm,EN];simp[V.dE]
theorem ZX(h:Nat)(y:V)(l:List D)(a:Nat)(x:V):V.mg h y (List.take a (l.map V.d)++ [x])=List.take a (l.map V.d)++ [V.fi h y x]:=by
 rw[ZW,Eh,vC];simp[V.mg]
theorem af3(f:aG)(g:List Int):List.take 3 (f.enc.map V.d)++ [V.d (.sl (aC g))]=({f with aM:=g}:aG).enc.map V.d:=rfl
theorem Uh(wb:Nat)(s:al)(F:Int)(m:ah)(i:ai)(Fr:List aG)(f:aG)(S:List Int)(x:Int)(aD:i.Op=6)(h:m.Frames=Fr++ [f])(CW:Fr.length<=1000000)(hS:m.Stack=S++ [x])(hl:S.length<=100000)(hA:0<=i.Arg/\i.Arg<f.aM.length)(hg:f.aM.length<=100000):jK wb s F m i {m with Stack:=S,Frames:=Fr++ [{f with aM:=f.aM.set i.Arg.toNat x}]}:=by
 have hp:=fR wb s F m S x hS (by omega);have hc:=ia 5010 f.aM (by omega);have ht:=xm wb s F m Fr f h CW;have Cf:i.Arg.toNat<f.aM.length:=by omega
 have lH:Fr.length<m.Frames.length:=by rw[h];simp
 have bm:m.Frames[Fr.length]?=some f:=s6 h;have sq:m.Frames[Fr.length]'lH=f:=by rw[akC lH]at bm;exact aoK bm
 unfold jK bE at *;unfold pU at hp;refine rX [] [5003,5004,5005] func143 ?_;simp[-cB,f143];intro bs bL;simp[-cB,aD];refine au.Wb [5003,5004,5005] rfl ht (by simp) rfl (by simp) rfl (by kernel_rfl) (by simp) (by simp) (by simp) ?_;simp[-cB,sq,lH];refine eD [] hc ?_;simp[-cB,lH];rw[sq,Fk h];have nz:∀z,cellAt (dd (List.map aG.enc Fr)++ [List.take 3 (List.map V.d f.enc)++ [V.rv 5010]]) Fr.length 3 z=V.rv 5010:=by
  intro z;have e:(dd (List.map aG.enc Fr)++ [List.take 3 (List.map V.d f.enc)++ [V.rv 5010]])[Fr.length]?=some (List.take 3 (List.map V.d f.enc)++ [V.rv 5010]):=by
   rw[apF (by simp[dd])];simp[dd]
  unfold cellAt;rw[e];rfl
 refine av.ee aT (dM.m0 [Q3,Q3,Q3,Q3,Q3,Q3,Q0,none,arb,none] [] (by kernel_rfl) ?_);simp[-cB,lH,hA.1,Cf,nz];refine gP.intro (λ_=>fU.jk (s:=⟨_,_⟩) 5004 [5003,5004] [5005] rfl (hp) rfl rfl (by kernel_rfl) (by first|rfl|simp) (by simp) (by simp[db,aV.cj,V.cj]) (cM (by simp)) (by simp) (by simp)) ?_;simp[-cB,lH,hA.1,Cf,nz];refine au.weaken (Wk.freeze 5010 (ty:=3) (k:=1) (ys:=aC (f.aM.set i.Arg.toNat x)) (by rfl)) ?_;simp[-cB,V.fi,ZX,af3];refine eD [] dr ?_;simp[-cB];rfl
def me(o:Int):Prop:=o≠1/\o≠3/\o≠5/\o≠7/\o≠8/\o≠9/\o≠10/\o≠11/\o≠12/\o≠13/\o≠19/\o≠20
theorem adw(wb:Nat)(s:al)(F:Int)(m m':ah)(i:ai)(aD:me i.Op)(h:jK wb s F m i m'):jb wb s F m i m':=by
 obtain⟨h1,h2,h3,h4,h5,h6,h7,h8,h9,ew,jN,oM⟩:=aD;unfold jK bE at h;unfold jb bE;refine rX [] [5003,5004,5005] func83 ?_;simp[-cB,f83];intro bs bL;simp[-cB,h1,h2,h3,h4,h5,h6,h7,h8,h9,ew,jN,oM];refine eD [5003,5004,5005] h ?_;simp
theorem adx(wb:Nat)(s:al)(F:Int)(m:ah)(i:ai)(e:Int)(aD:me i.Op)(h:CT wb s F m i e):AY wb s F m i e:=by
 obtain⟨h1,h2,h3,h4,h5,h6,h7,h8,h9,ew,jN,oM⟩:=aD;obtain⟨m',h⟩:=h;refine⟨m',?_⟩;unfold bE at h⊢;refine rX [] [5003,5004,5005] func83 ?_;simp[-cB,f83];intro bs bL;simp[-cB,h1,h2,h3,h4,h5,h6,h7,h8,h9,ew,jN,oM];refine au.kN [5003,5004,5005] rfl (h) (by simp) rfl (by simp) (by kernel_rfl) (by first|rfl|simp) (by simp) (by simp) (by simp) ?_;simp
theorem adz(wb:Nat)(s:al)(F:Int)(m:ah)(i:ai)(x:ByteArray)(aD:i.Op=21)(ht:Pure prog 78 [.agg (s.Tables.enc.map .d),iD i.Arg] (.d (.v (.string x))))(hl:m.Told.Out.size+x.size<=140737488355328):jV wb s F m i {m with Told:={m.Told with Out:=m.Told.Out++x}}:=by
 have hs:=PS wb s F m x hl;unfold jV bE at *;refine rX [] [5003,5004,5005] func38 ?_;simp[-cB,f38];intro bs;simp[aD];refine av.Fj 9 [.d (.v (.string x))] aT (by rfl) (by kernel_rfl) ?_;simp[-cB,vD];refine⟨ht.ok _,?_⟩;refine eD [5003,5004,5005] hs ?_;simp
theorem adB(wb:Nat)(s:al)(F:Int)(m:ah)(i:ai)(S:List Int)(v:Int)(x:ByteArray)(aD:i.Op=22)(hS:m.Stack=S++ [v])(pF:S.length<=100000)(ht:Pure prog 79 [iD v] (.d (.v (.string x))))(hl:m.Told.Out.size+x.size<=140737488355328):jV wb s F m i {m with Stack:=S,Told:={m.Told with Out:=m.Told.Out++x}}:=by
 have hp:=fb wb s F m S v hS (by omega);have hs:=PS wb s F {m with Stack:=S} x hl;unfold jV bE at *;refine rX [] [5003,5004,5005] func38 ?_;simp[-cB,f38];intro bs;simp[aD];refine eD [5003,5004,5005] hp ?_;simp[-cB];refine pC ht ?_;simp[-cB];refine eD [5003,5004,5005] hs ?_;simp
theorem adA(wb:Nat)(s:al)(F:Int)(m:ah)(i:ai)(x:ByteArray)(aD:i.Op=35)(ht:Pure prog 81 [.agg (s.Tables.enc.map .d),.agg (m.Told.World.enc.map .d)] (.d (.v (.string x))))(hl:m.Told.Out.size+x.size<=140737488355328):jV wb s F m i {m with Told:={m.Told with Out:=m.Told.Out++x}}:=by
 have hs:=PS wb s F m x hl;unfold jV bE at *;refine rX [] [5003,5004,5005] func38 ?_;simp[-cB,f38];intro bs;simp[aD];refine av.Fj 13 [.d (.v (.string x))] aT (by rfl) (by kernel_rfl) ?_;simp[-cB,vD];refine⟨ht.ok _,?_⟩;refine eD [5003,5004,5005] hs ?_;simp
theorem adC(wb:Nat)(s:al)(F:Int)(m:ah)(i:ai)(S:List Int)(v:Int)(x:ByteArray)(aD:i.Op=23)(hS:m.Stack=S++ [v])(pF:S.length<=100000)(ht:Pure prog 80 [.agg (s.Tables.enc.map .d),iD v] (.d (.v (.string x))))(hl:m.Told.Out.size+x.size<=140737488355328):jV wb s F m i {m with Stack:=S,Told:={m.Told with Out:=m.Told.Out++x}}:=by
 have hp:=fR wb s F m S v hS (by omega);have hs:=Tv wb s F {m with Stack:=S} x hl;unfold jV bE at *;unfold pU at hp;unfold ZL at hs;refine rX [] [5003,5004,5005] func38 ?_;simp[-cB,f38];intro bs;simp[aD];refine av.ee aT (dM.m0 [Q3,Q3,Q3,Q3,Q3,Q3,Q0,none,arb,none] [.d (.v (.string x))] (by kernel_rfl) ?_);simp[-cB];refine gP.intro (λ_=>fU.jk (s:=⟨_,_⟩) 5004 [5003,5004] [5005] rfl (hp) rfl rfl (by kernel_rfl) (by first|rfl|simp) (by simp) (by simp[db,aV.cj,V.cj]) (cM (by simp)) (by simp) (by simp)) ?_;simp[-cB];refine⟨ht.ok _,?_⟩;refine gP.intro (λ_=>fU.jk (s:=⟨_,_⟩) 5003 [5003] [5004,5005] rfl (hs) rfl rfl (by kernel_rfl) (by first|rfl|simp) (by simp) (by refine⟨by simp,λhx e=>?_,by simp⟩;obtain⟨x1,y1,rfl⟩:=Cn e;simp[db,aV.cj,V.cj,V.on]) (cM (by simp)) (by simp) (by simp)) ?_;simp[-cB]
theorem adD(wb:Nat)(s:al)(F:Int)(m:ah)(i:ai)(S:List Int)(v:Int)(x:ByteArray)(aD:i.Op=36)(hS:m.Stack=S++ [v])(pF:S.length<=100000)(ht:Pure prog 82 [.agg (s.Tables.enc.map .d),.agg (m.Told.World.enc.map .d),iD v] (.d (.v (.string x))))(hl:m.Told.Out.size+x.size<=140737488355328):jV wb s F m i {m with Stack:=S,Told:={m.Told with Out:=m.Told.Out++x}}:=by
 have hp:=fR wb s F m S v hS (by omega);have hs:=Tv wb s F {m with Stack:=S} x hl;unfold jV bE at *;unfold pU at hp;unfold ZL at hs;refine rX [] [5003,5004,5005] func38 ?_;simp[-cB,f38];intro bs;simp[aD];refine av.ee aT (dM.m0 [Q3,Q3,Q3,Q3,Q3,Q3,Q3,Q3,Q3,Q3,Q3,Q3,Q0,none,arb,none] [.d (.v (.string x))] (by kernel_rfl) ?_);simp[-cB];refine gP.intro (λ_=>fU.jk (s:=⟨_,_⟩) 5004 [5003,5004] [5005] rfl (hp) rfl rfl (by kernel_rfl) (by first|rfl|simp) (by simp) (by simp[db,aV.cj,V.cj]) (cM (by simp)) (by simp) (by simp)) ?_;simp[-cB];refine⟨ht.ok _,?_⟩;refine gP.intro (λ_=>fU.jk (s:=⟨_,_⟩) 5003 [5003] [5004,5005] rfl (hs) rfl rfl (by kernel_rfl) (by first|rfl|simp) (by simp) (by refine⟨by simp,λhx e=>?_,by simp⟩;obtain⟨x1,y1,rfl⟩:=Cn e;simp[db,aV.cj,V.cj,V.on]) (cM (by simp)) (by simp) (by simp)) ?_;simp[-cB]
theorem Ue(wb:Nat)(s:al)(F:Int)(m:ah)(i:ai)(v e:Int)(he:e≠0)(aD:i.Op=7)(hv:oq m.Told.World m.Env i.Arg=(v,e))(hw:m.Told.World.wf)(hn:m.Told.World.ae.length<=32768):AY wb s F m i e:=by
 refine⟨m,?_⟩;have hc:=iK e he;have hs:=S4 m.Told.World hw hn m.Env i.Arg;rw[hv]at hs;unfold bE at *;refine rX [] [5003,5004,5005] func83 ?_;simp[-cB,f83];intro bs bL;simp[-cB,aD];refine av.bT [eM (v,e)] aT (by kernel_rfl) (by rfl) ?_;simp[-cB,hs.ok,eM];refine⟨hs.ok _,?_⟩;refine au.kN [] rfl (hc) (by simp) rfl (by simp) (by kernel_rfl) (by first|rfl|simp) (by simp) (by simp) (by simp) ?_;simp
theorem ab3(wb:Nat)(s:al)(F:Int)(m:ah)(r:Int)(fM:32≤m.Frames.length):
  aE prog 74 [.bp 5003 0,iD r] (bE wb s F m) (λx L=>x= .ix (oV 17)/\L=bE wb s F m):=by
 unfold bE;refine rX [] [5003,5004,5005] func74 ?_;simp[-cB,f74];have PT:(32:Int)<=m.Frames.length:=by omega
 simp[-cB,fM,PT];refine au.panic rfl rfl rfl ?_;simp[oV]
theorem XF(wb:Nat)(s:al)(F:Int)(m:ah)(i:ai)(r:Int)(aD:i.Op=26)(hA:0<=i.Arg)(hf:s.Tables.cY[i.Arg.toNat]?=some r)(fM:32<=m.Frames.length):NG wb s F m i 17:=by
 refine⟨m,?_⟩;have hc:=ab3 wb s F m r fM;obtain⟨hf1,hf2⟩:=aoL.1 hf;unfold bE at *;refine rX [] [5003,5004,5005] func38 ?_;simp[-cB,f38];intro bs;simp[aD];refine av.Fj 11 [] aT (by rfl) (by kernel_rfl) ?_;simp[-cB,hf1,hf2,vD];refine⟨hA,?_⟩;refine au.kN [5003,5004,5005] rfl (hc) (by simp) rfl (by simp) (by kernel_rfl) (by first|rfl|simp) (by simp) (by simp) (by simp) ?_;simp
def I9(t:ar)(x:Int):Bool:=decide (0<x)&&(decide (x<t.az.length)&&(t.az[x.toNat]?.getD bg.zero).Room)
theorem ly(wb:Nat)(s:al)(F:Int)(m:ah)(x:Int):
  aE prog 252 [.bp 5003 0,iD x] (bE wb s F m) (λr L=>r= .ret (oD (I9 s.Tables x))/\L=bE wb s F m):=by
 unfold I9 bE;by_cases h1:0<x
 ·by_cases h2:x<s.Tables.az.length
  ·have h3:x.toNat<s.Tables.az.length:=by omega
   have h4:0<=x:=by omega
   refine rX [4] [5003,5004,5005] func252 ?_;simp[-cB,f252,h1,h2,h3,h4]
  ·refine rX [4] [5003,5004,5005] func252 ?_;simp[-cB,f252,h1,h2]
 ·refine rX [4] [5003,5004,5005] func252 ?_;simp[-cB,f252,h1]
set_option maxHeartbeats 200000
set_option maxRecDepth 512
section
variable {P : Program} {n : Nat} {ops : Array Oper} {s : St} {Q : AX -> St -> Prop}
theorem au.AM{o:Oper}{rest:List Oper}(jB:fv ops s o=some (some true))(hu:nK s o.op.operands.toList)(k:au P n ops (⟨o.dst,o.op,o.type,o.pos,o.after,none⟩::rest) (sP s o) Q):au P n ops (o::rest) s Q:=by
 intro fo m0 w0 m a w st g;have hw:=nH g jB;have h:=k fo m0 w0 m a w st (g.sP hu);unfold wpListIn at h⊢;rw[if_pos hw];rw[if_pos (by simp[Region.wanted])]at h;exact h
theorem au.skip{o:Oper}{rest:List Oper}(jB:fv ops s o=some (some false))(hd:∀d,o.dst=some d->d<n)(k:au P n ops rest (s.put o.dst (.gd false .any)) Q):au P n ops (o::rest) s Q:=
 au.guarded jB hd (λh=>by cases h) k
end
theorem Ch.last{nx:List Int}{n:Nat}{c:Int}{l:List Int}(h:Ch nx n c l):(match l.getLast? with|some y=>aH nx y|none=>c)=0:=by
 induction h with
 | nil=>rfl
 | @cons c l h t ih=>
   rw[aqZ];cases hl:l.getLast? with
   | none=>
     rw[hl]at ih;simpa using ih
   | some y=>
     rw[hl]at ih;simpa using ih
theorem ec.Wg{t:Tree}{ls:Int->List Int}(h:ec t t.bl.length ls):pe t=true:=by
 unfold pe;have iZ:=h.pos;simp only[aoM,decide_eq_true_eq,aoP,ap2];refine⟨⟨⟨⟨⟨⟨by omega,h.lc⟩,h.ln⟩,h.p0⟩,h.c0⟩,h.n0⟩,λk hk=>?_⟩;have hx:1<=(k:Int)+1/\(k:Int)+1<t.bl.length:=by omega
 generalize (k:Int)+1=x at hx;have wg:=h.up x hx.1 hx.2;have ma:=h.ch x hx.1 hx.2;have Ic:=h.kids hx;unfold r8;simp only[aoM,aqG,ap9,decide_eq_false_iff_not,Bool.not_eq_false',apT];have SI:aH t.bl x≠0->(1<=aH t.bl x/\aH t.bl x<t.bl.length)/\x∈ls (aH t.bl x):=λe=>wg.resolve_left λe2=>e e2.1
 refine⟨⟨⟨⟨?_,?_⟩,?_⟩,?_⟩,?_⟩
 ·by_cases e:aH t.bl x=0
  ·exact .inl e
  ·exact .inr (aY.2 (SI e).1)
 ·by_cases e:aH t.bl x=0
  ·right;rcases wg with h1|h1
   ·exact h1.2
   ·omega
  ·exact .inl e
 ·rw[Bm,aoM,aoP,decide_eq_true_eq,Ic];refine⟨λy hy=>?_,ma.last⟩;unfold jm;simp only[aoM,decide_eq_true_eq];refine⟨h.par x hx.1 hx.2 y hy,?_⟩;have h1:=aqM.1 ma.nodup y;have h2:=List.count_pos_iff.2 hy;omega
 ·by_cases e:aH t.bl x=0
  ·exact .inl e
  ·right;obtain⟨h1,h2⟩:=SI e;rw[h.kids h1];have h3:=aqM.1 (h.ch _ h1.1 h1.2).nodup x;have h4:=List.count_pos_iff.2 h2;omega
 ·by_cases e:bY t.bl.length (aH t.bl x)=true
  ·right;intro hm;have hu:=h.YQ (aY.1 e);have:=(Ch.cons hx hu).nodup;exact(apx.1 this).1 hm
  ·left;simpa using e
theorem dV{t:ar}{w:aj}:cK t w=true↔(w.aQ.length=t.aQ.length∧w.ae.length=t.az.length∧w.Flags.length=t.az.length∧w.aJ.length=t.az.length *t.aJ.length∧w.bc.length=t.eK.length∧pe w.tree=true)∧
  ((∀x∈w.aQ,-32768<=x/\x<=32767)/\(∀x∈w.aJ,-32768<=x/\x<=32767)/\(∀x∈w.Flags,0<=x/\x<=kZ t.Flags-1)/\(∀x∈w.bc,0<=x/\x<=32767)/\(-32768<=w.Score/\w.Score<=32767)/\(0<=w.jO/\w.jO<=2147483647))/\
  ((0<=w.iB/\w.iB<=3)/\(0<=w.It/\w.It<=(t.az.length:Int)-1)/\(0<=w.Go/\w.Go<=12)/\sX t w=true):=by
 unfold cK;simp only[aoM,decide_eq_true_eq,bJ,cC,aoP,gQ];constructor
 ·rintro⟨⟨⟨⟨⟨⟨⟨h1,h2⟩,h3⟩,h4⟩,h5⟩,h6⟩,⟨⟨⟨⟨⟨h7,h8⟩,h9⟩,ew⟩,jN⟩,oM⟩⟩,⟨⟨⟨gK,Ce⟩,oN⟩,lg⟩⟩;exact⟨⟨h1,h2,h3,h4,h5,h6⟩,⟨h7,h8,h9,ew,jN,oM⟩,⟨gK,Ce,oN,lg⟩⟩
 ·rintro⟨⟨h1,h2,h3,h4,h5,h6⟩,⟨h7,h8,h9,ew,jN,oM⟩,⟨gK,Ce,oN,lg⟩⟩;exact⟨⟨⟨⟨⟨⟨⟨h1,h2⟩,h3⟩,h4⟩,h5⟩,h6⟩,⟨⟨⟨⟨⟨h7,h8⟩,h9⟩,ew⟩,jN⟩,oM⟩⟩,⟨⟨⟨gK,Ce⟩,oN⟩,lg⟩⟩
theorem Fl{p:Int->Prop}{l:List Int}{i:Nat}{v:Int}(h:∀x∈l,p x)(hv:p v):∀x∈l.set i v,p x:=by
 intro x hx;rcases aqU hx with hx|hx
 ·exact h x hx
 ·rw[hx];exact hv
section
variable {t : ar} {w : aj}
theorem RM(h:cK t w=true)(v:Int)(hv: -32768<=v/\v<=32767):cK t {w with Score:=v}=true:=by
 obtain⟨a,⟨b1,b2,b3,b4,b5,b6⟩,c⟩:=dV.1 h;exact dV.2 ⟨a,⟨b1,b2,b3,b4,hv,b6⟩,c⟩
theorem Wh(h:cK t w=true)(v:Int):cK t {w with cO:=v}=true:=by
 obtain⟨a,b,c⟩:=dV.1 h;exact dV.2 ⟨a,b,c⟩
theorem Ja(h:cK t w=true)(v:Int)(hv:0<=v/\v<=3):cK t {w with iB:=v}=true:=by
 obtain⟨a,b,c1,c⟩:=dV.1 h;exact dV.2 ⟨a,b,hv,c⟩
theorem ab4(h:cK t w=true)(v:Int)(hv:0<=v/\v<=12):cK t {w with Go:=v}=true:=by
 obtain⟨a,b,c1,c2,c3,c4⟩:=dV.1 h;exact dV.2 ⟨a,b,c1,c2,hv,c4⟩
theorem MC(h:cK t w=true)(i:Nat)(v:Int)(hv: -32768<=v/\v<=32767):cK t {w with aQ:=w.aQ.set i v}=true:=by
 obtain⟨⟨a1,a⟩,⟨b1,b⟩,c⟩:=dV.1 h;exact dV.2 ⟨⟨by simpa using a1,a⟩,⟨Fl b1 hv,b⟩,c⟩
theorem Ej(h:cK t w=true)(i:Nat)(v:Int)(hv:0<=v/\v<=32767):cK t {w with bc:=w.bc.set i v}=true:=by
 obtain⟨⟨a1,a2,a3,a4,a5,a6⟩,⟨b1,b2,b3,b4,b⟩,c⟩:=dV.1 h;exact dV.2 ⟨⟨a1,a2,a3,a4,by simpa using a5,a6⟩,⟨b1,b2,b3,Fl b4 hv,b⟩,c⟩
theorem RN(h:cK t w=true)(i:Nat)(v:Int)(hv: -32768<=v/\v<=32767):cK t {w with aJ:=w.aJ.set i v}=true:=by
 obtain⟨⟨a1,a2,a3,a4,a⟩,⟨b1,b2,b⟩,c⟩:=dV.1 h;exact dV.2 ⟨⟨a1,a2,a3,by simpa using a4,a⟩,⟨b1,Fl b2 hv,b⟩,c⟩
theorem RO(h:cK t w=true)(i:Nat)(v:Int)(hv:0<=v/\v<=kZ t.Flags-1):cK t {w with Flags:=w.Flags.set i v}=true:=by
 obtain⟨⟨a1,a2,a3,a⟩,⟨b1,b2,b3,b⟩,c⟩:=dV.1 h;exact dV.2 ⟨⟨a1,a2,by simpa using a3,a⟩,⟨b1,b2,Fl b3 hv,b⟩,c⟩
theorem ZY(h:cK t w=true)(x p n:Int):cK t (mW t w x p n).1=true:=by
 unfold mW;split
 ·split
  ·rename_i hi;unfold gQ bJ at hi;simp only[aoM,decide_eq_true_eq]at hi;exact RN h _ _ hi
  ·exact h
 ·exact h
theorem ab5{l:List Int}{x:Int}(h:0<=x/\x<l.length):aA l x∈l:=by
 unfold aA;rw[akC (by omega)];exact aoV _
theorem ab6{n f k:Nat}(hf:f<k)(hv:n<2^k)(hb:n / 2^f % 2=0):n+2^f<2^k:=by
 obtain⟨d,rfl⟩:∃d,k=f+1+d:=⟨k-(f+1),by omega⟩
 have h2:2^(f+1+d)=2^f *(2 *2^d):=by rw[Nat.pow_add,Nat.pow_succ,Nat.mul_assoc]
 rw[h2]at hv⊢;have hpf:0<2^f:=Nat.pow_pos (by decide);have hq:n / 2^f<2 *2^d:=Nat.div_lt_of_lt_mul hv;have hm:=Nat.div_add_mod n (2^f);have hr:=Nat.mod_lt n hpf;generalize 2^f=P at *;generalize n / P=q at *;have h3:P *(q+1+1)<=P *(2 *2^d):=Nat.mul_le_mul_left _ (by omega);rw[Nat.mul_add,Nat.mul_add]at h3;omega
theorem ab7{n f:Nat}(hb:n / 2^f % 2=1):2^f<=n:=by
 have hm:=Nat.div_mul_le_self n (2^f);have hq:1<=n / 2^f:=by revert hb;generalize n / 2^f=q;omega
 have h3:=ao4 (2^f) hq;rw[aqb]at h3;exact apr h3 hm
theorem Jb(h:cK t w=true)(x f:Int)(on:Bool)(hf:0<=f/\f<t.Flags)(lg:t.Flags<=16):cK t (eb w x f on).1=true:=by
 unfold eb;split
 ·rename_i ha;simp only;split
  ·exact h
  ·rename_i bR;obtain⟨⟨a1,a2,a3,a⟩,⟨b1,b2,b3,b⟩,c⟩:=dV.1 h;have hx:bY w.ae.length x=true:=by
    unfold cz at ha;split at ha
    ·assumption
    ·omega
   have zH:=aY.1 hx;have hg:=b3 _ (ab5 (l:=w.Flags) (x:=x) (by omega));have Ye:kZ t.Flags=((2^t.Flags.toNat:Nat):Int):=by
    unfold kZ;rw[aqV (by omega)];simp
   refine RO h _ _ ?_;rw[Ye]at hg⊢;obtain⟨n,hn⟩:∃n:Nat,aA w.Flags x=n:=⟨(aA w.Flags x).toNat,by omega⟩
   have hp:0<2^f.toNat:=Nat.pow_pos (by decide);have aw:n<2^t.Flags.toNat:=by
    have h1:=hg.2;rw[hn]at h1;generalize 2^t.Flags.toNat=K at *;omega
   have hdiv:((n:Int) / ((2^f.toNat:Nat):Int)) % 2=((n / 2^f.toNat % 2:Nat):Int):=by simp
   cases on with
   | true=>
     simp only[if_true];have yW:cU w x f.toNat=false:=by simpa using bR
     unfold cU at yW;rw[hx,apy,decide_eq_false_iff_not,hn,hdiv]at yW;have h1:=ab6 (f:=f.toNat) (k:=t.Flags.toNat) (by omega) aw (by omega);rw[hn];generalize 2^t.Flags.toNat=K at *;generalize 2^f.toNat=P at *;omega
   | false=>
     simp only[aph,if_false];have yW:cU w x f.toNat=true:=by simpa using bR
     unfold cU at yW;rw[hx,apy,decide_eq_true_eq,hn,hdiv]at yW;have h1:=ab7 (n:=n) (f:=f.toNat) (by omega);rw[hn];generalize 2^t.Flags.toNat=K at *;generalize 2^f.toNat=P at *;omega
 ·exact h
def Wi(t:ar)(par:List Int):Prop:=∀k:Int,1<=k->k<t.az.length->(bu t k).Room=true->aH par k=0
theorem z8:sX t w=true↔Wi t w.ae/\(bu t (dw w.tree 1)).Room=true:=by
 unfold sX Wi;simp only[aoM,aoP,ap2,aqG,ap9,decide_eq_false_iff_not,apT];refine and_congr_left λ_=>⟨λh k h1 h2 h3=>?_,λh k hk=>?_⟩
 ·have:=h (k.toNat-1) (by omega);rw[show((k.toNat-1:Nat):Int)+1=k by omega]at this;rcases this with h4|h4
  ·rw[h3]at h4;cases h4
  ·exact h4
 ·cases hr:(bu t ((k:Int)+1)).Room with
  | false=>exact .inl rfl
  | true=>exact .inr (h _ (by omega) (by omega) hr)
theorem zI{x:Int}:da t x=true↔1<=x/\x<t.az.length/\(bu t x).Room=true:=by
 unfold da;simp only[aoM,decide_eq_true_eq,and_assoc]
theorem Jc{p:aj×Int}(h1:da t (dw p.1.tree 1)=true->p.2=0->cK t p.1=true)(h2:(pE t p).2=0):cK t (pE t p).1=true:=by
 unfold pE at h2⊢;split
 ·rename_i hc;rw[if_pos hc]at h2;simp at h2
 ·rename_i hc;rw[if_neg hc]at h2;refine h1 ?_ h2;cases hr:da t (dw p.1.tree 1)with
  | true=>rfl
  | false=>exact(hc ⟨h2,hr⟩).elim
theorem Jd(h:cK t w=true){w':aj}(e:w'={w with ae:=w'.ae,Child:=w'.Child,Next:=w'.Next})(hl:w'.ae.length=w.ae.length){ls:Int->List Int}(hn:ec w'.tree w'.ae.length ls)(hp:Wi t w'.ae)(vS:da t (dw w'.tree 1)=true):cK t w'=true:=by
 obtain⟨⟨a1,a2,a3,a4,a5,a6⟩,b,⟨c1,c2,c3,c4⟩⟩:=dV.1 h;have hN:pe w'.tree=true:=ec.Wg hn;have hP:sX t w'=true:=z8.2 ⟨hp,(zI.1 vS).2.2⟩;rw[e]at hN hP⊢;exact dV.2 ⟨⟨a1,by rw[hl];exact a2,a3,a4,a5,hN⟩,b,⟨c1,c2,c3,hP⟩⟩
theorem LN(w:aj)(x:Int):cx w x={w with ae:=(cx w x).ae,Child:=(cx w x).Child,Next:=(cx w x).Next}:=rfl
theorem P0(w:aj)(x to:Int):uX w x to={w with ae:=(uX w x to).ae,Child:=(uX w x to).Child,Next:=(uX w x to).Next}:=rfl
theorem P1(h:cK t w=true)(aO:ig t w)(x:Int)(h2:(iG t w x).2=0):cK t (iG t w x).1=true:=by
 unfold iG at h2⊢;split
 ·rename_i hc;rw[if_pos hc]at h2;simp at h2
 ·rename_i hc;rw[if_neg hc]at h2;refine Jc (λvS he=>?_) h2;unfold fC at he vS⊢;split
  ·rename_i hx;rw[if_pos hx]at vS;have zH:=aY.1 hx;have hlen:(cx w x).ae.length=w.ae.length:=p8 w x;have hn:ec (cx w x).tree (cx w x).ae.length (λu=>if u=aH w.tree.bl x then(br w.tree u).erase x else br w.tree u):=by
    rw[vc,hlen];exact aO.nest.leave zH
   refine Jd h (LN w x) hlen hn (λk k1 k2 k3=>?_) vS;show aH (w.ae.set x.toNat 0) k=0;rw[lq (by omega)];split
   ·rfl
   ·exact(z8.1 aO.pl).1 k k1 k2 k3
  ·exact h
theorem Wj(h:cK t w=true)(aO:ig t w)(x to:Int)(h2:(kW t w x to).2=0):cK t (kW t w x to).1=true:=by
 unfold kW at h2⊢;split
 ·rename_i hc;rw[if_pos hc]at h2;simp at h2
 ·rename_i hc;rw[if_neg hc]at h2;refine Jc (λvS he=>?_) h2;unfold kX at he vS⊢;split
  ·rename_i hx;rw[if_pos hx]at vS he;rw[aoM]at hx;have zH:=aY.1 hx.1;have ZP:=aY.1 hx.2;split
   ·exact h
   ·rename_i hm;rw[if_neg hm]at vS;have hlen:(uX w x to).ae.length=w.ae.length:=by
     show((cx w x).ae.set x.toNat to).length=_;rw[aqm];exact p8 w x
    have hn:=aO.nest.move zH ZP hm;rw[<-vc,<-IK,<-hlen]at hn;refine Jd h (P0 w x to) hlen hn (λk k1 k2 k3=>?_) vS;show aH (((w.ae.set x.toNat 0)).set x.toNat to) k=0;have hT:=aO.hT;by_cases Ic:k=x
    ·subst Ic;exact(hc (zI.2 ⟨k1,k2,k3⟩)).elim
    ·rw[lq (by rw[aqm];omega),if_neg Ic,lq (by omega),if_neg Ic];exact(z8.1 aO.pl).1 k k1 k2 k3
  ·exact h
end
theorem TE{w w1:aj}(hw:w.wf){ls:Int->List Int}(hn:ec w1.tree w1.ae.length ls)(hlen:w1.ae.length=w.ae.length)(e:w1={w with ae:=w1.ae,Child:=w1.Child,Next:=w1.Next}):w1.wf:=by
 have l0:=aj.fW hw;have lc:w1.Child.length=w1.ae.length:=hn.lc;have ln:w1.Next.length=w1.ae.length:=hn.ln;have small:∀y:Int,y=0\/(1<=y/\y<w1.ae.length)->aN .i64 y:=by intro y hy;rw[aS];omega
 have oh:∀x:Int,0<=x->x<w1.ae.length->aH w1.ae x=0\/(1<=aH w1.ae x/\aH w1.ae x<w1.ae.length):=by
  intro x a b;by_cases h0:x=0
  ·subst h0;exact .inl hn.p0
  ·rcases hn.up x (by omega) b with h|h
   ·exact .inl h.1
   ·exact .inr h.1
 have abU:∀x:Int,0<=x->x<w1.ae.length->aH w1.Child x=0\/(1<=aH w1.Child x/\aH w1.Child x<w1.ae.length):=by
  intro x a b;by_cases h0:x=0
  ·subst h0;exact .inl hn.c0
  ·exact(hn.ch x (by omega) b).head
 have abV:∀x:Int,0<=x->x<w1.ae.length->aH w1.Next x=0\/(1<=aH w1.Next x/\aH w1.Next x<w1.ae.length):=by
  intro x a b;by_cases h0:x=0
  ·subst h0;exact .inl hn.n0
  ·rcases hn.up x (by omega) b with h|h
   ·exact .inl h.2
   ·exact(hn.ch _ h.1.1 h.1.2).V8 x h.2
 have Am:=hw;unfold aj.wf at Am;obtain⟨g1,g2,-,-,-,-,-,-,g3⟩:=Am;rw[e];unfold aj.wf;refine⟨g1,g2,by show w1.ae.length *8<=_;omega,λy hy=>?_,by show w1.Child.length *8<=_;omega,λy hy=>?_,by show w1.Next.length *8<=_;omega,λy hy=>?_,g3⟩
 ·obtain⟨i,a,b,rfl⟩:=xk hy;exact small _ (oh i a b)
 ·obtain⟨i,a,b,rfl⟩:=xk hy;exact small _ (abU i a (by have:(i:Int)<w1.Child.length:=b;omega))
 ·obtain⟨i,a,b,rfl⟩:=xk hy;exact small _ (abV i a (by have:(i:Int)<w1.Next.length:=b;omega))
theorem HX{t:ar}{w:aj}(aO:ig t w)(x:Int):(fC w x).1.wf/\(fC w x).1.ae.length=w.ae.length:=by
 unfold fC;split
 ·rename_i hx;have zH:=aY.1 hx;have hlen:(cx w x).ae.length=w.ae.length:=p8 w x;have hn:ec (cx w x).tree (cx w x).ae.length (λu=>if u=aH w.tree.bl x then(br w.tree u).erase x else br w.tree u):=by
   rw[vc,hlen];exact aO.nest.leave zH
  exact⟨TE aO.wf hn hlen (LN w x),hlen⟩
 ·exact⟨aO.wf,rfl⟩
theorem NN{t:ar}{w:aj}(aO:ig t w)(x to:Int):(kX w x to).1.wf/\(kX w x to).1.ae.length=w.ae.length:=by
 unfold kX;split
 ·rename_i hx;rw[aoM]at hx;have zH:=aY.1 hx.1;have ZP:=aY.1 hx.2;split
  ·exact⟨aO.wf,rfl⟩
  ·rename_i hm;have hlen:(uX w x to).ae.length=w.ae.length:=by
    show((cx w x).ae.set x.toNat to).length=_;rw[aqm];exact p8 w x
   have hn:=aO.nest.move zH ZP hm;rw[<-vc,<-IK,<-hlen]at hn;exact⟨TE aO.wf hn hlen (P0 w x to),hlen⟩
 ·exact⟨aO.wf,rfl⟩
theorem Mt{t:ar}{w:aj}(aO:ig t w)(hr:da t 1=false):(fC w 1).2=0/\da t (dw (fC w 1).1.tree 1)=false:=by
 have hT:=aO.hT;have hn3:=aO.hn;have hx:bY w.ae.length 1=true:=by rw[aY];omega
 unfold fC;rw[if_pos hx];refine⟨rfl,?_⟩;have hlen:(cx w 1).ae.length=w.ae.length:=p8 w 1;have e:dw (cx w 1).tree 1=1:=by
  unfold dw ik;have e1:(cx w 1).tree.bl=(cx w 1).ae:=rfl;rw[e1,hlen];have h0:aH (cx w 1).ae 1=0:=by
   show aH (w.ae.set (1:Int).toNat 0) 1=0;rw[lq (by omega)];simp
  obtain⟨k,hk⟩:∃k,w.ae.length=k+2:=⟨w.ae.length-2,by omega⟩
  rw[hk,bH,if_pos (by rw[aY];omega),h0,bH,if_neg (by simp[bY])];rfl
 rw[e];exact hr
set_option maxHeartbeats 4000000
set_option maxRecDepth 20000
theorem pk(w:aj)(hw:w.wf):Pure prog 131 [.agg (w.enc.map .d)] (iD (dw w.tree 1)):=by
 have ht:=IJ w hw 1;refine Pure.run func131 rfl (by simp) ?_;simp;intro bs;refine pC ht ?_;simp
theorem iL t x:I9 t x=da t x:=by
 grind[I9,da,bu,decide]
def ud(wb:Nat)(s:al)(F:Int)(m:ah)(L:aI):Prop:=∃b cs,L=bE wb s F m++ [(4,.box b 34 cs)]
theorem RQ wb s F m S v n(hS:m.Stack=S++ [v,n])(hl:S.length≤100000)(hr:da s.Tables v=true):
  aE prog 214 [.bp 5003 0,iD 17] (bE wb s F m) (λr L=>r= .ret (.bA [.agg ((m.Told.World).enc.map .d),iD 12])/\ud wb s F {m with Stack:=S} L):=by
 have mx:=fb wb s F m (S++ [v]) n (by grind) (by grind);have hp:=fb wb s F {m with Stack:=S++ [v]} S v rfl (by omega);have nw:=ly wb s F {m with Stack:=S} v;rw[iL,hr]at nw;unfold ud bE at *;refine aE.nj [4,5] [5003,5004,5005,4] func214 rfl (by simp) ?_;simp[f214];intro bs bL;refine au.eo [5003,5004,5005] rfl (mx) (by simp) rfl (by simp) rfl (by rfl) (by rfl) (by simp) (by simp) (by simp) (by simp) ?_;simp;refine au.eo [5003,5004,5005] rfl (hp) (by simp) rfl (by simp) rfl (by rfl) (by rfl) (by simp) (by simp) (by simp) (by simp) ?_;simp;refine au.eo [5003,5004,5005] rfl (nw) (by simp) rfl (by simp) rfl (by rfl) (by rfl) (by simp) (by simp) (by simp) (by simp) ?_;simp
theorem Wl wb s F m S v n(hS:m.Stack=S++ [v,n])(hl:S.length≤100000)(hr:da s.Tables v=false)(hw:vF m.Told.World) w1 e1(he:e1≠0)(ns:kX m.Told.World v n=(w1,e1)):
  aE prog 214 [.bp 5003 0,iD 17] (bE wb s F m) (λr L=>r= .ret (.bA [.agg ((w1).enc.map .d),iD e1])/\ud wb s F {m with Stack:=S} L):=by
 have mx:=fb wb s F m (S++ [v]) n (by grind) (by grind);have hp:=fb wb s F {m with Stack:=S++ [v]} S v rfl (by omega);have nw:=ly wb s F {m with Stack:=S} v;rw[iL,hr]at nw;have hc:=J8 m.Told.World hw v n;rw[ns]at hc;unfold ud bE at *;refine aE.nj [4,5] [5003,5004,5005,4] func214 rfl (by simp) ?_;simp[-cB,f214];intro bs bL;refine au.eo [5003,5004,5005] rfl (mx) (by simp) rfl (by simp) rfl (by rfl) (by rfl) (by simp) (by simp) (by simp) (by simp) ?_;simp[-cB];refine au.eo [5003,5004,5005] rfl (hp) (by simp) rfl (by simp) rfl (by rfl) (by rfl) (by simp) (by simp) (by simp) (by simp) ?_;simp[-cB];refine au.eo [5003,5004,5005] rfl (nw) (by simp) rfl (by simp) rfl (by rfl) (by rfl) (by simp) (by simp) (by simp) (by simp) ?_;simp[-cB];refine pC hc ?_;simp[-cB];refine au.eL rfl (g:=false) (x:=oD true) (λh=>by cases h) (by rfl) (by simp_all) (by simp) (by simp) rfl ?_;simp[-cB];refine au.skip (by simp_all) (by simp) ?_;refine bn _ _ [] (by rfl) ?_;simp[-cB,he]
theorem Wm wb s F m S v n(hS:m.Stack=S++ [v,n])(hl:S.length≤100000)(hr:da s.Tables v=false)(hw:vF m.Told.World) w1(Cq:w1.wf)(ns:kX m.Told.World v n=(w1,0))(hB:da s.Tables (dw w1.tree 1)=true):
  aE prog 214 [.bp 5003 0,iD 17] (bE wb s F m) (λr L=>r= .ret (.bA [.agg ((w1).enc.map .d),iD 0])/\ud wb s F {m with Stack:=S} L):=by
 have mx:=fb wb s F m (S++ [v]) n (by grind) (by grind);have hp:=fb wb s F {m with Stack:=S++ [v]} S v rfl (by omega);have nw:=ly wb s F {m with Stack:=S} v;rw[iL,hr]at nw;have hc:=J8 m.Told.World hw v n;rw[ns]at hc;have hh:=pk w1 Cq;have yF:=ly wb s F {m with Stack:=S} (dw w1.tree 1);rw[iL,hB]at yF;unfold ud bE at *;refine aE.nj [4,5] [5003,5004,5005,4] func214 rfl (by simp) ?_;simp[-cB,f214];intro bs bL;refine au.eo [5003,5004,5005] rfl (mx) (by simp) rfl (by simp) rfl (by rfl) (by rfl) (by simp) (by simp) (by simp) (by simp) ?_;simp[-cB];refine au.eo [5003,5004,5005] rfl (hp) (by simp) rfl (by simp) rfl (by rfl) (by rfl) (by simp) (by simp) (by simp) (by simp) ?_;simp[-cB];refine au.eo [5003,5004,5005] rfl (nw) (by simp) rfl (by simp) rfl (by rfl) (by rfl) (by simp) (by simp) (by simp) (by simp) ?_;simp[-cB];refine pC hc ?_;simp[-cB];refine au.eL rfl (λ_=>hh) rfl (by rfl) (by simp) (by simp) rfl ?_;simp;refine au.AM (by rfl) (by simp) ?_;refine au.eo [5003,5004,5005] rfl (yF) (by simp) rfl (by simp) rfl (by rfl) (by rfl) (by simp) (by simp) (by simp) (by simp) ?_;simp
theorem Je wb s F m S v n(hS:m.Stack=S++ [v,n])(hl:S.length≤100000)(hr:da s.Tables v=false)(hw:vF m.Told.World) w1(Cq:w1.wf)(ns:kX m.Told.World v n=(w1,0))(hB:da s.Tables (dw w1.tree 1)=false):
  aE prog 214 [.bp 5003 0,iD 17] (bE wb s F m) (λr L=>r= .ret (.bA [.agg ((w1).enc.map .d),iD 12])/\ud wb s F {m with Stack:=S} L):=by
 have mx:=fb wb s F m (S++ [v]) n (by grind) (by grind);have hp:=fb wb s F {m with Stack:=S++ [v]} S v rfl (by omega);have nw:=ly wb s F {m with Stack:=S} v;rw[iL,hr]at nw;have hc:=J8 m.Told.World hw v n;rw[ns]at hc;have hh:=pk w1 Cq;have yF:=ly wb s F {m with Stack:=S} (dw w1.tree 1);rw[iL,hB]at yF;unfold ud bE at *;refine aE.nj [4,5] [5003,5004,5005,4] func214 rfl (by simp) ?_;simp[-cB,f214];intro bs bL;refine au.eo [5003,5004,5005] rfl (mx) (by simp) rfl (by simp) rfl (by rfl) (by rfl) (by simp) (by simp) (by simp) (by simp) ?_;simp[-cB];refine au.eo [5003,5004,5005] rfl (hp) (by simp) rfl (by simp) rfl (by rfl) (by rfl) (by simp) (by simp) (by simp) (by simp) ?_;simp[-cB];refine au.eo [5003,5004,5005] rfl (nw) (by simp) rfl (by simp) rfl (by rfl) (by rfl) (by simp) (by simp) (by simp) (by simp) ?_;simp[-cB];refine pC hc ?_;simp[-cB];refine au.eL rfl (λ_=>hh) rfl (by rfl) (by simp) (by simp) rfl ?_;simp;refine au.AM (by rfl) (by simp) ?_;refine au.eo [5003,5004,5005] rfl (yF) (by simp) rfl (by simp) rfl (by rfl) (by rfl) (by simp) (by simp) (by simp) (by simp) ?_;simp[-cB]
theorem RR wb s F m S v(hS:m.Stack=S++ [v])(hl:S.length≤100000)(hr:da s.Tables v=true):
  aE prog 214 [.bp 5003 0,iD 18] (bE wb s F m) (λr L=>r= .ret (.bA [.agg ((m.Told.World).enc.map .d),iD 12])/\ud wb s F {m with Stack:=S} L):=by
 have hp:=fb wb s F m S v hS (by omega);have nw:=ly wb s F {m with Stack:=S} v;rw[iL,hr]at nw;unfold ud bE at *;refine aE.nj [4,5] [5003,5004,5005,4] func214 rfl (by simp) ?_;simp[f214];intro bs bL;refine au.eo [5003,5004,5005] rfl (hp) (by simp) rfl (by simp) rfl (by rfl) (by rfl) (by simp) (by simp) (by simp) (by simp) ?_;simp;refine au.eo [5003,5004,5005] rfl (nw) (by simp) rfl (by simp) rfl (by rfl) (by rfl) (by simp) (by simp) (by simp) (by simp) ?_;simp
theorem MD wb s F m S v(hS:m.Stack=S++ [v])(hl:S.length≤100000)(hr:da s.Tables v=false)(h1:v=1):
  aE prog 214 [.bp 5003 0,iD 18] (bE wb s F m) (λr L=>r= .ret (.bA [.agg ((m.Told.World).enc.map .d),iD 12])/\ud wb s F {m with Stack:=S} L):=by
 have hp:=fb wb s F m S v hS (by omega);have nw:=ly wb s F {m with Stack:=S} v;rw[iL,hr]at nw;unfold ud bE at *;subst h1;refine aE.nj [4,5] [5003,5004,5005,4] func214 rfl (by simp) ?_;simp[f214];intro bs bL;refine au.eo [5003,5004,5005] rfl (hp) (by simp) rfl (by simp) rfl (by rfl) (by rfl) (by simp) (by simp) (by simp) (by simp) ?_;simp;refine au.eo [5003,5004,5005] rfl (nw) (by simp) rfl (by simp) rfl (by rfl) (by rfl) (by simp) (by simp) (by simp) (by simp) ?_;simp
theorem Wn wb s F m S v(hS:m.Stack=S++ [v])(hl:S.length≤100000)(hr:da s.Tables v=false)(h1:v≠1)(hw:vF m.Told.World) w1 e1(he:e1≠0)(ns:fC m.Told.World v=(w1,e1)):
  aE prog 214 [.bp 5003 0,iD 18] (bE wb s F m) (λr L=>r= .ret (.bA [.agg ((w1).enc.map .d),iD e1])/\ud wb s F {m with Stack:=S} L):=by
 have hp:=fb wb s F m S v hS (by omega);have nw:=ly wb s F {m with Stack:=S} v;rw[iL,hr]at nw;have hc:=DK m.Told.World hw v;rw[ns]at hc;unfold ud bE at *;refine aE.nj [4,5] [5003,5004,5005,4] func214 rfl (by simp) ?_;simp[f214];intro bs bL;refine au.eo [5003,5004,5005] rfl (hp) (by simp) rfl (by simp) rfl (by rfl) (by rfl) (by simp) (by simp) (by simp) (by simp) ?_;simp;refine au.eo [5003,5004,5005] rfl (nw) (by simp) rfl (by simp) rfl (by rfl) (by rfl) (by simp) (by simp) (by simp) (by simp) ?_;simp[-cB,h1];refine pC hc ?_;simp[-cB];refine au.eL rfl (g:=false) (x:=oD true) (λh=>by cases h) (by rfl) (by simp_all) (by simp) (by simp) rfl ?_;simp[-cB];refine au.skip (by simp_all) (by simp) ?_;refine bn _ _ [] (by rfl) ?_;simp[he]
theorem Wo wb s F m S v(hS:m.Stack=S++ [v])(hl:S.length≤100000)(hr:da s.Tables v=false)(h1:v≠1)(hw:vF m.Told.World) w1(Cq:w1.wf)(ns:fC m.Told.World v=(w1,0))(hB:da s.Tables (dw w1.tree 1)=true):
  aE prog 214 [.bp 5003 0,iD 18] (bE wb s F m) (λr L=>r= .ret (.bA [.agg ((w1).enc.map .d),iD 0])/\ud wb s F {m with Stack:=S} L):=by
 have hp:=fb wb s F m S v hS (by omega);have nw:=ly wb s F {m with Stack:=S} v;rw[iL,hr]at nw;have hc:=DK m.Told.World hw v;rw[ns]at hc;have hh:=pk w1 Cq;have yF:=ly wb s F {m with Stack:=S} (dw w1.tree 1);rw[iL,hB]at yF;unfold ud bE at *;refine aE.nj [4,5] [5003,5004,5005,4] func214 rfl (by simp) ?_;simp[-cB,f214];intro bs bL;refine au.eo [5003,5004,5005] rfl (hp) (by simp) rfl (by simp) rfl (by rfl) (by rfl) (by simp) (by simp) (by simp) (by simp) ?_;simp[-cB];refine au.eo [5003,5004,5005] rfl (nw) (by simp) rfl (by simp) rfl (by rfl) (by rfl) (by simp) (by simp) (by simp) (by simp) ?_;simp[-cB,h1];refine pC hc ?_;simp[-cB];refine au.eL rfl (λ_=>hh) rfl (by rfl) (by simp) (by simp) rfl ?_;simp[-cB];refine au.AM (by rfl) (by simp) ?_;refine au.eo [5003,5004,5005] rfl (yF) (by simp) rfl (by simp) rfl (by rfl) (by rfl) (by simp) (by simp) (by simp) (by simp) ?_;simp[-cB]
theorem Jf wb s F m S v(hS:m.Stack=S++ [v])(hl:S.length≤100000)(hr:da s.Tables v=false)(h1:v≠1)(hw:vF m.Told.World) w1(Cq:w1.wf)(ns:fC m.Told.World v=(w1,0))(hB:da s.Tables (dw w1.tree 1)=false):
  aE prog 214 [.bp 5003 0,iD 18] (bE wb s F m) (λr L=>r= .ret (.bA [.agg ((w1).enc.map .d),iD 12])/\ud wb s F {m with Stack:=S} L):=by
 have hp:=fb wb s F m S v hS (by omega);have nw:=ly wb s F {m with Stack:=S} v;rw[iL,hr]at nw;have hc:=DK m.Told.World hw v;rw[ns]at hc;have hh:=pk w1 Cq;have yF:=ly wb s F {m with Stack:=S} (dw w1.tree 1);rw[iL,hB]at yF;unfold ud bE at *;refine aE.nj [4,5] [5003,5004,5005,4] func214 rfl (by simp) ?_;simp[f214];intro bs bL;refine au.eo [5003,5004,5005] rfl (hp) (by simp) rfl (by simp) rfl (by rfl) (by rfl) (by simp) (by simp) (by simp) (by simp) ?_;simp[-cB];refine au.eo [5003,5004,5005] rfl (nw) (by simp) rfl (by simp) rfl (by rfl) (by rfl) (by simp) (by simp) (by simp) (by simp) ?_;simp[-cB,h1];refine pC hc ?_;simp;refine au.eL rfl (λ_=>hh) rfl (by rfl) (by simp) (by simp) rfl ?_;simp;refine au.AM (by rfl) (by simp) ?_;refine au.eo [5003,5004,5005] rfl (yF) (by simp) rfl (by simp) rfl (by rfl) (by rfl) (by simp) (by simp) (by simp) (by simp) ?_;simp
theorem P2{wb}{s}{F}{m m2}{k}{w:aj}{e}(h:aE prog 214 [.bp 5003 0,iD k] (bE wb s F m) (fun r L=>r= .ret (.bA [.agg (w.enc.map .d),iD e])∧ud wb s F m2 L)):
  aE prog 214 [.bp 5003 0,iD k] (bE wb s F m) (λr L=>r= .ret (.bA [.agg (w.enc.map .d),iD e])/\L=bE wb s F m2):=by
 refine aE.wk h ?_;rintro r L ⟨rfl,b,cs,rfl⟩;refine⟨_,_,_,rfl,Wk.pick [0] [5003,5004,5005] (by rfl) (by decide) ?_,?_⟩
 ·simp[bE]
 ·simp[bE]
theorem LO wb s F m S v n(hS:m.Stack=S++ [v,n])(hl:S.length≤100000)(aO:ig s.Tables m.Told.World) w' e(hv:kW s.Tables m.Told.World v n=(w',e)):
  aE prog 214 [.bp 5003 0,iD 17] (bE wb s F m) (λr L=>r= .ret (.bA [.agg (w'.enc.map .d),iD e])/\L=bE wb s F {m with Stack:=S}):=by
 refine P2 ?_;have uq:=NN aO v n;unfold kW at hv;cases hr:da s.Tables v with
 | true=>
   rw[hr,if_pos (by simp)]at hv;simp at hv;rw[<-hv.1,<-hv.2];exact RQ wb s F m S v n hS hl hr
 | false=>
   rw[hr,if_neg (by simp)]at hv;cases hp:kX m.Told.World v n with
   | mk w1 e1=>
   rw[hp]at hv uq;unfold pE at hv;by_cases he:e1=0
   ·subst he;cases hB:da s.Tables (dw w1.tree 1)with
    | true=>
      rw[if_neg (by grind)]at hv;simp at hv;rw[<-hv.1,<-hv.2];exact Wm wb s F m S v n hS hl hr aO.PM w1 uq.1 hp hB
    | false=>
      rw[if_pos ⟨rfl,hB⟩]at hv;simp at hv;rw[<-hv.1,<-hv.2];exact Je wb s F m S v n hS hl hr aO.PM w1 uq.1 hp hB
   ·rw[if_neg (by omega)]at hv;simp at hv;rw[<-hv.1,<-hv.2];exact Wl wb s F m S v n hS hl hr aO.PM w1 e1 he hp
theorem LP wb s F m S v(hS:m.Stack=S++ [v])(hl:S.length≤100000)(aO:ig s.Tables m.Told.World) w' e(hv:iG s.Tables m.Told.World v=(w',e)):
  aE prog 214 [.bp 5003 0,iD 18] (bE wb s F m) (λr L=>r= .ret (.bA [.agg (w'.enc.map .d),iD e])/\L=bE wb s F {m with Stack:=S}):=by
 refine P2 ?_;have uq:=HX aO v;unfold iG at hv;cases hr:da s.Tables v with
 | true=>
   rw[hr,if_pos (by simp)]at hv;simp at hv;rw[<-hv.1,<-hv.2];exact RR wb s F m S v hS hl hr
 | false=>
   by_cases h1:v=1
   ·rw[if_pos (by omega)]at hv;simp at hv;rw[<-hv.1,<-hv.2];exact MD wb s F m S v hS hl hr h1
   rw[hr,if_neg (by grind)]at hv;cases hp:fC m.Told.World v with
   | mk w1 e1=>
   rw[hp]at hv uq;unfold pE at hv;by_cases he:e1=0
   ·subst he;cases hB:da s.Tables (dw w1.tree 1)with
    | true=>
      rw[if_neg (by grind)]at hv;simp at hv;rw[<-hv.1,<-hv.2];exact Wo wb s F m S v hS hl hr h1 aO.PM w1 uq.1 hp hB
    | false=>
      rw[if_pos ⟨rfl,hB⟩]at hv;simp at hv;rw[<-hv.1,<-hv.2];exact Jf wb s F m S v hS hl hr h1 aO.PM w1 uq.1 hp hB
   ·rw[if_neg (by omega)]at hv;simp at hv;rw[<-hv.1,<-hv.2];exact Wn wb s F m S v hS hl hr h1 aO.PM w1 e1 he hp
theorem QK wb s F m i S v n w'(aD:i.Op=17)(hS:m.Stack=S++ [v,n])(hl:S.length<=100000)(aO:ig s.Tables m.Told.World)(hv:kW s.Tables m.Told.World v n=(w',0)):jK wb s F m i {m with Stack:=S,Told:={m.Told with World:=w'}}:=by
 have hm:=LO wb s F m S v n hS hl aO w' 0 hv;unfold jK bE at *;refine aE.nj [] [5003,5004,5005] func143 rfl (by simp) ?_;simp[f143];intro bs bL;simp[-cB,aD];refine au.eo [5003,5004,5005] rfl (hm) (by simp) rfl (by simp) rfl (by rfl) (by rfl) (by simp) (by simp) (by simp) (by simp) ?_;simp;refine au.eo [] rfl (dr) (by simp) rfl (by simp) rfl (by rfl) (by rfl) (by simp) (by simp) (by simp) (by simp) ?_;simp
theorem QL wb s F m i S v n w' e(he:e≠0)(aD:i.Op=17)(hS:m.Stack=S++ [v,n])(hl:S.length<=100000)(aO:ig s.Tables m.Told.World)(hv:kW s.Tables m.Told.World v n=(w',e)):CT wb s F m i e:=by
 refine⟨{m with Stack:=S},?_⟩;have hm:=LO wb s F m S v n hS hl aO w' e hv;have hc:=iK e he;unfold bE at *;refine aE.nj [] [5003,5004,5005] func143 rfl (by simp) ?_;simp[f143];intro bs bL;simp[aD];refine au.eo [5003,5004,5005] rfl (hm) (by simp) rfl (by simp) rfl (by rfl) (by rfl) (by simp) (by simp) (by simp) (by simp) ?_;simp;refine au.kN [] rfl (hc) (by simp) rfl (by simp) (by rfl) (by rfl) (by simp) (by simp) (by simp) ?_;simp
theorem QY wb s F m i S v w'(aD:i.Op=18)(hS:m.Stack=S++ [v])(hl:S.length<=100000)(aO:ig s.Tables m.Told.World)(hv:iG s.Tables m.Told.World v=(w',0)):jK wb s F m i {m with Stack:=S,Told:={m.Told with World:=w'}}:=by
 have hm:=LP wb s F m S v hS hl aO w' 0 hv;unfold jK bE at *;refine aE.nj [] [5003,5004,5005] func143 rfl (by simp) ?_;simp[f143];intro bs bL;simp[aD];refine au.eo [5003,5004,5005] rfl (hm) (by simp) rfl (by simp) rfl (by rfl) (by rfl) (by simp) (by simp) (by simp) (by simp) ?_;simp;refine au.eo [] rfl (dr) (by simp) rfl (by simp) rfl (by rfl) (by rfl) (by simp) (by simp) (by simp) (by simp) ?_;simp
theorem QZ wb s F m i S v w' e(he:e≠0)(aD:i.Op=18)(hS:m.Stack=S++ [v])(hl:S.length<=100000)(aO:ig s.Tables m.Told.World)(hv:iG s.Tables m.Told.World v=(w',e)):CT wb s F m i e:=by
 refine⟨{m with Stack:=S},?_⟩;have hm:=LP wb s F m S v hS hl aO w' e hv;have hc:=iK e he;unfold bE at *;refine aE.nj [] [5003,5004,5005] func143 rfl (by simp) ?_;simp[f143];intro bs bL;simp[aD];refine au.eo [5003,5004,5005] rfl (hm) (by simp) rfl (by simp) rfl (by rfl) (by rfl) (by simp) (by simp) (by simp) (by simp) ?_;simp;refine au.kN [] rfl (hc) (by simp) rfl (by simp) (by rfl) (by rfl) (by simp) (by simp) (by simp) ?_;simp
set_option maxHeartbeats 200000
set_option maxRecDepth 512
theorem aE.ab8{P:Program}{f:FuncId}{args:List V}{v:Value}(hv:v.oneCell'=true)
  (h:∀(fo:FO) (m:Nat->Option Value) (w:World) (xs:Array Value),uV w (OO fo m)->ir w (OO fo m) m xs args->Calls P f xs w (λe w'=>e= .returned v/\∃k os,w'=Sort.grow (w.drewN k) os)):aE P f args [] (λr L=>r= .ret (.d (.v v))/\L=[]):=by
 intro fo m w xs hi hx;refine(h fo m w xs hi.ef hx).mono ?_;rintro e w' ⟨rfl,k,os,rfl⟩;have hs:w.heap.size<=(Sort.grow (w.drewN k) os).heap.size:=by show w.heap.size<=(w.heap++os).size;simp
 have hb:∀b,b<w.heap.size->(Sort.grow (w.drewN k) os).heap[b]?=w.heap[b]?:=by
  intro b hb;show(w.heap++os)[b]?=_;rw[Array.getElem?_append_left hb]
 exact⟨m,.ret (.d (.v v)),[],⟨rfl,rfl⟩,.d _ _ (.v _ hv),hi.grown hs hb,⟨rfl,rfl,rfl,hs,λb h _=>hb b h,λb _ h=>h⟩⟩
theorem P3{P:Program}{w:World}{O:Nat->Prop}{name:String}{k:IntKind}{g:Nat}{xs:List Int}(hn:P.globalNamed name=some g)(hm:(g,xs.map λx=>Value.int k x)∈EB)(h:uV w O):Lib.TabIs P w name k xs:=by
 obtain⟨-,-,-,t,z,h4⟩:=h _ hm;unfold Lib.TabIs World.var?;rw[hn];simp only[ap7];simp only at h4;rw[h4]
end Go.Ab
namespace Go.Proofs
open Go.Shelf
def Tryz.RS:Go.Shelf.Ren:=⟨λ|246=>240|283=>272|284=>273|285=>274|286=>275|129=>301|317=>300|318=>302|319=>303|320=>304|337=>308|338=>309|n=>n,λ|2=>2|3=>3|9=>9|4=>4|171=>256|0=>0|53=>32|37=>39|5=>5|173=>259|212=>271|51=>224|20=>20|213=>272|46=>130|232=>278|233=>279|n=>n,λ|17=>0|18=>1|19=>2|n=>n⟩
theorem Tryz.aeE:Go.Proofs.LaysM.n246 prog Tryz.RS:={
 mixed:=by kernel_rfl
 f129:=func301.trans (congrArg some (by kernel_rfl))
 f246:=func240.trans (congrArg some (by kernel_rfl))
 f283:=func272.trans (congrArg some (by kernel_rfl))
 f284:=func273.trans (congrArg some (by kernel_rfl))
 f285:=func274.trans (congrArg some (by kernel_rfl))
 f286:=func275.trans (congrArg some (by kernel_rfl))
 f317:=func300.trans (congrArg some (by kernel_rfl))
 f318:=func302.trans (congrArg some (by kernel_rfl))
 f319:=func303.trans (congrArg some (by kernel_rfl))
 f320:=func304.trans (congrArg some (by kernel_rfl))
 f337:=func308.trans (congrArg some (by kernel_rfl))
 f338:=func309.trans (congrArg some (by kernel_rfl))
 t0:=underlying0
 a0:=Tryz.isAgg0
 z0:=sizeOf0
 v0:=zeroValue0
 t2:=underlying2
 a2:=Tryz.isAgg2
 z2:=sizeOf2
 v2:=zeroValue2
 t3:=underlying3
 a3:=Tryz.isAgg3
 z3:=sizeOf3
 v3:=zeroValue3
 t4:=underlying4
 a4:=Tryz.isAgg4
 z4:=sizeOf4
 v4:=zeroValue4
 t5:=underlying5
 a5:=Tryz.isAgg5
 z5:=sizeOf5
 v5:=zeroValue5
 t9:=underlying9
 a9:=Tryz.isAgg9
 z9:=sizeOf9
 v9:=zeroValue9
 t20:=underlying20
 a20:=Tryz.isAgg20
 z20:=sizeOf20
 v20:=zeroValue20
 t37:=underlying39
 a37:=Tryz.isAgg39
 z37:=sizeOf39
 v37:=zeroValue39
 t46:=underlying130
 a46:=Tryz.isAgg130
 z46:=sizeOf130
 v46:=zeroValue130
 t51:=underlying224
 a51:=Tryz.isAgg224
 z51:=sizeOf224
 v51:=zeroValue224
 t53:=underlying32
 a53:=Tryz.isAgg32
 z53:=sizeOf32
 v53:=zeroValue32
 t171:=underlying256
 a171:=Tryz.isAgg256
 z171:=sizeOf256
 v171:=zeroValue256
 t173:=underlying259
 a173:=Tryz.isAgg259
 z173:=sizeOf259
 v173:=zeroValue259
 t212:=underlying271
 a212:=Tryz.isAgg271
 z212:=sizeOf271
 v212:=zeroValue271
 t213:=underlying272
 a213:=Tryz.isAgg272
 z213:=sizeOf272
 t232:=underlying278
 a232:=Tryz.isAgg278
 z232:=sizeOf278
 v232:=zeroValue278
 t233:=underlying279
 a233:=Tryz.isAgg279
 z233:=sizeOf279
 v233:=zeroValue279
 g17:=by kernel_rfl
 g18:=by kernel_rfl
 g19:=by kernel_rfl
 i0:=by kernel_rfl
 i2:=by kernel_rfl
 i3:=by kernel_rfl
 i4:=by kernel_rfl
 i5:=by kernel_rfl
 i9:=by kernel_rfl
 i20:=by kernel_rfl
 i37:=by kernel_rfl
 i46:=by kernel_rfl
 i51:=by kernel_rfl
 i53:=by kernel_rfl
 i171:=by kernel_rfl
 i173:=by kernel_rfl
 i212:=by kernel_rfl
 i232:=by kernel_rfl
 i233:=by kernel_rfl
 m17:=by kernel_rfl
 m18:=by kernel_rfl
 m19:=by kernel_rfl}
end Go.Proofs
namespace Go.Ab
open Go.Proofs Go.Proofs.Tryz
theorem ir.v2{w:World}{O:Nat->Prop}{m:Nat->Option Value}{xs:Array Value}{u v:Value}(h:ir w O m xs [.d (.v u),.d (.v v)]):xs= #[u,v]:=by
 obtain⟨h1,h2⟩:=h;simp at h1;have e0:=(h2 0 xs[0] _ (ao7 (by omega)) rfl).cy;have e1:=(h2 1 xs[1] _ (ao7 (by omega)) rfl).cy;refine Array.ext (by simpa using h1) (λi hi hj=>?_);have:i=0\/i=1:=by omega
 rcases this with rfl|rfl
 ·simpa using e0
 ·simpa using e1
theorem P4:∀(n N:Nat),N<=n->gC N=⟨(Lib.decDigits N).toArray⟩:=by
 intro n
 induction n with
 | zero=>intro N hN;obtain rfl:N=0:=by omega
         rw[gC,if_pos (by decide),Lib.decDigits,dif_pos (by decide)]
 | succ n ih=>
   intro N hN;by_cases ew:N<10
   ·rw[gC,if_pos ew,Lib.decDigits,dif_pos ew]
   ·rw[gC,if_neg ew,Lib.decDigits,dif_neg ew,ih (N / 10) (by omega)];apply aqA;rw[apX];simp
theorem ZZ(n:Int):uD n=⟨(Lib.itoa n).toArray⟩:=by
 unfold uD Lib.itoa;by_cases h:n<0
 ·rw[if_pos h,if_pos h,P4 _ _ (aoT _)];apply aqA;rw[apX];simp
 ·rw[if_neg h,if_neg h,P4 _ _ (aoT _)];rw[show n.natAbs=n.toNat by omega]
theorem Z0:prog.globalNamed "internal/strconv.uint64pow10" =some 0:=by kernel_rfl
theorem Wp:(0,Lib.pow10Tab.map λx=>Value.int .u64 x)∈EB:=aqh.2 (by kernel_rfl)
theorem P5(n:Int)(h:aq n=n):Pure prog 240 [iD n,iD 10] (.d (.v (.string (uD n)))):=by
 rw[iA]at h;refine⟨by kernel_rfl,by simp,by simp,(aE.ab8 (v:= .string (uD n)) rfl (λfo m w xs hg hx=>?_)).mono λ_ _ h=>h.1⟩;rw[hx.v2,ZZ];exact Any.internal_strconv_FormatInt_10 Tryz.aeE n (by omega) (by omega) w (P3 Z0 Wp hg)
theorem NH(n:Int)(h:aq n=n):Pure prog 79 [iD n] (.d (.v (.string (uD n)))):=by
 have h4:=P5 n h;have h3:Pure prog 195 [iD n] (.d (.v (.string (uD n)))):=by
  refine Pure.run func195 rfl ⟨by simp[f195],by kernel_rfl,by simp,by simp⟩ ?_;simp[-cB,f195];refine pC h4 ?_;simp[-cB]
 have h2:Pure prog 129 [iD n] (.d (.v (.string (uD n)))):=by
  refine Pure.run func129 rfl ⟨by simp[f129],by kernel_rfl,by simp,by simp⟩ ?_;simp[-cB,f129];refine pC h3 ?_;simp[-cB]
 refine rn func79 ?_;simp[-cB,f79];refine pC h2 ?_;simp[-cB]
end Go.Ab
namespace Go.Ab
open Go.Proofs Go.Proofs.Tryz
theorem Hp(n f:Int)(hn:0<=n/\n<=65535)(hf:0<=f/\f<=15):Pure prog 151 [iD n,iD f] (oD (decide (n / (2^f.toNat:Nat) % 2=1))):=by
 obtain⟨N,rfl⟩:∃N:Nat,n=N:=⟨n.toNat,by omega⟩
 obtain⟨k,rfl⟩:∃k:Nat,f=k:=⟨f.toNat,by omega⟩
 have hq:∀i,N / 2^i<=N:=λi=>Nat.div_le_self _ _
 refine rn func151 ?_;simp[-cB,f151];refine av.cI [0,1,5] k (λi=> [(0,iD ((N / 2^i:Nat):Int)),(5,iD i)]) (λ_=> []) (λ_=>True) (by rfl) (by simp) ?_;intro i hi _;have h1:=hq i;have h2:N / 2^(i+1)=N / 2^i / 2:=by rw[Nat.pow_succ,Nat.div_div_eq_div_mul]
 rcases aoR hi with aw|rfl
 ·have dj:(i:Int)<k:=by omega
  have bU:aN .i64 ((i:Int)+1):=iW;simp[aw,dj,bU];have e1:((N:Int) / 2^i)=((N / 2^i:Nat):Int):=by simp
  have e2:((N:Int) / 2^(i+1))=((N / 2^i / 2:Nat):Int):=by rw[<-h2];simp
  rw[e1,e2];generalize N / 2^i=q at *;rw[apt (by omega),wrap64 iW];omega
 ·simp;have e1:((N:Int) / 2^i)=((N / 2^i:Nat):Int):=by simp
  try rw[e1]
  generalize N / 2^i=q at *;rw[apa (by omega)]
theorem BR:∀k:Nat,k<=15->Pure prog 153 [iD k] (iD ((2^k:Nat):Int))
 | 0,_=>by
   refine rn func153 ?_;simp[-cB,f153]
 | k+1,hk=>by
   have ih:=BR k (by omega);have h1:((k+1:Nat):Int)-1=k:=by omega
   have h2:¬((k+1:Nat):Int)=0:=by omega
   have h3:aN .i64 (k:Int):=iW;have h4:2^k<=2^15:=apG (by decide) (by omega);have h6:((2^(k+1):Nat):Int)=(2 *((2^k:Nat):Int)):=by rw[Nat.pow_succ];omega
   rw[h6];clear h6;generalize 2^k=q at *;have h5:aN .i64 (2 *(q:Int)):=iW;generalize ((k+1:Nat):Int)=K at *;refine rn func153 ?_;simp[-cB,f153];simp[h2,h1,h3];refine pC ih ?_;simp[h5]
theorem Gh(w:aj)(hF:cZ w)(x f:Int):Pure prog 107 [.agg (w.enc.map .d),iD x,iD f] (.bA [oD (decide (cz w x f=0)&&cU w x f.toNat),iD (cz w x f)]):=by
 have ha:=Bw w x f;by_cases h0:cz w x f=0
 ·have hx:=qB h0;have hb:=aY.1 hx.1;have hl:=hF.1;have aw:x.toNat<w.Flags.length:=by omega
  have hg:w.Flags[x.toNat]?.getD 0=aA w.Flags x:=rfl;have bm:w.Flags[x.toNat]'aw=aA w.Flags x:=by rw[<-hg,akC aw];rfl
  have hm:=hF.2 (aA w.Flags x) (by rw[<-bm];exact aoV _);have uc:=Hp (aA w.Flags x) f hm hx.2;have hh:cU w x f.toNat=decide (aA w.Flags x / (2^f.toNat:Nat) % 2=1):=by unfold cU;rw[hx.1,apy]
  rw[hh];generalize decide (aA w.Flags x / (2^f.toNat:Nat) % 2=1)=B at *;refine rn func107 ?_;simp[-cB,f107];intro bs;refine pC ha ?_;simp[h0,bm,aw];refine⟨by omega,?_⟩;refine pC uc ?_;simp[-cB]
 ·refine rn func107 ?_;simp[-cB,f107];intro bs;refine pC ha ?_;simp[h0]
theorem Jg(w:aj)(x n:Int)(hx:0<=x/\x<w.Flags.length)(hlen:w.Flags.length<=100000):Pure prog 152 [.agg (w.enc.map .d),iD x,iD n] (.agg (({w with Flags:=w.Flags.set x.toNat n}:aj).enc.map .d)):=by
 have e1:(w.enc.map V.d)=[.d (.sl (aC w.aQ)),.d (.sl (aC w.ae)),.d (.sl (aC w.Child)),.d (.sl (aC w.Next)),.d (.sl (aC w.Flags)),.d (.sl (aC w.aJ)),.d (.sl (aC w.bc)),.d (.v (.int .u64 w.cO)),iD w.Score,iD w.jO,iD w.iB,iD w.It,iD w.Go]:=rfl;have Cn:x.toNat<w.Flags.length:=by omega
 rw[e1];refine rn func152 ?_;simp[-cB,f152];exact⟨by omega,⟨hx.1,Cn⟩,Cn,rfl⟩
theorem Z1(w:aj)(hF:cZ w)(hlen:w.Flags.length<=100000)(x f:Int):Pure prog 94 [.agg (w.enc.map .d),iD x,iD f] (.bA [.agg ((eb w x f true).1.enc.map .d),iD (eb w x f true).2]):=by
 have ha:=Bw w x f;by_cases h0:cz w x f=0
 ·have hx:=qB h0;have hb:=aY.1 hx.1;have hl:=hF.1;have aw:x.toNat<w.Flags.length:=by omega
  have lX:0<=x:=by omega
  have hg:w.Flags[x.toNat]?.getD 0=aA w.Flags x:=rfl;have bm:w.Flags[x.toNat]'aw=aA w.Flags x:=by rw[<-hg,akC aw];rfl
  have hm:=hF.2 (aA w.Flags x) (by rw[<-bm];exact aoV _);have uc:=Hp (aA w.Flags x) f hm hx.2;have hh:cU w x f.toNat=decide (aA w.Flags x / (2^f.toNat:Nat) % 2=1):=by unfold cU;rw[hx.1,apy]
  have Z2:=BR f.toNat (by omega)
  rw[show((f.toNat:Nat):Int)=f by omega]at Z2;have ajN:2^f.toNat<=2^15:=apG (by decide) (by omega);unfold eb;rw[if_pos h0,hh];generalize decide (aA w.Flags x / (2^f.toNat:Nat) % 2=1)=B at *;have hwi:=Jg w x (aA w.Flags x+(2^f.toNat:Nat)) ⟨by omega,by omega⟩ hlen;generalize 2^f.toNat=q at *;have bU:aN .i64 (aA w.Flags x+(q:Int)):=iW;cases B with
  | true=>
    simp only[if_true];refine rn func94 ?_;simp[-cB,f94];intro bs;refine pC ha ?_;simp[h0,bm,aw,lX];refine pC uc ?_;simp
  | false=>
    simp only[reduceCtorEq,if_false,if_true,aph,Bool.true_eq_false];generalize w.Flags.set x.toNat (aA w.Flags x+(q:Int))=fl at *;refine rn func94 ?_;simp[-cB,f94];intro bs;refine pC ha ?_;simp[h0,bm,aw,lX];refine pC uc ?_;simp[-cB];refine av.aU [Q0,Q0,Q0,Q0,Q0,Q0,Q0,Q0,Q0,Q0,Q0,none,arb] [iD q,.agg (({w with Flags:=fl}:aj).enc.map .d)] aT (by kernel_rfl) ?_;simp[bm,aw,lX,bU];exact⟨Z2.ok _,hwi.ok _⟩
 ·unfold eb;rw[if_neg h0];refine rn func94 ?_;simp[-cB,f94];intro bs;refine pC ha ?_;simp[h0]
theorem RT(w:aj)(hF:cZ w)(hlen:w.Flags.length<=100000)(x f:Int):Pure prog 95 [.agg (w.enc.map .d),iD x,iD f] (.bA [.agg ((eb w x f false).1.enc.map .d),iD (eb w x f false).2]):=by
 have ha:=Bw w x f;by_cases h0:cz w x f=0
 ·have hx:=qB h0;have hb:=aY.1 hx.1;have hl:=hF.1;have aw:x.toNat<w.Flags.length:=by omega
  have lX:0<=x:=by omega
  have hg:w.Flags[x.toNat]?.getD 0=aA w.Flags x:=rfl;have bm:w.Flags[x.toNat]'aw=aA w.Flags x:=by rw[<-hg,akC aw];rfl
  have hm:=hF.2 (aA w.Flags x) (by rw[<-bm];exact aoV _);have uc:=Hp (aA w.Flags x) f hm hx.2;have hh:cU w x f.toNat=decide (aA w.Flags x / (2^f.toNat:Nat) % 2=1):=by unfold cU;rw[hx.1,apy]
  have Z2:=BR f.toNat (by omega)
  rw[show((f.toNat:Nat):Int)=f by omega]at Z2;have ajN:2^f.toNat<=2^15:=apG (by decide) (by omega);unfold eb;rw[if_pos h0,hh];generalize decide (aA w.Flags x / (2^f.toNat:Nat) % 2=1)=B at *;have hwi:=Jg w x (aA w.Flags x-(2^f.toNat:Nat)) ⟨by omega,by omega⟩ hlen;generalize 2^f.toNat=q at *;have bU:aN .i64 (aA w.Flags x-(q:Int)):=iW;cases B with
  | false=>
    simp only[if_true];refine rn func95 ?_;simp[-cB,f95];intro bs;refine pC ha ?_;simp[h0,bm,aw,lX];refine pC uc ?_;simp
  | true=>
    simp only[reduceCtorEq,if_false,if_true,aph,Bool.true_eq_false];generalize w.Flags.set x.toNat (aA w.Flags x-(q:Int))=fl at *;refine rn func95 ?_;simp[-cB,f95];intro bs;refine pC ha ?_;simp[h0,bm,aw,lX];refine pC uc ?_;simp[-cB];refine av.aU [Q0,Q0,Q0,Q0,Q0,Q0,Q0,Q0,Q0,Q0,Q0,none,arb] [iD q,.agg (({w with Flags:=fl}:aj).enc.map .d)] aT (by kernel_rfl) ?_;simp[bm,aw,lX,bU];exact⟨Z2.ok _,hwi.ok _⟩
 ·unfold eb;rw[if_neg h0];refine rn func95 ?_;simp[-cB,f95];intro bs;refine pC ha ?_;simp[h0]
set_option maxHeartbeats 4000000
set_option maxRecDepth 20000
theorem CU(t:ar)(i:Int):Pure prog 78 [.agg (t.enc.map .d),iD i] (.d (.v (.string (oE t i)))):=by
 unfold oE;by_cases h:i<0\/(t.gy.length:Int)<=i
 ·rw[if_pos h];have hb:(decide (i<0)||decide ((t.gy.length:Int)<=i))=true:=by simpa using h
  refine rn func78 ?_;simp[-cB,f78];intro bs;simp[-cB,hb]
 ·rw[if_neg h];have hb:(decide (i<0)||decide ((t.gy.length:Int)<=i))=false:=by simpa using h
  refine rn func78 ?_;simp[-cB,f78];intro bs;simp[-cB,hb];omega
theorem A1(t:ar)(x:Int):Pure prog 80 [.agg (t.enc.map .d),iD x] (.d (.v (.string (dB t x)))):=by
 unfold dB;by_cases h:x<1\/(t.az.length:Int)<=x
 ·rw[if_pos h];have hb:(decide (x<1)||decide ((t.az.length:Int)<=x))=true:=by simpa using h
  refine rn func80 ?_;simp[-cB,f80];intro bs;simp[-cB,hb];rfl
 ·rw[if_neg h];have hb:(decide (x<1)||decide ((t.az.length:Int)<=x))=false:=by simpa using h
  have aw:x.toNat<t.az.length:=by omega
  have h0:0<=x:=by omega
  have bm:bu t x=t.az[x.toNat]:=by unfold bu;simp[akC aw]
  rw[bm];have ht:=CU t t.az[x.toNat].la;generalize oE t t.az[x.toNat].la=T at *;refine rn func80 ?_;simp[-cB,f80];intro bs;simp[-cB,hb];refine av.bT [.d (.v (.string T))] aT (by kernel_rfl) (by rfl) ?_;simp[-cB,aw,h0];exact ht.ok _
theorem CX(t:ar)(i:Int):Pure prog 89 [.agg (t.enc.map .d),iD i] (.d (.v (.string (oE t i)))):=by
 unfold oE;by_cases h:i<0\/(t.gy.length:Int)<=i
 ·rw[if_pos h];have hb:(decide (i<0)||decide ((t.gy.length:Int)<=i))=true:=by simpa using h
  refine rn func89 ?_;simp[-cB,f89];intro bs;simp[-cB,hb]
 ·rw[if_neg h];have hb:(decide (i<0)||decide ((t.gy.length:Int)<=i))=false:=by simpa using h
  refine rn func89 ?_;simp[-cB,f89];intro bs;simp[-cB,hb];omega
theorem qK(t:ar)(x:Int):Pure prog 92 [.agg (t.enc.map .d),iD x] (.d (.v (.string (dB t x)))):=by
 unfold dB;by_cases h:x<1\/(t.az.length:Int)<=x
 ·rw[if_pos h];have hb:(decide (x<1)||decide ((t.az.length:Int)<=x))=true:=by simpa using h
  refine rn func92 ?_;simp[-cB,f92];intro bs;simp[-cB,hb];rfl
 ·rw[if_neg h];have hb:(decide (x<1)||decide ((t.az.length:Int)<=x))=false:=by simpa using h
  have aw:x.toNat<t.az.length:=by omega
  have h0:0<=x:=by omega
  have bm:bu t x=t.az[x.toNat]:=by unfold bu;simp[akC aw]
  rw[bm];have ht:=CX t t.az[x.toNat].la;generalize oE t t.az[x.toNat].la=T at *;refine rn func92 ?_;simp[-cB,f92];intro bs;simp[-cB,hb];refine av.bT [.d (.v (.string T))] aT (by kernel_rfl) (by rfl) ?_;simp[-cB,aw,h0];exact ht.ok _
def P6(t:ar)(w:aj)(out:List ByteArray)(b1 b2 b3:Nat):aI:=[(5401,.box b1 34 (w.enc.map .d)),(5402,.box b2 22 [.rv 5404]),(5403,.box b3 28 (t.enc.map .d)),(5404,.row 9 1 (dd (iO out)))]
def Ek(w:aj)(y:Int):Bool:=!cU w y 3&&decide (y≠1)
theorem Wq(t:ar)(w:aj)(hF:cZ w)(y:Int)(hy:1≤y∧y < w.ae.length)(out:List ByteArray)(hl:out.length≤1000000)(b1 b2 b3:Nat):
  aE prog 199 [iD y,.bp 5401 0,.bp 5402 0,.bp 5403 0] (P6 t w out b1 b2 b3) (λr L=>r= .ret (.bA [])/\L=P6 t w (out++if Ek w y then [dB t y]else []) b1 b2 b3):=by
 have NB:=hF.1;have aw:y.toNat<w.Flags.length:=by omega
 have h0:0<=y:=by omega
 have hg:w.Flags[y.toNat]?.getD 0=aA w.Flags y:=rfl;have hm:=hF.2 (aA w.Flags y) (by unfold aA;rw[akC aw];exact aoV _);have uc:=Tx (f:=3) hm (by omega);have hh:cU w y 3=decide (aA w.Flags y / (2^3:Nat) % 2=1):=by unfold cU;rw[aY.2 hy,apy]
 have ht:=A1 t y;generalize dB t y=T at *;unfold Ek;rw[hh];by_cases h1:y=1
 ·simp only[h1,ne_eq,not_true,decide_false,Bool.and_false,aph,if_false,apk];unfold P6;refine rX [] [5401,5402,5403,5404] func199 ?_;simp[-cB,f199]
 ·have e3:IntKind.wrap .u64 3=3:=by decide
  rw[e3]at uc;have ahE:IntKind.wrap .i64 ((((aA w.Flags y).fdiv (2^min 3 IntKind.i64.bits) % 2^IntKind.i64.bits).toNat &&& 1 % 2^IntKind.i64.bits:Nat):Int)=aA w.Flags y / ((2^3:Nat):Int) % 2:=uc;have bm:w.Flags[y.toNat]'aw=aA w.Flags y:=by rw[<-hg,akC aw];rfl
  have hqq:aA w.Flags y / ((2^3:Nat):Int) % 2=0\/aA w.Flags y / ((2^3:Nat):Int) % 2=1:=by omega
  clear uc hh;unfold P6;refine rX [] [5401,5402,5403,5404] func199 ?_;simp[-cB,f199];simp[-cB,h1,h0,aw,hg];rw[bm,ahE];generalize aA w.Flags y / ((2^3:Nat):Int) % 2=q at *;by_cases Oy:q=1
  ·simp[Oy]
  ·have hq0:q=0:=by omega
   simp[hq0,h1];refine av.aU [Q3,Q0,Q0,Q0,none,none,none] [.d (.v (.string T))] aT (by kernel_rfl) ?_;simp[-cB];exact⟨ht.ok _,by omega⟩
def BS(t:ar)(w:aj)(l:List Int):List ByteArray:=(l.filter (Ek w)).map (dB t)
theorem Z3(t:ar)(w:aj)(l:List Int)(y:Int):BS t w (l++ [y])=BS t w l++if Ek w y then [dB t y]else []:=by
 unfold BS;rw[List.filter_append,apL];cases h:Ek w y<;>simp[List.filter,h]
theorem ab9(t:ar)(w:aj)(l:List Int):(BS t w l).length<=l.length:=by unfold BS;rw[ao8];exact aqn _ _
theorem RU(t:ar)(w:aj)(x:Int):BS t w (br w.tree x)=(iI w x).map (dB t):=rfl
theorem LQ(t:ar)(w:aj)(hw:w.wf)(hC:w.Child.length=w.ae.length)(hN:w.Next.length=w.ae.length)(hF:cZ w)(hn:w.ae.length≤100000)(x:Int):
  Pure prog 132 [.agg (t.enc.map .d),.agg (w.enc.map .d),iD x] (.d (.sl (iO ((iI w x).map (dB t))))):=by
 have hk:=F1 w hw hC hN x;have hlen:(br w.tree x).length<=w.ae.length:=mI w.tree x;have fp:∀y∈br w.tree x,1<=y/\y<w.ae.length:=λy hy=>nX hy
 rw[<-RU];generalize br w.tree x=ks at *;refine rn func132 ?_;simp[-cB,f132];intro bs bL;refine pC hk ?_;simp[-cB];refine av.weaken (s':=⟨[(7,.bp 5402 0),(8,.fu (.func 199) [] [.bp 5401 0,.bp 5402 0,.bp 5403 0]),(14,.d (.sl (aC ks))),(15,iD ks.length),(16,iD 0)],P6 t w [] (bs 1+1) (bL 0+1) (bs 0+1)⟩) (((Wk.rM 7 0 5404 (e:=9) (k:=1) rfl rfl (by simp[keys])).trans ((Wk.eS 4 5401 (by simp[keys])).trans ((Wk.eS 7 5402 (by simp[keys])).trans (Wk.eS 3 5403 (by simp[keys]))))).trans (Wk.pick [7,8,14,15,16] [5401,5402,5403,5404] (by rfl) (by decide) (by rfl))) ?_;unfold P6;refine av.cI [7,8,14,15,16] ks.length (λi=> [(16,iD i)]) (λi=> [(5404,.row 9 1 (dd (iO (BS t w (ks.take i)))))]) (λ_=>True) (by rfl) (by simp[BS]) ?_;intro i hi _;rcases aoR hi with aw|rfl
 ·have dj:(i:Int)<ks.length:=by omega
  have bU:aN .i64 ((i:Int)+1):=iW;have hs:ks.take (i+1)=ks.take i++ [ks[i]]:=by rw[api,akC aw];rfl
  have hol:=ab9 t w (ks.take i);have ha:=Wq t w hF ks[i] (fp _ (aoV aw)) (BS t w (ks.take i)) (by rw[apg]at hol;omega) (bs 1+1) (bL 0+1) (bs 0+1);rw[<-Z3,<-hs]at ha;unfold P6 at ha;simp[-cB,aw,dj];refine eD [5401,5402,5403,5404] ha ?_;simp[bU];exact aw
 ·simp
set_option maxHeartbeats 200000
set_option maxRecDepth 512
def Sub{α:Type}(a b:Option α):Prop:=∀p,a=some p->b=some p
theorem Sub.refl{α:Type}(a:Option α):Sub a a:=λ_ h=>h
theorem Sub.none{α:Type}(b:Option α):Sub (none:Option α) b:=λ_ h=>by cases h
theorem Sub.ite{α:Type}{p:Prop}[Decidable p]{a b a' b':Option α}(h1:p->Sub a a')(h2:¬p->Sub b b'):Sub (if p then a else b) (if p then a' else b'):=by
 by_cases h:p
 ·rw[if_pos h,if_pos h];exact h1 h
 ·rw[if_neg h,if_neg h];exact h2 h
theorem Sub.map{α β:Type}{a b:Option α}(f:α->β)(h:Sub a b):Sub (a.map f) (b.map f):=by
 intro p hp;obtain⟨x,h1,h2⟩:=aoJ.1 hp;rw[h x h1,apc,h2]
structure GM(c:XC) (g:Nat):Prop where
 ask:∀σ e,Sub (dR c g σ e) (dR c (g+1) σ e)
 asks:∀σ l,Sub (dO c g σ l) (dO c (g+1) σ l)
 call:∀σ r a,Sub (jh c g σ r a) (jh c (g+1) σ r a)
 block:∀σ l,Sub (dX c g σ l) (dX c (g+1) σ l)
 stmt:∀σ x,Sub (jx c g σ x) (jx c (g+1) σ x)
 Kq:∀σ l,Sub (jy c g σ l) (jy c (g+1) σ l)
 say:∀σ x,Sub (kF c g σ x) (kF c (g+1) σ x)
 Kr:∀σ x,Sub (gm c g σ x) (gm c (g+1) σ x)
 each:∀σ x,Sub (fm c g σ x) (fm c (g+1) σ x)
 Ws:∀σ x a,Sub (ib c g σ x a) (ib c (g+1) σ x a)
set_option maxHeartbeats 2000000 in
theorem rU(c:XC):∀g,GM c g:=by
 intro g
 induction g with
 | zero=>constructor<;>intros<;>simp only[dR,dO,jh,dX,jx,jy,kF,gm,fm,ib]<;>exact Sub.none _
 | succ g ih=>
   constructor
   ·intro σ e;rw[dR,dR];refine Sub.ite (λ_=>?_) (λ_=>?_)
    ·split
     ·rename_i x y _ _;cases hx:dR c g σ x with
      | none=>exact Sub.none _
      | some q=>
        rw[ih.ask _ _ q hx];obtain⟨aR,o⟩:=q;cases o with
        | bN l=>
          refine Sub.ite (λ_=>Sub.refl _) (λ_=>?_);cases hy:dR c g aR y with
          | none=>exact Sub.none _
          | some q=>rw[ih.ask _ _ q hy];exact Sub.refl _
        | _=>exact Sub.refl _
     ·exact Sub.none _
    ·refine Sub.ite (λ_=>Sub.none _) (λ_=>?_);cases hx:dO c g σ e.aF with
     | none=>exact Sub.none _
     | some q=>
       rw[ih.asks _ _ q hx];obtain⟨aR,a|o⟩:=q
       ·refine Sub.ite (λ_=>Sub.ite (λ_=>Sub.map _ (ih.call _ _ _)) (λ_=>Sub.none _)) (λ_=>Sub.refl _)
       ·exact Sub.refl _
   ·intro σ l;cases l with
    | nil=>rw[dO,dO];exact Sub.refl _
    | cons e l=>
      rw[dO,dO];cases hx:dR c g σ e with
      | none=>exact Sub.none _
      | some q=>
        rw[ih.ask _ _ q hx];obtain⟨aR,o⟩:=q;cases o with
        | bN n=>
          simp only;cases hy:dO c g aR l with
          | none=>exact Sub.none _
          | some q=>rw[ih.asks _ _ q hy];exact Sub.refl _
        | _=>exact Sub.refl _
   ·intro σ r a;rw[jh,jh];refine Sub.ite (λ_=>Sub.refl _) (λ_=>Sub.ite (λ_=>Sub.refl _) (λ_=>Sub.ite (λ_=>?_) (λ_=>Sub.refl _)));cases hx:dX c g {σ with Dp:=σ.Dp+1,Ls:=a.map aq++List.replicate ((aA c.B.Tables.aM r).toNat-a.length) 0} (c.B.aK[r.toNat]?.getD [])with
    | none=>exact Sub.none _
    | some q=>rw[ih.block _ _ q hx];exact Sub.refl _
   ·intro σ l;cases l with
    | nil=>rw[dX,dX];exact Sub.refl _
    | cons x l=>
      rw[dX,dX];cases hx:jx c g σ x with
      | none=>exact Sub.none _
      | some q=>
        rw[ih.stmt _ _ q hx];obtain⟨aR,o⟩:=q;cases o with
        | bN n=>exact ih.block _ _
        | _=>exact Sub.refl _
   ·intro σ x;rw[jx,jx];refine Sub.ite (λ_=>Sub.ite (λ_=>ih.Kr _ _) (λ_=>Sub.none _)) (λ_=>?_);split
    ·refine Sub.ite (λ_=>Sub.none _) (λ_=>Sub.ite (λ_=>ih.Kq _ _) (λ_=>?_));rename_i aR _ _ _ _;cases hx:dO c g aR x.aF with
     | none=>exact Sub.none _
     | some q=>
       rw[ih.asks _ _ q hx];obtain⟨ck,a|o⟩:=q
       ·exact ih.Ws _ _ _
       ·exact Sub.refl _
    ·exact Sub.refl _
   ·intro σ l;cases l with
    | nil=>rw[jy,jy];exact Sub.refl _
    | cons x l=>
      rw[jy,jy];cases hx:kF c g σ x with
      | none=>exact Sub.none _
      | some q=>
        rw[ih.say _ _ q hx];obtain⟨aR,o⟩:=q;cases o with
        | bN n=>exact ih.Kq _ _
        | _=>exact Sub.refl _
   ·intro σ e;rw[kF,kF];refine Sub.ite (λ_=>Sub.refl _) (λ_=>Sub.ite (λ_=>?_) (λ_=>?_))
    ·split
     ·rename_i x _ _;cases hx:dR c g σ x with
      | none=>exact Sub.none _
      | some q=>rw[ih.ask _ _ q hx];exact Sub.refl _
     ·exact Sub.none _
    ·cases hx:dR c g σ e with
     | none=>exact Sub.none _
     | some q=>rw[ih.ask _ _ q hx];exact Sub.refl _
   ·intro σ x;rw[gm,gm];split
    ·split
     ·rename_i aR _ _ _ e _ _;cases hx:dR c g aR e with
      | none=>exact Sub.none _
      | some q=>
        rw[ih.ask _ _ q hx];obtain⟨ck,o⟩:=q;cases o with
        | bN n=>
          refine Sub.ite (λ_=>Sub.refl _) (λ_=>?_);cases hy:dX c g ck x.Body with
          | none=>exact Sub.none _
          | some q=>
            rw[ih.block _ _ q hy];obtain⟨zJ,o⟩:=q;cases o with
            | bN n=>exact ih.Kr _ _
            | _=>exact Sub.refl _
        | _=>exact Sub.refl _
     ·exact Sub.none _
    ·exact Sub.refl _
   ·intro σ x;rw[fm,fm];refine Sub.ite (λ_=>Sub.ite (λ_=>Sub.refl _) (λ_=>?_)) (λ_=>Sub.none _);split
    ·refine Sub.ite (λ_=>Sub.refl _) (λ_=>?_);rename_i aR _ _ _;cases hy:dX c g {aR with Ls:=aR.Ls.set (x.aL+1).toNat (df aR.W 3 (aA aR.Ls x.aL)).1} x.Body with
     | none=>exact Sub.none _
     | some q=>
       rw[ih.block _ _ q hy];obtain⟨zJ,o⟩:=q;cases o with
       | bN n=>exact ih.each _ _
       | _=>exact Sub.refl _
    ·exact Sub.refl _
   ·intro σ x a;rw[ib,ib];refine Sub.ite (λ_=>Sub.refl _) (λ_=>Sub.ite (λ_=>Sub.ite (λ_=>ih.block _ _) (λ_=>Sub.none _)) (λ_=>Sub.ite (λ_=>Sub.ite (λ_=>Sub.ite (λ_=>Sub.refl _) (λ_=>ih.each _ _)) (λ_=>Sub.none _)) (λ_=>Sub.refl _)))
theorem ade{α:Type}{f:Nat->Option α}(h:∀g,Sub (f g) (f (g+1))):∀(k g:Nat),Sub (f g) (f (g+k))
 | 0,g=>Sub.refl _
 | k+1,g=>λp hp=>h _ p (ade h k g p hp)
theorem pn{α:Type}{f:Nat->Option α}(h:∀g,Sub (f g) (f (g+1))){g g':Nat}(hg:g<=g'){p:α}(hp:f g=some p):f g'=some p:=by
 have:=ade h (g'-g) g p hp
 rwa[show g+(g'-g)=g' by omega]at this
theorem qC{c:XC}{g g':Nat}(hg:g<=g'){σ:XS}{e:ay}{p:XS×OC}(h:dR c g σ e=some p):dR c g' σ e=some p:=pn (f:=λg=>dR c g σ e) (λg=>(rU c g).ask σ e) hg h
theorem BT{c:XC}{g g':Nat}(hg:g<=g'){σ:XS}{l:List ay}{p:XS×(List Int ⊕ OC)}(h:dO c g σ l=some p):dO c g' σ l=some p:=pn (f:=λg=>dO c g σ l) (λg=>(rU c g).asks σ l) hg h
theorem Wt{c:XC}{g g':Nat}(hg:g<=g'){σ:XS}{r:Int}{a:List Int}{p:XS×OC}(h:jh c g σ r a=some p):jh c g' σ r a=some p:=pn (f:=λg=>jh c g σ r a) (λg=>(rU c g).call σ r a) hg h
theorem po{c:XC}{g g':Nat}(hg:g<=g'){σ:XS}{l:List an}{p:XS×OC}(h:dX c g σ l=some p):dX c g' σ l=some p:=pn (f:=λg=>dX c g σ l) (λg=>(rU c g).block σ l) hg h
theorem Wu{c:XC}{g g':Nat}(hg:g<=g'){σ:XS}{x:an}{p:XS×OC}(h:jx c g σ x=some p):jx c g' σ x=some p:=pn (f:=λg=>jx c g σ x) (λg=>(rU c g).stmt σ x) hg h
theorem Wv{c:XC}{g g':Nat}(hg:g<=g'){σ:XS}{l:List ay}{p:XS×OC}(h:jy c g σ l=some p):jy c g' σ l=some p:=pn (f:=λg=>jy c g σ l) (λg=>(rU c g).Kq σ l) hg h
theorem Z4{c:XC}{g g':Nat}(hg:g<=g'){σ:XS}{e:ay}{p:XS×OC}(h:kF c g σ e=some p):kF c g' σ e=some p:=pn (f:=λg=>kF c g σ e) (λg=>(rU c g).say σ e) hg h
theorem RV{c:XC}{g g':Nat}(hg:g<=g'){σ:XS}{x:an}{p:XS×OC}(h:gm c g σ x=some p):gm c g' σ x=some p:=pn (f:=λg=>gm c g σ x) (λg=>(rU c g).Kr σ x) hg h
theorem Ww{c:XC}{g g':Nat}(hg:g<=g'){σ:XS}{x:an}{p:XS×OC}(h:fm c g σ x=some p):fm c g' σ x=some p:=pn (f:=λg=>fm c g σ x) (λg=>(rU c g).each σ x) hg h
theorem Wx{c:XC}{g g':Nat}(hg:g<=g'){σ:XS}{x:an}{a:List Int}{p:XS×OC}(h:ib c g σ x a=some p):ib c g' σ x a=some p:=pn (f:=λg=>ib c g σ x a) (λg=>(rU c g).Ws σ x a) hg h
def vZ(c:XC)(d:Nat)(l r:List ai)(S L:List Int)(σ:MS)(b:List ai)(S0:List Int)(σ':XS):OC->Prop
 | .bN n=>aq n=n/\cH c d l r S L σ b (n::S0) σ'.Ls (bZ σ')
 | .bG x=>dJ c d l r S L σ (.bG x (bZ σ'))
 | .over=>dJ c d l r S L σ (.over (bZ σ'))
 | .ret _=>False
def eu(c:XC)(d:Nat)(l r:List ai)(S L:List Int)(σ:MS)(b:List ai)(S0:List Int)(σ':XS):OC->Prop
 | .bN _=>cH c d l r S L σ b S0 σ'.Ls (bZ σ')
 | .bG x=>dJ c d l r S L σ (.bG x (bZ σ'))
 | .over=>dJ c d l r S L σ (.over (bZ σ'))
 | .ret n=>dJ c d l r S L σ (.ret n (bZ σ'))
def Hq(c:XC)(d:Nat)(l r:List ai)(S L:List Int)(σ:MS)(b:List ai)(S0:List Int)(σ':XS):List Int ⊕ OC->Prop
 | .inl a=>(∀n∈a,aq n=n)/\cH c d l r S L σ b (a.reverse++S0) σ'.Ls (bZ σ')
 | .inr (.bG x)=>dJ c d l r S L σ (.bG x (bZ σ'))
 | .inr .over=>dJ c d l r S L σ (.over (bZ σ'))
 | .inr _=>False
theorem vZ.pre{c:XC}{d:Nat}{l r r1:List ai}{S L S1 L1:List Int}{σ aR:MS}{b:List ai}{S0:List Int}{σ':XS}{o:OC}(h:cH c d l r S L σ r1 S1 L1 aR)(h2:vZ c d l r1 S1 L1 aR b S0 σ' o):vZ c d l r S L σ b S0 σ' o:=by
 cases o with
 | bN n=>exact⟨h2.1,h.trans h2.2⟩
 | bG x=>exact h.stop h2
 | over=>exact h.stop h2
 | ret n=>exact h2
theorem eu.pre{c:XC}{d:Nat}{l r r1:List ai}{S L S1 L1:List Int}{σ aR:MS}{b:List ai}{S0:List Int}{σ':XS}{o:OC}(h:cH c d l r S L σ r1 S1 L1 aR)(h2:eu c d l r1 S1 L1 aR b S0 σ' o):eu c d l r S L σ b S0 σ' o:=by
 cases o with
 | bN n=>exact h.trans h2
 | bG x=>exact h.stop h2
 | over=>exact h.stop h2
 | ret n=>exact h.stop h2
theorem Hq.toS{c:XC}{d:Nat}{l r b b':List ai}{S L:List Int}{σ:MS}{S0 S1:List Int}{σ':XS}{o:OC}(h:Hq c d l r S L σ b S0 σ' (.inr o)):eu c d l r S L σ b' S1 σ' o:=by
 cases o with
 | bN n=>exact h.elim
 | bG x=>exact h
 | over=>exact h
 | ret n=>exact h.elim
theorem Hq.toE{c:XC}{d:Nat}{l r b b':List ai}{S L:List Int}{σ:MS}{S0 S1:List Int}{σ':XS}{o:OC}(h:Hq c d l r S L σ b S0 σ' (.inr o)):vZ c d l r S L σ b' S1 σ' o:=by
 cases o with
 | bN n=>exact h.elim
 | bG x=>exact h
 | over=>exact h
 | ret n=>exact h.elim
theorem mZ(b:Bool):aq (ez b)=ez b:=by cases b<;>decide
theorem aca{c:XC}{d:Nat}{l:List ai}{i:ai}{b:List ai}{S S0 L:List Int}{σ:MS}{p:Option (aj×OC)}{Jh σ':XS}{o:OC}(hf:Go.Ab.flat i.Op)(hJ:instJ c i S L σ=iR true S0 L σ p)(El:σ=bZ Jh)(hL:L=Jh.Ls)
  (hp:p.map (λp=>(({Jh with W:=p.1}:XS),p.2))=some (σ',o)) (ho:∀n,o≠ .ret n) (hw:∀w x,p=some (w,.bG x)->w=Jh.W):vZ c d l (i::b) S L σ b S0 σ' (mL (σ',o)).2:=by
 obtain⟨⟨w,o1⟩,h1,h2⟩:=aoJ.1 hp;simp only[aoI]at h2;obtain⟨rfl,rfl⟩:=h2;rw[h1]at hJ;cases o1 with
 | bN n=>
   refine⟨wrap_wrap n,?_⟩;refine .flat hf ?_;rw[hJ,El,hL];rfl
 | bG x=>
   have e:=hw w x h1;subst e;have:=dJ.bG (c:=c) (d:=d) (l:=l) (r:=b) (σ:=σ) hf hJ;rw[El]at this⊢;exact this
 | over=>
   have:=dJ.over (c:=c) (d:=d) (l:=l) (r:=b) (σ:=σ) hf hJ;rw[El]at this⊢;exact this
 | ret n=>exact(ho n rfl).elim
theorem P7{α:Type}{p:Prop}[Decidable p]{a b x:α}{Q:Prop}(h:(if p then a else b)=x)(h1:a=x->Q)(h2:b=x->Q):Q:=by
 by_cases hp:p
 ·rw[if_pos hp]at h;exact h1 h
 ·rw[if_neg hp]at h;exact h2 h
theorem aeF{w w':aj}{p:Int×Int}{x:Int}(h:jw w p=(w',.bG x)):w'=w:=by
 unfold jw at h;split at h<;>simp at h
 exact h.1.symm
theorem acb{w w':aj}{p:aj×Int}{x:Int}(h:ja w p=(w',.bG x)):w'=w:=by
 unfold ja at h;split at h<;>simp at h
 exact h.1.symm
theorem acd{c:XC}{w w':aj}{k n:Int}{a:List Int}{o:OC}(h:dh c w k n a=some (w',o)):(∀n,o≠ .ret n)/\(∀x,o= .bG x->w'=w):=by
 have key:∀p,jw w p=(w',o)->(∀n,o≠ .ret n)/\(∀x,o= .bG x->w'=w):=by
  intro p hp;refine⟨λn hn=>?_,λx hx=>?_⟩
  ·unfold jw at hp;split at hp<;>(rw[hn]at hp;simp at hp)
  ·rw[hx]at hp;exact aeF hp
 unfold dh at h
 repeat' (refine P7 h (λh=>?_) (λh=>?_)<;>rename_i h9<;>clear h9)
 all_goals first
  | (simp only[anc]at h;exact key _ h)
  | (cases h;done)
  | (cases h;exact⟨λ_ hn=>(by cases hn),λ_ hx=>(by first|rfl|cases hx)⟩)
theorem P8{c:XC}{w w':aj}{k n:Int}{a:List Int}{o:OC}(h:cE c w k n a=some (w',o)):(∀n,o≠ .ret n)/\(∀x,o= .bG x->w'=w):=by
 have key:∀p,ja w p=(w',o)->(∀n,o≠ .ret n)/\(∀x,o= .bG x->w'=w):=by
  intro p hp;refine⟨λn hn=>?_,λx hx=>?_⟩
  ·unfold ja at hp;split at hp<;>(rw[hn]at hp;simp at hp)
  ·rw[hx]at hp;exact acb hp
 unfold cE at h
 repeat' (refine P7 h (λh=>?_) (λh=>?_)<;>rename_i h9<;>clear h9)
 all_goals first
  | (simp only[anc]at h;exact key _ h)
  | (cases h;done)
  | (cases h;exact⟨λ_ hn=>(by cases hn),λ_ hx=>(by first|rfl|cases hx)⟩)
theorem ace{c:XC}{d:Nat}{l:List ai}{i:ai}{b:List ai}{S S0 L:List Int}{σ:MS}{p:Option (aj×OC)}{Jh σ':XS}{o:OC}(hf:Go.Ab.flat i.Op)(hJ:instJ c i S L σ=iR false S0 L σ p)(El:σ=bZ Jh)(hL:L=Jh.Ls)
  (hp:p.map (λp=>(({Jh with W:=p.1}:XS),p.2))=some (σ',o)) (ho:∀n,o≠ .ret n) (hw:∀w x,p=some (w,.bG x)->w=Jh.W):eu c d l (i::b) S L σ b S0 σ' o:=by
 obtain⟨⟨w,o1⟩,h1,h2⟩:=aoJ.1 hp;simp only[aoI]at h2;obtain⟨rfl,rfl⟩:=h2;rw[h1]at hJ;cases o1 with
 | bN n=>
   refine .flat hf ?_;rw[hJ,El,hL];rfl
 | bG x=>
   have e:=hw w x h1;subst e;have:=dJ.bG (c:=c) (d:=d) (l:=l) (r:=b) (σ:=σ) hf hJ;rw[El]at this⊢;exact this
 | over=>
   have:=dJ.over (c:=c) (d:=d) (l:=l) (r:=b) (σ:=σ) hf hJ;rw[El]at this⊢;exact this
 | ret n=>exact(ho n rfl).elim
theorem lh{e:ay}{n:Int}{op num named:Bool}(h:fF e n op num named=true):(e.aF.length:Int)=n:=by
 unfold fF at h;simp only[aoM,decide_eq_true_eq]at h;exact h.1.1.1
theorem lj{t:ar}{e:ay}{loc:Int}(h:im t e loc false=true):((e.Kind=1\/e.Kind=14\/e.Kind=15\/e.Kind=12)/\e.aF.length=0)\/((e.Kind=4\/e.Kind=5\/e.Kind=11\/e.Kind=16\/e.Kind=17\/e.Kind=10)/\e.aF.length=1)\/(e.Kind=6/\e.aF.length=2)\/(e.Kind=18/\mu t e.aL=e.aF.length):=by
 unfold im at h;by_cases k1:e.Kind=1
 ·rw[if_pos k1,aoM]at h;have:=lh h.1;omega
 rw[if_neg k1]at h;by_cases k14:e.Kind=14
 ·rw[if_pos k14,aoM]at h;have:=lh h.1;omega
 rw[if_neg k14]at h;by_cases k15:e.Kind=15
 ·rw[if_pos k15,aoM,aoM]at h;have:=lh h.1.1;omega
 rw[if_neg k15]at h;by_cases k19:e.Kind=19
 ·rw[if_pos k19]at h;simp at h
 rw[if_neg k19]at h;by_cases k4:e.Kind=4\/e.Kind=5\/e.Kind=11
 ·rw[if_pos k4]at h;have:=lh h;omega
 rw[if_neg k4]at h;by_cases k13:e.Kind=13
 ·rw[if_pos k13]at h;simp at h
 rw[if_neg k13]at h;by_cases k6:e.Kind=6
 ·rw[if_pos k6,aoM]at h;have:=lh h.1;omega
 rw[if_neg k6]at h;by_cases k16:e.Kind=16
 ·rw[if_pos k16,aoM,aoM]at h;have:=lh h.1.1;omega
 rw[if_neg k16]at h;by_cases k17:e.Kind=17
 ·rw[if_pos k17,aoM]at h;have:=lh h.1;omega
 rw[if_neg k17]at h;by_cases k18:e.Kind=18
 ·rw[if_pos k18,aoM,decide_eq_true_eq]at h;exact Or.inr (Or.inr (Or.inr ⟨k18,h.2⟩))
 rw[if_neg k18]at h;by_cases rH:e.Kind=10
 ·rw[if_pos rH,aoM]at h;have:=lh h.1;omega
 rw[if_neg rH]at h;by_cases Ji:e.Kind=12
 ·rw[if_pos Ji,aoM]at h;have:=lh h.1;omega
 rw[if_neg Ji]at h;cases h
theorem aeG{c:XC}{w:aj}{k n:Int}{a:List Int}{x:aj×OC}(h:dh c w k n a=some x):okW c w=true:=by
 cases ho:okW c w with
 | true=>rfl
 | false=>unfold dh at h;rw[if_pos ho]at h;cases h
theorem aeH{c:XC}{w:aj}{k n:Int}{a:List Int}{x:aj×OC}(h:cE c w k n a=some x):okW c w=true:=by
 cases ho:okW c w with
 | true=>rfl
 | false=>unfold cE at h;rw[if_pos ho]at h;cases h
theorem acf(S L:List Int)(σ:MS)(p:Int×Int):some (FC S L σ p)=iR true S L σ (some (jw σ.W p)):=by
 unfold FC jw;split<;>rfl
theorem Em{α:Type}{l:List α}(h:l.length=1):∃x,l=[x]:=by
 match l,h with
 | [x],_=>exact⟨x,rfl⟩
theorem P9{α:Type}{l:List α}(h:l.length=2):∃x y,l=[x,y]:=by
 match l,h with
 | [x,y],_=>exact⟨x,y,rfl⟩
theorem inst_val{c:XC}{e:ay}{a:List Int}{t:ar}{loc:Int}(hb:im t e loc false=true)(um:e.Kind≠18)(oN:e.Kind≠15)(ha:a.length=e.aF.length)(S L:List Int)(σ:MS)(aO:okW c σ.W=true):
  Go.Ab.flat (dD e).Op/\instJ c (dD e) (a.reverse++S) L σ=iR true S L σ (dh c σ.W e.Kind (lO e) a):=by
 rcases lj hb with⟨hk,hl⟩|⟨hk,hl⟩|⟨hk,hl⟩|⟨hk,_⟩
 ·rw[hl]at ha;obtain rfl:=apw.1 ha;rcases hk with hk|hk|hk|hk
  ·simp[dD,lO,hk,instJ,dh,aO,iR,tM]
  ·simp[dD,lO,hk,instJ,dI,di,Go.Ab.flat]
  ·exact(oN hk).elim
  ·simp[dD,lO,hk,instJ,dI,di,Go.Ab.flat]
 ·rw[hl]at ha;obtain⟨x,rfl⟩:=Em ha;have hx:aA [x] 0=x:=rfl;rcases hk with hk|hk|hk|hk|hk|hk
  ·simp[dD,lO,hk,instJ,dI,dh,aO,iR,ac1,hx]
  ·refine⟨by simp[dD,hk,DS],?_⟩;simp[dD,lO,hk,instJ,dI,dh,aO,iR,hx,notM,mZ]
  ·simp[dD,lO,hk,instJ,dI,di,Go.Ab.flat,dh,aO,hx]
  ·simp[dD,lO,hk,instJ,dI,di,Go.Ab.flat]
  ·simp[dD,lO,hk,instJ,dI,di,Go.Ab.flat]
  ·simp[dD,lO,hk,instJ,dI,di,Go.Ab.flat]
 ·rw[hl]at ha;obtain⟨x,y,rfl⟩:=P9 ha;have hx:aA [x,y] 0=x:=rfl;have hy:aA [x,y] 1=y:=rfl;refine⟨by simp[dD,hk,ac0],?_⟩;simp[dD,lO,hk,instJ,dI,dh,aO,hx,hy,acf]
 ·exact(um hk).elim
theorem aeI{c:XC}{σ σ':XS}{e:ay}{a:List Int}{o:OC}{t:ar}{loc:Int}(h:Kb c σ e a=some (σ',o))(hb:im t e loc false=true)(um:e.Kind≠18)(ha:a.length=e.aF.length)(d:Nat)(l b:List ai)(S:List Int):
  vZ c d l (dD e::b) (a.reverse++S) σ.Ls (bZ σ) b S σ' (mL (σ',o)).2/\σ'.Dp=σ.Dp:=by
 unfold Kb at h;by_cases oN:e.Kind=15
 ·rw[if_pos oN]at h;split at h
  ·rename_i cq;simp only[anc,aoI]at h;obtain⟨rfl,rfl⟩:=h;have hl:a=[]:=by
    rcases lj hb with⟨hk,hl⟩|⟨hk,hl⟩|⟨hk,hl⟩|⟨hk,_⟩
    ·rw[hl]at ha;exact apw.1 ha
    ·omega
    ·omega
    ·omega
   subst hl;refine⟨⟨wrap_wrap _,?_⟩,rfl⟩;refine .flat (by simp[dD,oN,Go.Ab.flat]) ?_;simp[dD,oN,instJ,cq]
  ·cases h
 ·rw[if_neg oN]at h;cases hv:dh c σ.W e.Kind (lO e) a with
  | none=>rw[hv]at h;cases h
  | some x=>
    have aO:=aeG hv;obtain⟨hf,hJ⟩:=inst_val hb um oN ha S σ.Ls (bZ σ) aO;have af4:=λw' o1 (he:dh c σ.W e.Kind (lO e) a=some (w',o1))=>acd he
    refine⟨aca hf hJ rfl rfl h ?_ ?_,?_⟩
    ·obtain⟨w1,o1⟩:=x;have h2:=h;rw[hv]at h2;simp only[apc,anc,aoI]at h2;rw[<-h2.2];exact(af4 w1 o1 hv).1
    ·intro w x1 hw;exact(af4 w _ hw).2 x1 rfl
    ·rw[hv]at h;simp only[apc,anc,aoI]at h;rw[<-h.1]
def WL(l:List Int):Prop:=∀n∈l,aq n=n
theorem WL.get{l:List Int}(h:WL l)(i:Int):aq (aA l i)=aA l i:=by
 unfold aA;cases hx:l[i.toNat]? with
 | none=>rfl
 | some v=>exact h v (aoO hx)
theorem WL.set{l:List Int}(h:WL l)(i:Nat){n:Int}(hn:aq n=n):WL (l.set i n):=by
 intro x hx;rcases aqU hx with hx|hx
 ·exact h x hx
 ·rw[hx];exact hn
theorem ig.ahF{t:ar}{w:aj}(h:ig t w)(k x:Int):0<=(df w k x).1/\(df w k x).1<128:=by
 have hl:=h.hT;have hn:=h.hn;unfold df;by_cases hk:k=1\/k=2\/k=3
 ·rw[if_pos hk];by_cases hx:bY w.ae.length (aq x)=true
  ·rw[if_pos hx];have hb:=aY.1 hx;have e1:w.tree.bl=w.ae:=rfl;have e2:w.tree.gi=w.Child:=rfl;have e3:w.tree.gk=w.Next:=rfl;have wg:=h.nest.up _ hb.1 hb.2;have ma:=(h.nest.ch _ hb.1 hb.2).head;rw[e2]at ma;rw[e1,e3]at wg;show 0<=(if k=1 then _ else if k=2 then _ else _)/\(if k=1 then _ else if k=2 then _ else _)<128;split
   ·omega
   ·split
    ·omega
    ·rcases wg with⟨_,h0⟩|⟨h1,h2⟩
     ·omega
     ·have:=(h.nest.ch _ h1.1 h1.2).V8 _ h2;rw[e3]at this;omega
  ·rw[if_neg hx];decide
 ·rw[if_neg hk];decide
theorem Jj{c:XC}{w:aj}(hf:eJ c.B.Tables=true)(h:okW c w=true):ig c.B.Tables w:=by
 unfold okW at h;rw[aoM,decide_eq_true_eq]at h;exact ig.of hf h.1 h.2
theorem LR{c:XC}{w:aj}(hf:eJ c.B.Tables=true)(h:okW c w=true)(k x:Int):aq (df w k x).1=(df w k x).1:=by
 have:=(Jj hf h).ahF k x;exact S8 (by omega)
def mS(x:an)(m:Int):Int:=if x.Kind=9 then(if x.bX=[]then m+1 else m+2)else if x.Kind=11 then m+2 else m
def kS(x:an)(m:Int):Int:=(aZ x.aF (mS x m)).2
def mU(x:an)(m:Int):List ai:=[⟨38,m⟩,⟨5,x.aL⟩,⟨25,m+1⟩,tick,⟨5,x.aL⟩,⟨19,3⟩,⟨6,x.aL+1⟩]++(bh x.Body (kS x m)).1++ [⟨5,x.aL+1⟩,⟨6,x.aL⟩,⟨24,m⟩,⟨38,m+1⟩]
def kA(x:an)(m:Int):List ai:=
 if x.Kind=9 then(if x.bX=[]then [⟨25,m⟩]++(bh x.Body (kS x m)).1++ [⟨38,m⟩]else [⟨25,m⟩]++(bh x.Body (kS x m)).1++ [⟨24,m+1⟩,⟨38,m⟩]++(bh x.bX (bh x.Body (kS x m)).2).1++ [⟨38,m+1⟩])
 else if x.Kind=11 then [⟨19,2⟩,⟨6,x.aL⟩]++mU x m
 else [gR x.Kind x.aL]
theorem LS(x:an)(m:Int)(h1:x.Kind≠1)(ew:x.Kind≠10):(dx x m).1=tick::((aZ x.aF (mS x m)).1++kA x m):=by
 unfold kA kS mS;by_cases h9:x.Kind=9
 ·by_cases he:x.bX=[]
  ·rw[BN x m h9 he];simp[h9,he]
  ·rw[BO x m h9 he];simp[h9,he]
 ·by_cases jN:x.Kind=11
  ·rw[zE x m jN];simp[h9,jN,mU,kS,mS]
  ·rw[wS x m h9 ew jN h1];simp[h9,jN]
theorem Hr{c:XC}{σ σ':XS}{o:OC}(h:tL c σ=some (σ',o))(d:Nat)(l b:List ai)(S:List Int):
  σ'.Ls=σ.Ls/\σ'.Dp=σ.Dp/\σ'.W=σ.W/\((∃n,o= .bN n/\cH c d l (tick::b) S σ.Ls (bZ σ) b S σ'.Ls (bZ σ'))\/(o= .bG 19/\dJ c d l (tick::b) S σ.Ls (bZ σ) (.bG 19 (bZ σ')))):=by
 unfold tL at h;split at h
 ·rename_i hg;have lV:Go.Ab.flat tick.Op:=by simp[tick,Go.Ab.flat]
  split at h
  ·rename_i hm;simp only[anc,aoI]at h;obtain⟨rfl,rfl⟩:=h;refine⟨rfl,rfl,rfl,Or.inr ⟨rfl,.bG lV ?_⟩⟩;simp[tick,instJ,bZ,hg,hm]
  ·rename_i hm;simp only[anc,aoI]at h;obtain⟨rfl,rfl⟩:=h;refine⟨rfl,rfl,rfl,Or.inl ⟨0,rfl,.flat lV ?_⟩⟩;simp[tick,instJ,bZ,hg,hm]
 ·cases h
theorem Fm{c:XC}{σ σ':XS}{o:OC}{s:ByteArray}(h:zX σ s=some (σ',o)){i:ai}(hf:Go.Ab.flat i.Op){S S0:List Int}(hJ:instJ c i S σ.Ls (bZ σ)=yP S0 σ.Ls (bZ σ) s)(d:Nat)(l b:List ai):
  σ'.Ls=σ.Ls/\σ'.Dp=σ.Dp/\(∃n,o= .bN n)/\eu c d l (i::b) S σ.Ls (bZ σ) b S0 σ' o:=by
 unfold zX at h;split at h
 ·rename_i hs;simp only[anc,aoI]at h;obtain⟨rfl,rfl⟩:=h;refine⟨rfl,rfl,⟨0,rfl⟩,.flat hf ?_⟩;rw[hJ,yP,if_pos (by exact hs)];rfl
 ·cases h
structure ue(c:XC) (g:Nat):Prop where
 ask:∀σ e σ' o,dR c g σ e=some (σ',o)->∀loc,cT c.B.Tables loc e false=true->σ'.Dp=σ.Dp/\σ'.Ls=σ.Ls/\(WL σ.Ls->∀(m:Int) (l a b:List ai),l=a++((aX e m).1++b)->(bP l).Nodup->∀(d:Nat) (S:List Int),σ.Dp=d->
  vZ c d l ((aX e m).1++b) S σ.Ls (bZ σ) b S σ' o)
 asks:∀σ es σ' o,dO c g σ es=some (σ',o)->∀loc,(∀e∈es,cT c.B.Tables loc e false=true)->σ'.Dp=σ.Dp/\σ'.Ls=σ.Ls/\(∀a,o= .inl a->a.length=es.length)/\(WL σ.Ls->∀(m:Int) (l a b:List ai),l=a++((aZ es m).1++b)->(bP l).Nodup->∀(d:Nat) (S:List Int),σ.Dp=d->
  Hq c d l ((aZ es m).1++b) S σ.Ls (bZ σ) b S σ' o)
 call:∀σ r a σ' o,jh c g σ r a=some (σ',o)->σ'.Dp=σ.Dp/\σ'.Ls=σ.Ls/\∀(d:Nat),σ.Dp=d->(32<=d->o= .bG 17/\bZ σ'=bZ σ)/\(d<32->match o with
  | .bN n=>dJ c (d+1) (cJ c.B r) (cJ c.B r) [] ((bS c).lo r a) (bZ σ) (.ret n (bZ σ'))
  | .bG x=>dJ c (d+1) (cJ c.B r) (cJ c.B r) [] ((bS c).lo r a) (bZ σ) (.bG x (bZ σ'))
  | .over=>dJ c (d+1) (cJ c.B r) (cJ c.B r) [] ((bS c).lo r a) (bZ σ) (.over (bZ σ'))
  | .ret _=>False)
 block:∀σ ls σ' o,dX c g σ ls=some (σ',o)->∀loc,(∀s∈ls,eO c.B.Tables loc s=true)->σ'.Dp=σ.Dp/\(WL σ.Ls->WL σ'.Ls/\∀(m:Int) (l a b:List ai),l=a++((bh ls m).1++b)->(bP l).Nodup->∀(d:Nat) (S:List Int),σ.Dp=d->
  eu c d l ((bh ls m).1++b) S σ.Ls (bZ σ) b S σ' o)
 stmt:∀σ x σ' o,jx c g σ x=some (σ',o)->∀loc,eO c.B.Tables loc x=true->σ'.Dp=σ.Dp/\(WL σ.Ls->WL σ'.Ls/\∀(m:Int) (l a b:List ai),l=a++((dx x m).1++b)->(bP l).Nodup->∀(d:Nat) (S:List Int),σ.Dp=d->
  eu c d l ((dx x m).1++b) S σ.Ls (bZ σ) b S σ' o)
 Kq:∀σ es σ' o,jy c g σ es=some (σ',o)->∀loc,(∀e∈es,cT c.B.Tables loc e true=true)->σ'.Dp=σ.Dp/\σ'.Ls=σ.Ls/\(WL σ.Ls->∀(m:Int) (l a b:List ai),l=a++((de es m).1++b)->(bP l).Nodup->∀(d:Nat) (S:List Int),σ.Dp=d->
  eu c d l ((de es m).1++b) S σ.Ls (bZ σ) b S σ' o)
 say:∀σ e σ' o,kF c g σ e=some (σ',o)->∀loc,cT c.B.Tables loc e true=true->σ'.Dp=σ.Dp/\σ'.Ls=σ.Ls/\(WL σ.Ls->∀(m:Int) (l a b:List ai),l=a++((hU e m).1++b)->(bP l).Nodup->∀(d:Nat) (S:List Int),σ.Dp=d->
  eu c d l ((hU e m).1++b) S σ.Ls (bZ σ) b S σ' o)
 Kr:∀σ x σ' o,gm c g σ x=some (σ',o)->x.Kind=10->∀loc,eO c.B.Tables loc x=true->σ'.Dp=σ.Dp/\(WL σ.Ls->WL σ'.Ls/\∀(m:Int) (l a b:List ai),l=a++((dx x m).1++b)->(bP l).Nodup->∀(d:Nat) (S:List Int),σ.Dp=d->
  eu c d l ((dx x m).1++b) S σ.Ls (bZ σ) b S σ' o)
 each:∀σ x σ' o,fm c g σ x=some (σ',o)->x.Kind=11->∀loc,eO c.B.Tables loc x=true->σ'.Dp=σ.Dp/\(WL σ.Ls->WL σ'.Ls/\∀(m:Int) (l a b:List ai),l=a++(mU x m++b)->(bP l).Nodup->∀(d:Nat) (S:List Int),σ.Dp=d->
  eu c d l (mU x m++b) S σ.Ls (bZ σ) b S σ' o)
 Ws:∀σ x v σ' o,ib c g σ x v=some (σ',o)->x.Kind≠1->x.Kind≠10->v.length=x.aF.length->∀loc,eO c.B.Tables loc x=true->σ'.Dp=σ.Dp/\(WL σ.Ls->(∀n∈v,aq n=n)->WL σ'.Ls/\∀(m:Int) (l a b:List ai),l=a++(kA x m++b)->(bP l).Nodup->∀(d:Nat) (S:List Int),σ.Dp=d->
  eu c d l (kA x m++b) (v.reverse++S) σ.Ls (bZ σ) b S σ' o)
theorem Qa{c:XC}:∀{g:Nat} {es:List ay} {σ σ':XS} {o:OC},dO c g σ es=some (σ',.inr o)->∀n,o≠ .bN n
 | 0,es,σ,σ',o,h=>by simp[dO]at h
 | g+1,[],σ,σ',o,h=>by rw[dO]at h;simp at h
 | g+1,e::es,σ,σ',o,h=>by
   rw[dO]at h;cases he:dR c g σ e with
   | none=>rw[he]at h;cases h
   | some p=>
     obtain⟨aR,o1⟩:=p;rw[he]at h;cases o1 with
     | bN n=>
       simp only at h;cases En:dO c g aR es with
       | none=>rw[En]at h;cases h
       | some q=>
         obtain⟨ck,o2⟩:=q;rw[En]at h;rcases o2 with w|o2
         ·simp at h
         ·simp only[anc,aoI,Sum.inr.injEq]at h;rw[<-h.2];exact Qa En
     | bG x=>simp only[anc,aoI,Sum.inr.injEq]at h;rw[<-h.2];intro n hn;cases hn
     | over=>simp only[anc,aoI,Sum.inr.injEq]at h;rw[<-h.2];intro n hn;cases hn
     | ret x=>simp only[anc,aoI,Sum.inr.injEq]at h;rw[<-h.2];intro n hn;cases hn
theorem Qb{c:XC}{g:Nat}{σ σ':XS}{e:ay}{n:Int}(h:dR c g σ e=some (σ',.bN n)):aq n=n:=by
 have wt:∀b,aq (ez b)=ez b:=mZ;cases g with
 | zero=>simp[dR]at h
 | succ g=>
   rw[dR]at h
   repeat' split at h
   all_goals (try (simp only[aoJ]at h))
   all_goals first
    | (cases h;done)
    | (simp only[anc,aoI,OC.bN.injEq]at h;rw[<-h.2];exact wt _)
    | (obtain⟨⟨ck,o2⟩,_,h2⟩:=h
       cases o2<;>simp only[mL,aoI,OC.bN.injEq,reduceCtorEq,and_false]at h2
       rw[<-h2.2];exact wrap_wrap _)
    | (rename_i hh;exact(hh _ _ h).elim)
    | (rename_i hh;simp only[anc,aoI]at h;exact(Qa hh n h.2).elim)
theorem Eo{c:XC}:∀{g:Nat} {es:List ay} {σ σ':XS} {v:List Int},dO c g σ es=some (σ',.inl v)->∀n∈v,aq n=n
 | 0,es,σ,σ',v,h=>by simp[dO]at h
 | g+1,[],σ,σ',v,h=>by
   rw[dO]at h;simp only[anc,aoI,Sum.inl.injEq]at h;intro n hn;rw[<-h.2]at hn;cases hn
 | g+1,e::es,σ,σ',v,h=>by
   rw[dO]at h;cases he:dR c g σ e with
   | none=>rw[he]at h;cases h
   | some p=>
     obtain⟨aR,o1⟩:=p;rw[he]at h;cases o1 with
     | bN n=>
       simp only at h;cases En:dO c g aR es with
       | none=>rw[En]at h;cases h
       | some q=>
         obtain⟨ck,o2⟩:=q;rw[En]at h;rcases o2 with w|o2
         ·simp only[anc,aoI,Sum.inl.injEq]at h;intro x hx;rw[<-h.2]at hx;rcases ao0.1 hx with rfl|hx
          ·exact Qb he
          ·exact Eo En x hx
         ·simp at h
     | bG x=>simp at h
     | over=>simp at h
     | ret x=>simp at h
structure jI(b:bW):Prop where
 fits:eJ b.Tables=true
 len:b.aK.length=b.Tables.Params.length
 bnd:∀r,fL b.aK r->iq b.Tables (aA b.Tables.aM r) (b.aK[r.toNat]?.getD [])=true
theorem acg:aq 1=1:=by decide
theorem Ep:aq 0=0:=by decide
theorem cH.push{c d l r n S L σ}:cH c d l (⟨1,n⟩::r) S L σ r (aq n::S) L σ:= .flat tM (by rfl)
theorem cH.test{c d l r n v S L σ}:cH c d l (⟨11,n⟩::r) (v::S) L σ r (ez (decide (v≠0))::S) L σ:= .flat YX (by rfl)
theorem ach{c}{g}(ih:ue c g):∀σ e σ' o,dR c (g+1) σ e=some (σ',o)→∀loc,cT c.B.Tables loc e false=true→σ'.Dp=σ.Dp∧σ'.Ls=σ.Ls∧(WL σ.Ls→∀m l a b,l=a++((aX e m).1++b)→(bP l).Nodup→∀(d:Nat) S,σ.Dp=d→
  vZ c d l ((aX e m).1++b) S σ.Ls (bZ σ) b S σ' o):=by
 intro σ e σ' o h loc hb;rw[dR]at h;by_cases Hs:e.Kind=6/\(e.Op=1\/e.Op=2)
 ·rw[if_pos Hs]at h;obtain⟨x,y,ob⟩:=Gb hb Hs.1;rw[ob]at h;simp only at h;have gT:=zC hb (x:=x) (by grind);have kH:=zC hb (x:=y) (by grind);cases hx:dR c g σ x with
  | none=>grind
  | some p=>
    obtain⟨aR,o1⟩:=p;rw[hx]at h;obtain⟨d1,l1,r1⟩:=ih.ask σ x aR o1 hx loc gT;have code:∀(m:Int) (b:List ai),∃(C:List ai),(aX e m).1++b=(aX x (m+2)).1++(⟨25,m⟩::C)/\C=(if e.Op=1 then⟨1,1⟩::⟨24,m+1⟩::⟨38,m⟩::((aX y (aX x (m+2)).2).1++(⟨11,0⟩::⟨38,m+1⟩::b))else(aX y (aX x (m+2)).2).1++(⟨11,0⟩::⟨24,m+1⟩::⟨38,m⟩::⟨1,0⟩::⟨38,m+1⟩::b)):=by
     intro m b;refine⟨_,?_,rfl⟩;by_cases ho:e.Op=1
     ·rw[Fb e x y [] m Hs.1 ho ob,if_pos ho];simp
     ·have DD:e.Op=2:=Hs.2.resolve_left ho;rw[BD e x y [] m Hs.1 DD ob,if_neg ho];simp
    cases o1 with
    | bG v=>
      simp only[anc,aoI]at h;obtain⟨rfl,rfl⟩:=h;refine⟨d1,l1,λhW m l a b hl hu d S hd=>?_⟩;obtain⟨C,e1,_⟩:=code m b;rw[e1]at hl⊢;exact r1 hW (m+2) l a _ hl hu d S hd
    | over=>
      simp only[anc,aoI]at h;obtain⟨rfl,rfl⟩:=h;refine⟨d1,l1,λhW m l a b hl hu d S hd=>?_⟩;obtain⟨C,e1,_⟩:=code m b;rw[e1]at hl⊢;exact r1 hW (m+2) l a _ hl hu d S hd
    | ret v=>
      simp only[anc,aoI]at h;obtain⟨rfl,rfl⟩:=h;refine⟨d1,l1,λhW m l a b hl hu d S hd=>?_⟩;obtain⟨C,e1,_⟩:=code m b;rw[e1]at hl;exact(r1 hW (m+2) l a _ hl hu d S hd).elim
    | bN v=>
      simp only at h;by_cases hc:decide (v≠0)=decide (e.Op=1)
      ·rw[if_pos hc]at h;simp only[anc,aoI]at h;obtain⟨rfl,rfl⟩:=h;refine⟨d1,l1,λhW m l a b hl hu d S hd=>?_⟩;obtain⟨C,e1,e2⟩:=code m b;rw[e1]at hl⊢;obtain⟨hv,oO⟩:=r1 hW (m+2) l a _ hl hu d S hd;refine⟨mZ _,oO.trans ?_⟩;by_cases ho:e.Op=1
       ·rw[if_pos ho]at e2;have LU:v≠0:=by grind
        subst e2;refine(cH.Fi (by omega)).trans (cH.push.trans ?_);refine(cH.jump (a:=a++((aX x (m+2)).1++(⟨25,m⟩::⟨1,1⟩::⟨24,m+1⟩::⟨38,m⟩::((aX y (aX x (m+2)).2).1++ [⟨11,0⟩])))) (b:=b) (by grind) hu).trans ?_;grind[ez,decide,aq,acg,cH.refl]
       ·rw[if_neg ho]at e2;have LU:v=0:=by grind
        subst e2;refine(cH.Fh (a:=a++((aX x (m+2)).1++(⟨25,m⟩::((aX y (aX x (m+2)).2).1++ [⟨11,0⟩,⟨24,m+1⟩])))) (b:=⟨1,0⟩::⟨38,m+1⟩::b) (by grind) hu (by omega)).trans ?_;refine cH.push.trans (cH.label.trans ?_);grind[ez,decide,aq,Ep,cH.refl]
      ·rw[if_neg hc]at h;cases hy:dR c g aR y with
       | none=>grind
       | some q=>
         obtain⟨ck,o2⟩:=q;rw [hy]at h;obtain⟨d2,l2,r2⟩:=ih.ask aR y ck o2 hy loc kH;have to2:WL σ.Ls→∀(m:Int) (l a b:List ai),l=a++((aX e m).1++b)→(bP l).Nodup→∀(d:Nat) (S:List Int),σ.Dp=d→
           ∃b2,cH c d l ((aX e m).1++b) S σ.Ls (bZ σ) ((aX y (aX x (m+2)).2).1++(⟨11,0⟩::b2)) S aR.Ls (bZ aR)/\(∀u,cH c d l b2 [u] ck.Ls (bZ ck) b [u] ck.Ls (bZ ck))/\(∀u S,cH c d l b2 (u::S) ck.Ls (bZ ck) b (u::S) ck.Ls (bZ ck))/\∃a2,l=a2++((aX y (aX x (m+2)).2).1++(⟨11,0⟩::b2)):=by
          intro hW m l a b hl hu d S hd;obtain⟨C,e1,e2⟩:=code m b;rw[e1]at hl⊢;obtain⟨hv,oO⟩:=r1 hW (m+2) l a _ hl hu d S hd;by_cases ho:e.Op=1
          ·rw[if_pos ho]at e2;have LU:v=0:=by
            grind
           subst e2;refine⟨⟨38,m+1⟩::b,oO.trans (cH.Fh (a:=a++((aX x (m+2)).1++ [⟨25,m⟩,⟨1,1⟩,⟨24,m+1⟩])) (by grind) hu (by omega)),λu=> .label,λu S=> .label,a++((aX x (m+2)).1++ [⟨25,m⟩,⟨1,1⟩,⟨24,m+1⟩,⟨38,m⟩]),by grind⟩
          ·rw[if_neg ho]at e2;have LU:v≠0:=by
            grind
           subst e2;refine⟨⟨24,m+1⟩::⟨38,m⟩::⟨1,0⟩::⟨38,m+1⟩::b,oO.trans (cH.Fi (by omega)),?_,?_,a++((aX x (m+2)).1++ [⟨25,m⟩]),by grind⟩
           ·intro u;exact cH.jump (a:=a++((aX x (m+2)).1++(⟨25,m⟩::((aX y (aX x (m+2)).2).1++ [⟨11,0⟩,⟨24,m+1⟩,⟨38,m⟩,⟨1,0⟩])))) (b:=b) (by grind) hu
           ·intro u S;exact cH.jump (a:=a++((aX x (m+2)).1++(⟨25,m⟩::((aX y (aX x (m+2)).2).1++ [⟨11,0⟩,⟨24,m+1⟩,⟨38,m⟩,⟨1,0⟩])))) (b:=b) (by grind) hu
         have ny:WL σ.Ls->WL aR.Ls:=λhW=>by grind
         cases o2 with
         | bN u=>
           simp only[anc,aoI]at h;obtain⟨rfl,rfl⟩:=h;refine⟨d2.trans d1,l2.trans l1,λhW m l a b hl hu d S hd=>?_⟩;obtain⟨b2,g1,_,g2,a2,lW⟩:=to2 hW m l a b hl hu d S hd;obtain⟨nG,g3⟩:=r2 (ny hW) _ l a2 _ lW hu d S (d1.trans hd);exact⟨mZ _,g1.trans (g3.trans (cH.test.trans (g2 _ _)))⟩
         | bG u=>
           simp only[anc,aoI]at h;obtain⟨rfl,rfl⟩:=h;refine⟨d2.trans d1,l2.trans l1,λhW m l a b hl hu d S hd=>?_⟩;obtain⟨b2,g1,_,g2,a2,lW⟩:=to2 hW m l a b hl hu d S hd;exact g1.stop (r2 (ny hW) _ l a2 _ lW hu d S (d1.trans hd))
         | over=>
           simp only[anc,aoI]at h;obtain⟨rfl,rfl⟩:=h;refine⟨d2.trans d1,l2.trans l1,λhW m l a b hl hu d S hd=>?_⟩;obtain⟨b2,g1,_,g2,a2,lW⟩:=to2 hW m l a b hl hu d S hd;exact g1.stop (r2 (ny hW) _ l a2 _ lW hu d S (d1.trans hd))
         | ret u=>
           simp only[anc,aoI]at h;obtain⟨rfl,rfl⟩:=h;refine⟨d2.trans d1,l2.trans l1,λhW m l a b hl hu d S hd=>?_⟩;obtain⟨b2,g1,_,g2,a2,lW⟩:=to2 hW m l a b hl hu d S hd;exact(r2 (ny hW) _ l a2 _ lW hu d S (d1.trans hd)).elim
 ·rw[if_neg Hs]at h;by_cases hs:zu e.aF
  ·rw[if_neg (by omega)]at h;cases ha:dO c g σ e.aF with
   | none=>grind
   | some p=>
     obtain⟨aR,o1⟩:=p;rw[ha]at h;rw[mQ,aoM]at hb;obtain⟨pS,Ck⟩:=hb;rw[ph,aoP]at Ck;obtain⟨d1,l1,n1,r1⟩:=ih.asks σ e.aF aR o1 ha loc Ck;have ny:WL σ.Ls->WL aR.Ls:=λhW=>by grind
     have code:∀(m:Int) (b:List ai),(aX e m).1++b=(aZ e.aF m).1++(dD e::b):=by
      intro m b;rw[tV e m Hs];simp
     rcases o1 with v|o1
     ·simp only at h;have hlen:=n1 v rfl;by_cases um:e.Kind=18
      ·rw[if_pos um]at h;split at h
       ·rename_i cq;obtain⟨⟨ck,o2⟩,pK,h2⟩:=aoJ.1 h;obtain⟨d2,l2,r2⟩:=ih.call aR _ v ck o2 pK;have El:σ'=ck:=by
         have:=congrArg Prod.fst h2;unfold mL at this;grind
        have Z5:o=(mL (ck,o2)).2:=(congrArg Prod.snd h2).symm;subst El;refine⟨d2.trans d1,l2.trans l1,λhW m l a b hl hu d S hd=>?_⟩;rw[code]at hl⊢;obtain⟨LV,g1⟩:=r1 hW m l a _ hl hu d S hd;obtain⟨q1,q2⟩:=r2 d (d1.trans hd);have eZ:dD e=⟨26,e.aL⟩:=by simp[dD,um]
        have Tw:(bS c).fn e.aL=aA c.B.Tables.cY e.aL:=if_pos cq;have oh:(bS c).pa ((bS c).fn e.aL)=v.length:=by
         rw[Tw];rcases lj pS with⟨hk,_⟩|⟨hk,_⟩|⟨hk,_⟩|⟨_,hp⟩
         ·omega
         ·omega
         ·omega
         ·have bR:mu c.B.Tables e.aL≠ -1:=by omega
          unfold mu at hp bR;split at hp
          ·rename_i Oh;show(aA c.B.Tables.Params (aA c.B.Tables.cY e.aL)).toNat=v.length;grind[aA]
          omega
        rw[eZ]at hl g1⊢;refine vZ.pre g1 ?_;by_cases fM:32<=d
        ·obtain⟨ho,hm⟩:=q1 fM;subst ho;subst Z5;show dJ c d l (⟨26,e.aL⟩::b) (v.reverse++S) aR.Ls (bZ aR) (.bG 17 (bZ σ'));rw[hm];have yT:0<=(bS c).fn e.aL:=by
          rw[Tw];rcases lj pS with⟨hk,_⟩|⟨hk,_⟩|⟨hk,_⟩|⟨_,hp⟩
          ·omega
          ·omega
          ·omega
          ·have bR:mu c.B.Tables e.aL≠ -1:=by omega
           unfold mu at bR;split at bR
           ·rename_i Oh;rw[aoM]at Oh;grind[eF,aA]
           omega
         exact⟨1,1,by rw[run,DP rfl,if_pos fM];grind⟩
        ·have hq:=q2 (by omega);have sH:nx (bS c) d l ⟨26,e.aL⟩ b (v.reverse++S) aR.Ls (bZ aR)= .call (aA c.B.Tables.cY e.aL) v S:=by
          rw[DP rfl,if_neg fM];grind
         cases o2 with
         | bN n=>
           subst Z5;refine⟨wrap_wrap _,?_⟩;intro g' o' k' hr;obtain⟨gc,kc,hc⟩:=hq;refine⟨gc+g'+1,k'+kc+1,?_⟩;rw[l2]at hr;rw[run,sH];simp only[Bz gc (gc+g') _ _ _ _ _ _ _ (by omega) hc];rw[Bz g' (gc+g') _ _ _ _ _ _ _ (by omega) hr];rfl
         | bG x=>
           subst Z5;obtain⟨gc,kc,hc⟩:=hq;exact⟨gc+1,kc+1,by grind[run]⟩
         | over=>
           subst Z5;obtain⟨gc,kc,hc⟩:=hq;exact⟨gc+1,kc+1,by grind[run]⟩
         | ret x=>grind
       grind
      ·rw[if_neg um]at h;obtain⟨⟨ck,o2⟩,JC,h2⟩:=aoJ.1 h;have El:σ'=ck:=by
        have:=congrArg Prod.fst h2;grind[mL]
       have Z5:o=(mL (ck,o2)).2:=(congrArg Prod.snd h2).symm;subst El;have KX:=λd l b S=>aeI JC pS um hlen d l b S
       have mb:σ'.Ls=aR.Ls:=by
        grind[Kb,Option.some.injEq,Prod.mk.injEq,Option.map_eq_some_iff]
       refine⟨(KX 0 [] [] []).2.trans d1,mb.trans l1,λhW m l a b hl hu d S hd=>?_⟩;rw[code]at hl⊢;obtain⟨LV,g1⟩:=r1 hW m l a _ hl hu d S hd;grind[vZ.pre]
     ·simp only[anc,aoI]at h;obtain⟨rfl,rfl⟩:=h;refine⟨d1,l1,λhW m l a b hl hu d S hd=>?_⟩;rw[code]at hl⊢;exact(r1 hW m l a _ hl hu d S hd).toE
  grind
theorem Z6{c:XC}{g:Nat}(ih:ue c g):∀σ es σ' o,dO c (g+1) σ es=some (σ',o)→∀loc,(∀e∈es,cT c.B.Tables loc e false=true)→σ'.Dp=σ.Dp∧σ'.Ls=σ.Ls∧(∀a,o= .inl a→a.length=es.length)∧(WL σ.Ls→∀(m:Int) (l a b:List ai),l=a++((aZ es m).1++b)→(bP l).Nodup→∀(d:Nat) (S:List Int),σ.Dp=d→
  Hq c d l ((aZ es m).1++b) S σ.Ls (bZ σ) b S σ' o):=by
 intro σ es σ' o h loc hb;cases es with
 | nil=>
   rw[dO]at h;simp only[anc,aoI]at h;obtain⟨rfl,rfl⟩:=h;refine⟨rfl,rfl,λa ha=>(by cases ha;rfl),λhW m l a b hl hu d S hd=>⟨λn hn=>(by cases hn),?_⟩⟩;rw[aZ];exact cH.refl _ _ _ _ _ _ _
 | cons e es=>
   rw[dO]at h;cases he:dR c g σ e with
   | none=>rw[he]at h;cases h
   | some p=>
     obtain⟨aR,o1⟩:=p;rw[he]at h;obtain⟨d1,l1,r1⟩:=ih.ask σ e aR o1 he loc (hb e (by simp));have ny:WL σ.Ls->WL aR.Ls:=λhW=>by rw[l1];exact hW
     have code:∀(m:Int) (b:List ai),(aZ (e::es) m).1++b=(aX e m).1++((aZ es (aX e m).2).1++b):=by
      intro m b;rw[aZ];simp
     have bad:∀o2,(∀n,o1≠ .bN n)->o2=Sum.inr o1->∀(m:Int) (l a b:List ai),WL σ.Ls->l=a++((aZ (e::es) m).1++b)->(bP l).Nodup->∀(d:Nat) (S:List Int),σ.Dp=d->Hq c d l ((aZ (e::es) m).1++b) S σ.Ls (bZ σ) b S aR o2:=by
      intro o2 hn ho m l a b hW hl hu d S hd;rw[code]at hl⊢;have:=r1 hW m l a _ hl hu d S hd;subst ho;cases o1 with
      | bN n=>exact(hn n rfl).elim
      | bG x=>exact this
      | over=>exact this
      | ret n=>exact this.elim
     cases o1 with
     | bN n=>
       simp only at h;cases En:dO c g aR es with
       | none=>rw[En]at h;cases h
       | some q=>
         obtain⟨ck,o2⟩:=q;rw[En]at h;obtain⟨d2,l2,n2,r2⟩:=ih.asks aR es ck o2 En loc (λx hx=>hb x (by simp[hx]));rcases o2 with v|o2
         ·simp only[anc,aoI]at h;obtain⟨rfl,rfl⟩:=h;refine⟨d2.trans d1,l2.trans l1,λa ha=>?_,λhW m l a b hl hu d S hd=>?_⟩
          ·cases ha;have:=n2 v rfl;simp[this]
          ·rw[code]at hl⊢;obtain⟨hn,g1⟩:=r1 hW m l a _ hl hu d S hd;obtain⟨hv,g2⟩:=r2 (ny hW) (aX e m).2 l (a++(aX e m).1) b (by rw[hl];simp) hu d (n::S) (d1.trans hd);refine⟨λx hx=>?_,g1.trans ?_⟩
           ·rcases ao0.1 hx with rfl|hx
            ·exact hn
            ·exact hv x hx
           ·have e1:(n::v).reverse++S=v.reverse++(n::S):=by simp
            rw[e1];exact g2
         ·simp only[anc,aoI]at h;obtain⟨rfl,rfl⟩:=h;refine⟨d2.trans d1,l2.trans l1,λa ha=>(by cases ha),λhW m l a b hl hu d S hd=>?_⟩;rw[code]at hl⊢;obtain⟨hn,g1⟩:=r1 hW m l a _ hl hu d S hd;have h2:=r2 (ny hW) (aX e m).2 l (a++(aX e m).1) b (by rw[hl];simp) hu d (n::S) (d1.trans hd);cases o2 with
          | bN n=>exact h2
          | bG x=>exact g1.stop h2
          | over=>exact g1.stop h2
          | ret n=>exact h2
     | bG x=>
       simp only[anc,aoI]at h;obtain⟨rfl,rfl⟩:=h;exact⟨d1,l1,λa ha=>(by cases ha),λhW m l a b hl hu d S hd=>bad _ (λn hn=>by cases hn) rfl m l a b hW hl hu d S hd⟩
     | over=>
       simp only[anc,aoI]at h;obtain⟨rfl,rfl⟩:=h;exact⟨d1,l1,λa ha=>(by cases ha),λhW m l a b hl hu d S hd=>bad _ (λn hn=>by cases hn) rfl m l a b hW hl hu d S hd⟩
     | ret x=>
       simp only[anc,aoI]at h;obtain⟨rfl,rfl⟩:=h;exact⟨d1,l1,λa ha=>(by cases ha),λhW m l a b hl hu d S hd=>bad _ (λn hn=>by cases hn) rfl m l a b hW hl hu d S hd⟩
theorem aci(l:List ai)(k:Int):(bP l).count k=yC l k:=by
 unfold bP yC;rw[List.count_eq_countP,List.countP_map,List.countP_filter];congr 1;funext i;simp only[Function.comp,cR,Bool.and_eq_decide,decide_eq_true_eq,beq_iff_eq];rw[aqk];simp[and_comm]
theorem Wy(l:List an)(x:List ai)(hx:kz x):(bP ((bh l 0).1++x)).Nodup:=by
 rw[aqM];intro k;rw[nZ,F3 hx,apk,aci];have:=(abT _ l (ao2 _) 0).st k;by_cases hk:0<=k/\k<(bh l 0).2
 ·rw[this.1 hk];omega
 ·rw[this.2 hk];omega
theorem Gi(b:bW)(r:Int):(bP (cJ b r)).Nodup:=by
 unfold cJ;split
 ·exact Wy _ _ (cD (by show(1:Int)≠38;omega) (cD (by show(27:Int)≠38;omega) dq))
 ·simp[bP]
theorem Z7{c:XC}{g:Nat}(hB:jI c.B)(ih:ue c g):∀σ r a σ' o,jh c (g+1) σ r a=some (σ',o)→σ'.Dp=σ.Dp∧σ'.Ls=σ.Ls∧∀(d:Nat),σ.Dp=d→(32≤d→o= .bG 17∧bZ σ'=bZ σ)∧(d < 32→match o with
  | .bN n=>dJ c (d+1) (cJ c.B r) (cJ c.B r) [] ((bS c).lo r a) (bZ σ) (.ret n (bZ σ'))
  | .bG x=>dJ c (d+1) (cJ c.B r) (cJ c.B r) [] ((bS c).lo r a) (bZ σ) (.bG x (bZ σ'))
  | .over=>dJ c (d+1) (cJ c.B r) (cJ c.B r) [] ((bS c).lo r a) (bZ σ) (.over (bZ σ'))
  | .ret _=>False):=by
 intro σ r a σ' o h;rw[jh]at h;by_cases h0:σ.Dp<0
 ·rw[if_pos h0]at h;cases h
 rw[if_neg h0]at h;by_cases fM:32<=σ.Dp
 ·rw[if_pos fM]at h;simp only[anc,aoI]at h;obtain⟨rfl,rfl⟩:=h;exact⟨rfl,rfl,λd hd=>⟨λ_=>⟨rfl,rfl⟩,λaw=>by omega⟩⟩
 rw[if_neg fM]at h;split at h
 ·rename_i hc;obtain⟨hl,hr,nu,_,hsm⟩:=hc;cases gT:dX c g {σ with Dp:=σ.Dp+1,Ls:=a.map aq++List.replicate ((aA c.B.Tables.aM r).toNat-a.length) 0} (c.B.aK[r.toNat]?.getD [])with
  | none=>rw[gT]at h;cases h
  | some p=>
    obtain⟨aR,o1⟩:=p;rw[gT]at h;simp only[anc,aoI]at h;obtain⟨rfl,ho⟩:=h;have iE:=hB.bnd r hr;unfold iq at iE;rw[aoM,nk,aoP]at iE;obtain⟨d1,r1⟩:=ih.block _ _ aR o1 gT _ iE.1;have hWL:WL (a.map aq++List.replicate ((aA c.B.Tables.aM r).toNat-a.length) 0):=by
     intro n hn;rcases ao1.1 hn with hn|hn
     ·obtain⟨x,_,rfl⟩:=aoQ.1 hn;exact wrap_wrap x
     ·obtain⟨_,rfl⟩:=List.mem_replicate.1 hn;exact Ep
    obtain⟨_,r2⟩:=r1 hWL;have E3:cJ c.B r=[]++((bh (c.B.aK[r.toNat]?.getD []) 0).1++ [⟨1,0⟩,⟨27,0⟩]):=by
     unfold cJ;rw[if_pos hr];rfl
    have d1':aR.Dp=σ.Dp+1:=d1;refine⟨by show aR.Dp-1=σ.Dp;omega,rfl,λd hd=>⟨λbm=>by omega,λaw=>?_⟩⟩;have r3:=r2 0 (cJ c.B r) [] [⟨1,0⟩,⟨27,0⟩] E3 (Gi c.B r) (d+1) [] (by show σ.Dp+1=((d+1:Nat):Int);omega);have e0:cJ c.B r=(bh (c.B.aK[r.toNat]?.getD []) 0).1++ [⟨1,0⟩,⟨27,0⟩]:=by rw[E3];rfl
    have e1:∀o,dJ c (d+1) (cJ c.B r) ((bh (c.B.aK[r.toNat]?.getD []) 0).1++ [⟨1,0⟩,⟨27,0⟩]) [] ((bS c).lo r a) (bZ σ) o->dJ c (d+1) (cJ c.B r) (cJ c.B r) [] ((bS c).lo r a) (bZ σ) o:=by
     intro o ho;rw[<-e0]at ho;exact ho
    subst ho;cases o1 with
    | bN n=>
      refine e1 _ (cH.stop r3 ?_);have:=(cH.push (c:=c) (d:=d+1) (l:=cJ c.B r) (r:=[⟨27,0⟩]) (n:=0) (S:=[]) (L:=aR.Ls) (σ:=bZ aR)).stop dJ.ret;rw[Ep]at this;exact this
    | bG x=>exact e1 _ r3
    | over=>exact e1 _ r3
    | ret n=>exact e1 _ r3
 ·cases h
theorem Wz{c:XC}{g:Nat}(ih:ue c g):∀σ ls σ' o,dX c (g+1) σ ls=some (σ',o)→∀loc,(∀s∈ls,eO c.B.Tables loc s=true)→σ'.Dp=σ.Dp∧(WL σ.Ls→WL σ'.Ls∧∀(m:Int) (l a b:List ai),l=a++((bh ls m).1++b)→(bP l).Nodup→∀(d:Nat) (S:List Int),σ.Dp=d→
  eu c d l ((bh ls m).1++b) S σ.Ls (bZ σ) b S σ' o):=by
 intro σ ls σ' o h loc hb;cases ls with
 | nil=>
   rw[dX]at h;simp only[anc,aoI]at h;obtain⟨rfl,rfl⟩:=h;refine⟨rfl,λhW=>⟨hW,λm l a b hl hu d S hd=>?_⟩⟩;rw[bh];exact cH.refl _ _ _ _ _ _ _
 | cons x ls=>
   rw[dX]at h;cases he:jx c g σ x with
   | none=>rw[he]at h;cases h
   | some p=>
     obtain⟨aR,o1⟩:=p;rw[he]at h;obtain⟨d1,r1⟩:=ih.stmt σ x aR o1 he loc (hb x (by simp));have code:∀(m:Int) (b:List ai),(bh (x::ls) m).1++b=(dx x m).1++((bh ls (dx x m).2).1++b):=by
      intro m b;rw[bh];simp
     have bad:(∀n,o1≠ .bN n)->∀(m:Int) (l a b:List ai),WL σ.Ls->l=a++((bh (x::ls) m).1++b)->(bP l).Nodup->∀(d:Nat) (S:List Int),σ.Dp=d->eu c d l ((bh (x::ls) m).1++b) S σ.Ls (bZ σ) b S aR o1:=by
      intro hn m l a b hW hl hu d S hd;rw[code]at hl⊢;have:=(r1 hW).2 m l a _ hl hu d S hd;cases o1 with
      | bN n=>exact(hn n rfl).elim
      | bG x=>exact this
      | over=>exact this
      | ret n=>exact this
     cases o1 with
     | bN n=>
       simp only at h;obtain⟨d2,r2⟩:=ih.block aR ls σ' o h loc (λs hs=>hb s (by simp[hs]));refine⟨d2.trans d1,λhW=>⟨(r2 (r1 hW).1).1,λm l a b hl hu d S hd=>?_⟩⟩;rw[code]at hl⊢;have g1:=(r1 hW).2 m l a _ hl hu d S hd;have g2:=(r2 (r1 hW).1).2 (dx x m).2 l (a++(dx x m).1) b (by rw[hl];simp) hu d S (d1.trans hd);exact eu.pre g1 g2
     | bG v=>
       simp only[anc,aoI]at h;obtain⟨rfl,rfl⟩:=h;exact⟨d1,λhW=>⟨(r1 hW).1,λm l a b hl hu d S hd=>bad (λn hn=>by cases hn) m l a b hW hl hu d S hd⟩⟩
     | over=>
       simp only[anc,aoI]at h;obtain⟨rfl,rfl⟩:=h;exact⟨d1,λhW=>⟨(r1 hW).1,λm l a b hl hu d S hd=>bad (λn hn=>by cases hn) m l a b hW hl hu d S hd⟩⟩
     | ret v=>
       simp only[anc,aoI]at h;obtain⟨rfl,rfl⟩:=h;exact⟨d1,λhW=>⟨(r1 hW).1,λm l a b hl hu d S hd=>bad (λn hn=>by cases hn) m l a b hW hl hu d S hd⟩⟩
theorem Gj{t:ar}{loc:Int}{e:ay}(h:cT t loc e true=true)(nt:e.Kind≠19)(gK:e.Kind≠13):cT t loc e false=true:=by
 rw[mQ]at h⊢;have:im t e loc true=im t e loc false:=by
  unfold im;rw[if_neg nt,if_neg gK,if_neg nt,if_neg gK]
 rw[<-this];exact h
theorem TF{t:ar}{loc:Int}{e:ay}(h:cT t loc e true=true)(gK:e.Kind=13):∃x,e.aF=[x]/\cT t loc x false=true:=by
 rw[mQ,aoM]at h;obtain⟨h1,h2⟩:=h;unfold im at h1;rw[if_neg (by omega),if_neg (by omega),if_neg (by omega),if_neg (by omega),if_neg (by omega),if_pos gK]at h1;simp only[apy]at h1;have:=lh h1;obtain⟨x,hx⟩:=Em (show e.aF.length=1 by omega);refine⟨x,hx,?_⟩;rw[hx]at h2;rw[ph]at h2;simpa using h2
theorem LW(x:ay)(m:Int):aZ [x] m=(aX x m):=by rw[aZ,aZ];simp
theorem af5:Go.Ab.flat 21:=by unfold Go.Ab.flat;omega
theorem af6:Go.Ab.flat 22:=by unfold Go.Ab.flat;omega
theorem af7:Go.Ab.flat 23:=by unfold Go.Ab.flat;omega
theorem acj{c:XC}{g:Nat}(ih:ue c g):∀σ e σ' o,kF c (g+1) σ e=some (σ',o)→∀loc,cT c.B.Tables loc e true=true→σ'.Dp=σ.Dp∧σ'.Ls=σ.Ls∧(WL σ.Ls→∀(m:Int) (l a b:List ai),l=a++((hU e m).1++b)→(bP l).Nodup→∀(d:Nat) (S:List Int),σ.Dp=d→
  eu c d l ((hU e m).1++b) S σ.Ls (bZ σ) b S σ' o):=by
 intro σ e σ' o h loc hb;rw[kF]at h;by_cases nt:e.Kind=19
 ·rw[if_pos nt]at h;have code:∀(m:Int) (b:List ai),(hU e m).1++b=⟨21,e.aL⟩::b:=by intro m b;rw[hU,if_pos nt];rfl
  have hr:=λd l b S=>Fm (c:=c) h (i:=⟨21,e.aL⟩) af5 (S:=S) (S0:=S) (by simp[instJ]) d l b
  refine⟨(hr 0 [] [] []).2.1,(hr 0 [] [] []).1,λhW m l a b hl hu d S hd=>?_⟩;rw[code];exact(hr d l b S).2.2.2
 rw [if_neg nt]at h;have fin:∀(x:ay) (op:Int) (s:Int→ByteArray),Go.Ab.flat op→(∀n S L σ,instJ c ⟨op,0⟩ (n::S) L σ=yP S L σ (s n))→cT c.B.Tables loc x false=true→(∀(m:Int) (b:List ai),(hU e m).1++b=(aX x m).1++(⟨op,0⟩::b))→
   (match dR c g σ x with|some (aR,.bN n)=>zX aR (s n)|r=>r)=some (σ',o)->σ'.Dp=σ.Dp/\σ'.Ls=σ.Ls/\(WL σ.Ls->∀(m:Int) (l a b:List ai),l=a++((hU e m).1++b)->(bP l).Nodup->∀(d:Nat) (S:List Int),σ.Dp=d->
  eu c d l ((hU e m).1++b) S σ.Ls (bZ σ) b S σ' o):=by
  intro x op s hf hJ gT code h;cases he:dR c g σ x with
  | none=>rw[he]at h;cases h
  | some p=>
    obtain⟨aR,o1⟩:=p;rw[he]at h;obtain⟨d1,l1,r1⟩:=ih.ask σ x aR o1 he loc gT;cases o1 with
    | bN n=>
      simp only at h;have hr:=λd l b S=>Fm (c:=c) h (i:=⟨op,0⟩) hf (S:=n::S) (S0:=S) (hJ n S _ _) d l b
      refine⟨(hr 0 [] [] []).2.1.trans d1,(hr 0 [] [] []).1.trans l1,λhW m l a b hl hu d S hd=>?_⟩;rw[code]at hl⊢;obtain⟨_,g1⟩:=r1 hW m l a _ hl hu d S hd;exact eu.pre g1 (hr d l b S).2.2.2
    | bG v=>
      simp only[anc,aoI]at h;obtain⟨rfl,rfl⟩:=h;refine⟨d1,l1,λhW m l a b hl hu d S hd=>?_⟩;rw[code]at hl⊢;exact r1 hW m l a _ hl hu d S hd
    | over=>
      simp only[anc,aoI]at h;obtain⟨rfl,rfl⟩:=h;refine⟨d1,l1,λhW m l a b hl hu d S hd=>?_⟩;rw[code]at hl⊢;exact r1 hW m l a _ hl hu d S hd
    | ret v=>
      simp only[anc,aoI]at h;obtain⟨rfl,rfl⟩:=h;refine⟨d1,l1,λhW m l a b hl hu d S hd=>?_⟩;rw[code]at hl;exact(r1 hW m l a _ hl hu d S hd).elim
 by_cases gK:e.Kind=13
 ·rw[if_pos gK]at h;obtain⟨x,hx,gT⟩:=TF hb gK;rw[hx]at h;exact fin x 23 _ af7 (λn S L σ=>by simp[instJ,dI]) gT (λm b=>by rw[hU,if_neg nt,if_pos gK,hx,LW];simp) h
 ·rw[if_neg gK]at h;exact fin e 22 _ af6 (λn S L σ=>by simp[instJ,dI]) (Gj hb nt gK) (λm b=>by rw[hU,if_neg nt,if_neg gK];simp) h
theorem Z8{c:XC}{g:Nat}(ih:ue c g):∀σ es σ' o,jy c (g+1) σ es=some (σ',o)→∀loc,(∀e∈es,cT c.B.Tables loc e true=true)→σ'.Dp=σ.Dp∧σ'.Ls=σ.Ls∧(WL σ.Ls→∀(m:Int) (l a b:List ai),l=a++((de es m).1++b)→(bP l).Nodup→∀(d:Nat) (S:List Int),σ.Dp=d→
  eu c d l ((de es m).1++b) S σ.Ls (bZ σ) b S σ' o):=by
 intro σ ls σ' o h loc hb;cases ls with
 | nil=>
   rw[jy]at h;simp only[anc,aoI]at h;obtain⟨rfl,rfl⟩:=h;refine⟨rfl,rfl,λhW m l a b hl hu d S hd=>?_⟩;rw[de];exact cH.refl _ _ _ _ _ _ _
 | cons x ls=>
   rw[jy]at h;cases he:kF c g σ x with
   | none=>rw[he]at h;cases h
   | some p=>
     obtain⟨aR,o1⟩:=p;rw[he]at h;obtain⟨d1,l1,r1⟩:=ih.say σ x aR o1 he loc (hb x (by simp));have code:∀(m:Int) (b:List ai),(de (x::ls) m).1++b=(hU x m).1++((de ls (hU x m).2).1++b):=by
      intro m b;rw[de];simp
     have ny:WL σ.Ls->WL aR.Ls:=λhW=>by rw[l1];exact hW
     have bad:(∀n,o1≠ .bN n)->∀(m:Int) (l a b:List ai),WL σ.Ls->l=a++((de (x::ls) m).1++b)->(bP l).Nodup->∀(d:Nat) (S:List Int),σ.Dp=d->eu c d l ((de (x::ls) m).1++b) S σ.Ls (bZ σ) b S aR o1:=by
      intro hn m l a b hW hl hu d S hd;rw[code]at hl⊢;have:=r1 hW m l a _ hl hu d S hd;cases o1 with
      | bN n=>exact(hn n rfl).elim
      | bG x=>exact this
      | over=>exact this
      | ret n=>exact this
     cases o1 with
     | bN n=>
       simp only at h;obtain⟨d2,l2,r2⟩:=ih.Kq aR ls σ' o h loc (λs hs=>hb s (by simp[hs]));refine⟨d2.trans d1,l2.trans l1,λhW m l a b hl hu d S hd=>?_⟩;rw[code]at hl⊢;have g1:=r1 hW m l a _ hl hu d S hd;have g2:=r2 (ny hW) (hU x m).2 l (a++(hU x m).1) b (by rw[hl];simp) hu d S (d1.trans hd);exact eu.pre g1 g2
     | bG v=>
       simp only[anc,aoI]at h;obtain⟨rfl,rfl⟩:=h;exact⟨d1,l1,λhW m l a b hl hu d S hd=>bad (λn hn=>by cases hn) m l a b hW hl hu d S hd⟩
     | over=>
       simp only[anc,aoI]at h;obtain⟨rfl,rfl⟩:=h;exact⟨d1,l1,λhW m l a b hl hu d S hd=>bad (λn hn=>by cases hn) m l a b hW hl hu d S hd⟩
     | ret v=>
       simp only[anc,aoI]at h;obtain⟨rfl,rfl⟩:=h;exact⟨d1,l1,λhW m l a b hl hu d S hd=>bad (λn hn=>by cases hn) m l a b hW hl hu d S hd⟩
theorem qY{t:ar}{loc:Int}{x:an}(h:eO t loc x=true):(jH x).1=true/\oT t x loc=true/\(∀e∈x.aF,cT t loc e (decide (x.Kind=1))=true)/\(∀s∈x.Body,eO t loc s=true)/\(∀s∈x.bX,eO t loc s=true)/\(x.Kind≠19\/Fg x=true):=by
 rw[zD]at h;simp only[aoM,Bool.or_eq_true,decide_eq_true_eq,aoP,iq,nk]at h;exact⟨h.1.1.1.1.1,h.1.1.1.1.2,h.1.1.2,h.1.2.1,h.2.1,h.1.1.1.2⟩
theorem Z9{c:XC}{g:Nat}(ih:ue c g):∀σ x σ' o,jx c (g+1) σ x=some (σ',o)→∀loc,eO c.B.Tables loc x=true→σ'.Dp=σ.Dp∧(WL σ.Ls→WL σ'.Ls∧∀(m:Int) (l a b:List ai),l=a++((dx x m).1++b)→(bP l).Nodup→∀(d:Nat) (S:List Int),σ.Dp=d→
  eu c d l ((dx x m).1++b) S σ.Ls (bZ σ) b S σ' o):=by
 intro σ x σ' o h loc hb;rw[jx]at h;obtain⟨yX,yE,LX,kq,rk,_⟩:=qY hb;by_cases ew:x.Kind=10
 ·rw[if_pos ew]at h;split at h
  ·exact ih.Kr σ x σ' o h ew loc hb
  ·cases h
 rw[if_neg ew]at h;cases hc:tL c σ with
 | none=>rw[hc]at h;cases h
 | some p=>
   obtain⟨aR,o1⟩:=p;rw[hc]at h;have ht:=λd l b S=>Hr hc d l b S
   obtain⟨l1,d1,w1,_⟩:=ht 0 [] [] [];have ny:WL σ.Ls->WL aR.Ls:=λhW=>by rw[l1];exact hW
   cases o1 with
   | bN n=>
     simp only at h;have tk:∀d l b S,cH c d l (tick::b) S σ.Ls (bZ σ) b S aR.Ls (bZ aR):=by
      intro d l b S;obtain⟨_,_,_,h1⟩:=ht d l b S;rcases h1 with⟨_,_,h1⟩|⟨h1,_⟩
      ·exact h1
      ·cases h1
     split at h
     ·cases h
     ·by_cases h1:x.Kind=1
      ·rw[if_pos h1]at h;obtain⟨d2,l2,r2⟩:=ih.Kq aR x.aF σ' o h loc (λe he=>by have:=LX e he;rw[h1]at this;exact this);have code:∀(m:Int) (b:List ai),(dx x m).1++b=tick::((de x.aF m).1++b):=by intro m b;rw[yz x m h1];rfl
       refine⟨d2.trans d1,λhW=>⟨by rw[l2];exact ny hW,λm l a b hl hu d S hd=>?_⟩⟩;rw[code]at hl⊢;exact eu.pre (tk d l _ S) (r2 (ny hW) m l (a++ [tick]) b (by rw[hl];simp) hu d S (d1.trans hd))
      ·rw[if_neg h1]at h;have code:∀(m:Int) (b:List ai),(dx x m).1++b=tick::((aZ x.aF (mS x m)).1++(kA x m++b)):=by intro m b;rw[LS x m h1 ew];simp
       have WA:∀e∈x.aF,cT c.B.Tables loc e false=true:=λe he=>by have:=LX e he;rw[decide_eq_false h1]at this;exact this
       cases ha:dO c g aR x.aF with
       | none=>rw[ha]at h;cases h
       | some q=>
         obtain⟨ck,o2⟩:=q;rw[ha]at h;obtain⟨d2,l2,n2,r2⟩:=ih.asks aR x.aF ck o2 ha loc WA;have rm:WL σ.Ls->WL ck.Ls:=λhW=>by rw[l2];exact ny hW
         rcases o2 with v|o2
         ·simp only at h;have hlen:=n2 v rfl;have LV:=Eo ha;obtain⟨d3,r3⟩:=ih.Ws ck x v σ' o h h1 ew hlen loc hb;refine⟨(d3.trans d2).trans d1,λhW=>⟨(r3 (rm hW) LV).1,λm l a b hl hu d S hd=>?_⟩⟩;rw[code]at hl⊢;obtain⟨_,g2⟩:=r2 (ny hW) (mS x m) l (a++ [tick]) (kA x m++b) (by rw[hl];simp) hu d S (d1.trans hd);exact eu.pre (tk d l _ S) (eu.pre g2 ((r3 (rm hW) LV).2 m l (a++ [tick]++(aZ x.aF (mS x m)).1) b (by rw[hl];simp) hu d S ((d2.trans d1).trans hd)))
         ·simp only[anc,aoI]at h;obtain⟨rfl,rfl⟩:=h;refine⟨d2.trans d1,λhW=>⟨rm hW,λm l a b hl hu d S hd=>?_⟩⟩;rw[code]at hl⊢;exact eu.pre (tk d l _ S) (r2 (ny hW) (mS x m) l (a++ [tick]) _ (by rw[hl];simp) hu d S (d1.trans hd)).toS
   | bG v=>
     simp only[anc,aoI]at h;obtain⟨rfl,rfl⟩:=h;refine⟨d1,λhW=>⟨ny hW,λm l a b hl hu d S hd=>?_⟩⟩;have code:∃C,(dx x m).1++b=tick::C:=by
      by_cases h1:x.Kind=1
      ·exact⟨_,by rw[yz x m h1];rfl⟩
      ·exact⟨_,by rw[LS x m h1 ew];rfl⟩
     obtain⟨C,hC⟩:=code;rw[hC];obtain⟨_,_,_,h1⟩:=ht d l C S;rcases h1 with⟨_,h1,_⟩|⟨h1,h2⟩
     ·cases h1
     ·cases h1;exact h2
   | over=>obtain⟨_,_,_,h1⟩:=ht 0 [] [] [];rcases h1 with⟨_,h1,_⟩|⟨h1,_⟩<;>cases h1
   | ret v=>obtain⟨_,_,_,h1⟩:=ht 0 [] [] [];rcases h1 with⟨_,h1,_⟩|⟨h1,_⟩<;>cases h1
theorem oI{s:an}{named body other:Bool}{n:Int}(h:rz s named n body other=true):(s.aF.length:Int)=n:=by
 unfold rz at h;simp only[aoM,decide_eq_true_eq]at h;exact h.1.1.1
theorem yG{s:an}(h:(jH s).1=true):s.Kind=1\/((s.Kind=2\/s.Kind=3\/s.Kind=5\/s.Kind=6\/s.Kind=17\/s.Kind=23\/s.Kind=8\/s.Kind=12\/s.Kind=16\/s.Kind=20\/s.Kind=22\/s.Kind=19\/s.Kind=9\/s.Kind=10\/s.Kind=11)/\s.aF.length=1)\/((s.Kind=4\/s.Kind=7)/\s.aF.length=2)\/((s.Kind=18\/s.Kind=13\/s.Kind=14\/s.Kind=15\/s.Kind=21)/\s.aF.length=0):=by
 unfold jH at h;by_cases k1:s.Kind=1
 ·exact Or.inl k1
 rw[if_neg k1]at h;by_cases k2:s.Kind=2\/s.Kind=3\/s.Kind=5\/s.Kind=6\/s.Kind=17\/s.Kind=23
 ·rw[if_pos k2]at h;have:=oI h;omega
 rw[if_neg k2]at h;by_cases k3:s.Kind=4
 ·rw[if_pos k3]at h;have:=oI h;omega
 rw[if_neg k3]at h;by_cases k4:s.Kind=7
 ·rw[if_pos k4]at h;have:=oI h;omega
 rw[if_neg k4]at h;by_cases k5:s.Kind=8\/s.Kind=12\/s.Kind=16\/s.Kind=20\/s.Kind=22\/s.Kind=19
 ·rw[if_pos k5]at h;have:=oI h;omega
 rw[if_neg k5]at h;by_cases k6:s.Kind=9
 ·rw[if_pos k6]at h;have:=oI h;omega
 rw[if_neg k6]at h;by_cases k7:s.Kind=10
 ·rw[if_pos k7]at h;have:=oI h;omega
 rw[if_neg k7]at h;by_cases k8:s.Kind=11
 ·rw[if_pos k8]at h;have:=oI h;omega
 rw[if_neg k8]at h;by_cases k9:s.Kind=18
 ·rw[if_pos k9]at h;have:=oI h;omega
 rw[if_neg k9]at h;by_cases rH:s.Kind=13\/s.Kind=14\/s.Kind=15\/s.Kind=21
 ·rw[if_pos rH]at h;have:=oI h;omega
 rw[if_neg rH]at h;cases h
theorem BU(v:Int):aA [v] 0=v:=rfl
theorem ahG:Go.Ab.flat 6:=by unfold Go.Ab.flat;omega
theorem ahH:Go.Ab.flat 5:=by unfold Go.Ab.flat;omega
theorem aaa:Go.Ab.flat 19:=by unfold Go.Ab.flat;omega
theorem af8:Go.Ab.flat 35:=by unfold Go.Ab.flat;omega
theorem af9:Go.Ab.flat 36:=by unfold Go.Ab.flat;omega
theorem inst_chg{c:XC}{x:an}{v:List Int}(hs:(jH x).1=true)(hk:x.Kind≠1∧x.Kind≠2∧x.Kind≠3∧x.Kind≠9∧x.Kind≠10∧x.Kind≠11∧x.Kind≠12∧x.Kind≠21∧x.Kind≠22)(hl:v.length=x.aF.length)(S L:List Int)(σ:MS)(aO:okW c σ.W=true):
  Go.Ab.flat (gR x.Kind x.aL).Op/\instJ c (gR x.Kind x.aL) (v.reverse++S) L σ=iR false S L σ (cE c σ.W x.Kind x.aL v):=by
 obtain⟨k1,k2,k3,k9,rH,ub,Ji,LY,TG⟩:=hk;rcases yG hs with h|⟨h,ha⟩|⟨h,ha⟩|⟨h,ha⟩
 ·exact(k1 h).elim
 ·rw[ha]at hl;obtain⟨u,rfl⟩:=Em hl;rcases h with h|h|h|h|h|h|h|h|h|h|h|h|h|h|h<;>first|exact(by omega:False).elim|skip
  all_goals first
   | (simp[h,gR,instJ,dI,di,dv,Go.Ab.flat];done)
   | (simp[h,gR,instJ,dI,di,dv,Go.Ab.flat,cE,aO,BU];done)
   | (simp[h,gR,instJ,dI,di,dv,Go.Ab.flat,cE,aO,BU,iR];done)
 ·rw[ha]at hl;obtain⟨u,t,rfl⟩:=P9 hl;rcases h with h|h
  ·simp[h,gR,instJ,dI,di,dv,Go.Ab.flat]
  ·simp[h,gR,instJ,dI,di,dv,Go.Ab.flat,cE]
 ·rw[ha]at hl;obtain rfl:=apw.1 hl;rcases h with h|h|h|h|h
  ·simp[h,gR,instJ,dI,di,dv,Go.Ab.flat]
  ·simp[h,gR,instJ,dI,di,dv,Go.Ab.flat,cE]
  ·simp[h,gR,instJ,dI,di,dv,Go.Ab.flat,cE]
  ·simp[h,gR,instJ,dI,di,dv,Go.Ab.flat,cE]
  ·exact(LY h).elim
theorem cH.get{c:XC}{d:Nat}{l r:List ai}{n:Int}{S L:List Int}{σ:MS}(h:fL L n):cH c d l (⟨5,n⟩::r) S L σ r (aq (aA L n)::S) L σ:= .flat ahH (by simp[instJ,h])
theorem cH.put{c:XC}{d:Nat}{l r:List ai}{n v:Int}{S L:List Int}{σ:MS}(h:fL L n):cH c d l (⟨6,n⟩::r) (v::S) L σ r S (L.set n.toNat v) σ:= .flat ahG (by simp[instJ,dI,h])
theorem BV{c:XC}{d:Nat}{l r:List ai}{k v:Int}{S L:List Int}{σ:MS}(aO:okW c σ.W=true):((df σ.W k v).2=0->cH c d l (⟨19,k⟩::r) (v::S) L σ r (aq (df σ.W k v).1::S) L σ)/\((df σ.W k v).2≠0->dJ c d l (⟨19,k⟩::r) (v::S) L σ (.bG (df σ.W k v).2 σ)):=by
 have hJ:instJ c ⟨19,k⟩ (v::S) L σ=iR true S L σ (some (jw σ.W (df σ.W k v))):=by
  simp[instJ,dI,di,dh,aO,BU]
 refine⟨λh=> .flat aaa ?_,λh=> .bG aaa ?_⟩
 ·rw[hJ,jw,if_pos h];rfl
 ·rw[hJ,jw,if_neg h];rfl
theorem WB{x:an}{e:ay}(h:x.aF=[e])(m:Int):aZ x.aF m=aX e m:=by rw[h,LW]
theorem WC{c:XC}{g:Nat}(ih:ue c g):∀σ x σ' o,gm c (g+1) σ x=some (σ',o)→x.Kind=10→∀loc,eO c.B.Tables loc x=true→σ'.Dp=σ.Dp∧(WL σ.Ls→WL σ'.Ls∧∀(m:Int) (l a b:List ai),l=a++((dx x m).1++b)→(bP l).Nodup→∀(d:Nat) (S:List Int),σ.Dp=d→
  eu c d l ((dx x m).1++b) S σ.Ls (bZ σ) b S σ' o):=by
 intro σ x σ' o h hk loc hb;rw[gm]at h;obtain⟨yX,yE,LX,kq,rk,_⟩:=qY hb;have hlen:x.aF.length=1:=by
  rcases yG yX with h|⟨h,ha⟩|⟨h,ha⟩|⟨h,ha⟩<;>omega
 obtain⟨e,he⟩:=Em hlen;have ajO:cT c.B.Tables loc e false=true:=by
  have:=LX e (by rw[he];simp);rw[hk]at this;exact this
 have code:∀(m:Int) (b:List ai),(dx x m).1++b=⟨38,m⟩::tick::((aX e (m+2)).1++(⟨25,m+1⟩::((bh x.Body (aX e (m+2)).2).1++(⟨24,m⟩::⟨38,m+1⟩::b)))):=by
  intro m b;rw[wP x m hk,WB he];simp
 cases hc:tL c σ with
 | none=>rw[hc]at h;cases h
 | some p=>
   obtain⟨aR,o1⟩:=p;rw[hc]at h;have ht:=λd l b S=>Hr hc d l b S
   obtain⟨l1,d1,w1,_⟩:=ht 0 [] [] [];have ny:WL σ.Ls->WL aR.Ls:=λhW=>by rw[l1];exact hW
   cases o1 with
   | bN n=>
     rw[he]at h;simp only at h;have tk:∀d l b S,cH c d l (tick::b) S σ.Ls (bZ σ) b S aR.Ls (bZ aR):=by
      intro d l b S;obtain⟨_,_,_,h1⟩:=ht d l b S;rcases h1 with⟨_,_,h1⟩|⟨h1,_⟩
      ·exact h1
      ·cases h1
     cases ha:dR c g aR e with
     | none=>rw[ha]at h;cases h
     | some q=>
       obtain⟨ck,o2⟩:=q;rw[ha]at h;obtain⟨d2,l2,r2⟩:=ih.ask aR e ck o2 ha loc ajO;have rm:WL σ.Ls->WL ck.Ls:=λhW=>by rw[l2];exact ny hW
       have g2:WL σ.Ls→∀(m:Int) (l a b:List ai),l=a++((dx x m).1++b)→(bP l).Nodup→∀(d:Nat) (S:List Int),σ.Dp=d→
         vZ c d l ((dx x m).1++b) S σ.Ls (bZ σ) (⟨25,m+1⟩::((bh x.Body (aX e (m+2)).2).1++(⟨24,m⟩::⟨38,m+1⟩::b))) S ck o2:=by
        intro hW m l a b hl hu d S hd;rw[code]at hl⊢;exact vZ.pre (cH.label.trans (tk d l _ S)) (r2 (ny hW) (m+2) l (a++ [⟨38,m⟩,tick]) _ (by rw[hl];simp) hu d S (d1.trans hd))
       cases o2 with
       | bN v=>
         simp only at h;by_cases hv:v=0
         ·rw[if_pos hv]at h;simp only[anc,aoI]at h;obtain⟨rfl,rfl⟩:=h;refine⟨d2.trans d1,λhW=>⟨rm hW,λm l a b hl hu d S hd=>?_⟩⟩;obtain⟨LV,g3⟩:=g2 hW m l a b hl hu d S hd;rw[code]at hl;exact g3.trans (cH.Fh (a:=a++(⟨38,m⟩::tick::((aX e (m+2)).1++(⟨25,m+1⟩::((bh x.Body (aX e (m+2)).2).1++ [⟨24,m⟩]))))) (by rw[hl];simp) hu (by rw[LV];exact hv))
         ·rw[if_neg hv]at h;cases gT:dX c g ck x.Body with
          | none=>rw[gT]at h;cases h
          | some q2=>
            obtain⟨zJ,o3⟩:=q2;rw [gT]at h;obtain⟨d3,r3⟩:=ih.block ck x.Body zJ o3 gT loc kq;have g3:WL σ.Ls→∀(m:Int) (l a b:List ai),l=a++((dx x m).1++b)→(bP l).Nodup→∀(d:Nat) (S:List Int),σ.Dp=d→
              eu c d l ((dx x m).1++b) S σ.Ls (bZ σ) (⟨24,m⟩::⟨38,m+1⟩::b) S zJ o3:=by
             intro hW m l a b hl hu d S hd;obtain⟨LV,g3⟩:=g2 hW m l a b hl hu d S hd;rw[code]at hl;refine eu.pre (g3.trans (cH.Fi (by rw[LV];exact hv))) ?_;exact(r3 (rm hW)).2 _ l (a++(⟨38,m⟩::tick::((aX e (m+2)).1++ [⟨25,m+1⟩]))) _ (by rw[hl];simp) hu d S ((d2.trans d1).trans hd)
            cases o3 with
            | bN u=>
              simp only at h;obtain⟨d4,r4⟩:=ih.Kr zJ x σ' o h hk loc hb;refine⟨((d4.trans d3).trans d2).trans d1,λhW=>⟨(r4 (r3 (rm hW)).1).1,λm l a b hl hu d S hd=>?_⟩⟩;have g4:=g3 hW m l a b hl hu d S hd;have g5:=(r4 (r3 (rm hW)).1).2 m l a b hl hu d S (((d3.trans d2).trans d1).trans hd);rw[code]at hl g4 g5⊢;have hj:cH c d l (⟨24,m⟩::⟨38,m+1⟩::b) S zJ.Ls (bZ zJ) (tick::((aX e (m+2)).1++(⟨25,m+1⟩::((bh x.Body (aX e (m+2)).2).1++(⟨24,m⟩::⟨38,m+1⟩::b))))) S zJ.Ls (bZ zJ):=cH.jump (a:=a) hl hu;refine eu.pre g4 (eu.pre hj ?_);cases o with
              | bN n=>exact cH.qX g5
              | bG n=>exact dJ.qX g5
              | over=>exact dJ.qX g5
              | ret n=>exact dJ.qX g5
            | bG u=>
              simp only[anc,aoI]at h;obtain⟨rfl,rfl⟩:=h;exact⟨(d3.trans d2).trans d1,λhW=>⟨(r3 (rm hW)).1,λm l a b hl hu d S hd=>g3 hW m l a b hl hu d S hd⟩⟩
            | over=>
              simp only[anc,aoI]at h;obtain⟨rfl,rfl⟩:=h;exact⟨(d3.trans d2).trans d1,λhW=>⟨(r3 (rm hW)).1,λm l a b hl hu d S hd=>g3 hW m l a b hl hu d S hd⟩⟩
            | ret u=>
              simp only[anc,aoI]at h;obtain⟨rfl,rfl⟩:=h;exact⟨(d3.trans d2).trans d1,λhW=>⟨(r3 (rm hW)).1,λm l a b hl hu d S hd=>g3 hW m l a b hl hu d S hd⟩⟩
       | bG v=>
         simp only[anc,aoI]at h;obtain⟨rfl,rfl⟩:=h;exact⟨d2.trans d1,λhW=>⟨rm hW,λm l a b hl hu d S hd=>g2 hW m l a b hl hu d S hd⟩⟩
       | over=>
         simp only[anc,aoI]at h;obtain⟨rfl,rfl⟩:=h;exact⟨d2.trans d1,λhW=>⟨rm hW,λm l a b hl hu d S hd=>g2 hW m l a b hl hu d S hd⟩⟩
       | ret v=>
         simp only[anc,aoI]at h;obtain⟨rfl,rfl⟩:=h;exact⟨d2.trans d1,λhW=>⟨rm hW,λm l a b hl hu d S hd=>(g2 hW m l a b hl hu d S hd).elim⟩⟩
   | bG v=>
     simp only[anc,aoI]at h;obtain⟨rfl,rfl⟩:=h;refine⟨d1,λhW=>⟨ny hW,λm l a b hl hu d S hd=>?_⟩⟩;rw[code];obtain⟨_,_,_,h1⟩:=ht d l ((aX e (m+2)).1++(⟨25,m+1⟩::((bh x.Body (aX e (m+2)).2).1++(⟨24,m⟩::⟨38,m+1⟩::b)))) S;rcases h1 with⟨_,h1,_⟩|⟨h1,h2⟩
     ·cases h1
     ·cases h1;exact cH.label.stop h2
   | over=>obtain⟨_,_,_,h1⟩:=ht 0 [] [] [];rcases h1 with⟨_,h1,_⟩|⟨h1,_⟩<;>cases h1
   | ret v=>obtain⟨_,_,_,h1⟩:=ht 0 [] [] [];rcases h1 with⟨_,h1,_⟩|⟨h1,_⟩<;>cases h1
theorem Gk{c g σ x p}(h:fm c g σ x=some p):fL σ.Ls x.aL/\fL σ.Ls (x.aL+1)/\okW c σ.W=true:=by
 cases g with
 | zero=>grind[fm]
 | succ g=>
   grind[fm]
set_option maxHeartbeats 4000000 in
theorem aab{c:XC}{g:Nat}(hB:jI c.B)(ih:ue c g):∀σ x σ' o,fm c (g+1) σ x=some (σ',o)→x.Kind=11→∀loc,eO c.B.Tables loc x=true→σ'.Dp=σ.Dp∧(WL σ.Ls→WL σ'.Ls∧∀(m:Int) (l a b:List ai),l=a++(mU x m++b)→(bP l).Nodup→∀(d:Nat) (S:List Int),σ.Dp=d→
  eu c d l (mU x m++b) S σ.Ls (bZ σ) b S σ' o):=by
 intro σ x σ' o h hk loc hb;obtain⟨OY,nW,aO⟩:=Gk h;obtain⟨yX,yE,LX,kq,rk,_⟩:=qY hb;rw[fm]at h;have code:∀(m:Int) (b:List ai),mU x m++b=⟨38,m⟩::⟨5,x.aL⟩::⟨25,m+1⟩::tick::⟨5,x.aL⟩::⟨19,3⟩::⟨6,x.aL+1⟩::((bh x.Body (kS x m)).1++(⟨5,x.aL+1⟩::⟨6,x.aL⟩::⟨24,m⟩::⟨38,m+1⟩::b)):=by
  intro m b;unfold mU;simp
 split at h
 ·-- B6 amZ
  by_cases hv:aA σ.Ls x.aL=0
  ·rw[if_pos hv]at h;simp only[anc,aoI]at h;obtain⟨rfl,rfl⟩:=h;refine⟨rfl,λhW=>⟨hW,λm l a b hl hu d S hd=>?_⟩⟩;rw[code]at hl⊢;refine cH.label.trans ((cH.get OY).trans ?_);exact cH.Fh (a:=a++(⟨38,m⟩::⟨5,x.aL⟩::⟨25,m+1⟩::tick::⟨5,x.aL⟩::⟨19,3⟩::⟨6,x.aL+1⟩::((bh x.Body (kS x m)).1++ [⟨5,x.aL+1⟩,⟨6,x.aL⟩,⟨24,m⟩]))) (by rw[hl];simp) hu (by rw[hv];decide)
  ·rw[if_neg hv]at h;cases hc:tL c σ with
   | none=>rw[hc]at h;cases h
   | some p=>
     obtain⟨aR,o1⟩:=p;rw[hc]at h;have ht:=λd l b S=>Hr hc d l b S
     obtain⟨l1,d1,w1,_⟩:=ht 0 [] [] [];have g0:WL σ.Ls->∀(m:Int) (l a b:List ai),l=a++(mU x m++b)->(bP l).Nodup->∀(d:Nat) (S:List Int),cH c d l (mU x m++b) S σ.Ls (bZ σ) (tick::⟨5,x.aL⟩::⟨19,3⟩::⟨6,x.aL+1⟩::((bh x.Body (kS x m)).1++(⟨5,x.aL+1⟩::⟨6,x.aL⟩::⟨24,m⟩::⟨38,m+1⟩::b))) S σ.Ls (bZ σ):=by
      intro hW m l a b hl hu d S;rw[code];refine cH.label.trans ((cH.get OY).trans (cH.Fi ?_));rw[hW.get,hW.get];exact hv
     cases o1 with
     | bN n=>
       simp only at h;have tk:∀d l b S,cH c d l (tick::b) S σ.Ls (bZ σ) b S aR.Ls (bZ aR):=by
        intro d l b S;obtain⟨_,_,_,h1⟩:=ht d l b S;rcases h1 with⟨_,_,h1⟩|⟨h1,_⟩
        ·exact h1
        ·cases h1
       have ack:okW c aR.W=true:=by rw[w1];exact aO
       have ajP:fL aR.Ls x.aL:=by rw[l1];exact OY
       have ajQ:fL aR.Ls (x.aL+1):=by rw[l1];exact nW
       have ny:WL σ.Ls->WL aR.Ls:=λhW=>by rw[l1];exact hW
       have g1:WL σ.Ls->∀(m:Int) (l a b:List ai),l=a++(mU x m++b)->(bP l).Nodup->∀(d:Nat) (S:List Int),cH c d l (mU x m++b) S σ.Ls (bZ σ) (⟨19,3⟩::⟨6,x.aL+1⟩::((bh x.Body (kS x m)).1++(⟨5,x.aL+1⟩::⟨6,x.aL⟩::⟨24,m⟩::⟨38,m+1⟩::b))) (aA aR.Ls x.aL::S) aR.Ls (bZ aR):=by
        intro hW m l a b hl hu d S;have:=(g0 hW m l a b hl hu d S).trans ((tk d l _ S).trans (cH.get ajP));rw[(ny hW).get]at this;exact this
       by_cases he:(df aR.W 3 (aA aR.Ls x.aL)).2=0
       ·rw[if_neg (by simpa using he)]at h;cases gT:dX c g {aR with Ls:=aR.Ls.set (x.aL+1).toNat (df aR.W 3 (aA aR.Ls x.aL)).1} x.Body with
        | none=>rw[gT]at h;cases h
        | some q=>
          obtain⟨ck,o2⟩:=q;rw[gT]at h;obtain⟨d2,r2⟩:=ih.block _ x.Body ck o2 gT loc kq;have d2:ck.Dp=aR.Dp:=d2;have htw:=LR hB.fits ack 3 (aA aR.Ls x.aL);have Qc:WL σ.Ls->WL (aR.Ls.set (x.aL+1).toNat (df aR.W 3 (aA aR.Ls x.aL)).1):=λhW=>(ny hW).set _ htw
          have g2:WL σ.Ls->∀(m:Int) (l a b:List ai),l=a++(mU x m++b)->(bP l).Nodup->∀(d:Nat) (S:List Int),σ.Dp=d->eu c d l (mU x m++b) S σ.Ls (bZ σ) (⟨5,x.aL+1⟩::⟨6,x.aL⟩::⟨24,m⟩::⟨38,m+1⟩::b) S ck o2:=by
           intro hW m l a b hl hu d S hd;have ga:=(g1 hW m l a b hl hu d S).trans ((BV ack).1 he);have gb:=ga.trans (cH.put ajQ);have acm:aq (df (bZ aR).W 3 (aA aR.Ls x.aL)).1=(df aR.W 3 (aA aR.Ls x.aL)).1:=htw;rw[acm]at gb;refine eu.pre gb ?_;rw[code]at hl;exact(r2 (Qc hW)).2 (kS x m) l (a++ [⟨38,m⟩,⟨5,x.aL⟩,⟨25,m+1⟩,tick,⟨5,x.aL⟩,⟨19,3⟩,⟨6,x.aL+1⟩]) _ (by rw[hl];simp) hu d S (d1.trans hd)
          cases o2 with
          | bN u=>
            simp only at h;obtain⟨SH,IL,_⟩:=Gk h;simp only[fL,aqm]at SH IL;obtain⟨d3,r3⟩:=ih.each _ x σ' o h hk loc hb;have d3:σ'.Dp=ck.Dp:=d3;have rm:WL σ.Ls->WL ck.Ls:=λhW=>(r2 (Qc hW)).1
            have hW3:WL σ.Ls->WL (ck.Ls.set x.aL.toNat (aA ck.Ls (x.aL+1))):=λhW=>(rm hW).set _ ((rm hW).get _)
            refine⟨(d3.trans d2).trans d1,λhW=>⟨(r3 (hW3 hW)).1,λm l a b hl hu d S hd=>?_⟩⟩;have ga:=g2 hW m l a b hl hu d S hd;have gb:=(cH.get (c:=c) (d:=d) (l:=l) (r:=⟨6,x.aL⟩::⟨24,m⟩::⟨38,m+1⟩::b) (S:=S) (σ:=bZ ck) IL).trans (cH.put SH);rw[(rm hW).get]at gb;have gc:=(r3 (hW3 hW)).2 m l a b hl hu d S ((d2.trans d1).trans hd);rw[code]at hl ga gc⊢;have gd:=gb.trans (cH.jump (a:=a) hl hu);refine eu.pre ga (eu.pre gd ?_);cases o with
            | bN n=>exact cH.qX gc
            | bG n=>exact dJ.qX gc
            | over=>exact dJ.qX gc
            | ret n=>exact dJ.qX gc
          | bG u=>
            simp only[anc,aoI]at h;obtain⟨rfl,rfl⟩:=h;exact⟨d2.trans d1,λhW=>⟨(r2 (Qc hW)).1,λm l a b hl hu d S hd=>g2 hW m l a b hl hu d S hd⟩⟩
          | over=>
            simp only[anc,aoI]at h;obtain⟨rfl,rfl⟩:=h;exact⟨d2.trans d1,λhW=>⟨(r2 (Qc hW)).1,λm l a b hl hu d S hd=>g2 hW m l a b hl hu d S hd⟩⟩
          | ret u=>
            simp only[anc,aoI]at h;obtain⟨rfl,rfl⟩:=h;exact⟨d2.trans d1,λhW=>⟨(r2 (Qc hW)).1,λm l a b hl hu d S hd=>g2 hW m l a b hl hu d S hd⟩⟩
       ·rw[if_pos (by simpa using he)]at h;simp only[anc,aoI]at h;obtain⟨rfl,rfl⟩:=h;exact⟨d1,λhW=>⟨ny hW,λm l a b hl hu d S hd=>(g1 hW m l a b hl hu d S).stop ((BV ack).2 he)⟩⟩
     | bG v=>
       simp only[anc,aoI]at h;obtain⟨rfl,rfl⟩:=h;refine⟨d1,λhW=>⟨by rw[l1];exact hW,λm l a b hl hu d S hd=>?_⟩⟩;refine(g0 hW m l a b hl hu d S).stop ?_;obtain⟨_,_,_,h1⟩:=ht d l (⟨5,x.aL⟩::⟨19,3⟩::⟨6,x.aL+1⟩::((bh x.Body (kS x m)).1++(⟨5,x.aL+1⟩::⟨6,x.aL⟩::⟨24,m⟩::⟨38,m+1⟩::b))) S;rcases h1 with⟨_,h1,_⟩|⟨h1,h2⟩
       ·cases h1
       ·cases h1;exact h2
     | over=>obtain⟨_,_,_,h1⟩:=ht 0 [] [] [];rcases h1 with⟨_,h1,_⟩|⟨h1,_⟩<;>cases h1
     | ret v=>obtain⟨_,_,_,h1⟩:=ht 0 [] [] [];rcases h1 with⟨_,h1,_⟩|⟨h1,_⟩<;>cases h1
 ·cases h
theorem aac{c}{g}(hB:jI c.B)(ih:ue c g):∀σ x v σ' o,ib c (g+1) σ x v=some (σ',o)→x.Kind≠1→x.Kind≠10→v.length=x.aF.length→∀loc,eO c.B.Tables loc x=true→σ'.Dp=σ.Dp∧(WL σ.Ls→(∀n∈v,aq n=n)→WL σ'.Ls∧∀m l a b,l=a++(kA x m++b)→(bP l).Nodup→∀(d:Nat) S,σ.Dp=d→
  eu c d l (kA x m++b) (v.reverse++S) σ.Ls (bZ σ) b S σ' o):=by
 intro σ x v σ' o h k1 rH hlen loc hb;obtain⟨yX,yE,LX,kq,rk,_⟩:=qY hb;rw[ib]at h;have one:(x.Kind=2\/x.Kind=3\/x.Kind=9\/x.Kind=11\/x.Kind=12\/x.Kind=22)->∃u,v=[u]:=by
  intro hk;rcases yG yX with h|⟨h,ha⟩|⟨h,ha⟩|⟨h,ha⟩
  ·omega
  ·simp_all[Em]
  ·omega
  ·omega
 by_cases k2:x.Kind=2\/x.Kind=3
 ·rw[if_pos k2]at h;obtain⟨u,rfl⟩:=one (by omega);split at h
  ·rename_i cq;simp only[anc,aoI]at h;obtain⟨rfl,rfl⟩:=h;refine⟨rfl,λhW hv=>⟨hW.set _ (hv u (by simp)),λm l a b hl hu d S hd=>?_⟩⟩;have ht:kA x m=[⟨6,x.aL⟩]:=by
    unfold kA;rw[if_neg (by omega),if_neg (by omega)];simp_all[gR,if_pos]
   rw[ht];exact cH.put cq.2
  grind
 rw[if_neg k2]at h;by_cases k9:x.Kind=9
 ·rw[if_pos k9]at h;obtain⟨u,rfl⟩:=one (by omega);split at h
  ·have LU:aA [u] 0=u:=rfl;rw[LU]at h;have iE:∀s∈(if u≠0 then x.Body else x.bX),eO c.B.Tables loc s=true:=by
    grind
   obtain⟨d1,r1⟩:=ih.block σ _ σ' o h loc iE;refine⟨d1,λhW hv=>⟨(r1 hW).1,λm l a b hl hu d S hd=>?_⟩⟩;have huw:aq u=u:=hv u (by simp);have r2:=(r1 hW).2;have bQ:∀(b':List ai),cH c d l b' S σ'.Ls (bZ σ') b S σ'.Ls (bZ σ')->eu c d l (kA x m++b) ([u].reverse++S) σ.Ls (bZ σ) b' S σ' o->eu c d l (kA x m++b) ([u].reverse++S) σ.Ls (bZ σ) b S σ' o:=by
    intro b' hg hr;cases o with
    | bN n=>exact cH.trans hr hg
    | bG n=>exact hr
    | over=>exact hr
    | ret n=>exact hr
   by_cases he:x.bX=[]
   ·have ht:kA x m++b=⟨25,m⟩::((bh x.Body (kS x m)).1++(⟨38,m⟩::b)):=by
     simp_all[kA,if_pos]
    rw[ht]at hl bQ⊢;by_cases Nw:u=0
    ·rw[if_neg (by omega),he]at r2;have hz:=cH.Fh (c:=c) (d:=d) (r:=(bh x.Body (kS x m)).1++(⟨38,m⟩::b)) (S:=S) (L:=σ.Ls) (σ:=bZ σ) (a:=a++(⟨25,m⟩::(bh x.Body (kS x m)).1)) (b:=b) (v:=u) (n:=m) (l:=l) (by grind) hu (by omega);have:=r2 0 l (a++(⟨25,m⟩::((bh x.Body (kS x m)).1++ [⟨38,m⟩]))) b (by simp_all[bh]) hu d S hd;grind[bh,eu.pre]
    ·rw[if_pos (by omega)]at r2;refine bQ (⟨38,m⟩::b) cH.label (eu.pre (cH.Fi (by omega)) ?_);exact r2 (kS x m) l (a++ [⟨25,m⟩]) _ (by grind) hu d S hd
   ·have ht:kA x m++b=⟨25,m⟩::((bh x.Body (kS x m)).1++(⟨24,m+1⟩::⟨38,m⟩::((bh x.bX (bh x.Body (kS x m)).2).1++(⟨38,m+1⟩::b)))):=by
     simp_all[kA,if_pos,if_neg]
    rw[ht]at hl bQ⊢;by_cases Nw:u=0
    ·rw[if_neg (by omega)]at r2;refine bQ (⟨38,m+1⟩::b) cH.label ?_;have hz:=cH.Fh (c:=c) (d:=d) (r:=(bh x.Body (kS x m)).1++(⟨24,m+1⟩::⟨38,m⟩::((bh x.bX (bh x.Body (kS x m)).2).1++(⟨38,m+1⟩::b)))) (S:=S) (L:=σ.Ls) (σ:=bZ σ) (a:=a++(⟨25,m⟩::((bh x.Body (kS x m)).1++ [⟨24,m+1⟩]))) (b:=(bh x.bX (bh x.Body (kS x m)).2).1++(⟨38,m+1⟩::b)) (v:=u) (n:=m) (l:=l) (by grind) hu (by omega);exact eu.pre hz (r2 _ l (a++(⟨25,m⟩::((bh x.Body (kS x m)).1++ [⟨24,m+1⟩,⟨38,m⟩]))) _ (by grind) hu d S hd)
    ·rw[if_pos (by omega)]at r2;have hj:=cH.jump (c:=c) (d:=d) (r:=⟨38,m⟩::((bh x.bX (bh x.Body (kS x m)).2).1++(⟨38,m+1⟩::b))) (S:=S) (L:=σ'.Ls) (σ:=bZ σ') (a:=a++(⟨25,m⟩::((bh x.Body (kS x m)).1++(⟨24,m+1⟩::⟨38,m⟩::(bh x.bX (bh x.Body (kS x m)).2).1)))) (b:=b) (n:=m+1) (l:=l) (by grind) hu;refine bQ _ hj (eu.pre (cH.Fi (by omega)) ?_);exact r2 (kS x m) l (a++ [⟨25,m⟩]) _ (by grind) hu d S hd
  grind
 rw[if_neg k9]at h;by_cases ub:x.Kind=11
 ·rw[if_pos ub]at h;obtain⟨u,rfl⟩:=one (by omega);split at h
  ·rename_i cq;obtain⟨_,aO,ajR,_⟩:=cq;have LU:aA [u] 0=u:=rfl;rw[LU]at h;have ht:∀(m:Int) (b:List ai),kA x m++b=⟨19,2⟩::⟨6,x.aL⟩::(mU x m++b):=by
    simp_all[kA,if_neg,if_pos]
   by_cases he:(df σ.W 2 u).2=0
   ·rw[if_neg (by omega)]at h;obtain⟨d1,r1⟩:=ih.each _ x σ' o h ub loc hb;have d1:σ'.Dp=σ.Dp:=d1;have htw:=LR hB.fits aO 2 u;have ny:WL σ.Ls->WL (σ.Ls.set x.aL.toNat (df σ.W 2 u).1):=λhW=>hW.set _ htw
    refine⟨d1,λhW hv=>⟨(r1 (ny hW)).1,λm l a b hl hu d S hd=>?_⟩⟩;rw[ht]at hl⊢;have ga:=(BV (c:=c) (d:=d) (l:=l) (r:=⟨6,x.aL⟩::(mU x m++b)) (k:=2) (v:=u) (S:=S) (L:=σ.Ls) (σ:=bZ σ) aO).1 he;have gb:=ga.trans (cH.put ajR);have acm:aq (df (bZ σ).W 2 u).1=(df (bZ σ).W 2 u).1:=htw;rw[acm]at gb;exact eu.pre gb ((r1 (ny hW)).2 m l (a++ [⟨19,2⟩,⟨6,x.aL⟩]) b (by grind) hu d S hd)
   ·rw[if_pos (by omega)]at h;simp only[anc,aoI]at h;obtain⟨rfl,rfl⟩:=h;refine⟨rfl,λhW hv=>⟨hW,λm l a b hl hu d S hd=>?_⟩⟩;rw[ht];exact(BV (c:=c) (d:=d) (l:=l) (r:=⟨6,x.aL⟩::(mU x m++b)) (k:=2) (v:=u) (S:=S) (L:=σ.Ls) (σ:=bZ σ) aO).2 he
  grind
 rw[if_neg ub]at h;have ht:∀(m:Int) (b:List ai),kA x m++b=gR x.Kind x.aL::b:=by
  simp_all[kA,if_neg]
 by_cases Ji:x.Kind=12
 ·rw[if_pos Ji]at h;obtain⟨u,rfl⟩:=one (by omega);split at h
  ·simp only[anc,aoI]at h;obtain⟨rfl,rfl⟩:=h;refine⟨rfl,λhW hv=>⟨hW,λm l a b hl hu d S hd=>?_⟩⟩;rw[ht];have:gR x.Kind x.aL=⟨27,0⟩:=by rw[Ji];rfl
   rw[this];exact dJ.ret
  grind
 rw[if_neg Ji]at h;unfold Kc at h;by_cases LY:x.Kind=21
 ·rw[if_pos LY]at h;split at h
  ·rename_i aO;have hv:v=[]:=by
    grind[yG,List.length_eq_zero_iff]
   subst hv;have aoq:gR x.Kind x.aL=⟨35,0⟩:=by rw[LY];rfl
   have hr:=λd l b S=>Fm (c:=c) h (i:=⟨35,0⟩) af8 (S:=S) (S0:=S) (by simp[instJ,bZ,aO]) d l b
   refine⟨(hr 0 [] [] []).2.1,λhW hv=>⟨by rw[(hr 0 [] [] []).1];exact hW,λm l a b hl hu d S hd=>?_⟩⟩;grind
  grind
 rw[if_neg LY]at h;by_cases TG:x.Kind=22
 ·rw[if_pos TG]at h;split at h
  ·rename_i aO;obtain⟨u,rfl⟩:=one (by omega);have aor:gR x.Kind x.aL=⟨36,0⟩:=by rw[TG];rfl
   have hr:=λd l b S=>Fm (c:=c) h (i:=⟨36,0⟩) af9 (S:=u::S) (S0:=S) (by simp[instJ,dI,bZ,aO.1,BU]) d l b
   refine⟨(hr 0 [] [] []).2.1,λhW hv=>⟨by rw[(hr 0 [] [] []).1];exact hW,λm l a b hl hu d S hd=>?_⟩⟩;grind
  grind
 rw[if_neg TG]at h;cases hw:cE c σ.W x.Kind x.aL v with
 | none=>grind
 | some p=>
   have aO:=aeH hw;have Au:σ'.Dp=σ.Dp/\σ'.Ls=σ.Ls:=by
    grind
   refine⟨Au.1,λhW hv=>⟨by grind,λm l a b hl hu d S hd=>?_⟩⟩;rw[ht];obtain⟨hf,hJ⟩:=inst_chg (c:=c) yX ⟨k1,by omega,by omega,k9,rH,ub,Ji,LY,TG⟩ hlen S σ.Ls (bZ σ) aO;refine ace hf hJ rfl rfl h ?_ ?_
   ·grind[Option.some.injEq,Prod.mk.injEq,P8]
   ·intro w x1 hww;exact(P8 hww).2 x1 rfl
theorem Ks{c}(hB:jI c.B):∀g,ue c g:=by
 intro g
 induction g with
 | zero=>constructor<;>intros<;>rename_i h<;>first|(simp[dR,dO,jh,dX,jx,jy,kF,gm,fm,ib]at *;done)
 | succ g ih=>exact⟨ach ih,Z6 ih,Z7 hB ih,Wz ih,Z9 ih,Z8 ih,acj ih,WC ih,aab hB ih,aac hB ih⟩
def Qd(σ:XS):OC->Option Oc
 | .bN n=>some (.ret n (bZ σ))
 | .bG x=>some (.bG x (bZ σ))
 | .over=>some (.over (bZ σ))
 | .ret _=>none
theorem aeJ{c}(hB:jI c.B){g}{σ σ'}{r}{a}{o}(h:jh c g σ r a=some (σ',o))(h0:σ.Dp=0):
  ∃y,Qd σ' o=some y/\dJ c 1 (cJ c.B r) (cJ c.B r) [] ((bS c).lo r a) (bZ σ) y:=by
 have:=(((Ks hB g).call σ r a σ' o h).2.2 0 (by omega)).2 (by omega);cases o with
 | bN n=>exact⟨_,rfl,this⟩
 | bG n=>exact⟨_,rfl,this⟩
 | over=>exact⟨_,rfl,this⟩
 | ret n=>grind
theorem oi{t}(hf:eJ t=true):(∀s∈t.gy,s.size<=1024)/\(∀r:Int,0<=r->r<t.Params.length->(0<=aA t.Params r/\aA t.Params r<=8)/\aA t.Params r<=aA t.aM r/\aA t.aM r<=24)/\(∀n∈t.cY,0<=n/\n<t.Params.length):=by
 unfold eJ IA DE at hf;simp[bJ,cC]at hf;obtain⟨⟨⟨⟨h1,h2⟩,h3⟩,h4⟩,h5⟩:=hf;refine⟨λs hs=>?_,λr r1 r2=>?_,λn hn=>?_⟩
 ·simp_all[uN]
 ·simp_all[yc,bJ,aA]
 grind
theorem uf{t}(hf:eJ t=true) i:(oE t i).size<=1024:=by
 unfold oE;split
 ·decide
 grind[oi,List.mem_of_getElem?]
theorem Jk:Vt.size=7:=by decide
theorem iU{t}(hf:eJ t=true) x:(dB t x).size<=1024:=by
 grind[dB,Jk,uf]
theorem Er:∀l:List ByteArray,(∀s∈l,s.size<=1024)->(uR l).size<=7+l.length *1029
 | [],_=>by simp[uR,Jk]
 | [a],h=>by grind[uR,List.length_cons,List.length_nil]
 | [a,b],h=>by
   have h1:=h a (by simp);have h2:=h b (by simp);rw[uR];simp;have:(ByteArray.mk #[32,97,110,100,32]).size=5:=by decide
   omega
 | a::b::c::l,h=>by
   have h1:=h a (by simp);have ih:=Er (b::c::l) (λs hs=>h s (by simp at hs⊢;exact .inr hs));have e:uR (a::b::c::l)=a++ByteArray.mk #[44,32]++uR (b::c::l):=by first|rfl|(all_goals simp)
   rw[e];simp at ih⊢;have:(ByteArray.mk #[44,32]).size=2:=by decide
   omega
theorem wU{t w}(hf:eJ t=true)(hw:ig t w) x:(r9 t w x).size<=131719:=by
 unfold r9;have h1:=Er ((iI w x).map (dB t)) (λs hs=>by
  obtain⟨y,_,rfl⟩:=aoQ.1 hs;exact iU hf y)
 have h2:(iI w x).length<=(br w.tree x).length:=aqn _ _;have h3:=mI w.tree x;have h4:w.tree.bl.length=w.ae.length:=rfl;have h5:=hw.hT;have h6:=hw.hn;grind
theorem WD{t w}(hf:eJ t=true)(hw:ig t w):(wL t w).size<=150000:=by
 unfold wL;have h1:=iU hf (cL w);have h2:=uf hf (bu t (cL w)).Text;have h3:=wU hf hw (cL w);have e0:(ByteArray.mk #[]).size=0:=by decide
 have e1:(ByteArray.mk #[10]).size=1:=by decide
 have e2:(ByteArray.mk #[89,111,117,32,115,101,101,32]).size=8:=by decide
 have e3:(ByteArray.mk #[46,10]).size=2:=by decide
 have e4:(ByteArray.mk #[73,116,32,105,115,32,100,97,114,107,46,10]).size=12:=by decide
 grind
theorem LZ:∀k n,n<10^(k+1)->(gC n).size<=k+1
 | 0,n,h=>by
   rw[gC,if_pos (by omega)];exact Nat.le_of_eq rfl
 | k+1,n,h=>by
   rw[gC];split
   ·exact apr (Nat.le_of_eq rfl) (Nat.succ_le_succ (ap0 (k+1)))
   ·have:=LZ k (n / 10) (by
     omega)
    rw[ao6];have e:(ByteArray.mk #[UInt8.ofNat (48+n % 10)]).size=1:=rfl;omega
theorem aad{n}(h:aq n=n):(uD n).size<=150000:=by
 have hb:=cS n;have h1:=LZ 4 n.natAbs (by omega);unfold uD;split
 ·rw[ao6];have:(ByteArray.mk #[45]).size=1:=by decide
  omega
 ·omega
theorem lk{c w}:okW c w=true↔cK c.B.Tables w=true/\(0<=w.cO/\w.cO<18446744073709551616):=by
 simp[okW]
theorem acn s:0<=vd s/\vd s<18446744073709551616:=J9 _
theorem KH{α}(w:α) p:(jw w p).1=w:=by grind[jw]
theorem qD{l:List Int}{n}(h:eF n 0 (l.length-1)=true):fL l n:=by
 unfold eF at h;grind
theorem aco{c}{w}{e}{a}{loc}(hB:jI c.B)(aO:okW c w=true)(hb:im c.B.Tables e loc false=true)(um:e.Kind≠18)(oN:e.Kind≠15)(ha:a.length=e.aF.length):
  ∃w' o,dh c w e.Kind (lO e) a=some (w',o)/\okW c w'=true:=by
 have hW:=Jj hB.fits aO;have pr:∀p,∃w' o,some (jw w p)=some (w',o)/\okW c w'=true:=λp=>⟨(jw w p).1,(jw w p).2,rfl,by simp_all[KH]⟩
 rcases lj hb with⟨hk,hl⟩|⟨hk,hl⟩|⟨hk,hl⟩|⟨hk,_⟩
 ·rw[hl]at ha;obtain rfl:=apw.1 ha;rcases hk with hk|hk|hk|hk
  ·simp_all[lO,dh]
  ·have cq:fL w.aQ (lO e):=by
    unfold im at hb;rw[if_neg (by omega),if_pos hk,aoM]at hb;have h1:=qD hb.2;have h2:=hW.hG;grind[lO]
   exact⟨w,.bN (aA w.aQ (lO e)),by simp_all[dh],aO⟩
  ·omega
  simp_all[oq,lO,dh]
 ·rw[hl]at ha;obtain⟨x,rfl⟩:=Em ha;have hx:aA [x] 0=x:=rfl;rcases hk with hk|hk|hk|hk|hk|hk
  ·simp_all[dh]
  ·simp_all[dh]
  ·by_cases iQ:aq x<1
   ·simp_all[dh]
   ·refine⟨_,_,by simp[dh,aO,hk,hx,iQ];exact⟨rfl,rfl⟩,?_⟩;have h1:=lk.1 aO;refine lk.2 ⟨Wh h1.1 _,?_⟩;unfold kE;rw[if_neg iQ];exact acn _
  ·simp_all[Ul,lO,dh]
  ·simp_all[tl,lO,dh]
  simp_all[df,lO,dh]
 ·rw[hl]at ha;obtain⟨x,y,rfl⟩:=P9 ha;have hx:aA [x,y] 0=x:=rfl;have hy:aA [x,y] 1=y:=rfl;simp_all[dh]
 omega
theorem WE{c w p}(aO:okW c w=true)(h1:p.2=0->cK c.B.Tables p.1=true)(h2:p.1.cO=w.cO):okW c (ja w p).1=true:=by
 grind[ja,lk]
theorem L3 w x f on:(eb w x f on).1.cO=w.cO:=by grind[eb]
theorem acp t w x p n:(mW t w x p n).1.cO=w.cO:=by grind[mW]
theorem L4 t p:(pE t p).1.cO=p.1.cO:=by grind[pE]
theorem RX t w x:(iG t w x).1.cO=w.cO:=by
 unfold iG;split
 ·rfl
 ·rw[L4];unfold fC;split<;>rfl
theorem aae t w x to:(kW t w x to).1.cO=w.cO:=by
 unfold kW;split
 ·rfl
 ·rw[L4];unfold kX;split<;>(try split)<;>rfl
theorem L5{t x loc}(h:oT t x loc=true):(x.Kind=2\/x.Kind=3->0<=x.aL/\x.aL<loc)/\(x.Kind=11->0<=x.aL/\x.aL+1<loc)/\(x.Kind=23->fL t.aQ x.aL)/\(x.Kind=5\/x.Kind=6->0<=x.aL/\x.aL<t.Flags)/\(x.Kind=17\/x.Kind=18->fL t.eK x.aL):=by
 unfold oT at h;split at h
 ·refine⟨λhk=>?_,λhk=>?_,λhk=>?_,λhk=>?_,λhk=>?_⟩
  ·grind
  ·grind
  ·rw[if_neg (by omega),if_neg (by omega),if_pos hk]at h;exact qD h
  ·grind
  ·rw[if_neg (by omega),if_neg (by omega),if_neg (by omega),if_neg (by omega),if_neg (by omega),if_pos hk]at h;exact qD h
 grind
theorem acq{c}{w}{x}{a}{loc}(hB:jI c.B)(aO:okW c w=true)(hs:(jH x).1=true)(yE:oT c.B.Tables x loc=true)(hk:x.Kind≠1∧x.Kind≠2∧x.Kind≠3∧x.Kind≠9∧x.Kind≠10∧x.Kind≠11∧x.Kind≠12∧x.Kind≠21∧x.Kind≠22)(hl:a.length=x.aF.length)(hw:∀n∈a,aq n=n):
  ∃w' o,cE c w x.Kind x.aL a=some (w',o)/\okW c w'=true:=by
 have hW:=Jj hB.fits aO;obtain⟨hr,So⟩:=lk.1 aO;obtain⟨-,-,t23,t5,t17⟩:=L5 yE;obtain⟨k1,k2,k3,k9,rH,ub,Ji,LY,TG⟩:=hk;have pr:∀p:aj×Int,(p.2=0->cK c.B.Tables p.1=true)->p.1.cO=w.cO->∃w' o,some (ja w p)=some (w',o)/\okW c w'=true:=λp h1 h2=>⟨(ja w p).1,(ja w p).2,rfl,WE aO h1 h2⟩
 have lV:=(jW hB.fits).2.2.2.2.2.2.2.2;rcases yG hs with h|⟨h,ha⟩|⟨h,ha⟩|⟨h,ha⟩
 ·omega
 ·rw[ha]at hl;obtain⟨u,rfl⟩:=Em hl;have hu:aA [u] 0=u:=rfl;have hub:=cS u;rw[hw u (by simp)]at hub;rcases h with h|h|h|h|h|h|h|h|h|h|h|h|h|h|h<;>first|exact(by omega:False).elim|skip
  ·obtain⟨w',o,h1,h2⟩:=pr (eb w u x.aL true) (λ_=>Jb hr u x.aL true (t5 (.inl h)) lV.2) (L3 _ _ _ _);simp_all[cE]
  ·obtain⟨w',o,h1,h2⟩:=pr (eb w u x.aL false) (λ_=>Jb hr u x.aL false (t5 (.inr h)) lV.2) (L3 _ _ _ _);simp_all[cE]
  ·have cq:fL w.bc x.aL:=by have h1:=t17 (.inl h);have h2:=hW.hD;omega
   refine⟨{w with bc:=w.bc.set x.aL.toNat (if u<1 then 1 else u)},.bN 0,by simp_all[cE],lk.2 ⟨Ej hr _ _ ?_,So⟩⟩;omega
  ·have cq:fL w.aQ x.aL:=by have h1:=t23 h;have h2:=hW.hG;omega
   exact⟨{w with aQ:=w.aQ.set x.aL.toNat u},.bN 0,by simp_all[cE],lk.2 ⟨MC hr _ _ hub,So⟩⟩
  ·obtain⟨w',o,h1,h2⟩:=pr (iG c.B.Tables w u) (λh0=>P1 hr hW u h0) (RX _ _ _);simp_all[cE]
  ·simp_all[zR,cE,lk,RM,cS]
  ·by_cases hg:u<1\/12<u
   ·simp_all[cE]
   ·exact⟨{w with Go:=u},.bN 0,by simp_all[cE],lk.2 ⟨ab4 hr _ (by omega),So⟩⟩
  simp_all[cE]
 ·rw[ha]at hl;obtain⟨u,v,rfl⟩:=P9 hl;have hu:aA [u,v] 0=u:=rfl;have hv:aA [u,v] 1=v:=rfl;rcases h with h|h
  ·obtain⟨w',o,h1,h2⟩:=pr (mW c.B.Tables w u x.aL v) (λ_=>ZY hr u x.aL v) (acp _ _ _ _ _);simp_all[cE]
  ·obtain⟨w',o,h1,h2⟩:=pr (kW c.B.Tables w u v) (λh0=>Wj hr hW u v h0) (aae _ _ _ _);simp_all[cE]
 ·rw[ha]at hl;obtain rfl:=apw.1 hl;rcases h with h|h|h|h|h<;>first|exact(LY h).elim|skip
  ·have cq:fL w.bc x.aL:=by have h1:=t17 (.inr h);have h2:=hW.hD;omega
   exact⟨{w with bc:=w.bc.set x.aL.toNat 0},.bN 0,by simp_all[cE],lk.2 ⟨Ej hr _ _ (by omega),So⟩⟩
  ·simp_all[cE]
  ·simp_all[cE,lk,Ja]
  simp_all[cE,lk,Ja]
structure Rl(c:XC) (k:Int) (σ σ':XS):Prop where
 w:okW c σ'.W=true
 ls:σ'.Ls.length=σ.Ls.length
 dp:σ'.Dp=σ.Dp
 f1:σ.Fuel<=σ'.Fuel
 f2:σ'.Fuel<=max c.M 0
 out:(σ'.Out.size:Int)+1300000 *σ.Fuel<=σ.Out.size+k+1300000 *σ'.Fuel
structure Iv(c:XC) (σ:XS):Prop where
 w:okW c σ.W=true
 d0:0<=σ.Dp/\σ.Dp<=32
 f0:0<=σ.Fuel
 f2:σ.Fuel<=max c.M 0
 out:(σ.Out.size:Int)<=1300000 *σ.Fuel
theorem Iv.rl{c σ}(h:Iv c σ){k}(hk:0<=k):Rl c k σ σ:=⟨h.w,rfl,rfl,apD _,h.f2,by omega⟩
theorem Rl.trans{c k j σ aR ck}(h1:Rl c k σ aR)(h2:Rl c j aR ck){i}(hi:k+j<=i):Rl c i σ ck:=by
 obtain⟨a1,a2,a3,a4,a5,a6⟩:=h1;obtain⟨b1,b2,b3,b4,b5,b6⟩:=h2;exact⟨b1,by omega,by omega,by omega,b5,by omega⟩
theorem Rl.iv{c k σ σ'}(h:Rl c k σ σ')(hi:Iv c σ)(ho:(σ.Out.size:Int)+k<=1300000 *σ.Fuel):Iv c σ':=by
 obtain⟨a1,a2,a3,a4,a5,a6⟩:=h;obtain⟨b1,b2,b3,b4,b5⟩:=hi;exact⟨a1,by omega,by omega,a5,by omega⟩
def Aa(c:XC)(k:Int)(σ:XS)(f:Nat->Option (XS×OC)):Prop:=∃g σ' o,f g=some (σ',o)/\Rl c k σ σ'
theorem AN{c σ s}(hM:c.M<=1000000)(h:Iv c σ)(hs:s.size<=150000):∃σ' o,zX σ s=some (σ',o)/\Rl c 150000 σ σ':=by
 obtain⟨a1,a2,a3,a4,a5⟩:=h;refine⟨{σ with Out:=σ.Out++s,Wr:=true},.bN 0,by unfold zX;grind,⟨a1,rfl,rfl,apD _,a4,?_⟩⟩;grind
theorem Ht{c σ}(hM:c.M<=1000000)(h:Iv c σ):(∃σ',tL c σ=some (σ',.bN 0)/\Rl c (-1300000) σ σ'/\σ'.Fuel=σ.Fuel+1)\/tL c σ=some (σ,.bG 19):=by
 obtain⟨a1,a2,a3,a4,a5⟩:=h;unfold tL;rw[if_pos (by omega)];by_cases hc:c.M<σ.Fuel+1
 ·grind
 ·left;rw[if_neg hc];exact⟨_,rfl,⟨a1,rfl,rfl,by grind,by grind,by grind⟩,rfl⟩
section
variable {c : XC} (hB : jI c.B) (hM : c.M <= 1000000) {d loc : Int}
def Jl(c:XC)(d:Int):Prop:=∀σ r a,Iv c σ->σ.Dp=d->fL c.B.aK r->(a.length:Int)<=aA c.B.Tables.aM r->Aa c 0 σ (λg=>jh c g σ r a)
def WG(c:XC)(d loc:Int)(e:ay):Prop:=∀σ,Iv c σ->σ.Dp=d->(σ.Ls.length:Int)=loc->Aa c 0 σ (λg=>dR c g σ e)
theorem Hu:∀l,(∀e∈l,WG c d loc e)->∀σ,Iv c σ->σ.Dp=d->(σ.Ls.length:Int)=loc->∃g σ' o,dO c g σ l=some (σ',o)/\Rl c 0 σ σ'
 | [],_,σ,hi,hd,hl=>⟨1,σ,.inl [],by rfl,hi.rl (by omega)⟩
 | e::l,h,σ,hi,hd,hl=>by
   obtain⟨g1,aR,o1,h1,r1⟩:=h e (by simp) σ hi hd hl;have h1:dR c g1 σ e=some (aR,o1):=h1;cases o1 with
   | bN n=>
     obtain⟨g2,ck,o2,h2,r2⟩:=Hu l (λx hx=>h x (by grind)) aR (r1.iv hi (by have:=hi.out;omega)) (by rw[r1.dp];exact hd) (by rw[r1.ls];exact hl);have e1:=qC (apW g1 g2) h1;have e2:=BT (apP g1 g2) h2;cases o2 with
     | inl a=>exact⟨max g1 g2+1,ck,.inl (n::a),by simp_all[dO],r1.trans r2 (by omega)⟩
     | inr o=>exact⟨max g1 g2+1,ck,.inr o,by simp_all[dO],r1.trans r2 (by omega)⟩
   | bG x=>exact⟨g1+1,aR,.inr (.bG x),by rw[dO,h1],r1⟩
   | over=>exact⟨g1+1,aR,.inr .over,by rw[dO,h1],r1⟩
   | ret x=>exact⟨g1+1,aR,.inr (.ret x),by rw[dO,h1],r1⟩
theorem L6(hB:jI c.B){f}{n:Nat}(h:mu c.B.Tables f=n):fL c.B.Tables.cY f/\fL c.B.aK (aA c.B.Tables.cY f)/\(n:Int)<=aA c.B.Tables.aM (aA c.B.Tables.cY f)/\n<=8:=by
 unfold mu at h;split at h
 ·rename_i hc;rw[aoM]at hc;have h1:=qD hc.1;have h2:fL c.B.Tables.Params (aA c.B.Tables.cY f):=qD hc.2;have h3:=(oi hB.fits).2.1 _ h2.1 h2.2;have h4:aA c.B.Tables.Params (aA c.B.Tables.cY f)=n:=h;have h5:=hB.len;omega
 ·omega
theorem Fo(hB:jI c.B)(hc:Jl c d):∀n e,SizeOf.sizeOf e<n->cT c.B.Tables loc e false=true->WG c d loc e:=by
 intro n
 induction n with
 | zero=>simp
 | succ n ih=>
   intro e hn hb σ hi hd hl;rw[mQ,aoM,ph,aoP]at hb;obtain⟨hb,Ck⟩:=hb;have jT:∀x∈e.aF,WG c d loc x:=λx hx=>ih x (by have:=ay.qu hx;omega) (Ck x hx)
   have hi0:=hi.out;by_cases h6:e.Kind=6/\(e.Op=1\/e.Op=2)
   ·obtain⟨x,y,Ll⟩:∃x y,e.aF=[x,y]:=by
     rcases lj hb with⟨hk,_⟩|⟨hk,_⟩|⟨_,hl⟩|⟨hk,_⟩
     ·omega
     ·omega
     ·exact P9 hl
     ·omega
    obtain⟨g1,aR,o1,h1,r1⟩:=jT x (by grind) σ hi hd hl;have h1:dR c g1 σ x=some (aR,o1):=h1;cases o1 with
    | bN v=>
      by_cases hv:decide (v≠0)=decide (e.Op=1)
      ·refine⟨g1+1,aR,.bN (ez (decide (v≠0))),?_,r1⟩;simp_all[dR,if_pos]
      ·obtain⟨g2,ck,o2,h2,r2⟩:=jT y (by grind) aR (r1.iv hi (by omega)) (by rw[r1.dp];exact hd) (by rw[r1.ls];exact hl);have e1:=qC (apW g1 g2) h1;have e2:=qC (apP g1 g2) h2;have hr:=r1.trans r2 (i:=0) (by omega);cases o2 with
       | bN u=>
         refine⟨max g1 g2+1,ck,.bN (ez (decide (u≠0))),?_,hr⟩;simp_all[dR,max,if_pos,if_neg]
       | bG u=>
         refine⟨max g1 g2+1,ck,.bG u,?_,hr⟩;simp_all[dR,max,if_pos,if_neg]
       | over=>
         refine⟨max g1 g2+1,ck,.over,?_,hr⟩;simp_all[dR,max,if_pos,if_neg]
       | ret u=>
         refine⟨max g1 g2+1,ck,.ret u,?_,hr⟩;simp_all[dR,max,if_pos,if_neg]
    | bG u=>
      refine⟨g1+1,aR,.bG u,?_,r1⟩;simp_all[dR,if_pos]
    | over=>
      refine⟨g1+1,aR,.over,?_,r1⟩;simp_all[dR,if_pos]
    | ret u=>
      refine⟨g1+1,aR,.ret u,?_,r1⟩;simp_all[dR,if_pos]
   ·obtain⟨g1,aR,o1,h1,r1⟩:=Hu e.aF jT σ hi hd hl;have hsm:zu e.aF:=by
     show e.aF.length<=1000000;rcases lj hb with⟨_,hl⟩|⟨_,hl⟩|⟨_,hl⟩|⟨_,hl⟩
     ·omega
     ·omega
     ·omega
     ·have:=(L6 hB hl).2.2.2;omega
    rcases o1 with a|o
    ·have WH:a.length=e.aF.length:=((Ks hB g1).asks σ e.aF aR (.inl a) h1 loc Ck).2.2.1 a rfl;by_cases um:e.Kind=18
     ·have hp:mu c.B.Tables e.aL=e.aF.length:=by
       grind[lj]
      obtain⟨p1,p2,p3,p4⟩:=L6 hB hp;obtain⟨g2,ck,o2,h2,r2⟩:=hc aR (aA c.B.Tables.cY e.aL) a (r1.iv hi (by omega)) (by rw[r1.dp];exact hd) p2 (by omega);have e1:=BT (apW g1 g2) h1;have e2:=Wt (apP g1 g2) h2;refine⟨max g1 g2+1,(mL (ck,o2)).1,(mL (ck,o2)).2,?_,?_⟩
      ·simp_all[dR,max,if_neg,if_pos]
      ·have:(mL (ck,o2)).1=ck:=by grind[mL]
       rw[this];exact r1.trans r2 (by omega)
     ·have hv:∃ck o2,Kb c aR e a=some (ck,o2)/\Rl c 0 aR ck:=by
       have i1:=r1.iv hi (by omega);unfold Kb;by_cases oN:e.Kind=15
       ·have cq:fL aR.Ls e.aL:=by
         unfold im at hb;rw[if_neg (by omega),if_neg (by omega),if_pos oN]at hb;simp only[aoM,decide_eq_true_eq]at hb;exact⟨hb.1.2,by rw[r1.ls,hl];omega⟩
        exact⟨aR,.bN (aA aR.Ls e.aL),by grind,i1.rl (by omega)⟩
       ·obtain⟨w',o,Cq,IV⟩:=aco (a:=a) hB r1.w hb um oN WH;refine⟨{aR with W:=w'},o,by grind,⟨IV,rfl,rfl,apD _,i1.f2,by simp⟩⟩
      obtain⟨ck,o2,h2,r2⟩:=hv;refine⟨g1+1,(mL (ck,o2)).1,(mL (ck,o2)).2,?_,?_⟩
      ·simp_all[dR,if_neg]
      ·have:(mL (ck,o2)).1=ck:=by grind[mL]
       rw[this];exact r1.trans r2 (by omega)
    ·refine⟨g1+1,aR,o,?_,r1⟩;simp_all[dR,if_neg]
theorem aeK(hB:jI c.B)(hM:c.M<=1000000)(hc:Jl c d) e(hb:cT c.B.Tables loc e true=true) σ(hi:Iv c σ)(ho:(σ.Out.size:Int)+150000<=1300000 *σ.Fuel)(hd:σ.Dp=d)(hl:(σ.Ls.length:Int)=loc):Aa c 150000 σ (λg=>kF c g σ e):=by
 by_cases nt:e.Kind=19
 ·obtain⟨σ',o,h1,h2⟩:=AN (s:=oE c.B.Tables e.aL) hM hi (apr (uf hB.fits _) (by omega));exact⟨1,σ',o,by simp_all[kF],h2⟩
 ·by_cases gK:e.Kind=13
  ·obtain⟨x,hx,gT⟩:=TF hb gK;obtain⟨g1,aR,o1,h1,r1⟩:=Fo hB hc _ x (ao2 _) gT σ hi hd hl;cases o1 with
   | bN n=>
     obtain⟨σ',o,h2,r2⟩:=AN (s:=dB c.B.Tables n) hM (r1.iv hi (by omega)) (apr (iU hB.fits _) (by omega));exact⟨g1+1,σ',o,by simp_all[kF,if_pos],r1.trans r2 (by omega)⟩
   | bG u=>exact⟨g1+1,aR,.bG u,by simp_all[kF,if_pos],r1.trans ((r1.iv hi (by omega)).rl (k:=0) (by omega)) (by omega)⟩
   | over=>exact⟨g1+1,aR,.over,by simp_all[kF,if_pos],r1.trans ((r1.iv hi (by omega)).rl (k:=0) (by omega)) (by omega)⟩
   | ret u=>exact⟨g1+1,aR,.ret u,by simp_all[kF,if_neg],r1.trans ((r1.iv hi (by omega)).rl (k:=0) (by omega)) (by omega)⟩
  ·obtain⟨g1,aR,o1,h1,r1⟩:=Fo hB hc _ e (ao2 _) (Gj hb nt gK) σ hi hd hl;cases o1 with
   | bN n=>
     obtain⟨σ',o,h2,r2⟩:=AN hM (r1.iv hi (by omega)) (aad (Qb h1));exact⟨g1+1,σ',o,by simp_all[kF],r1.trans r2 (by omega)⟩
   | bG u=>exact⟨g1+1,aR,.bG u,by simp_all[kF],r1.trans ((r1.iv hi (by omega)).rl (k:=0) (by omega)) (by omega)⟩
   | over=>exact⟨g1+1,aR,.over,by simp_all[kF],r1.trans ((r1.iv hi (by omega)).rl (k:=0) (by omega)) (by omega)⟩
   | ret u=>exact⟨g1+1,aR,.ret u,by simp_all[kF],r1.trans ((r1.iv hi (by omega)).rl (k:=0) (by omega)) (by omega)⟩
theorem Qe(hB:jI c.B)(hM:c.M<=1000000)(hc:Jl c d):∀l,(∀e∈l,cT c.B.Tables loc e true=true)->∀σ,Iv c σ->(σ.Out.size:Int)+150000 *l.length<=1300000 *σ.Fuel->σ.Dp=d->(σ.Ls.length:Int)=loc->Aa c (150000 *l.length) σ (λg=>jy c g σ l)
 | [],_,σ,hi,_,hd,hl=>⟨1,σ,.bN 0,by rfl,hi.rl (by simp)⟩
 | e::l,h,σ,hi,ho,hd,hl=>by
   simp[aqT]at ho⊢;obtain⟨g1,aR,o1,h1,r1⟩:=aeK hB hM hc e (h e (by simp)) σ hi (by omega) hd hl;have i1:=r1.iv hi (by omega);have tz:Rl c (150000 *((l.length:Int)+1)) σ aR:=r1.trans (i1.rl (k:=0) (by omega)) (by omega);cases o1 with
   | bN n=>
     obtain⟨g2,ck,o2,h2,r2⟩:=Qe hB hM hc l (λx hx=>h x (by grind)) aR i1 (by have:=r1.out;omega) (by rw[r1.dp];exact hd) (by rw[r1.ls];exact hl);have e1:=Z4 (apW g1 g2) h1;have e2:=Wv (apP g1 g2) h2;exact⟨max g1 g2+1,ck,o2,by simp_all[jy],r1.trans r2 (by omega)⟩
   | bG u=>exact⟨g1+1,aR,.bG u,by simp_all[jy],tz⟩
   | over=>exact⟨g1+1,aR,.over,by simp_all[jy],tz⟩
   | ret u=>exact⟨g1+1,aR,.ret u,by simp_all[jy],tz⟩
end
end Go.Ab

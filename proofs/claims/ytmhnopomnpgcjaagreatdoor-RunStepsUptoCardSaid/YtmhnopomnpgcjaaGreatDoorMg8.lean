/-
  The texts Lmv Vmove Sh Shlay Vtl5 Bref21 Vtl1 Vtl2 Lgas Lgen2 Lgen3 Lgen4 Lgen5 Lgen6 Lgen7 Lgen8 Lgen9 Ltot Vtl3 Vtl6 Lreach Vtl7 E2 Vtl9 Vr1 Vr2 Vr3 Vr4 Vr4b Vr5 Vr6 Vtl8 Vtl10 Vtl11 Ltot2 Lthr, one behind the other.
-/
import Derived.Test.YtmhnopomnpgcjaaGreatDoorMg7
import Derived.Sort.Grow
import Derived.Deep.Draws
import Derived.Lib.LaidTab
import Derived.Shelf.LaysM
import Derived.Shelf.Strconv.Itoa3
import Derived.Test.YtmhnopomnpgcjaaGreatDoorProg
set_option linter.unusedSimpArgs false
set_option linter.unusedVariables false
namespace Go.Ab
theorem TG{w w1:ai}(hw:w.wf){ls:Int->List Int}(hn:iJ w1.tree w1.ah.length ls)(hlen:w1.ah.length=w.ah.length)(e:w1={w with ah:=w1.ah,Child:=w1.Child,Next:=w1.Next}):w1.wf:=by
 have l0:=ai.jB hw;have lc:w1.Child.length=w1.ah.length:=hn.lc;have ln:w1.Next.length=w1.ah.length:=hn.ln;have small:∀y:Int,y=0\/(1<=y/\y<w1.ah.length)->aN .i64 y:=by intro y hy;rw[aR];omega
 have pE:∀x:Int,0<=x->x<w1.ah.length->aL w1.ah x=0\/(1<=aL w1.ah x/\aL w1.ah x<w1.ah.length):=by
  intro x a b;by_cases h0:x=0
  ·subst h0;exact .inl hn.p0
  ·rcases hn.up x (by omega) b with h|h
   ·exact .inl h.1
   ·exact .inr h.1
 have abY:∀x:Int,0<=x->x<w1.ah.length->aL w1.Child x=0\/(1<=aL w1.Child x/\aL w1.Child x<w1.ah.length):=by
  intro x a b;by_cases h0:x=0
  ·subst h0;exact .inl hn.c0
  ·exact(hn.ch x (by omega) b).head
 have abZ:∀x:Int,0<=x->x<w1.ah.length->aL w1.Next x=0\/(1<=aL w1.Next x/\aL w1.Next x<w1.ah.length):=by
  intro x a b;by_cases h0:x=0
  ·subst h0;exact .inl hn.n0
  ·rcases hn.up x (by omega) b with h|h
   ·exact .inl h.2
   ·exact(hn.ch _ h.1.1 h.1.2).VX x h.2
 have L9:=hw;unfold ai.wf at L9;obtain⟨g1,g2,-,-,-,-,-,-,g3⟩:=L9;rw[e];unfold ai.wf;refine⟨g1,g2,by show w1.ah.length *8<=_;omega,λy hy=>?_,by show w1.Child.length *8<=_;omega,λy hy=>?_,by show w1.Next.length *8<=_;omega,λy hy=>?_,g3⟩
 ·obtain⟨i,a,b,rfl⟩:=xA hy;exact small _ (pE i a b)
 ·obtain⟨i,a,b,rfl⟩:=xA hy;exact small _ (abY i a (by have:(i:Int)<w1.Child.length:=b;omega))
 ·obtain⟨i,a,b,rfl⟩:=xA hy;exact small _ (abZ i a (by have:(i:Int)<w1.Next.length:=b;omega))
theorem Wn{t:aq}{w:ai}(aS:jM t w)(x:Int):(kH w x).1.wf/\(kH w x).1.ah.length=w.ah.length:=by
 unfold kH;split
 ·rename_i hx;have EG:=bG.1 hx;have hlen:(dv w x).ah.length=w.ah.length:=uT w x;have hn:iJ (dv w x).tree (dv w x).ah.length (λu=>if u=aL w.tree.bz x then(cz w.tree u).erase x else cz w.tree u):=by
   rw[vd,hlen];exact aS.nest.leave EG
  exact⟨TG aS.wf hn hlen (L8 w x),hlen⟩
 ·exact⟨aS.wf,rfl⟩
theorem acd{t:aq}{w:ai}(aS:jM t w)(x to:Int):(pW w x to).1.wf/\(pW w x to).1.ah.length=w.ah.length:=by
 unfold pW;split
 ·rename_i hx;rw[apP]at hx;have EG:=bG.1 hx.1;have Zx:=bG.1 hx.2;split
  ·exact⟨aS.wf,rfl⟩
  ·rename_i hm;have hlen:(ve w x to).ah.length=w.ah.length:=by
    show((dv w x).ah.set x.toNat to).length=_;rw[arx];exact uT w x
   have hn:=aS.nest.move EG Zx hm;rw[<-vd,<-IV,<-hlen]at hn;exact⟨TG aS.wf hn hlen (P2 w x to),hlen⟩
 ·exact⟨aS.wf,rfl⟩
end Go.Ab
namespace Go.Ab
set_option maxHeartbeats 4000000
set_option maxRecDepth 20000
open Go.Proofs Go.Proofs.Tryz
theorem pw(w:ai)(hw:w.wf):Pure prog 131 [.agg (w.enc.map .d)] (iD (gh w.tree 1)):=by
 have ht:=IU w hw 1;refine Pure.run func131 rfl (by simp) ?_;simp;intro bs;refine pC ht ?_;simp
theorem iT t x:Jf t x=gQ t x:=by
 grind[Jf,gQ,bW,decide]
def um(wb:Nat)(s:an)(F:Int)(m:aj)(L:aH):Prop:=∃b cs,L=bE wb s F m++ [(4,.box b 34 cs)]
theorem RL wb s F m S v n(hS:m.Stack=S++ [v,n])(hl:S.length≤100000)(hr:gQ s.Tables v=true):
  aE prog 214 [.bp 5003 0,iD 17] (bE wb s F m) (λr L=>r= .ret (.bM [.agg ((m.Told.World).enc.map .d),iD 12])/\um wb s F {m with Stack:=S} L):=by
 have mN:=fg wb s F m (S++ [v]) n (by grind) (by grind);have hp:=fg wb s F {m with Stack:=S++ [v]} S v rfl (by omega);have nC:=lL wb s F {m with Stack:=S} v;rw[iT,hr]at nC;unfold um bE at *;refine aE.nt [4,5] [5003,5004,5005,4] func214 rfl (by simp) ?_;simp[f214];intro bs cI;refine ar.ej [5003,5004,5005] rfl (mN) (by simp) rfl (by simp) rfl (by rfl) (by rfl) (by simp) (by simp) (by simp) (by simp) ?_;simp;refine ar.ej [5003,5004,5005] rfl (hp) (by simp) rfl (by simp) rfl (by rfl) (by rfl) (by simp) (by simp) (by simp) (by simp) ?_;simp;refine ar.ej [5003,5004,5005] rfl (nC) (by simp) rfl (by simp) rfl (by rfl) (by rfl) (by simp) (by simp) (by simp) (by simp) ?_;simp
theorem Wo wb s F m S v n(hS:m.Stack=S++ [v,n])(hl:S.length≤100000)(hr:gQ s.Tables v=false)(hw:ym m.Told.World) w1 e1(he:e1≠0)(nz:pW m.Told.World v n=(w1,e1)):
  aE prog 214 [.bp 5003 0,iD 17] (bE wb s F m) (λr L=>r= .ret (.bM [.agg ((w1).enc.map .d),iD e1])/\um wb s F {m with Stack:=S} L):=by
 have mN:=fg wb s F m (S++ [v]) n (by grind) (by grind);have hp:=fg wb s F {m with Stack:=S++ [v]} S v rfl (by omega);have nC:=lL wb s F {m with Stack:=S} v;rw[iT,hr]at nC;have hc:=Kh m.Told.World hw v n;rw[nz]at hc;unfold um bE at *;refine aE.nt [4,5] [5003,5004,5005,4] func214 rfl (by simp) ?_;simp[-cB,f214];intro bs cI;refine ar.ej [5003,5004,5005] rfl (mN) (by simp) rfl (by simp) rfl (by rfl) (by rfl) (by simp) (by simp) (by simp) (by simp) ?_;simp[-cB];refine ar.ej [5003,5004,5005] rfl (hp) (by simp) rfl (by simp) rfl (by rfl) (by rfl) (by simp) (by simp) (by simp) (by simp) ?_;simp[-cB];refine ar.ej [5003,5004,5005] rfl (nC) (by simp) rfl (by simp) rfl (by rfl) (by rfl) (by simp) (by simp) (by simp) (by simp) ?_;simp[-cB];refine pC hc ?_;simp[-cB];refine ar.fE rfl (g:=false) (x:=oD true) (λh=>by cases h) (by rfl) (by simp_all) (by simp) (by simp) rfl ?_;simp[-cB];refine ar.skip (by simp_all) (by simp) ?_;refine bf _ _ [] (by rfl) ?_;simp[-cB,he]
theorem Wp wb s F m S v n(hS:m.Stack=S++ [v,n])(hl:S.length≤100000)(hr:gQ s.Tables v=false)(hw:ym m.Told.World) w1(CO:w1.wf)(nz:pW m.Told.World v n=(w1,0))(hB:gQ s.Tables (gh w1.tree 1)=true):
  aE prog 214 [.bp 5003 0,iD 17] (bE wb s F m) (λr L=>r= .ret (.bM [.agg ((w1).enc.map .d),iD 0])/\um wb s F {m with Stack:=S} L):=by
 have mN:=fg wb s F m (S++ [v]) n (by grind) (by grind);have hp:=fg wb s F {m with Stack:=S++ [v]} S v rfl (by omega);have nC:=lL wb s F {m with Stack:=S} v;rw[iT,hr]at nC;have hc:=Kh m.Told.World hw v n;rw[nz]at hc;have hh:=pw w1 CO;have yJ:=lL wb s F {m with Stack:=S} (gh w1.tree 1);rw[iT,hB]at yJ;unfold um bE at *;refine aE.nt [4,5] [5003,5004,5005,4] func214 rfl (by simp) ?_;simp[-cB,f214];intro bs cI;refine ar.ej [5003,5004,5005] rfl (mN) (by simp) rfl (by simp) rfl (by rfl) (by rfl) (by simp) (by simp) (by simp) (by simp) ?_;simp[-cB];refine ar.ej [5003,5004,5005] rfl (hp) (by simp) rfl (by simp) rfl (by rfl) (by rfl) (by simp) (by simp) (by simp) (by simp) ?_;simp[-cB];refine ar.ej [5003,5004,5005] rfl (nC) (by simp) rfl (by simp) rfl (by rfl) (by rfl) (by simp) (by simp) (by simp) (by simp) ?_;simp[-cB];refine pC hc ?_;simp[-cB];refine ar.fE rfl (λ_=>hh) rfl (by rfl) (by simp) (by simp) rfl ?_;simp;refine ar.A3 (by rfl) (by simp) ?_;refine ar.ej [5003,5004,5005] rfl (yJ) (by simp) rfl (by simp) rfl (by rfl) (by rfl) (by simp) (by simp) (by simp) (by simp) ?_;simp
theorem Jk wb s F m S v n(hS:m.Stack=S++ [v,n])(hl:S.length≤100000)(hr:gQ s.Tables v=false)(hw:ym m.Told.World) w1(CO:w1.wf)(nz:pW m.Told.World v n=(w1,0))(hB:gQ s.Tables (gh w1.tree 1)=false):
  aE prog 214 [.bp 5003 0,iD 17] (bE wb s F m) (λr L=>r= .ret (.bM [.agg ((w1).enc.map .d),iD 12])/\um wb s F {m with Stack:=S} L):=by
 have mN:=fg wb s F m (S++ [v]) n (by grind) (by grind);have hp:=fg wb s F {m with Stack:=S++ [v]} S v rfl (by omega);have nC:=lL wb s F {m with Stack:=S} v;rw[iT,hr]at nC;have hc:=Kh m.Told.World hw v n;rw[nz]at hc;have hh:=pw w1 CO;have yJ:=lL wb s F {m with Stack:=S} (gh w1.tree 1);rw[iT,hB]at yJ;unfold um bE at *;refine aE.nt [4,5] [5003,5004,5005,4] func214 rfl (by simp) ?_;simp[-cB,f214];intro bs cI;refine ar.ej [5003,5004,5005] rfl (mN) (by simp) rfl (by simp) rfl (by rfl) (by rfl) (by simp) (by simp) (by simp) (by simp) ?_;simp[-cB];refine ar.ej [5003,5004,5005] rfl (hp) (by simp) rfl (by simp) rfl (by rfl) (by rfl) (by simp) (by simp) (by simp) (by simp) ?_;simp[-cB];refine ar.ej [5003,5004,5005] rfl (nC) (by simp) rfl (by simp) rfl (by rfl) (by rfl) (by simp) (by simp) (by simp) (by simp) ?_;simp[-cB];refine pC hc ?_;simp[-cB];refine ar.fE rfl (λ_=>hh) rfl (by rfl) (by simp) (by simp) rfl ?_;simp;refine ar.A3 (by rfl) (by simp) ?_;refine ar.ej [5003,5004,5005] rfl (yJ) (by simp) rfl (by simp) rfl (by rfl) (by rfl) (by simp) (by simp) (by simp) (by simp) ?_;simp[-cB]
theorem RM wb s F m S v(hS:m.Stack=S++ [v])(hl:S.length≤100000)(hr:gQ s.Tables v=true):
  aE prog 214 [.bp 5003 0,iD 18] (bE wb s F m) (λr L=>r= .ret (.bM [.agg ((m.Told.World).enc.map .d),iD 12])/\um wb s F {m with Stack:=S} L):=by
 have hp:=fg wb s F m S v hS (by omega);have nC:=lL wb s F {m with Stack:=S} v;rw[iT,hr]at nC;unfold um bE at *;refine aE.nt [4,5] [5003,5004,5005,4] func214 rfl (by simp) ?_;simp[f214];intro bs cI;refine ar.ej [5003,5004,5005] rfl (hp) (by simp) rfl (by simp) rfl (by rfl) (by rfl) (by simp) (by simp) (by simp) (by simp) ?_;simp;refine ar.ej [5003,5004,5005] rfl (nC) (by simp) rfl (by simp) rfl (by rfl) (by rfl) (by simp) (by simp) (by simp) (by simp) ?_;simp
theorem MT wb s F m S v(hS:m.Stack=S++ [v])(hl:S.length≤100000)(hr:gQ s.Tables v=false)(h1:v=1):
  aE prog 214 [.bp 5003 0,iD 18] (bE wb s F m) (λr L=>r= .ret (.bM [.agg ((m.Told.World).enc.map .d),iD 12])/\um wb s F {m with Stack:=S} L):=by
 have hp:=fg wb s F m S v hS (by omega);have nC:=lL wb s F {m with Stack:=S} v;rw[iT,hr]at nC;unfold um bE at *;subst h1;refine aE.nt [4,5] [5003,5004,5005,4] func214 rfl (by simp) ?_;simp[f214];intro bs cI;refine ar.ej [5003,5004,5005] rfl (hp) (by simp) rfl (by simp) rfl (by rfl) (by rfl) (by simp) (by simp) (by simp) (by simp) ?_;simp;refine ar.ej [5003,5004,5005] rfl (nC) (by simp) rfl (by simp) rfl (by rfl) (by rfl) (by simp) (by simp) (by simp) (by simp) ?_;simp
theorem Wq wb s F m S v(hS:m.Stack=S++ [v])(hl:S.length≤100000)(hr:gQ s.Tables v=false)(h1:v≠1)(hw:ym m.Told.World) w1 e1(he:e1≠0)(nz:kH m.Told.World v=(w1,e1)):
  aE prog 214 [.bp 5003 0,iD 18] (bE wb s F m) (λr L=>r= .ret (.bM [.agg ((w1).enc.map .d),iD e1])/\um wb s F {m with Stack:=S} L):=by
 have hp:=fg wb s F m S v hS (by omega);have nC:=lL wb s F {m with Stack:=S} v;rw[iT,hr]at nC;have hc:=D9 m.Told.World hw v;rw[nz]at hc;unfold um bE at *;refine aE.nt [4,5] [5003,5004,5005,4] func214 rfl (by simp) ?_;simp[f214];intro bs cI;refine ar.ej [5003,5004,5005] rfl (hp) (by simp) rfl (by simp) rfl (by rfl) (by rfl) (by simp) (by simp) (by simp) (by simp) ?_;simp;refine ar.ej [5003,5004,5005] rfl (nC) (by simp) rfl (by simp) rfl (by rfl) (by rfl) (by simp) (by simp) (by simp) (by simp) ?_;simp[-cB,h1];refine pC hc ?_;simp[-cB];refine ar.fE rfl (g:=false) (x:=oD true) (λh=>by cases h) (by rfl) (by simp_all) (by simp) (by simp) rfl ?_;simp[-cB];refine ar.skip (by simp_all) (by simp) ?_;refine bf _ _ [] (by rfl) ?_;simp[he]
theorem Ws wb s F m S v(hS:m.Stack=S++ [v])(hl:S.length≤100000)(hr:gQ s.Tables v=false)(h1:v≠1)(hw:ym m.Told.World) w1(CO:w1.wf)(nz:kH m.Told.World v=(w1,0))(hB:gQ s.Tables (gh w1.tree 1)=true):
  aE prog 214 [.bp 5003 0,iD 18] (bE wb s F m) (λr L=>r= .ret (.bM [.agg ((w1).enc.map .d),iD 0])/\um wb s F {m with Stack:=S} L):=by
 have hp:=fg wb s F m S v hS (by omega);have nC:=lL wb s F {m with Stack:=S} v;rw[iT,hr]at nC;have hc:=D9 m.Told.World hw v;rw[nz]at hc;have hh:=pw w1 CO;have yJ:=lL wb s F {m with Stack:=S} (gh w1.tree 1);rw[iT,hB]at yJ;unfold um bE at *;refine aE.nt [4,5] [5003,5004,5005,4] func214 rfl (by simp) ?_;simp[-cB,f214];intro bs cI;refine ar.ej [5003,5004,5005] rfl (hp) (by simp) rfl (by simp) rfl (by rfl) (by rfl) (by simp) (by simp) (by simp) (by simp) ?_;simp[-cB];refine ar.ej [5003,5004,5005] rfl (nC) (by simp) rfl (by simp) rfl (by rfl) (by rfl) (by simp) (by simp) (by simp) (by simp) ?_;simp[-cB,h1];refine pC hc ?_;simp[-cB];refine ar.fE rfl (λ_=>hh) rfl (by rfl) (by simp) (by simp) rfl ?_;simp[-cB];refine ar.A3 (by rfl) (by simp) ?_;refine ar.ej [5003,5004,5005] rfl (yJ) (by simp) rfl (by simp) rfl (by rfl) (by rfl) (by simp) (by simp) (by simp) (by simp) ?_;simp[-cB]
theorem Jl wb s F m S v(hS:m.Stack=S++ [v])(hl:S.length≤100000)(hr:gQ s.Tables v=false)(h1:v≠1)(hw:ym m.Told.World) w1(CO:w1.wf)(nz:kH m.Told.World v=(w1,0))(hB:gQ s.Tables (gh w1.tree 1)=false):
  aE prog 214 [.bp 5003 0,iD 18] (bE wb s F m) (λr L=>r= .ret (.bM [.agg ((w1).enc.map .d),iD 12])/\um wb s F {m with Stack:=S} L):=by
 have hp:=fg wb s F m S v hS (by omega);have nC:=lL wb s F {m with Stack:=S} v;rw[iT,hr]at nC;have hc:=D9 m.Told.World hw v;rw[nz]at hc;have hh:=pw w1 CO;have yJ:=lL wb s F {m with Stack:=S} (gh w1.tree 1);rw[iT,hB]at yJ;unfold um bE at *;refine aE.nt [4,5] [5003,5004,5005,4] func214 rfl (by simp) ?_;simp[f214];intro bs cI;refine ar.ej [5003,5004,5005] rfl (hp) (by simp) rfl (by simp) rfl (by rfl) (by rfl) (by simp) (by simp) (by simp) (by simp) ?_;simp[-cB];refine ar.ej [5003,5004,5005] rfl (nC) (by simp) rfl (by simp) rfl (by rfl) (by rfl) (by simp) (by simp) (by simp) (by simp) ?_;simp[-cB,h1];refine pC hc ?_;simp;refine ar.fE rfl (λ_=>hh) rfl (by rfl) (by simp) (by simp) rfl ?_;simp;refine ar.A3 (by rfl) (by simp) ?_;refine ar.ej [5003,5004,5005] rfl (yJ) (by simp) rfl (by simp) rfl (by rfl) (by rfl) (by simp) (by simp) (by simp) (by simp) ?_;simp
theorem P4{wb}{s}{F}{m m2}{k}{w:ai}{e}(h:aE prog 214 [.bp 5003 0,iD k] (bE wb s F m) (fun r L=>r= .ret (.bM [.agg (w.enc.map .d),iD e])∧um wb s F m2 L)):
  aE prog 214 [.bp 5003 0,iD k] (bE wb s F m) (λr L=>r= .ret (.bM [.agg (w.enc.map .d),iD e])/\L=bE wb s F m2):=by
 refine aE.wk h ?_;rintro r L ⟨rfl,b,cs,rfl⟩;refine⟨_,_,_,rfl,Wk.pick [0] [5003,5004,5005] (by rfl) (by decide) ?_,?_⟩
 ·simp[bE]
 ·simp[bE]
theorem Ma wb s F m S v n(hS:m.Stack=S++ [v,n])(hl:S.length≤100000)(aS:jM s.Tables m.Told.World) w' e(hv:oN s.Tables m.Told.World v n=(w',e)):
  aE prog 214 [.bp 5003 0,iD 17] (bE wb s F m) (λr L=>r= .ret (.bM [.agg (w'.enc.map .d),iD e])/\L=bE wb s F {m with Stack:=S}):=by
 refine P4 ?_;have CP:=acd aS v n;unfold oN at hv;cases hr:gQ s.Tables v with
 | true=>
   rw[hr,if_pos (by simp)]at hv;simp at hv;rw[<-hv.1,<-hv.2];exact RL wb s F m S v n hS hl hr
 | false=>
   rw[hr,if_neg (by simp)]at hv;cases hp:pW m.Told.World v n with
   | mk w1 e1=>
   rw[hp]at hv CP;unfold tY at hv;by_cases he:e1=0
   ·subst he;cases hB:gQ s.Tables (gh w1.tree 1)with
    | true=>
      rw[if_neg (by grind)]at hv;simp at hv;rw[<-hv.1,<-hv.2];exact Wp wb s F m S v n hS hl hr aS.PO w1 CP.1 hp hB
    | false=>
      rw[if_pos ⟨rfl,hB⟩]at hv;simp at hv;rw[<-hv.1,<-hv.2];exact Jk wb s F m S v n hS hl hr aS.PO w1 CP.1 hp hB
   ·rw[if_neg (by omega)]at hv;simp at hv;rw[<-hv.1,<-hv.2];exact Wo wb s F m S v n hS hl hr aS.PO w1 e1 he hp
theorem Mb wb s F m S v(hS:m.Stack=S++ [v])(hl:S.length≤100000)(aS:jM s.Tables m.Told.World) w' e(hv:kI s.Tables m.Told.World v=(w',e)):
  aE prog 214 [.bp 5003 0,iD 18] (bE wb s F m) (λr L=>r= .ret (.bM [.agg (w'.enc.map .d),iD e])/\L=bE wb s F {m with Stack:=S}):=by
 refine P4 ?_;have CP:=Wn aS v;unfold kI at hv;cases hr:gQ s.Tables v with
 | true=>
   rw[hr,if_pos (by simp)]at hv;simp at hv;rw[<-hv.1,<-hv.2];exact RM wb s F m S v hS hl hr
 | false=>
   by_cases h1:v=1
   ·rw[if_pos (by omega)]at hv;simp at hv;rw[<-hv.1,<-hv.2];exact MT wb s F m S v hS hl hr h1
   rw[hr,if_neg (by grind)]at hv;cases hp:kH m.Told.World v with
   | mk w1 e1=>
   rw[hp]at hv CP;unfold tY at hv;by_cases he:e1=0
   ·subst he;cases hB:gQ s.Tables (gh w1.tree 1)with
    | true=>
      rw[if_neg (by grind)]at hv;simp at hv;rw[<-hv.1,<-hv.2];exact Ws wb s F m S v hS hl hr h1 aS.PO w1 CP.1 hp hB
    | false=>
      rw[if_pos ⟨rfl,hB⟩]at hv;simp at hv;rw[<-hv.1,<-hv.2];exact Jl wb s F m S v hS hl hr h1 aS.PO w1 CP.1 hp hB
   ·rw[if_neg (by omega)]at hv;simp at hv;rw[<-hv.1,<-hv.2];exact Wq wb s F m S v hS hl hr h1 aS.PO w1 e1 he hp
theorem RN wb s F m i S v n w'(aP:i.Op=17)(hS:m.Stack=S++ [v,n])(hl:S.length<=100000)(aS:jM s.Tables m.Told.World)(hv:oN s.Tables m.Told.World v n=(w',0)):jX wb s F m i {m with Stack:=S,Told:={m.Told with World:=w'}}:=by
 have hm:=Ma wb s F m S v n hS hl aS w' 0 hv;unfold jX bE at *;refine aE.nt [] [5003,5004,5005] func143 rfl (by simp) ?_;simp[f143];intro bs cI;simp[-cB,aP];refine ar.ej [5003,5004,5005] rfl (hm) (by simp) rfl (by simp) rfl (by rfl) (by rfl) (by simp) (by simp) (by simp) (by simp) ?_;simp;refine ar.ej [] rfl (di) (by simp) rfl (by simp) rfl (by rfl) (by rfl) (by simp) (by simp) (by simp) (by simp) ?_;simp
theorem RO wb s F m i S v n w' e(he:e≠0)(aP:i.Op=17)(hS:m.Stack=S++ [v,n])(hl:S.length<=100000)(aS:jM s.Tables m.Told.World)(hv:oN s.Tables m.Told.World v n=(w',e)):EE wb s F m i e:=by
 refine⟨{m with Stack:=S},?_⟩;have hm:=Ma wb s F m S v n hS hl aS w' e hv;have hc:=iS e he;unfold bE at *;refine aE.nt [] [5003,5004,5005] func143 rfl (by simp) ?_;simp[f143];intro bs cI;simp[aP];refine ar.ej [5003,5004,5005] rfl (hm) (by simp) rfl (by simp) rfl (by rfl) (by rfl) (by simp) (by simp) (by simp) (by simp) ?_;simp;refine ar.ld [] rfl (hc) (by simp) rfl (by simp) (by rfl) (by rfl) (by simp) (by simp) (by simp) ?_;simp
theorem RQ wb s F m i S v w'(aP:i.Op=18)(hS:m.Stack=S++ [v])(hl:S.length<=100000)(aS:jM s.Tables m.Told.World)(hv:kI s.Tables m.Told.World v=(w',0)):jX wb s F m i {m with Stack:=S,Told:={m.Told with World:=w'}}:=by
 have hm:=Mb wb s F m S v hS hl aS w' 0 hv;unfold jX bE at *;refine aE.nt [] [5003,5004,5005] func143 rfl (by simp) ?_;simp[f143];intro bs cI;simp[aP];refine ar.ej [5003,5004,5005] rfl (hm) (by simp) rfl (by simp) rfl (by rfl) (by rfl) (by simp) (by simp) (by simp) (by simp) ?_;simp;refine ar.ej [] rfl (di) (by simp) rfl (by simp) rfl (by rfl) (by rfl) (by simp) (by simp) (by simp) (by simp) ?_;simp
theorem RR wb s F m i S v w' e(he:e≠0)(aP:i.Op=18)(hS:m.Stack=S++ [v])(hl:S.length<=100000)(aS:jM s.Tables m.Told.World)(hv:kI s.Tables m.Told.World v=(w',e)):EE wb s F m i e:=by
 refine⟨{m with Stack:=S},?_⟩;have hm:=Mb wb s F m S v hS hl aS w' e hv;have hc:=iS e he;unfold bE at *;refine aE.nt [] [5003,5004,5005] func143 rfl (by simp) ?_;simp[f143];intro bs cI;simp[aP];refine ar.ej [5003,5004,5005] rfl (hm) (by simp) rfl (by simp) rfl (by rfl) (by rfl) (by simp) (by simp) (by simp) (by simp) ?_;simp;refine ar.ld [] rfl (hc) (by simp) rfl (by simp) (by rfl) (by rfl) (by simp) (by simp) (by simp) ?_;simp
set_option maxHeartbeats 200000
set_option maxRecDepth 512
theorem aE.ace{P:Program}{f:FuncId}{args:List V}{v:Value}(hv:v.oneCell'=true)
  (h:∀(fo:FO) (m:Nat->Option Value) (w:World) (xs:Array Value),sb w (OO fo m)->iA w (OO fo m) m xs args->Calls P f xs w (λe w'=>e= .returned v/\∃k os,w'=Sort.grow (w.drewN k) os)):aE P f args [] (λr L=>r= .ret (.d (.v v))/\L=[]):=by
 intro fo m w xs hi hx;refine(h fo m w xs hi.ef hx).mono ?_;rintro e w' ⟨rfl,k,os,rfl⟩;have hs:w.heap.size<=(Sort.grow (w.drewN k) os).heap.size:=by show w.heap.size<=(w.heap++os).size;simp
 have hb:∀b,b<w.heap.size->(Sort.grow (w.drewN k) os).heap[b]?=w.heap[b]?:=by
  intro b hb;show(w.heap++os)[b]?=_;rw[Array.getElem?_append_left hb]
 exact⟨m,.ret (.d (.v v)),[],⟨rfl,rfl⟩,.d _ _ (.v _ hv),hi.grown hs hb,⟨rfl,rfl,rfl,hs,λb h _=>hb b h,λb _ h=>h⟩⟩
theorem P5{P:Program}{w:World}{O:Nat->Prop}{name:String}{k:IntKind}{g:Nat}{xs:List Int}(hn:P.globalNamed name=some g)(hm:(g,xs.map λx=>Value.int k x)∈yQ)(h:sb w O):Lib.TabIs P w name k xs:=by
 obtain⟨-,-,-,t,z,h4⟩:=h _ hm;unfold Lib.TabIs World.var?;rw[hn];simp only[arf];simp only at h4;rw[h4]
end Go.Ab
namespace Go.Proofs
open Go.Shelf
def Tryz.RS:Go.Shelf.Ren:=⟨λ|246=>240|283=>272|284=>273|285=>274|286=>275|129=>301|317=>300|318=>302|319=>303|320=>304|337=>308|338=>309|n=>n,λ|2=>2|3=>3|9=>9|4=>4|171=>256|0=>0|53=>32|37=>39|5=>5|173=>259|212=>271|51=>224|20=>20|213=>272|46=>130|232=>278|233=>279|n=>n,λ|17=>0|18=>1|19=>2|n=>n⟩
theorem Tryz.aeW:Go.Proofs.LaysM.n246 prog Tryz.RS:={
 mixed:=by kernel_rfl
 f129:=func301.trans (congrArg some (by kernel_rfl))
 f246:=func240.trans (congrArg some (by kernel_rfl))
 f283:=func272.trans (congrArg some (by kernel_rfl))
 f284:=func273.trans (congrArg some (by kernel_rfl))
 f285:=func274.trans (congrArg some (by kernel_rfl))
 f286:=func275.trans (congrArg some (by kernel_rfl))
 f317:=func300.trans (congrArg some (by kernel_rfl))
 f318:=func302.trans (congrArg some (by kernel_rfl))
 f319:=func303.trans (congrArg some (by kernel_rfl))
 f320:=func304.trans (congrArg some (by kernel_rfl))
 f337:=func308.trans (congrArg some (by kernel_rfl))
 f338:=func309.trans (congrArg some (by kernel_rfl))
 t0:=underlying0
 a0:=Tryz.isAgg0
 z0:=sizeOf0
 v0:=zeroValue0
 t2:=underlying2
 a2:=Tryz.isAgg2
 z2:=sizeOf2
 v2:=zeroValue2
 t3:=underlying3
 a3:=Tryz.isAgg3
 z3:=sizeOf3
 v3:=zeroValue3
 t4:=underlying4
 a4:=Tryz.isAgg4
 z4:=sizeOf4
 v4:=zeroValue4
 t5:=underlying5
 a5:=Tryz.isAgg5
 z5:=sizeOf5
 v5:=zeroValue5
 t9:=underlying9
 a9:=Tryz.isAgg9
 z9:=sizeOf9
 v9:=zeroValue9
 t20:=underlying20
 a20:=Tryz.isAgg20
 z20:=sizeOf20
 v20:=zeroValue20
 t37:=underlying39
 a37:=Tryz.isAgg39
 z37:=sizeOf39
 v37:=zeroValue39
 t46:=underlying130
 a46:=Tryz.isAgg130
 z46:=sizeOf130
 v46:=zeroValue130
 t51:=underlying224
 a51:=Tryz.isAgg224
 z51:=sizeOf224
 v51:=zeroValue224
 t53:=underlying32
 a53:=Tryz.isAgg32
 z53:=sizeOf32
 v53:=zeroValue32
 t171:=underlying256
 a171:=Tryz.isAgg256
 z171:=sizeOf256
 v171:=zeroValue256
 t173:=underlying259
 a173:=Tryz.isAgg259
 z173:=sizeOf259
 v173:=zeroValue259
 t212:=underlying271
 a212:=Tryz.isAgg271
 z212:=sizeOf271
 v212:=zeroValue271
 t213:=underlying272
 a213:=Tryz.isAgg272
 z213:=sizeOf272
 t232:=underlying278
 a232:=Tryz.isAgg278
 z232:=sizeOf278
 v232:=zeroValue278
 t233:=underlying279
 a233:=Tryz.isAgg279
 z233:=sizeOf279
 v233:=zeroValue279
 g17:=by kernel_rfl
 g18:=by kernel_rfl
 g19:=by kernel_rfl
 i0:=by kernel_rfl
 i2:=by kernel_rfl
 i3:=by kernel_rfl
 i4:=by kernel_rfl
 i5:=by kernel_rfl
 i9:=by kernel_rfl
 i20:=by kernel_rfl
 i37:=by kernel_rfl
 i46:=by kernel_rfl
 i51:=by kernel_rfl
 i53:=by kernel_rfl
 i171:=by kernel_rfl
 i173:=by kernel_rfl
 i212:=by kernel_rfl
 i232:=by kernel_rfl
 i233:=by kernel_rfl
 m17:=by kernel_rfl
 m18:=by kernel_rfl
 m19:=by kernel_rfl}
end Go.Proofs
namespace Go.Ab
open Go.Proofs Go.Proofs.Tryz
theorem iA.v2{w:World}{O:Nat->Prop}{m:Nat->Option Value}{xs:Array Value}{u v:Value}(h:iA w O m xs [.d (.v u),.d (.v v)]):xs= #[u,v]:=by
 obtain⟨h1,h2⟩:=h;simp at h1;have e0:=(h2 0 xs[0] _ (aqf (by omega)) rfl).cq;have e1:=(h2 1 xs[1] _ (aqf (by omega)) rfl).cq;refine Array.ext (by simpa using h1) (λi hi hj=>?_);have:i=0\/i=1:=by omega
 rcases this with rfl|rfl
 ·simpa using e0
 ·simpa using e1
theorem P6:∀(n N:Nat),N<=n->z8 N=⟨(Lib.decDigits N).toArray⟩:=by
 intro n
 induction n with
 | zero=>intro N hN;obtain rfl:N=0:=by omega
         rw[z8,if_pos (by decide),Lib.decDigits,dif_pos (by decide)]
 | succ n ih=>
   intro N hN;by_cases dX:N<10
   ·rw[z8,if_pos dX,Lib.decDigits,dif_pos dX]
   ·rw[z8,if_neg dX,Lib.decDigits,dif_neg dX,ih (N / 10) (by omega)];apply arV;rw[ari];simp
theorem ZJ(n:Int):yq n=⟨(Lib.itoa n).toArray⟩:=by
 unfold yq Lib.itoa;by_cases h:n<0
 ·rw[if_pos h,if_pos h,P6 _ _ (apU _)];apply arV;rw[ari];simp
 ·rw[if_neg h,if_neg h,P6 _ _ (apU _)];rw[show n.natAbs=n.toNat by omega]
theorem ZK:prog.globalNamed "internal/strconv.uint64pow10" =some 0:=by kernel_rfl
theorem Wt:(0,Lib.pow10Tab.map λx=>Value.int .u64 x)∈yQ:=aq5.2 (by kernel_rfl)
theorem P7(n:Int)(h:ax n=n):Pure prog 240 [iD n,iD 10] (.d (.v (.string (yq n)))):=by
 rw[jm]at h;refine⟨by kernel_rfl,by simp,by simp,(aE.ace (v:= .string (yq n)) rfl (λfo m w xs hg hx=>?_)).mono λ_ _ h=>h.1⟩;rw[hx.v2,ZJ];exact Any.internal_strconv_FormatInt_10 Tryz.aeW n (by omega) (by omega) w (P5 ZK Wt hg)
theorem P8(n:Int)(h:ax n=n):Pure prog 79 [iD n] (.d (.v (.string (yq n)))):=by
 have h4:=P7 n h;have h3:Pure prog 195 [iD n] (.d (.v (.string (yq n)))):=by
  refine Pure.run func195 rfl ⟨by simp[f195],by kernel_rfl,by simp,by simp⟩ ?_;simp[-cB,f195];refine pC h4 ?_;simp[-cB]
 have h2:Pure prog 129 [iD n] (.d (.v (.string (yq n)))):=by
  refine Pure.run func129 rfl ⟨by simp[f129],by kernel_rfl,by simp,by simp⟩ ?_;simp[-cB,f129];refine pC h3 ?_;simp[-cB]
 refine rn func79 ?_;simp[-cB,f79];refine pC h2 ?_;simp[-cB]
end Go.Ab
namespace Go.Ab
open Go.Proofs Go.Proofs.Tryz
set_option maxHeartbeats 4000000
set_option maxRecDepth 20000
theorem EH(t:aq)(i:Int):Pure prog 78 [.agg (t.enc.map .d),iD i] (.d (.v (.string (tX t i)))):=by
 unfold tX;by_cases h:i<0\/(t.gO.length:Int)<=i
 ·rw[if_pos h];have hb:(decide (i<0)||decide ((t.gO.length:Int)<=i))=true:=by simpa using h
  refine rn func78 ?_;simp[-cB,f78];intro bs;simp[-cB,hb]
 ·rw[if_neg h];have hb:(decide (i<0)||decide ((t.gO.length:Int)<=i))=false:=by simpa using h
  refine rn func78 ?_;simp[-cB,f78];intro bs;simp[-cB,hb];omega
theorem Co(t:aq)(x:Int):Pure prog 80 [.agg (t.enc.map .d),iD x] (.d (.v (.string (ix t x)))):=by
 unfold ix;by_cases h:x<1\/(t.aB.length:Int)<=x
 ·rw[if_pos h];have hb:(decide (x<1)||decide ((t.aB.length:Int)<=x))=true:=by simpa using h
  refine rn func80 ?_;simp[-cB,f80];intro bs;simp[-cB,hb];rfl
 ·rw[if_neg h];have hb:(decide (x<1)||decide ((t.aB.length:Int)<=x))=false:=by simpa using h
  have ay:x.toNat<t.aB.length:=by omega
  have h0:0<=x:=by omega
  have bR:bW t x=t.aB[x.toNat]:=by unfold bW;simp[anc ay]
  rw[bR];have ht:=EH t t.aB[x.toNat].mg;generalize tX t t.aB[x.toNat].mg=T at *;refine rn func80 ?_;simp[-cB,f80];intro bs;simp[-cB,hb];refine aw.cV [.d (.v (.string T))] bc (by kernel_rfl) (by rfl) ?_;simp[-cB,ay,h0];exact ht.ok _
def P9(t:aq)(w:ai)(out:List ByteArray)(b1 b2 b3:Nat):aH:=[(5401,.box b1 34 (w.enc.map .d)),(5402,.box b2 22 [.rv 5404]),(5403,.box b3 28 (t.enc.map .d)),(5404,.row 9 1 (dd (iI out)))]
def ZL(w:ai)(y:Int):Bool:=!ff w y 3&&decide (y≠1)
theorem Wu(t:aq)(w:ai)(hF:fS w)(y:Int)(hy:1≤y∧y < w.ah.length)(out:List ByteArray)(hl:out.length≤1000000)(b1 b2 b3:Nat):
  aE prog 199 [iD y,.bp 5401 0,.bp 5402 0,.bp 5403 0] (P9 t w out b1 b2 b3) (λr L=>r= .ret (.bM [])/\L=P9 t w (out++if ZL w y then [ix t y]else []) b1 b2 b3):=by
 have hlF:=hF.1;have ay:y.toNat<w.Flags.length:=by omega
 have h0:0<=y:=by omega
 have hg:w.Flags[y.toNat]?.getD 0=aC w.Flags y:=rfl;have hm:=hF.2 (aC w.Flags y) (by unfold aC;rw[anc ay];exact ap1 _);have Kz:=Tz (f:=3) hm (by omega);have hh:ff w y 3=decide (aC w.Flags y / (2^3:Nat) % 2=1):=by unfold ff;rw[bG.2 hy,ard]
 have ht:=Co t y;generalize ix t y=T at *;unfold ZL;rw[hh];by_cases h1:y=1
 ·simp only[h1,ne_eq,not_true,decide_false,Bool.and_false,aqq,if_false,aqp];unfold P9;refine rX [] [5401,5402,5403,5404] func199 ?_;simp[-cB,f199]
 ·have e3:IntKind.wrap .u64 3=3:=by decide
  rw[e3]at Kz;have aio:IntKind.wrap .i64 ((((aC w.Flags y).fdiv (2^min 3 IntKind.i64.bits) % 2^IntKind.i64.bits).toNat &&& 1 % 2^IntKind.i64.bits:Nat):Int)=aC w.Flags y / ((2^3:Nat):Int) % 2:=Kz;have bR:w.Flags[y.toNat]'ay=aC w.Flags y:=by rw[<-hg,anc ay];rfl
  have hqq:aC w.Flags y / ((2^3:Nat):Int) % 2=0\/aC w.Flags y / ((2^3:Nat):Int) % 2=1:=by omega
  clear Kz hh;unfold P9;refine rX [] [5401,5402,5403,5404] func199 ?_;simp[-cB,f199];simp[-cB,h1,h0,ay,hg];rw[bR,aio];generalize aC w.Flags y / ((2^3:Nat):Int) % 2=q at *;by_cases OD:q=1
  ·simp[OD]
  ·have hq0:q=0:=by omega
   simp[hq0,h1];refine aw.bI [Q3,Q0,Q0,Q0,none,none,none] [.d (.v (.string T))] bc (by kernel_rfl) ?_;simp[-cB];exact⟨ht.ok _,by omega⟩
def Cp(t:aq)(w:ai)(l:List Int):List ByteArray:=(l.filter (ZL w)).map (ix t)
theorem ZM(t:aq)(w:ai)(l:List Int)(y:Int):Cp t w (l++ [y])=Cp t w l++if ZL w y then [ix t y]else []:=by
 unfold Cp;rw[List.filter_append,aqM];cases h:ZL w y<;>simp[List.filter,h]
theorem acf(t:aq)(w:ai)(l:List Int):(Cp t w l).length<=l.length:=by unfold Cp;rw[aqg];exact List.length_filter_le _ _
theorem RT(t:aq)(w:ai)(x:Int):Cp t w (cz w.tree x)=(nX w x).map (ix t):=rfl
theorem Mc(t:aq)(w:ai)(hw:w.wf)(hC:w.Child.length=w.ah.length)(hN:w.Next.length=w.ah.length)(hF:fS w)(hn:w.ah.length≤100000)(x:Int):
  Pure prog 132 [.agg (t.enc.map .d),.agg (w.enc.map .d),iD x] (.d (.sl (iI ((nX w x).map (ix t))))):=by
 have hk:=Gc w hw hC hN x;have hlen:(cz w.tree x).length<=w.ah.length:=tc w.tree x;have gA:∀y∈cz w.tree x,1<=y/\y<w.ah.length:=λy hy=>vI hy
 rw[<-RT];generalize cz w.tree x=ks at *;refine rn func132 ?_;simp[-cB,f132];intro bs cI;refine pC hk ?_;simp[-cB];refine aw.weaken (s':=⟨[(7,.bp 5402 0),(8,.eW (.func 199) [] [.bp 5401 0,.bp 5402 0,.bp 5403 0]),(14,.d (.sl (aD ks))),(15,iD ks.length),(16,iD 0)],P9 t w [] (bs 1+1) (cI 0+1) (bs 0+1)⟩) (((Wk.qx 7 0 5404 (e:=9) (k:=1) rfl rfl (by simp[keys])).trans ((Wk.eR 4 5401 (by simp[keys])).trans ((Wk.eR 7 5402 (by simp[keys])).trans (Wk.eR 3 5403 (by simp[keys]))))).trans (Wk.pick [7,8,14,15,16] [5401,5402,5403,5404] (by rfl) (by decide) (by rfl))) ?_;unfold P9;refine aw.cX [7,8,14,15,16] ks.length (λi=> [(16,iD i)]) (λi=> [(5404,.row 9 1 (dd (iI (Cp t w (ks.take i)))))]) (λ_=>True) (by rfl) (by simp[Cp]) ?_;intro i hi _;rcases apW hi with ay|rfl
 ·have dw:(i:Int)<ks.length:=by omega
  have da:aN .i64 ((i:Int)+1):=iW;have hs:ks.take (i+1)=ks.take i++ [ks[i]]:=by rw[aqy,anc ay];rfl
  have hol:=acf t w (ks.take i);have ha:=Wu t w hF ks[i] (gA _ (ap1 ay)) (Cp t w (ks.take i)) (by rw[aqs]at hol;omega) (bs 1+1) (cI 0+1) (bs 0+1);rw[<-ZM,<-hs]at ha;unfold P9 at ha;simp[-cB,ay,dw];refine eD [5401,5402,5403,5404] ha ?_;simp[da];exact ay
 ·simp
set_option maxHeartbeats 200000
set_option maxRecDepth 512
def Sub{α:Type}(a b:Option α):Prop:=∀p,a=some p->b=some p
theorem Sub.refl{α:Type}(a:Option α):Sub a a:=λ_ h=>h
theorem Sub.none{α:Type}(b:Option α):Sub (none:Option α) b:=λ_ h=>by cases h
theorem Sub.ite{α:Type}{p:Prop}[Decidable p]{a b a' b':Option α}(h1:p->Sub a a')(h2:¬p->Sub b b'):Sub (if p then a else b) (if p then a' else b'):=by
 by_cases h:p
 ·rw[if_pos h,if_pos h];exact h1 h
 ·rw[if_neg h,if_neg h];exact h2 h
theorem Sub.map{α β:Type}{a b:Option α}(f:α->β)(h:Sub a b):Sub (a.map f) (b.map f):=by
 intro p hp;obtain⟨x,h1,h2⟩:=apN.1 hp;rw[h x h1,aqe,h2]
structure GM(c:XC) (g:Nat):Prop where
 ask:∀σ e,Sub (dP c g σ e) (dP c (g+1) σ e)
 asks:∀σ l,Sub (dL c g σ l) (dL c (g+1) σ l)
 call:∀σ r a,Sub (jo c g σ r a) (jo c (g+1) σ r a)
 block:∀σ l,Sub (dV c g σ l) (dV c (g+1) σ l)
 stmt:∀σ x,Sub (jH c g σ x) (jH c (g+1) σ x)
 KD:∀σ l,Sub (jI c g σ l) (jI c (g+1) σ l)
 say:∀σ x,Sub (kU c g σ x) (kU c (g+1) σ x)
 KE:∀σ x,Sub (gn c g σ x) (gn c (g+1) σ x)
 each:∀σ x,Sub (fu c g σ x) (fu c (g+1) σ x)
 Wv:∀σ x a,Sub (ij c g σ x a) (ij c (g+1) σ x a)
set_option maxHeartbeats 2000000 in
theorem r8(c:XC):∀g,GM c g:=by
 intro g
 induction g with
 | zero=>constructor<;>intros<;>simp only[dP,dL,jo,dV,jH,jI,kU,gn,fu,ij]<;>exact Sub.none _
 | succ g ih=>
   constructor
   ·intro σ e;rw[dP,dP];refine Sub.ite (λ_=>?_) (λ_=>?_)
    ·split
     ·rename_i x y _ _;cases hx:dP c g σ x with
      | none=>exact Sub.none _
      | some q=>
        rw[ih.ask _ _ q hx];obtain⟨aO,o⟩:=q;cases o with
        | bL l=>
          refine Sub.ite (λ_=>Sub.refl _) (λ_=>?_);cases hy:dP c g aO y with
          | none=>exact Sub.none _
          | some q=>rw[ih.ask _ _ q hy];exact Sub.refl _
        | _=>exact Sub.refl _
     ·exact Sub.none _
    ·refine Sub.ite (λ_=>Sub.none _) (λ_=>?_);cases hx:dL c g σ e.av with
     | none=>exact Sub.none _
     | some q=>
       rw[ih.asks _ _ q hx];obtain⟨aO,a|o⟩:=q
       ·refine Sub.ite (λ_=>Sub.ite (λ_=>Sub.map _ (ih.call _ _ _)) (λ_=>Sub.none _)) (λ_=>Sub.refl _)
       ·exact Sub.refl _
   ·intro σ l;cases l with
    | nil=>rw[dL,dL];exact Sub.refl _
    | cons e l=>
      rw[dL,dL];cases hx:dP c g σ e with
      | none=>exact Sub.none _
      | some q=>
        rw[ih.ask _ _ q hx];obtain⟨aO,o⟩:=q;cases o with
        | bL n=>
          simp only;cases hy:dL c g aO l with
          | none=>exact Sub.none _
          | some q=>rw[ih.asks _ _ q hy];exact Sub.refl _
        | _=>exact Sub.refl _
   ·intro σ r a;rw[jo,jo];refine Sub.ite (λ_=>Sub.refl _) (λ_=>Sub.ite (λ_=>Sub.refl _) (λ_=>Sub.ite (λ_=>?_) (λ_=>Sub.refl _)));cases hx:dV c g {σ with Dp:=σ.Dp+1,Ls:=a.map ax++List.replicate ((aC c.B.Tables.aJ r).toNat-a.length) 0} (c.B.aF[r.toNat]?.getD [])with
    | none=>exact Sub.none _
    | some q=>rw[ih.block _ _ q hx];exact Sub.refl _
   ·intro σ l;cases l with
    | nil=>rw[dV,dV];exact Sub.refl _
    | cons x l=>
      rw[dV,dV];cases hx:jH c g σ x with
      | none=>exact Sub.none _
      | some q=>
        rw[ih.stmt _ _ q hx];obtain⟨aO,o⟩:=q;cases o with
        | bL n=>exact ih.block _ _
        | _=>exact Sub.refl _
   ·intro σ x;rw[jH,jH];refine Sub.ite (λ_=>Sub.ite (λ_=>ih.KE _ _) (λ_=>Sub.none _)) (λ_=>?_);split
    ·refine Sub.ite (λ_=>Sub.none _) (λ_=>Sub.ite (λ_=>ih.KD _ _) (λ_=>?_));rename_i aO _ _ _ _;cases hx:dL c g aO x.av with
     | none=>exact Sub.none _
     | some q=>
       rw[ih.asks _ _ q hx];obtain⟨bV,a|o⟩:=q
       ·exact ih.Wv _ _ _
       ·exact Sub.refl _
    ·exact Sub.refl _
   ·intro σ l;cases l with
    | nil=>rw[jI,jI];exact Sub.refl _
    | cons x l=>
      rw[jI,jI];cases hx:kU c g σ x with
      | none=>exact Sub.none _
      | some q=>
        rw[ih.say _ _ q hx];obtain⟨aO,o⟩:=q;cases o with
        | bL n=>exact ih.KD _ _
        | _=>exact Sub.refl _
   ·intro σ e;rw[kU,kU];refine Sub.ite (λ_=>Sub.refl _) (λ_=>Sub.ite (λ_=>?_) (λ_=>?_))
    ·split
     ·rename_i x _ _;cases hx:dP c g σ x with
      | none=>exact Sub.none _
      | some q=>rw[ih.ask _ _ q hx];exact Sub.refl _
     ·exact Sub.none _
    ·cases hx:dP c g σ e with
     | none=>exact Sub.none _
     | some q=>rw[ih.ask _ _ q hx];exact Sub.refl _
   ·intro σ x;rw[gn,gn];split
    ·split
     ·rename_i aO _ _ _ e _ _;cases hx:dP c g aO e with
      | none=>exact Sub.none _
      | some q=>
        rw[ih.ask _ _ q hx];obtain⟨bV,o⟩:=q;cases o with
        | bL n=>
          refine Sub.ite (λ_=>Sub.refl _) (λ_=>?_);cases hy:dV c g bV x.Body with
          | none=>exact Sub.none _
          | some q=>
            rw[ih.block _ _ q hy];obtain⟨zJ,o⟩:=q;cases o with
            | bL n=>exact ih.KE _ _
            | _=>exact Sub.refl _
        | _=>exact Sub.refl _
     ·exact Sub.none _
    ·exact Sub.refl _
   ·intro σ x;rw[fu,fu];refine Sub.ite (λ_=>Sub.ite (λ_=>Sub.refl _) (λ_=>?_)) (λ_=>Sub.none _);split
    ·refine Sub.ite (λ_=>Sub.refl _) (λ_=>?_);rename_i aO _ _ _;cases hy:dV c g {aO with Ls:=aO.Ls.set (x.aI+1).toNat (dq aO.W 3 (aC aO.Ls x.aI)).1} x.Body with
     | none=>exact Sub.none _
     | some q=>
       rw[ih.block _ _ q hy];obtain⟨zJ,o⟩:=q;cases o with
       | bL n=>exact ih.each _ _
       | _=>exact Sub.refl _
    ·exact Sub.refl _
   ·intro σ x a;rw[ij,ij];refine Sub.ite (λ_=>Sub.refl _) (λ_=>Sub.ite (λ_=>Sub.ite (λ_=>ih.block _ _) (λ_=>Sub.none _)) (λ_=>Sub.ite (λ_=>Sub.ite (λ_=>Sub.ite (λ_=>Sub.refl _) (λ_=>ih.each _ _)) (λ_=>Sub.none _)) (λ_=>Sub.refl _)))
theorem adv{α:Type}{f:Nat->Option α}(h:∀g,Sub (f g) (f (g+1))):∀(k g:Nat),Sub (f g) (f (g+k))
 | 0,g=>Sub.refl _
 | k+1,g=>λp hp=>h _ p (adv h k g p hp)
theorem py{α:Type}{f:Nat->Option α}(h:∀g,Sub (f g) (f (g+1))){g g':Nat}(hg:g<=g'){p:α}(hp:f g=some p):f g'=some p:=by
 have:=adv h (g'-g) g p hp
 rwa[show g+(g'-g)=g' by omega]at this
theorem qJ{c:XC}{g g':Nat}(hg:g<=g'){σ:XS}{e:au}{p:XS×OC}(h:dP c g σ e=some p):dP c g' σ e=some p:=py (f:=λg=>dP c g σ e) (λg=>(r8 c g).ask σ e) hg h
theorem Cq{c:XC}{g g':Nat}(hg:g<=g'){σ:XS}{l:List au}{p:XS×(List Int ⊕ OC)}(h:dL c g σ l=some p):dL c g' σ l=some p:=py (f:=λg=>dL c g σ l) (λg=>(r8 c g).asks σ l) hg h
theorem Ww{c:XC}{g g':Nat}(hg:g<=g'){σ:XS}{r:Int}{a:List Int}{p:XS×OC}(h:jo c g σ r a=some p):jo c g' σ r a=some p:=py (f:=λg=>jo c g σ r a) (λg=>(r8 c g).call σ r a) hg h
theorem pz{c:XC}{g g':Nat}(hg:g<=g'){σ:XS}{l:List al}{p:XS×OC}(h:dV c g σ l=some p):dV c g' σ l=some p:=py (f:=λg=>dV c g σ l) (λg=>(r8 c g).block σ l) hg h
theorem Wx{c:XC}{g g':Nat}(hg:g<=g'){σ:XS}{x:al}{p:XS×OC}(h:jH c g σ x=some p):jH c g' σ x=some p:=py (f:=λg=>jH c g σ x) (λg=>(r8 c g).stmt σ x) hg h
theorem Wy{c:XC}{g g':Nat}(hg:g<=g'){σ:XS}{l:List au}{p:XS×OC}(h:jI c g σ l=some p):jI c g' σ l=some p:=py (f:=λg=>jI c g σ l) (λg=>(r8 c g).KD σ l) hg h
theorem ZN{c:XC}{g g':Nat}(hg:g<=g'){σ:XS}{e:au}{p:XS×OC}(h:kU c g σ e=some p):kU c g' σ e=some p:=py (f:=λg=>kU c g σ e) (λg=>(r8 c g).say σ e) hg h
theorem RU{c:XC}{g g':Nat}(hg:g<=g'){σ:XS}{x:al}{p:XS×OC}(h:gn c g σ x=some p):gn c g' σ x=some p:=py (f:=λg=>gn c g σ x) (λg=>(r8 c g).KE σ x) hg h
theorem Wz{c:XC}{g g':Nat}(hg:g<=g'){σ:XS}{x:al}{p:XS×OC}(h:fu c g σ x=some p):fu c g' σ x=some p:=py (f:=λg=>fu c g σ x) (λg=>(r8 c g).each σ x) hg h
theorem WA{c:XC}{g g':Nat}(hg:g<=g'){σ:XS}{x:al}{a:List Int}{p:XS×OC}(h:ij c g σ x a=some p):ij c g' σ x a=some p:=py (f:=λg=>ij c g σ x a) (λg=>(r8 c g).Wv σ x a) hg h
def wh(c:XC)(d:Nat)(l r:List ae)(S L:List Int)(σ:MS)(b:List ae)(S0:List Int)(σ':XS):OC->Prop
 | .bL n=>ax n=n/\cD c d l r S L σ b (n::S0) σ'.Ls (bY σ')
 | .bm x=>dC c d l r S L σ (.bm x (bY σ'))
 | .over=>dC c d l r S L σ (.over (bY σ'))
 | .ret _=>False
def er(c:XC)(d:Nat)(l r:List ae)(S L:List Int)(σ:MS)(b:List ae)(S0:List Int)(σ':XS):OC->Prop
 | .bL _=>cD c d l r S L σ b S0 σ'.Ls (bY σ')
 | .bm x=>dC c d l r S L σ (.bm x (bY σ'))
 | .over=>dC c d l r S L σ (.over (bY σ'))
 | .ret n=>dC c d l r S L σ (.ret n (bY σ'))
def HB(c:XC)(d:Nat)(l r:List ae)(S L:List Int)(σ:MS)(b:List ae)(S0:List Int)(σ':XS):List Int ⊕ OC->Prop
 | .inl a=>(∀n∈a,ax n=n)/\cD c d l r S L σ b (a.reverse++S0) σ'.Ls (bY σ')
 | .inr (.bm x)=>dC c d l r S L σ (.bm x (bY σ'))
 | .inr .over=>dC c d l r S L σ (.over (bY σ'))
 | .inr _=>False
theorem wh.pre{c:XC}{d:Nat}{l r r1:List ae}{S L S1 L1:List Int}{σ aO:MS}{b:List ae}{S0:List Int}{σ':XS}{o:OC}(h:cD c d l r S L σ r1 S1 L1 aO)(h2:wh c d l r1 S1 L1 aO b S0 σ' o):wh c d l r S L σ b S0 σ' o:=by
 cases o with
 | bL n=>exact⟨h2.1,h.trans h2.2⟩
 | bm x=>exact h.stop h2
 | over=>exact h.stop h2
 | ret n=>exact h2
theorem er.pre{c:XC}{d:Nat}{l r r1:List ae}{S L S1 L1:List Int}{σ aO:MS}{b:List ae}{S0:List Int}{σ':XS}{o:OC}(h:cD c d l r S L σ r1 S1 L1 aO)(h2:er c d l r1 S1 L1 aO b S0 σ' o):er c d l r S L σ b S0 σ' o:=by
 cases o with
 | bL n=>exact h.trans h2
 | bm x=>exact h.stop h2
 | over=>exact h.stop h2
 | ret n=>exact h.stop h2
theorem HB.toS{c:XC}{d:Nat}{l r b b':List ae}{S L:List Int}{σ:MS}{S0 S1:List Int}{σ':XS}{o:OC}(h:HB c d l r S L σ b S0 σ' (.inr o)):er c d l r S L σ b' S1 σ' o:=by
 cases o with
 | bL n=>exact h.elim
 | bm x=>exact h
 | over=>exact h
 | ret n=>exact h.elim
theorem HB.toE{c:XC}{d:Nat}{l r b b':List ae}{S L:List Int}{σ:MS}{S0 S1:List Int}{σ':XS}{o:OC}(h:HB c d l r S L σ b S0 σ' (.inr o)):wh c d l r S L σ b' S1 σ' o:=by
 cases o with
 | bL n=>exact h.elim
 | bm x=>exact h
 | over=>exact h
 | ret n=>exact h.elim
theorem qK(b:Bool):ax (gF b)=gF b:=by cases b<;>decide
theorem acg{c:XC}{d:Nat}{l:List ae}{i:ae}{b:List ae}{S S0 L:List Int}{σ:MS}{p:Option (ai×OC)}{Jm σ':XS}{o:OC}(hf:Go.Ab.flat i.Op)(hJ:instJ c i S L σ=jS true S0 L σ p)(EI:σ=bY Jm)(hL:L=Jm.Ls)
  (hp:p.map (λp=>(({Jm with W:=p.1}:XS),p.2))=some (σ',o)) (ho:∀n,o≠ .ret n) (hw:∀w x,p=some (w,.bm x)->w=Jm.W):wh c d l (i::b) S L σ b S0 σ' (nf (σ',o)).2:=by
 obtain⟨⟨w,o1⟩,h1,h2⟩:=apN.1 hp;simp only[apM]at h2;obtain⟨rfl,rfl⟩:=h2;rw[h1]at hJ;cases o1 with
 | bL n=>
   refine⟨wrap_wrap n,?_⟩;refine .flat hf ?_;rw[hJ,EI,hL];rfl
 | bm x=>
   have e:=hw w x h1;subst e;have:=dC.bm (c:=c) (d:=d) (l:=l) (r:=b) (σ:=σ) hf hJ;rw[EI]at this⊢;exact this
 | over=>
   have:=dC.over (c:=c) (d:=d) (l:=l) (r:=b) (σ:=σ) hf hJ;rw[EI]at this⊢;exact this
 | ret n=>exact(ho n rfl).elim
theorem Qa{α:Type}{p:Prop}[Decidable p]{a b x:α}{Q:Prop}(h:(if p then a else b)=x)(h1:a=x->Q)(h2:b=x->Q):Q:=by
 by_cases hp:p
 ·rw[if_pos hp]at h;exact h1 h
 ·rw[if_neg hp]at h;exact h2 h
theorem aeX{w w':ai}{p:Int×Int}{x:Int}(h:iV w p=(w',.bm x)):w'=w:=by
 unfold iV at h;split at h<;>simp at h
 exact h.1.symm
theorem ach{w w':ai}{p:ai×Int}{x:Int}(h:iy w p=(w',.bm x)):w'=w:=by
 unfold iy at h;split at h<;>simp at h
 exact h.1.symm
theorem aci{c:XC}{w w':ai}{k n:Int}{a:List Int}{o:OC}(h:dZ c w k n a=some (w',o)):(∀n,o≠ .ret n)/\(∀x,o= .bm x->w'=w):=by
 have key:∀p,iV w p=(w',o)->(∀n,o≠ .ret n)/\(∀x,o= .bm x->w'=w):=by
  intro p hp;refine⟨λn hn=>?_,λx hx=>?_⟩
  ·unfold iV at hp;split at hp<;>(rw[hn]at hp;simp at hp)
  ·rw[hx]at hp;exact aeX hp
 unfold dZ at h
 repeat' (refine Qa h (λh=>?_) (λh=>?_)<;>rename_i h9<;>clear h9)
 all_goals first
  | (simp only[akC]at h;exact key _ h)
  | (cases h;done)
  | (cases h;exact⟨λ_ hn=>(by cases hn),λ_ hx=>(by first|rfl|cases hx)⟩)
theorem Qb{c:XC}{w w':ai}{k n:Int}{a:List Int}{o:OC}(h:dk c w k n a=some (w',o)):(∀n,o≠ .ret n)/\(∀x,o= .bm x->w'=w):=by
 have key:∀p,iy w p=(w',o)->(∀n,o≠ .ret n)/\(∀x,o= .bm x->w'=w):=by
  intro p hp;refine⟨λn hn=>?_,λx hx=>?_⟩
  ·unfold iy at hp;split at hp<;>(rw[hn]at hp;simp at hp)
  ·rw[hx]at hp;exact ach hp
 unfold dk at h
 repeat' (refine Qa h (λh=>?_) (λh=>?_)<;>rename_i h9<;>clear h9)
 all_goals first
  | (simp only[akC]at h;exact key _ h)
  | (cases h;done)
  | (cases h;exact⟨λ_ hn=>(by cases hn),λ_ hx=>(by first|rfl|cases hx)⟩)
theorem acj{c:XC}{d:Nat}{l:List ae}{i:ae}{b:List ae}{S S0 L:List Int}{σ:MS}{p:Option (ai×OC)}{Jm σ':XS}{o:OC}(hf:Go.Ab.flat i.Op)(hJ:instJ c i S L σ=jS false S0 L σ p)(EI:σ=bY Jm)(hL:L=Jm.Ls)
  (hp:p.map (λp=>(({Jm with W:=p.1}:XS),p.2))=some (σ',o)) (ho:∀n,o≠ .ret n) (hw:∀w x,p=some (w,.bm x)->w=Jm.W):er c d l (i::b) S L σ b S0 σ' o:=by
 obtain⟨⟨w,o1⟩,h1,h2⟩:=apN.1 hp;simp only[apM]at h2;obtain⟨rfl,rfl⟩:=h2;rw[h1]at hJ;cases o1 with
 | bL n=>
   refine .flat hf ?_;rw[hJ,EI,hL];rfl
 | bm x=>
   have e:=hw w x h1;subst e;have:=dC.bm (c:=c) (d:=d) (l:=l) (r:=b) (σ:=σ) hf hJ;rw[EI]at this⊢;exact this
 | over=>
   have:=dC.over (c:=c) (d:=d) (l:=l) (r:=b) (σ:=σ) hf hJ;rw[EI]at this⊢;exact this
 | ret n=>exact(ho n rfl).elim
theorem lF{e:au}{n:Int}{op num named:Bool}(h:ec e n op num named=true):(e.av.length:Int)=n:=by
 unfold ec at h;simp only[apP,decide_eq_true_eq]at h;exact h.1.1.1
theorem lG{t:aq}{e:au}{loc:Int}(h:dH t e loc false=true):((e.Kind=1\/e.Kind=14\/e.Kind=15\/e.Kind=12)/\e.av.length=0)\/((e.Kind=4\/e.Kind=5\/e.Kind=11\/e.Kind=16\/e.Kind=17\/e.Kind=10)/\e.av.length=1)\/(e.Kind=6/\e.av.length=2)\/(e.Kind=18/\kL t e.aI=e.av.length):=by
 unfold dH at h;by_cases k1:e.Kind=1
 ·rw[if_pos k1,apP]at h;have:=lF h.1;omega
 rw[if_neg k1]at h;by_cases ZO:e.Kind=14
 ·rw[if_pos ZO,apP]at h;have:=lF h.1;omega
 rw[if_neg ZO]at h;by_cases ZP:e.Kind=15
 ·rw[if_pos ZP,apP,apP]at h;have:=lF h.1.1;omega
 rw[if_neg ZP]at h;by_cases Qc:e.Kind=19
 ·rw[if_pos Qc]at h;simp at h
 rw[if_neg Qc]at h;by_cases k4:e.Kind=4\/e.Kind=5\/e.Kind=11
 ·rw[if_pos k4]at h;have:=lF h;omega
 rw[if_neg k4]at h;by_cases Jo:e.Kind=13
 ·rw[if_pos Jo]at h;simp at h
 rw[if_neg Jo]at h;by_cases k6:e.Kind=6
 ·rw[if_pos k6,apP]at h;have:=lF h.1;omega
 rw[if_neg k6]at h;by_cases ZQ:e.Kind=16
 ·rw[if_pos ZQ,apP,apP]at h;have:=lF h.1.1;omega
 rw[if_neg ZQ]at h;by_cases ZR:e.Kind=17
 ·rw[if_pos ZR,apP]at h;have:=lF h.1;omega
 rw[if_neg ZR]at h;by_cases Gt:e.Kind=18
 ·rw[if_pos Gt,apP,decide_eq_true_eq]at h;exact Or.inr (Or.inr (Or.inr ⟨Gt,h.2⟩))
 rw[if_neg Gt]at h;by_cases oa:e.Kind=10
 ·rw[if_pos oa,apP]at h;have:=lF h.1;omega
 rw[if_neg oa]at h;by_cases CT:e.Kind=12
 ·rw[if_pos CT,apP]at h;have:=lF h.1;omega
 rw[if_neg CT]at h;cases h
theorem aeY{c:XC}{w:ai}{k n:Int}{a:List Int}{x:ai×OC}(h:dZ c w k n a=some x):okW c w=true:=by
 cases ho:okW c w with
 | true=>rfl
 | false=>unfold dZ at h;rw[if_pos ho]at h;cases h
theorem aeZ{c:XC}{w:ai}{k n:Int}{a:List Int}{x:ai×OC}(h:dk c w k n a=some x):okW c w=true:=by
 cases ho:okW c w with
 | true=>rfl
 | false=>unfold dk at h;rw[if_pos ho]at h;cases h
theorem ack(S L:List Int)(σ:MS)(p:Int×Int):some (A1 S L σ p)=jS true S L σ (some (iV σ.W p)):=by
 unfold A1 iV;split<;>rfl
theorem EJ{α:Type}{l:List α}(h:l.length=1):∃x,l=[x]:=by
 match l,h with
 | [x],_=>exact⟨x,rfl⟩
theorem Qd{α:Type}{l:List α}(h:l.length=2):∃x y,l=[x,y]:=by
 match l,h with
 | [x,y],_=>exact⟨x,y,rfl⟩
theorem inst_val{c:XC}{e:au}{a:List Int}{t:aq}{loc:Int}(hb:dH t e loc false=true)(vR:e.Kind≠18)(r6:e.Kind≠15)(ha:a.length=e.av.length)(S L:List Int)(σ:MS)(aS:okW c σ.W=true):
  Go.Ab.flat (cG e).Op/\instJ c (cG e) (a.reverse++S) L σ=jS true S L σ (dZ c σ.W e.Kind (lZ e) a):=by
 rcases lG hb with⟨hk,hl⟩|⟨hk,hl⟩|⟨hk,hl⟩|⟨hk,_⟩
 ·rw[hl]at ha;obtain rfl:=ap3.1 ha;rcases hk with hk|hk|hk|hk
  ·simp[cG,lZ,hk,instJ,dZ,aS,jS,ua]
  ·simp[cG,lZ,hk,instJ,dr,eQ,Go.Ab.flat]
  ·exact(r6 hk).elim
  ·simp[cG,lZ,hk,instJ,dr,eQ,Go.Ab.flat]
 ·rw[hl]at ha;obtain⟨x,rfl⟩:=EJ ha;have hx:aC [x] 0=x:=rfl;rcases hk with hk|hk|hk|hk|hk|hk
  ·simp[cG,lZ,hk,instJ,dr,dZ,aS,jS,adk,hx]
  ·refine⟨by simp[cG,hk,Eb],?_⟩;simp[cG,lZ,hk,instJ,dr,dZ,aS,jS,hx,notM,qK]
  ·simp[cG,lZ,hk,instJ,dr,eQ,Go.Ab.flat,dZ,aS,hx]
  ·simp[cG,lZ,hk,instJ,dr,eQ,Go.Ab.flat]
  ·simp[cG,lZ,hk,instJ,dr,eQ,Go.Ab.flat]
  ·simp[cG,lZ,hk,instJ,dr,eQ,Go.Ab.flat]
 ·rw[hl]at ha;obtain⟨x,y,rfl⟩:=Qd ha;have hx:aC [x,y] 0=x:=rfl;have hy:aC [x,y] 1=y:=rfl;refine⟨by simp[cG,hk,adj],?_⟩;simp[cG,lZ,hk,instJ,dr,dZ,aS,hx,hy,ack]
 ·exact(vR hk).elim
theorem ae0{c:XC}{σ σ':XS}{e:au}{a:List Int}{o:OC}{t:aq}{loc:Int}(h:Kl c σ e a=some (σ',o))(hb:dH t e loc false=true)(vR:e.Kind≠18)(ha:a.length=e.av.length)(d:Nat)(l b:List ae)(S:List Int):
  wh c d l (cG e::b) (a.reverse++S) σ.Ls (bY σ) b S σ' (nf (σ',o)).2/\σ'.Dp=σ.Dp:=by
 unfold Kl at h;by_cases r6:e.Kind=15
 ·rw[if_pos r6]at h;split at h
  ·rename_i cO;simp only[akC,apM]at h;obtain⟨rfl,rfl⟩:=h;have hl:a=[]:=by
    rcases lG hb with⟨hk,hl⟩|⟨hk,hl⟩|⟨hk,hl⟩|⟨hk,_⟩
    ·rw[hl]at ha;exact ap3.1 ha
    ·omega
    ·omega
    ·omega
   subst hl;refine⟨⟨wrap_wrap _,?_⟩,rfl⟩;refine .flat (by simp[cG,r6,Go.Ab.flat]) ?_;simp[cG,r6,instJ,cO]
  ·cases h
 ·rw[if_neg r6]at h;cases hv:dZ c σ.W e.Kind (lZ e) a with
  | none=>rw[hv]at h;cases h
  | some x=>
    have aS:=aeY hv;obtain⟨hf,hJ⟩:=inst_val hb vR r6 ha S σ.Ls (bY σ) aS;have agG:=λw' o1 (he:dZ c σ.W e.Kind (lZ e) a=some (w',o1))=>aci he
    refine⟨acg hf hJ rfl rfl h ?_ ?_,?_⟩
    ·obtain⟨w1,o1⟩:=x;have h2:=h;rw[hv]at h2;simp only[aqe,akC,apM]at h2;rw[<-h2.2];exact(agG w1 o1 hv).1
    ·intro w x1 hw;exact(agG w _ hw).2 x1 rfl
    ·rw[hv]at h;simp only[aqe,akC,apM]at h;rw[<-h.1]
def WL(l:List Int):Prop:=∀n∈l,ax n=n
theorem WL.get{l:List Int}(h:WL l)(i:Int):ax (aC l i)=aC l i:=by
 unfold aC;cases hx:l[i.toNat]? with
 | none=>rfl
 | some v=>exact h v (apT hx)
theorem WL.set{l:List Int}(h:WL l)(i:Nat){n:Int}(hn:ax n=n):WL (l.set i n):=by
 intro x hx;rcases ar1 hx with hx|hx
 ·exact h x hx
 ·rw[hx];exact hn
theorem jM.aip{t:aq}{w:ai}(h:jM t w)(k x:Int):0<=(dq w k x).1/\(dq w k x).1<128:=by
 have hl:=h.hT;have hn:=h.hn;unfold dq;by_cases hk:k=1\/k=2\/k=3
 ·rw[if_pos hk];by_cases hx:cT w.ah.length (ax x)=true
  ·rw[if_pos hx];have hb:=bG.1 hx;have e1:w.tree.bz=w.ah:=rfl;have e2:w.tree.jQ=w.Child:=rfl;have e3:w.tree.km=w.Next:=rfl;have AR:=h.nest.up _ hb.1 hb.2;have nT:=(h.nest.ch _ hb.1 hb.2).head;rw[e2]at nT;rw[e1,e3]at AR;show 0<=(if k=1 then _ else if k=2 then _ else _)/\(if k=1 then _ else if k=2 then _ else _)<128;split
   ·omega
   ·split
    ·omega
    ·rcases AR with⟨_,h0⟩|⟨h1,h2⟩
     ·omega
     ·have:=(h.nest.ch _ h1.1 h1.2).VX _ h2;rw[e3]at this;omega
  ·rw[if_neg hx];decide
 ·rw[if_neg hk];decide
theorem Jp{c:XC}{w:ai}(hf:fF c.B.Tables=true)(h:okW c w=true):jM c.B.Tables w:=by
 unfold okW at h;rw[apP,decide_eq_true_eq]at h;exact jM.of hf h.1 h.2
theorem Md{c:XC}{w:ai}(hf:fF c.B.Tables=true)(h:okW c w=true)(k x:Int):ax (dq w k x).1=(dq w k x).1:=by
 have:=(Jp hf h).aip k x;exact Tb (by omega)
def mS(x:al)(m:Int):Int:=if x.Kind=9 then(if x.bC=[]then m+1 else m+2)else if x.Kind=11 then m+2 else m
def kS(x:al)(m:Int):Int:=(aK x.av (mS x m)).2
def ni(x:al)(m:Int):List ae:=[⟨38,m⟩,⟨5,x.aI⟩,⟨25,m+1⟩,tick,⟨5,x.aI⟩,⟨19,3⟩,⟨6,x.aI+1⟩]++(aQ x.Body (kS x m)).1++ [⟨5,x.aI+1⟩,⟨6,x.aI⟩,⟨24,m⟩,⟨38,m+1⟩]
def kM(x:al)(m:Int):List ae:=
 if x.Kind=9 then(if x.bC=[]then [⟨25,m⟩]++(aQ x.Body (kS x m)).1++ [⟨38,m⟩]else [⟨25,m⟩]++(aQ x.Body (kS x m)).1++ [⟨24,m+1⟩,⟨38,m⟩]++(aQ x.bC (aQ x.Body (kS x m)).2).1++ [⟨38,m+1⟩])
 else if x.Kind=11 then [⟨19,2⟩,⟨6,x.aI⟩]++ni x m
 else [eS x.Kind x.aI]
theorem Me(x:al)(m:Int)(h1:x.Kind≠1)(dX:x.Kind≠10):(cU x m).1=tick::((aK x.av (mS x m)).1++kM x m):=by
 unfold kM kS mS;by_cases h9:x.Kind=9
 ·by_cases he:x.bC=[]
  ·rw[sz x m h9 he];simp[h9,he]
  ·rw[sA x m h9 he];simp[h9,he]
 ·by_cases fT:x.Kind=11
  ·rw[qg x m fT];simp[h9,fT,ni,kS,mS]
  ·rw[oB x m h9 dX fT h1];simp[h9,fT]
theorem HC{c:XC}{σ σ':XS}{o:OC}(h:tZ c σ=some (σ',o))(d:Nat)(l b:List ae)(S:List Int):
  σ'.Ls=σ.Ls/\σ'.Dp=σ.Dp/\σ'.W=σ.W/\((∃n,o= .bL n/\cD c d l (tick::b) S σ.Ls (bY σ) b S σ'.Ls (bY σ'))\/(o= .bm 19/\dC c d l (tick::b) S σ.Ls (bY σ) (.bm 19 (bY σ')))):=by
 unfold tZ at h;split at h
 ·rename_i hg;have mL:Go.Ab.flat tick.Op:=by simp[tick,Go.Ab.flat]
  split at h
  ·rename_i hm;simp only[akC,apM]at h;obtain⟨rfl,rfl⟩:=h;refine⟨rfl,rfl,rfl,Or.inr ⟨rfl,.bm mL ?_⟩⟩;simp[tick,instJ,bY,hg,hm]
  ·rename_i hm;simp only[akC,apM]at h;obtain⟨rfl,rfl⟩:=h;refine⟨rfl,rfl,rfl,Or.inl ⟨0,rfl,.flat mL ?_⟩⟩;simp[tick,instJ,bY,hg,hm]
 ·cases h
theorem FC{c:XC}{σ σ':XS}{o:OC}{s:ByteArray}(h:Ac σ s=some (σ',o)){i:ae}(hf:Go.Ab.flat i.Op){S S0:List Int}(hJ:instJ c i S σ.Ls (bY σ)=uB S0 σ.Ls (bY σ) s)(d:Nat)(l b:List ae):
  σ'.Ls=σ.Ls/\σ'.Dp=σ.Dp/\(∃n,o= .bL n)/\er c d l (i::b) S σ.Ls (bY σ) b S0 σ' o:=by
 unfold Ac at h;split at h
 ·rename_i hs;simp only[akC,apM]at h;obtain⟨rfl,rfl⟩:=h;refine⟨rfl,rfl,⟨0,rfl⟩,.flat hf ?_⟩;rw[hJ,uB,if_pos (by exact hs)];rfl
 ·cases h
structure uo(c:XC) (g:Nat):Prop where
 ask:∀σ e σ' o,dP c g σ e=some (σ',o)->∀loc,cw c.B.Tables loc e false=true->σ'.Dp=σ.Dp/\σ'.Ls=σ.Ls/\(WL σ.Ls->∀(m:Int) (l a b:List ae),l=a++((aT e m).1++b)->(bN l).Nodup->∀(d:Nat) (S:List Int),σ.Dp=d->
  wh c d l ((aT e m).1++b) S σ.Ls (bY σ) b S σ' o)
 asks:∀σ es σ' o,dL c g σ es=some (σ',o)->∀loc,(∀e∈es,cw c.B.Tables loc e false=true)->σ'.Dp=σ.Dp/\σ'.Ls=σ.Ls/\(∀a,o= .inl a->a.length=es.length)/\(WL σ.Ls->∀(m:Int) (l a b:List ae),l=a++((aK es m).1++b)->(bN l).Nodup->∀(d:Nat) (S:List Int),σ.Dp=d->
  HB c d l ((aK es m).1++b) S σ.Ls (bY σ) b S σ' o)
 call:∀σ r a σ' o,jo c g σ r a=some (σ',o)->σ'.Dp=σ.Dp/\σ'.Ls=σ.Ls/\∀(d:Nat),σ.Dp=d->(32<=d->o= .bm 17/\bY σ'=bY σ)/\(d<32->match o with
  | .bL n=>dC c (d+1) (bT c.B r) (bT c.B r) [] ((aX c).lo r a) (bY σ) (.ret n (bY σ'))
  | .bm x=>dC c (d+1) (bT c.B r) (bT c.B r) [] ((aX c).lo r a) (bY σ) (.bm x (bY σ'))
  | .over=>dC c (d+1) (bT c.B r) (bT c.B r) [] ((aX c).lo r a) (bY σ) (.over (bY σ'))
  | .ret _=>False)
 block:∀σ ls σ' o,dV c g σ ls=some (σ',o)->∀loc,(∀s∈ls,eL c.B.Tables loc s=true)->σ'.Dp=σ.Dp/\(WL σ.Ls->WL σ'.Ls/\∀(m:Int) (l a b:List ae),l=a++((aQ ls m).1++b)->(bN l).Nodup->∀(d:Nat) (S:List Int),σ.Dp=d->
  er c d l ((aQ ls m).1++b) S σ.Ls (bY σ) b S σ' o)
 stmt:∀σ x σ' o,jH c g σ x=some (σ',o)->∀loc,eL c.B.Tables loc x=true->σ'.Dp=σ.Dp/\(WL σ.Ls->WL σ'.Ls/\∀(m:Int) (l a b:List ae),l=a++((cU x m).1++b)->(bN l).Nodup->∀(d:Nat) (S:List Int),σ.Dp=d->
  er c d l ((cU x m).1++b) S σ.Ls (bY σ) b S σ' o)
 KD:∀σ es σ' o,jI c g σ es=some (σ',o)->∀loc,(∀e∈es,cw c.B.Tables loc e true=true)->σ'.Dp=σ.Dp/\σ'.Ls=σ.Ls/\(WL σ.Ls->∀(m:Int) (l a b:List ae),l=a++((cF es m).1++b)->(bN l).Nodup->∀(d:Nat) (S:List Int),σ.Dp=d->
  er c d l ((cF es m).1++b) S σ.Ls (bY σ) b S σ' o)
 say:∀σ e σ' o,kU c g σ e=some (σ',o)->∀loc,cw c.B.Tables loc e true=true->σ'.Dp=σ.Dp/\σ'.Ls=σ.Ls/\(WL σ.Ls->∀(m:Int) (l a b:List ae),l=a++((eM e m).1++b)->(bN l).Nodup->∀(d:Nat) (S:List Int),σ.Dp=d->
  er c d l ((eM e m).1++b) S σ.Ls (bY σ) b S σ' o)
 KE:∀σ x σ' o,gn c g σ x=some (σ',o)->x.Kind=10->∀loc,eL c.B.Tables loc x=true->σ'.Dp=σ.Dp/\(WL σ.Ls->WL σ'.Ls/\∀(m:Int) (l a b:List ae),l=a++((cU x m).1++b)->(bN l).Nodup->∀(d:Nat) (S:List Int),σ.Dp=d->
  er c d l ((cU x m).1++b) S σ.Ls (bY σ) b S σ' o)
 each:∀σ x σ' o,fu c g σ x=some (σ',o)->x.Kind=11->∀loc,eL c.B.Tables loc x=true->σ'.Dp=σ.Dp/\(WL σ.Ls->WL σ'.Ls/\∀(m:Int) (l a b:List ae),l=a++(ni x m++b)->(bN l).Nodup->∀(d:Nat) (S:List Int),σ.Dp=d->
  er c d l (ni x m++b) S σ.Ls (bY σ) b S σ' o)
 Wv:∀σ x v σ' o,ij c g σ x v=some (σ',o)->x.Kind≠1->x.Kind≠10->v.length=x.av.length->∀loc,eL c.B.Tables loc x=true->σ'.Dp=σ.Dp/\(WL σ.Ls->(∀n∈v,ax n=n)->WL σ'.Ls/\∀(m:Int) (l a b:List ae),l=a++(kM x m++b)->(bN l).Nodup->∀(d:Nat) (S:List Int),σ.Dp=d->
  er c d l (kM x m++b) (v.reverse++S) σ.Ls (bY σ) b S σ' o)
theorem Qe{c:XC}:∀{g:Nat} {es:List au} {σ σ':XS} {o:OC},dL c g σ es=some (σ',.inr o)->∀n,o≠ .bL n
 | 0,es,σ,σ',o,h=>by simp[dL]at h
 | g+1,[],σ,σ',o,h=>by rw[dL]at h;simp at h
 | g+1,e::es,σ,σ',o,h=>by
   rw[dL]at h;cases he:dP c g σ e with
   | none=>rw[he]at h;cases h
   | some p=>
     obtain⟨aO,o1⟩:=p;rw[he]at h;cases o1 with
     | bL n=>
       simp only at h;cases EK:dL c g aO es with
       | none=>rw[EK]at h;cases h
       | some q=>
         obtain⟨bV,o2⟩:=q;rw[EK]at h;rcases o2 with w|o2
         ·simp at h
         ·simp only[akC,apM,Sum.inr.injEq]at h;rw[<-h.2];exact Qe EK
     | bm x=>simp only[akC,apM,Sum.inr.injEq]at h;rw[<-h.2];intro n hn;cases hn
     | over=>simp only[akC,apM,Sum.inr.injEq]at h;rw[<-h.2];intro n hn;cases hn
     | ret x=>simp only[akC,apM,Sum.inr.injEq]at h;rw[<-h.2];intro n hn;cases hn
theorem Qf{c:XC}{g:Nat}{σ σ':XS}{e:au}{n:Int}(h:dP c g σ e=some (σ',.bL n)):ax n=n:=by
 have wt:∀b,ax (gF b)=gF b:=qK;cases g with
 | zero=>simp[dP]at h
 | succ g=>
   rw[dP]at h
   repeat' split at h
   all_goals (try (simp only[apN]at h))
   all_goals first
    | (cases h;done)
    | (simp only[akC,apM,OC.bL.injEq]at h;rw[<-h.2];exact wt _)
    | (obtain⟨⟨bV,o2⟩,_,h2⟩:=h
       cases o2<;>simp only[nf,apM,OC.bL.injEq,reduceCtorEq,and_false]at h2
       rw[<-h2.2];exact wrap_wrap _)
    | (rename_i hh;exact(hh _ _ h).elim)
    | (rename_i hh;simp only[akC,apM]at h;exact(Qe hh n h.2).elim)
theorem EL{c:XC}:∀{g:Nat} {es:List au} {σ σ':XS} {v:List Int},dL c g σ es=some (σ',.inl v)->∀n∈v,ax n=n
 | 0,es,σ,σ',v,h=>by simp[dL]at h
 | g+1,[],σ,σ',v,h=>by
   rw[dL]at h;simp only[akC,apM,Sum.inl.injEq]at h;intro n hn;rw[<-h.2]at hn;cases hn
 | g+1,e::es,σ,σ',v,h=>by
   rw[dL]at h;cases he:dP c g σ e with
   | none=>rw[he]at h;cases h
   | some p=>
     obtain⟨aO,o1⟩:=p;rw[he]at h;cases o1 with
     | bL n=>
       simp only at h;cases EK:dL c g aO es with
       | none=>rw[EK]at h;cases h
       | some q=>
         obtain⟨bV,o2⟩:=q;rw[EK]at h;rcases o2 with w|o2
         ·simp only[akC,apM,Sum.inl.injEq]at h;intro x hx;rw[<-h.2]at hx;rcases ap8.1 hx with rfl|hx
          ·exact Qf he
          ·exact EL EK x hx
         ·simp at h
     | bm x=>simp at h
     | over=>simp at h
     | ret x=>simp at h
structure gK(b:br):Prop where
 fits:fF b.Tables=true
 len:b.aF.length=b.Tables.Params.length
 bnd:∀r,eJ b.aF r->gH b.Tables (aC b.Tables.aJ r) (b.aF[r.toNat]?.getD [])=true
theorem acm:ax 1=1:=by decide
theorem EM:ax 0=0:=by decide
theorem cD.push{c d l r n S L σ}:cD c d l (⟨1,n⟩::r) S L σ r (ax n::S) L σ:= .flat ua (by rfl)
theorem cD.test{c d l r n v S L σ}:cD c d l (⟨11,n⟩::r) (v::S) L σ r (gF (decide (v≠0))::S) L σ:= .flat YA (by rfl)
theorem acn{c}{g}(ih:uo c g):∀σ e σ' o,dP c (g+1) σ e=some (σ',o)→∀loc,cw c.B.Tables loc e false=true→σ'.Dp=σ.Dp∧σ'.Ls=σ.Ls∧(WL σ.Ls→∀m l a b,l=a++((aT e m).1++b)→(bN l).Nodup→∀(d:Nat) S,σ.Dp=d→
  wh c d l ((aT e m).1++b) S σ.Ls (bY σ) b S σ' o):=by
 intro σ e σ' o h loc hb;rw[dP]at h;by_cases HD:e.Kind=6/\(e.Op=1\/e.Op=2)
 ·rw[if_pos HD]at h;obtain⟨x,y,ow⟩:=Gk hb HD.1;rw[ow]at h;simp only at h;have gS:=zF hb (x:=x) (by grind);have kW:=zF hb (x:=y) (by grind);cases hx:dP c g σ x with
  | none=>grind
  | some p=>
    obtain⟨aO,o1⟩:=p;rw[hx]at h;obtain⟨d1,l1,r1⟩:=ih.ask σ x aO o1 hx loc gS;have code:∀(m:Int) (b:List ae),∃(C:List ae),(aT e m).1++b=(aT x (m+2)).1++(⟨25,m⟩::C)/\C=(if e.Op=1 then⟨1,1⟩::⟨24,m+1⟩::⟨38,m⟩::((aT y (aT x (m+2)).2).1++(⟨11,0⟩::⟨38,m+1⟩::b))else(aT y (aT x (m+2)).2).1++(⟨11,0⟩::⟨24,m+1⟩::⟨38,m⟩::⟨1,0⟩::⟨38,m+1⟩::b)):=by
     intro m b;refine⟨_,?_,rfl⟩;by_cases ho:e.Op=1
     ·rw[uE e x y [] m HD.1 ho ow,if_pos ho];simp
     ·have Ax:e.Op=2:=HD.2.resolve_left ho;rw[sy e x y [] m HD.1 Ax ow,if_neg ho];simp
    cases o1 with
    | bm v=>
      simp only[akC,apM]at h;obtain⟨rfl,rfl⟩:=h;refine⟨d1,l1,λhW m l a b hl hu d S hd=>?_⟩;obtain⟨C,e1,_⟩:=code m b;rw[e1]at hl⊢;exact r1 hW (m+2) l a _ hl hu d S hd
    | over=>
      simp only[akC,apM]at h;obtain⟨rfl,rfl⟩:=h;refine⟨d1,l1,λhW m l a b hl hu d S hd=>?_⟩;obtain⟨C,e1,_⟩:=code m b;rw[e1]at hl⊢;exact r1 hW (m+2) l a _ hl hu d S hd
    | ret v=>
      simp only[akC,apM]at h;obtain⟨rfl,rfl⟩:=h;refine⟨d1,l1,λhW m l a b hl hu d S hd=>?_⟩;obtain⟨C,e1,_⟩:=code m b;rw[e1]at hl;exact(r1 hW (m+2) l a _ hl hu d S hd).elim
    | bL v=>
      simp only at h;by_cases hc:decide (v≠0)=decide (e.Op=1)
      ·rw[if_pos hc]at h;simp only[akC,apM]at h;obtain⟨rfl,rfl⟩:=h;refine⟨d1,l1,λhW m l a b hl hu d S hd=>?_⟩;obtain⟨C,e1,e2⟩:=code m b;rw[e1]at hl⊢;obtain⟨hv,rD⟩:=r1 hW (m+2) l a _ hl hu d S hd;refine⟨qK _,rD.trans ?_⟩;by_cases ho:e.Op=1
       ·rw[if_pos ho]at e2;have AA:v≠0:=by grind
        subst e2;refine(cD.Fx (by omega)).trans (cD.push.trans ?_);refine(cD.jump (a:=a++((aT x (m+2)).1++(⟨25,m⟩::⟨1,1⟩::⟨24,m+1⟩::⟨38,m⟩::((aT y (aT x (m+2)).2).1++ [⟨11,0⟩])))) (b:=b) (by grind) hu).trans ?_;grind[gF,decide,ax,acm,cD.refl]
       ·rw[if_neg ho]at e2;have AA:v=0:=by grind
        subst e2;refine(cD.Fw (a:=a++((aT x (m+2)).1++(⟨25,m⟩::((aT y (aT x (m+2)).2).1++ [⟨11,0⟩,⟨24,m+1⟩])))) (b:=⟨1,0⟩::⟨38,m+1⟩::b) (by grind) hu (by omega)).trans ?_;refine cD.push.trans (cD.label.trans ?_);grind[gF,decide,ax,EM,cD.refl]
      ·rw[if_neg hc]at h;cases hy:dP c g aO y with
       | none=>grind
       | some q=>
         obtain⟨bV,o2⟩:=q;rw [hy]at h;obtain⟨d2,l2,r2⟩:=ih.ask aO y bV o2 hy loc kW;have to2:WL σ.Ls→∀(m:Int) (l a b:List ae),l=a++((aT e m).1++b)→(bN l).Nodup→∀(d:Nat) (S:List Int),σ.Dp=d→
           ∃b2,cD c d l ((aT e m).1++b) S σ.Ls (bY σ) ((aT y (aT x (m+2)).2).1++(⟨11,0⟩::b2)) S aO.Ls (bY aO)/\(∀u,cD c d l b2 [u] bV.Ls (bY bV) b [u] bV.Ls (bY bV))/\(∀u S,cD c d l b2 (u::S) bV.Ls (bY bV) b (u::S) bV.Ls (bY bV))/\∃a2,l=a2++((aT y (aT x (m+2)).2).1++(⟨11,0⟩::b2)):=by
          intro hW m l a b hl hu d S hd;obtain⟨C,e1,e2⟩:=code m b;rw[e1]at hl⊢;obtain⟨hv,rD⟩:=r1 hW (m+2) l a _ hl hu d S hd;by_cases ho:e.Op=1
          ·rw[if_pos ho]at e2;have AA:v=0:=by
            grind
           subst e2;refine⟨⟨38,m+1⟩::b,rD.trans (cD.Fw (a:=a++((aT x (m+2)).1++ [⟨25,m⟩,⟨1,1⟩,⟨24,m+1⟩])) (by grind) hu (by omega)),λu=> .label,λu S=> .label,a++((aT x (m+2)).1++ [⟨25,m⟩,⟨1,1⟩,⟨24,m+1⟩,⟨38,m⟩]),by grind⟩
          ·rw[if_neg ho]at e2;have AA:v≠0:=by
            grind
           subst e2;refine⟨⟨24,m+1⟩::⟨38,m⟩::⟨1,0⟩::⟨38,m+1⟩::b,rD.trans (cD.Fx (by omega)),?_,?_,a++((aT x (m+2)).1++ [⟨25,m⟩]),by grind⟩
           ·intro u;exact cD.jump (a:=a++((aT x (m+2)).1++(⟨25,m⟩::((aT y (aT x (m+2)).2).1++ [⟨11,0⟩,⟨24,m+1⟩,⟨38,m⟩,⟨1,0⟩])))) (b:=b) (by grind) hu
           ·intro u S;exact cD.jump (a:=a++((aT x (m+2)).1++(⟨25,m⟩::((aT y (aT x (m+2)).2).1++ [⟨11,0⟩,⟨24,m+1⟩,⟨38,m⟩,⟨1,0⟩])))) (b:=b) (by grind) hu
         have nE:WL σ.Ls->WL aO.Ls:=λhW=>by grind
         cases o2 with
         | bL u=>
           simp only[akC,apM]at h;obtain⟨rfl,rfl⟩:=h;refine⟨d2.trans d1,l2.trans l1,λhW m l a b hl hu d S hd=>?_⟩;obtain⟨b2,g1,_,g2,a2,nv⟩:=to2 hW m l a b hl hu d S hd;obtain⟨nM,g3⟩:=r2 (nE hW) _ l a2 _ nv hu d S (d1.trans hd);exact⟨qK _,g1.trans (g3.trans (cD.test.trans (g2 _ _)))⟩
         | bm u=>
           simp only[akC,apM]at h;obtain⟨rfl,rfl⟩:=h;refine⟨d2.trans d1,l2.trans l1,λhW m l a b hl hu d S hd=>?_⟩;obtain⟨b2,g1,_,g2,a2,nv⟩:=to2 hW m l a b hl hu d S hd;exact g1.stop (r2 (nE hW) _ l a2 _ nv hu d S (d1.trans hd))
         | over=>
           simp only[akC,apM]at h;obtain⟨rfl,rfl⟩:=h;refine⟨d2.trans d1,l2.trans l1,λhW m l a b hl hu d S hd=>?_⟩;obtain⟨b2,g1,_,g2,a2,nv⟩:=to2 hW m l a b hl hu d S hd;exact g1.stop (r2 (nE hW) _ l a2 _ nv hu d S (d1.trans hd))
         | ret u=>
           simp only[akC,apM]at h;obtain⟨rfl,rfl⟩:=h;refine⟨d2.trans d1,l2.trans l1,λhW m l a b hl hu d S hd=>?_⟩;obtain⟨b2,g1,_,g2,a2,nv⟩:=to2 hW m l a b hl hu d S hd;exact(r2 (nE hW) _ l a2 _ nv hu d S (d1.trans hd)).elim
 ·rw[if_neg HD]at h;by_cases hs:zw e.av
  ·rw[if_neg (by omega)]at h;cases ha:dL c g σ e.av with
   | none=>grind
   | some p=>
     obtain⟨aO,o1⟩:=p;rw[ha]at h;rw[iP,apP]at hb;obtain⟨my,wx⟩:=hb;rw[jd,apR]at wx;obtain⟨d1,l1,n1,r1⟩:=ih.asks σ e.av aO o1 ha loc wx;have nE:WL σ.Ls->WL aO.Ls:=λhW=>by grind
     have code:∀(m:Int) (b:List ae),(aT e m).1++b=(aK e.av m).1++(cG e::b):=by
      intro m b;rw[oz e m HD];simp
     rcases o1 with v|o1
     ·simp only at h;have hlen:=n1 v rfl;by_cases vR:e.Kind=18
      ·rw[if_pos vR]at h;split at h
       ·rename_i cO;obtain⟨⟨bV,o2⟩,pR,h2⟩:=apN.1 h;obtain⟨d2,l2,r2⟩:=ih.call aO _ v bV o2 pR;have EI:σ'=bV:=by
         have:=congrArg Prod.fst h2;unfold nf at this;grind
        have ZS:o=(nf (bV,o2)).2:=(congrArg Prod.snd h2).symm;subst EI;refine⟨d2.trans d1,l2.trans l1,λhW m l a b hl hu d S hd=>?_⟩;rw[code]at hl⊢;obtain⟨Mf,g1⟩:=r1 hW m l a _ hl hu d S hd;obtain⟨q1,q2⟩:=r2 d (d1.trans hd);have fb:cG e=⟨26,e.aI⟩:=by simp[cG,vR]
        have Gr:(aX c).fn e.aI=aC c.B.Tables.cS e.aI:=if_pos cO;have pE:(aX c).pa ((aX c).fn e.aI)=v.length:=by
         rw[Gr];rcases lG my with⟨hk,_⟩|⟨hk,_⟩|⟨hk,_⟩|⟨_,hp⟩
         ·omega
         ·omega
         ·omega
         ·have bU:kL c.B.Tables e.aI≠ -1:=by omega
          unfold kL at hp bU;split at hp
          ·rename_i On;show(aC c.B.Tables.Params (aC c.B.Tables.cS e.aI)).toNat=v.length;grind[aC]
          omega
        rw[fb]at hl g1⊢;refine wh.pre g1 ?_;by_cases iE:32<=d
        ·obtain⟨ho,hm⟩:=q1 iE;subst ho;subst ZS;show dC c d l (⟨26,e.aI⟩::b) (v.reverse++S) aO.Ls (bY aO) (.bm 17 (bY σ'));rw[hm];have CL:0<=(aX c).fn e.aI:=by
          rw[Gr];rcases lG my with⟨hk,_⟩|⟨hk,_⟩|⟨hk,_⟩|⟨_,hp⟩
          ·omega
          ·omega
          ·omega
          ·have bU:kL c.B.Tables e.aI≠ -1:=by omega
           unfold kL at bU;split at bU
           ·rename_i On;rw[apP]at On;grind[eE,aC]
           omega
         exact⟨1,1,by rw[run,BZ rfl,if_pos iE];grind⟩
        ·have hq:=q2 (by omega);have sS:nx (aX c) d l ⟨26,e.aI⟩ b (v.reverse++S) aO.Ls (bY aO)= .call (aC c.B.Tables.cS e.aI) v S:=by
          rw[BZ rfl,if_neg iE];grind
         cases o2 with
         | bL n=>
           subst ZS;refine⟨wrap_wrap _,?_⟩;intro g' o' k' hr;obtain⟨gc,kc,hc⟩:=hq;refine⟨gc+g'+1,k'+kc+1,?_⟩;rw[l2]at hr;rw[run,sS];simp only[B0 gc (gc+g') _ _ _ _ _ _ _ (by omega) hc];rw[B0 g' (gc+g') _ _ _ _ _ _ _ (by omega) hr];rfl
         | bm x=>
           subst ZS;obtain⟨gc,kc,hc⟩:=hq;exact⟨gc+1,kc+1,by grind[run]⟩
         | over=>
           subst ZS;obtain⟨gc,kc,hc⟩:=hq;exact⟨gc+1,kc+1,by grind[run]⟩
         | ret x=>grind
       grind
      ·rw[if_neg vR]at h;obtain⟨⟨bV,o2⟩,JM,h2⟩:=apN.1 h;have EI:σ'=bV:=by
        have:=congrArg Prod.fst h2;grind[nf]
       have ZS:o=(nf (bV,o2)).2:=(congrArg Prod.snd h2).symm;subst EI;have za:=λd l b S=>ae0 JM my vR hlen d l b S
       have rE:σ'.Ls=aO.Ls:=by
        grind[Kl,Option.some.injEq,Prod.mk.injEq,Option.map_eq_some_iff]
       refine⟨(za 0 [] [] []).2.trans d1,rE.trans l1,λhW m l a b hl hu d S hd=>?_⟩;rw[code]at hl⊢;obtain⟨Mf,g1⟩:=r1 hW m l a _ hl hu d S hd;grind[wh.pre]
     ·simp only[akC,apM]at h;obtain⟨rfl,rfl⟩:=h;refine⟨d1,l1,λhW m l a b hl hu d S hd=>?_⟩;rw[code]at hl⊢;exact(r1 hW m l a _ hl hu d S hd).toE
  grind
theorem ZT{c:XC}{g:Nat}(ih:uo c g):∀σ es σ' o,dL c (g+1) σ es=some (σ',o)→∀loc,(∀e∈es,cw c.B.Tables loc e false=true)→σ'.Dp=σ.Dp∧σ'.Ls=σ.Ls∧(∀a,o= .inl a→a.length=es.length)∧(WL σ.Ls→∀(m:Int) (l a b:List ae),l=a++((aK es m).1++b)→(bN l).Nodup→∀(d:Nat) (S:List Int),σ.Dp=d→
  HB c d l ((aK es m).1++b) S σ.Ls (bY σ) b S σ' o):=by
 intro σ es σ' o h loc hb;cases es with
 | nil=>
   rw[dL]at h;simp only[akC,apM]at h;obtain⟨rfl,rfl⟩:=h;refine⟨rfl,rfl,λa ha=>(by cases ha;rfl),λhW m l a b hl hu d S hd=>⟨λn hn=>(by cases hn),?_⟩⟩;rw[aK];exact cD.refl _ _ _ _ _ _ _
 | cons e es=>
   rw[dL]at h;cases he:dP c g σ e with
   | none=>rw[he]at h;cases h
   | some p=>
     obtain⟨aO,o1⟩:=p;rw[he]at h;obtain⟨d1,l1,r1⟩:=ih.ask σ e aO o1 he loc (hb e (by simp));have nE:WL σ.Ls->WL aO.Ls:=λhW=>by rw[l1];exact hW
     have code:∀(m:Int) (b:List ae),(aK (e::es) m).1++b=(aT e m).1++((aK es (aT e m).2).1++b):=by
      intro m b;rw[aK];simp
     have bad:∀o2,(∀n,o1≠ .bL n)->o2=Sum.inr o1->∀(m:Int) (l a b:List ae),WL σ.Ls->l=a++((aK (e::es) m).1++b)->(bN l).Nodup->∀(d:Nat) (S:List Int),σ.Dp=d->HB c d l ((aK (e::es) m).1++b) S σ.Ls (bY σ) b S aO o2:=by
      intro o2 hn ho m l a b hW hl hu d S hd;rw[code]at hl⊢;have:=r1 hW m l a _ hl hu d S hd;subst ho;cases o1 with
      | bL n=>exact(hn n rfl).elim
      | bm x=>exact this
      | over=>exact this
      | ret n=>exact this.elim
     cases o1 with
     | bL n=>
       simp only at h;cases EK:dL c g aO es with
       | none=>rw[EK]at h;cases h
       | some q=>
         obtain⟨bV,o2⟩:=q;rw[EK]at h;obtain⟨d2,l2,n2,r2⟩:=ih.asks aO es bV o2 EK loc (λx hx=>hb x (by simp[hx]));rcases o2 with v|o2
         ·simp only[akC,apM]at h;obtain⟨rfl,rfl⟩:=h;refine⟨d2.trans d1,l2.trans l1,λa ha=>?_,λhW m l a b hl hu d S hd=>?_⟩
          ·cases ha;have:=n2 v rfl;simp[this]
          ·rw[code]at hl⊢;obtain⟨hn,g1⟩:=r1 hW m l a _ hl hu d S hd;obtain⟨hv,g2⟩:=r2 (nE hW) (aT e m).2 l (a++(aT e m).1) b (by rw[hl];simp) hu d (n::S) (d1.trans hd);refine⟨λx hx=>?_,g1.trans ?_⟩
           ·rcases ap8.1 hx with rfl|hx
            ·exact hn
            ·exact hv x hx
           ·have e1:(n::v).reverse++S=v.reverse++(n::S):=by simp
            rw[e1];exact g2
         ·simp only[akC,apM]at h;obtain⟨rfl,rfl⟩:=h;refine⟨d2.trans d1,l2.trans l1,λa ha=>(by cases ha),λhW m l a b hl hu d S hd=>?_⟩;rw[code]at hl⊢;obtain⟨hn,g1⟩:=r1 hW m l a _ hl hu d S hd;have h2:=r2 (nE hW) (aT e m).2 l (a++(aT e m).1) b (by rw[hl];simp) hu d (n::S) (d1.trans hd);cases o2 with
          | bL n=>exact h2
          | bm x=>exact g1.stop h2
          | over=>exact g1.stop h2
          | ret n=>exact h2
     | bm x=>
       simp only[akC,apM]at h;obtain⟨rfl,rfl⟩:=h;exact⟨d1,l1,λa ha=>(by cases ha),λhW m l a b hl hu d S hd=>bad _ (λn hn=>by cases hn) rfl m l a b hW hl hu d S hd⟩
     | over=>
       simp only[akC,apM]at h;obtain⟨rfl,rfl⟩:=h;exact⟨d1,l1,λa ha=>(by cases ha),λhW m l a b hl hu d S hd=>bad _ (λn hn=>by cases hn) rfl m l a b hW hl hu d S hd⟩
     | ret x=>
       simp only[akC,apM]at h;obtain⟨rfl,rfl⟩:=h;exact⟨d1,l1,λa ha=>(by cases ha),λhW m l a b hl hu d S hd=>bad _ (λn hn=>by cases hn) rfl m l a b hW hl hu d S hd⟩
theorem aco(l:List ae)(k:Int):(bN l).count k=yE l k:=by
 unfold bN yE;rw[List.count_eq_countP,List.countP_map,List.countP_filter];congr 1;funext i;simp only[Function.comp,bl,Bool.and_eq_decide,decide_eq_true_eq,beq_iff_eq];rw[arv];simp[and_comm]
theorem WB(l:List al)(x:List ae)(hx:kJ x):(bN ((aQ l 0).1++x)).Nodup:=by
 rw[arQ];intro k;rw[oq,Gd hx,aqp,aco];have:=(abX _ l (ap5 _) 0).st k;by_cases hk:0<=k/\k<(aQ l 0).2
 ·rw[this.1 hk];omega
 ·rw[this.2 hk];omega
theorem zR(b:br)(r:Int):(bN (bT b r)).Nodup:=by
 unfold bT;split
 ·exact WB _ _ (cA (by show(1:Int)≠38;omega) (cA (by show(27:Int)≠38;omega) dh))
 ·simp[bN]
theorem ZU{c:XC}{g:Nat}(hB:gK c.B)(ih:uo c g):∀σ r a σ' o,jo c (g+1) σ r a=some (σ',o)→σ'.Dp=σ.Dp∧σ'.Ls=σ.Ls∧∀(d:Nat),σ.Dp=d→(32≤d→o= .bm 17∧bY σ'=bY σ)∧(d < 32→match o with
  | .bL n=>dC c (d+1) (bT c.B r) (bT c.B r) [] ((aX c).lo r a) (bY σ) (.ret n (bY σ'))
  | .bm x=>dC c (d+1) (bT c.B r) (bT c.B r) [] ((aX c).lo r a) (bY σ) (.bm x (bY σ'))
  | .over=>dC c (d+1) (bT c.B r) (bT c.B r) [] ((aX c).lo r a) (bY σ) (.over (bY σ'))
  | .ret _=>False):=by
 intro σ r a σ' o h;rw[jo]at h;by_cases h0:σ.Dp<0
 ·rw[if_pos h0]at h;cases h
 rw[if_neg h0]at h;by_cases iE:32<=σ.Dp
 ·rw[if_pos iE]at h;simp only[akC,apM]at h;obtain⟨rfl,rfl⟩:=h;exact⟨rfl,rfl,λd hd=>⟨λ_=>⟨rfl,rfl⟩,λay=>by omega⟩⟩
 rw[if_neg iE]at h;split at h
 ·rename_i hc;obtain⟨hl,hr,nD,_,vw⟩:=hc;cases gS:dV c g {σ with Dp:=σ.Dp+1,Ls:=a.map ax++List.replicate ((aC c.B.Tables.aJ r).toNat-a.length) 0} (c.B.aF[r.toNat]?.getD [])with
  | none=>rw[gS]at h;cases h
  | some p=>
    obtain⟨aO,o1⟩:=p;rw[gS]at h;simp only[akC,apM]at h;obtain⟨rfl,ho⟩:=h;have iY:=hB.bnd r hr;unfold gH at iY;rw[apP,lE,apR]at iY;obtain⟨d1,r1⟩:=ih.block _ _ aO o1 gS _ iY.1;have hWL:WL (a.map ax++List.replicate ((aC c.B.Tables.aJ r).toNat-a.length) 0):=by
     intro n hn;rcases ap9.1 hn with hn|hn
     ·obtain⟨x,_,rfl⟩:=apV.1 hn;exact wrap_wrap x
     ·obtain⟨_,rfl⟩:=List.mem_replicate.1 hn;exact EM
    obtain⟨_,r2⟩:=r1 hWL;have yY:bT c.B r=[]++((aQ (c.B.aF[r.toNat]?.getD []) 0).1++ [⟨1,0⟩,⟨27,0⟩]):=by
     unfold bT;rw[if_pos hr];rfl
    have d1':aO.Dp=σ.Dp+1:=d1;refine⟨by show aO.Dp-1=σ.Dp;omega,rfl,λd hd=>⟨λbR=>by omega,λay=>?_⟩⟩;have r3:=r2 0 (bT c.B r) [] [⟨1,0⟩,⟨27,0⟩] yY (zR c.B r) (d+1) [] (by show σ.Dp+1=((d+1:Nat):Int);omega);have e0:bT c.B r=(aQ (c.B.aF[r.toNat]?.getD []) 0).1++ [⟨1,0⟩,⟨27,0⟩]:=by rw[yY];rfl
    have e1:∀o,dC c (d+1) (bT c.B r) ((aQ (c.B.aF[r.toNat]?.getD []) 0).1++ [⟨1,0⟩,⟨27,0⟩]) [] ((aX c).lo r a) (bY σ) o->dC c (d+1) (bT c.B r) (bT c.B r) [] ((aX c).lo r a) (bY σ) o:=by
     intro o ho;rw[<-e0]at ho;exact ho
    subst ho;cases o1 with
    | bL n=>
      refine e1 _ (cD.stop r3 ?_);have:=(cD.push (c:=c) (d:=d+1) (l:=bT c.B r) (r:=[⟨27,0⟩]) (n:=0) (S:=[]) (L:=aO.Ls) (σ:=bY aO)).stop dC.ret;rw[EM]at this;exact this
    | bm x=>exact e1 _ r3
    | over=>exact e1 _ r3
    | ret n=>exact e1 _ r3
 ·cases h
theorem WC{c:XC}{g:Nat}(ih:uo c g):∀σ ls σ' o,dV c (g+1) σ ls=some (σ',o)→∀loc,(∀s∈ls,eL c.B.Tables loc s=true)→σ'.Dp=σ.Dp∧(WL σ.Ls→WL σ'.Ls∧∀(m:Int) (l a b:List ae),l=a++((aQ ls m).1++b)→(bN l).Nodup→∀(d:Nat) (S:List Int),σ.Dp=d→
  er c d l ((aQ ls m).1++b) S σ.Ls (bY σ) b S σ' o):=by
 intro σ ls σ' o h loc hb;cases ls with
 | nil=>
   rw[dV]at h;simp only[akC,apM]at h;obtain⟨rfl,rfl⟩:=h;refine⟨rfl,λhW=>⟨hW,λm l a b hl hu d S hd=>?_⟩⟩;rw[aQ];exact cD.refl _ _ _ _ _ _ _
 | cons x ls=>
   rw[dV]at h;cases he:jH c g σ x with
   | none=>rw[he]at h;cases h
   | some p=>
     obtain⟨aO,o1⟩:=p;rw[he]at h;obtain⟨d1,r1⟩:=ih.stmt σ x aO o1 he loc (hb x (by simp));have code:∀(m:Int) (b:List ae),(aQ (x::ls) m).1++b=(cU x m).1++((aQ ls (cU x m).2).1++b):=by
      intro m b;rw[aQ];simp
     have bad:(∀n,o1≠ .bL n)->∀(m:Int) (l a b:List ae),WL σ.Ls->l=a++((aQ (x::ls) m).1++b)->(bN l).Nodup->∀(d:Nat) (S:List Int),σ.Dp=d->er c d l ((aQ (x::ls) m).1++b) S σ.Ls (bY σ) b S aO o1:=by
      intro hn m l a b hW hl hu d S hd;rw[code]at hl⊢;have:=(r1 hW).2 m l a _ hl hu d S hd;cases o1 with
      | bL n=>exact(hn n rfl).elim
      | bm x=>exact this
      | over=>exact this
      | ret n=>exact this
     cases o1 with
     | bL n=>
       simp only at h;obtain⟨d2,r2⟩:=ih.block aO ls σ' o h loc (λs hs=>hb s (by simp[hs]));refine⟨d2.trans d1,λhW=>⟨(r2 (r1 hW).1).1,λm l a b hl hu d S hd=>?_⟩⟩;rw[code]at hl⊢;have g1:=(r1 hW).2 m l a _ hl hu d S hd;have g2:=(r2 (r1 hW).1).2 (cU x m).2 l (a++(cU x m).1) b (by rw[hl];simp) hu d S (d1.trans hd);exact er.pre g1 g2
     | bm v=>
       simp only[akC,apM]at h;obtain⟨rfl,rfl⟩:=h;exact⟨d1,λhW=>⟨(r1 hW).1,λm l a b hl hu d S hd=>bad (λn hn=>by cases hn) m l a b hW hl hu d S hd⟩⟩
     | over=>
       simp only[akC,apM]at h;obtain⟨rfl,rfl⟩:=h;exact⟨d1,λhW=>⟨(r1 hW).1,λm l a b hl hu d S hd=>bad (λn hn=>by cases hn) m l a b hW hl hu d S hd⟩⟩
     | ret v=>
       simp only[akC,apM]at h;obtain⟨rfl,rfl⟩:=h;exact⟨d1,λhW=>⟨(r1 hW).1,λm l a b hl hu d S hd=>bad (λn hn=>by cases hn) m l a b hW hl hu d S hd⟩⟩
theorem Gu{t:aq}{loc:Int}{e:au}(h:cw t loc e true=true)(mQ:e.Kind≠19)(jb:e.Kind≠13):cw t loc e false=true:=by
 rw[iP]at h⊢;have:dH t e loc true=dH t e loc false:=by
  unfold dH;rw[if_neg mQ,if_neg jb,if_neg mQ,if_neg jb]
 rw[<-this];exact h
theorem TH{t:aq}{loc:Int}{e:au}(h:cw t loc e true=true)(jb:e.Kind=13):∃x,e.av=[x]/\cw t loc x false=true:=by
 rw[iP,apP]at h;obtain⟨h1,h2⟩:=h;unfold dH at h1;rw[if_neg (by omega),if_neg (by omega),if_neg (by omega),if_neg (by omega),if_neg (by omega),if_pos jb]at h1;simp only[ard]at h1;have:=lF h1;obtain⟨x,hx⟩:=EJ (show e.av.length=1 by omega);refine⟨x,hx,?_⟩;rw[hx]at h2;rw[jd]at h2;simpa using h2
theorem Mg(x:au)(m:Int):aK [x] m=(aT x m):=by rw[aK,aK];simp
theorem agH:Go.Ab.flat 21:=by unfold Go.Ab.flat;omega
theorem agI:Go.Ab.flat 22:=by unfold Go.Ab.flat;omega
theorem agJ:Go.Ab.flat 23:=by unfold Go.Ab.flat;omega
theorem acp{c:XC}{g:Nat}(ih:uo c g):∀σ e σ' o,kU c (g+1) σ e=some (σ',o)→∀loc,cw c.B.Tables loc e true=true→σ'.Dp=σ.Dp∧σ'.Ls=σ.Ls∧(WL σ.Ls→∀(m:Int) (l a b:List ae),l=a++((eM e m).1++b)→(bN l).Nodup→∀(d:Nat) (S:List Int),σ.Dp=d→
  er c d l ((eM e m).1++b) S σ.Ls (bY σ) b S σ' o):=by
 intro σ e σ' o h loc hb;rw[kU]at h;by_cases mQ:e.Kind=19
 ·rw[if_pos mQ]at h;have code:∀(m:Int) (b:List ae),(eM e m).1++b=⟨21,e.aI⟩::b:=by intro m b;rw[eM,if_pos mQ];rfl
  have hr:=λd l b S=>FC (c:=c) h (i:=⟨21,e.aI⟩) agH (S:=S) (S0:=S) (by simp[instJ]) d l b
  refine⟨(hr 0 [] [] []).2.1,(hr 0 [] [] []).1,λhW m l a b hl hu d S hd=>?_⟩;rw[code];exact(hr d l b S).2.2.2
 rw [if_neg mQ]at h;have fin:∀(x:au) (op:Int) (s:Int→ByteArray),Go.Ab.flat op→(∀n S L σ,instJ c ⟨op,0⟩ (n::S) L σ=uB S L σ (s n))→cw c.B.Tables loc x false=true→(∀(m:Int) (b:List ae),(eM e m).1++b=(aT x m).1++(⟨op,0⟩::b))→
   (match dP c g σ x with|some (aO,.bL n)=>Ac aO (s n)|r=>r)=some (σ',o)->σ'.Dp=σ.Dp/\σ'.Ls=σ.Ls/\(WL σ.Ls->∀(m:Int) (l a b:List ae),l=a++((eM e m).1++b)->(bN l).Nodup->∀(d:Nat) (S:List Int),σ.Dp=d->
  er c d l ((eM e m).1++b) S σ.Ls (bY σ) b S σ' o):=by
  intro x op s hf hJ gS code h;cases he:dP c g σ x with
  | none=>rw[he]at h;cases h
  | some p=>
    obtain⟨aO,o1⟩:=p;rw[he]at h;obtain⟨d1,l1,r1⟩:=ih.ask σ x aO o1 he loc gS;cases o1 with
    | bL n=>
      simp only at h;have hr:=λd l b S=>FC (c:=c) h (i:=⟨op,0⟩) hf (S:=n::S) (S0:=S) (hJ n S _ _) d l b
      refine⟨(hr 0 [] [] []).2.1.trans d1,(hr 0 [] [] []).1.trans l1,λhW m l a b hl hu d S hd=>?_⟩;rw[code]at hl⊢;obtain⟨_,g1⟩:=r1 hW m l a _ hl hu d S hd;exact er.pre g1 (hr d l b S).2.2.2
    | bm v=>
      simp only[akC,apM]at h;obtain⟨rfl,rfl⟩:=h;refine⟨d1,l1,λhW m l a b hl hu d S hd=>?_⟩;rw[code]at hl⊢;exact r1 hW m l a _ hl hu d S hd
    | over=>
      simp only[akC,apM]at h;obtain⟨rfl,rfl⟩:=h;refine⟨d1,l1,λhW m l a b hl hu d S hd=>?_⟩;rw[code]at hl⊢;exact r1 hW m l a _ hl hu d S hd
    | ret v=>
      simp only[akC,apM]at h;obtain⟨rfl,rfl⟩:=h;refine⟨d1,l1,λhW m l a b hl hu d S hd=>?_⟩;rw[code]at hl;exact(r1 hW m l a _ hl hu d S hd).elim
 by_cases jb:e.Kind=13
 ·rw[if_pos jb]at h;obtain⟨x,hx,gS⟩:=TH hb jb;rw[hx]at h;exact fin x 23 _ agJ (λn S L σ=>by simp[instJ,dr]) gS (λm b=>by rw[eM,if_neg mQ,if_pos jb,hx,Mg];simp) h
 ·rw[if_neg jb]at h;exact fin e 22 _ agI (λn S L σ=>by simp[instJ,dr]) (Gu hb mQ jb) (λm b=>by rw[eM,if_neg mQ,if_neg jb];simp) h
theorem ZV{c:XC}{g:Nat}(ih:uo c g):∀σ es σ' o,jI c (g+1) σ es=some (σ',o)→∀loc,(∀e∈es,cw c.B.Tables loc e true=true)→σ'.Dp=σ.Dp∧σ'.Ls=σ.Ls∧(WL σ.Ls→∀(m:Int) (l a b:List ae),l=a++((cF es m).1++b)→(bN l).Nodup→∀(d:Nat) (S:List Int),σ.Dp=d→
  er c d l ((cF es m).1++b) S σ.Ls (bY σ) b S σ' o):=by
 intro σ ls σ' o h loc hb;cases ls with
 | nil=>
   rw[jI]at h;simp only[akC,apM]at h;obtain⟨rfl,rfl⟩:=h;refine⟨rfl,rfl,λhW m l a b hl hu d S hd=>?_⟩;rw[cF];exact cD.refl _ _ _ _ _ _ _
 | cons x ls=>
   rw[jI]at h;cases he:kU c g σ x with
   | none=>rw[he]at h;cases h
   | some p=>
     obtain⟨aO,o1⟩:=p;rw[he]at h;obtain⟨d1,l1,r1⟩:=ih.say σ x aO o1 he loc (hb x (by simp));have code:∀(m:Int) (b:List ae),(cF (x::ls) m).1++b=(eM x m).1++((cF ls (eM x m).2).1++b):=by
      intro m b;rw[cF];simp
     have nE:WL σ.Ls->WL aO.Ls:=λhW=>by rw[l1];exact hW
     have bad:(∀n,o1≠ .bL n)->∀(m:Int) (l a b:List ae),WL σ.Ls->l=a++((cF (x::ls) m).1++b)->(bN l).Nodup->∀(d:Nat) (S:List Int),σ.Dp=d->er c d l ((cF (x::ls) m).1++b) S σ.Ls (bY σ) b S aO o1:=by
      intro hn m l a b hW hl hu d S hd;rw[code]at hl⊢;have:=r1 hW m l a _ hl hu d S hd;cases o1 with
      | bL n=>exact(hn n rfl).elim
      | bm x=>exact this
      | over=>exact this
      | ret n=>exact this
     cases o1 with
     | bL n=>
       simp only at h;obtain⟨d2,l2,r2⟩:=ih.KD aO ls σ' o h loc (λs hs=>hb s (by simp[hs]));refine⟨d2.trans d1,l2.trans l1,λhW m l a b hl hu d S hd=>?_⟩;rw[code]at hl⊢;have g1:=r1 hW m l a _ hl hu d S hd;have g2:=r2 (nE hW) (eM x m).2 l (a++(eM x m).1) b (by rw[hl];simp) hu d S (d1.trans hd);exact er.pre g1 g2
     | bm v=>
       simp only[akC,apM]at h;obtain⟨rfl,rfl⟩:=h;exact⟨d1,l1,λhW m l a b hl hu d S hd=>bad (λn hn=>by cases hn) m l a b hW hl hu d S hd⟩
     | over=>
       simp only[akC,apM]at h;obtain⟨rfl,rfl⟩:=h;exact⟨d1,l1,λhW m l a b hl hu d S hd=>bad (λn hn=>by cases hn) m l a b hW hl hu d S hd⟩
     | ret v=>
       simp only[akC,apM]at h;obtain⟨rfl,rfl⟩:=h;exact⟨d1,l1,λhW m l a b hl hu d S hd=>bad (λn hn=>by cases hn) m l a b hW hl hu d S hd⟩
theorem ri{t:aq}{loc:Int}{x:al}(h:eL t loc x=true):(gX x).1=true/\o8 t x loc=true/\(∀e∈x.av,cw t loc e (decide (x.Kind=1))=true)/\(∀s∈x.Body,eL t loc s=true)/\(∀s∈x.bC,eL t loc s=true)/\(x.Kind≠19\/Fv x=true):=by
 rw[vN]at h;simp only[apP,arw,decide_eq_true_eq,apR,gH,lE]at h;exact⟨h.1.1.1.1.1,h.1.1.1.1.2,h.1.1.2,h.1.2.1,h.2.1,h.1.1.1.2⟩
theorem ZW{c:XC}{g:Nat}(ih:uo c g):∀σ x σ' o,jH c (g+1) σ x=some (σ',o)→∀loc,eL c.B.Tables loc x=true→σ'.Dp=σ.Dp∧(WL σ.Ls→WL σ'.Ls∧∀(m:Int) (l a b:List ae),l=a++((cU x m).1++b)→(bN l).Nodup→∀(d:Nat) (S:List Int),σ.Dp=d→
  er c d l ((cU x m).1++b) S σ.Ls (bY σ) b S σ' o):=by
 intro σ x σ' o h loc hb;rw[jH]at h;obtain⟨CI,A2,Mh,kA,rF,_⟩:=ri hb;by_cases dX:x.Kind=10
 ·rw[if_pos dX]at h;split at h
  ·exact ih.KE σ x σ' o h dX loc hb
  ·cases h
 rw[if_neg dX]at h;cases hc:tZ c σ with
 | none=>rw[hc]at h;cases h
 | some p=>
   obtain⟨aO,o1⟩:=p;rw[hc]at h;have ht:=λd l b S=>HC hc d l b S
   obtain⟨l1,d1,w1,_⟩:=ht 0 [] [] [];have nE:WL σ.Ls->WL aO.Ls:=λhW=>by rw[l1];exact hW
   cases o1 with
   | bL n=>
     simp only at h;have tk:∀d l b S,cD c d l (tick::b) S σ.Ls (bY σ) b S aO.Ls (bY aO):=by
      intro d l b S;obtain⟨_,_,_,h1⟩:=ht d l b S;rcases h1 with⟨_,_,h1⟩|⟨h1,_⟩
      ·exact h1
      ·cases h1
     split at h
     ·cases h
     ·by_cases h1:x.Kind=1
      ·rw[if_pos h1]at h;obtain⟨d2,l2,r2⟩:=ih.KD aO x.av σ' o h loc (λe he=>by have:=Mh e he;rw[h1]at this;exact this);have code:∀(m:Int) (b:List ae),(cU x m).1++b=tick::((cF x.av m).1++b):=by intro m b;rw[qh x m h1];rfl
       refine⟨d2.trans d1,λhW=>⟨by rw[l2];exact nE hW,λm l a b hl hu d S hd=>?_⟩⟩;rw[code]at hl⊢;exact er.pre (tk d l _ S) (r2 (nE hW) m l (a++ [tick]) b (by rw[hl];simp) hu d S (d1.trans hd))
      ·rw[if_neg h1]at h;have code:∀(m:Int) (b:List ae),(cU x m).1++b=tick::((aK x.av (mS x m)).1++(kM x m++b)):=by intro m b;rw[Me x m h1 dX];simp
       have WD:∀e∈x.av,cw c.B.Tables loc e false=true:=λe he=>by have:=Mh e he;rw[decide_eq_false h1]at this;exact this
       cases ha:dL c g aO x.av with
       | none=>rw[ha]at h;cases h
       | some q=>
         obtain⟨bV,o2⟩:=q;rw[ha]at h;obtain⟨d2,l2,n2,r2⟩:=ih.asks aO x.av bV o2 ha loc WD;have rG:WL σ.Ls->WL bV.Ls:=λhW=>by rw[l2];exact nE hW
         rcases o2 with v|o2
         ·simp only at h;have hlen:=n2 v rfl;have Mf:=EL ha;obtain⟨d3,r3⟩:=ih.Wv bV x v σ' o h h1 dX hlen loc hb;refine⟨(d3.trans d2).trans d1,λhW=>⟨(r3 (rG hW) Mf).1,λm l a b hl hu d S hd=>?_⟩⟩;rw[code]at hl⊢;obtain⟨_,g2⟩:=r2 (nE hW) (mS x m) l (a++ [tick]) (kM x m++b) (by rw[hl];simp) hu d S (d1.trans hd);exact er.pre (tk d l _ S) (er.pre g2 ((r3 (rG hW) Mf).2 m l (a++ [tick]++(aK x.av (mS x m)).1) b (by rw[hl];simp) hu d S ((d2.trans d1).trans hd)))
         ·simp only[akC,apM]at h;obtain⟨rfl,rfl⟩:=h;refine⟨d2.trans d1,λhW=>⟨rG hW,λm l a b hl hu d S hd=>?_⟩⟩;rw[code]at hl⊢;exact er.pre (tk d l _ S) (r2 (nE hW) (mS x m) l (a++ [tick]) _ (by rw[hl];simp) hu d S (d1.trans hd)).toS
   | bm v=>
     simp only[akC,apM]at h;obtain⟨rfl,rfl⟩:=h;refine⟨d1,λhW=>⟨nE hW,λm l a b hl hu d S hd=>?_⟩⟩;have code:∃C,(cU x m).1++b=tick::C:=by
      by_cases h1:x.Kind=1
      ·exact⟨_,by rw[qh x m h1];rfl⟩
      ·exact⟨_,by rw[Me x m h1 dX];rfl⟩
     obtain⟨C,hC⟩:=code;rw[hC];obtain⟨_,_,_,h1⟩:=ht d l C S;rcases h1 with⟨_,h1,_⟩|⟨h1,h2⟩
     ·cases h1
     ·cases h1;exact h2
   | over=>obtain⟨_,_,_,h1⟩:=ht 0 [] [] [];rcases h1 with⟨_,h1,_⟩|⟨h1,_⟩<;>cases h1
   | ret v=>obtain⟨_,_,_,h1⟩:=ht 0 [] [] [];rcases h1 with⟨_,h1,_⟩|⟨h1,_⟩<;>cases h1
theorem oR{s:al}{named body other:Bool}{n:Int}(h:oQ s named n body other=true):(s.av.length:Int)=n:=by
 unfold oQ at h;simp only[apP,decide_eq_true_eq]at h;exact h.1.1.1
theorem yK{s:al}(h:(gX s).1=true):s.Kind=1\/((s.Kind=2\/s.Kind=3\/s.Kind=5\/s.Kind=6\/s.Kind=17\/s.Kind=23\/s.Kind=8\/s.Kind=12\/s.Kind=16\/s.Kind=20\/s.Kind=22\/s.Kind=19\/s.Kind=9\/s.Kind=10\/s.Kind=11)/\s.av.length=1)\/((s.Kind=4\/s.Kind=7)/\s.av.length=2)\/((s.Kind=18\/s.Kind=13\/s.Kind=14\/s.Kind=15\/s.Kind=21)/\s.av.length=0):=by
 unfold gX at h;by_cases k1:s.Kind=1
 ·exact Or.inl k1
 rw[if_neg k1]at h;by_cases k2:s.Kind=2\/s.Kind=3\/s.Kind=5\/s.Kind=6\/s.Kind=17\/s.Kind=23
 ·rw[if_pos k2]at h;have:=oR h;omega
 rw[if_neg k2]at h;by_cases k3:s.Kind=4
 ·rw[if_pos k3]at h;have:=oR h;omega
 rw[if_neg k3]at h;by_cases k4:s.Kind=7
 ·rw[if_pos k4]at h;have:=oR h;omega
 rw[if_neg k4]at h;by_cases k5:s.Kind=8\/s.Kind=12\/s.Kind=16\/s.Kind=20\/s.Kind=22\/s.Kind=19
 ·rw[if_pos k5]at h;have:=oR h;omega
 rw[if_neg k5]at h;by_cases k6:s.Kind=9
 ·rw[if_pos k6]at h;have:=oR h;omega
 rw[if_neg k6]at h;by_cases k7:s.Kind=10
 ·rw[if_pos k7]at h;have:=oR h;omega
 rw[if_neg k7]at h;by_cases k8:s.Kind=11
 ·rw[if_pos k8]at h;have:=oR h;omega
 rw[if_neg k8]at h;by_cases k9:s.Kind=18
 ·rw[if_pos k9]at h;have:=oR h;omega
 rw[if_neg k9]at h;by_cases oa:s.Kind=13\/s.Kind=14\/s.Kind=15\/s.Kind=21
 ·rw[if_pos oa]at h;have:=oR h;omega
 rw[if_neg oa]at h;cases h
theorem Cr(v:Int):aC [v] 0=v:=rfl
theorem aiq:Go.Ab.flat 6:=by unfold Go.Ab.flat;omega
theorem air:Go.Ab.flat 5:=by unfold Go.Ab.flat;omega
theorem ZX:Go.Ab.flat 19:=by unfold Go.Ab.flat;omega
theorem agK:Go.Ab.flat 35:=by unfold Go.Ab.flat;omega
theorem agL:Go.Ab.flat 36:=by unfold Go.Ab.flat;omega
theorem inst_chg{c:XC}{x:al}{v:List Int}(hs:(gX x).1=true)(hk:x.Kind≠1∧x.Kind≠2∧x.Kind≠3∧x.Kind≠9∧x.Kind≠10∧x.Kind≠11∧x.Kind≠12∧x.Kind≠21∧x.Kind≠22)(hl:v.length=x.av.length)(S L:List Int)(σ:MS)(aS:okW c σ.W=true):
  Go.Ab.flat (eS x.Kind x.aI).Op/\instJ c (eS x.Kind x.aI) (v.reverse++S) L σ=jS false S L σ (dk c σ.W x.Kind x.aI v):=by
 obtain⟨k1,k2,k3,k9,oa,o9,CT,Mi,TI⟩:=hk;rcases yK hs with h|⟨h,ha⟩|⟨h,ha⟩|⟨h,ha⟩
 ·exact(k1 h).elim
 ·rw[ha]at hl;obtain⟨u,rfl⟩:=EJ hl;rcases h with h|h|h|h|h|h|h|h|h|h|h|h|h|h|h<;>first|exact(by omega:False).elim|skip
  all_goals first
   | (simp[h,eS,instJ,dr,eQ,fy,Go.Ab.flat];done)
   | (simp[h,eS,instJ,dr,eQ,fy,Go.Ab.flat,dk,aS,Cr];done)
   | (simp[h,eS,instJ,dr,eQ,fy,Go.Ab.flat,dk,aS,Cr,jS];done)
 ·rw[ha]at hl;obtain⟨u,t,rfl⟩:=Qd hl;rcases h with h|h
  ·simp[h,eS,instJ,dr,eQ,fy,Go.Ab.flat]
  ·simp[h,eS,instJ,dr,eQ,fy,Go.Ab.flat,dk]
 ·rw[ha]at hl;obtain rfl:=ap3.1 hl;rcases h with h|h|h|h|h
  ·simp[h,eS,instJ,dr,eQ,fy,Go.Ab.flat]
  ·simp[h,eS,instJ,dr,eQ,fy,Go.Ab.flat,dk]
  ·simp[h,eS,instJ,dr,eQ,fy,Go.Ab.flat,dk]
  ·simp[h,eS,instJ,dr,eQ,fy,Go.Ab.flat,dk]
  ·exact(Mi h).elim
theorem cD.get{c:XC}{d:Nat}{l r:List ae}{n:Int}{S L:List Int}{σ:MS}(h:eJ L n):cD c d l (⟨5,n⟩::r) S L σ r (ax (aC L n)::S) L σ:= .flat air (by simp[instJ,h])
theorem cD.put{c:XC}{d:Nat}{l r:List ae}{n v:Int}{S L:List Int}{σ:MS}(h:eJ L n):cD c d l (⟨6,n⟩::r) (v::S) L σ r S (L.set n.toNat v) σ:= .flat aiq (by simp[instJ,dr,h])
theorem Cs{c:XC}{d:Nat}{l r:List ae}{k v:Int}{S L:List Int}{σ:MS}(aS:okW c σ.W=true):((dq σ.W k v).2=0->cD c d l (⟨19,k⟩::r) (v::S) L σ r (ax (dq σ.W k v).1::S) L σ)/\((dq σ.W k v).2≠0->dC c d l (⟨19,k⟩::r) (v::S) L σ (.bm (dq σ.W k v).2 σ)):=by
 have hJ:instJ c ⟨19,k⟩ (v::S) L σ=jS true S L σ (some (iV σ.W (dq σ.W k v))):=by
  simp[instJ,dr,eQ,dZ,aS,Cr]
 refine⟨λh=> .flat ZX ?_,λh=> .bm ZX ?_⟩
 ·rw[hJ,iV,if_pos h];rfl
 ·rw[hJ,iV,if_neg h];rfl
theorem WE{x:al}{e:au}(h:x.av=[e])(m:Int):aK x.av m=aT e m:=by rw[h,Mg]
theorem WG{c:XC}{g:Nat}(ih:uo c g):∀σ x σ' o,gn c (g+1) σ x=some (σ',o)→x.Kind=10→∀loc,eL c.B.Tables loc x=true→σ'.Dp=σ.Dp∧(WL σ.Ls→WL σ'.Ls∧∀(m:Int) (l a b:List ae),l=a++((cU x m).1++b)→(bN l).Nodup→∀(d:Nat) (S:List Int),σ.Dp=d→
  er c d l ((cU x m).1++b) S σ.Ls (bY σ) b S σ' o):=by
 intro σ x σ' o h hk loc hb;rw[gn]at h;obtain⟨CI,A2,Mh,kA,rF,_⟩:=ri hb;have hlen:x.av.length=1:=by
  rcases yK CI with h|⟨h,ha⟩|⟨h,ha⟩|⟨h,ha⟩<;>omega
 obtain⟨e,he⟩:=EJ hlen;have ako:cw c.B.Tables loc e false=true:=by
  have:=Mh e (by rw[he];simp);rw[hk]at this;exact this
 have code:∀(m:Int) (b:List ae),(cU x m).1++b=⟨38,m⟩::tick::((aT e (m+2)).1++(⟨25,m+1⟩::((aQ x.Body (aT e (m+2)).2).1++(⟨24,m⟩::⟨38,m+1⟩::b)))):=by
  intro m b;rw[oA x m hk,WE he];simp
 cases hc:tZ c σ with
 | none=>rw[hc]at h;cases h
 | some p=>
   obtain⟨aO,o1⟩:=p;rw[hc]at h;have ht:=λd l b S=>HC hc d l b S
   obtain⟨l1,d1,w1,_⟩:=ht 0 [] [] [];have nE:WL σ.Ls->WL aO.Ls:=λhW=>by rw[l1];exact hW
   cases o1 with
   | bL n=>
     rw[he]at h;simp only at h;have tk:∀d l b S,cD c d l (tick::b) S σ.Ls (bY σ) b S aO.Ls (bY aO):=by
      intro d l b S;obtain⟨_,_,_,h1⟩:=ht d l b S;rcases h1 with⟨_,_,h1⟩|⟨h1,_⟩
      ·exact h1
      ·cases h1
     cases ha:dP c g aO e with
     | none=>rw[ha]at h;cases h
     | some q=>
       obtain⟨bV,o2⟩:=q;rw[ha]at h;obtain⟨d2,l2,r2⟩:=ih.ask aO e bV o2 ha loc ako;have rG:WL σ.Ls->WL bV.Ls:=λhW=>by rw[l2];exact nE hW
       have g2:WL σ.Ls→∀(m:Int) (l a b:List ae),l=a++((cU x m).1++b)→(bN l).Nodup→∀(d:Nat) (S:List Int),σ.Dp=d→
         wh c d l ((cU x m).1++b) S σ.Ls (bY σ) (⟨25,m+1⟩::((aQ x.Body (aT e (m+2)).2).1++(⟨24,m⟩::⟨38,m+1⟩::b))) S bV o2:=by
        intro hW m l a b hl hu d S hd;rw[code]at hl⊢;exact wh.pre (cD.label.trans (tk d l _ S)) (r2 (nE hW) (m+2) l (a++ [⟨38,m⟩,tick]) _ (by rw[hl];simp) hu d S (d1.trans hd))
       cases o2 with
       | bL v=>
         simp only at h;by_cases hv:v=0
         ·rw[if_pos hv]at h;simp only[akC,apM]at h;obtain⟨rfl,rfl⟩:=h;refine⟨d2.trans d1,λhW=>⟨rG hW,λm l a b hl hu d S hd=>?_⟩⟩;obtain⟨Mf,g3⟩:=g2 hW m l a b hl hu d S hd;rw[code]at hl;exact g3.trans (cD.Fw (a:=a++(⟨38,m⟩::tick::((aT e (m+2)).1++(⟨25,m+1⟩::((aQ x.Body (aT e (m+2)).2).1++ [⟨24,m⟩]))))) (by rw[hl];simp) hu (by rw[Mf];exact hv))
         ·rw[if_neg hv]at h;cases gS:dV c g bV x.Body with
          | none=>rw[gS]at h;cases h
          | some q2=>
            obtain⟨zJ,o3⟩:=q2;rw [gS]at h;obtain⟨d3,r3⟩:=ih.block bV x.Body zJ o3 gS loc kA;have g3:WL σ.Ls→∀(m:Int) (l a b:List ae),l=a++((cU x m).1++b)→(bN l).Nodup→∀(d:Nat) (S:List Int),σ.Dp=d→
              er c d l ((cU x m).1++b) S σ.Ls (bY σ) (⟨24,m⟩::⟨38,m+1⟩::b) S zJ o3:=by
             intro hW m l a b hl hu d S hd;obtain⟨Mf,g3⟩:=g2 hW m l a b hl hu d S hd;rw[code]at hl;refine er.pre (g3.trans (cD.Fx (by rw[Mf];exact hv))) ?_;exact(r3 (rG hW)).2 _ l (a++(⟨38,m⟩::tick::((aT e (m+2)).1++ [⟨25,m+1⟩]))) _ (by rw[hl];simp) hu d S ((d2.trans d1).trans hd)
            cases o3 with
            | bL u=>
              simp only at h;obtain⟨d4,r4⟩:=ih.KE zJ x σ' o h hk loc hb;refine⟨((d4.trans d3).trans d2).trans d1,λhW=>⟨(r4 (r3 (rG hW)).1).1,λm l a b hl hu d S hd=>?_⟩⟩;have g4:=g3 hW m l a b hl hu d S hd;have g5:=(r4 (r3 (rG hW)).1).2 m l a b hl hu d S (((d3.trans d2).trans d1).trans hd);rw[code]at hl g4 g5⊢;have hj:cD c d l (⟨24,m⟩::⟨38,m+1⟩::b) S zJ.Ls (bY zJ) (tick::((aT e (m+2)).1++(⟨25,m+1⟩::((aQ x.Body (aT e (m+2)).2).1++(⟨24,m⟩::⟨38,m+1⟩::b))))) S zJ.Ls (bY zJ):=cD.jump (a:=a) hl hu;refine er.pre g4 (er.pre hj ?_);cases o with
              | bL n=>exact cD.rh g5
              | bm n=>exact dC.rh g5
              | over=>exact dC.rh g5
              | ret n=>exact dC.rh g5
            | bm u=>
              simp only[akC,apM]at h;obtain⟨rfl,rfl⟩:=h;exact⟨(d3.trans d2).trans d1,λhW=>⟨(r3 (rG hW)).1,λm l a b hl hu d S hd=>g3 hW m l a b hl hu d S hd⟩⟩
            | over=>
              simp only[akC,apM]at h;obtain⟨rfl,rfl⟩:=h;exact⟨(d3.trans d2).trans d1,λhW=>⟨(r3 (rG hW)).1,λm l a b hl hu d S hd=>g3 hW m l a b hl hu d S hd⟩⟩
            | ret u=>
              simp only[akC,apM]at h;obtain⟨rfl,rfl⟩:=h;exact⟨(d3.trans d2).trans d1,λhW=>⟨(r3 (rG hW)).1,λm l a b hl hu d S hd=>g3 hW m l a b hl hu d S hd⟩⟩
       | bm v=>
         simp only[akC,apM]at h;obtain⟨rfl,rfl⟩:=h;exact⟨d2.trans d1,λhW=>⟨rG hW,λm l a b hl hu d S hd=>g2 hW m l a b hl hu d S hd⟩⟩
       | over=>
         simp only[akC,apM]at h;obtain⟨rfl,rfl⟩:=h;exact⟨d2.trans d1,λhW=>⟨rG hW,λm l a b hl hu d S hd=>g2 hW m l a b hl hu d S hd⟩⟩
       | ret v=>
         simp only[akC,apM]at h;obtain⟨rfl,rfl⟩:=h;exact⟨d2.trans d1,λhW=>⟨rG hW,λm l a b hl hu d S hd=>(g2 hW m l a b hl hu d S hd).elim⟩⟩
   | bm v=>
     simp only[akC,apM]at h;obtain⟨rfl,rfl⟩:=h;refine⟨d1,λhW=>⟨nE hW,λm l a b hl hu d S hd=>?_⟩⟩;rw[code];obtain⟨_,_,_,h1⟩:=ht d l ((aT e (m+2)).1++(⟨25,m+1⟩::((aQ x.Body (aT e (m+2)).2).1++(⟨24,m⟩::⟨38,m+1⟩::b)))) S;rcases h1 with⟨_,h1,_⟩|⟨h1,h2⟩
     ·cases h1
     ·cases h1;exact cD.label.stop h2
   | over=>obtain⟨_,_,_,h1⟩:=ht 0 [] [] [];rcases h1 with⟨_,h1,_⟩|⟨h1,_⟩<;>cases h1
   | ret v=>obtain⟨_,_,_,h1⟩:=ht 0 [] [] [];rcases h1 with⟨_,h1,_⟩|⟨h1,_⟩<;>cases h1
theorem Gv{c g σ x p}(h:fu c g σ x=some p):eJ σ.Ls x.aI/\eJ σ.Ls (x.aI+1)/\okW c σ.W=true:=by
 cases g with
 | zero=>grind[fu]
 | succ g=>
   grind[fu]
set_option maxHeartbeats 4000000 in
theorem ZY{c:XC}{g:Nat}(hB:gK c.B)(ih:uo c g):∀σ x σ' o,fu c (g+1) σ x=some (σ',o)→x.Kind=11→∀loc,eL c.B.Tables loc x=true→σ'.Dp=σ.Dp∧(WL σ.Ls→WL σ'.Ls∧∀(m:Int) (l a b:List ae),l=a++(ni x m++b)→(bN l).Nodup→∀(d:Nat) (S:List Int),σ.Dp=d→
  er c d l (ni x m++b) S σ.Ls (bY σ) b S σ' o):=by
 intro σ x σ' o h hk loc hb;obtain⟨IQ,oi,aS⟩:=Gv h;obtain⟨CI,A2,Mh,kA,rF,_⟩:=ri hb;rw[fu]at h;have code:∀(m:Int) (b:List ae),ni x m++b=⟨38,m⟩::⟨5,x.aI⟩::⟨25,m+1⟩::tick::⟨5,x.aI⟩::⟨19,3⟩::⟨6,x.aI+1⟩::((aQ x.Body (kS x m)).1++(⟨5,x.aI+1⟩::⟨6,x.aI⟩::⟨24,m⟩::⟨38,m+1⟩::b)):=by
  intro m b;unfold ni;simp
 split at h
 ·-- yP anO
  by_cases hv:aC σ.Ls x.aI=0
  ·rw[if_pos hv]at h;simp only[akC,apM]at h;obtain⟨rfl,rfl⟩:=h;refine⟨rfl,λhW=>⟨hW,λm l a b hl hu d S hd=>?_⟩⟩;rw[code]at hl⊢;refine cD.label.trans ((cD.get IQ).trans ?_);exact cD.Fw (a:=a++(⟨38,m⟩::⟨5,x.aI⟩::⟨25,m+1⟩::tick::⟨5,x.aI⟩::⟨19,3⟩::⟨6,x.aI+1⟩::((aQ x.Body (kS x m)).1++ [⟨5,x.aI+1⟩,⟨6,x.aI⟩,⟨24,m⟩]))) (by rw[hl];simp) hu (by rw[hv];decide)
  ·rw[if_neg hv]at h;cases hc:tZ c σ with
   | none=>rw[hc]at h;cases h
   | some p=>
     obtain⟨aO,o1⟩:=p;rw[hc]at h;have ht:=λd l b S=>HC hc d l b S
     obtain⟨l1,d1,w1,_⟩:=ht 0 [] [] [];have g0:WL σ.Ls->∀(m:Int) (l a b:List ae),l=a++(ni x m++b)->(bN l).Nodup->∀(d:Nat) (S:List Int),cD c d l (ni x m++b) S σ.Ls (bY σ) (tick::⟨5,x.aI⟩::⟨19,3⟩::⟨6,x.aI+1⟩::((aQ x.Body (kS x m)).1++(⟨5,x.aI+1⟩::⟨6,x.aI⟩::⟨24,m⟩::⟨38,m+1⟩::b))) S σ.Ls (bY σ):=by
      intro hW m l a b hl hu d S;rw[code];refine cD.label.trans ((cD.get IQ).trans (cD.Fx ?_));rw[hW.get,hW.get];exact hv
     cases o1 with
     | bL n=>
       simp only at h;have tk:∀d l b S,cD c d l (tick::b) S σ.Ls (bY σ) b S aO.Ls (bY aO):=by
        intro d l b S;obtain⟨_,_,_,h1⟩:=ht d l b S;rcases h1 with⟨_,_,h1⟩|⟨h1,_⟩
        ·exact h1
        ·cases h1
       have acq:okW c aO.W=true:=by rw[w1];exact aS
       have akp:eJ aO.Ls x.aI:=by rw[l1];exact IQ
       have akq:eJ aO.Ls (x.aI+1):=by rw[l1];exact oi
       have nE:WL σ.Ls->WL aO.Ls:=λhW=>by rw[l1];exact hW
       have g1:WL σ.Ls->∀(m:Int) (l a b:List ae),l=a++(ni x m++b)->(bN l).Nodup->∀(d:Nat) (S:List Int),cD c d l (ni x m++b) S σ.Ls (bY σ) (⟨19,3⟩::⟨6,x.aI+1⟩::((aQ x.Body (kS x m)).1++(⟨5,x.aI+1⟩::⟨6,x.aI⟩::⟨24,m⟩::⟨38,m+1⟩::b))) (aC aO.Ls x.aI::S) aO.Ls (bY aO):=by
        intro hW m l a b hl hu d S;have:=(g0 hW m l a b hl hu d S).trans ((tk d l _ S).trans (cD.get akp));rw[(nE hW).get]at this;exact this
       by_cases he:(dq aO.W 3 (aC aO.Ls x.aI)).2=0
       ·rw[if_neg (by simpa using he)]at h;cases gS:dV c g {aO with Ls:=aO.Ls.set (x.aI+1).toNat (dq aO.W 3 (aC aO.Ls x.aI)).1} x.Body with
        | none=>rw[gS]at h;cases h
        | some q=>
          obtain⟨bV,o2⟩:=q;rw[gS]at h;obtain⟨d2,r2⟩:=ih.block _ x.Body bV o2 gS loc kA;have d2:bV.Dp=aO.Dp:=d2;have ZZ:=Md hB.fits acq 3 (aC aO.Ls x.aI);have Qg:WL σ.Ls->WL (aO.Ls.set (x.aI+1).toNat (dq aO.W 3 (aC aO.Ls x.aI)).1):=λhW=>(nE hW).set _ ZZ
          have g2:WL σ.Ls->∀(m:Int) (l a b:List ae),l=a++(ni x m++b)->(bN l).Nodup->∀(d:Nat) (S:List Int),σ.Dp=d->er c d l (ni x m++b) S σ.Ls (bY σ) (⟨5,x.aI+1⟩::⟨6,x.aI⟩::⟨24,m⟩::⟨38,m+1⟩::b) S bV o2:=by
           intro hW m l a b hl hu d S hd;have ga:=(g1 hW m l a b hl hu d S).trans ((Cs acq).1 he);have gb:=ga.trans (cD.put akq);have acr:ax (dq (bY aO).W 3 (aC aO.Ls x.aI)).1=(dq aO.W 3 (aC aO.Ls x.aI)).1:=ZZ;rw[acr]at gb;refine er.pre gb ?_;rw[code]at hl;exact(r2 (Qg hW)).2 (kS x m) l (a++ [⟨38,m⟩,⟨5,x.aI⟩,⟨25,m+1⟩,tick,⟨5,x.aI⟩,⟨19,3⟩,⟨6,x.aI+1⟩]) _ (by rw[hl];simp) hu d S (d1.trans hd)
          cases o2 with
          | bL u=>
            simp only at h;obtain⟨SN,IW,_⟩:=Gv h;simp only[eJ,arx]at SN IW;obtain⟨d3,r3⟩:=ih.each _ x σ' o h hk loc hb;have d3:σ'.Dp=bV.Dp:=d3;have rG:WL σ.Ls->WL bV.Ls:=λhW=>(r2 (Qg hW)).1
            have hW3:WL σ.Ls->WL (bV.Ls.set x.aI.toNat (aC bV.Ls (x.aI+1))):=λhW=>(rG hW).set _ ((rG hW).get _)
            refine⟨(d3.trans d2).trans d1,λhW=>⟨(r3 (hW3 hW)).1,λm l a b hl hu d S hd=>?_⟩⟩;have ga:=g2 hW m l a b hl hu d S hd;have gb:=(cD.get (c:=c) (d:=d) (l:=l) (r:=⟨6,x.aI⟩::⟨24,m⟩::⟨38,m+1⟩::b) (S:=S) (σ:=bY bV) IW).trans (cD.put SN);rw[(rG hW).get]at gb;have gc:=(r3 (hW3 hW)).2 m l a b hl hu d S ((d2.trans d1).trans hd);rw[code]at hl ga gc⊢;have gd:=gb.trans (cD.jump (a:=a) hl hu);refine er.pre ga (er.pre gd ?_);cases o with
            | bL n=>exact cD.rh gc
            | bm n=>exact dC.rh gc
            | over=>exact dC.rh gc
            | ret n=>exact dC.rh gc
          | bm u=>
            simp only[akC,apM]at h;obtain⟨rfl,rfl⟩:=h;exact⟨d2.trans d1,λhW=>⟨(r2 (Qg hW)).1,λm l a b hl hu d S hd=>g2 hW m l a b hl hu d S hd⟩⟩
          | over=>
            simp only[akC,apM]at h;obtain⟨rfl,rfl⟩:=h;exact⟨d2.trans d1,λhW=>⟨(r2 (Qg hW)).1,λm l a b hl hu d S hd=>g2 hW m l a b hl hu d S hd⟩⟩
          | ret u=>
            simp only[akC,apM]at h;obtain⟨rfl,rfl⟩:=h;exact⟨d2.trans d1,λhW=>⟨(r2 (Qg hW)).1,λm l a b hl hu d S hd=>g2 hW m l a b hl hu d S hd⟩⟩
       ·rw[if_pos (by simpa using he)]at h;simp only[akC,apM]at h;obtain⟨rfl,rfl⟩:=h;exact⟨d1,λhW=>⟨nE hW,λm l a b hl hu d S hd=>(g1 hW m l a b hl hu d S).stop ((Cs acq).2 he)⟩⟩
     | bm v=>
       simp only[akC,apM]at h;obtain⟨rfl,rfl⟩:=h;refine⟨d1,λhW=>⟨by rw[l1];exact hW,λm l a b hl hu d S hd=>?_⟩⟩;refine(g0 hW m l a b hl hu d S).stop ?_;obtain⟨_,_,_,h1⟩:=ht d l (⟨5,x.aI⟩::⟨19,3⟩::⟨6,x.aI+1⟩::((aQ x.Body (kS x m)).1++(⟨5,x.aI+1⟩::⟨6,x.aI⟩::⟨24,m⟩::⟨38,m+1⟩::b))) S;rcases h1 with⟨_,h1,_⟩|⟨h1,h2⟩
       ·cases h1
       ·cases h1;exact h2
     | over=>obtain⟨_,_,_,h1⟩:=ht 0 [] [] [];rcases h1 with⟨_,h1,_⟩|⟨h1,_⟩<;>cases h1
     | ret v=>obtain⟨_,_,_,h1⟩:=ht 0 [] [] [];rcases h1 with⟨_,h1,_⟩|⟨h1,_⟩<;>cases h1
 ·cases h
theorem Z0{c}{g}(hB:gK c.B)(ih:uo c g):∀σ x v σ' o,ij c (g+1) σ x v=some (σ',o)→x.Kind≠1→x.Kind≠10→v.length=x.av.length→∀loc,eL c.B.Tables loc x=true→σ'.Dp=σ.Dp∧(WL σ.Ls→(∀n∈v,ax n=n)→WL σ'.Ls∧∀m l a b,l=a++(kM x m++b)→(bN l).Nodup→∀(d:Nat) S,σ.Dp=d→
  er c d l (kM x m++b) (v.reverse++S) σ.Ls (bY σ) b S σ' o):=by
 intro σ x v σ' o h k1 oa hlen loc hb;obtain⟨CI,A2,Mh,kA,rF,_⟩:=ri hb;rw[ij]at h;have one:(x.Kind=2\/x.Kind=3\/x.Kind=9\/x.Kind=11\/x.Kind=12\/x.Kind=22)->∃u,v=[u]:=by
  intro hk;rcases yK CI with h|⟨h,ha⟩|⟨h,ha⟩|⟨h,ha⟩
  ·omega
  ·simp_all[EJ]
  ·omega
  ·omega
 by_cases k2:x.Kind=2\/x.Kind=3
 ·rw[if_pos k2]at h;obtain⟨u,rfl⟩:=one (by omega);split at h
  ·rename_i cO;simp only[akC,apM]at h;obtain⟨rfl,rfl⟩:=h;refine⟨rfl,λhW hv=>⟨hW.set _ (hv u (by simp)),λm l a b hl hu d S hd=>?_⟩⟩;have ht:kM x m=[⟨6,x.aI⟩]:=by
    unfold kM;rw[if_neg (by omega),if_neg (by omega)];simp_all[eS,if_pos]
   rw[ht];exact cD.put cO.2
  grind
 rw[if_neg k2]at h;by_cases k9:x.Kind=9
 ·rw[if_pos k9]at h;obtain⟨u,rfl⟩:=one (by omega);split at h
  ·have AA:aC [u] 0=u:=rfl;rw[AA]at h;have iY:∀s∈(if u≠0 then x.Body else x.bC),eL c.B.Tables loc s=true:=by
    grind
   obtain⟨d1,r1⟩:=ih.block σ _ σ' o h loc iY;refine⟨d1,λhW hv=>⟨(r1 hW).1,λm l a b hl hu d S hd=>?_⟩⟩;have huw:ax u=u:=hv u (by simp);have r2:=(r1 hW).2;have bx:∀(b':List ae),cD c d l b' S σ'.Ls (bY σ') b S σ'.Ls (bY σ')->er c d l (kM x m++b) ([u].reverse++S) σ.Ls (bY σ) b' S σ' o->er c d l (kM x m++b) ([u].reverse++S) σ.Ls (bY σ) b S σ' o:=by
    intro b' hg hr;cases o with
    | bL n=>exact cD.trans hr hg
    | bm n=>exact hr
    | over=>exact hr
    | ret n=>exact hr
   by_cases he:x.bC=[]
   ·have ht:kM x m++b=⟨25,m⟩::((aQ x.Body (kS x m)).1++(⟨38,m⟩::b)):=by
     simp_all[kM,if_pos]
    rw[ht]at hl bx⊢;by_cases NO:u=0
    ·rw[if_neg (by omega),he]at r2;have hz:=cD.Fw (c:=c) (d:=d) (r:=(aQ x.Body (kS x m)).1++(⟨38,m⟩::b)) (S:=S) (L:=σ.Ls) (σ:=bY σ) (a:=a++(⟨25,m⟩::(aQ x.Body (kS x m)).1)) (b:=b) (v:=u) (n:=m) (l:=l) (by grind) hu (by omega);have:=r2 0 l (a++(⟨25,m⟩::((aQ x.Body (kS x m)).1++ [⟨38,m⟩]))) b (by simp_all[aQ]) hu d S hd;grind[aQ,er.pre]
    ·rw[if_pos (by omega)]at r2;refine bx (⟨38,m⟩::b) cD.label (er.pre (cD.Fx (by omega)) ?_);exact r2 (kS x m) l (a++ [⟨25,m⟩]) _ (by grind) hu d S hd
   ·have ht:kM x m++b=⟨25,m⟩::((aQ x.Body (kS x m)).1++(⟨24,m+1⟩::⟨38,m⟩::((aQ x.bC (aQ x.Body (kS x m)).2).1++(⟨38,m+1⟩::b)))):=by
     simp_all[kM,if_pos,if_neg]
    rw[ht]at hl bx⊢;by_cases NO:u=0
    ·rw[if_neg (by omega)]at r2;refine bx (⟨38,m+1⟩::b) cD.label ?_;have hz:=cD.Fw (c:=c) (d:=d) (r:=(aQ x.Body (kS x m)).1++(⟨24,m+1⟩::⟨38,m⟩::((aQ x.bC (aQ x.Body (kS x m)).2).1++(⟨38,m+1⟩::b)))) (S:=S) (L:=σ.Ls) (σ:=bY σ) (a:=a++(⟨25,m⟩::((aQ x.Body (kS x m)).1++ [⟨24,m+1⟩]))) (b:=(aQ x.bC (aQ x.Body (kS x m)).2).1++(⟨38,m+1⟩::b)) (v:=u) (n:=m) (l:=l) (by grind) hu (by omega);exact er.pre hz (r2 _ l (a++(⟨25,m⟩::((aQ x.Body (kS x m)).1++ [⟨24,m+1⟩,⟨38,m⟩]))) _ (by grind) hu d S hd)
    ·rw[if_pos (by omega)]at r2;have hj:=cD.jump (c:=c) (d:=d) (r:=⟨38,m⟩::((aQ x.bC (aQ x.Body (kS x m)).2).1++(⟨38,m+1⟩::b))) (S:=S) (L:=σ'.Ls) (σ:=bY σ') (a:=a++(⟨25,m⟩::((aQ x.Body (kS x m)).1++(⟨24,m+1⟩::⟨38,m⟩::(aQ x.bC (aQ x.Body (kS x m)).2).1)))) (b:=b) (n:=m+1) (l:=l) (by grind) hu;refine bx _ hj (er.pre (cD.Fx (by omega)) ?_);exact r2 (kS x m) l (a++ [⟨25,m⟩]) _ (by grind) hu d S hd
  grind
 rw[if_neg k9]at h;by_cases o9:x.Kind=11
 ·rw[if_pos o9]at h;obtain⟨u,rfl⟩:=one (by omega);split at h
  ·rename_i cO;obtain⟨_,aS,akr,_⟩:=cO;have AA:aC [u] 0=u:=rfl;rw[AA]at h;have ht:∀(m:Int) (b:List ae),kM x m++b=⟨19,2⟩::⟨6,x.aI⟩::(ni x m++b):=by
    simp_all[kM,if_neg,if_pos]
   by_cases he:(dq σ.W 2 u).2=0
   ·rw[if_neg (by omega)]at h;obtain⟨d1,r1⟩:=ih.each _ x σ' o h o9 loc hb;have d1:σ'.Dp=σ.Dp:=d1;have ZZ:=Md hB.fits aS 2 u;have nE:WL σ.Ls->WL (σ.Ls.set x.aI.toNat (dq σ.W 2 u).1):=λhW=>hW.set _ ZZ
    refine⟨d1,λhW hv=>⟨(r1 (nE hW)).1,λm l a b hl hu d S hd=>?_⟩⟩;rw[ht]at hl⊢;have ga:=(Cs (c:=c) (d:=d) (l:=l) (r:=⟨6,x.aI⟩::(ni x m++b)) (k:=2) (v:=u) (S:=S) (L:=σ.Ls) (σ:=bY σ) aS).1 he;have gb:=ga.trans (cD.put akr);have acr:ax (dq (bY σ).W 2 u).1=(dq (bY σ).W 2 u).1:=ZZ;rw[acr]at gb;exact er.pre gb ((r1 (nE hW)).2 m l (a++ [⟨19,2⟩,⟨6,x.aI⟩]) b (by grind) hu d S hd)
   ·rw[if_pos (by omega)]at h;simp only[akC,apM]at h;obtain⟨rfl,rfl⟩:=h;refine⟨rfl,λhW hv=>⟨hW,λm l a b hl hu d S hd=>?_⟩⟩;rw[ht];exact(Cs (c:=c) (d:=d) (l:=l) (r:=⟨6,x.aI⟩::(ni x m++b)) (k:=2) (v:=u) (S:=S) (L:=σ.Ls) (σ:=bY σ) aS).2 he
  grind
 rw[if_neg o9]at h;have ht:∀(m:Int) (b:List ae),kM x m++b=eS x.Kind x.aI::b:=by
  simp_all[kM,if_neg]
 by_cases CT:x.Kind=12
 ·rw[if_pos CT]at h;obtain⟨u,rfl⟩:=one (by omega);split at h
  ·simp only[akC,apM]at h;obtain⟨rfl,rfl⟩:=h;refine⟨rfl,λhW hv=>⟨hW,λm l a b hl hu d S hd=>?_⟩⟩;rw[ht];have:eS x.Kind x.aI=⟨27,0⟩:=by rw[CT];rfl
   rw[this];exact dC.ret
  grind
 rw[if_neg CT]at h;unfold Km at h;by_cases Mi:x.Kind=21
 ·rw[if_pos Mi]at h;split at h
  ·rename_i aS;have hv:v=[]:=by
    grind[yK,List.length_eq_zero_iff]
   subst hv;have apo:eS x.Kind x.aI=⟨35,0⟩:=by rw[Mi];rfl
   have hr:=λd l b S=>FC (c:=c) h (i:=⟨35,0⟩) agK (S:=S) (S0:=S) (by simp[instJ,bY,aS]) d l b
   refine⟨(hr 0 [] [] []).2.1,λhW hv=>⟨by rw[(hr 0 [] [] []).1];exact hW,λm l a b hl hu d S hd=>?_⟩⟩;grind
  grind
 rw[if_neg Mi]at h;by_cases TI:x.Kind=22
 ·rw[if_pos TI]at h;split at h
  ·rename_i aS;obtain⟨u,rfl⟩:=one (by omega);have apq:eS x.Kind x.aI=⟨36,0⟩:=by rw[TI];rfl
   have hr:=λd l b S=>FC (c:=c) h (i:=⟨36,0⟩) agL (S:=u::S) (S0:=S) (by simp[instJ,dr,bY,aS.1,Cr]) d l b
   refine⟨(hr 0 [] [] []).2.1,λhW hv=>⟨by rw[(hr 0 [] [] []).1];exact hW,λm l a b hl hu d S hd=>?_⟩⟩;grind
  grind
 rw[if_neg TI]at h;cases hw:dk c σ.W x.Kind x.aI v with
 | none=>grind
 | some p=>
   have aS:=aeZ hw;have DR:σ'.Dp=σ.Dp/\σ'.Ls=σ.Ls:=by
    grind
   refine⟨DR.1,λhW hv=>⟨by grind,λm l a b hl hu d S hd=>?_⟩⟩;rw[ht];obtain⟨hf,hJ⟩:=inst_chg (c:=c) CI ⟨k1,by omega,by omega,k9,oa,o9,CT,Mi,TI⟩ hlen S σ.Ls (bY σ) aS;refine acj hf hJ rfl rfl h ?_ ?_
   ·grind[Option.some.injEq,Prod.mk.injEq,Qb]
   ·intro w x1 hww;exact(Qb hww).2 x1 rfl
theorem KF{c}(hB:gK c.B):∀g,uo c g:=by
 intro g
 induction g with
 | zero=>constructor<;>intros<;>rename_i h<;>first|(simp[dP,dL,jo,dV,jH,jI,kU,gn,fu,ij]at *;done)
 | succ g ih=>exact⟨acn ih,ZT ih,ZU hB ih,WC ih,ZW ih,ZV ih,acp ih,WG ih,ZY hB ih,Z0 hB ih⟩
def Qh(σ:XS):OC->Option Oc
 | .bL n=>some (.ret n (bY σ))
 | .bm x=>some (.bm x (bY σ))
 | .over=>some (.over (bY σ))
 | .ret _=>none
theorem ae1{c}(hB:gK c.B){g}{σ σ'}{r}{a}{o}(h:jo c g σ r a=some (σ',o))(h0:σ.Dp=0):
  ∃y,Qh σ' o=some y/\dC c 1 (bT c.B r) (bT c.B r) [] ((aX c).lo r a) (bY σ) y:=by
 have:=(((KF hB g).call σ r a σ' o h).2.2 0 (by omega)).2 (by omega);cases o with
 | bL n=>exact⟨_,rfl,this⟩
 | bm n=>exact⟨_,rfl,this⟩
 | over=>exact⟨_,rfl,this⟩
 | ret n=>grind
theorem oS{t}(hf:fF t=true):(∀s∈t.gO,s.size<=1024)/\(∀r:Int,0<=r->r<t.Params.length->(0<=aC t.Params r/\aC t.Params r<=8)/\aC t.Params r<=aC t.aJ r/\aC t.aJ r<=24)/\(∀n∈t.cS,0<=n/\n<t.Params.length):=by
 unfold fF IK D5 at hf;simp[bJ,cx]at hf;obtain⟨⟨⟨⟨h1,h2⟩,h3⟩,h4⟩,h5⟩:=hf;refine⟨λs hs=>?_,λr r1 r2=>?_,λn hn=>?_⟩
 ·simp_all[uO]
 ·simp_all[yh,bJ,aC]
 grind
theorem xg{t}(hf:fF t=true) i:(tX t i).size<=1024:=by
 unfold tX;split
 ·decide
 grind[oS,List.mem_of_getElem?]
theorem Jq:Vh.size=7:=by decide
theorem sa{t}(hf:fF t=true) x:(ix t x).size<=1024:=by
 grind[ix,Jq,xg]
theorem Mj:∀l:List ByteArray,(∀s∈l,s.size<=1024)->(Aa l).size<=7+l.length *1029
 | [],_=>by simp[Aa,Jq]
 | [a],h=>by grind[Aa,List.length_cons,List.length_nil]
 | [a,b],h=>by
   have h1:=h a (by simp);have h2:=h b (by simp);rw[Aa];simp;have:(ByteArray.mk #[32,97,110,100,32]).size=5:=by decide
   omega
 | a::b::c::l,h=>by
   have h1:=h a (by simp);have ih:=Mj (b::c::l) (λs hs=>h s (by simp at hs⊢;exact .inr hs));have e:Aa (a::b::c::l)=a++ByteArray.mk #[44,32]++Aa (b::c::l):=by first|rfl|(all_goals simp)
   rw[e];simp at ih⊢;have:(ByteArray.mk #[44,32]).size=2:=by decide
   omega
theorem Ct{t w}(hf:fF t=true)(hw:jM t w) x:(xb t w x).size<=131719:=by
 unfold xb;have h1:=Mj ((nX w x).map (ix t)) (λs hs=>by
  obtain⟨y,_,rfl⟩:=apV.1 hs;exact sa hf y)
 have h2:(nX w x).length<=(cz w.tree x).length:=List.length_filter_le _ _;have h3:=tc w.tree x;have h4:w.tree.bz.length=w.ah.length:=rfl;have h5:=hw.hT;have h6:=hw.hn;grind
theorem WH{t w}(hf:fF t=true)(hw:jM t w):(BX t w).size<=150000:=by
 unfold BX;have h1:=sa hf (eV w);have h2:=xg hf (bW t (eV w)).Text;have h3:=Ct hf hw (eV w);have e0:(ByteArray.mk #[]).size=0:=by decide
 have e1:(ByteArray.mk #[10]).size=1:=by decide
 have e2:(ByteArray.mk #[89,111,117,32,115,101,101,32]).size=8:=by decide
 have e3:(ByteArray.mk #[46,10]).size=2:=by decide
 have e4:(ByteArray.mk #[73,116,32,105,115,32,100,97,114,107,46,10]).size=12:=by decide
 grind
theorem Mk:∀k n,n<10^(k+1)->(z8 n).size<=k+1
 | 0,n,h=>by
   rw[z8,if_pos (by omega)];exact Nat.le_of_eq rfl
 | k+1,n,h=>by
   rw[z8];split
   ·exact aqo (Nat.le_of_eq rfl) (Nat.succ_le_succ (aqc (k+1)))
   ·have:=Mk k (n / 10) (by
     omega)
    rw[aqi];have e:(ByteArray.mk #[UInt8.ofNat (48+n % 10)]).size=1:=rfl;omega
theorem Z1{n}(h:ax n=n):(yq n).size<=150000:=by
 have hb:=cR n;have h1:=Mk 4 n.natAbs (by omega);unfold yq;split
 ·rw[aqi];have:(ByteArray.mk #[45]).size=1:=by decide
  omega
 ·omega
theorem kE{c w}:okW c w=true↔bS c.B.Tables w=true/\(0<=w.dN/\w.dN<18446744073709551616):=by
 simp[okW]
theorem acs s:0<=BW s/\BW s<18446744073709551616:=Kj _
theorem Ml{α}(w:α) p:(iV w p).1=w:=by grind[iV]
theorem od{l:List Int}{n}(h:eE n 0 (l.length-1)=true):eJ l n:=by
 unfold eE at h;grind
theorem acu{c}{w}{e}{a}{loc}(hB:gK c.B)(aS:okW c w=true)(hb:dH c.B.Tables e loc false=true)(vR:e.Kind≠18)(r6:e.Kind≠15)(ha:a.length=e.av.length):
  ∃w' o,dZ c w e.Kind (lZ e) a=some (w',o)/\okW c w'=true:=by
 have hW:=Jp hB.fits aS;have pr:∀p,∃w' o,some (iV w p)=some (w',o)/\okW c w'=true:=λp=>⟨(iV w p).1,(iV w p).2,rfl,by simp_all[Ml]⟩
 rcases lG hb with⟨hk,hl⟩|⟨hk,hl⟩|⟨hk,hl⟩|⟨hk,_⟩
 ·rw[hl]at ha;obtain rfl:=ap3.1 ha;rcases hk with hk|hk|hk|hk
  ·simp_all[lZ,dZ]
  ·have cO:eJ w.aW (lZ e):=by
    unfold dH at hb;rw[if_neg (by omega),if_pos hk,apP]at hb;have h1:=od hb.2;have h2:=hW.hG;grind[lZ]
   exact⟨w,.bL (aC w.aW (lZ e)),by simp_all[dZ],aS⟩
  ·omega
  simp_all[xa,lZ,dZ]
 ·rw[hl]at ha;obtain⟨x,rfl⟩:=EJ ha;have hx:aC [x] 0=x:=rfl;rcases hk with hk|hk|hk|hk|hk|hk
  ·simp_all[dZ]
  ·simp_all[dZ]
  ·by_cases iZ:ax x<1
   ·simp_all[dZ]
   ·refine⟨_,_,by simp[dZ,aS,hk,hx,iZ];exact⟨rfl,rfl⟩,?_⟩;have h1:=kE.1 aS;refine kE.2 ⟨Wj h1.1 _,?_⟩;unfold sJ;rw[if_neg iZ];exact acs _
  ·simp_all[abF,lZ,dZ]
  ·simp_all[BV,lZ,dZ]
  simp_all[dq,lZ,dZ]
 ·rw[hl]at ha;obtain⟨x,y,rfl⟩:=Qd ha;have hx:aC [x,y] 0=x:=rfl;have hy:aC [x,y] 1=y:=rfl;simp_all[dZ]
 omega
theorem WI{c w p}(aS:okW c w=true)(h1:p.2=0->bS c.B.Tables p.1=true)(h2:p.1.dN=w.dN):okW c (iy w p).1=true:=by
 grind[iy,kE]
theorem Mm w x f on:(ig w x f on).1.dN=w.dN:=by grind[ig]
theorem acv t w x p n:(sI t w x p n).1.dN=w.dN:=by grind[sI]
theorem Mn t p:(tY t p).1.dN=p.1.dN:=by grind[tY]
theorem RV t w x:(kI t w x).1.dN=w.dN:=by
 unfold kI;split
 ·rfl
 ·rw[Mn];unfold kH;split<;>rfl
theorem Z2 t w x to:(oN t w x to).1.dN=w.dN:=by
 unfold oN;split
 ·rfl
 ·rw[Mn];unfold pW;split<;>(try split)<;>rfl
theorem Mo{t x loc}(h:o8 t x loc=true):(x.Kind=2\/x.Kind=3->0<=x.aI/\x.aI<loc)/\(x.Kind=11->0<=x.aI/\x.aI+1<loc)/\(x.Kind=23->eJ t.aW x.aI)/\(x.Kind=5\/x.Kind=6->0<=x.aI/\x.aI<t.Flags)/\(x.Kind=17\/x.Kind=18->eJ t.eu x.aI):=by
 unfold o8 at h;split at h
 ·refine⟨λhk=>?_,λhk=>?_,λhk=>?_,λhk=>?_,λhk=>?_⟩
  ·grind
  ·grind
  ·rw[if_neg (by omega),if_neg (by omega),if_pos hk]at h;exact od h
  ·grind
  ·rw[if_neg (by omega),if_neg (by omega),if_neg (by omega),if_neg (by omega),if_neg (by omega),if_pos hk]at h;exact od h
 grind
theorem acw{c}{w}{x}{a}{loc}(hB:gK c.B)(aS:okW c w=true)(hs:(gX x).1=true)(A2:o8 c.B.Tables x loc=true)(hk:x.Kind≠1∧x.Kind≠2∧x.Kind≠3∧x.Kind≠9∧x.Kind≠10∧x.Kind≠11∧x.Kind≠12∧x.Kind≠21∧x.Kind≠22)(hl:a.length=x.av.length)(hw:∀n∈a,ax n=n):
  ∃w' o,dk c w x.Kind x.aI a=some (w',o)/\okW c w'=true:=by
 have hW:=Jp hB.fits aS;obtain⟨hr,TJ⟩:=kE.1 aS;obtain⟨-,-,t23,t5,t17⟩:=Mo A2;obtain⟨k1,k2,k3,k9,oa,o9,CT,Mi,TI⟩:=hk;have pr:∀p:ai×Int,(p.2=0->bS c.B.Tables p.1=true)->p.1.dN=w.dN->∃w' o,some (iy w p)=some (w',o)/\okW c w'=true:=λp h1 h2=>⟨(iy w p).1,(iy w p).2,rfl,WI aS h1 h2⟩
 have mL:=(gC hB.fits).2.2.2.2.2.2.2.2;rcases yK hs with h|⟨h,ha⟩|⟨h,ha⟩|⟨h,ha⟩
 ·omega
 ·rw[ha]at hl;obtain⟨u,rfl⟩:=EJ hl;have hu:aC [u] 0=u:=rfl;have hub:=cR u;rw[hw u (by simp)]at hub;rcases h with h|h|h|h|h|h|h|h|h|h|h|h|h|h|h<;>first|exact(by omega:False).elim|skip
  ·obtain⟨w',o,h1,h2⟩:=pr (ig w u x.aI true) (λ_=>Jh hr u x.aI true (t5 (.inl h)) mL.2) (Mm _ _ _ _);simp_all[dk]
  ·obtain⟨w',o,h1,h2⟩:=pr (ig w u x.aI false) (λ_=>Jh hr u x.aI false (t5 (.inr h)) mL.2) (Mm _ _ _ _);simp_all[dk]
  ·have cO:eJ w.bO x.aI:=by have h1:=t17 (.inl h);have h2:=hW.hD;omega
   refine⟨{w with bO:=w.bO.set x.aI.toNat (if u<1 then 1 else u)},.bL 0,by simp_all[dk],kE.2 ⟨EF hr _ _ ?_,TJ⟩⟩;omega
  ·have cO:eJ w.aW x.aI:=by have h1:=t23 h;have h2:=hW.hG;omega
   exact⟨{w with aW:=w.aW.set x.aI.toNat u},.bL 0,by simp_all[dk],kE.2 ⟨MR hr _ _ hub,TJ⟩⟩
  ·obtain⟨w',o,h1,h2⟩:=pr (kI c.B.Tables w u) (λh0=>P3 hr hW u h0) (RV _ _ _);simp_all[dk]
  ·simp_all[D1,dk,kE,RI,cR]
  ·by_cases hg:u<1\/12<u
   ·simp_all[dk]
   ·exact⟨{w with Go:=u},.bL 0,by simp_all[dk],kE.2 ⟨ab8 hr _ (by omega),TJ⟩⟩
  simp_all[dk]
 ·rw[ha]at hl;obtain⟨u,v,rfl⟩:=Qd hl;have hu:aC [u,v] 0=u:=rfl;have hv:aC [u,v] 1=v:=rfl;rcases h with h|h
  ·obtain⟨w',o,h1,h2⟩:=pr (sI c.B.Tables w u x.aI v) (λ_=>ZI hr u x.aI v) (acv _ _ _ _ _);simp_all[dk]
  ·obtain⟨w',o,h1,h2⟩:=pr (oN c.B.Tables w u v) (λh0=>Wm hr hW u v h0) (Z2 _ _ _ _);simp_all[dk]
 ·rw[ha]at hl;obtain rfl:=ap3.1 hl;rcases h with h|h|h|h|h<;>first|exact(Mi h).elim|skip
  ·have cO:eJ w.bO x.aI:=by have h1:=t17 (.inr h);have h2:=hW.hD;omega
   exact⟨{w with bO:=w.bO.set x.aI.toNat 0},.bL 0,by simp_all[dk],kE.2 ⟨EF hr _ _ (by omega),TJ⟩⟩
  ·simp_all[dk]
  ·simp_all[dk,kE,Jg]
  simp_all[dk,kE,Jg]
structure Rl(c:XC) (k:Int) (σ σ':XS):Prop where
 w:okW c σ'.W=true
 ls:σ'.Ls.length=σ.Ls.length
 dp:σ'.Dp=σ.Dp
 f1:σ.Fuel<=σ'.Fuel
 f2:σ'.Fuel<=max c.M 0
 out:(σ'.Out.size:Int)+1300000 *σ.Fuel<=σ.Out.size+k+1300000 *σ'.Fuel
structure Iv(c:XC) (σ:XS):Prop where
 w:okW c σ.W=true
 d0:0<=σ.Dp/\σ.Dp<=32
 f0:0<=σ.Fuel
 f2:σ.Fuel<=max c.M 0
 out:(σ.Out.size:Int)<=1300000 *σ.Fuel
theorem Iv.rl{c σ}(h:Iv c σ){k}(hk:0<=k):Rl c k σ σ:=⟨h.w,rfl,rfl,aql _,h.f2,by omega⟩
theorem Rl.trans{c k j σ aO bV}(h1:Rl c k σ aO)(h2:Rl c j aO bV){i}(hi:k+j<=i):Rl c i σ bV:=by
 obtain⟨a1,a2,a3,a4,a5,a6⟩:=h1;obtain⟨b1,b2,b3,b4,b5,b6⟩:=h2;exact⟨b1,by omega,by omega,by omega,b5,by omega⟩
theorem Rl.iv{c k σ σ'}(h:Rl c k σ σ')(hi:Iv c σ)(ho:(σ.Out.size:Int)+k<=1300000 *σ.Fuel):Iv c σ':=by
 obtain⟨a1,a2,a3,a4,a5,a6⟩:=h;obtain⟨b1,b2,b3,b4,b5⟩:=hi;exact⟨a1,by omega,by omega,a5,by omega⟩
def Aj(c:XC)(k:Int)(σ:XS)(f:Nat->Option (XS×OC)):Prop:=∃g σ' o,f g=some (σ',o)/\Rl c k σ σ'
theorem A4{c σ s}(hM:c.M<=1000000)(h:Iv c σ)(hs:s.size<=150000):∃σ' o,Ac σ s=some (σ',o)/\Rl c 150000 σ σ':=by
 obtain⟨a1,a2,a3,a4,a5⟩:=h;refine⟨{σ with Out:=σ.Out++s,Wr:=true},.bL 0,by unfold Ac;grind,⟨a1,rfl,rfl,aql _,a4,?_⟩⟩;grind
theorem HE{c σ}(hM:c.M<=1000000)(h:Iv c σ):(∃σ',tZ c σ=some (σ',.bL 0)/\Rl c (-1300000) σ σ'/\σ'.Fuel=σ.Fuel+1)\/tZ c σ=some (σ,.bm 19):=by
 obtain⟨a1,a2,a3,a4,a5⟩:=h;unfold tZ;rw[if_pos (by omega)];by_cases hc:c.M<σ.Fuel+1
 ·grind
 ·left;rw[if_neg hc];exact⟨_,rfl,⟨a1,rfl,rfl,by grind,by grind,by grind⟩,rfl⟩
section
variable {c : XC} (hB : gK c.B) (hM : c.M <= 1000000) {d loc : Int}
def Jr(c:XC)(d:Int):Prop:=∀σ r a,Iv c σ->σ.Dp=d->eJ c.B.aF r->(a.length:Int)<=aC c.B.Tables.aJ r->Aj c 0 σ (λg=>jo c g σ r a)
def WJ(c:XC)(d loc:Int)(e:au):Prop:=∀σ,Iv c σ->σ.Dp=d->(σ.Ls.length:Int)=loc->Aj c 0 σ (λg=>dP c g σ e)
theorem HF:∀l,(∀e∈l,WJ c d loc e)->∀σ,Iv c σ->σ.Dp=d->(σ.Ls.length:Int)=loc->∃g σ' o,dL c g σ l=some (σ',o)/\Rl c 0 σ σ'
 | [],_,σ,hi,hd,hl=>⟨1,σ,.inl [],by rfl,hi.rl (by omega)⟩
 | e::l,h,σ,hi,hd,hl=>by
   obtain⟨g1,aO,o1,h1,r1⟩:=h e (by simp) σ hi hd hl;have h1:dP c g1 σ e=some (aO,o1):=h1;cases o1 with
   | bL n=>
     obtain⟨g2,bV,o2,h2,r2⟩:=HF l (λx hx=>h x (by grind)) aO (r1.iv hi (by have:=hi.out;omega)) (by rw[r1.dp];exact hd) (by rw[r1.ls];exact hl);have e1:=qJ (aq2 g1 g2) h1;have e2:=Cq (aqR g1 g2) h2;cases o2 with
     | inl a=>exact⟨max g1 g2+1,bV,.inl (n::a),by simp_all[dL],r1.trans r2 (by omega)⟩
     | inr o=>exact⟨max g1 g2+1,bV,.inr o,by simp_all[dL],r1.trans r2 (by omega)⟩
   | bm x=>exact⟨g1+1,aO,.inr (.bm x),by rw[dL,h1],r1⟩
   | over=>exact⟨g1+1,aO,.inr .over,by rw[dL,h1],r1⟩
   | ret x=>exact⟨g1+1,aO,.inr (.ret x),by rw[dL,h1],r1⟩
theorem EN(hB:gK c.B){f}{n:Nat}(h:kL c.B.Tables f=n):eJ c.B.Tables.cS f/\eJ c.B.aF (aC c.B.Tables.cS f)/\(n:Int)<=aC c.B.Tables.aJ (aC c.B.Tables.cS f)/\n<=8:=by
 unfold kL at h;split at h
 ·rename_i hc;rw[apP]at hc;have h1:=od hc.1;have h2:eJ c.B.Tables.Params (aC c.B.Tables.cS f):=od hc.2;have h3:=(oS hB.fits).2.1 _ h2.1 h2.2;have h4:aC c.B.Tables.Params (aC c.B.Tables.cS f)=n:=h;have h5:=hB.len;omega
 ·omega
theorem FD(hB:gK c.B)(hc:Jr c d):∀n e,SizeOf.sizeOf e<n->cw c.B.Tables loc e false=true->WJ c d loc e:=by
 intro n
 induction n with
 | zero=>simp
 | succ n ih=>
   intro e hn hb σ hi hd hl;rw[iP,apP,jd,apR]at hb;obtain⟨hb,wx⟩:=hb;have kh:∀x∈e.av,WJ c d loc x:=λx hx=>ih x (by have:=au.mO hx;omega) (wx x hx)
   have hi0:=hi.out;by_cases h6:e.Kind=6/\(e.Op=1\/e.Op=2)
   ·obtain⟨x,y,hxy⟩:∃x y,e.av=[x,y]:=by
     rcases lG hb with⟨hk,_⟩|⟨hk,_⟩|⟨_,hl⟩|⟨hk,_⟩
     ·omega
     ·omega
     ·exact Qd hl
     ·omega
    obtain⟨g1,aO,o1,h1,r1⟩:=kh x (by grind) σ hi hd hl;have h1:dP c g1 σ x=some (aO,o1):=h1;cases o1 with
    | bL v=>
      by_cases hv:decide (v≠0)=decide (e.Op=1)
      ·refine⟨g1+1,aO,.bL (gF (decide (v≠0))),?_,r1⟩;simp_all[dP,if_pos]
      ·obtain⟨g2,bV,o2,h2,r2⟩:=kh y (by grind) aO (r1.iv hi (by omega)) (by rw[r1.dp];exact hd) (by rw[r1.ls];exact hl);have e1:=qJ (aq2 g1 g2) h1;have e2:=qJ (aqR g1 g2) h2;have hr:=r1.trans r2 (i:=0) (by omega);cases o2 with
       | bL u=>
         refine⟨max g1 g2+1,bV,.bL (gF (decide (u≠0))),?_,hr⟩;simp_all[dP,max,if_pos,if_neg]
       | bm u=>
         refine⟨max g1 g2+1,bV,.bm u,?_,hr⟩;simp_all[dP,max,if_pos,if_neg]
       | over=>
         refine⟨max g1 g2+1,bV,.over,?_,hr⟩;simp_all[dP,max,if_pos,if_neg]
       | ret u=>
         refine⟨max g1 g2+1,bV,.ret u,?_,hr⟩;simp_all[dP,max,if_pos,if_neg]
    | bm u=>
      refine⟨g1+1,aO,.bm u,?_,r1⟩;simp_all[dP,if_pos]
    | over=>
      refine⟨g1+1,aO,.over,?_,r1⟩;simp_all[dP,if_pos]
    | ret u=>
      refine⟨g1+1,aO,.ret u,?_,r1⟩;simp_all[dP,if_pos]
   ·obtain⟨g1,aO,o1,h1,r1⟩:=HF e.av kh σ hi hd hl;have vw:zw e.av:=by
     show e.av.length<=1000000;rcases lG hb with⟨_,hl⟩|⟨_,hl⟩|⟨_,hl⟩|⟨_,hl⟩
     ·omega
     ·omega
     ·omega
     ·have:=(EN hB hl).2.2.2;omega
    rcases o1 with a|o
    ·have WK:a.length=e.av.length:=((KF hB g1).asks σ e.av aO (.inl a) h1 loc wx).2.2.1 a rfl;by_cases vR:e.Kind=18
     ·have hp:kL c.B.Tables e.aI=e.av.length:=by
       grind[lG]
      obtain⟨p1,p2,p3,p4⟩:=EN hB hp;obtain⟨g2,bV,o2,h2,r2⟩:=hc aO (aC c.B.Tables.cS e.aI) a (r1.iv hi (by omega)) (by rw[r1.dp];exact hd) p2 (by omega);have e1:=Cq (aq2 g1 g2) h1;have e2:=Ww (aqR g1 g2) h2;refine⟨max g1 g2+1,(nf (bV,o2)).1,(nf (bV,o2)).2,?_,?_⟩
      ·simp_all[dP,max,if_neg,if_pos]
      ·have:(nf (bV,o2)).1=bV:=by grind[nf]
       rw[this];exact r1.trans r2 (by omega)
     ·have hv:∃bV o2,Kl c aO e a=some (bV,o2)/\Rl c 0 aO bV:=by
       have i1:=r1.iv hi (by omega);unfold Kl;by_cases r6:e.Kind=15
       ·have cO:eJ aO.Ls e.aI:=by
         unfold dH at hb;rw[if_neg (by omega),if_neg (by omega),if_pos r6]at hb;simp only[apP,decide_eq_true_eq]at hb;exact⟨hb.1.2,by rw[r1.ls,hl];omega⟩
        exact⟨aO,.bL (aC aO.Ls e.aI),by grind,i1.rl (by omega)⟩
       ·obtain⟨w',o,CO,Ep⟩:=acu (a:=a) hB r1.w hb vR r6 WK;refine⟨{aO with W:=w'},o,by grind,⟨Ep,rfl,rfl,aql _,i1.f2,by simp⟩⟩
      obtain⟨bV,o2,h2,r2⟩:=hv;refine⟨g1+1,(nf (bV,o2)).1,(nf (bV,o2)).2,?_,?_⟩
      ·simp_all[dP,if_neg]
      ·have:(nf (bV,o2)).1=bV:=by grind[nf]
       rw[this];exact r1.trans r2 (by omega)
    ·refine⟨g1+1,aO,o,?_,r1⟩;simp_all[dP,if_neg]
theorem ae2(hB:gK c.B)(hM:c.M<=1000000)(hc:Jr c d) e(hb:cw c.B.Tables loc e true=true) σ(hi:Iv c σ)(ho:(σ.Out.size:Int)+150000<=1300000 *σ.Fuel)(hd:σ.Dp=d)(hl:(σ.Ls.length:Int)=loc):Aj c 150000 σ (λg=>kU c g σ e):=by
 by_cases mQ:e.Kind=19
 ·obtain⟨σ',o,h1,h2⟩:=A4 (s:=tX c.B.Tables e.aI) hM hi (aqo (xg hB.fits _) (by omega));exact⟨1,σ',o,by simp_all[kU],h2⟩
 ·by_cases jb:e.Kind=13
  ·obtain⟨x,hx,gS⟩:=TH hb jb;obtain⟨g1,aO,o1,h1,r1⟩:=FD hB hc _ x (ap5 _) gS σ hi hd hl;cases o1 with
   | bL n=>
     obtain⟨σ',o,h2,r2⟩:=A4 (s:=ix c.B.Tables n) hM (r1.iv hi (by omega)) (aqo (sa hB.fits _) (by omega));exact⟨g1+1,σ',o,by simp_all[kU,if_pos],r1.trans r2 (by omega)⟩
   | bm u=>exact⟨g1+1,aO,.bm u,by simp_all[kU,if_pos],r1.trans ((r1.iv hi (by omega)).rl (k:=0) (by omega)) (by omega)⟩
   | over=>exact⟨g1+1,aO,.over,by simp_all[kU,if_pos],r1.trans ((r1.iv hi (by omega)).rl (k:=0) (by omega)) (by omega)⟩
   | ret u=>exact⟨g1+1,aO,.ret u,by simp_all[kU,if_neg],r1.trans ((r1.iv hi (by omega)).rl (k:=0) (by omega)) (by omega)⟩
  ·obtain⟨g1,aO,o1,h1,r1⟩:=FD hB hc _ e (ap5 _) (Gu hb mQ jb) σ hi hd hl;cases o1 with
   | bL n=>
     obtain⟨σ',o,h2,r2⟩:=A4 hM (r1.iv hi (by omega)) (Z1 (Qf h1));exact⟨g1+1,σ',o,by simp_all[kU],r1.trans r2 (by omega)⟩
   | bm u=>exact⟨g1+1,aO,.bm u,by simp_all[kU],r1.trans ((r1.iv hi (by omega)).rl (k:=0) (by omega)) (by omega)⟩
   | over=>exact⟨g1+1,aO,.over,by simp_all[kU],r1.trans ((r1.iv hi (by omega)).rl (k:=0) (by omega)) (by omega)⟩
   | ret u=>exact⟨g1+1,aO,.ret u,by simp_all[kU],r1.trans ((r1.iv hi (by omega)).rl (k:=0) (by omega)) (by omega)⟩
theorem Qi(hB:gK c.B)(hM:c.M<=1000000)(hc:Jr c d):∀l,(∀e∈l,cw c.B.Tables loc e true=true)->∀σ,Iv c σ->(σ.Out.size:Int)+150000 *l.length<=1300000 *σ.Fuel->σ.Dp=d->(σ.Ls.length:Int)=loc->Aj c (150000 *l.length) σ (λg=>jI c g σ l)
 | [],_,σ,hi,_,hd,hl=>⟨1,σ,.bL 0,by rfl,hi.rl (by simp)⟩
 | e::l,h,σ,hi,ho,hd,hl=>by
   simp[ar0]at ho⊢;obtain⟨g1,aO,o1,h1,r1⟩:=ae2 hB hM hc e (h e (by simp)) σ hi (by omega) hd hl;have i1:=r1.iv hi (by omega);have vA:Rl c (150000 *((l.length:Int)+1)) σ aO:=r1.trans (i1.rl (k:=0) (by omega)) (by omega);cases o1 with
   | bL n=>
     obtain⟨g2,bV,o2,h2,r2⟩:=Qi hB hM hc l (λx hx=>h x (by grind)) aO i1 (by have:=r1.out;omega) (by rw[r1.dp];exact hd) (by rw[r1.ls];exact hl);have e1:=ZN (aq2 g1 g2) h1;have e2:=Wy (aqR g1 g2) h2;exact⟨max g1 g2+1,bV,o2,by simp_all[jI],r1.trans r2 (by omega)⟩
   | bm u=>exact⟨g1+1,aO,.bm u,by simp_all[jI],vA⟩
   | over=>exact⟨g1+1,aO,.over,by simp_all[jI],vA⟩
   | ret u=>exact⟨g1+1,aO,.ret u,by simp_all[jI],vA⟩
end
set_option maxHeartbeats 4000000
set_option maxRecDepth 20000
def Js:ByteArray:=⟨#[44,32]⟩
def agM:ByteArray:=⟨#[32,97,110,100,32]⟩
def yL(n k:Nat):ByteArray:=if k+2=n then agM else Js
def qL(l:List ByteArray):Nat->ByteArray
 | 0=>l[0]?.getD ⟨#[]⟩
 | k+1=>qL l k++(yL l.length k++l[k+1]?.getD ⟨#[]⟩)
theorem Mr(a:ByteArray)(l:List ByteArray)(h:2<=l.length):∀k,qL (a::l) (k+1)=a++(Js++qL l k)
 | 0=>by
   rw[qL,qL];have:yL (a::l).length 0=Js:=by unfold yL;rw[if_neg (by simp;omega)]
   rw[this];simp[qL]
 | k+1=>by
   rw[qL,Mr a l h k,qL];have:yL (a::l).length (k+1)=yL l.length k:=by unfold yL;simp
   rw[this];simp[ByteArray.append_assoc]
theorem Qj:∀l:List ByteArray,l≠ []->qL l (l.length-1)=Aa l
 | [],h=>absurd rfl h
 | [a],_=>rfl
 | [a,b],_=>by
   show a++(yL 2 0++b)=a++agM++b;rw[ByteArray.append_assoc];rfl
 | a::b::c::l,_=>by
   have ih:=Qj (b::c::l) (by simp);show qL (a::b::c::l) ((l.length+1)+1)=a++Js++Aa (b::c::l);rw[Mr a (b::c::l) (by simp),<-ih,ByteArray.append_assoc];rfl
theorem Mt(l:List ByteArray)(h:∀s∈l,s.size<=1024):∀k,(qL l k).size<=1029 *(k+1)
 | 0=>by
   unfold qL;cases h0:l[0]? with
   | none=>have:(ByteArray.mk #[]).size=0:=rfl;simp only[Option.getD_none];omega
   | some s=>have:=h s (apT h0);simp only[aqF];omega
 | k+1=>by
   have ih:=Mt l h k;rw[qL,aqi,aqi];have h1:(yL l.length k).size<=5:=by unfold yL;split<;>decide
   have h2:(l[k+1]?.getD ⟨#[]⟩).size<=1024:=by
    cases h0:l[k+1]? with
    | none=>have:(ByteArray.mk #[]).size=0:=rfl;simp only[Option.getD_none];omega
    | some s=>have:=h s (apT h0);simpa using this
   omega
theorem Mu(t:aq)(w:ai)(x:Int)(hf:fF t=true)(aS:jM t w)(hF:fS w):Pure prog 82 [.agg (t.enc.map .d),.agg (w.enc.map .d),iD x] (.d (.v (.string (xb t w x)))):=by
 have hn:w.ah.length<=128:=by have:=aS.hT;have:=aS.hn;omega
 have rE:=Mc t w aS.wf aS.hC aS.hN hF (by omega) x;have hlen:((nX w x).map (ix t)).length<=128:=by
  rw[aqg];have:=List.length_filter_le (λy=>!ff w y 3&&decide (y≠1)) (cz w.tree x);have h2:(cz w.tree x).length<=w.ah.length:=tc w.tree x;unfold nX;omega
 have dW:∀s∈(nX w x).map (ix t),s.size<=1024:=by
  intro s hs;obtain⟨y,_,rfl⟩:=apV.1 hs;exact sa hf y
 unfold xb;generalize (nX w x).map (ix t)=l at *;by_cases h0:l=[]
 ·subst h0;refine rn func82 ?_;simp[-cB,f82];intro bs;refine pC rE ?_;simp;rfl
 have iX:0<l.length:=aqz.2 h0;have bU:¬l.length=0:=by omega
 rw[<-Qj l h0];have hrk:=Mt l dW;have e0:l[0]?.getD ⟨#[]⟩=l[0]:=by rw[anc iX];rfl
 have da:aN .i64 ((l.length:Int)-1):=iW;refine rn func82 ?_;simp[-cB,f82];intro bs;refine pC rE ?_;simp[h0,iX,bU,da];refine aw.cX [7,8,23,24] (l.length-1) (λi=> [(24,iD i),(8,.d (.v (.string (qL l i))))]) (λ_=> []) (λ_=>True) (by rfl) (by simp[qL,e0]) ?_;intro i hi _;rcases apW hi with ay|heq
 ·have dw:(i:Int)<(l.length:Int)-1:=by omega
  have WM:aN .i64 ((i:Int)+1):=iW;have pF:i+1<l.length:=by omega
  have e1:l[i+1]?.getD ⟨#[]⟩=l[i+1]:=by rw[anc pF];rfl
  have aks:aN .i64 ((l.length:Int)-2):=iW;have hk:=hrk i;have tA:=dW l[i+1] (ap1 pF);have z5:(ByteArray.mk #[32,97,110,100,32]).size=5:=rfl;have z2:(ByteArray.mk #[44,32]).size=2:=rfl;simp[dw,aks];rw[e1];refine⟨λh=>⟨WM,⟨by omega,pF⟩,by omega,by omega,WM,ay,?_⟩,λh=>⟨WM,⟨by omega,pF⟩,by omega,by omega,WM,ay,?_⟩⟩
  ·rw[qL,e1,yL,if_pos (by omega)];rfl
  ·rw[qL,e1,yL,if_neg (by omega)];rfl
 ·have bR:¬(i:Int)<(l.length:Int)-1:=by omega
  simp[bR];rw[heq]
set_option maxHeartbeats 200000
set_option maxRecDepth 512
section
variable {w : ai}
def KG(w:ai)(d:Nat)(y:Int):List Int:=if ff w y 3 then []else y::(if AT w y then qC w d y else [])
theorem RX(w:ai)(d:Nat)(x:Int):qC w (d+1) x=(cz w.tree x).flatMap (KG w d):=rfl
theorem ae3{ls:Int->List Int}(hn:iJ w.tree w.ah.length ls){x y:Int}(h:y∈cz w.tree x):aL w.ah y=x/\(1<=x/\x<w.ah.length)/\(1<=y/\y<w.ah.length):=by
 have hx:1<=x/\x<w.ah.length:=by
  unfold cz at h;split at h
  ·rename_i hx;exact bG.1 hx
  ·simp at h
 have hy:=vI h;rw[hn.kids hx]at h;exact⟨hn.par x hx.1 hx.2 y h,hx,hy⟩
theorem ae4{ls:Int->List Int}(hn:iJ w.tree w.ah.length ls){x y:Int}(h:y∈cz w.tree x):(jV w.tree y).length=(jV w.tree x).length+1:=by
 obtain⟨p1,p2,p3⟩:=ae3 hn h;have h1:=hn.Yu p2;have h2:=hn.Yu p3;have h3:Ch w.ah w.ah.length y (y::jV w.tree x):=Ch.cons p3 (by rw[p1];exact h1);rw[h2.uniq h3];simp
theorem agN{ls:Int->List Int}(hn:iJ w.tree w.ah.length ls){x:Int}(hx:1<=x/\x<w.ah.length):(jV w.tree x).length<w.ah.length:=by
 have h:=hn.Yu hx;rcases BI h.nodup h.mem with h2|h2
 ·exact h2
 ·rw[h2];simp;omega
end
set_option maxHeartbeats 4000000
set_option maxRecDepth 20000
theorem Z3{l:List Int}{i:Nat}(h:i<l.length):l.take (i+1)=l.take i++ [l[i]]:=by rw[aqy,anc h];rfl
def uY(w:ai)(d:Nat)(ks:List Int)(i:Nat):List Int:=(ks.take i).flatMap (KG w d)
theorem Z4(w:ai)(d:Nat)(ks:List Int):uY w d ks 0=[]:=rfl
theorem acx(w:ai)(d:Nat)(ks:List Int):uY w d ks ks.length=ks.flatMap (KG w d):=by unfold uY;rw[aqC]
theorem Z5(w:ai)(d:Nat)(ks:List Int)(i:Nat)(h:i<ks.length):uY w d ks (i+1)=uY w d ks i++(if ff w ks[i] 3 then []else ks[i]::(if AT w ks[i]then qC w d ks[i]else [])):=by
 unfold uY;rw[Z3 h,List.flatMap_append];simp[KG]
set_option maxHeartbeats 200000
set_option maxRecDepth 512
section
variable {P : Program} {n : Nat} {s : St} {Q : AX -> St -> Prop}
theorem ar.agO{ops:Array Oper}{o:Oper}{rest:List Oper}{c:Call}{f:FuncId}{args:List V}{L1 La Lb:aH}{x y:V}(hs:List Nat)(aP:o.op= .call c)(h:aE P f args L1 (fun r L=>(r= .ret x∧L=La)∨(r= .ret y∧L=Lb)))(hc:callee s.ev c=some (f,args))(hg:o.guard=none)
  (hd:∀d,o.dst=some d->d<n) (hr:dB n rest=true) (he:enters P f=true) (hL:s.L.filter (λp=>hs.contains p.1)=L1)
  (ho:V.dA (keys L1) args=true/\L1.all (λp=>aV.on (keys L1) p.2)=true/\L1.all (λp=>match p.2 with|.box (_+1) _ _=>false|_=>true)=true)
  (ja:(s.L.filter λp=>!hs.contains p.1).all (λp=>aV.on (keys (s.L.filter λp=>!hs.contains p.1)) p.2)=true)
  (hk:(keys La).all (λk=>!(keys (s.L.filter λp=>!hs.contains p.1)).contains k)=true/\(keys Lb).all (λk=>!(keys (s.L.filter λp=>!hs.contains p.1)).contains k)=true)
  (ka:∀bs,eN P ops rest (St.put ⟨s.fr.filter λp=>V.on (keys (s.L.filter λp=>!hs.contains p.1)) p.2,La++s.L.filter λp=>!hs.contains p.1⟩ o.dst x) bs [] (KK P n ops Q))
  (kb:∀bs,eN P ops rest (St.put ⟨s.fr.filter λp=>V.on (keys (s.L.filter λp=>!hs.contains p.1)) p.2,Lb++s.L.filter λp=>!hs.contains p.1⟩ o.dst y) bs [] (KK P n ops Q)):ar P n ops (o::rest) s Q:=by
 have hb:(L1.filterMap λp=>match p.2 with|.box (_+1) _ _=>some p.1|_=>none)=[]:=by
  rw[List.filterMap_eq_nil_iff];intro p hp;have:=apR.1 ho.2.2 p hp;split<;>simp_all
 refine ar.jo (L1:=L1) (L2:=s.L.filter λp=>!hs.contains p.1) (s.fr.filter λp=>V.on (keys (s.L.filter λp=>!hs.contains p.1)) p.2) hg hd aP hc he ho.1 (by subst hL;exact(aqD _ s.L).symm) ho.2.1 ?_ ?_ h ?_ ?_
 ·intro p hp;obtain⟨h1,h2⟩:=aq0.1 hp;exact⟨h1,(congrArg (λl=>V.on l p.2) ((congrArg (λl=>keys (s.L.filter λp=>!hs.contains p.1)++l) hb).trans (aqp _))).trans h2⟩
 ·intro p hp;exact(congrArg (λl=>aV.on l p.2) ((congrArg (λl=>keys (s.L.filter λp=>!hs.contains p.1)++l) hb).trans (aqp _))).trans (apR.1 ja p hp)
 ·rintro r uI (⟨rfl,rfl⟩|⟨rfl,rfl⟩)
  ·refine⟨⟨_,rfl⟩,λk pL=>?_,λk b ty cs hm=>?_⟩
   ·have:=apR.1 hk.1 k pL;simpa using this
   ·have:=apR.1 ho.2.2 _ hm;simp at this
  ·refine⟨⟨_,rfl⟩,λk pL=>?_,λk b ty cs hm=>?_⟩
   ·have:=apR.1 hk.2 k pL;simpa using this
   ·have:=apR.1 ho.2.2 _ hm;simp at this
 ·rintro x' uI (⟨e,rfl⟩|⟨e,rfl⟩)
  ·obtain rfl:=AE.ret.inj e;exact bf rest _ [] hr ka
  ·obtain rfl:=AE.ret.inj e;exact bf rest _ [] hr kb
end
set_option maxHeartbeats 4000000
set_option maxRecDepth 20000
theorem uq(w:ai)(hF:fS w)(x f:Int)(hf:0<=f/\f<=15):Pure prog 196 [.agg (w.enc.map .d),iD x,iD f] (oD (ff w x f.toNat)):=by
 have hh:=HA w hF x f;have e:(decide (dO w x f=0)&&ff w x f.toNat)=ff w x f.toNat:=by
  unfold dO;by_cases hx:cT w.ah.length x=true
  ·rw[if_pos hx,if_pos hf];simp
  ·have:ff w x f.toNat=false:=by unfold ff;simp[hx]
   rw[this];simp
 rw[e]at hh;generalize ff w x f.toNat=B at *;generalize dO w x f=E at *;refine rn func196 ?_;simp[-cB,f196];intro bs;refine pC hh ?_;simp[-cB]
theorem Qk(w:ai)(hF:fS w)(x:Int):Pure prog 276 [.agg (w.enc.map .d),iD x] (oD (AT w x)):=by
 have h2:=uq w hF x 2 (by decide);have h1:=uq w hF x 1 (by decide);unfold AT;simp only[show(2:Int).toNat=2 from rfl,show(1:Int).toNat=1 from rfl]at h1 h2;generalize ff w x 2=A at *;generalize ff w x 1=B at *;refine rn func276 ?_;simp[-cB,f276];intro bs;refine pC h2 ?_;simp[-cB];refine pG h1 ?_;simp[-cB]
def ais(w:ai)(d:Nat):Prop:=∀(x:Int),1<=x/\x<w.ah.length->w.ah.length<=(jV w.tree x).length+d->∀(l:Nat) (A:Nat->Env) (B:Env),(∀i z,(qC w d x)[i]?=some z->rV prog l [iD z] [(5003,.env (A i))] (YR (A (i+1)) B))->
 aE prog 242 [.agg (w.enc.map .d),iD x,yv l] [(5003,.env (A 0))] (λr L=>(r= .ret (oD true)/\L=[(5003,.env (A (qC w d x).length))])\/(r= .ret (oD false)/\L=[(5003,.env B)]))
theorem TL(w:ai)(aS:ym w)(hn:w.ah.length<=1000)(hF:fS w){ls:Int->List Int}(Z6:iJ w.tree w.ah.length ls):∀d,ais w d
 | 0,x,hx,hd,l,A,B,hy=>by
   have:=agN Z6 hx;omega
 | d+1,x,hx,hd,l,A,B,hy=>by
   have ih:=TL w aS hn hF Z6 d;have hk:=Gc w aS.wf aS.hC aS.hN x;have vG:(cz w.tree x).length<=w.ah.length:=tc w.tree x;have hkp:∀y∈cz w.tree x,(1<=y/\y<w.ah.length)/\w.ah.length<=(jV w.tree y).length+d:=λy hy=>⟨vI hy,by rw[ae4 Z6 hy];omega⟩
   rw[RX]at hy⊢;generalize cz w.tree x=ks at *;rw[<-acx];have hyp:∀i j z,i<=ks.length->(uY w d ks i)[j]?=some z->rV prog l [iD z] [(5003,.env (A j))] (YR (A (j+1)) B):=by
    intro i j z hi hz;refine hy j z ?_;have:ks.flatMap (KG w d)=uY w d ks i++(ks.drop i).flatMap (KG w d):=by
     unfold uY;rw[<-List.flatMap_append,aqh]
    rw[this,aqx (apQ.1 hz).1];exact hz
   clear hy;refine rX [6] [5003] func242 ?_;simp[-cB,f242];intro bs;refine pC hk ?_;simp[-cB];refine aw.cX [2,3,11,12,13] ks.length (λi=> [(13,iD i)]) (λi=> [(5003,.env (A (uY w d ks i).length))]) (λ_=>True) (by rfl) (by simp[Z4]) ?_;intro i hi _;rcases apW hi with ay|rfl
   ·have dw:(i:Int)<ks.length:=by omega
    have da:aN .i64 ((i:Int)+1):=iW;have FI:=Z5 w d ks i ay;have hh:=uq w hF ks[i] 3 (by decide);have CI:=Qk w hF ks[i];simp only[show(3:Int).toNat=3 from rfl]at hh;have hq:=hyp (i+1);obtain⟨OD,hq2⟩:=hkp ks[i] (ap1 ay);have ihy:=ih ks[i] OD hq2 l (λj=>A ((uY w d ks i).length+1+j)) B;generalize hH:ff w ks[i] 3=H at *;generalize hS:AT w ks[i]=S at *;generalize hRy:qC w d ks[i]=Ry at *;generalize agP:uY w d ks i=pre at *;rw[FI]at hq;cases H with
    | true=>
      simp at FI;simp[-cB,dw,ay,agP];refine pC hh ?_;simp[da,FI,ay]
    | false=>
      simp only[aqq,if_false]at FI hq;have O3:=hq pre.length ks[i] (by omega) (by simp);simp[-cB,dw,ay,agP];refine pC hh ?_;simp;refine ar.X9 (O3) rfl (by simp[qY]) (by simp) rfl (by simp) rfl (by simp[keys]) rfl (by simp) (by simp) ?_ ?_
      ·intro cI;simp[-cB,List.filter];refine pG CI ?_;simp[-cB];cases S with
       | false=>
         simp at FI;refine ar.skip (by first|rfl|(simp;done)) (by simp) ?_;refine bf _ _ [] (by rfl) ?_;simp[da,FI,ay]
       | true=>
         simp at FI;have hlen:(uY w d ks (i+1)).length=pre.length+1+Ry.length:=by rw[FI];simp;omega
         simp only[if_true]at hq;have ihy:=ihy (λj z hz=>hq (pre.length+1+j) z (by omega) (by
          rw[aqE (by omega),show pre.length+1+j-pre.length=j+1 by omega];simpa using hz))
         unfold yv at ihy;refine ar.A3 (by first|rfl|(simp;rfl)) (by simp) ?_;simp[-cB];refine ar.agO [5003] rfl ihy (by simp) rfl (by simp) rfl (by kernel_rfl) (by first|rfl|simp) (by simp) (by simp) (by simp) ?_ ?_
         ·intro H8;simp[-cB,List.filter];simp[da,hlen,ay]
         ·intro H8;simp[-cB,List.filter]
      ·intro cI;simp[-cB,List.filter];refine ar.fE rfl (g:=false) (x:=oD true) (λh=>by cases h) rfl (by first|rfl|(simp;done)) (by simp) (by simp) rfl ?_;simp[-cB];refine ar.skip (by first|rfl|(simp;done)) (by simp) ?_;refine bf _ _ [] (by rfl) ?_;simp
   ·simp
@[simp] theorem aj.apr(x:aj):List.take 13 (List.drop 6 (x.enc.map V.d))=x.Told.World.enc.map V.d:=rfl
@[simp] theorem aj.aps(x:aj):List.take 3 (List.drop 2 (x.enc.map V.d))=x.Env.enc.map V.d:=rfl
@[simp] theorem aj.apt(x:aj)(w:ai):List.take 6 (x.enc.map V.d)++(w.enc.map V.d++List.drop 19 (x.enc.map V.d))=({x with Told:={x.Told with World:=w}}:aj).enc.map V.d:=rfl
@[simp] theorem an.apu(s:an):List.take 15 (s.enc.map V.d)=s.Tables.enc.map V.d:=rfl
@[simp] theorem ai.Z7(w:ai):List.take 13 (w.enc.map V.d)=w.enc.map V.d:=rfl
@[simp] theorem aq.Z7(t:aq):List.take 15 (t.enc.map V.d)=t.enc.map V.d:=rfl
@[simp] theorem ai.apv(w:ai)(n:Int):List.take 8 (w.enc.map V.d)++V.d (.v (.int .i64 n))::List.drop 9 (w.enc.map V.d)=({w with Score:=n}:ai).enc.map V.d:=rfl
@[simp] theorem ai.anP(w:ai)(n:Int):List.take 12 (w.enc.map V.d)++ [V.d (.v (.int .i64 n))]=({w with Go:=n}:ai).enc.map V.d:=rfl
theorem ae5{w:ai}{x:Int}(hx:1<=x/\x<w.ah.length):1<=gh w.tree x:=by
 unfold gh jV;have e1:w.tree.bz=w.ah:=rfl;rw[e1];obtain⟨k,hk⟩:∃k,w.ah.length=k+1:=⟨w.ah.length-1,by omega⟩
 have bU:bP w.ah w.ah.length w.ah.length x≠ []:=by
  rw[hk,bP,if_pos (by rw[bG];omega)];simp
 have hm:(bP w.ah w.ah.length w.ah.length x).getLastD 0∈bP w.ah w.ah.length w.ah.length x:=by
  rw[arj,aro bU];exact List.getLast_mem bU
 exact(mY hm).1
theorem TM{t:aq}{w:ai}(aS:jM t w):1<=eV w/\eV w<t.aB.length:=by
 have hT:=aS.hT;have h3:=aS.hn;have hb:=SX w.tree 1 (by show 0<w.ah.length;omega);have hp:=ae5 (w:=w) (x:=1) (by omega);have e1:w.tree.bz=w.ah:=rfl;rw[e1]at hb;unfold eV;omega
theorem WN(w:ai)(x:Int):aE prog 197 [.agg (w.enc.map .d),iD x] [] (λr L=>r= .ret (.eW (.func 241) [] [.bp 5201 0,.bp 5202 0])/\L=qB w x):=by
 refine aE.wk (R:=λr L=>r= .ret (.eW (.func 241) [] [.bp 2 0,.bp 3 0])/\∃b2 b3,L=[(3,.box b3 3 [iD x]),(2,.box b2 34 (w.enc.map .d))]) ?_ ?_
 ·refine aE.run func197 rfl (by simp[f197]) ?_;simp[f197]
 ·rintro r L ⟨rfl,b2,b3,rfl⟩;refine⟨_,_,_,rfl,((Wk.vE [2,3]).trans ((Wk.eR 2 5201 (by simp[keys])).trans ((Wk.eR 3 5202 (by simp[keys])).trans (Wk.pick [0] [5201,5202] (by simp) (by decide) ?_)))),?_⟩
  ·simp
  ·simp[qB,St.pick]
theorem RY(w:ai)(aS:ym w)(hn:w.ah.length<=1000)(hF:fS w){ls:Int->List Int}(Z6:iJ w.tree w.ah.length ls)(x:Int)(hx:1<=x/\x<w.ah.length):Iter prog 241 [.bp 5201 0,.bp 5202 0] (qB w x) ((qC w w.ah.length x).map λi=> [iD i]):=by
 intro l A B hy _;have hw:=TL w aS hn hF Z6 w.ah.length x hx (by omega) l A B (λi z hz=>hy i _ (by rw[apS,hz];rfl));rw[aqg];generalize qC w w.ah.length x=xs at *;unfold qB;unfold yv at hw;refine aE.vZ [5003] (by simp) func241 rfl (by simp[f241]) ?_;simp[f241];refine ar.agO [5003] rfl hw (by simp) rfl (by simp) rfl (by kernel_rfl) (by first|rfl|simp) (by simp) (by simp) (by simp) ?_ ?_
 ·intro bs;simp[-cB,List.filter]
 ·intro bs;simp[-cB,List.filter]
theorem acy(t:aq)(w:ai)(aS:jM t w)(hF:fS w)(hn:w.ah.length<=128):Pure prog 130 [.agg (t.enc.map .d),.agg (w.enc.map .d)] (oD (Vi w)):=by
 have hh:=pw w aS.wf;have cO:=TM aS;have hT:=aS.hT;have h0:=uq w hF (eV w) 0 (by decide);have gR:=RY w aS.PO (by omega) hF aS.nest (eV w) (by omega);have hu:=WN w (eV w);have hy:∀y,Pure prog 196 [.agg (w.enc.map .d),iD y,iD 0] (oD (ff w y 0)):=λy=>uq w hF y 0 (by decide)
 simp only[show(0:Int).toNat=0 from rfl]at h0;unfold Vi;unfold qB at gR hu;change Pure prog 131 [.agg (w.enc.map .d)] (iD (eV w))at hh;generalize eV w=x at *;generalize qC w w.ah.length x=l at *;cases hA:ff w x 0 with
 | true=>
   rw[hA]at h0;refine rn func130 ?_;simp[-cB,f130];intro bs;refine pC hh ?_;simp[-cB];refine pC h0 ?_;simp
 | false=>
   rw[hA]at h0;refine rn func130 ?_;simp[-cB,f130];intro bs;refine pC hh ?_;simp[-cB];refine pC h0 ?_;simp;refine eD [] hu ?_;simp[-cB];refine aw.uS [5201,5202] [3,4] l (λi=> [iD i]) (λpre=> []) (λpre=>∀y∈pre,ff w y 0=false) (by simpa[List.filter]using gR) rfl (by simp) (by simp[List.filter]) (by simp[gi]) (by simp) (by rfl) (by rfl) (by simp[List.filter]) (by simp[List.filter]) ?_ ?_
   ·rintro pre z post bn hH;have hz:=hy z;cases hB:ff w z 0 with
    | true=>
      rw[hB]at hz;have yr:l.any (λy=>ff w y 0)=true:=by rw[bn];simp[hB]
      simp[-cB,List.filter];refine pC hz ?_;simp[yr]
    | false=>
      rw[hB]at hz;simp[-cB,List.filter];refine pC hz ?_;simp[hH,hB];rintro y (h|rfl)
      ·exact hH y h
      ·exact hB
   ·intro hH;have yr:l.any (λy=>ff w y 0)=false:=by
     rw[aq9];intro y hy;simp[hH y hy]
    simp[-cB,List.filter,yr]
def lA(l:List ByteArray)(s:ByteArray):Nat->ByteArray
 | 0=>⟨#[]⟩
 | k+1=>(if 0<k then lA l s k++s else lA l s k)++l[k]?.getD ⟨#[]⟩
theorem rm(l:List ByteArray)(s:ByteArray)(hs:s.size<=1000)(h:∀x∈l,x.size<=1000000):∀k,(lA l s k).size<=1001000 *k
 | 0=>apU _
 | k+1=>by
   have ih:=rm l s hs h k;have h2:(l[k]?.getD ⟨#[]⟩).size<=1000000:=by
    cases h0:l[k]? with
    | none=>have:(ByteArray.mk #[]).size=0:=rfl;simp only[Option.getD_none];omega
    | some s=>have:=h s (apT h0);simpa using this
   rw[lA,aqi];split
   ·rw[aqi];omega
   ·omega
theorem Cu(l:List ByteArray)(s:ByteArray)(hs:s.size<=1000)(h:∀x∈l,x.size<=1000000)(hl:l.length<=1000):Pure prog 133 [.d (.sl (iI l)),.d (.v (.string s))] (.d (.v (.string (lA l s l.length)))):=by
 have hz:=rm l s hs h;refine rn func133 ?_;simp[-cB,f133];refine aw.cX [1,5,8,9,10] l.length (λi=> [(10,iD i),(5,.d (.v (.string (lA l s i))))]) (λ_=> []) (λ_=>True) (by rfl) (by simp[lA]) ?_;intro i hi _;rcases apW hi with ay|rfl
 ·have dw:(i:Int)<l.length:=by omega
  have da:aN .i64 ((i:Int)+1):=iW;have e1:l[i]?.getD ⟨#[]⟩=l[i]:=by rw[anc ay];rfl
  have z1:=hz i;have z2:=h l[i] (ap1 ay);have hj:lA l s (i+1)=(if 0<i then lA l s i++s else lA l s i)++l[i]:=by rw[lA,e1]
  by_cases h0:0<i
  ·have AB:(0:Int)<i:=by omega
   rw[if_pos h0]at hj;simp[dw,ay,h0,AB,da,hj];exact⟨by omega,by omega⟩
  ·rw[if_neg h0]at hj;have AB:¬(0:Int)<i:=by omega
   simp[dw,ay,h0,AB,da,hj];omega
 ·simp
theorem Z8(t:aq)(w:ai)(hf:fF t=true)(aS:jM t w)(hF:fS w):Pure prog 81 [.agg (t.enc.map .d),.agg (w.enc.map .d)] (.d (.v (.string (BX t w)))):=by
 have hn:w.ah.length<=128:=by have:=aS.hT;have:=aS.hn;omega
 have HG:=acy t w aS hF hn;have hh:=pw w aS.wf;change Pure prog 131 [.agg (w.enc.map .d)] (iD (eV w))at hh;have cO:=TM aS;have ht:=Co t (eV w);have rE:=Mc t w aS.wf aS.hC aS.hN hF (by omega) (eV w);have Xp:=Mu t w (eV w) hf aS hF;have ay:(eV w).toNat<t.aB.length:=by omega
 have h0:0<=eV w:=by omega
 have bR:bW t (eV w)=t.aB[(eV w).toNat]:=by unfold bW;simp[anc ay]
 have lD:(t.aB[(eV w).toNat]?.getD aZ.zero).Text=t.aB[(eV w).toNat].Text:=by rw[anc ay];rfl
 have htx:=EH t t.aB[(eV w).toNat].Text;have z1:=sa hf (eV w);have z2:=xg hf t.aB[(eV w).toNat].Text;have z3:=Ct hf aS (eV w);have y1:(ByteArray.mk #[10]).size=1:=rfl;have y2:(ByteArray.mk #[89,111,117,32,115,101,101,32]).size=8:=rfl;have y3:(ByteArray.mk #[46]).size=1:=rfl;have ea:∀X:Array UInt8,X++ #[46,10]=(X.push 46).push 10:=by intro X;apply Array.ext';simp
 unfold BX;rw[bR];generalize eV w=x at *;generalize hTx:t.aB[x.toNat].Text=tx at *;generalize ix t x=A at *;generalize tX t tx=B at *;generalize xb t w x=C at *;generalize nX w x=l at *;have Lx:((l.map (ix t)).length:Int)=l.length:=by simp
 cases hL:Vi w with
 | false=>
   rw[hL]at HG;refine rn func81 ?_;simp[-cB,f81];intro bs;refine pC HG ?_;simp
 | true=>
   rw[hL]at HG;by_cases hx:tx= -1
   ·by_cases hl:l=[]
    ·have dW:∀s∈([A]:List ByteArray),s.size<=1000000:=by intro s hs;simp at hs;subst hs;omega
     have hj:=Cu [A] ⟨#[10]⟩ (by decide) dW (by simp);have hz:(lA [A] ⟨#[10]⟩ 1).size<=1001000 *1:=rm [A] ⟨#[10]⟩ (by decide) dW 1;refine rn func81 ?_;simp[-cB,f81];intro bs;refine pC HG ?_;simp[-cB];refine pC hh ?_;simp[-cB];refine pC ht ?_;simp[-cB];refine⟨⟨h0,ay⟩,?_⟩;simp[lD,hx];refine pC rE ?_;simp[hl];refine ar.weaken (Wk.freeze 17 (ty:=9) (k:=1) (ys:=iI [A]) (by rfl)) ?_;simp[-cB,V.fM];refine pC hj ?_;simp[-cB];refine⟨by omega,?_⟩;apply arV;simp[lA,ari,ea]
    ·have dW:∀s∈([A,(⟨#[89,111,117,32,115,101,101,32]⟩++C++⟨#[46]⟩)]:List ByteArray),s.size<=1000000:=by intro s hs;simp at hs;rcases hs with rfl|rfl<;>(try rw[aqi,aqi])<;>omega
     have hj:=Cu [A,(⟨#[89,111,117,32,115,101,101,32]⟩++C++⟨#[46]⟩)] ⟨#[10]⟩ (by decide) dW (by simp);have hz:(lA [A,(⟨#[89,111,117,32,115,101,101,32]⟩++C++⟨#[46]⟩)] ⟨#[10]⟩ 2).size<=1001000 *2:=rm [A,(⟨#[89,111,117,32,115,101,101,32]⟩++C++⟨#[46]⟩)] ⟨#[10]⟩ (by decide) dW 2;refine rn func81 ?_;simp[-cB,f81];intro bs;refine pC HG ?_;simp[-cB];refine pC hh ?_;simp[-cB];refine pC ht ?_;simp[-cB];refine⟨⟨h0,ay⟩,?_⟩;simp[lD,hx];refine pC rE ?_;simp[hl];intro _;refine pC Xp ?_;simp[-cB];refine⟨by omega,by omega,?_⟩;refine ar.weaken (Wk.freeze 17 (ty:=9) (k:=1) (ys:=iI [A,(⟨#[89,111,117,32,115,101,101,32]⟩++C++⟨#[46]⟩)]) (by rfl)) ?_;simp[-cB,V.fM];refine pC hj ?_;simp[-cB];refine⟨by omega,?_⟩;apply arV;simp[lA,ari,ea]
   ·by_cases hl:l=[]
    ·have dW:∀s∈([A,B]:List ByteArray),s.size<=1000000:=by intro s hs;simp at hs;rcases hs with rfl|rfl<;>(try rw[aqi,aqi])<;>omega
     have hj:=Cu [A,B] ⟨#[10]⟩ (by decide) dW (by simp);have hz:(lA [A,B] ⟨#[10]⟩ 2).size<=1001000 *2:=rm [A,B] ⟨#[10]⟩ (by decide) dW 2;refine rn func81 ?_;simp[-cB,f81];intro bs;refine pC HG ?_;simp[-cB];refine pC hh ?_;simp[-cB];refine pC ht ?_;simp[-cB];refine⟨⟨h0,ay⟩,?_⟩;simp[lD,hx];refine pC htx ?_;simp[-cB];refine pC rE ?_;simp[hl];refine ar.weaken (Wk.freeze 17 (ty:=9) (k:=1) (ys:=iI [A,B]) (by rfl)) ?_;simp[-cB,V.fM];refine pC hj ?_;simp[-cB];refine⟨by omega,?_⟩;apply arV;simp[lA,ari,ea]
    ·have dW:∀s∈([A,B,(⟨#[89,111,117,32,115,101,101,32]⟩++C++⟨#[46]⟩)]:List ByteArray),s.size<=1000000:=by intro s hs;simp at hs;rcases hs with rfl|rfl|rfl<;>(try rw[aqi,aqi])<;>omega
     have hj:=Cu [A,B,(⟨#[89,111,117,32,115,101,101,32]⟩++C++⟨#[46]⟩)] ⟨#[10]⟩ (by decide) dW (by simp);have hz:(lA [A,B,(⟨#[89,111,117,32,115,101,101,32]⟩++C++⟨#[46]⟩)] ⟨#[10]⟩ 3).size<=1001000 *3:=rm [A,B,(⟨#[89,111,117,32,115,101,101,32]⟩++C++⟨#[46]⟩)] ⟨#[10]⟩ (by decide) dW 3;refine rn func81 ?_;simp[-cB,f81];intro bs;refine pC HG ?_;simp[-cB];refine pC hh ?_;simp[-cB];refine pC ht ?_;simp[-cB];refine⟨⟨h0,ay⟩,?_⟩;simp[lD,hx];refine pC htx ?_;simp[-cB];refine pC rE ?_;simp[hl];intro _;refine pC Xp ?_;simp[-cB];refine⟨by omega,by omega,?_⟩;refine ar.weaken (Wk.freeze 17 (ty:=9) (k:=1) (ys:=iI [A,B,(⟨#[89,111,117,32,115,101,101,32]⟩++C++⟨#[46]⟩)]) (by rfl)) ?_;simp[-cB,V.fM];refine pC hj ?_;simp[-cB];refine⟨by omega,?_⟩;apply arV;simp[lA,ari,ea]
set_option maxHeartbeats 200000
set_option maxRecDepth 512
section
variable {c : XC} {d loc : Int}
def StT(c:XC)(d loc:Int)(x:al):Prop:=∀σ,Iv c σ->σ.Dp=d->(σ.Ls.length:Int)=loc->Aj c 0 σ (λg=>jH c g σ x)
def Mv(c:XC)(d loc:Int)(l:List al):Prop:=∀σ,Iv c σ->σ.Dp=d->(σ.Ls.length:Int)=loc->Aj c 0 σ (λg=>dV c g σ l)
theorem zK:∀l,(∀s∈l,StT c d loc s)->Mv c d loc l
 | [],_,σ,hi,_,_=>⟨1,σ,.bL 0,by rfl,hi.rl (by omega)⟩
 | x::l,h,σ,hi,hd,hl=>by
   have hi0:=hi.out;obtain⟨g1,aO,o1,h1,r1⟩:=h x (by simp) σ hi hd hl;cases o1 with
   | bL n=>
     obtain⟨g2,bV,o2,h2,r2⟩:=zK l (λs hs=>h s (by grind)) aO (r1.iv hi (by omega)) (by rw[r1.dp];exact hd) (by rw[r1.ls];exact hl);have e1:=Wx (aq2 g1 g2) h1;have e2:=pz (aqR g1 g2) h2;exact⟨max g1 g2+1,bV,o2,by simp_all[dV],r1.trans r2 (by omega)⟩
   | bm u=>exact⟨g1+1,aO,.bm u,by simp_all[dV],r1⟩
   | over=>exact⟨g1+1,aO,.over,by simp_all[dV],r1⟩
   | ret u=>exact⟨g1+1,aO,.ret u,by simp_all[dV],r1⟩
theorem Z9(hM:c.M<=1000000){x e}(hx:x.av=[e])(he:WJ c d loc e)(hb:Mv c d loc x.Body):∀(k:Nat) σ,max c.M 0-σ.Fuel<k->Iv c σ->σ.Dp=d->(σ.Ls.length:Int)=loc->Aj c 0 σ (λg=>gn c g σ x):=by
 intro k
 induction k with
 | zero=>intro σ hk hi;have:=hi.f2;omega
 | succ k ih=>
   intro σ hk hi hd hl;have hi0:=hi.out;rcases HE hM hi with⟨qM,yi,r0,CL⟩|yi
   ·have i0:=r0.iv hi (by omega);obtain⟨g1,aO,o1,h1,r1⟩:=he qM i0 (by rw[r0.dp];exact hd) (by rw[r0.ls];exact hl);have h1:dP c g1 qM e=some (aO,o1):=h1;have HH:Rl c 0 σ aO:=r0.trans r1 (by omega);cases o1 with
    | bL n=>
      by_cases hn:n=0
      ·refine⟨g1+1,aO,.bL 0,?_,HH⟩;simp_all[gn,if_pos]
      ·have i1:=r1.iv i0 (by have:=i0.out;omega);obtain⟨g2,bV,o2,h2,r2⟩:=hb aO i1 (by rw[HH.dp];exact hd) (by rw[HH.ls];exact hl);have uZ:Rl c 0 σ bV:=HH.trans r2 (by omega);cases o2 with
       | bL m=>
         have i2:=r2.iv i1 (by have:=i1.out;omega);obtain⟨g3,zJ,o3,h3,r3⟩:=ih bV (by have h4:=r1.f1;have h5:=r2.f1;omega) i2 (by rw[uZ.dp];exact hd) (by rw[uZ.ls];exact hl);have e1:=qJ (g':=max (max g1 g2) g3) (by omega) h1;have e2:=pz (g':=max (max g1 g2) g3) (by omega) h2;have e3:=RU (g':=max (max g1 g2) g3) (by omega) h3;refine⟨max (max g1 g2) g3+1,zJ,o3,?_,uZ.trans r3 (by omega)⟩;simp_all[gn,max,if_neg]
       | bm u=>
         have e1:=qJ (aq2 g1 g2) h1;have e2:=pz (aqR g1 g2) h2;refine⟨max g1 g2+1,bV,.bm u,?_,uZ⟩;simp_all[gn,max,if_neg]
       | over=>
         have e1:=qJ (aq2 g1 g2) h1;have e2:=pz (aqR g1 g2) h2;refine⟨max g1 g2+1,bV,.over,?_,uZ⟩;simp_all[gn,max,if_neg]
       | ret u=>
         have e1:=qJ (aq2 g1 g2) h1;have e2:=pz (aqR g1 g2) h2;refine⟨max g1 g2+1,bV,.ret u,?_,uZ⟩;simp_all[gn,max,if_neg]
    | bm u=>
      refine⟨g1+1,aO,.bm u,?_,HH⟩;simp_all[gn]
    | over=>
      refine⟨g1+1,aO,.over,?_,HH⟩;simp_all[gn]
    | ret u=>
      refine⟨g1+1,aO,.ret u,?_,HH⟩;simp_all[gn]
   ·refine⟨1,σ,.bm 19,?_,hi.rl (by omega)⟩;simp_all[gn]
theorem acz(hB:gK c.B)(hM:c.M<=1000000){x}(hx:0<=x.aI/\x.aI+1<loc)(WO:loc<=1000)(hb:Mv c d loc x.Body):∀(k:Nat) σ,max c.M 0-σ.Fuel<k->Iv c σ->σ.Dp=d->(σ.Ls.length:Int)=loc->Aj c 0 σ (λg=>fu c g σ x):=by
 intro k
 induction k with
 | zero=>intro σ hk hi;have:=hi.f2;omega
 | succ k ih=>
   intro σ hk hi hd hl;have hi0:=hi.out;have hg:eJ σ.Ls x.aI/\eJ σ.Ls (x.aI+1)/\x.aI<=1000000/\okW c σ.W=true:=⟨⟨hx.1,by omega⟩,⟨by omega,by omega⟩,by omega,hi.w⟩
   by_cases h0:aC σ.Ls x.aI=0
   ·refine⟨1,σ,.bL 0,?_,hi.rl (by omega)⟩;show fu c 1 σ x=_;rw[fu,if_pos hg,if_pos h0]
   rcases HE hM hi with⟨qM,yi,r0,CL⟩|yi
   ·have i0:=r0.iv hi (by omega);by_cases ht:(dq qM.W 3 (aC qM.Ls x.aI)).2≠0
    ·refine⟨1,qM,.bm (dq qM.W 3 (aC qM.Ls x.aI)).2,?_,r0.trans (i0.rl (k:=0) (by omega)) (by omega)⟩;show fu c 1 σ x=_;rw[fu,if_pos hg,if_neg h0,yi];grind
    ·obtain⟨g2,bV,o2,h2,r2⟩:=hb {qM with Ls:=qM.Ls.set (x.aI+1).toNat (dq qM.W 3 (aC qM.Ls x.aI)).1} ⟨i0.w,i0.d0,i0.f0,i0.f2,i0.out⟩ (by show qM.Dp=d;rw[r0.dp];exact hd) (by show((qM.Ls.set _ _).length:Int)=loc;rw[arx,r0.ls];exact hl);have q:Rl c 0 qM bV:=⟨r2.w,by rw[r2.ls];simp,r2.dp,r2.f1,r2.f2,r2.out⟩
     have uZ:Rl c 0 σ bV:=r0.trans q (by omega);cases o2 with
     | bL m=>
       have i2:=q.iv i0 (by have:=i0.out;omega);obtain⟨g3,zJ,o3,h3,r3⟩:=ih {bV with Ls:=bV.Ls.set x.aI.toNat (aC bV.Ls (x.aI+1))} (by show max c.M 0-bV.Fuel<k;have h5:=q.f1;omega) ⟨i2.w,i2.d0,i2.f0,i2.f2,i2.out⟩ (by show bV.Dp=d;rw[uZ.dp];exact hd) (by show((bV.Ls.set _ _).length:Int)=loc;rw[arx,uZ.ls];exact hl);have q3:Rl c 0 bV zJ:=⟨r3.w,by rw[r3.ls];simp,r3.dp,r3.f1,r3.f2,r3.out⟩
       have e2:=pz (aq2 g2 g3) h2;have e3:=Wz (aqR g2 g3) h3;refine⟨max g2 g3+1,zJ,o3,?_,uZ.trans q3 (by omega)⟩;show fu c (max g2 g3+1) σ x=_;rw[fu,if_pos hg,if_neg h0,yi];grind
     | bm u=>
       refine⟨g2+1,bV,.bm u,?_,uZ⟩;show fu c (g2+1) σ x=_;rw[fu,if_pos hg,if_neg h0,yi];grind
     | over=>
       refine⟨g2+1,bV,.over,?_,uZ⟩;show fu c (g2+1) σ x=_;rw[fu,if_pos hg,if_neg h0,yi];grind
     | ret u=>
       refine⟨g2+1,bV,.ret u,?_,uZ⟩;show fu c (g2+1) σ x=_;rw[fu,if_pos hg,if_neg h0,yi];grind
   ·refine⟨1,σ,.bm 19,?_,hi.rl (by omega)⟩;show fu c 1 σ x=_;rw[fu,if_pos hg,if_neg h0,yi]
theorem Jt{t loc l}(h:gH t loc l=true):l.length<=256/\∀s∈l,eL t loc s=true:=by
 simp_all[gH,lE]
theorem Gw{t loc x}(h:eL t loc x=true):x.Body.length<=256/\x.bC.length<=256:=by
 rw[vN]at h;grind[Jt]
theorem acA(hB:gK c.B)(hM:c.M≤1000000)(WO:loc≤1000){x}(wx:eL c.B.Tables loc x=true)(hb:Mv c d loc x.Body)(he:Mv c d loc x.bC)(h1:x.Kind≠1)(dX:x.Kind≠10){a}(nD:a.length=x.av.length)(haw:∀n∈a,ax n=n)
  σ (hi:Iv c σ) (ho:(σ.Out.size:Int)+150000<=1300000 *σ.Fuel) (hd:σ.Dp=d) (hl:(σ.Ls.length:Int)=loc):Aj c 150000 σ (λg=>ij c g σ x a):=by
 obtain⟨hs,A2,-,-,-,-⟩:=ri wx;obtain⟨tU,sU⟩:=Gw wx;obtain⟨t2,t11,-,-,-⟩:=Mo A2;have hsa:=yK hs;have hW:=Jp hB.fits hi.w;by_cases zL:x.Kind=2\/x.Kind=3
 ·have hg:0<a.length/\eJ σ.Ls x.aI:=⟨by omega,⟨(t2 zL).1,by omega⟩⟩
  refine⟨1,{σ with Ls:=σ.Ls.set x.aI.toNat (aC a 0)},.bL 0,by simp_all[ij,if_pos],⟨hi.w,arx,rfl,aql _,hi.f2,?_⟩⟩;grind
 by_cases h9:x.Kind=9
 ·have hg:0<a.length/\zw x.Body/\zw x.bC:=⟨by omega,by omega,by omega⟩
  have tU:Mv c d loc (if aC a 0≠0 then x.Body else x.bC):=by grind
  obtain⟨g,σ',o,h2,r2⟩:=tU σ hi hd hl;exact⟨g+1,σ',o,by simp_all[ij,if_neg,if_pos],r2.trans ((r2.iv hi (by omega)).rl (k:=0) (by omega)) (by omega)⟩
 by_cases fT:x.Kind=11
 ·have hn:=t11 fT;have hg:0<a.length/\okW c σ.W=true/\eJ σ.Ls x.aI/\zw x.Body:=⟨by omega,hi.w,⟨hn.1,by omega⟩,by omega⟩
  by_cases ht:(dq σ.W 2 (aC a 0)).2≠0
  ·exact⟨1,σ,.bm (dq σ.W 2 (aC a 0)).2,by show ij c 1 σ x a=_;rw[ij,if_neg zL,if_neg h9,if_pos fT,if_pos hg,if_pos ht],hi.rl (by omega)⟩
  ·obtain⟨g,σ',o,h2,r2⟩:=acz hB hM hn WO hb ((max c.M 0-σ.Fuel).toNat+1) {σ with Ls:=σ.Ls.set x.aI.toNat (dq σ.W 2 (aC a 0)).1} (by grind) ⟨hi.w,hi.d0,hi.f0,hi.f2,hi.out⟩ hd (by grind);have q:Rl c 0 σ σ':=⟨r2.w,by rw[r2.ls];simp,r2.dp,r2.f1,r2.f2,r2.out⟩
   exact⟨g+1,σ',o,by show ij c (g+1) σ x a=_;rw[ij,if_neg zL,if_neg h9,if_pos fT,if_pos hg,if_neg ht];exact h2,q.trans ((q.iv hi (by omega)).rl (k:=0) (by omega)) (by omega)⟩
 by_cases uj:x.Kind=12
 ·have hg:0<a.length:=by omega
  exact⟨1,σ,.ret (aC a 0),by simp_all[ij,if_neg,if_pos],hi.rl (by omega)⟩
 have CD:∀g,ij c (g+1) σ x a=Km c σ x.Kind x.aI a:=by
  simp_all[ij,if_neg]
 by_cases A5:x.Kind=21
 ·obtain⟨σ',o,h2,r2⟩:=A4 (s:=BX c.B.Tables σ.W) hM hi (WH hB.fits hW);exact⟨1,σ',o,by show ij c 1 σ x a=_;rw[CD,Km,if_pos A5,if_pos hi.w];exact h2,r2⟩
 by_cases CU:x.Kind=22
 ·have hg:okW c σ.W=true/\0<a.length:=⟨hi.w,by omega⟩
  obtain⟨σ',o,h2,r2⟩:=A4 (s:=xb c.B.Tables σ.W (aC a 0)) hM hi (aqo (Ct hB.fits hW _) (by omega));exact⟨1,σ',o,by simp_all[ij,Km,if_neg,if_pos],r2⟩
 obtain⟨w',o,CO,Ep⟩:=acw (a:=a) hB hi.w hs A2 ⟨h1,by omega,by omega,h9,dX,fT,uj,A5,CU⟩ nD haw;refine⟨1,{σ with W:=w'},o,by simp_all[ij,Km,if_neg],⟨Ep,rfl,rfl,aql _,hi.f2,?_⟩⟩;grind
theorem Mw{x}(h:(gX x).1=true):x.av.length<=8/\(x.Kind=10->x.av.length=1):=by
 rcases yK h with h1|⟨h,ha⟩|⟨h,ha⟩|⟨h,ha⟩
 ·unfold gX at h;rw[if_pos h1,apP]at h;have:=h.2;unfold eE at this;grind
 ·omega
 ·omega
 ·omega
theorem acB(hB:gK c.B)(hM:c.M<=1000000)(WO:loc<=1000)(hc:Jr c d):∀n x,SizeOf.sizeOf x<n->eL c.B.Tables loc x=true->StT c d loc x:=by
 intro n
 induction n with
 | zero=>simp
 | succ n ih=>
   intro x hn hb σ hi hd hl;have hi0:=hi.out;obtain⟨hs,A2,Mh,kA,rF,_⟩:=ri hb;obtain⟨tU,sU⟩:=Gw hb;obtain⟨sl,s10⟩:=Mw hs;have Ql:Mv c d loc x.Body:=zK _ λs h=>ih s (by have h1:=aqv h;grind[al.q8]) (kA s h)
   have hB2:Mv c d loc x.bC:=zK _ λs h=>ih s (by have h1:=aqv h;grind[al.re]) (rF s h)
   by_cases dX:x.Kind=10
   ·obtain⟨e,he⟩:=EJ (s10 dX);have rF:=Mh e (by grind);rw[decide_eq_false (by omega)]at rF;obtain⟨g,σ',o,h2,r2⟩:=Z9 hM he (FD hB hc _ e (ap5 _) rF) Ql ((max c.M 0-σ.Fuel).toNat+1) σ (by omega) hi hd hl;exact⟨g+1,σ',o,by show jH c (g+1) σ x=_;rw[jH,if_pos dX,if_pos (by omega)];exact h2,r2⟩
   rcases HE hM hi with⟨qM,yi,r0,CL⟩|yi
   ·have i0:=r0.iv hi (by omega);have CD:qM.Dp=d:=by rw[r0.dp];exact hd
    have NB:(qM.Ls.length:Int)=loc:=by rw[r0.ls];exact hl
    have afo:(qM.Out.size:Int)+1300000<=1300000 *qM.Fuel:=by have:=r0.out;omega
    have vw:zw x.av:=by omega
    by_cases h1:x.Kind=1
    ·obtain⟨g,σ',o,h2,r2⟩:=Qi hB hM hc x.av (λe he=>by grind) qM i0 (by omega) CD NB;exact⟨g+1,σ',o,by simp_all[jH,if_neg,if_pos],r0.trans r2 (by omega)⟩
    ·have WD:∀e∈x.av,cw c.B.Tables loc e false=true:=λe he=>by grind
     obtain⟨g1,aO,o1,h2,r1⟩:=HF x.av (λe he=>FD hB hc _ e (ap5 _) (WD e he)) qM i0 CD NB;have nK:Rl c (-1300000) σ aO:=r0.trans r1 (by omega);rcases o1 with a|o
     ·have WK:a.length=x.av.length:=((KF hB g1).asks qM x.av aO (.inl a) h2 loc WD).2.2.1 a rfl;have i1:=r1.iv i0 (by omega);obtain⟨g2,bV,o2,h3,r2⟩:=acA hB hM WO hb Ql hB2 h1 dX WK (EL h2) aO i1 (by have:=r1.out;omega) (by rw[r1.dp];omega) (by rw[r1.ls];omega);have e1:=Cq (aq2 g1 g2) h2;have e2:=WA (aqR g1 g2) h3;exact⟨max g1 g2+1,bV,o2,by simp_all[jH,max,if_neg],nK.trans r2 (by omega)⟩
     ·exact⟨g1+1,aO,o,by simp_all[jH,if_neg],nK.trans ((r1.iv i0 (by omega)).rl (k:=0) (by omega)) (by omega)⟩
   ·refine⟨1,σ,.bm 19,?_,hi.rl (by omega)⟩;simp_all[jH,if_neg]
end
theorem acC{c}(hB:gK c.B)(hM:c.M<=1000000):∀(n:Nat) (d:Int),32-d<n->Jr c d:=by
 intro n
 induction n with
 | zero=>
   intro d hn σ r a hi hd hr ha;have:=hi.d0;omega
 | succ n ih=>
   intro d hn σ r a hi hd hr ha;have CD:=hi.d0;by_cases iE:32<=σ.Dp
   ·refine⟨1,σ,.bm 17,?_,hi.rl (by omega)⟩;simp_all[jo,if_neg,if_pos]
   ·have hc:=ih (d+1) (by omega);have ey:=gC hB.fits;have LM:0<=r/\r<c.B.Tables.Params.length:=⟨hr.1,by have:=hB.len;omega⟩
    have fB:=(oS hB.fits).2.1 r LM.1 LM.2;obtain⟨tU,wx⟩:=Jt (hB.bnd r hr);have hbt:=zK _ λs hs=>acB hB hM (by omega) hc _ s (ap5 _) (wx s hs)
    obtain⟨g,σ',o,h2,r2⟩:=hbt {σ with Dp:=σ.Dp+1,Ls:=a.map ax++List.replicate ((aC c.B.Tables.aJ r).toNat-a.length) 0} ⟨hi.w,by grind,hi.f0,hi.f2,hi.out⟩ (by grind) (by grind);have h2:dV c g {σ with Dp:=σ.Dp+1,Ls:=a.map ax++List.replicate ((aC c.B.Tables.aJ r).toNat-a.length) 0} (c.B.aF[r.toNat]?.getD [])=some (σ',o):=h2;have hg:eJ c.B.Tables.aJ r/\eJ c.B.aF r/\(a.length:Int)<=aC c.B.Tables.aJ r/\aC c.B.Tables.aJ r<=1000/\zw (c.B.aF[r.toNat]?.getD []):=⟨⟨hr.1,by omega⟩,hr,ha,by omega,by omega⟩
    have key:∃o',jo c (g+1) σ r a=some ({σ' with Dp:=σ'.Dp-1,Ls:=σ.Ls},o'):=by
     rw[jo,if_neg (by omega),if_neg iE,if_pos hg,h2];simp
    obtain⟨o',ir⟩:=key;refine⟨g+1,_,o',ir,⟨r2.w,rfl,?_,r2.f1,r2.f2,r2.out⟩⟩;show σ'.Dp-1=σ.Dp;have:σ'.Dp=σ.Dp+1:=r2.dp;omega
theorem ae6{c}(hB:gK c.B)(hM:c.M<=1000000){w}(hw:okW c w=true){r a}(hr:eJ c.B.aF r)(ha:(a.length:Int)<=aC c.B.Tables.aJ r):Aj c 0 ⟨w,⟨#[]⟩,false,0,0,[]⟩ (λg=>jo c g ⟨w,⟨#[]⟩,false,0,0,[]⟩ r a):=
 acC hB hM 33 0 (by omega) _ r a ⟨hw,⟨aql 0,by simp⟩,aql _,by grind,by show((ByteArray.mk #[]).size:Int)<=1300000 *0;decide⟩ rfl hr ha
theorem KH{α:Type}{p:Prop}[Decidable p]{a b:Option α}{x:α}{Q:Prop}(h:(if p then a else b)=some x)(h1:a=some x->Q)(h2:b=some x->Q):Q:=by
 by_cases hp:p
 ·rw[if_pos hp]at h;exact h1 h
 ·rw[if_neg hp]at h;exact h2 h
theorem instJ_thr{c:XC}{i:ae}{S L:List Int}{σ:MS}{e:Int}(h:instJ c i S L σ=some (.bm e)):e≠0:=by
 have pO:∀{w:ai} {p:Int×Int} {w':ai},iV w p=(w',.bm e)->e≠0:=by
  intro w p w' h;unfold iV at h;split at h
  ·cases h
  ·rename_i hn;cases h;exact hn
 have wO:∀{w:ai} {p:ai×Int} {w':ai},iy w p=(w',.bm e)->e≠0:=by
  intro w p w' h;unfold iy at h;split at h
  ·cases h
  ·rename_i hn;cases h;exact hn
 have vW:∀{w w':ai} {k n:Int} {a:List Int},dZ c w k n a=some (w',.bm e)->e≠0:=by
  intro w w' k n a h;unfold dZ at h
  repeat' (refine KH h (λh=>?_) (λh=>?_))
  all_goals first
   | (cases h;done)
   | exact pO (apO h)
   | (cases h;decide)
 have cW:∀{w w':ai} {k n:Int} {a:List Int},dk c w k n a=some (w',.bm e)->e≠0:=by
  intro w w' k n a h;unfold dk at h
  repeat' (refine KH h (λh=>?_) (λh=>?_))
  all_goals first
   | (cases h;done)
   | exact wO (apO h)
   | (cases h;decide)
 have eO:∀{v:Bool} {S0:List Int} {p:Option (ai×OC)},(∀w',p=some (w',.bm e)->e≠0)->jS v S0 L σ p=some (.bm e)->e≠0:=by
  intro v S0 p hp h;unfold jS at h;split at h
  ·cases h
  ·cases h;exact hp _ rfl
  ·cases h
  ·cases h
 have eT:∀{S0:List Int} {t:ByteArray},uB S0 L σ t=some (.bm e)->e≠0:=by
  intro S0 t h;unfold uB at h;split at h<;>cases h
 have eP:∀{S0:List Int} {p:Int×Int},A1 S0 L σ p= .bm e->e≠0:=by
  intro S0 p h;unfold A1 at h;split at h
  ·cases h
  ·rename_i hn;cases h;exact hn
 rcases S with _|⟨v,_|⟨u,S⟩⟩
 all_goals
  unfold instJ at h;dsimp only at h
  repeat' (refine KH h (λh=>?_) (λh=>?_))
  all_goals first
   | (cases h;done)
   | exact eT h
   | exact eO (λw' hv=>vW hv) h
   | exact eO (λw' hv=>cW hv) h
   | exact eP (apO h)
   | (cases h;decide)
theorem FE{c:XC}{P:Int->List ae}:∀(g d:Nat) (l r:List ae) (S L:List Int) (σ σ':MS) (e:Int) (k:Nat),run (aX c) P g d l r S L σ=some (.bm e σ',k)->e≠0
 | 0,_,_,_,_,_,_,_,_,_,h=>by simp[run]at h
 | g+1,d,l,[],S,L,σ,σ',e,k,h=>by simp[run]at h
 | g+1,d,l,i::r,S,L,σ,σ',e,k,h=>by
   rw[run]at h;cases hn:nx (aX c) d l i r S L σ with
   | go r' S' L' bV k2=>
     rw[hn]at h;obtain⟨⟨o,k3⟩,h1,h2⟩:=apN.1 h;simp only[apM]at h2;rw[h2.1]at h1;exact FE g _ _ _ _ _ _ _ _ _ h1
   | stuck=>rw[hn]at h;cases h
   | stop o=>
     rw[hn]at h;simp only[akC,apM]at h;obtain⟨rfl,-⟩:=h;have wy:∀{S:List Int} {x:Option (List ae)},Nx.to S L σ x= .stop (.bm e σ')->e≠0:=λ{S x} h=>by
      cases x with
      | none=>cases h
      | some x=>cases h
     by_cases ed:i.Op=38
     ·rw[BY ed]at hn;cases hn
     by_cases fe:i.Op=24
     ·rw[uU fe]at hn;exact wy hn
     by_cases gL:i.Op=25
     ·rw[rK gL]at hn;cases S with
      | nil=>cases hn
      | cons v S=>
        rw[Nx.zero]at hn;split at hn
        ·exact wy hn
        ·cases hn
     by_cases rC:i.Op=27
     ·rw[Ho rC]at hn;cases S<;>cases hn
     by_cases nP:i.Op=26
     ·rw[BZ nP]at hn;split at hn
      ·split at hn
       ·cases hn;decide
       ·cases hn
      ·split at hn<;>cases hn
     rw[zx ⟨ed,fe,gL,rC,nP⟩]at hn;cases hJ:(aX c).J i S L σ with
     | none=>rw[hJ]at hn;cases hn
     | some ev=>
       rw[hJ]at hn;cases ev with
       | ok S' L' bV=>cases hn
       | bm e2=>cases hn;exact instJ_thr hJ
       | over bV=>cases hn
   | call f a S'=>
     rw[hn]at h;simp only at h;cases hc:run (aX c) P g (d+1) (P f) (P f) [] ((aX c).lo f a) σ with
     | none=>rw[hc]at h;cases h
     | some y=>
       obtain⟨o,k2⟩:=y;rw[hc]at h;cases o with
       | ret v bV=>
         obtain⟨⟨o,k3⟩,h1,h2⟩:=apN.1 h;simp only[apM]at h2;rw[h2.1]at h1;exact FE g _ _ _ _ _ _ _ _ _ h1
       | bm e2 bV=>
         simp only[akC,apM]at h;rw[h.1]at hc;exact FE g _ _ _ _ _ _ _ _ _ hc
       | over bV=>simp only[akC,apM]at h;cases h.1
end Go.Ab

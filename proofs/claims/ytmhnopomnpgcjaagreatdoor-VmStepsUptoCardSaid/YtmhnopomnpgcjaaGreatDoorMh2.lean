/-
  The texts Sb K R S W U X N M O L R2 Fz, one behind the other.
-/
import Derived.Test.YtmhnopomnpgcjaaGreatDoorMh1
import Derived.Lib.UnsafeStr
import Derived.RangeFuncLeaves
import Derived.Still
set_option linter.unusedSimpArgs false
set_option linter.unusedVariables false
namespace Go.Ab
section
variable {P : Program} {w w' : World} {fo : FO} {m m' : Nat -> Option Value} {L : aI} {n : Nat} {s : St} {a : Act}
def JG(h:Nat):aI->aI
 | []=> []
 | (k,r)::l=>if k=h then JG h l else(k,r.kill h)::JG h l
theorem Ap h:∀L:aI,JG h L=(L.filter λp=>p.1 !=h).map λp=>(p.1,p.2.kill h)
 | []=>rfl
 | (k,r)::l=>by
   rw[JG,Ap h l,apH];by_cases e:k=h<;>simp[e]
def St.rem(h:Nat)(s:St):St:=⟨s.fr.map λp=>(p.1,p.2.kill h),JG h s.L⟩
theorem G.aiy(g:G fo n m s a w){h b x0}(lX:m h=some x0)(Ss:dn x0 b)(wr:EG w b w'):∃m',G fo n m' (s.rem h) a w'/\Step w (own m) w' (own m'):=by
 classical
 let m':=λi=>if i=h then none else m i
 have hm:∀i x,i≠h->m i=some x->m' i=some x:=λi x bR hx=>by grind
 have nJ:∀i x,m' i=some x->i≠h/\m i=some x:=by
  grind
 have eZ:∀b,own m' b->own m b:=by
  rintro b ⟨i,x,hx,hb⟩;exact⟨i,x,(nJ i x hx).2,hb⟩
 have hO:∀b,b<w.heap.size->OO fo m' b->OO fo m b:=λb _ ho=>ho.imp (eZ b) id
 have hi:=g.inv;have cQ:bK w (OO fo m) w':=⟨wr.size,λc hc ho=>wr.block c hc (λe=>ho (.inl ⟨h,x0,lX,e ▸ Ss⟩))⟩
 have pA:keys (St.rem h s).L=(keys s.L).filter (·!=h):=by
  simp[keys,St.rem,Ap,ap6];rw[List.filter_map];rfl
 refine⟨m',⟨g.size,?_,?_,g.defers⟩,⟨wr.os,wr.tape,wr.output,wr.size,λc hc ho=>wr.block c hc (λe=>ho ⟨h,x0,lX,e ▸ Ss⟩),λb _ ho=>eZ b ho⟩⟩
 ·intro t x hx;obtain⟨p,hp,he⟩:=aoQ.1 hx;cases he;obtain⟨h1,h2⟩:=g.fr p.1 p.2 hp;exact⟨h1,(h2.kill hm).mono cQ hO (λ_ _ e=>e)⟩
 ·have aaR:(St.rem h s).L=(s.L.filter λp=>p.1 !=h).map λp=>(p.1,p.2.kill h):=Ap h s.L
  refine⟨?_,?_,?_,?_,λb hf=>ao3 (hi.ej b hf) wr.size,?_,hi.ef.mono cQ hO⟩
  ·rw[pA];exact hi.nodup.sublist List.filter_sublist
  ·intro i x hx;rw[pA,apU];exact⟨hi.fI i x (nJ i x hx).2,by grind⟩
  ·intro i j x y b hx hy hb dm;exact hi.apart i j x y b (nJ i x hx).2 (nJ j y hy).2 hb dm
  ·intro i x b hx hb;exact hi.others i x b (nJ i x hx).2 hb
  ·intro i r hr;rw[aaR]at hr;obtain⟨p,hp,he⟩:=aoQ.1 hr;cases he;rw[apU]at hp;obtain⟨x,hx,hh⟩:=hi.holds p.1 p.2 hp.1;have bR:p.1≠h:=by grind
   refine⟨x,hm _ _ bR hx,(hh.kill hm).mono (λc hc=>wr.block c (hi.lt hx hc) (λe=>bR ?_)) cQ hO (λ_ _ e=>e)⟩;subst e;exact hi.apart _ _ _ _ _ hx lX hc Ss
def Aq(v:Value):Prop:=∃a,v= .pointer a
def MI(P:Program)(t:TypeId):Option TypeId:=match P.underlying t with
 | some (.pointer e)=>some e
 | _=>none
theorem H2{t e}(h:MI P t=some e):P.underlying t=some (.pointer e):=by
 grind[MI,Option.some.injEq]
def bytesOf:List (List V)->Option (List UInt8)
 | []=>some []
 | [.d (.v (.int .u8 n))]::l=>if 0<=n/\n<256 then(bytesOf l).map (n.toNat.toUInt8:: ·)else none
 | _::_=>none
theorem C3:∀{xs l},bytesOf xs=some l->xs.length=l.length/\∀(j:Nat) b,l[j]?=some b->xs[j]?=some [.d (.v (.int .u8 (b.toNat:Nat)))]
 | [],l,h=>by simp_all[bytesOf]
 | x::xs,l,h=>by
   rw[bytesOf.eq_def]at h;split at h
   ·grind
   ·rename_i n xs' heq;cases heq;split at h
    ·obtain⟨l',hl,rfl⟩:=aoJ.1 h;obtain⟨h1,h2⟩:=C3 hl;refine⟨by grind,λj b hj=>?_⟩
     match j with
     | 0=>
       simp[anc]at hj;subst hj;simp[and_true];omega
     | j+1=>grind
    grind
   grind
def Ar(P:Program)(s:St)(ty:TypeId)(x:Operand):Option (V×St×Prop):=
 match s.ev x,MI P ty with
 | .rv h,some _=>match s.L.lookup h with
   | some (.row _ k xs)=>some (if xs.isEmpty then .kn Aq else .ep h k 0 0,s,True)
   | _=>none
 | .d (.v (.slice none 0 0)),some _=>some (.kn Aq,s,True)
 | _,_=>none
def C4(P:Program)(s:St)(pt:TypeId)(p l:Operand):Option (V×St×Prop):=
 match s.ev p,s.ev l,MI P pt with
 | .kn Q,iD n,some _=>some (.d (.v (.string ⟨#[]⟩)),s,n=0/\∀v,Q v->Aq v)
 | .ep h _ 0 0,iD n,some e=>match s.L.lookup h with
   | some (.row e' k xs)=>match bytesOf xs with
     | some bs=>some (.d (.v (.string ⟨⟨bs⟩⟩)),s.rem h,(n=xs.length/\0<xs.length)/\k=1/\e'=e/\P.cellsOf e=1)
     | none=>none
   | _=>none
 | _,_,_=>none
theorem X9{O v Q}(h:aB w O m v (.kn Q)):Q v:=by
 cases h with
 | kn _ _ h=>exact h
theorem aeY{dst}{x}{Su}{ty}{pos}{after}{guard}{y}{s1}{c}(h:Ar P s ty x=some (y,s1,c)):
  q8 P n ⟨dst,.call {callee:= .builtin .unsafeSliceData,args:= #[x],argTypes:=Su},ty,pos,after,guard⟩ s (λx' s'=>x'=y/\s'=s1):=by
 intro fo m a w g;have jv:∀{v':Value} {w':World},(Builtin.unsafeSliceData_ Su ty #[a.eval x]).run P w= .ok v' w'→
   (execOp a.eval ⟨dst,.call {callee:= .builtin .unsafeSliceData,args:= #[x],argTypes:=Su},ty,pos,after,guard⟩).run P w= .ok (.value v') w':=by
  simp_all[execOp,resolve,invoke,builtin]
 have hx:=cm g x;unfold Ar at h;split at h
 ·rename_i h0 e Cj Ya;rw[Cj]at hx;split at h
  ·rename_i te k xs hl;cases h;obtain⟨u,hu,hh⟩:=g.inv.holds h0 _ (dK hl);have hxu:a.eval x=u:=by
    generalize a.eval x=v at hx;cases hx with
    | rv _ _ e _=>grind
   rcases hh with⟨rfl,rfl⟩|⟨b,off,cap,cur,rfl,hb,h1,h2,h3,h4,h5,h6⟩
   ·rw[hxu]at jv;refine⟨_,_,w,m,.kn Aq,s,jv (Lib.run_unsafeSliceData_nil w _ _ _ _),.inl rfl,⟨rfl,rfl⟩,.kn _ _ ⟨_,rfl⟩,g,Step.refl w _⟩
   ·rw[hxu]at jv;by_cases hc:cap=0
    ·subst hc;have lX:xs=[]:=apI (by omega);subst lX;have bw:=Lib.run_unsafeSliceData_zero (P:=P) w Su ty e (H2 Ya) ⟨b,off,none⟩ 0 (te,cur.size) (by simp[World.shape?,hb]);refine⟨_,_,_,m,.kn Aq,s,jv bw,.inl rfl,⟨rfl,rfl⟩,.kn _ _ ⟨_,rfl⟩,?_,?_⟩
     ·have gr:=hY.alloc w (.view ⟨b,off,none⟩ e);have hk:bK w (OO fo m) (w.alloc (.view ⟨b,off,none⟩ e)):=⟨gr.size,λb hb _=>gr.block b hb⟩
      refine⟨g.size,λt y hy=>⟨(g.fr t y hy).1,(g.fr t y hy).2.mono hk (λ_ _ h=>h) (λ_ _ h=>h)⟩,?_,g.defers⟩;refine⟨g.inv.nodup,g.inv.fI,g.inv.apart,g.inv.others,λb hf=>ao3 (g.inv.ej b hf) gr.size,λh r hr=>?_,g.inv.ef.mono hk (λ_ _ h=>h)⟩;obtain⟨x,hx,hh⟩:=g.inv.holds h r hr;exact⟨x,hx,hh.mono (λb hb=>gr.block b (g.inv.lt hx hb)) hk (λ_ _ h=>h) (λ_ _ h=>h)⟩
     ·have gr:=hY.alloc w (.view ⟨b,off,none⟩ e);exact⟨gr.os,gr.tape,gr.output,gr.size,λb hb _=>gr.block b hb,λ_ _ h=>h⟩
    ·have bw:=Lib.run_unsafeSliceData_row (P:=P) w Su ty ⟨b,off,none⟩ xs.length cap hc;refine⟨_,_,w,m,_,s,jv bw,.inl rfl,⟨rfl,rfl⟩,?_,g,Step.refl w _⟩;split
     ·exact .kn _ _ ⟨_,rfl⟩
     ·have:=aB.ep (w:=w) (O:=OO fo m) (m:=m) h0 k 0 0 b off xs.length cap hu;grind
  grind
 ·rename_i Cj Ya;rw[Cj]at hx;cases h;rw[hx.cy]at jv;exact⟨_,_,w,m,.kn Aq,s,jv (Lib.run_unsafeSliceData_nil w _ _ _ _),.inl rfl,⟨rfl,rfl⟩,.kn _ _ ⟨_,rfl⟩,g,Step.refl w _⟩
 grind
theorem Mu{e}(hc:P.cellsOf e=1) count off n(hn:off+n<=count):liesAt P P.depth e count off e n=true:=by
 have hd:P.depth=(2 *(P.types.size+Made.depth)+1)+1:=rfl;rw[hd];simp[liesAt];rw[hd];simp[rowAt,hc,hn,sameLayout,Nat.mod_one]
theorem Fq{pt it ty e}(hp:P.underlying pt=some (.pointer e))(hc:P.cellsOf e=1){g off}{cur}(hg:w.heap[g]?=some (.cells cur e (0,0))) l(h0:l≠ [])(hn:off+l.length≤cur.size)(h63:l.length≤9223372036854775807)
  (nz:∀(j:Nat) (x:UInt8),l[j]?=some x->w.cell? ⟨g,off+j,none⟩=some (.int .u8 (x.toNat:Nat))):
  (Builtin.unsafeString_ #[pt,it] ty #[.pointer (some ⟨g,off,none⟩),.int .i64 l.length]).run P w= .ok (.string ⟨l.toArray⟩) (w.freeze ⟨g,off,none⟩ l.length):=by
 have hl:l.length≠0:=by grind
 have yX:w.shape? g=some (e,cur.size):=by simp[World.shape?,hg]
 have hlb:=Lib.run_loadBytes (P:=P) w l ⟨g,off,none⟩ .empty (λj x hx=>by simp_all[Addr.add_lit]);have agP:=Mu hc (cur.size / P.cellsOf e) off l.length (by grind);have aax:¬(9223372036854775807:Int)<(l.length:Int):=by omega
 have xO:Builtin.unsafeString_ #[pt,it] ty #[.pointer (some ⟨g,off,none⟩),.int .i64 l.length]=
   (do
    let n <-asInt (.int .i64 l.length)
    if n<0 then runtimePanic (.error "unsafe.String: len out of range")
    if n > IntKind.i64.max then unsupported (.unsafePointer "String: a length above the largest int")
    if n=0 then pure (.string .empty)
    else if <-variablesAt ⟨g,off,none⟩ (<-elemOf pt) n.toNat then do
     let s <-loadBytes ⟨g,off,none⟩ .empty n.toNat
     freeze ⟨g,off,none⟩ n.toNat
     pure (.string s)
    else unsupported (.unsafePointer "String: not so many bytes at ptr")):=rfl
 rw[xO];have aaS:¬(l.length:Int)<0:=by omega
 simp[asInt,asIntOf,aax,aaS,hl,variablesAt,yX,elemOf,run_underlying hp,agP,hlb]
theorem NV w b off k:EG w b (w.freeze ⟨b,off,none⟩ k):=by
 unfold World.freeze;split
 ·exact⟨rfl,rfl,rfl,aoT _,λ_ _ _=>rfl⟩
 ·exact⟨rfl,rfl,rfl,by simp,λc _ bR=>by
   grind⟩
theorem agQ{dst}{p l}{pt it}{ty}{pos}{after}{guard}{y}{s1}{c}(h:C4 P s pt p l=some (y,s1,c))(hc:c):
  q8 P n ⟨dst,.call {callee:= .builtin .unsafeString,args:= #[p,l],argTypes:= #[pt,it]},ty,pos,after,guard⟩ s (λx' s'=>x'=y/\s'=s1):=by
 intro fo m a w g;have jv:∀{v':Value} {w':World},(Builtin.unsafeString_ #[pt,it] ty #[a.eval p,a.eval l]).run P w= .ok v' w'→
   (execOp a.eval ⟨dst,.call {callee:= .builtin .unsafeString,args:= #[p,l],argTypes:= #[pt,it]},ty,pos,after,guard⟩).run P w= .ok (.value v') w':=by
  simp_all[execOp,resolve,invoke,builtin]
 have hp:=cm g p;have hl:=cm g l;unfold C4 at h;split at h
 ·rename_i Q nn e Cj sL Ya;rw[Cj]at hp;rw[sL]at hl;simp only[anc,aoI]at h;obtain⟨rfl,rfl,rfl⟩:=h;obtain⟨rfl,hQ⟩:=hc;obtain⟨aa,ha⟩:=hQ _ (X9 hp);rw[ha,hl.cy]at jv;refine⟨_,_,w,m,_,s,jv (Lib.run_unsafeString_none w pt it ty aa),.inl rfl,⟨rfl,rfl⟩,.d _ _ (.v _ rfl),g,Step.refl w _⟩
 ·rename_i h0 kk nn e Cj sL Ya;rw[Cj]at hp;rw[sL]at hl;split at h
  ·rename_i e' k xs Yb;split at h
   ·rename_i bs Ck;simp only[anc,aoI]at h;obtain⟨rfl,rfl,rfl⟩:=h;obtain⟨⟨rfl,iZ⟩,rfl,rfl,nz⟩:=hc;obtain⟨b,off,cap,cur,hm,hb,h1,h2,h3,h4,h5,h6,h7⟩:=pZ g.inv (dK Yb) iZ;obtain⟨q1,q2⟩:=C3 Ck;have pJ:a.eval p= .pointer (some ⟨b,off,none⟩):=by
     generalize a.eval p=v at hp;cases hp with
     | ep _ _ _ _ b' o' n' c' e=>
       grind
    rw[pJ,hl.cy,q1]at jv;have nF:∀(j:Nat) (x:UInt8),bs[j]?=some x->w.cell? ⟨b,off+j,none⟩=some (.int .u8 (x.toNat:Nat)):=by
     intro j x hj;have H3:=(aoL.1 hj).1;rw[h6];have aw:off+j<cur.size:=by omega
     have:=h7 j 0 _ _ (cur[off+j]) (q2 j x hj) rfl (by simp);rw[ao7 aw,this.cy]
    have bR:bs≠ []:=by
     grind
    have bw:=Fq (P:=P) (w:=w) (pt:=pt) (it:=it) (ty:=ty) (H2 Ya) nz hb bs bR (by omega) (by grind[maxLen]) nF;obtain⟨m',g',st⟩:=g.aiy hm (b:=b) rfl (NV w b off bs.length);exact⟨_,_,_,m',_,_,jv bw,.inl rfl,⟨rfl,rfl⟩,.d _ _ (.v _ rfl),g',st⟩
   grind
  grind
 grind
end
end Go.Ab
namespace Go.Ab
section
variable {P : Program} {w w' : World} {fo : FO} {m m' : Nat -> Option Value} {L : aI} {n : Nat} {s : St} {a : Act}
theorem H4{k}:∀l (r:List (List V)) j pre post,pre.length=j *k→l.length *k≤post.length→
  l.length=r.length->(∀i p x,l[i]?=some p->r[i]?=some x->p.1=j+i/\p.2.cl=some x)->(∀x∈r,x.length=k)->
  ∃c:Prop,uW (λi=>some (i *k,k)) (pre++post) l=some (pre++r.flatten++post.drop (l.length *k),c)/\c
 | [],[],j,pre,post,_,_,_,_,_=>⟨True,by simp[uW],trivial⟩
 | [],_::_,_,_,_,_,_,h,_,_=>by grind
 | _::_,[],_,_,_,_,_,h,_,_=>by grind
 | (i,x)::l,x0::r,j,pre,post,hp,hl,Yc,fD,hk=>by
   obtain⟨h1,h2⟩:=fD 0 (i,x) x0 rfl rfl;subst h1;have lX:x0.length=k:=hk x0 (by simp);simp only[aoU,apS,aqb]at hl;have aiz:putAt (i *k) x0 (pre++post)=(pre++x0)++post.drop k:=by
    simp_all[putAt,List.take_left,List.drop_append]
   obtain⟨c,pD,pB⟩:=H4 l r (i+1) (pre++x0) (post.drop k) (by grind) (by grind) (by grind)
    (λq p y hq hy=>by have:=fD (q+1) p y (by grind) (by grind);grind) (λy hy=>hk y (by grind))
   refine⟨(x0.length=k/\i *k+k<=(pre++post).length)/\c,?_,⟨lX,by grind⟩,pB⟩;simp only[uW,h2,aiz,pD];simp[aoI,and_true,aqo,ap8,aoU,apS,aqb,Nat.add_comm]
theorem C5{s}:∀l j {r},qJ s l j=some r→l.length=r.length∧
  ∀i p x,l[i]?=some p->r[i]?=some x->p.1=j+i/\(s.ev p.2).cl=some x
 | [],j,r,h=>by simp[qJ]at h;subst h;exact⟨rfl,by simp⟩
 | (i,x)::l,j,r,h=>by
   rw[qJ]at h;split at h
   ·split at h
    ·rename_i cs r' jY s8;simp at h;subst h;obtain⟨h1,h2⟩:=C5 l (j+1) s8;refine⟨by simp[h1],?_⟩;intro q p y hq hy
     match q with
     | 0=>simp at hq hy;subst hq;subst hy;exact⟨by omega,jY⟩
     | q+1=>have:=h2 q p y hq hy;exact⟨by omega,this.2⟩
    ·cases h
   ·cases h
def MJ(P:Program)(s:St)(h:Nat)(t:TypeId)(len:Nat)(ps:List (Nat×Operand)):Option (V×St×Prop):=
 match kU P t,qJ s ps 0 with
 | some (e,k,_,_),some r=>some (.rv h,{s with L:=(h,.row e k r)::s.L},(0<k/\h∉keys s.L)/\(len *k<=2^24/\r.length=len)/\∀x∈r,x.length=k)
 | _,_=>none
def MK(P:Program)(s:St)(t:TypeId)(xo:Operand)(lo hi:Option Operand):Option (V×St×Prop):=
 match s.ev xo,nC P t with
 | .rv h,some (_,k)=>
   match s.L.lookup h with
   | some (.row e' k' xs)=>
     match lo.map s.ev,hi.map s.ev with
     | none,none=>some (.rv h,⟨(s.kill h).fr,aI.jz (s.kill h).L h (.row e' k' ((oL xs 0 xs.length).map (V.dU h)))⟩,k=k')
     | some (.d (.v (.int _ l))),none=>some (.rv h,⟨(s.kill h).fr,aI.jz (s.kill h).L h (.row e' k' ((oL xs l.toNat xs.length).map (V.dU h)))⟩,k=k'/\0<=l/\l<=xs.length)
     | none,some (.d (.v (.int _ u)))=>some (.rv h,⟨(s.kill h).fr,aI.jz (s.kill h).L h (.row e' k' ((oL xs 0 u.toNat).map (V.dU h)))⟩,k=k'/\0<=u/\u<=xs.length)
     | some (.d (.v (.int _ l))),some (.d (.v (.int _ u)))=>some (.rv h,⟨(s.kill h).fr,aI.jz (s.kill h).L h (.row e' k' ((oL xs l.toNat u.toNat).map (V.dU h)))⟩,k=k'/\0<=l/\l<=u/\u<=xs.length)
     | _,_=>none
   | _=>none
 | _,_=>none
def fO(P:Program)(s:St)(o:Oper)(b:Nat):Option (V×St×Prop):=
 match o.op with
 | .alloc e=>match o.dst,sJ P e with
   | some h,some z=>some (.bp h 0,{s with L:=(h,.box b e (z.map λx=> .d (.v x)))::s.L},h∉keys s.L)
   | _,_=>none
 | .box e x=>match o.dst,(s.ev x).cl with
   | some h,some cs=>some (.bp h 0,{s with L:=(h,.box b e cs)::s.L},h∉keys s.L)
   | _,_=>none
 | .store t a x=>EI P s t a x
 | .makeSlice t l c=>match o.dst with
   | some h=>HQ P s h t l c
   | none=>none
 | .buildSlice t len ps=>match o.dst with
   | some h=>MJ P s h t len ps.toList
   | none=>none
 | .slice t x lo hi none=>MK P s t x lo hi
 | .makeMap _ none=>match o.dst with
   | some h=>some (.rv h,{s with L:=(h,.mp [])::s.L},h∉keys s.L)
   | none=>none
 | .mapUpdate t mo ko vo=>sh P s t mo ko vo
 | .insert t mo ko vo=>sh P s t mo ko vo
 | .call {callee:= .builtin .unsafeSliceData,args,..}=>match args.toList with
   | [x]=>Ar P s o.type x
   | _=>none
 | .call {callee:= .builtin .unsafeString,args,argTypes}=>match args.toList,argTypes.toList with
   | [p,l],[pt,_]=>C4 P s pt p l
   | _,_=>none
 | .call c=>match o.dst with
   | some h=>AW P s h c
   | none=>none
 | _=>none
theorem q8.mono{o K K'}(h:q8 P n o s K)(hk:∀x s',K x s'->K' x s'):q8 P n o s K':=by
 intro fo m a w g;obtain⟨nx,v,w',m',x,s',h1,h2,h3,h4⟩:=h fo m a w g;grind
theorem u1{o b0 x0 s0 c0}(h:fO P s o b0=some (x0,s0,c0))(hc:c0):q8 P n o s (λx s'=>∃b c,fO P s o (b+1)=some (x,s',c)):=by
 obtain⟨dst,op,ty,pos,after,guard⟩:=o;unfold fO at h;simp only at h;split at h
 ·split at h
  ·rename_i e hh z hz;simp only[anc,aoI]at h;obtain⟨_,_,rfl⟩:=h;refine(aeU hz hc).mono ?_;rintro x s' ⟨b,rfl,rfl⟩;exact⟨b,_,(by simp only[fO,hz];rfl)⟩
  grind
 ·split at h
  ·rename_i e xo hh cs jY;simp only[anc,aoI]at h;obtain⟨_,_,rfl⟩:=h;refine(aip jY hc).mono ?_;rintro x s' ⟨b,rfl,rfl⟩;exact⟨b,_,(by simp only[fO,jY];rfl)⟩
  grind
 ·rename_i t ao xo;have h':=h;unfold EI at h;split at h
  ·rename_i g0 k cs ht jY;split at h
   ·rename_i hh off ha;split at h
    ·rename_i b KC dW hl;simp only[anc,aoI]at h;obtain⟨rfl,rfl,rfl⟩:=h;refine(T1 ht ha hl jY hc.1 hc.2).mono ?_;rintro x s' ⟨rfl,rfl⟩;exact⟨b0,_,h'⟩
    grind
   ·rename_i hh k' i j ha;split at h
    ·rename_i e HB xs hl;simp only[anc,aoI]at h;obtain⟨rfl,rfl,rfl⟩:=h;obtain⟨⟨h1,h2⟩,h3,rfl⟩:=hc;intro fo m a w g;have he:(if j=0/\k=k' then cs else putAt j cs (xs[i]?.getD []))=putAt j cs (xs[i]?.getD []):=by
      split
      ·rename_i hjk;obtain⟨rfl,rfl⟩:=hjk;obtain⟨_,_,_,_,_,_,_,_,_,hlen,_⟩:=pZ g.inv (dK hl) (by omega);have hx:xs[i]?=some xs[i]:=akC h2;have:=hlen i _ hx;simp_all[putAt,apA,List.take_zero,apj,apz,List.drop_of_length_le,apk]
      ·rfl
     rw[he]at h';refine(T2 ht ha hl jY h1 h2 h3).mono (K':=λx s'=>∃b c,fO P s _ (b+1)=some (x,s',c)) ?_ fo m a w g;rintro x s' ⟨rfl,rfl⟩;exact⟨b0,_,h'⟩
    grind
   grind
  grind
 ·rename_i t lo co;split at h
  ·rename_i hh;have h':=h;unfold HQ at h;split at h
   ·rename_i e k by_ z kl l kc c ht hl v7;simp only[anc,aoI]at h;obtain⟨rfl,rfl,rfl⟩:=h;obtain⟨⟨h1,h2⟩,h3,h4⟩:=hc;refine(agL ht hl v7 h1 h2 h3 h4).mono ?_;rintro x s' ⟨rfl,rfl⟩;exact⟨b0,_,h'⟩
   grind
  grind
 ·rename_i t len ps;split at h
  ·rename_i hh;have h':=h;unfold MJ at h;split at h
   ·rename_i e k by_ z r ht hr;simp only[anc,aoI]at h;obtain⟨rfl,rfl,rfl⟩:=h;obtain⟨⟨h1,h2⟩,⟨h3,h4⟩,h5⟩:=hc;obtain⟨q1,q2⟩:=C5 _ 0 hr;have hzk:(z.map λx=>V.d (.v x)).length=k:=by
     obtain⟨i,zv,-,-,-,-,-,e1,e2,-⟩:=nS ht;grind
    have hlen:(ps.toList.map λp=>(p.1,s.ev p.2)).length=len:=by grind
    have lV:(List.replicate len (z.map λx=>V.d (.v x))).flatten.length=len *k:=by
     simp_all
    obtain⟨c,hf,sK⟩:=H4 (k:=k) (ps.toList.map λp=>(p.1,s.ev p.2)) r 0 [] (List.replicate len (z.map λx=>V.d (.v x))).flatten (by simp) (by grind)
     (by omega) (by
      grind) h5
    rw[hlen,apj,apj,List.drop_eq_nil_of_le (by omega),apk]at hf;refine(Qy ht h1 h2 h3 hf sK rfl h4 h5).mono ?_;rintro x s' ⟨rfl,rfl⟩;exact⟨b0,_,h'⟩
   grind
  grind
 ·rename_i t xo lo hi;have h':=h;unfold MK at h;split at h
  ·rename_i hh e k hs hE;split at h
   ·rename_i e' k' xs hl;have fin:∀{l u:Nat} {kl ku:IntKind} {x:V} {s1:St} {c:Prop},fO P s ⟨dst,.slice t xo lo hi none,ty,pos,after,guard⟩ b0=some (x,s1,c)→x= .rv hh→s1=⟨(s.kill hh).fr,aI.jz (s.kill hh).L hh (.row e' k ((oL xs l u).map (V.dU hh)))⟩→k=k'→
      ((lo=none/\l=0)\/∃z,lo=some z/\s.ev z= .d (.v (.int kl l)))->((hi=none/\u=xs.length)\/∃z,hi=some z/\s.ev z= .d (.v (.int ku u)))->l<=u->u<=xs.length->
      q8 P n ⟨dst,.slice t xo lo hi none,ty,pos,after,guard⟩ s (λx s'=>∃b c,fO P s ⟨dst,.slice t xo lo hi none,ty,pos,after,guard⟩ (b+1)=some (x,s',c)):=by
     intro l u kl ku x s1 c h0 hx vl hk jn KE h1 h2;subst hk;refine(aaz hE hs hl jn KE h1 h2).mono ?_;rintro x' s' ⟨rfl,rfl⟩;exact⟨b0,c,by rw[show fO P s ⟨dst,.slice t xo lo hi none,ty,pos,after,guard⟩ (b0+1)=fO P s ⟨dst,.slice t xo lo hi none,ty,pos,after,guard⟩ b0 from rfl,h0,hx,vl]⟩
    have h0:fO P s ⟨dst,.slice t xo lo hi none,ty,pos,after,guard⟩ b0=some (x0,s0,c0):=h';cases lo with
    | none=>
      cases hi with
      | none=>
        simp only[aqR,anc,aoI]at h;obtain⟨h1,h2,rfl⟩:=h;subst hc;exact fin (kl:= .i64) (ku:= .i64) h0 h1.symm h2.symm rfl (.inl ⟨rfl,rfl⟩) (.inl ⟨rfl,rfl⟩) (ap0 _) (aoT _)
      | some hz=>
        simp only[aqR,apc]at h;split at h
        ·grind
        ·grind
        ·rename_i ku u _ heq;simp only[anc]at heq;simp only[anc,aoI]at h;obtain⟨h1,h2,rfl⟩:=h;obtain⟨rfl,Nw,sO⟩:=hc;exact fin (kl:= .i64) h0 h1.symm h2.symm rfl (.inl ⟨rfl,rfl⟩) (.inr ⟨hz,rfl,by rw[heq,aqw Nw]⟩) (ap0 _) (by omega)
        ·grind
        grind
    | some lz=>
      cases hi with
      | none=>
        simp only[aqR,apc]at h;split at h
        ·grind
        ·rename_i kl l heq _;simp only[anc]at heq;simp only[anc,aoI]at h;obtain⟨h1,h2,rfl⟩:=h;obtain⟨rfl,Nw,sO⟩:=hc;exact fin (ku:= .i64) h0 h1.symm h2.symm rfl (.inr ⟨lz,rfl,by rw[heq,aqw Nw]⟩) (.inl ⟨rfl,rfl⟩) (by omega) (aoT _)
        ·grind
        ·grind
        grind
      | some hz=>
        simp only[apc]at h;split at h
        ·grind
        ·grind
        ·grind
        ·rename_i kl l ku u heq GJ;simp only[anc]at heq GJ;simp only[anc,aoI]at h;obtain⟨h1,h2,rfl⟩:=h;obtain⟨rfl,Ng,Xg,sO⟩:=hc;exact fin h0 h1.symm h2.symm rfl (.inr ⟨lz,rfl,by rw[heq,aqw Ng]⟩) (.inr ⟨hz,rfl,by rw[GJ,aqw (by omega)]⟩) (by omega) (by omega)
        grind
   grind
  grind
 ·split at h
  ·rename_i t hh;have h':=h;simp only[anc,aoI]at h;obtain⟨rfl,rfl,rfl⟩:=h;refine(aaB hc).mono ?_;rintro x s' ⟨rfl,rfl⟩;exact⟨b0,_,h'⟩
  grind
 ·rename_i t mo ko vo;refine(Se (.inl rfl) h hc).mono ?_;rintro x s' ⟨rfl,rfl⟩;exact⟨b0,_,h⟩
 ·rename_i t mo ko vo;refine(Se (.inr rfl) h hc).mono ?_;rintro x s' ⟨rfl,rfl⟩;exact⟨b0,_,h⟩
 ·rename_i args argTypes;have h':fO P s ⟨dst,.call {callee:= .builtin .unsafeSliceData,args:=args,argTypes:=argTypes},ty,pos,after,guard⟩ b0=some (x0,s0,c0):=h;split at h
  ·rename_i x ha;obtain rfl:args= #[x]:=by grind
   refine(aeY h).mono ?_;rintro x s' ⟨rfl,rfl⟩;exact⟨b0,_,h'⟩
  grind
 ·rename_i args argTypes;have h':fO P s ⟨dst,.call {callee:= .builtin .unsafeString,args:=args,argTypes:=argTypes},ty,pos,after,guard⟩ b0=some (x0,s0,c0):=h;split at h
  ·rename_i p l pt it ha ht;obtain rfl:args= #[p,l]:=by grind
   obtain rfl:argTypes= #[pt,it]:=by grind
   refine(agQ h hc).mono ?_;rintro x s' ⟨rfl,rfl⟩;exact⟨b0,_,h'⟩
  grind
 ·rename_i cl _ _;split at h
  ·rename_i hh;have h':=h;obtain⟨callee,args,argTypes⟩:=cl;unfold AW at h;split at h
   ·rename_i so xo t t2 p6 ob aav;simp only at p6 ob aav;obtain rfl:args= #[so,xo]:=by grind
    obtain rfl:argTypes= #[t,t2]:=by grind
    subst p6;split at h
    ·rename_i e k by_ z ys ht hx;split at h
     ·rename_i vt;split at h
      ·rename_i h1 hs;split at h
       ·rename_i e' k' xs hl;simp only[anc,aoI]at h;obtain⟨rfl,rfl,rfl⟩:=h;obtain⟨⟨⟨rfl,rfl⟩,km,rC⟩,h3,h4⟩:=hc;refine(ads ht vt hs hl rfl hx ⟨km,rC⟩ h3 h4).mono ?_;rintro x s' ⟨rfl,rfl⟩;exact⟨b0,_,h'⟩
       grind
      ·rename_i hs;simp only[anc,aoI]at h;obtain⟨rfl,rfl,rfl⟩:=h;obtain⟨⟨km,rC,FL⟩,h3,h4⟩:=hc;refine(T8 ht vt hs FL hx ⟨km,rC⟩ h3 h4).mono ?_;rintro x s' ⟨rfl,rfl⟩;exact⟨b0,_,h'⟩
      grind
     grind
    grind
   grind
  grind
 grind
def kO:Option Nat->V->V
 | none,x=>x
 | some h,x=>x.kill h
def mA(k:Option Nat)(fr:List (Nat×V)):List (Nat×V):=fr.map λp=>(p.1,kO k p.2)
def u2(o:Oper):Bool:=
 match o.op with
 | .store .. | .makeSlice .. | .buildSlice .. | .slice .. | .alloc _|.box .. | .makeMap .. | .mapUpdate .. | .insert .. =>true
 | .call {callee:= .builtin .append,..}=>true
 | .call {callee:= .builtin .unsafeSliceData,..}=>true
 | .call {callee:= .builtin .unsafeString,..}=>true
 | _=>false
def gF(s:St)(o:Oper):Option Nat:=
 match o.op with
 | .slice _ x _ _ none=>match s.ev x with
   | .rv h=>some h
   | _=>none
 | .call {callee:= .builtin .unsafeSliceData,..}=>none
 | .call {callee:= .builtin .unsafeString,args,..}=>match args.toList with
   | [p,_]=>match s.ev p with
     | .ep h _ _ _=>some h
     | _=>none
   | _=>none
 | .call c=>match c.args.toList with
   | [so,_]=>match s.ev so with
     | .rv h=>some h
     | _=>none
   | _=>none
 | _=>none
theorem iw fr:mA none fr=fr:=by
 simp[mA,kO]
theorem Cl{s s2}:∀l j,(∀p∈l,s2.ev p.2=s.ev p.2)->qJ s2 l j=qJ s l j
 | [],j,_=>rfl
 | (i,x)::l,j,h=>by
   simp[qJ];rw[h (i,x) aoZ,Cl l (j+1) (λp hp=>h p (aoW _ hp))]
theorem zN{s}{o}{b}{x}{s'}{c}(hm:u2 o=true)(h:fO P s o b=some (x,s',c)) gx
  (he:∀z,z∈o.op.operands->St.ev ⟨gx,s.L⟩ z=s.ev z):fO P ⟨gx,s.L⟩ o b=some (x,⟨mA (gF s o) gx,s'.L⟩,c):=by
 obtain⟨dst,op,ty,pos,after,guard⟩:=o;unfold fO at h⊢;simp only at h he⊢;split at h
 ·simp only[gF,iw]at h⊢;split at h
  ·grind
  grind
 ·rename_i e xo;have e1:=he xo (by simp[Op.operands]);simp only[gF,iw,e1]at h⊢;split at h
  ·grind
  grind
 ·rename_i t ao xo;have e1:=he ao (by simp[Op.operands]);have e2:=he xo (by simp[Op.operands]);simp only[EI,e1,e2,gF,iw]at h⊢;split at h
  ·split at h
   ·split at h
    ·grind
    grind
   ·split at h
    ·grind
    grind
   grind
  grind
 ·rename_i t lo co;have e1:=he lo (by simp[Op.operands]);have e2:=he co (by simp[Op.operands]);split at h
  ·simp only[HQ,e1,e2,gF,iw]at h⊢;split at h
   ·grind
   grind
  grind
 ·rename_i t len ps;have e1:=Cl (s2:=⟨gx,s.L⟩) (s:=s) ps.toList 0 (λp hp=>he p.2 (by
   simp only[Op.operands,aq9,aoQ];grind))
  split at h
  ·simp only[MJ,e1,gF,iw]at h⊢;split at h
   ·grind
   grind
  grind
 ·rename_i t xo lo hi;have e1:=he xo (by simp[Op.operands]);have e2:lo.map (St.ev ⟨gx,s.L⟩)=lo.map s.ev:=by
   cases lo with
   | none=>rfl
   | some z=>simp_all[apc,Op.operands]
  have e3:hi.map (St.ev ⟨gx,s.L⟩)=hi.map s.ev:=by
   cases hi with
   | none=>rfl
   | some z=>simp_all[apc,Op.operands]
  simp only[MK,e1,e2,e3,gF]at h⊢;split at h
  ·rename_i hh e k hs hE;simp only[hs]at h⊢;split at h
   ·rename_i e' k' xs hl;split at h<;>first|(cases h;done)|(simp only[anc,aoI]at h;obtain⟨rfl,rfl,rfl⟩:=h;simp_all[St.kill,mA,kO])
   grind
  grind
 ·simp only[gF,iw]at h⊢;split at h
  ·grind
  grind
 ·rename_i t mo ko vo;have e1:=he mo (by simp[Op.operands]);have e2:=he ko (by simp[Op.operands]);have e3:=he vo (by simp[Op.operands]);simp only[sh,e1,e2,e3,gF,iw]at h⊢;split at h
  ·split at h
   ·grind
   grind
  grind
 ·rename_i t mo ko vo;have e1:=he mo (by simp[Op.operands]);have e2:=he ko (by simp[Op.operands]);have e3:=he vo (by simp[Op.operands]);simp only[sh,e1,e2,e3,gF,iw]at h⊢;split at h
  ·split at h
   ·grind
   grind
  grind
 ·rename_i args argTypes;simp only[gF,iw]at h⊢;split at h
  ·rename_i x ha;have e1:=he x (by simp only[Op.operands,Call.operands,aqI];right;rw[<-aqp,ha];simp);simp only[Ar,e1]at h⊢;grind
  grind
 ·rename_i args argTypes;simp only[gF]at h⊢;split at h
  ·rename_i p l pt it ha ht;have e1:=he p (by simp only[Op.operands,Call.operands,aqI];right;rw[<-aqp,ha];simp);have e2:=he l (by simp only[Op.operands,Call.operands,aqI];right;rw[<-aqp,ha];simp);simp only[C4,e1,e2,ha]at h⊢;split at h
   ·rename_i hp _ _;simp only[hp]at h⊢;simp only[anc,aoI]at h;obtain⟨rfl,rfl,rfl⟩:=h;simp_all[iw]
   ·rename_i hp _ _;simp only[hp]at h⊢;split at h
    ·split at h
     ·simp only[anc,aoI]at h;obtain⟨rfl,rfl,rfl⟩:=h;rfl
     grind
    grind
   grind
  grind
 ·rename_i cl _ _;split at h
  ·simp only[AW]at h⊢;split at h
   ·rename_i so xo t t2 h1 h2 h3;have e1:=he so (by simp only[Op.operands,Call.operands,aqI];right;rw[<-aqp,h2];simp);have e2:=he xo (by simp only[Op.operands,Call.operands,aqI];right;rw[<-aqp,h2];simp);simp only[h1,h2,h3,e1,e2,gF]at h⊢;split at h
    ·split at h
     ·rename_i ani;split at h
      ·rename_i hh p7;simp only[p7]at h⊢;split at h
       ·simp only[anc,aoI]at h;obtain⟨rfl,rfl,rfl⟩:=h;simp_all[St.kill,mA,kO]
       grind
      ·rename_i p7;simp only[anc,aoI]at h;obtain⟨rfl,rfl,rfl⟩:=h;simp_all[iw]
      grind
     grind
    grind
   grind
  grind
 grind
theorem UD{P}{s}{dst}{c}{ty}{pos}{after}{guard}{b}:
  fO P s ⟨dst,.call c,ty,pos,after,guard⟩ (b+1)=fO P s ⟨dst,.call c,ty,pos,after,guard⟩ 0:=by
 obtain⟨callee,args,Su⟩:=c;cases callee with
 | builtin bi=>cases bi<;>rfl
 | _=>rfl
theorem C6{o s x0 s0 c0}(h:fO P s o 0=some (x0,s0,c0))(hc:c0):q8 P n o s (λx s'=>x=x0/\s'=s0):=by
 have h':=h;obtain⟨dst,op,ty,pos,after,guard⟩:=o;unfold fO at h;simp at h;split at h
 ·split at h
  ·rename_i e hh z hz;cases h;refine(R6 (λ_=>0) (λ_=> .inl rfl) hz hc).mono ?_;simp
  grind
 ·split at h
  ·rename_i e xo hh cs jY;cases h;refine(acI (λ_=>0) (λ_=> .inl rfl) jY hc).mono ?_;simp
  grind
 all_goals
  first
   | (cases h;done)
   | (refine(u1 h' hc).mono ?_
      rintro x1 s1 ⟨b,c1,hb⟩;rw[UD]at hb;grind)
   | (refine(u1 h' hc).mono ?_
      rintro x1 s1 ⟨b,c1,hb⟩;have vy:=h'.symm.trans (show _=some (x1,s1,c1)from hb);simp[anc,aoI]at vy;exact⟨vy.1.symm,vy.2.1.symm⟩)
end
section
variable {P : Program} {w w' : World} {fo : FO} {m m' : Nat -> Option Value} {L : aI} {n : Nat} {s : St} {a : Act}
def nK(s:St):List Operand->Prop
 | []=>True
 | z::l=>(s.ev z).B7/\nK s l
theorem sk{s}:∀{l},nK s l->∀z∈l,(s.ev z).B7
 | [],_,z,h=>by cases h
 | y::l,h,z,hz=>by
   rcases ao0.1 hz with rfl|hz
   ·exact h.1
   ·exact sk h.2 z hz
def JH:Operand->Operand->Bool
 | .tmp i,.tmp j=>i==j
 | _,_=>false
def NW(s:St)(o:Oper)(z:Operand):V:=
 match o.op with
 | .pick c _ _=>if JH z c then(s.ev z).un else s.ev z
 | _=>(s.ev z).un
def gU(s:St)(o:Oper):Prop:=
 match o.op with
 | .pick c _ _=>(s.ev c).B7
 | _=>nK s o.op.operands.toList
def UE:Option (V×Prop)->V
 | some (x,_)=>x
 | none=> .any
def UF:Option (V×Prop)->Prop
 | some (_,c)=>c
 | none=>False
theorem JI{s o}(h:gU s o):∀z,z∈o.op.operands->∀w O m v,aB w O m v (s.ev z)->aB w O m v (NW s o z):=by
 intro z hz w O m v hr;unfold gU at h;unfold NW;split
 ·rename_i c a b aD;split
  ·rename_i hs;have:z=c:=by
    cases z<;>cases c<;>simp[JH]at hs<;>first|(rw[hs];done)|cases hs
   simp_all[vn]
  omega
 grind[vn,sk]
theorem A5{r}(h:UF r):∃c,r=some (UE r,c)/\c:=by
 cases r with
 | none=>exact h.elim
 | some p=>exact⟨p.2,rfl,h⟩
def H5(s:St)(o:Oper):Bool:=
 match o.op with
 | .slice _ x _ _ _=>match s.ev x with
   | .rv _=>true
   | .gd _ (.rv _)=>true
   | _=>false
 | _=>u2 o
def EM(P:Program)(ops:Array Oper)(s:St)(o:Oper):Option (St×Prop):=
 match fv ops s o with
 | some none=>match q2 P s.ev s.L o with
   | some (x,c)=>some (s.put o.dst x,c)
   | none=>none
 | some (some g)=>if H5 s o then none else some (s.put o.dst (.gd g (UE (q2 P (NW s o) s.L o))),g=true->UF (q2 P (NW s o) s.L o)/\gU s o)
 | none=>none
theorem Ro{ops s s'}{o:Oper}{c rest Q}(hd:∀d,o.dst=some d->d<n)(h:EM P ops s o=some (s',c))(hc:c)(k:au P n ops rest s' Q):au P n ops (o::rest) s Q:=by
 unfold EM at h;split at h
 ·rename_i hg;split at h
  ·rename_i x c' hx;cases h;exact au.quiet (lf hg) hd (uz hx hc) k
  ·cases h
 ·rename_i b hg;split at h
  ·cases h
  ·cases h;refine au.guarded hg hd (λhb=>?_) k;obtain⟨h1,h2⟩:=hc hb;obtain⟨c',h3,h4⟩:=A5 h1;exact⟨_,JI h2,uz h3 h4⟩
 ·cases h
def JJ(o:Oper):List Nat:=o.op.operands.toList.filterMap λz=>match z with|.tmp t=>some t|_=>none
def C7(s:St)(o:Oper):List (Nat×V):=(JJ o).filterMap λt=>match s.get t with|.gd _ x=>some (t,x)|_=>none
def sP(s:St)(o:Oper):St:=⟨C7 s o++s.fr,s.L⟩
theorem G.sP{fo m s a w o}(g:G fo n m s a w)(hu:nK s o.op.operands.toList):G fo n m (sP s o) a w:=by
 refine⟨g.size,λt x hx=>?_,g.inv,g.defers⟩;rcases ao1.1 hx with hx|hx
 ·obtain⟨t',Sv,he⟩:=apY.1 hx;obtain⟨z,hz,hze⟩:=apY.1 Sv;have aiA:=sk hu _ hz;simp[St.ev]at aiA;split at he
  ·have hm:(t',s.get t')∈s.fr:=by
    grind[St.get,xq]
   obtain⟨h1,h2⟩:=g.fr _ _ hm;grind[aeS,V.B7]
  grind
 ·exact g.fr t x hx
theorem aaT{s s' o b x c}(hm:u2 o=true)(h:fO P s o b=some (x,s',c)):s'.fr=mA (gF s o) s.fr:=by
 have:=zN hm h s.fr (λ_ _=>rfl);rw[show(⟨s.fr,s.L⟩:St)=s from rfl,h]at this;grind
theorem au.H5{ops}{o}{rest}{s}{Q}{b}(jB:fv ops s o=some (some b))(hd:∀d,o.dst=some d→d < n)
  (ht:b=true->∃b0 x s' c,fO P (sP s o) o b0=some (x,s',c)/\u2 o=true/\nK s o.op.operands.toList/\c)
  (k:b=true->∀x s' b1 c,fO P (sP s o) o (b1+1)=some (x,s',c)->au P n ops rest (St.put ⟨mA (gF (sP s o) o) s.fr,s'.L⟩ o.dst (.gd true x)) Q)
  (kf:b=false->au P n ops rest (s.put o.dst (.gd false .any)) Q):au P n ops (o::rest) s Q:=by
 intro fo m0 w0 m a w st g;have hw:=nH g jB;cases b with
 | true=>
   obtain⟨b0,x0,s0,c0,h1,h2,h3,h4⟩:=ht rfl;obtain⟨nx,v,w',m',x,s',bw,sH,⟨b1,c1,C2⟩,hr,g',fK⟩:=u1 h1 h4 fo m a w (g.sP h3);have iy:=aaT h2 C2;have g2:G fo n m' ⟨mA (gF (Go.Ab.sP s o) o) s.fr,s'.L⟩ a w':=by
    refine⟨g'.size,λt y hy=>g'.fr t y ?_,g'.inv,g'.defers⟩;rw[iy];obtain⟨p,hp,he⟩:=aoQ.1 hy;exact aoQ.2 ⟨p,apn _ hp,he⟩
   exact sM hw bw sH (k rfl x s' b1 c1 C2 fo m0 w0 m' _ w' (st.trans fK) (g2.put hd (.gt _ _ hr)))
 | false=>
   unfold wpListIn;rw[if_neg (by grind)];exact⟨λ_ _=>trivial,kf rfl fo m0 w0 m _ w st (g.put hd (.gf _))⟩
variable {ops : Array Oper} {Q : AX -> St -> Prop}
mutual
def V.on(ks:List Nat):V->Bool
 | .bp h _=>ks.contains h
 | .rv h=>ks.contains h
 | .ep h _ _ _=>ks.contains h
 | .fu _ f c=>V.dE ks f&&V.dE ks c
 | .agg cs=>V.dE ks cs
 | .bA cs=>V.dE ks cs
 | .gd _ x=>V.on ks x
 | .d _=>true
 | .rp _=>true
 | .sv h _=>ks.contains h
 | .kn _=>true
 | .any=>true
def V.dE(ks:List Nat):List V->Bool
 | []=>true
 | x::l=>V.on ks x&&V.dE ks l
end
theorem fQ{ks}:∀{l},V.dE ks l=true->∀x∈l,V.on ks x=true
 | [],_,x,h=>by cases h
 | y::l,h,x,hx=>by
   simp[V.dE]at h;rcases ao0.1 hx with rfl|hx
   ·grind
   ·exact fQ h.2 x hx
theorem EN ks:∀l:List D,V.dE ks (l.map V.d)=true
 | []=>rfl
 | x::l=>by simp[V.dE,V.on,EN]
def aV.on(ks:List Nat):aV->Bool
 | .box _ _ cs=>V.dE ks cs
 | .row _ _ xs=>xs.all (V.dE ks)
 | .env _=>true
 | .mp _=>true
theorem agR ks ys:(dd ys).all (V.dE ks)=true:=by
 simp[dd,EN]
theorem aB.on{O ks}(hm:∀h x,h∈ks->m h=some x->m' h=some x){x y}(hr:aB w O m x y)(ho:y.on ks=true):aB w O m' x y:=by
 induction hr with
 | d x y h=>exact .d x y h
 | bp h off b e=>exact .bp h off b (hm _ _ (by simp_all[V.on]) e)
 | rv h x e e1=>exact .rv h x (hm _ _ (by simp_all[V.on]) e) e1
 | ep h k i j b o n c e=>exact .ep h k i j b o n c (hm _ _ (by simp_all[V.on]) e)
 | rp b off cs f hb aw hc hr=>exact .rp b off cs f hb aw hc hr
 | sv h n b cap e hc hx=>exact .sv h n b cap (hm _ _ (by simp_all[V.on]) e) hc hx
 | fu fn first ei cf cc s1 s2 h1 h2 Fs Kv=>
   simp[V.on]at ho;exact .fu fn first ei cf cc s1 s2 (λj x y hx hy=>Fs j x y hx hy (fQ ho.1 y (aoO hy))) (λj x y hx hy=>Kv j x y hx hy (fQ ho.2 y (aoO hy)))
 | agg vs cs hs h1 h ih=>
   exact .agg vs cs hs h1 (λj x y hx hy=>ih j x y hx hy (fQ ho y (aoO hy)))
 | bA vs cs hs h ih=>
   exact .bA vs cs hs (λj x y hx hy=>ih j x y hx hy (fQ ho y (aoO hy)))
 | gt x y h ih=>exact .gt x y (ih (by simp_all[V.on]))
 | gf y=>exact .gf y
 | kn x Q h=>exact .kn x Q h
 | any x=>exact .any x
theorem aV.Holds.on{O ks}(hm:∀h x,h∈ks->m h=some x->m' h=some x){x}{r:aV}(hr:r.Holds w O m x)(ho:r.on ks=true):r.Holds w O m' x:=by
 cases r with
 | box b ty cs=>
   obtain⟨bb,kq,cur,rfl,h1,h2,h3,h4⟩:=hr;exact⟨bb,kq,cur,rfl,h1,h2,h3,λj v c hv hc=>(h4 j v c hv hc).on hm (fQ ho c (aoO hc))⟩
 | row ty k xs=>
   rcases hr with h|⟨b,off,cap,cur,rfl,h1,h2,h3,h4,h5,h6,h7⟩
   ·exact .inl h
   ·simp[aV.on]at ho;exact .inr ⟨b,off,cap,cur,rfl,h1,h2,h3,h4,h5,h6,λi j x y v hx hy hv=>(h7 i j x y v hx hy hv).on hm (fQ (ho x (aoO hx)) y (aoO hy))⟩
 | env A=>exact hr
 | mp es=>exact hr
def St.on(ks:List Nat)(s:St):Bool:=s.fr.all (λp=>V.on ks p.2)&&s.L.all (λp=>aV.on ks p.2)
theorem Wk.drop{s'}(hf:∀p∈s'.fr,p∈s.fr)(hL:∀p∈s'.L,p∈s.L)(hn:(keys s'.L).Nodup)(ij:s'.on (keys s'.L)=true):Wk n s s':=by
 classical
 intro fo m a w g
 let m':=λh=>if h∈keys s'.L then m h else none
 have nJ:∀h x,m' h=some x->m h=some x/\h∈keys s'.L:=by
  grind
 have Yd:∀h x,h∈keys s'.L->m h=some x->m' h=some x:=by
  grind
 have eZ:∀b,own m' b->own m b:=by
  rintro b ⟨h,x,hx,hb⟩;exact⟨h,x,(nJ h x hx).1,hb⟩
 have hO:∀b,b<w.heap.size->OO fo m' b->OO fo m b:=λb _ ho=>ho.imp (eZ b) id
 simp only[St.on,aoM,aoP]at ij;refine⟨m',⟨g.size,?_,?_,g.defers⟩,⟨rfl,rfl,rfl,aoT _,λ_ _ _=>rfl,λb _ ho=>eZ b ho⟩⟩
 ·intro t x hx;obtain⟨h1,h2⟩:=g.fr t x (hf _ hx);exact⟨h1,(h2.on Yd (ij.1 _ hx)).mono (bK.refl w _) hO (λ_ _ e=>e)⟩
 ·refine⟨hn,λh x hx=>(nJ h x hx).2,?_,?_,g.inv.ej,?_,g.inv.ef.mono (bK.refl w _) hO⟩
  ·intro h h' x x' b hx cG hb dm;exact g.inv.apart h h' x x' b (nJ h x hx).1 (nJ h' x' cG).1 hb dm
  ·intro h x b hx hb;exact g.inv.others h x b (nJ h x hx).1 hb
  ·intro h r hr;obtain⟨x,hx,hh⟩:=g.inv.holds h r (hL _ hr);have hk:h∈keys s'.L:=aoQ.2 ⟨_,hr,rfl⟩;exact⟨x,Yd h x hk hx,(hh.on Yd (ij.2 _ hr)).mono (λ_ _=>rfl) (bK.refl w _) hO (λ_ _ e=>e)⟩
theorem Wk.rem h:Wk n s (s.rem h):=by
 classical
 intro fo m a w g
 let m':=λi=>if i=h then none else m i
 have hm:∀i x,i≠h->m i=some x->m' i=some x:=λi x bR hx=>by grind
 have nJ:∀i x,m' i=some x->i≠h/\m i=some x:=by
  grind
 have eZ:∀b,own m' b->own m b:=by
  rintro b ⟨i,x,hx,hb⟩;exact⟨i,x,(nJ i x hx).2,hb⟩
 have hO:∀b,b<w.heap.size->OO fo m' b->OO fo m b:=λb _ ho=>ho.imp (eZ b) id
 have hi:=g.inv;have pA:keys (St.rem h s).L=(keys s.L).filter (·!=h):=by
  simp[keys,St.rem,Ap,ap6];rw[List.filter_map];rfl
 refine⟨m',⟨g.size,?_,?_,g.defers⟩,⟨rfl,rfl,rfl,aoT _,λ_ _ _=>rfl,λb _ ho=>eZ b ho⟩⟩
 ·intro t x hx;obtain⟨p,hp,he⟩:=aoQ.1 hx;cases he;obtain⟨h1,h2⟩:=g.fr p.1 p.2 hp;exact⟨h1,(h2.kill hm).mono (bK.refl w _) hO (λ_ _ e=>e)⟩
 ·have aaR:(St.rem h s).L=(s.L.filter λp=>p.1 !=h).map λp=>(p.1,p.2.kill h):=Ap h s.L
  refine⟨?_,?_,?_,?_,hi.ej,?_,hi.ef.mono (bK.refl w _) hO⟩
  ·rw[pA];exact hi.nodup.sublist List.filter_sublist
  ·intro i x hx;rw[pA,apU];exact⟨hi.fI i x (nJ i x hx).2,by grind⟩
  ·intro i j x y b hx hy hb dm;exact hi.apart i j x y b (nJ i x hx).2 (nJ j y hy).2 hb dm
  ·intro i x b hx hb;exact hi.others i x b (nJ i x hx).2 hb
  ·intro i r hr;rw[aaR]at hr;obtain⟨p,hp,he⟩:=aoQ.1 hr;cases he;rw[apU]at hp;obtain⟨x,hx,hh⟩:=hi.holds p.1 p.2 hp.1;have bR:p.1≠h:=by grind
   exact⟨x,hm _ _ bR hx,(hh.kill hm).mono (λ_ _=>rfl) (bK.refl w _) hO (λ_ _ e=>e)⟩
def NX:Op->Bool
 | .alloc _|.box .. | .makeSlice .. | .buildSlice .. | .makeMap .. =>true
 | _=>false
def St.NY(s:St)(o:Oper):St:=
 match o.dst with
 | some h=>if NX o.op&&(keys s.L).contains h then s.rem h else s
 | none=>s
theorem Wk.NY o:Wk n s (s.NY o):=by
 grind[St.NY,Wk.rem,Wk.refl]
theorem au.weaken{ops l s' Q}(h:Wk n s s')(k:au P n ops l s' Q):au P n ops l s Q:=by
 intro fo m0 w0 m a w st g;obtain⟨m',g',fK⟩:=h fo m a w g;exact k fo m0 w0 m' a w (st.trans fK) g'
end
def aaU(P:Program)(s:St):ResultVar->Option (V×Prop)
 | .tmp t=>some (s.get t,True)
 | .cell a t=>EE P s.L t (s.get a)
def u3(P:Program)(s:St):List ResultVar->Option (List V×Prop)
 | []=>some ([],True)
 | r::l=>match aaU P s r,u3 P s l with
   | some (x,c),some (xs,d)=>some (x::xs,c/\d)
   | _,_=>none
def A6:List V->V
 | [x]=>x
 | l=> .bA l
def ML(tmps:Array Value)(r:ResultVar):Sem Value:=
 match r with
 | .tmp t=>pure (tmps.getD t undef)
 | .cell a t=>do loadVar t (<-asAddr (tmps.getD a undef))
theorem H6 fn tmps:results fn tmps=(do let vs <-fn.results.mapM (ML tmps);pure (if h:vs.size=1 then vs[0]else .tuple vs)):=rfl
def ff(P:Program)(rs:List ResultVar)(R:AE->aI->Prop)(x:AX)(s:St):Prop:=
 match x with
 | .normal | .ret=>match u3 P s rs with
   | some (xs,c)=>c/\R (.ret (A6 xs)) s.L
   | none=>False
 | .ix v=>R (.ix v) s.L
 | _=>False
theorem FM{P}{fo}{n}{m}{s}{a}{w}(g:G fo n m s a w):∀l {xs} {c},u3 P s l=some (xs,c)→c→
  ∃vs:List Value,(l.mapM (ML a.tmps)).run P w= .ok vs w/\vs.length=xs.length/\
   ∀(j:Nat) v x,vs[j]?=some v->xs[j]?=some x->aB w (OO fo m) m v x
 | [],xs,c,h,_=>by
   cases h;exact⟨[],by simp,rfl,by simp⟩
 | r::l,xs,c,h,hc=>by
   simp[u3]at h;split at h
   ·rename_i x c1 ys d h1 h2;cases h;obtain⟨vs,hv1,KX,hv3⟩:=FM g l h2 hc.2;have kB:∃v,(ML a.tmps r).run P w= .ok v w/\aB w (OO fo m) m v x:=by
     cases r with
     | tmp t=>
       cases h1;exact⟨_,rfl,qI g t⟩
     | cell ad t=>
       simp[aaU]at h1;obtain⟨v,hv,hr⟩:=Ft h1 hc.1 g.inv (qI g ad);have hp:∃p,a.tmps.getD ad undef= .pointer (some p):=by
        have rF:=qI g ad;grind[EE,xw,Cz,CA]
       grind[ML,Instr.loadAt,Instr.sureAddr,asAddr]
    obtain⟨v,hv,hr⟩:=kB;refine⟨v::vs,?_,by grind,?_⟩
    ·simp_all
    grind
   grind
theorem r7{P}{fo}{n}{m}{s}{a}{w}(g:G fo n m s a w){fn}{xs}{c}(h:u3 P s fn.results.toList=some (xs,c))(hc:c):
  ∃v,(results fn a.tmps).run P w= .ok v w/\aB w (OO fo m) m v (A6 xs):=by
 obtain⟨vs,h1,h2,h3⟩:=FM g _ h hc;rw[H6,Array.mapM_eq_mapM_toList];simp;rw[h1]
 match vs,xs,h2,h3 with
 | [v],[x],_,h3=>
   simpa[A6]using h3 0 v x rfl rfl
 | [],[],_,h3=>
   refine⟨.tuple #[],by simp,?_⟩;exact .bA _ _ rfl (by simp)
 | v1::v2::vs,x1::x2::xs,h2,h3=>
   refine⟨.tuple (v1::v2::vs).toArray,by simp,?_⟩;exact .bA _ _ (by omega) (λj v x hv hx=>h3 j v x (by grind) hx)
theorem G.others{fo n m s a w w'}(g:G fo n m s a w)(hs:w.heap.size<=w'.heap.size)(hb:∀b,b<w.heap.size->¬fo.f b->w'.heap[b]?=w.heap[b]?):G fo n m s a w':=by
 have hk:bK w (OO fo m) w':=⟨hs,λb h1 h2=>hb b h1 (λh=>h2 (.inr h))⟩
 refine⟨g.size,λt x hx=>⟨(g.fr t x hx).1,(g.fr t x hx).2.mono hk (λ_ _ h=>h) (λ_ _ h=>h)⟩,⟨g.inv.nodup,g.inv.fI,g.inv.apart,g.inv.others,λb hf=>ao3 (g.inv.ej b hf) hs,λh r hr=>?_,g.inv.ef.mono hk (λ_ _ h=>h)⟩,g.defers⟩;obtain⟨x,hx,hh⟩:=g.inv.holds h r hr;exact⟨x,hx,hh.mono (λb dm=>hb b (g.inv.lt hx dm) (g.inv.others h x b hx dm)) hk (λ_ _ h=>h) (λ_ _ h=>h)⟩
theorem Inv.less{fo fo' m L w}(h:∀b,fo'.f b->fo.f b)(hi:Inv fo m L w):Inv fo' m L w:=by
 refine⟨hi.nodup,hi.fI,hi.apart,λi x b hx hb hf=>hi.others i x b hx hb (h b hf),λb hf=>hi.ej b (h b hf),λi r hr=>?_,hi.ef.mono (bK.refl w _) (λb _ hb=>hb.imp id (h b))⟩;obtain⟨x,hx,hh⟩:=hi.holds i r hr;exact⟨x,hx,hh.mono (λ_ _=>rfl) (bK.refl w _) (λb _ hb=>hb.imp id (h b)) (λ_ _ h=>h)⟩
def nL(w:World)(r:Nat)(o:Obj):World:={w with heap:=w.heap.setIfInBounds r o}
theorem jr w r o:(nL w r o).heap.size=w.heap.size:=by simp[nL]
theorem KY{w r o}(h:r<w.heap.size):(nL w r o).heap[r]?=some o:=by simp[nL,h]
theorem qM{w r b o}(h:b≠r):(nL w r o).heap[b]?=w.heap[b]?:=by simp[nL,Ne.symm h]
theorem xP{P w r o}(h:w.heap[r]?=some o)(ho:∀c e f,o≠ .cells c e f):(getObj r).run P w= .ok o w:=by
 unfold getObj;simp[Sem.run];rw[h];cases o with
 | cells c e f=>exact(ho c e f rfl).elim
 | _=>rfl
theorem A7{P w r o o'}(h:w.heap[r]?=some o)(ho:∀c e f,o≠ .cells c e f):(setObj r o').run P w= .ok () (nL w r o'):=by
 unfold setObj;simp[Sem.run];rw[h];cases o with
 | cells c e f=>grind
 | _=>rfl
theorem tw{P}{fn}{n}{tmps}{R}{u}(hu:u≠ .run):∀(ms:List Nat) w,ms.Nodup→(∀r∈ms,w.heap[r]?=some (.deferred (some [])))→
  (∀w',w'.os=w.os->w'.tape=w.tape->w'.output=w.output->w.heap.size<=w'.heap.size->(∀b,b∉ms->w'.heap[b]?=w.heap[b]?)->LeavesInM Fence.wide n P fn tmps R [] u w')->LeavesInM Fence.wide n P fn tmps R (ms.map (λr=>⟨.collected r,#[]⟩)) u w
 | [],w,_,_,h=>h w rfl rfl rfl (aoT _) (λ_ _=>rfl)
 | r::ms,w,hn,hm,h=>by
   rw[apx]at hn;refine⟨hu,.inl ⟨r,nL w r (.deferred none),rfl,?_,?_⟩⟩
   ·simp_all[Instr.takeDeferred,xP,A7]
   ·refine tw hu ms _ hn.2 (λr' s8=>?_) (λw' h1 h2 h3 h4 h5=>h w' h1 h2 h3 (apr (by simp[jr]) h4) (λb hb=>?_))
    ·have:r≠r':=λe=>hn.1 (e ▸ s8)
     simp_all[qM,Ne.symm]
    simp_all[qM]
theorem aE.adG{P}{f}{fn}{c}{args}{L}{R}(hf:P.funcs[f]?=some fn)(hb:fn.body=some c)(hn:args.length≤fn.ntmps)
  (h:av P fn.ntmps c ⟨eH 0 args,L⟩ (ff P fn.results.toList R)) {fo m w xs} (hD:fo.D=[]) (tz:fo.r=none) (As:fo.nm=false) (hi:Inv fo m L w) (hx:ir w (OO fo m) m xs args):Calls P f xs w (mv fo m w R):=by
 refine callsIn_wide.1 (callsIn_of_wp_marks (n:=0) hf hb trivial ?_);have dZ:(xs++Array.replicate (fn.ntmps-xs.size) undef).size=fn.ntmps:=by
  have:=hx.1;grind
 have g:G fo fn.ntmps m ⟨eH 0 args,L⟩ {tmps:=xs++Array.replicate (fn.ntmps-xs.size) undef,defers:=[]} w:=by
  refine⟨dZ,?_,hi,hD.symm⟩;intro t y hy;obtain⟨h1,h2,h3⟩:=pW hy;simp only[Nat.sub_zero,apz]at h2 h3;refine⟨by omega,?_⟩;have aw:t<xs.size:=by rw[hx.1];exact h3
  have:(xs++Array.replicate (fn.ntmps-xs.size) undef).getD t undef=xs[t]:=by
   simp[Array.getD,aw];omega
  rw[this];exact hx.2 t _ y (ao7 aw) h2
 have h0:=h fo m _ w (λ_=>⟨tz,As⟩) g;rw[tz]at h0;refine Code.wpIn_mono (F:=Fence.wide) ?_ h0;rintro e a' w' ⟨ms,m',x,s',hm,hq,g',cG,st⟩;have xO:a'.defers=ms.map (λr=>⟨.collected r,#[]⟩):=by
  rw[g'.defers];simp[FO.mark,hD]
 have stp:∀w2:World,w2.os=w'.os→w2.tape=w'.tape→w2.output=w'.output→w'.heap.size≤w2.heap.size→(∀b,b∉ms→w2.heap[b]?=w'.heap[b]?)→
   G (fo.mark ms) fn.ntmps m' s' a' w2/\Inv fo m' s'.L w2/\Step w (own m) w2 (own m'):=by
  intro w2 h1 h2 h3 h4 h5;have g2:=g'.others h4 (λb _ hnf=>h5 b (λhb=>hnf (.inr hb)));refine⟨g2,g2.inv.less (λb hb=>Or.inl hb),⟨h1.trans st.os,h2.trans st.tape,h3.trans st.output,apr st.size h4,λb hb ho=>?_,st.owned⟩⟩;rw[h5 b (λYe=>by have:=(hm.2 b Ye).1;omega)];exact st.block b hb ho
 have less:∀{w2:World} {v:Value} {y:V},aB w2 (OO (fo.mark ms) m') m' v y->aB w2 (OO fo m') m' v y:=λh=>h.mono (bK.refl _ _) (λb _ hb=>hb.imp id Or.inl) (λ_ _ h=>h)
 have NZ:∀(ys:List V) (c':Prop),u3 P s' fn.results.toList=some (ys,c')->c'->R (.ret (A6 ys)) s'.L->LeavesInM Fence.wide 0 P fn a'.tmps (mv fo m w R) a'.defers .returning w':=by
  intro ys c' hr hc hR;rw[xO];refine tw (by simp) ms w' hm.1.1 (λr hr=>(hm.2 r hr).2) (λw2 h1 h2 h3 h4 h5=>?_);obtain⟨g2,i2,oP⟩:=stp w2 h1 h2 h3 h4 h5;obtain⟨v,k1,k2⟩:=r7 g2 hr hc;exact⟨v,k1,m',_,_,hR,less k2,i2,oP⟩
 cases e with
 | normal=>
   cases x<;>simp only[bF]at cG
   simp only[ff]at hq;split at hq
   ·rename_i ys c' hr;exact NZ ys c' hr hq.1 hq.2
   grind
 | ret=>
   cases x<;>simp only[bF]at cG
   simp only[ff]at hq;split at hq
   ·rename_i ys c' hr;exact NZ ys c' hr hq.1 hq.2
   grind
 | panic ch=>
   cases x<;>simp only[bF]at cG
   simp only[ff]at hq;show LeavesInM Fence.wide 0 P fn a'.tmps (mv fo m w R) a'.defers (.panicking ch) w';rw[xO];refine tw (by simp) ms w' hm.1.1 (λr hr=>(hm.2 r hr).2) (λw2 h1 h2 h3 h4 h5=>?_);obtain⟨g2,i2,oP⟩:=stp w2 h1 h2 h3 h4 h5;obtain⟨v,gM,rfl,hold,hv⟩:=cG;exact⟨m',_,_,hq,⟨v,gM,rfl,hold,less (hv.mono ⟨h4,λb hb ho=>h5 b (λYe=>ho (.inr (.inr Ye)))⟩ (λ_ _ h=>h) (λ_ _ h=>h))⟩,i2,oP⟩
 | exit i=>cases x<;>simp only[bF]at cG;exact hq.elim
 | goto i=>cases x<;>simp only[bF]at cG;exact hq.elim
 | outgrown=>simp_all[bF]
theorem aE.xQ{P}{f}{fn}{c}{args}{L}{R}(hf:P.funcs[f]?=some fn)(hb:fn.body=some c)(hn:args.length≤fn.ntmps)
  (h:av P fn.ntmps c ⟨eH 0 args,L⟩ (ff P fn.results.toList R)):aE P f args L R:=by
 intro fo m w xs hi hx;have key:∀fo,fo.D=[]->fo.r=none->fo.nm=false->Inv fo m L w->ir w (OO fo m) m xs args->Calls P f xs w (mv fo m w R):=by
  grind[aE.adG]
 exact(key ⟨fo.f,[],none,false⟩ rfl rfl rfl ⟨hi.nodup,hi.fI,hi.apart,hi.others,hi.ej,hi.holds,hi.ef⟩ hx).mono λ_ _ ⟨m',r,L',h1,h2,h3,h4⟩=>⟨m',r,L',h1,h2,⟨h3.nodup,h3.fI,h3.apart,h3.others,h3.ej,h3.holds,h3.ef⟩,h4⟩
section
variable {P : Program} {w w' : World} {fo : FO} {m m' : Nat -> Option Value} {L : aI} {n : Nat} {s : St} {a : Act} {Q : AX -> St -> Prop}
def qd(P:Program)(o:Oper)(dt:Operand->V)(L:aI)(x:V):Prop:=
 ∀fo m (ρ:Operand->Value) w,Inv fo m L w->(∀z,z∈o.op.operands->aB w (OO fo m) m (ρ z) (dt z))->
  (∃v,(execOp ρ o).run P w= .ok (.value v) w/\aB w (OO fo m) m v x)\/
  ∃f args,(execOp ρ o).run P w= .ok (.enter f args) w/\Calls P f args w (λe w'=>∃v,e= .returned v/\aB w' (OO fo m) m v x/\Inv fo m L w'/\Step w (own m) w' (own m))
theorem qd.UG{o dt x}(h:W6 P o dt L x):qd P o dt L x:=λfo m ρ w hi hr=> .inl (h fo m ρ w hi hr)
def enters(P:Program)(f:FuncId):Bool:=
 match P.funcs[f]? with
 | some fn=>fn.name != "runtime.NumGoroutine" && fn.body.isSome
 | none=>false
theorem xR{f}(h:enters P f=true) args w:(callFunc f args).run P w= .ok (.enter f args) w:=by
 unfold enters at h;split at h
 ·rename_i fn hf;cases hb:fn.body with
  | none=>grind
  | some c=>simp_all[callFunc]
 grind
def callee(ρ:Operand->V)(c:Call):Option (FuncId×List V):=
 match c.callee with
 | .value fo=>match ρ fo with
   | .fu (.func f) first ei=>some (f,first++c.args.toList.map ρ++ei)
   | _=>none
 | _=>none
theorem Sw{x}{fn}{cf cc}{O}(hr:aB w O m x (.fu fn cf cc)):∃first ei:Array Value,x= .func fn first ei∧first.size=cf.length∧ei.size=cc.length∧
  (∀(j:Nat) x y,first[j]?=some x->cf[j]?=some y->aB w O m x y)/\(∀(j:Nat) x y,ei[j]?=some x->cc[j]?=some y->aB w O m x y):=by
 cases hr with
 | fu _ first ei _ _ s1 s2 h1 h2=>grind
theorem ir.append{O xs xs' ys ys'}(h:ir w O m xs ys)(h':ir w O m xs' ys'):ir w O m (xs++xs') (ys++ys'):=by
 refine⟨by simp[h.1,h'.1],λj x y hx hy=>?_⟩;rw[Array.getElem?_append]at hx;rw[ap1]at hy;rw[h.1]at hx;split at hx
 ·rename_i hj;rw[if_pos hj]at hy;exact h.2 j x y hx hy
 ·rename_i hj;rw[if_neg hj]at hy;exact h'.2 _ x y hx hy
theorem N0{ρ}{dt}{O}(l:Array Operand)(h:∀z,z∈l→aB w O m (ρ z) (dt z)):
  ∀(j:Nat) x y,(l.map ρ)[j]?=some x->(l.toList.map dt)[j]?=some y->aB w O m x y:=by
 grind
theorem oY{o}{c}{ρ}{dt}{f}{args}{O}(aD:o.op= .call c)(hc:callee dt c=some (f,args))(he:enters P f=true)
  (hr:∀z,z∈o.op.operands->aB w O m (ρ z) (dt z)):∃xs,(execOp ρ o).run P w= .ok (.enter f xs) w/\ir w O m xs args:=by
 unfold callee at hc;split at hc
 ·rename_i fop p6;split at hc
  ·rename_i f' first ei FA
   cases hc;have h1:=hr fop (by simp_all[Op.operands,Call.operands]);rw[FA]at h1;obtain⟨fa,ca,e,s1,s2,g1,g2⟩:=Sw h1;refine⟨fa++c.args.map ρ++ca,?_,?_⟩
   ·simp_all[xR,execOp,resolve,Deferred.ofValue,invoke]
   ·refine(ir.append ⟨s1,g1⟩ ?_).append ⟨s2,g2⟩;refine⟨by simp,?_⟩;grind[N0,Op.operands,Call.operands]
  grind
 grind
theorem Inv.grown(hi:Inv fo m L w)(hs:w.heap.size<=w'.heap.size)(hb:∀b,b<w.heap.size->w'.heap[b]?=w.heap[b]?):Inv fo m L w':=by
 refine⟨hi.nodup,hi.fI,hi.apart,hi.others,λb hf=>ao3 (hi.ej b hf) hs,?_,hi.ef.mono ⟨hs,λb dm _=>hb b dm⟩ (λ_ _ e=>e)⟩;intro h r hr;obtain⟨x,hx,hh⟩:=hi.holds h r hr;exact⟨x,hx,hh.mono (λb gT=>hb b (hi.lt hx gT)) ⟨hs,λb dm _=>hb b dm⟩ (λ_ _ e=>e) (λ_ _ e=>e)⟩
def fP:Nat->Option Value:=λ_=>none
theorem gH b:¬own fP b:=by rintro⟨h,x,hx,_⟩;cases hx
theorem Inv.none_(hi:Inv fo m L w){gV}(hf:∀b,gV b->OO fo m b):Inv gV fP [] w:=
 ⟨by simp[keys],(by intro h x hx;cases hx),(by intro h h' x x' b hx;cases hx),(by intro h x b hx;cases hx),(λb hb=>hi.agJ (hf b hb)),(by simp),hi.ef.mono (bK.refl w _) (λb _ hb=>hb.elim (λh=>(gH b h).elim) (hf b))⟩
theorem qd.call{o}{c}{dt}{f}{args}{x}(aD:o.op= .call c)(hc:callee dt c=some (f,args))(he:enters P f=true)(ho:V.dE [] args=true)(hx:x.on []=true)
  (h:aE P f args [] (λr _=>r= .ret x)):qd P o dt L x:=by
 intro fo m ρ w hi hr;obtain⟨xs,h1,h2⟩:=oY aD hc he hr;refine .inr ⟨f,xs,h1,?_⟩;have fD:ir w (OO (OO fo m) fP) fP xs args:=by
  refine⟨h2.1,λj v y hv hy=>?_⟩;have:=(h2.2 j v y hv hy).on (m':=fP) (by simp) (fQ ho y (aoO hy));exact this.mono (bK.refl w _) (λb _ hb=>hb.elim (λh=>(gH b h).elim) id) (λ_ _ e=>e)
 refine(h (OO fo m) fP w xs (hi.none_ λb hb=>hb) fD).mono ?_;rintro e w' ⟨m1,r,L',rfl,lG,cn,st⟩;cases e with
 | returned v=>
   refine⟨v,rfl,?_,hi.grown st.size (λb hb=>st.block b hb (gH b)),⟨st.os,st.tape,st.output,st.size,λb hb _=>st.block b hb (gH b),λb hb h=>h⟩⟩;have:=lG.on (m':=m) (by simp) hx;exact this.mono (bK.refl w' _) (λb _ hb=> .inr hb) (λ_ _ e=>e)
 | panicked ch=>simp_all[Ends]
 | outgrown=>simp_all[Ends]
theorem au.H7{ops}{o:Oper}{rest x}(hg:o.guard=none)(hd:∀d,o.dst=some d->d<n)(h:qd P o s.ev s.L x)(k:au P n ops rest (s.put o.dst x) Q):au P n ops (o::rest) s Q:=by
 intro fo m0 w0 m a w st g;rcases h fo m a.eval w g.inv (λz _=>cm g z)with⟨v,bw,hr⟩|⟨f,args,bw,hc⟩
 ·exact sM (by simp[Region.wanted,hg]) bw (.inl rfl) (k fo m0 w0 m _ w st (g.put hd hr))
 ·unfold wpListIn;rw[if_pos (by simp[Region.wanted,hg])];refine yL bw ?_;refine hc.mono ?_;rintro e w' ⟨v,rfl,hr,cn,fK⟩;have cQ:bK w (OO fo m) w':=⟨fK.size,λb hb ho=>fK.block b hb (λh=>ho (.inl h))⟩
  have g':G fo n m s a w':=⟨g.size,λt y hy=>⟨(g.fr t y hy).1,(g.fr t y hy).2.mono cQ (λ_ _ h=>h) (λ_ _ h=>h)⟩,cn,g.defers⟩
  exact k fo m0 w0 m _ w' (st.trans fK) (g'.put hd hr)
theorem au.N1{ops}{o}{rest}{b}{x}(jB:fv ops s o=some (some b))(hd:∀d,o.dst=some d→d < n)
  (h:b=true->∃dt:Operand->V,(∀z,z∈o.op.operands->∀w O m v,aB w O m v (s.ev z)->aB w O m v (dt z))/\qd P o dt s.L x) (k:au P n ops rest (s.put o.dst (.gd b x)) Q):au P n ops (o::rest) s Q:=by
 intro fo m0 w0 m a w st g;have hw:=nH g jB;cases b with
 | true=>
   obtain⟨dt,h1,h2⟩:=h rfl;rcases h2 fo m a.eval w g.inv (λz hz=>h1 z hz _ _ _ _ (cm g z))with⟨v,bw,hr⟩|⟨f,args,bw,hc⟩
   ·exact sM hw bw (.inl rfl) (k fo m0 w0 m _ w st (g.put hd (.gt _ _ hr)))
   ·unfold wpListIn;rw[if_pos hw];refine yL bw ?_;refine hc.mono ?_;rintro e w' ⟨v,rfl,hr,cn,fK⟩;have cQ:bK w (OO fo m) w':=⟨fK.size,λb hb ho=>fK.block b hb (λh=>ho (.inl h))⟩
    have g':G fo n m s a w':=⟨g.size,λt y hy=>⟨(g.fr t y hy).1,(g.fr t y hy).2.mono cQ (λ_ _ h=>h) (λ_ _ h=>h)⟩,cn,g.defers⟩
    exact k fo m0 w0 m _ w' (st.trans fK) (g'.put hd (.gt _ _ hr))
 | false=>
   unfold wpListIn;rw[if_neg (by grind)];exact⟨λ_ _=>trivial,k fo m0 w0 m _ w st (g.put hd (.gf _))⟩
def kJ(P:Program)(f:FuncId)(args:List V)(L:aI)(x:V):Prop:=∀(o:Oper) (c:Call) (dt:Operand->V),o.op= .call c->callee dt c=some (f,args)->qd P o dt L x
def A8(P:Program):Option (FuncId×List V)->aI->V->Prop
 | some (f,args),L,x=>kJ P f args L x
 | none,_,_=>False
def wC(P:Program)(s:St)(o:Oper)(x:V):Prop:=
 match o.op with
 | .call c=>A8 P (callee s.ev c) s.L x
 | _=>False
def wD(P:Program)(s:St)(o:Oper)(x:V):Prop:=
 nK s o.op.operands.toList/\match o.op with
 | .call c=>A8 P (callee (λz=>(s.ev z).un) c) s.L x
 | _=>False
theorem A8.FN{o c dt x}(aD:o.op= .call c)(h:A8 P (callee dt c) L x):qd P o dt L x:=by
 cases hc:callee dt c with
 | none=>rw[hc]at h;exact h.elim
 | some p=>
   rw[hc]at h;exact h o c dt aD hc
theorem wC.FN{o x}(h:wC P s o x):qd P o s.ev s.L x:=by
 grind[wC,A8.FN]
theorem wD.FN{o x}(h:wD P s o x):∃dt:Operand->V,(∀z,z∈o.op.operands->∀w O m v,aB w O m v (s.ev z)->aB w O m v (dt z))/\qd P o dt s.L x:=by
 unfold wD at h;refine⟨λz=>(s.ev z).un,λz hz w O m v hr=>vn hr (sk h.1 z (by grind)),?_⟩;grind[A8.FN]
def rK(o:Oper):Bool:=
 match o.op with
 | .call {callee:= .value _,..}=>true
 | _=>false
def xU(P:Program)(ops:Array Oper)(s:St)(o:Oper)(us:List V):Option (St×Prop×List V):=
 match us with
 | []=>none
 | x::us=>match fv ops s o with
   | some none=>some (s.put o.dst x,wC P s o x,us)
   | some (some g)=>some (s.put o.dst (.gd g x),g=true->wD P s o x,us)
   | none=>none
def eR(P:Program)(ops:Array Oper):List Oper->St->(Nat->Nat)->List V->(St->List Oper->Prop)->Prop
 | [],s,_,_,K=>K s []
 | o::rest,s,bs,us,K=>
   if rK o then
    match xU P ops s o us with
    | some (s',c,kK)=>c/\eR P ops rest s' bs kK K
    | none=>K s (o::rest)
   else
   match EM P ops s o with
   | some (s',c)=>c/\eR P ops rest s' bs us K
   | none=>
     match fv ops s o with
     | some none=>match fO P (s.NY o) o (bs 0+1)with
       | some (x,s',c)=>c/\eR P ops rest (s'.put o.dst x) (λi=>bs (i+1)) us K
       | none=>K s (o::rest)
     | some (some true)=>match fO P (sP s o) o (bs 0+1)with
       | some (x,s',c)=>(u2 o=true/\nK s o.op.operands.toList/\c)/\eR P ops rest (St.put ⟨mA (gF (sP s o) o) s.fr,s'.L⟩ o.dst (.gd true x)) (λi=>bs (i+1)) us K
       | none=>K s (o::rest)
     | some (some false)=>eR P ops rest (s.put o.dst (.gd false .any)) bs us K
     | none=>K s (o::rest)
def KK(P:Program)(n:Nat)(ops:Array Oper)(Q:AX->St->Prop)(s:St):List Oper->Prop
 | []=>Q .normal s
 | r=>au P n ops r s Q
theorem aeZ{ops r}(h:KK P n ops Q s r):au P n ops r s Q:=by
 cases r with
 | nil=>exact au.nil h
 | cons o r=>exact h
def dG(n:Nat)(l:List Oper):Bool:=l.all λo=>match o.dst with|some d=>decide (d<n)|none=>true
theorem bn{ops}:∀l s us,dG n l=true→
  (∀bs,eR P ops l s bs us (KK P n ops Q))->au P n ops l s Q
 | [],s,us,_,h=>aeZ (h (λ_=>0))
 | o::rest,s,us,hd,h=>by
   have yY:∀d,o.dst=some d->d<n:=by
    intro d uu;simp_all[dG,aq8,aoM]
   have nr:dG n rest=true:=by
    simp_all[dG,aq8,aoM]
   have h0:=h (λ_=>0);rw[eR]at h0;split at h0
   ·rename_i pK;split at h0
    ·rename_i s' c kK jY;have bV:∀bs,c/\eR P ops rest s' bs kK (KK P n ops Q):=by
      simp_all[eR,if_pos]
     have acQ:=bn rest s' kK nr (λbs=>(bV bs).2);have hc:=h0.1;unfold xU at jY;split at jY
     ·cases jY
     ·split at jY
      ·rename_i hg;cases jY;exact au.H7 (lf hg) yY (wC.FN hc) acQ
      ·rename_i g hg;cases jY;exact au.N1 hg yY (λhb=>wD.FN (hc hb)) acQ
      ·cases jY
    ·exact h0
   ·rename_i pK;split at h0
    ·rename_i s' c hq;have bV:∀bs,c/\eR P ops rest s' bs us (KK P n ops Q):=by
      simp_all[eR,if_neg]
     exact Ro yY hq h0.1 (bn rest s' us nr (λbs=>(bV bs).2))
    ·rename_i hq;split at h0
     ·rename_i N2;split at h0
      ·rename_i x0 s0 c0 hl;have bV:∀(bs:Nat->Nat) (x:V) (s':St) (c:Prop),fO P (s.NY o) o (bs 0+1)=some (x,s',c)->c/\eR P ops rest (s'.put o.dst x) (λi=>bs (i+1)) us (KK P n ops Q):=by
        intro bs x s' c hb;have:=h bs;simp_all[eR,if_neg]
       refine au.weaken (Wk.NY o) (au.lF (lf N2) yY (u1 hl h0.1) ?_);rintro x s' ⟨b,c,hb⟩;exact bn rest _ us nr (λbs=>(bV (λi=>match i with|0=>b|i+1=>bs i) x s' c hb).2)
      ·exact h0
     ·rename_i N2;split at h0
      ·rename_i x0 s0 c0 hl;have bV:∀(bs:Nat->Nat) (x:V) (s':St) (c:Prop),fO P (sP s o) o (bs 0+1)=some (x,s',c)->(u2 o=true/\nK s o.op.operands.toList/\c)/\eR P ops rest (St.put ⟨mA (gF (sP s o) o) s.fr,s'.L⟩ o.dst (.gd true x)) (λi=>bs (i+1)) us (KK P n ops Q):=by
        intro bs x s' c hb;have:=h bs;simp_all[eR,if_neg]
       refine au.H5 N2 yY (λ_=>⟨_,x0,s0,c0,hl,h0.1⟩) (λ_ x s' b c hb=>?_) (λh=>by cases h);exact bn rest _ us nr (λbs=>(bV (λi=>match i with|0=>b|i+1=>bs i) x s' c hb).2)
      ·exact h0
     ·rename_i N2;have bV:∀bs,eR P ops rest (s.put o.dst (.gd false .any)) bs us (KK P n ops Q):=by
       intro bs;have:=h bs;rw[eR,if_neg pK,hq]at this;simp only[N2]at this;exact this
      exact au.H5 N2 yY (λh=>by cases h) (λh=>by cases h) (λ_=>bn rest _ us nr bV)
     ·exact h0
def cV(P:Program)(n:Nat):Code->St->(AX->St->Prop)->Prop
 | .skip,s,Q=>Q .normal s
 | .seq x y,s,Q=>cV P n x s (AX.then (λs'=>cV P n y s' Q) Q)
 | .cond c x y,s,Q=>match s.ev c with
   | oD b=>(b=true->cV P n x s Q)/\(b=false->cV P n y s Q)
   | _=>False
 | .block id c,s,Q=>cV P n c s (AX.inBlock id Q)
 | .exit id,s,Q=>Q (.exit id) s
 | .ret,s,Q=>Q .ret s
 | .region id ops draw,s,Q=>if draw then av P n (.region id ops draw) s Q else dG n ops.toList=true/\∀bs,eR P ops ops.toList s bs [] (KK P n ops Q)
 | c,s,Q=>av P n c s Q
theorem AX.Yf{f g Q Q'}(h:∀s,f s->g s)(hq:∀x s,Q x s->Q' x s) x s(hx:AX.then f Q x s):AX.then g Q' x s:=by
 cases x<;>simp[AX.then]at hx⊢<;>first|exact h _ hx|exact hq _ _ hx
theorem xV{r id ops Q a w}(h:wpListIn (wr r) 0 P ops Q ops.toList a w):(Code.region id ops false).wpIn (wr r) 0 P Q a w:=wpIn_region_list h
theorem eg:∀c s Q,cV P n c s Q->av P n c s Q
 | .skip,s,Q,h=>av.skip h
 | .seq x y,s,Q,h=>av.seq (av.mono (eg x s _ h) (AX.Yf (λs' h'=>eg y s' Q h') (λ_ _ h=>h)))
 | .cond c x y,s,Q,h=>by
   simp[cV]at h;split at h
   ·rename_i b hb;exact av.cond hb (λhb=>eg x s Q (h.1 hb)) (λhb=>eg y s Q (h.2 hb))
   ·exact h.elim
 | .block id c,s,Q,h=>av.block (eg c s _ h)
 | .exit id,s,Q,h=>av.exit h
 | .ret,s,Q,h=>av.ret h
 | .region id ops draw,s,Q,h=>by
   simp[cV]at h;split at h
   ·exact h
   ·have:draw=false:=by grind
    subst this;intro fo m a w _ g;exact xV (bn ops.toList s [] h.1 h.2 fo m w m a w (Step.refl w _) g)
 | .loop c,s,Q,h=>h
 | .rangeFunc ..,s,Q,h=>h
 | .scope c,s,Q,h=>h
 | .label l,s,Q,h=>h
 | .goto l,s,Q,h=>h
 | .refuse _,s,Q,h=>h
end
section
variable {P : Program} {n : Nat} {Q : AX -> St -> Prop}
def sQ(P:Program)(ops:Array Oper)(o:Oper)(s:St)(x:V):Prop:=
 ∀fo m (a:Act) w,Inv fo m s.L w->(∀t,t∈o.looksAt ops->aB w (OO fo m) m (a.tmps.getD t undef) (s.get t))->
  ∀(next:Act->World->Prop) (Q':Exit->Act->World->Prop),(∀v w',aB w' (OO fo m) m v x->Inv fo m s.L w'->Step w (own m) w' (own m)->next (a.put o.dst v) w')->
   if Region.wanted o (yielded ops a.tmps)then o.wpIn (wr fo.r) 0 P a w next Q' else next (a.put o.dst undef) w
theorem vO{s:St}{w fo m}{a:Act}{z:Operand}(hgb:uV w (OO fo m))(h:∀t,z= .tmp t->aB w (OO fo m) m (a.tmps.getD t undef) (s.get t)):aB w (OO fo m) m (a.eval z) (s.ev z):=by
 cases z with
 | tmp t=>exact h t rfl
 | const v=>
   simp[St.ev];unfold EC;split
   ·rename_i h;exact .d _ _ (.v _ h)
   ·exact .any _
 | global i=>exact M1 hgb i
 | func f=>exact .fu _ _ _ _ _ rfl rfl (by simp) (by simp)
theorem kD{ops}{o:Oper}{t}(h:Operand.tmp t∈o.op.operands):t∈o.looksAt ops:=by
 refine ao1.2 (.inl (apY.2 ⟨.tmp t,by grind,rfl⟩))
theorem Yg{o}{dt}{L}{x}(h:qd P o dt L x){fo}{m}{a}{w}(hi:Inv fo m L w)(hr:∀z,z∈o.op.operands→aB w (OO fo m) m (a.eval z) (dt z))
  {next Q'} (k:∀v w',aB w' (OO fo m) m v x->Inv fo m L w'->Step w (own m) w' (own m)->next (a.put o.dst v) w'):o.wpIn (wr fo.r) 0 P a w next Q':=by
 rcases h fo m a.eval w hi hr with⟨v,bw,s8⟩|⟨f,args,bw,hc⟩
 ·exact wW bw (.inl rfl) (k v w s8 hi (Step.refl w _))
 ·refine yL bw ?_;refine hc.mono ?_;grind
theorem yZ{ops o s x}(hg:o.guard=none)(h:qd P o s.ev s.L x):sQ P ops o s x:=by
 intro fo m a w hi hs next Q' k
 rw[if_pos (by simp[Region.wanted,hg])];exact Yg h hi (λz hz=>vO hi.ef (λt ht=>hs t (kD (by grind)))) k
theorem y7{ops}{o}{s}{x}{b}(jB:fv ops s o=some (some b))
  (h:b=true->∃dt:Operand->V,(∀z,z∈o.op.operands->∀w O m v,aB w O m v (s.ev z)->aB w O m v (dt z))/\qd P o dt s.L x):sQ P ops o s (.gd b x):=by
 intro fo m a w hi hs next Q' k
 have hw:=r6 hs jB;cases b with
 | true=>
   obtain⟨dt,h1,h2⟩:=h rfl;rw[if_pos hw];exact Yg h2 hi (λz hz=>h1 z hz _ _ _ _ (vO hi.ef (λt ht=>hs t (kD (by grind))))) (λv w' hr=>k v w' (.gt _ _ hr))
 | false=>
   rw[if_neg (by grind)];exact k undef w (.gf _) hi (Step.refl w _)
def uE(P:Program)(ops:Array Oper):List Oper->St->List V->(St->Prop)->Prop
 | [],s,_,K=>K s
 | o::rest,s,us,K=>
   if rK o then
    match xU P ops s o us with
    | some (s',c,kK)=>c/\uE P ops rest s' kK K
    | none=>False
   else
   match EM P ops s o with
   | some (s',c)=>c/\uE P ops rest s' us K
   | none=>False
inductive Trace(P:Program) (ops:Array Oper):List Oper->St->List (St×V)->St->Prop
 | nil (s:St):Trace P ops [] s [] s
 | cons {o:Oper} {rest:List Oper} {s:St} {x:V} {l:List (St×V)} {s':St} (h:sQ P ops o s x) (k:Trace P ops rest (s.put o.dst x) l s'):Trace P ops (o::rest) s ((s,x)::l) s'
theorem qN{ops K}:∀l s us,uE P ops l s us K->∃tr s',Trace P ops l s tr s'/\K s'
 | [],s,us,h=>⟨[],s,.nil s,h⟩
 | o::rest,s,us,h=>by
   rw[uE]at h;split at h
   ·split at h
    ·rename_i s' c kK jY;obtain⟨tr,s1,h1,h2⟩:=qN rest s' kK h.2;have hc:=h.1;unfold xU at jY;split at jY
     ·grind
     ·split at jY
      ·rename_i hg;cases jY;exact⟨_,_,.cons (yZ (lf hg) (wC.FN hc)) h1,h2⟩
      ·rename_i g hg;cases jY;exact⟨_,_,.cons (y7 hg (λhb=>wD.FN (hc hb))) h1,h2⟩
      grind
    grind
   ·split at h
    ·rename_i s' c hq;obtain⟨tr,s1,h1,h2⟩:=qN rest s' us h.2;have hc:=h.1;unfold EM at hq;split at hq
     ·rename_i hg;split at hq
      ·rename_i x c' hx;cases hq;exact⟨_,_,.cons (yZ (lf hg) (.UG (uz hx hc))) h1,h2⟩
      grind
     ·rename_i b hg;split at hq
      ·cases hq
      ·cases hq;refine⟨_,_,.cons (y7 hg (λhb=>?_)) h1,h2⟩;obtain⟨k1,k2⟩:=hc hb;obtain⟨c',h3,h4⟩:=A5 k1;exact⟨_,JI k2,.UG (uz h3 h4)⟩
     grind
    grind
def writes(ops:List Oper)(t:Tmp):Option Nat:=ops.findIdx? λo=>o.dst==some t
def indep(ops:List Oper):Bool:=
 (ops.zipIdx.all λ(o,i)=>
  (match o.dst with|some d=>writes ops d==some i|none=>true) &&
  (o.after.toList.all λe=>!Region.binds .any e||decide (e.on<i)) &&
  ((o.looksAt ops.toArray).all fun t=>match writes ops t with
    | none=>true
    | some j=>if j < i then o.after.toList.any fun e=>Region.binds .any e && e.on==j
      else decide (i<j)&&(match ops[j]? with|some oj=>oj.after.toList.any λe=>Region.binds .any e&&e.on==i|none=>false)))
theorem Trace.len{ops l s s' tr}(h:Trace P ops l s tr s'):tr.length=l.length/\s'.L=s.L:=by
 induction h with
 | nil s=>simp
 | @cons o rest s x l s' h k ih=>
   refine⟨by grind,ih.2.trans ?_⟩;unfold St.put;grind
theorem Trace.at{ops l s s' tr}(h:Trace P ops l s tr s'):∀(i:Nat) si xi,tr[i]?=some (si,xi)->si.L=s.L/\∃o:Oper,l[i]?=some o/\sQ P ops o si xi:=by
 induction h with
 | nil s=>simp
 | @cons o rest s x l s' h k ih=>
   intro i si xi hi;cases i with
   | zero=>
     grind
   | succ i=>
     obtain⟨h1,h2⟩:=ih i si xi hi;refine⟨h1.trans ?_,h2⟩;unfold St.put;grind
theorem C8{t d}(h:t≠d):∀l:List (Nat×V),eX t (vL d l)=eX t l
 | []=>rfl
 | (k,x)::l=>by
   rw[vL,eX];split
   ·rename_i hk;subst hk;rw[if_neg (λe=>h e.symm)];exact C8 h l
   ·rw[eX,C8 h l]
theorem adH{s:St}{o x t}(h:o≠some t):(s.put o x).get t=s.get t:=by
 cases o with
 | none=>rfl
 | some d=>
   have bR:t≠d:=λe=>h (by rw[e])
   simp_all[St.put,St.get,eX,C8]
theorem N3{s:St}{x t}:(s.put (some t) x).get t=x:=by simp[St.put,St.get,eX]
theorem Trace.oZ{ops l s s' tr}(h:Trace P ops l s tr s')(t:Nat):∀i si xi,tr[i]?=some (si,xi)->(∀(j:Nat) o,j<i->l[j]?=some o->o.dst≠some t)->si.get t=s.get t:=by
 induction h with
 | nil s=>simp
 | @cons o rest s x l s' h k ih=>
   intro i si xi hi hn;cases i with
   | zero=>
     grind
   | succ i=>
     rw[ih i si xi hi (λj o' hj ho=>hn (j+1) o' (by omega) (by grind)),adH (hn 0 o (by omega) rfl)]
theorem Trace.EO{ops}{l}{s s'}{tr}(h:Trace P ops l s tr s')(t:Nat):∀i j si xi sj xj (o:Oper),tr[i]?=some (si,xi)→j < i→tr[j]?=some (sj,xj)→l[j]?=some o→o.dst=some t→
  (∀(j':Nat) o',j<j'->j'<i->l[j']?=some o'->o'.dst≠some t)->si.get t=xj:=by
 induction h with
 | nil s=>simp
 | @cons o rest s x l s' h k ih=>
   intro i j si xi sj xj o' hi y8 hj ho hd hn;cases i with
   | zero=>omega
   | succ i=>
     cases j with
     | zero=>
       rw[k.oZ t i si xi hi (λj' o' tA iC=>hn (j'+1) o' (by omega) (by omega) (by grind))];simp_all[N3]
     | succ j=>
       exact ih i j si xi sj xj o' hi (by omega) hj ho hd (λj' lU h1 h2 h3=>hn (j'+1) lU (by omega) (by omega) (by grind))
theorem adI{s:St}{d x p}(h:p∈(s.put d x).fr):(d=some p.1/\x=p.2)\/(p∈s.fr/\d≠some p.1):=by
 cases d with
 | none=>exact .inr ⟨h,by simp⟩
 | some d=>
   simp[St.put]at h;rcases h with rfl|h
   ·simp
   grind[se,Option.some.inj]
theorem Trace.mem{ops l s s' tr}(h:Trace P ops l s tr s'):∀p,p∈s'.fr->(∃(j:Nat) (o:Oper) (sj:St),l[j]?=some o/\o.dst=some p.1/\tr[j]?=some (sj,p.2))\/(p∈s.fr/\∀(j:Nat) o,l[j]?=some o->o.dst≠some p.1):=by
 induction h with
 | nil s=>simp
 | @cons o rest s x l s' h k ih=>
   intro p hp;rcases ih p hp with⟨j,o',sj,h1,h2,h3⟩|⟨h1,h2⟩
   ·exact .inl ⟨j+1,o',sj,by grind,h2,by grind⟩
   ·rcases adI h1 with⟨hd,hx⟩|⟨h3,h4⟩
    ·exact .inl ⟨0,o,s,rfl,hd,by grind⟩
    grind
theorem o8{ops t j}(h:writes ops t=some j):∃o,ops[j]?=some o/\o.dst=some t:=by
 grind[writes,List.findIdx?_eq_some_iff_getElem,List.getElem?_eq_getElem]
theorem na{ops t}(h:writes ops t=none){j:Nat}{o}(hj:ops[j]?=some o):o.dst≠some t:=by
 grind[writes,List.findIdx?_eq_none_iff,List.mem_of_getElem?]
theorem nc{ops}(h:indep ops=true){i}{o}(hi:ops[i]?=some o):
  (∀d,o.dst=some d->writes ops d=some i)/\(∀e∈o.after,Region.binds .any e=true->e.on<i)/\
  ∀t∈o.looksAt ops.toArray,∀j,writes ops t=some j->(j<i/\∃e∈o.after,Region.binds .any e=true/\e.on=j)\/(i<j/\∃oj,ops[j]?=some oj/\∃e∈oj.after,Region.binds .any e=true/\e.on=i):=by
 unfold indep at h;rw[aoP]at h;have hm:(o,i)∈ops.zipIdx:=by
  grind
 have:=h _ hm;simp only[aoM,aoP]at this;obtain⟨⟨h1,h2⟩,h3⟩:=this;refine⟨?_,?_,?_⟩
 ·grind
 ·grind
 ·intro t ht j hj;have:=h3 t ht;rw[hj]at this;simp only at this;split at this
  ·grind
  ·right;simp only[aoM,decide_eq_true_eq]at this;obtain⟨h4,h5⟩:=this;split at h5
   ·rename_i oj fg;rw[aqg]at h5;grind
   grind
structure Mid(fo:FO) (m:Nat->Option Value) (m0:Nat->Option Value) (w0:World) (n:Nat) (l:List Oper) (s:St) (tr:List (St×V)) (listed:Array Bool) (a:Act) (w:World):Prop where
 size:a.tmps.size=n
 defers:a.defers=fo.D
 inv:Inv fo m s.L w
 step:Step w0 (own m0) w (own m)
 C9:listed.size=l.length
 done:∀(j:Nat) (o:Oper) (sj:St) (xj:V) (d:Nat),l[j]?=some o->tr[j]?=some (sj,xj)->o.dst=some d->listed.getD j false=true->aB w (OO fo m) m (a.tmps.getD d undef) xj
 todo:∀t,(∀(j:Nat) (o:Oper),l[j]?=some o->o.dst=some t->listed.getD j false=false)->aB w (OO fo m) m (a.tmps.getD t undef) (s.get t)
 rest:∀p,p∈s.fr->(∀(j:Nat) (o:Oper),l[j]?=some o->o.dst≠some p.1)->aB w (OO fo m) m (a.tmps.getD p.1 undef) p.2
 closed:∀(j:Nat) (o:Oper),l[j]?=some o->listed.getD j false=true->∀e∈o.after,Region.binds .any e=true->listed.getD e.on false=true
theorem qO{listed:Array Bool}{i b c}(h:i<listed.size):listed.getD i b=listed.getD i c:=by grind
theorem wE{R:Exit→Act→World→Prop}{l:List Oper}{s s':St}{tr:List (St×V)}(ht:Trace P l.toArray l s tr s')(cq:indep l=true)(hd:dG n l=true){fo:FO}{m m0:Nat→Option Value}{w0:World}
  (aiB:∀a w,G fo n m s' a w->Step w0 (own m0) w (own m)->R .normal a w)
  (iy:∀p,p∈s.fr->p.1<n):
  ∀(fuel:Nat) (listed:Array Bool) (un:List Nat) (a:Act) (w:World),un.length<=fuel->(∀i,i<l.length->listed.getD i false=false->i∈un)->
   Mid fo m m0 w0 n l s tr listed a w->wpAnyIn (wr fo.r) 0 P .any l.toArray R fuel listed a w:=by
 have N4:∀(i:Nat) (o:Oper) (d:Nat),l[i]?=some o->o.dst=some d->d<n:=by
  intro i o d hi ho;unfold dG at hd;rw[aoP]at hd;have:=hd o (aoO hi);rw[ho]at this;simpa using this
 obtain⟨hlen,hL⟩:=ht.len;have H8:∀i:Nat,i<l.length->∃(si:St) (xi:V),tr[i]?=some (si,xi):=by
  intro i hi;exact⟨_,_,akC (by omega)⟩
 have fin:∀(listed:Array Bool) (a:Act) (w:World),(∀i,i<l.length->listed.getD i false=true)->Mid fo m m0 w0 n l s tr listed a w->R .normal a w:=by
  intro listed a w bV M;refine aiB a w ⟨M.size,?_,by rw[hL];exact M.inv,M.defers⟩ M.step;intro t x hx;rcases ht.mem (t,x) hx with⟨j,o,sj,h1,h2,h3⟩|⟨h1,h2⟩
  ·exact⟨N4 j o t h1 h2,M.done j o sj x t h1 h3 h2 (bV j (aoL.1 h1).1)⟩
  ·exact⟨iy _ h1,M.rest _ h1 h2⟩
 have Da:∀(listed:Array Bool),listed.size=l.length→(∀(j:Nat) (o:Oper),l[j]?=some o→listed.getD j false=true→∀e∈o.after,Region.binds .any e=true→listed.getD e.on false=true)→
   Region.ready .any l.toArray listed=[]->∀i,i<l.length->listed.getD i false=true:=by
  intro listed dZ _ hr i
  induction i using Nat.strongRecOn with
  | _ i ih=>
    intro hi;cases hb:listed.getD i false with
    | true=>rfl
    | false=>
      exfalso;have fp:i∈Region.ready .any l.toArray listed:=by
       refine mem_ready.2 ⟨by rw[qO (c:=false) (by omega)];exact hb,l[i],by simp[hi],λe he iE=>?_⟩;have:=(nc cq (akC hi)).2.1 e he iE;exact ih e.on this (by omega)
      rw[hr]at fp;cases fp
 intro fuel
 induction fuel with
 | zero=>
   intro listed un a w hun bV M;have h0:∀i,i<l.length->listed.getD i false=true:=by
    intro i hi;cases hb:listed.getD i false with
    | true=>rfl
    | false=>have h9:=bV i hi hb;have h8:un=[]:=apI (by omega);rw[h8]at h9;cases h9
   refine⟨?_,fin listed a w h0 M⟩;rw[apV];intro j hj;obtain⟨h1,o,h2,_⟩:=mem_ready.1 hj;have H3:j<l.length:=by have:=(aoY.1 h2).1;simpa using this
   rw[qO (c:=false) (by have:=M.C9;omega)]at h1;rw[h0 j H3]at h1;cases h1
 | succ fuel ih=>
   intro listed un a w hun bV M;refine⟨λhr=>fin listed a w (Da listed M.C9 M.closed hr) M,?_⟩;intro i hi;obtain⟨h1,o,h2,h3⟩:=mem_ready.1 hi;have kx:i<l.length:=by have:=(aoY.1 h2).1;simpa using this
   have sR:l[i]?=some o:=by simpa using h2
   rw[qO (c:=false) (by have:=M.C9;omega)]at h1;obtain⟨si,xi,ru⟩:=H8 i kx;obtain⟨hsL,o',iC,hy⟩:=ht.at i si xi ru;rw[sR]at iC;obtain rfl:=aoK iC;obtain⟨i1,i2,i3⟩:=nc cq sR;have uniq:∀(t:Nat) (j:Nat) (lU:Oper),l[j]?=some lU->lU.dst=some t->writes l t=some j:=λt j lU hj hd=>(nc cq hj).1 t hd
   have N5:∀t,t∈o.looksAt l.toArray->aB w (OO fo m) m (a.tmps.getD t undef) (si.get t):=by
    intro t An;cases hw:writes l t with
    | none=>
      rw[ht.oZ t i si xi ru (λj lU _ hj=>na hw hj)];exact M.todo t (λj lU hj hd=>(na hw hj hd).elim)
    | some j=>
      obtain⟨oj,fg,lI⟩:=o8 hw;obtain⟨sj,xj,lJ⟩:=H8 j (aoL.1 fg).1;rcases i3 t An j hw with⟨aw,e,he,hb,ij⟩|⟨aw,oj',Db,e,he,hb,ij⟩
      ·rw[ht.EO t i j si xi sj xj oj ru aw lJ fg lI (λj' lU y9 _ tA uu=>by
        have:=uniq t j' lU tA uu;rw[hw]at this;have:=aoK this;omega)]
       exact M.done j oj sj xj t fg lJ lI (by rw[<-ij];exact h3 e he hb)
      ·rw[ht.oZ t i si xi ru (λj' lU tA aiC uu=>by
        have:=uniq t j' lU aiC uu;rw[hw]at this;have:=aoK this;omega)]
       refine M.todo t (λj' lU tA uu=>?_);have:=uniq t j' lU tA uu;rw[hw]at this;obtain rfl:=aoK this;cases dm:listed.getD j false with
       | false=>rfl
       | true=>
         rw[fg]at Db;obtain rfl:=aoK Db;have:=M.closed j oj fg dm e he hb;rw[ij,h1]at this;cases this
   have bw:=hy fo m a w (by rw[hsL];exact M.inv) N5 (wpAnyIn (wr fo.r) 0 P .any l.toArray R fuel (listed.setIfInBounds i true)) R (λv w' hr cn st=>by
    rw[hsL]at cn;have cQ:bK w (OO fo m) w':=⟨st.size,λb hb ho=>st.block b hb (λh=>ho (.inl h))⟩
    have mono:∀{v:Value} {x:V},aB w (OO fo m) m v x->aB w' (OO fo m) m v x:=λh=>h.mono cQ (λ_ _ h=>h) (λ_ _ h=>h)
    have bR:∀t,o.dst≠some t->(a.put o.dst v).tmps.getD t undef=a.tmps.getD t undef:=by
     intro t hn;cases vA:o.dst with
     | none=>rfl
     | some d=>
       have:d≠t:=λe=>hn (by rw[vA,e])
       simp[Act.put,apR this]
    have nd:∀j,(listed.setIfInBounds i true).getD j false=true↔(j=i\/listed.getD j false=true):=by
     intro j;by_cases hj:j=i
     ·subst hj;have hjs:j<listed.size:=by have:=M.C9;omega
      simp[Array.getD,hjs]
     ·have:¬i=j:=λe=>hj e.symm
      simp only[apM,apR this,hj,false_or]
    refine ih (listed.setIfInBounds i true) (un.erase i) (a.put o.dst v) w' ?_ ?_ ?_
    ·have fp:=bV i kx h1;rw[aqY fp];omega
    ·intro j hj hb;have N6:¬((listed.setIfInBounds i true).getD j false=true):=by rw[hb];simp
     rw[nd]at N6;have y8:j≠i:=λe=>N6 (.inl e)
     have vy:listed.getD j false=false:=by
      cases hx:listed.getD j false with
      | false=>rfl
      | true=>exact(N6 (.inr hx)).elim
     exact(List.mem_erase_of_ne y8).2 (bV j hj vy)
    ·refine⟨?_,?_,cn,M.step.trans st,by simpa using M.C9,?_,?_,?_,?_⟩
     ·cases vA:o.dst<;>simp[Act.put,M.size]
     ·cases vA:o.dst<;>simp[Act.put,M.defers]
     ·intro j oj sj xj d fg lJ lI hb;by_cases y8:j=i
      ·subst y8;rw[sR]at fg;obtain rfl:=aoK fg;rw[ru]at lJ;obtain⟨rfl,rfl⟩:=Prod.mk.inj (aoK lJ);have KT:=N4 j o d sR lI;have:(a.put o.dst v).tmps.getD d undef=v:=by
        have dZ:=M.size;rw[lI];simp[Act.put,Array.getD,dZ,KT]
       rw[this];exact hr
      ·have gv:o.dst≠some d:=by
        intro e;have q1:=uniq d i o sR e;have q2:=uniq d j oj fg lI;rw[q1]at q2;exact y8 (aoK q2).symm
       rw[bR d gv];exact mono (M.done j oj sj xj d fg lJ lI (((nd j).1 hb).resolve_left y8))
     ·intro t H9;have gv:o.dst≠some t:=by
       intro e;have:=H9 i o sR e;have h4:=(nd i).2 (.inl rfl);rw[this]at h4;cases h4
      rw[bR t gv];refine mono (M.todo t (λj oj fg lI=>?_));have:=H9 j oj fg lI;cases hx:listed.getD j false with
      | false=>rfl
      | true=>have h4:=(nd j).2 (.inr hx);rw[this]at h4;cases h4
     ·intro p hp Fv;rw[bR p.1 (Fv i o sR)];exact mono (M.rest p hp Fv)
     ·intro j oj fg hb e he iE;rw[nd];rcases(nd j).1 hb with rfl|dm
      ·rw[sR]at fg;obtain rfl:=aoK fg;exact .inr (h3 e he iE)
      ·exact .inr (M.closed j oj fg dm e he iE))
   unfold wpOpIn;rw[h2];simp only;split
   ·rename_i hw;rw[if_pos hw]at bw;exact bw
   ·rename_i hw;rw[if_neg hw]at bw;exact⟨λ_ _=>trivial,bw⟩
theorem zc{fo:FO}{m:Nat->Option Value}{l:List Oper}{s:St}{tr:List (St×V)}{a:Act}{w:World}(g:G fo n m s a w)(k:Nat):Mid fo m m w n l s tr (Array.replicate l.toArray.size false) a {w with drawn:=k}:=by
 have st:Step w (own m) {w with drawn:=k} (own m):=⟨rfl,rfl,rfl,aoT _,λ_ _ _=>rfl,λ_ _ h=>h⟩
 have mono:∀{v:Value} {x:V},aB w (OO fo m) m v x->aB {w with drawn:=k} (OO fo m) m v x:=λh=>h.mono st.rq (λ_ _ h=>h) (λ_ _ h=>h)
 refine⟨g.size,g.defers,g.inv.grown (aoT _) (λ_ _=>rfl),st,by simp,?_,λt _=>mono (qI g t),λp hp _=>mono (g.fr p.1 p.2 hp).2,?_⟩
 ·intro j o sj xj d _ _ _ hb;have:(Array.replicate l.toArray.size false).getD j false=false:=by simp[Array.getD]
  rw[this]at hb;cases hb
 ·intro j o _ hb;have:(Array.replicate l.toArray.size false).getD j false=false:=by simp[Array.getD]
  rw[this]at hb;cases hb
theorem av.bT{id:Nat}{l:List Oper}{s:St}(us:List V)(hm:P.follows .mixedOrders=true)(cq:indep l=true)(hd:dG n l=true)(h:uE P l.toArray l s us (Q .normal)):av P n (.region id l.toArray true) s Q:=by
 intro fo m a w _ g;obtain⟨tr,s',ht,hq⟩:=qN l s us h;exact wpIn_region_any hm (wE ht cq hd (λa1 w1 g1 st=> .of m .normal s' hq g1 trivial st) (λp hp=>(g.fr p.1 p.2 hp).1) l.length _ (List.range l.length) a _ (by simp) (λi hi _=>by simpa using hi) (zc g _))
end
attribute [simp] eR uE xU EM fO fv q2 q1 EE wm HC wo HD TT unV TU MF Gr Cy TV EF Ae Ar C4 sh T9 mn ME.val TR Qv aar aas aat H5 u2 kO mA gF JJ C7 sP St.NY NX St.rem JG JH HN CQ T6 EH Jy T4 MH HP T5 GB MG HM NW gU UE UF HI uW putAt EI HQ MJ qJ MK AW Gx
 St.put St.get St.ev EC V.cl V.un V.B7 nK Op.operands Call.operands eH keys aI.jz V.kill V.dU aV.kill St.kill AX.then AX.inBlock KK dG rK ff u3 aaU A6 kj ju M4 V.on V.dE aV.on St.on
 Value.oneCell' callee A8 wC wD oL List.lookup eX vL
@[simp] theorem agS h(l:List D):V.dU h (l.map V.d)=l.map V.d:=Ju h l
@[simp] theorem ae0 h ys:(dd ys).map (V.dU h)=dd ys:=adr h ys
@[simp] theorem aiD ks(l:List D):V.dE ks (l.map V.d)=true:=EN ks l
@[simp] theorem agT ks ys:(dd ys).all (V.dE ks)=true:=agR ks ys
@[simp] theorem ahS ys:(dd ys).length=ys.length:=by simp[dd]
@[simp] theorem ahT xs ys:dd xs++dd ys=dd (xs++ys):=by simp[dd]
@[simp] theorem akL:dd []=[]:=rfl
@[simp] theorem N7 ys(i:Nat):(dd ys)[i]?=ys[i]?.map (·.map V.d):=by simp[dd]
@[simp] theorem aj5 ys i:(dd ys).take i=dd (ys.take i):=by simp[dd]
def aC(l:List Int):List (List D):=l.map λn=> [.v (.int .i64 n)]
@[simp] theorem agm l:(aC l).length=l.length:=by simp[aC]
@[simp] theorem aaV l(i:Nat):(aC l)[i]?=l[i]?.map λn=> [.v (.int .i64 n)]:=by simp[aC]
@[simp] theorem agn a b:aC a++aC b=aC (a++b):=by simp[aC]
@[simp] theorem ago l i:cellAt (dd (aC l)) i 0 [V.d (D.v (.int .i64 0))]=V.d (D.v (.int .i64 (l[i]?.getD 0))):=by
 unfold cellAt;rw[N7,aaV];cases l[i]?<;>rfl
def aiE(l:List Bool):List (List D):=l.map λb=> [.v (.bool b)]
@[simp] theorem aiF:aiE []=[]:=rfl
def iO(l:List ByteArray):List (List D):=l.map λs=> [.v (.string s)]
@[simp] theorem agp l:(iO l).length=l.length:=by simp[iO]
@[simp] theorem aiG l(i:Nat):(iO l)[i]?=l[i]?.map λb=> [.v (.string b)]:=by simp[iO]
@[simp] theorem aiH:iO []=[]:=rfl
@[simp] theorem ahU l v:dd (iO l)++ [[.d (.v (.string v))]]=dd (iO (l++ [v])):=by
 simp[dd,iO]
def pI{α:Type}(g:List α->List (List D))(l:List (List α)):List (List D):=l.map λy=> [.sl (g y)]
section
variable {α : Type} {g : List α -> List (List D)}
@[simp] theorem ae1 l:(pI g l).length=l.length:=by simp[pI]
@[simp] theorem ahV l(i:Nat):(pI g l)[i]?=l[i]?.map λy=> [.sl (g y)]:=by simp[pI]
@[simp] theorem ahW:pI g []=[]:=rfl
end
@[simp] theorem aiI:aC []=[]:=rfl
@[simp] theorem ahX l i:(aC l).drop i=aC (l.drop i):=by simp[aC]
@[simp] theorem ahY l i:(aC l).take i=aC (l.take i):=by simp[aC]
@[simp] theorem aj6(a b:Int):(a==b)=decide (a=b):=rfl
theorem N8(a b:ByteArray):a.toList=b.toList↔a=b:=by
 constructor
 ·intro h;rw[ByteArray.toList_eq,ByteArray.toList_eq]at h;cases a;cases b;simpa using h
 ·intro h;rw[h]
theorem bytes_beq(a b:ByteArray):(a.toList==b.toList)=decide (a=b):=by
 rw[aqk];simp[N8]
theorem aS{n}:aN .i64 n↔ -9223372036854775808<=n/\n<=9223372036854775807:=by
 rfl
theorem iW{x:Int}(h: -9223372036854775808<=x/\x<=9223372036854775807:=by omega):aN .i64 x:=aS.2 h
end Go.Ab
namespace Go.Ab
def tB:List V->Option (List D)
 | []=>some []
 | .d x::l=>match tB l with
   | some r=>some (x::r)
   | none=>none
 | _::_=>none
def A9:List (List V)->Option (List (List D))
 | []=>some []
 | x::l=>match tB x,A9 l with
   | some y,some r=>some (y::r)
   | _,_=>none
@[simp] theorem aj7 l:tB (l.map V.d)=some l:=by
 induction l with
 | nil=>rfl
 | cons x l ih=>simp[tB,ih]
@[simp] theorem adJ ys:A9 (dd ys)=some ys:=by
 induction ys with
 | nil=>rfl
 | cons x l ih=>simp[dd,A9];rw[show List.map (λx=>List.map V.d x) l=dd l from rfl,ih]
theorem Yh:∀{l r},tB l=some r->l=r.map V.d
 | [],r,h=>by simp_all[tB]
 | .d x::l,r,h=>by
   rw[tB]at h;split at h
   ·rename_i r' hr;simp at h;subst h;rw[Yh hr];rfl
   ·cases h
 | .bp _ _::_,_,h=>by grind[tB]
 | .rv _::_,_,h=>by grind[tB]
 | .ep _ _ _ _::_,_,h=>by grind[tB]
 | .rp _::_,_,h=>by grind[tB]
 | .sv _ _::_,_,h=>by grind[tB]
 | .fu _ _ _::_,_,h=>by grind[tB]
 | .agg _::_,_,h=>by grind[tB]
 | .bA _::_,_,h=>by grind[tB]
 | .gd _ _::_,_,h=>by grind[tB]
 | .any::_,_,h=>by grind[tB]
 | .kn _::_,_,h=>by grind[tB]
theorem JK:∀{l r},A9 l=some r->l=dd r
 | [],r,h=>by simp[A9]at h;subst h;rfl
 | x::l,r,h=>by
   rw[A9]at h;split at h
   ·rename_i y r' hy hr;simp at h;subst h;rw[Yh hy,JK hr];rfl
   ·cases h
def Ia(L:aI):V->Option D
 | .d (.v (.slice none 0 0))=>some (.sl [])
 | .d x=>some x
 | .rv h=>match L.lookup h with
   | some (.row _ _ xs)=>match A9 xs with
     | some ys=>some (.sl ys)
     | none=>none
   | _=>none
 | _=>none
def xW(L:aI):List V->Option (List D)
 | []=>some []
 | x::l=>match Ia L x,xW L l with
   | some y,some r=>some (y::r)
   | _,_=>none
theorem Ib{L}:∀{l r},xW L l=some r->l.length=r.length/\∀(j:Nat) d,r[j]?=some d->∃y,l[j]?=some y/\Ia L y=some d
 | [],r,h=>by simp_all[xW]
 | x::l,r,h=>by
   rw[xW]at h;split at h
   ·rename_i y r' hy hr;obtain⟨h1,h2⟩:=Ib hr;grind
   grind
mutual
def V.fz(L:aI):V->V
 | .d (.v (.slice none 0 0))=> .d (.sl [])
 | .rv h=>match L.lookup h with
   | some (.row _ _ xs)=>match A9 xs with
     | some ys=> .d (.sl ys)
     | none=> .any
   | _=> .any
 | .bp h off=>match L.lookup h with
   | some (.box _ _ cs)=>match xW L cs with
     | some ds=> .rp (ds.drop off)
     | none=> .any
   | _=> .any
 | .sv _ _=> .any
 | .fu fn f c=> .fu fn (V.nM L f) (V.nM L c)
 | .agg cs=> .agg (V.nM L cs)
 | .bA cs=> .bA (V.nM L cs)
 | x=>x
def V.nM(L:aI):List V->List V
 | []=> []
 | x::l=>V.fz L x::V.nM L l
end
section
variable {P : Program} {w w' : World} {fo : FO} {m m' : Nat -> Option Value} {L : aI} {n : Nat} {s : St} {a : Act} {Q : AX -> St -> Prop}
theorem uF{L}:∀l (j:Nat),(V.nM L l)[j]?=l[j]?.map (V.fz L)
 | [],j=>by rfl
 | x::l,0=>by rfl
 | x::l,j+1=>by simp[V.nM,uF]
theorem uG{L}:∀l,(V.nM L l).length=l.length
 | []=>by rfl
 | x::l=>by simp[V.nM,uG l]
theorem wX{O}:eW w O (.slice none 0 0) (.sl []):= .sl none 0 0 [] 0 0 0 (λ_ _=>undef) rfl (by omega) (by simp) (by omega) (by simp) (by omega) (by simp)
theorem N9(hi:Inv fo m L w){h k ty ys}(hl:L.lookup h=some (.row ty k (dd ys))){v}(hv:m h=some v):eW w fo v (.sl ys):=by
 obtain⟨x,hx,hh⟩:=hi.holds h _ (dK hl);rw[hv]at hx;obtain rfl:=aoK hx;rcases hh with⟨rfl,hy⟩|⟨b,off,cap,cur,rfl,hb,h1,h2,h3,h4,h5,h6⟩
 ·simp_all[dd,wX]
 ·have hlen:(dd ys).length=ys.length:=by simp[dd]
  rw[hlen]at h1⊢;have jS:∀(i:Nat) (x:List D),ys[i]?=some x->(dd ys)[i]?=some (x.map V.d):=by
   simp_all[dd]
  have Ic:∀(i:Nat) (x:List D),ys[i]?=some x->x.length=k:=by
   grind
  have iE:∀i j,i<ys.length->j<k->off+i *k+j<cur.size:=by
   intro i j hi hj;have:(i+1) *k<=cap *k:=ao4 _ (by omega);grind
  refine .sl (some ⟨b,off,none⟩) ys.length cap ys k b off (λi j=>cur.getD (off+i *k+j) undef) rfl h1 h2 (λ_=>⟨rfl,hi.others h _ b hv rfl,(aoY.1 hb).1⟩) Ic ?_ ?_
  ·simp_all[World.cell?,Array.getD]
  ·intro i j x y hx hy;have hj:j<k:=by grind
   have kx:=(aoL.1 hx).1;have aw:=iE i j kx hj;have:=h6 i j _ (.d y) (cur[off+i *k+j]) (jS i x hx) (by grind) (ao7 aw);have h7:=this.kR;have e:cur.getD (off+i *k+j) undef=cur[off+i *k+j]:=by simp_all
   rw[e];exact h7.mono (bK.refl w _) (λb _ hb=> .inr hb)
theorem Yi(hi:Inv fo m L w){v y d}(h:aB w (OO fo m) m v y)(hd:Ia L y=some d):eW w fo v d:=by
 unfold Ia at hd;split at hd
 ·have:=h.cy;grind[Option.some.injEq,wX]
 ·simp at hd;subst hd;exact h.kR.mono (bK.refl w _) (λb _ hb=> .inr hb)
 ·split at hd
  ·rename_i ty k xs hl;split at hd
   ·rename_i ys vu;rw[JK vu]at hl;cases h with
    | rv _ _ e _=>grind[N9]
   grind
  grind
 grind
theorem aaW(hi:Inv fo m L w){h off b0}{ty}{cs}{ds}(hl:L.lookup h=some (.box b0 ty cs))(hd:xW L cs=some ds){b}(hv:m h=some (.pointer (some ⟨b,0,none⟩))):
  aB w fo fP (.pointer (some ⟨b,off,none⟩)) (.rp (ds.drop off)):=by
 obtain⟨x,hx,bb,_,cur,rfl,hb,hs,h1,h2⟩:=hi.holds h _ (dK hl);rw[hv]at hx;cases hx;obtain⟨k1,k2⟩:=Ib hd;refine .rp b off _ (λj=>cur.getD (off+j) undef) (hi.others h _ b hv rfl) (aoY.1 hb).1 (λj hj=>?_) (λj y hy=>?_)
 ·have aw:off+j<cur.size:=by grind
  simp_all[World.cell?]
 ·rw[apN]at hy;obtain⟨z,hz,hzd⟩:=k2 _ _ hy;have aw:off+j<cur.size:=by grind
  have:=Yi hi (h2 (off+j) _ z (ao7 aw) hz) hzd;simpa[Array.getD,aw]using this
theorem Oa(hi:Inv fo m L w){v y}(h:aB w (OO fo m) m v y):(y.fz L).on []=true->aB w fo fP v (y.fz L):=by
 have hD:∀{x:Value} {d:D},eW w (OO fo m) x d->eW w fo x d:=λh=>h.mono (bK.refl w _) (λb _ hb=> .inr hb)
 induction h with
 | d x y h=>
   intro _;unfold V.fz;split
   ·rename_i heq;cases heq;cases h;exact .d _ _ wX
   ·grind
   ·grind
   ·grind
   ·grind
   ·grind
   ·grind
   ·exact .d _ _ (hD h)
 | bp h off b e=>
   intro _;simp only[V.fz];split
   ·rename_i b0 ty cs hl;split
    ·grind[aaW]
    ·exact .any _
   ·exact .any _
 | rv h x e e1=>
   intro _;simp only[V.fz];split
   ·rename_i ty k xs hl;split
    ·rename_i ys vu;rw[JK vu]at hl;exact .d _ _ (N9 hi hl e)
    ·exact .any _
   ·exact .any _
 | ep h k i j b o n c e=>simp[V.fz,V.on]
 | rp b off cs f hb aw hc hr=>intro _;simp only[V.fz];exact .rp b off cs f (λhf=>hb (.inr hf)) aw hc (λj y hy=>hD (hr j y hy))
 | sv h n b cap e hc hx=>intro _;simp only[V.fz];exact .any _
 | fu fn first ei cf cc s1 s2 h1 h2 Fs Kv=>
   intro ho;simp only[V.fz,V.on,aoM]at ho⊢;refine .fu fn first ei _ _ (by simp_all[uG]) (by simp_all[uG]) ?_ ?_
   ·intro j x y hx hy;have Ob:=fQ ho.1 y (aoO hy);rw[uF]at hy;grind
   ·intro j x y hx hy;have Ob:=fQ ho.2 y (aoO hy);rw[uF]at hy;grind
 | agg vs cs hs h1 h ih=>
   intro ho;refine .agg vs _ (by simp_all[uG]) h1 ?_;intro j x y hx hy;have Ob:=fQ ho y (aoO hy);rw[uF]at hy;grind
 | bA vs cs hs h ih=>
   intro ho;refine .bA vs _ (by simp_all[uG]) ?_;intro j x y hx hy;have Ob:=fQ ho y (aoO hy);rw[uF]at hy;grind
 | gt x y h ih=>
   intro ho;simp only[V.fz,V.on]at ho⊢;exact(aB.on (ks:=[]) (m':=fP) (by simp) (.gt x y h) (by simp_all[V.on])).mono (bK.refl w _) (λb _ hb=> .inr hb) (λ_ _ e=>e)
 | gf y=>intro _;simp only[V.fz];exact .gf y
 | kn x Q h=>intro _;simp only[V.fz];exact .kn x Q h
 | any x=>intro _;simp only[V.fz];exact .any x
theorem aE.data{f args L x}(h:aE P f args L (λr L'=>∃y,r= .ret y/\y.fz L'=x))(hx:x.on []=true):aE P f args L (λr L'=>r= .ret x/\L'=[]):=by
 intro fo m w xs hi hr;refine(h fo m w xs hi hr).mono ?_;rintro e w' ⟨m1,r,L1,⟨y,rfl,rfl⟩,he,cn,st⟩;cases e with
 | returned v=>
   refine⟨fP,.ret (y.fz L1),[],⟨rfl,rfl⟩,?_,cn.none_ (λb hb=> .inr hb),⟨st.os,st.tape,st.output,st.size,st.block,λb _ hb=>(gH b hb).elim⟩⟩;exact(Oa cn he hx).mono (bK.refl w' _) (λb _ hb=>hb.elim (λh=>(gH b h).elim) id) (λ_ _ e=>e)
 | panicked ch=>simp_all[Ends]
 | outgrown=>simp_all[Ends]
mutual
def V.nN:V->Bool
 | .d (.v _)=>true
 | .agg cs=>V.EP cs
 | .bA cs=>V.EP cs
 | _=>false
def V.EP:List V->Bool
 | []=>true
 | x::l=>V.nN x&&V.EP l
end
theorem Dc:∀{l},V.EP l=true->∀x∈l,V.nN x=true
 | [],_,x,h=>by cases h
 | y::l,h,x,hx=>by
   simp[V.EP]at h;rcases ao0.1 hx with rfl|hx
   ·grind
   ·exact Dc h.2 x hx
theorem Od{O O' v y}(h:aB w O m v y):y.nN=true->aB w' O' m' v y:=by
 induction h with
 | d x y h=>
   intro hs;cases y with
   | v u=>cases h with|v _ h1=>exact .d _ _ (.v _ h1)
   | sl xs=>grind[V.nN]
   | uj t ag cs=>grind[V.nN]
 | bp h off b e=>simp[V.nN]
 | rv h x e e1=>simp[V.nN]
 | ep h k i j b o n c e=>simp[V.nN]
 | rp b off cs f hb aw hc hr=>simp[V.nN]
 | sv h n b cap e hc hx=>simp[V.nN]
 | fu fn first ei cf cc s1 s2 h1 h2 Fs Kv=>simp[V.nN]
 | agg vs cs hs h1 h ih=>
   intro hsc;exact .agg vs cs hs h1 (λj x y hx hy=>ih j x y hx hy (Dc hsc y (aoO hy)))
 | bA vs cs hs h ih=>
   intro hsc;exact .bA vs cs hs (λj x y hx hy=>ih j x y hx hy (Dc hsc y (aoO hy)))
 | gt x y h ih=>simp[V.nN]
 | gf y=>simp[V.nN]
 | kn x Q h=>simp[V.nN]
 | any x=>simp[V.nN]
theorem qd.aiJ{o}{c}{dt}{f}{args}{x}(aD:o.op= .call c)(hc:callee dt c=some (f,args))(he:enters P f=true)(ho:V.dE [] (V.nM L args)=true)(hx:x.nN=true)
  (h:aE P f (V.nM L args) [] (λr _=>r= .ret x)):qd P o dt L x:=by
 intro fo m ρ w hi hr;obtain⟨xs,h1,h2⟩:=oY aD hc he hr;refine .inr ⟨f,xs,h1,?_⟩;have fD:ir w (OO fo fP) fP xs (V.nM L args):=by
  refine⟨by rw[uG];exact h2.1,λj v y hv hy=>?_⟩;have Ob:=fQ ho y (aoO hy);rw[uF]at hy;obtain⟨z,hz,rfl⟩:=aoJ.1 hy;exact(Oa hi (h2.2 j v z hv hz) Ob).mono (bK.refl w _) (λb _ hb=>hb.elim (λh=>(gH b h).elim) id) (λ_ _ e=>e)
 refine(h fo fP w xs (hi.none_ λb hb=> .inr hb) fD).mono ?_;rintro e w' ⟨m1,r,L',rfl,lG,cn,st⟩;cases e with
 | returned v=>
   exact⟨v,rfl,Od lG hx,hi.grown st.size (λb hb=>st.block b hb (gH b)),⟨st.os,st.tape,st.output,st.size,λb hb _=>st.block b hb (gH b),λb hb h=>h⟩⟩
 | panicked ch=>simp_all[Ends]
 | outgrown=>simp_all[Ends]
theorem frame{L L1 L2:aI}{fo:FO}{m:Nat→Option Value}{w:World}(hi:Inv fo m L w)(hL:L.Perm (L1++L2))(ij:L1.all (fun p=>aV.on (keys L1) p.2)=true)
  (iS:∀p∈L2,aV.on (keys L2++(L1.filterMap λp=>match p.2 with|.box (_+1) _ _=>some p.1|_=>none)) p.2=true):
  ∃(gV:FO) (m1:Nat->Option Value),(∀b,OO gV m1 b↔OO fo m b)/\(∀h x,h∈keys L1->m h=some x->m1 h=some x)/\Inv gV m1 L1 w/\
   ∀(w':World) (uv:Nat->Option Value) (bq:aI),Inv gV uv bq w'->Step w (own m1) w' (own uv)->(∀k∈keys bq,k∉keys L2)->(∀k b ty cs,(k,aV.box (b+1) ty cs)∈L1->∃lY jA,(k,aV.box (b+1) lY jA)∈bq)->
    ∃mm:Nat->Option Value,Inv fo mm (bq++L2) w'/\Step w (own m) w' (own mm)/\(∀h y,uv h=some y->mm h=some y)/\(∀b,OO fo mm b↔OO gV uv b)/\
     (∀h y,h∈keys L2++(L1.filterMap λp=>match p.2 with|.box (_+1) _ _=>some p.1|_=>none)->m h=some y->mm h=some y)/\bK w (OO fo m) w'/\(∀b,b<w.heap.size->OO fo mm b->OO fo m b):=by
 classical
 have pA:∀x,x∈keys L↔x∈keys L1\/x∈keys L2:=by
  intro x;have:(keys L).Perm (keys (L1++L2)):=hL.map _;rw[this.mem_iff];simp[keys]
 have gv:(keys L1).Nodup/\(keys L2).Nodup/\∀x,x∈keys L1->x∉keys L2:=by
  have hp:(keys L).Perm (keys L1++keys L2):=by simpa[keys]using hL.map (·.1)
  have:=hp.nodup_iff.1 hi.nodup;rw[aqd]at this;exact⟨this.1,this.2.1,λx h1 h2=>this.2.2 x h1 x h2 rfl⟩
 let m1:Nat->Option Value:=λh=>if h∈keys L1 then m h else none
 let m2:Nat->Option Value:=λh=>if h∈keys L2 then m h else none
 have lZ:∀h x,m1 h=some x->m h=some x/\h∈keys L1:=by
  intro h x hx;by_cases hh:h∈keys L1
  ·simp only[m1,if_pos hh]at hx;exact⟨hx,hh⟩
  ·simp only[m1,if_neg hh]at hx;cases hx
 have s9:∀h x,m2 h=some x->m h=some x/\h∈keys L2:=by
  intro h x hx;by_cases hh:h∈keys L2
  ·simp only[m2,if_pos hh]at hx;exact⟨hx,hh⟩
  ·simp only[m2,if_neg hh]at hx;cases hx
 have ot:∀h x,h∈keys L1->m h=some x->m1 h=some x:=λh x hh hx=>by simp only[m1,if_pos hh];exact hx
 have aaX:∀h x,h∈keys L2->m h=some x->m2 h=some x:=λh x hh hx=>by simp only[m2,if_pos hh];exact hx
 let gV:FO:=λb=>fo b\/own m2 b
 have eZ:∀b,own m b↔own m1 b\/own m2 b:=by
  intro b;constructor
  ·rintro⟨h,x,hx,hb⟩;rcases(pA h).1 (hi.fI h x hx)with hh|hh
   ·exact .inl ⟨h,x,ot h x hh hx,hb⟩
   ·exact .inr ⟨h,x,aaX h x hh hx,hb⟩
  ·rintro(⟨h,x,hx,hb⟩|⟨h,x,hx,hb⟩)
   ·exact⟨h,x,(lZ h x hx).1,hb⟩
   ·exact⟨h,x,(s9 h x hx).1,hb⟩
 have oQ:∀b,OO gV m1 b↔OO fo m b:=by
  intro b;unfold OO;rw[eZ b];constructor
  ·rintro(h|h|h)
   ·exact .inl (.inl h)
   ·exact .inr h
   ·exact .inl (.inr h)
  ·rintro((h|h)|h)
   ·exact .inl h
   ·exact .inr (.inr h)
   ·exact .inr (.inl h)
 have qe:Inv gV m1 L1 w:=by
  refine⟨gv.1,λh x hx=>(lZ h x hx).2,?_,?_,?_,?_,hi.ef.mono (bK.refl w _) (λb _ hb=>(oQ b).1 hb)⟩
  ·intro h h' x x' b hx cG hb dm;exact hi.apart h h' x x' b (lZ h x hx).1 (lZ h' x' cG).1 hb dm
  ·rintro h x b hx hb (hf|⟨h',x',cG,dm⟩)
   ·exact hi.others h x b (lZ h x hx).1 hb hf
   ·have:=hi.apart h h' x x' b (lZ h x hx).1 (s9 h' x' cG).1 hb dm;subst this;exact gv.2.2 h (lZ h x hx).2 (s9 h x' cG).2
  ·rintro b (hf|⟨h',x',cG,dm⟩)
   ·exact hi.ej b hf
   ·exact hi.lt (s9 h' x' cG).1 dm
  ·intro h r hr;obtain⟨x,hx,hh⟩:=hi.holds h r (hL.mem_iff.2 (apf _ hr));have hk:h∈keys L1:=aoQ.2 ⟨_,hr,rfl⟩;rw[aoP]at ij;exact⟨x,ot h x hk hx,(hh.on ot (ij _ hr)).mono (λ_ _=>rfl) (bK.refl w _) (λb _ hb=>(oQ b).1 hb) (λ_ _ e=>e)⟩
 refine⟨gV,m1,oQ,ot,qe,?_⟩;intro w' uv bq cn fK Dd GK
 let mm:Nat->Option Value:=λh=>if h∈keys bq then uv h else m2 h
 have vP:∀h y,uv h=some y->mm h=some y:=λh y hy=>by simp only[mm,if_pos (cn.fI h y hy)];exact hy
 have aaY:∀h y,m2 h=some y->mm h=some y:=by
  intro h y hy;have:h∉keys bq:=λhh=>Dd h hh (s9 h y hy).2
  simp only[mm,if_neg this];exact hy
 have Oe:∀h y,mm h=some y->(uv h=some y/\h∈keys bq)\/(m2 h=some y/\h∉keys bq):=by
  intro h y hy;by_cases hh:h∈keys bq
  ·simp only[mm,if_pos hh]at hy;exact .inl ⟨hy,hh⟩
  ·simp only[mm,if_neg hh]at hy;exact .inr ⟨hy,hh⟩
 have acR:∀b,own mm b↔own uv b\/own m2 b:=by
  intro b;constructor
  ·rintro⟨h,y,hy,hb⟩;rcases Oe h y hy with⟨hy,_⟩|⟨hy,_⟩
   ·exact .inl ⟨h,y,hy,hb⟩
   ·exact .inr ⟨h,y,hy,hb⟩
  ·rintro(⟨h,y,hy,hb⟩|⟨h,y,hy,hb⟩)
   ·exact⟨h,y,vP h y hy,hb⟩
   ·exact⟨h,y,aaY h y hy,hb⟩
 have zO:∀b,OO fo mm b↔OO gV uv b:=by
  intro b;unfold OO;rw[acR b];constructor
  ·rintro((h|h)|h)
   ·exact .inl h
   ·exact .inr (.inr h)
   ·exact .inr (.inl h)
  ·rintro(h|h|h)
   ·exact .inl (.inl h)
   ·exact .inr h
   ·exact .inl (.inr h)
 have sS:∀b,b<w.heap.size->OO fo mm b->OO fo m b:=by
  intro b hb iC;rcases(zO b).1 iC with h|h|h
  ·exact .inl ((eZ b).2 (.inl (fK.owned b hb h)))
  ·exact .inr h
  ·exact .inl ((eZ b).2 (.inr h))
 have cQ:bK w (OO fo m) w':=⟨fK.size,λb hb iT=>fK.block b hb (λh=>iT (.inl ((eZ b).2 (.inl h))))⟩
 have Ba:∀h y,h∈keys L2++(L1.filterMap λp=>match p.2 with|.box (_+1) _ _=>some p.1|_=>none)->m h=some y->mm h=some y:=by
  intro h y hh hy;rcases ao1.1 hh with hh|hh
  ·exact aaY h y (aaX h y hh hy)
  ·obtain⟨p,hp,pJ⟩:=apY.1 hh;obtain⟨q,r⟩:=p;cases r with
   | row ty k xs=>simp at pJ
   | env A=>simp at pJ
   | mp es=>simp at pJ
   | box b0 ty cs=>
     cases b0 with
     | zero=>simp at pJ
     | succ b=>
     simp only[anc]at pJ;subst pJ;obtain⟨lY,jA,dm⟩:=GK q b ty cs hp;obtain⟨z,hz,De⟩:=cn.holds q _ dm;obtain⟨bb1,C2,anj,e1,_⟩:=De;obtain⟨u,hu,huh⟩:=qe.holds q _ hp;obtain⟨bb2,vy,cur,e2,_⟩:=huh;obtain rfl:bb1=b:=by omega
     obtain rfl:bb2=bb1:=by omega
     have:=(lZ q u hu).1;rw[hy]at this;obtain rfl:=aoK this;rw[e2,<-e1];exact vP q z hz
 have hinv:Inv fo mm (bq++L2) w':=by
  refine⟨?_,?_,?_,?_,λb hf=>ao3 (hi.ej b hf) fK.size,?_,hi.ef.mono cQ sS⟩
  ·show(keys (bq++L2)).Nodup;rw[show keys (bq++L2)=keys bq++keys L2 by simp[keys],aqd];exact⟨cn.nodup,gv.2.1,λx h1 y h2 e=>Dd x h1 (by rw[e];exact h2)⟩
  ·intro h y hy;show h∈keys (bq++L2);rw[show keys (bq++L2)=keys bq++keys L2 by simp[keys]];rcases Oe h y hy with⟨_,hh⟩|⟨hy,_⟩
   ·exact apf _ hh
   ·exact apn _ (s9 h y hy).2
  ·intro h h' y y' b hy nq hb dm;rcases Oe h y hy with⟨hy,_⟩|⟨hy,_⟩<;>rcases Oe h' y' nq with⟨nq,_⟩|⟨nq,_⟩
   ·exact cn.apart h h' y y' b hy nq hb dm
   ·exact(cn.others h y b hy hb (.inr ⟨h',y',nq,dm⟩)).elim
   ·exact(cn.others h' y' b nq dm (.inr ⟨h,y,hy,hb⟩)).elim
   ·exact hi.apart h h' y y' b (s9 h y hy).1 (s9 h' y' nq).1 hb dm
  ·intro h y b hy hb hf;rcases Oe h y hy with⟨hy,_⟩|⟨hy,_⟩
   ·exact cn.others h y b hy hb (.inl hf)
   ·exact hi.others h y b (s9 h y hy).1 hb hf
  ·intro h r hr;rcases ao1.1 hr with hr|hr
   ·obtain⟨z,hz,De⟩:=cn.holds h r hr;exact⟨z,vP h z hz,De.mono (λ_ _=>rfl) (bK.refl w' _) (λb _ hb=>(zO b).1 hb) vP⟩
   ·obtain⟨z,hz,De⟩:=hi.holds h r (hL.mem_iff.2 (apn _ hr));have hk:h∈keys L2:=aoQ.2 ⟨_,hr,rfl⟩;refine⟨z,aaY h z (aaX h z hk hz),(De.on Ba (iS _ hr)).mono (λb hb=>?_) cQ sS (λ_ _ e=>e)⟩;exact fK.block b (hi.lt hz hb) (λCH=>by
     obtain⟨h',y',nq,dm⟩:=CH;have:=hi.apart h h' z y' b hz (lZ h' y' nq).1 hb dm;subst this;exact gv.2.2 h (lZ h y' nq).2 hk)
 have qg:Step w (own m) w' (own mm):=by
  refine⟨fK.os,fK.tape,fK.output,fK.size,λb hb iT=>fK.block b hb (λh=>iT ((eZ b).2 (.inl h))),λb hb iC=>?_⟩;rcases(acR b).1 iC with h|h
  ·exact(eZ b).2 (.inl (fK.owned b hb h))
  ·exact(eZ b).2 (.inr h)
 exact⟨mm,hinv,qg,vP,zO,Ba,cQ,sS⟩
theorem zd{o:Oper}{c:Call}{f:FuncId}{args:List V}{L1 L2:aI}{R:AE→aI→Prop}
  (aD:o.op= .call c) (hc:callee s.ev c=some (f,args)) (he:enters P f=true) (ho:V.dE (keys L1) args=true) (hL:s.L.Perm (L1++L2)) (ij:L1.all (λp=>aV.on (keys L1) p.2)=true)
  (iS:∀p∈L2,aV.on (keys L2++(L1.filterMap λp=>match p.2 with|.box (_+1) _ _=>some p.1|_=>none)) p.2=true)
  (h:aE P f args L1 R)
  (qP:∀r bq,R r bq->(∃x,r= .ret x)/\(∀k∈keys bq,k∉keys L2)/\∀k b ty cs,(k,aV.box (b+1) ty cs)∈L1->∃lY jA,(k,aV.box (b+1) lY jA)∈bq)
  {fo:FO} {m:Nat->Option Value} {a:Act} {w:World} (g:G fo n m s a w) {next:Act->World->Prop} {Q':Exit->Act->World->Prop}
  (k:∀x bq mm v w',R (.ret x) bq->aB w' (OO fo mm) mm v x->Inv fo mm (bq++L2) w'->Step w (own m) w' (own mm)->
   (∀h y,h∈keys L2++(L1.filterMap λp=>match p.2 with|.box (_+1) _ _=>some p.1|_=>none)->m h=some y->mm h=some y)->
   bK w (OO fo m) w'->(∀b,b<w.heap.size->OO fo mm b->OO fo m b)->next (a.put o.dst v) w'):o.wpIn (wr fo.r) 0 P a w next Q':=by
 obtain⟨xs,h1,h2⟩:=oY (P:=P) (w:=w) (m:=m) (O:=OO fo m) aD hc he (λz _=>cm g z);obtain⟨gV,m1,oQ,ot,qe,fin⟩:=frame g.inv hL ij iS;refine yL h1 ?_;refine(h gV m1 w xs qe ⟨h2.1,λj v y hv hy=>((h2.2 j v y hv hy).on ot (fQ ho y (aoO hy))).mono (bK.refl w _) (λb _ hb=>(oQ b).1 hb) (λ_ _ e=>e)⟩).mono ?_;rintro e w' ⟨uv,r,bq,hR,lG,cn,fK⟩;obtain⟨⟨x,rfl⟩,Dd,GK⟩:=qP r bq hR;obtain⟨mm,hinv,qg,vP,zO,Ba,cQ,sS⟩:=fin w' uv bq cn fK Dd GK;cases e<;>simp only[Ends]at lG
 exact k x bq mm _ w' hR (lG.mono (bK.refl w' _) (λb _ hb=>(zO b).1 hb) vP) hinv qg Ba cQ sS
theorem au.agU{ops}{o:Oper}{rest}{c}{f}{args}{L1 L2:aI}{R}(hg:o.guard=none)(hd:∀d,o.dst=some d→d < n)
  (aD:o.op= .call c) (hc:callee s.ev c=some (f,args)) (he:enters P f=true) (ho:V.dE (keys L1) args=true) (hL:s.L.Perm (L1++L2)) (ij:L1.all (λp=>aV.on (keys L1) p.2)=true)
  (iy:∀p∈s.fr,V.on (keys L2++(L1.filterMap λp=>match p.2 with|.box (_+1) _ _=>some p.1|_=>none)) p.2=true)
  (iS:∀p∈L2,aV.on (keys L2++(L1.filterMap λp=>match p.2 with|.box (_+1) _ _=>some p.1|_=>none)) p.2=true)
  (h:aE P f args L1 R)
  (qP:∀r bq,R r bq->(∃x,r= .ret x)/\(∀k∈keys bq,k∉keys L2)/\∀k b ty cs,(k,aV.box (b+1) ty cs)∈L1->∃lY jA,(k,aV.box (b+1) lY jA)∈bq)
  (k:∀x bq,R (.ret x) bq->au P n ops rest (St.put {s with L:=bq++L2} o.dst x) Q):au P n ops (o::rest) s Q:=by
 intro fo m0 w0 m a w st g;unfold wpListIn;rw[if_pos (by simp[Region.wanted,hg])];refine zd aD hc he ho hL ij iS h qP g λx bq mm v w' hR we hinv qg gT cQ sS=>?_
 have g':G fo n mm {s with L:=bq++L2} a w':=⟨g.size,λt y hy=>by
  obtain⟨q1,q2⟩:=g.fr t y hy;exact⟨q1,(q2.on gT (iy _ hy)).mono cQ sS (λ_ _ e=>e)⟩,hinv,g.defers⟩
 exact k x bq hR fo m0 w0 mm _ w' (st.trans qg) (g'.put hd we)
end
end Go.Ab
namespace Go.Ab
attribute [simp] Ia xW V.fz V.nM V.nN V.EP tB A9
def fh:aV->Bool
 | .box (_+1) _ _=>true
 | _=>false
section
variable {P : Program} {w w' : World} {fo : FO} {m m' : Nat -> Option Value} {L : aI} {n : Nat} {s : St} {a : Act} {Q : AX -> St -> Prop}
theorem kJ.pure{f args x}(he:enters P f=true)(ho:V.dE [] args=true)(hx:x.on []=true)(h:aE P f args [] (λr _=>r= .ret x)):kJ P f args L x:=
 λ_ _ _ aD hc=>qd.call aD hc he ho hx h
attribute [simp] fh
@[simp] theorem aj8 xs x:dd xs++ [x.map V.d]=dd (xs++ [x]):=by simp[dd]
end
section
variable {P : Program} {n : Nat} {Q : AX -> St -> Prop}
def fU(P:Program)(n:Nat)(ops:Array Oper)(o:Oper)(fr:List (Nat×V))(L:aI)(k:Option Nat)(x:V)(L':aI):Prop:=
 ∀gx,(∀t,t∈o.looksAt ops->eX t gx=eX t fr)->∀fo m a w,G fo n m ⟨gx,L⟩ a w->
  (Region.wanted o (yielded ops a.tmps)=true/\∀(next:Act->World->Prop) (Q':Exit->Act->World->Prop),
   (∀v w' m',aB w' (OO fo m') m' v x->G fo n m' ⟨mA k gx,L'⟩ a w'->Step w (own m) w' (own m')->next (a.put o.dst v) w')->o.wpIn (wr fo.r) 0 P a w next Q')\/
  (Region.wanted o (yielded ops a.tmps)=false/\k=none/\L'=L/\aB w (OO fo m) m undef x)
theorem fU.run{o}{fo}{m m'}{a}{w w'}{x}{s'}{nx}{v}(bw:(execOp a.eval o).run P w= .ok nx w')(sH:nx= .value v∨(nx= .skip∧v=undef))
  (hr:aB w' (OO fo m') m' v x) (g':G fo n m' s' a w') (st:Step w (own m) w' (own m')) next Q'
  (k:∀v w' m',aB w' (OO fo m') m' v x->G fo n m' s' a w'->Step w (own m) w' (own m')->next (a.put o.dst v) w'):o.wpIn (wr fo.r) 0 P a w next Q':=by
 grind[wW]
def lv(P:Program)(ops:Array Oper)(s:St)(o:Oper):Option (V×Option Nat×aI×Prop):=
 match fv ops s o with
 | some none=>match fO P s o 0 with
   | some (x,s',c)=>some (x,gF s o,s'.L,u2 o=true/\c)
   | none=>none
 | some (some true)=>match fO P (sP s o) o 0 with
   | some (x,s',c)=>some (.gd true x,gF (sP s o) o,s'.L,u2 o=true/\nK s o.op.operands.toList/\c)
   | none=>none
 | some (some false)=>some (.gd false .any,none,s.L,True)
 | none=>none
theorem fU.of{ops o s x k L' c}(h:lv P ops s o=some (x,k,L',c))(hc:c):fU P n ops o s.fr s.L k x L':=by
 intro gx he fo m a w g;have lG:∀z,z∈o.op.operands->St.ev ⟨gx,s.L⟩ z=s.ev z:=by
  intro z hz;cases z with
  | tmp t=>simp_all[kD]
  | const v=>rfl
  | global g=>rfl
  | func f=>rfl
 have hs:∀t,t∈o.looksAt ops->aB w (OO fo m) m (a.tmps.getD t undef) (s.get t):=by
  intro t ht;have:=qI g t;simp_all
 unfold lv at h;split at h
 ·rename_i hg;split at h
  ·rename_i x' s' c' bQ;simp only[anc,aoI]at h;obtain⟨rfl,rfl,rfl,rfl⟩:=h;obtain⟨nx,v,w',m',x1,s1,bw,sH,⟨rfl,rfl⟩,hr,g',st⟩:=C6 (n:=n) (zN hc.1 bQ gx lG) hc.2 fo m a w g;grind[Region.wanted,lf,fU.run]
  grind
 ·rename_i hg;split at h
  ·rename_i x' s' c' bQ;simp only[anc,aoI]at h;obtain⟨rfl,rfl,rfl,rfl⟩:=h;obtain⟨hm,hu,hc⟩:=hc;have jS:∀t,t∈JJ o->St.get ⟨gx,s.L⟩ t=s.get t:=by
    intro t ht;obtain⟨z,hz,hze⟩:=apY.1 ht;have hzt:z= .tmp t:=by
     grind
    subst hzt;exact lG _ (by simpa using hz)
   have hE:C7 ⟨gx,s.L⟩ o=C7 s o:=by
    unfold C7;have:∀l:List Nat,(∀t∈l,St.get ⟨gx,s.L⟩ t=s.get t)->(l.filterMap λt=>match St.get ⟨gx,s.L⟩ t with|.gd _ x=>some (t,x)|_=>none)=l.filterMap λt=>match s.get t with|.gd _ x=>some (t,x)|_=>none:=by
     intro l
     induction l with
     | nil=>simp
     | cons t l ih=>
       grind
    exact this _ jS
   have nG:nK ⟨gx,s.L⟩ o.op.operands.toList:=by
    have:∀l:List Operand,(∀z∈l,St.ev ⟨gx,s.L⟩ z=s.ev z)->nK s l->nK ⟨gx,s.L⟩ l:=by
     intro l
     induction l with
     | nil=>simp
     | cons z l ih=>
       intro hl h;exact⟨by rw[hl z aoZ];exact h.1,ih (λz hz=>hl z (aoW _ hz)) h.2⟩
    grind
   have FP:∀z,z∈o.op.operands->St.ev ⟨C7 s o++gx,s.L⟩ z=(sP s o).ev z:=by
    intro z hz;cases z with
    | const v=>rfl
    | global g=>rfl
    | func f=>rfl
    | tmp t=>
      have ht:=he t (kD hz);show eX t (C7 s o++gx)=eX t (C7 s o++s.fr);generalize C7 s o=l
      induction l with
      | nil=>exact ht
      | cons p l ih=>
        simp[*]
   have g2:G fo n m ⟨C7 s o++gx,s.L⟩ a w:=by
    have:=g.sP nG;grind[sP]
   obtain⟨nx,v,w',m',x1,s1,bw,sH,⟨rfl,rfl⟩,hr,g',st⟩:=C6 (n:=n) (zN hm bQ (C7 s o++gx) FP) hc fo m a w g2;refine .inl ⟨r6 hs hg,fU.run (s':=⟨mA (gF (sP s o) o) gx,s'.L⟩) bw sH (.gt _ _ hr) ⟨g'.size,λt y hy=>g'.fr t y ?_,g'.inv,g'.defers⟩ st⟩;grind[mA,List.mem_append_right]
  grind
 ·rename_i hg;simp only[anc,aoI]at h;obtain⟨rfl,rfl,rfl,rfl⟩:=h;exact .inr ⟨r6 hs hg,rfl,rfl,.gf _⟩
 grind
abbrev ky:=List (Nat×Nat×V)
theorem fU.call{ops}{o}{s:St}{c}{f}{args}{L1 bq}{x} r(hs:List Nat)(aD:o.op= .call c)(h:aE P f args L1 (fun r L=>r= .ret x∧L=bq))(hc:callee s.ev c=some (f,args))(hg:o.guard=none)
  (he:enters P f=true) (hL:s.L.filter (λp=>hs.contains p.1)=L1)
  (ho:V.dE (keys L1) args=true/\L1.all (λp=>aV.on (keys L1) p.2)=true/\L1.all (λp=>(match p.2 with|.box (_+1) _ _=>true|_=>p.1==r))=true)
  (hb:∀k b ty cs,(k,aV.box (b+1) ty cs)∈L1->∃lY jA,(k,aV.box (b+1) lY jA)∈bq)
  (iS:(s.L.filter λp=>!hs.contains p.1).all (λp=>aV.on (keys (s.L.filter λp=>!hs.contains p.1)++(L1.filterMap λp=>match p.2 with|.box (_+1) _ _=>some p.1|_=>none)) p.2)=true)
  (hk:∀k∈keys bq,k∉keys (s.L.filter λp=>!hs.contains p.1)):
  fU P n ops o s.fr s.L (some r) x (bq++s.L.filter λp=>!hs.contains p.1):=by
 intro gx MM fo m a w g;have lG:∀z,z∈o.op.operands->St.ev ⟨gx,s.L⟩ z=s.ev z:=by
  intro z hz;cases z with
  | tmp t=>simp_all[kD]
  | const v=>rfl
  | global g=>rfl
  | func f=>rfl
 have ze:s.L.Perm (L1++s.L.filter λp=>!hs.contains p.1):=by subst hL;exact(apE _ s.L).symm
 refine .inl ⟨by simp[Region.wanted,hg],λnext Q' kk=>?_⟩;refine zd (s:=⟨gx,s.L⟩) aD ?_ he ho.1 ze ho.2.1 (λp hp=>aoP.1 iS p hp) h ?_ g λx' uH mm v w' hR we hinv qg gT cQ sS=>?_
 ·rw[<-hc];unfold callee;cases p6:c.callee with
  | value fo=>
    simp only;rw[lG fo (by simp_all)];have:c.args.toList.map (St.ev ⟨gx,s.L⟩)=c.args.toList.map s.ev:=by
     simp_all
    rw[this]
  | _=>rfl
 ·rintro r' uH ⟨rfl,rfl⟩;grind
 ·obtain⟨e,rfl⟩:=hR;obtain rfl:=AE.ret.inj e;refine kk v w' mm we ⟨g.size,λt y hy=>?_,hinv,g.defers⟩ qg;unfold mA at hy;obtain⟨p,hp,pJ⟩:=aoQ.1 hy;simp only[aoI]at pJ;obtain⟨rfl,rfl⟩:=pJ;obtain⟨q1,q2⟩:=g.fr p.1 p.2 hp;refine⟨q1,(aB.kill (m':=mm) (h:=r) (λi y bR hi=>gT i y ?_ hi) q2).mono cQ sS (λ_ _ e=>e)⟩;have Dj:i∈keys s.L:=g.inv.fI i y hi;obtain⟨⟨i',res⟩,fp,rfl⟩:=aoQ.1 Dj;rcases ao1.1 (ze.mem_iff.1 fp)with hm|hm
  ·refine apn _ (apY.2 ⟨_,hm,?_⟩);have:=aoP.1 ho.2.2 _ hm;cases res with
   | row _ _ _=>grind
   | env _=>grind
   | mp _=>grind
   | box b _ _=>
     cases b with
     | zero=>grind
     | succ b=>rfl
  ·exact apf _ (aoQ.2 ⟨_,hm,rfl⟩)
def gO(ks:List (Option Nat))(β p:Nat)(x:V):V:=((ks.take p).drop β).foldl (λx k=>kO k x) x
def dk(ks:List (Option Nat))(p:Nat)(fr:ky):List (Nat×V):=fr.map λe=>(e.1,gO ks e.2.1 p e.2.2)
def getM(t:Nat):ky->Nat×V
 | []=>(0,.any)
 | (k,b,x)::l=>if k=t then(b,x)else getM t l
def Dk(t:Nat):ky->ky
 | []=> []
 | (k,b,x)::l=>if k=t then Dk t l else(k,b,x)::Dk t l
def gX(fr:ky)(t:Option Nat)(β:Nat)(x:V):ky:=
 match t with
 | none=>fr
 | some t=>(t,β,x)::Dk t fr
theorem KZ ks β p:gO ks β p .any= .any:=by
 unfold gO;generalize (ks.take p).drop β=l
 induction l with
 | nil=>rfl
 | cons k l ih=>rw[List.foldl_cons,show kO k .any= .any by cases k<;>rfl];exact ih
theorem Dl ks p t:∀fr:ky,eX t (dk ks p fr)=gO ks (getM t fr).1 p (getM t fr).2
 | []=>(KZ ks 0 p).symm
 | (k,b,x)::l=>by
   simp[dk,getM];split
   ·rfl
   ·exact Dl ks p t l
theorem UH{ks β p}(hb:β<=p)(hp:p<ks.length) x:gO ks β (p+1) x=kO (ks.getD p none) (gO ks β p x):=by
 grind[gO,List.take_add_one,List.getElem?_eq_getElem,List.length_take]
theorem Bb{ks β p}(h:p<=β) x:gO ks β p x=x:=by
 grind[gO,List.drop_eq_nil_of_le,List.length_take]
theorem Yj{ks Sx β p}(h:p<=ks.length) x:gO (ks++Sx) β p x=gO ks β p x:=by
 simp_all[gO,aqE]
theorem uI{ks Sx p}(h:p<=ks.length) fr:dk (ks++Sx) p fr=dk ks p fr:=by
 simp_all[dk,Yj]
theorem Dm{t d}(h:t≠d):∀l:ky,getM t (Dk d l)=getM t l
 | []=>rfl
 | (k,b,x)::l=>by
   rw[Dk,getM];split
   ·rename_i hk;subst hk;rw[if_neg (λe=>h e.symm)];exact Dm h l
   ·rw[getM,Dm h l]
theorem Of{fr o β x t}(h:o≠some t):getM t (gX fr o β x)=getM t fr:=by
 cases o with
 | none=>rfl
 | some d=>
   have bR:t≠d:=λe=>h (by rw[e])
   simp_all[gX,getM,Dm]
theorem Cm{fr β x t}:getM t (gX fr (some t) β x)=(β,x):=by simp[gX,getM]
theorem GL{t p}:∀{l},p∈Dk t l->p∈l/\p.1≠t
 | [],h=>by cases h
 | (k,b,x)::l,h=>by
   rw[Dk]at h;split at h
   ·have:=GL h;exact⟨aoW _ this.1,this.2⟩
   ·rcases ao0.1 h with rfl|h
    ·grind
    ·have:=GL h;exact⟨aoW _ this.1,this.2⟩
theorem Og{fr d β x p}(h:p∈gX fr d β x):(d=some p.1/\p.2=(β,x))\/(p∈fr/\d≠some p.1):=by
 cases d with
 | none=>exact .inr ⟨h,by simp⟩
 | some d=>
   simp[gX]at h;rcases h with rfl|h
   ·simp
   grind[GL,Option.some.inj]
structure Rec where
 fr:ky
 x:V
 lo:Nat
 hi:Nat
 lF:Bool
 q:Nat
def Rec.pL(r:Rec):Nat:=if r.lF then r.q+1 else r.lo
inductive pM:List (Oper×Option (Nat×Nat))->ky->Nat->List Rec->ky->Nat->Prop
 | nil (fr:ky) (q:Nat):pM [] fr q [] fr q
 | quiet {o:Oper} {rest:List (Oper×Option (Nat×Nat))} {fr:ky} {q:Nat} {x:V} {lo hi:Nat} {l:List Rec} {jZ:ky} {q':Nat} (k:pM rest (gX fr o.dst lo x) q l jZ q'):
   pM ((o,some (lo,hi))::rest) fr q (⟨fr,x,lo,hi,false,q⟩::l) jZ q'
 | lF {o:Oper} {rest:List (Oper×Option (Nat×Nat))} {fr:ky} {q:Nat} {x:V} {l:List Rec} {jZ:ky} {q':Nat} (k:pM rest (gX fr o.dst (q+1) x) (q+1) l jZ q'):
   pM ((o,none)::rest) fr q (⟨fr,x,0,0,true,q⟩::l) jZ q'
theorem pM.len{l fr jZ q q' tr}(h:pM l fr q tr jZ q'):tr.length=l.length:=by
 induction h with
 | nil=>rfl
 | quiet k ih=>grind
 | lF k ih=>grind
theorem pM.oZ{l}{fr jZ}{q q'}{tr}(h:pM l fr q tr jZ q')(t:Nat):∀i r,tr[i]?=some r→
  (∀(j:Nat) o,j<i->l[j]?=some o->o.1.dst≠some t)->getM t r.fr=getM t fr:=by
 induction h with
 | nil=>simp
 | @quiet o rest fr q x lo hi l jZ q' k ih=>
   intro i r hi hn;cases i with
   | zero=>grind
   | succ i=>
     rw[ih i r hi (λj o' hj ho=>hn (j+1) o' (by omega) (by grind)),Of (hn 0 _ (by omega) rfl)]
 | @lF o rest fr q x l jZ q' k ih=>
   intro i r hi hn;cases i with
   | zero=>grind
   | succ i=>
     rw[ih i r hi (λj o' hj ho=>hn (j+1) o' (by omega) (by grind)),Of (hn 0 _ (by omega) rfl)]
theorem pM.EO{l:List (Oper×Option (Nat×Nat))}{fr jZ:ky}{q q':Nat}{tr:List Rec}(h:pM l fr q tr jZ q')(t:Nat):∀(i j:Nat) (r rj:Rec) (o:Oper×Option (Nat×Nat)),tr[i]?=some r→j < i→tr[j]?=some rj→l[j]?=some o→o.1.dst=some t→
  (∀(j':Nat) (o':Oper×Option (Nat×Nat)),j<j'->j'<i->l[j']?=some o'->o'.1.dst≠some t)->getM t r.fr=(rj.pL,rj.x):=by
 induction h with
 | nil=>intro i j r rj o h;simp at h
 | @quiet o rest fr q x lo hi l jZ q' k ih=>
   intro i j r rj o' hi y8 hj ho hd hn;cases i with
   | zero=>omega
   | succ i=>
     simp only[apv]at hi;cases j with
     | zero=>
       simp only[ape,anc]at hj ho;subst hj;subst ho;rw[k.oZ t i r hi (λj' o' tA iC=>hn (j'+1) o' (by omega) (by omega) (by simpa using iC))];simp only at hd;rw[hd];exact Cm
     | succ j=>
       simp only[apv]at hj ho;exact ih i j r rj o' hi (by omega) hj ho hd (λj' lU h1 h2 h3=>hn (j'+1) lU (by omega) (by omega) (by simpa using h3))
 | @lF o rest fr q x l jZ q' k ih=>
   intro i j r rj o' hi y8 hj ho hd hn;cases i with
   | zero=>omega
   | succ i=>
     simp only[apv]at hi;cases j with
     | zero=>
       simp only[ape,anc]at hj ho;subst hj;subst ho;rw[k.oZ t i r hi (λj' o' tA iC=>hn (j'+1) o' (by omega) (by omega) (by simpa using iC))];simp only at hd;rw[hd];exact Cm
     | succ j=>
       simp only[apv]at hj ho;exact ih i j r rj o' hi (by omega) hj ho hd (λj' lU h1 h2 h3=>hn (j'+1) lU (by omega) (by omega) (by simpa using h3))
theorem pM.mem{l:List (Oper×Option (Nat×Nat))}{fr jZ:ky}{q q':Nat}{tr:List Rec}(h:pM l fr q tr jZ q'):∀p,p∈jZ→
  (∃(j:Nat) (o:Oper×Option (Nat×Nat)) (rj:Rec),l[j]?=some o/\o.1.dst=some p.1/\tr[j]?=some rj/\p.2=(rj.pL,rj.x))\/(p∈fr/\∀(j:Nat) (o:Oper×Option (Nat×Nat)),l[j]?=some o->o.1.dst≠some p.1):=by
 induction h with
 | nil=>intro p hp;exact .inr ⟨hp,by simp⟩
 | @quiet o rest fr q x lo hi l jZ q' k ih=>
   intro p hp;rcases ih p hp with⟨j,o',rj,h1,h2,h3,h4⟩|⟨h1,h2⟩
   ·exact .inl ⟨j+1,o',rj,by simpa using h1,h2,by simpa using h3,h4⟩
   ·rcases Og h1 with⟨hd,hx⟩|⟨h3,h4⟩
    ·exact .inl ⟨0,_,_,rfl,hd,rfl,hx⟩
    ·refine .inr ⟨h3,λj o' hj=>?_⟩;cases j with
     | zero=>simp only[ape,anc]at hj;subst hj;exact h4
     | succ j=>simp only[apv]at hj;exact h2 j o' hj
 | @lF o rest fr q x l jZ q' k ih=>
   intro p hp;rcases ih p hp with⟨j,o',rj,h1,h2,h3,h4⟩|⟨h1,h2⟩
   ·exact .inl ⟨j+1,o',rj,by simpa using h1,h2,by simpa using h3,h4⟩
   ·rcases Og h1 with⟨hd,hx⟩|⟨h3,h4⟩
    ·exact .inl ⟨0,_,_,rfl,hd,rfl,hx⟩
    ·refine .inr ⟨h3,λj o' hj=>?_⟩;cases j with
     | zero=>simp only[ape,anc]at hj;subst hj;exact h4
     | succ j=>simp only[apv]at hj;exact h2 j o' hj
def GN(P:Program)(n:Nat)(ops:Array Oper)(ks:List (Option Nat))(Ls:Nat->aI)(r:Rec)(o:Oper):Prop:=
 (r.lF=true->r.q<ks.length/\fU P n ops o (dk ks r.q r.fr) (Ls r.q) (ks.getD r.q none) r.x (Ls (r.q+1)))/\
 (r.lF=false->∀p,r.lo<=p->p<=r.hi->sQ P ops o ⟨dk ks p r.fr,Ls p⟩ r.x)
def aiK(xs m:List Nat):List Nat:=xs.foldl (λm x=>if m.contains x then m else x::m) m
def adK(acc:List (List Nat))(o:Oper):List Nat:=o.after.toList.foldl (λm e=>if Region.binds .any e then aiK (e.on::acc.getD e.on []) m else m) []
def tC:List Oper->List (List Nat)->List (List Nat)
 | [],acc=>acc
 | o::r,acc=>tC r (acc++ [adK acc o])
def ER(l:List Oper)(sT:List (List Nat)):Bool:=
 l.zipIdx.all λ(o,i)=>(sT.getD i []).all λj=>o.after.toList.any λe=>Region.binds .any e&&(e.on==j||(sT.getD e.on []).contains j)
def Sy(rg:List (Option (Nat×Nat))):List Nat:=rg.zipIdx.filterMap λp=>if p.1.isNone then some p.2 else none
def vQ(sT:List (List Nat))(fy:List Nat):List (Oper×Option (Nat×Nat))->Nat->Nat->Bool
 | [],_,q=>fy.length==q
 | (o,none)::rest,i,q=>(fy[q]?==some i)&&((fy.take q).all λj=>(sT.getD i []).contains j)&&vQ sT fy rest (i+1) (q+1)
 | (_,some (lo,hi))::rest,i,q=>decide (lo<=fy.length)&&!fy.contains i&&((fy.take lo).all λj=>(sT.getD i []).contains j)&&((fy.drop hi).all λj=>(sT.getD j []).contains i)&&vQ sT fy rest (i+1) q
def K0(n:Nat)(l:List Oper)(rg:List (Option (Nat×Nat))):Bool:=
 indep l&&dG n l&&(rg.length==l.length)&&decide (Sy rg).Nodup&&ER l (tC l [])&&vQ (tC l []) (Sy rg) (l.zip rg) 0 0 &&
  l.all λo=>(o.looksAt l.toArray).all λt=>decide (t<n)
theorem Sz{sT:List (List Nat)}{fy:List Nat}{l:List (Oper×Option (Nat×Nat))}{fr jZ:ky}{q q':Nat}{tr:List Rec}(h:pM l fr q tr jZ q'):∀i0,vQ sT fy l i0 q=true→fy.length=q'∧
  ∀(i:Nat) (r:Rec) (o:Oper×Option (Nat×Nat)),tr[i]?=some r->l[i]?=some o->
   (r.lF=true->fy[r.q]?=some (i0+i)/\(∀j∈fy.take r.q,j∈sT.getD (i0+i) []))/\
   (r.lF=false->r.lo<=fy.length/\i0+i∉fy/\(∀j∈fy.take r.lo,j∈sT.getD (i0+i) [])/\∀j∈fy.drop r.hi,i0+i∈sT.getD j []):=by
 induction h with
 | nil fr q=>
   intro i0 h;simp only[vQ,beq_iff_eq]at h;exact⟨h,by simp⟩
 | @quiet o rest fr q x lo hi l jZ q' k ih=>
   intro i0 h;simp only[vQ,aoM,decide_eq_true_eq,aqG,aoP,aqJ,decide_eq_false_iff_not]at h;obtain⟨⟨⟨⟨h1,h2⟩,h3⟩,h4⟩,h5⟩:=h;obtain⟨g1,g2⟩:=ih (i0+1) h5;refine⟨g1,λi r o' hr ho=>?_⟩;cases i with
   | zero=>
     simp only[ape,anc]at hr ho;subst hr;exact⟨(λh=>by cases h),λ_=>⟨h1,h2,h3,h4⟩⟩
   | succ i=>
     have:=g2 i r o' (by simpa using hr) (by simpa using ho);rw[show i0+1+i=i0+(i+1) by omega]at this;exact this
 | @lF o rest fr q x l jZ q' k ih=>
   intro i0 h;simp only[vQ,aoM,beq_iff_eq,aoP,aqJ,decide_eq_true_eq]at h;obtain⟨⟨h1,h2⟩,h5⟩:=h;obtain⟨g1,g2⟩:=ih (i0+1) h5;refine⟨g1,λi r o' hr ho=>?_⟩;cases i with
   | zero=>
     simp only[ape,anc]at hr ho;subst hr;subst ho;exact⟨λ_=>⟨h1,h2⟩,(λh=>by cases h)⟩
   | succ i=>
     have:=g2 i r o' (by simpa using hr) (by simpa using ho);rw[show i0+1+i=i0+(i+1) by omega]at this;exact this
theorem Bc{l:List Oper}{sT:List (List Nat)}(cq:indep l=true)(ha:ER l sT=true){listed:Array Bool}
  (nF:∀(j:Nat) (o:Oper),l[j]?=some o->listed.getD j false=true->∀e∈o.after,Region.binds .any e=true->listed.getD e.on false=true):
  ∀(i:Nat) (o:Oper),l[i]?=some o->(∀e∈o.after,Region.binds .any e=true->listed.getD e.on false=true)->∀j∈sT.getD i [],listed.getD j false=true:=by
 intro i
 induction i using Nat.strongRecOn with
 | _ i ih=>
   intro o hi hr j hj;unfold ER at ha;rw[aoP]at ha;have:=ha (o,i) (by rw[List.mem_zipIdx_iff_getElem?];exact hi);simp only[aoP]at this;have:=this j hj;rw[aqg]at this;obtain⟨e,he,h⟩:=this;simp only[aoM,Bool.or_eq_true,beq_iff_eq,aqJ,decide_eq_true_eq]at h;obtain⟨hb,h⟩:=h;have lG:e∈o.after:=by simpa using he
   have hle:=hr e lG hb;rcases h with rfl|h
   ·exact hle
   ·have aw:=(nc cq hi).2.1 e lG hb;have sL:e.on<l.length:=by have:=(aoL.1 hi).1;omega
    exact ih e.on aw l[e.on] (akC sL) (λe' lG dm=>nF e.on _ (akC sL) hle e' lG dm) j h
end
section
variable {P : Program} {n : Nat} {Q : AX -> St -> Prop}
structure aaZ(fo:FO) (m:Nat->Option Value) (m0:Nat->Option Value) (w0:World) (n:Nat) (l:List Oper) (fy:List Nat) (ks:List (Option Nat)) (Ls:Nat->aI) (qh:ky) (tr:List Rec) (p:Nat) (listed:Array Bool) (a:Act) (w:World):Prop where
 size:a.tmps.size=n
 defers:a.defers=fo.D
 inv:Inv fo m (Ls p) w
 step:Step w0 (own m0) w (own m)
 C9:listed.size=l.length
 ple:p<=fy.length
 Bd:∀q j,fy[q]?=some j->(listed.getD j false=true↔q<p)
 born:∀(j:Nat) (r:Rec),tr[j]?=some r->listed.getD j false=true->r.pL<=p
 done:∀(j:Nat) (o:Oper) (r:Rec) (d:Nat),l[j]?=some o->tr[j]?=some r->o.dst=some d->listed.getD j false=true->aB w (OO fo m) m (a.tmps.getD d undef) (gO ks r.pL p r.x)
 todo:∀t,(∀(j:Nat) (o:Oper),l[j]?=some o->o.dst=some t->listed.getD j false=false)->aB w (OO fo m) m (a.tmps.getD t undef) (gO ks (getM t qh).1 p (getM t qh).2)
 rest:∀e,e∈qh->(∀(j:Nat) (o:Oper),l[j]?=some o->o.dst≠some e.1)->aB w (OO fo m) m (a.tmps.getD e.1 undef) (gO ks e.2.1 p e.2.2)
 closed:∀(j:Nat) (o:Oper),l[j]?=some o->listed.getD j false=true->∀e∈o.after,Region.binds .any e=true->listed.getD e.on false=true
theorem Ie{f:Nat->V}{rest t}:∀k b,b<=t->t<b+k->eX t ((List.range' b k).map (λt=>(t,f t))++rest)=f t
 | 0,b,h1,h2=>by omega
 | k+1,b,h1,h2=>by
   rw[List.range'_succ,ao9,aoX,eX];split
   ·grind
   ·exact Ie k (b+1) (by omega) (by omega)
theorem Yk{ks β p w O m v} x(h:aB w O m v x):aB w O m v (gO ks β p x):=by
 unfold gO;generalize (ks.take p).drop β=l
 induction l generalizing x with
 | nil=>exact h
 | cons k l ih=>
   refine ih _ ?_;cases k with
   | none=>exact h
   | some i=>exact h.kill (λ_ _ _ e=>e)
theorem Yl{sT}{fy}{l}{fr jZ}{q q'}{tr}(h:pM l fr q tr jZ q'):∀i0,vQ sT fy l i0 q=true→
  ∀p j,q<=p->fy[p]?=some j->∃(i:Nat) (r:Rec),j=i0+i/\tr[i]?=some r/\r.lF=true/\r.q=p:=by
 induction h with
 | nil fr q=>
   simp_all[vQ,beq_iff_eq]
 | @quiet o rest fr q x lo hi l jZ q' k ih=>
   intro i0 h p j hp hj;simp[vQ,aoM]at h;obtain⟨i,r,h1,h2,h3,h4⟩:=ih (i0+1) h.2 p j hp hj;exact⟨i+1,r,by omega,by grind,h3,h4⟩
 | @lF o rest fr q x l jZ q' k ih=>
   intro i0 h p j hp hj;simp[vQ,aoM]at h;rcases apZ q p with aw|bm
   ·obtain⟨i,r,h1,h2,h3,h4⟩:=ih (i0+1) h.2 p j (by omega) hj;exact⟨i+1,r,by omega,by grind,h3,h4⟩
   ·obtain rfl:q=p:=by omega
    simp_all
def ae2(P:Program)(n:Nat)(ops:Array Oper)(o:Oper)(fr:List (Nat×V))(L:aI)(y:V)(L':aI):Prop:=
 ∀gx,(∀t,t∈o.looksAt ops->eX t gx=eX t fr)->∀fo m a w,G fo n m ⟨gx,L⟩ a w->
  Region.wanted o (yielded ops a.tmps)=true/\∀(next:Act->World->Prop) (Q':Exit->Act->World->Prop),
   (∀ch w' m',AP w' (OO fo m') m' ch y->Inv fo m' L' w'->Step w (own m) w' (own m')->Q' (.panic ch) a w')->o.wpIn (wr fo.r) 0 P a w next Q'
def ae3(P:Program)(n:Nat)(Q:AX->St->Prop)(ops:Array Oper)(dd:Option Nat)(ks:List (Option Nat))(Ls:Nat->aI)(r:Rec)(o:Oper):Prop:=
 (r.lF=true->(∃q,dd=some q/\q<r.q)\/(dd=some r.q/\∃y L',ae2 P n ops o (dk ks r.q r.fr) (Ls r.q) y L'/\Q (.ix y) ⟨[],L'⟩)\/
  (dd≠some r.q/\r.q<ks.length/\fU P n ops o (dk ks r.q r.fr) (Ls r.q) (ks.getD r.q none) r.x (Ls (r.q+1))))/\
 (r.lF=false->∀p,r.lo<=p->p<=r.hi->(∀q,dd=some q->p<=q)->sQ P ops o ⟨dk ks p r.fr,Ls p⟩ r.x)
theorem UI{dd:Option Nat}{l:List Oper}{rg:List (Option (Nat×Nat))}{fy:List Nat}{ks:List (Option Nat)}{Ls:Nat→aI}{qh jD:ky}{tr:List Rec}{k:Nat}(hz:rg.length=l.length)
  (ht:pM (l.zip rg) qh 0 tr jD k) (JL:∀(i:Nat) (r:Rec) (o:Oper),tr[i]?=some r->l[i]?=some o->ae3 P n Q l.toArray dd ks Ls r o) (cq:indep l=true) (hd:dG n l=true) (gv:fy.Nodup)
  (UJ:ER l (tC l [])=true) (oO:vQ (tC l []) fy (l.zip rg) 0 0=true) (Yb:∀o∈l,∀t∈o.looksAt l.toArray,t<n) (hks:ks.length=k) (hdq:∀q,dd=some q->q<fy.length) (hq:dd=none->Q .normal ⟨dk ks k jD,Ls k⟩)
  {fo:FO} {m0:Nat->Option Value} {w0:World} (iy:∀e,e∈qh->e.1<n) (yT:∀e,e∈qh->e.2.1=0):
  ∀(fuel:Nat) (m:Nat->Option Value) (p:Nat) (listed:Array Bool) (un:List Nat) (a:Act) (w:World),un.length<=fuel->(∀i,i<l.length->listed.getD i false=false->i∈un)->
   (∀q,dd=some q->p<=q)->aaZ fo m m0 w0 n l fy ks Ls qh tr p listed a w->wpAnyIn (wr fo.r) 0 P .any l.toArray (fZ fo n m0 w0 Q) fuel listed a w:=by
 have N4:∀(i:Nat) (o:Oper) (d:Nat),l[i]?=some o->o.dst=some d->d<n:=by
  intro i o d hi ho;unfold dG at hd;rw[aoP]at hd;have:=hd o (aoO hi);rw[ho]at this;simpa using this
 have nT:(l.zip rg).length=l.length:=by rw[List.length_zip];omega
 have hlen:tr.length=l.length:=by rw[ht.len,nT]
 have H8:∀i:Nat,i<l.length->∃r:Rec,tr[i]?=some r:=λi hi=>⟨_,akC (by omega)⟩
 have UK:∀(i:Nat) (o:Oper),l[i]?=some o->∃g,(l.zip rg)[i]?=some (o,g):=by
  intro i o hi;have kx:=(aoL.1 hi).1;refine⟨rg[i]'(by omega),?_⟩;rw[aqS];exact⟨hi,akC (by omega)⟩
 have xX:∀(i:Nat) (z:Oper×Option (Nat×Nat)),(l.zip rg)[i]?=some z->l[i]?=some z.1:=by
  intro i z Ai;exact(aqS.1 Ai).1
 obtain⟨ae4,aiL⟩:=Sz ht 0 oO;have dS:∀(i:Nat) (r:Rec) (o:Oper),tr[i]?=some r→l[i]?=some o→
   (r.lF=true->fy[r.q]?=some i/\(∀j∈fy.take r.q,j∈(tC l []).getD i []))/\
   (r.lF=false->r.lo<=fy.length/\i∉fy/\(∀j∈fy.take r.lo,j∈(tC l []).getD i [])/\∀j∈fy.drop r.hi,i∈(tC l []).getD j []):=by
  intro i r o hr ho;obtain⟨g,hg⟩:=UK i o ho;have:=aiL i r (o,g) hr hg;simpa using this
 have agV:∀t,(getM t qh).1=0:=by
  intro t;clear ht iy
  induction qh with
  | nil=>rfl
  | cons e fr ih=>
    obtain⟨k,b,x⟩:=e;rw[getM];split
    ·exact yT _ aoZ
    ·exact ih (λe he=>yT e (aoW _ he))
 have acS:∀(q j:Nat),fy[q]?=some j->j<l.length/\∃r,tr[j]?=some r/\r.lF=true/\r.q=q:=by
  intro q j hj;obtain⟨i,r,h1,h2,h3,h4⟩:=Yl ht 0 oO q j (ap0 _) hj;obtain rfl:j=i:=by omega
  exact⟨by have:=(aoL.1 h2).1;omega,r,h2,h3,h4⟩
 have fin:∀(m:Nat->Option Value) (p:Nat) (listed:Array Bool) (a:Act) (w:World),(∀i,i<l.length->listed.getD i false=true)->(∀q,dd=some q->p<=q)->aaZ fo m m0 w0 n l fy ks Ls qh tr p listed a w->fZ fo n m0 w0 Q .normal a w:=by
  intro m p listed a w bV Au M;have hpk:p=k:=by
   have h1:=M.ple;rcases apZ p fy.length with h|h
   ·have hj:=M.Bd p fy[p] (akC h);have fp:fy[p]<l.length:=by
     refine aqq λhn=>?_
     exact hn (acS p _ (akC h)).1
    have:=hj.1 (bV _ fp);omega
   ·omega
  subst hpk;have KT:dd=none:=by
   cases vA:dd with
   | none=>rfl
   | some q=>
     have h1:=Au q vA;have h2:=hdq q vA;omega
  refine .of m .normal _ (hq KT) ⟨M.size,?_,M.inv,M.defers⟩ trivial M.step;intro t x hx;obtain⟨e,he,hex⟩:=aoQ.1 hx;simp only[aoI]at hex;obtain⟨rfl,rfl⟩:=hex;rcases ht.mem e he with⟨j,z,r,h1,h2,h3,h4⟩|⟨h1,h2⟩
  ·have gw:=xX j z h1;refine⟨N4 j z.1 e.1 gw h2,?_⟩;have:=M.done j z.1 r e.1 gw h3 h2 (bV j (aoL.1 gw).1);rw[h4];exact this
  ·exact⟨iy _ h1,M.rest _ h1 (λj o hj=>by
    obtain⟨g,hg⟩:=UK j o hj;exact h2 j (o,g) hg)⟩
 have Da:∀(listed:Array Bool),listed.size=l.length->Region.ready .any l.toArray listed=[]->∀i,i<l.length->listed.getD i false=true:=by
  intro listed dZ hr i
  induction i using Nat.strongRecOn with
  | _ i ih=>
    intro hi;cases hb:listed.getD i false with
    | true=>rfl
    | false=>
      exfalso;have fp:i∈Region.ready .any l.toArray listed:=by
       refine mem_ready.2 ⟨by rw[qO (c:=false) (by omega)];exact hb,l[i],by simp[hi],λe he iE=>?_⟩;have:=(nc cq (akC hi)).2.1 e he iE;exact ih e.on this (by omega)
      rw[hr]at fp;cases fp
 intro fuel
 induction fuel with
 | zero=>
   intro m p listed un a w hun bV Au M;have h0:∀i,i<l.length->listed.getD i false=true:=by
    intro i hi;cases hb:listed.getD i false with
    | true=>rfl
    | false=>have h9:=bV i hi hb;have h8:un=[]:=apI (by omega);rw[h8]at h9;cases h9
   refine⟨?_,fin m p listed a w h0 Au M⟩;rw[apV];intro j hj;obtain⟨h1,o,h2,_⟩:=mem_ready.1 hj;have H3:j<l.length:=by have:=(aoY.1 h2).1;simpa using this
   rw[qO (c:=false) (by have:=M.C9;omega)]at h1;rw[h0 j H3]at h1;cases h1
 | succ fuel ih=>
   intro m p listed un a w hun bV Au M;refine⟨λhr=>fin m p listed a w (Da listed M.C9 hr) Au M,?_⟩;intro i hi;obtain⟨h1,o,h2,h3⟩:=mem_ready.1 hi;have kx:i<l.length:=by have:=(aoY.1 h2).1;simpa using this
   have sR:l[i]?=some o:=by simpa using h2
   rw[qO (c:=false) (by have:=M.C9;omega)]at h1;obtain⟨r,ru⟩:=H8 i kx;obtain⟨vl,rB⟩:=JL i r o ru sR;obtain⟨ha1,ha2⟩:=dS i r o ru sR;obtain⟨i1,i2,i3⟩:=nc cq sR;have uniq:∀(t:Nat) (j:Nat) (lU:Oper),l[j]?=some lU->lU.dst=some t->writes l t=some j:=λt j lU hj hd=>(nc cq hj).1 t hd
   have acT:∀j∈(tC l []).getD i [],listed.getD j false=true:=Bc cq UJ M.closed i o sR h3;have agW:∀(j:Nat) (oj:Oper),l[j]?=some oj->listed.getD j false=true->∀j'∈(tC l []).getD j [],listed.getD j' false=true:=
    λj oj fg hb=>Bc cq UJ M.closed j oj fg (M.closed j oj fg hb)
   have N5:∀t,t∈o.looksAt l.toArray->aB w (OO fo m) m (a.tmps.getD t undef) (eX t (dk ks p r.fr)):=by
    intro t An;rw[Dl];cases hw:writes l t with
    | none=>
      rw[ht.oZ t i r ru (λj z _ hj=>na hw (xX j z hj))];exact M.todo t (λj lU hj hd=>(na hw hj hd).elim)
    | some j=>
      obtain⟨oj,fg,lI⟩:=o8 hw;obtain⟨rj,lJ⟩:=H8 j (aoL.1 fg).1;obtain⟨gj,hgj⟩:=UK j oj fg;rcases i3 t An j hw with⟨aw,e,he,hb,ij⟩|⟨aw,oj',Db,e,he,hb,ij⟩
      ·rw[ht.EO t i j r rj (oj,gj) ru aw lJ hgj lI (λj' z y9 _ tA uu=>by
        have:=uniq t j' z.1 (xX j' z tA) uu;rw[hw]at this;have:=aoK this;omega)]
       exact M.done j oj rj t fg lJ lI (by rw[<-ij];exact h3 e he hb)
      ·rw[ht.oZ t i r ru (λj' z tA Ai uu=>by
        have:=uniq t j' z.1 (xX j' z Ai) uu;rw[hw]at this;have:=aoK this;omega)]
       refine M.todo t (λj' lU tA uu=>?_);have:=uniq t j' lU tA uu;rw[hw]at this;obtain rfl:=aoK this;cases dm:listed.getD j false with
       | false=>rfl
       | true=>
         rw[fg]at Db;obtain rfl:=aoK Db;have:=M.closed j oj fg dm e he hb;rw[ij,h1]at this;cases this
   have bR:∀(v:Value) (t:Nat),o.dst≠some t->(a.put o.dst v).tmps.getD t undef=a.tmps.getD t undef:=by
    intro v t hn;cases vA:o.dst with
    | none=>rfl
    | some d=>
      have:d≠t:=λe=>hn (by rw[vA,e])
      simp[Act.put,apR this]
   have nd:∀j,(listed.setIfInBounds i true).getD j false=true↔(j=i\/listed.getD j false=true):=by
    intro j;by_cases hj:j=i
    ·subst hj;have hjs:j<listed.size:=by have:=M.C9;omega
     simp[Array.getD,hjs]
    ·have:¬i=j:=λe=>hj e.symm
     simp only[apM,apR this,hj,false_or]
   have next:∀(m':Nat→Option Value) (p':Nat) (v:Value) (w':World),p≤p'→(∀q,dd=some q→p'≤q)→Inv fo m' (Ls p') w'→Step w (own m) w' (own m')→aB w' (OO fo m') m' v r.x→r.pL=p'∨r.pL≤p→(∀x β,β≤p→∀u,aB w (OO fo m) m u (gO ks β p x)→(∃t,t < n∧u=a.tmps.getD t undef∧((∃(j:Nat) (oj:Oper) (rj:Rec),l[j]?=some oj∧tr[j]?=some rj∧oj.dst=some t∧listed.getD j false=true∧x=rj.x∧β=rj.pL)∨((∀(j:Nat) (o:Oper),l[j]?=some o→o.dst=some t→listed.getD j false=false)∧x=(getM t qh).2∧β=(getM t qh).1)∨((t,β,x)∈qh∧∀(j:Nat) (o:Oper),l[j]?=some o→o.dst≠some t)))→aB w' (OO fo m') m' u (gO ks β p' x))→
     (p'<=fy.length)->(∀q j,fy[q]?=some j->((listed.setIfInBounds i true).getD j false=true↔q<p'))->aB w' (OO fo m') m' v (gO ks r.pL p' r.x)->wpAnyIn (wr fo.r) 0 P .any l.toArray (fZ fo n m0 w0 Q) fuel (listed.setIfInBounds i true) (a.put o.dst v) w':=by
    intro m' p' v w' Oh aiM hinv bQ hv hb hold agX adL hvk;refine ih m' p' (listed.setIfInBounds i true) (un.erase i) (a.put o.dst v) w' ?_ ?_ aiM ?_
    ·have fp:=bV i kx h1;rw[aqY fp];omega
    ·intro j hj hb;have N6:¬((listed.setIfInBounds i true).getD j false=true):=by rw[hb];simp
     rw[nd]at N6;have y8:j≠i:=λe=>N6 (.inl e)
     have vy:listed.getD j false=false:=by
      cases hx:listed.getD j false with
      | false=>rfl
      | true=>exact(N6 (.inr hx)).elim
     exact(List.mem_erase_of_ne y8).2 (bV j hj vy)
    ·refine⟨?_,?_,hinv,M.step.trans bQ,by simpa using M.C9,agX,adL,?_,?_,?_,?_,?_⟩
     ·cases vA:o.dst<;>simp[Act.put,M.size]
     ·cases vA:o.dst<;>simp[Act.put,M.defers]
     ·intro j rj hrj Oi;rcases(nd j).1 Oi with rfl|GO
      ·rw[ru]at hrj;obtain rfl:=aoK hrj;rcases hb with h|h<;>omega
      ·exact apr (M.born j rj hrj GO) Oh
     ·intro j oj rj d fg lJ lI Oi;by_cases y8:j=i
      ·subst y8;rw[sR]at fg;obtain rfl:=aoK fg;rw[ru]at lJ;obtain rfl:=aoK lJ;have KT:=N4 j o d sR lI;have:(a.put o.dst v).tmps.getD d undef=v:=by
        have dZ:=M.size;rw[lI];simp[Act.put,Array.getD,dZ,KT]
       rw[this];exact hvk
      ·have aa0:o.dst≠some d:=by
        intro e;have q1:=uniq d i o sR e;have q2:=uniq d j oj fg lI;rw[q1]at q2;exact y8 (aoK q2).symm
       have GO:=((nd j).1 Oi).resolve_left y8;rw[bR v d aa0];exact hold _ _ (M.born j rj lJ GO) _ (M.done j oj rj d fg lJ lI GO) ⟨d,N4 j oj d fg lI,rfl,.inl ⟨j,oj,rj,fg,lJ,lI,GO,rfl,rfl⟩⟩
     ·intro t H9;have ES:∀(j:Nat) (oj:Oper),l[j]?=some oj->oj.dst=some t->listed.getD j false=false:=by
       intro j oj fg lI;have:=H9 j oj fg lI;cases hx:listed.getD j false with
       | false=>rfl
       | true=>have h4:=(nd j).2 (.inr hx);rw[this]at h4;cases h4
      have aa0:o.dst≠some t:=by
       intro e;have:=H9 i o sR e;have h4:=(nd i).2 (.inl rfl);rw[this]at h4;cases h4
      rw[bR v t aa0];by_cases FQ:t<n
      ·exact hold _ _ (by rw[agV];omega) _ (M.todo t ES) ⟨t,FQ,rfl,.inr (.inl ⟨ES,rfl,rfl⟩)⟩
      ·have:(getM t qh).2= .any:=by
        have:∀fr:ky,(∀e∈fr,e.1<n)->(getM t fr).2= .any:=by
         intro fr hf
         induction fr with
         | nil=>rfl
         | cons e fr SA=>
           obtain⟨k',b',x'⟩:=e;rw[getM];split
           ·rename_i hk;have h9:k'<n:=hf (k',b',x') aoZ;exact absurd (hk ▸ h9) FQ
           ·exact SA (λe he=>hf e (aoW _ he))
        exact this qh iy
       rw[this,KZ];exact .any _
     ·intro e he Fv;rw[bR v e.1 (Fv i o sR)];exact hold _ _ (by rw[yT e he];omega) _ (M.rest e he Fv) ⟨e.1,iy e he,rfl,.inr (.inr ⟨he,Fv⟩)⟩
     ·intro j oj fg Oi e he iE;rw[nd];rcases(nd j).1 Oi with rfl|GO
      ·rw[sR]at fg;obtain rfl:=aoK fg;exact .inr (h3 e he iE)
      ·exact .inr (M.closed j oj fg GO e he iE)
   unfold wpOpIn;rw[h2];simp only;cases jn:r.lF with
   | false=>
     obtain⟨g1,g2,g3,g4⟩:=ha2 jn;have fJ:r.lo<=p:=by
      refine aqq λhn=>?_
      have ns:p<fy.length:=by omega
      have hm:fy[p]∈fy.take r.lo:=by
       rw[aqr];exact⟨p,by omega,rfl⟩
      have:=(M.Bd p _ (akC ns)).1 (acT _ (g3 _ hm));omega
     have Fx:p<=r.hi:=by
      refine aqq λhn=>?_
      have ns:r.hi<fy.length:=by have:=M.ple;omega
      have hl:=acS r.hi _ (akC ns);have hm:fy[r.hi]∈fy.drop r.hi:=by
       rw[List.mem_drop_iff_getElem];exact⟨0,by omega,by simp⟩
      have hb:=(M.Bd r.hi _ (akC ns)).2 (by omega);have:=agW _ _ (akC hl.1) hb i (g4 _ hm);rw[h1]at this;cases this
     have bw:=rB jn p fJ Fx Au fo m a w M.inv N5 (wpAnyIn (wr fo.r) 0 P .any l.toArray (fZ fo n m0 w0 Q) fuel (listed.setIfInBounds i true)) (fZ fo n m0 w0 Q) (λv w' hr cn st=>by
      have cQ:bK w (OO fo m) w':=⟨st.size,λb hb ho=>st.block b hb (λh=>ho (.inl h))⟩
      have mono:∀{v:Value} {x:V},aB w (OO fo m) m v x->aB w' (OO fo m) m v x:=λh=>h.mono cQ (λ_ _ h=>h) (λ_ _ h=>h)
      have ae5:r.pL<=p:=by unfold Rec.pL;rw[jn];exact fJ
      refine next m p v w' (aoT _) Au cn st hr (.inr ae5) (λx β _ u hu _=>mono hu) M.ple (λq j hq=>?_) ?_
      ·rw[nd,<-M.Bd q j hq];constructor
       ·rintro(rfl|h)
        ·exact(g2 (aoO hq)).elim
        ·exact h
       ·exact .inr
      ·exact Yk _ hr)
     split
     ·rename_i hw;rw[if_pos hw]at bw;exact bw
     ·rename_i hw;rw[if_neg hw]at bw;exact⟨λ_ _=>trivial,bw⟩
   | true=>
     obtain⟨g1,g2⟩:=ha1 jn;have hqp:r.q=p:=by
      have e1:¬r.q<p:=λh=>by
       have:=(M.Bd r.q i g1).2 h;rw[h1]at this;cases this
      refine aqq λhn=>?_
      have aw:p<r.q:=by omega
      have ns:p<fy.length:=by have:=(aoL.1 g1).1;omega
      have hm:fy[p]∈fy.take r.q:=by
       rw[aqr];exact⟨p,by omega,rfl⟩
      have:=(M.Bd p _ (akC ns)).1 (acT _ (g2 _ hm));omega
     have ank:=hqp;subst hqp;have aiN:=vl jn
     let cur:Nat->V:=λt=>match writes l t with
      | some j=>if listed.getD j false=true then(match tr[j]? with|some rj=>gO ks rj.pL r.q rj.x|none=> .any)else gO ks (getM t qh).1 r.q (getM t qh).2
      | none=>gO ks (getM t qh).1 r.q (getM t qh).2
     have CC:∀t,aB w (OO fo m) m (a.tmps.getD t undef) (cur t):=by
      intro t;simp only[cur];cases hw:writes l t with
      | none=>exact M.todo t (λj lU hj hd=>(na hw hj hd).elim)
      | some j=>
        obtain⟨oj,fg,lI⟩:=o8 hw;obtain⟨rj,lJ⟩:=H8 j (aoL.1 fg).1;simp only[lJ];split
        ·rename_i hb;exact M.done j oj rj t fg lJ lI hb
        ·rename_i hb;refine M.todo t (λj' lU tA uu=>?_);have:=uniq t j' lU tA uu;rw[hw]at this;obtain rfl:=aoK this;simpa using hb
     let base:List (Nat×V):=(qh.filter λe=>(writes l e.1).isNone).map λe=>(e.1,gO ks e.2.1 r.q e.2.2)
     let gx:List (Nat×V):=(List.range' 0 n).map (λt=>(t,cur t))++base
     have jS:∀t,t<n->eX t gx=cur t:=λt Sv=>Ie n 0 (ap0 _) (by omega)
     have g2':G fo n m ⟨gx,Ls r.q⟩ a w:=by
      refine⟨M.size,?_,M.inv,M.defers⟩;intro t x hx;rcases ao1.1 hx with hx|hx
      ·obtain⟨t',Sv,e⟩:=aoQ.1 hx;simp only[aoI]at e;obtain⟨rfl,rfl⟩:=e;have:t'<n:=by have:=List.mem_range'.1 Sv;obtain⟨_,_,_⟩:=this;omega
       exact⟨this,CC t'⟩
      ·obtain⟨e,he,hex⟩:=aoQ.1 hx;simp only[aoI]at hex;obtain⟨rfl,rfl⟩:=hex;obtain⟨xY,FP⟩:=apU.1 he;have hwn:writes l e.1=none:=by simpa using FP
       exact⟨iy e xY,M.rest e xY (λj oj hj=>na hwn hj)⟩
     have MM:∀t,t∈o.looksAt l.toArray->eX t gx=eX t (dk ks r.q r.fr):=by
      intro t An;rw[jS t (Yb o (aoO sR) t An),Dl];simp only[cur];cases hw:writes l t with
      | none=>rw[ht.oZ t i r ru (λj z _ hj=>na hw (xX j z hj))]
      | some j=>
        obtain⟨oj,fg,lI⟩:=o8 hw;obtain⟨rj,lJ⟩:=H8 j (aoL.1 fg).1;obtain⟨gj,hgj⟩:=UK j oj fg;simp only[lJ];rcases i3 t An j hw with⟨aw,e,he,hb,ij⟩|⟨aw,oj',Db,e,he,hb,ij⟩
        ·rw[if_pos (by rw[<-ij];exact h3 e he hb),ht.EO t i j r rj (oj,gj) ru aw lJ hgj lI (λj' z y9 _ tA uu=>by
          have:=uniq t j' z.1 (xX j' z tA) uu;rw[hw]at this;have:=aoK this;omega)]
        ·rw[if_neg,ht.oZ t i r ru (λj' z tA Ai uu=>by
          have:=uniq t j' z.1 (xX j' z Ai) uu;rw[hw]at this;have:=aoK this;omega)]
         intro dm;rw[fg]at Db;obtain rfl:=aoK Db;have:=M.closed j oj fg dm e he hb;rw[ij,h1]at this;cases this
     rcases aiN with⟨q,vA,aw⟩|⟨vA,y,L',agY,aiO⟩|⟨vA,hqk,Oj⟩
     ·have:=Au q vA;omega
     ·obtain⟨hw,bw⟩:=agY gx MM fo m a w g2';rw[if_pos hw];refine bw _ _ λch w' m' ma cn st=>?_
      exact .of m' (.ix y) ⟨[],L'⟩ aiO ⟨M.size,by simp,cn,M.defers⟩ ma (M.step.trans st)
     have fin:∀(m':Nat->Option Value) (v:Value) (w':World),aB w' (OO fo m') m' v r.x->G fo n m' ⟨mA (ks.getD r.q none) gx,Ls (r.q+1)⟩ a w'->Step w (own m) w' (own m')->wpAnyIn (wr fo.r) 0 P .any l.toArray (fZ fo n m0 w0 Q) fuel (listed.setIfInBounds i true) (a.put o.dst v) w':=by
      intro m' v w' hr g' st;exact next m' (r.q+1) v w' (by omega) (λq hq=>by have h1:=Au q hq;have h2:q≠r.q:=λe=>vA (by rw[hq,e]);omega) g'.inv st hr (.inl (by unfold Rec.pL;rw[jn];rfl)) (by
       intro x β hβ u hu ⟨t,FQ,hut,ae6⟩;rw[UH hβ hqk];subst hut;have fp:∀y,(t,y)∈gx->aB w' (OO fo m') m' (a.tmps.getD t undef) (kO (ks.getD r.q none) y):=by
        intro y hy;exact(g'.fr t _ (aoQ.2 ⟨(t,y),hy,rfl⟩)).2
       have acU:(t,cur t)∈gx:=apf _ (aoQ.2 ⟨t,List.mem_range'.2 ⟨t,by omega,by omega⟩,rfl⟩);rcases ae6 with⟨j,oj,rj,fg,lJ,lI,hb,rfl,rfl⟩|⟨ES,rfl,rfl⟩|⟨he,Fv⟩
       ·have hw:=uniq t j oj fg lI;have:cur t=gO ks rj.pL r.q rj.x:=by simp only[cur,hw,if_pos hb,lJ]
        rw[<-this];exact fp _ acU
       ·have:cur t=gO ks (getM t qh).1 r.q (getM t qh).2:=by
         simp only[cur];cases hw:writes l t with
         | none=>rfl
         | some j=>
           obtain⟨oj,fg,lI⟩:=o8 hw;simp[ES j oj fg lI]
        rw[<-this];exact fp _ acU
       ·refine fp _ (apn _ (aoQ.2 ⟨(t,β,x),apU.2 ⟨he,?_⟩,rfl⟩));cases hw:writes l t with
        | none=>simp[hw]
        | some j=>
          obtain⟨oj,fg,lI⟩:=o8 hw;exact(Fv j oj fg lI).elim)
       (by have:=(aoL.1 g1).1;omega) (λq j hq=>by
        rw[nd,M.Bd q j hq];constructor
        ·rintro(rfl|h)
         ·have e1:=aoL.1 hq;have e2:=aoL.1 g1;have:=(List.getElem_inj gv).1 (e1.2.trans e2.2.symm);omega
         ·omega
        ·intro h;rcases apZ q r.q with h'|h'
         ·exact .inr h'
         ·obtain rfl:q=r.q:=by omega
          rw[g1]at hq;exact .inl (aoK hq).symm)
       (by rw[Bb (by unfold Rec.pL;rw[jn];exact aoT _)];exact hr)
     rcases Oj gx MM fo m a w g2' with⟨hw,bw⟩|⟨hw,hk0,hL0,hr⟩
     ·rw[if_pos hw];exact bw _ _ λv w' m' hr g' st=>fin m' v w' hr g' st
     ·rw[if_neg (by rw[hw];simp)];refine⟨λ_ _=>trivial,fin m undef w hr ?_ (Step.refl w _)⟩;rw[hk0,hL0,iw];exact g2'
theorem UL{fo:FO}{m:Nat→Option Value}{l:List Oper}{s:St}{a:Act}{w:World}{fy:List Nat}{ks:List (Option Nat)}{Ls:Nat→aI}{tr:List Rec}(g:G fo n m s a w)(k:Nat)(hL:Ls 0=s.L):
  aaZ fo m m w n l fy ks Ls (s.fr.map λe=>(e.1,0,e.2)) tr 0 (Array.replicate l.length false) a {w with drawn:=k}:=by
 have st:Step w (own m) {w with drawn:=k} (own m):=⟨rfl,rfl,rfl,aoT _,λ_ _ _=>rfl,λ_ _ h=>h⟩
 have mono:∀{v:Value} {x:V},aB w (OO fo m) m v x->aB {w with drawn:=k} (OO fo m) m v x:=λh=>h.mono st.rq (λ_ _ h=>h) (λ_ _ h=>h)
 have Dq:∀j,(Array.replicate l.length false).getD j false=false:=by intro j;simp[Array.getD]
 refine⟨g.size,g.defers,by rw[hL];exact g.inv.grown (aoT _) (λ_ _=>rfl),st,by simp,ap0 _,?_,?_,?_,?_,?_,?_⟩
 ·intro q j _;rw[Dq];simp
 ·intro j r _ hb;rw[Dq]at hb;cases hb
 ·intro j o r d _ _ _ hb;rw[Dq]at hb;cases hb
 ·intro t _;rw[Bb (ap0 _)];have:(getM t (s.fr.map λe=>(e.1,0,e.2))).2=s.get t:=by
   unfold St.get;generalize s.fr=fr
   induction fr with
   | nil=>rfl
   | cons e fr ih=>
     obtain⟨k,x⟩:=e;simp only[ao9,getM,eX];split
     ·rfl
     ·exact ih
  rw[this];exact mono (qI g t)
 ·intro e he _;obtain⟨x,hx,rfl⟩:=aoQ.1 he;rw[Bb (ap0 _)];exact mono (g.fr x.1 x.2 hx).2
 ·intro j o _ hb;rw[Dq]at hb;cases hb
theorem UM{dd:Option Nat}{l:List Oper}{s:St}{rg:List (Option (Nat×Nat))}{ks:List (Option Nat)}{Ls:Nat→aI}{jD:ky}{tr:List Rec}(ok:K0 n l rg=true)(ht:pM (l.zip rg) (s.fr.map fun e=>(e.1,0,e.2)) 0 tr jD ks.length)
  (JL:∀(i:Nat) (r:Rec) (z:Oper×Option (Nat×Nat)),tr[i]?=some r->(l.zip rg)[i]?=some z->ae3 P n Q l.toArray dd ks Ls r z.1) (hL:Ls 0=s.L) (hdq:∀q,dd=some q->q<ks.length) (hq:dd=none->Q .normal ⟨dk ks ks.length jD,Ls ks.length⟩)
  {fo:FO} {m:Nat->Option Value} {a:Act} {w:World} (g:G fo n m s a w) (k:Nat):wpAnyIn (wr fo.r) 0 P .any l.toArray (fZ fo n m w Q) l.length (Array.replicate l.length false) a {w with drawn:=k}:=by
 simp only [K0,aoM,beq_iff_eq,decide_eq_true_eq,aoP]at ok;obtain⟨⟨⟨⟨⟨⟨o1,o2⟩,o3⟩,o4⟩,o5⟩,o6⟩,o7⟩:=ok;have ae4:=(Sz ht 0 o6).1;exact UI o3 ht (fun i r o hr ho=>by
   have kx:=(aoL.1 ho).1;exact JL i r (o,rg[i]'(by omega)) hr (by rw[aqS];exact⟨ho,akC (by omega)⟩))
  o1 o2 o4 o5 o6 (λo ho t ht=>by simpa using o7 o ho t ht) rfl (λq h=>by rw[ae4];exact hdq q h) hq
  (λe he=>by obtain⟨x,hx,rfl⟩:=aoQ.1 he;exact(g.fr x.1 x.2 hx).1) (λe he=>by obtain⟨x,hx,rfl⟩:=aoQ.1 he;rfl)
  l.length m 0 _ (List.range l.length) a _ (by simp) (λi hi _=>by simpa using hi) (λq _=>ap0 _) (UL g k hL)
theorem Be{l:List Oper}{s:St}{rg:List (Option (Nat×Nat))}{ks:List (Option Nat)}{Ls:Nat→aI}{jD:ky}{tr:List Rec}(ok:K0 n l rg=true)(ht:pM (l.zip rg) (s.fr.map fun e=>(e.1,0,e.2)) 0 tr jD ks.length)
  (JL:∀(i:Nat) (r:Rec) (z:Oper×Option (Nat×Nat)),tr[i]?=some r->(l.zip rg)[i]?=some z->GN P n l.toArray ks Ls r z.1) (hL:Ls 0=s.L) (hq:Q .normal ⟨dk ks ks.length jD,Ls ks.length⟩)
  {fo:FO} {m:Nat->Option Value} {a:Act} {w:World} (g:G fo n m s a w) (k:Nat):wpAnyIn (wr fo.r) 0 P .any l.toArray (fZ fo n m w Q) l.length (Array.replicate l.length false) a {w with drawn:=k}:=
 UM (dd:=none) ok ht (λi r z hr hz=>⟨λhl=> .inr (.inr ⟨by simp,(JL i r z hr hz).1 hl⟩),λhl p h1 h2 _=>(JL i r z hr hz).2 hl p h1 h2⟩) hL (by simp) (λ_=>hq) g k
end
section
variable {P : Program} {n : Nat} {Q : AX -> St -> Prop}
def qv(P:Program)(ops:Array Oper)(s:St)(o:Oper):Option (V×Prop):=
 match fv ops s o with
 | some none=>q2 P s.ev s.L o
 | some (some g)=>some (.gd g (UE (q2 P (NW s o) s.L o)),g=true->UF (q2 P (NW s o) s.L o)/\gU s o)
 | none=>none
def cv(P:Program)(ops:Array Oper)(s:St)(o:Oper)(u:V):Option (V×Prop):=
 match fv ops s o with
 | some none=>some (u,wC P s o u)
 | some (some g)=>some (.gd g u,g=true->wD P s o u)
 | none=>none
theorem Bf{ops s o x c}(h:qv P ops s o=some (x,c))(hc:c):sQ P ops o s x:=by
 unfold qv at h;split at h
 ·rename_i hg;exact yZ (lf hg) (.UG (uz h hc))
 ·rename_i g hg;cases h;refine y7 hg (λhb=>?_);obtain⟨k1,k2⟩:=hc hb;obtain⟨c',h3,h4⟩:=A5 k1;exact⟨_,JI k2,.UG (uz h3 h4)⟩
 grind
theorem GP{ops s o u x c}(h:cv P ops s o u=some (x,c))(hc:c):sQ P ops o s x:=by
 unfold cv at h;split at h
 ·grind[yZ,lf,wC.FN]
 ·grind[y7,wD.FN]
 grind
def py:Nat->Nat->(Nat->Prop)->Prop
 | 0,_,_=>True
 | k+1,p,f=>f p/\py k (p+1) f
theorem Av{f}:∀{k p},py k p f->∀i,p<=i->i<p+k->f i
 | 0,p,_,i,h1,h2=>by omega
 | k+1,p,h,i,h1,h2=>by
   rcases apZ p i with aw|bm
   ·exact Av h.2 i (by omega) (by omega)
   ·obtain rfl:p=i:=by omega
    exact h.1
structure K1 where
 o:Oper
 fr:ky
 x:V
 lo:Nat
 hi:Nat
 told:Option V
def xZ(P:Program)(ops:Array Oper)(o:Oper)(s:St)(x:V):Option V->Prop
 | some u=>match cv P ops s o u with
   | some (x',c)=>x'=x/\c
   | none=>False
 | none=>match qv P ops s o with
   | some (x',c)=>x'=x/\c
   | none=>False
theorem K2{ops s o x t}(h:xZ P ops o s x t):sQ P ops o s x:=by
 cases t with
 | some u=>
   simp[xZ]at h;split at h
   ·rename_i x' c hc;obtain⟨rfl,h⟩:=h;exact GP hc h
   grind
 | none=>
   simp[xZ]at h;split at h
   ·rename_i x' c hc;obtain⟨rfl,h⟩:=h;exact Bf hc h
   grind
def Bg(P:Program)(ops:Array Oper)(ks:List (Option Nat))(Ls:List aI):List K1->Prop
 | []=>True
 | d::ds=>py (d.hi-d.lo) (d.lo+1) (λp=>xZ P ops d.o ⟨dk ks p d.fr,Ls.getD p []⟩ d.x d.told)/\Bg P ops ks Ls ds
def gP(P:Program)(ops:Array Oper)(o:Oper)(s:St)(K:V->Option Nat->aI->Prop):Prop:=∃x k L',(∀n,fU P n ops o s.fr s.L k x L')/\K x k L'
theorem gP.intro{ops o s K x k L'}(h:∀n,fU P n ops o s.fr s.L k x L')(hk:K x k L'):gP P ops o s K:=⟨x,k,L',h,hk⟩
def runM(P:Program)(ops:Array Oper):List (Oper×Option (Nat×Nat))->ky->List (Option Nat)->List aI->List V->List K1->(ky->List (Option Nat)->List aI->Prop)->Prop
 | [],fr,ks,Ls,_,ds,K=>Bg P ops ks Ls ds/\K fr ks Ls
 | (o,none)::rest,fr,ks,Ls,us,ds,K=>
   match lv P ops ⟨dk ks ks.length fr,Ls.getD ks.length []⟩ o with
   | some (x,k,L',c)=>c/\runM P ops rest (gX fr o.dst (ks.length+1) x) (ks++ [k]) (Ls++ [L']) us ds K
   | none=>gP P ops o ⟨dk ks ks.length fr,Ls.getD ks.length []⟩ λx k L'=>runM P ops rest (gX fr o.dst (ks.length+1) x) (ks++ [k]) (Ls++ [L']) us ds K
 | (o,some (lo,hi))::rest,fr,ks,Ls,us,ds,K=>
   if rK o then
    match us with
    | []=>False
    | u::kK=>match cv P ops ⟨dk ks ks.length fr,Ls.getD ks.length []⟩ o u with
      | some (x,c)=>c∧py (ks.length-lo) lo (fun p=>xZ P ops o ⟨dk ks p fr,Ls.getD p []⟩ x (some u))∧
        runM P ops rest (gX fr o.dst lo x) ks Ls kK (if ks.length<hi then⟨o,fr,x,ks.length,hi,some u⟩::ds else ds) K
      | none=>False
   else
    match qv P ops ⟨dk ks ks.length fr,Ls.getD ks.length []⟩ o with
    | some (x,c)=>c∧py (ks.length-lo) lo (fun p=>xZ P ops o ⟨dk ks p fr,Ls.getD p []⟩ x none)∧
      runM P ops rest (gX fr o.dst lo x) ks Ls us (if ks.length<hi then⟨o,fr,x,ks.length,hi,none⟩::ds else ds) K
    | none=>False
theorem uJ{Ls Ls':List aI}{p}(h:p<Ls.length):(Ls++Ls').getD p []=Ls.getD p []:=by
 grind
theorem ET{ops}{K}:∀l fr ks Ls us ds,Ls.length=ks.length+1→runM P ops l fr ks Ls us ds K→
  ∃tr jD jE lK,pM l fr ks.length tr jD (ks++jE).length/\(∀(i:Nat) r z,tr[i]?=some r->l[i]?=some z->GN P n ops (ks++jE) (λp=>(Ls++lK).getD p []) r z.1)/\
   Bg P ops (ks++jE) (Ls++lK) ds/\K jD (ks++jE) (Ls++lK)
 | [],fr,ks,Ls,us,ds,hl,h=>by
   refine⟨[],fr,[],[],?_,by simp,?_,?_⟩
   ·simp only[apk];exact .nil fr ks.length
   ·simpa using h.1
   ·simpa using h.2
 | (o,none)::rest,fr,ks,Ls,us,ds,hl,h=>by
   have key:∀(x:V) (k:Option Nat) (L':aI),fU P n ops o (dk ks ks.length fr) (Ls.getD ks.length []) k x L'→runM P ops rest (gX fr o.dst (ks.length+1) x) (ks++ [k]) (Ls++ [L']) us ds K→
     ∃tr jD jE lK,pM ((o,none)::rest) fr ks.length tr jD (ks++jE).length/\(∀(i:Nat) (r:Rec) (z:Oper×Option (Nat×Nat)),tr[i]?=some r->((o,none)::rest)[i]?=some z->GN P n ops (ks++jE) (λp=>(Ls++lK).getD p []) r z.1)/\
      Bg P ops (ks++jE) (Ls++lK) ds/\K jD (ks++jE) (Ls++lK):=by
    intro x k L' Oj hr;obtain⟨tr,jD,jE,lK,h1,h2,h3,h4⟩:=ET rest _ _ _ us ds (by grind) hr;rw[apb]at h1 h3 h4;simp only[apb,aoS,aoU,apd]at h1 h2 h3 h4;refine⟨⟨fr,x,0,0,true,ks.length⟩::tr,jD,_,_,.lF (by grind),?_,h3,h4⟩;intro i r z hi hz;cases i with
    | zero=>
      simp only[ape,anc]at hi hz;subst hi;subst hz;refine⟨λ_=>⟨by simp,?_⟩,(λh=>by cases h)⟩;simp only;rw[uI (aoT _),uJ (by omega)];grind
    | succ i=>grind
   rw[runM]at h;split at h
   ·rename_i x k L' c bQ;exact key x k L' (fU.of (n:=n) bQ h.1) h.2
   ·obtain⟨x,k,L',Oj,hr⟩:=h;grind
 | (o,some (lo,hi))::rest,fr,ks,Ls,us,ds,hl,h=>by
   have key:∀(x:V) (t:Option V) (kK:List V),sQ P ops o ⟨dk ks ks.length fr,Ls.getD ks.length []⟩ x→py (ks.length-lo) lo (fun p=>xZ P ops o ⟨dk ks p fr,Ls.getD p []⟩ x t)→
     runM P ops rest (gX fr o.dst lo x) ks Ls kK (if ks.length<hi then⟨o,fr,x,ks.length,hi,t⟩::ds else ds) K->
     ∃tr jD jE lK,pM ((o,some (lo,hi))::rest) fr ks.length tr jD (ks++jE).length/\(∀(i:Nat) (r:Rec) (z:Oper×Option (Nat×Nat)),tr[i]?=some r->((o,some (lo,hi))::rest)[i]?=some z->GN P n ops (ks++jE) (λp=>(Ls++lK).getD p []) r z.1)/\
      Bg P ops (ks++jE) (Ls++lK) ds/\K jD (ks++jE) (Ls++lK):=by
    intro x t kK hc ha hr;obtain⟨tr,jD,jE,lK,h1,h2,h3,h4⟩:=ET rest _ _ _ kK _ hl hr;have Xj:Bg P ops (ks++jE) (Ls++lK) ds:=by
     split at h3
     ·exact h3.2
     omega
    refine⟨⟨fr,x,lo,hi,false,ks.length⟩::tr,jD,jE,lK,.quiet h1,?_,Xj,h4⟩;intro i r z cn hz;cases i with
    | zero=>
      simp only[ape,anc]at cn hz;subst cn;subst hz;refine⟨(λh=>by cases h),λ_ p ns uk=>?_⟩;simp only at ns uk⊢;rcases Nat.lt_trichotomy p ks.length with aw|heq|hgt
      ·grind[uI,uJ,K2,Av]
      ·grind[uI,uJ]
      ·rw[if_pos (by omega)]at h3;exact K2 (Av h3.1 p (by grind) (by grind))
    | succ i=>grind
   cases pK:rK o with
   | true=>
     cases us with
     | nil=>simp_all[runM,if_pos]
     | cons u kK=>
       rw[runM,if_pos pK]at h;split at h
       ·rename_i x c hcv;exact key x (some u) kK (GP hcv h.1) h.2.1 h.2.2
       grind
   | false=>
     rw[runM.eq_def]at h;simp only[pK,aph,if_false]at h;split at h
     ·rename_i x c hqv;exact key x none us (Bf hqv h.1) h.2.1 h.2.2
     grind
theorem av.aU{id}{l}{s} rg us(hm:P.follows .mixedOrders=true)(ok:K0 n l rg=true)
  (h:runM P l.toArray (l.zip rg) (s.fr.map λe=>(e.1,0,e.2)) [] [s.L] us [] (λfr ks Ls=>Q .normal ⟨dk ks ks.length fr,Ls.getD ks.length []⟩)):av P n (.region id l.toArray true) s Q:=by
 intro fo m a w _ g;obtain⟨tr,jD,ks,Ls,h1,h2,-,h4⟩:=ET (l.zip rg) _ [] [s.L] us [] rfl h;exact wpIn_region_any hm (Be ok h1 h2 rfl h4 g _)
def UN(bs:Nat->Nat)(h:Nat):aV->aV
 | .box 0 ty cs=> .box (bs h+1) ty cs
 | r=>r
def St.vB(bs:Nat->Nat)(s:St):St:=⟨s.fr,s.L.map λp=>(p.1,UN bs p.1 p.2)⟩
@[simp] theorem aiP(bs:Nat->Nat)(h:Nat)(ty:TypeId)(k:Nat)(xs:List (List V)):UN bs h (.row ty k xs)= .row ty k xs:=rfl
@[simp] theorem aiQ(bs:Nat->Nat)(h b:Nat)(ty:TypeId)(cs:List V):UN bs h (.box (b+1) ty cs)= .box (b+1) ty cs:=rfl
@[simp] theorem ahZ(bs:Nat->Nat)(h:Nat)(ty:TypeId)(cs:List V):UN bs h (.box 0 ty cs)= .box (bs h+1) ty cs:=rfl
theorem G.vB{fo m s a w}(g:G fo n m s a w):∃bs,G fo n m (s.vB bs) a w:=by
 let bs:=λh=>match m h with
  | some (.pointer (some x))=>x.block
  | _=>0
 have hi:=g.inv;have hk:keys (St.vB bs s).L=keys s.L:=by simp[St.vB]
 refine⟨bs,g.size,g.fr,⟨by rw[hk];exact hi.nodup,λh x hx=>by rw[hk];exact hi.fI h x hx,hi.apart,hi.others,hi.ej,?_,hi.ef⟩,g.defers⟩;intro h r hr;obtain⟨p,hp,he⟩:=aoQ.1 hr;cases he;obtain⟨x,hx,hh⟩:=hi.holds p.1 p.2 hp;refine⟨x,hx,?_⟩;generalize hq:p.2=q at hh;cases q with
 | row ty k xs=>exact hh
 | env A=>exact hh
 | mp es=>exact hh
 | box b ty cs=>
   cases b with
   | succ b=>exact hh
   | zero=>
     obtain⟨bb,_,cur,rfl,h1⟩:=hh;refine⟨bb,.inr ?_,cur,rfl,h1⟩;grind
theorem av.opened{c s}(h:av P n c s (λx s'=>∀bs,Q x (s'.vB bs))):av P n c s Q:=by
 intro fo m a w hr g;refine Code.wpIn_mono (λe a1 w1 hp=>?_) (h fo m a w hr g);obtain⟨ms,m',x,s',hm,hq,g',he,st⟩:=hp;obtain⟨bs,g2⟩:=g'.vB;exact⟨ms,m',x,s'.vB bs,hm,hq bs,g2,he,st⟩
theorem av.JM{id}{l}{s} rg us(hm:P.follows .mixedOrders=true)(ok:K0 n l rg=true)
  (h:runM P l.toArray (l.zip rg) (s.fr.map λe=>(e.1,0,e.2)) [] [s.L] us [] (λfr ks Ls=>∀bs,Q .normal (St.vB bs ⟨dk ks ks.length fr,Ls.getD ks.length []⟩))):av P n (.region id l.toArray true) s Q:=
 av.opened (av.aU rg us hm ok h)
attribute [simp] St.vB runM lv qv cv xZ Bg py gF dk gO kO gX Dk u2
end
section
variable {P : Program} {n : Nat} {s : St} {L : aI}
theorem Wk.GQ{t h k ty}(hg:eX t s.fr= .d (.v (.slice none 0 0)))(hn:h∉keys s.L):Wk n s ⟨(t,.rv h)::vL t s.fr,(h,.row ty k [])::s.L⟩:=by
 intro fo m a w g;obtain⟨g',st⟩:=g.new (hY.refl w) hn (r:= .row ty k []) (by simp[dn,jJ]) (.inl ⟨rfl,rfl⟩);have hm:(t,eX t s.fr)∈s.fr:=by
  grind[xq]
 rw[hg]at hm;refine⟨_,⟨g'.size,?_,g'.inv,g'.defers⟩,st⟩;intro t' x hx;simp at hx;rcases hx with⟨rfl,rfl⟩|hx
 ·obtain⟨h1,h2⟩:=g'.fr t' _ hm;refine⟨h1,?_⟩;have:=h2.cy;rw[this];exact .rv h _ (cr _ _) rfl
 ·exact g'.fr t' x (se hx).1
theorem Wk.aa1{t}(hg:eX t s.fr= .d (.v (.slice none 0 0))):Wk n s ⟨(t,.d (.sl []))::vL t s.fr,s.L⟩:=by
 intro fo m a w g;have hm:(t,eX t s.fr)∈s.fr:=by
  grind[xq]
 rw[hg]at hm;refine⟨m,⟨g.size,?_,g.inv,g.defers⟩,Step.refl w _⟩;intro t' x hx;simp at hx;rcases hx with⟨rfl,rfl⟩|hx
 ·obtain⟨h1,h2⟩:=g.fr t' _ hm;refine⟨h1,?_⟩;have:=h2.cy;rw[this];exact .d _ _ wX
 ·exact g.fr t' x (se hx).1
def St.pick(ts hs:List Nat)(s:St):St:=⟨ts.map λt=>(t,eX t s.fr),hs.filterMap λh=>(s.L.lookup h).map λr=>(h,r)⟩
theorem Ym(hs:List Nat)(L:aI):∀x,x∈keys (hs.filterMap λh=>(L.lookup h).map λr=>(h,r))->x∈hs:=by
 simp_all
theorem Bh(L:aI):∀hs:List Nat,hs.Nodup->(keys (hs.filterMap λh=>(L.lookup h).map λr=>(h,r))).Nodup
 | [],_=>by simp
 | h::hs,hn=>by
   have Ol:=apx.1 hn;rw[aqf];cases hl:L.lookup h with
   | none=>exact Bh L hs Ol.2
   | some r=>
     simp only[apc,keys,ao9,apx];exact⟨λhm=>Ol.1 (Ym hs L h hm),Bh L hs Ol.2⟩
theorem Wk.pick ts hs(ht:ts.all (λt=>decide (t<n))=true)(hh:hs.Nodup)(ij:(s.pick ts hs).on (keys (s.pick ts hs).L)=true):Wk n s (s.pick ts hs):=by
 intro fo m a w g;have key:Wk n ⟨(s.pick ts hs).fr++s.fr,s.L⟩ (s.pick ts hs):=Wk.drop (fun p hp=>apf _ hp) (fun p hp=>by
   obtain⟨h,_,he⟩:=apY.1 hp;obtain⟨r,hr,rfl⟩:=aoJ.1 he;exact dK hr) (Bh _ _ hh) ij
 refine key fo m a w ⟨g.size,λt x hx=>?_,g.inv,g.defers⟩;rcases ao1.1 hx with hx|hx
 ·obtain⟨t',Sv,e⟩:=aoQ.1 hx;simp at e;obtain⟨rfl,rfl⟩:=e;refine⟨by grind,?_⟩;exact qI g t'
 ·exact g.fr t x hx
attribute [simp] St.pick
@[simp] theorem agq l k v:(dd (aC l)).set k [iD v]=dd (aC (l.set k v)):=by
 simp[dd,aC]
@[simp] theorem ae7 l v:dd (aC l)++ [[iD v]]=dd (aC (l++ [v])):=by
 simp[dd,aC]
@[simp] theorem aj9 xs k:(∀y∈dd xs,y.length=k)↔∀x∈xs,x.length=k:=by
 simp[dd]
@[simp] theorem ah0 l:(∀x∈aC l,x.length=1)↔True:=by
 simp[aC]
variable {Q : AX -> St -> Prop} {ops : Array Oper} {us : List V}
@[congr] theorem aiR{c s s'}(h:s=s'):cV P n c s Q=cV P n c s' Q:=by rw[h]
@[congr] theorem aka{l s s'}(h:s=s'):au P n ops l s Q=au P n ops l s' Q:=by rw[h]
@[congr] theorem akM{c s s'}(h:s=s'):av P n c s Q=av P n c s' Q:=by rw[h]
@[congr] theorem akb{l}{fr jZ}{ks Sx}{Ls Ls'}{us kK}{ds ds'}{K}
  (h1:fr=jZ) (h2:ks=Sx) (h3:Ls=Ls') (h4:us=kK) (h5:ds=ds'):runM P ops l fr ks Ls us ds K=runM P ops l jZ Sx Ls' kK ds' K:=by grind
inductive KI where
 | seq (c:Code)
 | dn (id:Nat)
 | inv (J:St->Prop)
def cp(P:Program)(n:Nat)(Q:AX->St->Prop):List KI->AX->St->Prop
 | []=>Q
 | .seq c::ks=>AX.then (λs=>cV P n c s (cp P n Q ks)) (cp P n Q ks)
 | .dn id::ks=>AX.inBlock id (cp P n Q ks)
 | .inv J::ks=>AX.then J (cp P n Q ks)
theorem Om{id l s}:cV P n (.region id l.toArray false) s Q=(dG n l=true/\∀bs,eR P l.toArray l s bs [] (KK P n l.toArray Q)):=by rfl
theorem UO{id}{l:List Oper}{s}:cV P n (.region id l.toArray true) s Q=av P n (.region id l.toArray true) s Q:=by rfl
theorem UP{s}:cV P n .skip s Q=Q .normal s:=by rfl
theorem Yn{x y s ks}:cV P n (.seq x y) s (cp P n Q ks)=cV P n x s (cp P n Q (.seq y::ks)):=by rfl
def EU(P:Program)(n:Nat)(v:V)(x y:Code)(s:St)(Q:AX->St->Prop):Prop:=
 match v with
 | oD t=>(t=true->cV P n x s Q)/\(t=false->cV P n y s Q)
 | _=>False
@[simp] theorem cB{t x y s}:EU P n (oD t) x y s Q=((if t=true then cV P n x s Q else True)/\(if t=true then True else cV P n y s Q)):=by
 cases t<;>simp[EU]
@[simp] theorem akc{x y s}:EU P n (oD true) x y s Q=cV P n x s Q:=by simp
@[simp] theorem akd{x y s}:EU P n (oD false) x y s Q=cV P n y s Q:=by simp
theorem ax{t x y s}(h1:t=true->cV P n x s Q)(h2:t=false->cV P n y s Q):EU P n (oD t) x y s Q:=⟨h1,h2⟩
theorem UQ{c x y s}:cV P n (.cond c x y) s Q=EU P n (s.ev c) x y s Q:=by
 rfl
theorem Rp{id c s ks}:cV P n (.block id c) s (cp P n Q ks)=cV P n c s (cp P n Q (.dn id::ks)):=by rfl
theorem UR{id s}:cV P n (.exit id) s Q=Q (.exit id) s:=by rfl
theorem Yo{s}:cV P n .ret s Q=Q .ret s:=by rfl
theorem US{c s}:cV P n (.loop c) s Q=av P n (.loop c) s Q:=by rfl
attribute [simp] Om UO UP Yn UQ Rp UR Yo US
variable {ks : List KI}
@[simp] theorem ah1{x:AX}:cp P n Q [] x s=Q x s:=rfl
@[simp] theorem agr{c:Code}:cp P n Q (.seq c::ks) .normal s=cV P n c s (cp P n Q ks):=rfl
@[simp] theorem ags{c:Code}{i:Nat}:cp P n Q (.seq c::ks) (.exit i) s=cp P n Q ks (.exit i) s:=rfl
@[simp] theorem agt{c:Code}{i:Nat}:cp P n Q (.seq c::ks) (.goto i) s=cp P n Q ks (.goto i) s:=rfl
@[simp] theorem agu{c:Code}:cp P n Q (.seq c::ks) .ret s=cp P n Q ks .ret s:=rfl
@[simp] theorem agv{c:Code}{v:V}:cp P n Q (.seq c::ks) (.ix v) s=cp P n Q ks (.ix v) s:=rfl
@[simp] theorem agw{J:St->Prop}:cp P n Q (.inv J::ks) .normal s=J s:=rfl
@[simp] theorem agx{J:St->Prop}{i:Nat}:cp P n Q (.inv J::ks) (.exit i) s=cp P n Q ks (.exit i) s:=rfl
@[simp] theorem agy{J:St->Prop}{i:Nat}:cp P n Q (.inv J::ks) (.goto i) s=cp P n Q ks (.goto i) s:=rfl
@[simp] theorem agz{J:St->Prop}:cp P n Q (.inv J::ks) .ret s=cp P n Q ks .ret s:=rfl
@[simp] theorem agA{J:St->Prop}{v:V}:cp P n Q (.inv J::ks) (.ix v) s=cp P n Q ks (.ix v) s:=rfl
@[simp] theorem agB{i:Nat}:cp P n Q (.dn i::ks) .normal s=cp P n Q ks .normal s:=rfl
@[simp] theorem agC{i j}:cp P n Q (.dn i::ks) (.exit j) s=if j=i then cp P n Q ks .normal s else cp P n Q ks (.exit j) s:=by
 rfl
@[simp] theorem agD{i j:Nat}:cp P n Q (.dn i::ks) (.goto j) s=cp P n Q ks (.goto j) s:=rfl
@[simp] theorem agE{i:Nat}:cp P n Q (.dn i::ks) .ret s=cp P n Q ks .ret s:=rfl
@[simp] theorem agF{i:Nat}{v:V}:cp P n Q (.dn i::ks) (.ix v) s=cp P n Q ks (.ix v) s:=rfl
theorem aE.run{f}{args}{R}{fn}{c}(hf:P.funcs[f]?=some fn)(hb:fn.body=some c)(hn:args.length≤fn.ntmps)
  (h:cV P fn.ntmps c ⟨eH 0 args,L⟩ (cp P fn.ntmps (ff P fn.results.toList R) [])):aE P f args L R:=
 aE.xQ hf hb hn (eg _ _ _ h)
end
end Go.Ab
namespace Go.Ab
mutual
def V.fi(h:Nat)(y:V):V->V
 | .bp i o=>if i=h then .any else .bp i o
 | .rv i=>if i=h then y else .rv i
 | .ep i k a b=>if i=h then .any else .ep i k a b
 | .fu fn f c=> .fu fn (V.mg h y f) (V.mg h y c)
 | .agg cs=> .agg (V.mg h y cs)
 | .bA cs=> .bA (V.mg h y cs)
 | .gd b x=> .gd b (V.fi h y x)
 | .d x=> .d x
 | .rp cs=> .rp cs
 | .sv i n=>if i=h then .any else .sv i n
 | .kn Q=> .kn Q
 | .any=> .any
def V.mg(h:Nat)(y:V):List V->List V
 | []=> []
 | x::l=>V.fi h y x::V.mg h y l
end
theorem o9 h y:∀l:List V,V.mg h y l=l.map (V.fi h y)
 | []=>by rfl
 | x::l=>by simp[V.mg,o9]
@[simp] theorem vC h y(l:List D):V.mg h y (l.map V.d)=l.map V.d:=by
 rw[o9,ap6];simp[V.fi]
def aV.fi(h:Nat)(y:V):aV->aV
 | .box b ty cs=> .box b ty (V.mg h y cs)
 | .row ty k xs=> .row ty k (xs.map (V.mg h y))
 | .env A=> .env A
 | .mp es=> .mp es
@[simp] theorem agG h y ys:(dd ys).map (V.mg h y)=dd ys:=by
 unfold dd;simp
section
variable {P : Program} {w w' : World} {fo : FO} {m m' : Nat -> Option Value} {L : aI} {n : Nat} {s : St}
theorem aB.fi{O O' h y}(hO:∀b,O' b->O b)(hm:∀i x,i≠h->m i=some x->m' i=some x)(hy:∀v,m h=some v->aB w O' m' v y){x z}(hr:aB w O m x z):aB w O' m' x (V.fi h y z):=by
 induction hr with
 | d x y hd=>simpa[V.fi]using aB.d x y (hd.mono (bK.refl w _) (λb _ hb=>hO b hb))
 | bp i off b e=>
   simp only[V.fi];split
   ·exact .any _
   ·rename_i bR;exact .bp i off b (hm _ _ bR e)
 | rv i x e e1=>
   simp only[V.fi];split
   ·grind
   ·rename_i bR;exact .rv i x (hm _ _ bR e) e1
 | ep i k p q b o n c e=>
   simp only[V.fi];split
   ·exact .any _
   ·rename_i bR;exact .ep i k p q b o n c (hm _ _ bR e)
 | rp b off cs f hb aw hc hr=>simpa[V.fi]using aB.rp (m:=m') b off cs f (λh=>hb (hO b h)) aw hc (λj y hy=>(hr j y hy).mono (bK.refl w _) (λb _ hb=>hO b hb))
 | sv i n b cap e hc hx=>
   simp only[V.fi];split
   ·exact .any _
   ·rename_i bR;exact .sv i n b cap (hm _ _ bR e) hc hx
 | fu fn first ei cf cc s1 s2 h1 h2 Fs Kv=>
   simp only[V.fi,o9];refine .fu fn first ei _ _ (by grind) (by grind) ?_ ?_
   ·grind
   grind
 | agg vs cs hs h1 h2 ih=>
   simp only[V.fi,o9];refine .agg vs _ (by grind) h1 ?_;grind
 | bA vs cs hs h2 ih=>
   simp only[V.fi,o9];refine .bA vs _ (by grind) ?_;grind
 | gt x y h ih=>simpa[V.fi]using aB.gt _ _ ih
 | gf y=>simpa[V.fi]using aB.gf _
 | kn x Q h=>simpa[V.fi]using aB.kn x Q h
 | any x=>simpa[V.fi]using aB.any _
theorem aV.Holds.fi{O O' h y}(hO:∀b,O' b->O b)(hm:∀i x,i≠h->m i=some x->m' i=some x)(hy:∀v,m h=some v->aB w O' m' v y){x}{r:aV}(hr:r.Holds w O m x):(r.fi h y).Holds w O' m' x:=by
 cases r with
 | box b ty cs=>
   obtain⟨bb,kq,cur,rfl,h1,h2,h3,h4⟩:=hr;refine⟨bb,kq,cur,rfl,h1,by simp_all[o9],h3,λj v c hv hc=>?_⟩;rw[o9,aoN]at hc;obtain⟨z,hz,rfl⟩:=aoJ.1 hc;exact(h4 j v z hv hz).fi hO hm hy
 | row ty k xs=>
   rcases hr with⟨h1,h2⟩|⟨b,off,cap,cur,rfl,h1,h2,h3,h4,h5,h6,h7⟩
   ·exact .inl ⟨h1,by grind⟩
   ·refine .inr ⟨b,off,cap,cur,by simp,h1,by grind,h3,h4,?_,h6,?_⟩
    ·grind[o9,List.length_map]
    ·intro i j x y' v hx nq hv;rw[aoN]at hx;obtain⟨z,hz,rfl⟩:=aoJ.1 hx;rw[o9,aoN]at nq;obtain⟨u,hu,rfl⟩:=aoJ.1 nq;exact(h7 i j z u v hz hu hv).fi hO hm hy
 | env A=>exact A.mono hr (λ_ _=>rfl) (bK.refl w _) (λb _ h=>hO b h)
 | mp es=>exact Kw hr (λ_ _=>rfl) (bK.refl w _) (λb _ h=>hO b h)
theorem K3{O'}(hi:Inv fo m L w){h k ty ys}(hl:L.lookup h=some (.row ty k (dd ys))){v}(hv:m h=some v)(hO:∀b,O' b->OO fo m b)(dm:∀b,dn v b->¬O' b):eW w O' v (.sl ys):=by
 obtain⟨x,hx,hh⟩:=hi.holds h _ (dK hl);rw[hv]at hx;obtain rfl:=aoK hx;rcases hh with⟨rfl,hy⟩|⟨b,off,cap,cur,rfl,hb,h1,h2,h3,h4,h5,h6⟩
 ·simp_all[dd,wX]
 ·have hlen:(dd ys).length=ys.length:=by simp
  rw[hlen]at h1⊢;have jS:∀(i:Nat) (x:List D),ys[i]?=some x->(dd ys)[i]?=some (x.map V.d):=by
   simp_all
  have Ic:∀(i:Nat) (x:List D),ys[i]?=some x->x.length=k:=by
   grind
  have iE:∀i j,i<ys.length->j<k->off+i *k+j<cur.size:=by
   intro i j hi hj;have:(i+1) *k<=cap *k:=ao4 _ (by omega);grind
  refine .sl (some ⟨b,off,none⟩) ys.length cap ys k b off (λi j=>cur.getD (off+i *k+j) undef) rfl h1 h2 (λ_=>⟨rfl,dm b rfl,(aoY.1 hb).1⟩) Ic ?_ ?_
  ·simp_all[World.cell?,Array.getD]
  ·intro i j x y hx hy;have hj:j<k:=by grind
   have kx:=(aoL.1 hx).1;have aw:=iE i j kx hj;have:=h6 i j _ (.d y) (cur[off+i *k+j]) (jS i x hx) (by grind) (ao7 aw);have h7:=this.kR;have e:cur.getD (off+i *k+j) undef=cur[off+i *k+j]:=by simp_all
   rw[e];exact h7.mono (bK.refl w _) (λb _ hb=>hO b hb)
def JN(h:Nat)(y:V):aI->aI
 | []=> []
 | (i,r)::l=>if i=h then JN h y l else(i,aV.fi h y r)::JN h y l
theorem SB h y:∀L:aI,JN h y L=(L.filter λp=>p.1 !=h).map λp=>(p.1,p.2.fi h y)
 | []=>rfl
 | (i,r)::l=>by
   rw[JN,SB h y l];by_cases hi:i=h<;>simp[hi]
theorem Wk.adM h{ty}{k}{ys} y'(nq:∀(w:World) O v,eW w O v (.sl ys)→eW w O v y')(hl:s.L.lookup h=some (.row ty k (dd ys))):
  Wk n s ⟨s.fr.map λp=>(p.1,V.fi h (.d y') p.2),(s.L.filter λp=>p.1 !=h).map λp=>(p.1,p.2.fi h (.d y'))⟩:=by
 intro fo m a w g
 let m':=λi=>if i=h then none else m i
 have JO:∀i x,m' i=some x->m i=some x/\i≠h:=by
  grind
 have aa2:∀i x,i≠h->m i=some x->m' i=some x:=by
  grind
 have eZ:∀b,Ab.own m' b->Ab.own m b:=by
  rintro b ⟨i,x,hx,hb⟩;exact⟨i,x,(JO i x hx).1,hb⟩
 have oQ:∀b,OO fo m' b->OO fo m b:=λb hb=>hb.imp (eZ b) id
 have hi:=g.inv;have hy:∀v,m h=some v->aB w (OO fo m') m' v (.d y'):=by
  intro v hv;refine .d _ _ (nq _ _ _ (K3 hi hl hv oQ ?_));rintro b hb (⟨i,x,hx,dm⟩|hf)
  ·have:=hi.apart h i v x b hv (JO i x hx).1 hb dm;grind
  ·exact hi.others h v b hv hb hf
 refine⟨m',⟨g.size,?_,⟨?_,?_,?_,?_,hi.ej,?_,hi.ef.mono (bK.refl w _) (λb _ hb=>oQ b hb)⟩,g.defers⟩,⟨rfl,rfl,rfl,aoT _,λ_ _ _=>rfl,λb _ hb=>eZ b hb⟩⟩
 ·intro t x hx;obtain⟨p,hp,e⟩:=aoQ.1 hx;cases e;obtain⟨h1,h2⟩:=g.fr p.1 p.2 hp;exact⟨h1,h2.fi oQ aa2 hy⟩
 ·have:keys ((s.L.filter λp=>p.1 !=h).map λp=>(p.1,p.2.fi h (.d y')))=(keys s.L).filter λi=>i !=h:=by
   simp[keys,ap6,List.filter_map];rfl
  rw[this];exact hi.nodup.filter _
 ·intro i x hx;obtain⟨h1,h2⟩:=JO i x hx;have:=hi.fI i x h1;simp_all
 ·intro i i' x x' b hx cG hb dm;exact hi.apart i i' x x' b (JO i x hx).1 (JO i' x' cG).1 hb dm
 ·intro i x b hx hb;exact hi.others i x b (JO i x hx).1 hb
 ·intro i r hr;obtain⟨p,hp,e⟩:=aoQ.1 hr;cases e;obtain⟨ns,uk⟩:=apU.1 hp;obtain⟨x,hx,hh⟩:=hi.holds p.1 p.2 ns;exact⟨x,aa2 _ _ (by grind) hx,hh.fi oQ aa2 hy⟩
theorem Wk.freeze h{ty}{k}{ys}(hl:s.L.lookup h=some (.row ty k (dd ys))):
  Wk n s ⟨s.fr.map λp=>(p.1,V.fi h (.d (.sl ys)) p.2),JN h (.d (.sl ys)) s.L⟩:=by
 rw[SB];exact Wk.adM h _ (λ_ _ _ h=>h) hl
theorem eW.nn{w O x y}(h:eW w O x y):eW w O x y.nn:=by
 unfold D.nn;split
 ·cases h;exact wX
 omega
attribute [simp] V.fi V.mg aV.fi JN D.nn
end
end Go.Ab

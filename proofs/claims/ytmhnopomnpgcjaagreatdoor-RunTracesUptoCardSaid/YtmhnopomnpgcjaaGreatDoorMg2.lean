/-
 HK texts Sb K R S W U X N M O L R2 Fz,one behind Cb other.
-/
import Derived.Test.YtmhnopomnpgcjaaGreatDoorMg1
import Derived.Lib.UnsafeStr
import Derived.RangeFuncLeaves
import Derived.Still
set_option linter.unusedSimpArgs false
set_option linter.unusedVariables false
namespace Go.Ab
section
variable {P : Program} {w w' : World} {fo : FO} {m m' : Nat -> Option Value} {L : aI} {n : Nat} {s : St} {a : Act}
def JU(h:Nat):aI->aI
 | []=> []
 | (k,r)::l=>if k=h then JU h l else(k,r.kill h)::JU h l
theorem Ay h:∀L:aI,JU h L=(L.filter λp=>p.1 !=h).map λp=>(p.1,p.2.kill h)
 | []=>rfl
 | (k,r)::l=>by
   rw[JU,Ay h l,ap8];by_cases e:k=h<;>simp[e]
def St.rem(h:Nat)(s:St):St:=⟨s.fr.map λp=>(p.1,p.2.kill h),JU h s.L⟩
theorem G.aiL(g:G fo n m s a w){h b x0}(ma:m h=some x0)(SH:dq x0 b)(wr:EL w b w'):∃m',G fo n m' (s.rem h) a w'/\Step w (own m) w' (own m'):=by
 classical
 let m':=λi=>if i=h then none else m i
 have hm:∀i x,i≠h->m i=some x->m' i=some x:=λi x bR hx=>by grind
 have mE:∀i x,m' i=some x->i≠h/\m i=some x:=by
  grind
 have eW:∀b,own m' b->own m b:=by
  rintro b ⟨i,x,hx,hb⟩;exact⟨i,x,(mE i x hx).2,hb⟩
 have hO:∀b,b<w.heap.size->OO fo m' b->OO fo m b:=λb _ ho=>ho.imp (eW b) id
 have hi:=g.inv;have cQ:bK w (OO fo m) w':=⟨wr.size,λc hc ho=>wr.block c hc (λe=>ho (.inl ⟨h,x0,ma,e ▸ SH⟩))⟩
 have pJ:keys (St.rem h s).L=(keys s.L).filter (·!=h):=by
  simp[keys,St.rem,Ay,aqx];rw[List.filter_map];rfl
 refine⟨m',⟨g.size,?_,?_,g.defers⟩,⟨wr.os,wr.tape,wr.output,wr.size,λc hc ho=>wr.block c hc (λe=>ho ⟨h,x0,ma,e ▸ SH⟩),λb _ ho=>eW b ho⟩⟩
 ·intro t x hx;obtain⟨p,hp,he⟩:=apf.1 hx;cases he;obtain⟨h1,h2⟩:=g.fr p.1 p.2 hp;exact⟨h1,(h2.kill hm).mono cQ hO (λ_ _ e=>e)⟩
 ·have aa2:(St.rem h s).L=(s.L.filter λp=>p.1 !=h).map λp=>(p.1,p.2.kill h):=Ay h s.L
  refine⟨?_,?_,?_,?_,λb hf=>apt (hi.ei b hf) wr.size,?_,hi.ee.mono cQ hO⟩
  ·rw[pJ];exact hi.nodup.sublist List.filter_sublist
  ·intro i x hx;rw[pJ,aqm];exact⟨hi.fI i x (mE i x hx).2,by grind⟩
  ·intro i j x y b hx hy hb dn;exact hi.apart i j x y b (mE i x hx).2 (mE j y hy).2 hb dn
  ·intro i x b hx hb;exact hi.others i x b (mE i x hx).2 hb
  ·intro i r hr;rw[aa2]at hr;obtain⟨p,hp,he⟩:=apf.1 hr;cases he;rw[aqm]at hp;obtain⟨x,hx,hh⟩:=hi.holds p.1 p.2 hp.1;have bR:p.1≠h:=by grind
   refine⟨x,hm _ _ bR hx,(hh.kill hm).mono (λc hc=>wr.block c (hi.lt hx hc) (λe=>bR ?_)) cQ hO (λ_ _ e=>e)⟩;subst e;exact hi.apart _ _ _ _ _ hx ma hc SH
def Az(v:Value):Prop:=∃a,v= .pointer a
def MW(P:Program)(t:TypeId):Option TypeId:=match P.underlying t with
 | some (.pointer e)=>some e
 | _=>none
theorem Ih{t e}(h:MW P t=some e):P.underlying t=some (.pointer e):=by
 grind[MW,Option.some.injEq]
def bytesOf:List (List V)->Option (List UInt8)
 | []=>some []
 | [.d (.v (.int .u8 n))]::l=>if 0<=n/\n<256 then(bytesOf l).map (n.toNat.toUInt8:: ·)else none
 | _::_=>none
theorem C8:∀{xs l},bytesOf xs=some l->xs.length=l.length/\∀(j:Nat) b,l[j]?=some b->xs[j]?=some [.d (.v (.int .u8 (b.toNat:Nat)))]
 | [],l,h=>by simp_all[bytesOf]
 | x::xs,l,h=>by
   rw[bytesOf.eq_def]at h;split at h
   ·grind
   ·rename_i n xs' heq;cases heq;split at h
    ·obtain⟨l',hl,rfl⟩:=ao8.1 h;obtain⟨h1,h2⟩:=C8 hl;refine⟨by grind,λj b hj=>?_⟩
     match j with
     | 0=>
       simp[anc]at hj;subst hj;simp[and_true];omega
     | j+1=>grind
    grind
   grind
def AA(P:Program)(s:St)(ty:TypeId)(x:Operand):Option (V×St×Prop):=
 match s.ev x,MW P ty with
 | .rv h,some _=>match s.L.lookup h with
   | some (.row _ k xs)=>some (if xs.isEmpty then .kn Az else .ep h k 0 0,s,True)
   | _=>none
 | .d (.v (.slice none 0 0)),some _=>some (.kn Az,s,True)
 | _,_=>none
def C9(P:Program)(s:St)(pt:TypeId)(p l:Operand):Option (V×St×Prop):=
 match s.ev p,s.ev l,MW P pt with
 | .kn Q,iD n,some _=>some (.d (.v (.string ⟨#[]⟩)),s,n=0/\∀v,Q v->Az v)
 | .ep h _ 0 0,iD n,some e=>match s.L.lookup h with
   | some (.row e' k xs)=>match bytesOf xs with
     | some bs=>some (.d (.v (.string ⟨⟨bs⟩⟩)),s.rem h,(n=xs.length/\0<xs.length)/\k=1/\e'=e/\P.cellsOf e=1)
     | none=>none
   | _=>none
 | _,_,_=>none
theorem Ye{O v Q}(h:aC w O m v (.kn Q)):Q v:=by
 cases h with
 | kn _ _ h=>exact h
theorem afa{dst}{x}{SI}{ty}{pos}{after}{guard}{y}{s1}{c}(h:AA P s ty x=some (y,s1,c)):
  ry P n ⟨dst,.call {callee:= .builtin .unsafeSliceData,args:= #[x],argTypes:=SI},ty,pos,after,guard⟩ s (λx' s'=>x'=y/\s'=s1):=by
 intro fo m a w g;have ju:∀{v':Value} {w':World},(Builtin.unsafeSliceData_ SI ty #[a.eval x]).run P w= .ok v' w'→
   (execOp a.eval ⟨dst,.call {callee:= .builtin .unsafeSliceData,args:= #[x],argTypes:=SI},ty,pos,after,guard⟩).run P w= .ok (.value v') w':=by
  simp_all[execOp,resolve,invoke,builtin]
 have hx:=ck g x;unfold AA at h;split at h
 ·rename_i h0 e Cn Yf;rw[Cn]at hx;split at h
  ·rename_i te k xs hl;cases h;obtain⟨u,hu,hh⟩:=g.inv.holds h0 _ (dL hl);have hxu:a.eval x=u:=by
    generalize a.eval x=v at hx;cases hx with
    | rv _ _ e _=>grind
   rcases hh with⟨rfl,rfl⟩|⟨b,off,cap,cur,rfl,hb,h1,h2,h3,h4,h5,h6⟩
   ·rw[hxu]at ju;refine⟨_,_,w,m,.kn Az,s,ju (Lib.run_unsafeSliceData_nil w _ _ _ _),.inl rfl,⟨rfl,rfl⟩,.kn _ _ ⟨_,rfl⟩,g,Step.refl w _⟩
   ·rw[hxu]at ju;by_cases hc:cap=0
    ·subst hc;have ma:xs=[]:=aqa (by omega);subst ma;have bz:=Lib.run_unsafeSliceData_zero (P:=P) w SI ty e (Ih Yf) ⟨b,off,none⟩ 0 (te,cur.size) (by simp[World.shape?,hb]);refine⟨_,_,_,m,.kn Az,s,ju bz,.inl rfl,⟨rfl,rfl⟩,.kn _ _ ⟨_,rfl⟩,?_,?_⟩
     ·have gr:=hY.alloc w (.view ⟨b,off,none⟩ e);have hk:bK w (OO fo m) (w.alloc (.view ⟨b,off,none⟩ e)):=⟨gr.size,λb hb _=>gr.block b hb⟩
      refine⟨g.size,λt y hy=>⟨(g.fr t y hy).1,(g.fr t y hy).2.mono hk (λ_ _ h=>h) (λ_ _ h=>h)⟩,?_,g.defers⟩;refine⟨g.inv.nodup,g.inv.fI,g.inv.apart,g.inv.others,λb hf=>apt (g.inv.ei b hf) gr.size,λh r hr=>?_,g.inv.ee.mono hk (λ_ _ h=>h)⟩;obtain⟨x,hx,hh⟩:=g.inv.holds h r hr;exact⟨x,hx,hh.mono (λb hb=>gr.block b (g.inv.lt hx hb)) hk (λ_ _ h=>h) (λ_ _ h=>h)⟩
     ·have gr:=hY.alloc w (.view ⟨b,off,none⟩ e);exact⟨gr.os,gr.tape,gr.output,gr.size,λb hb _=>gr.block b hb,λ_ _ h=>h⟩
    ·have bz:=Lib.run_unsafeSliceData_row (P:=P) w SI ty ⟨b,off,none⟩ xs.length cap hc;refine⟨_,_,w,m,_,s,ju bz,.inl rfl,⟨rfl,rfl⟩,?_,g,Step.refl w _⟩;split
     ·exact .kn _ _ ⟨_,rfl⟩
     ·have:=aC.ep (w:=w) (O:=OO fo m) (m:=m) h0 k 0 0 b off xs.length cap hu;grind
  grind
 ·rename_i Cn Yf;rw[Cn]at hx;cases h;rw[hx.cy]at ju;exact⟨_,_,w,m,.kn Az,s,ju (Lib.run_unsafeSliceData_nil w _ _ _ _),.inl rfl,⟨rfl,rfl⟩,.kn _ _ ⟨_,rfl⟩,g,Step.refl w _⟩
 grind
theorem MH{e}(hc:P.cellsOf e=1) count off n(hn:off+n<=count):liesAt P P.depth e count off e n=true:=by
 have hd:P.depth=(2 *(P.types.size+Made.depth)+1)+1:=rfl;rw[hd];simp[liesAt];rw[hd];simp[rowAt,hc,hn,sameLayout,Nat.mod_one]
theorem Fy{pt it ty e}(hp:P.underlying pt=some (.pointer e))(hc:P.cellsOf e=1){g off}{cur}(hg:w.heap[g]?=some (.cells cur e (0,0))) l(h0:l≠ [])(hn:off+l.length≤cur.size)(h63:l.length≤9223372036854775807)
  (nA:∀(j:Nat) (x:UInt8),l[j]?=some x->w.cell? ⟨g,off+j,none⟩=some (.int .u8 (x.toNat:Nat))):
  (Builtin.unsafeString_ #[pt,it] ty #[.pointer (some ⟨g,off,none⟩),.int .i64 l.length]).run P w= .ok (.string ⟨l.toArray⟩) (w.freeze ⟨g,off,none⟩ l.length):=by
 have hl:l.length≠0:=by grind
 have y7:w.shape? g=some (e,cur.size):=by simp[World.shape?,hg]
 have hlb:=Lib.run_loadBytes (P:=P) w l ⟨g,off,none⟩ .empty (λj x hx=>by simp_all[Addr.add_lit]);have ag1:=MH hc (cur.size / P.cellsOf e) off l.length (by grind);have aaD:¬(9223372036854775807:Int)<(l.length:Int):=by omega
 have xU:Builtin.unsafeString_ #[pt,it] ty #[.pointer (some ⟨g,off,none⟩),.int .i64 l.length]=
   (do
    let n <-asInt (.int .i64 l.length)
    if n<0 then runtimePanic (.error "unsafe.String: len out of range")
    if n > IntKind.i64.max then unsupported (.unsafePointer "String: a length above the largest int")
    if n=0 then pure (.string .empty)
    else if <-variablesAt ⟨g,off,none⟩ (<-elemOf pt) n.toNat then do
     let s <-loadBytes ⟨g,off,none⟩ .empty n.toNat
     freeze ⟨g,off,none⟩ n.toNat
     pure (.string s)
    else unsupported (.unsafePointer "String: not so many bytes at ptr")):=rfl
 rw[xU];have aa3:¬(l.length:Int)<0:=by omega
 simp[asInt,asIntOf,aaD,aa3,hl,variablesAt,y7,elemOf,run_underlying hp,ag1,hlb]
theorem Oa w b off k:EL w b (w.freeze ⟨b,off,none⟩ k):=by
 unfold World.freeze;split
 ·exact⟨rfl,rfl,rfl,api _,λ_ _ _=>rfl⟩
 ·exact⟨rfl,rfl,rfl,by simp,λc _ bR=>by
   grind⟩
theorem ag2{dst}{p l}{pt it}{ty}{pos}{after}{guard}{y}{s1}{c}(h:C9 P s pt p l=some (y,s1,c))(hc:c):
  ry P n ⟨dst,.call {callee:= .builtin .unsafeString,args:= #[p,l],argTypes:= #[pt,it]},ty,pos,after,guard⟩ s (λx' s'=>x'=y/\s'=s1):=by
 intro fo m a w g;have ju:∀{v':Value} {w':World},(Builtin.unsafeString_ #[pt,it] ty #[a.eval p,a.eval l]).run P w= .ok v' w'→
   (execOp a.eval ⟨dst,.call {callee:= .builtin .unsafeString,args:= #[p,l],argTypes:= #[pt,it]},ty,pos,after,guard⟩).run P w= .ok (.value v') w':=by
  simp_all[execOp,resolve,invoke,builtin]
 have hp:=ck g p;have hl:=ck g l;unfold C9 at h;split at h
 ·rename_i Q nn e Cn sZ Yf;rw[Cn]at hp;rw[sZ]at hl;simp only[anc,ao7]at h;obtain⟨rfl,rfl,rfl⟩:=h;obtain⟨rfl,hQ⟩:=hc;obtain⟨aa,ha⟩:=hQ _ (Ye hp);rw[ha,hl.cy]at ju;refine⟨_,_,w,m,_,s,ju (Lib.run_unsafeString_none w pt it ty aa),.inl rfl,⟨rfl,rfl⟩,.d _ _ (.v _ rfl),g,Step.refl w _⟩
 ·rename_i h0 kk nn e Cn sZ Yf;rw[Cn]at hp;rw[sZ]at hl;split at h
  ·rename_i e' k xs Yg;split at h
   ·rename_i bs Co;simp only[anc,ao7]at h;obtain⟨rfl,rfl,rfl⟩:=h;obtain⟨⟨rfl,iZ⟩,rfl,rfl,nA⟩:=hc;obtain⟨b,off,cap,cur,hm,hb,h1,h2,h3,h4,h5,h6,h7⟩:=qb g.inv (dL Yg) iZ;obtain⟨q1,q2⟩:=C8 Co;have pR:a.eval p= .pointer (some ⟨b,off,none⟩):=by
     generalize a.eval p=v at hp;cases hp with
     | ep _ _ _ _ b' o' n' c' e=>
       grind
    rw[pR,hl.cy,q1]at ju;have nF:∀(j:Nat) (x:UInt8),bs[j]?=some x->w.cell? ⟨b,off+j,none⟩=some (.int .u8 (x.toNat:Nat)):=by
     intro j x hj;have Ii:=(apa.1 hj).1;rw[h6];have au:off+j<cur.size:=by omega
     have:=h7 j 0 _ _ (cur[off+j]) (q2 j x hj) rfl (by simp);rw[apy au,this.cy]
    have bR:bs≠ []:=by
     grind
    have bz:=Fy (P:=P) (w:=w) (pt:=pt) (it:=it) (ty:=ty) (Ih Yf) nA hb bs bR (by omega) (by grind[maxLen]) nF;obtain⟨m',g',st⟩:=g.aiL hm (b:=b) rfl (Oa w b off bs.length);exact⟨_,_,_,m',_,_,ju bz,.inl rfl,⟨rfl,rfl⟩,.d _ _ (.v _ rfl),g',st⟩
   grind
  grind
 grind
end
end Go.Ab
namespace Go.Ab
section
variable {P : Program} {w w' : World} {fo : FO} {m m' : Nat -> Option Value} {L : aI} {n : Nat} {s : St} {a : Act}
theorem Ij{k}:∀l (r:List (List V)) j pre post,pre.length=j *k→l.length *k≤post.length→
  l.length=r.length->(∀i p x,l[i]?=some p->r[i]?=some x->p.1=j+i/\p.2.cl=some x)->(∀x∈r,x.length=k)->
  ∃c:Prop,tH (λi=>some (i *k,k)) (pre++post) l=some (pre++r.flatten++post.drop (l.length *k),c)/\c
 | [],[],j,pre,post,_,_,_,_,_=>⟨True,by simp[tH],trivial⟩
 | [],_::_,_,_,_,_,_,h,_,_=>by grind
 | _::_,[],_,_,_,_,_,h,_,_=>by grind
 | (i,x)::l,x0::r,j,pre,post,hp,hl,Yh,fC,hk=>by
   obtain⟨h1,h2⟩:=fC 0 (i,x) x0 rfl rfl;subst h1;have ma:x0.length=k:=hk x0 (by simp);simp only[apj,aqk,aqC]at hl;have aiM:putAt (i *k) x0 (pre++post)=(pre++x0)++post.drop k:=by
    simp_all[putAt,List.take_left,List.drop_append]
   obtain⟨c,pL,pK⟩:=Ij l r (i+1) (pre++x0) (post.drop k) (by grind) (by grind) (by grind)
    (λq p y hq hy=>by have:=fC (q+1) p y (by grind) (by grind);grind) (λy hy=>hk y (by grind))
   refine⟨(x0.length=k/\i *k+k<=(pre++post).length)/\c,?_,⟨ma,by grind⟩,pK⟩;simp only[tH,h2,aiM,pL];simp[ao7,and_true,aqP,aqz,apj,aqk,aqC,Nat.add_comm]
theorem Da{s}:∀l j {r},qR s l j=some r→l.length=r.length∧
  ∀i p x,l[i]?=some p->r[i]?=some x->p.1=j+i/\(s.ev p.2).cl=some x
 | [],j,r,h=>by simp[qR]at h;subst h;exact⟨rfl,by simp⟩
 | (i,x)::l,j,r,h=>by
   rw[qR]at h;split at h
   ·split at h
    ·rename_i cs r' jV tB;simp at h;subst h;obtain⟨h1,h2⟩:=Da l (j+1) tB;refine⟨by simp[h1],?_⟩;intro q p y hq hy
     match q with
     | 0=>simp at hq hy;subst hq;subst hy;exact⟨by omega,jV⟩
     | q+1=>have:=h2 q p y hq hy;exact⟨by omega,this.2⟩
    ·cases h
   ·cases h
def MX(P:Program)(s:St)(h:Nat)(t:TypeId)(len:Nat)(ps:List (Nat×Operand)):Option (V×St×Prop):=
 match kB P t,qR s ps 0 with
 | some (e,k,_,_),some r=>some (.rv h,{s with L:=(h,.row e k r)::s.L},(0<k/\h∉keys s.L)/\(len *k<=2^24/\r.length=len)/\∀x∈r,x.length=k)
 | _,_=>none
def MY(P:Program)(s:St)(t:TypeId)(xo:Operand)(lo hi:Option Operand):Option (V×St×Prop):=
 match s.ev xo,nC P t with
 | .rv h,some (_,k)=>
   match s.L.lookup h with
   | some (.row e' k' xs)=>
     match lo.map s.ev,hi.map s.ev with
     | none,none=>some (.rv h,⟨(s.kill h).fr,aI.jA (s.kill h).L h (.row e' k' ((oN xs 0 xs.length).map (V.dU h)))⟩,k=k')
     | some (.d (.v (.int _ l))),none=>some (.rv h,⟨(s.kill h).fr,aI.jA (s.kill h).L h (.row e' k' ((oN xs l.toNat xs.length).map (V.dU h)))⟩,k=k'/\0<=l/\l<=xs.length)
     | none,some (.d (.v (.int _ u)))=>some (.rv h,⟨(s.kill h).fr,aI.jA (s.kill h).L h (.row e' k' ((oN xs 0 u.toNat).map (V.dU h)))⟩,k=k'/\0<=u/\u<=xs.length)
     | some (.d (.v (.int _ l))),some (.d (.v (.int _ u)))=>some (.rv h,⟨(s.kill h).fr,aI.jA (s.kill h).L h (.row e' k' ((oN xs l.toNat u.toNat).map (V.dU h)))⟩,k=k'/\0<=l/\l<=u/\u<=xs.length)
     | _,_=>none
   | _=>none
 | _,_=>none
def fQ(P:Program)(s:St)(o:Oper)(b:Nat):Option (V×St×Prop):=
 match o.op with
 | .alloc e=>match o.dst,rQ P e with
   | some h,some z=>some (.bp h 0,{s with L:=(h,.box b e (z.map λx=> .d (.v x)))::s.L},h∉keys s.L)
   | _,_=>none
 | .box e x=>match o.dst,(s.ev x).cl with
   | some h,some cs=>some (.bp h 0,{s with L:=(h,.box b e cs)::s.L},h∉keys s.L)
   | _,_=>none
 | .store t a x=>EN P s t a x
 | .makeSlice t l c=>match o.dst with
   | some h=>HZ P s h t l c
   | none=>none
 | .buildSlice t len ps=>match o.dst with
   | some h=>MX P s h t len ps.toList
   | none=>none
 | .slice t x lo hi none=>MY P s t x lo hi
 | .makeMap _ none=>match o.dst with
   | some h=>some (.rv h,{s with L:=(h,.mp [])::s.L},h∉keys s.L)
   | none=>none
 | .mapUpdate t mo ko vo=>sE P s t mo ko vo
 | .insert t mo ko vo=>sE P s t mo ko vo
 | .call {callee:= .builtin .unsafeSliceData,args,..}=>match args.toList with
   | [x]=>AA P s o.type x
   | _=>none
 | .call {callee:= .builtin .unsafeString,args,argTypes}=>match args.toList,argTypes.toList with
   | [p,l],[pt,_]=>C9 P s pt p l
   | _,_=>none
 | .call c=>match o.dst with
   | some h=>A6 P s h c
   | none=>none
 | _=>none
theorem ry.mono{o K K'}(h:ry P n o s K)(hk:∀x s',K x s'->K' x s'):ry P n o s K':=by
 intro fo m a w g;obtain⟨nx,v,w',m',x,s',h1,h2,h3,h4⟩:=h fo m a w g;grind
theorem vh{o b0 x0 s0 c0}(h:fQ P s o b0=some (x0,s0,c0))(hc:c0):ry P n o s (λx s'=>∃b c,fQ P s o (b+1)=some (x,s',c)):=by
 obtain⟨dst,op,ty,pos,after,guard⟩:=o;unfold fQ at h;simp only at h;split at h
 ·split at h
  ·rename_i e hh z hz;simp only[anc,ao7]at h;obtain⟨_,_,rfl⟩:=h;refine(ae3 hz hc).mono ?_;rintro x s' ⟨b,rfl,rfl⟩;exact⟨b,_,(by simp only[fQ,hz];rfl)⟩
  grind
 ·split at h
  ·rename_i e xo hh cs jV;simp only[anc,ao7]at h;obtain⟨_,_,rfl⟩:=h;refine(aiC jV hc).mono ?_;rintro x s' ⟨b,rfl,rfl⟩;exact⟨b,_,(by simp only[fQ,jV];rfl)⟩
  grind
 ·rename_i t ao xo;have h':=h;unfold EN at h;split at h
  ·rename_i g0 k cs ht jV;split at h
   ·rename_i hh off ha;split at h
    ·rename_i b KS dX hl;simp only[anc,ao7]at h;obtain⟨rfl,rfl,rfl⟩:=h;refine(Uj ht ha hl jV hc.1 hc.2).mono ?_;rintro x s' ⟨rfl,rfl⟩;exact⟨b0,_,h'⟩
    grind
   ·rename_i hh k' i j ha;split at h
    ·rename_i e HL xs hl;simp only[anc,ao7]at h;obtain⟨rfl,rfl,rfl⟩:=h;obtain⟨⟨h1,h2⟩,h3,rfl⟩:=hc;intro fo m a w g;have he:(if j=0/\k=k' then cs else putAt j cs (xs[i]?.getD []))=putAt j cs (xs[i]?.getD []):=by
      split
      ·rename_i hjk;obtain⟨rfl,rfl⟩:=hjk;obtain⟨_,_,_,_,_,_,_,_,_,hlen,_⟩:=qb g.inv (dL hl) (by omega);have hx:xs[i]?=some xs[i]:=akC h2;have:=hlen i _ hx;simp_all[putAt,ap3,List.take_zero,apK,ap2,List.drop_of_length_le,apL]
      ·rfl
     rw[he]at h';refine(Uk ht ha hl jV h1 h2 h3).mono (K':=λx s'=>∃b c,fQ P s _ (b+1)=some (x,s',c)) ?_ fo m a w g;rintro x s' ⟨rfl,rfl⟩;exact⟨b0,_,h'⟩
    grind
   grind
  grind
 ·rename_i t lo co;split at h
  ·rename_i hh;have h':=h;unfold HZ at h;split at h
   ·rename_i e k by_ z kl l kc c ht hl rz;simp only[anc,ao7]at h;obtain⟨rfl,rfl,rfl⟩:=h;obtain⟨⟨h1,h2⟩,h3,h4⟩:=hc;refine(agW ht hl rz h1 h2 h3 h4).mono ?_;rintro x s' ⟨rfl,rfl⟩;exact⟨b0,_,h'⟩
   grind
  grind
 ·rename_i t len ps;split at h
  ·rename_i hh;have h':=h;unfold MX at h;split at h
   ·rename_i e k by_ z r ht hr;simp only[anc,ao7]at h;obtain⟨rfl,rfl,rfl⟩:=h;obtain⟨⟨h1,h2⟩,⟨h3,h4⟩,h5⟩:=hc;obtain⟨q1,q2⟩:=Da _ 0 hr;have hzk:(z.map λx=>V.d (.v x)).length=k:=by
     obtain⟨i,zv,-,-,-,-,-,e1,e2,-⟩:=nR ht;grind
    have hlen:(ps.toList.map λp=>(p.1,s.ev p.2)).length=len:=by grind
    have lY:(List.replicate len (z.map λx=>V.d (.v x))).flatten.length=len *k:=by
     simp_all
    obtain⟨c,hf,sY⟩:=Ij (k:=k) (ps.toList.map λp=>(p.1,s.ev p.2)) r 0 [] (List.replicate len (z.map λx=>V.d (.v x))).flatten (by simp) (by grind)
     (by omega) (by
      grind) h5
    rw[hlen,apK,apK,List.drop_eq_nil_of_le (by omega),apL]at hf;refine(QM ht h1 h2 h3 hf sY rfl h4 h5).mono ?_;rintro x s' ⟨rfl,rfl⟩;exact⟨b0,_,h'⟩
   grind
  grind
 ·rename_i t xo lo hi;have h':=h;unfold MY at h;split at h
  ·rename_i hh e k hs hE;split at h
   ·rename_i e' k' xs hl;have fin:∀{l u:Nat} {kl ku:IntKind} {x:V} {s1:St} {c:Prop},fQ P s ⟨dst,.slice t xo lo hi none,ty,pos,after,guard⟩ b0=some (x,s1,c)→x= .rv hh→s1=⟨(s.kill hh).fr,aI.jA (s.kill hh).L hh (.row e' k ((oN xs l u).map (V.dU hh)))⟩→k=k'→
      ((lo=none/\l=0)\/∃z,lo=some z/\s.ev z= .d (.v (.int kl l)))->((hi=none/\u=xs.length)\/∃z,hi=some z/\s.ev z= .d (.v (.int ku u)))->l<=u->u<=xs.length->
      ry P n ⟨dst,.slice t xo lo hi none,ty,pos,after,guard⟩ s (λx s'=>∃b c,fQ P s ⟨dst,.slice t xo lo hi none,ty,pos,after,guard⟩ (b+1)=some (x,s',c)):=by
     intro l u kl ku x s1 c h0 hx vy hk jn KT h1 h2;subst hk;refine(aaF hE hs hl jn KT h1 h2).mono ?_;rintro x' s' ⟨rfl,rfl⟩;exact⟨b0,c,by rw[show fQ P s ⟨dst,.slice t xo lo hi none,ty,pos,after,guard⟩ (b0+1)=fQ P s ⟨dst,.slice t xo lo hi none,ty,pos,after,guard⟩ b0 from rfl,h0,hx,vy]⟩
    have h0:fQ P s ⟨dst,.slice t xo lo hi none,ty,pos,after,guard⟩ b0=some (x0,s0,c0):=h';cases lo with
    | none=>
      cases hi with
      | none=>
        simp only[ark,anc,ao7]at h;obtain⟨h1,h2,rfl⟩:=h;subst hc;exact fin (kl:= .i64) (ku:= .i64) h0 h1.symm h2.symm rfl (.inl ⟨rfl,rfl⟩) (.inl ⟨rfl,rfl⟩) (aqr _) (api _)
      | some hz=>
        simp only[ark,apB]at h;split at h
        ·grind
        ·grind
        ·rename_i ku u _ heq;simp only[anc]at heq;simp only[anc,ao7]at h;obtain⟨h1,h2,rfl⟩:=h;obtain⟨rfl,NK,tc⟩:=hc;exact fin (kl:= .i64) h0 h1.symm h2.symm rfl (.inl ⟨rfl,rfl⟩) (.inr ⟨hz,rfl,by rw[heq,aqX NK]⟩) (aqr _) (by omega)
        ·grind
        grind
    | some lz=>
      cases hi with
      | none=>
        simp only[ark,apB]at h;split at h
        ·grind
        ·rename_i kl l heq _;simp only[anc]at heq;simp only[anc,ao7]at h;obtain⟨h1,h2,rfl⟩:=h;obtain⟨rfl,NK,tc⟩:=hc;exact fin (ku:= .i64) h0 h1.symm h2.symm rfl (.inr ⟨lz,rfl,by rw[heq,aqX NK]⟩) (.inl ⟨rfl,rfl⟩) (by omega) (api _)
        ·grind
        ·grind
        grind
      | some hz=>
        simp only[apB]at h;split at h
        ·grind
        ·grind
        ·grind
        ·rename_i kl l ku u heq GV;simp only[anc]at heq GV;simp only[anc,ao7]at h;obtain⟨h1,h2,rfl⟩:=h;obtain⟨rfl,Nv,Xk,tc⟩:=hc;exact fin h0 h1.symm h2.symm rfl (.inr ⟨lz,rfl,by rw[heq,aqX Nv]⟩) (.inr ⟨hz,rfl,by rw[GV,aqX (by omega)]⟩) (by omega) (by omega)
        grind
   grind
  grind
 ·split at h
  ·rename_i t hh;have h':=h;simp only[anc,ao7]at h;obtain⟨rfl,rfl,rfl⟩:=h;refine(aaH hc).mono ?_;rintro x s' ⟨rfl,rfl⟩;exact⟨b0,_,h'⟩
  grind
 ·rename_i t mo ko vo;refine(Sv (.inl rfl) h hc).mono ?_;rintro x s' ⟨rfl,rfl⟩;exact⟨b0,_,h⟩
 ·rename_i t mo ko vo;refine(Sv (.inr rfl) h hc).mono ?_;rintro x s' ⟨rfl,rfl⟩;exact⟨b0,_,h⟩
 ·rename_i args argTypes;have h':fQ P s ⟨dst,.call {callee:= .builtin .unsafeSliceData,args:=args,argTypes:=argTypes},ty,pos,after,guard⟩ b0=some (x0,s0,c0):=h;split at h
  ·rename_i x ha;obtain rfl:args= #[x]:=by grind
   refine(afa h).mono ?_;rintro x s' ⟨rfl,rfl⟩;exact⟨b0,_,h'⟩
  grind
 ·rename_i args argTypes;have h':fQ P s ⟨dst,.call {callee:= .builtin .unsafeString,args:=args,argTypes:=argTypes},ty,pos,after,guard⟩ b0=some (x0,s0,c0):=h;split at h
  ·rename_i p l pt it ha ht;obtain rfl:args= #[p,l]:=by grind
   obtain rfl:argTypes= #[pt,it]:=by grind
   refine(ag2 h hc).mono ?_;rintro x s' ⟨rfl,rfl⟩;exact⟨b0,_,h'⟩
  grind
 ·rename_i cl _ _;split at h
  ·rename_i hh;have h':=h;obtain⟨callee,args,argTypes⟩:=cl;unfold A6 at h;split at h
   ·rename_i so xo t t2 qc oa aaB;simp only at qc oa aaB;obtain rfl:args= #[so,xo]:=by grind
    obtain rfl:argTypes= #[t,t2]:=by grind
    subst qc;split at h
    ·rename_i e k by_ z ys ht hx;split at h
     ·rename_i vD;split at h
      ·rename_i h1 hs;split at h
       ·rename_i e' k' xs hl;simp only[anc,ao7]at h;obtain⟨rfl,rfl,rfl⟩:=h;obtain⟨⟨⟨rfl,rfl⟩,kj,rP⟩,h3,h4⟩:=hc;refine(adC ht vD hs hl rfl hx ⟨kj,rP⟩ h3 h4).mono ?_;rintro x s' ⟨rfl,rfl⟩;exact⟨b0,_,h'⟩
       grind
      ·rename_i hs;simp only[anc,ao7]at h;obtain⟨rfl,rfl,rfl⟩:=h;obtain⟨⟨kj,rP,FX⟩,h3,h4⟩:=hc;refine(Uq ht vD hs FX hx ⟨kj,rP⟩ h3 h4).mono ?_;rintro x s' ⟨rfl,rfl⟩;exact⟨b0,_,h'⟩
      grind
     grind
    grind
   grind
  grind
 grind
def kO:Option Nat->V->V
 | none,x=>x
 | some h,x=>x.kill h
def mF(k:Option Nat)(fr:List (Nat×V)):List (Nat×V):=fr.map λp=>(p.1,kO k p.2)
def vj(o:Oper):Bool:=
 match o.op with
 | .store .. | .makeSlice .. | .buildSlice .. | .slice .. | .alloc _|.box .. | .makeMap .. | .mapUpdate .. | .insert .. =>true
 | .call {callee:= .builtin .append,..}=>true
 | .call {callee:= .builtin .unsafeSliceData,..}=>true
 | .call {callee:= .builtin .unsafeString,..}=>true
 | _=>false
def gH(s:St)(o:Oper):Option Nat:=
 match o.op with
 | .slice _ x _ _ none=>match s.ev x with
   | .rv h=>some h
   | _=>none
 | .call {callee:= .builtin .unsafeSliceData,..}=>none
 | .call {callee:= .builtin .unsafeString,args,..}=>match args.toList with
   | [p,_]=>match s.ev p with
     | .ep h _ _ _=>some h
     | _=>none
   | _=>none
 | .call c=>match c.args.toList with
   | [so,_]=>match s.ev so with
     | .rv h=>some h
     | _=>none
   | _=>none
 | _=>none
theorem iw fr:mF none fr=fr:=by
 simp[mF,kO]
theorem Cp{s s2}:∀l j,(∀p∈l,s2.ev p.2=s.ev p.2)->qR s2 l j=qR s l j
 | [],j,_=>rfl
 | (i,x)::l,j,h=>by
   simp[qR];rw[h (i,x) apo,Cp l (j+1) (λp hp=>h p (apl _ hp))]
theorem zR{s}{o}{b}{x}{s'}{c}(hm:vj o=true)(h:fQ P s o b=some (x,s',c)) gB
  (he:∀z,z∈o.op.operands->St.ev ⟨gB,s.L⟩ z=s.ev z):fQ P ⟨gB,s.L⟩ o b=some (x,⟨mF (gH s o) gB,s'.L⟩,c):=by
 obtain⟨dst,op,ty,pos,after,guard⟩:=o;unfold fQ at h⊢;simp only at h he⊢;split at h
 ·simp only[gH,iw]at h⊢;split at h
  ·grind
  grind
 ·rename_i e xo;have e1:=he xo (by simp[Op.operands]);simp only[gH,iw,e1]at h⊢;split at h
  ·grind
  grind
 ·rename_i t ao xo;have e1:=he ao (by simp[Op.operands]);have e2:=he xo (by simp[Op.operands]);simp only[EN,e1,e2,gH,iw]at h⊢;split at h
  ·split at h
   ·split at h
    ·grind
    grind
   ·split at h
    ·grind
    grind
   grind
  grind
 ·rename_i t lo co;have e1:=he lo (by simp[Op.operands]);have e2:=he co (by simp[Op.operands]);split at h
  ·simp only[HZ,e1,e2,gH,iw]at h⊢;split at h
   ·grind
   grind
  grind
 ·rename_i t len ps;have e1:=Cp (s2:=⟨gB,s.L⟩) (s:=s) ps.toList 0 (λp hp=>he p.2 (by
   simp only[Op.operands,arD,apf];grind))
  split at h
  ·simp only[MX,e1,gH,iw]at h⊢;split at h
   ·grind
   grind
  grind
 ·rename_i t xo lo hi;have e1:=he xo (by simp[Op.operands]);have e2:lo.map (St.ev ⟨gB,s.L⟩)=lo.map s.ev:=by
   cases lo with
   | none=>rfl
   | some z=>simp_all[apB,Op.operands]
  have e3:hi.map (St.ev ⟨gB,s.L⟩)=hi.map s.ev:=by
   cases hi with
   | none=>rfl
   | some z=>simp_all[apB,Op.operands]
  simp only[MY,e1,e2,e3,gH]at h⊢;split at h
  ·rename_i hh e k hs hE;simp only[hs]at h⊢;split at h
   ·rename_i e' k' xs hl;split at h<;>first|(cases h;done)|(simp only[anc,ao7]at h;obtain⟨rfl,rfl,rfl⟩:=h;simp_all[St.kill,mF,kO])
   grind
  grind
 ·simp only[gH,iw]at h⊢;split at h
  ·grind
  grind
 ·rename_i t mo ko vo;have e1:=he mo (by simp[Op.operands]);have e2:=he ko (by simp[Op.operands]);have e3:=he vo (by simp[Op.operands]);simp only[sE,e1,e2,e3,gH,iw]at h⊢;split at h
  ·split at h
   ·grind
   grind
  grind
 ·rename_i t mo ko vo;have e1:=he mo (by simp[Op.operands]);have e2:=he ko (by simp[Op.operands]);have e3:=he vo (by simp[Op.operands]);simp only[sE,e1,e2,e3,gH,iw]at h⊢;split at h
  ·split at h
   ·grind
   grind
  grind
 ·rename_i args argTypes;simp only[gH,iw]at h⊢;split at h
  ·rename_i x ha;have e1:=he x (by simp only[Op.operands,Call.operands,aq9];right;rw[<-aqR,ha];simp);simp only[AA,e1]at h⊢;grind
  grind
 ·rename_i args argTypes;simp only[gH]at h⊢;split at h
  ·rename_i p l pt it ha ht;have e1:=he p (by simp only[Op.operands,Call.operands,aq9];right;rw[<-aqR,ha];simp);have e2:=he l (by simp only[Op.operands,Call.operands,aq9];right;rw[<-aqR,ha];simp);simp only[C9,e1,e2,ha]at h⊢;split at h
   ·rename_i hp _ _;simp only[hp]at h⊢;simp only[anc,ao7]at h;obtain⟨rfl,rfl,rfl⟩:=h;simp_all[iw]
   ·rename_i hp _ _;simp only[hp]at h⊢;split at h
    ·split at h
     ·simp only[anc,ao7]at h;obtain⟨rfl,rfl,rfl⟩:=h;rfl
     grind
    grind
   grind
  grind
 ·rename_i cl _ _;split at h
  ·simp only[A6]at h⊢;split at h
   ·rename_i so xo t t2 h1 h2 h3;have e1:=he so (by simp only[Op.operands,Call.operands,aq9];right;rw[<-aqR,h2];simp);have e2:=he xo (by simp only[Op.operands,Call.operands,aq9];right;rw[<-aqR,h2];simp);simp only[h1,h2,h3,e1,e2,gH]at h⊢;split at h
    ·split at h
     ·rename_i anG;split at h
      ·rename_i hh mC;simp only[mC]at h⊢;split at h
       ·simp only[anc,ao7]at h;obtain⟨rfl,rfl,rfl⟩:=h;simp_all[St.kill,mF,kO]
       grind
      ·rename_i mC;simp only[anc,ao7]at h;obtain⟨rfl,rfl,rfl⟩:=h;simp_all[iw]
      grind
     grind
    grind
   grind
  grind
 grind
theorem UQ{P}{s}{dst}{c}{ty}{pos}{after}{guard}{b}:
  fQ P s ⟨dst,.call c,ty,pos,after,guard⟩ (b+1)=fQ P s ⟨dst,.call c,ty,pos,after,guard⟩ 0:=by
 obtain⟨callee,args,SI⟩:=c;cases callee with
 | builtin bi=>cases bi<;>rfl
 | _=>rfl
theorem Db{o s x0 s0 c0}(h:fQ P s o 0=some (x0,s0,c0))(hc:c0):ry P n o s (λx s'=>x=x0/\s'=s0):=by
 have h':=h;obtain⟨dst,op,ty,pos,after,guard⟩:=o;unfold fQ at h;simp at h;split at h
 ·split at h
  ·rename_i e hh z hz;cases h;refine(Sn (λ_=>0) (λ_=> .inl rfl) hz hc).mono ?_;simp
  grind
 ·split at h
  ·rename_i e xo hh cs jV;cases h;refine(acV (λ_=>0) (λ_=> .inl rfl) jV hc).mono ?_;simp
  grind
 all_goals
  first
   | (cases h;done)
   | (refine(vh h' hc).mono ?_
      rintro x1 s1 ⟨b,c1,hb⟩;rw[UQ]at hb;grind)
   | (refine(vh h' hc).mono ?_
      rintro x1 s1 ⟨b,c1,hb⟩;have xQ:=h'.symm.trans (show _=some (x1,s1,c1)from hb);simp[anc,ao7]at xQ;exact⟨xQ.1.symm,xQ.2.1.symm⟩)
end
section
variable {P : Program} {w w' : World} {fo : FO} {m m' : Nat -> Option Value} {L : aI} {n : Nat} {s : St} {a : Act}
def nI(s:St):List Operand->Prop
 | []=>True
 | z::l=>(s.ev z).Cc/\nI s l
theorem sF{s}:∀{l},nI s l->∀z∈l,(s.ev z).Cc
 | [],_,z,h=>by cases h
 | y::l,h,z,hz=>by
   rcases apq.1 hz with rfl|hz
   ·exact h.1
   ·exact sF h.2 z hz
def JV:Operand->Operand->Bool
 | .tmp i,.tmp j=>i==j
 | _,_=>false
def Ob(s:St)(o:Oper)(z:Operand):V:=
 match o.op with
 | .pick c _ _=>if JV z c then(s.ev z).un else s.ev z
 | _=>(s.ev z).un
def gU(s:St)(o:Oper):Prop:=
 match o.op with
 | .pick c _ _=>(s.ev c).Cc
 | _=>nI s o.op.operands.toList
def UR:Option (V×Prop)->V
 | some (x,_)=>x
 | none=> .any
def US:Option (V×Prop)->Prop
 | some (_,c)=>c
 | none=>False
theorem JW{s o}(h:gU s o):∀z,z∈o.op.operands->∀w O m v,aC w O m v (s.ev z)->aC w O m v (Ob s o z):=by
 intro z hz w O m v hr;unfold gU at h;unfold Ob;split
 ·rename_i c a b aD;split
  ·rename_i hs;have:z=c:=by
    cases z<;>cases c<;>simp[JV]at hs<;>first|(rw[hs];done)|cases hs
   simp_all[vA]
  omega
 grind[vA,sF]
theorem Bd{r}(h:US r):∃c,r=some (UR r,c)/\c:=by
 cases r with
 | none=>exact h.elim
 | some p=>exact⟨p.2,rfl,h⟩
def Ik(s:St)(o:Oper):Bool:=
 match o.op with
 | .slice _ x _ _ _=>match s.ev x with
   | .rv _=>true
   | .gd _ (.rv _)=>true
   | _=>false
 | _=>vj o
def EU(P:Program)(ops:Array Oper)(s:St)(o:Oper):Option (St×Prop):=
 match fq ops s o with
 | some none=>match q2 P s.ev s.L o with
   | some (x,c)=>some (s.put o.dst x,c)
   | none=>none
 | some (some g)=>if Ik s o then none else some (s.put o.dst (.gd g (UR (q2 P (Ob s o) s.L o))),g=true->US (q2 P (Ob s o) s.L o)/\gU s o)
 | none=>none
theorem RD{ops s s'}{o:Oper}{c rest Q}(hd:∀d,o.dst=some d->d<n)(h:EU P ops s o=some (s',c))(hc:c)(k:ay P n ops rest s' Q):ay P n ops (o::rest) s Q:=by
 unfold EU at h;split at h
 ·rename_i hg;split at h
  ·rename_i x c' hx;cases h;exact ay.quiet (lg hg) hd (uM hx hc) k
  ·cases h
 ·rename_i b hg;split at h
  ·cases h
  ·cases h;refine ay.guarded hg hd (λhb=>?_) k;obtain⟨h1,h2⟩:=hc hb;obtain⟨c',h3,h4⟩:=Bd h1;exact⟨_,JW h2,uM h3 h4⟩
 ·cases h
def JX(o:Oper):List Nat:=o.op.operands.toList.filterMap λz=>match z with|.tmp t=>some t|_=>none
def Dc(s:St)(o:Oper):List (Nat×V):=(JX o).filterMap λt=>match s.get t with|.gd _ x=>some (t,x)|_=>none
def td(s:St)(o:Oper):St:=⟨Dc s o++s.fr,s.L⟩
theorem G.td{fo m s a w o}(g:G fo n m s a w)(hu:nI s o.op.operands.toList):G fo n m (td s o) a w:=by
 refine⟨g.size,λt x hx=>?_,g.inv,g.defers⟩;rcases apr.1 hx with hx|hx
 ·obtain⟨t',SJ,he⟩:=aqq.1 hx;obtain⟨z,hz,hze⟩:=aqq.1 SJ;have aiN:=sF hu _ hz;simp[St.ev]at aiN;split at he
  ·have hm:(t',s.get t')∈s.fr:=by
    grind[St.get,xx]
   obtain⟨h1,h2⟩:=g.fr _ _ hm;grind[ae1,V.Cc]
  grind
 ·exact g.fr t x hx
theorem aa4{s s' o b x c}(hm:vj o=true)(h:fQ P s o b=some (x,s',c)):s'.fr=mF (gH s o) s.fr:=by
 have:=zR hm h s.fr (λ_ _=>rfl);rw[show(⟨s.fr,s.L⟩:St)=s from rfl,h]at this;grind
theorem ay.Ik{ops}{o}{rest}{s}{Q}{b}(jC:fq ops s o=some (some b))(hd:∀d,o.dst=some d→d < n)
  (ht:b=true->∃b0 x s' c,fQ P (td s o) o b0=some (x,s',c)/\vj o=true/\nI s o.op.operands.toList/\c)
  (k:b=true->∀x s' b1 c,fQ P (td s o) o (b1+1)=some (x,s',c)->ay P n ops rest (St.put ⟨mF (gH (td s o) o) s.fr,s'.L⟩ o.dst (.gd true x)) Q)
  (kf:b=false->ay P n ops rest (s.put o.dst (.gd false .any)) Q):ay P n ops (o::rest) s Q:=by
 intro fo m0 w0 m a w st g;have hw:=nH g jC;cases b with
 | true=>
   obtain⟨b0,x0,s0,c0,h1,h2,h3,h4⟩:=ht rfl;obtain⟨nx,v,w',m',x,s',bz,sW,⟨b1,c1,Il⟩,hr,g',fK⟩:=vh h1 h4 fo m a w (g.td h3);have hZ:=aa4 h2 Il;have g2:G fo n m' ⟨mF (gH (Go.Ab.td s o) o) s.fr,s'.L⟩ a w':=by
    refine⟨g'.size,λt y hy=>g'.fr t y ?_,g'.inv,g'.defers⟩;rw[hZ];obtain⟨p,hp,he⟩:=apf.1 hy;exact apf.2 ⟨p,apO _ hp,he⟩
   exact s4 hw bz sW (k rfl x s' b1 c1 Il fo m0 w0 m' _ w' (st.trans fK) (g2.put hd (.gt _ _ hr)))
 | false=>
   unfold wpListIn;rw[if_neg (by grind)];exact⟨λ_ _=>trivial,kf rfl fo m0 w0 m _ w st (g.put hd (.gf _))⟩
variable {ops : Array Oper} {Q : AX -> St -> Prop}
mutual
def V.on(ks:List Nat):V->Bool
 | .bp h _=>ks.contains h
 | .rv h=>ks.contains h
 | .ep h _ _ _=>ks.contains h
 | .eS _ f c=>V.dK ks f&&V.dK ks c
 | .agg cs=>V.dK ks cs
 | .bA cs=>V.dK ks cs
 | .gd _ x=>V.on ks x
 | .d _=>true
 | .rp _=>true
 | .sv h _=>ks.contains h
 | .kn _=>true
 | .any=>true
def V.dK(ks:List Nat):List V->Bool
 | []=>true
 | x::l=>V.on ks x&&V.dK ks l
end
theorem fS{ks}:∀{l},V.dK ks l=true->∀x∈l,V.on ks x=true
 | [],_,x,h=>by cases h
 | y::l,h,x,hx=>by
   simp[V.dK]at h;rcases apq.1 hx with rfl|hx
   ·grind
   ·exact fS h.2 x hx
theorem EV ks:∀l:List D,V.dK ks (l.map V.d)=true
 | []=>rfl
 | x::l=>by simp[V.dK,V.on,EV]
def aV.on(ks:List Nat):aV->Bool
 | .box _ _ cs=>V.dK ks cs
 | .row _ _ xs=>xs.all (V.dK ks)
 | .env _=>true
 | .mp _=>true
theorem ag3 ks ys:(dd ys).all (V.dK ks)=true:=by
 simp[dd,EV]
theorem aC.on{O ks}(hm:∀h x,h∈ks->m h=some x->m' h=some x){x y}(hr:aC w O m x y)(ho:y.on ks=true):aC w O m' x y:=by
 induction hr with
 | d x y h=>exact .d x y h
 | bp h off b e=>exact .bp h off b (hm _ _ (by simp_all[V.on]) e)
 | rv h x e e1=>exact .rv h x (hm _ _ (by simp_all[V.on]) e) e1
 | ep h k i j b o n c e=>exact .ep h k i j b o n c (hm _ _ (by simp_all[V.on]) e)
 | rp b off cs f hb au hc hr=>exact .rp b off cs f hb au hc hr
 | sv h n b cap e hc hx=>exact .sv h n b cap (hm _ _ (by simp_all[V.on]) e) hc hx
 | eS fn first eh cf cc s1 s2 h1 h2 FA KJ=>
   simp[V.on]at ho;exact .eS fn first eh cf cc s1 s2 (λj x y hx hy=>FA j x y hx hy (fS ho.1 y (ape hy))) (λj x y hx hy=>KJ j x y hx hy (fS ho.2 y (ape hy)))
 | agg vs cs hs h1 h ih=>
   exact .agg vs cs hs h1 (λj x y hx hy=>ih j x y hx hy (fS ho y (ape hy)))
 | bA vs cs hs h ih=>
   exact .bA vs cs hs (λj x y hx hy=>ih j x y hx hy (fS ho y (ape hy)))
 | gt x y h ih=>exact .gt x y (ih (by simp_all[V.on]))
 | gf y=>exact .gf y
 | kn x Q h=>exact .kn x Q h
 | any x=>exact .any x
theorem aV.Holds.on{O ks}(hm:∀h x,h∈ks->m h=some x->m' h=some x){x}{r:aV}(hr:r.Holds w O m x)(ho:r.on ks=true):r.Holds w O m' x:=by
 cases r with
 | box b ty cs=>
   obtain⟨bb,km,cur,rfl,h1,h2,h3,h4⟩:=hr;exact⟨bb,km,cur,rfl,h1,h2,h3,λj v c hv hc=>(h4 j v c hv hc).on hm (fS ho c (ape hc))⟩
 | row ty k xs=>
   rcases hr with h|⟨b,off,cap,cur,rfl,h1,h2,h3,h4,h5,h6,h7⟩
   ·exact .inl h
   ·simp[aV.on]at ho;exact .inr ⟨b,off,cap,cur,rfl,h1,h2,h3,h4,h5,h6,λi j x y v hx hy hv=>(h7 i j x y v hx hy hv).on hm (fS (ho x (ape hx)) y (ape hy))⟩
 | env A=>exact hr
 | mp es=>exact hr
def St.on(ks:List Nat)(s:St):Bool:=s.fr.all (λp=>V.on ks p.2)&&s.L.all (λp=>aV.on ks p.2)
theorem Wk.drop{s'}(hf:∀p∈s'.fr,p∈s.fr)(hL:∀p∈s'.L,p∈s.L)(hn:(keys s'.L).Nodup)(ig:s'.on (keys s'.L)=true):Wk n s s':=by
 classical
 intro fo m a w g
 let m':=λh=>if h∈keys s'.L then m h else none
 have mE:∀h x,m' h=some x->m h=some x/\h∈keys s'.L:=by
  grind
 have Yi:∀h x,h∈keys s'.L->m h=some x->m' h=some x:=by
  grind
 have eW:∀b,own m' b->own m b:=by
  rintro b ⟨h,x,hx,hb⟩;exact⟨h,x,(mE h x hx).1,hb⟩
 have hO:∀b,b<w.heap.size->OO fo m' b->OO fo m b:=λb _ ho=>ho.imp (eW b) id
 simp only[St.on,apb,apd]at ig;refine⟨m',⟨g.size,?_,?_,g.defers⟩,⟨rfl,rfl,rfl,api _,λ_ _ _=>rfl,λb _ ho=>eW b ho⟩⟩
 ·intro t x hx;obtain⟨h1,h2⟩:=g.fr t x (hf _ hx);exact⟨h1,(h2.on Yi (ig.1 _ hx)).mono (bK.refl w _) hO (λ_ _ e=>e)⟩
 ·refine⟨hn,λh x hx=>(mE h x hx).2,?_,?_,g.inv.ei,?_,g.inv.ee.mono (bK.refl w _) hO⟩
  ·intro h h' x x' b hx cH hb dn;exact g.inv.apart h h' x x' b (mE h x hx).1 (mE h' x' cH).1 hb dn
  ·intro h x b hx hb;exact g.inv.others h x b (mE h x hx).1 hb
  ·intro h r hr;obtain⟨x,hx,hh⟩:=g.inv.holds h r (hL _ hr);have hk:h∈keys s'.L:=apf.2 ⟨_,hr,rfl⟩;exact⟨x,Yi h x hk hx,(hh.on Yi (ig.2 _ hr)).mono (λ_ _=>rfl) (bK.refl w _) hO (λ_ _ e=>e)⟩
theorem Wk.rem h:Wk n s (s.rem h):=by
 classical
 intro fo m a w g
 let m':=λi=>if i=h then none else m i
 have hm:∀i x,i≠h->m i=some x->m' i=some x:=λi x bR hx=>by grind
 have mE:∀i x,m' i=some x->i≠h/\m i=some x:=by
  grind
 have eW:∀b,own m' b->own m b:=by
  rintro b ⟨i,x,hx,hb⟩;exact⟨i,x,(mE i x hx).2,hb⟩
 have hO:∀b,b<w.heap.size->OO fo m' b->OO fo m b:=λb _ ho=>ho.imp (eW b) id
 have hi:=g.inv;have pJ:keys (St.rem h s).L=(keys s.L).filter (·!=h):=by
  simp[keys,St.rem,Ay,aqx];rw[List.filter_map];rfl
 refine⟨m',⟨g.size,?_,?_,g.defers⟩,⟨rfl,rfl,rfl,api _,λ_ _ _=>rfl,λb _ ho=>eW b ho⟩⟩
 ·intro t x hx;obtain⟨p,hp,he⟩:=apf.1 hx;cases he;obtain⟨h1,h2⟩:=g.fr p.1 p.2 hp;exact⟨h1,(h2.kill hm).mono (bK.refl w _) hO (λ_ _ e=>e)⟩
 ·have aa2:(St.rem h s).L=(s.L.filter λp=>p.1 !=h).map λp=>(p.1,p.2.kill h):=Ay h s.L
  refine⟨?_,?_,?_,?_,hi.ei,?_,hi.ee.mono (bK.refl w _) hO⟩
  ·rw[pJ];exact hi.nodup.sublist List.filter_sublist
  ·intro i x hx;rw[pJ,aqm];exact⟨hi.fI i x (mE i x hx).2,by grind⟩
  ·intro i j x y b hx hy hb dn;exact hi.apart i j x y b (mE i x hx).2 (mE j y hy).2 hb dn
  ·intro i x b hx hb;exact hi.others i x b (mE i x hx).2 hb
  ·intro i r hr;rw[aa2]at hr;obtain⟨p,hp,he⟩:=apf.1 hr;cases he;rw[aqm]at hp;obtain⟨x,hx,hh⟩:=hi.holds p.1 p.2 hp.1;have bR:p.1≠h:=by grind
   exact⟨x,hm _ _ bR hx,(hh.kill hm).mono (λ_ _=>rfl) (bK.refl w _) hO (λ_ _ e=>e)⟩
def Od:Op->Bool
 | .alloc _|.box .. | .makeSlice .. | .buildSlice .. | .makeMap .. =>true
 | _=>false
def St.Oe(s:St)(o:Oper):St:=
 match o.dst with
 | some h=>if Od o.op&&(keys s.L).contains h then s.rem h else s
 | none=>s
theorem Wk.Oe o:Wk n s (s.Oe o):=by
 grind[St.Oe,Wk.rem,Wk.refl]
theorem ay.weaken{ops l s' Q}(h:Wk n s s')(k:ay P n ops l s' Q):ay P n ops l s Q:=by
 intro fo m0 w0 m a w st g;obtain⟨m',g',fK⟩:=h fo m a w g;exact k fo m0 w0 m' a w (st.trans fK) g'
end
def aa5(P:Program)(s:St):ResultVar->Option (V×Prop)
 | .tmp t=>some (s.get t,True)
 | .cell a t=>EJ P s.L t (s.get a)
def vk(P:Program)(s:St):List ResultVar->Option (List V×Prop)
 | []=>some ([],True)
 | r::l=>match aa5 P s r,vk P s l with
   | some (x,c),some (xs,d)=>some (x::xs,c/\d)
   | _,_=>none
def Be:List V->V
 | [x]=>x
 | l=> .bA l
def MZ(tmps:Array Value)(r:ResultVar):Sem Value:=
 match r with
 | .tmp t=>pure (tmps.getD t undef)
 | .cell a t=>do loadVar t (<-asAddr (tmps.getD a undef))
theorem Im fn tmps:results fn tmps=(do let vs <-fn.results.mapM (MZ tmps);pure (if h:vs.size=1 then vs[0]else .tuple vs)):=rfl
def fb(P:Program)(rs:List ResultVar)(R:AE->aI->Prop)(x:AX)(s:St):Prop:=
 match x with
 | .normal | .ret=>match vk P s rs with
   | some (xs,c)=>c/\R (.ret (Be xs)) s.L
   | none=>False
 | .ix v=>R (.ix v) s.L
 | _=>False
theorem FY{P}{fo}{n}{m}{s}{a}{w}(g:G fo n m s a w):∀l {xs} {c},vk P s l=some (xs,c)→c→
  ∃vs:List Value,(l.mapM (MZ a.tmps)).run P w= .ok vs w/\vs.length=xs.length/\
   ∀(j:Nat) v x,vs[j]?=some v->xs[j]?=some x->aC w (OO fo m) m v x
 | [],xs,c,h,_=>by
   cases h;exact⟨[],by simp,rfl,by simp⟩
 | r::l,xs,c,h,hc=>by
   simp[vk]at h;split at h
   ·rename_i x c1 ys d h1 h2;cases h;obtain⟨vs,hv1,K9,hv3⟩:=FY g l h2 hc.2;have kA:∃v,(MZ a.tmps r).run P w= .ok v w/\aC w (OO fo m) m v x:=by
     cases r with
     | tmp t=>
       cases h1;exact⟨_,rfl,qQ g t⟩
     | cell ad t=>
       simp[aa5]at h1;obtain⟨v,hv,hr⟩:=FB h1 hc.1 g.inv (qQ g ad);have hp:∃p,a.tmps.getD ad undef= .pointer (some p):=by
        have rT:=qQ g ad;grind[EJ,xB,CD,CE]
       grind[MZ,Instr.loadAt,Instr.sureAddr,asAddr]
    obtain⟨v,hv,hr⟩:=kA;refine⟨v::vs,?_,by grind,?_⟩
    ·simp_all
    grind
   grind
theorem sr{P}{fo}{n}{m}{s}{a}{w}(g:G fo n m s a w){fn}{xs}{c}(h:vk P s fn.results.toList=some (xs,c))(hc:c):
  ∃v,(results fn a.tmps).run P w= .ok v w/\aC w (OO fo m) m v (Be xs):=by
 obtain⟨vs,h1,h2,h3⟩:=FY g _ h hc;rw[Im,Array.mapM_eq_mapM_toList];simp;rw[h1]
 match vs,xs,h2,h3 with
 | [v],[x],_,h3=>
   simpa[Be]using h3 0 v x rfl rfl
 | [],[],_,h3=>
   refine⟨.tuple #[],by simp,?_⟩;exact .bA _ _ rfl (by simp)
 | v1::v2::vs,x1::x2::xs,h2,h3=>
   refine⟨.tuple (v1::v2::vs).toArray,by simp,?_⟩;exact .bA _ _ (by omega) (λj v x hv hx=>h3 j v x (by grind) hx)
theorem G.others{fo n m s a w w'}(g:G fo n m s a w)(hs:w.heap.size<=w'.heap.size)(hb:∀b,b<w.heap.size->¬fo.f b->w'.heap[b]?=w.heap[b]?):G fo n m s a w':=by
 have hk:bK w (OO fo m) w':=⟨hs,λb h1 h2=>hb b h1 (λh=>h2 (.inr h))⟩
 refine⟨g.size,λt x hx=>⟨(g.fr t x hx).1,(g.fr t x hx).2.mono hk (λ_ _ h=>h) (λ_ _ h=>h)⟩,⟨g.inv.nodup,g.inv.fI,g.inv.apart,g.inv.others,λb hf=>apt (g.inv.ei b hf) hs,λh r hr=>?_,g.inv.ee.mono hk (λ_ _ h=>h)⟩,g.defers⟩;obtain⟨x,hx,hh⟩:=g.inv.holds h r hr;exact⟨x,hx,hh.mono (λb dn=>hb b (g.inv.lt hx dn) (g.inv.others h x b hx dn)) hk (λ_ _ h=>h) (λ_ _ h=>h)⟩
theorem Inv.less{fo fo' m L w}(h:∀b,fo'.f b->fo.f b)(hi:Inv fo m L w):Inv fo' m L w:=by
 refine⟨hi.nodup,hi.fI,hi.apart,λi x b hx hb hf=>hi.others i x b hx hb (h b hf),λb hf=>hi.ei b (h b hf),λi r hr=>?_,hi.ee.mono (bK.refl w _) (λb _ hb=>hb.imp id (h b))⟩;obtain⟨x,hx,hh⟩:=hi.holds i r hr;exact⟨x,hx,hh.mono (λ_ _=>rfl) (bK.refl w _) (λb _ hb=>hb.imp id (h b)) (λ_ _ h=>h)⟩
def nJ(w:World)(r:Nat)(o:Obj):World:={w with heap:=w.heap.setIfInBounds r o}
theorem jr w r o:(nJ w r o).heap.size=w.heap.size:=by simp[nJ]
theorem Ld{w r o}(h:r<w.heap.size):(nJ w r o).heap[r]?=some o:=by simp[nJ,h]
theorem qV{w r b o}(h:b≠r):(nJ w r o).heap[b]?=w.heap[b]?:=by simp[nJ,Ne.symm h]
theorem xV{P w r o}(h:w.heap[r]?=some o)(ho:∀c e f,o≠ .cells c e f):(getObj r).run P w= .ok o w:=by
 unfold getObj;simp[Sem.run];rw[h];cases o with
 | cells c e f=>exact(ho c e f rfl).elim
 | _=>rfl
theorem Bf{P w r o o'}(h:w.heap[r]?=some o)(ho:∀c e f,o≠ .cells c e f):(setObj r o').run P w= .ok () (nJ w r o'):=by
 unfold setObj;simp[Sem.run];rw[h];cases o with
 | cells c e f=>grind
 | _=>rfl
theorem tN{P}{fn}{n}{tmps}{R}{u}(hu:u≠ .run):∀(ms:List Nat) w,ms.Nodup→(∀r∈ms,w.heap[r]?=some (.deferred (some [])))→
  (∀w',w'.os=w.os->w'.tape=w.tape->w'.output=w.output->w.heap.size<=w'.heap.size->(∀b,b∉ms->w'.heap[b]?=w.heap[b]?)->LeavesInM Fence.wide n P fn tmps R [] u w')->LeavesInM Fence.wide n P fn tmps R (ms.map (λr=>⟨.collected r,#[]⟩)) u w
 | [],w,_,_,h=>h w rfl rfl rfl (api _) (λ_ _=>rfl)
 | r::ms,w,hn,hm,h=>by
   rw[ap0]at hn;refine⟨hu,.inl ⟨r,nJ w r (.deferred none),rfl,?_,?_⟩⟩
   ·simp_all[Instr.takeDeferred,xV,Bf]
   ·refine tN hu ms _ hn.2 (λr' tB=>?_) (λw' h1 h2 h3 h4 h5=>h w' h1 h2 h3 (apR (by simp[jr]) h4) (λb hb=>?_))
    ·have:r≠r':=λe=>hn.1 (e ▸ tB)
     simp_all[qV,Ne.symm]
    simp_all[qV]
theorem aE.adR{P}{f}{fn}{c}{args}{L}{R}(hf:P.funcs[f]?=some fn)(hb:fn.body=some c)(hn:args.length≤fn.ntmps)
  (h:av P fn.ntmps c ⟨eH 0 args,L⟩ (fb P fn.results.toList R)) {fo m w xs} (hD:fo.D=[]) (tO:fo.r=none) (AB:fo.nm=false) (hi:Inv fo m L w) (hx:ir w (OO fo m) m xs args):Calls P f xs w (mz fo m w R):=by
 refine callsIn_wide.1 (callsIn_of_wp_marks (n:=0) hf hb trivial ?_);have dW:(xs++Array.replicate (fn.ntmps-xs.size) undef).size=fn.ntmps:=by
  have:=hx.1;grind
 have g:G fo fn.ntmps m ⟨eH 0 args,L⟩ {tmps:=xs++Array.replicate (fn.ntmps-xs.size) undef,defers:=[]} w:=by
  refine⟨dW,?_,hi,hD.symm⟩;intro t y hy;obtain⟨h1,h2,h3⟩:=p7 hy;simp only[Nat.sub_zero,ap2]at h2 h3;refine⟨by omega,?_⟩;have au:t<xs.size:=by rw[hx.1];exact h3
  have:(xs++Array.replicate (fn.ntmps-xs.size) undef).getD t undef=xs[t]:=by
   simp[Array.getD,au];omega
  rw[this];exact hx.2 t _ y (apy au) h2
 have h0:=h fo m _ w (λ_=>⟨tO,AB⟩) g;rw[tO]at h0;refine Code.wpIn_mono (F:=Fence.wide) ?_ h0;rintro e a' w' ⟨ms,m',x,s',hm,hq,g',cH,st⟩;have xU:a'.defers=ms.map (λr=>⟨.collected r,#[]⟩):=by
  rw[g'.defers];simp[FO.mark,hD]
 have stp:∀w2:World,w2.os=w'.os→w2.tape=w'.tape→w2.output=w'.output→w'.heap.size≤w2.heap.size→(∀b,b∉ms→w2.heap[b]?=w'.heap[b]?)→
   G (fo.mark ms) fn.ntmps m' s' a' w2/\Inv fo m' s'.L w2/\Step w (own m) w2 (own m'):=by
  intro w2 h1 h2 h3 h4 h5;have g2:=g'.others h4 (λb _ hnf=>h5 b (λhb=>hnf (.inr hb)));refine⟨g2,g2.inv.less (λb hb=>Or.inl hb),⟨h1.trans st.os,h2.trans st.tape,h3.trans st.output,apR st.size h4,λb hb ho=>?_,st.owned⟩⟩;rw[h5 b (λYj=>by have:=(hm.2 b Yj).1;omega)];exact st.block b hb ho
 have less:∀{w2:World} {v:Value} {y:V},aC w2 (OO (fo.mark ms) m') m' v y->aC w2 (OO fo m') m' v y:=λh=>h.mono (bK.refl _ _) (λb _ hb=>hb.imp id Or.inl) (λ_ _ h=>h)
 have Of:∀(ys:List V) (c':Prop),vk P s' fn.results.toList=some (ys,c')->c'->R (.ret (Be ys)) s'.L->LeavesInM Fence.wide 0 P fn a'.tmps (mz fo m w R) a'.defers .returning w':=by
  intro ys c' hr hc hR;rw[xU];refine tN (by simp) ms w' hm.1.1 (λr hr=>(hm.2 r hr).2) (λw2 h1 h2 h3 h4 h5=>?_);obtain⟨g2,i2,oS⟩:=stp w2 h1 h2 h3 h4 h5;obtain⟨v,k1,k2⟩:=sr g2 hr hc;exact⟨v,k1,m',_,_,hR,less k2,i2,oS⟩
 cases e with
 | normal=>
   cases x<;>simp only[bG]at cH
   simp only[fb]at hq;split at hq
   ·rename_i ys c' hr;exact Of ys c' hr hq.1 hq.2
   grind
 | ret=>
   cases x<;>simp only[bG]at cH
   simp only[fb]at hq;split at hq
   ·rename_i ys c' hr;exact Of ys c' hr hq.1 hq.2
   grind
 | panic ch=>
   cases x<;>simp only[bG]at cH
   simp only[fb]at hq;show LeavesInM Fence.wide 0 P fn a'.tmps (mz fo m w R) a'.defers (.panicking ch) w';rw[xU];refine tN (by simp) ms w' hm.1.1 (λr hr=>(hm.2 r hr).2) (λw2 h1 h2 h3 h4 h5=>?_);obtain⟨g2,i2,oS⟩:=stp w2 h1 h2 h3 h4 h5;obtain⟨v,gM,rfl,hold,hv⟩:=cH;exact⟨m',_,_,hq,⟨v,gM,rfl,hold,less (hv.mono ⟨h4,λb hb ho=>h5 b (λYj=>ho (.inr (.inr Yj)))⟩ (λ_ _ h=>h) (λ_ _ h=>h))⟩,i2,oS⟩
 | exit i=>cases x<;>simp only[bG]at cH;exact hq.elim
 | goto i=>cases x<;>simp only[bG]at cH;exact hq.elim
 | outgrown=>simp_all[bG]
theorem aE.xW{P}{f}{fn}{c}{args}{L}{R}(hf:P.funcs[f]?=some fn)(hb:fn.body=some c)(hn:args.length≤fn.ntmps)
  (h:av P fn.ntmps c ⟨eH 0 args,L⟩ (fb P fn.results.toList R)):aE P f args L R:=by
 intro fo m w xs hi hx;have key:∀fo,fo.D=[]->fo.r=none->fo.nm=false->Inv fo m L w->ir w (OO fo m) m xs args->Calls P f xs w (mz fo m w R):=by
  grind[aE.adR]
 exact(key ⟨fo.f,[],none,false⟩ rfl rfl rfl ⟨hi.nodup,hi.fI,hi.apart,hi.others,hi.ei,hi.holds,hi.ee⟩ hx).mono λ_ _ ⟨m',r,L',h1,h2,h3,h4⟩=>⟨m',r,L',h1,h2,⟨h3.nodup,h3.fI,h3.apart,h3.others,h3.ei,h3.holds,h3.ee⟩,h4⟩
section
variable {P : Program} {w w' : World} {fo : FO} {m m' : Nat -> Option Value} {L : aI} {n : Nat} {s : St} {a : Act} {Q : AX -> St -> Prop}
def qi(P:Program)(o:Oper)(du:Operand->V)(L:aI)(x:V):Prop:=
 ∀fo m (ρ:Operand->Value) w,Inv fo m L w->(∀z,z∈o.op.operands->aC w (OO fo m) m (ρ z) (du z))->
  (∃v,(execOp ρ o).run P w= .ok (.value v) w/\aC w (OO fo m) m v x)\/
  ∃f args,(execOp ρ o).run P w= .ok (.enter f args) w/\Calls P f args w (λe w'=>∃v,e= .returned v/\aC w' (OO fo m) m v x/\Inv fo m L w'/\Step w (own m) w' (own m))
theorem qi.UT{o du x}(h:Xa P o du L x):qi P o du L x:=λfo m ρ w hi hr=> .inl (h fo m ρ w hi hr)
def enters(P:Program)(f:FuncId):Bool:=
 match P.funcs[f]? with
 | some fn=>fn.name != "runtime.NumGoroutine" && fn.body.isSome
 | none=>false
theorem xX{f}(h:enters P f=true) args w:(callFunc f args).run P w= .ok (.enter f args) w:=by
 unfold enters at h;split at h
 ·rename_i fn hf;cases hb:fn.body with
  | none=>grind
  | some c=>simp_all[callFunc]
 grind
def callee(ρ:Operand->V)(c:Call):Option (FuncId×List V):=
 match c.callee with
 | .value fo=>match ρ fo with
   | .eS (.func f) first eh=>some (f,first++c.args.toList.map ρ++eh)
   | _=>none
 | _=>none
theorem SL{x}{fn}{cf cc}{O}(hr:aC w O m x (.eS fn cf cc)):∃first eh:Array Value,x= .func fn first eh∧first.size=cf.length∧eh.size=cc.length∧
  (∀(j:Nat) x y,first[j]?=some x->cf[j]?=some y->aC w O m x y)/\(∀(j:Nat) x y,eh[j]?=some x->cc[j]?=some y->aC w O m x y):=by
 cases hr with
 | eS _ first eh _ _ s1 s2 h1 h2=>grind
theorem ir.append{O xs xs' ys ys'}(h:ir w O m xs ys)(h':ir w O m xs' ys'):ir w O m (xs++xs') (ys++ys'):=by
 refine⟨by simp[h.1,h'.1],λj x y hx hy=>?_⟩;rw[Array.getElem?_append]at hx;rw[aqs]at hy;rw[h.1]at hx;split at hx
 ·rename_i hj;rw[if_pos hj]at hy;exact h.2 j x y hx hy
 ·rename_i hj;rw[if_neg hj]at hy;exact h'.2 _ x y hx hy
theorem Og{ρ}{du}{O}(l:Array Operand)(h:∀z,z∈l→aC w O m (ρ z) (du z)):
  ∀(j:Nat) x y,(l.map ρ)[j]?=some x->(l.toList.map du)[j]?=some y->aC w O m x y:=by
 grind
theorem o9{o}{c}{ρ}{du}{f}{args}{O}(aD:o.op= .call c)(hc:callee du c=some (f,args))(he:enters P f=true)
  (hr:∀z,z∈o.op.operands->aC w O m (ρ z) (du z)):∃xs,(execOp ρ o).run P w= .ok (.enter f xs) w/\ir w O m xs args:=by
 unfold callee at hc;split at hc
 ·rename_i fop qc;split at hc
  ·rename_i f' first eh FI
   cases hc;have h1:=hr fop (by simp_all[Op.operands,Call.operands]);rw[FI]at h1;obtain⟨fa,ca,e,s1,s2,g1,g2⟩:=SL h1;refine⟨fa++c.args.map ρ++ca,?_,?_⟩
   ·simp_all[xX,execOp,resolve,Deferred.ofValue,invoke]
   ·refine(ir.append ⟨s1,g1⟩ ?_).append ⟨s2,g2⟩;refine⟨by simp,?_⟩;grind[Og,Op.operands,Call.operands]
  grind
 grind
theorem Inv.grown(hi:Inv fo m L w)(hs:w.heap.size<=w'.heap.size)(hb:∀b,b<w.heap.size->w'.heap[b]?=w.heap[b]?):Inv fo m L w':=by
 refine⟨hi.nodup,hi.fI,hi.apart,hi.others,λb hf=>apt (hi.ei b hf) hs,?_,hi.ee.mono ⟨hs,λb dn _=>hb b dn⟩ (λ_ _ e=>e)⟩;intro h r hr;obtain⟨x,hx,hh⟩:=hi.holds h r hr;exact⟨x,hx,hh.mono (λb gS=>hb b (hi.lt hx gS)) ⟨hs,λb dn _=>hb b dn⟩ (λ_ _ e=>e) (λ_ _ e=>e)⟩
def fR:Nat->Option Value:=λ_=>none
theorem gI b:¬own fR b:=by rintro⟨h,x,hx,_⟩;cases hx
theorem Inv.none_(hi:Inv fo m L w){gT}(hf:∀b,gT b->OO fo m b):Inv gT fR [] w:=
 ⟨by simp[keys],(by intro h x hx;cases hx),(by intro h h' x x' b hx;cases hx),(by intro h x b hx;cases hx),(λb hb=>hi.agU (hf b hb)),(by simp),hi.ee.mono (bK.refl w _) (λb _ hb=>hb.elim (λh=>(gI b h).elim) (hf b))⟩
theorem qi.call{o}{c}{du}{f}{args}{x}(aD:o.op= .call c)(hc:callee du c=some (f,args))(he:enters P f=true)(ho:V.dK [] args=true)(hx:x.on []=true)
  (h:aE P f args [] (λr _=>r= .ret x)):qi P o du L x:=by
 intro fo m ρ w hi hr;obtain⟨xs,h1,h2⟩:=o9 aD hc he hr;refine .inr ⟨f,xs,h1,?_⟩;have fC:ir w (OO (OO fo m) fR) fR xs args:=by
  refine⟨h2.1,λj v y hv hy=>?_⟩;have:=(h2.2 j v y hv hy).on (m':=fR) (by simp) (fS ho y (ape hy));exact this.mono (bK.refl w _) (λb _ hb=>hb.elim (λh=>(gI b h).elim) id) (λ_ _ e=>e)
 refine(h (OO fo m) fR w xs (hi.none_ λb hb=>hb) fC).mono ?_;rintro e w' ⟨m1,r,L',rfl,kK,cm,st⟩;cases e with
 | returned v=>
   refine⟨v,rfl,?_,hi.grown st.size (λb hb=>st.block b hb (gI b)),⟨st.os,st.tape,st.output,st.size,λb hb _=>st.block b hb (gI b),λb hb h=>h⟩⟩;have:=kK.on (m':=m) (by simp) hx;exact this.mono (bK.refl w' _) (λb _ hb=> .inr hb) (λ_ _ e=>e)
 | panicked ch=>simp_all[Ends]
 | outgrown=>simp_all[Ends]
theorem ay.Io{ops}{o:Oper}{rest x}(hg:o.guard=none)(hd:∀d,o.dst=some d->d<n)(h:qi P o s.ev s.L x)(k:ay P n ops rest (s.put o.dst x) Q):ay P n ops (o::rest) s Q:=by
 intro fo m0 w0 m a w st g;rcases h fo m a.eval w g.inv (λz _=>ck g z)with⟨v,bz,hr⟩|⟨f,args,bz,hc⟩
 ·exact s4 (by simp[Region.wanted,hg]) bz (.inl rfl) (k fo m0 w0 m _ w st (g.put hd hr))
 ·unfold wpListIn;rw[if_pos (by simp[Region.wanted,hg])];refine yP bz ?_;refine hc.mono ?_;rintro e w' ⟨v,rfl,hr,cm,fK⟩;have cQ:bK w (OO fo m) w':=⟨fK.size,λb hb ho=>fK.block b hb (λh=>ho (.inl h))⟩
  have g':G fo n m s a w':=⟨g.size,λt y hy=>⟨(g.fr t y hy).1,(g.fr t y hy).2.mono cQ (λ_ _ h=>h) (λ_ _ h=>h)⟩,cm,g.defers⟩
  exact k fo m0 w0 m _ w' (st.trans fK) (g'.put hd hr)
theorem ay.Oh{ops}{o}{rest}{b}{x}(jC:fq ops s o=some (some b))(hd:∀d,o.dst=some d→d < n)
  (h:b=true->∃du:Operand->V,(∀z,z∈o.op.operands->∀w O m v,aC w O m v (s.ev z)->aC w O m v (du z))/\qi P o du s.L x) (k:ay P n ops rest (s.put o.dst (.gd b x)) Q):ay P n ops (o::rest) s Q:=by
 intro fo m0 w0 m a w st g;have hw:=nH g jC;cases b with
 | true=>
   obtain⟨du,h1,h2⟩:=h rfl;rcases h2 fo m a.eval w g.inv (λz hz=>h1 z hz _ _ _ _ (ck g z))with⟨v,bz,hr⟩|⟨f,args,bz,hc⟩
   ·exact s4 hw bz (.inl rfl) (k fo m0 w0 m _ w st (g.put hd (.gt _ _ hr)))
   ·unfold wpListIn;rw[if_pos hw];refine yP bz ?_;refine hc.mono ?_;rintro e w' ⟨v,rfl,hr,cm,fK⟩;have cQ:bK w (OO fo m) w':=⟨fK.size,λb hb ho=>fK.block b hb (λh=>ho (.inl h))⟩
    have g':G fo n m s a w':=⟨g.size,λt y hy=>⟨(g.fr t y hy).1,(g.fr t y hy).2.mono cQ (λ_ _ h=>h) (λ_ _ h=>h)⟩,cm,g.defers⟩
    exact k fo m0 w0 m _ w' (st.trans fK) (g'.put hd (.gt _ _ hr))
 | false=>
   unfold wpListIn;rw[if_neg (by grind)];exact⟨λ_ _=>trivial,k fo m0 w0 m _ w st (g.put hd (.gf _))⟩
def kL(P:Program)(f:FuncId)(args:List V)(L:aI)(x:V):Prop:=∀(o:Oper) (c:Call) (du:Operand->V),o.op= .call c->callee du c=some (f,args)->qi P o du L x
def Bg(P:Program):Option (FuncId×List V)->aI->V->Prop
 | some (f,args),L,x=>kL P f args L x
 | none,_,_=>False
def wI(P:Program)(s:St)(o:Oper)(x:V):Prop:=
 match o.op with
 | .call c=>Bg P (callee s.ev c) s.L x
 | _=>False
def wJ(P:Program)(s:St)(o:Oper)(x:V):Prop:=
 nI s o.op.operands.toList/\match o.op with
 | .call c=>Bg P (callee (λz=>(s.ev z).un) c) s.L x
 | _=>False
theorem Bg.FZ{o c du x}(aD:o.op= .call c)(h:Bg P (callee du c) L x):qi P o du L x:=by
 cases hc:callee du c with
 | none=>rw[hc]at h;exact h.elim
 | some p=>
   rw[hc]at h;exact h o c du aD hc
theorem wI.FZ{o x}(h:wI P s o x):qi P o s.ev s.L x:=by
 grind[wI,Bg.FZ]
theorem wJ.FZ{o x}(h:wJ P s o x):∃du:Operand->V,(∀z,z∈o.op.operands->∀w O m v,aC w O m v (s.ev z)->aC w O m v (du z))/\qi P o du s.L x:=by
 unfold wJ at h;refine⟨λz=>(s.ev z).un,λz hz w O m v hr=>vA hr (sF h.1 z (by grind)),?_⟩;grind[Bg.FZ]
def rZ(o:Oper):Bool:=
 match o.op with
 | .call {callee:= .value _,..}=>true
 | _=>false
def xY(P:Program)(ops:Array Oper)(s:St)(o:Oper)(us:List V):Option (St×Prop×List V):=
 match us with
 | []=>none
 | x::us=>match fq ops s o with
   | some none=>some (s.put o.dst x,wI P s o x,us)
   | some (some g)=>some (s.put o.dst (.gd g x),g=true->wJ P s o x,us)
   | none=>none
def eM(P:Program)(ops:Array Oper):List Oper->St->(Nat->Nat)->List V->(St->List Oper->Prop)->Prop
 | [],s,_,_,K=>K s []
 | o::rest,s,bs,us,K=>
   if rZ o then
    match xY P ops s o us with
    | some (s',c,kM)=>c/\eM P ops rest s' bs kM K
    | none=>K s (o::rest)
   else
   match EU P ops s o with
   | some (s',c)=>c/\eM P ops rest s' bs us K
   | none=>
     match fq ops s o with
     | some none=>match fQ P (s.Oe o) o (bs 0+1)with
       | some (x,s',c)=>c/\eM P ops rest (s'.put o.dst x) (λi=>bs (i+1)) us K
       | none=>K s (o::rest)
     | some (some true)=>match fQ P (td s o) o (bs 0+1)with
       | some (x,s',c)=>(vj o=true/\nI s o.op.operands.toList/\c)/\eM P ops rest (St.put ⟨mF (gH (td s o) o) s.fr,s'.L⟩ o.dst (.gd true x)) (λi=>bs (i+1)) us K
       | none=>K s (o::rest)
     | some (some false)=>eM P ops rest (s.put o.dst (.gd false .any)) bs us K
     | none=>K s (o::rest)
def KK(P:Program)(n:Nat)(ops:Array Oper)(Q:AX->St->Prop)(s:St):List Oper->Prop
 | []=>Q .normal s
 | r=>ay P n ops r s Q
theorem afb{ops r}(h:KK P n ops Q s r):ay P n ops r s Q:=by
 cases r with
 | nil=>exact ay.nil h
 | cons o r=>exact h
def dG(n:Nat)(l:List Oper):Bool:=l.all λo=>match o.dst with|some d=>decide (d<n)|none=>true
theorem bq{ops}:∀l s us,dG n l=true→
  (∀bs,eM P ops l s bs us (KK P n ops Q))->ay P n ops l s Q
 | [],s,us,_,h=>afb (h (λ_=>0))
 | o::rest,s,us,hd,h=>by
   have y8:∀d,o.dst=some d->d<n:=by
    intro d uH;simp_all[dG,arC,apb]
   have ns:dG n rest=true:=by
    simp_all[dG,arC,apb]
   have h0:=h (λ_=>0);rw[eM]at h0;split at h0
   ·rename_i pS;split at h0
    ·rename_i s' c kM jV;have bS:∀bs,c/\eM P ops rest s' bs kM (KK P n ops Q):=by
      simp_all[eM,if_pos]
     have ac2:=bq rest s' kM ns (λbs=>(bS bs).2);have hc:=h0.1;unfold xY at jV;split at jV
     ·cases jV
     ·split at jV
      ·rename_i hg;cases jV;exact ay.Io (lg hg) y8 (wI.FZ hc) ac2
      ·rename_i g hg;cases jV;exact ay.Oh hg y8 (λhb=>wJ.FZ (hc hb)) ac2
      ·cases jV
    ·exact h0
   ·rename_i pS;split at h0
    ·rename_i s' c hq;have bS:∀bs,c/\eM P ops rest s' bs us (KK P n ops Q):=by
      simp_all[eM,if_neg]
     exact RD y8 hq h0.1 (bq rest s' us ns (λbs=>(bS bs).2))
    ·rename_i hq;split at h0
     ·rename_i Oi;split at h0
      ·rename_i x0 s0 c0 hl;have bS:∀(bs:Nat->Nat) (x:V) (s':St) (c:Prop),fQ P (s.Oe o) o (bs 0+1)=some (x,s',c)->c/\eM P ops rest (s'.put o.dst x) (λi=>bs (i+1)) us (KK P n ops Q):=by
        intro bs x s' c hb;have:=h bs;simp_all[eM,if_neg]
       refine ay.weaken (Wk.Oe o) (ay.lH (lg Oi) y8 (vh hl h0.1) ?_);rintro x s' ⟨b,c,hb⟩;exact bq rest _ us ns (λbs=>(bS (λi=>match i with|0=>b|i+1=>bs i) x s' c hb).2)
      ·exact h0
     ·rename_i Oi;split at h0
      ·rename_i x0 s0 c0 hl;have bS:∀(bs:Nat->Nat) (x:V) (s':St) (c:Prop),fQ P (td s o) o (bs 0+1)=some (x,s',c)->(vj o=true/\nI s o.op.operands.toList/\c)/\eM P ops rest (St.put ⟨mF (gH (td s o) o) s.fr,s'.L⟩ o.dst (.gd true x)) (λi=>bs (i+1)) us (KK P n ops Q):=by
        intro bs x s' c hb;have:=h bs;simp_all[eM,if_neg]
       refine ay.Ik Oi y8 (λ_=>⟨_,x0,s0,c0,hl,h0.1⟩) (λ_ x s' b c hb=>?_) (λh=>by cases h);exact bq rest _ us ns (λbs=>(bS (λi=>match i with|0=>b|i+1=>bs i) x s' c hb).2)
      ·exact h0
     ·rename_i Oi;have bS:∀bs,eM P ops rest (s.put o.dst (.gd false .any)) bs us (KK P n ops Q):=by
       intro bs;have:=h bs;rw[eM,if_neg pS,hq]at this;simp only[Oi]at this;exact this
      exact ay.Ik Oi y8 (λh=>by cases h) (λh=>by cases h) (λ_=>bq rest _ us ns bS)
     ·exact h0
def cW(P:Program)(n:Nat):Code->St->(AX->St->Prop)->Prop
 | .skip,s,Q=>Q .normal s
 | .seq x y,s,Q=>cW P n x s (AX.then (λs'=>cW P n y s' Q) Q)
 | .cond c x y,s,Q=>match s.ev c with
   | oD b=>(b=true->cW P n x s Q)/\(b=false->cW P n y s Q)
   | _=>False
 | .block id c,s,Q=>cW P n c s (AX.inBlock id Q)
 | .exit id,s,Q=>Q (.exit id) s
 | .ret,s,Q=>Q .ret s
 | .region id ops draw,s,Q=>if draw then av P n (.region id ops draw) s Q else dG n ops.toList=true/\∀bs,eM P ops ops.toList s bs [] (KK P n ops Q)
 | c,s,Q=>av P n c s Q
theorem AX.Yk{f g Q Q'}(h:∀s,f s->g s)(hq:∀x s,Q x s->Q' x s) x s(hx:AX.then f Q x s):AX.then g Q' x s:=by
 cases x<;>simp[AX.then]at hx⊢<;>first|exact h _ hx|exact hq _ _ hx
theorem xZ{r id ops Q a w}(h:wpListIn (wr r) 0 P ops Q ops.toList a w):(Code.region id ops false).wpIn (wr r) 0 P Q a w:=wpIn_region_list h
theorem ef:∀c s Q,cW P n c s Q->av P n c s Q
 | .skip,s,Q,h=>av.skip h
 | .seq x y,s,Q,h=>av.seq (av.mono (ef x s _ h) (AX.Yk (λs' h'=>ef y s' Q h') (λ_ _ h=>h)))
 | .cond c x y,s,Q,h=>by
   simp[cW]at h;split at h
   ·rename_i b hb;exact av.cond hb (λhb=>ef x s Q (h.1 hb)) (λhb=>ef y s Q (h.2 hb))
   ·exact h.elim
 | .block id c,s,Q,h=>av.block (ef c s _ h)
 | .exit id,s,Q,h=>av.exit h
 | .ret,s,Q,h=>av.ret h
 | .region id ops draw,s,Q,h=>by
   simp[cW]at h;split at h
   ·exact h
   ·have:draw=false:=by grind
    subst this;intro fo m a w _ g;exact xZ (bq ops.toList s [] h.1 h.2 fo m w m a w (Step.refl w _) g)
 | .loop c,s,Q,h=>h
 | .rangeFunc ..,s,Q,h=>h
 | .scope c,s,Q,h=>h
 | .label l,s,Q,h=>h
 | .goto l,s,Q,h=>h
 | .refuse _,s,Q,h=>h
end
section
variable {P : Program} {n : Nat} {Q : AX -> St -> Prop}
def r6(P:Program)(ops:Array Oper)(o:Oper)(s:St)(x:V):Prop:=
 ∀fo m (a:Act) w,Inv fo m s.L w->(∀t,t∈o.looksAt ops->aC w (OO fo m) m (a.tmps.getD t undef) (s.get t))->
  ∀(next:Act->World->Prop) (Q':Exit->Act->World->Prop),(∀v w',aC w' (OO fo m) m v x->Inv fo m s.L w'->Step w (own m) w' (own m)->next (a.put o.dst v) w')->
   if Region.wanted o (yielded ops a.tmps)then o.wpIn (wr fo.r) 0 P a w next Q' else next (a.put o.dst undef) w
theorem vU{s:St}{w fo m}{a:Act}{z:Operand}(hgb:vd w (OO fo m))(h:∀t,z= .tmp t->aC w (OO fo m) m (a.tmps.getD t undef) (s.get t)):aC w (OO fo m) m (a.eval z) (s.ev z):=by
 cases z with
 | tmp t=>exact h t rfl
 | const v=>
   simp[St.ev];unfold EH;split
   ·rename_i h;exact .d _ _ (.v _ h)
   ·exact .any _
 | global i=>exact Nf hgb i
 | func f=>exact .eS _ _ _ _ _ rfl rfl (by simp) (by simp)
theorem kE{ops}{o:Oper}{t}(h:Operand.tmp t∈o.op.operands):t∈o.looksAt ops:=by
 refine apr.2 (.inl (aqq.2 ⟨.tmp t,by grind,rfl⟩))
theorem Yl{o}{du}{L}{x}(h:qi P o du L x){fo}{m}{a}{w}(hi:Inv fo m L w)(hr:∀z,z∈o.op.operands→aC w (OO fo m) m (a.eval z) (du z))
  {next Q'} (k:∀v w',aC w' (OO fo m) m v x->Inv fo m L w'->Step w (own m) w' (own m)->next (a.put o.dst v) w'):o.wpIn (wr fo.r) 0 P a w next Q':=by
 rcases h fo m a.eval w hi hr with⟨v,bz,tB⟩|⟨f,args,bz,hc⟩
 ·exact xb bz (.inl rfl) (k v w tB hi (Step.refl w _))
 ·refine yP bz ?_;refine hc.mono ?_;grind
theorem y9{ops o s x}(hg:o.guard=none)(h:qi P o s.ev s.L x):r6 P ops o s x:=by
 intro fo m a w hi hs next Q' k
 rw[if_pos (by simp[Region.wanted,hg])];exact Yl h hi (λz hz=>vU hi.ee (λt ht=>hs t (kE (by grind)))) k
theorem zc{ops}{o}{s}{x}{b}(jC:fq ops s o=some (some b))
  (h:b=true->∃du:Operand->V,(∀z,z∈o.op.operands->∀w O m v,aC w O m v (s.ev z)->aC w O m v (du z))/\qi P o du s.L x):r6 P ops o s (.gd b x):=by
 intro fo m a w hi hs next Q' k
 have hw:=sn hs jC;cases b with
 | true=>
   obtain⟨du,h1,h2⟩:=h rfl;rw[if_pos hw];exact Yl h2 hi (λz hz=>h1 z hz _ _ _ _ (vU hi.ee (λt ht=>hs t (kE (by grind))))) (λv w' hr=>k v w' (.gt _ _ hr))
 | false=>
   rw[if_neg (by grind)];exact k undef w (.gf _) hi (Step.refl w _)
def uT(P:Program)(ops:Array Oper):List Oper->St->List V->(St->Prop)->Prop
 | [],s,_,K=>K s
 | o::rest,s,us,K=>
   if rZ o then
    match xY P ops s o us with
    | some (s',c,kM)=>c/\uT P ops rest s' kM K
    | none=>False
   else
   match EU P ops s o with
   | some (s',c)=>c/\uT P ops rest s' us K
   | none=>False
inductive Trace(P:Program) (ops:Array Oper):List Oper->St->List (St×V)->St->Prop
 | nil (s:St):Trace P ops [] s [] s
 | cons {o:Oper} {rest:List Oper} {s:St} {x:V} {l:List (St×V)} {s':St} (h:r6 P ops o s x) (k:Trace P ops rest (s.put o.dst x) l s'):Trace P ops (o::rest) s ((s,x)::l) s'
theorem qW{ops K}:∀l s us,uT P ops l s us K->∃tr s',Trace P ops l s tr s'/\K s'
 | [],s,us,h=>⟨[],s,.nil s,h⟩
 | o::rest,s,us,h=>by
   rw[uT]at h;split at h
   ·split at h
    ·rename_i s' c kM jV;obtain⟨tr,s1,h1,h2⟩:=qW rest s' kM h.2;have hc:=h.1;unfold xY at jV;split at jV
     ·grind
     ·split at jV
      ·rename_i hg;cases jV;exact⟨_,_,.cons (y9 (lg hg) (wI.FZ hc)) h1,h2⟩
      ·rename_i g hg;cases jV;exact⟨_,_,.cons (zc hg (λhb=>wJ.FZ (hc hb))) h1,h2⟩
      grind
    grind
   ·split at h
    ·rename_i s' c hq;obtain⟨tr,s1,h1,h2⟩:=qW rest s' us h.2;have hc:=h.1;unfold EU at hq;split at hq
     ·rename_i hg;split at hq
      ·rename_i x c' hx;cases hq;exact⟨_,_,.cons (y9 (lg hg) (.UT (uM hx hc))) h1,h2⟩
      grind
     ·rename_i b hg;split at hq
      ·cases hq
      ·cases hq;refine⟨_,_,.cons (zc hg (λhb=>?_)) h1,h2⟩;obtain⟨k1,k2⟩:=hc hb;obtain⟨c',h3,h4⟩:=Bd k1;exact⟨_,JW k2,.UT (uM h3 h4)⟩
     grind
    grind
def writes(ops:List Oper)(t:Tmp):Option Nat:=ops.findIdx? λo=>o.dst==some t
def indep(ops:List Oper):Bool:=
 (ops.zipIdx.all λ(o,i)=>
  (match o.dst with|some d=>writes ops d==some i|none=>true) &&
  (o.after.toList.all λe=>!Region.binds .any e||decide (e.on<i)) &&
  ((o.looksAt ops.toArray).all fun t=>match writes ops t with
    | none=>true
    | some j=>if j < i then o.after.toList.any fun e=>Region.binds .any e && e.on==j
      else decide (i<j)&&(match ops[j]? with|some oj=>oj.after.toList.any λe=>Region.binds .any e&&e.on==i|none=>false)))
theorem Trace.len{ops l s s' tr}(h:Trace P ops l s tr s'):tr.length=l.length/\s'.L=s.L:=by
 induction h with
 | nil s=>simp
 | @cons o rest s x l s' h k ih=>
   refine⟨by grind,ih.2.trans ?_⟩;unfold St.put;grind
theorem Trace.at{ops l s s' tr}(h:Trace P ops l s tr s'):∀(i:Nat) si xi,tr[i]?=some (si,xi)->si.L=s.L/\∃o:Oper,l[i]?=some o/\r6 P ops o si xi:=by
 induction h with
 | nil s=>simp
 | @cons o rest s x l s' h k ih=>
   intro i si xi hi;cases i with
   | zero=>
     grind
   | succ i=>
     obtain⟨h1,h2⟩:=ih i si xi hi;refine⟨h1.trans ?_,h2⟩;unfold St.put;grind
theorem Dd{t d}(h:t≠d):∀l:List (Nat×V),eU t (vQ d l)=eU t l
 | []=>rfl
 | (k,x)::l=>by
   rw[vQ,eU];split
   ·rename_i hk;subst hk;rw[if_neg (λe=>h e.symm)];exact Dd h l
   ·rw[eU,Dd h l]
theorem adS{s:St}{o x t}(h:o≠some t):(s.put o x).get t=s.get t:=by
 cases o with
 | none=>rfl
 | some d=>
   have bR:t≠d:=λe=>h (by rw[e])
   simp_all[St.put,St.get,eU,Dd]
theorem Oj{s:St}{x t}:(s.put (some t) x).get t=x:=by simp[St.put,St.get,eU]
theorem Trace.pb{ops l s s' tr}(h:Trace P ops l s tr s')(t:Nat):∀i si xi,tr[i]?=some (si,xi)->(∀(j:Nat) o,j<i->l[j]?=some o->o.dst≠some t)->si.get t=s.get t:=by
 induction h with
 | nil s=>simp
 | @cons o rest s x l s' h k ih=>
   intro i si xi hi hn;cases i with
   | zero=>
     grind
   | succ i=>
     rw[ih i si xi hi (λj o' hj ho=>hn (j+1) o' (by omega) (by grind)),adS (hn 0 o (by omega) rfl)]
theorem Trace.EW{ops}{l}{s s'}{tr}(h:Trace P ops l s tr s')(t:Nat):∀i j si xi sj xj (o:Oper),tr[i]?=some (si,xi)→j < i→tr[j]?=some (sj,xj)→l[j]?=some o→o.dst=some t→
  (∀(j':Nat) o',j<j'->j'<i->l[j']?=some o'->o'.dst≠some t)->si.get t=xj:=by
 induction h with
 | nil s=>simp
 | @cons o rest s x l s' h k ih=>
   intro i j si xi sj xj o' hi zd hj ho hd hn;cases i with
   | zero=>omega
   | succ i=>
     cases j with
     | zero=>
       rw[k.pb t i si xi hi (λj' o' tP iC=>hn (j'+1) o' (by omega) (by omega) (by grind))];simp_all[Oj]
     | succ j=>
       exact ih i j si xi sj xj o' hi (by omega) hj ho hd (λj' lX h1 h2 h3=>hn (j'+1) lX (by omega) (by omega) (by grind))
theorem adT{s:St}{d x p}(h:p∈(s.put d x).fr):(d=some p.1/\x=p.2)\/(p∈s.fr/\d≠some p.1):=by
 cases d with
 | none=>exact .inr ⟨h,by simp⟩
 | some d=>
   simp[St.put]at h;rcases h with rfl|h
   ·simp
   grind[sB,Option.some.inj]
theorem Trace.mem{ops l s s' tr}(h:Trace P ops l s tr s'):∀p,p∈s'.fr->(∃(j:Nat) (o:Oper) (sj:St),l[j]?=some o/\o.dst=some p.1/\tr[j]?=some (sj,p.2))\/(p∈s.fr/\∀(j:Nat) o,l[j]?=some o->o.dst≠some p.1):=by
 induction h with
 | nil s=>simp
 | @cons o rest s x l s' h k ih=>
   intro p hp;rcases ih p hp with⟨j,o',sj,h1,h2,h3⟩|⟨h1,h2⟩
   ·exact .inl ⟨j+1,o',sj,by grind,h2,by grind⟩
   ·rcases adT h1 with⟨hd,hx⟩|⟨h3,h4⟩
    ·exact .inl ⟨0,o,s,rfl,hd,by grind⟩
    grind
theorem pc{ops t j}(h:writes ops t=some j):∃o,ops[j]?=some o/\o.dst=some t:=by
 grind[writes,List.findIdx?_eq_some_iff_getElem,List.getElem?_eq_getElem]
theorem nc{ops t}(h:writes ops t=none){j:Nat}{o}(hj:ops[j]?=some o):o.dst≠some t:=by
 grind[writes,List.findIdx?_eq_none_iff,List.mem_of_getElem?]
theorem nd{ops}(h:indep ops=true){i}{o}(hi:ops[i]?=some o):
  (∀d,o.dst=some d->writes ops d=some i)/\(∀e∈o.after,Region.binds .any e=true->e.on<i)/\
  ∀t∈o.looksAt ops.toArray,∀j,writes ops t=some j->(j<i/\∃e∈o.after,Region.binds .any e=true/\e.on=j)\/(i<j/\∃oj,ops[j]?=some oj/\∃e∈oj.after,Region.binds .any e=true/\e.on=i):=by
 unfold indep at h;rw[apd]at h;have hm:(o,i)∈ops.zipIdx:=by
  grind
 have:=h _ hm;simp only[apb,apd]at this;obtain⟨⟨h1,h2⟩,h3⟩:=this;refine⟨?_,?_,?_⟩
 ·grind
 ·grind
 ·intro t ht j hj;have:=h3 t ht;rw[hj]at this;simp only at this;split at this
  ·grind
  ·right;simp only[apb,decide_eq_true_eq]at this;obtain⟨h4,h5⟩:=this;split at h5
   ·rename_i oj fe;rw[aqI]at h5;grind
   grind
structure Mid(fo:FO) (m:Nat->Option Value) (m0:Nat->Option Value) (w0:World) (n:Nat) (l:List Oper) (s:St) (tr:List (St×V)) (listed:Array Bool) (a:Act) (w:World):Prop where
 size:a.tmps.size=n
 defers:a.defers=fo.D
 inv:Inv fo m s.L w
 step:Step w0 (own m0) w (own m)
 De:listed.size=l.length
 done:∀(j:Nat) (o:Oper) (sj:St) (xj:V) (d:Nat),l[j]?=some o->tr[j]?=some (sj,xj)->o.dst=some d->listed.getD j false=true->aC w (OO fo m) m (a.tmps.getD d undef) xj
 todo:∀t,(∀(j:Nat) (o:Oper),l[j]?=some o->o.dst=some t->listed.getD j false=false)->aC w (OO fo m) m (a.tmps.getD t undef) (s.get t)
 rest:∀p,p∈s.fr->(∀(j:Nat) (o:Oper),l[j]?=some o->o.dst≠some p.1)->aC w (OO fo m) m (a.tmps.getD p.1 undef) p.2
 closed:∀(j:Nat) (o:Oper),l[j]?=some o->listed.getD j false=true->∀e∈o.after,Region.binds .any e=true->listed.getD e.on false=true
theorem qX{listed:Array Bool}{i b c}(h:i<listed.size):listed.getD i b=listed.getD i c:=by grind
theorem wK{R:Exit→Act→World→Prop}{l:List Oper}{s s':St}{tr:List (St×V)}(ht:Trace P l.toArray l s tr s')(cp:indep l=true)(hd:dG n l=true){fo:FO}{m m0:Nat→Option Value}{w0:World}
  (aiO:∀a w,G fo n m s' a w->Step w0 (own m0) w (own m)->R .normal a w)
  (hZ:∀p,p∈s.fr->p.1<n):
  ∀(fuel:Nat) (listed:Array Bool) (un:List Nat) (a:Act) (w:World),un.length<=fuel->(∀i,i<l.length->listed.getD i false=false->i∈un)->
   Mid fo m m0 w0 n l s tr listed a w->wpAnyIn (wr fo.r) 0 P .any l.toArray R fuel listed a w:=by
 have Ol:∀(i:Nat) (o:Oper) (d:Nat),l[i]?=some o->o.dst=some d->d<n:=by
  intro i o d hi ho;unfold dG at hd;rw[apd]at hd;have:=hd o (ape hi);rw[ho]at this;simpa using this
 obtain⟨hlen,hL⟩:=ht.len;have Ip:∀i:Nat,i<l.length->∃(si:St) (xi:V),tr[i]?=some (si,xi):=by
  intro i hi;exact⟨_,_,akC (by omega)⟩
 have fin:∀(listed:Array Bool) (a:Act) (w:World),(∀i,i<l.length->listed.getD i false=true)->Mid fo m m0 w0 n l s tr listed a w->R .normal a w:=by
  intro listed a w bS M;refine aiO a w ⟨M.size,?_,by rw[hL];exact M.inv,M.defers⟩ M.step;intro t x hx;rcases ht.mem (t,x) hx with⟨j,o,sj,h1,h2,h3⟩|⟨h1,h2⟩
  ·exact⟨Ol j o t h1 h2,M.done j o sj x t h1 h3 h2 (bS j (apa.1 h1).1)⟩
  ·exact⟨hZ _ h1,M.rest _ h1 h2⟩
 have Dj:∀(listed:Array Bool),listed.size=l.length→(∀(j:Nat) (o:Oper),l[j]?=some o→listed.getD j false=true→∀e∈o.after,Region.binds .any e=true→listed.getD e.on false=true)→
   Region.ready .any l.toArray listed=[]->∀i,i<l.length->listed.getD i false=true:=by
  intro listed dW _ hr i
  induction i using Nat.strongRecOn with
  | _ i ih=>
    intro hi;cases hb:listed.getD i false with
    | true=>rfl
    | false=>
      exfalso;have fm:i∈Region.ready .any l.toArray listed:=by
       refine mem_ready.2 ⟨by rw[qX (c:=false) (by omega)];exact hb,l[i],by simp[hi],λe he iE=>?_⟩;have:=(nd cp (akC hi)).2.1 e he iE;exact ih e.on this (by omega)
      rw[hr]at fm;cases fm
 intro fuel
 induction fuel with
 | zero=>
   intro listed un a w hun bS M;have h0:∀i,i<l.length->listed.getD i false=true:=by
    intro i hi;cases hb:listed.getD i false with
    | true=>rfl
    | false=>have h9:=bS i hi hb;have h8:un=[]:=aqa (by omega);rw[h8]at h9;cases h9
   refine⟨?_,fin listed a w h0 M⟩;rw[aqn];intro j hj;obtain⟨h1,o,h2,_⟩:=mem_ready.1 hj;have Ii:j<l.length:=by have:=(apn.1 h2).1;simpa using this
   rw[qX (c:=false) (by have:=M.De;omega)]at h1;rw[h0 j Ii]at h1;cases h1
 | succ fuel ih=>
   intro listed un a w hun bS M;refine⟨λhr=>fin listed a w (Dj listed M.De M.closed hr) M,?_⟩;intro i hi;obtain⟨h1,o,h2,h3⟩:=mem_ready.1 hi;have kr:i<l.length:=by have:=(apn.1 h2).1;simpa using this
   have ti:l[i]?=some o:=by simpa using h2
   rw[qX (c:=false) (by have:=M.De;omega)]at h1;obtain⟨si,xi,rK⟩:=Ip i kr;obtain⟨hsL,o',iC,hy⟩:=ht.at i si xi rK;rw[ti]at iC;obtain rfl:=ao9 iC;obtain⟨i1,i2,i3⟩:=nd cp ti;have uniq:∀(t:Nat) (j:Nat) (lX:Oper),l[j]?=some lX->lX.dst=some t->writes l t=some j:=λt j lX hj hd=>(nd cp hj).1 t hd
   have Om:∀t,t∈o.looksAt l.toArray->aC w (OO fo m) m (a.tmps.getD t undef) (si.get t):=by
    intro t Av;cases hw:writes l t with
    | none=>
      rw[ht.pb t i si xi rK (λj lX _ hj=>nc hw hj)];exact M.todo t (λj lX hj hd=>(nc hw hj hd).elim)
    | some j=>
      obtain⟨oj,fe,lK⟩:=pc hw;obtain⟨sj,xj,lL⟩:=Ip j (apa.1 fe).1;rcases i3 t Av j hw with⟨au,e,he,hb,ig⟩|⟨au,oj',Dk,e,he,hb,ig⟩
      ·rw[ht.EW t i j si xi sj xj oj rK au lL fe lK (λj' lX ze _ tP uH=>by
        have:=uniq t j' lX tP uH;rw[hw]at this;have:=ao9 this;omega)]
       exact M.done j oj sj xj t fe lL lK (by rw[<-ig];exact h3 e he hb)
      ·rw[ht.pb t i si xi rK (λj' lX tP aiP uH=>by
        have:=uniq t j' lX aiP uH;rw[hw]at this;have:=ao9 this;omega)]
       refine M.todo t (λj' lX tP uH=>?_);have:=uniq t j' lX tP uH;rw[hw]at this;obtain rfl:=ao9 this;cases dn:listed.getD j false with
       | false=>rfl
       | true=>
         rw[fe]at Dk;obtain rfl:=ao9 Dk;have:=M.closed j oj fe dn e he hb;rw[ig,h1]at this;cases this
   have bz:=hy fo m a w (by rw[hsL];exact M.inv) Om (wpAnyIn (wr fo.r) 0 P .any l.toArray R fuel (listed.setIfInBounds i true)) R (λv w' hr cm st=>by
    rw[hsL]at cm;have cQ:bK w (OO fo m) w':=⟨st.size,λb hb ho=>st.block b hb (λh=>ho (.inl h))⟩
    have mono:∀{v:Value} {x:V},aC w (OO fo m) m v x->aC w' (OO fo m) m v x:=λh=>h.mono cQ (λ_ _ h=>h) (λ_ _ h=>h)
    have bR:∀t,o.dst≠some t->(a.put o.dst v).tmps.getD t undef=a.tmps.getD t undef:=by
     intro t hn;cases vG:o.dst with
     | none=>rfl
     | some d=>
       have:d≠t:=λe=>hn (by rw[vG,e])
       simp[Act.put,aqj this]
    have nf:∀j,(listed.setIfInBounds i true).getD j false=true↔(j=i\/listed.getD j false=true):=by
     intro j;by_cases hj:j=i
     ·subst hj;have hjs:j<listed.size:=by have:=M.De;omega
      simp[Array.getD,hjs]
     ·have:¬i=j:=λe=>hj e.symm
      simp only[aqe,aqj this,hj,false_or]
    refine ih (listed.setIfInBounds i true) (un.erase i) (a.put o.dst v) w' ?_ ?_ ?_
    ·have fm:=bS i kr h1;rw[aru fm];omega
    ·intro j hj hb;have On:¬((listed.setIfInBounds i true).getD j false=true):=by rw[hb];simp
     rw[nf]at On;have zd:j≠i:=λe=>On (.inl e)
     have xQ:listed.getD j false=false:=by
      cases hx:listed.getD j false with
      | false=>rfl
      | true=>exact(On (.inr hx)).elim
     exact(List.mem_erase_of_ne zd).2 (bS j hj xQ)
    ·refine⟨?_,?_,cm,M.step.trans st,by simpa using M.De,?_,?_,?_,?_⟩
     ·cases vG:o.dst<;>simp[Act.put,M.size]
     ·cases vG:o.dst<;>simp[Act.put,M.defers]
     ·intro j oj sj xj d fe lL lK hb;by_cases zd:j=i
      ·subst zd;rw[ti]at fe;obtain rfl:=ao9 fe;rw[rK]at lL;obtain⟨rfl,rfl⟩:=Prod.mk.inj (ao9 lL);have FU:=Ol j o d ti lK;have:(a.put o.dst v).tmps.getD d undef=v:=by
        have dW:=M.size;rw[lK];simp[Act.put,Array.getD,dW,FU]
       rw[this];exact hr
      ·have gz:o.dst≠some d:=by
        intro e;have q1:=uniq d i o ti e;have q2:=uniq d j oj fe lK;rw[q1]at q2;exact zd (ao9 q2).symm
       rw[bR d gz];exact mono (M.done j oj sj xj d fe lL lK (((nf j).1 hb).resolve_left zd))
     ·intro t Iq;have gz:o.dst≠some t:=by
       intro e;have:=Iq i o ti e;have h4:=(nf i).2 (.inl rfl);rw[this]at h4;cases h4
      rw[bR t gz];refine mono (M.todo t (λj oj fe lK=>?_));have:=Iq j oj fe lK;cases hx:listed.getD j false with
      | false=>rfl
      | true=>have h4:=(nf j).2 (.inr hx);rw[this]at h4;cases h4
     ·intro p hp FE;rw[bR p.1 (FE i o ti)];exact mono (M.rest p hp FE)
     ·intro j oj fe hb e he iE;rw[nf];rcases(nf j).1 hb with rfl|dn
      ·rw[ti]at fe;obtain rfl:=ao9 fe;exact .inr (h3 e he iE)
      ·exact .inr (M.closed j oj fe dn e he iE))
   unfold wpOpIn;rw[h2];simp only;split
   ·rename_i hw;rw[if_pos hw]at bz;exact bz
   ·rename_i hw;rw[if_neg hw]at bz;exact⟨λ_ _=>trivial,bz⟩
theorem zf{fo:FO}{m:Nat->Option Value}{l:List Oper}{s:St}{tr:List (St×V)}{a:Act}{w:World}(g:G fo n m s a w)(k:Nat):Mid fo m m w n l s tr (Array.replicate l.toArray.size false) a {w with drawn:=k}:=by
 have st:Step w (own m) {w with drawn:=k} (own m):=⟨rfl,rfl,rfl,api _,λ_ _ _=>rfl,λ_ _ h=>h⟩
 have mono:∀{v:Value} {x:V},aC w (OO fo m) m v x->aC {w with drawn:=k} (OO fo m) m v x:=λh=>h.mono st.rJ (λ_ _ h=>h) (λ_ _ h=>h)
 refine⟨g.size,g.defers,g.inv.grown (api _) (λ_ _=>rfl),st,by simp,?_,λt _=>mono (qQ g t),λp hp _=>mono (g.fr p.1 p.2 hp).2,?_⟩
 ·intro j o sj xj d _ _ _ hb;have:(Array.replicate l.toArray.size false).getD j false=false:=by simp[Array.getD]
  rw[this]at hb;cases hb
 ·intro j o _ hb;have:(Array.replicate l.toArray.size false).getD j false=false:=by simp[Array.getD]
  rw[this]at hb;cases hb
theorem av.bT{id:Nat}{l:List Oper}{s:St}(us:List V)(hm:P.follows .mixedOrders=true)(cp:indep l=true)(hd:dG n l=true)(h:uT P l.toArray l s us (Q .normal)):av P n (.region id l.toArray true) s Q:=by
 intro fo m a w _ g;obtain⟨tr,s',ht,hq⟩:=qW l s us h;exact wpIn_region_any hm (wK ht cp hd (λa1 w1 g1 st=> .of m .normal s' hq g1 trivial st) (λp hp=>(g.fr p.1 p.2 hp).1) l.length _ (List.range l.length) a _ (by simp) (λi hi _=>by simpa using hi) (zf g _))
end
attribute [simp] eM uT xY EU fQ fq q2 q1 EJ wy HM wz HN Ua unV Ub MR GC CC Uc EK Ai AA C9 sE Ur mv ME.val T7 QJ aax aay aaz Ik vj kO mF gH JX Dc td St.Oe Od St.rem JU JV HW CT Uo EM JM Um MU HY Un GN MT HV Ob gU UR US HS tH putAt EN HZ MX qR MY A6 GI
 St.put St.get St.ev EH V.cl V.un V.Cc nI Op.operands Call.operands eH keys aI.jA V.kill V.dU aV.kill St.kill AX.then AX.inBlock KK dG rZ fb vk aa5 Be ki jt Nh V.on V.dK aV.on St.on
 Value.oneCell' callee Bg wI wJ oN List.lookup eU vQ
@[simp] theorem ag4 h(l:List D):V.dU h (l.map V.d)=l.map V.d:=JK h l
@[simp] theorem afc h ys:(dd ys).map (V.dU h)=dd ys:=adB h ys
@[simp] theorem aiQ ks(l:List D):V.dK ks (l.map V.d)=true:=EV ks l
@[simp] theorem ag5 ks ys:(dd ys).all (V.dK ks)=true:=ag3 ks ys
@[simp] theorem ah4 ys:(dd ys).length=ys.length:=by simp[dd]
@[simp] theorem ah5 xs ys:dd xs++dd ys=dd (xs++ys):=by simp[dd]
@[simp] theorem ak2:dd []=[]:=rfl
@[simp] theorem Oo ys(i:Nat):(dd ys)[i]?=ys[i]?.map (·.map V.d):=by simp[dd]
@[simp] theorem akj ys i:(dd ys).take i=dd (ys.take i):=by simp[dd]
def aA(l:List Int):List (List D):=l.map λn=> [.v (.int .i64 n)]
@[simp] theorem agx l:(aA l).length=l.length:=by simp[aA]
@[simp] theorem aa6 l(i:Nat):(aA l)[i]?=l[i]?.map λn=> [.v (.int .i64 n)]:=by simp[aA]
@[simp] theorem agy a b:aA a++aA b=aA (a++b):=by simp[aA]
@[simp] theorem agz l i:cellAt (dd (aA l)) i 0 [V.d (D.v (.int .i64 0))]=V.d (D.v (.int .i64 (l[i]?.getD 0))):=by
 unfold cellAt;rw[Oo,aa6];cases l[i]?<;>rfl
def aiR(l:List Bool):List (List D):=l.map λb=> [.v (.bool b)]
@[simp] theorem aiS:aiR []=[]:=rfl
def iB(l:List ByteArray):List (List D):=l.map λs=> [.v (.string s)]
@[simp] theorem agA l:(iB l).length=l.length:=by simp[iB]
@[simp] theorem aiT l(i:Nat):(iB l)[i]?=l[i]?.map λb=> [.v (.string b)]:=by simp[iB]
@[simp] theorem aiU:iB []=[]:=rfl
@[simp] theorem ah6 l v:dd (iB l)++ [[.d (.v (.string v))]]=dd (iB (l++ [v])):=by
 simp[dd,iB]
def oi{α:Type}(g:List α->List (List D))(l:List (List α)):List (List D):=l.map λy=> [.sl (g y)]
section
variable {α : Type} {g : List α -> List (List D)}
@[simp] theorem afd l:(oi g l).length=l.length:=by simp[oi]
@[simp] theorem ah7 l(i:Nat):(oi g l)[i]?=l[i]?.map λy=> [.sl (g y)]:=by simp[oi]
@[simp] theorem ah8:oi g []=[]:=rfl
end
@[simp] theorem aiV:aA []=[]:=rfl
@[simp] theorem ah9 l i:(aA l).drop i=aA (l.drop i):=by simp[aA]
@[simp] theorem aia l i:(aA l).take i=aA (l.take i):=by simp[aA]
@[simp] theorem akk(a b:Int):(a==b)=decide (a=b):=rfl
theorem Oq(a b:ByteArray):a.toList=b.toList↔a=b:=by
 constructor
 ·intro h;rw[ByteArray.toList_eq,ByteArray.toList_eq]at h;cases a;cases b;simpa using h
 ·intro h;rw[h]
theorem bytes_beq(a b:ByteArray):(a.toList==b.toList)=decide (a=b):=by
 rw[aqM];simp[Oq]
theorem aU{n}:aM .i64 n↔ -9223372036854775808<=n/\n<=9223372036854775807:=by
 rfl
theorem iW{x:Int}(h: -9223372036854775808<=x/\x<=9223372036854775807:=by omega):aM .i64 x:=aU.2 h
end Go.Ab
namespace Go.Ab
def tQ:List V->Option (List D)
 | []=>some []
 | .d x::l=>match tQ l with
   | some r=>some (x::r)
   | none=>none
 | _::_=>none
def Bh:List (List V)->Option (List (List D))
 | []=>some []
 | x::l=>match tQ x,Bh l with
   | some y,some r=>some (y::r)
   | _,_=>none
@[simp] theorem akl l:tQ (l.map V.d)=some l:=by
 induction l with
 | nil=>rfl
 | cons x l ih=>simp[tQ,ih]
@[simp] theorem adU ys:Bh (dd ys)=some ys:=by
 induction ys with
 | nil=>rfl
 | cons x l ih=>simp[dd,Bh];rw[show List.map (λx=>List.map V.d x) l=dd l from rfl,ih]
theorem Ym:∀{l r},tQ l=some r->l=r.map V.d
 | [],r,h=>by simp_all[tQ]
 | .d x::l,r,h=>by
   rw[tQ]at h;split at h
   ·rename_i r' hr;simp at h;subst h;rw[Ym hr];rfl
   ·cases h
 | .bp _ _::_,_,h=>by grind[tQ]
 | .rv _::_,_,h=>by grind[tQ]
 | .ep _ _ _ _::_,_,h=>by grind[tQ]
 | .rp _::_,_,h=>by grind[tQ]
 | .sv _ _::_,_,h=>by grind[tQ]
 | .eS _ _ _::_,_,h=>by grind[tQ]
 | .agg _::_,_,h=>by grind[tQ]
 | .bA _::_,_,h=>by grind[tQ]
 | .gd _ _::_,_,h=>by grind[tQ]
 | .any::_,_,h=>by grind[tQ]
 | .kn _::_,_,h=>by grind[tQ]
theorem JY:∀{l r},Bh l=some r->l=dd r
 | [],r,h=>by simp[Bh]at h;subst h;rfl
 | x::l,r,h=>by
   rw[Bh]at h;split at h
   ·rename_i y r' hy hr;simp at h;subst h;rw[Ym hy,JY hr];rfl
   ·cases h
def Ir(L:aI):V->Option D
 | .d (.v (.slice none 0 0))=>some (.sl [])
 | .d x=>some x
 | .rv h=>match L.lookup h with
   | some (.row _ _ xs)=>match Bh xs with
     | some ys=>some (.sl ys)
     | none=>none
   | _=>none
 | _=>none
def x4(L:aI):List V->Option (List D)
 | []=>some []
 | x::l=>match Ir L x,x4 L l with
   | some y,some r=>some (y::r)
   | _,_=>none
theorem Is{L}:∀{l r},x4 L l=some r->l.length=r.length/\∀(j:Nat) d,r[j]?=some d->∃y,l[j]?=some y/\Ir L y=some d
 | [],r,h=>by simp_all[x4]
 | x::l,r,h=>by
   rw[x4]at h;split at h
   ·rename_i y r' hy hr;obtain⟨h1,h2⟩:=Is hr;grind
   grind
mutual
def V.fz(L:aI):V->V
 | .d (.v (.slice none 0 0))=> .d (.sl [])
 | .rv h=>match L.lookup h with
   | some (.row _ _ xs)=>match Bh xs with
     | some ys=> .d (.sl ys)
     | none=> .any
   | _=> .any
 | .bp h off=>match L.lookup h with
   | some (.box _ _ cs)=>match x4 L cs with
     | some ds=> .rp (ds.drop off)
     | none=> .any
   | _=> .any
 | .sv _ _=> .any
 | .eS fn f c=> .eS fn (V.mb L f) (V.mb L c)
 | .agg cs=> .agg (V.mb L cs)
 | .bA cs=> .bA (V.mb L cs)
 | x=>x
def V.mb(L:aI):List V->List V
 | []=> []
 | x::l=>V.fz L x::V.mb L l
end
section
variable {P : Program} {w w' : World} {fo : FO} {m m' : Nat -> Option Value} {L : aI} {n : Nat} {s : St} {a : Act} {Q : AX -> St -> Prop}
theorem uU{L}:∀l (j:Nat),(V.mb L l)[j]?=l[j]?.map (V.fz L)
 | [],j=>by rfl
 | x::l,0=>by rfl
 | x::l,j+1=>by simp[V.mb,uU]
theorem uV{L}:∀l,(V.mb L l).length=l.length
 | []=>by rfl
 | x::l=>by simp[V.mb,uV l]
theorem xc{O}:eT w O (.slice none 0 0) (.sl []):= .sl none 0 0 [] 0 0 0 (λ_ _=>undef) rfl (by omega) (by simp) (by omega) (by simp) (by omega) (by simp)
theorem Ot(hi:Inv fo m L w){h k ty ys}(hl:L.lookup h=some (.row ty k (dd ys))){v}(hv:m h=some v):eT w fo v (.sl ys):=by
 obtain⟨x,hx,hh⟩:=hi.holds h _ (dL hl);rw[hv]at hx;obtain rfl:=ao9 hx;rcases hh with⟨rfl,hy⟩|⟨b,off,cap,cur,rfl,hb,h1,h2,h3,h4,h5,h6⟩
 ·simp_all[dd,xc]
 ·have hlen:(dd ys).length=ys.length:=by simp[dd]
  rw[hlen]at h1⊢;have jT:∀(i:Nat) (x:List D),ys[i]?=some x->(dd ys)[i]?=some (x.map V.d):=by
   simp_all[dd]
  have Iu:∀(i:Nat) (x:List D),ys[i]?=some x->x.length=k:=by
   grind
  have iE:∀i j,i<ys.length->j<k->off+i *k+j<cur.size:=by
   intro i j hi hj;have:(i+1) *k<=cap *k:=apu _ (by omega);grind
  refine .sl (some ⟨b,off,none⟩) ys.length cap ys k b off (λi j=>cur.getD (off+i *k+j) undef) rfl h1 h2 (λ_=>⟨rfl,hi.others h _ b hv rfl,(apn.1 hb).1⟩) Iu ?_ ?_
  ·simp_all[World.cell?,Array.getD]
  ·intro i j x y hx hy;have hj:j<k:=by grind
   have kr:=(apa.1 hx).1;have au:=iE i j kr hj;have:=h6 i j _ (.d y) (cur[off+i *k+j]) (jT i x hx) (by grind) (apy au);have h7:=this.kU;have e:cur.getD (off+i *k+j) undef=cur[off+i *k+j]:=by simp_all
   rw[e];exact h7.mono (bK.refl w _) (λb _ hb=> .inr hb)
theorem Yn(hi:Inv fo m L w){v y d}(h:aC w (OO fo m) m v y)(hd:Ir L y=some d):eT w fo v d:=by
 unfold Ir at hd;split at hd
 ·have:=h.cy;grind[Option.some.injEq,xc]
 ·simp at hd;subst hd;exact h.kU.mono (bK.refl w _) (λb _ hb=> .inr hb)
 ·split at hd
  ·rename_i ty k xs hl;split at hd
   ·rename_i ys vE;rw[JY vE]at hl;cases h with
    | rv _ _ e _=>grind[Ot]
   grind
  grind
 grind
theorem aa7(hi:Inv fo m L w){h off b0}{ty}{cs}{ds}(hl:L.lookup h=some (.box b0 ty cs))(hd:x4 L cs=some ds){b}(hv:m h=some (.pointer (some ⟨b,0,none⟩))):
  aC w fo fR (.pointer (some ⟨b,off,none⟩)) (.rp (ds.drop off)):=by
 obtain⟨x,hx,bb,_,cur,rfl,hb,hs,h1,h2⟩:=hi.holds h _ (dL hl);rw[hv]at hx;cases hx;obtain⟨k1,k2⟩:=Is hd;refine .rp b off _ (λj=>cur.getD (off+j) undef) (hi.others h _ b hv rfl) (apn.1 hb).1 (λj hj=>?_) (λj y hy=>?_)
 ·have au:off+j<cur.size:=by grind
  simp_all[World.cell?]
 ·rw[aqf]at hy;obtain⟨z,hz,hzd⟩:=k2 _ _ hy;have au:off+j<cur.size:=by grind
  have:=Yn hi (h2 (off+j) _ z (apy au) hz) hzd;simpa[Array.getD,au]using this
theorem Ou(hi:Inv fo m L w){v y}(h:aC w (OO fo m) m v y):(y.fz L).on []=true->aC w fo fR v (y.fz L):=by
 have hD:∀{x:Value} {d:D},eT w (OO fo m) x d->eT w fo x d:=λh=>h.mono (bK.refl w _) (λb _ hb=> .inr hb)
 induction h with
 | d x y h=>
   intro _;unfold V.fz;split
   ·rename_i heq;cases heq;cases h;exact .d _ _ xc
   ·grind
   ·grind
   ·grind
   ·grind
   ·grind
   ·grind
   ·exact .d _ _ (hD h)
 | bp h off b e=>
   intro _;simp only[V.fz];split
   ·rename_i b0 ty cs hl;split
    ·grind[aa7]
    ·exact .any _
   ·exact .any _
 | rv h x e e1=>
   intro _;simp only[V.fz];split
   ·rename_i ty k xs hl;split
    ·rename_i ys vE;rw[JY vE]at hl;exact .d _ _ (Ot hi hl e)
    ·exact .any _
   ·exact .any _
 | ep h k i j b o n c e=>simp[V.fz,V.on]
 | rp b off cs f hb au hc hr=>intro _;simp only[V.fz];exact .rp b off cs f (λhf=>hb (.inr hf)) au hc (λj y hy=>hD (hr j y hy))
 | sv h n b cap e hc hx=>intro _;simp only[V.fz];exact .any _
 | eS fn first eh cf cc s1 s2 h1 h2 FA KJ=>
   intro ho;simp only[V.fz,V.on,apb]at ho⊢;refine .eS fn first eh _ _ (by simp_all[uV]) (by simp_all[uV]) ?_ ?_
   ·intro j x y hx hy;have Ov:=fS ho.1 y (ape hy);rw[uU]at hy;grind
   ·intro j x y hx hy;have Ov:=fS ho.2 y (ape hy);rw[uU]at hy;grind
 | agg vs cs hs h1 h ih=>
   intro ho;refine .agg vs _ (by simp_all[uV]) h1 ?_;intro j x y hx hy;have Ov:=fS ho y (ape hy);rw[uU]at hy;grind
 | bA vs cs hs h ih=>
   intro ho;refine .bA vs _ (by simp_all[uV]) ?_;intro j x y hx hy;have Ov:=fS ho y (ape hy);rw[uU]at hy;grind
 | gt x y h ih=>
   intro ho;simp only[V.fz,V.on]at ho⊢;exact(aC.on (ks:=[]) (m':=fR) (by simp) (.gt x y h) (by simp_all[V.on])).mono (bK.refl w _) (λb _ hb=> .inr hb) (λ_ _ e=>e)
 | gf y=>intro _;simp only[V.fz];exact .gf y
 | kn x Q h=>intro _;simp only[V.fz];exact .kn x Q h
 | any x=>intro _;simp only[V.fz];exact .any x
theorem aE.data{f args L x}(h:aE P f args L (λr L'=>∃y,r= .ret y/\y.fz L'=x))(hx:x.on []=true):aE P f args L (λr L'=>r= .ret x/\L'=[]):=by
 intro fo m w xs hi hr;refine(h fo m w xs hi hr).mono ?_;rintro e w' ⟨m1,r,L1,⟨y,rfl,rfl⟩,he,cm,st⟩;cases e with
 | returned v=>
   refine⟨fR,.ret (y.fz L1),[],⟨rfl,rfl⟩,?_,cm.none_ (λb hb=> .inr hb),⟨st.os,st.tape,st.output,st.size,st.block,λb _ hb=>(gI b hb).elim⟩⟩;exact(Ou cm he hx).mono (bK.refl w' _) (λb _ hb=>hb.elim (λh=>(gI b h).elim) id) (λ_ _ e=>e)
 | panicked ch=>simp_all[Ends]
 | outgrown=>simp_all[Ends]
mutual
def V.nK:V->Bool
 | .d (.v _)=>true
 | .agg cs=>V.EX cs
 | .bA cs=>V.EX cs
 | _=>false
def V.EX:List V->Bool
 | []=>true
 | x::l=>V.nK x&&V.EX l
end
theorem Dl:∀{l},V.EX l=true->∀x∈l,V.nK x=true
 | [],_,x,h=>by cases h
 | y::l,h,x,hx=>by
   simp[V.EX]at h;rcases apq.1 hx with rfl|hx
   ·grind
   ·exact Dl h.2 x hx
theorem Ow{O O' v y}(h:aC w O m v y):y.nK=true->aC w' O' m' v y:=by
 induction h with
 | d x y h=>
   intro hs;cases y with
   | v u=>cases h with|v _ h1=>exact .d _ _ (.v _ h1)
   | sl xs=>grind[V.nK]
   | uB t ag cs=>grind[V.nK]
 | bp h off b e=>simp[V.nK]
 | rv h x e e1=>simp[V.nK]
 | ep h k i j b o n c e=>simp[V.nK]
 | rp b off cs f hb au hc hr=>simp[V.nK]
 | sv h n b cap e hc hx=>simp[V.nK]
 | eS fn first eh cf cc s1 s2 h1 h2 FA KJ=>simp[V.nK]
 | agg vs cs hs h1 h ih=>
   intro hsc;exact .agg vs cs hs h1 (λj x y hx hy=>ih j x y hx hy (Dl hsc y (ape hy)))
 | bA vs cs hs h ih=>
   intro hsc;exact .bA vs cs hs (λj x y hx hy=>ih j x y hx hy (Dl hsc y (ape hy)))
 | gt x y h ih=>simp[V.nK]
 | gf y=>simp[V.nK]
 | kn x Q h=>simp[V.nK]
 | any x=>simp[V.nK]
theorem qi.aiW{o}{c}{du}{f}{args}{x}(aD:o.op= .call c)(hc:callee du c=some (f,args))(he:enters P f=true)(ho:V.dK [] (V.mb L args)=true)(hx:x.nK=true)
  (h:aE P f (V.mb L args) [] (λr _=>r= .ret x)):qi P o du L x:=by
 intro fo m ρ w hi hr;obtain⟨xs,h1,h2⟩:=o9 aD hc he hr;refine .inr ⟨f,xs,h1,?_⟩;have fC:ir w (OO fo fR) fR xs (V.mb L args):=by
  refine⟨by rw[uV];exact h2.1,λj v y hv hy=>?_⟩;have Ov:=fS ho y (ape hy);rw[uU]at hy;obtain⟨z,hz,rfl⟩:=ao8.1 hy;exact(Ou hi (h2.2 j v z hv hz) Ov).mono (bK.refl w _) (λb _ hb=>hb.elim (λh=>(gI b h).elim) id) (λ_ _ e=>e)
 refine(h fo fR w xs (hi.none_ λb hb=> .inr hb) fC).mono ?_;rintro e w' ⟨m1,r,L',rfl,kK,cm,st⟩;cases e with
 | returned v=>
   exact⟨v,rfl,Ow kK hx,hi.grown st.size (λb hb=>st.block b hb (gI b)),⟨st.os,st.tape,st.output,st.size,λb hb _=>st.block b hb (gI b),λb hb h=>h⟩⟩
 | panicked ch=>simp_all[Ends]
 | outgrown=>simp_all[Ends]
theorem frame{L L1 L2:aI}{fo:FO}{m:Nat→Option Value}{w:World}(hi:Inv fo m L w)(hL:L.Perm (L1++L2))(ig:L1.all (fun p=>aV.on (keys L1) p.2)=true)
  (iT:∀p∈L2,aV.on (keys L2++(L1.filterMap λp=>match p.2 with|.box (_+1) _ _=>some p.1|_=>none)) p.2=true):
  ∃(gT:FO) (m1:Nat->Option Value),(∀b,OO gT m1 b↔OO fo m b)/\(∀h x,h∈keys L1->m h=some x->m1 h=some x)/\Inv gT m1 L1 w/\
   ∀(w':World) (ta:Nat->Option Value) (br:aI),Inv gT ta br w'->Step w (own m1) w' (own ta)->(∀k∈keys br,k∉keys L2)->(∀k b ty cs,(k,aV.box (b+1) ty cs)∈L1->∃mf jB,(k,aV.box (b+1) mf jB)∈br)->
    ∃mm:Nat->Option Value,Inv fo mm (br++L2) w'/\Step w (own m) w' (own mm)/\(∀h y,ta h=some y->mm h=some y)/\(∀b,OO fo mm b↔OO gT ta b)/\
     (∀h y,h∈keys L2++(L1.filterMap λp=>match p.2 with|.box (_+1) _ _=>some p.1|_=>none)->m h=some y->mm h=some y)/\bK w (OO fo m) w'/\(∀b,b<w.heap.size->OO fo mm b->OO fo m b):=by
 classical
 have pJ:∀x,x∈keys L↔x∈keys L1\/x∈keys L2:=by
  intro x;have:(keys L).Perm (keys (L1++L2)):=hL.map _;rw[this.mem_iff];simp[keys]
 have gz:(keys L1).Nodup/\(keys L2).Nodup/\∀x,x∈keys L1->x∉keys L2:=by
  have hp:(keys L).Perm (keys L1++keys L2):=by simpa[keys]using hL.map (·.1)
  have:=hp.nodup_iff.1 hi.nodup;rw[aqE]at this;exact⟨this.1,this.2.1,λx h1 h2=>this.2.2 x h1 x h2 rfl⟩
 let m1:Nat->Option Value:=λh=>if h∈keys L1 then m h else none
 let m2:Nat->Option Value:=λh=>if h∈keys L2 then m h else none
 have mg:∀h x,m1 h=some x->m h=some x/\h∈keys L1:=by
  intro h x hx;by_cases hh:h∈keys L1
  ·simp only[m1,if_pos hh]at hx;exact⟨hx,hh⟩
  ·simp only[m1,if_neg hh]at hx;cases hx
 have tC:∀h x,m2 h=some x->m h=some x/\h∈keys L2:=by
  intro h x hx;by_cases hh:h∈keys L2
  ·simp only[m2,if_pos hh]at hx;exact⟨hx,hh⟩
  ·simp only[m2,if_neg hh]at hx;cases hx
 have ot:∀h x,h∈keys L1->m h=some x->m1 h=some x:=λh x hh hx=>by simp only[m1,if_pos hh];exact hx
 have aa8:∀h x,h∈keys L2->m h=some x->m2 h=some x:=λh x hh hx=>by simp only[m2,if_pos hh];exact hx
 let gT:FO:=λb=>fo b\/own m2 b
 have eW:∀b,own m b↔own m1 b\/own m2 b:=by
  intro b;constructor
  ·rintro⟨h,x,hx,hb⟩;rcases(pJ h).1 (hi.fI h x hx)with hh|hh
   ·exact .inl ⟨h,x,ot h x hh hx,hb⟩
   ·exact .inr ⟨h,x,aa8 h x hh hx,hb⟩
  ·rintro(⟨h,x,hx,hb⟩|⟨h,x,hx,hb⟩)
   ·exact⟨h,x,(mg h x hx).1,hb⟩
   ·exact⟨h,x,(tC h x hx).1,hb⟩
 have oT:∀b,OO gT m1 b↔OO fo m b:=by
  intro b;unfold OO;rw[eW b];constructor
  ·rintro(h|h|h)
   ·exact .inl (.inl h)
   ·exact .inr h
   ·exact .inl (.inr h)
  ·rintro((h|h)|h)
   ·exact .inl h
   ·exact .inr (.inr h)
   ·exact .inr (.inl h)
 have qj:Inv gT m1 L1 w:=by
  refine⟨gz.1,λh x hx=>(mg h x hx).2,?_,?_,?_,?_,hi.ee.mono (bK.refl w _) (λb _ hb=>(oT b).1 hb)⟩
  ·intro h h' x x' b hx cH hb dn;exact hi.apart h h' x x' b (mg h x hx).1 (mg h' x' cH).1 hb dn
  ·rintro h x b hx hb (hf|⟨h',x',cH,dn⟩)
   ·exact hi.others h x b (mg h x hx).1 hb hf
   ·have:=hi.apart h h' x x' b (mg h x hx).1 (tC h' x' cH).1 hb dn;subst this;exact gz.2.2 h (mg h x hx).2 (tC h x' cH).2
  ·rintro b (hf|⟨h',x',cH,dn⟩)
   ·exact hi.ei b hf
   ·exact hi.lt (tC h' x' cH).1 dn
  ·intro h r hr;obtain⟨x,hx,hh⟩:=hi.holds h r (hL.mem_iff.2 (apD _ hr));have hk:h∈keys L1:=apf.2 ⟨_,hr,rfl⟩;rw[apd]at ig;exact⟨x,ot h x hk hx,(hh.on ot (ig _ hr)).mono (λ_ _=>rfl) (bK.refl w _) (λb _ hb=>(oT b).1 hb) (λ_ _ e=>e)⟩
 refine⟨gT,m1,oT,ot,qj,?_⟩;intro w' ta br cm fK Dm GW
 let mm:Nat->Option Value:=λh=>if h∈keys br then ta h else m2 h
 have vV:∀h y,ta h=some y->mm h=some y:=λh y hy=>by simp only[mm,if_pos (cm.fI h y hy)];exact hy
 have aa9:∀h y,m2 h=some y->mm h=some y:=by
  intro h y hy;have:h∉keys br:=λhh=>Dm h hh (tC h y hy).2
  simp only[mm,if_neg this];exact hy
 have Ox:∀h y,mm h=some y->(ta h=some y/\h∈keys br)\/(m2 h=some y/\h∉keys br):=by
  intro h y hy;by_cases hh:h∈keys br
  ·simp only[mm,if_pos hh]at hy;exact .inl ⟨hy,hh⟩
  ·simp only[mm,if_neg hh]at hy;exact .inr ⟨hy,hh⟩
 have ac3:∀b,own mm b↔own ta b\/own m2 b:=by
  intro b;constructor
  ·rintro⟨h,y,hy,hb⟩;rcases Ox h y hy with⟨hy,_⟩|⟨hy,_⟩
   ·exact .inl ⟨h,y,hy,hb⟩
   ·exact .inr ⟨h,y,hy,hb⟩
  ·rintro(⟨h,y,hy,hb⟩|⟨h,y,hy,hb⟩)
   ·exact⟨h,y,vV h y hy,hb⟩
   ·exact⟨h,y,aa9 h y hy,hb⟩
 have zS:∀b,OO fo mm b↔OO gT ta b:=by
  intro b;unfold OO;rw[ac3 b];constructor
  ·rintro((h|h)|h)
   ·exact .inl h
   ·exact .inr (.inr h)
   ·exact .inr (.inl h)
  ·rintro(h|h|h)
   ·exact .inl (.inl h)
   ·exact .inr h
   ·exact .inl (.inr h)
 have tj:∀b,b<w.heap.size->OO fo mm b->OO fo m b:=by
  intro b hb iC;rcases(zS b).1 iC with h|h|h
  ·exact .inl ((eW b).2 (.inl (fK.owned b hb h)))
  ·exact .inr h
  ·exact .inl ((eW b).2 (.inr h))
 have cQ:bK w (OO fo m) w':=⟨fK.size,λb hb iU=>fK.block b hb (λh=>iU (.inl ((eW b).2 (.inl h))))⟩
 have Bi:∀h y,h∈keys L2++(L1.filterMap λp=>match p.2 with|.box (_+1) _ _=>some p.1|_=>none)->m h=some y->mm h=some y:=by
  intro h y hh hy;rcases apr.1 hh with hh|hh
  ·exact aa9 h y (aa8 h y hh hy)
  ·obtain⟨p,hp,pR⟩:=aqq.1 hh;obtain⟨q,r⟩:=p;cases r with
   | row ty k xs=>simp at pR
   | env A=>simp at pR
   | mp es=>simp at pR
   | box b0 ty cs=>
     cases b0 with
     | zero=>simp at pR
     | succ b=>
     simp only[anc]at pR;subst pR;obtain⟨mf,jB,dn⟩:=GW q b ty cs hp;obtain⟨z,hz,Dq⟩:=cm.holds q _ dn;obtain⟨bb1,Il,anH,e1,_⟩:=Dq;obtain⟨u,hu,huh⟩:=qj.holds q _ hp;obtain⟨bb2,xQ,cur,e2,_⟩:=huh;obtain rfl:bb1=b:=by omega
     obtain rfl:bb2=bb1:=by omega
     have:=(mg q u hu).1;rw[hy]at this;obtain rfl:=ao9 this;rw[e2,<-e1];exact vV q z hz
 have hinv:Inv fo mm (br++L2) w':=by
  refine⟨?_,?_,?_,?_,λb hf=>apt (hi.ei b hf) fK.size,?_,hi.ee.mono cQ tj⟩
  ·show(keys (br++L2)).Nodup;rw[show keys (br++L2)=keys br++keys L2 by simp[keys],aqE];exact⟨cm.nodup,gz.2.1,λx h1 y h2 e=>Dm x h1 (by rw[e];exact h2)⟩
  ·intro h y hy;show h∈keys (br++L2);rw[show keys (br++L2)=keys br++keys L2 by simp[keys]];rcases Ox h y hy with⟨_,hh⟩|⟨hy,_⟩
   ·exact apD _ hh
   ·exact apO _ (tC h y hy).2
  ·intro h h' y y' b hy nr hb dn;rcases Ox h y hy with⟨hy,_⟩|⟨hy,_⟩<;>rcases Ox h' y' nr with⟨nr,_⟩|⟨nr,_⟩
   ·exact cm.apart h h' y y' b hy nr hb dn
   ·exact(cm.others h y b hy hb (.inr ⟨h',y',nr,dn⟩)).elim
   ·exact(cm.others h' y' b nr dn (.inr ⟨h,y,hy,hb⟩)).elim
   ·exact hi.apart h h' y y' b (tC h y hy).1 (tC h' y' nr).1 hb dn
  ·intro h y b hy hb hf;rcases Ox h y hy with⟨hy,_⟩|⟨hy,_⟩
   ·exact cm.others h y b hy hb (.inl hf)
   ·exact hi.others h y b (tC h y hy).1 hb hf
  ·intro h r hr;rcases apr.1 hr with hr|hr
   ·obtain⟨z,hz,Dq⟩:=cm.holds h r hr;exact⟨z,vV h z hz,Dq.mono (λ_ _=>rfl) (bK.refl w' _) (λb _ hb=>(zS b).1 hb) vV⟩
   ·obtain⟨z,hz,Dq⟩:=hi.holds h r (hL.mem_iff.2 (apO _ hr));have hk:h∈keys L2:=apf.2 ⟨_,hr,rfl⟩;refine⟨z,aa9 h z (aa8 h z hk hz),(Dq.on Bi (iT _ hr)).mono (λb hb=>?_) cQ tj (λ_ _ e=>e)⟩;exact fK.block b (hi.lt hz hb) (λCL=>by
     obtain⟨h',y',nr,dn⟩:=CL;have:=hi.apart h h' z y' b hz (mg h' y' nr).1 hb dn;subst this;exact gz.2.2 h (mg h y' nr).2 hk)
 have qk:Step w (own m) w' (own mm):=by
  refine⟨fK.os,fK.tape,fK.output,fK.size,λb hb iU=>fK.block b hb (λh=>iU ((eW b).2 (.inl h))),λb hb iC=>?_⟩;rcases(ac3 b).1 iC with h|h
  ·exact(eW b).2 (.inl (fK.owned b hb h))
  ·exact(eW b).2 (.inr h)
 exact⟨mm,hinv,qk,vV,zS,Bi,cQ,tj⟩
theorem zg{o:Oper}{c:Call}{f:FuncId}{args:List V}{L1 L2:aI}{R:AE→aI→Prop}
  (aD:o.op= .call c) (hc:callee s.ev c=some (f,args)) (he:enters P f=true) (ho:V.dK (keys L1) args=true) (hL:s.L.Perm (L1++L2)) (ig:L1.all (λp=>aV.on (keys L1) p.2)=true)
  (iT:∀p∈L2,aV.on (keys L2++(L1.filterMap λp=>match p.2 with|.box (_+1) _ _=>some p.1|_=>none)) p.2=true)
  (h:aE P f args L1 R)
  (qY:∀r br,R r br->(∃x,r= .ret x)/\(∀k∈keys br,k∉keys L2)/\∀k b ty cs,(k,aV.box (b+1) ty cs)∈L1->∃mf jB,(k,aV.box (b+1) mf jB)∈br)
  {fo:FO} {m:Nat->Option Value} {a:Act} {w:World} (g:G fo n m s a w) {next:Act->World->Prop} {Q':Exit->Act->World->Prop}
  (k:∀x br mm v w',R (.ret x) br->aC w' (OO fo mm) mm v x->Inv fo mm (br++L2) w'->Step w (own m) w' (own mm)->
   (∀h y,h∈keys L2++(L1.filterMap λp=>match p.2 with|.box (_+1) _ _=>some p.1|_=>none)->m h=some y->mm h=some y)->
   bK w (OO fo m) w'->(∀b,b<w.heap.size->OO fo mm b->OO fo m b)->next (a.put o.dst v) w'):o.wpIn (wr fo.r) 0 P a w next Q':=by
 obtain⟨xs,h1,h2⟩:=o9 (P:=P) (w:=w) (m:=m) (O:=OO fo m) aD hc he (λz _=>ck g z);obtain⟨gT,m1,oT,ot,qj,fin⟩:=frame g.inv hL ig iT;refine yP h1 ?_;refine(h gT m1 w xs qj ⟨h2.1,λj v y hv hy=>((h2.2 j v y hv hy).on ot (fS ho y (ape hy))).mono (bK.refl w _) (λb _ hb=>(oT b).1 hb) (λ_ _ e=>e)⟩).mono ?_;rintro e w' ⟨ta,r,br,hR,kK,cm,fK⟩;obtain⟨⟨x,rfl⟩,Dm,GW⟩:=qY r br hR;obtain⟨mm,hinv,qk,vV,zS,Bi,cQ,tj⟩:=fin w' ta br cm fK Dm GW;cases e<;>simp only[Ends]at kK
 exact k x br mm _ w' hR (kK.mono (bK.refl w' _) (λb _ hb=>(zS b).1 hb) vV) hinv qk Bi cQ tj
theorem ay.ag6{ops}{o:Oper}{rest}{c}{f}{args}{L1 L2:aI}{R}(hg:o.guard=none)(hd:∀d,o.dst=some d→d < n)
  (aD:o.op= .call c) (hc:callee s.ev c=some (f,args)) (he:enters P f=true) (ho:V.dK (keys L1) args=true) (hL:s.L.Perm (L1++L2)) (ig:L1.all (λp=>aV.on (keys L1) p.2)=true)
  (hZ:∀p∈s.fr,V.on (keys L2++(L1.filterMap λp=>match p.2 with|.box (_+1) _ _=>some p.1|_=>none)) p.2=true)
  (iT:∀p∈L2,aV.on (keys L2++(L1.filterMap λp=>match p.2 with|.box (_+1) _ _=>some p.1|_=>none)) p.2=true)
  (h:aE P f args L1 R)
  (qY:∀r br,R r br->(∃x,r= .ret x)/\(∀k∈keys br,k∉keys L2)/\∀k b ty cs,(k,aV.box (b+1) ty cs)∈L1->∃mf jB,(k,aV.box (b+1) mf jB)∈br)
  (k:∀x br,R (.ret x) br->ay P n ops rest (St.put {s with L:=br++L2} o.dst x) Q):ay P n ops (o::rest) s Q:=by
 intro fo m0 w0 m a w st g;unfold wpListIn;rw[if_pos (by simp[Region.wanted,hg])];refine zg aD hc he ho hL ig iT h qY g λx br mm v w' hR wm hinv qk gS cQ tj=>?_
 have g':G fo n mm {s with L:=br++L2} a w':=⟨g.size,λt y hy=>by
  obtain⟨q1,q2⟩:=g.fr t y hy;exact⟨q1,(q2.on gS (hZ _ hy)).mono cQ tj (λ_ _ e=>e)⟩,hinv,g.defers⟩
 exact k x br hR fo m0 w0 mm _ w' (st.trans qk) (g'.put hd wm)
end
end Go.Ab
namespace Go.Ab
attribute [simp] Ir x4 V.fz V.mb V.nK V.EX tQ Bh
def ff:aV->Bool
 | .box (_+1) _ _=>true
 | _=>false
section
variable {P : Program} {w w' : World} {fo : FO} {m m' : Nat -> Option Value} {L : aI} {n : Nat} {s : St} {a : Act} {Q : AX -> St -> Prop}
theorem kL.pure{f args x}(he:enters P f=true)(ho:V.dK [] args=true)(hx:x.on []=true)(h:aE P f args [] (λr _=>r= .ret x)):kL P f args L x:=
 λ_ _ _ aD hc=>qi.call aD hc he ho hx h
attribute [simp] ff
@[simp] theorem akm xs x:dd xs++ [x.map V.d]=dd (xs++ [x]):=by simp[dd]
end
section
variable {P : Program} {n : Nat} {Q : AX -> St -> Prop}
def fN(P:Program)(n:Nat)(ops:Array Oper)(o:Oper)(fr:List (Nat×V))(L:aI)(k:Option Nat)(x:V)(L':aI):Prop:=
 ∀gB,(∀t,t∈o.looksAt ops->eU t gB=eU t fr)->∀fo m a w,G fo n m ⟨gB,L⟩ a w->
  (Region.wanted o (yielded ops a.tmps)=true/\∀(next:Act->World->Prop) (Q':Exit->Act->World->Prop),
   (∀v w' m',aC w' (OO fo m') m' v x->G fo n m' ⟨mF k gB,L'⟩ a w'->Step w (own m) w' (own m')->next (a.put o.dst v) w')->o.wpIn (wr fo.r) 0 P a w next Q')\/
  (Region.wanted o (yielded ops a.tmps)=false/\k=none/\L'=L/\aC w (OO fo m) m undef x)
theorem fN.run{o}{fo}{m m'}{a}{w w'}{x}{s'}{nx}{v}(bz:(execOp a.eval o).run P w= .ok nx w')(sW:nx= .value v∨(nx= .skip∧v=undef))
  (hr:aC w' (OO fo m') m' v x) (g':G fo n m' s' a w') (st:Step w (own m) w' (own m')) next Q'
  (k:∀v w' m',aC w' (OO fo m') m' v x->G fo n m' s' a w'->Step w (own m) w' (own m')->next (a.put o.dst v) w'):o.wpIn (wr fo.r) 0 P a w next Q':=by
 grind[xb]
def lv(P:Program)(ops:Array Oper)(s:St)(o:Oper):Option (V×Option Nat×aI×Prop):=
 match fq ops s o with
 | some none=>match fQ P s o 0 with
   | some (x,s',c)=>some (x,gH s o,s'.L,vj o=true/\c)
   | none=>none
 | some (some true)=>match fQ P (td s o) o 0 with
   | some (x,s',c)=>some (.gd true x,gH (td s o) o,s'.L,vj o=true/\nI s o.op.operands.toList/\c)
   | none=>none
 | some (some false)=>some (.gd false .any,none,s.L,True)
 | none=>none
theorem fN.of{ops o s x k L' c}(h:lv P ops s o=some (x,k,L',c))(hc:c):fN P n ops o s.fr s.L k x L':=by
 intro gB he fo m a w g;have kK:∀z,z∈o.op.operands->St.ev ⟨gB,s.L⟩ z=s.ev z:=by
  intro z hz;cases z with
  | tmp t=>simp_all[kE]
  | const v=>rfl
  | global g=>rfl
  | func f=>rfl
 have hs:∀t,t∈o.looksAt ops->aC w (OO fo m) m (a.tmps.getD t undef) (s.get t):=by
  intro t ht;have:=qQ g t;simp_all
 unfold lv at h;split at h
 ·rename_i hg;split at h
  ·rename_i x' s' c' bV;simp only[anc,ao7]at h;obtain⟨rfl,rfl,rfl,rfl⟩:=h;obtain⟨nx,v,w',m',x1,s1,bz,sW,⟨rfl,rfl⟩,hr,g',st⟩:=Db (n:=n) (zR hc.1 bV gB kK) hc.2 fo m a w g;grind[Region.wanted,lg,fN.run]
  grind
 ·rename_i hg;split at h
  ·rename_i x' s' c' bV;simp only[anc,ao7]at h;obtain⟨rfl,rfl,rfl,rfl⟩:=h;obtain⟨hm,hu,hc⟩:=hc;have jT:∀t,t∈JX o->St.get ⟨gB,s.L⟩ t=s.get t:=by
    intro t ht;obtain⟨z,hz,hze⟩:=aqq.1 ht;have hzt:z= .tmp t:=by
     grind
    subst hzt;exact kK _ (by simpa using hz)
   have hE:Dc ⟨gB,s.L⟩ o=Dc s o:=by
    unfold Dc;have:∀l:List Nat,(∀t∈l,St.get ⟨gB,s.L⟩ t=s.get t)->(l.filterMap λt=>match St.get ⟨gB,s.L⟩ t with|.gd _ x=>some (t,x)|_=>none)=l.filterMap λt=>match s.get t with|.gd _ x=>some (t,x)|_=>none:=by
     intro l
     induction l with
     | nil=>simp
     | cons t l ih=>
       grind
    exact this _ jT
   have nG:nI ⟨gB,s.L⟩ o.op.operands.toList:=by
    have:∀l:List Operand,(∀z∈l,St.ev ⟨gB,s.L⟩ z=s.ev z)->nI s l->nI ⟨gB,s.L⟩ l:=by
     intro l
     induction l with
     | nil=>simp
     | cons z l ih=>
       intro hl h;exact⟨by rw[hl z apo];exact h.1,ih (λz hz=>hl z (apl _ hz)) h.2⟩
    grind
   have F0:∀z,z∈o.op.operands->St.ev ⟨Dc s o++gB,s.L⟩ z=(td s o).ev z:=by
    intro z hz;cases z with
    | const v=>rfl
    | global g=>rfl
    | func f=>rfl
    | tmp t=>
      have ht:=he t (kE hz);show eU t (Dc s o++gB)=eU t (Dc s o++s.fr);generalize Dc s o=l
      induction l with
      | nil=>exact ht
      | cons p l ih=>
        simp[*]
   have g2:G fo n m ⟨Dc s o++gB,s.L⟩ a w:=by
    have:=g.td nG;grind[td]
   obtain⟨nx,v,w',m',x1,s1,bz,sW,⟨rfl,rfl⟩,hr,g',st⟩:=Db (n:=n) (zR hm bV (Dc s o++gB) F0) hc fo m a w g2;refine .inl ⟨sn hs hg,fN.run (s':=⟨mF (gH (td s o) o) gB,s'.L⟩) bz sW (.gt _ _ hr) ⟨g'.size,λt y hy=>g'.fr t y ?_,g'.inv,g'.defers⟩ st⟩;grind[mF,List.mem_append_right]
  grind
 ·rename_i hg;simp only[anc,ao7]at h;obtain⟨rfl,rfl,rfl,rfl⟩:=h;exact .inr ⟨sn hs hg,rfl,rfl,.gf _⟩
 grind
abbrev kv:=List (Nat×Nat×V)
theorem fN.call{ops}{o}{s:St}{c}{f}{args}{L1 br}{x} r(hs:List Nat)(aD:o.op= .call c)(h:aE P f args L1 (fun r L=>r= .ret x∧L=br))(hc:callee s.ev c=some (f,args))(hg:o.guard=none)
  (he:enters P f=true) (hL:s.L.filter (λp=>hs.contains p.1)=L1)
  (ho:V.dK (keys L1) args=true/\L1.all (λp=>aV.on (keys L1) p.2)=true/\L1.all (λp=>(match p.2 with|.box (_+1) _ _=>true|_=>p.1==r))=true)
  (hb:∀k b ty cs,(k,aV.box (b+1) ty cs)∈L1->∃mf jB,(k,aV.box (b+1) mf jB)∈br)
  (iT:(s.L.filter λp=>!hs.contains p.1).all (λp=>aV.on (keys (s.L.filter λp=>!hs.contains p.1)++(L1.filterMap λp=>match p.2 with|.box (_+1) _ _=>some p.1|_=>none)) p.2)=true)
  (hk:∀k∈keys br,k∉keys (s.L.filter λp=>!hs.contains p.1)):
  fN P n ops o s.fr s.L (some r) x (br++s.L.filter λp=>!hs.contains p.1):=by
 intro gB M0 fo m a w g;have kK:∀z,z∈o.op.operands->St.ev ⟨gB,s.L⟩ z=s.ev z:=by
  intro z hz;cases z with
  | tmp t=>simp_all[kE]
  | const v=>rfl
  | global g=>rfl
  | func f=>rfl
 have zh:s.L.Perm (L1++s.L.filter λp=>!hs.contains p.1):=by subst hL;exact(ap5 _ s.L).symm
 refine .inl ⟨by simp[Region.wanted,hg],λnext Q' kk=>?_⟩;refine zg (s:=⟨gB,s.L⟩) aD ?_ he ho.1 zh ho.2.1 (λp hp=>apd.1 iT p hp) h ?_ g λx' uW mm v w' hR wm hinv qk gS cQ tj=>?_
 ·rw[<-hc];unfold callee;cases qc:c.callee with
  | value fo=>
    simp only;rw[kK fo (by simp_all)];have:c.args.toList.map (St.ev ⟨gB,s.L⟩)=c.args.toList.map s.ev:=by
     simp_all
    rw[this]
  | _=>rfl
 ·rintro r' uW ⟨rfl,rfl⟩;grind
 ·obtain⟨e,rfl⟩:=hR;obtain rfl:=AE.ret.inj e;refine kk v w' mm wm ⟨g.size,λt y hy=>?_,hinv,g.defers⟩ qk;unfold mF at hy;obtain⟨p,hp,pR⟩:=apf.1 hy;simp only[ao7]at pR;obtain⟨rfl,rfl⟩:=pR;obtain⟨q1,q2⟩:=g.fr p.1 p.2 hp;refine⟨q1,(aC.kill (m':=mm) (h:=r) (λi y bR hi=>gS i y ?_ hi) q2).mono cQ tj (λ_ _ e=>e)⟩;have Dr:i∈keys s.L:=g.inv.fI i y hi;obtain⟨⟨i',res⟩,fm,rfl⟩:=apf.1 Dr;rcases apr.1 (zh.mem_iff.1 fm)with hm|hm
  ·refine apO _ (aqq.2 ⟨_,hm,?_⟩);have:=apd.1 ho.2.2 _ hm;cases res with
   | row _ _ _=>grind
   | env _=>grind
   | mp _=>grind
   | box b _ _=>
     cases b with
     | zero=>grind
     | succ b=>rfl
  ·exact apD _ (apf.2 ⟨_,hm,rfl⟩)
def gO(ks:List (Option Nat))(β p:Nat)(x:V):V:=((ks.take p).drop β).foldl (λx k=>kO k x) x
def dm(ks:List (Option Nat))(p:Nat)(fr:kv):List (Nat×V):=fr.map λe=>(e.1,gO ks e.2.1 p e.2.2)
def getM(t:Nat):kv->Nat×V
 | []=>(0,.any)
 | (k,b,x)::l=>if k=t then(b,x)else getM t l
def Ds(t:Nat):kv->kv
 | []=> []
 | (k,b,x)::l=>if k=t then Ds t l else(k,b,x)::Ds t l
def gX(fr:kv)(t:Option Nat)(β:Nat)(x:V):kv:=
 match t with
 | none=>fr
 | some t=>(t,β,x)::Ds t fr
theorem Le ks β p:gO ks β p .any= .any:=by
 unfold gO;generalize (ks.take p).drop β=l
 induction l with
 | nil=>rfl
 | cons k l ih=>rw[List.foldl_cons,show kO k .any= .any by cases k<;>rfl];exact ih
theorem Dt ks p t:∀fr:kv,eU t (dm ks p fr)=gO ks (getM t fr).1 p (getM t fr).2
 | []=>(Le ks 0 p).symm
 | (k,b,x)::l=>by
   simp[dm,getM];split
   ·rfl
   ·exact Dt ks p t l
theorem UU{ks β p}(hb:β<=p)(hp:p<ks.length) x:gO ks β (p+1) x=kO (ks.getD p none) (gO ks β p x):=by
 grind[gO,List.take_add_one,List.getElem?_eq_getElem,List.length_take]
theorem Bj{ks β p}(h:p<=β) x:gO ks β p x=x:=by
 grind[gO,List.drop_eq_nil_of_le,List.length_take]
theorem Yo{ks SM β p}(h:p<=ks.length) x:gO (ks++SM) β p x=gO ks β p x:=by
 simp_all[gO,aq5]
theorem uX{ks SM p}(h:p<=ks.length) fr:dm (ks++SM) p fr=dm ks p fr:=by
 simp_all[dm,Yo]
theorem Du{t d}(h:t≠d):∀l:kv,getM t (Ds d l)=getM t l
 | []=>rfl
 | (k,b,x)::l=>by
   rw[Ds,getM];split
   ·rename_i hk;subst hk;rw[if_neg (λe=>h e.symm)];exact Du h l
   ·rw[getM,Du h l]
theorem Oy{fr o β x t}(h:o≠some t):getM t (gX fr o β x)=getM t fr:=by
 cases o with
 | none=>rfl
 | some d=>
   have bR:t≠d:=λe=>h (by rw[e])
   simp_all[gX,getM,Du]
theorem Cq{fr β x t}:getM t (gX fr (some t) β x)=(β,x):=by simp[gX,getM]
theorem GX{t p}:∀{l},p∈Ds t l->p∈l/\p.1≠t
 | [],h=>by cases h
 | (k,b,x)::l,h=>by
   rw[Ds]at h;split at h
   ·have:=GX h;exact⟨apl _ this.1,this.2⟩
   ·rcases apq.1 h with rfl|h
    ·grind
    ·have:=GX h;exact⟨apl _ this.1,this.2⟩
theorem Oz{fr d β x p}(h:p∈gX fr d β x):(d=some p.1/\p.2=(β,x))\/(p∈fr/\d≠some p.1):=by
 cases d with
 | none=>exact .inr ⟨h,by simp⟩
 | some d=>
   simp[gX]at h;rcases h with rfl|h
   ·simp
   grind[GX,Option.some.inj]
structure Rec where
 fr:kv
 x:V
 lo:Nat
 hi:Nat
 lH:Bool
 q:Nat
def Rec.pT(r:Rec):Nat:=if r.lH then r.q+1 else r.lo
inductive pU:List (Oper×Option (Nat×Nat))->kv->Nat->List Rec->kv->Nat->Prop
 | nil (fr:kv) (q:Nat):pU [] fr q [] fr q
 | quiet {o:Oper} {rest:List (Oper×Option (Nat×Nat))} {fr:kv} {q:Nat} {x:V} {lo hi:Nat} {l:List Rec} {jW:kv} {q':Nat} (k:pU rest (gX fr o.dst lo x) q l jW q'):
   pU ((o,some (lo,hi))::rest) fr q (⟨fr,x,lo,hi,false,q⟩::l) jW q'
 | lH {o:Oper} {rest:List (Oper×Option (Nat×Nat))} {fr:kv} {q:Nat} {x:V} {l:List Rec} {jW:kv} {q':Nat} (k:pU rest (gX fr o.dst (q+1) x) (q+1) l jW q'):
   pU ((o,none)::rest) fr q (⟨fr,x,0,0,true,q⟩::l) jW q'
theorem pU.len{l fr jW q q' tr}(h:pU l fr q tr jW q'):tr.length=l.length:=by
 induction h with
 | nil=>rfl
 | quiet k ih=>grind
 | lH k ih=>grind
theorem pU.pb{l}{fr jW}{q q'}{tr}(h:pU l fr q tr jW q')(t:Nat):∀i r,tr[i]?=some r→
  (∀(j:Nat) o,j<i->l[j]?=some o->o.1.dst≠some t)->getM t r.fr=getM t fr:=by
 induction h with
 | nil=>simp
 | @quiet o rest fr q x lo hi l jW q' k ih=>
   intro i r hi hn;cases i with
   | zero=>grind
   | succ i=>
     rw[ih i r hi (λj o' hj ho=>hn (j+1) o' (by omega) (by grind)),Oy (hn 0 _ (by omega) rfl)]
 | @lH o rest fr q x l jW q' k ih=>
   intro i r hi hn;cases i with
   | zero=>grind
   | succ i=>
     rw[ih i r hi (λj o' hj ho=>hn (j+1) o' (by omega) (by grind)),Oy (hn 0 _ (by omega) rfl)]
theorem pU.EW{l:List (Oper×Option (Nat×Nat))}{fr jW:kv}{q q':Nat}{tr:List Rec}(h:pU l fr q tr jW q')(t:Nat):∀(i j:Nat) (r rj:Rec) (o:Oper×Option (Nat×Nat)),tr[i]?=some r→j < i→tr[j]?=some rj→l[j]?=some o→o.1.dst=some t→
  (∀(j':Nat) (o':Oper×Option (Nat×Nat)),j<j'->j'<i->l[j']?=some o'->o'.1.dst≠some t)->getM t r.fr=(rj.pT,rj.x):=by
 induction h with
 | nil=>intro i j r rj o h;simp at h
 | @quiet o rest fr q x lo hi l jW q' k ih=>
   intro i j r rj o' hi zd hj ho hd hn;cases i with
   | zero=>omega
   | succ i=>
     simp only[apY]at hi;cases j with
     | zero=>
       simp only[apE,anc]at hj ho;subst hj;subst ho;rw[k.pb t i r hi (λj' o' tP iC=>hn (j'+1) o' (by omega) (by omega) (by simpa using iC))];simp only at hd;rw[hd];exact Cq
     | succ j=>
       simp only[apY]at hj ho;exact ih i j r rj o' hi (by omega) hj ho hd (λj' lX h1 h2 h3=>hn (j'+1) lX (by omega) (by omega) (by simpa using h3))
 | @lH o rest fr q x l jW q' k ih=>
   intro i j r rj o' hi zd hj ho hd hn;cases i with
   | zero=>omega
   | succ i=>
     simp only[apY]at hi;cases j with
     | zero=>
       simp only[apE,anc]at hj ho;subst hj;subst ho;rw[k.pb t i r hi (λj' o' tP iC=>hn (j'+1) o' (by omega) (by omega) (by simpa using iC))];simp only at hd;rw[hd];exact Cq
     | succ j=>
       simp only[apY]at hj ho;exact ih i j r rj o' hi (by omega) hj ho hd (λj' lX h1 h2 h3=>hn (j'+1) lX (by omega) (by omega) (by simpa using h3))
theorem pU.mem{l:List (Oper×Option (Nat×Nat))}{fr jW:kv}{q q':Nat}{tr:List Rec}(h:pU l fr q tr jW q'):∀p,p∈jW→
  (∃(j:Nat) (o:Oper×Option (Nat×Nat)) (rj:Rec),l[j]?=some o/\o.1.dst=some p.1/\tr[j]?=some rj/\p.2=(rj.pT,rj.x))\/(p∈fr/\∀(j:Nat) (o:Oper×Option (Nat×Nat)),l[j]?=some o->o.1.dst≠some p.1):=by
 induction h with
 | nil=>intro p hp;exact .inr ⟨hp,by simp⟩
 | @quiet o rest fr q x lo hi l jW q' k ih=>
   intro p hp;rcases ih p hp with⟨j,o',rj,h1,h2,h3,h4⟩|⟨h1,h2⟩
   ·exact .inl ⟨j+1,o',rj,by simpa using h1,h2,by simpa using h3,h4⟩
   ·rcases Oz h1 with⟨hd,hx⟩|⟨h3,h4⟩
    ·exact .inl ⟨0,_,_,rfl,hd,rfl,hx⟩
    ·refine .inr ⟨h3,λj o' hj=>?_⟩;cases j with
     | zero=>simp only[apE,anc]at hj;subst hj;exact h4
     | succ j=>simp only[apY]at hj;exact h2 j o' hj
 | @lH o rest fr q x l jW q' k ih=>
   intro p hp;rcases ih p hp with⟨j,o',rj,h1,h2,h3,h4⟩|⟨h1,h2⟩
   ·exact .inl ⟨j+1,o',rj,by simpa using h1,h2,by simpa using h3,h4⟩
   ·rcases Oz h1 with⟨hd,hx⟩|⟨h3,h4⟩
    ·exact .inl ⟨0,_,_,rfl,hd,rfl,hx⟩
    ·refine .inr ⟨h3,λj o' hj=>?_⟩;cases j with
     | zero=>simp only[apE,anc]at hj;subst hj;exact h4
     | succ j=>simp only[apY]at hj;exact h2 j o' hj
def GY(P:Program)(n:Nat)(ops:Array Oper)(ks:List (Option Nat))(Ls:Nat->aI)(r:Rec)(o:Oper):Prop:=
 (r.lH=true->r.q<ks.length/\fN P n ops o (dm ks r.q r.fr) (Ls r.q) (ks.getD r.q none) r.x (Ls (r.q+1)))/\
 (r.lH=false->∀p,r.lo<=p->p<=r.hi->r6 P ops o ⟨dm ks p r.fr,Ls p⟩ r.x)
def aiX(xs m:List Nat):List Nat:=xs.foldl (λm x=>if m.contains x then m else x::m) m
def adV(acc:List (List Nat))(o:Oper):List Nat:=o.after.toList.foldl (λm e=>if Region.binds .any e then aiX (e.on::acc.getD e.on []) m else m) []
def tT:List Oper->List (List Nat)->List (List Nat)
 | [],acc=>acc
 | o::r,acc=>tT r (acc++ [adV acc o])
def EY(l:List Oper)(tn:List (List Nat)):Bool:=
 l.zipIdx.all λ(o,i)=>(tn.getD i []).all λj=>o.after.toList.any λe=>Region.binds .any e&&(e.on==j||(tn.getD e.on []).contains j)
def SN(rg:List (Option (Nat×Nat))):List Nat:=rg.zipIdx.filterMap λp=>if p.1.isNone then some p.2 else none
def vW(tn:List (List Nat))(fw:List Nat):List (Oper×Option (Nat×Nat))->Nat->Nat->Bool
 | [],_,q=>fw.length==q
 | (o,none)::rest,i,q=>(fw[q]?==some i)&&((fw.take q).all λj=>(tn.getD i []).contains j)&&vW tn fw rest (i+1) (q+1)
 | (_,some (lo,hi))::rest,i,q=>decide (lo<=fw.length)&&!fw.contains i&&((fw.take lo).all λj=>(tn.getD i []).contains j)&&((fw.drop hi).all λj=>(tn.getD j []).contains i)&&vW tn fw rest (i+1) q
def Lf(n:Nat)(l:List Oper)(rg:List (Option (Nat×Nat))):Bool:=
 indep l&&dG n l&&(rg.length==l.length)&&decide (SN rg).Nodup&&EY l (tT l [])&&vW (tT l []) (SN rg) (l.zip rg) 0 0 &&
  l.all λo=>(o.looksAt l.toArray).all λt=>decide (t<n)
theorem SO{tn:List (List Nat)}{fw:List Nat}{l:List (Oper×Option (Nat×Nat))}{fr jW:kv}{q q':Nat}{tr:List Rec}(h:pU l fr q tr jW q'):∀i0,vW tn fw l i0 q=true→fw.length=q'∧
  ∀(i:Nat) (r:Rec) (o:Oper×Option (Nat×Nat)),tr[i]?=some r->l[i]?=some o->
   (r.lH=true->fw[r.q]?=some (i0+i)/\(∀j∈fw.take r.q,j∈tn.getD (i0+i) []))/\
   (r.lH=false->r.lo<=fw.length/\i0+i∉fw/\(∀j∈fw.take r.lo,j∈tn.getD (i0+i) [])/\∀j∈fw.drop r.hi,i0+i∈tn.getD j []):=by
 induction h with
 | nil fr q=>
   intro i0 h;simp only[vW,beq_iff_eq]at h;exact⟨h,by simp⟩
 | @quiet o rest fr q x lo hi l jW q' k ih=>
   intro i0 h;simp only[vW,apb,decide_eq_true_eq,aqQ,apd,ara,decide_eq_false_iff_not]at h;obtain⟨⟨⟨⟨h1,h2⟩,h3⟩,h4⟩,h5⟩:=h;obtain⟨g1,g2⟩:=ih (i0+1) h5;refine⟨g1,λi r o' hr ho=>?_⟩;cases i with
   | zero=>
     simp only[apE,anc]at hr ho;subst hr;exact⟨(λh=>by cases h),λ_=>⟨h1,h2,h3,h4⟩⟩
   | succ i=>
     have:=g2 i r o' (by simpa using hr) (by simpa using ho);rw[show i0+1+i=i0+(i+1) by omega]at this;exact this
 | @lH o rest fr q x l jW q' k ih=>
   intro i0 h;simp only[vW,apb,beq_iff_eq,apd,ara,decide_eq_true_eq]at h;obtain⟨⟨h1,h2⟩,h5⟩:=h;obtain⟨g1,g2⟩:=ih (i0+1) h5;refine⟨g1,λi r o' hr ho=>?_⟩;cases i with
   | zero=>
     simp only[apE,anc]at hr ho;subst hr;subst ho;exact⟨λ_=>⟨h1,h2⟩,(λh=>by cases h)⟩
   | succ i=>
     have:=g2 i r o' (by simpa using hr) (by simpa using ho);rw[show i0+1+i=i0+(i+1) by omega]at this;exact this
theorem Bk{l:List Oper}{tn:List (List Nat)}(cp:indep l=true)(ha:EY l tn=true){listed:Array Bool}
  (nF:∀(j:Nat) (o:Oper),l[j]?=some o->listed.getD j false=true->∀e∈o.after,Region.binds .any e=true->listed.getD e.on false=true):
  ∀(i:Nat) (o:Oper),l[i]?=some o->(∀e∈o.after,Region.binds .any e=true->listed.getD e.on false=true)->∀j∈tn.getD i [],listed.getD j false=true:=by
 intro i
 induction i using Nat.strongRecOn with
 | _ i ih=>
   intro o hi hr j hj;unfold EY at ha;rw[apd]at ha;have:=ha (o,i) (by rw[List.mem_zipIdx_iff_getElem?];exact hi);simp only[apd]at this;have:=this j hj;rw[aqI]at this;obtain⟨e,he,h⟩:=this;simp only[apb,arl,beq_iff_eq,ara,decide_eq_true_eq]at h;obtain⟨hb,h⟩:=h;have kK:e∈o.after:=by simpa using he
   have hle:=hr e kK hb;rcases h with rfl|h
   ·exact hle
   ·have au:=(nd cp hi).2.1 e kK hb;have sZ:e.on<l.length:=by have:=(apa.1 hi).1;omega
    exact ih e.on au l[e.on] (akC sZ) (λe' kK dn=>nF e.on _ (akC sZ) hle e' kK dn) j h
end
section
variable {P : Program} {n : Nat} {Q : AX -> St -> Prop}
structure aba(fo:FO) (m:Nat->Option Value) (m0:Nat->Option Value) (w0:World) (n:Nat) (l:List Oper) (fw:List Nat) (ks:List (Option Nat)) (Ls:Nat->aI) (qm:kv) (tr:List Rec) (p:Nat) (listed:Array Bool) (a:Act) (w:World):Prop where
 size:a.tmps.size=n
 defers:a.defers=fo.D
 inv:Inv fo m (Ls p) w
 step:Step w0 (own m0) w (own m)
 De:listed.size=l.length
 ple:p<=fw.length
 Bl:∀q j,fw[q]?=some j->(listed.getD j false=true↔q<p)
 born:∀(j:Nat) (r:Rec),tr[j]?=some r->listed.getD j false=true->r.pT<=p
 done:∀(j:Nat) (o:Oper) (r:Rec) (d:Nat),l[j]?=some o->tr[j]?=some r->o.dst=some d->listed.getD j false=true->aC w (OO fo m) m (a.tmps.getD d undef) (gO ks r.pT p r.x)
 todo:∀t,(∀(j:Nat) (o:Oper),l[j]?=some o->o.dst=some t->listed.getD j false=false)->aC w (OO fo m) m (a.tmps.getD t undef) (gO ks (getM t qm).1 p (getM t qm).2)
 rest:∀e,e∈qm->(∀(j:Nat) (o:Oper),l[j]?=some o->o.dst≠some e.1)->aC w (OO fo m) m (a.tmps.getD e.1 undef) (gO ks e.2.1 p e.2.2)
 closed:∀(j:Nat) (o:Oper),l[j]?=some o->listed.getD j false=true->∀e∈o.after,Region.binds .any e=true->listed.getD e.on false=true
theorem Iw{f:Nat->V}{rest t}:∀k b,b<=t->t<b+k->eU t ((List.range' b k).map (λt=>(t,f t))++rest)=f t
 | 0,b,h1,h2=>by omega
 | k+1,b,h1,h2=>by
   rw[List.range'_succ,apF,apm,eU];split
   ·grind
   ·exact Iw k (b+1) (by omega) (by omega)
theorem Yp{ks β p w O m v} x(h:aC w O m v x):aC w O m v (gO ks β p x):=by
 unfold gO;generalize (ks.take p).drop β=l
 induction l generalizing x with
 | nil=>exact h
 | cons k l ih=>
   refine ih _ ?_;cases k with
   | none=>exact h
   | some i=>exact h.kill (λ_ _ _ e=>e)
theorem Yq{tn}{fw}{l}{fr jW}{q q'}{tr}(h:pU l fr q tr jW q'):∀i0,vW tn fw l i0 q=true→
  ∀p j,q<=p->fw[p]?=some j->∃(i:Nat) (r:Rec),j=i0+i/\tr[i]?=some r/\r.lH=true/\r.q=p:=by
 induction h with
 | nil fr q=>
   simp_all[vW,beq_iff_eq]
 | @quiet o rest fr q x lo hi l jW q' k ih=>
   intro i0 h p j hp hj;simp[vW,apb]at h;obtain⟨i,r,h1,h2,h3,h4⟩:=ih (i0+1) h.2 p j hp hj;exact⟨i+1,r,by omega,by grind,h3,h4⟩
 | @lH o rest fr q x l jW q' k ih=>
   intro i0 h p j hp hj;simp[vW,apb]at h;rcases apJ q p with au|bm
   ·obtain⟨i,r,h1,h2,h3,h4⟩:=ih (i0+1) h.2 p j (by omega) hj;exact⟨i+1,r,by omega,by grind,h3,h4⟩
   ·obtain rfl:q=p:=by omega
    simp_all
def afe(P:Program)(n:Nat)(ops:Array Oper)(o:Oper)(fr:List (Nat×V))(L:aI)(y:V)(L':aI):Prop:=
 ∀gB,(∀t,t∈o.looksAt ops->eU t gB=eU t fr)->∀fo m a w,G fo n m ⟨gB,L⟩ a w->
  Region.wanted o (yielded ops a.tmps)=true/\∀(next:Act->World->Prop) (Q':Exit->Act->World->Prop),
   (∀ch w' m',AW w' (OO fo m') m' ch y->Inv fo m' L' w'->Step w (own m) w' (own m')->Q' (.panic ch) a w')->o.wpIn (wr fo.r) 0 P a w next Q'
def aff(P:Program)(n:Nat)(Q:AX->St->Prop)(ops:Array Oper)(dd:Option Nat)(ks:List (Option Nat))(Ls:Nat->aI)(r:Rec)(o:Oper):Prop:=
 (r.lH=true->(∃q,dd=some q/\q<r.q)\/(dd=some r.q/\∃y L',afe P n ops o (dm ks r.q r.fr) (Ls r.q) y L'/\Q (.ix y) ⟨[],L'⟩)\/
  (dd≠some r.q/\r.q<ks.length/\fN P n ops o (dm ks r.q r.fr) (Ls r.q) (ks.getD r.q none) r.x (Ls (r.q+1))))/\
 (r.lH=false->∀p,r.lo<=p->p<=r.hi->(∀q,dd=some q->p<=q)->r6 P ops o ⟨dm ks p r.fr,Ls p⟩ r.x)
theorem UW{dd:Option Nat}{l:List Oper}{rg:List (Option (Nat×Nat))}{fw:List Nat}{ks:List (Option Nat)}{Ls:Nat→aI}{qm jD:kv}{tr:List Rec}{k:Nat}(hz:rg.length=l.length)
  (ht:pU (l.zip rg) qm 0 tr jD k) (JZ:∀(i:Nat) (r:Rec) (o:Oper),tr[i]?=some r->l[i]?=some o->aff P n Q l.toArray dd ks Ls r o) (cp:indep l=true) (hd:dG n l=true) (gz:fw.Nodup)
  (UX:EY l (tT l [])=true) (oQ:vW (tT l []) fw (l.zip rg) 0 0=true) (Yg:∀o∈l,∀t∈o.looksAt l.toArray,t<n) (hks:ks.length=k) (hdq:∀q,dd=some q->q<fw.length) (hq:dd=none->Q .normal ⟨dm ks k jD,Ls k⟩)
  {fo:FO} {m0:Nat->Option Value} {w0:World} (hZ:∀e,e∈qm->e.1<n) (yX:∀e,e∈qm->e.2.1=0):
  ∀(fuel:Nat) (m:Nat->Option Value) (p:Nat) (listed:Array Bool) (un:List Nat) (a:Act) (w:World),un.length<=fuel->(∀i,i<l.length->listed.getD i false=false->i∈un)->
   (∀q,dd=some q->p<=q)->aba fo m m0 w0 n l fw ks Ls qm tr p listed a w->wpAnyIn (wr fo.r) 0 P .any l.toArray (gi fo n m0 w0 Q) fuel listed a w:=by
 have Ol:∀(i:Nat) (o:Oper) (d:Nat),l[i]?=some o->o.dst=some d->d<n:=by
  intro i o d hi ho;unfold dG at hd;rw[apd]at hd;have:=hd o (ape hi);rw[ho]at this;simpa using this
 have nS:(l.zip rg).length=l.length:=by rw[List.length_zip];omega
 have hlen:tr.length=l.length:=by rw[ht.len,nS]
 have Ip:∀i:Nat,i<l.length->∃r:Rec,tr[i]?=some r:=λi hi=>⟨_,akC (by omega)⟩
 have UY:∀(i:Nat) (o:Oper),l[i]?=some o->∃g,(l.zip rg)[i]?=some (o,g):=by
  intro i o hi;have kr:=(apa.1 hi).1;refine⟨rg[i]'(by omega),?_⟩;rw[aro];exact⟨hi,akC (by omega)⟩
 have x5:∀(i:Nat) (z:Oper×Option (Nat×Nat)),(l.zip rg)[i]?=some z->l[i]?=some z.1:=by
  intro i z Ap;exact(aro.1 Ap).1
 obtain⟨afg,aiY⟩:=SO ht 0 oQ;have dS:∀(i:Nat) (r:Rec) (o:Oper),tr[i]?=some r→l[i]?=some o→
   (r.lH=true->fw[r.q]?=some i/\(∀j∈fw.take r.q,j∈(tT l []).getD i []))/\
   (r.lH=false->r.lo<=fw.length/\i∉fw/\(∀j∈fw.take r.lo,j∈(tT l []).getD i [])/\∀j∈fw.drop r.hi,i∈(tT l []).getD j []):=by
  intro i r o hr ho;obtain⟨g,hg⟩:=UY i o ho;have:=aiY i r (o,g) hr hg;simpa using this
 have ag7:∀t,(getM t qm).1=0:=by
  intro t;clear ht hZ
  induction qm with
  | nil=>rfl
  | cons e fr ih=>
    obtain⟨k,b,x⟩:=e;rw[getM];split
    ·exact yX _ apo
    ·exact ih (λe he=>yX e (apl _ he))
 have ac4:∀(q j:Nat),fw[q]?=some j->j<l.length/\∃r,tr[j]?=some r/\r.lH=true/\r.q=q:=by
  intro q j hj;obtain⟨i,r,h1,h2,h3,h4⟩:=Yq ht 0 oQ q j (aqr _) hj;obtain rfl:j=i:=by omega
  exact⟨by have:=(apa.1 h2).1;omega,r,h2,h3,h4⟩
 have fin:∀(m:Nat->Option Value) (p:Nat) (listed:Array Bool) (a:Act) (w:World),(∀i,i<l.length->listed.getD i false=true)->(∀q,dd=some q->p<=q)->aba fo m m0 w0 n l fw ks Ls qm tr p listed a w->gi fo n m0 w0 Q .normal a w:=by
  intro m p listed a w bS AD M;have hpk:p=k:=by
   have h1:=M.ple;rcases apJ p fw.length with h|h
   ·have hj:=M.Bl p fw[p] (akC h);have fm:fw[p]<l.length:=by
     refine ap9 λhn=>?_
     exact hn (ac4 p _ (akC h)).1
    have:=hj.1 (bS _ fm);omega
   ·omega
  subst hpk;have FU:dd=none:=by
   cases vG:dd with
   | none=>rfl
   | some q=>
     have h1:=AD q vG;have h2:=hdq q vG;omega
  refine .of m .normal _ (hq FU) ⟨M.size,?_,M.inv,M.defers⟩ trivial M.step;intro t x hx;obtain⟨e,he,hex⟩:=apf.1 hx;simp only[ao7]at hex;obtain⟨rfl,rfl⟩:=hex;rcases ht.mem e he with⟨j,z,r,h1,h2,h3,h4⟩|⟨h1,h2⟩
  ·have gA:=x5 j z h1;refine⟨Ol j z.1 e.1 gA h2,?_⟩;have:=M.done j z.1 r e.1 gA h3 h2 (bS j (apa.1 gA).1);rw[h4];exact this
  ·exact⟨hZ _ h1,M.rest _ h1 (λj o hj=>by
    obtain⟨g,hg⟩:=UY j o hj;exact h2 j (o,g) hg)⟩
 have Dj:∀(listed:Array Bool),listed.size=l.length->Region.ready .any l.toArray listed=[]->∀i,i<l.length->listed.getD i false=true:=by
  intro listed dW hr i
  induction i using Nat.strongRecOn with
  | _ i ih=>
    intro hi;cases hb:listed.getD i false with
    | true=>rfl
    | false=>
      exfalso;have fm:i∈Region.ready .any l.toArray listed:=by
       refine mem_ready.2 ⟨by rw[qX (c:=false) (by omega)];exact hb,l[i],by simp[hi],λe he iE=>?_⟩;have:=(nd cp (akC hi)).2.1 e he iE;exact ih e.on this (by omega)
      rw[hr]at fm;cases fm
 intro fuel
 induction fuel with
 | zero=>
   intro m p listed un a w hun bS AD M;have h0:∀i,i<l.length->listed.getD i false=true:=by
    intro i hi;cases hb:listed.getD i false with
    | true=>rfl
    | false=>have h9:=bS i hi hb;have h8:un=[]:=aqa (by omega);rw[h8]at h9;cases h9
   refine⟨?_,fin m p listed a w h0 AD M⟩;rw[aqn];intro j hj;obtain⟨h1,o,h2,_⟩:=mem_ready.1 hj;have Ii:j<l.length:=by have:=(apn.1 h2).1;simpa using this
   rw[qX (c:=false) (by have:=M.De;omega)]at h1;rw[h0 j Ii]at h1;cases h1
 | succ fuel ih=>
   intro m p listed un a w hun bS AD M;refine⟨λhr=>fin m p listed a w (Dj listed M.De hr) AD M,?_⟩;intro i hi;obtain⟨h1,o,h2,h3⟩:=mem_ready.1 hi;have kr:i<l.length:=by have:=(apn.1 h2).1;simpa using this
   have ti:l[i]?=some o:=by simpa using h2
   rw[qX (c:=false) (by have:=M.De;omega)]at h1;obtain⟨r,rK⟩:=Ip i kr;obtain⟨vy,rO⟩:=JZ i r o rK ti;obtain⟨ha1,ha2⟩:=dS i r o rK ti;obtain⟨i1,i2,i3⟩:=nd cp ti;have uniq:∀(t:Nat) (j:Nat) (lX:Oper),l[j]?=some lX->lX.dst=some t->writes l t=some j:=λt j lX hj hd=>(nd cp hj).1 t hd
   have ac5:∀j∈(tT l []).getD i [],listed.getD j false=true:=Bk cp UX M.closed i o ti h3;have ag8:∀(j:Nat) (oj:Oper),l[j]?=some oj->listed.getD j false=true->∀j'∈(tT l []).getD j [],listed.getD j' false=true:=
    λj oj fe hb=>Bk cp UX M.closed j oj fe (M.closed j oj fe hb)
   have Om:∀t,t∈o.looksAt l.toArray->aC w (OO fo m) m (a.tmps.getD t undef) (eU t (dm ks p r.fr)):=by
    intro t Av;rw[Dt];cases hw:writes l t with
    | none=>
      rw[ht.pb t i r rK (λj z _ hj=>nc hw (x5 j z hj))];exact M.todo t (λj lX hj hd=>(nc hw hj hd).elim)
    | some j=>
      obtain⟨oj,fe,lK⟩:=pc hw;obtain⟨rj,lL⟩:=Ip j (apa.1 fe).1;obtain⟨gj,hgj⟩:=UY j oj fe;rcases i3 t Av j hw with⟨au,e,he,hb,ig⟩|⟨au,oj',Dk,e,he,hb,ig⟩
      ·rw[ht.EW t i j r rj (oj,gj) rK au lL hgj lK (λj' z ze _ tP uH=>by
        have:=uniq t j' z.1 (x5 j' z tP) uH;rw[hw]at this;have:=ao9 this;omega)]
       exact M.done j oj rj t fe lL lK (by rw[<-ig];exact h3 e he hb)
      ·rw[ht.pb t i r rK (λj' z tP Ap uH=>by
        have:=uniq t j' z.1 (x5 j' z Ap) uH;rw[hw]at this;have:=ao9 this;omega)]
       refine M.todo t (λj' lX tP uH=>?_);have:=uniq t j' lX tP uH;rw[hw]at this;obtain rfl:=ao9 this;cases dn:listed.getD j false with
       | false=>rfl
       | true=>
         rw[fe]at Dk;obtain rfl:=ao9 Dk;have:=M.closed j oj fe dn e he hb;rw[ig,h1]at this;cases this
   have bR:∀(v:Value) (t:Nat),o.dst≠some t->(a.put o.dst v).tmps.getD t undef=a.tmps.getD t undef:=by
    intro v t hn;cases vG:o.dst with
    | none=>rfl
    | some d=>
      have:d≠t:=λe=>hn (by rw[vG,e])
      simp[Act.put,aqj this]
   have nf:∀j,(listed.setIfInBounds i true).getD j false=true↔(j=i\/listed.getD j false=true):=by
    intro j;by_cases hj:j=i
    ·subst hj;have hjs:j<listed.size:=by have:=M.De;omega
     simp[Array.getD,hjs]
    ·have:¬i=j:=λe=>hj e.symm
     simp only[aqe,aqj this,hj,false_or]
   have next:∀(m':Nat→Option Value) (p':Nat) (v:Value) (w':World),p≤p'→(∀q,dd=some q→p'≤q)→Inv fo m' (Ls p') w'→Step w (own m) w' (own m')→aC w' (OO fo m') m' v r.x→r.pT=p'∨r.pT≤p→(∀x β,β≤p→∀u,aC w (OO fo m) m u (gO ks β p x)→(∃t,t < n∧u=a.tmps.getD t undef∧((∃(j:Nat) (oj:Oper) (rj:Rec),l[j]?=some oj∧tr[j]?=some rj∧oj.dst=some t∧listed.getD j false=true∧x=rj.x∧β=rj.pT)∨((∀(j:Nat) (o:Oper),l[j]?=some o→o.dst=some t→listed.getD j false=false)∧x=(getM t qm).2∧β=(getM t qm).1)∨((t,β,x)∈qm∧∀(j:Nat) (o:Oper),l[j]?=some o→o.dst≠some t)))→aC w' (OO fo m') m' u (gO ks β p' x))→
     (p'<=fw.length)->(∀q j,fw[q]?=some j->((listed.setIfInBounds i true).getD j false=true↔q<p'))->aC w' (OO fo m') m' v (gO ks r.pT p' r.x)->wpAnyIn (wr fo.r) 0 P .any l.toArray (gi fo n m0 w0 Q) fuel (listed.setIfInBounds i true) (a.put o.dst v) w':=by
    intro m' p' v w' OA aiZ hinv bV hv hb hold ag9 adW hvk;refine ih m' p' (listed.setIfInBounds i true) (un.erase i) (a.put o.dst v) w' ?_ ?_ aiZ ?_
    ·have fm:=bS i kr h1;rw[aru fm];omega
    ·intro j hj hb;have On:¬((listed.setIfInBounds i true).getD j false=true):=by rw[hb];simp
     rw[nf]at On;have zd:j≠i:=λe=>On (.inl e)
     have xQ:listed.getD j false=false:=by
      cases hx:listed.getD j false with
      | false=>rfl
      | true=>exact(On (.inr hx)).elim
     exact(List.mem_erase_of_ne zd).2 (bS j hj xQ)
    ·refine⟨?_,?_,hinv,M.step.trans bV,by simpa using M.De,ag9,adW,?_,?_,?_,?_,?_⟩
     ·cases vG:o.dst<;>simp[Act.put,M.size]
     ·cases vG:o.dst<;>simp[Act.put,M.defers]
     ·intro j rj hrj OB;rcases(nf j).1 OB with rfl|GZ
      ·rw[rK]at hrj;obtain rfl:=ao9 hrj;rcases hb with h|h<;>omega
      ·exact apR (M.born j rj hrj GZ) OA
     ·intro j oj rj d fe lL lK OB;by_cases zd:j=i
      ·subst zd;rw[ti]at fe;obtain rfl:=ao9 fe;rw[rK]at lL;obtain rfl:=ao9 lL;have FU:=Ol j o d ti lK;have:(a.put o.dst v).tmps.getD d undef=v:=by
        have dW:=M.size;rw[lK];simp[Act.put,Array.getD,dW,FU]
       rw[this];exact hvk
      ·have abb:o.dst≠some d:=by
        intro e;have q1:=uniq d i o ti e;have q2:=uniq d j oj fe lK;rw[q1]at q2;exact zd (ao9 q2).symm
       have GZ:=((nf j).1 OB).resolve_left zd;rw[bR v d abb];exact hold _ _ (M.born j rj lL GZ) _ (M.done j oj rj d fe lL lK GZ) ⟨d,Ol j oj d fe lK,rfl,.inl ⟨j,oj,rj,fe,lL,lK,GZ,rfl,rfl⟩⟩
     ·intro t Iq;have EZ:∀(j:Nat) (oj:Oper),l[j]?=some oj->oj.dst=some t->listed.getD j false=false:=by
       intro j oj fe lK;have:=Iq j oj fe lK;cases hx:listed.getD j false with
       | false=>rfl
       | true=>have h4:=(nf j).2 (.inr hx);rw[this]at h4;cases h4
      have abb:o.dst≠some t:=by
       intro e;have:=Iq i o ti e;have h4:=(nf i).2 (.inl rfl);rw[this]at h4;cases h4
      rw[bR v t abb];by_cases F1:t<n
      ·exact hold _ _ (by rw[ag7];omega) _ (M.todo t EZ) ⟨t,F1,rfl,.inr (.inl ⟨EZ,rfl,rfl⟩)⟩
      ·have:(getM t qm).2= .any:=by
        have:∀fr:kv,(∀e∈fr,e.1<n)->(getM t fr).2= .any:=by
         intro fr hf
         induction fr with
         | nil=>rfl
         | cons e fr SP=>
           obtain⟨k',b',x'⟩:=e;rw[getM];split
           ·rename_i hk;have h9:k'<n:=hf (k',b',x') apo;exact absurd (hk ▸ h9) F1
           ·exact SP (λe he=>hf e (apl _ he))
        exact this qm hZ
       rw[this,Le];exact .any _
     ·intro e he FE;rw[bR v e.1 (FE i o ti)];exact hold _ _ (by rw[yX e he];omega) _ (M.rest e he FE) ⟨e.1,hZ e he,rfl,.inr (.inr ⟨he,FE⟩)⟩
     ·intro j oj fe OB e he iE;rw[nf];rcases(nf j).1 OB with rfl|GZ
      ·rw[ti]at fe;obtain rfl:=ao9 fe;exact .inr (h3 e he iE)
      ·exact .inr (M.closed j oj fe GZ e he iE)
   unfold wpOpIn;rw[h2];simp only;cases jn:r.lH with
   | false=>
     obtain⟨g1,g2,g3,g4⟩:=ha2 jn;have fJ:r.lo<=p:=by
      refine ap9 λhn=>?_
      have nu:p<fw.length:=by omega
      have hm:fw[p]∈fw.take r.lo:=by
       rw[aqS];exact⟨p,by omega,rfl⟩
      have:=(M.Bl p _ (akC nu)).1 (ac5 _ (g3 _ hm));omega
     have FG:p<=r.hi:=by
      refine ap9 λhn=>?_
      have nu:r.hi<fw.length:=by have:=M.ple;omega
      have hl:=ac4 r.hi _ (akC nu);have hm:fw[r.hi]∈fw.drop r.hi:=by
       rw[List.mem_drop_iff_getElem];exact⟨0,by omega,by simp⟩
      have hb:=(M.Bl r.hi _ (akC nu)).2 (by omega);have:=ag8 _ _ (akC hl.1) hb i (g4 _ hm);rw[h1]at this;cases this
     have bz:=rO jn p fJ FG AD fo m a w M.inv Om (wpAnyIn (wr fo.r) 0 P .any l.toArray (gi fo n m0 w0 Q) fuel (listed.setIfInBounds i true)) (gi fo n m0 w0 Q) (λv w' hr cm st=>by
      have cQ:bK w (OO fo m) w':=⟨st.size,λb hb ho=>st.block b hb (λh=>ho (.inl h))⟩
      have mono:∀{v:Value} {x:V},aC w (OO fo m) m v x->aC w' (OO fo m) m v x:=λh=>h.mono cQ (λ_ _ h=>h) (λ_ _ h=>h)
      have afh:r.pT<=p:=by unfold Rec.pT;rw[jn];exact fJ
      refine next m p v w' (api _) AD cm st hr (.inr afh) (λx β _ u hu _=>mono hu) M.ple (λq j hq=>?_) ?_
      ·rw[nf,<-M.Bl q j hq];constructor
       ·rintro(rfl|h)
        ·exact(g2 (ape hq)).elim
        ·exact h
       ·exact .inr
      ·exact Yp _ hr)
     split
     ·rename_i hw;rw[if_pos hw]at bz;exact bz
     ·rename_i hw;rw[if_neg hw]at bz;exact⟨λ_ _=>trivial,bz⟩
   | true=>
     obtain⟨g1,g2⟩:=ha1 jn;have hqp:r.q=p:=by
      have e1:¬r.q<p:=λh=>by
       have:=(M.Bl r.q i g1).2 h;rw[h1]at this;cases this
      refine ap9 λhn=>?_
      have au:p<r.q:=by omega
      have nu:p<fw.length:=by have:=(apa.1 g1).1;omega
      have hm:fw[p]∈fw.take r.q:=by
       rw[aqS];exact⟨p,by omega,rfl⟩
      have:=(M.Bl p _ (akC nu)).1 (ac5 _ (g2 _ hm));omega
     have anI:=hqp;subst hqp;have ai0:=vy jn
     let cur:Nat->V:=λt=>match writes l t with
      | some j=>if listed.getD j false=true then(match tr[j]? with|some rj=>gO ks rj.pT r.q rj.x|none=> .any)else gO ks (getM t qm).1 r.q (getM t qm).2
      | none=>gO ks (getM t qm).1 r.q (getM t qm).2
     have CG:∀t,aC w (OO fo m) m (a.tmps.getD t undef) (cur t):=by
      intro t;simp only[cur];cases hw:writes l t with
      | none=>exact M.todo t (λj lX hj hd=>(nc hw hj hd).elim)
      | some j=>
        obtain⟨oj,fe,lK⟩:=pc hw;obtain⟨rj,lL⟩:=Ip j (apa.1 fe).1;simp only[lL];split
        ·rename_i hb;exact M.done j oj rj t fe lL lK hb
        ·rename_i hb;refine M.todo t (λj' lX tP uH=>?_);have:=uniq t j' lX tP uH;rw[hw]at this;obtain rfl:=ao9 this;simpa using hb
     let base:List (Nat×V):=(qm.filter λe=>(writes l e.1).isNone).map λe=>(e.1,gO ks e.2.1 r.q e.2.2)
     let gB:List (Nat×V):=(List.range' 0 n).map (λt=>(t,cur t))++base
     have jT:∀t,t<n->eU t gB=cur t:=λt SJ=>Iw n 0 (aqr _) (by omega)
     have g2':G fo n m ⟨gB,Ls r.q⟩ a w:=by
      refine⟨M.size,?_,M.inv,M.defers⟩;intro t x hx;rcases apr.1 hx with hx|hx
      ·obtain⟨t',SJ,e⟩:=apf.1 hx;simp only[ao7]at e;obtain⟨rfl,rfl⟩:=e;have:t'<n:=by have:=List.mem_range'.1 SJ;obtain⟨_,_,_⟩:=this;omega
       exact⟨this,CG t'⟩
      ·obtain⟨e,he,hex⟩:=apf.1 hx;simp only[ao7]at hex;obtain⟨rfl,rfl⟩:=hex;obtain⟨x6,F0⟩:=aqm.1 he;have hwn:writes l e.1=none:=by simpa using F0
       exact⟨hZ e x6,M.rest e x6 (λj oj hj=>nc hwn hj)⟩
     have M0:∀t,t∈o.looksAt l.toArray->eU t gB=eU t (dm ks r.q r.fr):=by
      intro t Av;rw[jT t (Yg o (ape ti) t Av),Dt];simp only[cur];cases hw:writes l t with
      | none=>rw[ht.pb t i r rK (λj z _ hj=>nc hw (x5 j z hj))]
      | some j=>
        obtain⟨oj,fe,lK⟩:=pc hw;obtain⟨rj,lL⟩:=Ip j (apa.1 fe).1;obtain⟨gj,hgj⟩:=UY j oj fe;simp only[lL];rcases i3 t Av j hw with⟨au,e,he,hb,ig⟩|⟨au,oj',Dk,e,he,hb,ig⟩
        ·rw[if_pos (by rw[<-ig];exact h3 e he hb),ht.EW t i j r rj (oj,gj) rK au lL hgj lK (λj' z ze _ tP uH=>by
          have:=uniq t j' z.1 (x5 j' z tP) uH;rw[hw]at this;have:=ao9 this;omega)]
        ·rw[if_neg,ht.pb t i r rK (λj' z tP Ap uH=>by
          have:=uniq t j' z.1 (x5 j' z Ap) uH;rw[hw]at this;have:=ao9 this;omega)]
         intro dn;rw[fe]at Dk;obtain rfl:=ao9 Dk;have:=M.closed j oj fe dn e he hb;rw[ig,h1]at this;cases this
     rcases ai0 with⟨q,vG,au⟩|⟨vG,y,L',aha,ai1⟩|⟨vG,hqk,OD⟩
     ·have:=AD q vG;omega
     ·obtain⟨hw,bz⟩:=aha gB M0 fo m a w g2';rw[if_pos hw];refine bz _ _ λch w' m' mh cm st=>?_
      exact .of m' (.ix y) ⟨[],L'⟩ ai1 ⟨M.size,by simp,cm,M.defers⟩ mh (M.step.trans st)
     have fin:∀(m':Nat->Option Value) (v:Value) (w':World),aC w' (OO fo m') m' v r.x->G fo n m' ⟨mF (ks.getD r.q none) gB,Ls (r.q+1)⟩ a w'->Step w (own m) w' (own m')->wpAnyIn (wr fo.r) 0 P .any l.toArray (gi fo n m0 w0 Q) fuel (listed.setIfInBounds i true) (a.put o.dst v) w':=by
      intro m' v w' hr g' st;exact next m' (r.q+1) v w' (by omega) (λq hq=>by have h1:=AD q hq;have h2:q≠r.q:=λe=>vG (by rw[hq,e]);omega) g'.inv st hr (.inl (by unfold Rec.pT;rw[jn];rfl)) (by
       intro x β hβ u hu ⟨t,F1,hut,afi⟩;rw[UU hβ hqk];subst hut;have fm:∀y,(t,y)∈gB->aC w' (OO fo m') m' (a.tmps.getD t undef) (kO (ks.getD r.q none) y):=by
        intro y hy;exact(g'.fr t _ (apf.2 ⟨(t,y),hy,rfl⟩)).2
       have ac6:(t,cur t)∈gB:=apD _ (apf.2 ⟨t,List.mem_range'.2 ⟨t,by omega,by omega⟩,rfl⟩);rcases afi with⟨j,oj,rj,fe,lL,lK,hb,rfl,rfl⟩|⟨EZ,rfl,rfl⟩|⟨he,FE⟩
       ·have hw:=uniq t j oj fe lK;have:cur t=gO ks rj.pT r.q rj.x:=by simp only[cur,hw,if_pos hb,lL]
        rw[<-this];exact fm _ ac6
       ·have:cur t=gO ks (getM t qm).1 r.q (getM t qm).2:=by
         simp only[cur];cases hw:writes l t with
         | none=>rfl
         | some j=>
           obtain⟨oj,fe,lK⟩:=pc hw;simp[EZ j oj fe lK]
        rw[<-this];exact fm _ ac6
       ·refine fm _ (apO _ (apf.2 ⟨(t,β,x),aqm.2 ⟨he,?_⟩,rfl⟩));cases hw:writes l t with
        | none=>simp[hw]
        | some j=>
          obtain⟨oj,fe,lK⟩:=pc hw;exact(FE j oj fe lK).elim)
       (by have:=(apa.1 g1).1;omega) (λq j hq=>by
        rw[nf,M.Bl q j hq];constructor
        ·rintro(rfl|h)
         ·have e1:=apa.1 hq;have e2:=apa.1 g1;have:=(List.getElem_inj gz).1 (e1.2.trans e2.2.symm);omega
         ·omega
        ·intro h;rcases apJ q r.q with h'|h'
         ·exact .inr h'
         ·obtain rfl:q=r.q:=by omega
          rw[g1]at hq;exact .inl (ao9 hq).symm)
       (by rw[Bj (by unfold Rec.pT;rw[jn];exact api _)];exact hr)
     rcases OD gB M0 fo m a w g2' with⟨hw,bz⟩|⟨hw,hk0,hL0,hr⟩
     ·rw[if_pos hw];exact bz _ _ λv w' m' hr g' st=>fin m' v w' hr g' st
     ·rw[if_neg (by rw[hw];simp)];refine⟨λ_ _=>trivial,fin m undef w hr ?_ (Step.refl w _)⟩;rw[hk0,hL0,iw];exact g2'
theorem UZ{fo:FO}{m:Nat→Option Value}{l:List Oper}{s:St}{a:Act}{w:World}{fw:List Nat}{ks:List (Option Nat)}{Ls:Nat→aI}{tr:List Rec}(g:G fo n m s a w)(k:Nat)(hL:Ls 0=s.L):
  aba fo m m w n l fw ks Ls (s.fr.map λe=>(e.1,0,e.2)) tr 0 (Array.replicate l.length false) a {w with drawn:=k}:=by
 have st:Step w (own m) {w with drawn:=k} (own m):=⟨rfl,rfl,rfl,api _,λ_ _ _=>rfl,λ_ _ h=>h⟩
 have mono:∀{v:Value} {x:V},aC w (OO fo m) m v x->aC {w with drawn:=k} (OO fo m) m v x:=λh=>h.mono st.rJ (λ_ _ h=>h) (λ_ _ h=>h)
 have Dv:∀j,(Array.replicate l.length false).getD j false=false:=by intro j;simp[Array.getD]
 refine⟨g.size,g.defers,by rw[hL];exact g.inv.grown (api _) (λ_ _=>rfl),st,by simp,aqr _,?_,?_,?_,?_,?_,?_⟩
 ·intro q j _;rw[Dv];simp
 ·intro j r _ hb;rw[Dv]at hb;cases hb
 ·intro j o r d _ _ _ hb;rw[Dv]at hb;cases hb
 ·intro t _;rw[Bj (aqr _)];have:(getM t (s.fr.map λe=>(e.1,0,e.2))).2=s.get t:=by
   unfold St.get;generalize s.fr=fr
   induction fr with
   | nil=>rfl
   | cons e fr ih=>
     obtain⟨k,x⟩:=e;simp only[apF,getM,eU];split
     ·rfl
     ·exact ih
  rw[this];exact mono (qQ g t)
 ·intro e he _;obtain⟨x,hx,rfl⟩:=apf.1 he;rw[Bj (aqr _)];exact mono (g.fr x.1 x.2 hx).2
 ·intro j o _ hb;rw[Dv]at hb;cases hb
theorem U0{dd:Option Nat}{l:List Oper}{s:St}{rg:List (Option (Nat×Nat))}{ks:List (Option Nat)}{Ls:Nat→aI}{jD:kv}{tr:List Rec}(ok:Lf n l rg=true)(ht:pU (l.zip rg) (s.fr.map fun e=>(e.1,0,e.2)) 0 tr jD ks.length)
  (JZ:∀(i:Nat) (r:Rec) (z:Oper×Option (Nat×Nat)),tr[i]?=some r->(l.zip rg)[i]?=some z->aff P n Q l.toArray dd ks Ls r z.1) (hL:Ls 0=s.L) (hdq:∀q,dd=some q->q<ks.length) (hq:dd=none->Q .normal ⟨dm ks ks.length jD,Ls ks.length⟩)
  {fo:FO} {m:Nat->Option Value} {a:Act} {w:World} (g:G fo n m s a w) (k:Nat):wpAnyIn (wr fo.r) 0 P .any l.toArray (gi fo n m w Q) l.length (Array.replicate l.length false) a {w with drawn:=k}:=by
 simp only [Lf,apb,beq_iff_eq,decide_eq_true_eq,apd]at ok;obtain⟨⟨⟨⟨⟨⟨o1,o2⟩,o3⟩,o4⟩,o5⟩,o6⟩,o7⟩:=ok;have afg:=(SO ht 0 o6).1;exact UW o3 ht (fun i r o hr ho=>by
   have kr:=(apa.1 ho).1;exact JZ i r (o,rg[i]'(by omega)) hr (by rw[aro];exact⟨ho,akC (by omega)⟩))
  o1 o2 o4 o5 o6 (λo ho t ht=>by simpa using o7 o ho t ht) rfl (λq h=>by rw[afg];exact hdq q h) hq
  (λe he=>by obtain⟨x,hx,rfl⟩:=apf.1 he;exact(g.fr x.1 x.2 hx).1) (λe he=>by obtain⟨x,hx,rfl⟩:=apf.1 he;rfl)
  l.length m 0 _ (List.range l.length) a _ (by simp) (λi hi _=>by simpa using hi) (λq _=>aqr _) (UZ g k hL)
theorem Bm{l:List Oper}{s:St}{rg:List (Option (Nat×Nat))}{ks:List (Option Nat)}{Ls:Nat→aI}{jD:kv}{tr:List Rec}(ok:Lf n l rg=true)(ht:pU (l.zip rg) (s.fr.map fun e=>(e.1,0,e.2)) 0 tr jD ks.length)
  (JZ:∀(i:Nat) (r:Rec) (z:Oper×Option (Nat×Nat)),tr[i]?=some r->(l.zip rg)[i]?=some z->GY P n l.toArray ks Ls r z.1) (hL:Ls 0=s.L) (hq:Q .normal ⟨dm ks ks.length jD,Ls ks.length⟩)
  {fo:FO} {m:Nat->Option Value} {a:Act} {w:World} (g:G fo n m s a w) (k:Nat):wpAnyIn (wr fo.r) 0 P .any l.toArray (gi fo n m w Q) l.length (Array.replicate l.length false) a {w with drawn:=k}:=
 U0 (dd:=none) ok ht (λi r z hr hz=>⟨λhl=> .inr (.inr ⟨by simp,(JZ i r z hr hz).1 hl⟩),λhl p h1 h2 _=>(JZ i r z hr hz).2 hl p h1 h2⟩) hL (by simp) (λ_=>hq) g k
end
section
variable {P : Program} {n : Nat} {Q : AX -> St -> Prop}
def qv(P:Program)(ops:Array Oper)(s:St)(o:Oper):Option (V×Prop):=
 match fq ops s o with
 | some none=>q2 P s.ev s.L o
 | some (some g)=>some (.gd g (UR (q2 P (Ob s o) s.L o)),g=true->US (q2 P (Ob s o) s.L o)/\gU s o)
 | none=>none
def cv(P:Program)(ops:Array Oper)(s:St)(o:Oper)(u:V):Option (V×Prop):=
 match fq ops s o with
 | some none=>some (u,wI P s o u)
 | some (some g)=>some (.gd g u,g=true->wJ P s o u)
 | none=>none
theorem Bn{ops s o x c}(h:qv P ops s o=some (x,c))(hc:c):r6 P ops o s x:=by
 unfold qv at h;split at h
 ·rename_i hg;exact y9 (lg hg) (.UT (uM h hc))
 ·rename_i g hg;cases h;refine zc hg (λhb=>?_);obtain⟨k1,k2⟩:=hc hb;obtain⟨c',h3,h4⟩:=Bd k1;exact⟨_,JW k2,.UT (uM h3 h4)⟩
 grind
theorem G0{ops s o u x c}(h:cv P ops s o u=some (x,c))(hc:c):r6 P ops o s x:=by
 unfold cv at h;split at h
 ·grind[y9,lg,wI.FZ]
 ·grind[zc,wJ.FZ]
 grind
def pF:Nat->Nat->(Nat->Prop)->Prop
 | 0,_,_=>True
 | k+1,p,f=>f p/\pF k (p+1) f
theorem AF{f}:∀{k p},pF k p f->∀i,p<=i->i<p+k->f i
 | 0,p,_,i,h1,h2=>by omega
 | k+1,p,h,i,h1,h2=>by
   rcases apJ p i with au|bm
   ·exact AF h.2 i (by omega) (by omega)
   ·obtain rfl:p=i:=by omega
    exact h.1
structure Lg where
 o:Oper
 fr:kv
 x:V
 lo:Nat
 hi:Nat
 told:Option V
def x7(P:Program)(ops:Array Oper)(o:Oper)(s:St)(x:V):Option V->Prop
 | some u=>match cv P ops s o u with
   | some (x',c)=>x'=x/\c
   | none=>False
 | none=>match qv P ops s o with
   | some (x',c)=>x'=x/\c
   | none=>False
theorem Lh{ops s o x t}(h:x7 P ops o s x t):r6 P ops o s x:=by
 cases t with
 | some u=>
   simp[x7]at h;split at h
   ·rename_i x' c hc;obtain⟨rfl,h⟩:=h;exact G0 hc h
   grind
 | none=>
   simp[x7]at h;split at h
   ·rename_i x' c hc;obtain⟨rfl,h⟩:=h;exact Bn hc h
   grind
def Bo(P:Program)(ops:Array Oper)(ks:List (Option Nat))(Ls:List aI):List Lg->Prop
 | []=>True
 | d::ds=>pF (d.hi-d.lo) (d.lo+1) (λp=>x7 P ops d.o ⟨dm ks p d.fr,Ls.getD p []⟩ d.x d.told)/\Bo P ops ks Ls ds
def gx(P:Program)(ops:Array Oper)(o:Oper)(s:St)(K:V->Option Nat->aI->Prop):Prop:=∃x k L',(∀n,fN P n ops o s.fr s.L k x L')/\K x k L'
theorem gx.intro{ops o s K x k L'}(h:∀n,fN P n ops o s.fr s.L k x L')(hk:K x k L'):gx P ops o s K:=⟨x,k,L',h,hk⟩
def runM(P:Program)(ops:Array Oper):List (Oper×Option (Nat×Nat))->kv->List (Option Nat)->List aI->List V->List Lg->(kv->List (Option Nat)->List aI->Prop)->Prop
 | [],fr,ks,Ls,_,ds,K=>Bo P ops ks Ls ds/\K fr ks Ls
 | (o,none)::rest,fr,ks,Ls,us,ds,K=>
   match lv P ops ⟨dm ks ks.length fr,Ls.getD ks.length []⟩ o with
   | some (x,k,L',c)=>c/\runM P ops rest (gX fr o.dst (ks.length+1) x) (ks++ [k]) (Ls++ [L']) us ds K
   | none=>gx P ops o ⟨dm ks ks.length fr,Ls.getD ks.length []⟩ λx k L'=>runM P ops rest (gX fr o.dst (ks.length+1) x) (ks++ [k]) (Ls++ [L']) us ds K
 | (o,some (lo,hi))::rest,fr,ks,Ls,us,ds,K=>
   if rZ o then
    match us with
    | []=>False
    | u::kM=>match cv P ops ⟨dm ks ks.length fr,Ls.getD ks.length []⟩ o u with
      | some (x,c)=>c∧pF (ks.length-lo) lo (fun p=>x7 P ops o ⟨dm ks p fr,Ls.getD p []⟩ x (some u))∧
        runM P ops rest (gX fr o.dst lo x) ks Ls kM (if ks.length<hi then⟨o,fr,x,ks.length,hi,some u⟩::ds else ds) K
      | none=>False
   else
    match qv P ops ⟨dm ks ks.length fr,Ls.getD ks.length []⟩ o with
    | some (x,c)=>c∧pF (ks.length-lo) lo (fun p=>x7 P ops o ⟨dm ks p fr,Ls.getD p []⟩ x none)∧
      runM P ops rest (gX fr o.dst lo x) ks Ls us (if ks.length<hi then⟨o,fr,x,ks.length,hi,none⟩::ds else ds) K
    | none=>False
theorem uY{Ls Ls':List aI}{p}(h:p<Ls.length):(Ls++Ls').getD p []=Ls.getD p []:=by
 grind
theorem E0{ops}{K}:∀l fr ks Ls us ds,Ls.length=ks.length+1→runM P ops l fr ks Ls us ds K→
  ∃tr jD jE lM,pU l fr ks.length tr jD (ks++jE).length/\(∀(i:Nat) r z,tr[i]?=some r->l[i]?=some z->GY P n ops (ks++jE) (λp=>(Ls++lM).getD p []) r z.1)/\
   Bo P ops (ks++jE) (Ls++lM) ds/\K jD (ks++jE) (Ls++lM)
 | [],fr,ks,Ls,us,ds,hl,h=>by
   refine⟨[],fr,[],[],?_,by simp,?_,?_⟩
   ·simp only[apL];exact .nil fr ks.length
   ·simpa using h.1
   ·simpa using h.2
 | (o,none)::rest,fr,ks,Ls,us,ds,hl,h=>by
   have key:∀(x:V) (k:Option Nat) (L':aI),fN P n ops o (dm ks ks.length fr) (Ls.getD ks.length []) k x L'→runM P ops rest (gX fr o.dst (ks.length+1) x) (ks++ [k]) (Ls++ [L']) us ds K→
     ∃tr jD jE lM,pU ((o,none)::rest) fr ks.length tr jD (ks++jE).length/\(∀(i:Nat) (r:Rec) (z:Oper×Option (Nat×Nat)),tr[i]?=some r->((o,none)::rest)[i]?=some z->GY P n ops (ks++jE) (λp=>(Ls++lM).getD p []) r z.1)/\
      Bo P ops (ks++jE) (Ls++lM) ds/\K jD (ks++jE) (Ls++lM):=by
    intro x k L' OD hr;obtain⟨tr,jD,jE,lM,h1,h2,h3,h4⟩:=E0 rest _ _ _ us ds (by grind) hr;rw[apA]at h1 h3 h4;simp only[apA,aph,apj,apC]at h1 h2 h3 h4;refine⟨⟨fr,x,0,0,true,ks.length⟩::tr,jD,_,_,.lH (by grind),?_,h3,h4⟩;intro i r z hi hz;cases i with
    | zero=>
      simp only[apE,anc]at hi hz;subst hi;subst hz;refine⟨λ_=>⟨by simp,?_⟩,(λh=>by cases h)⟩;simp only;rw[uX (api _),uY (by omega)];grind
    | succ i=>grind
   rw[runM]at h;split at h
   ·rename_i x k L' c bV;exact key x k L' (fN.of (n:=n) bV h.1) h.2
   ·obtain⟨x,k,L',OD,hr⟩:=h;grind
 | (o,some (lo,hi))::rest,fr,ks,Ls,us,ds,hl,h=>by
   have key:∀(x:V) (t:Option V) (kM:List V),r6 P ops o ⟨dm ks ks.length fr,Ls.getD ks.length []⟩ x→pF (ks.length-lo) lo (fun p=>x7 P ops o ⟨dm ks p fr,Ls.getD p []⟩ x t)→
     runM P ops rest (gX fr o.dst lo x) ks Ls kM (if ks.length<hi then⟨o,fr,x,ks.length,hi,t⟩::ds else ds) K->
     ∃tr jD jE lM,pU ((o,some (lo,hi))::rest) fr ks.length tr jD (ks++jE).length/\(∀(i:Nat) (r:Rec) (z:Oper×Option (Nat×Nat)),tr[i]?=some r->((o,some (lo,hi))::rest)[i]?=some z->GY P n ops (ks++jE) (λp=>(Ls++lM).getD p []) r z.1)/\
      Bo P ops (ks++jE) (Ls++lM) ds/\K jD (ks++jE) (Ls++lM):=by
    intro x t kM hc ha hr;obtain⟨tr,jD,jE,lM,h1,h2,h3,h4⟩:=E0 rest _ _ _ kM _ hl hr;have Xn:Bo P ops (ks++jE) (Ls++lM) ds:=by
     split at h3
     ·exact h3.2
     omega
    refine⟨⟨fr,x,lo,hi,false,ks.length⟩::tr,jD,jE,lM,.quiet h1,?_,Xn,h4⟩;intro i r z cm hz;cases i with
    | zero=>
      simp only[apE,anc]at cm hz;subst cm;subst hz;refine⟨(λh=>by cases h),λ_ p nu uD=>?_⟩;simp only at nu uD⊢;rcases Nat.lt_trichotomy p ks.length with au|heq|hgt
      ·grind[uX,uY,Lh,AF]
      ·grind[uX,uY]
      ·rw[if_pos (by omega)]at h3;exact Lh (AF h3.1 p (by grind) (by grind))
    | succ i=>grind
   cases pS:rZ o with
   | true=>
     cases us with
     | nil=>simp_all[runM,if_pos]
     | cons u kM=>
       rw[runM,if_pos pS]at h;split at h
       ·rename_i x c hcv;exact key x (some u) kM (G0 hcv h.1) h.2.1 h.2.2
       grind
   | false=>
     rw[runM.eq_def]at h;simp only[pS,apH,if_false]at h;split at h
     ·rename_i x c hqv;exact key x none us (Bn hqv h.1) h.2.1 h.2.2
     grind
theorem av.aT{id}{l}{s} rg us(hm:P.follows .mixedOrders=true)(ok:Lf n l rg=true)
  (h:runM P l.toArray (l.zip rg) (s.fr.map λe=>(e.1,0,e.2)) [] [s.L] us [] (λfr ks Ls=>Q .normal ⟨dm ks ks.length fr,Ls.getD ks.length []⟩)):av P n (.region id l.toArray true) s Q:=by
 intro fo m a w _ g;obtain⟨tr,jD,ks,Ls,h1,h2,-,h4⟩:=E0 (l.zip rg) _ [] [s.L] us [] rfl h;exact wpIn_region_any hm (Bm ok h1 h2 rfl h4 g _)
def U1(bs:Nat->Nat)(h:Nat):aV->aV
 | .box 0 ty cs=> .box (bs h+1) ty cs
 | r=>r
def St.zi(bs:Nat->Nat)(s:St):St:=⟨s.fr,s.L.map λp=>(p.1,U1 bs p.1 p.2)⟩
@[simp] theorem ai2(bs:Nat->Nat)(h:Nat)(ty:TypeId)(k:Nat)(xs:List (List V)):U1 bs h (.row ty k xs)= .row ty k xs:=rfl
@[simp] theorem ai3(bs:Nat->Nat)(h b:Nat)(ty:TypeId)(cs:List V):U1 bs h (.box (b+1) ty cs)= .box (b+1) ty cs:=rfl
@[simp] theorem aib(bs:Nat->Nat)(h:Nat)(ty:TypeId)(cs:List V):U1 bs h (.box 0 ty cs)= .box (bs h+1) ty cs:=rfl
theorem G.zi{fo m s a w}(g:G fo n m s a w):∃bs,G fo n m (s.zi bs) a w:=by
 let bs:=λh=>match m h with
  | some (.pointer (some x))=>x.block
  | _=>0
 have hi:=g.inv;have hk:keys (St.zi bs s).L=keys s.L:=by simp[St.zi]
 refine⟨bs,g.size,g.fr,⟨by rw[hk];exact hi.nodup,λh x hx=>by rw[hk];exact hi.fI h x hx,hi.apart,hi.others,hi.ei,?_,hi.ee⟩,g.defers⟩;intro h r hr;obtain⟨p,hp,he⟩:=apf.1 hr;cases he;obtain⟨x,hx,hh⟩:=hi.holds p.1 p.2 hp;refine⟨x,hx,?_⟩;generalize hq:p.2=q at hh;cases q with
 | row ty k xs=>exact hh
 | env A=>exact hh
 | mp es=>exact hh
 | box b ty cs=>
   cases b with
   | succ b=>exact hh
   | zero=>
     obtain⟨bb,_,cur,rfl,h1⟩:=hh;refine⟨bb,.inr ?_,cur,rfl,h1⟩;grind
theorem av.opened{c s}(h:av P n c s (λx s'=>∀bs,Q x (s'.zi bs))):av P n c s Q:=by
 intro fo m a w hr g;refine Code.wpIn_mono (λe a1 w1 hp=>?_) (h fo m a w hr g);obtain⟨ms,m',x,s',hm,hq,g',he,st⟩:=hp;obtain⟨bs,g2⟩:=g'.zi;exact⟨ms,m',x,s'.zi bs,hm,hq bs,g2,he,st⟩
theorem av.ES{id}{l}{s} rg us(hm:P.follows .mixedOrders=true)(ok:Lf n l rg=true)
  (h:runM P l.toArray (l.zip rg) (s.fr.map λe=>(e.1,0,e.2)) [] [s.L] us [] (λfr ks Ls=>∀bs,Q .normal (St.zi bs ⟨dm ks ks.length fr,Ls.getD ks.length []⟩))):av P n (.region id l.toArray true) s Q:=
 av.opened (av.aT rg us hm ok h)
attribute [simp] St.zi runM lv qv cv x7 Bo pF gH dm gO kO gX Ds vj
end
section
variable {P : Program} {n : Nat} {s : St} {L : aI}
theorem Wk.C4{t h k ty}(hg:eU t s.fr= .d (.v (.slice none 0 0)))(hn:h∉keys s.L):Wk n s ⟨(t,.rv h)::vQ t s.fr,(h,.row ty k [])::s.L⟩:=by
 intro fo m a w g;obtain⟨g',st⟩:=g.new (hY.refl w) hn (r:= .row ty k []) (by simp[dq,jJ]) (.inl ⟨rfl,rfl⟩);have hm:(t,eU t s.fr)∈s.fr:=by
  grind[xx]
 rw[hg]at hm;refine⟨_,⟨g'.size,?_,g'.inv,g'.defers⟩,st⟩;intro t' x hx;simp at hx;rcases hx with⟨rfl,rfl⟩|hx
 ·obtain⟨h1,h2⟩:=g'.fr t' _ hm;refine⟨h1,?_⟩;have:=h2.cy;rw[this];exact .rv h _ (cq _ _) rfl
 ·exact g'.fr t' x (sB hx).1
theorem Wk.abc{t}(hg:eU t s.fr= .d (.v (.slice none 0 0))):Wk n s ⟨(t,.d (.sl []))::vQ t s.fr,s.L⟩:=by
 intro fo m a w g;have hm:(t,eU t s.fr)∈s.fr:=by
  grind[xx]
 rw[hg]at hm;refine⟨m,⟨g.size,?_,g.inv,g.defers⟩,Step.refl w _⟩;intro t' x hx;simp at hx;rcases hx with⟨rfl,rfl⟩|hx
 ·obtain⟨h1,h2⟩:=g.fr t' _ hm;refine⟨h1,?_⟩;have:=h2.cy;rw[this];exact .d _ _ xc
 ·exact g.fr t' x (sB hx).1
def St.pick(ts hs:List Nat)(s:St):St:=⟨ts.map λt=>(t,eU t s.fr),hs.filterMap λh=>(s.L.lookup h).map λr=>(h,r)⟩
theorem Yr(hs:List Nat)(L:aI):∀x,x∈keys (hs.filterMap λh=>(L.lookup h).map λr=>(h,r))->x∈hs:=by
 simp_all
theorem Bp(L:aI):∀hs:List Nat,hs.Nodup->(keys (hs.filterMap λh=>(L.lookup h).map λr=>(h,r))).Nodup
 | [],_=>by simp
 | h::hs,hn=>by
   have OE:=ap0.1 hn;rw[aqH];cases hl:L.lookup h with
   | none=>exact Bp L hs OE.2
   | some r=>
     simp only[apB,keys,apF,ap0];exact⟨λhm=>OE.1 (Yr hs L h hm),Bp L hs OE.2⟩
theorem Wk.pick ts hs(ht:ts.all (λt=>decide (t<n))=true)(hh:hs.Nodup)(ig:(s.pick ts hs).on (keys (s.pick ts hs).L)=true):Wk n s (s.pick ts hs):=by
 intro fo m a w g;have key:Wk n ⟨(s.pick ts hs).fr++s.fr,s.L⟩ (s.pick ts hs):=Wk.drop (fun p hp=>apD _ hp) (fun p hp=>by
   obtain⟨h,_,he⟩:=aqq.1 hp;obtain⟨r,hr,rfl⟩:=ao8.1 he;exact dL hr) (Bp _ _ hh) ig
 refine key fo m a w ⟨g.size,λt x hx=>?_,g.inv,g.defers⟩;rcases apr.1 hx with hx|hx
 ·obtain⟨t',SJ,e⟩:=apf.1 hx;simp at e;obtain⟨rfl,rfl⟩:=e;refine⟨by grind,?_⟩;exact qQ g t'
 ·exact g.fr t x hx
attribute [simp] St.pick
@[simp] theorem agB l k v:(dd (aA l)).set k [iD v]=dd (aA (l.set k v)):=by
 simp[dd,aA]
@[simp] theorem afj l v:dd (aA l)++ [[iD v]]=dd (aA (l++ [v])):=by
 simp[dd,aA]
@[simp] theorem akn xs k:(∀y∈dd xs,y.length=k)↔∀x∈xs,x.length=k:=by
 simp[dd]
@[simp] theorem aic l:(∀x∈aA l,x.length=1)↔True:=by
 simp[aA]
variable {Q : AX -> St -> Prop} {ops : Array Oper} {us : List V}
@[congr] theorem ai4{c s s'}(h:s=s'):cW P n c s Q=cW P n c s' Q:=by rw[h]
@[congr] theorem ako{l s s'}(h:s=s'):ay P n ops l s Q=ay P n ops l s' Q:=by rw[h]
@[congr] theorem ak3{c s s'}(h:s=s'):av P n c s Q=av P n c s' Q:=by rw[h]
@[congr] theorem akp{l}{fr jW}{ks SM}{Ls Ls'}{us kM}{ds ds'}{K}
  (h1:fr=jW) (h2:ks=SM) (h3:Ls=Ls') (h4:us=kM) (h5:ds=ds'):runM P ops l fr ks Ls us ds K=runM P ops l jW SM Ls' kM ds' K:=by grind
inductive KI where
 | seq (c:Code)
 | dq (id:Nat)
 | inv (J:St->Prop)
def cn(P:Program)(n:Nat)(Q:AX->St->Prop):List KI->AX->St->Prop
 | []=>Q
 | .seq c::ks=>AX.then (λs=>cW P n c s (cn P n Q ks)) (cn P n Q ks)
 | .dq id::ks=>AX.inBlock id (cn P n Q ks)
 | .inv J::ks=>AX.then J (cn P n Q ks)
theorem OF{id l s}:cW P n (.region id l.toArray false) s Q=(dG n l=true/\∀bs,eM P l.toArray l s bs [] (KK P n l.toArray Q)):=by rfl
theorem U2{id}{l:List Oper}{s}:cW P n (.region id l.toArray true) s Q=av P n (.region id l.toArray true) s Q:=by rfl
theorem U3{s}:cW P n .skip s Q=Q .normal s:=by rfl
theorem Ys{x y s ks}:cW P n (.seq x y) s (cn P n Q ks)=cW P n x s (cn P n Q (.seq y::ks)):=by rfl
def E1(P:Program)(n:Nat)(v:V)(x y:Code)(s:St)(Q:AX->St->Prop):Prop:=
 match v with
 | oD t=>(t=true->cW P n x s Q)/\(t=false->cW P n y s Q)
 | _=>False
@[simp] theorem cB{t x y s}:E1 P n (oD t) x y s Q=((if t=true then cW P n x s Q else True)/\(if t=true then True else cW P n y s Q)):=by
 cases t<;>simp[E1]
@[simp] theorem akq{x y s}:E1 P n (oD true) x y s Q=cW P n x s Q:=by simp
@[simp] theorem akr{x y s}:E1 P n (oD false) x y s Q=cW P n y s Q:=by simp
theorem aw{t x y s}(h1:t=true->cW P n x s Q)(h2:t=false->cW P n y s Q):E1 P n (oD t) x y s Q:=⟨h1,h2⟩
theorem U4{c x y s}:cW P n (.cond c x y) s Q=E1 P n (s.ev c) x y s Q:=by
 rfl
theorem RE{id c s ks}:cW P n (.block id c) s (cn P n Q ks)=cW P n c s (cn P n Q (.dq id::ks)):=by rfl
theorem U5{id s}:cW P n (.exit id) s Q=Q (.exit id) s:=by rfl
theorem Yt{s}:cW P n .ret s Q=Q .ret s:=by rfl
theorem U6{c s}:cW P n (.loop c) s Q=av P n (.loop c) s Q:=by rfl
attribute [simp] OF U2 U3 Ys U4 RE U5 Yt U6
variable {ks : List KI}
@[simp] theorem aid{x:AX}:cn P n Q [] x s=Q x s:=rfl
@[simp] theorem agC{c:Code}:cn P n Q (.seq c::ks) .normal s=cW P n c s (cn P n Q ks):=rfl
@[simp] theorem agD{c:Code}{i:Nat}:cn P n Q (.seq c::ks) (.exit i) s=cn P n Q ks (.exit i) s:=rfl
@[simp] theorem agE{c:Code}{i:Nat}:cn P n Q (.seq c::ks) (.goto i) s=cn P n Q ks (.goto i) s:=rfl
@[simp] theorem agF{c:Code}:cn P n Q (.seq c::ks) .ret s=cn P n Q ks .ret s:=rfl
@[simp] theorem agG{c:Code}{v:V}:cn P n Q (.seq c::ks) (.ix v) s=cn P n Q ks (.ix v) s:=rfl
@[simp] theorem agH{J:St->Prop}:cn P n Q (.inv J::ks) .normal s=J s:=rfl
@[simp] theorem agI{J:St->Prop}{i:Nat}:cn P n Q (.inv J::ks) (.exit i) s=cn P n Q ks (.exit i) s:=rfl
@[simp] theorem agJ{J:St->Prop}{i:Nat}:cn P n Q (.inv J::ks) (.goto i) s=cn P n Q ks (.goto i) s:=rfl
@[simp] theorem agK{J:St->Prop}:cn P n Q (.inv J::ks) .ret s=cn P n Q ks .ret s:=rfl
@[simp] theorem agL{J:St->Prop}{v:V}:cn P n Q (.inv J::ks) (.ix v) s=cn P n Q ks (.ix v) s:=rfl
@[simp] theorem agM{i:Nat}:cn P n Q (.dq i::ks) .normal s=cn P n Q ks .normal s:=rfl
@[simp] theorem agN{i j}:cn P n Q (.dq i::ks) (.exit j) s=if j=i then cn P n Q ks .normal s else cn P n Q ks (.exit j) s:=by
 rfl
@[simp] theorem agO{i j:Nat}:cn P n Q (.dq i::ks) (.goto j) s=cn P n Q ks (.goto j) s:=rfl
@[simp] theorem agP{i:Nat}:cn P n Q (.dq i::ks) .ret s=cn P n Q ks .ret s:=rfl
@[simp] theorem agQ{i:Nat}{v:V}:cn P n Q (.dq i::ks) (.ix v) s=cn P n Q ks (.ix v) s:=rfl
theorem aE.run{f}{args}{R}{fn}{c}(hf:P.funcs[f]?=some fn)(hb:fn.body=some c)(hn:args.length≤fn.ntmps)
  (h:cW P fn.ntmps c ⟨eH 0 args,L⟩ (cn P fn.ntmps (fb P fn.results.toList R) [])):aE P f args L R:=
 aE.xW hf hb hn (ef _ _ _ h)
end
end Go.Ab
namespace Go.Ab
mutual
def V.fg(h:Nat)(y:V):V->V
 | .bp i o=>if i=h then .any else .bp i o
 | .rv i=>if i=h then y else .rv i
 | .ep i k a b=>if i=h then .any else .ep i k a b
 | .eS fn f c=> .eS fn (V.mq h y f) (V.mq h y c)
 | .agg cs=> .agg (V.mq h y cs)
 | .bA cs=> .bA (V.mq h y cs)
 | .gd b x=> .gd b (V.fg h y x)
 | .d x=> .d x
 | .rp cs=> .rp cs
 | .sv i n=>if i=h then .any else .sv i n
 | .kn Q=> .kn Q
 | .any=> .any
def V.mq(h:Nat)(y:V):List V->List V
 | []=> []
 | x::l=>V.fg h y x::V.mq h y l
end
theorem pe h y:∀l:List V,V.mq h y l=l.map (V.fg h y)
 | []=>by rfl
 | x::l=>by simp[V.mq,pe]
@[simp] theorem vH h y(l:List D):V.mq h y (l.map V.d)=l.map V.d:=by
 rw[pe,aqx];simp[V.fg]
def aV.fg(h:Nat)(y:V):aV->aV
 | .box b ty cs=> .box b ty (V.mq h y cs)
 | .row ty k xs=> .row ty k (xs.map (V.mq h y))
 | .env A=> .env A
 | .mp es=> .mp es
@[simp] theorem agR h y ys:(dd ys).map (V.mq h y)=dd ys:=by
 unfold dd;simp
section
variable {P : Program} {w w' : World} {fo : FO} {m m' : Nat -> Option Value} {L : aI} {n : Nat} {s : St}
theorem aC.fg{O O' h y}(hO:∀b,O' b->O b)(hm:∀i x,i≠h->m i=some x->m' i=some x)(hy:∀v,m h=some v->aC w O' m' v y){x z}(hr:aC w O m x z):aC w O' m' x (V.fg h y z):=by
 induction hr with
 | d x y hd=>simpa[V.fg]using aC.d x y (hd.mono (bK.refl w _) (λb _ hb=>hO b hb))
 | bp i off b e=>
   simp only[V.fg];split
   ·exact .any _
   ·rename_i bR;exact .bp i off b (hm _ _ bR e)
 | rv i x e e1=>
   simp only[V.fg];split
   ·grind
   ·rename_i bR;exact .rv i x (hm _ _ bR e) e1
 | ep i k p q b o n c e=>
   simp only[V.fg];split
   ·exact .any _
   ·rename_i bR;exact .ep i k p q b o n c (hm _ _ bR e)
 | rp b off cs f hb au hc hr=>simpa[V.fg]using aC.rp (m:=m') b off cs f (λh=>hb (hO b h)) au hc (λj y hy=>(hr j y hy).mono (bK.refl w _) (λb _ hb=>hO b hb))
 | sv i n b cap e hc hx=>
   simp only[V.fg];split
   ·exact .any _
   ·rename_i bR;exact .sv i n b cap (hm _ _ bR e) hc hx
 | eS fn first eh cf cc s1 s2 h1 h2 FA KJ=>
   simp only[V.fg,pe];refine .eS fn first eh _ _ (by grind) (by grind) ?_ ?_
   ·grind
   grind
 | agg vs cs hs h1 h2 ih=>
   simp only[V.fg,pe];refine .agg vs _ (by grind) h1 ?_;grind
 | bA vs cs hs h2 ih=>
   simp only[V.fg,pe];refine .bA vs _ (by grind) ?_;grind
 | gt x y h ih=>simpa[V.fg]using aC.gt _ _ ih
 | gf y=>simpa[V.fg]using aC.gf _
 | kn x Q h=>simpa[V.fg]using aC.kn x Q h
 | any x=>simpa[V.fg]using aC.any _
theorem aV.Holds.fg{O O' h y}(hO:∀b,O' b->O b)(hm:∀i x,i≠h->m i=some x->m' i=some x)(hy:∀v,m h=some v->aC w O' m' v y){x}{r:aV}(hr:r.Holds w O m x):(r.fg h y).Holds w O' m' x:=by
 cases r with
 | box b ty cs=>
   obtain⟨bb,km,cur,rfl,h1,h2,h3,h4⟩:=hr;refine⟨bb,km,cur,rfl,h1,by simp_all[pe],h3,λj v c hv hc=>?_⟩;rw[pe,apc]at hc;obtain⟨z,hz,rfl⟩:=ao8.1 hc;exact(h4 j v z hv hz).fg hO hm hy
 | row ty k xs=>
   rcases hr with⟨h1,h2⟩|⟨b,off,cap,cur,rfl,h1,h2,h3,h4,h5,h6,h7⟩
   ·exact .inl ⟨h1,by grind⟩
   ·refine .inr ⟨b,off,cap,cur,by simp,h1,by grind,h3,h4,?_,h6,?_⟩
    ·grind[pe,List.length_map]
    ·intro i j x y' v hx nr hv;rw[apc]at hx;obtain⟨z,hz,rfl⟩:=ao8.1 hx;rw[pe,apc]at nr;obtain⟨u,hu,rfl⟩:=ao8.1 nr;exact(h7 i j z u v hz hu hv).fg hO hm hy
 | env A=>exact A.mono hr (λ_ _=>rfl) (bK.refl w _) (λb _ h=>hO b h)
 | mp es=>exact KL hr (λ_ _=>rfl) (bK.refl w _) (λb _ h=>hO b h)
theorem Li{O'}(hi:Inv fo m L w){h k ty ys}(hl:L.lookup h=some (.row ty k (dd ys))){v}(hv:m h=some v)(hO:∀b,O' b->OO fo m b)(dn:∀b,dq v b->¬O' b):eT w O' v (.sl ys):=by
 obtain⟨x,hx,hh⟩:=hi.holds h _ (dL hl);rw[hv]at hx;obtain rfl:=ao9 hx;rcases hh with⟨rfl,hy⟩|⟨b,off,cap,cur,rfl,hb,h1,h2,h3,h4,h5,h6⟩
 ·simp_all[dd,xc]
 ·have hlen:(dd ys).length=ys.length:=by simp
  rw[hlen]at h1⊢;have jT:∀(i:Nat) (x:List D),ys[i]?=some x->(dd ys)[i]?=some (x.map V.d):=by
   simp_all
  have Iu:∀(i:Nat) (x:List D),ys[i]?=some x->x.length=k:=by
   grind
  have iE:∀i j,i<ys.length->j<k->off+i *k+j<cur.size:=by
   intro i j hi hj;have:(i+1) *k<=cap *k:=apu _ (by omega);grind
  refine .sl (some ⟨b,off,none⟩) ys.length cap ys k b off (λi j=>cur.getD (off+i *k+j) undef) rfl h1 h2 (λ_=>⟨rfl,dn b rfl,(apn.1 hb).1⟩) Iu ?_ ?_
  ·simp_all[World.cell?,Array.getD]
  ·intro i j x y hx hy;have hj:j<k:=by grind
   have kr:=(apa.1 hx).1;have au:=iE i j kr hj;have:=h6 i j _ (.d y) (cur[off+i *k+j]) (jT i x hx) (by grind) (apy au);have h7:=this.kU;have e:cur.getD (off+i *k+j) undef=cur[off+i *k+j]:=by simp_all
   rw[e];exact h7.mono (bK.refl w _) (λb _ hb=>hO b hb)
def J0(h:Nat)(y:V):aI->aI
 | []=> []
 | (i,r)::l=>if i=h then J0 h y l else(i,aV.fg h y r)::J0 h y l
theorem SQ h y:∀L:aI,J0 h y L=(L.filter λp=>p.1 !=h).map λp=>(p.1,p.2.fg h y)
 | []=>rfl
 | (i,r)::l=>by
   rw[J0,SQ h y l];by_cases hi:i=h<;>simp[hi]
theorem Wk.adX h{ty}{k}{ys} y'(nr:∀(w:World) O v,eT w O v (.sl ys)→eT w O v y')(hl:s.L.lookup h=some (.row ty k (dd ys))):
  Wk n s ⟨s.fr.map λp=>(p.1,V.fg h (.d y') p.2),(s.L.filter λp=>p.1 !=h).map λp=>(p.1,p.2.fg h (.d y'))⟩:=by
 intro fo m a w g
 let m':=λi=>if i=h then none else m i
 have J1:∀i x,m' i=some x->m i=some x/\i≠h:=by
  grind
 have abd:∀i x,i≠h->m i=some x->m' i=some x:=by
  grind
 have eW:∀b,Ab.own m' b->Ab.own m b:=by
  rintro b ⟨i,x,hx,hb⟩;exact⟨i,x,(J1 i x hx).1,hb⟩
 have oT:∀b,OO fo m' b->OO fo m b:=λb hb=>hb.imp (eW b) id
 have hi:=g.inv;have hy:∀v,m h=some v->aC w (OO fo m') m' v (.d y'):=by
  intro v hv;refine .d _ _ (nr _ _ _ (Li hi hl hv oT ?_));rintro b hb (⟨i,x,hx,dn⟩|hf)
  ·have:=hi.apart h i v x b hv (J1 i x hx).1 hb dn;grind
  ·exact hi.others h v b hv hb hf
 refine⟨m',⟨g.size,?_,⟨?_,?_,?_,?_,hi.ei,?_,hi.ee.mono (bK.refl w _) (λb _ hb=>oT b hb)⟩,g.defers⟩,⟨rfl,rfl,rfl,api _,λ_ _ _=>rfl,λb _ hb=>eW b hb⟩⟩
 ·intro t x hx;obtain⟨p,hp,e⟩:=apf.1 hx;cases e;obtain⟨h1,h2⟩:=g.fr p.1 p.2 hp;exact⟨h1,h2.fg oT abd hy⟩
 ·have:keys ((s.L.filter λp=>p.1 !=h).map λp=>(p.1,p.2.fg h (.d y')))=(keys s.L).filter λi=>i !=h:=by
   simp[keys,aqx,List.filter_map];rfl
  rw[this];exact hi.nodup.filter _
 ·intro i x hx;obtain⟨h1,h2⟩:=J1 i x hx;have:=hi.fI i x h1;simp_all
 ·intro i i' x x' b hx cH hb dn;exact hi.apart i i' x x' b (J1 i x hx).1 (J1 i' x' cH).1 hb dn
 ·intro i x b hx hb;exact hi.others i x b (J1 i x hx).1 hb
 ·intro i r hr;obtain⟨p,hp,e⟩:=apf.1 hr;cases e;obtain⟨nu,uD⟩:=aqm.1 hp;obtain⟨x,hx,hh⟩:=hi.holds p.1 p.2 nu;exact⟨x,abd _ _ (by grind) hx,hh.fg oT abd hy⟩
theorem Wk.freeze h{ty}{k}{ys}(hl:s.L.lookup h=some (.row ty k (dd ys))):
  Wk n s ⟨s.fr.map λp=>(p.1,V.fg h (.d (.sl ys)) p.2),J0 h (.d (.sl ys)) s.L⟩:=by
 rw[SQ];exact Wk.adX h _ (λ_ _ _ h=>h) hl
theorem eT.nn{w O x y}(h:eT w O x y):eT w O x y.nn:=by
 unfold D.nn;split
 ·cases h;exact xc
 omega
attribute [simp] V.fg V.mq aV.fg J0 D.nn
end
end Go.Ab

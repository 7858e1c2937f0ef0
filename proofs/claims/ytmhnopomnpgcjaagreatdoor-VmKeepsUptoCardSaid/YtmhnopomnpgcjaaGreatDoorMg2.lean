/-
  The texts Sb K R S W U X N M O L R2 Fz, one behind the other.
-/
import Derived.Test.YtmhnopomnpgcjaaGreatDoorMg1
import Derived.Lib.UnsafeStr
import Derived.RangeFuncLeaves
import Derived.Still
set_option linter.unusedSimpArgs false
set_option linter.unusedVariables false
namespace Go.Ab
section
variable {P : Program} {w w' : World} {fo : FO} {m m' : Nat -> Option Value} {L : aH} {n : Nat} {s : St} {a : Act}
def JS(h:Nat):aH->aH
 | []=> []
 | (k,r)::l=>if k=h then JS h l else(k,r.kill h)::JS h l
theorem AF h:∀L:aH,JS h L=(L.filter λp=>p.1 !=h).map λp=>(p.1,p.2.kill h)
 | []=>rfl
 | (k,r)::l=>by
   rw[JS,AF h l,aqG];by_cases e:k=h<;>simp[e]
def St.rem(h:Nat)(s:St):St:=⟨s.fr.map λp=>(p.1,p.2.kill h),JS h s.L⟩
theorem G.aje(g:G fo n m s a w){h b x0}(rz:m h=some x0)(hb0:df x0 b)(wr:EY w b w'):∃m',G fo n m' (s.rem h) a w'/\Step w (own m) w' (own m'):=by
 classical
 let m':=λi=>if i=h then none else m i
 have hm:∀i x,i≠h->m i=some x->m' i=some x:=λi x bU hx=>by grind
 have mu:∀i x,m' i=some x->i≠h/\m i=some x:=by
  grind
 have fb:∀b,own m' b->own m b:=by
  rintro b ⟨i,x,hx,hb⟩;exact⟨i,x,(mu i x hx).2,hb⟩
 have hO:∀b,b<w.heap.size->OO fo m' b->OO fo m b:=λb _ ho=>ho.imp (fb b) id
 have hi:=g.inv;have cN:bK w (OO fo m) w':=⟨wr.size,λc hc ho=>wr.block c hc (λe=>ho (.inl ⟨h,x0,rz,e ▸ hb0⟩))⟩
 have pK:keys (St.rem h s).L=(keys s.L).filter (·!=h):=by
  simp[keys,St.rem,AF,arc];rw[List.filter_map];rfl
 refine⟨m',⟨g.size,?_,?_,g.defers⟩,⟨wr.os,wr.tape,wr.output,wr.size,λc hc ho=>wr.block c hc (λe=>ho ⟨h,x0,rz,e ▸ hb0⟩),λb _ ho=>fb b ho⟩⟩
 ·intro t x hx;obtain⟨p,hp,he⟩:=apV.1 hx;cases he;obtain⟨h1,h2⟩:=g.fr p.1 p.2 hp;exact⟨h1,(h2.kill hm).mono cN hO (λ_ _ e=>e)⟩
 ·have aaT:(St.rem h s).L=(s.L.filter λp=>p.1 !=h).map λp=>(p.1,p.2.kill h):=AF h s.L
  refine⟨?_,?_,?_,?_,λb hf=>aqa (hi.ei b hf) wr.size,?_,hi.ef.mono cN hO⟩
  ·rw[pK];exact hi.nodup.sublist List.filter_sublist
  ·intro i x hx;rw[pK,aq0];exact⟨hi.fI i x (mu i x hx).2,by grind⟩
  ·intro i j x y b hx hy hb de;exact hi.apart i j x y b (mu i x hx).2 (mu j y hy).2 hb de
  ·intro i x b hx hb;exact hi.others i x b (mu i x hx).2 hb
  ·intro i r hr;rw[aaT]at hr;obtain⟨p,hp,he⟩:=apV.1 hr;cases he;rw[aq0]at hp;obtain⟨x,hx,hh⟩:=hi.holds p.1 p.2 hp.1;have bU:p.1≠h:=by grind
   refine⟨x,hm _ _ bU hx,(hh.kill hm).mono (λc hc=>wr.block c (hi.lt hx hc) (λe=>bU ?_)) cN hO (λ_ _ e=>e)⟩;subst e;exact hi.apart _ _ _ _ _ hx rz hc hb0
def AG(v:Value):Prop:=∃a,v= .pointer a
def MY(P:Program)(t:TypeId):Option TypeId:=match P.underlying t with
 | some (.pointer e)=>some e
 | _=>none
theorem Ic{t e}(h:MY P t=some e):P.underlying t=some (.pointer e):=by
 grind[MY,Option.some.injEq]
def bytesOf:List (List V)->Option (List UInt8)
 | []=>some []
 | [.d (.v (.int .u8 n))]::l=>if 0<=n/\n<256 then(bytesOf l).map (n.toNat.toUInt8:: ·)else none
 | _::_=>none
theorem DA:∀{xs l},bytesOf xs=some l->xs.length=l.length/\∀(j:Nat) b,l[j]?=some b->xs[j]?=some [.d (.v (.int .u8 (b.toNat:Nat)))]
 | [],l,h=>by simp_all[bytesOf]
 | x::xs,l,h=>by
   rw[bytesOf.eq_def]at h;split at h
   ·grind
   ·rename_i n xs' heq;cases heq;split at h
    ·obtain⟨l',hl,rfl⟩:=apN.1 h;obtain⟨h1,h2⟩:=DA hl;refine⟨by grind,λj b hj=>?_⟩
     match j with
     | 0=>
       simp[akC]at hj;subst hj;simp[and_true];omega
     | j+1=>grind
    grind
   grind
def AH(P:Program)(s:St)(ty:TypeId)(x:Operand):Option (V×St×Prop):=
 match s.ev x,MY P ty with
 | .rv h,some _=>match s.L.lookup h with
   | some (.row _ k xs)=>some (if xs.isEmpty then .kn AG else .ep h k 0 0,s,True)
   | _=>none
 | .d (.v (.slice none 0 0)),some _=>some (.kn AG,s,True)
 | _,_=>none
def DB(P:Program)(s:St)(pt:TypeId)(p l:Operand):Option (V×St×Prop):=
 match s.ev p,s.ev l,MY P pt with
 | .kn Q,iD n,some _=>some (.d (.v (.string ⟨#[]⟩)),s,n=0/\∀v,Q v->AG v)
 | .ep h _ 0 0,iD n,some e=>match s.L.lookup h with
   | some (.row e' k xs)=>match bytesOf xs with
     | some bs=>some (.d (.v (.string ⟨⟨bs⟩⟩)),s.rem h,(n=xs.length/\0<xs.length)/\k=1/\e'=e/\P.cellsOf e=1)
     | none=>none
   | _=>none
 | _,_,_=>none
theorem XO{O v Q}(h:az w O m v (.kn Q)):Q v:=by
 cases h with
 | kn _ _ h=>exact h
theorem afA{dst}{x}{Sy}{ty}{pos}{after}{guard}{y}{s1}{c}(h:AH P s ty x=some (y,s1,c)):
  rq P n ⟨dst,.call {callee:= .builtin .unsafeSliceData,args:= #[x],argTypes:=Sy},ty,pos,after,guard⟩ s (λx' s'=>x'=y/\s'=s1):=by
 intro fo m a w g;have jG:∀{v':Value} {w':World},(Builtin.unsafeSliceData_ Sy ty #[a.eval x]).run P w= .ok v' w'→
   (execOp a.eval ⟨dst,.call {callee:= .builtin .unsafeSliceData,args:= #[x],argTypes:=Sy},ty,pos,after,guard⟩).run P w= .ok (.value v') w':=by
  simp_all[execOp,resolve,invoke,builtin]
 have hx:=cj g x;unfold AH at h;split at h
 ·rename_i h0 e CH Az;rw[CH]at hx;split at h
  ·rename_i te k xs hl;cases h;obtain⟨u,hu,hh⟩:=g.inv.holds h0 _ (dD hl);have hxu:a.eval x=u:=by
    generalize a.eval x=v at hx;cases hx with
    | rv _ _ e _=>grind
   rcases hh with⟨rfl,rfl⟩|⟨b,off,cap,cur,rfl,hb,h1,h2,h3,h4,h5,h6⟩
   ·rw[hxu]at jG;refine⟨_,_,w,m,.kn AG,s,jG (Lib.run_unsafeSliceData_nil w _ _ _ _),.inl rfl,⟨rfl,rfl⟩,.kn _ _ ⟨_,rfl⟩,g,Step.refl w _⟩
   ·rw[hxu]at jG;by_cases hc:cap=0
    ·subst hc;have rz:xs=[]:=aqH (by omega);subst rz;have bq:=Lib.run_unsafeSliceData_zero (P:=P) w Sy ty e (Ic Az) ⟨b,off,none⟩ 0 (te,cur.size) (by simp[World.shape?,hb]);refine⟨_,_,_,m,.kn AG,s,jG bq,.inl rfl,⟨rfl,rfl⟩,.kn _ _ ⟨_,rfl⟩,?_,?_⟩
     ·have gr:=hZ.alloc w (.view ⟨b,off,none⟩ e);have hk:bK w (OO fo m) (w.alloc (.view ⟨b,off,none⟩ e)):=⟨gr.size,λb hb _=>gr.block b hb⟩
      refine⟨g.size,λt y hy=>⟨(g.fr t y hy).1,(g.fr t y hy).2.mono hk (λ_ _ h=>h) (λ_ _ h=>h)⟩,?_,g.defers⟩;refine⟨g.inv.nodup,g.inv.fI,g.inv.apart,g.inv.others,λb hf=>aqa (g.inv.ei b hf) gr.size,λh r hr=>?_,g.inv.ef.mono hk (λ_ _ h=>h)⟩;obtain⟨x,hx,hh⟩:=g.inv.holds h r hr;exact⟨x,hx,hh.mono (λb hb=>gr.block b (g.inv.lt hx hb)) hk (λ_ _ h=>h) (λ_ _ h=>h)⟩
     ·have gr:=hZ.alloc w (.view ⟨b,off,none⟩ e);exact⟨gr.os,gr.tape,gr.output,gr.size,λb hb _=>gr.block b hb,λ_ _ h=>h⟩
    ·have bq:=Lib.run_unsafeSliceData_row (P:=P) w Sy ty ⟨b,off,none⟩ xs.length cap hc;refine⟨_,_,w,m,_,s,jG bq,.inl rfl,⟨rfl,rfl⟩,?_,g,Step.refl w _⟩;split
     ·exact .kn _ _ ⟨_,rfl⟩
     ·have:=az.ep (w:=w) (O:=OO fo m) (m:=m) h0 k 0 0 b off xs.length cap hu;grind
  grind
 ·rename_i CH Az;rw[CH]at hx;cases h;rw[hx.cq]at jG;exact⟨_,_,w,m,.kn AG,s,jG (Lib.run_unsafeSliceData_nil w _ _ _ _),.inl rfl,⟨rfl,rfl⟩,.kn _ _ ⟨_,rfl⟩,g,Step.refl w _⟩
 grind
theorem MM{e}(hc:P.cellsOf e=1) count off n(hn:off+n<=count):liesAt P P.depth e count off e n=true:=by
 have hd:P.depth=(2 *(P.types.size+Made.depth)+1)+1:=rfl;rw[hd];simp[liesAt];rw[hd];simp[rowAt,hc,hn,sameLayout,Nat.mod_one]
theorem FG{pt it ty e}(hp:P.underlying pt=some (.pointer e))(hc:P.cellsOf e=1){g off}{cur}(hg:w.heap[g]?=some (.cells cur e (0,0))) l(h0:l≠ [])(hn:off+l.length≤cur.size)(h63:l.length≤9223372036854775807)
  (nF:∀(j:Nat) (x:UInt8),l[j]?=some x->w.cell? ⟨g,off+j,none⟩=some (.int .u8 (x.toNat:Nat))):
  (Builtin.unsafeString_ #[pt,it] ty #[.pointer (some ⟨g,off,none⟩),.int .i64 l.length]).run P w= .ok (.string ⟨l.toArray⟩) (w.freeze ⟨g,off,none⟩ l.length):=by
 have hl:l.length≠0:=by grind
 have CI:w.shape? g=some (e,cur.size):=by simp[World.shape?,hg]
 have hlb:=Lib.run_loadBytes (P:=P) w l ⟨g,off,none⟩ .empty (λj x hx=>by simp_all[Addr.add_lit]);have ahA:=MM hc (cur.size / P.cellsOf e) off l.length (by grind);have aaC:¬(9223372036854775807:Int)<(l.length:Int):=by omega
 have xW:Builtin.unsafeString_ #[pt,it] ty #[.pointer (some ⟨g,off,none⟩),.int .i64 l.length]=
   (do
    let n <-asInt (.int .i64 l.length)
    if n<0 then runtimePanic (.error "unsafe.String: len out of range")
    if n > IntKind.i64.max then unsupported (.unsafePointer "String: a length above the largest int")
    if n=0 then pure (.string .empty)
    else if <-variablesAt ⟨g,off,none⟩ (<-elemOf pt) n.toNat then do
     let s <-loadBytes ⟨g,off,none⟩ .empty n.toNat
     freeze ⟨g,off,none⟩ n.toNat
     pure (.string s)
    else unsupported (.unsafePointer "String: not so many bytes at ptr")):=rfl
 rw[xW];have aaU:¬(l.length:Int)<0:=by omega
 simp[asInt,asIntOf,aaC,aaU,hl,variablesAt,CI,elemOf,run_underlying hp,ahA,hlb]
theorem NZ w b off k:EY w b (w.freeze ⟨b,off,none⟩ k):=by
 unfold World.freeze;split
 ·exact⟨rfl,rfl,rfl,apU _,λ_ _ _=>rfl⟩
 ·exact⟨rfl,rfl,rfl,by simp,λc _ bU=>by
   grind⟩
theorem ahB{dst}{p l}{pt it}{ty}{pos}{after}{guard}{y}{s1}{c}(h:DB P s pt p l=some (y,s1,c))(hc:c):
  rq P n ⟨dst,.call {callee:= .builtin .unsafeString,args:= #[p,l],argTypes:= #[pt,it]},ty,pos,after,guard⟩ s (λx' s'=>x'=y/\s'=s1):=by
 intro fo m a w g;have jG:∀{v':Value} {w':World},(Builtin.unsafeString_ #[pt,it] ty #[a.eval p,a.eval l]).run P w= .ok v' w'→
   (execOp a.eval ⟨dst,.call {callee:= .builtin .unsafeString,args:= #[p,l],argTypes:= #[pt,it]},ty,pos,after,guard⟩).run P w= .ok (.value v') w':=by
  simp_all[execOp,resolve,invoke,builtin]
 have hp:=cj g p;have hl:=cj g l;unfold DB at h;split at h
 ·rename_i Q nn e CH sU Az;rw[CH]at hp;rw[sU]at hl;simp only[akC,apM]at h;obtain⟨rfl,rfl,rfl⟩:=h;obtain⟨rfl,hQ⟩:=hc;obtain⟨aa,ha⟩:=hQ _ (XO hp);rw[ha,hl.cq]at jG;refine⟨_,_,w,m,_,s,jG (Lib.run_unsafeString_none w pt it ty aa),.inl rfl,⟨rfl,rfl⟩,.d _ _ (.v _ rfl),g,Step.refl w _⟩
 ·rename_i h0 kk nn e CH sU Az;rw[CH]at hp;rw[sU]at hl;split at h
  ·rename_i e' k xs XP;split at h
   ·rename_i bs wx;simp only[akC,apM]at h;obtain⟨rfl,rfl,rfl⟩:=h;obtain⟨⟨rfl,iX⟩,rfl,rfl,nF⟩:=hc;obtain⟨b,off,cap,cur,hm,hb,h1,h2,h3,h4,h5,h6,h7⟩:=qb g.inv (dD XP) iX;obtain⟨q1,q2⟩:=DA wx;have pQ:a.eval p= .pointer (some ⟨b,off,none⟩):=by
     generalize a.eval p=v at hp;cases hp with
     | ep _ _ _ _ b' o' n' c' e=>
       grind
    rw[pQ,hl.cq,q1]at jG;have oU:∀(j:Nat) (x:UInt8),bs[j]?=some x->w.cell? ⟨b,off+j,none⟩=some (.int .u8 (x.toNat:Nat)):=by
     intro j x hj;have Ie:=(apQ.1 hj).1;rw[h6];have ay:off+j<cur.size:=by omega
     have:=h7 j 0 _ _ (cur[off+j]) (q2 j x hj) rfl (by simp);rw[aqf ay,this.cq]
    have bU:bs≠ []:=by
     grind
    have bq:=FG (P:=P) (w:=w) (pt:=pt) (it:=it) (ty:=ty) (Ic Az) nF hb bs bU (by omega) (by grind[maxLen]) oU;obtain⟨m',g',st⟩:=g.aje hm (b:=b) rfl (NZ w b off bs.length);exact⟨_,_,_,m',_,_,jG bq,.inl rfl,⟨rfl,rfl⟩,.d _ _ (.v _ rfl),g',st⟩
   grind
  grind
 grind
end
end Go.Ab
namespace Go.Ab
section
variable {P : Program} {w w' : World} {fo : FO} {m m' : Nat -> Option Value} {L : aH} {n : Nat} {s : St} {a : Act}
theorem Ig{k}:∀l (r:List (List V)) j pre post,pre.length=j *k→l.length *k≤post.length→
  l.length=r.length->(∀i p x,l[i]?=some p->r[i]?=some x->p.1=j+i/\p.2.cl=some x)->(∀x∈r,x.length=k)->
  ∃c:Prop,tI (λi=>some (i *k,k)) (pre++post) l=some (pre++r.flatten++post.drop (l.length *k),c)/\c
 | [],[],j,pre,post,_,_,_,_,_=>⟨True,by simp[tI],trivial⟩
 | [],_::_,_,_,_,_,_,h,_,_=>by grind
 | _::_,[],_,_,_,_,_,h,_,_=>by grind
 | (i,x)::l,x0::r,j,pre,post,hp,hl,XQ,fC,hk=>by
   obtain⟨h1,h2⟩:=fC 0 (i,x) x0 rfl rfl;subst h1;have rz:x0.length=k:=hk x0 (by simp);simp only[apY,aqV,ark]at hl;have ajf:putAt (i *k) x0 (pre++post)=(pre++x0)++post.drop k:=by
    simp_all[putAt,List.take_left,List.drop_append]
   obtain⟨c,xS,xP⟩:=Ig l r (i+1) (pre++x0) (post.drop k) (by grind) (by grind) (by grind)
    (λq p y hq hy=>by have:=fC (q+1) p y (by grind) (by grind);grind) (λy hy=>hk y (by grind))
   refine⟨(x0.length=k/\i *k+k<=(pre++post).length)/\c,?_,⟨rz,by grind⟩,xP⟩;simp only[tI,h2,ajf,xS];simp[apM,and_true,arz,aqW,apY,aqV,ark,Nat.add_comm]
theorem DC{s}:∀l j {r},qQ s l j=some r→l.length=r.length∧
  ∀i p x,l[i]?=some p->r[i]?=some x->p.1=j+i/\(s.ev p.2).cl=some x
 | [],j,r,h=>by simp[qQ]at h;subst h;exact⟨rfl,by simp⟩
 | (i,x)::l,j,r,h=>by
   rw[qQ]at h;split at h
   ·split at h
    ·rename_i cs r' ki tz;simp at h;subst h;obtain⟨h1,h2⟩:=DC l (j+1) tz;refine⟨by simp[h1],?_⟩;intro q p y hq hy
     match q with
     | 0=>simp at hq hy;subst hq;subst hy;exact⟨by omega,ki⟩
     | q+1=>have:=h2 q p y hq hy;exact⟨by omega,this.2⟩
    ·cases h
   ·cases h
def MZ(P:Program)(s:St)(h:Nat)(t:TypeId)(len:Nat)(ps:List (Nat×Operand)):Option (V×St×Prop):=
 match kQ P t,qQ s ps 0 with
 | some (e,k,_,_),some r=>some (.rv h,{s with L:=(h,.row e k r)::s.L},(0<k/\h∉keys s.L)/\(len *k<=2^24/\r.length=len)/\∀x∈r,x.length=k)
 | _,_=>none
def M0(P:Program)(s:St)(t:TypeId)(xo:Operand)(lo hi:Option Operand):Option (V×St×Prop):=
 match s.ev xo,nJ P t with
 | .rv h,some (_,k)=>
   match s.L.lookup h with
   | some (.row e' k' xs)=>
     match lo.map s.ev,hi.map s.ev with
     | none,none=>some (.rv h,⟨(s.kill h).fr,aH.jK (s.kill h).L h (.row e' k' ((oW xs 0 xs.length).map (V.dR h)))⟩,k=k')
     | some (.d (.v (.int _ l))),none=>some (.rv h,⟨(s.kill h).fr,aH.jK (s.kill h).L h (.row e' k' ((oW xs l.toNat xs.length).map (V.dR h)))⟩,k=k'/\0<=l/\l<=xs.length)
     | none,some (.d (.v (.int _ u)))=>some (.rv h,⟨(s.kill h).fr,aH.jK (s.kill h).L h (.row e' k' ((oW xs 0 u.toNat).map (V.dR h)))⟩,k=k'/\0<=u/\u<=xs.length)
     | some (.d (.v (.int _ l))),some (.d (.v (.int _ u)))=>some (.rv h,⟨(s.kill h).fr,aH.jK (s.kill h).L h (.row e' k' ((oW xs l.toNat u.toNat).map (V.dR h)))⟩,k=k'/\0<=l/\l<=u/\u<=xs.length)
     | _,_=>none
   | _=>none
 | _,_=>none
def fO(P:Program)(s:St)(o:Oper)(b:Nat):Option (V×St×Prop):=
 match o.op with
 | .alloc e=>match o.dst,ru P e with
   | some h,some z=>some (.bp h 0,{s with L:=(h,.box b e (z.map λx=> .d (.v x)))::s.L},h∉keys s.L)
   | _,_=>none
 | .box e x=>match o.dst,(s.ev x).cl with
   | some h,some cs=>some (.bp h 0,{s with L:=(h,.box b e cs)::s.L},h∉keys s.L)
   | _,_=>none
 | .store t a x=>E0 P s t a x
 | .makeSlice t l c=>match o.dst with
   | some h=>H0 P s h t l c
   | none=>none
 | .buildSlice t len ps=>match o.dst with
   | some h=>MZ P s h t len ps.toList
   | none=>none
 | .slice t x lo hi none=>M0 P s t x lo hi
 | .makeMap _ none=>match o.dst with
   | some h=>some (.rv h,{s with L:=(h,.mp [])::s.L},h∉keys s.L)
   | none=>none
 | .mapUpdate t mo ko vo=>sw P s t mo ko vo
 | .insert t mo ko vo=>sw P s t mo ko vo
 | .call {callee:= .builtin .unsafeSliceData,args,..}=>match args.toList with
   | [x]=>AH P s o.type x
   | _=>none
 | .call {callee:= .builtin .unsafeString,args,argTypes}=>match args.toList,argTypes.toList with
   | [p,l],[pt,_]=>DB P s pt p l
   | _,_=>none
 | .call c=>match o.dst with
   | some h=>Bk P s h c
   | none=>none
 | _=>none
theorem rq.mono{o K K'}(h:rq P n o s K)(hk:∀x s',K x s'->K' x s'):rq P n o s K':=by
 intro fo m a w g;obtain⟨nx,v,w',m',x,s',h1,h2,h3,h4⟩:=h fo m a w g;grind
theorem u3{o b0 x0 s0 c0}(h:fO P s o b0=some (x0,s0,c0))(hc:c0):rq P n o s (λx s'=>∃b c,fO P s o (b+1)=some (x,s',c)):=by
 obtain⟨dst,op,ty,pos,after,guard⟩:=o;unfold fO at h;simp only at h;split at h
 ·split at h
  ·rename_i e hh z hz;simp only[akC,apM]at h;obtain⟨_,_,rfl⟩:=h;refine(afp hz hc).mono ?_;rintro x s' ⟨b,rfl,rfl⟩;exact⟨b,_,(by simp only[fO,hz];rfl)⟩
  grind
 ·split at h
  ·rename_i e xo hh cs ki;simp only[akC,apM]at h;obtain⟨_,_,rfl⟩:=h;refine(ai9 ki hc).mono ?_;rintro x s' ⟨b,rfl,rfl⟩;exact⟨b,_,(by simp only[fO,ki];rfl)⟩
  grind
 ·rename_i t ao xo;have h':=h;unfold E0 at h;split at h
  ·rename_i g0 k cs ht ki;split at h
   ·rename_i hh off ha;split at h
    ·rename_i b KV dU hl;simp only[akC,apM]at h;obtain⟨rfl,rfl,rfl⟩:=h;refine(Uk ht ha hl ki hc.1 hc.2).mono ?_;rintro x s' ⟨rfl,rfl⟩;exact⟨b0,_,h'⟩
    grind
   ·rename_i hh k' i j ha;split at h
    ·rename_i e HN xs hl;simp only[akC,apM]at h;obtain⟨rfl,rfl,rfl⟩:=h;obtain⟨⟨h1,h2⟩,h3,rfl⟩:=hc;intro fo m a w g;have he:(if j=0/\k=k' then cs else putAt j cs (xs[i]?.getD []))=putAt j cs (xs[i]?.getD []):=by
      split
      ·rename_i hjk;obtain⟨rfl,rfl⟩:=hjk;obtain⟨_,_,_,_,_,_,_,_,_,hlen,_⟩:=qb g.inv (dD hl) (by omega);have hx:xs[i]?=some xs[i]:=anc h2;have:=hlen i _ hx;simp_all[putAt,aqF,List.take_zero,ap4,aqB,List.drop_of_length_le,aqp]
      ·rfl
     rw[he]at h';refine(Ul ht ha hl ki h1 h2 h3).mono (K':=λx s'=>∃b c,fO P s _ (b+1)=some (x,s',c)) ?_ fo m a w g;rintro x s' ⟨rfl,rfl⟩;exact⟨b0,_,h'⟩
    grind
   grind
  grind
 ·rename_i t lo co;split at h
  ·rename_i hh;have h':=h;unfold H0 at h;split at h
   ·rename_i e k by_ z kl l kc c ht hl tH;simp only[akC,apM]at h;obtain⟨rfl,rfl,rfl⟩:=h;obtain⟨⟨h1,h2⟩,h3,h4⟩:=hc;refine(ahv ht hl tH h1 h2 h3 h4).mono ?_;rintro x s' ⟨rfl,rfl⟩;exact⟨b0,_,h'⟩
   grind
  grind
 ·rename_i t len ps;split at h
  ·rename_i hh;have h':=h;unfold MZ at h;split at h
   ·rename_i e k by_ z r ht hr;simp only[akC,apM]at h;obtain⟨rfl,rfl,rfl⟩:=h;obtain⟨⟨h1,h2⟩,⟨h3,h4⟩,h5⟩:=hc;obtain⟨q1,q2⟩:=DC _ 0 hr;have hzk:(z.map λx=>V.d (.v x)).length=k:=by
     obtain⟨i,zv,-,-,-,-,-,e1,e2,-⟩:=oe ht;grind
    have hlen:(ps.toList.map λp=>(p.1,s.ev p.2)).length=len:=by grind
    have mL:(List.replicate len (z.map λx=>V.d (.v x))).flatten.length=len *k:=by
     simp_all
    obtain⟨c,hf,sT⟩:=Ig (k:=k) (ps.toList.map λp=>(p.1,s.ev p.2)) r 0 [] (List.replicate len (z.map λx=>V.d (.v x))).flatten (by simp) (by grind)
     (by omega) (by
      grind) h5
    rw[hlen,ap4,ap4,List.drop_eq_nil_of_le (by omega),aqp]at hf;refine(QN ht h1 h2 h3 hf sT rfl h4 h5).mono ?_;rintro x s' ⟨rfl,rfl⟩;exact⟨b0,_,h'⟩
   grind
  grind
 ·rename_i t xo lo hi;have h':=h;unfold M0 at h;split at h
  ·rename_i hh e k hs hE;split at h
   ·rename_i e' k' xs hl;have fin:∀{l u:Nat} {kl ku:IntKind} {x:V} {s1:St} {c:Prop},fO P s ⟨dst,.slice t xo lo hi none,ty,pos,after,guard⟩ b0=some (x,s1,c)→x= .rv hh→s1=⟨(s.kill hh).fr,aH.jK (s.kill hh).L hh (.row e' k ((oW xs l u).map (V.dR hh)))⟩→k=k'→
      ((lo=none/\l=0)\/∃z,lo=some z/\s.ev z= .d (.v (.int kl l)))->((hi=none/\u=xs.length)\/∃z,hi=some z/\s.ev z= .d (.v (.int ku u)))->l<=u->u<=xs.length->
      rq P n ⟨dst,.slice t xo lo hi none,ty,pos,after,guard⟩ s (λx s'=>∃b c,fO P s ⟨dst,.slice t xo lo hi none,ty,pos,after,guard⟩ (b+1)=some (x,s',c)):=by
     intro l u kl ku x s1 c h0 hx tA hk jz KX h1 h2;subst hk;refine(aaE hE hs hl jz KX h1 h2).mono ?_;rintro x' s' ⟨rfl,rfl⟩;exact⟨b0,c,by rw[show fO P s ⟨dst,.slice t xo lo hi none,ty,pos,after,guard⟩ (b0+1)=fO P s ⟨dst,.slice t xo lo hi none,ty,pos,after,guard⟩ b0 from rfl,h0,hx,tA]⟩
    have h0:fO P s ⟨dst,.slice t xo lo hi none,ty,pos,after,guard⟩ b0=some (x0,s0,c0):=h';cases lo with
    | none=>
      cases hi with
      | none=>
        simp only[arW,akC,apM]at h;obtain⟨h1,h2,rfl⟩:=h;subst hc;exact fin (kl:= .i64) (ku:= .i64) h0 h1.symm h2.symm rfl (.inl ⟨rfl,rfl⟩) (.inl ⟨rfl,rfl⟩) (aqc _) (apU _)
      | some hz=>
        simp only[arW,aqe]at h;split at h
        ·grind
        ·grind
        ·rename_i ku u _ heq;simp only[akC]at heq;simp only[akC,apM]at h;obtain⟨h1,h2,rfl⟩:=h;obtain⟨rfl,NO,sY⟩:=hc;exact fin (kl:= .i64) h0 h1.symm h2.symm rfl (.inl ⟨rfl,rfl⟩) (.inr ⟨hz,rfl,by rw[heq,arH NO]⟩) (aqc _) (by omega)
        ·grind
        grind
    | some lz=>
      cases hi with
      | none=>
        simp only[arW,aqe]at h;split at h
        ·grind
        ·rename_i kl l heq _;simp only[akC]at heq;simp only[akC,apM]at h;obtain⟨h1,h2,rfl⟩:=h;obtain⟨rfl,NO,sY⟩:=hc;exact fin (ku:= .i64) h0 h1.symm h2.symm rfl (.inr ⟨lz,rfl,by rw[heq,arH NO]⟩) (.inl ⟨rfl,rfl⟩) (by omega) (apU _)
        ·grind
        ·grind
        grind
      | some hz=>
        simp only[aqe]at h;split at h
        ·grind
        ·grind
        ·grind
        ·rename_i kl l ku u heq GY;simp only[akC]at heq GY;simp only[akC,apM]at h;obtain⟨h1,h2,rfl⟩:=h;obtain⟨rfl,NB,Xt,sY⟩:=hc;exact fin h0 h1.symm h2.symm rfl (.inr ⟨lz,rfl,by rw[heq,arH NB]⟩) (.inr ⟨hz,rfl,by rw[GY,arH (by omega)]⟩) (by omega) (by omega)
        grind
   grind
  grind
 ·split at h
  ·rename_i t hh;have h':=h;simp only[akC,apM]at h;obtain⟨rfl,rfl,rfl⟩:=h;refine(aaG hc).mono ?_;rintro x s' ⟨rfl,rfl⟩;exact⟨b0,_,h'⟩
  grind
 ·rename_i t mo ko vo;refine(Sj (.inl rfl) h hc).mono ?_;rintro x s' ⟨rfl,rfl⟩;exact⟨b0,_,h⟩
 ·rename_i t mo ko vo;refine(Sj (.inr rfl) h hc).mono ?_;rintro x s' ⟨rfl,rfl⟩;exact⟨b0,_,h⟩
 ·rename_i args argTypes;have h':fO P s ⟨dst,.call {callee:= .builtin .unsafeSliceData,args:=args,argTypes:=argTypes},ty,pos,after,guard⟩ b0=some (x0,s0,c0):=h;split at h
  ·rename_i x ha;obtain rfl:args= #[x]:=by grind
   refine(afA h).mono ?_;rintro x s' ⟨rfl,rfl⟩;exact⟨b0,_,h'⟩
  grind
 ·rename_i args argTypes;have h':fO P s ⟨dst,.call {callee:= .builtin .unsafeString,args:=args,argTypes:=argTypes},ty,pos,after,guard⟩ b0=some (x0,s0,c0):=h;split at h
  ·rename_i p l pt it ha ht;obtain rfl:args= #[p,l]:=by grind
   obtain rfl:argTypes= #[pt,it]:=by grind
   refine(ahB h hc).mono ?_;rintro x s' ⟨rfl,rfl⟩;exact⟨b0,_,h'⟩
  grind
 ·rename_i cl _ _;split at h
  ·rename_i hh;have h':=h;obtain⟨callee,args,argTypes⟩:=cl;unfold Bk at h;split at h
   ·rename_i so xo t t2 qc ow aaA;simp only at qc ow aaA;obtain rfl:args= #[so,xo]:=by grind
    obtain rfl:argTypes= #[t,t2]:=by grind
    subst qc;split at h
    ·rename_i e k by_ z ys ht hx;split at h
     ·rename_i rO;split at h
      ·rename_i h1 hs;split at h
       ·rename_i e' k' xs hl;simp only[akC,apM]at h;obtain⟨rfl,rfl,rfl⟩:=h;obtain⟨⟨⟨rfl,rfl⟩,nu,tF⟩,h3,h4⟩:=hc;refine(adK ht rO hs hl rfl hx ⟨nu,tF⟩ h3 h4).mono ?_;rintro x s' ⟨rfl,rfl⟩;exact⟨b0,_,h'⟩
       grind
      ·rename_i hs;simp only[akC,apM]at h;obtain⟨rfl,rfl,rfl⟩:=h;obtain⟨⟨nu,tF,K7⟩,h3,h4⟩:=hc;refine(Ur ht rO hs K7 hx ⟨nu,tF⟩ h3 h4).mono ?_;rintro x s' ⟨rfl,rfl⟩;exact⟨b0,_,h'⟩
      grind
     grind
    grind
   grind
  grind
 grind
def kO:Option Nat->V->V
 | none,x=>x
 | some h,x=>x.kill h
def mR(k:Option Nat)(fr:List (Nat×V)):List (Nat×V):=fr.map λp=>(p.1,kO k p.2)
def u4(o:Oper):Bool:=
 match o.op with
 | .store .. | .makeSlice .. | .buildSlice .. | .slice .. | .alloc _|.box .. | .makeMap .. | .mapUpdate .. | .insert .. =>true
 | .call {callee:= .builtin .append,..}=>true
 | .call {callee:= .builtin .unsafeSliceData,..}=>true
 | .call {callee:= .builtin .unsafeString,..}=>true
 | _=>false
def gD(s:St)(o:Oper):Option Nat:=
 match o.op with
 | .slice _ x _ _ none=>match s.ev x with
   | .rv h=>some h
   | _=>none
 | .call {callee:= .builtin .unsafeSliceData,..}=>none
 | .call {callee:= .builtin .unsafeString,args,..}=>match args.toList with
   | [p,_]=>match s.ev p with
     | .ep h _ _ _=>some h
     | _=>none
   | _=>none
 | .call c=>match c.args.toList with
   | [so,_]=>match s.ev so with
     | .rv h=>some h
     | _=>none
   | _=>none
 | _=>none
theorem iB fr:mR none fr=fr:=by
 simp[mR,kO]
theorem CJ{s s2}:∀l j,(∀p∈l,s2.ev p.2=s.ev p.2)->qQ s2 l j=qQ s l j
 | [],j,_=>rfl
 | (i,x)::l,j,h=>by
   simp[qQ];rw[h (i,x) ap7,CJ l (j+1) (λp hp=>h p (ap2 _ hp))]
theorem zV{s}{o}{b}{x}{s'}{c}(hm:u4 o=true)(h:fO P s o b=some (x,s',c)) gx
  (he:∀z,z∈o.op.operands->St.ev ⟨gx,s.L⟩ z=s.ev z):fO P ⟨gx,s.L⟩ o b=some (x,⟨mR (gD s o) gx,s'.L⟩,c):=by
 obtain⟨dst,op,ty,pos,after,guard⟩:=o;unfold fO at h⊢;simp only at h he⊢;split at h
 ·simp only[gD,iB]at h⊢;split at h
  ·grind
  grind
 ·rename_i e xo;have e1:=he xo (by simp[Op.operands]);simp only[gD,iB,e1]at h⊢;split at h
  ·grind
  grind
 ·rename_i t ao xo;have e1:=he ao (by simp[Op.operands]);have e2:=he xo (by simp[Op.operands]);simp only[E0,e1,e2,gD,iB]at h⊢;split at h
  ·split at h
   ·split at h
    ·grind
    grind
   ·split at h
    ·grind
    grind
   grind
  grind
 ·rename_i t lo co;have e1:=he lo (by simp[Op.operands]);have e2:=he co (by simp[Op.operands]);split at h
  ·simp only[H0,e1,e2,gD,iB]at h⊢;split at h
   ·grind
   grind
  grind
 ·rename_i t len ps;have e1:=CJ (s2:=⟨gx,s.L⟩) (s:=s) ps.toList 0 (λp hp=>he p.2 (by
   simp only[Op.operands,asg,apV];grind))
  split at h
  ·simp only[MZ,e1,gD,iB]at h⊢;split at h
   ·grind
   grind
  grind
 ·rename_i t xo lo hi;have e1:=he xo (by simp[Op.operands]);have e2:lo.map (St.ev ⟨gx,s.L⟩)=lo.map s.ev:=by
   cases lo with
   | none=>rfl
   | some z=>simp_all[aqe,Op.operands]
  have e3:hi.map (St.ev ⟨gx,s.L⟩)=hi.map s.ev:=by
   cases hi with
   | none=>rfl
   | some z=>simp_all[aqe,Op.operands]
  simp only[M0,e1,e2,e3,gD]at h⊢;split at h
  ·rename_i hh e k hs hE;simp only[hs]at h⊢;split at h
   ·rename_i e' k' xs hl;split at h<;>first|(cases h;done)|(simp only[akC,apM]at h;obtain⟨rfl,rfl,rfl⟩:=h;simp_all[St.kill,mR,kO])
   grind
  grind
 ·simp only[gD,iB]at h⊢;split at h
  ·grind
  grind
 ·rename_i t mo ko vo;have e1:=he mo (by simp[Op.operands]);have e2:=he ko (by simp[Op.operands]);have e3:=he vo (by simp[Op.operands]);simp only[sw,e1,e2,e3,gD,iB]at h⊢;split at h
  ·split at h
   ·grind
   grind
  grind
 ·rename_i t mo ko vo;have e1:=he mo (by simp[Op.operands]);have e2:=he ko (by simp[Op.operands]);have e3:=he vo (by simp[Op.operands]);simp only[sw,e1,e2,e3,gD,iB]at h⊢;split at h
  ·split at h
   ·grind
   grind
  grind
 ·rename_i args argTypes;simp only[gD,iB]at h⊢;split at h
  ·rename_i x ha;have e1:=he x (by simp only[Op.operands,Call.operands,arN];right;rw[<-arB,ha];simp);simp only[AH,e1]at h⊢;grind
  grind
 ·rename_i args argTypes;simp only[gD]at h⊢;split at h
  ·rename_i p l pt it ha ht;have e1:=he p (by simp only[Op.operands,Call.operands,arN];right;rw[<-arB,ha];simp);have e2:=he l (by simp only[Op.operands,Call.operands,arN];right;rw[<-arB,ha];simp);simp only[DB,e1,e2,ha]at h⊢;split at h
   ·rename_i hp _ _;simp only[hp]at h⊢;simp only[akC,apM]at h;obtain⟨rfl,rfl,rfl⟩:=h;simp_all[iB]
   ·rename_i hp _ _;simp only[hp]at h⊢;split at h
    ·split at h
     ·simp only[akC,apM]at h;obtain⟨rfl,rfl,rfl⟩:=h;rfl
     grind
    grind
   grind
  grind
 ·rename_i cl _ _;split at h
  ·simp only[Bk]at h⊢;split at h
   ·rename_i so xo t t2 h1 h2 h3;have e1:=he so (by simp only[Op.operands,Call.operands,arN];right;rw[<-arB,h2];simp);have e2:=he xo (by simp only[Op.operands,Call.operands,arN];right;rw[<-arB,h2];simp);simp only[h1,h2,h3,e1,e2,gD]at h⊢;split at h
    ·split at h
     ·rename_i an8;split at h
      ·rename_i hh lQ;simp only[lQ]at h⊢;split at h
       ·simp only[akC,apM]at h;obtain⟨rfl,rfl,rfl⟩:=h;simp_all[St.kill,mR,kO]
       grind
      ·rename_i lQ;simp only[akC,apM]at h;obtain⟨rfl,rfl,rfl⟩:=h;simp_all[iB]
      grind
     grind
    grind
   grind
  grind
 grind
theorem Ux{P}{s}{dst}{c}{ty}{pos}{after}{guard}{b}:
  fO P s ⟨dst,.call c,ty,pos,after,guard⟩ (b+1)=fO P s ⟨dst,.call c,ty,pos,after,guard⟩ 0:=by
 obtain⟨callee,args,Sy⟩:=c;cases callee with
 | builtin bi=>cases bi<;>rfl
 | _=>rfl
theorem DD{o s x0 s0 c0}(h:fO P s o 0=some (x0,s0,c0))(hc:c0):rq P n o s (λx s'=>x=x0/\s'=s0):=by
 have h':=h;obtain⟨dst,op,ty,pos,after,guard⟩:=o;unfold fO at h;simp at h;split at h
 ·split at h
  ·rename_i e hh z hz;cases h;refine(Sa (λ_=>0) (λ_=> .inl rfl) hz hc).mono ?_;simp
  grind
 ·split at h
  ·rename_i e xo hh cs ki;cases h;refine(ac3 (λ_=>0) (λ_=> .inl rfl) ki hc).mono ?_;simp
  grind
 all_goals
  first
   | (cases h;done)
   | (refine(u3 h' hc).mono ?_
      rintro x1 s1 ⟨b,c1,hb⟩;rw[Ux]at hb;grind)
   | (refine(u3 h' hc).mono ?_
      rintro x1 s1 ⟨b,c1,hb⟩;have pP:=h'.symm.trans (show _=some (x1,s1,c1)from hb);simp[akC,apM]at pP;exact⟨pP.1.symm,pP.2.1.symm⟩)
end
section
variable {P : Program} {w w' : World} {fo : FO} {m m' : Nat -> Option Value} {L : aH} {n : Nat} {s : St} {a : Act}
def nQ(s:St):List Operand->Prop
 | []=>True
 | z::l=>(s.ev z).CC/\nQ s l
theorem sB{s}:∀{l},nQ s l->∀z∈l,(s.ev z).CC
 | [],_,z,h=>by cases h
 | y::l,h,z,hz=>by
   rcases ap8.1 hz with rfl|hz
   ·exact h.1
   ·exact sB h.2 z hz
def JT:Operand->Operand->Bool
 | .tmp i,.tmp j=>i==j
 | _,_=>false
def N0(s:St)(o:Oper)(z:Operand):V:=
 match o.op with
 | .pick c _ _=>if JT z c then(s.ev z).un else s.ev z
 | _=>(s.ev z).un
def gU(s:St)(o:Oper):Prop:=
 match o.op with
 | .pick c _ _=>(s.ev c).CC
 | _=>nQ s o.op.operands.toList
def Uy:Option (V×Prop)->V
 | some (x,_)=>x
 | none=> .any
def Uz:Option (V×Prop)->Prop
 | some (_,c)=>c
 | none=>False
theorem JU{s o}(h:gU s o):∀z,z∈o.op.operands->∀w O m v,az w O m v (s.ev z)->az w O m v (N0 s o z):=by
 intro z hz w O m v hr;unfold gU at h;unfold N0;split
 ·rename_i c a b aP;split
  ·rename_i hs;have:z=c:=by
    cases z<;>cases c<;>simp[JT]at hs<;>first|(rw[hs];done)|cases hs
   simp_all[vn]
  omega
 grind[vn,sB]
theorem Bp{r}(h:Uz r):∃c,r=some (Uy r,c)/\c:=by
 cases r with
 | none=>exact h.elim
 | some p=>exact⟨p.2,rfl,h⟩
def Ih(s:St)(o:Oper):Bool:=
 match o.op with
 | .slice _ x _ _ _=>match s.ev x with
   | .rv _=>true
   | .gd _ (.rv _)=>true
   | _=>false
 | _=>u4 o
def E3(P:Program)(ops:Array Oper)(s:St)(o:Oper):Option (St×Prop):=
 match gk ops s o with
 | some none=>match q2 P s.ev s.L o with
   | some (x,c)=>some (s.put o.dst x,c)
   | none=>none
 | some (some g)=>if Ih s o then none else some (s.put o.dst (.gd g (Uy (q2 P (N0 s o) s.L o))),g=true->Uz (q2 P (N0 s o) s.L o)/\gU s o)
 | none=>none
theorem QS{ops s s'}{o:Oper}{c rest Q}(hd:∀d,o.dst=some d->d<n)(h:E3 P ops s o=some (s',c))(hc:c)(k:ar P n ops rest s' Q):ar P n ops (o::rest) s Q:=by
 unfold E3 at h;split at h
 ·rename_i hg;split at h
  ·rename_i x c' hx;cases h;exact ar.quiet (lB hg) hd (uD hx hc) k
  ·cases h
 ·rename_i b hg;split at h
  ·cases h
  ·cases h;refine ar.guarded hg hd (λhb=>?_) k;obtain⟨h1,h2⟩:=hc hb;obtain⟨c',h3,h4⟩:=Bp h1;exact⟨_,JU h2,uD h3 h4⟩
 ·cases h
def JV(o:Oper):List Nat:=o.op.operands.toList.filterMap λz=>match z with|.tmp t=>some t|_=>none
def DE(s:St)(o:Oper):List (Nat×V):=(JV o).filterMap λt=>match s.get t with|.gd _ x=>some (t,x)|_=>none
def sZ(s:St)(o:Oper):St:=⟨DE s o++s.fr,s.L⟩
theorem G.sZ{fo m s a w o}(g:G fo n m s a w)(hu:nQ s o.op.operands.toList):G fo n m (sZ s o) a w:=by
 refine⟨g.size,λt x hx=>?_,g.inv,g.defers⟩;rcases ap9.1 hx with hx|hx
 ·obtain⟨t',Sz,he⟩:=aq6.1 hx;obtain⟨z,hz,hze⟩:=aq6.1 Sz;have ajg:=sB hu _ hz;simp[St.ev]at ajg;split at he
  ·have hm:(t',s.get t')∈s.fr:=by
    grind[St.get,xF]
   obtain⟨h1,h2⟩:=g.fr _ _ hm;grind[afn,V.CC]
  grind
 ·exact g.fr t x hx
theorem aaV{s s' o b x c}(hm:u4 o=true)(h:fO P s o b=some (x,s',c)):s'.fr=mR (gD s o) s.fr:=by
 have:=zV hm h s.fr (λ_ _=>rfl);rw[show(⟨s.fr,s.L⟩:St)=s from rfl,h]at this;grind
theorem ar.Ih{ops}{o}{rest}{s}{Q}{b}(lD:gk ops s o=some (some b))(hd:∀d,o.dst=some d→d < n)
  (ht:b=true->∃b0 x s' c,fO P (sZ s o) o b0=some (x,s',c)/\u4 o=true/\nQ s o.op.operands.toList/\c)
  (k:b=true->∀x s' b1 c,fO P (sZ s o) o (b1+1)=some (x,s',c)->ar P n ops rest (St.put ⟨mR (gD (sZ s o) o) s.fr,s'.L⟩ o.dst (.gd true x)) Q)
  (kf:b=false->ar P n ops rest (s.put o.dst (.gd false .any)) Q):ar P n ops (o::rest) s Q:=by
 intro fo m0 w0 m a w st g;have hw:=nN g lD;cases b with
 | true=>
   obtain⟨b0,x0,s0,c0,h1,h2,h3,h4⟩:=ht rfl;obtain⟨nx,v,w',m',x,s',bq,sS,⟨b1,c1,Ay⟩,hr,g',fJ⟩:=u3 h1 h4 fo m a w (g.sZ h3);have ia:=aaV h2 Ay;have g2:G fo n m' ⟨mR (gD (Go.Ab.sZ s o) o) s.fr,s'.L⟩ a w':=by
    refine⟨g'.size,λt y hy=>g'.fr t y ?_,g'.inv,g'.defers⟩;rw[ia];obtain⟨p,hp,he⟩:=apV.1 hy;exact apV.2 ⟨p,aqu _ hp,he⟩
   exact sV hw bq sS (k rfl x s' b1 c1 Ay fo m0 w0 m' _ w' (st.trans fJ) (g2.put hd (.gt _ _ hr)))
 | false=>
   unfold wpListIn;rw[if_neg (by grind)];exact⟨λ_ _=>trivial,kf rfl fo m0 w0 m _ w st (g.put hd (.gf _))⟩
variable {ops : Array Oper} {Q : AX -> St -> Prop}
mutual
def V.on(ks:List Nat):V->Bool
 | .bp h _=>ks.contains h
 | .rv h=>ks.contains h
 | .ep h _ _ _=>ks.contains h
 | .eW _ f c=>V.dA ks f&&V.dA ks c
 | .agg cs=>V.dA ks cs
 | .bM cs=>V.dA ks cs
 | .gd _ x=>V.on ks x
 | .d _=>true
 | .rp _=>true
 | .sv h _=>ks.contains h
 | .kn _=>true
 | .any=>true
def V.dA(ks:List Nat):List V->Bool
 | []=>true
 | x::l=>V.on ks x&&V.dA ks l
end
theorem fP{ks}:∀{l},V.dA ks l=true->∀x∈l,V.on ks x=true
 | [],_,x,h=>by cases h
 | y::l,h,x,hx=>by
   simp[V.dA]at h;rcases ap8.1 hx with rfl|hx
   ·grind
   ·exact fP h.2 x hx
theorem E4 ks:∀l:List D,V.dA ks (l.map V.d)=true
 | []=>rfl
 | x::l=>by simp[V.dA,V.on,E4]
def aV.on(ks:List Nat):aV->Bool
 | .box _ _ cs=>V.dA ks cs
 | .row _ _ xs=>xs.all (V.dA ks)
 | .env _=>true
 | .mp _=>true
theorem ahC ks ys:(dd ys).all (V.dA ks)=true:=by
 simp[dd,E4]
theorem az.on{O ks}(hm:∀h x,h∈ks->m h=some x->m' h=some x){x y}(hr:az w O m x y)(ho:y.on ks=true):az w O m' x y:=by
 induction hr with
 | d x y h=>exact .d x y h
 | bp h off b e=>exact .bp h off b (hm _ _ (by simp_all[V.on]) e)
 | rv h x e e1=>exact .rv h x (hm _ _ (by simp_all[V.on]) e) e1
 | ep h k i j b o n c e=>exact .ep h k i j b o n c (hm _ _ (by simp_all[V.on]) e)
 | rp b off cs f hb ay hc hr=>exact .rp b off cs f hb ay hc hr
 | sv h n b cap e hc hx=>exact .sv h n b cap (hm _ _ (by simp_all[V.on]) e) hc hx
 | eW fn first eh cf cc s1 s2 h1 h2 CY FH=>
   simp[V.on]at ho;exact .eW fn first eh cf cc s1 s2 (λj x y hx hy=>CY j x y hx hy (fP ho.1 y (apT hy))) (λj x y hx hy=>FH j x y hx hy (fP ho.2 y (apT hy)))
 | agg vs cs hs h1 h ih=>
   exact .agg vs cs hs h1 (λj x y hx hy=>ih j x y hx hy (fP ho y (apT hy)))
 | bM vs cs hs h ih=>
   exact .bM vs cs hs (λj x y hx hy=>ih j x y hx hy (fP ho y (apT hy)))
 | gt x y h ih=>exact .gt x y (ih (by simp_all[V.on]))
 | gf y=>exact .gf y
 | kn x Q h=>exact .kn x Q h
 | any x=>exact .any x
theorem aV.Holds.on{O ks}(hm:∀h x,h∈ks->m h=some x->m' h=some x){x}{r:aV}(hr:r.Holds w O m x)(ho:r.on ks=true):r.Holds w O m' x:=by
 cases r with
 | box b ty cs=>
   obtain⟨bb,kA,cur,rfl,h1,h2,h3,h4⟩:=hr;exact⟨bb,kA,cur,rfl,h1,h2,h3,λj v c hv hc=>(h4 j v c hv hc).on hm (fP ho c (apT hc))⟩
 | row ty k xs=>
   rcases hr with h|⟨b,off,cap,cur,rfl,h1,h2,h3,h4,h5,h6,h7⟩
   ·exact .inl h
   ·simp[aV.on]at ho;exact .inr ⟨b,off,cap,cur,rfl,h1,h2,h3,h4,h5,h6,λi j x y v hx hy hv=>(h7 i j x y v hx hy hv).on hm (fP (ho x (apT hx)) y (apT hy))⟩
 | env A=>exact hr
 | mp es=>exact hr
def St.on(ks:List Nat)(s:St):Bool:=s.fr.all (λp=>V.on ks p.2)&&s.L.all (λp=>aV.on ks p.2)
theorem Wk.drop{s'}(hf:∀p∈s'.fr,p∈s.fr)(hL:∀p∈s'.L,p∈s.L)(hn:(keys s'.L).Nodup)(iu:s'.on (keys s'.L)=true):Wk n s s':=by
 classical
 intro fo m a w g
 let m':=λh=>if h∈keys s'.L then m h else none
 have mu:∀h x,m' h=some x->m h=some x/\h∈keys s'.L:=by
  grind
 have XR:∀h x,h∈keys s'.L->m h=some x->m' h=some x:=by
  grind
 have fb:∀b,own m' b->own m b:=by
  rintro b ⟨h,x,hx,hb⟩;exact⟨h,x,(mu h x hx).1,hb⟩
 have hO:∀b,b<w.heap.size->OO fo m' b->OO fo m b:=λb _ ho=>ho.imp (fb b) id
 simp only[St.on,apP,apR]at iu;refine⟨m',⟨g.size,?_,?_,g.defers⟩,⟨rfl,rfl,rfl,apU _,λ_ _ _=>rfl,λb _ ho=>fb b ho⟩⟩
 ·intro t x hx;obtain⟨h1,h2⟩:=g.fr t x (hf _ hx);exact⟨h1,(h2.on XR (iu.1 _ hx)).mono (bK.refl w _) hO (λ_ _ e=>e)⟩
 ·refine⟨hn,λh x hx=>(mu h x hx).2,?_,?_,g.inv.ei,?_,g.inv.ef.mono (bK.refl w _) hO⟩
  ·intro h h' x x' b hx cy hb de;exact g.inv.apart h h' x x' b (mu h x hx).1 (mu h' x' cy).1 hb de
  ·intro h x b hx hb;exact g.inv.others h x b (mu h x hx).1 hb
  ·intro h r hr;obtain⟨x,hx,hh⟩:=g.inv.holds h r (hL _ hr);have hk:h∈keys s'.L:=apV.2 ⟨_,hr,rfl⟩;exact⟨x,XR h x hk hx,(hh.on XR (iu.2 _ hr)).mono (λ_ _=>rfl) (bK.refl w _) hO (λ_ _ e=>e)⟩
theorem Wk.rem h:Wk n s (s.rem h):=by
 classical
 intro fo m a w g
 let m':=λi=>if i=h then none else m i
 have hm:∀i x,i≠h->m i=some x->m' i=some x:=λi x bU hx=>by grind
 have mu:∀i x,m' i=some x->i≠h/\m i=some x:=by
  grind
 have fb:∀b,own m' b->own m b:=by
  rintro b ⟨i,x,hx,hb⟩;exact⟨i,x,(mu i x hx).2,hb⟩
 have hO:∀b,b<w.heap.size->OO fo m' b->OO fo m b:=λb _ ho=>ho.imp (fb b) id
 have hi:=g.inv;have pK:keys (St.rem h s).L=(keys s.L).filter (·!=h):=by
  simp[keys,St.rem,AF,arc];rw[List.filter_map];rfl
 refine⟨m',⟨g.size,?_,?_,g.defers⟩,⟨rfl,rfl,rfl,apU _,λ_ _ _=>rfl,λb _ ho=>fb b ho⟩⟩
 ·intro t x hx;obtain⟨p,hp,he⟩:=apV.1 hx;cases he;obtain⟨h1,h2⟩:=g.fr p.1 p.2 hp;exact⟨h1,(h2.kill hm).mono (bK.refl w _) hO (λ_ _ e=>e)⟩
 ·have aaT:(St.rem h s).L=(s.L.filter λp=>p.1 !=h).map λp=>(p.1,p.2.kill h):=AF h s.L
  refine⟨?_,?_,?_,?_,hi.ei,?_,hi.ef.mono (bK.refl w _) hO⟩
  ·rw[pK];exact hi.nodup.sublist List.filter_sublist
  ·intro i x hx;rw[pK,aq0];exact⟨hi.fI i x (mu i x hx).2,by grind⟩
  ·intro i j x y b hx hy hb de;exact hi.apart i j x y b (mu i x hx).2 (mu j y hy).2 hb de
  ·intro i x b hx hb;exact hi.others i x b (mu i x hx).2 hb
  ·intro i r hr;rw[aaT]at hr;obtain⟨p,hp,he⟩:=apV.1 hr;cases he;rw[aq0]at hp;obtain⟨x,hx,hh⟩:=hi.holds p.1 p.2 hp.1;have bU:p.1≠h:=by grind
   exact⟨x,hm _ _ bU hx,(hh.kill hm).mono (λ_ _=>rfl) (bK.refl w _) hO (λ_ _ e=>e)⟩
def N1:Op->Bool
 | .alloc _|.box .. | .makeSlice .. | .buildSlice .. | .makeMap .. =>true
 | _=>false
def St.N3(s:St)(o:Oper):St:=
 match o.dst with
 | some h=>if N1 o.op&&(keys s.L).contains h then s.rem h else s
 | none=>s
theorem Wk.N3 o:Wk n s (s.N3 o):=by
 grind[St.N3,Wk.rem,Wk.refl]
theorem ar.weaken{ops l s' Q}(h:Wk n s s')(k:ar P n ops l s' Q):ar P n ops l s Q:=by
 intro fo m0 w0 m a w st g;obtain⟨m',g',fJ⟩:=h fo m a w g;exact k fo m0 w0 m' a w (st.trans fJ) g'
end
def aaW(P:Program)(s:St):ResultVar->Option (V×Prop)
 | .tmp t=>some (s.get t,True)
 | .cell a t=>EW P s.L t (s.get a)
def u5(P:Program)(s:St):List ResultVar->Option (List V×Prop)
 | []=>some ([],True)
 | r::l=>match aaW P s r,u5 P s l with
   | some (x,c),some (xs,d)=>some (x::xs,c/\d)
   | _,_=>none
def Bq:List V->V
 | [x]=>x
 | l=> .bM l
def M1(tmps:Array Value)(r:ResultVar):Sem Value:=
 match r with
 | .tmp t=>pure (tmps.getD t undef)
 | .cell a t=>do loadVar t (<-asAddr (tmps.getD a undef))
theorem Ii fn tmps:results fn tmps=(do let vs <-fn.results.mapM (M1 tmps);pure (if h:vs.size=1 then vs[0]else .tuple vs)):=rfl
def fj(P:Program)(rs:List ResultVar)(R:AE->aH->Prop)(x:AX)(s:St):Prop:=
 match x with
 | .normal | .ret=>match u5 P s rs with
   | some (xs,c)=>c/\R (.ret (Bq xs)) s.L
   | none=>False
 | .iC v=>R (.iC v) s.L
 | _=>False
theorem FX{P}{fo}{n}{m}{s}{a}{w}(g:G fo n m s a w):∀l {xs} {c},u5 P s l=some (xs,c)→c→
  ∃vs:List Value,(l.mapM (M1 a.tmps)).run P w= .ok vs w/\vs.length=xs.length/\
   ∀(j:Nat) v x,vs[j]?=some v->xs[j]?=some x->az w (OO fo m) m v x
 | [],xs,c,h,_=>by
   cases h;exact⟨[],by simp,rfl,by simp⟩
 | r::l,xs,c,h,hc=>by
   simp[u5]at h;split at h
   ·rename_i x c1 ys d h1 h2;cases h;obtain⟨vs,SA,za,hv3⟩:=FX g l h2 hc.2;have kP:∃v,(M1 a.tmps r).run P w= .ok v w/\az w (OO fo m) m v x:=by
     cases r with
     | tmp t=>
       cases h1;exact⟨_,rfl,qP g t⟩
     | cell ad t=>
       simp[aaW]at h1;obtain⟨v,hv,hr⟩:=FJ h1 hc.1 g.inv (qP g ad);have hp:∃p,a.tmps.getD ad undef= .pointer (some p):=by
        have rN:=qP g ad;grind[EW,xJ,C1,C2]
       grind[M1,Instr.loadAt,Instr.sureAddr,asAddr]
    obtain⟨v,hv,hr⟩:=kP;refine⟨v::vs,?_,by grind,?_⟩
    ·simp_all
    grind
   grind
theorem sg{P}{fo}{n}{m}{s}{a}{w}(g:G fo n m s a w){fn}{xs}{c}(h:u5 P s fn.results.toList=some (xs,c))(hc:c):
  ∃v,(results fn a.tmps).run P w= .ok v w/\az w (OO fo m) m v (Bq xs):=by
 obtain⟨vs,h1,h2,h3⟩:=FX g _ h hc;rw[Ii,Array.mapM_eq_mapM_toList];simp;rw[h1]
 match vs,xs,h2,h3 with
 | [v],[x],_,h3=>
   simpa[Bq]using h3 0 v x rfl rfl
 | [],[],_,h3=>
   refine⟨.tuple #[],by simp,?_⟩;exact .bM _ _ rfl (by simp)
 | v1::v2::vs,x1::x2::xs,h2,h3=>
   refine⟨.tuple (v1::v2::vs).toArray,by simp,?_⟩;exact .bM _ _ (by omega) (λj v x hv hx=>h3 j v x (by grind) hx)
theorem G.others{fo n m s a w w'}(g:G fo n m s a w)(hs:w.heap.size<=w'.heap.size)(hb:∀b,b<w.heap.size->¬fo.f b->w'.heap[b]?=w.heap[b]?):G fo n m s a w':=by
 have hk:bK w (OO fo m) w':=⟨hs,λb h1 h2=>hb b h1 (λh=>h2 (.inr h))⟩
 refine⟨g.size,λt x hx=>⟨(g.fr t x hx).1,(g.fr t x hx).2.mono hk (λ_ _ h=>h) (λ_ _ h=>h)⟩,⟨g.inv.nodup,g.inv.fI,g.inv.apart,g.inv.others,λb hf=>aqa (g.inv.ei b hf) hs,λh r hr=>?_,g.inv.ef.mono hk (λ_ _ h=>h)⟩,g.defers⟩;obtain⟨x,hx,hh⟩:=g.inv.holds h r hr;exact⟨x,hx,hh.mono (λb de=>hb b (g.inv.lt hx de) (g.inv.others h x b hx de)) hk (λ_ _ h=>h) (λ_ _ h=>h)⟩
theorem Inv.less{fo fo' m L w}(h:∀b,fo'.f b->fo.f b)(hi:Inv fo m L w):Inv fo' m L w:=by
 refine⟨hi.nodup,hi.fI,hi.apart,λi x b hx hb hf=>hi.others i x b hx hb (h b hf),λb hf=>hi.ei b (h b hf),λi r hr=>?_,hi.ef.mono (bK.refl w _) (λb _ hb=>hb.imp id (h b))⟩;obtain⟨x,hx,hh⟩:=hi.holds i r hr;exact⟨x,hx,hh.mono (λ_ _=>rfl) (bK.refl w _) (λb _ hb=>hb.imp id (h b)) (λ_ _ h=>h)⟩
def nR(w:World)(r:Nat)(o:Obj):World:={w with heap:=w.heap.setIfInBounds r o}
theorem jA w r o:(nR w r o).heap.size=w.heap.size:=by simp[nR]
theorem K8{w r o}(h:r<w.heap.size):(nR w r o).heap[r]?=some o:=by simp[nR,h]
theorem qS{w r b o}(h:b≠r):(nR w r o).heap[b]?=w.heap[b]?:=by simp[nR,Ne.symm h]
theorem xX{P w r o}(h:w.heap[r]?=some o)(ho:∀c e f,o≠ .cells c e f):(getObj r).run P w= .ok o w:=by
 unfold getObj;simp[Sem.run];rw[h];cases o with
 | cells c e f=>exact(ho c e f rfl).elim
 | _=>rfl
theorem Br{P w r o o'}(h:w.heap[r]?=some o)(ho:∀c e f,o≠ .cells c e f):(setObj r o').run P w= .ok () (nR w r o'):=by
 unfold setObj;simp[Sem.run];rw[h];cases o with
 | cells c e f=>grind
 | _=>rfl
theorem tN{P}{fn}{n}{tmps}{R}{u}(hu:u≠ .run):∀(ms:List Nat) w,ms.Nodup→(∀r∈ms,w.heap[r]?=some (.deferred (some [])))→
  (∀w',w'.os=w.os->w'.tape=w.tape->w'.output=w.output->w.heap.size<=w'.heap.size->(∀b,b∉ms->w'.heap[b]?=w.heap[b]?)->LeavesInM Fence.wide n P fn tmps R [] u w')->LeavesInM Fence.wide n P fn tmps R (ms.map (λr=>⟨.collected r,#[]⟩)) u w
 | [],w,_,_,h=>h w rfl rfl rfl (apU _) (λ_ _=>rfl)
 | r::ms,w,hn,hm,h=>by
   rw[aqZ]at hn;refine⟨hu,.inl ⟨r,nR w r (.deferred none),rfl,?_,?_⟩⟩
   ·simp_all[Instr.takeDeferred,xX,Br]
   ·refine tN hu ms _ hn.2 (λr' tz=>?_) (λw' h1 h2 h3 h4 h5=>h w' h1 h2 h3 (aqo (by simp[jA]) h4) (λb hb=>?_))
    ·have:r≠r':=λe=>hn.1 (e ▸ tz)
     simp_all[qS,Ne.symm]
    simp_all[qS]
theorem aE.adS{P}{f}{fn}{c}{args}{L}{R}(hf:P.funcs[f]?=some fn)(hb:fn.body=some c)(hn:args.length≤fn.ntmps)
  (h:aw P fn.ntmps c ⟨eH 0 args,L⟩ (fj P fn.results.toList R)) {fo m w xs} (hD:fo.D=[]) (vA:fo.r=none) (zb:fo.nm=false) (hi:Inv fo m L w) (hx:iA w (OO fo m) m xs args):Calls P f xs w (mK fo m w R):=by
 refine callsIn_wide.1 (callsIn_of_wp_marks (n:=0) hf hb trivial ?_);have dW:(xs++Array.replicate (fn.ntmps-xs.size) undef).size=fn.ntmps:=by
  have:=hx.1;grind
 have g:G fo fn.ntmps m ⟨eH 0 args,L⟩ {tmps:=xs++Array.replicate (fn.ntmps-xs.size) undef,defers:=[]} w:=by
  refine⟨dW,?_,hi,hD.symm⟩;intro t y hy;obtain⟨h1,h2,h3⟩:=p7 hy;simp only[Nat.sub_zero,aqB]at h2 h3;refine⟨by omega,?_⟩;have ay:t<xs.size:=by rw[hx.1];exact h3
  have:(xs++Array.replicate (fn.ntmps-xs.size) undef).getD t undef=xs[t]:=by
   simp[Array.getD,ay];omega
  rw[this];exact hx.2 t _ y (aqf ay) h2
 have h0:=h fo m _ w (λ_=>⟨vA,zb⟩) g;rw[vA]at h0;refine Code.wpIn_mono (F:=Fence.wide) ?_ h0;rintro e a' w' ⟨ms,m',x,s',hm,hq,g',cy,st⟩;have xW:a'.defers=ms.map (λr=>⟨.collected r,#[]⟩):=by
  rw[g'.defers];simp[FO.mark,hD]
 have stp:∀w2:World,w2.os=w'.os→w2.tape=w'.tape→w2.output=w'.output→w'.heap.size≤w2.heap.size→(∀b,b∉ms→w2.heap[b]?=w'.heap[b]?)→
   G (fo.mark ms) fn.ntmps m' s' a' w2/\Inv fo m' s'.L w2/\Step w (own m) w2 (own m'):=by
  intro w2 h1 h2 h3 h4 h5;have g2:=g'.others h4 (λb _ hnf=>h5 b (λhb=>hnf (.inr hb)));refine⟨g2,g2.inv.less (λb hb=>Or.inl hb),⟨h1.trans st.os,h2.trans st.tape,h3.trans st.output,aqo st.size h4,λb hb ho=>?_,st.owned⟩⟩;rw[h5 b (λXT=>by have:=(hm.2 b XT).1;omega)];exact st.block b hb ho
 have less:∀{w2:World} {v:Value} {y:V},az w2 (OO (fo.mark ms) m') m' v y->az w2 (OO fo m') m' v y:=λh=>h.mono (bK.refl _ _) (λb _ hb=>hb.imp id Or.inl) (λ_ _ h=>h)
 have N4:∀(ys:List V) (c':Prop),u5 P s' fn.results.toList=some (ys,c')->c'->R (.ret (Bq ys)) s'.L->LeavesInM Fence.wide 0 P fn a'.tmps (mK fo m w R) a'.defers .returning w':=by
  intro ys c' hr hc hR;rw[xW];refine tN (by simp) ms w' hm.1.1 (λr hr=>(hm.2 r hr).2) (λw2 h1 h2 h3 h4 h5=>?_);obtain⟨g2,i2,oX⟩:=stp w2 h1 h2 h3 h4 h5;obtain⟨v,k1,k2⟩:=sg g2 hr hc;exact⟨v,k1,m',_,_,hR,less k2,i2,oX⟩
 cases e with
 | normal=>
   cases x<;>simp only[bF]at cy
   simp only[fj]at hq;split at hq
   ·rename_i ys c' hr;exact N4 ys c' hr hq.1 hq.2
   grind
 | ret=>
   cases x<;>simp only[bF]at cy
   simp only[fj]at hq;split at hq
   ·rename_i ys c' hr;exact N4 ys c' hr hq.1 hq.2
   grind
 | panic ch=>
   cases x<;>simp only[bF]at cy
   simp only[fj]at hq;show LeavesInM Fence.wide 0 P fn a'.tmps (mK fo m w R) a'.defers (.panicking ch) w';rw[xW];refine tN (by simp) ms w' hm.1.1 (λr hr=>(hm.2 r hr).2) (λw2 h1 h2 h3 h4 h5=>?_);obtain⟨g2,i2,oX⟩:=stp w2 h1 h2 h3 h4 h5;obtain⟨v,gN,rfl,hold,hv⟩:=cy;exact⟨m',_,_,hq,⟨v,gN,rfl,hold,less (hv.mono ⟨h4,λb hb ho=>h5 b (λXT=>ho (.inr (.inr XT)))⟩ (λ_ _ h=>h) (λ_ _ h=>h))⟩,i2,oX⟩
 | exit i=>cases x<;>simp only[bF]at cy;exact hq.elim
 | goto i=>cases x<;>simp only[bF]at cy;exact hq.elim
 | outgrown=>simp_all[bF]
theorem aE.xY{P}{f}{fn}{c}{args}{L}{R}(hf:P.funcs[f]?=some fn)(hb:fn.body=some c)(hn:args.length≤fn.ntmps)
  (h:aw P fn.ntmps c ⟨eH 0 args,L⟩ (fj P fn.results.toList R)):aE P f args L R:=by
 intro fo m w xs hi hx;have key:∀fo,fo.D=[]->fo.r=none->fo.nm=false->Inv fo m L w->iA w (OO fo m) m xs args->Calls P f xs w (mK fo m w R):=by
  grind[aE.adS]
 exact(key ⟨fo.f,[],none,false⟩ rfl rfl rfl ⟨hi.nodup,hi.fI,hi.apart,hi.others,hi.ei,hi.holds,hi.ef⟩ hx).mono λ_ _ ⟨m',r,L',h1,h2,h3,h4⟩=>⟨m',r,L',h1,h2,⟨h3.nodup,h3.fI,h3.apart,h3.others,h3.ei,h3.holds,h3.ef⟩,h4⟩
section
variable {P : Program} {w w' : World} {fo : FO} {m m' : Nat -> Option Value} {L : aH} {n : Nat} {s : St} {a : Act} {Q : AX -> St -> Prop}
def qk(P:Program)(o:Oper)(dm:Operand->V)(L:aH)(x:V):Prop:=
 ∀fo m (ρ:Operand->Value) w,Inv fo m L w->(∀z,z∈o.op.operands->az w (OO fo m) m (ρ z) (dm z))->
  (∃v,(execOp ρ o).run P w= .ok (.value v) w/\az w (OO fo m) m v x)\/
  ∃f args,(execOp ρ o).run P w= .ok (.enter f args) w/\Calls P f args w (λe w'=>∃v,e= .returned v/\az w' (OO fo m) m v x/\Inv fo m L w'/\Step w (own m) w' (own m))
theorem qk.UA{o dm x}(h:Xi P o dm L x):qk P o dm L x:=λfo m ρ w hi hr=> .inl (h fo m ρ w hi hr)
def enters(P:Program)(f:FuncId):Bool:=
 match P.funcs[f]? with
 | some fn=>fn.name != "runtime.NumGoroutine" && fn.body.isSome
 | none=>false
theorem xZ{f}(h:enters P f=true) args w:(callFunc f args).run P w= .ok (.enter f args) w:=by
 unfold enters at h;split at h
 ·rename_i fn hf;cases hb:fn.body with
  | none=>grind
  | some c=>simp_all[callFunc]
 grind
def callee(ρ:Operand->V)(c:Call):Option (FuncId×List V):=
 match c.callee with
 | .value fo=>match ρ fo with
   | .eW (.func f) first eh=>some (f,first++c.args.toList.map ρ++eh)
   | _=>none
 | _=>none
theorem SB{x}{fn}{cf cc}{O}(hr:az w O m x (.eW fn cf cc)):∃first eh:Array Value,x= .func fn first eh∧first.size=cf.length∧eh.size=cc.length∧
  (∀(j:Nat) x y,first[j]?=some x->cf[j]?=some y->az w O m x y)/\(∀(j:Nat) x y,eh[j]?=some x->cc[j]?=some y->az w O m x y):=by
 cases hr with
 | eW _ first eh _ _ s1 s2 h1 h2=>grind
theorem iA.append{O xs xs' ys ys'}(h:iA w O m xs ys)(h':iA w O m xs' ys'):iA w O m (xs++xs') (ys++ys'):=by
 refine⟨by simp[h.1,h'.1],λj x y hx hy=>?_⟩;rw[Array.getElem?_append]at hx;rw[aq8]at hy;rw[h.1]at hx;split at hx
 ·rename_i hj;rw[if_pos hj]at hy;exact h.2 j x y hx hy
 ·rename_i hj;rw[if_neg hj]at hy;exact h'.2 _ x y hx hy
theorem N5{ρ}{dm}{O}(l:Array Operand)(h:∀z,z∈l→az w O m (ρ z) (dm z)):
  ∀(j:Nat) x y,(l.map ρ)[j]?=some x->(l.toList.map dm)[j]?=some y->az w O m x y:=by
 grind
theorem pe{o}{c}{ρ}{dm}{f}{args}{O}(aP:o.op= .call c)(hc:callee dm c=some (f,args))(he:enters P f=true)
  (hr:∀z,z∈o.op.operands->az w O m (ρ z) (dm z)):∃xs,(execOp ρ o).run P w= .ok (.enter f xs) w/\iA w O m xs args:=by
 unfold callee at hc;split at hc
 ·rename_i fop qc;split at hc
  ·rename_i f' first eh FQ
   cases hc;have h1:=hr fop (by simp_all[Op.operands,Call.operands]);rw[FQ]at h1;obtain⟨fa,ca,e,s1,s2,g1,g2⟩:=SB h1;refine⟨fa++c.args.map ρ++ca,?_,?_⟩
   ·simp_all[xZ,execOp,resolve,Deferred.ofValue,invoke]
   ·refine(iA.append ⟨s1,g1⟩ ?_).append ⟨s2,g2⟩;refine⟨by simp,?_⟩;grind[N5,Op.operands,Call.operands]
  grind
 grind
theorem Inv.grown(hi:Inv fo m L w)(hs:w.heap.size<=w'.heap.size)(hb:∀b,b<w.heap.size->w'.heap[b]?=w.heap[b]?):Inv fo m L w':=by
 refine⟨hi.nodup,hi.fI,hi.apart,hi.others,λb hf=>aqa (hi.ei b hf) hs,?_,hi.ef.mono ⟨hs,λb de _=>hb b de⟩ (λ_ _ e=>e)⟩;intro h r hr;obtain⟨x,hx,hh⟩:=hi.holds h r hr;exact⟨x,hx,hh.mono (λb gS=>hb b (hi.lt hx gS)) ⟨hs,λb de _=>hb b de⟩ (λ_ _ e=>e) (λ_ _ e=>e)⟩
def fk:Nat->Option Value:=λ_=>none
theorem gE b:¬own fk b:=by rintro⟨h,x,hx,_⟩;cases hx
theorem Inv.none_(hi:Inv fo m L w){gT}(hf:∀b,gT b->OO fo m b):Inv gT fk [] w:=
 ⟨by simp[keys],(by intro h x hx;cases hx),(by intro h h' x x' b hx;cases hx),(by intro h x b hx;cases hx),(λb hb=>hi.aht (hf b hb)),(by simp),hi.ef.mono (bK.refl w _) (λb _ hb=>hb.elim (λh=>(gE b h).elim) (hf b))⟩
theorem qk.call{o}{c}{dm}{f}{args}{x}(aP:o.op= .call c)(hc:callee dm c=some (f,args))(he:enters P f=true)(ho:V.dA [] args=true)(hx:x.on []=true)
  (h:aE P f args [] (λr _=>r= .ret x)):qk P o dm L x:=by
 intro fo m ρ w hi hr;obtain⟨xs,h1,h2⟩:=pe aP hc he hr;refine .inr ⟨f,xs,h1,?_⟩;have fC:iA w (OO (OO fo m) fk) fk xs args:=by
  refine⟨h2.1,λj v y hv hy=>?_⟩;have:=(h2.2 j v y hv hy).on (m':=fk) (by simp) (fP ho y (apT hy));exact this.mono (bK.refl w _) (λb _ hb=>hb.elim (λh=>(gE b h).elim) id) (λ_ _ e=>e)
 refine(h (OO fo m) fk w xs (hi.none_ λb hb=>hb) fC).mono ?_;rintro e w' ⟨m1,r,L',rfl,kD,ck,st⟩;cases e with
 | returned v=>
   refine⟨v,rfl,?_,hi.grown st.size (λb hb=>st.block b hb (gE b)),⟨st.os,st.tape,st.output,st.size,λb hb _=>st.block b hb (gE b),λb hb h=>h⟩⟩;have:=kD.on (m':=m) (by simp) hx;exact this.mono (bK.refl w' _) (λb _ hb=> .inr hb) (λ_ _ e=>e)
 | panicked ch=>simp_all[Ends]
 | outgrown=>simp_all[Ends]
theorem ar.Ij{ops}{o:Oper}{rest x}(hg:o.guard=none)(hd:∀d,o.dst=some d->d<n)(h:qk P o s.ev s.L x)(k:ar P n ops rest (s.put o.dst x) Q):ar P n ops (o::rest) s Q:=by
 intro fo m0 w0 m a w st g;rcases h fo m a.eval w g.inv (λz _=>cj g z)with⟨v,bq,hr⟩|⟨f,args,bq,hc⟩
 ·exact sV (by simp[Region.wanted,hg]) bq (.inl rfl) (k fo m0 w0 m _ w st (g.put hd hr))
 ·unfold wpListIn;rw[if_pos (by simp[Region.wanted,hg])];refine yS bq ?_;refine hc.mono ?_;rintro e w' ⟨v,rfl,hr,ck,fJ⟩;have cN:bK w (OO fo m) w':=⟨fJ.size,λb hb ho=>fJ.block b hb (λh=>ho (.inl h))⟩
  have g':G fo n m s a w':=⟨g.size,λt y hy=>⟨(g.fr t y hy).1,(g.fr t y hy).2.mono cN (λ_ _ h=>h) (λ_ _ h=>h)⟩,ck,g.defers⟩
  exact k fo m0 w0 m _ w' (st.trans fJ) (g'.put hd hr)
theorem ar.N6{ops}{o}{rest}{b}{x}(lD:gk ops s o=some (some b))(hd:∀d,o.dst=some d→d < n)
  (h:b=true->∃dm:Operand->V,(∀z,z∈o.op.operands->∀w O m v,az w O m v (s.ev z)->az w O m v (dm z))/\qk P o dm s.L x) (k:ar P n ops rest (s.put o.dst (.gd b x)) Q):ar P n ops (o::rest) s Q:=by
 intro fo m0 w0 m a w st g;have hw:=nN g lD;cases b with
 | true=>
   obtain⟨dm,h1,h2⟩:=h rfl;rcases h2 fo m a.eval w g.inv (λz hz=>h1 z hz _ _ _ _ (cj g z))with⟨v,bq,hr⟩|⟨f,args,bq,hc⟩
   ·exact sV hw bq (.inl rfl) (k fo m0 w0 m _ w st (g.put hd (.gt _ _ hr)))
   ·unfold wpListIn;rw[if_pos hw];refine yS bq ?_;refine hc.mono ?_;rintro e w' ⟨v,rfl,hr,ck,fJ⟩;have cN:bK w (OO fo m) w':=⟨fJ.size,λb hb ho=>fJ.block b hb (λh=>ho (.inl h))⟩
    have g':G fo n m s a w':=⟨g.size,λt y hy=>⟨(g.fr t y hy).1,(g.fr t y hy).2.mono cN (λ_ _ h=>h) (λ_ _ h=>h)⟩,ck,g.defers⟩
    exact k fo m0 w0 m _ w' (st.trans fJ) (g'.put hd (.gt _ _ hr))
 | false=>
   unfold wpListIn;rw[if_neg (by grind)];exact⟨λ_ _=>trivial,k fo m0 w0 m _ w st (g.put hd (.gf _))⟩
def lU(P:Program)(f:FuncId)(args:List V)(L:aH)(x:V):Prop:=∀(o:Oper) (c:Call) (dm:Operand->V),o.op= .call c->callee dm c=some (f,args)->qk P o dm L x
def Bs(P:Program):Option (FuncId×List V)->aH->V->Prop
 | some (f,args),L,x=>lU P f args L x
 | none,_,_=>False
def wS(P:Program)(s:St)(o:Oper)(x:V):Prop:=
 match o.op with
 | .call c=>Bs P (callee s.ev c) s.L x
 | _=>False
def wT(P:Program)(s:St)(o:Oper)(x:V):Prop:=
 nQ s o.op.operands.toList/\match o.op with
 | .call c=>Bs P (callee (λz=>(s.ev z).un) c) s.L x
 | _=>False
theorem Bs.FY{o c dm x}(aP:o.op= .call c)(h:Bs P (callee dm c) L x):qk P o dm L x:=by
 cases hc:callee dm c with
 | none=>rw[hc]at h;exact h.elim
 | some p=>
   rw[hc]at h;exact h o c dm aP hc
theorem wS.FY{o x}(h:wS P s o x):qk P o s.ev s.L x:=by
 grind[wS,Bs.FY]
theorem wT.FY{o x}(h:wT P s o x):∃dm:Operand->V,(∀z,z∈o.op.operands->∀w O m v,az w O m v (s.ev z)->az w O m v (dm z))/\qk P o dm s.L x:=by
 unfold wT at h;refine⟨λz=>(s.ev z).un,λz hz w O m v hr=>vn hr (sB h.1 z (by grind)),?_⟩;grind[Bs.FY]
def rT(o:Oper):Bool:=
 match o.op with
 | .call {callee:= .value _,..}=>true
 | _=>false
def x4(P:Program)(ops:Array Oper)(s:St)(o:Oper)(us:List V):Option (St×Prop×List V):=
 match us with
 | []=>none
 | x::us=>match gk ops s o with
   | some none=>some (s.put o.dst x,wS P s o x,us)
   | some (some g)=>some (s.put o.dst (.gd g x),g=true->wT P s o x,us)
   | none=>none
def eN(P:Program)(ops:Array Oper):List Oper->St->(Nat->Nat)->List V->(St->List Oper->Prop)->Prop
 | [],s,_,_,K=>K s []
 | o::rest,s,bs,us,K=>
   if rT o then
    match x4 P ops s o us with
    | some (s',c,kZ)=>c/\eN P ops rest s' bs kZ K
    | none=>K s (o::rest)
   else
   match E3 P ops s o with
   | some (s',c)=>c/\eN P ops rest s' bs us K
   | none=>
     match gk ops s o with
     | some none=>match fO P (s.N3 o) o (bs 0+1)with
       | some (x,s',c)=>c/\eN P ops rest (s'.put o.dst x) (λi=>bs (i+1)) us K
       | none=>K s (o::rest)
     | some (some true)=>match fO P (sZ s o) o (bs 0+1)with
       | some (x,s',c)=>(u4 o=true/\nQ s o.op.operands.toList/\c)/\eN P ops rest (St.put ⟨mR (gD (sZ s o) o) s.fr,s'.L⟩ o.dst (.gd true x)) (λi=>bs (i+1)) us K
       | none=>K s (o::rest)
     | some (some false)=>eN P ops rest (s.put o.dst (.gd false .any)) bs us K
     | none=>K s (o::rest)
def KK(P:Program)(n:Nat)(ops:Array Oper)(Q:AX->St->Prop)(s:St):List Oper->Prop
 | []=>Q .normal s
 | r=>ar P n ops r s Q
theorem afB{ops r}(h:KK P n ops Q s r):ar P n ops r s Q:=by
 cases r with
 | nil=>exact ar.nil h
 | cons o r=>exact h
def dB(n:Nat)(l:List Oper):Bool:=l.all λo=>match o.dst with|some d=>decide (d<n)|none=>true
theorem bf{ops}:∀l s us,dB n l=true→
  (∀bs,eN P ops l s bs us (KK P n ops Q))->ar P n ops l s Q
 | [],s,us,_,h=>afB (h (λ_=>0))
 | o::rest,s,us,hd,h=>by
   have zc:∀d,o.dst=some d->d<n:=by
    intro d ux;simp_all[dB,ase,apP]
   have kB:dB n rest=true:=by
    simp_all[dB,ase,apP]
   have h0:=h (λ_=>0);rw[eN]at h0;split at h0
   ·rename_i pR;split at h0
    ·rename_i s' c kZ ki;have bQ:∀bs,c/\eN P ops rest s' bs kZ (KK P n ops Q):=by
      simp_all[eN,if_pos]
     have H3:=bf rest s' kZ kB (λbs=>(bQ bs).2);have hc:=h0.1;unfold x4 at ki;split at ki
     ·cases ki
     ·split at ki
      ·rename_i hg;cases ki;exact ar.Ij (lB hg) zc (wS.FY hc) H3
      ·rename_i g hg;cases ki;exact ar.N6 hg zc (λhb=>wT.FY (hc hb)) H3
      ·cases ki
    ·exact h0
   ·rename_i pR;split at h0
    ·rename_i s' c hq;have bQ:∀bs,c/\eN P ops rest s' bs us (KK P n ops Q):=by
      simp_all[eN,if_neg]
     exact QS zc hq h0.1 (bf rest s' us kB (λbs=>(bQ bs).2))
    ·rename_i hq;split at h0
     ·rename_i N7;split at h0
      ·rename_i x0 s0 c0 hl;have bQ:∀(bs:Nat->Nat) (x:V) (s':St) (c:Prop),fO P (s.N3 o) o (bs 0+1)=some (x,s',c)->c/\eN P ops rest (s'.put o.dst x) (λi=>bs (i+1)) us (KK P n ops Q):=by
        intro bs x s' c hb;have:=h bs;simp_all[eN,if_neg]
       refine ar.weaken (Wk.N3 o) (ar.lS (lB N7) zc (u3 hl h0.1) ?_);rintro x s' ⟨b,c,hb⟩;exact bf rest _ us kB (λbs=>(bQ (λi=>match i with|0=>b|i+1=>bs i) x s' c hb).2)
      ·exact h0
     ·rename_i N7;split at h0
      ·rename_i x0 s0 c0 hl;have bQ:∀(bs:Nat->Nat) (x:V) (s':St) (c:Prop),fO P (sZ s o) o (bs 0+1)=some (x,s',c)->(u4 o=true/\nQ s o.op.operands.toList/\c)/\eN P ops rest (St.put ⟨mR (gD (sZ s o) o) s.fr,s'.L⟩ o.dst (.gd true x)) (λi=>bs (i+1)) us (KK P n ops Q):=by
        intro bs x s' c hb;have:=h bs;simp_all[eN,if_neg]
       refine ar.Ih N7 zc (λ_=>⟨_,x0,s0,c0,hl,h0.1⟩) (λ_ x s' b c hb=>?_) (λh=>by cases h);exact bf rest _ us kB (λbs=>(bQ (λi=>match i with|0=>b|i+1=>bs i) x s' c hb).2)
      ·exact h0
     ·rename_i N7;have bQ:∀bs,eN P ops rest (s.put o.dst (.gd false .any)) bs us (KK P n ops Q):=by
       intro bs;have:=h bs;rw[eN,if_neg pR,hq]at this;simp only[N7]at this;exact this
      exact ar.Ih N7 zc (λh=>by cases h) (λh=>by cases h) (λ_=>bf rest _ us kB bQ)
     ·exact h0
def cP(P:Program)(n:Nat):Code->St->(AX->St->Prop)->Prop
 | .skip,s,Q=>Q .normal s
 | .seq x y,s,Q=>cP P n x s (AX.then (λs'=>cP P n y s' Q) Q)
 | .cond c x y,s,Q=>match s.ev c with
   | oD b=>(b=true->cP P n x s Q)/\(b=false->cP P n y s Q)
   | _=>False
 | .block id c,s,Q=>cP P n c s (AX.inBlock id Q)
 | .exit id,s,Q=>Q (.exit id) s
 | .ret,s,Q=>Q .ret s
 | .region id ops draw,s,Q=>if draw then aw P n (.region id ops draw) s Q else dB n ops.toList=true/\∀bs,eN P ops ops.toList s bs [] (KK P n ops Q)
 | c,s,Q=>aw P n c s Q
theorem AX.XU{f g Q Q'}(h:∀s,f s->g s)(hq:∀x s,Q x s->Q' x s) x s(hx:AX.then f Q x s):AX.then g Q' x s:=by
 cases x<;>simp[AX.then]at hx⊢<;>first|exact h _ hx|exact hq _ _ hx
theorem x5{r id ops Q a w}(h:wpListIn (wr r) 0 P ops Q ops.toList a w):(Code.region id ops false).wpIn (wr r) 0 P Q a w:=wpIn_region_list h
theorem eg:∀c s Q,cP P n c s Q->aw P n c s Q
 | .skip,s,Q,h=>aw.skip h
 | .seq x y,s,Q,h=>aw.seq (aw.mono (eg x s _ h) (AX.XU (λs' h'=>eg y s' Q h') (λ_ _ h=>h)))
 | .cond c x y,s,Q,h=>by
   simp[cP]at h;split at h
   ·rename_i b hb;exact aw.cond hb (λhb=>eg x s Q (h.1 hb)) (λhb=>eg y s Q (h.2 hb))
   ·exact h.elim
 | .block id c,s,Q,h=>aw.block (eg c s _ h)
 | .exit id,s,Q,h=>aw.exit h
 | .ret,s,Q,h=>aw.ret h
 | .region id ops draw,s,Q,h=>by
   simp[cP]at h;split at h
   ·exact h
   ·have:draw=false:=by grind
    subst this;intro fo m a w _ g;exact x5 (bf ops.toList s [] h.1 h.2 fo m w m a w (Step.refl w _) g)
 | .loop c,s,Q,h=>h
 | .rangeFunc ..,s,Q,h=>h
 | .scope c,s,Q,h=>h
 | .label l,s,Q,h=>h
 | .goto l,s,Q,h=>h
 | .refuse _,s,Q,h=>h
end
section
variable {P : Program} {n : Nat} {Q : AX -> St -> Prop}
def rU(P:Program)(ops:Array Oper)(o:Oper)(s:St)(x:V):Prop:=
 ∀fo m (a:Act) w,Inv fo m s.L w->(∀t,t∈o.looksAt ops->az w (OO fo m) m (a.tmps.getD t undef) (s.get t))->
  ∀(next:Act->World->Prop) (Q':Exit->Act->World->Prop),(∀v w',az w' (OO fo m) m v x->Inv fo m s.L w'->Step w (own m) w' (own m)->next (a.put o.dst v) w')->
   if Region.wanted o (yielded ops a.tmps)then o.wpIn (wr fo.r) 0 P a w next Q' else next (a.put o.dst undef) w
theorem vU{s:St}{w fo m}{a:Act}{z:Operand}(hgb:sb w (OO fo m))(h:∀t,z= .tmp t->az w (OO fo m) m (a.tmps.getD t undef) (s.get t)):az w (OO fo m) m (a.eval z) (s.ev z):=by
 cases z with
 | tmp t=>exact h t rfl
 | const v=>
   simp[St.ev];unfold EU;split
   ·rename_i h;exact .d _ _ (.v _ h)
   ·exact .any _
 | global i=>exact Nj hgb i
 | func f=>exact .eW _ _ _ _ _ rfl rfl (by simp) (by simp)
theorem kT{ops}{o:Oper}{t}(h:Operand.tmp t∈o.op.operands):t∈o.looksAt ops:=by
 refine ap9.2 (.inl (aq6.2 ⟨.tmp t,by grind,rfl⟩))
theorem XV{o}{dm}{L}{x}(h:qk P o dm L x){fo}{m}{a}{w}(hi:Inv fo m L w)(hr:∀z,z∈o.op.operands→az w (OO fo m) m (a.eval z) (dm z))
  {next Q'} (k:∀v w',az w' (OO fo m) m v x->Inv fo m L w'->Step w (own m) w' (own m)->next (a.put o.dst v) w'):o.wpIn (wr fo.r) 0 P a w next Q':=by
 rcases h fo m a.eval w hi hr with⟨v,bq,tz⟩|⟨f,args,bq,hc⟩
 ·exact xl bq (.inl rfl) (k v w tz hi (Step.refl w _))
 ·refine yS bq ?_;refine hc.mono ?_;grind
theorem zd{ops o s x}(hg:o.guard=none)(h:qk P o s.ev s.L x):rU P ops o s x:=by
 intro fo m a w hi hs next Q' k
 rw[if_pos (by simp[Region.wanted,hg])];exact XV h hi (λz hz=>vU hi.ef (λt ht=>hs t (kT (by grind)))) k
theorem ze{ops}{o}{s}{x}{b}(lD:gk ops s o=some (some b))
  (h:b=true->∃dm:Operand->V,(∀z,z∈o.op.operands->∀w O m v,az w O m v (s.ev z)->az w O m v (dm z))/\qk P o dm s.L x):rU P ops o s (.gd b x):=by
 intro fo m a w hi hs next Q' k
 have hw:=sf hs lD;cases b with
 | true=>
   obtain⟨dm,h1,h2⟩:=h rfl;rw[if_pos hw];exact XV h2 hi (λz hz=>h1 z hz _ _ _ _ (vU hi.ef (λt ht=>hs t (kT (by grind))))) (λv w' hr=>k v w' (.gt _ _ hr))
 | false=>
   rw[if_neg (by grind)];exact k undef w (.gf _) hi (Step.refl w _)
def uF(P:Program)(ops:Array Oper):List Oper->St->List V->(St->Prop)->Prop
 | [],s,_,K=>K s
 | o::rest,s,us,K=>
   if rT o then
    match x4 P ops s o us with
    | some (s',c,kZ)=>c/\uF P ops rest s' kZ K
    | none=>False
   else
   match E3 P ops s o with
   | some (s',c)=>c/\uF P ops rest s' us K
   | none=>False
inductive Trace(P:Program) (ops:Array Oper):List Oper->St->List (St×V)->St->Prop
 | nil (s:St):Trace P ops [] s [] s
 | cons {o:Oper} {rest:List Oper} {s:St} {x:V} {l:List (St×V)} {s':St} (h:rU P ops o s x) (k:Trace P ops rest (s.put o.dst x) l s'):Trace P ops (o::rest) s ((s,x)::l) s'
theorem qT{ops K}:∀l s us,uF P ops l s us K->∃tr s',Trace P ops l s tr s'/\K s'
 | [],s,us,h=>⟨[],s,.nil s,h⟩
 | o::rest,s,us,h=>by
   rw[uF]at h;split at h
   ·split at h
    ·rename_i s' c kZ ki;obtain⟨tr,s1,h1,h2⟩:=qT rest s' kZ h.2;have hc:=h.1;unfold x4 at ki;split at ki
     ·grind
     ·split at ki
      ·rename_i hg;cases ki;exact⟨_,_,.cons (zd (lB hg) (wS.FY hc)) h1,h2⟩
      ·rename_i g hg;cases ki;exact⟨_,_,.cons (ze hg (λhb=>wT.FY (hc hb))) h1,h2⟩
      grind
    grind
   ·split at h
    ·rename_i s' c hq;obtain⟨tr,s1,h1,h2⟩:=qT rest s' us h.2;have hc:=h.1;unfold E3 at hq;split at hq
     ·rename_i hg;split at hq
      ·rename_i x c' hx;cases hq;exact⟨_,_,.cons (zd (lB hg) (.UA (uD hx hc))) h1,h2⟩
      grind
     ·rename_i b hg;split at hq
      ·cases hq
      ·cases hq;refine⟨_,_,.cons (ze hg (λhb=>?_)) h1,h2⟩;obtain⟨k1,k2⟩:=hc hb;obtain⟨c',h3,h4⟩:=Bp k1;exact⟨_,JU k2,.UA (uD h3 h4)⟩
     grind
    grind
def writes(ops:List Oper)(t:Tmp):Option Nat:=ops.findIdx? λo=>o.dst==some t
def indep(ops:List Oper):Bool:=
 (ops.zipIdx.all λ(o,i)=>
  (match o.dst with|some d=>writes ops d==some i|none=>true) &&
  (o.after.toList.all λe=>!Region.binds .any e||decide (e.on<i)) &&
  ((o.looksAt ops.toArray).all fun t=>match writes ops t with
    | none=>true
    | some j=>if j < i then o.after.toList.any fun e=>Region.binds .any e && e.on==j
      else decide (i<j)&&(match ops[j]? with|some oj=>oj.after.toList.any λe=>Region.binds .any e&&e.on==i|none=>false)))
theorem Trace.len{ops l s s' tr}(h:Trace P ops l s tr s'):tr.length=l.length/\s'.L=s.L:=by
 induction h with
 | nil s=>simp
 | @cons o rest s x l s' h k ih=>
   refine⟨by grind,ih.2.trans ?_⟩;unfold St.put;grind
theorem Trace.at{ops l s s' tr}(h:Trace P ops l s tr s'):∀(i:Nat) si xi,tr[i]?=some (si,xi)->si.L=s.L/\∃o:Oper,l[i]?=some o/\rU P ops o si xi:=by
 induction h with
 | nil s=>simp
 | @cons o rest s x l s' h k ih=>
   intro i si xi hi;cases i with
   | zero=>
     grind
   | succ i=>
     obtain⟨h1,h2⟩:=ih i si xi hi;refine⟨h1.trans ?_,h2⟩;unfold St.put;grind
theorem DF{t d}(h:t≠d):∀l:List (Nat×V),eY t (vS d l)=eY t l
 | []=>rfl
 | (k,x)::l=>by
   rw[vS,eY];split
   ·rename_i hk;subst hk;rw[if_neg (λe=>h e.symm)];exact DF h l
   ·rw[eY,DF h l]
theorem adT{s:St}{o x t}(h:o≠some t):(s.put o x).get t=s.get t:=by
 cases o with
 | none=>rfl
 | some d=>
   have bU:t≠d:=λe=>h (by rw[e])
   simp_all[St.put,St.get,eY,DF]
theorem N8{s:St}{x t}:(s.put (some t) x).get t=x:=by simp[St.put,St.get,eY]
theorem Trace.pg{ops l s s' tr}(h:Trace P ops l s tr s')(t:Nat):∀i si xi,tr[i]?=some (si,xi)->(∀(j:Nat) o,j<i->l[j]?=some o->o.dst≠some t)->si.get t=s.get t:=by
 induction h with
 | nil s=>simp
 | @cons o rest s x l s' h k ih=>
   intro i si xi hi hn;cases i with
   | zero=>
     grind
   | succ i=>
     rw[ih i si xi hi (λj o' hj ho=>hn (j+1) o' (by omega) (by grind)),adT (hn 0 o (by omega) rfl)]
theorem Trace.E5{ops}{l}{s s'}{tr}(h:Trace P ops l s tr s')(t:Nat):∀i j si xi sj xj (o:Oper),tr[i]?=some (si,xi)→j < i→tr[j]?=some (sj,xj)→l[j]?=some o→o.dst=some t→
  (∀(j':Nat) o',j<j'->j'<i->l[j']?=some o'->o'.dst≠some t)->si.get t=xj:=by
 induction h with
 | nil s=>simp
 | @cons o rest s x l s' h k ih=>
   intro i j si xi sj xj o' hi zf hj ho hd hn;cases i with
   | zero=>omega
   | succ i=>
     cases j with
     | zero=>
       rw[k.pg t i si xi hi (λj' o' tO ir=>hn (j'+1) o' (by omega) (by omega) (by grind))];simp_all[N8]
     | succ j=>
       exact ih i j si xi sj xj o' hi (by omega) hj ho hd (λj' mq h1 h2 h3=>hn (j'+1) mq (by omega) (by omega) (by grind))
theorem adU{s:St}{d x p}(h:p∈(s.put d x).fr):(d=some p.1/\x=p.2)\/(p∈s.fr/\d≠some p.1):=by
 cases d with
 | none=>exact .inr ⟨h,by simp⟩
 | some d=>
   simp[St.put]at h;rcases h with rfl|h
   ·simp
   grind[sr,Option.some.inj]
theorem Trace.mem{ops l s s' tr}(h:Trace P ops l s tr s'):∀p,p∈s'.fr->(∃(j:Nat) (o:Oper) (sj:St),l[j]?=some o/\o.dst=some p.1/\tr[j]?=some (sj,p.2))\/(p∈s.fr/\∀(j:Nat) o,l[j]?=some o->o.dst≠some p.1):=by
 induction h with
 | nil s=>simp
 | @cons o rest s x l s' h k ih=>
   intro p hp;rcases ih p hp with⟨j,o',sj,h1,h2,h3⟩|⟨h1,h2⟩
   ·exact .inl ⟨j+1,o',sj,by grind,h2,by grind⟩
   ·rcases adU h1 with⟨hd,hx⟩|⟨h3,h4⟩
    ·exact .inl ⟨0,o,s,rfl,hd,by grind⟩
    grind
theorem ph{ops t j}(h:writes ops t=some j):∃o,ops[j]?=some o/\o.dst=some t:=by
 grind[writes,List.findIdx?_eq_some_iff_getElem,List.getElem?_eq_getElem]
theorem np{ops t}(h:writes ops t=none){j:Nat}{o}(hj:ops[j]?=some o):o.dst≠some t:=by
 grind[writes,List.findIdx?_eq_none_iff,List.mem_of_getElem?]
theorem nq{ops}(h:indep ops=true){i}{o}(hi:ops[i]?=some o):
  (∀d,o.dst=some d->writes ops d=some i)/\(∀e∈o.after,Region.binds .any e=true->e.on<i)/\
  ∀t∈o.looksAt ops.toArray,∀j,writes ops t=some j->(j<i/\∃e∈o.after,Region.binds .any e=true/\e.on=j)\/(i<j/\∃oj,ops[j]?=some oj/\∃e∈oj.after,Region.binds .any e=true/\e.on=i):=by
 unfold indep at h;rw[apR]at h;have hm:(o,i)∈ops.zipIdx:=by
  grind
 have:=h _ hm;simp only[apP,apR]at this;obtain⟨⟨h1,h2⟩,h3⟩:=this;refine⟨?_,?_,?_⟩
 ·grind
 ·grind
 ·intro t ht j hj;have:=h3 t ht;rw[hj]at this;simp only at this;split at this
  ·grind
  ·right;simp only[apP,decide_eq_true_eq]at this;obtain⟨h4,h5⟩:=this;split at h5
   ·rename_i oj fm;rw[art]at h5;grind
   grind
structure Mid(fo:FO) (m:Nat->Option Value) (m0:Nat->Option Value) (w0:World) (n:Nat) (l:List Oper) (s:St) (tr:List (St×V)) (listed:Array Bool) (a:Act) (w:World):Prop where
 size:a.tmps.size=n
 defers:a.defers=fo.D
 inv:Inv fo m s.L w
 step:Step w0 (own m0) w (own m)
 DG:listed.size=l.length
 done:∀(j:Nat) (o:Oper) (sj:St) (xj:V) (d:Nat),l[j]?=some o->tr[j]?=some (sj,xj)->o.dst=some d->listed.getD j false=true->az w (OO fo m) m (a.tmps.getD d undef) xj
 todo:∀t,(∀(j:Nat) (o:Oper),l[j]?=some o->o.dst=some t->listed.getD j false=false)->az w (OO fo m) m (a.tmps.getD t undef) (s.get t)
 rest:∀p,p∈s.fr->(∀(j:Nat) (o:Oper),l[j]?=some o->o.dst≠some p.1)->az w (OO fo m) m (a.tmps.getD p.1 undef) p.2
 closed:∀(j:Nat) (o:Oper),l[j]?=some o->listed.getD j false=true->∀e∈o.after,Region.binds .any e=true->listed.getD e.on false=true
theorem qU{listed:Array Bool}{i b c}(h:i<listed.size):listed.getD i b=listed.getD i c:=by grind
theorem wU{R:Exit→Act→World→Prop}{l:List Oper}{s s':St}{tr:List (St×V)}(ht:Trace P l.toArray l s tr s')(cO:indep l=true)(hd:dB n l=true){fo:FO}{m m0:Nat→Option Value}{w0:World}
  (ajh:∀a w,G fo n m s' a w->Step w0 (own m0) w (own m)->R .normal a w)
  (ia:∀p,p∈s.fr->p.1<n):
  ∀(fuel:Nat) (listed:Array Bool) (un:List Nat) (a:Act) (w:World),un.length<=fuel->(∀i,i<l.length->listed.getD i false=false->i∈un)->
   Mid fo m m0 w0 n l s tr listed a w->wpAnyIn (wr fo.r) 0 P .any l.toArray R fuel listed a w:=by
 have N9:∀(i:Nat) (o:Oper) (d:Nat),l[i]?=some o->o.dst=some d->d<n:=by
  intro i o d hi ho;unfold dB at hd;rw[apR]at hd;have:=hd o (apT hi);rw[ho]at this;simpa using this
 obtain⟨hlen,hL⟩:=ht.len;have Ik:∀i:Nat,i<l.length->∃(si:St) (xi:V),tr[i]?=some (si,xi):=by
  intro i hi;exact⟨_,_,anc (by omega)⟩
 have fin:∀(listed:Array Bool) (a:Act) (w:World),(∀i,i<l.length->listed.getD i false=true)->Mid fo m m0 w0 n l s tr listed a w->R .normal a w:=by
  intro listed a w bQ M;refine ajh a w ⟨M.size,?_,by rw[hL];exact M.inv,M.defers⟩ M.step;intro t x hx;rcases ht.mem (t,x) hx with⟨j,o,sj,h1,h2,h3⟩|⟨h1,h2⟩
  ·exact⟨N9 j o t h1 h2,M.done j o sj x t h1 h3 h2 (bQ j (apQ.1 h1).1)⟩
  ·exact⟨ia _ h1,M.rest _ h1 h2⟩
 have DH:∀(listed:Array Bool),listed.size=l.length→(∀(j:Nat) (o:Oper),l[j]?=some o→listed.getD j false=true→∀e∈o.after,Region.binds .any e=true→listed.getD e.on false=true)→
   Region.ready .any l.toArray listed=[]->∀i,i<l.length->listed.getD i false=true:=by
  intro listed dW _ hr i
  induction i using Nat.strongRecOn with
  | _ i ih=>
    intro hi;cases hb:listed.getD i false with
    | true=>rfl
    | false=>
      exfalso;have gA:i∈Region.ready .any l.toArray listed:=by
       refine mem_ready.2 ⟨by rw[qU (c:=false) (by omega)];exact hb,l[i],by simp[hi],λe he iY=>?_⟩;have:=(nq cO (anc hi)).2.1 e he iY;exact ih e.on this (by omega)
      rw[hr]at gA;cases gA
 intro fuel
 induction fuel with
 | zero=>
   intro listed un a w hun bQ M;have h0:∀i,i<l.length->listed.getD i false=true:=by
    intro i hi;cases hb:listed.getD i false with
    | true=>rfl
    | false=>have h9:=bQ i hi hb;have h8:un=[]:=aqH (by omega);rw[h8]at h9;cases h9
   refine⟨?_,fin listed a w h0 M⟩;rw[aq1];intro j hj;obtain⟨h1,o,h2,_⟩:=mem_ready.1 hj;have Ie:j<l.length:=by have:=(ap6.1 h2).1;simpa using this
   rw[qU (c:=false) (by have:=M.DG;omega)]at h1;rw[h0 j Ie]at h1;cases h1
 | succ fuel ih=>
   intro listed un a w hun bQ M;refine⟨λhr=>fin listed a w (DH listed M.DG M.closed hr) M,?_⟩;intro i hi;obtain⟨h1,o,h2,h3⟩:=mem_ready.1 hi;have kF:i<l.length:=by have:=(ap6.1 h2).1;simpa using this
   have s4:l[i]?=some o:=by simpa using h2
   rw[qU (c:=false) (by have:=M.DG;omega)]at h1;obtain⟨si,xi,rI⟩:=Ik i kF;obtain⟨hsL,o',ir,hy⟩:=ht.at i si xi rI;rw[s4]at ir;obtain rfl:=apO ir;obtain⟨i1,i2,i3⟩:=nq cO s4;have uniq:∀(t:Nat) (j:Nat) (mq:Oper),l[j]?=some mq->mq.dst=some t->writes l t=some j:=λt j mq hj hd=>(nq cO hj).1 t hd
   have Oa:∀t,t∈o.looksAt l.toArray->az w (OO fo m) m (a.tmps.getD t undef) (si.get t):=by
    intro t AI;cases hw:writes l t with
    | none=>
      rw[ht.pg t i si xi rI (λj mq _ hj=>np hw hj)];exact M.todo t (λj mq hj hd=>(np hw hj hd).elim)
    | some j=>
      obtain⟨oj,fm,lV⟩:=ph hw;obtain⟨sj,xj,lW⟩:=Ik j (apQ.1 fm).1;rcases i3 t AI j hw with⟨ay,e,he,hb,iu⟩|⟨ay,oj',DI,e,he,hb,iu⟩
      ·rw[ht.E5 t i j si xi sj xj oj rI ay lW fm lV (λj' mq zg _ tO ux=>by
        have:=uniq t j' mq tO ux;rw[hw]at this;have:=apO this;omega)]
       exact M.done j oj sj xj t fm lW lV (by rw[<-iu];exact h3 e he hb)
      ·rw[ht.pg t i si xi rI (λj' mq tO aji ux=>by
        have:=uniq t j' mq aji ux;rw[hw]at this;have:=apO this;omega)]
       refine M.todo t (λj' mq tO ux=>?_);have:=uniq t j' mq tO ux;rw[hw]at this;obtain rfl:=apO this;cases de:listed.getD j false with
       | false=>rfl
       | true=>
         rw[fm]at DI;obtain rfl:=apO DI;have:=M.closed j oj fm de e he hb;rw[iu,h1]at this;cases this
   have bq:=hy fo m a w (by rw[hsL];exact M.inv) Oa (wpAnyIn (wr fo.r) 0 P .any l.toArray R fuel (listed.setIfInBounds i true)) R (λv w' hr ck st=>by
    rw[hsL]at ck;have cN:bK w (OO fo m) w':=⟨st.size,λb hb ho=>st.block b hb (λh=>ho (.inl h))⟩
    have mono:∀{v:Value} {x:V},az w (OO fo m) m v x->az w' (OO fo m) m v x:=λh=>h.mono cN (λ_ _ h=>h) (λ_ _ h=>h)
    have bU:∀t,o.dst≠some t->(a.put o.dst v).tmps.getD t undef=a.tmps.getD t undef:=by
     intro t hn;cases vB:o.dst with
     | none=>rfl
     | some d=>
       have:d≠t:=λe=>hn (by rw[vB,e])
       simp[Act.put,aqU this]
    have nr:∀j,(listed.setIfInBounds i true).getD j false=true↔(j=i\/listed.getD j false=true):=by
     intro j;by_cases hj:j=i
     ·subst hj;have hjs:j<listed.size:=by have:=M.DG;omega
      simp[Array.getD,hjs]
     ·have:¬i=j:=λe=>hj e.symm
      simp only[aqN,aqU this,hj,false_or]
    refine ih (listed.setIfInBounds i true) (un.erase i) (a.put o.dst v) w' ?_ ?_ ?_
    ·have gA:=bQ i kF h1;rw[ar4 gA];omega
    ·intro j hj hb;have Ob:¬((listed.setIfInBounds i true).getD j false=true):=by rw[hb];simp
     rw[nr]at Ob;have zf:j≠i:=λe=>Ob (.inl e)
     have pP:listed.getD j false=false:=by
      cases hx:listed.getD j false with
      | false=>rfl
      | true=>exact(Ob (.inr hx)).elim
     exact(List.mem_erase_of_ne zf).2 (bQ j hj pP)
    ·refine⟨?_,?_,ck,M.step.trans st,by simpa using M.DG,?_,?_,?_,?_⟩
     ·cases vB:o.dst<;>simp[Act.put,M.size]
     ·cases vB:o.dst<;>simp[Act.put,M.defers]
     ·intro j oj sj xj d fm lW lV hb;by_cases zf:j=i
      ·subst zf;rw[s4]at fm;obtain rfl:=apO fm;rw[rI]at lW;obtain⟨rfl,rfl⟩:=Prod.mk.inj (apO lW);have FZ:=N9 j o d s4 lV;have:(a.put o.dst v).tmps.getD d undef=v:=by
        have dW:=M.size;rw[lV];simp[Act.put,Array.getD,dW,FZ]
       rw[this];exact hr
      ·have kg:o.dst≠some d:=by
        intro e;have q1:=uniq d i o s4 e;have q2:=uniq d j oj fm lV;rw[q1]at q2;exact zf (apO q2).symm
       rw[bU d kg];exact mono (M.done j oj sj xj d fm lW lV (((nr j).1 hb).resolve_left zf))
     ·intro t Il;have kg:o.dst≠some t:=by
       intro e;have:=Il i o s4 e;have h4:=(nr i).2 (.inl rfl);rw[this]at h4;cases h4
      rw[bU t kg];refine mono (M.todo t (λj oj fm lV=>?_));have:=Il j oj fm lV;cases hx:listed.getD j false with
      | false=>rfl
      | true=>have h4:=(nr j).2 (.inr hx);rw[this]at h4;cases h4
     ·intro p hp FL;rw[bU p.1 (FL i o s4)];exact mono (M.rest p hp FL)
     ·intro j oj fm hb e he iY;rw[nr];rcases(nr j).1 hb with rfl|de
      ·rw[s4]at fm;obtain rfl:=apO fm;exact .inr (h3 e he iY)
      ·exact .inr (M.closed j oj fm de e he iY))
   unfold wpOpIn;rw[h2];simp only;split
   ·rename_i hw;rw[if_pos hw]at bq;exact bq
   ·rename_i hw;rw[if_neg hw]at bq;exact⟨λ_ _=>trivial,bq⟩
theorem zh{fo:FO}{m:Nat->Option Value}{l:List Oper}{s:St}{tr:List (St×V)}{a:Act}{w:World}(g:G fo n m s a w)(k:Nat):Mid fo m m w n l s tr (Array.replicate l.toArray.size false) a {w with drawn:=k}:=by
 have st:Step w (own m) {w with drawn:=k} (own m):=⟨rfl,rfl,rfl,apU _,λ_ _ _=>rfl,λ_ _ h=>h⟩
 have mono:∀{v:Value} {x:V},az w (OO fo m) m v x->az {w with drawn:=k} (OO fo m) m v x:=λh=>h.mono st.rH (λ_ _ h=>h) (λ_ _ h=>h)
 refine⟨g.size,g.defers,g.inv.grown (apU _) (λ_ _=>rfl),st,by simp,?_,λt _=>mono (qP g t),λp hp _=>mono (g.fr p.1 p.2 hp).2,?_⟩
 ·intro j o sj xj d _ _ _ hb;have:(Array.replicate l.toArray.size false).getD j false=false:=by simp[Array.getD]
  rw[this]at hb;cases hb
 ·intro j o _ hb;have:(Array.replicate l.toArray.size false).getD j false=false:=by simp[Array.getD]
  rw[this]at hb;cases hb
theorem aw.cV{id:Nat}{l:List Oper}{s:St}(us:List V)(hm:P.follows .mixedOrders=true)(cO:indep l=true)(hd:dB n l=true)(h:uF P l.toArray l s us (Q .normal)):aw P n (.region id l.toArray true) s Q:=by
 intro fo m a w _ g;obtain⟨tr,s',ht,hq⟩:=qT l s us h;exact wpIn_region_any hm (wU ht cO hd (λa1 w1 g1 st=> .of m .normal s' hq g1 trivial st) (λp hp=>(g.fr p.1 p.2 hp).1) l.length _ (List.range l.length) a _ (by simp) (λi hi _=>by simpa using hi) (zh g _))
end
attribute [simp] eN uF x4 E3 fO gk q2 q1 EW wH HO wI HP Ub unV Uc MV GD C0 Ud EX Ao AH DB sw Us mH ME.val T8 QK aaw aax aay Ih u4 kO mR gD JV DE sZ St.N3 N1 St.rem JS JT HW Dj Up EZ JJ Un MX HZ Uo GO MW HV N0 gU Uy Uz HS tI putAt E0 H0 MZ qQ M0 Bk GJ
 St.put St.get St.ev EU V.cl V.un V.CC nQ Op.operands Call.operands eH keys aH.jK V.kill V.dR aV.kill St.kill AX.then AX.inBlock KK dB rT fj u5 aaW Bq kz jE Nn V.on V.dA aV.on St.on
 Value.oneCell' callee Bs wS wT oW List.lookup eY vS
@[simp] theorem ahD h(l:List D):V.dR h (l.map V.d)=l.map V.d:=JH h l
@[simp] theorem afC h ys:(dd ys).map (V.dR h)=dd ys:=adJ h ys
@[simp] theorem ajj ks(l:List D):V.dA ks (l.map V.d)=true:=E4 ks l
@[simp] theorem ahE ks ys:(dd ys).all (V.dA ks)=true:=ahC ks ys
@[simp] theorem aiE ys:(dd ys).length=ys.length:=by simp[dd]
@[simp] theorem aiF xs ys:dd xs++dd ys=dd (xs++ys):=by simp[dd]
@[simp] theorem alh:dd []=[]:=rfl
@[simp] theorem Od ys(i:Nat):(dd ys)[i]?=ys[i]?.map (·.map V.d):=by simp[dd]
@[simp] theorem akB ys i:(dd ys).take i=dd (ys.take i):=by simp[dd]
def aD(l:List Int):List (List D):=l.map λn=> [.v (.int .i64 n)]
@[simp] theorem ag6 l:(aD l).length=l.length:=by simp[aD]
@[simp] theorem aaX l(i:Nat):(aD l)[i]?=l[i]?.map λn=> [.v (.int .i64 n)]:=by simp[aD]
@[simp] theorem ag7 a b:aD a++aD b=aD (a++b):=by simp[aD]
@[simp] theorem ag8 l i:cellAt (dd (aD l)) i 0 [V.d (D.v (.int .i64 0))]=V.d (D.v (.int .i64 (l[i]?.getD 0))):=by
 unfold cellAt;rw[Od,aaX];cases l[i]?<;>rfl
def ajk(l:List Bool):List (List D):=l.map λb=> [.v (.bool b)]
@[simp] theorem ajl:ajk []=[]:=rfl
def iI(l:List ByteArray):List (List D):=l.map λs=> [.v (.string s)]
@[simp] theorem ag9 l:(iI l).length=l.length:=by simp[iI]
@[simp] theorem ajm l(i:Nat):(iI l)[i]?=l[i]?.map λb=> [.v (.string b)]:=by simp[iI]
@[simp] theorem ajn:iI []=[]:=rfl
@[simp] theorem aiG l v:dd (iI l)++ [[.d (.v (.string v))]]=dd (iI (l++ [v])):=by
 simp[dd,iI]
def oF{α:Type}(g:List α->List (List D))(l:List (List α)):List (List D):=l.map λy=> [.sl (g y)]
section
variable {α : Type} {g : List α -> List (List D)}
@[simp] theorem afD l:(oF g l).length=l.length:=by simp[oF]
@[simp] theorem aiH l(i:Nat):(oF g l)[i]?=l[i]?.map λy=> [.sl (g y)]:=by simp[oF]
@[simp] theorem aiI:oF g []=[]:=rfl
end
@[simp] theorem ajo:aD []=[]:=rfl
@[simp] theorem aiJ l i:(aD l).drop i=aD (l.drop i):=by simp[aD]
@[simp] theorem aiK l i:(aD l).take i=aD (l.take i):=by simp[aD]
@[simp] theorem akD(a b:Int):(a==b)=decide (a=b):=rfl
theorem Oe(a b:ByteArray):a.toList=b.toList↔a=b:=by
 constructor
 ·intro h;rw[ByteArray.toList_eq,ByteArray.toList_eq]at h;cases a;cases b;simpa using h
 ·intro h;rw[h]
theorem bytes_beq(a b:ByteArray):(a.toList==b.toList)=decide (a=b):=by
 rw[arv];simp[Oe]
theorem aR{n}:aN .i64 n↔ -9223372036854775808<=n/\n<=9223372036854775807:=by
 rfl
theorem iW{x:Int}(h: -9223372036854775808<=x/\x<=9223372036854775807:=by omega):aN .i64 x:=aR.2 h
end Go.Ab
namespace Go.Ab
def tP:List V->Option (List D)
 | []=>some []
 | .d x::l=>match tP l with
   | some r=>some (x::r)
   | none=>none
 | _::_=>none
def Bt:List (List V)->Option (List (List D))
 | []=>some []
 | x::l=>match tP x,Bt l with
   | some y,some r=>some (y::r)
   | _,_=>none
@[simp] theorem akE l:tP (l.map V.d)=some l:=by
 induction l with
 | nil=>rfl
 | cons x l ih=>simp[tP,ih]
@[simp] theorem akF ys:Bt (dd ys)=some ys:=by
 induction ys with
 | nil=>rfl
 | cons x l ih=>simp[dd,Bt];rw[show List.map (λx=>List.map V.d x) l=dd l from rfl,ih]
theorem XW:∀{l r},tP l=some r->l=r.map V.d
 | [],r,h=>by simp_all[tP]
 | .d x::l,r,h=>by
   rw[tP]at h;split at h
   ·rename_i r' hr;simp at h;subst h;rw[XW hr];rfl
   ·cases h
 | .bp _ _::_,_,h=>by grind[tP]
 | .rv _::_,_,h=>by grind[tP]
 | .ep _ _ _ _::_,_,h=>by grind[tP]
 | .rp _::_,_,h=>by grind[tP]
 | .sv _ _::_,_,h=>by grind[tP]
 | .eW _ _ _::_,_,h=>by grind[tP]
 | .agg _::_,_,h=>by grind[tP]
 | .bM _::_,_,h=>by grind[tP]
 | .gd _ _::_,_,h=>by grind[tP]
 | .any::_,_,h=>by grind[tP]
 | .kn _::_,_,h=>by grind[tP]
theorem JW:∀{l r},Bt l=some r->l=dd r
 | [],r,h=>by simp[Bt]at h;subst h;rfl
 | x::l,r,h=>by
   rw[Bt]at h;split at h
   ·rename_i y r' hy hr;simp at h;subst h;rw[XW hy,JW hr];rfl
   ·cases h
def Im(L:aH):V->Option D
 | .d (.v (.slice none 0 0))=>some (.sl [])
 | .d x=>some x
 | .rv h=>match L.lookup h with
   | some (.row _ _ xs)=>match Bt xs with
     | some ys=>some (.sl ys)
     | none=>none
   | _=>none
 | _=>none
def x6(L:aH):List V->Option (List D)
 | []=>some []
 | x::l=>match Im L x,x6 L l with
   | some y,some r=>some (y::r)
   | _,_=>none
theorem Io{L}:∀{l r},x6 L l=some r->l.length=r.length/\∀(j:Nat) d,r[j]?=some d->∃y,l[j]?=some y/\Im L y=some d
 | [],r,h=>by simp_all[x6]
 | x::l,r,h=>by
   rw[x6]at h;split at h
   ·rename_i y r' hy hr;obtain⟨h1,h2⟩:=Io hr;grind
   grind
mutual
def V.fz(L:aH):V->V
 | .d (.v (.slice none 0 0))=> .d (.sl [])
 | .rv h=>match L.lookup h with
   | some (.row _ _ xs)=>match Bt xs with
     | some ys=> .d (.sl ys)
     | none=> .any
   | _=> .any
 | .bp h off=>match L.lookup h with
   | some (.box _ _ cs)=>match x6 L cs with
     | some ds=> .rp (ds.drop off)
     | none=> .any
   | _=> .any
 | .sv _ _=> .any
 | .eW fn f c=> .eW fn (V.mv L f) (V.mv L c)
 | .agg cs=> .agg (V.mv L cs)
 | .bM cs=> .bM (V.mv L cs)
 | x=>x
def V.mv(L:aH):List V->List V
 | []=> []
 | x::l=>V.fz L x::V.mv L l
end
section
variable {P : Program} {w w' : World} {fo : FO} {m m' : Nat -> Option Value} {L : aH} {n : Nat} {s : St} {a : Act} {Q : AX -> St -> Prop}
theorem uG{L}:∀l (j:Nat),(V.mv L l)[j]?=l[j]?.map (V.fz L)
 | [],j=>by rfl
 | x::l,0=>by rfl
 | x::l,j+1=>by simp[V.mv,uG]
theorem uH{L}:∀l,(V.mv L l).length=l.length
 | []=>by rfl
 | x::l=>by simp[V.mv,uH l]
theorem xm{O}:eX w O (.slice none 0 0) (.sl []):= .sl none 0 0 [] 0 0 0 (λ_ _=>undef) rfl (by omega) (by simp) (by omega) (by simp) (by omega) (by simp)
theorem Of(hi:Inv fo m L w){h k ty ys}(hl:L.lookup h=some (.row ty k (dd ys))){v}(hv:m h=some v):eX w fo v (.sl ys):=by
 obtain⟨x,hx,hh⟩:=hi.holds h _ (dD hl);rw[hv]at hx;obtain rfl:=apO hx;rcases hh with⟨rfl,hy⟩|⟨b,off,cap,cur,rfl,hb,h1,h2,h3,h4,h5,h6⟩
 ·simp_all[dd,xm]
 ·have hlen:(dd ys).length=ys.length:=by simp[dd]
  rw[hlen]at h1⊢;have ke:∀(i:Nat) (x:List D),ys[i]?=some x->(dd ys)[i]?=some (x.map V.d):=by
   simp_all[dd]
  have Ip:∀(i:Nat) (x:List D),ys[i]?=some x->x.length=k:=by
   grind
  have iY:∀i j,i<ys.length->j<k->off+i *k+j<cur.size:=by
   intro i j hi hj;have:(i+1) *k<=cap *k:=aqb _ (by omega);grind
  refine .sl (some ⟨b,off,none⟩) ys.length cap ys k b off (λi j=>cur.getD (off+i *k+j) undef) rfl h1 h2 (λ_=>⟨rfl,hi.others h _ b hv rfl,(ap6.1 hb).1⟩) Ip ?_ ?_
  ·simp_all[World.cell?,Array.getD]
  ·intro i j x y hx hy;have hj:j<k:=by grind
   have kF:=(apQ.1 hx).1;have ay:=iY i j kF hj;have:=h6 i j _ (.d y) (cur[off+i *k+j]) (ke i x hx) (by grind) (aqf ay);have h7:=this.lg;have e:cur.getD (off+i *k+j) undef=cur[off+i *k+j]:=by simp_all
   rw[e];exact h7.mono (bK.refl w _) (λb _ hb=> .inr hb)
theorem XX(hi:Inv fo m L w){v y d}(h:az w (OO fo m) m v y)(hd:Im L y=some d):eX w fo v d:=by
 unfold Im at hd;split at hd
 ·have:=h.cq;grind[Option.some.injEq,xm]
 ·simp at hd;subst hd;exact h.lg.mono (bK.refl w _) (λb _ hb=> .inr hb)
 ·split at hd
  ·rename_i ty k xs hl;split at hd
   ·rename_i ys vt;rw[JW vt]at hl;cases h with
    | rv _ _ e _=>grind[Of]
   grind
  grind
 grind
theorem aaY(hi:Inv fo m L w){h off b0}{ty}{cs}{ds}(hl:L.lookup h=some (.box b0 ty cs))(hd:x6 L cs=some ds){b}(hv:m h=some (.pointer (some ⟨b,0,none⟩))):
  az w fo fk (.pointer (some ⟨b,off,none⟩)) (.rp (ds.drop off)):=by
 obtain⟨x,hx,bb,_,cur,rfl,hb,hs,h1,h2⟩:=hi.holds h _ (dD hl);rw[hv]at hx;cases hx;obtain⟨k1,k2⟩:=Io hd;refine .rp b off _ (λj=>cur.getD (off+j) undef) (hi.others h _ b hv rfl) (ap6.1 hb).1 (λj hj=>?_) (λj y hy=>?_)
 ·have ay:off+j<cur.size:=by grind
  simp_all[World.cell?]
 ·rw[aqO]at hy;obtain⟨z,hz,hzd⟩:=k2 _ _ hy;have ay:off+j<cur.size:=by grind
  have:=XX hi (h2 (off+j) _ z (aqf ay) hz) hzd;simpa[Array.getD,ay]using this
theorem Og(hi:Inv fo m L w){v y}(h:az w (OO fo m) m v y):(y.fz L).on []=true->az w fo fk v (y.fz L):=by
 have hD:∀{x:Value} {d:D},eX w (OO fo m) x d->eX w fo x d:=λh=>h.mono (bK.refl w _) (λb _ hb=> .inr hb)
 induction h with
 | d x y h=>
   intro _;unfold V.fz;split
   ·rename_i heq;cases heq;cases h;exact .d _ _ xm
   ·grind
   ·grind
   ·grind
   ·grind
   ·grind
   ·grind
   ·exact .d _ _ (hD h)
 | bp h off b e=>
   intro _;simp only[V.fz];split
   ·rename_i b0 ty cs hl;split
    ·grind[aaY]
    ·exact .any _
   ·exact .any _
 | rv h x e e1=>
   intro _;simp only[V.fz];split
   ·rename_i ty k xs hl;split
    ·rename_i ys vt;rw[JW vt]at hl;exact .d _ _ (Of hi hl e)
    ·exact .any _
   ·exact .any _
 | ep h k i j b o n c e=>simp[V.fz,V.on]
 | rp b off cs f hb ay hc hr=>intro _;simp only[V.fz];exact .rp b off cs f (λhf=>hb (.inr hf)) ay hc (λj y hy=>hD (hr j y hy))
 | sv h n b cap e hc hx=>intro _;simp only[V.fz];exact .any _
 | eW fn first eh cf cc s1 s2 h1 h2 CY FH=>
   intro ho;simp only[V.fz,V.on,apP]at ho⊢;refine .eW fn first eh _ _ (by simp_all[uH]) (by simp_all[uH]) ?_ ?_
   ·intro j x y hx hy;have Oh:=fP ho.1 y (apT hy);rw[uG]at hy;grind
   ·intro j x y hx hy;have Oh:=fP ho.2 y (apT hy);rw[uG]at hy;grind
 | agg vs cs hs h1 h ih=>
   intro ho;refine .agg vs _ (by simp_all[uH]) h1 ?_;intro j x y hx hy;have Oh:=fP ho y (apT hy);rw[uG]at hy;grind
 | bM vs cs hs h ih=>
   intro ho;refine .bM vs _ (by simp_all[uH]) ?_;intro j x y hx hy;have Oh:=fP ho y (apT hy);rw[uG]at hy;grind
 | gt x y h ih=>
   intro ho;simp only[V.fz,V.on]at ho⊢;exact(az.on (ks:=[]) (m':=fk) (by simp) (.gt x y h) (by simp_all[V.on])).mono (bK.refl w _) (λb _ hb=> .inr hb) (λ_ _ e=>e)
 | gf y=>intro _;simp only[V.fz];exact .gf y
 | kn x Q h=>intro _;simp only[V.fz];exact .kn x Q h
 | any x=>intro _;simp only[V.fz];exact .any x
theorem aE.data{f args L x}(h:aE P f args L (λr L'=>∃y,r= .ret y/\y.fz L'=x))(hx:x.on []=true):aE P f args L (λr L'=>r= .ret x/\L'=[]):=by
 intro fo m w xs hi hr;refine(h fo m w xs hi hr).mono ?_;rintro e w' ⟨m1,r,L1,⟨y,rfl,rfl⟩,he,ck,st⟩;cases e with
 | returned v=>
   refine⟨fk,.ret (y.fz L1),[],⟨rfl,rfl⟩,?_,ck.none_ (λb hb=> .inr hb),⟨st.os,st.tape,st.output,st.size,st.block,λb _ hb=>(gE b hb).elim⟩⟩;exact(Og ck he hx).mono (bK.refl w' _) (λb _ hb=>hb.elim (λh=>(gE b h).elim) id) (λ_ _ e=>e)
 | panicked ch=>simp_all[Ends]
 | outgrown=>simp_all[Ends]
mutual
def V.nS:V->Bool
 | .d (.v _)=>true
 | .agg cs=>V.E6 cs
 | .bM cs=>V.E6 cs
 | _=>false
def V.E6:List V->Bool
 | []=>true
 | x::l=>V.nS x&&V.E6 l
end
theorem DJ:∀{l},V.E6 l=true->∀x∈l,V.nS x=true
 | [],_,x,h=>by cases h
 | y::l,h,x,hx=>by
   simp[V.E6]at h;rcases ap8.1 hx with rfl|hx
   ·grind
   ·exact DJ h.2 x hx
theorem Oi{O O' v y}(h:az w O m v y):y.nS=true->az w' O' m' v y:=by
 induction h with
 | d x y h=>
   intro hs;cases y with
   | v u=>cases h with|v _ h1=>exact .d _ _ (.v _ h1)
   | sl xs=>grind[V.nS]
   | uu t ag cs=>grind[V.nS]
 | bp h off b e=>simp[V.nS]
 | rv h x e e1=>simp[V.nS]
 | ep h k i j b o n c e=>simp[V.nS]
 | rp b off cs f hb ay hc hr=>simp[V.nS]
 | sv h n b cap e hc hx=>simp[V.nS]
 | eW fn first eh cf cc s1 s2 h1 h2 CY FH=>simp[V.nS]
 | agg vs cs hs h1 h ih=>
   intro hsc;exact .agg vs cs hs h1 (λj x y hx hy=>ih j x y hx hy (DJ hsc y (apT hy)))
 | bM vs cs hs h ih=>
   intro hsc;exact .bM vs cs hs (λj x y hx hy=>ih j x y hx hy (DJ hsc y (apT hy)))
 | gt x y h ih=>simp[V.nS]
 | gf y=>simp[V.nS]
 | kn x Q h=>simp[V.nS]
 | any x=>simp[V.nS]
theorem qk.ajp{o}{c}{dm}{f}{args}{x}(aP:o.op= .call c)(hc:callee dm c=some (f,args))(he:enters P f=true)(ho:V.dA [] (V.mv L args)=true)(hx:x.nS=true)
  (h:aE P f (V.mv L args) [] (λr _=>r= .ret x)):qk P o dm L x:=by
 intro fo m ρ w hi hr;obtain⟨xs,h1,h2⟩:=pe aP hc he hr;refine .inr ⟨f,xs,h1,?_⟩;have fC:iA w (OO fo fk) fk xs (V.mv L args):=by
  refine⟨by rw[uH];exact h2.1,λj v y hv hy=>?_⟩;have Oh:=fP ho y (apT hy);rw[uG]at hy;obtain⟨z,hz,rfl⟩:=apN.1 hy;exact(Og hi (h2.2 j v z hv hz) Oh).mono (bK.refl w _) (λb _ hb=>hb.elim (λh=>(gE b h).elim) id) (λ_ _ e=>e)
 refine(h fo fk w xs (hi.none_ λb hb=> .inr hb) fC).mono ?_;rintro e w' ⟨m1,r,L',rfl,kD,ck,st⟩;cases e with
 | returned v=>
   exact⟨v,rfl,Oi kD hx,hi.grown st.size (λb hb=>st.block b hb (gE b)),⟨st.os,st.tape,st.output,st.size,λb hb _=>st.block b hb (gE b),λb hb h=>h⟩⟩
 | panicked ch=>simp_all[Ends]
 | outgrown=>simp_all[Ends]
theorem frame{L L1 L2:aH}{fo:FO}{m:Nat→Option Value}{w:World}(hi:Inv fo m L w)(hL:L.Perm (L1++L2))(iu:L1.all (fun p=>aV.on (keys L1) p.2)=true)
  (ja:∀p∈L2,aV.on (keys L2++(L1.filterMap λp=>match p.2 with|.box (_+1) _ _=>some p.1|_=>none)) p.2=true):
  ∃(gT:FO) (m1:Nat->Option Value),(∀b,OO gT m1 b↔OO fo m b)/\(∀h x,h∈keys L1->m h=some x->m1 h=some x)/\Inv gT m1 L1 w/\
   ∀(w':World) (uy:Nat->Option Value) (bh:aH),Inv gT uy bh w'->Step w (own m1) w' (own uy)->(∀k∈keys bh,k∉keys L2)->(∀k b ty cs,(k,aV.box (b+1) ty cs)∈L1->∃mw jL,(k,aV.box (b+1) mw jL)∈bh)->
    ∃mm:Nat->Option Value,Inv fo mm (bh++L2) w'/\Step w (own m) w' (own mm)/\(∀h y,uy h=some y->mm h=some y)/\(∀b,OO fo mm b↔OO gT uy b)/\
     (∀h y,h∈keys L2++(L1.filterMap λp=>match p.2 with|.box (_+1) _ _=>some p.1|_=>none)->m h=some y->mm h=some y)/\bK w (OO fo m) w'/\(∀b,b<w.heap.size->OO fo mm b->OO fo m b):=by
 classical
 have pK:∀x,x∈keys L↔x∈keys L1\/x∈keys L2:=by
  intro x;have:(keys L).Perm (keys (L1++L2)):=hL.map _;rw[this.mem_iff];simp[keys]
 have kg:(keys L1).Nodup/\(keys L2).Nodup/\∀x,x∈keys L1->x∉keys L2:=by
  have hp:(keys L).Perm (keys L1++keys L2):=by simpa[keys]using hL.map (·.1)
  have:=hp.nodup_iff.1 hi.nodup;rw[ary]at this;exact⟨this.1,this.2.1,λx h1 h2=>this.2.2 x h1 x h2 rfl⟩
 let m1:Nat->Option Value:=λh=>if h∈keys L1 then m h else none
 let m2:Nat->Option Value:=λh=>if h∈keys L2 then m h else none
 have mx:∀h x,m1 h=some x->m h=some x/\h∈keys L1:=by
  intro h x hx;by_cases hh:h∈keys L1
  ·simp only[m1,if_pos hh]at hx;exact⟨hx,hh⟩
  ·simp only[m1,if_neg hh]at hx;cases hx
 have tB:∀h x,m2 h=some x->m h=some x/\h∈keys L2:=by
  intro h x hx;by_cases hh:h∈keys L2
  ·simp only[m2,if_pos hh]at hx;exact⟨hx,hh⟩
  ·simp only[m2,if_neg hh]at hx;cases hx
 have oG:∀h x,h∈keys L1->m h=some x->m1 h=some x:=λh x hh hx=>by simp only[m1,if_pos hh];exact hx
 have aaZ:∀h x,h∈keys L2->m h=some x->m2 h=some x:=λh x hh hx=>by simp only[m2,if_pos hh];exact hx
 let gT:FO:=λb=>fo b\/own m2 b
 have fb:∀b,own m b↔own m1 b\/own m2 b:=by
  intro b;constructor
  ·rintro⟨h,x,hx,hb⟩;rcases(pK h).1 (hi.fI h x hx)with hh|hh
   ·exact .inl ⟨h,x,oG h x hh hx,hb⟩
   ·exact .inr ⟨h,x,aaZ h x hh hx,hb⟩
  ·rintro(⟨h,x,hx,hb⟩|⟨h,x,hx,hb⟩)
   ·exact⟨h,x,(mx h x hx).1,hb⟩
   ·exact⟨h,x,(tB h x hx).1,hb⟩
 have oY:∀b,OO gT m1 b↔OO fo m b:=by
  intro b;unfold OO;rw[fb b];constructor
  ·rintro(h|h|h)
   ·exact .inl (.inl h)
   ·exact .inr h
   ·exact .inl (.inr h)
  ·rintro((h|h)|h)
   ·exact .inl h
   ·exact .inr (.inr h)
   ·exact .inr (.inl h)
 have qm:Inv gT m1 L1 w:=by
  refine⟨kg.1,λh x hx=>(mx h x hx).2,?_,?_,?_,?_,hi.ef.mono (bK.refl w _) (λb _ hb=>(oY b).1 hb)⟩
  ·intro h h' x x' b hx cy hb de;exact hi.apart h h' x x' b (mx h x hx).1 (mx h' x' cy).1 hb de
  ·rintro h x b hx hb (hf|⟨h',x',cy,de⟩)
   ·exact hi.others h x b (mx h x hx).1 hb hf
   ·have:=hi.apart h h' x x' b (mx h x hx).1 (tB h' x' cy).1 hb de;subst this;exact kg.2.2 h (mx h x hx).2 (tB h x' cy).2
  ·rintro b (hf|⟨h',x',cy,de⟩)
   ·exact hi.ei b hf
   ·exact hi.lt (tB h' x' cy).1 de
  ·intro h r hr;obtain⟨x,hx,hh⟩:=hi.holds h r (hL.mem_iff.2 (aqm _ hr));have hk:h∈keys L1:=apV.2 ⟨_,hr,rfl⟩;rw[apR]at iu;exact⟨x,oG h x hk hx,(hh.on oG (iu _ hr)).mono (λ_ _=>rfl) (bK.refl w _) (λb _ hb=>(oY b).1 hb) (λ_ _ e=>e)⟩
 refine⟨gT,m1,oY,oG,qm,?_⟩;intro w' uy bh ck fJ DK GZ
 let mm:Nat->Option Value:=λh=>if h∈keys bh then uy h else m2 h
 have vV:∀h y,uy h=some y->mm h=some y:=λh y hy=>by simp only[mm,if_pos (ck.fI h y hy)];exact hy
 have aa0:∀h y,m2 h=some y->mm h=some y:=by
  intro h y hy;have:h∉keys bh:=λhh=>DK h hh (tB h y hy).2
  simp only[mm,if_neg this];exact hy
 have Oj:∀h y,mm h=some y->(uy h=some y/\h∈keys bh)\/(m2 h=some y/\h∉keys bh):=by
  intro h y hy;by_cases hh:h∈keys bh
  ·simp only[mm,if_pos hh]at hy;exact .inl ⟨hy,hh⟩
  ·simp only[mm,if_neg hh]at hy;exact .inr ⟨hy,hh⟩
 have ac8:∀b,own mm b↔own uy b\/own m2 b:=by
  intro b;constructor
  ·rintro⟨h,y,hy,hb⟩;rcases Oj h y hy with⟨hy,_⟩|⟨hy,_⟩
   ·exact .inl ⟨h,y,hy,hb⟩
   ·exact .inr ⟨h,y,hy,hb⟩
  ·rintro(⟨h,y,hy,hb⟩|⟨h,y,hy,hb⟩)
   ·exact⟨h,y,vV h y hy,hb⟩
   ·exact⟨h,y,aa0 h y hy,hb⟩
 have zW:∀b,OO fo mm b↔OO gT uy b:=by
  intro b;unfold OO;rw[ac8 b];constructor
  ·rintro((h|h)|h)
   ·exact .inl h
   ·exact .inr (.inr h)
   ·exact .inr (.inl h)
  ·rintro(h|h|h)
   ·exact .inl (.inl h)
   ·exact .inr h
   ·exact .inl (.inr h)
 have s6:∀b,b<w.heap.size->OO fo mm b->OO fo m b:=by
  intro b hb ir;rcases(zW b).1 ir with h|h|h
  ·exact .inl ((fb b).2 (.inl (fJ.owned b hb h)))
  ·exact .inr h
  ·exact .inl ((fb b).2 (.inr h))
 have cN:bK w (OO fo m) w':=⟨fJ.size,λb hb jN=>fJ.block b hb (λh=>jN (.inl ((fb b).2 (.inl h))))⟩
 have Bu:∀h y,h∈keys L2++(L1.filterMap λp=>match p.2 with|.box (_+1) _ _=>some p.1|_=>none)->m h=some y->mm h=some y:=by
  intro h y hh hy;rcases ap9.1 hh with hh|hh
  ·exact aa0 h y (aaZ h y hh hy)
  ·obtain⟨p,hp,pQ⟩:=aq6.1 hh;obtain⟨q,r⟩:=p;cases r with
   | row ty k xs=>simp at pQ
   | env A=>simp at pQ
   | mp es=>simp at pQ
   | box b0 ty cs=>
     cases b0 with
     | zero=>simp at pQ
     | succ b=>
     simp only[akC]at pQ;subst pQ;obtain⟨mw,jL,de⟩:=GZ q b ty cs hp;obtain⟨z,hz,DL⟩:=ck.holds q _ de;obtain⟨bb1,Ay,an9,e1,_⟩:=DL;obtain⟨u,hu,huh⟩:=qm.holds q _ hp;obtain⟨bb2,pP,cur,e2,_⟩:=huh;obtain rfl:bb1=b:=by omega
     obtain rfl:bb2=bb1:=by omega
     have:=(mx q u hu).1;rw[hy]at this;obtain rfl:=apO this;rw[e2,<-e1];exact vV q z hz
 have hinv:Inv fo mm (bh++L2) w':=by
  refine⟨?_,?_,?_,?_,λb hf=>aqa (hi.ei b hf) fJ.size,?_,hi.ef.mono cN s6⟩
  ·show(keys (bh++L2)).Nodup;rw[show keys (bh++L2)=keys bh++keys L2 by simp[keys],ary];exact⟨ck.nodup,kg.2.1,λx h1 y h2 e=>DK x h1 (by rw[e];exact h2)⟩
  ·intro h y hy;show h∈keys (bh++L2);rw[show keys (bh++L2)=keys bh++keys L2 by simp[keys]];rcases Oj h y hy with⟨_,hh⟩|⟨hy,_⟩
   ·exact aqm _ hh
   ·exact aqu _ (tB h y hy).2
  ·intro h h' y y' b hy nw hb de;rcases Oj h y hy with⟨hy,_⟩|⟨hy,_⟩<;>rcases Oj h' y' nw with⟨nw,_⟩|⟨nw,_⟩
   ·exact ck.apart h h' y y' b hy nw hb de
   ·exact(ck.others h y b hy hb (.inr ⟨h',y',nw,de⟩)).elim
   ·exact(ck.others h' y' b nw de (.inr ⟨h,y,hy,hb⟩)).elim
   ·exact hi.apart h h' y y' b (tB h y hy).1 (tB h' y' nw).1 hb de
  ·intro h y b hy hb hf;rcases Oj h y hy with⟨hy,_⟩|⟨hy,_⟩
   ·exact ck.others h y b hy hb (.inl hf)
   ·exact hi.others h y b (tB h y hy).1 hb hf
  ·intro h r hr;rcases ap9.1 hr with hr|hr
   ·obtain⟨z,hz,DL⟩:=ck.holds h r hr;exact⟨z,vV h z hz,DL.mono (λ_ _=>rfl) (bK.refl w' _) (λb _ hb=>(zW b).1 hb) vV⟩
   ·obtain⟨z,hz,DL⟩:=hi.holds h r (hL.mem_iff.2 (aqu _ hr));have hk:h∈keys L2:=apV.2 ⟨_,hr,rfl⟩;refine⟨z,aa0 h z (aaZ h z hk hz),(DL.on Bu (ja _ hr)).mono (λb hb=>?_) cN s6 (λ_ _ e=>e)⟩;exact fJ.block b (hi.lt hz hb) (λC9=>by
     obtain⟨h',y',nw,de⟩:=C9;have:=hi.apart h h' z y' b hz (mx h' y' nw).1 hb de;subst this;exact kg.2.2 h (mx h y' nw).2 hk)
 have qn:Step w (own m) w' (own mm):=by
  refine⟨fJ.os,fJ.tape,fJ.output,fJ.size,λb hb jN=>fJ.block b hb (λh=>jN ((fb b).2 (.inl h))),λb hb ir=>?_⟩;rcases(ac8 b).1 ir with h|h
  ·exact(fb b).2 (.inl (fJ.owned b hb h))
  ·exact(fb b).2 (.inr h)
 exact⟨mm,hinv,qn,vV,zW,Bu,cN,s6⟩
theorem zi{o:Oper}{c:Call}{f:FuncId}{args:List V}{L1 L2:aH}{R:AE→aH→Prop}
  (aP:o.op= .call c) (hc:callee s.ev c=some (f,args)) (he:enters P f=true) (ho:V.dA (keys L1) args=true) (hL:s.L.Perm (L1++L2)) (iu:L1.all (λp=>aV.on (keys L1) p.2)=true)
  (ja:∀p∈L2,aV.on (keys L2++(L1.filterMap λp=>match p.2 with|.box (_+1) _ _=>some p.1|_=>none)) p.2=true)
  (h:aE P f args L1 R)
  (qV:∀r bh,R r bh->(∃x,r= .ret x)/\(∀k∈keys bh,k∉keys L2)/\∀k b ty cs,(k,aV.box (b+1) ty cs)∈L1->∃mw jL,(k,aV.box (b+1) mw jL)∈bh)
  {fo:FO} {m:Nat->Option Value} {a:Act} {w:World} (g:G fo n m s a w) {next:Act->World->Prop} {Q':Exit->Act->World->Prop}
  (k:∀x bh mm v w',R (.ret x) bh->az w' (OO fo mm) mm v x->Inv fo mm (bh++L2) w'->Step w (own m) w' (own mm)->
   (∀h y,h∈keys L2++(L1.filterMap λp=>match p.2 with|.box (_+1) _ _=>some p.1|_=>none)->m h=some y->mm h=some y)->
   bK w (OO fo m) w'->(∀b,b<w.heap.size->OO fo mm b->OO fo m b)->next (a.put o.dst v) w'):o.wpIn (wr fo.r) 0 P a w next Q':=by
 obtain⟨xs,h1,h2⟩:=pe (P:=P) (w:=w) (m:=m) (O:=OO fo m) aP hc he (λz _=>cj g z);obtain⟨gT,m1,oY,oG,qm,fin⟩:=frame g.inv hL iu ja;refine yS h1 ?_;refine(h gT m1 w xs qm ⟨h2.1,λj v y hv hy=>((h2.2 j v y hv hy).on oG (fP ho y (apT hy))).mono (bK.refl w _) (λb _ hb=>(oY b).1 hb) (λ_ _ e=>e)⟩).mono ?_;rintro e w' ⟨uy,r,bh,hR,kD,ck,fJ⟩;obtain⟨⟨x,rfl⟩,DK,GZ⟩:=qV r bh hR;obtain⟨mm,hinv,qn,vV,zW,Bu,cN,s6⟩:=fin w' uy bh ck fJ DK GZ;cases e<;>simp only[Ends]at kD
 exact k x bh mm _ w' hR (kD.mono (bK.refl w' _) (λb _ hb=>(zW b).1 hb) vV) hinv qn Bu cN s6
theorem ar.ahF{ops}{o:Oper}{rest}{c}{f}{args}{L1 L2:aH}{R}(hg:o.guard=none)(hd:∀d,o.dst=some d→d < n)
  (aP:o.op= .call c) (hc:callee s.ev c=some (f,args)) (he:enters P f=true) (ho:V.dA (keys L1) args=true) (hL:s.L.Perm (L1++L2)) (iu:L1.all (λp=>aV.on (keys L1) p.2)=true)
  (ia:∀p∈s.fr,V.on (keys L2++(L1.filterMap λp=>match p.2 with|.box (_+1) _ _=>some p.1|_=>none)) p.2=true)
  (ja:∀p∈L2,aV.on (keys L2++(L1.filterMap λp=>match p.2 with|.box (_+1) _ _=>some p.1|_=>none)) p.2=true)
  (h:aE P f args L1 R)
  (qV:∀r bh,R r bh->(∃x,r= .ret x)/\(∀k∈keys bh,k∉keys L2)/\∀k b ty cs,(k,aV.box (b+1) ty cs)∈L1->∃mw jL,(k,aV.box (b+1) mw jL)∈bh)
  (k:∀x bh,R (.ret x) bh->ar P n ops rest (St.put {s with L:=bh++L2} o.dst x) Q):ar P n ops (o::rest) s Q:=by
 intro fo m0 w0 m a w st g;unfold wpListIn;rw[if_pos (by simp[Region.wanted,hg])];refine zi aP hc he ho hL iu ja h qV g λx bh mm v w' hR wq hinv qn gS cN s6=>?_
 have g':G fo n mm {s with L:=bh++L2} a w':=⟨g.size,λt y hy=>by
  obtain⟨q1,q2⟩:=g.fr t y hy;exact⟨q1,(q2.on gS (ia _ hy)).mono cN s6 (λ_ _ e=>e)⟩,hinv,g.defers⟩
 exact k x bh hR fo m0 w0 mm _ w' (st.trans qn) (g'.put hd wq)
end
end Go.Ab
namespace Go.Ab
attribute [simp] Im x6 V.fz V.mv V.nS V.E6 tP Bt
def fp:aV->Bool
 | .box (_+1) _ _=>true
 | _=>false
section
variable {P : Program} {w w' : World} {fo : FO} {m m' : Nat -> Option Value} {L : aH} {n : Nat} {s : St} {a : Act} {Q : AX -> St -> Prop}
theorem lU.pure{f args x}(he:enters P f=true)(ho:V.dA [] args=true)(hx:x.on []=true)(h:aE P f args [] (λr _=>r= .ret x)):lU P f args L x:=
 λ_ _ _ aP hc=>qk.call aP hc he ho hx h
attribute [simp] fp
@[simp] theorem akG xs x:dd xs++ [x.map V.d]=dd (xs++ [x]):=by simp[dd]
end
section
variable {P : Program} {n : Nat} {Q : AX -> St -> Prop}
def fK(P:Program)(n:Nat)(ops:Array Oper)(o:Oper)(fr:List (Nat×V))(L:aH)(k:Option Nat)(x:V)(L':aH):Prop:=
 ∀gx,(∀t,t∈o.looksAt ops->eY t gx=eY t fr)->∀fo m a w,G fo n m ⟨gx,L⟩ a w->
  (Region.wanted o (yielded ops a.tmps)=true/\∀(next:Act->World->Prop) (Q':Exit->Act->World->Prop),
   (∀v w' m',az w' (OO fo m') m' v x->G fo n m' ⟨mR k gx,L'⟩ a w'->Step w (own m) w' (own m')->next (a.put o.dst v) w')->o.wpIn (wr fo.r) 0 P a w next Q')\/
  (Region.wanted o (yielded ops a.tmps)=false/\k=none/\L'=L/\az w (OO fo m) m undef x)
theorem fK.run{o}{fo}{m m'}{a}{w w'}{x}{s'}{nx}{v}(bq:(execOp a.eval o).run P w= .ok nx w')(sS:nx= .value v∨(nx= .skip∧v=undef))
  (hr:az w' (OO fo m') m' v x) (g':G fo n m' s' a w') (st:Step w (own m) w' (own m')) next Q'
  (k:∀v w' m',az w' (OO fo m') m' v x->G fo n m' s' a w'->Step w (own m) w' (own m')->next (a.put o.dst v) w'):o.wpIn (wr fo.r) 0 P a w next Q':=by
 grind[xl]
def lv(P:Program)(ops:Array Oper)(s:St)(o:Oper):Option (V×Option Nat×aH×Prop):=
 match gk ops s o with
 | some none=>match fO P s o 0 with
   | some (x,s',c)=>some (x,gD s o,s'.L,u4 o=true/\c)
   | none=>none
 | some (some true)=>match fO P (sZ s o) o 0 with
   | some (x,s',c)=>some (.gd true x,gD (sZ s o) o,s'.L,u4 o=true/\nQ s o.op.operands.toList/\c)
   | none=>none
 | some (some false)=>some (.gd false .any,none,s.L,True)
 | none=>none
theorem fK.of{ops o s x k L' c}(h:lv P ops s o=some (x,k,L',c))(hc:c):fK P n ops o s.fr s.L k x L':=by
 intro gx he fo m a w g;have kD:∀z,z∈o.op.operands->St.ev ⟨gx,s.L⟩ z=s.ev z:=by
  intro z hz;cases z with
  | tmp t=>simp_all[kT]
  | const v=>rfl
  | global g=>rfl
  | func f=>rfl
 have hs:∀t,t∈o.looksAt ops->az w (OO fo m) m (a.tmps.getD t undef) (s.get t):=by
  intro t ht;have:=qP g t;simp_all
 unfold lv at h;split at h
 ·rename_i hg;split at h
  ·rename_i x' s' c' bx;simp only[akC,apM]at h;obtain⟨rfl,rfl,rfl,rfl⟩:=h;obtain⟨nx,v,w',m',x1,s1,bq,sS,⟨rfl,rfl⟩,hr,g',st⟩:=DD (n:=n) (zV hc.1 bx gx kD) hc.2 fo m a w g;grind[Region.wanted,lB,fK.run]
  grind
 ·rename_i hg;split at h
  ·rename_i x' s' c' bx;simp only[akC,apM]at h;obtain⟨rfl,rfl,rfl,rfl⟩:=h;obtain⟨hm,hu,hc⟩:=hc;have ke:∀t,t∈JV o->St.get ⟨gx,s.L⟩ t=s.get t:=by
    intro t ht;obtain⟨z,hz,hze⟩:=aq6.1 ht;have hzt:z= .tmp t:=by
     grind
    subst hzt;exact kD _ (by simpa using hz)
   have hE:DE ⟨gx,s.L⟩ o=DE s o:=by
    unfold DE;have:∀l:List Nat,(∀t∈l,St.get ⟨gx,s.L⟩ t=s.get t)->(l.filterMap λt=>match St.get ⟨gx,s.L⟩ t with|.gd _ x=>some (t,x)|_=>none)=l.filterMap λt=>match s.get t with|.gd _ x=>some (t,x)|_=>none:=by
     intro l
     induction l with
     | nil=>simp
     | cons t l ih=>
       grind
    exact this _ ke
   have nM:nQ ⟨gx,s.L⟩ o.op.operands.toList:=by
    have:∀l:List Operand,(∀z∈l,St.ev ⟨gx,s.L⟩ z=s.ev z)->nQ s l->nQ ⟨gx,s.L⟩ l:=by
     intro l
     induction l with
     | nil=>simp
     | cons z l ih=>
       intro hl h;exact⟨by rw[hl z ap7];exact h.1,ih (λz hz=>hl z (ap2 _ hz)) h.2⟩
    grind
   have F0:∀z,z∈o.op.operands->St.ev ⟨DE s o++gx,s.L⟩ z=(sZ s o).ev z:=by
    intro z hz;cases z with
    | const v=>rfl
    | global g=>rfl
    | func f=>rfl
    | tmp t=>
      have ht:=he t (kT hz);show eY t (DE s o++gx)=eY t (DE s o++s.fr);generalize DE s o=l
      induction l with
      | nil=>exact ht
      | cons p l ih=>
        simp[*]
   have g2:G fo n m ⟨DE s o++gx,s.L⟩ a w:=by
    have:=g.sZ nM;grind[sZ]
   obtain⟨nx,v,w',m',x1,s1,bq,sS,⟨rfl,rfl⟩,hr,g',st⟩:=DD (n:=n) (zV hm bx (DE s o++gx) F0) hc fo m a w g2;refine .inl ⟨sf hs hg,fK.run (s':=⟨mR (gD (sZ s o) o) gx,s'.L⟩) bq sS (.gt _ _ hr) ⟨g'.size,λt y hy=>g'.fr t y ?_,g'.inv,g'.defers⟩ st⟩;grind[mR,List.mem_append_right]
  grind
 ·rename_i hg;simp only[akC,apM]at h;obtain⟨rfl,rfl,rfl,rfl⟩:=h;exact .inr ⟨sf hs hg,rfl,rfl,.gf _⟩
 grind
abbrev kG:=List (Nat×Nat×V)
theorem fK.call{ops}{o}{s:St}{c}{f}{args}{L1 bh}{x} r(hs:List Nat)(aP:o.op= .call c)(h:aE P f args L1 (fun r L=>r= .ret x∧L=bh))(hc:callee s.ev c=some (f,args))(hg:o.guard=none)
  (he:enters P f=true) (hL:s.L.filter (λp=>hs.contains p.1)=L1)
  (ho:V.dA (keys L1) args=true/\L1.all (λp=>aV.on (keys L1) p.2)=true/\L1.all (λp=>(match p.2 with|.box (_+1) _ _=>true|_=>p.1==r))=true)
  (hb:∀k b ty cs,(k,aV.box (b+1) ty cs)∈L1->∃mw jL,(k,aV.box (b+1) mw jL)∈bh)
  (ja:(s.L.filter λp=>!hs.contains p.1).all (λp=>aV.on (keys (s.L.filter λp=>!hs.contains p.1)++(L1.filterMap λp=>match p.2 with|.box (_+1) _ _=>some p.1|_=>none)) p.2)=true)
  (hk:∀k∈keys bh,k∉keys (s.L.filter λp=>!hs.contains p.1)):
  fK P n ops o s.fr s.L (some r) x (bh++s.L.filter λp=>!hs.contains p.1):=by
 intro gx M3 fo m a w g;have kD:∀z,z∈o.op.operands->St.ev ⟨gx,s.L⟩ z=s.ev z:=by
  intro z hz;cases z with
  | tmp t=>simp_all[kT]
  | const v=>rfl
  | global g=>rfl
  | func f=>rfl
 have zk:s.L.Perm (L1++s.L.filter λp=>!hs.contains p.1):=by subst hL;exact(aqD _ s.L).symm
 refine .inl ⟨by simp[Region.wanted,hg],λnext Q' kk=>?_⟩;refine zi (s:=⟨gx,s.L⟩) aP ?_ he ho.1 zk ho.2.1 (λp hp=>apR.1 ja p hp) h ?_ g λx' uI mm v w' hR wq hinv qn gS cN s6=>?_
 ·rw[<-hc];unfold callee;cases qc:c.callee with
  | value fo=>
    simp only;rw[kD fo (by simp_all)];have:c.args.toList.map (St.ev ⟨gx,s.L⟩)=c.args.toList.map s.ev:=by
     simp_all
    rw[this]
  | _=>rfl
 ·rintro r' uI ⟨rfl,rfl⟩;grind
 ·obtain⟨e,rfl⟩:=hR;obtain rfl:=AE.ret.inj e;refine kk v w' mm wq ⟨g.size,λt y hy=>?_,hinv,g.defers⟩ qn;unfold mR at hy;obtain⟨p,hp,pQ⟩:=apV.1 hy;simp only[apM]at pQ;obtain⟨rfl,rfl⟩:=pQ;obtain⟨q1,q2⟩:=g.fr p.1 p.2 hp;refine⟨q1,(az.kill (m':=mm) (h:=r) (λi y bU hi=>gS i y ?_ hi) q2).mono cN s6 (λ_ _ e=>e)⟩;have DM:i∈keys s.L:=g.inv.fI i y hi;obtain⟨⟨i',res⟩,gA,rfl⟩:=apV.1 DM;rcases ap9.1 (zk.mem_iff.1 gA)with hm|hm
  ·refine aqu _ (aq6.2 ⟨_,hm,?_⟩);have:=apR.1 ho.2.2 _ hm;cases res with
   | row _ _ _=>grind
   | env _=>grind
   | mp _=>grind
   | box b _ _=>
     cases b with
     | zero=>grind
     | succ b=>rfl
  ·exact aqm _ (apV.2 ⟨_,hm,rfl⟩)
def gP(ks:List (Option Nat))(β p:Nat)(x:V):V:=((ks.take p).drop β).foldl (λx k=>kO k x) x
def dc(ks:List (Option Nat))(p:Nat)(fr:kG):List (Nat×V):=fr.map λe=>(e.1,gP ks e.2.1 p e.2.2)
def getM(t:Nat):kG->Nat×V
 | []=>(0,.any)
 | (k,b,x)::l=>if k=t then(b,x)else getM t l
def DN(t:Nat):kG->kG
 | []=> []
 | (k,b,x)::l=>if k=t then DN t l else(k,b,x)::DN t l
def gZ(fr:kG)(t:Option Nat)(β:Nat)(x:V):kG:=
 match t with
 | none=>fr
 | some t=>(t,β,x)::DN t fr
theorem K9 ks β p:gP ks β p .any= .any:=by
 unfold gP;generalize (ks.take p).drop β=l
 induction l with
 | nil=>rfl
 | cons k l ih=>rw[List.foldl_cons,show kO k .any= .any by cases k<;>rfl];exact ih
theorem DO ks p t:∀fr:kG,eY t (dc ks p fr)=gP ks (getM t fr).1 p (getM t fr).2
 | []=>(K9 ks 0 p).symm
 | (k,b,x)::l=>by
   simp[dc,getM];split
   ·rfl
   ·exact DO ks p t l
theorem UB{ks β p}(hb:β<=p)(hp:p<ks.length) x:gP ks β (p+1) x=kO (ks.getD p none) (gP ks β p x):=by
 grind[gP,List.take_add_one,List.getElem?_eq_getElem,List.length_take]
theorem Bv{ks β p}(h:p<=β) x:gP ks β p x=x:=by
 grind[gP,List.drop_eq_nil_of_le,List.length_take]
theorem XY{ks SC β p}(h:p<=ks.length) x:gP (ks++SC) β p x=gP ks β p x:=by
 simp_all[gP,List.take_append_of_le_length]
theorem uJ{ks SC p}(h:p<=ks.length) fr:dc (ks++SC) p fr=dc ks p fr:=by
 simp_all[dc,XY]
theorem DP{t d}(h:t≠d):∀l:kG,getM t (DN d l)=getM t l
 | []=>rfl
 | (k,b,x)::l=>by
   rw[DN,getM];split
   ·rename_i hk;subst hk;rw[if_neg (λe=>h e.symm)];exact DP h l
   ·rw[getM,DP h l]
theorem Ol{fr o β x t}(h:o≠some t):getM t (gZ fr o β x)=getM t fr:=by
 cases o with
 | none=>rfl
 | some d=>
   have bU:t≠d:=λe=>h (by rw[e])
   simp_all[gZ,getM,DP]
theorem CK{fr β x t}:getM t (gZ fr (some t) β x)=(β,x):=by simp[gZ,getM]
theorem G0{t p}:∀{l},p∈DN t l->p∈l/\p.1≠t
 | [],h=>by cases h
 | (k,b,x)::l,h=>by
   rw[DN]at h;split at h
   ·have:=G0 h;exact⟨ap2 _ this.1,this.2⟩
   ·rcases ap8.1 h with rfl|h
    ·grind
    ·have:=G0 h;exact⟨ap2 _ this.1,this.2⟩
theorem Om{fr d β x p}(h:p∈gZ fr d β x):(d=some p.1/\p.2=(β,x))\/(p∈fr/\d≠some p.1):=by
 cases d with
 | none=>exact .inr ⟨h,by simp⟩
 | some d=>
   simp[gZ]at h;rcases h with rfl|h
   ·simp
   grind[G0,Option.some.inj]
structure Rec where
 fr:kG
 x:V
 lo:Nat
 hi:Nat
 lS:Bool
 q:Nat
def Rec.pS(r:Rec):Nat:=if r.lS then r.q+1 else r.lo
inductive pT:List (Oper×Option (Nat×Nat))->kG->Nat->List Rec->kG->Nat->Prop
 | nil (fr:kG) (q:Nat):pT [] fr q [] fr q
 | quiet {o:Oper} {rest:List (Oper×Option (Nat×Nat))} {fr:kG} {q:Nat} {x:V} {lo hi:Nat} {l:List Rec} {kj:kG} {q':Nat} (k:pT rest (gZ fr o.dst lo x) q l kj q'):
   pT ((o,some (lo,hi))::rest) fr q (⟨fr,x,lo,hi,false,q⟩::l) kj q'
 | lS {o:Oper} {rest:List (Oper×Option (Nat×Nat))} {fr:kG} {q:Nat} {x:V} {l:List Rec} {kj:kG} {q':Nat} (k:pT rest (gZ fr o.dst (q+1) x) (q+1) l kj q'):
   pT ((o,none)::rest) fr q (⟨fr,x,0,0,true,q⟩::l) kj q'
theorem pT.len{l fr kj q q' tr}(h:pT l fr q tr kj q'):tr.length=l.length:=by
 induction h with
 | nil=>rfl
 | quiet k ih=>grind
 | lS k ih=>grind
theorem pT.pg{l}{fr kj}{q q'}{tr}(h:pT l fr q tr kj q')(t:Nat):∀i r,tr[i]?=some r→
  (∀(j:Nat) o,j<i->l[j]?=some o->o.1.dst≠some t)->getM t r.fr=getM t fr:=by
 induction h with
 | nil=>simp
 | @quiet o rest fr q x lo hi l kj q' k ih=>
   intro i r hi hn;cases i with
   | zero=>grind
   | succ i=>
     rw[ih i r hi (λj o' hj ho=>hn (j+1) o' (by omega) (by grind)),Ol (hn 0 _ (by omega) rfl)]
 | @lS o rest fr q x l kj q' k ih=>
   intro i r hi hn;cases i with
   | zero=>grind
   | succ i=>
     rw[ih i r hi (λj o' hj ho=>hn (j+1) o' (by omega) (by grind)),Ol (hn 0 _ (by omega) rfl)]
theorem pT.E5{l:List (Oper×Option (Nat×Nat))}{fr kj:kG}{q q':Nat}{tr:List Rec}(h:pT l fr q tr kj q')(t:Nat):∀(i j:Nat) (r rj:Rec) (o:Oper×Option (Nat×Nat)),tr[i]?=some r→j < i→tr[j]?=some rj→l[j]?=some o→o.1.dst=some t→
  (∀(j':Nat) (o':Oper×Option (Nat×Nat)),j<j'->j'<i->l[j']?=some o'->o'.1.dst≠some t)->getM t r.fr=(rj.pS,rj.x):=by
 induction h with
 | nil=>intro i j r rj o h;simp at h
 | @quiet o rest fr q x lo hi l kj q' k ih=>
   intro i j r rj o' hi zf hj ho hd hn;cases i with
   | zero=>omega
   | succ i=>
     simp only[aqP]at hi;cases j with
     | zero=>
       simp only[aqk,akC]at hj ho;subst hj;subst ho;rw[k.pg t i r hi (λj' o' tO ir=>hn (j'+1) o' (by omega) (by omega) (by simpa using ir))];simp only at hd;rw[hd];exact CK
     | succ j=>
       simp only[aqP]at hj ho;exact ih i j r rj o' hi (by omega) hj ho hd (λj' mq h1 h2 h3=>hn (j'+1) mq (by omega) (by omega) (by simpa using h3))
 | @lS o rest fr q x l kj q' k ih=>
   intro i j r rj o' hi zf hj ho hd hn;cases i with
   | zero=>omega
   | succ i=>
     simp only[aqP]at hi;cases j with
     | zero=>
       simp only[aqk,akC]at hj ho;subst hj;subst ho;rw[k.pg t i r hi (λj' o' tO ir=>hn (j'+1) o' (by omega) (by omega) (by simpa using ir))];simp only at hd;rw[hd];exact CK
     | succ j=>
       simp only[aqP]at hj ho;exact ih i j r rj o' hi (by omega) hj ho hd (λj' mq h1 h2 h3=>hn (j'+1) mq (by omega) (by omega) (by simpa using h3))
theorem pT.mem{l:List (Oper×Option (Nat×Nat))}{fr kj:kG}{q q':Nat}{tr:List Rec}(h:pT l fr q tr kj q'):∀p,p∈kj→
  (∃(j:Nat) (o:Oper×Option (Nat×Nat)) (rj:Rec),l[j]?=some o/\o.1.dst=some p.1/\tr[j]?=some rj/\p.2=(rj.pS,rj.x))\/(p∈fr/\∀(j:Nat) (o:Oper×Option (Nat×Nat)),l[j]?=some o->o.1.dst≠some p.1):=by
 induction h with
 | nil=>intro p hp;exact .inr ⟨hp,by simp⟩
 | @quiet o rest fr q x lo hi l kj q' k ih=>
   intro p hp;rcases ih p hp with⟨j,o',rj,h1,h2,h3,h4⟩|⟨h1,h2⟩
   ·exact .inl ⟨j+1,o',rj,by simpa using h1,h2,by simpa using h3,h4⟩
   ·rcases Om h1 with⟨hd,hx⟩|⟨h3,h4⟩
    ·exact .inl ⟨0,_,_,rfl,hd,rfl,hx⟩
    ·refine .inr ⟨h3,λj o' hj=>?_⟩;cases j with
     | zero=>simp only[aqk,akC]at hj;subst hj;exact h4
     | succ j=>simp only[aqP]at hj;exact h2 j o' hj
 | @lS o rest fr q x l kj q' k ih=>
   intro p hp;rcases ih p hp with⟨j,o',rj,h1,h2,h3,h4⟩|⟨h1,h2⟩
   ·exact .inl ⟨j+1,o',rj,by simpa using h1,h2,by simpa using h3,h4⟩
   ·rcases Om h1 with⟨hd,hx⟩|⟨h3,h4⟩
    ·exact .inl ⟨0,_,_,rfl,hd,rfl,hx⟩
    ·refine .inr ⟨h3,λj o' hj=>?_⟩;cases j with
     | zero=>simp only[aqk,akC]at hj;subst hj;exact h4
     | succ j=>simp only[aqP]at hj;exact h2 j o' hj
def G1(P:Program)(n:Nat)(ops:Array Oper)(ks:List (Option Nat))(Ls:Nat->aH)(r:Rec)(o:Oper):Prop:=
 (r.lS=true->r.q<ks.length/\fK P n ops o (dc ks r.q r.fr) (Ls r.q) (ks.getD r.q none) r.x (Ls (r.q+1)))/\
 (r.lS=false->∀p,r.lo<=p->p<=r.hi->rU P ops o ⟨dc ks p r.fr,Ls p⟩ r.x)
def ajq(xs m:List Nat):List Nat:=xs.foldl (λm x=>if m.contains x then m else x::m) m
def adV(acc:List (List Nat))(o:Oper):List Nat:=o.after.toList.foldl (λm e=>if Region.binds .any e then ajq (e.on::acc.getD e.on []) m else m) []
def tQ:List Oper->List (List Nat)->List (List Nat)
 | [],acc=>acc
 | o::r,acc=>tQ r (acc++ [adV acc o])
def E7(l:List Oper)(s7:List (List Nat)):Bool:=
 l.zipIdx.all λ(o,i)=>(s7.getD i []).all λj=>o.after.toList.any λe=>Region.binds .any e&&(e.on==j||(s7.getD e.on []).contains j)
def SD(rg:List (Option (Nat×Nat))):List Nat:=rg.zipIdx.filterMap λp=>if p.1.isNone then some p.2 else none
def vX(s7:List (List Nat))(fA:List Nat):List (Oper×Option (Nat×Nat))->Nat->Nat->Bool
 | [],_,q=>fA.length==q
 | (o,none)::rest,i,q=>(fA[q]?==some i)&&((fA.take q).all λj=>(s7.getD i []).contains j)&&vX s7 fA rest (i+1) (q+1)
 | (_,some (lo,hi))::rest,i,q=>decide (lo<=fA.length)&&!fA.contains i&&((fA.take lo).all λj=>(s7.getD i []).contains j)&&((fA.drop hi).all λj=>(s7.getD j []).contains i)&&vX s7 fA rest (i+1) q
def Ld(n:Nat)(l:List Oper)(rg:List (Option (Nat×Nat))):Bool:=
 indep l&&dB n l&&(rg.length==l.length)&&decide (SD rg).Nodup&&E7 l (tQ l [])&&vX (tQ l []) (SD rg) (l.zip rg) 0 0 &&
  l.all λo=>(o.looksAt l.toArray).all λt=>decide (t<n)
theorem SE{s7:List (List Nat)}{fA:List Nat}{l:List (Oper×Option (Nat×Nat))}{fr kj:kG}{q q':Nat}{tr:List Rec}(h:pT l fr q tr kj q'):∀i0,vX s7 fA l i0 q=true→fA.length=q'∧
  ∀(i:Nat) (r:Rec) (o:Oper×Option (Nat×Nat)),tr[i]?=some r->l[i]?=some o->
   (r.lS=true->fA[r.q]?=some (i0+i)/\(∀j∈fA.take r.q,j∈s7.getD (i0+i) []))/\
   (r.lS=false->r.lo<=fA.length/\i0+i∉fA/\(∀j∈fA.take r.lo,j∈s7.getD (i0+i) [])/\∀j∈fA.drop r.hi,i0+i∈s7.getD j []):=by
 induction h with
 | nil fr q=>
   intro i0 h;simp only[vX,beq_iff_eq]at h;exact⟨h,by simp⟩
 | @quiet o rest fr q x lo hi l kj q' k ih=>
   intro i0 h;simp only[vX,apP,decide_eq_true_eq,arA,apR,arO,decide_eq_false_iff_not]at h;obtain⟨⟨⟨⟨h1,h2⟩,h3⟩,h4⟩,h5⟩:=h;obtain⟨g1,g2⟩:=ih (i0+1) h5;refine⟨g1,λi r o' hr ho=>?_⟩;cases i with
   | zero=>
     simp only[aqk,akC]at hr ho;subst hr;exact⟨(λh=>by cases h),λ_=>⟨h1,h2,h3,h4⟩⟩
   | succ i=>
     have:=g2 i r o' (by simpa using hr) (by simpa using ho);rw[show i0+1+i=i0+(i+1) by omega]at this;exact this
 | @lS o rest fr q x l kj q' k ih=>
   intro i0 h;simp only[vX,apP,beq_iff_eq,apR,arO,decide_eq_true_eq]at h;obtain⟨⟨h1,h2⟩,h5⟩:=h;obtain⟨g1,g2⟩:=ih (i0+1) h5;refine⟨g1,λi r o' hr ho=>?_⟩;cases i with
   | zero=>
     simp only[aqk,akC]at hr ho;subst hr;subst ho;exact⟨λ_=>⟨h1,h2⟩,(λh=>by cases h)⟩
   | succ i=>
     have:=g2 i r o' (by simpa using hr) (by simpa using ho);rw[show i0+1+i=i0+(i+1) by omega]at this;exact this
theorem Bw{l:List Oper}{s7:List (List Nat)}(cO:indep l=true)(ha:E7 l s7=true){listed:Array Bool}
  (oU:∀(j:Nat) (o:Oper),l[j]?=some o->listed.getD j false=true->∀e∈o.after,Region.binds .any e=true->listed.getD e.on false=true):
  ∀(i:Nat) (o:Oper),l[i]?=some o->(∀e∈o.after,Region.binds .any e=true->listed.getD e.on false=true)->∀j∈s7.getD i [],listed.getD j false=true:=by
 intro i
 induction i using Nat.strongRecOn with
 | _ i ih=>
   intro o hi hr j hj;unfold E7 at ha;rw[apR]at ha;have:=ha (o,i) (by rw[List.mem_zipIdx_iff_getElem?];exact hi);simp only[apR]at this;have:=this j hj;rw[art]at this;obtain⟨e,he,h⟩:=this;simp only[apP,arw,beq_iff_eq,arO,decide_eq_true_eq]at h;obtain⟨hb,h⟩:=h;have kD:e∈o.after:=by simpa using he
   have hle:=hr e kD hb;rcases h with rfl|h
   ·exact hle
   ·have ay:=(nq cO hi).2.1 e kD hb;have sU:e.on<l.length:=by have:=(apQ.1 hi).1;omega
    exact ih e.on ay l[e.on] (anc sU) (λe' kD de=>oU e.on _ (anc sU) hle e' kD de) j h
end
section
variable {P : Program} {n : Nat} {Q : AX -> St -> Prop}
structure aa1(fo:FO) (m:Nat->Option Value) (m0:Nat->Option Value) (w0:World) (n:Nat) (l:List Oper) (fA:List Nat) (ks:List (Option Nat)) (Ls:Nat->aH) (qo:kG) (tr:List Rec) (p:Nat) (listed:Array Bool) (a:Act) (w:World):Prop where
 size:a.tmps.size=n
 defers:a.defers=fo.D
 inv:Inv fo m (Ls p) w
 step:Step w0 (own m0) w (own m)
 DG:listed.size=l.length
 ple:p<=fA.length
 Bx:∀q j,fA[q]?=some j->(listed.getD j false=true↔q<p)
 born:∀(j:Nat) (r:Rec),tr[j]?=some r->listed.getD j false=true->r.pS<=p
 done:∀(j:Nat) (o:Oper) (r:Rec) (d:Nat),l[j]?=some o->tr[j]?=some r->o.dst=some d->listed.getD j false=true->az w (OO fo m) m (a.tmps.getD d undef) (gP ks r.pS p r.x)
 todo:∀t,(∀(j:Nat) (o:Oper),l[j]?=some o->o.dst=some t->listed.getD j false=false)->az w (OO fo m) m (a.tmps.getD t undef) (gP ks (getM t qo).1 p (getM t qo).2)
 rest:∀e,e∈qo->(∀(j:Nat) (o:Oper),l[j]?=some o->o.dst≠some e.1)->az w (OO fo m) m (a.tmps.getD e.1 undef) (gP ks e.2.1 p e.2.2)
 closed:∀(j:Nat) (o:Oper),l[j]?=some o->listed.getD j false=true->∀e∈o.after,Region.binds .any e=true->listed.getD e.on false=true
theorem Iq{f:Nat->V}{rest t}:∀k b,b<=t->t<b+k->eY t ((List.range' b k).map (λt=>(t,f t))++rest)=f t
 | 0,b,h1,h2=>by omega
 | k+1,b,h1,h2=>by
   rw[List.range'_succ,aqd,apZ,eY];split
   ·grind
   ·exact Iq k (b+1) (by omega) (by omega)
theorem XZ{ks β p w O m v} x(h:az w O m v x):az w O m v (gP ks β p x):=by
 unfold gP;generalize (ks.take p).drop β=l
 induction l generalizing x with
 | nil=>exact h
 | cons k l ih=>
   refine ih _ ?_;cases k with
   | none=>exact h
   | some i=>exact h.kill (λ_ _ _ e=>e)
theorem X0{s7}{fA}{l}{fr kj}{q q'}{tr}(h:pT l fr q tr kj q'):∀i0,vX s7 fA l i0 q=true→
  ∀p j,q<=p->fA[p]?=some j->∃(i:Nat) (r:Rec),j=i0+i/\tr[i]?=some r/\r.lS=true/\r.q=p:=by
 induction h with
 | nil fr q=>
   simp_all[vX,beq_iff_eq]
 | @quiet o rest fr q x lo hi l kj q' k ih=>
   intro i0 h p j hp hj;simp[vX,apP]at h;obtain⟨i,r,h1,h2,h3,h4⟩:=ih (i0+1) h.2 p j hp hj;exact⟨i+1,r,by omega,by grind,h3,h4⟩
 | @lS o rest fr q x l kj q' k ih=>
   intro i0 h p j hp hj;simp[vX,apP]at h;rcases aq7 q p with ay|bR
   ·obtain⟨i,r,h1,h2,h3,h4⟩:=ih (i0+1) h.2 p j (by omega) hj;exact⟨i+1,r,by omega,by grind,h3,h4⟩
   ·obtain rfl:q=p:=by omega
    simp_all
def afE(P:Program)(n:Nat)(ops:Array Oper)(o:Oper)(fr:List (Nat×V))(L:aH)(y:V)(L':aH):Prop:=
 ∀gx,(∀t,t∈o.looksAt ops->eY t gx=eY t fr)->∀fo m a w,G fo n m ⟨gx,L⟩ a w->
  Region.wanted o (yielded ops a.tmps)=true/\∀(next:Act->World->Prop) (Q':Exit->Act->World->Prop),
   (∀ch w' m',Bd w' (OO fo m') m' ch y->Inv fo m' L' w'->Step w (own m) w' (own m')->Q' (.panic ch) a w')->o.wpIn (wr fo.r) 0 P a w next Q'
def afF(P:Program)(n:Nat)(Q:AX->St->Prop)(ops:Array Oper)(dd:Option Nat)(ks:List (Option Nat))(Ls:Nat->aH)(r:Rec)(o:Oper):Prop:=
 (r.lS=true->(∃q,dd=some q/\q<r.q)\/(dd=some r.q/\∃y L',afE P n ops o (dc ks r.q r.fr) (Ls r.q) y L'/\Q (.iC y) ⟨[],L'⟩)\/
  (dd≠some r.q/\r.q<ks.length/\fK P n ops o (dc ks r.q r.fr) (Ls r.q) (ks.getD r.q none) r.x (Ls (r.q+1))))/\
 (r.lS=false->∀p,r.lo<=p->p<=r.hi->(∀q,dd=some q->p<=q)->rU P ops o ⟨dc ks p r.fr,Ls p⟩ r.x)
theorem UC{dd:Option Nat}{l:List Oper}{rg:List (Option (Nat×Nat))}{fA:List Nat}{ks:List (Option Nat)}{Ls:Nat→aH}{qo jO:kG}{tr:List Rec}{k:Nat}(hz:rg.length=l.length)
  (ht:pT (l.zip rg) qo 0 tr jO k) (JX:∀(i:Nat) (r:Rec) (o:Oper),tr[i]?=some r->l[i]?=some o->afF P n Q l.toArray dd ks Ls r o) (cO:indep l=true) (hd:dB n l=true) (kg:fA.Nodup)
  (UD:E7 l (tQ l [])=true) (rD:vX (tQ l []) fA (l.zip rg) 0 0=true) (XP:∀o∈l,∀t∈o.looksAt l.toArray,t<n) (hks:ks.length=k) (hdq:∀q,dd=some q->q<fA.length) (hq:dd=none->Q .normal ⟨dc ks k jO,Ls k⟩)
  {fo:FO} {m0:Nat->Option Value} {w0:World} (ia:∀e,e∈qo->e.1<n) (CL:∀e,e∈qo->e.2.1=0):
  ∀(fuel:Nat) (m:Nat->Option Value) (p:Nat) (listed:Array Bool) (un:List Nat) (a:Act) (w:World),un.length<=fuel->(∀i,i<l.length->listed.getD i false=false->i∈un)->
   (∀q,dd=some q->p<=q)->aa1 fo m m0 w0 n l fA ks Ls qo tr p listed a w->wpAnyIn (wr fo.r) 0 P .any l.toArray (fX fo n m0 w0 Q) fuel listed a w:=by
 have N9:∀(i:Nat) (o:Oper) (d:Nat),l[i]?=some o->o.dst=some d->d<n:=by
  intro i o d hi ho;unfold dB at hd;rw[apR]at hd;have:=hd o (apT hi);rw[ho]at this;simpa using this
 have og:(l.zip rg).length=l.length:=by rw[List.length_zip];omega
 have hlen:tr.length=l.length:=by rw[ht.len,og]
 have Ik:∀i:Nat,i<l.length->∃r:Rec,tr[i]?=some r:=λi hi=>⟨_,anc (by omega)⟩
 have UE:∀(i:Nat) (o:Oper),l[i]?=some o->∃g,(l.zip rg)[i]?=some (o,g):=by
  intro i o hi;have kF:=(apQ.1 hi).1;refine⟨rg[i]'(by omega),?_⟩;rw[arY];exact⟨hi,anc (by omega)⟩
 have x7:∀(i:Nat) (z:Oper×Option (Nat×Nat)),(l.zip rg)[i]?=some z->l[i]?=some z.1:=by
  intro i z Aw;exact(arY.1 Aw).1
 obtain⟨afG,ajr⟩:=SE ht 0 rD;have dx:∀(i:Nat) (r:Rec) (o:Oper),tr[i]?=some r→l[i]?=some o→
   (r.lS=true->fA[r.q]?=some i/\(∀j∈fA.take r.q,j∈(tQ l []).getD i []))/\
   (r.lS=false->r.lo<=fA.length/\i∉fA/\(∀j∈fA.take r.lo,j∈(tQ l []).getD i [])/\∀j∈fA.drop r.hi,i∈(tQ l []).getD j []):=by
  intro i r o hr ho;obtain⟨g,hg⟩:=UE i o ho;have:=ajr i r (o,g) hr hg;simpa using this
 have ahG:∀t,(getM t qo).1=0:=by
  intro t;clear ht ia
  induction qo with
  | nil=>rfl
  | cons e fr ih=>
    obtain⟨k,b,x⟩:=e;rw[getM];split
    ·exact CL _ ap7
    ·exact ih (λe he=>CL e (ap2 _ he))
 have ac9:∀(q j:Nat),fA[q]?=some j->j<l.length/\∃r,tr[j]?=some r/\r.lS=true/\r.q=q:=by
  intro q j hj;obtain⟨i,r,h1,h2,h3,h4⟩:=X0 ht 0 rD q j (aqc _) hj;obtain rfl:j=i:=by omega
  exact⟨by have:=(apQ.1 h2).1;omega,r,h2,h3,h4⟩
 have fin:∀(m:Nat->Option Value) (p:Nat) (listed:Array Bool) (a:Act) (w:World),(∀i,i<l.length->listed.getD i false=true)->(∀q,dd=some q->p<=q)->aa1 fo m m0 w0 n l fA ks Ls qo tr p listed a w->fX fo n m0 w0 Q .normal a w:=by
  intro m p listed a w bQ DR M;have hpk:p=k:=by
   have h1:=M.ple;rcases aq7 p fA.length with h|h
   ·have hj:=M.Bx p fA[p] (anc h);have gA:fA[p]<l.length:=by
     refine aqr λhn=>?_
     exact hn (ac9 p _ (anc h)).1
    have:=hj.1 (bQ _ gA);omega
   ·omega
  subst hpk;have FZ:dd=none:=by
   cases vB:dd with
   | none=>rfl
   | some q=>
     have h1:=DR q vB;have h2:=hdq q vB;omega
  refine .of m .normal _ (hq FZ) ⟨M.size,?_,M.inv,M.defers⟩ trivial M.step;intro t x hx;obtain⟨e,he,hex⟩:=apV.1 hx;simp only[apM]at hex;obtain⟨rfl,rfl⟩:=hex;rcases ht.mem e he with⟨j,z,r,h1,h2,h3,h4⟩|⟨h1,h2⟩
  ·have jy:=x7 j z h1;refine⟨N9 j z.1 e.1 jy h2,?_⟩;have:=M.done j z.1 r e.1 jy h3 h2 (bQ j (apQ.1 jy).1);rw[h4];exact this
  ·exact⟨ia _ h1,M.rest _ h1 (λj o hj=>by
    obtain⟨g,hg⟩:=UE j o hj;exact h2 j (o,g) hg)⟩
 have DH:∀(listed:Array Bool),listed.size=l.length->Region.ready .any l.toArray listed=[]->∀i,i<l.length->listed.getD i false=true:=by
  intro listed dW hr i
  induction i using Nat.strongRecOn with
  | _ i ih=>
    intro hi;cases hb:listed.getD i false with
    | true=>rfl
    | false=>
      exfalso;have gA:i∈Region.ready .any l.toArray listed:=by
       refine mem_ready.2 ⟨by rw[qU (c:=false) (by omega)];exact hb,l[i],by simp[hi],λe he iY=>?_⟩;have:=(nq cO (anc hi)).2.1 e he iY;exact ih e.on this (by omega)
      rw[hr]at gA;cases gA
 intro fuel
 induction fuel with
 | zero=>
   intro m p listed un a w hun bQ DR M;have h0:∀i,i<l.length->listed.getD i false=true:=by
    intro i hi;cases hb:listed.getD i false with
    | true=>rfl
    | false=>have h9:=bQ i hi hb;have h8:un=[]:=aqH (by omega);rw[h8]at h9;cases h9
   refine⟨?_,fin m p listed a w h0 DR M⟩;rw[aq1];intro j hj;obtain⟨h1,o,h2,_⟩:=mem_ready.1 hj;have Ie:j<l.length:=by have:=(ap6.1 h2).1;simpa using this
   rw[qU (c:=false) (by have:=M.DG;omega)]at h1;rw[h0 j Ie]at h1;cases h1
 | succ fuel ih=>
   intro m p listed un a w hun bQ DR M;refine⟨λhr=>fin m p listed a w (DH listed M.DG hr) DR M,?_⟩;intro i hi;obtain⟨h1,o,h2,h3⟩:=mem_ready.1 hi;have kF:i<l.length:=by have:=(ap6.1 h2).1;simpa using this
   have s4:l[i]?=some o:=by simpa using h2
   rw[qU (c:=false) (by have:=M.DG;omega)]at h1;obtain⟨r,rI⟩:=Ik i kF;obtain⟨tA,rM⟩:=JX i r o rI s4;obtain⟨ha1,ha2⟩:=dx i r o rI s4;obtain⟨i1,i2,i3⟩:=nq cO s4;have uniq:∀(t:Nat) (j:Nat) (mq:Oper),l[j]?=some mq->mq.dst=some t->writes l t=some j:=λt j mq hj hd=>(nq cO hj).1 t hd
   have ada:∀j∈(tQ l []).getD i [],listed.getD j false=true:=Bw cO UD M.closed i o s4 h3;have ahH:∀(j:Nat) (oj:Oper),l[j]?=some oj->listed.getD j false=true->∀j'∈(tQ l []).getD j [],listed.getD j' false=true:=
    λj oj fm hb=>Bw cO UD M.closed j oj fm (M.closed j oj fm hb)
   have Oa:∀t,t∈o.looksAt l.toArray->az w (OO fo m) m (a.tmps.getD t undef) (eY t (dc ks p r.fr)):=by
    intro t AI;rw[DO];cases hw:writes l t with
    | none=>
      rw[ht.pg t i r rI (λj z _ hj=>np hw (x7 j z hj))];exact M.todo t (λj mq hj hd=>(np hw hj hd).elim)
    | some j=>
      obtain⟨oj,fm,lV⟩:=ph hw;obtain⟨rj,lW⟩:=Ik j (apQ.1 fm).1;obtain⟨gj,hgj⟩:=UE j oj fm;rcases i3 t AI j hw with⟨ay,e,he,hb,iu⟩|⟨ay,oj',DI,e,he,hb,iu⟩
      ·rw[ht.E5 t i j r rj (oj,gj) rI ay lW hgj lV (λj' z zg _ tO ux=>by
        have:=uniq t j' z.1 (x7 j' z tO) ux;rw[hw]at this;have:=apO this;omega)]
       exact M.done j oj rj t fm lW lV (by rw[<-iu];exact h3 e he hb)
      ·rw[ht.pg t i r rI (λj' z tO Aw ux=>by
        have:=uniq t j' z.1 (x7 j' z Aw) ux;rw[hw]at this;have:=apO this;omega)]
       refine M.todo t (λj' mq tO ux=>?_);have:=uniq t j' mq tO ux;rw[hw]at this;obtain rfl:=apO this;cases de:listed.getD j false with
       | false=>rfl
       | true=>
         rw[fm]at DI;obtain rfl:=apO DI;have:=M.closed j oj fm de e he hb;rw[iu,h1]at this;cases this
   have bU:∀(v:Value) (t:Nat),o.dst≠some t->(a.put o.dst v).tmps.getD t undef=a.tmps.getD t undef:=by
    intro v t hn;cases vB:o.dst with
    | none=>rfl
    | some d=>
      have:d≠t:=λe=>hn (by rw[vB,e])
      simp[Act.put,aqU this]
   have nr:∀j,(listed.setIfInBounds i true).getD j false=true↔(j=i\/listed.getD j false=true):=by
    intro j;by_cases hj:j=i
    ·subst hj;have hjs:j<listed.size:=by have:=M.DG;omega
     simp[Array.getD,hjs]
    ·have:¬i=j:=λe=>hj e.symm
     simp only[aqN,aqU this,hj,false_or]
   have next:∀(m':Nat→Option Value) (p':Nat) (v:Value) (w':World),p≤p'→(∀q,dd=some q→p'≤q)→Inv fo m' (Ls p') w'→Step w (own m) w' (own m')→az w' (OO fo m') m' v r.x→r.pS=p'∨r.pS≤p→(∀x β,β≤p→∀u,az w (OO fo m) m u (gP ks β p x)→(∃t,t < n∧u=a.tmps.getD t undef∧((∃(j:Nat) (oj:Oper) (rj:Rec),l[j]?=some oj∧tr[j]?=some rj∧oj.dst=some t∧listed.getD j false=true∧x=rj.x∧β=rj.pS)∨((∀(j:Nat) (o:Oper),l[j]?=some o→o.dst=some t→listed.getD j false=false)∧x=(getM t qo).2∧β=(getM t qo).1)∨((t,β,x)∈qo∧∀(j:Nat) (o:Oper),l[j]?=some o→o.dst≠some t)))→az w' (OO fo m') m' u (gP ks β p' x))→
     (p'<=fA.length)->(∀q j,fA[q]?=some j->((listed.setIfInBounds i true).getD j false=true↔q<p'))->az w' (OO fo m') m' v (gP ks r.pS p' r.x)->wpAnyIn (wr fo.r) 0 P .any l.toArray (fX fo n m0 w0 Q) fuel (listed.setIfInBounds i true) (a.put o.dst v) w':=by
    intro m' p' v w' On ajs hinv bx hv hb hold ahI adW hvk;refine ih m' p' (listed.setIfInBounds i true) (un.erase i) (a.put o.dst v) w' ?_ ?_ ajs ?_
    ·have gA:=bQ i kF h1;rw[ar4 gA];omega
    ·intro j hj hb;have Ob:¬((listed.setIfInBounds i true).getD j false=true):=by rw[hb];simp
     rw[nr]at Ob;have zf:j≠i:=λe=>Ob (.inl e)
     have pP:listed.getD j false=false:=by
      cases hx:listed.getD j false with
      | false=>rfl
      | true=>exact(Ob (.inr hx)).elim
     exact(List.mem_erase_of_ne zf).2 (bQ j hj pP)
    ·refine⟨?_,?_,hinv,M.step.trans bx,by simpa using M.DG,ahI,adW,?_,?_,?_,?_,?_⟩
     ·cases vB:o.dst<;>simp[Act.put,M.size]
     ·cases vB:o.dst<;>simp[Act.put,M.defers]
     ·intro j rj hrj Oo;rcases(nr j).1 Oo with rfl|G2
      ·rw[rI]at hrj;obtain rfl:=apO hrj;rcases hb with h|h<;>omega
      ·exact aqo (M.born j rj hrj G2) On
     ·intro j oj rj d fm lW lV Oo;by_cases zf:j=i
      ·subst zf;rw[s4]at fm;obtain rfl:=apO fm;rw[rI]at lW;obtain rfl:=apO lW;have FZ:=N9 j o d s4 lV;have:(a.put o.dst v).tmps.getD d undef=v:=by
        have dW:=M.size;rw[lV];simp[Act.put,Array.getD,dW,FZ]
       rw[this];exact hvk
      ·have aa2:o.dst≠some d:=by
        intro e;have q1:=uniq d i o s4 e;have q2:=uniq d j oj fm lV;rw[q1]at q2;exact zf (apO q2).symm
       have G2:=((nr j).1 Oo).resolve_left zf;rw[bU v d aa2];exact hold _ _ (M.born j rj lW G2) _ (M.done j oj rj d fm lW lV G2) ⟨d,N9 j oj d fm lV,rfl,.inl ⟨j,oj,rj,fm,lW,lV,G2,rfl,rfl⟩⟩
     ·intro t Il;have E8:∀(j:Nat) (oj:Oper),l[j]?=some oj->oj.dst=some t->listed.getD j false=false:=by
       intro j oj fm lV;have:=Il j oj fm lV;cases hx:listed.getD j false with
       | false=>rfl
       | true=>have h4:=(nr j).2 (.inr hx);rw[this]at h4;cases h4
      have aa2:o.dst≠some t:=by
       intro e;have:=Il i o s4 e;have h4:=(nr i).2 (.inl rfl);rw[this]at h4;cases h4
      rw[bU v t aa2];by_cases SF:t<n
      ·exact hold _ _ (by rw[ahG];omega) _ (M.todo t E8) ⟨t,SF,rfl,.inr (.inl ⟨E8,rfl,rfl⟩)⟩
      ·have:(getM t qo).2= .any:=by
        have:∀fr:kG,(∀e∈fr,e.1<n)->(getM t fr).2= .any:=by
         intro fr hf
         induction fr with
         | nil=>rfl
         | cons e fr SG=>
           obtain⟨k',b',x'⟩:=e;rw[getM];split
           ·rename_i hk;have h9:k'<n:=hf (k',b',x') ap7;exact absurd (hk ▸ h9) SF
           ·exact SG (λe he=>hf e (ap2 _ he))
        exact this qo ia
       rw[this,K9];exact .any _
     ·intro e he FL;rw[bU v e.1 (FL i o s4)];exact hold _ _ (by rw[CL e he];omega) _ (M.rest e he FL) ⟨e.1,ia e he,rfl,.inr (.inr ⟨he,FL⟩)⟩
     ·intro j oj fm Oo e he iY;rw[nr];rcases(nr j).1 Oo with rfl|G2
      ·rw[s4]at fm;obtain rfl:=apO fm;exact .inr (h3 e he iY)
      ·exact .inr (M.closed j oj fm G2 e he iY)
   unfold wpOpIn;rw[h2];simp only;cases jz:r.lS with
   | false=>
     obtain⟨g1,g2,g3,g4⟩:=ha2 jz;have lP:r.lo<=p:=by
      refine aqr λhn=>?_
      have nz:p<fA.length:=by omega
      have hm:fA[p]∈fA.take r.lo:=by
       rw[arC];exact⟨p,by omega,rfl⟩
      have:=(M.Bx p _ (anc nz)).1 (ada _ (g3 _ hm));omega
     have FN:p<=r.hi:=by
      refine aqr λhn=>?_
      have nz:r.hi<fA.length:=by have:=M.ple;omega
      have hl:=ac9 r.hi _ (anc nz);have hm:fA[r.hi]∈fA.drop r.hi:=by
       rw[List.mem_drop_iff_getElem];exact⟨0,by omega,by simp⟩
      have hb:=(M.Bx r.hi _ (anc nz)).2 (by omega);have:=ahH _ _ (anc hl.1) hb i (g4 _ hm);rw[h1]at this;cases this
     have bq:=rM jz p lP FN DR fo m a w M.inv Oa (wpAnyIn (wr fo.r) 0 P .any l.toArray (fX fo n m0 w0 Q) fuel (listed.setIfInBounds i true)) (fX fo n m0 w0 Q) (λv w' hr ck st=>by
      have cN:bK w (OO fo m) w':=⟨st.size,λb hb ho=>st.block b hb (λh=>ho (.inl h))⟩
      have mono:∀{v:Value} {x:V},az w (OO fo m) m v x->az w' (OO fo m) m v x:=λh=>h.mono cN (λ_ _ h=>h) (λ_ _ h=>h)
      have afH:r.pS<=p:=by unfold Rec.pS;rw[jz];exact lP
      refine next m p v w' (apU _) DR ck st hr (.inr afH) (λx β _ u hu _=>mono hu) M.ple (λq j hq=>?_) ?_
      ·rw[nr,<-M.Bx q j hq];constructor
       ·rintro(rfl|h)
        ·exact(g2 (apT hq)).elim
        ·exact h
       ·exact .inr
      ·exact XZ _ hr)
     split
     ·rename_i hw;rw[if_pos hw]at bq;exact bq
     ·rename_i hw;rw[if_neg hw]at bq;exact⟨λ_ _=>trivial,bq⟩
   | true=>
     obtain⟨g1,g2⟩:=ha1 jz;have hqp:r.q=p:=by
      have e1:¬r.q<p:=λh=>by
       have:=(M.Bx r.q i g1).2 h;rw[h1]at this;cases this
      refine aqr λhn=>?_
      have ay:p<r.q:=by omega
      have nz:p<fA.length:=by have:=(apQ.1 g1).1;omega
      have hm:fA[p]∈fA.take r.q:=by
       rw[arC];exact⟨p,by omega,rfl⟩
      have:=(M.Bx p _ (anc nz)).1 (ada _ (g2 _ hm));omega
     have aoa:=hqp;subst hqp;have ajt:=tA jz
     let cur:Nat->V:=λt=>match writes l t with
      | some j=>if listed.getD j false=true then(match tr[j]? with|some rj=>gP ks rj.pS r.q rj.x|none=> .any)else gP ks (getM t qo).1 r.q (getM t qo).2
      | none=>gP ks (getM t qo).1 r.q (getM t qo).2
     have C4:∀t,az w (OO fo m) m (a.tmps.getD t undef) (cur t):=by
      intro t;simp only[cur];cases hw:writes l t with
      | none=>exact M.todo t (λj mq hj hd=>(np hw hj hd).elim)
      | some j=>
        obtain⟨oj,fm,lV⟩:=ph hw;obtain⟨rj,lW⟩:=Ik j (apQ.1 fm).1;simp only[lW];split
        ·rename_i hb;exact M.done j oj rj t fm lW lV hb
        ·rename_i hb;refine M.todo t (λj' mq tO ux=>?_);have:=uniq t j' mq tO ux;rw[hw]at this;obtain rfl:=apO this;simpa using hb
     let base:List (Nat×V):=(qo.filter λe=>(writes l e.1).isNone).map λe=>(e.1,gP ks e.2.1 r.q e.2.2)
     let gx:List (Nat×V):=(List.range' 0 n).map (λt=>(t,cur t))++base
     have ke:∀t,t<n->eY t gx=cur t:=λt Sz=>Iq n 0 (aqc _) (by omega)
     have g2':G fo n m ⟨gx,Ls r.q⟩ a w:=by
      refine⟨M.size,?_,M.inv,M.defers⟩;intro t x hx;rcases ap9.1 hx with hx|hx
      ·obtain⟨t',Sz,e⟩:=apV.1 hx;simp only[apM]at e;obtain⟨rfl,rfl⟩:=e;have:t'<n:=by have:=List.mem_range'.1 Sz;obtain⟨_,_,_⟩:=this;omega
       exact⟨this,C4 t'⟩
      ·obtain⟨e,he,hex⟩:=apV.1 hx;simp only[apM]at hex;obtain⟨rfl,rfl⟩:=hex;obtain⟨x8,F0⟩:=aq0.1 he;have hwn:writes l e.1=none:=by simpa using F0
       exact⟨ia e x8,M.rest e x8 (λj oj hj=>np hwn hj)⟩
     have M3:∀t,t∈o.looksAt l.toArray->eY t gx=eY t (dc ks r.q r.fr):=by
      intro t AI;rw[ke t (XP o (apT s4) t AI),DO];simp only[cur];cases hw:writes l t with
      | none=>rw[ht.pg t i r rI (λj z _ hj=>np hw (x7 j z hj))]
      | some j=>
        obtain⟨oj,fm,lV⟩:=ph hw;obtain⟨rj,lW⟩:=Ik j (apQ.1 fm).1;obtain⟨gj,hgj⟩:=UE j oj fm;simp only[lW];rcases i3 t AI j hw with⟨ay,e,he,hb,iu⟩|⟨ay,oj',DI,e,he,hb,iu⟩
        ·rw[if_pos (by rw[<-iu];exact h3 e he hb),ht.E5 t i j r rj (oj,gj) rI ay lW hgj lV (λj' z zg _ tO ux=>by
          have:=uniq t j' z.1 (x7 j' z tO) ux;rw[hw]at this;have:=apO this;omega)]
        ·rw[if_neg,ht.pg t i r rI (λj' z tO Aw ux=>by
          have:=uniq t j' z.1 (x7 j' z Aw) ux;rw[hw]at this;have:=apO this;omega)]
         intro de;rw[fm]at DI;obtain rfl:=apO DI;have:=M.closed j oj fm de e he hb;rw[iu,h1]at this;cases this
     rcases ajt with⟨q,vB,ay⟩|⟨vB,y,L',ahJ,aju⟩|⟨vB,hqk,Oq⟩
     ·have:=DR q vB;omega
     ·obtain⟨hw,bq⟩:=ahJ gx M3 fo m a w g2';rw[if_pos hw];refine bq _ _ λch w' m' nT ck st=>?_
      exact .of m' (.iC y) ⟨[],L'⟩ aju ⟨M.size,by simp,ck,M.defers⟩ nT (M.step.trans st)
     have fin:∀(m':Nat->Option Value) (v:Value) (w':World),az w' (OO fo m') m' v r.x->G fo n m' ⟨mR (ks.getD r.q none) gx,Ls (r.q+1)⟩ a w'->Step w (own m) w' (own m')->wpAnyIn (wr fo.r) 0 P .any l.toArray (fX fo n m0 w0 Q) fuel (listed.setIfInBounds i true) (a.put o.dst v) w':=by
      intro m' v w' hr g' st;exact next m' (r.q+1) v w' (by omega) (λq hq=>by have h1:=DR q hq;have h2:q≠r.q:=λe=>vB (by rw[hq,e]);omega) g'.inv st hr (.inl (by unfold Rec.pS;rw[jz];rfl)) (by
       intro x β hβ u hu ⟨t,SF,hut,afI⟩;rw[UB hβ hqk];subst hut;have gA:∀y,(t,y)∈gx->az w' (OO fo m') m' (a.tmps.getD t undef) (kO (ks.getD r.q none) y):=by
        intro y hy;exact(g'.fr t _ (apV.2 ⟨(t,y),hy,rfl⟩)).2
       have adb:(t,cur t)∈gx:=aqm _ (apV.2 ⟨t,List.mem_range'.2 ⟨t,by omega,by omega⟩,rfl⟩);rcases afI with⟨j,oj,rj,fm,lW,lV,hb,rfl,rfl⟩|⟨E8,rfl,rfl⟩|⟨he,FL⟩
       ·have hw:=uniq t j oj fm lV;have:cur t=gP ks rj.pS r.q rj.x:=by simp only[cur,hw,if_pos hb,lW]
        rw[<-this];exact gA _ adb
       ·have:cur t=gP ks (getM t qo).1 r.q (getM t qo).2:=by
         simp only[cur];cases hw:writes l t with
         | none=>rfl
         | some j=>
           obtain⟨oj,fm,lV⟩:=ph hw;simp[E8 j oj fm lV]
        rw[<-this];exact gA _ adb
       ·refine gA _ (aqu _ (apV.2 ⟨(t,β,x),aq0.2 ⟨he,?_⟩,rfl⟩));cases hw:writes l t with
        | none=>simp[hw]
        | some j=>
          obtain⟨oj,fm,lV⟩:=ph hw;exact(FL j oj fm lV).elim)
       (by have:=(apQ.1 g1).1;omega) (λq j hq=>by
        rw[nr,M.Bx q j hq];constructor
        ·rintro(rfl|h)
         ·have e1:=apQ.1 hq;have e2:=apQ.1 g1;have:=(List.getElem_inj kg).1 (e1.2.trans e2.2.symm);omega
         ·omega
        ·intro h;rcases aq7 q r.q with h'|h'
         ·exact .inr h'
         ·obtain rfl:q=r.q:=by omega
          rw[g1]at hq;exact .inl (apO hq).symm)
       (by rw[Bv (by unfold Rec.pS;rw[jz];exact apU _)];exact hr)
     rcases Oq gx M3 fo m a w g2' with⟨hw,bq⟩|⟨hw,hk0,hL0,hr⟩
     ·rw[if_pos hw];exact bq _ _ λv w' m' hr g' st=>fin m' v w' hr g' st
     ·rw[if_neg (by rw[hw];simp)];refine⟨λ_ _=>trivial,fin m undef w hr ?_ (Step.refl w _)⟩;rw[hk0,hL0,iB];exact g2'
theorem UF{fo:FO}{m:Nat→Option Value}{l:List Oper}{s:St}{a:Act}{w:World}{fA:List Nat}{ks:List (Option Nat)}{Ls:Nat→aH}{tr:List Rec}(g:G fo n m s a w)(k:Nat)(hL:Ls 0=s.L):
  aa1 fo m m w n l fA ks Ls (s.fr.map λe=>(e.1,0,e.2)) tr 0 (Array.replicate l.length false) a {w with drawn:=k}:=by
 have st:Step w (own m) {w with drawn:=k} (own m):=⟨rfl,rfl,rfl,apU _,λ_ _ _=>rfl,λ_ _ h=>h⟩
 have mono:∀{v:Value} {x:V},az w (OO fo m) m v x->az {w with drawn:=k} (OO fo m) m v x:=λh=>h.mono st.rH (λ_ _ h=>h) (λ_ _ h=>h)
 have DS:∀j,(Array.replicate l.length false).getD j false=false:=by intro j;simp[Array.getD]
 refine⟨g.size,g.defers,by rw[hL];exact g.inv.grown (apU _) (λ_ _=>rfl),st,by simp,aqc _,?_,?_,?_,?_,?_,?_⟩
 ·intro q j _;rw[DS];simp
 ·intro j r _ hb;rw[DS]at hb;cases hb
 ·intro j o r d _ _ _ hb;rw[DS]at hb;cases hb
 ·intro t _;rw[Bv (aqc _)];have:(getM t (s.fr.map λe=>(e.1,0,e.2))).2=s.get t:=by
   unfold St.get;generalize s.fr=fr
   induction fr with
   | nil=>rfl
   | cons e fr ih=>
     obtain⟨k,x⟩:=e;simp only[aqd,getM,eY];split
     ·rfl
     ·exact ih
  rw[this];exact mono (qP g t)
 ·intro e he _;obtain⟨x,hx,rfl⟩:=apV.1 he;rw[Bv (aqc _)];exact mono (g.fr x.1 x.2 hx).2
 ·intro j o _ hb;rw[DS]at hb;cases hb
theorem UG{dd:Option Nat}{l:List Oper}{s:St}{rg:List (Option (Nat×Nat))}{ks:List (Option Nat)}{Ls:Nat→aH}{jO:kG}{tr:List Rec}(ok:Ld n l rg=true)(ht:pT (l.zip rg) (s.fr.map fun e=>(e.1,0,e.2)) 0 tr jO ks.length)
  (JX:∀(i:Nat) (r:Rec) (z:Oper×Option (Nat×Nat)),tr[i]?=some r->(l.zip rg)[i]?=some z->afF P n Q l.toArray dd ks Ls r z.1) (hL:Ls 0=s.L) (hdq:∀q,dd=some q->q<ks.length) (hq:dd=none->Q .normal ⟨dc ks ks.length jO,Ls ks.length⟩)
  {fo:FO} {m:Nat->Option Value} {a:Act} {w:World} (g:G fo n m s a w) (k:Nat):wpAnyIn (wr fo.r) 0 P .any l.toArray (fX fo n m w Q) l.length (Array.replicate l.length false) a {w with drawn:=k}:=by
 simp only [Ld,apP,beq_iff_eq,decide_eq_true_eq,apR]at ok;obtain⟨⟨⟨⟨⟨⟨o1,o2⟩,o3⟩,o4⟩,o5⟩,o6⟩,o7⟩:=ok;have afG:=(SE ht 0 o6).1;exact UC o3 ht (fun i r o hr ho=>by
   have kF:=(apQ.1 ho).1;exact JX i r (o,rg[i]'(by omega)) hr (by rw[arY];exact⟨ho,anc (by omega)⟩))
  o1 o2 o4 o5 o6 (λo ho t ht=>by simpa using o7 o ho t ht) rfl (λq h=>by rw[afG];exact hdq q h) hq
  (λe he=>by obtain⟨x,hx,rfl⟩:=apV.1 he;exact(g.fr x.1 x.2 hx).1) (λe he=>by obtain⟨x,hx,rfl⟩:=apV.1 he;rfl)
  l.length m 0 _ (List.range l.length) a _ (by simp) (λi hi _=>by simpa using hi) (λq _=>aqc _) (UF g k hL)
theorem Bz{l:List Oper}{s:St}{rg:List (Option (Nat×Nat))}{ks:List (Option Nat)}{Ls:Nat→aH}{jO:kG}{tr:List Rec}(ok:Ld n l rg=true)(ht:pT (l.zip rg) (s.fr.map fun e=>(e.1,0,e.2)) 0 tr jO ks.length)
  (JX:∀(i:Nat) (r:Rec) (z:Oper×Option (Nat×Nat)),tr[i]?=some r->(l.zip rg)[i]?=some z->G1 P n l.toArray ks Ls r z.1) (hL:Ls 0=s.L) (hq:Q .normal ⟨dc ks ks.length jO,Ls ks.length⟩)
  {fo:FO} {m:Nat->Option Value} {a:Act} {w:World} (g:G fo n m s a w) (k:Nat):wpAnyIn (wr fo.r) 0 P .any l.toArray (fX fo n m w Q) l.length (Array.replicate l.length false) a {w with drawn:=k}:=
 UG (dd:=none) ok ht (λi r z hr hz=>⟨λhl=> .inr (.inr ⟨by simp,(JX i r z hr hz).1 hl⟩),λhl p h1 h2 _=>(JX i r z hr hz).2 hl p h1 h2⟩) hL (by simp) (λ_=>hq) g k
end
section
variable {P : Program} {n : Nat} {Q : AX -> St -> Prop}
def qv(P:Program)(ops:Array Oper)(s:St)(o:Oper):Option (V×Prop):=
 match gk ops s o with
 | some none=>q2 P s.ev s.L o
 | some (some g)=>some (.gd g (Uy (q2 P (N0 s o) s.L o)),g=true->Uz (q2 P (N0 s o) s.L o)/\gU s o)
 | none=>none
def cv(P:Program)(ops:Array Oper)(s:St)(o:Oper)(u:V):Option (V×Prop):=
 match gk ops s o with
 | some none=>some (u,wS P s o u)
 | some (some g)=>some (.gd g u,g=true->wT P s o u)
 | none=>none
theorem BA{ops s o x c}(h:qv P ops s o=some (x,c))(hc:c):rU P ops o s x:=by
 unfold qv at h;split at h
 ·rename_i hg;exact zd (lB hg) (.UA (uD h hc))
 ·rename_i g hg;cases h;refine ze hg (λhb=>?_);obtain⟨k1,k2⟩:=hc hb;obtain⟨c',h3,h4⟩:=Bp k1;exact⟨_,JU k2,.UA (uD h3 h4)⟩
 grind
theorem G3{ops s o u x c}(h:cv P ops s o u=some (x,c))(hc:c):rU P ops o s x:=by
 unfold cv at h;split at h
 ·grind[zd,lB,wS.FY]
 ·grind[ze,wT.FY]
 grind
def pD:Nat->Nat->(Nat->Prop)->Prop
 | 0,_,_=>True
 | k+1,p,f=>f p/\pD k (p+1) f
theorem AJ{f}:∀{k p},pD k p f->∀i,p<=i->i<p+k->f i
 | 0,p,_,i,h1,h2=>by omega
 | k+1,p,h,i,h1,h2=>by
   rcases aq7 p i with ay|bR
   ·exact AJ h.2 i (by omega) (by omega)
   ·obtain rfl:p=i:=by omega
    exact h.1
structure Le where
 o:Oper
 fr:kG
 x:V
 lo:Nat
 hi:Nat
 told:Option V
def x9(P:Program)(ops:Array Oper)(o:Oper)(s:St)(x:V):Option V->Prop
 | some u=>match cv P ops s o u with
   | some (x',c)=>x'=x/\c
   | none=>False
 | none=>match qv P ops s o with
   | some (x',c)=>x'=x/\c
   | none=>False
theorem Lf{ops s o x t}(h:x9 P ops o s x t):rU P ops o s x:=by
 cases t with
 | some u=>
   simp[x9]at h;split at h
   ·rename_i x' c hc;obtain⟨rfl,h⟩:=h;exact G3 hc h
   grind
 | none=>
   simp[x9]at h;split at h
   ·rename_i x' c hc;obtain⟨rfl,h⟩:=h;exact BA hc h
   grind
def BC(P:Program)(ops:Array Oper)(ks:List (Option Nat))(Ls:List aH):List Le->Prop
 | []=>True
 | d::ds=>pD (d.hi-d.lo) (d.lo+1) (λp=>x9 P ops d.o ⟨dc ks p d.fr,Ls.getD p []⟩ d.x d.told)/\BC P ops ks Ls ds
def gv(P:Program)(ops:Array Oper)(o:Oper)(s:St)(K:V->Option Nat->aH->Prop):Prop:=∃x k L',(∀n,fK P n ops o s.fr s.L k x L')/\K x k L'
theorem gv.intro{ops o s K x k L'}(h:∀n,fK P n ops o s.fr s.L k x L')(hk:K x k L'):gv P ops o s K:=⟨x,k,L',h,hk⟩
def runM(P:Program)(ops:Array Oper):List (Oper×Option (Nat×Nat))->kG->List (Option Nat)->List aH->List V->List Le->(kG->List (Option Nat)->List aH->Prop)->Prop
 | [],fr,ks,Ls,_,ds,K=>BC P ops ks Ls ds/\K fr ks Ls
 | (o,none)::rest,fr,ks,Ls,us,ds,K=>
   match lv P ops ⟨dc ks ks.length fr,Ls.getD ks.length []⟩ o with
   | some (x,k,L',c)=>c/\runM P ops rest (gZ fr o.dst (ks.length+1) x) (ks++ [k]) (Ls++ [L']) us ds K
   | none=>gv P ops o ⟨dc ks ks.length fr,Ls.getD ks.length []⟩ λx k L'=>runM P ops rest (gZ fr o.dst (ks.length+1) x) (ks++ [k]) (Ls++ [L']) us ds K
 | (o,some (lo,hi))::rest,fr,ks,Ls,us,ds,K=>
   if rT o then
    match us with
    | []=>False
    | u::kZ=>match cv P ops ⟨dc ks ks.length fr,Ls.getD ks.length []⟩ o u with
      | some (x,c)=>c∧pD (ks.length-lo) lo (fun p=>x9 P ops o ⟨dc ks p fr,Ls.getD p []⟩ x (some u))∧
        runM P ops rest (gZ fr o.dst lo x) ks Ls kZ (if ks.length<hi then⟨o,fr,x,ks.length,hi,some u⟩::ds else ds) K
      | none=>False
   else
    match qv P ops ⟨dc ks ks.length fr,Ls.getD ks.length []⟩ o with
    | some (x,c)=>c∧pD (ks.length-lo) lo (fun p=>x9 P ops o ⟨dc ks p fr,Ls.getD p []⟩ x none)∧
      runM P ops rest (gZ fr o.dst lo x) ks Ls us (if ks.length<hi then⟨o,fr,x,ks.length,hi,none⟩::ds else ds) K
    | none=>False
theorem uK{Ls Ls':List aH}{p}(h:p<Ls.length):(Ls++Ls').getD p []=Ls.getD p []:=by
 grind
theorem E9{ops}{K}:∀l fr ks Ls us ds,Ls.length=ks.length+1→runM P ops l fr ks Ls us ds K→
  ∃tr jO jP lX,pT l fr ks.length tr jO (ks++jP).length/\(∀(i:Nat) r z,tr[i]?=some r->l[i]?=some z->G1 P n ops (ks++jP) (λp=>(Ls++lX).getD p []) r z.1)/\
   BC P ops (ks++jP) (Ls++lX) ds/\K jO (ks++jP) (Ls++lX)
 | [],fr,ks,Ls,us,ds,hl,h=>by
   refine⟨[],fr,[],[],?_,by simp,?_,?_⟩
   ·simp only[aqp];exact .nil fr ks.length
   ·simpa using h.1
   ·simpa using h.2
 | (o,none)::rest,fr,ks,Ls,us,ds,hl,h=>by
   have key:∀(x:V) (k:Option Nat) (L':aH),fK P n ops o (dc ks ks.length fr) (Ls.getD ks.length []) k x L'→runM P ops rest (gZ fr o.dst (ks.length+1) x) (ks++ [k]) (Ls++ [L']) us ds K→
     ∃tr jO jP lX,pT ((o,none)::rest) fr ks.length tr jO (ks++jP).length/\(∀(i:Nat) (r:Rec) (z:Oper×Option (Nat×Nat)),tr[i]?=some r->((o,none)::rest)[i]?=some z->G1 P n ops (ks++jP) (λp=>(Ls++lX).getD p []) r z.1)/\
      BC P ops (ks++jP) (Ls++lX) ds/\K jO (ks++jP) (Ls++lX):=by
    intro x k L' Oq hr;obtain⟨tr,jO,jP,lX,h1,h2,h3,h4⟩:=E9 rest _ _ _ us ds (by grind) hr;rw[ap0]at h1 h3 h4;simp only[ap0,apX,apY,aqj]at h1 h2 h3 h4;refine⟨⟨fr,x,0,0,true,ks.length⟩::tr,jO,_,_,.lS (by grind),?_,h3,h4⟩;intro i r z hi hz;cases i with
    | zero=>
      simp only[aqk,akC]at hi hz;subst hi;subst hz;refine⟨λ_=>⟨by simp,?_⟩,(λh=>by cases h)⟩;simp only;rw[uJ (apU _),uK (by omega)];grind
    | succ i=>grind
   rw[runM]at h;split at h
   ·rename_i x k L' c bx;exact key x k L' (fK.of (n:=n) bx h.1) h.2
   ·obtain⟨x,k,L',Oq,hr⟩:=h;grind
 | (o,some (lo,hi))::rest,fr,ks,Ls,us,ds,hl,h=>by
   have key:∀(x:V) (t:Option V) (kZ:List V),rU P ops o ⟨dc ks ks.length fr,Ls.getD ks.length []⟩ x→pD (ks.length-lo) lo (fun p=>x9 P ops o ⟨dc ks p fr,Ls.getD p []⟩ x t)→
     runM P ops rest (gZ fr o.dst lo x) ks Ls kZ (if ks.length<hi then⟨o,fr,x,ks.length,hi,t⟩::ds else ds) K->
     ∃tr jO jP lX,pT ((o,some (lo,hi))::rest) fr ks.length tr jO (ks++jP).length/\(∀(i:Nat) (r:Rec) (z:Oper×Option (Nat×Nat)),tr[i]?=some r->((o,some (lo,hi))::rest)[i]?=some z->G1 P n ops (ks++jP) (λp=>(Ls++lX).getD p []) r z.1)/\
      BC P ops (ks++jP) (Ls++lX) ds/\K jO (ks++jP) (Ls++lX):=by
    intro x t kZ hc ha hr;obtain⟨tr,jO,jP,lX,h1,h2,h3,h4⟩:=E9 rest _ _ _ kZ _ hl hr;have Xw:BC P ops (ks++jP) (Ls++lX) ds:=by
     split at h3
     ·exact h3.2
     omega
    refine⟨⟨fr,x,lo,hi,false,ks.length⟩::tr,jO,jP,lX,.quiet h1,?_,Xw,h4⟩;intro i r z ck hz;cases i with
    | zero=>
      simp only[aqk,akC]at ck hz;subst ck;subst hz;refine⟨(λh=>by cases h),λ_ p nz qi=>?_⟩;simp only at nz qi⊢;rcases Nat.lt_trichotomy p ks.length with ay|heq|hgt
      ·grind[uJ,uK,Lf,AJ]
      ·grind[uJ,uK]
      ·rw[if_pos (by omega)]at h3;exact Lf (AJ h3.1 p (by grind) (by grind))
    | succ i=>grind
   cases pR:rT o with
   | true=>
     cases us with
     | nil=>simp_all[runM,if_pos]
     | cons u kZ=>
       rw[runM,if_pos pR]at h;split at h
       ·rename_i x c hcv;exact key x (some u) kZ (G3 hcv h.1) h.2.1 h.2.2
       grind
   | false=>
     rw[runM.eq_def]at h;simp only[pR,aqq,if_false]at h;split at h
     ·rename_i x c hqv;exact key x none us (BA hqv h.1) h.2.1 h.2.2
     grind
theorem aw.bI{id}{l}{s} rg us(hm:P.follows .mixedOrders=true)(ok:Ld n l rg=true)
  (h:runM P l.toArray (l.zip rg) (s.fr.map λe=>(e.1,0,e.2)) [] [s.L] us [] (λfr ks Ls=>Q .normal ⟨dc ks ks.length fr,Ls.getD ks.length []⟩)):aw P n (.region id l.toArray true) s Q:=by
 intro fo m a w _ g;obtain⟨tr,jO,ks,Ls,h1,h2,-,h4⟩:=E9 (l.zip rg) _ [] [s.L] us [] rfl h;exact wpIn_region_any hm (Bz ok h1 h2 rfl h4 g _)
def UH(bs:Nat->Nat)(h:Nat):aV->aV
 | .box 0 ty cs=> .box (bs h+1) ty cs
 | r=>r
def St.vC(bs:Nat->Nat)(s:St):St:=⟨s.fr,s.L.map λp=>(p.1,UH bs p.1 p.2)⟩
@[simp] theorem ajv(bs:Nat->Nat)(h:Nat)(ty:TypeId)(k:Nat)(xs:List (List V)):UH bs h (.row ty k xs)= .row ty k xs:=rfl
@[simp] theorem ajw(bs:Nat->Nat)(h b:Nat)(ty:TypeId)(cs:List V):UH bs h (.box (b+1) ty cs)= .box (b+1) ty cs:=rfl
@[simp] theorem aiL(bs:Nat->Nat)(h:Nat)(ty:TypeId)(cs:List V):UH bs h (.box 0 ty cs)= .box (bs h+1) ty cs:=rfl
theorem G.vC{fo m s a w}(g:G fo n m s a w):∃bs,G fo n m (s.vC bs) a w:=by
 let bs:=λh=>match m h with
  | some (.pointer (some x))=>x.block
  | _=>0
 have hi:=g.inv;have hk:keys (St.vC bs s).L=keys s.L:=by simp[St.vC]
 refine⟨bs,g.size,g.fr,⟨by rw[hk];exact hi.nodup,λh x hx=>by rw[hk];exact hi.fI h x hx,hi.apart,hi.others,hi.ei,?_,hi.ef⟩,g.defers⟩;intro h r hr;obtain⟨p,hp,he⟩:=apV.1 hr;cases he;obtain⟨x,hx,hh⟩:=hi.holds p.1 p.2 hp;refine⟨x,hx,?_⟩;generalize hq:p.2=q at hh;cases q with
 | row ty k xs=>exact hh
 | env A=>exact hh
 | mp es=>exact hh
 | box b ty cs=>
   cases b with
   | succ b=>exact hh
   | zero=>
     obtain⟨bb,_,cur,rfl,h1⟩:=hh;refine⟨bb,.inr ?_,cur,rfl,h1⟩;grind
theorem aw.opened{c s}(h:aw P n c s (λx s'=>∀bs,Q x (s'.vC bs))):aw P n c s Q:=by
 intro fo m a w hr g;refine Code.wpIn_mono (λe a1 w1 hp=>?_) (h fo m a w hr g);obtain⟨ms,m',x,s',hm,hq,g',he,st⟩:=hp;obtain⟨bs,g2⟩:=g'.vC;exact⟨ms,m',x,s'.vC bs,hm,hq bs,g2,he,st⟩
theorem aw.JY{id}{l}{s} rg us(hm:P.follows .mixedOrders=true)(ok:Ld n l rg=true)
  (h:runM P l.toArray (l.zip rg) (s.fr.map λe=>(e.1,0,e.2)) [] [s.L] us [] (λfr ks Ls=>∀bs,Q .normal (St.vC bs ⟨dc ks ks.length fr,Ls.getD ks.length []⟩))):aw P n (.region id l.toArray true) s Q:=
 aw.opened (aw.bI rg us hm ok h)
attribute [simp] St.vC runM lv qv cv x9 BC pD gD dc gP kO gZ DN u4
end
section
variable {P : Program} {n : Nat} {s : St} {L : aH}
theorem Wk.Ot{t h k ty}(hg:eY t s.fr= .d (.v (.slice none 0 0)))(hn:h∉keys s.L):Wk n s ⟨(t,.rv h)::vS t s.fr,(h,.row ty k [])::s.L⟩:=by
 intro fo m a w g;obtain⟨g',st⟩:=g.new (hZ.refl w) hn (r:= .row ty k []) (by simp[df,jU]) (.inl ⟨rfl,rfl⟩);have hm:(t,eY t s.fr)∈s.fr:=by
  grind[xF]
 rw[hg]at hm;refine⟨_,⟨g'.size,?_,g'.inv,g'.defers⟩,st⟩;intro t' x hx;simp at hx;rcases hx with⟨rfl,rfl⟩|hx
 ·obtain⟨h1,h2⟩:=g'.fr t' _ hm;refine⟨h1,?_⟩;have:=h2.cq;rw[this];exact .rv h _ (cn _ _) rfl
 ·exact g'.fr t' x (sr hx).1
theorem Wk.aa3{t}(hg:eY t s.fr= .d (.v (.slice none 0 0))):Wk n s ⟨(t,.d (.sl []))::vS t s.fr,s.L⟩:=by
 intro fo m a w g;have hm:(t,eY t s.fr)∈s.fr:=by
  grind[xF]
 rw[hg]at hm;refine⟨m,⟨g.size,?_,g.inv,g.defers⟩,Step.refl w _⟩;intro t' x hx;simp at hx;rcases hx with⟨rfl,rfl⟩|hx
 ·obtain⟨h1,h2⟩:=g.fr t' _ hm;refine⟨h1,?_⟩;have:=h2.cq;rw[this];exact .d _ _ xm
 ·exact g.fr t' x (sr hx).1
def St.pick(ts hs:List Nat)(s:St):St:=⟨ts.map λt=>(t,eY t s.fr),hs.filterMap λh=>(s.L.lookup h).map λr=>(h,r)⟩
theorem X1(hs:List Nat)(L:aH):∀x,x∈keys (hs.filterMap λh=>(L.lookup h).map λr=>(h,r))->x∈hs:=by
 simp_all
theorem BD(L:aH):∀hs:List Nat,hs.Nodup->(keys (hs.filterMap λh=>(L.lookup h).map λr=>(h,r))).Nodup
 | [],_=>by simp
 | h::hs,hn=>by
   have Lg:=aqZ.1 hn;rw[arq];cases hl:L.lookup h with
   | none=>exact BD L hs Lg.2
   | some r=>
     simp only[aqe,keys,aqd,aqZ];exact⟨λhm=>Lg.1 (X1 hs L h hm),BD L hs Lg.2⟩
theorem Wk.pick ts hs(ht:ts.all (λt=>decide (t<n))=true)(hh:hs.Nodup)(iu:(s.pick ts hs).on (keys (s.pick ts hs).L)=true):Wk n s (s.pick ts hs):=by
 intro fo m a w g;have key:Wk n ⟨(s.pick ts hs).fr++s.fr,s.L⟩ (s.pick ts hs):=Wk.drop (fun p hp=>aqm _ hp) (fun p hp=>by
   obtain⟨h,_,he⟩:=aq6.1 hp;obtain⟨r,hr,rfl⟩:=apN.1 he;exact dD hr) (BD _ _ hh) iu
 refine key fo m a w ⟨g.size,λt x hx=>?_,g.inv,g.defers⟩;rcases ap9.1 hx with hx|hx
 ·obtain⟨t',Sz,e⟩:=apV.1 hx;simp at e;obtain⟨rfl,rfl⟩:=e;refine⟨by grind,?_⟩;exact qP g t'
 ·exact g.fr t x hx
attribute [simp] St.pick
@[simp] theorem aha l k v:(dd (aD l)).set k [iD v]=dd (aD (l.set k v)):=by
 simp[dd,aD]
@[simp] theorem afJ l v:dd (aD l)++ [[iD v]]=dd (aD (l++ [v])):=by
 simp[dd,aD]
@[simp] theorem akH xs k:(∀y∈dd xs,y.length=k)↔∀x∈xs,x.length=k:=by
 simp[dd]
@[simp] theorem aiM l:(∀x∈aD l,x.length=1)↔True:=by
 simp[aD]
variable {Q : AX -> St -> Prop} {ops : Array Oper} {us : List V}
@[congr] theorem ajx{c s s'}(h:s=s'):cP P n c s Q=cP P n c s' Q:=by rw[h]
@[congr] theorem akI{l s s'}(h:s=s'):ar P n ops l s Q=ar P n ops l s' Q:=by rw[h]
@[congr] theorem ali{c s s'}(h:s=s'):aw P n c s Q=aw P n c s' Q:=by rw[h]
@[congr] theorem akJ{l}{fr kj}{ks SC}{Ls Ls'}{us kZ}{ds ds'}{K}
  (h1:fr=kj) (h2:ks=SC) (h3:Ls=Ls') (h4:us=kZ) (h5:ds=ds'):runM P ops l fr ks Ls us ds K=runM P ops l kj SC Ls' kZ ds' K:=by grind
inductive KI where
 | seq (c:Code)
 | df (id:Nat)
 | inv (J:St->Prop)
def cm(P:Program)(n:Nat)(Q:AX->St->Prop):List KI->AX->St->Prop
 | []=>Q
 | .seq c::ks=>AX.then (λs=>cP P n c s (cm P n Q ks)) (cm P n Q ks)
 | .df id::ks=>AX.inBlock id (cm P n Q ks)
 | .inv J::ks=>AX.then J (cm P n Q ks)
theorem Ou{id l s}:cP P n (.region id l.toArray false) s Q=(dB n l=true/\∀bs,eN P l.toArray l s bs [] (KK P n l.toArray Q)):=by rfl
theorem UI{id}{l:List Oper}{s}:cP P n (.region id l.toArray true) s Q=aw P n (.region id l.toArray true) s Q:=by rfl
theorem UJ{s}:cP P n .skip s Q=Q .normal s:=by rfl
theorem X2{x y s ks}:cP P n (.seq x y) s (cm P n Q ks)=cP P n x s (cm P n Q (.seq y::ks)):=by rfl
def Fa(P:Program)(n:Nat)(v:V)(x y:Code)(s:St)(Q:AX->St->Prop):Prop:=
 match v with
 | oD t=>(t=true->cP P n x s Q)/\(t=false->cP P n y s Q)
 | _=>False
@[simp] theorem cB{t x y s}:Fa P n (oD t) x y s Q=((if t=true then cP P n x s Q else True)/\(if t=true then True else cP P n y s Q)):=by
 cases t<;>simp[Fa]
@[simp] theorem akK{x y s}:Fa P n (oD true) x y s Q=cP P n x s Q:=by simp
@[simp] theorem akL{x y s}:Fa P n (oD false) x y s Q=cP P n y s Q:=by simp
theorem aA{t x y s}(h1:t=true->cP P n x s Q)(h2:t=false->cP P n y s Q):Fa P n (oD t) x y s Q:=⟨h1,h2⟩
theorem UK{c x y s}:cP P n (.cond c x y) s Q=Fa P n (s.ev c) x y s Q:=by
 rfl
theorem QT{id c s ks}:cP P n (.block id c) s (cm P n Q ks)=cP P n c s (cm P n Q (.df id::ks)):=by rfl
theorem UL{id s}:cP P n (.exit id) s Q=Q (.exit id) s:=by rfl
theorem X3{s}:cP P n .ret s Q=Q .ret s:=by rfl
theorem UM{c s}:cP P n (.loop c) s Q=aw P n (.loop c) s Q:=by rfl
attribute [simp] Ou UI UJ X2 UK QT UL X3 UM
variable {ks : List KI}
@[simp] theorem aiN{x:AX}:cm P n Q [] x s=Q x s:=rfl
@[simp] theorem ahb{c:Code}:cm P n Q (.seq c::ks) .normal s=cP P n c s (cm P n Q ks):=rfl
@[simp] theorem ahc{c:Code}{i:Nat}:cm P n Q (.seq c::ks) (.exit i) s=cm P n Q ks (.exit i) s:=rfl
@[simp] theorem ahd{c:Code}{i:Nat}:cm P n Q (.seq c::ks) (.goto i) s=cm P n Q ks (.goto i) s:=rfl
@[simp] theorem ahe{c:Code}:cm P n Q (.seq c::ks) .ret s=cm P n Q ks .ret s:=rfl
@[simp] theorem ahf{c:Code}{v:V}:cm P n Q (.seq c::ks) (.iC v) s=cm P n Q ks (.iC v) s:=rfl
@[simp] theorem ahg{J:St->Prop}:cm P n Q (.inv J::ks) .normal s=J s:=rfl
@[simp] theorem ahh{J:St->Prop}{i:Nat}:cm P n Q (.inv J::ks) (.exit i) s=cm P n Q ks (.exit i) s:=rfl
@[simp] theorem ahi{J:St->Prop}{i:Nat}:cm P n Q (.inv J::ks) (.goto i) s=cm P n Q ks (.goto i) s:=rfl
@[simp] theorem ahj{J:St->Prop}:cm P n Q (.inv J::ks) .ret s=cm P n Q ks .ret s:=rfl
@[simp] theorem ahk{J:St->Prop}{v:V}:cm P n Q (.inv J::ks) (.iC v) s=cm P n Q ks (.iC v) s:=rfl
@[simp] theorem ahl{i:Nat}:cm P n Q (.df i::ks) .normal s=cm P n Q ks .normal s:=rfl
@[simp] theorem ahm{i j}:cm P n Q (.df i::ks) (.exit j) s=if j=i then cm P n Q ks .normal s else cm P n Q ks (.exit j) s:=by
 rfl
@[simp] theorem ahn{i j:Nat}:cm P n Q (.df i::ks) (.goto j) s=cm P n Q ks (.goto j) s:=rfl
@[simp] theorem aho{i:Nat}:cm P n Q (.df i::ks) .ret s=cm P n Q ks .ret s:=rfl
@[simp] theorem ahp{i:Nat}{v:V}:cm P n Q (.df i::ks) (.iC v) s=cm P n Q ks (.iC v) s:=rfl
theorem aE.run{f}{args}{R}{fn}{c}(hf:P.funcs[f]?=some fn)(hb:fn.body=some c)(hn:args.length≤fn.ntmps)
  (h:cP P fn.ntmps c ⟨eH 0 args,L⟩ (cm P fn.ntmps (fj P fn.results.toList R) [])):aE P f args L R:=
 aE.xY hf hb hn (eg _ _ _ h)
end
end Go.Ab
namespace Go.Ab
mutual
def V.fM(h:Nat)(y:V):V->V
 | .bp i o=>if i=h then .any else .bp i o
 | .rv i=>if i=h then y else .rv i
 | .ep i k a b=>if i=h then .any else .ep i k a b
 | .eW fn f c=> .eW fn (V.mC h y f) (V.mC h y c)
 | .agg cs=> .agg (V.mC h y cs)
 | .bM cs=> .bM (V.mC h y cs)
 | .gd b x=> .gd b (V.fM h y x)
 | .d x=> .d x
 | .rp cs=> .rp cs
 | .sv i n=>if i=h then .any else .sv i n
 | .kn Q=> .kn Q
 | .any=> .any
def V.mC(h:Nat)(y:V):List V->List V
 | []=> []
 | x::l=>V.fM h y x::V.mC h y l
end
theorem pj h y:∀l:List V,V.mC h y l=l.map (V.fM h y)
 | []=>by rfl
 | x::l=>by simp[V.mC,pj]
@[simp] theorem vD h y(l:List D):V.mC h y (l.map V.d)=l.map V.d:=by
 rw[pj,arc];simp[V.fM]
def aV.fM(h:Nat)(y:V):aV->aV
 | .box b ty cs=> .box b ty (V.mC h y cs)
 | .row ty k xs=> .row ty k (xs.map (V.mC h y))
 | .env A=> .env A
 | .mp es=> .mp es
@[simp] theorem ahq h y ys:(dd ys).map (V.mC h y)=dd ys:=by
 unfold dd;simp
section
variable {P : Program} {w w' : World} {fo : FO} {m m' : Nat -> Option Value} {L : aH} {n : Nat} {s : St}
theorem az.fM{O O' h y}(hO:∀b,O' b->O b)(hm:∀i x,i≠h->m i=some x->m' i=some x)(hy:∀v,m h=some v->az w O' m' v y){x z}(hr:az w O m x z):az w O' m' x (V.fM h y z):=by
 induction hr with
 | d x y hd=>simpa[V.fM]using az.d x y (hd.mono (bK.refl w _) (λb _ hb=>hO b hb))
 | bp i off b e=>
   simp only[V.fM];split
   ·exact .any _
   ·rename_i bU;exact .bp i off b (hm _ _ bU e)
 | rv i x e e1=>
   simp only[V.fM];split
   ·grind
   ·rename_i bU;exact .rv i x (hm _ _ bU e) e1
 | ep i k p q b o n c e=>
   simp only[V.fM];split
   ·exact .any _
   ·rename_i bU;exact .ep i k p q b o n c (hm _ _ bU e)
 | rp b off cs f hb ay hc hr=>simpa[V.fM]using az.rp (m:=m') b off cs f (λh=>hb (hO b h)) ay hc (λj y hy=>(hr j y hy).mono (bK.refl w _) (λb _ hb=>hO b hb))
 | sv i n b cap e hc hx=>
   simp only[V.fM];split
   ·exact .any _
   ·rename_i bU;exact .sv i n b cap (hm _ _ bU e) hc hx
 | eW fn first eh cf cc s1 s2 h1 h2 CY FH=>
   simp only[V.fM,pj];refine .eW fn first eh _ _ (by grind) (by grind) ?_ ?_
   ·grind
   grind
 | agg vs cs hs h1 h2 ih=>
   simp only[V.fM,pj];refine .agg vs _ (by grind) h1 ?_;grind
 | bM vs cs hs h2 ih=>
   simp only[V.fM,pj];refine .bM vs _ (by grind) ?_;grind
 | gt x y h ih=>simpa[V.fM]using az.gt _ _ ih
 | gf y=>simpa[V.fM]using az.gf _
 | kn x Q h=>simpa[V.fM]using az.kn x Q h
 | any x=>simpa[V.fM]using az.any _
theorem aV.Holds.fM{O O' h y}(hO:∀b,O' b->O b)(hm:∀i x,i≠h->m i=some x->m' i=some x)(hy:∀v,m h=some v->az w O' m' v y){x}{r:aV}(hr:r.Holds w O m x):(r.fM h y).Holds w O' m' x:=by
 cases r with
 | box b ty cs=>
   obtain⟨bb,kA,cur,rfl,h1,h2,h3,h4⟩:=hr;refine⟨bb,kA,cur,rfl,h1,by simp_all[pj],h3,λj v c hv hc=>?_⟩;rw[pj,apS]at hc;obtain⟨z,hz,rfl⟩:=apN.1 hc;exact(h4 j v z hv hz).fM hO hm hy
 | row ty k xs=>
   rcases hr with⟨h1,h2⟩|⟨b,off,cap,cur,rfl,h1,h2,h3,h4,h5,h6,h7⟩
   ·exact .inl ⟨h1,by grind⟩
   ·refine .inr ⟨b,off,cap,cur,by simp,h1,by grind,h3,h4,?_,h6,?_⟩
    ·grind[pj,List.length_map]
    ·intro i j x y' v hx nw hv;rw[apS]at hx;obtain⟨z,hz,rfl⟩:=apN.1 hx;rw[pj,apS]at nw;obtain⟨u,hu,rfl⟩:=apN.1 nw;exact(h7 i j z u v hz hu hv).fM hO hm hy
 | env A=>exact A.mono hr (λ_ _=>rfl) (bK.refl w _) (λb _ h=>hO b h)
 | mp es=>exact KO hr (λ_ _=>rfl) (bK.refl w _) (λb _ h=>hO b h)
theorem Lh{O'}(hi:Inv fo m L w){h k ty ys}(hl:L.lookup h=some (.row ty k (dd ys))){v}(hv:m h=some v)(hO:∀b,O' b->OO fo m b)(de:∀b,df v b->¬O' b):eX w O' v (.sl ys):=by
 obtain⟨x,hx,hh⟩:=hi.holds h _ (dD hl);rw[hv]at hx;obtain rfl:=apO hx;rcases hh with⟨rfl,hy⟩|⟨b,off,cap,cur,rfl,hb,h1,h2,h3,h4,h5,h6⟩
 ·simp_all[dd,xm]
 ·have hlen:(dd ys).length=ys.length:=by simp
  rw[hlen]at h1⊢;have ke:∀(i:Nat) (x:List D),ys[i]?=some x->(dd ys)[i]?=some (x.map V.d):=by
   simp_all
  have Ip:∀(i:Nat) (x:List D),ys[i]?=some x->x.length=k:=by
   grind
  have iY:∀i j,i<ys.length->j<k->off+i *k+j<cur.size:=by
   intro i j hi hj;have:(i+1) *k<=cap *k:=aqb _ (by omega);grind
  refine .sl (some ⟨b,off,none⟩) ys.length cap ys k b off (λi j=>cur.getD (off+i *k+j) undef) rfl h1 h2 (λ_=>⟨rfl,de b rfl,(ap6.1 hb).1⟩) Ip ?_ ?_
  ·simp_all[World.cell?,Array.getD]
  ·intro i j x y hx hy;have hj:j<k:=by grind
   have kF:=(apQ.1 hx).1;have ay:=iY i j kF hj;have:=h6 i j _ (.d y) (cur[off+i *k+j]) (ke i x hx) (by grind) (aqf ay);have h7:=this.lg;have e:cur.getD (off+i *k+j) undef=cur[off+i *k+j]:=by simp_all
   rw[e];exact h7.mono (bK.refl w _) (λb _ hb=>hO b hb)
def JZ(h:Nat)(y:V):aH->aH
 | []=> []
 | (i,r)::l=>if i=h then JZ h y l else(i,aV.fM h y r)::JZ h y l
theorem SH h y:∀L:aH,JZ h y L=(L.filter λp=>p.1 !=h).map λp=>(p.1,p.2.fM h y)
 | []=>rfl
 | (i,r)::l=>by
   rw[JZ,SH h y l];by_cases hi:i=h<;>simp[hi]
theorem Wk.adX h{ty}{k}{ys} y'(nw:∀(w:World) O v,eX w O v (.sl ys)→eX w O v y')(hl:s.L.lookup h=some (.row ty k (dd ys))):
  Wk n s ⟨s.fr.map λp=>(p.1,V.fM h (.d y') p.2),(s.L.filter λp=>p.1 !=h).map λp=>(p.1,p.2.fM h (.d y'))⟩:=by
 intro fo m a w g
 let m':=λi=>if i=h then none else m i
 have J0:∀i x,m' i=some x->m i=some x/\i≠h:=by
  grind
 have aa4:∀i x,i≠h->m i=some x->m' i=some x:=by
  grind
 have fb:∀b,Ab.own m' b->Ab.own m b:=by
  rintro b ⟨i,x,hx,hb⟩;exact⟨i,x,(J0 i x hx).1,hb⟩
 have oY:∀b,OO fo m' b->OO fo m b:=λb hb=>hb.imp (fb b) id
 have hi:=g.inv;have hy:∀v,m h=some v->az w (OO fo m') m' v (.d y'):=by
  intro v hv;refine .d _ _ (nw _ _ _ (Lh hi hl hv oY ?_));rintro b hb (⟨i,x,hx,de⟩|hf)
  ·have:=hi.apart h i v x b hv (J0 i x hx).1 hb de;grind
  ·exact hi.others h v b hv hb hf
 refine⟨m',⟨g.size,?_,⟨?_,?_,?_,?_,hi.ei,?_,hi.ef.mono (bK.refl w _) (λb _ hb=>oY b hb)⟩,g.defers⟩,⟨rfl,rfl,rfl,apU _,λ_ _ _=>rfl,λb _ hb=>fb b hb⟩⟩
 ·intro t x hx;obtain⟨p,hp,e⟩:=apV.1 hx;cases e;obtain⟨h1,h2⟩:=g.fr p.1 p.2 hp;exact⟨h1,h2.fM oY aa4 hy⟩
 ·have:keys ((s.L.filter λp=>p.1 !=h).map λp=>(p.1,p.2.fM h (.d y')))=(keys s.L).filter λi=>i !=h:=by
   simp[keys,arc,List.filter_map];rfl
  rw[this];exact hi.nodup.filter _
 ·intro i x hx;obtain⟨h1,h2⟩:=J0 i x hx;have:=hi.fI i x h1;simp_all
 ·intro i i' x x' b hx cy hb de;exact hi.apart i i' x x' b (J0 i x hx).1 (J0 i' x' cy).1 hb de
 ·intro i x b hx hb;exact hi.others i x b (J0 i x hx).1 hb
 ·intro i r hr;obtain⟨p,hp,e⟩:=apV.1 hr;cases e;obtain⟨nz,qi⟩:=aq0.1 hp;obtain⟨x,hx,hh⟩:=hi.holds p.1 p.2 nz;exact⟨x,aa4 _ _ (by grind) hx,hh.fM oY aa4 hy⟩
theorem Wk.freeze h{ty}{k}{ys}(hl:s.L.lookup h=some (.row ty k (dd ys))):
  Wk n s ⟨s.fr.map λp=>(p.1,V.fM h (.d (.sl ys)) p.2),JZ h (.d (.sl ys)) s.L⟩:=by
 rw[SH];exact Wk.adX h _ (λ_ _ _ h=>h) hl
theorem eX.nn{w O x y}(h:eX w O x y):eX w O x y.nn:=by
 unfold D.nn;split
 ·cases h;exact xm
 omega
attribute [simp] V.fM V.mC aV.fM JZ D.nn
end
end Go.Ab
